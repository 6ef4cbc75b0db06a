/- The walks of the reference's Decode and of CodecDecodes: it returns true. -/
import Derived.Test.YtfpeplpoliileaaDoorRefNode
import Derived.Test.YtfpeplpoliileaaDoorUnique
namespace Go.Proofs.YtfpeplpoliileaaDoor
open Go.RowKit Pl

set_option maxHeartbeats 400000 in
theorem refDecode_any (s : ByteArray) (w : World) (hs : s.size ≤ maxLen) : Calls Tryd.prog 14 #[.string s] w (GivesTE (resDec s.data.toList).1 (resDec s.data.toList).2 w) := by
  unfold maxLen at hs
  have HB0 := Lib.hid ((Below.refl w.heap.size w).alloc (Nat.le_refl _) (.cells #[.bool false, .string ⟨#[]⟩, .slice none 0 0] 25))
  have hbox := Blk.new w 25 #[.bool false, .string ⟨#[]⟩, .slice none 0 0]
  have HBX := Lib.hid hbox
  clear hbox
  by_cases hbig : 20000 < s.size
  · rw [resDec_long (by rw [← Lib.size_eq]; exact hbig)]
    go_enter Tryd.func14, Tryd.ntmps14
    go_wp2_with fail
    refine bodyPost_ret (v := .tuple #[zeroV, .int .i64 5]) (by simp [results, Tryd.results14, go_sem, zeroV]) rfl ?_
    exact ⟨zeroV, rfl, lies_zero _ _, by go_grown⟩
  · have hnl : ¬ 20000 < s.data.toList.length := by rw [← Lib.size_eq]; exact hbig
    have h0 : s.data.toList.drop 0 = s.data.toList := List.drop_zero
    have HD0 := Lib.hid h0
    clear h0
    go_enter Tryd.func14, Tryd.ntmps14
    go_wp2_with fail
    refine (refNode_any 12 (Nat.le_refl _) s 0 1 _ (by omega) (by omega) (by omega)).mono ?_
    rw [HD0.out]
    cases hrn : rdNode 12 0 s.data.toList with
    | error n =>
      have HRES := Lib.hid (resDec_err hnl hrn)
      rintro e w1 ⟨hb1, hn, rfl⟩
      have hbz1 := (HBX.out.below hb1 (by simp)).alloc (.cells #[.bool false, .string ⟨#[]⟩, .slice none 0 0] 25)
      obtain ⟨⟨r0, r1, r2⟩, g0, g1, g2⟩ := hbz1.three
      have HB1 := Lib.hid ((HB0.out.trans (hb1.mono (by simp))).alloc (Nat.le_trans HB0.out.size hb1.size) (.cells #[.bool false, .string ⟨#[]⟩, .slice none 0 0] 25))
      have hnb : (((n : Nat) : Int) != 0) = true := by simp; omega
      clear hb1 hbz1 hrn hnl
      unfold zeroV
      go_wp2_with fail
      refine bodyPost_ret (v := .tuple #[zeroV, .int .i64 (n : Nat)]) (by simp [results, Tryd.results14, go_sem, r0, r1, r2, zeroV]) rfl ?_
      rw [HRES.out]
      exact ⟨zeroV, rfl, lies_zero _ _, below_set3 HB1.out (Nat.le_refl _) _ _ _⟩
    | ok tr =>
      obtain ⟨t, r⟩ := tr
      rintro e w1 ⟨hb1, v, q, rfl, hL, hdq, hq⟩
      obtain ⟨se, Ae, ce, rfl, _⟩ := hL.open_
      have hbz1 := (HBX.out.below hb1 (by simp)).alloc (.cells #[.bool t.list, .string se, .slice Ae t.kids.length ce] 25)
      obtain ⟨⟨r0, r1, r2⟩, g0, g1, g2⟩ := hbz1.three
      have HB1 := Lib.hid ((HB0.out.trans (hb1.mono (by simp))).alloc (Nat.le_trans HB0.out.size hb1.size) (.cells #[.bool t.list, .string se, .slice Ae t.kids.length ce] 25))
      have hb1s := hb1.size
      simp only [World.size_alloc] at hb1s
      have HL1 := Lib.hid (hL.below ((Below.refl _ _).alloc (Nat.le_refl _) (.cells #[.bool t.list, .string se, .slice Ae t.kids.length ce] 25)))
      clear hb1 hbz1 hL
      by_cases hr : r = []
      · subst hr
        have hqs : q = s.size := drop_nil hdq hq
        have HRES := Lib.hid (resDec_ok hnl hrn)
        have hlt : ¬ (q : Int) < (s.size : Int) := by omega
        clear hrn hnl hdq hqs
        go_wp2_with fail
        refine bodyPost_ret (v := .tuple #[.agg #[.bool t.list, .string se, .slice Ae t.kids.length ce], .int .i64 0]) (by simp [results, Tryd.results14, go_sem, r0, r1, r2]) rfl ?_
        rw [HRES.out]
        refine ⟨_, rfl, ?_, below_set3 HB1.out (Nat.le_refl _) _ _ _⟩
        refine Lies.to (fun g hg _ => ⟨?_, trivial⟩) _ _ HL1.out
        simp only [World.size_alloc] at hg
        rw [set_far _ _ _ _ _ (by omega), set_far _ _ _ _ _ (by omega), set_far _ _ _ _ _ (by omega)]
      · have hlt : (q : Int) < (s.size : Int) := by
          have h1 : s.data.toList.drop q ≠ [] := by rw [hdq]; exact hr
          have h2 : q < s.data.toList.length := by
            apply Classical.byContradiction; intro hx; exact h1 (List.drop_of_length_le (by omega))
          rw [← Lib.size_eq] at h2; omega
        have HRES := Lib.hid (resDec_more hnl hrn hr)
        clear hrn hnl hdq
        go_wp2_with fail
        refine bodyPost_ret (v := .tuple #[zeroV, .int .i64 2]) (by simp [results, Tryd.results14, go_sem, r0, r1, r2, zeroV]) rfl ?_
        rw [HRES.out]
        exact ⟨zeroV, rfl, lies_zero _ _, below_set3 HB1.out (Nat.le_refl _) _ _ _⟩

set_option maxHeartbeats 400000 in
theorem decodes_any (s : ByteArray) (w : World) (hs : s.size ≤ maxLen) (htab : TabB w.heap.size w) : Calls Tryd.prog 3 #[.string s] w (Yes w) := by
  have HS := Lib.hid hs
  have HTB := Lib.hid htab
  clear htab
  unfold maxLen at hs
  by_cases hbig : 21000 < s.size
  · go_enter Tryd.func3, Tryd.ntmps3
    go_wp2_with fail
    refine (example_from HTB.out (Below.refl _ _)).mono ?_
    rintro e w1 ⟨rfl, hb1⟩
    go_wp2_with fail
    go_returns
    exact ⟨rfl, hb1⟩
  · generalize hra : resDec s.data.toList = ra
    obtain ⟨ta, na⟩ := ra
    have HRA := Lib.hid hra
    clear hra
    have hnn : (((na : Nat) : Int) == (na : Nat)) = true := by simp
    go_enter Tryd.func3, Tryd.ntmps3
    go_wp2_with fail
    refine (decode_any s _ HS.out).mono ?_
    rw [HRA.out]
    rintro e w2 ⟨v2, rfl, hL2, HB2⟩
    obtain ⟨l2, s2, A2, n2, c2', rfl⟩ := lies_shape hL2
    have HL2 := Lib.hid (hL2.below ((Below.refl _ _).alloc (Nat.le_refl _) (.cells #[.bool l2, .string s2, .slice A2 n2 c2'] 25)))
    have HB3 := Lib.hid (HB2.alloc HB2.size (.cells #[.bool l2, .string s2, .slice A2 n2 c2'] 25))
    have hbn2 := Lib.hid (Blk.new w2 25 #[.bool l2, .string s2, .slice A2 n2 c2'])
    clear hL2 HB2
    go_wp2_with fail
    refine (refDecode_any s _ HS.out).mono ?_
    rw [HRA.out]
    rintro e w3 ⟨v3, rfl, hL3, hb3⟩
    obtain ⟨l3, s3, A3, n3, c3, rfl⟩ := lies_shape hL3
    have HB4 := Lib.hid (HB3.out.trans (hb3.mono HB3.out.size))
    have HL4 := Lib.hid (HL2.out.below hb3)
    have hbn3 := Lib.hid (hbn2.out.below hb3 hbn2.out.lt)
    have HL3 := Lib.hid (hL3.below ((Below.refl _ _).alloc (Nat.le_refl _) (.cells #[.bool l3, .string s3, .slice A3 n3 c3] 25)))
    have HL5 := Lib.hid (HL4.out.below ((Below.refl _ _).alloc (Nat.le_refl _) (.cells #[.bool l3, .string s3, .slice A3 n3 c3] 25)))
    have HB5 := Lib.hid (HB4.out.alloc HB4.out.size (.cells #[.bool l3, .string s3, .slice A3 n3 c3] 25))
    obtain ⟨⟨z0, z1, z2⟩, _⟩ := (hbn3.out.alloc (.cells #[.bool l3, .string s3, .slice A3 n3 c3] 25)).three
    clear hL3 hb3
    go_wp2_with fail
    refine (same_any ta ta _ _ _ HL5.out HL3.out).mono ?_
    rw [eqT_true rfl]
    rintro e w4 ⟨rfl, hb4⟩
    have HB6 := Lib.hid (HB5.out.trans (hb4.mono HB5.out.size))
    clear hb4
    go_wp2_with fail
    refine (example_from HTB.out HB6.out).mono ?_
    rintro e w5 ⟨rfl, hb5⟩
    go_wp2_with fail
    go_returns
    exact ⟨rfl, hb5⟩
end Go.Proofs.YtfpeplpoliileaaDoor
