/- The walk of the law's awake: it returns true. -/
import Derived.Test.YtdbijjiolknbfaaDoorMake
namespace Go.Proofs.YtdbijjiolknbfaaDoor
open Go.RowKit Pl

theorem q1 : makeE 0 [] [[], []] = ([48, 48, 48, 48, 48, 48, 48, 48, 48, 48, 48, 48, 48, 48, 48, 98, 32, 10, 48, 48, 48, 48, 48, 98, 48, 48, 48, 48, 48, 48, 49, 50, 98, 99, 32, 10], 0) := by decide +kernel
theorem q2 : appendL [48, 48, 48, 48, 48, 48, 48, 48, 48, 48, 48, 48, 48, 48, 48, 98, 32, 10] [] = ([48, 48, 48, 48, 48, 48, 48, 48, 48, 48, 48, 48, 48, 48, 48, 98, 32, 10, 48, 48, 48, 48, 48, 98, 48, 48, 48, 48, 48, 48, 49, 50, 98, 99, 32, 10], 0) := by decide +kernel
theorem q3 : (read [48, 48, 48, 48, 48, 48, 48, 48, 48, 48, 48, 48, 48, 48, 48, 98, 32, 10, 48, 48, 48, 48, 48, 48, 48, 48, 48, 48, 48, 48, 48, 48, 48, 98, 32, 10]).n = 18 ∧ (read [48, 48, 48, 48, 48, 48, 48, 48, 48, 48, 48, 48, 48, 48, 48, 98, 32, 10, 48, 48, 48, 48, 48, 48, 48, 48, 48, 48, 48, 48, 48, 48, 48, 98, 32, 10]).err = 19 ∧ (read [48, 48, 48, 48, 48, 48, 48, 48, 48, 48, 48, 48, 48, 48, 48, 98, 32, 10, 48, 48, 48, 48, 48, 48, 48, 48, 48, 48, 48, 48, 48, 48, 48, 98, 32, 10]).entries = [[]] := by decide +kernel
theorem q4 : (read [48, 48, 48, 48, 48, 48, 48, 48, 48, 48, 48, 48, 48, 48, 48, 98, 32, 10, 48, 48, 48, 48, 48, 48, 48, 48, 48, 48, 48, 48, 48, 48, 48, 98, 32]).n = 18 ∧ (read [48, 48, 48, 48, 48, 48, 48, 48, 48, 48, 48, 48, 48, 48, 48, 98, 32, 10, 48, 48, 48, 48, 48, 48, 48, 48, 48, 48, 48, 48, 48, 48, 48, 98, 32]).err = 4 ∧ (read [48, 48, 48, 48, 48, 48, 48, 48, 48, 48, 48, 48, 48, 48, 48, 98, 32, 10, 48, 48, 48, 48, 48, 48, 48, 48, 48, 48, 48, 48, 48, 48, 48, 98, 32]).entries = [[]] := by decide +kernel
theorem q5 : appendL [] [127] = ([], 2) := by decide +kernel
theorem lb_inj : ∀ {a b : List ByteArray}, lb a = lb b → a = b
  | [], [], _ => rfl
  | [], _ :: _, h => by simp [lb] at h
  | _ :: _, [], h => by simp [lb] at h
  | x :: a, y :: b, h => by
    have h2 : x.data.toList = y.data.toList ∧ lb a = lb b := by unfold lb at h ⊢; simp only [List.map_cons, List.cons.injEq] at h; exact h
    rw [bytes_eq h2.1, lb_inj h2.2]
theorem one_empty {es : List ByteArray} (h : lb es = [[]]) : es = [⟨#[]⟩] := by
  refine lb_inj ?_
  rw [h]; rfl

/-- Read of a string whose one entry is empty. -/
def ROne (n er : Nat) (w : World) (e : Ending) (w' : World) : Prop := ∃ A c, e = .returned (.tuple #[.slice A 1 c, .int .i64 (n : Int), .int .i64 (er : Int)]) ∧ Strs w' A [⟨#[]⟩] ∧ Below w.heap.size w w'
theorem rone {s : ByteArray} {l : List UInt8} {n er : Nat} (hl : s.data.toList = l) (hs : s.size ≤ maxLen) (h : (read l).n = n ∧ (read l).err = er ∧ (read l).entries = [[]]) (w : World) (ht : Tab w) : Calls Tryd.prog 19 #[.string s] w (ROne n er w) := by
  refine (readj_any s hs w ht).mono ?_
  rintro e w' ⟨A, c, es, rfl, h1, h2, _, _, _, hb⟩
  rw [hl] at h2 ⊢
  rw [h.2.2] at h2
  obtain rfl := one_empty h2
  rw [h.1, h.2.1]
  exact ⟨A, c, rfl, h1, hb⟩

set_option maxRecDepth 100000 in
set_option maxHeartbeats 2000000 in
theorem awake_any (w : World) (ht : Tab w) : Calls Tryd.prog 18 #[] w fun e w' => e = .returned (.bool true) ∧ Below w.heap.size w w' := by
  have HT := Lib.hid ht
  clear ht
  go_enter Tryd.func18, Tryd.ntmps18
  go_wp2_with fail
  have hs2 := strs_two w ⟨#[]⟩ ⟨#[]⟩ (by decide) (by decide)
  have HB0 := Lib.hid ((Below.refl w.heap.size w).alloc (Nat.le_refl _) (.cells #[.string ⟨#[]⟩, .string ⟨#[]⟩] 9))
  refine (make_any [⟨#[]⟩, ⟨#[]⟩] _ 2 _ (by intro s hs; simp at hs; subst hs; decide) hs2 (HT.out.on HB0.out)).mono ?_
  rw [show lb [⟨#[]⟩, ⟨#[]⟩] = [[], []] from rfl, q1]
  rintro e w1 ⟨rfl, hb1⟩
  have HB1 := Lib.hid (HB0.out.trans (hb1.mono HB0.out.size))
  clear hb1 hs2
  go_wp2_with fail
  refine (append_any _ _ (by decide) (by decide) _ (HT.out.on HB1.out)).mono ?_
  rw [show appendL _ _ = _ from q2]
  rintro e w2 ⟨rfl, hb2⟩
  have HB2 := Lib.hid (HB1.out.trans (hb2.mono HB1.out.size))
  clear hb2
  go_wp2_with fail
  refine (rone rfl (by decide) q3 _ (HT.out.on HB2.out)).mono ?_
  rintro e w3 ⟨A3, c3, rfl, hS3, hb3⟩
  have HS3 := Lib.hid hS3
  have HB3 := Lib.hid (HB2.out.trans (hb3.mono HB2.out.size))
  clear hb3 hS3
  go_wp2_with fail
  refine (rone rfl (by decide) q4 _ (HT.out.on HB3.out)).mono ?_
  rintro e w4 ⟨A4, c4, rfl, hS4, hb4⟩
  have HS4 := Lib.hid hS4
  have HS3b := Lib.hid (HS3.out.keep hb4)
  have HB4 := Lib.hid (HB3.out.trans (hb4.mono HB3.out.size))
  clear hb4 hS4
  go_wp2_with fail
  refine (append_any _ _ (by decide) (by decide) _ (HT.out.on HB4.out)).mono ?_
  rw [show appendL _ _ = _ from q5]
  rintro e w5 ⟨rfl, hb5⟩
  have HS3c := Lib.hid (HS3b.out.keep hb5)
  have HS4c := Lib.hid (HS4.out.keep hb5)
  have HB5 := Lib.hid (HB4.out.trans (hb5.mono HB4.out.size))
  clear hb5
  go_wp2_with fail
  have HK6 := Lib.hid ((Below.refl w5.heap.size w5).alloc (Nat.le_refl _) (.cells #[.string ⟨#[]⟩] 9))
  refine (same_any [⟨#[]⟩] [⟨#[]⟩] A3 _ c3 1 _ (HS3c.out.keep HK6.out) (strs_one w5 ⟨#[]⟩ (by decide))).mono ?_
  rintro e w6 ⟨rfl, m6, rfl⟩
  have HK6b := Lib.hid (HK6.out.trans ((below_drewN (w5.alloc (.cells #[.string ⟨#[]⟩] 9)) m6).mono HK6.out.size))
  have HS4d := Lib.hid (HS4c.out.keep HK6b.out)
  have HB6 := Lib.hid (HB5.out.trans (HK6b.out.mono HB5.out.size))
  rw [decide_eq_true (by rfl)]
  generalize (w5.alloc (.cells #[.string ⟨#[]⟩] 9)).drewN m6 = W at *
  go_wp2_with fail
  have HK7 := Lib.hid ((Below.refl W.heap.size W).alloc (Nat.le_refl _) (.cells #[.string ⟨#[]⟩] 9))
  refine (same_any [⟨#[]⟩] [⟨#[]⟩] A4 _ c4 1 _ (HS4d.out.keep HK7.out) (strs_one W ⟨#[]⟩ (by decide))).mono ?_
  rintro e w7 ⟨rfl, m7, rfl⟩
  have HK7b := Lib.hid (HK7.out.trans ((below_drewN (W.alloc (.cells #[.string ⟨#[]⟩] 9)) m7).mono HK7.out.size))
  have HB7 := Lib.hid (HB6.out.trans (HK7b.out.mono HB6.out.size))
  rw [decide_eq_true (by rfl)]
  generalize (W.alloc (.cells #[.string ⟨#[]⟩] 9)).drewN m7 = W2 at *
  go_wp2_with fail
  go_returns
  exact ⟨rfl, HB7.out⟩
theorem awake_from {w w' : World} (ht : Tab w) (hb : Below w.heap.size w w') : Calls Tryd.prog 18 #[] w' fun e w'' => e = .returned (.bool true) ∧ Below w.heap.size w w'' :=
  (awake_any w' (ht.on hb)).mono fun _ _ h => ⟨h.1, hb.trans (h.2.mono hb.size)⟩

/-! ### JournalReads -/
set_option maxRecDepth 100000 in
set_option maxHeartbeats 2000000 in
theorem jreads_any (s : ByteArray) (w : World) (hs : s.size ≤ maxLen) (ht : Tab w) : Calls Tryd.prog 13 #[.string s] w (Yes w) := by
  have HT := Lib.hid ht
  have CR := Lib.hid (readj_any s hs w ht)
  have CF := Lib.hid (fun w' => rread_any s hs w')
  unfold maxLen at hs
  generalize read s.data.toList = r at *
  clear ht
  by_cases h1 : 3000 < s.size ∧ s.size ≤ 20000
  · obtain ⟨h1, h2⟩ := h1
    go_enter Tryd.func13, Tryd.ntmps13
    go_wp2_with fail
    refine (awake_from HT.out (Below.refl _ _)).mono ?_
    rintro e w1 ⟨rfl, hb1⟩
    go_wp2_with fail
    go_returns
    exact ⟨rfl, hb1⟩
  · have hways : s.size ≤ 3000 ∨ 20000 < s.size := by omega
    clear h1
    rcases hways with h1 | h1
    all_goals
      go_enter Tryd.func13, Tryd.ntmps13
      go_wp2_with fail
      refine CR.out.mono ?_
      rintro e w1 ⟨A1, c1, es1, rfl, hS1, hl1, _, _, _, hb1⟩
      have HB1 := Lib.hid hb1
      have HS1 := Lib.hid hS1
      have HL1 := Lib.hid hl1
      clear hb1 hS1 hl1
      go_wp2_with fail
      refine (CF.out _).mono ?_
      rintro e w2 ⟨A2, c2, es2, rfl, hS2, hl2, _, _, _, hb2⟩
      have HE : Hid (decide (es1 = es2) = true) := by
        show _ = true
        rw [decide_eq_true_iff]; exact lb_inj (HL1.out.trans hl2.symm)
      have CS := Lib.hid (same_any es1 es2 A1 A2 c1 c2 w2 (HS1.out.keep hb2) hS2)
      rw [HE.out] at CS
      have HB2 := Lib.hid (HB1.out.trans (hb2.mono HB1.out.size))
      clear hb2 hS2 hl2 HE
      go_wp2_with fail
      refine CS.out.mono ?_
      rintro e w3 ⟨rfl, m3, rfl⟩
      have HB3 := Lib.hid (HB2.out.trans ((below_drewN w2 m3).mono HB2.out.size))
      go_wp2_with fail
      refine (awake_from HT.out HB3.out).mono ?_
      rintro e w4 ⟨rfl, hb4⟩
      go_wp2_with fail
      go_returns
      exact ⟨rfl, hb4⟩
end Go.Proofs.YtdbijjiolknbfaaDoor
