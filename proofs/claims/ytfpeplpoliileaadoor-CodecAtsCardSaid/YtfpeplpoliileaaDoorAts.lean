/- The walk of CodecAts: it returns true. -/
import Derived.Test.YtfpeplpoliileaaDoorUnique
import Derived.Test.YtfpeplpoliileaaDoorRefAt
namespace Go.Proofs.YtfpeplpoliileaaDoor
open Go.RowKit Pl

set_option maxHeartbeats 400000 in
theorem ats_any (t : Tr) (v : Value) (P : Option Addr) (cp : Nat) (zs : List Int) (w : World) (ha : Lies anyB w t v) (hp : Ints w P zs) (htab : TabB w.heap.size w) :
    Calls Tryd.prog 4 #[v, .slice P zs.length cp] w (Yes w) := by
  obtain ⟨tl, sa, A, tn, ca, rfl⟩ := lies_shape ha
  have HA := Lib.hid ha
  have HP := Lib.hid hp
  have HTB := Lib.hid htab
  have hbox := Lib.hid (Blk.new w 25 #[.bool tl, .string sa, .slice A tn ca])
  have HB0 := Lib.hid ((Below.refl w.heap.size w).alloc (Nat.le_refl _) (.cells #[.bool tl, .string sa, .slice A tn ca] 25))
  clear ha hp htab
  by_cases hsm : size t ≤ 21000
  · have HSM : Hid (decide (size t ≤ 21000) = true) := decide_eq_true hsm
    generalize hra : resAt t zs = ra
    obtain ⟨ta, na⟩ := ra
    have HRA := Lib.hid hra
    clear hra
    have hnn : (((na : Nat) : Int) == (na : Nat)) = true := by simp
    go_enter Tryd.func4, Tryd.ntmps4
    go_wp2_with fail
    refine (small_any t _ _ (HA.out.below HB0.out)).mono ?_
    rw [HSM.out]
    rintro e w1 ⟨rfl, hb1⟩
    have HB1 := Lib.hid (HB0.out.trans (hb1.mono (by simp)))
    obtain ⟨⟨c0, c1, c2⟩, _⟩ := (hbox.out.below hb1 (by simp)).three
    have hbx1 := Lib.hid (hbox.out.below hb1 (by simp))
    clear hb1
    go_wp2_with fail
    refine (at_any t _ P cp zs _ (HA.out.below HB1.out) (HP.out.keep HB1.out) (by omega)).mono ?_
    rw [HRA.out]
    rintro e w2 ⟨v2, rfl, hL2, hb2⟩
    obtain ⟨l2, s2, A2, n2, c2', rfl⟩ := lies_shape hL2
    have HB2 := Lib.hid (HB1.out.trans (hb2.mono HB1.out.size))
    have hbx2 := Lib.hid (hbx1.out.below hb2 hbx1.out.lt)
    have HL2 := Lib.hid (hL2.below ((Below.refl _ _).alloc (Nat.le_refl _) (.cells #[.bool l2, .string s2, .slice A2 n2 c2'] 25)))
    have HB3 := Lib.hid (HB2.out.alloc HB2.out.size (.cells #[.bool l2, .string s2, .slice A2 n2 c2'] 25))
    have hbn2 := Lib.hid (Blk.new w2 25 #[.bool l2, .string s2, .slice A2 n2 c2'])
    have hbx3 := Lib.hid (hbx2.out.alloc (.cells #[.bool l2, .string s2, .slice A2 n2 c2'] 25))
    obtain ⟨⟨y0, y1, y2⟩, _⟩ := hbx3.out.three
    clear hL2 hb2
    go_wp2_with fail
    refine (refAt_any t _ P cp zs _ (HA.out.below HB3.out) (HP.out.keep HB3.out)).mono ?_
    rw [HRA.out]
    rintro e w3 ⟨v3, rfl, hL3, hb3⟩
    obtain ⟨l3, s3, A3, n3, c3, rfl⟩ := lies_shape hL3
    have HB4 := Lib.hid (HB3.out.trans (hb3.mono HB3.out.size))
    have HL4 := Lib.hid (HL2.out.below hb3)
    have hbn3 := Lib.hid (hbn2.out.below hb3 hbn2.out.lt)
    have HL3 := Lib.hid (hL3.below ((Below.refl _ _).alloc (Nat.le_refl _) (.cells #[.bool l3, .string s3, .slice A3 n3 c3] 25)))
    have HL5 := Lib.hid (HL4.out.below ((Below.refl _ _).alloc (Nat.le_refl _) (.cells #[.bool l3, .string s3, .slice A3 n3 c3] 25)))
    have HB5 := Lib.hid (HB4.out.alloc HB4.out.size (.cells #[.bool l3, .string s3, .slice A3 n3 c3] 25))
    obtain ⟨⟨z0, z1, z2⟩, _⟩ := (hbn3.out.alloc (.cells #[.bool l3, .string s3, .slice A3 n3 c3] 25)).three
    clear hL3 hb3
    go_wp2_with fail
    refine (same_any ta ta _ _ _ HL5.out HL3.out).mono ?_
    rw [eqT_true rfl]
    rintro e w4 ⟨rfl, hb4⟩
    have HB6 := Lib.hid (HB5.out.trans (hb4.mono HB5.out.size))
    clear hb4
    go_wp2_with fail
    refine (example_from HTB.out HB6.out).mono ?_
    rintro e w5 ⟨rfl, hb5⟩
    go_wp2_with fail
    go_returns
    exact ⟨rfl, hb5⟩
  · have HSM : Hid (decide (size t ≤ 21000) = false) := decide_eq_false hsm
    go_enter Tryd.func4, Tryd.ntmps4
    go_wp2_with fail
    refine (small_any t _ _ (HA.out.below HB0.out)).mono ?_
    rw [HSM.out]
    rintro e w1 ⟨rfl, hb1⟩
    have HB1 := Lib.hid (HB0.out.trans (hb1.mono (by simp)))
    clear hb1
    go_wp2_with fail
    refine (example_from HTB.out HB1.out).mono ?_
    rintro e w5 ⟨rfl, hb5⟩
    go_wp2_with fail
    go_returns
    exact ⟨rfl, hb5⟩
end Go.Proofs.YtfpeplpoliileaaDoor
