/- The walk of CodecEncodes: it returns true. -/
import Derived.Test.YtfpeplpoliileaaDoorRefEncode
namespace Go.Proofs.YtfpeplpoliileaaDoor
open Go.RowKit Pl

set_option maxHeartbeats 400000 in
theorem encodes_any (t : Tr) (v : Value) (w : World) (ha : Lies anyB w t v) (htab : TabB w.heap.size w) : Calls Tryd.prog 11 #[v] w (Yes w) := by
  obtain ⟨tl, sa, A, tn, ca, rfl⟩ := lies_shape ha
  have HA := Lib.hid ha
  have HTB := Lib.hid htab
  have hbox := Lib.hid (Blk.new w 25 #[.bool tl, .string sa, .slice A tn ca])
  have HB0 := Lib.hid ((Below.refl w.heap.size w).alloc (Nat.le_refl _) (.cells #[.bool tl, .string sa, .slice A tn ca] 25))
  clear ha htab
  by_cases hsm : size t ≤ 21000
  · have HSM : Hid (decide (size t ≤ 21000) = true) := decide_eq_true hsm
    generalize hra : resEnc t = ra
    obtain ⟨la, na⟩ := ra
    have HRA := Lib.hid hra
    clear hra
    have hnn : (((na : Nat) : Int) == (na : Nat)) = true := by simp
    go_enter Tryd.func11, Tryd.ntmps11
    go_wp2_with fail
    refine (small_any t _ _ (HA.out.below HB0.out)).mono ?_
    rw [HSM.out]
    rintro e w1 ⟨rfl, hb1⟩
    have HB1 := Lib.hid (HB0.out.trans (hb1.mono (by simp)))
    obtain ⟨⟨c0, c1, c2⟩, _⟩ := (hbox.out.below hb1 (by simp)).three
    have hbx1 := Lib.hid (hbox.out.below hb1 (by simp))
    clear hb1
    go_wp2_with fail
    refine (encode_any t _ _ (HA.out.below HB1.out) (by omega) ((HTB.out.on HB1.out).mono HB1.out.size)).mono ?_
    rw [HRA.out]
    rintro e w2 ⟨sb, rfl, hsb, hb2⟩
    have HB2 := Lib.hid (HB1.out.trans (hb2.mono HB1.out.size))
    obtain ⟨⟨y0, y1, y2⟩, _⟩ := (hbx1.out.below hb2 hbx1.out.lt).three
    have HSB := Lib.hid hsb
    clear hsb hb2
    go_wp2_with fail
    refine (refEncode_any t _ _ (HA.out.below HB2.out) (by omega) ((HTB.out.on HB2.out).mono HB2.out.size)).mono ?_
    rw [HRA.out]
    rintro e w3 ⟨sc, rfl, hsc, hb3⟩
    have HB3 := Lib.hid (HB2.out.trans (hb3.mono HB2.out.size))
    have heq : (sb.toList == sc.toList) = true := by rw [Lib.toList_data, Lib.toList_data, HSB.out, hsc]; simp
    clear hsc hb3
    go_wp2_with fail
    refine (example_from HTB.out HB3.out).mono ?_
    rintro e w5 ⟨rfl, hb5⟩
    go_wp2_with fail
    go_returns
    exact ⟨rfl, hb5⟩
  · have HSM : Hid (decide (size t ≤ 21000) = false) := decide_eq_false hsm
    go_enter Tryd.func11, Tryd.ntmps11
    go_wp2_with fail
    refine (small_any t _ _ (HA.out.below HB0.out)).mono ?_
    rw [HSM.out]
    rintro e w1 ⟨rfl, hb1⟩
    have HB1 := Lib.hid (HB0.out.trans (hb1.mono (by simp)))
    clear hb1
    go_wp2_with fail
    refine (example_from HTB.out HB1.out).mono ?_
    rintro e w5 ⟨rfl, hb5⟩
    go_wp2_with fail
    go_returns
    exact ⟨rfl, hb5⟩
end Go.Proofs.YtfpeplpoliileaaDoor
