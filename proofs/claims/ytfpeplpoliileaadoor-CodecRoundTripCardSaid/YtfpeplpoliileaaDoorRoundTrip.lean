/- The walk of CodecRoundTrip: it returns true. -/
import Derived.Test.YtfpeplpoliileaaDoorUnique
namespace Go.Proofs.YtfpeplpoliileaaDoor
open Go.RowKit Pl

theorem resDec_of_encode {t : Tr} {s : List UInt8} (h : Pl.encode t = .ok s) : resDec s = (t, 0) := by unfold resDec; rw [decode_encode h]

/-- The data of a string that an encoding gave is at most 20000 bytes long. -/
theorem encode_short {t : Tr} {s : List UInt8} (h : Pl.encode t = .ok s) : s.length ≤ 20000 := (encode_ok h).2.2

set_option maxHeartbeats 400000 in
theorem roundTrip_any (t : Tr) (v : Value) (w : World) (ha : Lies anyB w t v) (htab : TabB w.heap.size w) : Calls Tryd.prog 5 #[v] w (Yes w) := by
  obtain ⟨tl, sa, A, tn, ca, rfl⟩ := lies_shape ha
  have HA := Lib.hid ha
  have HTB := Lib.hid htab
  have hbox := Lib.hid (Blk.new w 25 #[.bool tl, .string sa, .slice A tn ca])
  have HB0 := Lib.hid ((Below.refl w.heap.size w).alloc (Nat.le_refl _) (.cells #[.bool tl, .string sa, .slice A tn ca] 25))
  clear ha htab
  by_cases hsm : size t ≤ 21000
  · have HSM : Hid (decide (size t ≤ 21000) = true) := decide_eq_true hsm
    rcases resEnc_cases t with ⟨l, hre, hen⟩ | ⟨n, hre, hn, _⟩
    · have HRE := Lib.hid hre
      have HRD := Lib.hid (resDec_of_encode hen)
      have hll := encode_short hen
      clear hre hen
      go_enter Tryd.func5, Tryd.ntmps5
      go_wp2_with fail
      refine (small_any t _ _ (HA.out.below HB0.out)).mono ?_
      rw [HSM.out]
      rintro e w1 ⟨rfl, hb1⟩
      have HB1 := Lib.hid (HB0.out.trans (hb1.mono (by simp)))
      obtain ⟨⟨c0, c1, c2⟩, _⟩ := (hbox.out.below hb1 (by simp)).three
      have hbx1 := Lib.hid (hbox.out.below hb1 (by simp))
      clear hb1
      go_wp2_with fail
      refine (encode_any t _ _ (HA.out.below HB1.out) (by omega) ((HTB.out.on HB1.out).mono HB1.out.size)).mono ?_
      rw [HRE.out]
      rintro e w2 ⟨sb, rfl, hsb, hb2⟩
      have HB2 := Lib.hid (HB1.out.trans (hb2.mono HB1.out.size))
      have hbx2 := Lib.hid (hbx1.out.below hb2 hbx1.out.lt)
      have HSB := Lib.hid hsb
      have hsbl : sb.size ≤ 20000 := by rw [Lib.size_eq, hsb]; exact hll
      clear hsb hb2
      go_wp2_with fail
      refine (decode_any sb _ (by unfold maxLen; omega)).mono ?_
      rw [HSB.out, HRD.out]
      rintro e w3 ⟨v3, rfl, hL3, hb3⟩
      obtain ⟨l3, s3, A3, n3, c3, rfl⟩ := lies_shape hL3
      have HB3 := Lib.hid (HB2.out.trans (hb3.mono HB2.out.size))
      have hbx3 := Lib.hid (hbx2.out.below hb3 hbx2.out.lt)
      have HL3 := Lib.hid (hL3.below ((Below.refl _ _).alloc (Nat.le_refl _) (.cells #[.bool l3, .string s3, .slice A3 n3 c3] 25)))
      have HB4 := Lib.hid (HB3.out.alloc HB3.out.size (.cells #[.bool l3, .string s3, .slice A3 n3 c3] 25))
      obtain ⟨y0, y1, y2, _⟩ := hbx3.out.later
      clear hL3 hb3
      go_wp2_with fail
      refine (same_any t t _ _ _ HL3.out (HA.out.below HB4.out)).mono ?_
      rw [eqT_true rfl]
      rintro e w4 ⟨rfl, hb4⟩
      have HB5 := Lib.hid (HB4.out.trans (hb4.mono HB4.out.size))
      clear hb4
      go_wp2_with fail
      refine (example_from HTB.out HB5.out).mono ?_
      rintro e w5 ⟨rfl, hb5⟩
      go_wp2_with fail
      go_returns
      exact ⟨rfl, hb5⟩
    · have HRE := Lib.hid hre
      have hnb : (((n : Nat) : Int) != 0) = true := by simp; omega
      clear hre
      go_enter Tryd.func5, Tryd.ntmps5
      go_wp2_with fail
      refine (small_any t _ _ (HA.out.below HB0.out)).mono ?_
      rw [HSM.out]
      rintro e w1 ⟨rfl, hb1⟩
      have HB1 := Lib.hid (HB0.out.trans (hb1.mono (by simp)))
      obtain ⟨⟨c0, c1, c2⟩, _⟩ := (hbox.out.below hb1 (by simp)).three
      clear hb1
      go_wp2_with fail
      refine (encode_any t _ _ (HA.out.below HB1.out) (by omega) ((HTB.out.on HB1.out).mono HB1.out.size)).mono ?_
      rw [HRE.out]
      rintro e w2 ⟨sb, rfl, hsb, hb2⟩
      have HB2 := Lib.hid (HB1.out.trans (hb2.mono HB1.out.size))
      have hsbt : sb.toList.isEmpty = true := by rw [Lib.toList_data, hsb]; rfl
      have hsbt2 : sb.toList = [] := by rw [Lib.toList_data, hsb]
      clear hsb hb2
      go_wp2_with fail
      refine (example_from HTB.out HB2.out).mono ?_
      rintro e w5 ⟨rfl, hb5⟩
      go_wp2_with fail
      go_returns
      exact ⟨rfl, hb5⟩
  · have HSM : Hid (decide (size t ≤ 21000) = false) := decide_eq_false hsm
    go_enter Tryd.func5, Tryd.ntmps5
    go_wp2_with fail
    refine (small_any t _ _ (HA.out.below HB0.out)).mono ?_
    rw [HSM.out]
    rintro e w1 ⟨rfl, hb1⟩
    have HB1 := Lib.hid (HB0.out.trans (hb1.mono (by simp)))
    clear hb1
    go_wp2_with fail
    refine (example_from HTB.out HB1.out).mono ?_
    rintro e w5 ⟨rfl, hb5⟩
    go_wp2_with fail
    go_returns
    exact ⟨rfl, hb5⟩
end Go.Proofs.YtfpeplpoliileaaDoor
