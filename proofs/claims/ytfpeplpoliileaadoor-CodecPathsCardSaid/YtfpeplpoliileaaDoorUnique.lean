/- The walk of CodecUnique: it returns true. -/
import Derived.Test.YtfpeplpoliileaaDoorExample
import Derived.Test.YtfpeplpoliileaaDoorMore
namespace Go.Proofs.YtfpeplpoliileaaDoor
open Go.RowKit Pl

/-- The law returns true; what was there is as it was. -/
def Yes (w : World) (e : Ending) (w' : World) : Prop := e = .returned (.bool true) ∧ Below w.heap.size w w'

/-- exampleHolds, called in a later world. -/
theorem example_from {w w' : World} (htab : TabB w.heap.size w) (hb : Below w.heap.size w w') : Calls Tryd.prog 12 #[] w' fun e w'' => e = .returned (.bool true) ∧ Below w.heap.size w w'' :=
  (example_any w' ((htab.on hb).mono hb.size)).mono fun _ _ ⟨h1, h2⟩ => ⟨h1, hb.trans (h2.mono hb.size)⟩

theorem resDec_cases (s : List UInt8) : (∃ t, resDec s = (t, 0) ∧ Pl.encode t = .ok s) ∨ (∃ n, resDec s = (zeroT, n) ∧ n ≠ 0) := by
  unfold resDec
  cases h : Pl.decode s with
  | ok t => exact .inl ⟨t, rfl, encode_decode h⟩
  | error n => exact .inr ⟨n, rfl, decode_err0 h⟩
theorem resEnc_cases (t : Tr) : (∃ s, resEnc t = (s, 0) ∧ Pl.encode t = .ok s) ∨ (∃ n, resEnc t = ([], n) ∧ n ≠ 0 ∧ Pl.encode t = .error n) := by
  unfold resEnc
  cases h : Pl.encode t with
  | ok s => exact .inl ⟨s, rfl, rfl⟩
  | error n => exact .inr ⟨n, rfl, encode_err0 h, rfl⟩

set_option maxHeartbeats 400000 in
theorem unique_any (s : ByteArray) (w : World) (hs : s.size ≤ maxLen) (htab : TabB w.heap.size w) : Calls Tryd.prog 6 #[.string s] w (Yes w) := by
  have HS := Lib.hid hs
  have HTB := Lib.hid htab
  clear htab
  unfold maxLen at hs
  by_cases hbig : 21000 < s.size
  · go_enter Tryd.func6, Tryd.ntmps6
    go_wp2_with fail
    refine (example_from HTB.out (Below.refl _ _)).mono ?_
    rintro e w1 ⟨rfl, hb1⟩
    go_wp2_with fail
    go_returns
    exact ⟨rfl, hb1⟩
  · rcases resDec_cases s.data.toList with ⟨t, hrd, hen⟩ | ⟨n, hrd, hn⟩
    · have hsize := size_of_encode hen
      have HRD := Lib.hid hrd
      have HRE : Hid (resEnc t = (s.data.toList, 0)) := by show resEnc t = _; unfold resEnc; rw [hen]
      clear hrd hen
      go_enter Tryd.func6, Tryd.ntmps6
      go_wp2_with fail
      refine (decode_any s _ HS.out).mono ?_
      rw [HRD.out]
      rintro e w1 ⟨v1, rfl, hL1, hb1⟩
      obtain ⟨l1, s1, A1, n1, c1, rfl⟩ := lies_shape hL1
      have hs1 := hb1.size
      have HB1 := Lib.hid (hb1.alloc hs1 (.cells #[.bool l1, .string s1, .slice A1 n1 c1] 25))
      have HL1 := Lib.hid (hL1.below ((Below.refl _ _).alloc (Nat.le_refl _) (.cells #[.bool l1, .string s1, .slice A1 n1 c1] 25)))
      clear hL1 hb1
      go_wp2_with fail
      refine (encode_any t _ _ HL1.out (by omega) ((HTB.out.on HB1.out).mono HB1.out.size)).mono ?_
      rw [HRE.out]
      rintro e w2 ⟨sb, rfl, hsb, hb2⟩
      have hsbt : (sb.toList == s.toList) = true := by rw [Lib.toList_data, Lib.toList_data, hsb]; simp
      have HB2 := Lib.hid (HB1.out.trans (hb2.mono HB1.out.size))
      clear hsb hb2
      go_wp2_with fail
      refine (example_from HTB.out HB2.out).mono ?_
      rintro e w3 ⟨rfl, hb3⟩
      go_wp2_with fail
      go_returns
      exact ⟨rfl, hb3⟩
    · have HRD := Lib.hid hrd
      have hnb : (((n : Nat) : Int) != 0) = true := by simp; omega
      clear hrd
      go_enter Tryd.func6, Tryd.ntmps6
      go_wp2_with fail
      refine (decode_any s _ HS.out).mono ?_
      rw [HRD.out]
      rintro e w1 ⟨v1, rfl, hL1, hb1⟩
      obtain ⟨l1, s1, A1, n1, c1, rfl⟩ := lies_shape hL1
      have hs1 := hb1.size
      have HB1 := Lib.hid (hb1.alloc hs1 (.cells #[.bool l1, .string s1, .slice A1 n1 c1] 25))
      clear hL1 hb1
      go_wp2_with fail
      refine (example_from HTB.out HB1.out).mono ?_
      rintro e w3 ⟨rfl, hb3⟩
      go_wp2_with fail
      go_returns
      exact ⟨rfl, hb3⟩
end Go.Proofs.YtfpeplpoliileaaDoor
