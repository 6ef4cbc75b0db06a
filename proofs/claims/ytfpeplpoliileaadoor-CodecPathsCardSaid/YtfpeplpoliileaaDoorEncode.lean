/- The walk of Encode. -/
import Derived.Test.YtfpeplpoliileaaDoorWrite
import Derived.Lib.BufferRead
namespace Go.Proofs.YtfpeplpoliileaaDoor
open Go.RowKit Pl

/-- string(b) of a row that the call owns. -/
theorem conv_own {w : World} {B : Nat} {v : Value} {l : List UInt8} (h : w.ownsRow B 5 1 v l.length (Lib.byteCells l)) : (convert 51 9 v).run Tryd.prog w = .ok (.string ⟨l.toArray⟩) w := by
  rcases h.2 with ⟨rfl, h0⟩ | ⟨g, cap, cur, rfl, _, hg, _, _, _, htk⟩
  · have hl : l = [] := List.length_eq_zero_iff.1 h0
    subst hl
    exact Lib.run_convert_nil_bytes w 51 9 5 0 Tryd.underlying51 Tryd.underlying5 Tryd.underlying9
  · exact run_convert_bytes_back w 51 9 5 ⟨g, 0, none⟩ cap l Tryd.underlying51 Tryd.underlying5 Tryd.underlying9 (Lib.bytes_of_row hg (by simpa using htk))

/-- The call returns a string and an error; what was there is as it was. -/
def GivesSE (l : List UInt8) (n : Nat) (w : World) (e : Ending) (w' : World) : Prop := ∃ sb : ByteArray, e = .returned (.tuple #[.string sb, .int .i64 n]) ∧ sb.data.toList = l ∧ Below w.heap.size w w'

/-- What Encode gives. -/
def resEnc (t : Tr) : List UInt8 × Nat := match encode t with | .ok s => (s, 0) | .error n => ([], n)

theorem resEnc_bad {t : Tr} (h : check t 1 ≠ 0) : resEnc t = ([], check t 1) := by unfold resEnc encode; rw [if_pos h]
theorem resEnc_long {t : Tr} (h : check t 1 = 0) (hl : 20000 < (wr [] t).length) : resEnc t = ([], 5) := by unfold resEnc; rw [encode_wr t h, if_pos hl]
theorem resEnc_ok {t : Tr} (h : check t 1 = 0) (hl : ¬ 20000 < (wr [] t).length) : resEnc t = (wr [] t, 0) := by unfold resEnc; rw [encode_wr t h, if_neg hl]

set_option maxHeartbeats 400000 in
theorem encode_any (t : Tr) (v : Value) (w : World) (ha : Lies anyB w t v) (hs : size t ≤ 100000) (htab : TabB w.heap.size w) : Calls Tryd.prog 19 #[v] w (GivesSE (resEnc t).1 (resEnc t).2 w) := by
  obtain ⟨sa, A, ca, rfl, _⟩ := ha.open_
  have HA := Lib.hid ha
  have HTB := Lib.hid htab
  clear ha htab
  by_cases hc : check t 1 = 0
  · have HC := Lib.hid hc
    by_cases hl : 20000 < (wr [] t).length
    · have HR := Lib.hid (resEnc_long hc hl)
      clear hc
      go_enter Tryd.func19, Tryd.ntmps19
      go_wp2_with fail
      refine (check_any t _ 1 _ (HA.out.below ((Below.refl _ _).alloc (Nat.le_refl _) _)) (by omega)).mono ?_
      rw [HC.out]
      rintro e w1 ⟨rfl, hb1⟩
      have hw1 : Below w.heap.size w w1 := ((Below.refl _ _).alloc (Nat.le_refl _) _).trans (hb1.mono (by simp))
      obtain ⟨⟨c0, c1, c2⟩, _, _, _⟩ := ((Blk.new w 25 #[.bool t.list, .string sa, .slice A t.kids.length ca]).below hb1 (by simp)).three
      have hw1s := hw1.size
      go_wp2_with fail
      refine (write_any t w1.heap.size _ [] _ _ (Lies.to (fun g _ hg => ⟨hw1.block g hg, by omega⟩) _ _ HA.out) (World.ownsRow_nil _ _ _ _) (Nat.le_refl _) (by simp; omega) ((HTB.out.on hw1).mono hw1.size)).mono ?_
      rintro e w2 ⟨v2, rfl, ho2, hb2⟩
      generalize wr [] t = l at *
      obtain ⟨A2, cc2, rfl⟩ := owns_form ho2
      have HO2 := Lib.hid ho2
      clear ho2
      go_wp2_with fail
      go_returns
      rw [HR.out]
      exact ⟨_, rfl, rfl, hw1.trans (hb2.mono hw1.size)⟩
    · have HR := Lib.hid (resEnc_ok hc hl)
      clear hc
      go_enter Tryd.func19, Tryd.ntmps19
      go_wp2_with fail
      refine (check_any t _ 1 _ (HA.out.below ((Below.refl _ _).alloc (Nat.le_refl _) _)) (by omega)).mono ?_
      rw [HC.out]
      rintro e w1 ⟨rfl, hb1⟩
      have hw1 : Below w.heap.size w w1 := ((Below.refl _ _).alloc (Nat.le_refl _) _).trans (hb1.mono (by simp))
      obtain ⟨⟨c0, c1, c2⟩, _, _, _⟩ := ((Blk.new w 25 #[.bool t.list, .string sa, .slice A t.kids.length ca]).below hb1 (by simp)).three
      have hw1s := hw1.size
      go_wp2_with fail
      refine (write_any t w1.heap.size _ [] _ _ (Lies.to (fun g _ hg => ⟨hw1.block g hg, by omega⟩) _ _ HA.out) (World.ownsRow_nil _ _ _ _) (Nat.le_refl _) (by simp; omega) ((HTB.out.on hw1).mono hw1.size)).mono ?_
      rintro e w2 ⟨v2, rfl, ho2, hb2⟩
      generalize wr [] t = l at *
      obtain ⟨A2, cc2, rfl⟩ := owns_form ho2
      have hcv := conv_own ho2
      have HO2 := Lib.hid ho2
      clear ho2
      go_wp2_with fail
      go_returns
      rw [HR.out]
      exact ⟨_, rfl, rfl, hw1.trans (hb2.mono hw1.size)⟩
  · have HR := Lib.hid (resEnc_bad hc)
    have hcb : (((check t 1 : Nat) : Int) != 0) = true := by simp; omega
    clear hc
    go_enter Tryd.func19, Tryd.ntmps19
    go_wp2_with fail
    refine (check_any t _ 1 _ (HA.out.below ((Below.refl _ _).alloc (Nat.le_refl _) _)) (by omega)).mono ?_
    rintro e w1 ⟨rfl, hb1⟩
    go_wp2_with fail
    go_returns
    rw [HR.out]
    exact ⟨_, rfl, rfl, ((Below.refl _ _).alloc (Nat.le_refl _) _).trans (hb1.mono (by simp))⟩

end Go.Proofs.YtfpeplpoliileaaDoor
