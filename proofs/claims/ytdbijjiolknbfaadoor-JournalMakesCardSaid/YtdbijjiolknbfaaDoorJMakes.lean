/- The walk of JournalMakes: it returns true. -/
import Derived.Test.YtdbijjiolknbfaaDoorRefMake
namespace Go.Proofs.YtdbijjiolknbfaaDoor
open Go.RowKit Pl

set_option maxRecDepth 100000 in
set_option maxHeartbeats 2000000 in
theorem jmakes_any (l : List ByteArray) (A : Option Addr) (c : Nat) (w : World) (ha : Strs w A l ∧ (A = none → c = 0) ∧ l.length ≤ c) (ht : Tab w) : Calls Tryd.prog 15 #[.slice A l.length c] w (Yes w) := by
  have CF := Lib.hid (few_any 120 (by omega) l A c w ha.1)
  have HT := Lib.hid ht
  cases hf : fewB 120 l
  · rw [hf] at CF
    clear ht ha hf
    go_enter Tryd.func15, Tryd.ntmps15
    go_wp2_with fail
    refine CF.out.mono ?_
    rintro e w1 ⟨rfl, rfl⟩
    go_wp2_with fail
    refine (awake_from HT.out (Below.refl _ _)).mono ?_
    rintro e w1 ⟨rfl, hb1⟩
    go_wp2_with fail
    go_returns
    exact ⟨rfl, hb1⟩
  · rw [hf] at CF
    obtain ⟨_, h250⟩ := (fewB_iff 120 l).1 hf
    have CM := Lib.hid (make_any l A c w (fun s h => Nat.le_trans (h250 s h) (by omega)) ha.1 ht)
    have CR := Lib.hid (fun w' (h : Strs w' A l) => rmake_any l A c w' (fun s h => Nat.le_trans (h250 s h) (by omega)) h)
    have HA := Lib.hid ha.1
    generalize makeE 0 [] (lb l) = r at *
    obtain ⟨S, n⟩ := r
    obtain ⟨S2, hS⟩ : ∃ S2 : ByteArray, S2 = ⟨S.toArray⟩ := ⟨_, rfl⟩
    unfold APost at CM CR
    simp only [← hS] at CM CR
    clear ht ha hf h250 hS
    go_enter Tryd.func15, Tryd.ntmps15
    go_wp2_with fail
    refine CF.out.mono ?_
    rintro e w1 ⟨rfl, rfl⟩
    go_wp2_with fail
    refine CM.out.mono ?_
    rintro e w1 ⟨rfl, hb1⟩
    have CR1 := Lib.hid (CR.out w1 (HA.out.keep hb1))
    have HB1 := Lib.hid hb1
    clear hb1 CM CR
    go_wp2_with fail
    refine CR1.out.mono ?_
    rintro e w2 ⟨rfl, hb2⟩
    have HB2 := Lib.hid (HB1.out.trans (hb2.mono HB1.out.size))
    clear hb2
    go_wp2_with fail
    refine (awake_from HT.out HB2.out).mono ?_
    rintro e w3 ⟨rfl, hb3⟩
    go_wp2_with fail
    go_returns
    exact ⟨rfl, hb3⟩
end Go.Proofs.YtdbijjiolknbfaaDoor
