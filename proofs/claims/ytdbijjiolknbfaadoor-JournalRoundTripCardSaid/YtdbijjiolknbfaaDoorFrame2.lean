/- How an argument of type []string reads, with its room. -/
import Derived.Test.YtdbijjiolknbfaaDoorFrame
namespace Go.Proofs.YtdbijjiolknbfaaDoor
open Go.ChangeShapes Go.WideShapes Go.ChangeAt Go.RowKit
set_option maxRecDepth 100000
variable {H : Type} {enc : TypeId × Value → H} {W : World} {sp : Nat → Bool} {held : Bool}
/-- An argument of type []string; a nil one has no room, any other room for what it holds. -/
theorem open_texts2 {base : Nat} {v : Value} {d : DataW H} {ps : List MemPlace} (hval : Value.okWide Tryd.prog W .any base 23 v) (h : DataW.Trod enc Tryd.prog W 0 (fun _ => true) held 23 v d ps) :
    ∃ A c l, v = .slice A (List.length l) c ∧ (Strs W A l ∧ (A = none → c = 0) ∧ l.length ≤ c) := by
  obtain ⟨a0, len, cap, rfl⟩ := okWide_slice Tryd.underlying23 hval
  obtain ⟨fuel, hf⟩ := h
  rcases Go.Deep.open_strs Tryd.underlying23 Tryd.underlying9 cells9 hf with ⟨h2, _⟩ | ⟨a, len', cap', m, Sx, h2, _, hlc, hcm, hm, _, hc⟩
  · simp [Value.cells] at h2
    obtain ⟨rfl, rfl, rfl⟩ := h2
    exact ⟨none, 0, [], rfl, ⟨by simp, fun s hs => by simp at hs, fun i hi => by simp at hi⟩, fun _ => rfl, by simp⟩
  · simp [Value.cells] at h2
    obtain ⟨rfl, rfl, rfl⟩ := h2
    have hml : len ≤ m := by rw [hm]; simp; exact hlc
    refine ⟨some a, cap, (List.range len).map Sx, by simp, ⟨by simp; exact Nat.le_trans hlc hcm, ?_, ?_⟩, fun h => (by cases h), by simp; exact hlc⟩
    · intro s hs
      obtain ⟨i, hi, rfl⟩ := List.mem_map.1 hs
      exact (hc i (Nat.lt_of_lt_of_le (List.mem_range.1 hi) hml)).2
    · intro i hi
      have hi2 : i < len := by simpa using hi
      obtain ⟨b, o, h1, h2, h3⟩ := addr_plain (hc 0 (by omega)).1 (hc i (Nat.lt_of_lt_of_le hi2 hml)).1
      exact ⟨b, o, by rw [h1], h2, by simpa using h3⟩

end Go.Proofs.YtdbijjiolknbfaaDoor
