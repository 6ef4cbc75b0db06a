/- The walk of the reference's Append. -/
import Derived.Test.YtdbijjiolknbfaaDoorAwake
namespace Go.Proofs.YtdbijjiolknbfaaDoor
open Go.RowKit Pl

theorem makeL_18 (l : List (List UInt8)) : ∀ d, 18 * l.length ≤ (makeL d l).length := by
  induction l with
  | nil => intro d; simp
  | cons e l ih => intro d; rw [makeL, List.length_append, lineOf_length, List.length_cons]; have := ih (chain d e); omega
theorem read_inv (s : List UInt8) (h : s.length ≤ 20000) : ∃ rest, s = makeL 0 (read s).entries ++ rest ∧ (read s).n = (makeL 0 (read s).entries).length ∧ (∀ e ∈ (read s).entries, isEntry e = true) ∧ (read s).last = last 0 (read s).entries ∧ ((read s).err = 0 ↔ rest = []) ∧
    ((read s).err = 0 ∨ (read s).err = 4 ∨ (read s).err = 2 ∨ (read s).err = 19) := by
  have hr : read s = readL s.length 0 s := by unfold Pl.read; rw [if_neg (by omega)]
  rw [hr]
  exact readL_inv s.length 0 s (Nat.le_refl _)
theorem read_count (s : List UInt8) (h : s.length ≤ 20000) : 18 * (read s).entries.length ≤ s.length := by
  obtain ⟨rest, h1, _⟩ := read_inv s h
  have := makeL_18 (read s).entries 0
  have h2 := congrArg List.length h1
  rw [List.length_append] at h2
  omega
theorem links_last (l : List (List UInt8)) (e : List UInt8) : links 0 (l ++ [e]) = links 0 l ++ [chain (last 0 l) e] := links_snoc l e 0
end Go.Proofs.YtdbijjiolknbfaaDoor
