/- The plain laws behind the division of a number of 128 bits by 2^61-1: the two steps of the school method. No program in sight. -/
import Derived.Test.YtdbijjiolknbfaaDoorPlain
namespace Go.Proofs.YtdbijjiolknbfaaDoor.Pl

/-- The quotient of one step: (u, b) in digits of 32 bits, by 2^64-8. -/
def qt (u b : Nat) : Nat := (u * 4294967296 + b) / 18446744073709551608
/-- The remainder of one step. -/
def rt (u b : Nat) : Nat := (u * 4294967296 + b) % 18446744073709551608

theorem qt_lt {u b : Nat} (hu : u < 18446744073709551608) (hb : b < 4294967296) : qt u b < 4294967296 := by unfold qt; omega
theorem rt_lt (u b : Nat) : rt u b < 18446744073709551608 := by unfold rt; omega
/-- The first guess is not too small. -/
theorem guess_ge {u b : Nat} (hu : u < 18446744073709551608) (hb : b < 4294967296) : qt u b ≤ u / 4294967295 ∧ u / 4294967295 ≤ 4294967296 := by unfold qt; omega
/-- A guess that is refuted is too great. -/
theorem guess_down {u b q r : Nat} (hu : u < 18446744073709551608) (hb : b < 4294967296) (hq : q * 4294967295 + r = u) (h : 4294967296 ≤ q ∨ 4294967296 * r + b < q * 4294967288) : qt u b < q := by
  unfold qt; omega
/-- A guess that is not refuted is not too great. -/
theorem guess_ok {u b q r : Nat} (hq : q * 4294967295 + r = u) (h : q * 4294967288 ≤ 4294967296 * r + b) : q ≤ qt u b := by
  unfold qt; omega
/-- The remainder, reckoned modulo 2^64. -/
theorem rem_eq {u b : Nat} : ((u * 4294967296 + b : Nat) : Int) - ((qt u b : Nat) : Int) * 18446744073709551608 = ((rt u b : Nat) : Int) := by
  unfold qt rt; omega
set_option maxRecDepth 100000 in
theorem two_steps' (u v X : Nat) (h1 : u * 18446744073709551616 + v = 8 * X) : rt (rt u (v / 4294967296)) (v % 4294967296) / 8 = X % 2305843009213693951 := by
  have h3 : (u * 4294967296 + v / 4294967296) * 4294967296 + v % 4294967296 = 8 * X := by
    have e : v / 4294967296 * 4294967296 + v % 4294967296 = v := Nat.div_add_mod' v _
    rw [Nat.add_mul, Nat.add_assoc, e, Nat.mul_assoc]
    exact h1
  have h2 : ∀ N r : Nat, (N % 18446744073709551608 * 4294967296 + r) % 18446744073709551608 = (N * 4294967296 + r) % 18446744073709551608 := by intro N r; omega
  unfold rt
  rw [h2, h3]
  omega
/-- Two steps give the remainder of the whole. -/
theorem two_steps (hi lo : Nat) (_hl : lo < 18446744073709551616) :
    rt (rt (hi * 8 + lo / 2305843009213693952) (lo * 8 % 18446744073709551616 / 4294967296)) (lo * 8 % 18446744073709551616 % 4294967296) / 8 = (hi * 18446744073709551616 + lo) % 2305843009213693951 :=
  two_steps' _ _ _ (by omega)
/-- The first guess and what is left. -/
theorem guess_start {u b : Nat} (hu : u < 18446744073709551608) (hb : b < 4294967296) : qt u b ≤ u / 4294967295 ∧ u / 4294967295 * 4294967295 + u % 4294967295 = u ∧ u % 4294967295 < 4294967296 ∧ u / 4294967295 ≤ 4294967296 := by
  obtain ⟨h1, h2⟩ := guess_ge hu hb
  exact ⟨h1, Nat.div_add_mod' _ _, by omega, h2⟩
theorem step_down {u q r : Nat} (K : Nat) (hq : q * K + r = u) (h1 : 1 ≤ q) : (q - 1) * K + (r + K) = u := by
  obtain ⟨p, rfl⟩ : ∃ p, q = p + 1 := ⟨q - 1, by omega⟩
  rw [Nat.add_sub_cancel, ← hq, Nat.add_mul, Nat.one_mul, Nat.add_comm r, Nat.add_assoc]
theorem guess_ok' {q r b : Nat} (hr : 4294967296 ≤ r) (hq : q ≤ 4294967296) : q * 4294967288 ≤ 4294967296 * r + b := by omega
/-- A guess behind which the search leaves. -/
theorem guess_leave {u b q r : Nat} (hu : u < 18446744073709551608) (hb : b < 4294967296) (hq : q * 4294967295 + r = u) (h : 4294967296 ≤ q ∨ 4294967296 * r + b < q * 4294967288) (hr : 4294967296 ≤ r + 4294967295) (hq2 : q ≤ 4294967296) : q - 1 = qt u b := by
  have h1 := guess_down hu hb hq h
  have h0 : 1 ≤ q := Nat.lt_of_le_of_lt (Nat.zero_le _) h1
  have h2 : q - 1 ≤ qt u b := guess_ok (step_down _ hq h0) (guess_ok' hr (Nat.le_trans (Nat.sub_le _ _) hq2))
  exact Nat.le_antisymm h2 (Nat.le_sub_one_of_lt h1)
theorem guess_next {u b q r : Nat} (hu : u < 18446744073709551608) (hb : b < 4294967296) (hq : q * 4294967295 + r = u) (h : 4294967296 ≤ q ∨ 4294967296 * r + b < q * 4294967288) : qt u b ≤ q - 1 ∧ (q - 1) * 4294967295 + (r + 4294967295) = u ∧ 1 ≤ q := by
  have h1 := guess_down hu hb hq h
  have h0 : 1 ≤ q := Nat.lt_of_le_of_lt (Nat.zero_le _) h1
  exact ⟨Nat.le_sub_one_of_lt h1, step_down _ hq h0, h0⟩
theorem guess_end {u b q r : Nat} (h1 : qt u b ≤ q) (hq : q * 4294967295 + r = u) (h : ¬ (4294967296 ≤ q ∨ 4294967296 * r + b < q * 4294967288)) : q = qt u b := by
  have := guess_ok (u := u) (b := b) hq (by omega)
  omega
/-- The remainder of a step, as it is reckoned modulo 2^64. -/
theorem rem_mod {u b : Nat} (x : Int) (hx : x = (u : Int) * 4294967296 + (b : Int) - ((qt u b : Nat) : Int) * 18446744073709551608) : x % 18446744073709551616 = ((rt u b : Nat) : Int) := by
  have h1 := rem_eq (u := u) (b := b)
  have h2 := rt_lt u b
  have h3 : x = ((rt u b : Nat) : Int) := by rw [hx, ← h1]; congr 1
  rw [h3]
  omega
theorem rem_step (hi lo : Nat) : ((hi % 2305843009213693951) * 18446744073709551616 + lo) % 2305843009213693951 = (hi * 18446744073709551616 + lo) % 2305843009213693951 := by omega
end Go.Proofs.YtdbijjiolknbfaaDoor.Pl
