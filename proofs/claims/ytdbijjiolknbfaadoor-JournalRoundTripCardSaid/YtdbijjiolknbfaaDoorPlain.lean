/- The plain laws of digests: numbers modulo 2^61-1, their joining, chains, hexadecimal digits. No program in sight. -/
import Derived.Lib.ItoaNum
namespace Go.Proofs.YtdbijjiolknbfaaDoor.Pl

def P : Nat := 2305843009213693951
def B : Nat := 1099511628211
def I : Nat := 1886636988539514303

theorem P_eq : P = 2305843009213693951 := rfl
theorem B_eq : B = 1099511628211 := rfl
theorem BI : (B * I) % P = 1 := by decide

/-- The digest of a text, continued from a number; no remainder is taken. -/
def ofR (d : Nat) : List UInt8 → Nat
  | [] => d
  | c :: s => ofR (d * B + c.toNat + 1) s
/-- The digest of a text, continued from a number, a remainder taken at each byte. -/
def ofD (d : Nat) : List UInt8 → Nat
  | [] => d
  | c :: s => ofD ((d * B + c.toNat + 1) % P) s
def of_ (s : List UInt8) : Nat := ofD 0 s
def join (a : Nat) (n : Int) (b : Nat) : Nat := (a * B ^ n.toNat + b) % P
def chain (d : Nat) (s : List UInt8) : Nat := join d (s.length + 1 : Nat) (of_ (10 :: s))
/-- The numbers of a chain, whatever its step. -/
def linksF (f : Nat → List UInt8 → Nat) : Nat → List (List UInt8) → List Nat
  | _, [] => []
  | d, s :: l => f d s :: linksF f (f d s) l
/-- The last number of a chain. -/
def lastF (f : Nat → List UInt8 → Nat) : Nat → List (List UInt8) → Nat
  | d, [] => d
  | d, s :: l => lastF f (f d s) l
def links (d : Nat) (l : List (List UInt8)) : List Nat := linksF chain d l
def last (d : Nat) (l : List (List UInt8)) : Nat := lastF chain d l
theorem links_nil (d : Nat) : links d [] = [] := rfl
theorem links_cons (d : Nat) (s : List UInt8) (l : List (List UInt8)) : links d (s :: l) = chain d s :: links (chain d s) l := rfl
theorem last_nil (d : Nat) : last d [] = d := rfl
theorem last_cons (d : Nat) (s : List UInt8) (l : List (List UInt8)) : last d (s :: l) = last (chain d s) l := rfl

/-! ### remainders -/
theorem P_pos : 0 < P := by decide
theorem mod_lt (a : Nat) : a % P < P := Nat.mod_lt _ P_pos
theorem mul_mod_l (a b : Nat) : (a % P * b) % P = (a * b) % P := by rw [Nat.mul_mod, Nat.mod_mod, ← Nat.mul_mod]
theorem mul_mod_r (a b : Nat) : (a * (b % P)) % P = (a * b) % P := by rw [Nat.mul_mod, Nat.mod_mod, ← Nat.mul_mod]
theorem add_mod_l (a b : Nat) : (a % P + b) % P = (a + b) % P := by rw [P_eq]; omega
theorem add_mod_r (a b : Nat) : (a + b % P) % P = (a + b) % P := by rw [P_eq]; omega
theorem mul_mod_pow (a p n : Nat) : (a * (p % P) ^ n) % P = (a * p ^ n) % P := by
  rw [Nat.mul_mod, ← Nat.pow_mod, ← Nat.mul_mod]

/-- One step of the fast power. -/
theorem pow_even (a p n : Nat) (h : n % 2 = 0) : (a * (p * p % P) ^ (n / 2)) % P = (a * p ^ n) % P := by
  rw [mul_mod_pow]
  congr 2
  rw [← Nat.pow_two, ← Nat.pow_mul]
  congr 1; omega
theorem pow_odd (a p n : Nat) (h : n % 2 = 1) : ((a * p % P) * (p * p % P) ^ (n / 2)) % P = (a * p ^ n) % P := by
  rw [mul_mod_pow, mul_mod_l]
  rw [← Nat.pow_two, ← Nat.pow_mul, Nat.mul_assoc, Nat.mul_comm p, ← Nat.pow_succ]
  congr 3; omega

/-! ### digests of texts -/
theorem ofR_eq (s : List UInt8) : ∀ d, ofR d s = d * B ^ s.length + ofR 0 s := by
  induction s with
  | nil => intro d; simp [ofR]
  | cons c s ih =>
    intro d
    rw [ofR, ofR, ih, ih (0 * B + c.toNat + 1), List.length_cons, Nat.pow_succ]
    simp only [Nat.zero_mul, Nat.zero_add, Nat.add_mul, Nat.one_mul]
    rw [Nat.mul_assoc, Nat.mul_comm B]
    omega
theorem ofR_append (s t : List UInt8) : ∀ d, ofR d (s ++ t) = ofR (ofR d s) t := by
  induction s with
  | nil => intro d; rfl
  | cons c s ih => intro d; rw [List.cons_append, ofR, ofR, ih]
theorem ofD_mod (s : List UInt8) : ∀ d e, d % P = e % P → ofD d s % P = ofR e s % P := by
  induction s with
  | nil => intro d e h; exact h
  | cons c s ih =>
    intro d e h
    rw [ofD, ofR]
    refine ih _ _ ?_
    rw [Nat.mod_mod, Nat.add_assoc, Nat.add_assoc, ← add_mod_l, ← add_mod_l (e * B), Nat.mul_mod, h, ← Nat.mul_mod]
theorem ofD_lt (s : List UInt8) : ∀ d, d < P → ofD d s < P := by
  induction s with
  | nil => intro d h; exact h
  | cons c s ih => intro d _; rw [ofD]; exact ih _ (mod_lt _)
theorem of_lt (s : List UInt8) : of_ s < P := ofD_lt s 0 P_pos
theorem of_eq (s : List UInt8) : of_ s = ofR 0 s % P := by
  rw [← ofD_mod s 0 0 rfl, ← of_, Nat.mod_eq_of_lt (of_lt s)]
theorem join_lt (a : Nat) (n : Int) (b : Nat) : join a n b < P := mod_lt _
theorem chain_lt (d : Nat) (s : List UInt8) : chain d s < P := mod_lt _
theorem chain_eq (d : Nat) (s : List UInt8) : chain d s = ofR d (10 :: s) % P := by
  rw [chain, join, of_eq, add_mod_r, ofR_eq (10 :: s) d, Int.toNat_natCast, List.length_cons]
theorem chain_ofD (d : Nat) (s : List UInt8) (hd : d < P) : chain d s = ofD d (10 :: s) := by
  rw [chain_eq, ← ofD_mod (10 :: s) d d rfl, Nat.mod_eq_of_lt (ofD_lt _ _ hd)]

/-- The digest of a concatenation. -/
theorem of_append (s t : List UInt8) : of_ (s ++ t) = join (of_ s) (t.length : Nat) (of_ t) := by
  rw [of_eq, of_eq, of_eq, join, add_mod_r, ofR_append, ofR_eq t, Int.toNat_natCast, ← add_mod_l, ← add_mod_l (_ % P * _), mul_mod_l]
theorem join_comm0 (a b : Nat) : join a 0 b = join b 0 a := by simp [join, Nat.add_comm]
theorem join_assoc (a b c n m : Nat) : join (join a (n : Nat) b) (m : Nat) c = join a ((n : Int) + (m : Int)) (join b (m : Nat) c) := by
  have h : ((n : Int) + (m : Int)).toNat = n + m := by omega
  simp only [join, Int.toNat_natCast, h]
  rw [add_mod_r, ← add_mod_l, mul_mod_l, add_mod_l, Nat.add_mul, Nat.pow_add, Nat.mul_assoc, Nat.add_assoc]
theorem join_mod (a : Nat) (n : Int) (b : Nat) : join (a % P) (max n 0) (b % P) = join a n b := by
  have h : (max n 0).toNat = n.toNat := by omega
  simp only [join, h]
  rw [add_mod_r, ← add_mod_l, mul_mod_l, add_mod_l]
theorem join_one (d : Nat) (h : d < P) : join 0 1 d = d := by
  rw [join, Nat.zero_mul, Nat.zero_add, Nat.mod_eq_of_lt h]
theorem chain_mod (d : Nat) (s : List UInt8) : chain (d % P) s = chain d s := by
  simp only [chain, join]
  rw [← add_mod_l, mul_mod_l, add_mod_l]

/-! ### a replaced byte is noticed -/
theorem cancel_B (u v : Nat) (h : (u * B) % P = (v * B) % P) : u % P = v % P := by
  have h2 : ∀ x, (x * B % P * I) % P = x % P := by
    intro x
    rw [mul_mod_l, Nat.mul_assoc, ← mul_mod_r, BI, Nat.mul_one]
  rw [← h2 u, ← h2 v, h]
theorem cancel_pow (k u v : Nat) (h : (u * B ^ k) % P = (v * B ^ k) % P) : u % P = v % P := by
  induction k with
  | zero => simpa using h
  | succ k ih =>
    rw [Nat.pow_succ, ← Nat.mul_assoc, ← Nat.mul_assoc] at h
    exact ih (cancel_B _ _ h)
theorem cancel_add (u v r : Nat) (h : (u + r) % P = (v + r) % P) : u % P = v % P := by
  rw [P_eq] at *; omega
theorem ofR_cancel (u v : Nat) (s : List UInt8) (h : ofR u s % P = ofR v s % P) : u % P = v % P := by
  rw [ofR_eq, ofR_eq s v] at h
  exact cancel_pow _ _ _ (cancel_add _ _ _ h)
theorem ofR_byte (d : Nat) (x y : List UInt8) (c e : UInt8) (h : ofR d (x ++ c :: y) % P = ofR d (x ++ e :: y) % P) : c = e := by
  rw [ofR_append, ofR_append, ofR, ofR] at h
  have h2 := ofR_cancel _ _ _ h
  have hc := c.toNat_lt
  have he := e.toNat_lt
  apply UInt8.toNat_inj.1
  generalize ofR d x * B = z at h2
  rw [P_eq] at h2
  omega
theorem of_byte (x y : List UInt8) (c e : UInt8) (h : of_ (x ++ c :: y) = of_ (x ++ e :: y)) : c = e := by
  rw [of_eq, of_eq] at h
  exact ofR_byte 0 x y c e h
theorem chain_byte (d : Nat) (x y : List UInt8) (c e : UInt8) (h : chain d (x ++ c :: y) = chain d (x ++ e :: y)) : c = e := by
  rw [chain_eq, chain_eq] at h
  exact ofR_byte d (10 :: x) y c e h
theorem chain_inj (d e : Nat) (s : List UInt8) (hd : d < P) (he : e < P) (h : chain d s = chain e s) : d = e := by
  rw [chain_eq, chain_eq] at h
  have := ofR_cancel _ _ _ h
  rwa [Nat.mod_eq_of_lt hd, Nat.mod_eq_of_lt he] at this

/-! ### chains -/
theorem linksF_length (f : Nat → List UInt8 → Nat) (l : List (List UInt8)) : ∀ d, (linksF f d l).length = l.length := by
  induction l with
  | nil => intro d; rfl
  | cons s l ih => intro d; rw [linksF, List.length_cons, List.length_cons, ih]
theorem links_length (l : List (List UInt8)) (d : Nat) : (links d l).length = l.length := linksF_length chain l d
theorem lastF_append (f : Nat → List UInt8 → Nat) (l m : List (List UInt8)) : ∀ d, lastF f d (l ++ m) = lastF f (lastF f d l) m := by
  induction l with
  | nil => intro d; rfl
  | cons s l ih => intro d; rw [List.cons_append, lastF, lastF, ih]
theorem last_append (l m : List (List UInt8)) (d : Nat) : last d (l ++ m) = last (last d l) m := lastF_append chain l m d
theorem linksF_get (f : Nat → List UInt8 → Nat) (l : List (List UInt8)) : ∀ d i, i < l.length → (linksF f d l)[i]? = some (lastF f d (l.take (i + 1))) := by
  induction l with
  | nil => intro d i h; simp at h
  | cons s l ih =>
    intro d i h
    cases i with
    | zero => simp [linksF, lastF]
    | succ i =>
      rw [linksF, List.getElem?_cons_succ, ih _ _ (by simpa using h), List.take_succ_cons, lastF]
theorem links_get (l : List (List UInt8)) (d i : Nat) (h : i < l.length) : (links d l)[i]? = some (last d (l.take (i + 1))) := linksF_get chain l d i h
theorem last_lt (l : List (List UInt8)) : ∀ d, d < P → last d l < P := by
  induction l with
  | nil => intro d h; exact h
  | cons s l ih => intro d _; rw [last_cons]; exact ih _ (chain_lt _ _)
/-- The whole text of a chain. -/
def whole : List (List UInt8) → List UInt8
  | [] => []
  | s :: l => 10 :: s ++ whole l
theorem whole_snoc (l : List (List UInt8)) (s : List UInt8) : whole (l ++ [s]) = whole l ++ 10 :: s := by
  induction l with
  | nil => simp [whole]
  | cons x l ih => simp [whole, ih]
theorem last_snoc (l : List (List UInt8)) (s : List UInt8) (d : Nat) : last d (l ++ [s]) = chain (last d l) s := by
  rw [last_append, last_cons, last_nil]
theorem of_whole (l : List (List UInt8)) : of_ (whole l) = last 0 l := by
  have h : ∀ l d, d < P → ofD d (whole l) = last d l := by
    intro l
    induction l with
    | nil => intro d _; rfl
    | cons s l ih =>
      intro d hd
      have ha : ∀ (a b : List UInt8) d, ofD d (a ++ b) = ofD (ofD d a) b := by
        intro a
        induction a with
        | nil => intro b d; rfl
        | cons c a ih => intro b d; rw [List.cons_append, ofD, ofD, ih]
      rw [whole, ha, last_cons, ← chain_ofD _ _ hd, ih _ (chain_lt _ _)]
  exact h l 0 P_pos

/-! ### hexadecimal digits -/
def hdig (n : Nat) : UInt8 := UInt8.ofNat (if n < 10 then 48 + n else 87 + n)
/-- So many digits of a number. -/
def hexk : Nat → Nat → List UInt8
  | 0, _ => []
  | k + 1, d => hexk k (d / 16) ++ [hdig (d % 16)]
def hex (d : Nat) : List UInt8 := hexk 16 d
/-- The digits of a number, none in vain. -/
def fmt (d : Nat) : List UInt8 := if _h : d < 16 then [hdig d] else fmt (d / 16) ++ [hdig (d % 16)]
  termination_by d
  decreasing_by omega

theorem hexk_length (k : Nat) : ∀ d, (hexk k d).length = k := by
  induction k with
  | zero => intro d; rfl
  | succ k ih => intro d; rw [hexk, List.length_append, ih]; rfl
theorem hex_length (d : Nat) : (hex d).length = 16 := hexk_length 16 d
theorem hexk_zero (k : Nat) : hexk k 0 = List.replicate k 48 := by
  induction k with
  | zero => rfl
  | succ k ih =>
    rw [hexk, Nat.zero_div, ih, show hdig (0 % 16) = 48 by decide, ← List.replicate_succ']
theorem fmt_pos (d : Nat) : 1 ≤ (fmt d).length := by
  rw [fmt]; split <;> simp
theorem fmt_hexk (k : Nat) : ∀ d, d < 16 ^ (k + 1) → (fmt d).length ≤ k + 1 ∧ List.replicate (k + 1 - (fmt d).length) 48 ++ fmt d = hexk (k + 1) d := by
  induction k with
  | zero =>
    intro d h
    have h : d < 16 := by simpa using h
    rw [fmt, dif_pos h, hexk, hexk, Nat.mod_eq_of_lt h]
    simp
  | succ k ih =>
    intro d h
    by_cases h16 : d < 16
    · rw [fmt, dif_pos h16, hexk, Nat.mod_eq_of_lt h16, Nat.div_eq_of_lt h16, hexk_zero]
      simp
    · obtain ⟨h1, h2⟩ := ih (d / 16) (by rw [Nat.pow_succ] at h; exact Nat.div_lt_of_lt_mul (by rw [Nat.mul_comm]; exact h))
      rw [fmt, dif_neg h16, hexk, ← h2]
      simp only [List.length_append, List.length_cons, List.length_nil]
      refine ⟨by omega, ?_⟩
      rw [← List.append_assoc]
      congr 3; omega
theorem fmt_hex (d : Nat) (h : d < 18446744073709551616) : (fmt d).length ≤ 16 ∧ List.replicate (16 - (fmt d).length) 48 ++ fmt d = hex d := fmt_hexk 15 d (by simpa using h)

/-- The value of a digit. -/
def hval (c : UInt8) : Option Nat :=
  if 48 ≤ c.toNat ∧ c.toNat ≤ 57 then some (c.toNat - 48) else if 97 ≤ c.toNat ∧ c.toNat ≤ 102 then some (c.toNat - 87) else none
/-- The number with these digits, behind a number. -/
def unhex : Nat → List UInt8 → Option Nat
  | d, [] => some d
  | d, c :: s => match hval c with
    | some v => unhex (16 * d + v) s
    | none => none
def parse (s : List UInt8) : Nat × Nat :=
  if s.length = 16 then match unhex 0 s with
    | some d => if P ≤ d then (0, 3) else (d, 0)
    | none => (0, 2)
  else (0, 2)

theorem hdig_toNat {n : Nat} (h : n < 16) : (hdig n).toNat = if n < 10 then 48 + n else 87 + n := by
  rw [hdig, UInt8.toNat_ofNat']; split <;> omega
theorem hval_hdig {n : Nat} (h : n < 16) : hval (hdig n) = some n := by
  rw [hval, hdig_toNat h]
  by_cases h10 : n < 10
  · rw [if_pos h10, if_pos (by omega)]; congr 1; omega
  · rw [if_neg h10, if_neg (by omega), if_pos (by omega)]; congr 1; omega
theorem hval_lt {c : UInt8} {v : Nat} (h : hval c = some v) : v < 16 := by
  unfold hval at h
  split at h
  · injection h with h; omega
  · split at h
    · injection h with h; omega
    · cases h
theorem hdig_hval {c : UInt8} {v : Nat} (h : hval c = some v) : hdig v = c := by
  apply UInt8.toNat_inj.1
  rw [hdig_toNat (hval_lt h)]
  unfold hval at h
  split at h
  · injection h with h; rw [if_pos (by omega)]; omega
  · split at h
    · injection h with h; rw [if_neg (by omega)]; omega
    · cases h
theorem unhex_append (a b : List UInt8) : ∀ d, unhex d (a ++ b) = (unhex d a).bind fun e => unhex e b := by
  induction a with
  | nil => intro d; rfl
  | cons c a ih =>
    intro d
    rw [List.cons_append, unhex, unhex]
    cases hval c with
    | none => rfl
    | some v => exact ih _
theorem unhex_hexk (k : Nat) : ∀ d, d < 16 ^ k → unhex 0 (hexk k d) = some d := by
  induction k with
  | zero => intro d h; have : d = 0 := by simpa using h
            subst this; rfl
  | succ k ih =>
    intro d h
    rw [hexk, unhex_append, ih _ (by rw [Nat.pow_succ] at h; exact Nat.div_lt_of_lt_mul (by rw [Nat.mul_comm]; exact h))]
    simp only [Option.bind_some, unhex, hval_hdig (Nat.mod_lt d (by decide : 0 < 16))]
    congr 1; omega
theorem hexk_unhex : ∀ (s : List UInt8) (m d e : Nat), unhex d s = some e → hexk (m + s.length) e = hexk m d ++ s ∧ e < (d + 1) * 16 ^ s.length := by
  intro s
  induction s with
  | nil => intro m d e h; injection h with h; subst h; simp
  | cons c s ih =>
    intro m d e h
    rw [unhex] at h
    cases hv : hval c with
    | none => rw [hv] at h; cases h
    | some v =>
      rw [hv] at h
      obtain ⟨h1, h2⟩ := ih (m + 1) _ _ h
      have hvl := hval_lt hv
      refine ⟨?_, ?_⟩
      · rw [List.length_cons, show m + (s.length + 1) = m + 1 + s.length by omega, h1, hexk, show (16 * d + v) / 16 = d by omega, show (16 * d + v) % 16 = v by omega, hdig_hval hv, List.append_assoc]; rfl
      · refine Nat.lt_of_lt_of_le h2 ?_
        rw [List.length_cons, Nat.pow_succ, Nat.mul_comm (16 ^ s.length), ← Nat.mul_assoc]
        exact Nat.mul_le_mul_right _ (by omega)
theorem parse_hex (d : Nat) (h : d < 18446744073709551616) : parse (hex d) = if P ≤ d then (0, 3) else (d, 0) := by
  rw [parse, if_pos (hex_length d), hex, unhex_hexk 16 d (by simpa using h)]
theorem hex_parse {s : List UInt8} {d : Nat} (h : parse s = (d, 0)) : d < P ∧ hex d = s := by
  unfold parse at h
  split at h
  · rename_i hl
    split at h
    · rename_i e he
      split at h
      · cases h
      · rename_i hp
        injection h with h _; subst h
        refine ⟨by omega, ?_⟩
        have := (hexk_unhex s 0 0 e he).1
        rw [hl, hexk, List.nil_append] at this
        exact this
    · cases h
  · cases h
theorem parse_err (s : List UInt8) (h : (parse s).2 ≠ 0) : (parse s).1 = 0 := by
  unfold parse at *
  split
  · split
    · split
      · rfl
      · rename_i h1 _ _ h2 h3; rw [if_pos h1, h2] at h; simp [h3] at h
    · rfl
  · rfl
theorem hex_inj {d e : Nat} (hd : d < P) (he : e < P) (h : hex d = hex e) : d = e := by
  have hp : ∀ x, x < P → unhex 0 (hex x) = some x := fun x hx => unhex_hexk 16 x (Nat.lt_trans hx (by decide))
  have := hp d hd
  rw [h, hp e he] at this
  injection this with this
  exact this.symm
theorem hex_digit (d : Nat) : ∀ c ∈ hex d, hval c ≠ none := by
  have : ∀ k d, ∀ c ∈ hexk k d, hval c ≠ none := by
    intro k
    induction k with
    | zero => intro d c h; cases h
    | succ k ih =>
      intro d c h
      rw [hexk] at h
      rcases List.mem_append.1 h with h | h
      · exact ih _ c h
      · rw [List.mem_singleton] at h; subst h; rw [hval_hdig (Nat.mod_lt d (by decide : 0 < 16))]; simp
  exact this 16 d
end Go.Proofs.YtdbijjiolknbfaaDoor.Pl
