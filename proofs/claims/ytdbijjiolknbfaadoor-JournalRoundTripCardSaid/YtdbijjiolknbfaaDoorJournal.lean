/- The plain laws of journals: lines with chained digests. No program in sight. -/
import Derived.Test.YtdbijjiolknbfaaDoorPlain
namespace Go.Proofs.YtdbijjiolknbfaaDoor.Pl

def printable (c : UInt8) : Bool := decide (32 ≤ c.toNat) && decide (c.toNat ≤ 126)
def isEntry (s : List UInt8) : Bool := decide (s.length ≤ 200) && s.all printable
/-- The entry of a line, if it has the form of one. -/
def form (s : List UInt8) : Bool := decide (17 ≤ s.length) && (s[16]? == some 32) && isEntry (s.drop 17) && (s.take 16).all fun c => (hval c).isSome
/-- A line with its line feed. -/
def lineOf (d : Nat) (e : List UInt8) : List UInt8 := hex (chain d e) ++ 32 :: (e ++ [10])
def makeL : Nat → List (List UInt8) → List UInt8
  | _, [] => []
  | d, e :: l => lineOf d e ++ makeL (chain d e) l
/-- What stands ahead of the first line feed. -/
def upto (s : List UInt8) : List UInt8 := s.takeWhile fun c => c != 10

structure Res where
  entries : List (List UInt8)
  n : Nat
  last : Nat
  err : Nat

def readL : Nat → Nat → List UInt8 → Res
  | 0, d, _ => ⟨[], 0, d, 0⟩
  | f + 1, d, s =>
    if s = [] then ⟨[], 0, d, 0⟩
    else if (upto s).length = s.length then ⟨[], 0, d, 4⟩
    else if form (upto s) = false then ⟨[], 0, d, 2⟩
    else if (upto s).take 16 ≠ hex (chain d ((upto s).drop 17)) then ⟨[], 0, d, 19⟩
    else
      let r := readL f (chain d ((upto s).drop 17)) (s.drop ((upto s).length + 1))
      ⟨(upto s).drop 17 :: r.entries, (upto s).length + 1 + r.n, r.last, r.err⟩

def read (s : List UInt8) : Res := if 20000 < s.length then ⟨[], 0, 0, 5⟩ else readL s.length 0 s

/-! ### small facts -/
theorem isEntry_len {e : List UInt8} (h : isEntry e = true) : e.length ≤ 200 := by
  simp [isEntry] at h; exact h.1
theorem isEntry_all {e : List UInt8} (h : isEntry e = true) : ∀ c ∈ e, printable c = true := by
  simp [isEntry] at h; exact h.2
theorem printable_ne {c : UInt8} (h : printable c = true) : c ≠ 10 := by
  rintro rfl; exact absurd h (by decide)
theorem hval_ne {c : UInt8} (h : hval c ≠ none) : c ≠ 10 := by
  rintro rfl; exact h (by decide)
theorem lineOf_length (d : Nat) (e : List UInt8) : (lineOf d e).length = e.length + 18 := by
  simp [lineOf, hex_length]; omega

/-- What stands ahead of the line feed of a line. -/
def bodyOf (d : Nat) (e : List UInt8) : List UInt8 := hex (chain d e) ++ 32 :: e
theorem lineOf_body (d : Nat) (e : List UInt8) : lineOf d e = bodyOf d e ++ [10] := by simp [lineOf, bodyOf]
theorem body_length (d : Nat) (e : List UInt8) : (bodyOf d e).length = e.length + 17 := by
  simp [bodyOf, hex_length]; omega
theorem body_ne {d : Nat} {e : List UInt8} (h : isEntry e = true) : ∀ c ∈ bodyOf d e, c ≠ 10 := by
  intro c hc
  rw [bodyOf] at hc
  rcases List.mem_append.1 hc with hc | hc
  · exact hval_ne (hex_digit _ c hc)
  · rcases List.mem_cons.1 hc with rfl | hc
    · decide
    · exact printable_ne (isEntry_all h c hc)
theorem body_take (d : Nat) (e : List UInt8) : (bodyOf d e).take 16 = hex (chain d e) := by
  rw [bodyOf, List.take_left' (hex_length _)]
theorem body_drop (d : Nat) (e : List UInt8) : (bodyOf d e).drop 17 = e := by
  rw [bodyOf, show hex (chain d e) ++ 32 :: e = (hex (chain d e) ++ [32]) ++ e by simp, List.drop_left' (by simp [hex_length])]
theorem body_16 (d : Nat) (e : List UInt8) : (bodyOf d e)[16]? = some 32 := by
  rw [bodyOf, List.getElem?_append_right (by rw [hex_length]; exact Nat.le_refl _), hex_length]; rfl
theorem body_form {d : Nat} {e : List UInt8} (h : isEntry e = true) : form (bodyOf d e) = true := by
  have h1 : ((bodyOf d e).take 16).all (fun c => (hval c).isSome) = true := by
    rw [body_take, List.all_eq_true]
    intro c hc
    rw [Option.isSome_iff_ne_none]
    exact hex_digit _ c hc
  rw [form, h1, body_16, body_drop, h, body_length]
  simp

theorem upto_append {a : List UInt8} (h : ∀ c ∈ a, c ≠ 10) (b : List UInt8) : upto (a ++ 10 :: b) = a := by
  induction a with
  | nil => simp [upto]
  | cons c a ih =>
    have hc : c ≠ 10 := h c (by simp)
    have := ih fun x hx => h x (by simp [hx])
    unfold upto at this ⊢
    rw [List.cons_append, List.takeWhile_cons, if_pos (by simpa using hc), this]
theorem upto_none {a : List UInt8} (h : ∀ c ∈ a, c ≠ 10) : upto a = a := by
  induction a with
  | nil => rfl
  | cons c a ih =>
    have hc : c ≠ 10 := h c (by simp)
    have := ih fun x hx => h x (by simp [hx])
    unfold upto at this ⊢
    rw [List.takeWhile_cons, if_pos (by simpa using hc), this]
theorem upto_ne (s : List UInt8) : ∀ c ∈ upto s, c ≠ 10 := by
  induction s with
  | nil => intro c hc; cases hc
  | cons x s ih =>
    intro c hc
    unfold upto at hc ih
    rw [List.takeWhile_cons] at hc
    split at hc
    · rename_i hx
      rcases List.mem_cons.1 hc with rfl | hc
      · simpa using hx
      · exact ih c hc
    · cases hc
/-- A text without a line feed, or a line and the rest. -/
theorem upto_cases (s : List UInt8) : (upto s = s) ∨ (∃ r, s = upto s ++ 10 :: r) := by
  induction s with
  | nil => exact .inl rfl
  | cons c s ih =>
    by_cases hc : c = 10
    · right; refine ⟨s, ?_⟩; subst hc; simp [upto]
    · have hu : upto (c :: s) = c :: upto s := by unfold upto; rw [List.takeWhile_cons, if_pos (by simpa using hc)]
      rcases ih with h | ⟨r, h⟩
      · left; rw [hu, h]
      · right; refine ⟨r, ?_⟩; rw [hu, List.cons_append, ← h]
theorem upto_le (s : List UInt8) : (upto s).length ≤ s.length := by
  rcases upto_cases s with h | ⟨r, h⟩
  · rw [h]; exact Nat.le_refl _
  · have := congrArg List.length h; simp at this; omega
/-- A good line is its digest, a space, its entry. -/
theorem form_body {d : Nat} {u : List UInt8} (hf : form u = true) (hd : u.take 16 = hex (chain d (u.drop 17))) : u = bodyOf d (u.drop 17) ∧ isEntry (u.drop 17) = true := by
  simp only [form, Bool.and_eq_true, decide_eq_true_eq, beq_iff_eq] at hf
  obtain ⟨⟨⟨h1, h2⟩, h3⟩, _⟩ := hf
  refine ⟨?_, h3⟩
  have h16 : 16 < u.length := by omega
  rw [List.getElem?_eq_getElem h16] at h2
  injection h2 with h2
  rw [bodyOf, ← hd, ← h2, ← List.drop_eq_getElem_cons h16, List.take_append_drop]

/-! ### reading -/
theorem readL_nil (f d : Nat) : readL f d [] = ⟨[], 0, d, 0⟩ := by
  cases f with
  | zero => rfl
  | succ f => rw [readL, if_pos rfl]
theorem readL_line {f d : Nat} {e rest : List UInt8} (he : isEntry e = true) :
    readL (f + 1) d (lineOf d e ++ rest) = ⟨e :: (readL f (chain d e) rest).entries, e.length + 18 + (readL f (chain d e) rest).n, (readL f (chain d e) rest).last, (readL f (chain d e) rest).err⟩ := by
  have hs : lineOf d e ++ rest = bodyOf d e ++ 10 :: rest := by rw [lineOf_body]; simp
  have hu : upto (lineOf d e ++ rest) = bodyOf d e := by rw [hs, upto_append (body_ne he)]
  have hl : (lineOf d e ++ rest).length = e.length + 18 + rest.length := by rw [List.length_append, lineOf_length]
  rw [readL, if_neg (by intro h; rw [h] at hl; simp at hl; omega), hu, body_length, hl, if_neg (by omega), body_form he, if_neg (by simp), body_drop, body_take, if_neg (by simp)]
  have hd : (lineOf d e ++ rest).drop (e.length + 17 + 1) = rest := List.drop_left' (lineOf_length d e)
  rw [hd]
theorem readL_make {l : List (List UInt8)} : ∀ (f d : Nat) (rest : List UInt8), (∀ e ∈ l, isEntry e = true) →
    readL (f + l.length) d (makeL d l ++ rest) = ⟨l ++ (readL f (last d l) rest).entries, (makeL d l).length + (readL f (last d l) rest).n, (readL f (last d l) rest).last, (readL f (last d l) rest).err⟩ := by
  induction l with
  | nil => intro f d rest _; simp [makeL, last_nil]
  | cons e l ih =>
    intro f d rest h
    rw [makeL, List.append_assoc, List.length_cons, ← Nat.add_assoc, readL_line (h e (by simp)), ih f _ rest fun x hx => h x (by simp [hx])]
    simp only [last_cons, List.length_append, lineOf_length, List.cons_append]
    congr 1; omega
/-- Fuel beyond the number of bytes changes nothing. -/
theorem readL_fuel (f : Nat) : ∀ (g d : Nat) (s : List UInt8), s.length ≤ f → s.length ≤ g → readL f d s = readL g d s := by
  induction f with
  | zero =>
    intro g d s hf hg
    have : s = [] := List.length_eq_zero_iff.1 (by omega)
    subst this; rw [readL_nil, readL_nil]
  | succ f ih =>
    intro g d s hf hg
    by_cases hs : s = []
    · subst hs; rw [readL_nil, readL_nil]
    · have hpos : 0 < s.length := List.length_pos_iff.2 hs
      obtain ⟨g, rfl⟩ : ∃ k, g = k + 1 := ⟨g - 1, by omega⟩
      rw [readL, readL, ih g (chain d ((upto s).drop 17)) (s.drop ((upto s).length + 1)) (by rw [List.length_drop]; omega) (by rw [List.length_drop]; omega)]
/-- What was read is a journal of entries. -/
theorem readL_inv (f : Nat) : ∀ (d : Nat) (s : List UInt8), s.length ≤ f → ∃ rest, s = makeL d (readL f d s).entries ++ rest ∧ (readL f d s).n = (makeL d (readL f d s).entries).length ∧
    (∀ e ∈ (readL f d s).entries, isEntry e = true) ∧ (readL f d s).last = last d (readL f d s).entries ∧ ((readL f d s).err = 0 ↔ rest = []) ∧
    ((readL f d s).err = 0 ∨ (readL f d s).err = 4 ∨ (readL f d s).err = 2 ∨ (readL f d s).err = 19) := by
  induction f with
  | zero =>
    intro d s hf
    have : s = [] := List.length_eq_zero_iff.1 (by omega)
    subst this
    exact ⟨[], by simp [readL, makeL], by simp [readL, makeL], by simp [readL], rfl, by simp [readL], .inl rfl⟩
  | succ f ih =>
    intro d s hf
    rw [readL]
    by_cases hs : s = []
    · rw [if_pos hs]; subst hs
      exact ⟨[], by simp [makeL], by simp [makeL], by simp, rfl, by simp, .inl rfl⟩
    rw [if_neg hs]
    by_cases h4 : (upto s).length = s.length
    · rw [if_pos h4]
      exact ⟨s, by simp [makeL], by simp [makeL], by simp, rfl, by simp [hs], .inr (.inl rfl)⟩
    rw [if_neg h4]
    by_cases h2 : form (upto s) = false
    · rw [if_pos h2]
      exact ⟨s, by simp [makeL], by simp [makeL], by simp, rfl, by simp [hs], .inr (.inr (.inl rfl))⟩
    rw [if_neg h2]
    by_cases h19 : (upto s).take 16 ≠ hex (chain d ((upto s).drop 17))
    · rw [if_pos h19]
      exact ⟨s, by simp [makeL], by simp [makeL], by simp, rfl, by simp [hs], .inr (.inr (.inr rfl))⟩
    rw [if_neg h19]
    rcases upto_cases s with h | ⟨r, h⟩
    · rw [h] at h4; exact absurd rfl h4
    obtain ⟨hb, he⟩ := form_body (d := d) (by simpa using h2) (by simpa using h19)
    generalize hu : upto s = u at *
    generalize hw : u.drop 17 = e at *
    have hdrop : s.drop (u.length + 1) = r := by
      rw [h, show u ++ 10 :: r = (u ++ [10]) ++ r by simp, List.drop_left' (by simp)]
    have hlen := congrArg List.length h
    simp at hlen
    rw [hdrop]
    obtain ⟨rest, i1, i2, i3, i4, i5, i6⟩ := ih (chain d e) r (by omega)
    refine ⟨rest, ?_, ?_, ?_, ?_, i5, i6⟩
    · show s = makeL d (e :: _) ++ rest
      rw [makeL, List.append_assoc, ← i1, lineOf_body, ← hb, h]; simp
    · show u.length + 1 + _ = (makeL d (e :: _)).length
      rw [makeL, List.length_append, ← i2, lineOf_length]
      have := congrArg List.length hb
      rw [body_length] at this
      omega
    · intro x hx
      rcases List.mem_cons.1 hx with rfl | hx
      · exact he
      · exact i3 x hx
    · show _ = last d (e :: _)
      rw [last_cons]; exact i4

theorem makeL_length_ge (l : List (List UInt8)) : ∀ d, l.length ≤ (makeL d l).length := by
  induction l with
  | nil => intro d; simp
  | cons e l ih => intro d; rw [makeL, List.length_append, lineOf_length, List.length_cons]; have := ih (chain d e); omega
/-- Reading a journal and what stands behind it. -/
theorem read_make {l : List (List UInt8)} {rest : List UInt8} (h : ∀ e ∈ l, isEntry e = true) (hl : (makeL 0 l ++ rest).length ≤ 20000) :
    read (makeL 0 l ++ rest) = ⟨l ++ (readL rest.length (last 0 l) rest).entries, (makeL 0 l).length + (readL rest.length (last 0 l) rest).n, (readL rest.length (last 0 l) rest).last, (readL rest.length (last 0 l) rest).err⟩ := by
  have hg := makeL_length_ge l 0
  rw [read, if_neg (by omega), readL_fuel _ (rest.length + l.length + (makeL 0 l).length) _ _ (Nat.le_refl _) (by simp; omega)]
  rw [show rest.length + l.length + (makeL 0 l).length = (rest.length + (makeL 0 l).length) + l.length by omega, readL_make _ _ _ h]
  rw [readL_fuel _ rest.length _ _ (by omega) (Nat.le_refl _)]
theorem makeL_append (l m : List (List UInt8)) : ∀ d, makeL d (l ++ m) = makeL d l ++ makeL (last d l) m := by
  induction l with
  | nil => intro d; rfl
  | cons e l ih => intro d; rw [List.cons_append, makeL, makeL, last_cons, ih, List.append_assoc]
end Go.Proofs.YtdbijjiolknbfaaDoor.Pl
