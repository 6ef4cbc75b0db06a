/- The plain laws of the codec: encoding and decoding of trees, as functions on lists of bytes. No program in sight. -/
import Derived.Lib.ItoaNum
namespace Go.Proofs.YtfpeplpoliileaaDoor.Pl

/-- A tree: is it a list, its text, its elements. -/
inductive Tr where
  | mk (list : Bool) (text : List UInt8) (kids : List Tr)

def Tr.list : Tr → Bool | .mk l _ _ => l
def Tr.text : Tr → List UInt8 | .mk _ s _ => s
def Tr.kids : Tr → List Tr | .mk _ _ ks => ks

/-- The decimal digits of a number. -/
def digs (n : Nat) : List UInt8 := Lib.decDigits n

mutual
def check : Tr → Nat → Nat
  | .mk l s ks, lv =>
    if (l = true ∧ s ≠ []) ∨ (l = false ∧ ks ≠ []) then 1
    else if 12 < lv ∨ 256 < ks.length then 5
    else checkL ks (lv + 1)
def checkL : List Tr → Nat → Nat
  | [], _ => 0
  | k :: ks, lv => if check k lv = 0 then checkL ks lv else check k lv
end

mutual
def enc : Tr → List UInt8
  | .mk l s ks => if l = true then 40 :: (encL ks ++ [41]) else digs s.length ++ 58 :: s
def encL : List Tr → List UInt8
  | [] => []
  | k :: ks => enc k ++ encL ks
end

mutual
def wr : List UInt8 → Tr → List UInt8
  | b, .mk l s ks => if 20000 < b.length then b else if l = true then wrL (b ++ [40]) ks ++ [41] else b ++ digs s.length ++ [58] ++ s
def wrL : List UInt8 → List Tr → List UInt8
  | b, [] => b
  | b, k :: ks => wrL (wr b k) ks
end

mutual
def size : Tr → Nat
  | .mk _ s ks => 1 + s.length + sizeL ks
def sizeL : List Tr → Nat
  | [] => 0
  | k :: ks => size k + sizeL ks
end

def isDig (c : UInt8) : Bool := decide (48 ≤ c.toNat) && decide (c.toNat ≤ 57)

/-- The length of a text and the colon behind it. -/
def rdLen : Nat → Bool → List UInt8 → Except Nat (Nat × List UInt8)
  | _, _, [] => .error 4
  | n, first, c :: r =>
    if isDig c = true then
      if first = false ∧ n = 0 then .error 2
      else if 20000 < 10 * n + (c.toNat - 48) then .error 5
      else rdLen (10 * n + (c.toNat - 48)) false r
    else if c = 58 then .ok (n, r) else .error 2

def rdText (l : List UInt8) : Except Nat (Tr × List UInt8) :=
  match rdLen 0 true l with
  | .error e => .error e
  | .ok (n, r) => if r.length < n then .error 4 else .ok (.mk false (r.take n) [], r.drop n)

def rdKids (rd : Nat → List UInt8 → Except Nat (Tr × List UInt8)) : Nat → List Tr → List UInt8 → Except Nat (List Tr × List UInt8)
  | 0, _, _ => .error 0
  | _ + 1, _, [] => .error 4
  | f + 1, acc, c :: r =>
    if c = 41 then .ok (acc, r)
    else match rd acc.length (c :: r) with
      | .error e => .error e
      | .ok (t, r') => rdKids rd f (acc ++ [t]) r'

/-- d: how many levels are left. -/
def rdNode : Nat → Nat → List UInt8 → Except Nat (Tr × List UInt8)
  | _, _, [] => .error 4
  | 0, _, c :: _ => if c ≠ 40 ∧ isDig c = false then .error 2 else .error 5
  | d + 1, count, c :: r =>
    if c ≠ 40 ∧ isDig c = false then .error 2
    else if 256 ≤ count then .error 5
    else if c = 40 then
      match rdKids (rdNode d) (r.length + 1) [] r with
      | .error e => .error e
      | .ok (ks, r') => .ok (.mk true [] ks, r')
    else rdText (c :: r)

def decode (s : List UInt8) : Except Nat Tr :=
  if 20000 < s.length then .error 5
  else match rdNode 12 0 s with
    | .error e => .error e
    | .ok (t, r) => if r = [] then .ok t else .error 2

def encode (t : Tr) : Except Nat (List UInt8) :=
  if check t 1 ≠ 0 then .error (check t 1) else if 20000 < (enc t).length then .error 5 else .ok (enc t)

/-- The node to which a path leads. -/
def at? : Tr → List Int → Option Tr
  | t, [] => some t
  | t, i :: p => if t.list = true ∧ 0 ≤ i ∧ i.toNat < t.kids.length then
      match t.kids[i.toNat]? with | some k => at? k p | none => none else none


/-! ### digits -/
theorem digs_small {n : Nat} (h : n < 10) : digs n = [UInt8.ofNat (48 + n)] := by rw [digs, Lib.decDigits, dif_pos h]
theorem digs_big {n : Nat} (h : ¬ n < 10) : digs n = digs (n / 10) ++ [UInt8.ofNat (48 + n % 10)] := by
  rw [digs, Lib.decDigits, dif_neg h]; rfl

theorem toNat_dig {n : Nat} (h : n < 10) : (UInt8.ofNat (48 + n)).toNat = 48 + n := by
  rw [UInt8.toNat_ofNat']; omega

theorem isDig_dig {n : Nat} (h : n < 10) : isDig (UInt8.ofNat (48 + n)) = true := by
  rw [isDig, toNat_dig h]; simp; omega

theorem isDig_iff (c : UInt8) : isDig c = true ↔ 48 ≤ c.toNat ∧ c.toNat ≤ 57 := by simp [isDig]

theorem ofNat_toNat (c : UInt8) : UInt8.ofNat c.toNat = c := by simp

theorem digs_step {m : Nat} (hm : m ≠ 0) {c : UInt8} (hc : isDig c = true) : digs (10 * m + (c.toNat - 48)) = digs m ++ [c] := by
  have h := (isDig_iff c).1 hc
  rw [digs_big (by omega)]
  congr 1
  · congr 1; omega
  · rw [show 48 + (10 * m + (c.toNat - 48)) % 10 = c.toNat by omega, ofNat_toNat]

theorem digs_first {c : UInt8} (hc : isDig c = true) : digs (c.toNat - 48) = [c] := by
  have h := (isDig_iff c).1 hc
  rw [digs_small (by omega), show 48 + (c.toNat - 48) = c.toNat by omega, ofNat_toNat]

theorem digs_isDig : ∀ (n : Nat), ∀ c ∈ digs n, isDig c = true := by
  intro n
  induction n using Nat.strongRecOn with
  | _ n ih =>
    by_cases h : n < 10
    · rw [digs_small h]; intro c hc; rw [List.mem_singleton] at hc; subst hc; exact isDig_dig h
    · rw [digs_big h]; intro c hc
      rcases List.mem_append.1 hc with hc | hc
      · exact ih _ (by omega) c hc
      · rw [List.mem_singleton] at hc; subst hc; exact isDig_dig (by omega)

theorem digs_ne_nil (n : Nat) : digs n ≠ [] := by
  by_cases h : n < 10
  · rw [digs_small h]; simp
  · rw [digs_big h]; simp

theorem digs_length_le : ∀ n : Nat, (digs n).length ≤ n + 1 := by
  intro n
  induction n using Nat.strongRecOn with
  | _ n ih =>
    by_cases h : n < 10
    · rw [digs_small h]; simp
    · rw [digs_big h]; have := ih (n / 10) (by omega); simp; omega

theorem rdLen_digs : ∀ (n : Nat), n ≤ 20000 → ∀ rest, rdLen 0 true (digs n ++ rest) = rdLen n false rest := by
  intro n
  induction n using Nat.strongRecOn with
  | _ n ih =>
    intro hn rest
    by_cases h : n < 10
    · rw [digs_small h]
      have e : (UInt8.ofNat (48 + n)).toNat - 48 = n := by rw [toNat_dig h]; omega
      simp only [List.cons_append, List.nil_append, rdLen, isDig_dig h, e]
      simp; omega
    · rw [digs_big h, List.append_assoc, ih (n / 10) (by omega) (by omega)]
      have hd : n % 10 < 10 := by omega
      have e : (UInt8.ofNat (48 + n % 10)).toNat - 48 = n % 10 := by rw [toNat_dig hd]; omega
      simp only [List.cons_append, List.nil_append, rdLen, isDig_dig hd, e]
      rw [if_pos trivial, if_neg (by omega), if_neg (by omega)]
      congr 1; omega

theorem not_isDig_58 : isDig 58 = false := by decide
theorem not_isDig_40 : isDig 40 = false := by decide
theorem not_isDig_41 : isDig 41 = false := by decide

theorem rdLen_colon (n : Nat) (rest : List UInt8) : rdLen n false (58 :: rest) = .ok (n, rest) := by
  simp [rdLen, not_isDig_58]

theorem rdLen_inv : ∀ (l : List UInt8) (m n : Nat) (r : List UInt8), rdLen m false l = .ok (n, r) → m ≤ 20000 →
    n ≤ 20000 ∧ ∃ pre, l = pre ++ 58 :: r ∧ digs n = digs m ++ pre := by
  intro l
  induction l with
  | nil => intro m n r h; simp [rdLen] at h
  | cons c l ih =>
    intro m n r h hm
    simp only [rdLen] at h
    by_cases hd : isDig c = true
    · rw [if_pos hd] at h
      by_cases h0 : m = 0
      · rw [if_pos ⟨trivial, h0⟩] at h; cases h
      · rw [if_neg (by simp [h0])] at h
        by_cases hb : 20000 < 10 * m + (c.toNat - 48)
        · rw [if_pos hb] at h; cases h
        · rw [if_neg hb] at h
          obtain ⟨hn, pre, hl, hg⟩ := ih _ _ _ h (by omega)
          refine ⟨hn, c :: pre, by rw [hl]; rfl, ?_⟩
          rw [hg, digs_step h0 hd, List.append_assoc]; rfl
    · rw [if_neg hd] at h
      by_cases h58 : c = 58
      · rw [if_pos h58] at h
        injection h with h; injection h with h1 h2; subst h1; subst h2
        exact ⟨hm, [], by simp [h58], by simp⟩
      · rw [if_neg h58] at h; cases h

theorem rdLen_first_inv {c : UInt8} {l : List UInt8} {n : Nat} {r : List UInt8} (hd : isDig c = true) (h : rdLen 0 true (c :: l) = .ok (n, r)) :
    n ≤ 20000 ∧ c :: l = digs n ++ 58 :: r := by
  have hc := (isDig_iff c).1 hd
  simp only [rdLen] at h
  rw [if_pos hd, if_neg (by simp), if_neg (by omega)] at h
  simp only [Nat.mul_zero, Nat.zero_add] at h
  obtain ⟨hn, pre, hl, hg⟩ := rdLen_inv _ _ _ _ h (by omega)
  refine ⟨hn, ?_⟩
  rw [hg, digs_first hd, hl]; rfl

/-- A beginning of the digits alone is cut off. -/
theorem rdLen_pre : ∀ (n : Nat), n ≤ 20000 → ∀ p q, p ++ q = digs n → p ≠ [] → rdLen 0 true p = .error 4 := by
  intro n
  induction n using Nat.strongRecOn with
  | _ n ih =>
    intro hn p q hpq hp
    rcases List.eq_nil_or_concat q with rfl | ⟨q', x, rfl⟩
    · rw [List.append_nil] at hpq; subst hpq
      have := rdLen_digs n hn []
      rw [List.append_nil] at this; rw [this]; rfl
    · by_cases h : n < 10
      · rw [digs_small h] at hpq
        have hl := congrArg List.length hpq
        simp at hl
        exact absurd (List.length_eq_zero_iff.1 (by omega : p.length = 0)) hp
      · rw [digs_big h, List.concat_eq_append, ← List.append_assoc] at hpq
        exact ih (n / 10) (by omega) (by omega) p q' (List.append_inj_left' hpq rfl) hp

/-! ### encodings begin with a parenthesis or a digit -/
theorem enc_head (t : Tr) : ∃ c l, enc t = c :: l ∧ c ≠ 41 ∧ (c = 40 ∨ isDig c = true) := by
  cases t with
  | mk l s ks =>
    cases l with
    | true => exact ⟨40, _, by rw [enc, if_pos rfl], by decide, .inl rfl⟩
    | false =>
      cases hd : digs s.length with
      | nil => exact absurd hd (digs_ne_nil _)
      | cons c r =>
        have hc : isDig c = true := digs_isDig s.length c (by rw [hd]; simp)
        refine ⟨c, r ++ 58 :: s, by rw [enc, if_neg (by simp), hd]; rfl, ?_, .inr hc⟩
        rintro rfl; rw [not_isDig_41] at hc; cases hc

theorem enc_pos (t : Tr) : 1 ≤ (enc t).length := by
  obtain ⟨c, l, h, _⟩ := enc_head t; rw [h]; simp

theorem encL_length_ge : ∀ ks : List Tr, ks.length ≤ (encL ks).length
  | [] => by simp [encL]
  | k :: ks => by have := encL_length_ge ks; have := enc_pos k; simp [encL]; omega

/-! ### Decode inverts Encode -/
theorem rdText_enc (s : List UInt8) (hs : s.length ≤ 20000) (rest : List UInt8) : rdText (digs s.length ++ 58 :: s ++ rest) = .ok (.mk false s [], rest) := by
  unfold rdText
  rw [List.append_assoc, rdLen_digs _ hs, List.cons_append, rdLen_colon]
  simp

mutual
theorem rdNode_enc (t : Tr) : ∀ (d count : Nat) (rest : List UInt8), check t (13 - d) = 0 → (enc t).length ≤ 20000 → count < 256 → d ≤ 12 →
    rdNode d count (enc t ++ rest) = .ok (t, rest) := by
  cases t with
  | mk l s ks =>
    intro d count rest hc hl hcount hd
    rw [check] at hc
    by_cases h1 : (l = true ∧ s ≠ []) ∨ (l = false ∧ ks ≠ [])
    · rw [if_pos h1] at hc; cases hc
    · rw [if_neg h1] at hc
      by_cases h2 : 12 < 13 - d ∨ 256 < ks.length
      · rw [if_pos h2] at hc; cases hc
      · rw [if_neg h2] at hc
        obtain ⟨d, rfl⟩ : ∃ e, d = e + 1 := ⟨d - 1, by omega⟩
        cases l with
        | true =>
          have hs : s = [] := by
            apply Classical.byContradiction; intro h; exact h1 (.inl ⟨rfl, h⟩)
          subst hs
          rw [enc, if_pos rfl] at hl ⊢
          simp only [List.cons_append, rdNode]
          rw [if_neg (by simp), if_neg (by omega), if_pos trivial]
          have := rdKids_enc ks d ((encL ks ++ [41] ++ rest).length + 1) [] rest (by rw [show 13 - d = 13 - (d + 1) + 1 by omega]; exact hc)
            (by simp at hl; omega) (by simp; omega) (by have := encL_length_ge ks; simp; omega) (by omega)
          simp only [List.append_assoc, List.cons_append, List.nil_append] at this ⊢
          rw [this]
        | false =>
          have hks : ks = [] := by
            apply Classical.byContradiction; intro h; exact h1 (.inr ⟨rfl, h⟩)
          subst hks
          obtain ⟨c, r, he, hne, hcd⟩ := enc_head (.mk false s [])
          have hs : s.length ≤ 20000 := by rw [enc, if_neg (by simp)] at hl; simp at hl; omega
          have ht := rdText_enc s hs rest
          have he' := he
          rw [enc, if_neg (by simp)] at he'
          rw [he'] at ht
          rw [he]
          have hd' : isDig c = true := by
            rcases hcd with h40 | h
            · subst h40
              exfalso
              cases hg : digs s.length with
              | nil => exact digs_ne_nil _ hg
              | cons x y =>
                rw [hg] at he'; injection he' with hx _; subst hx
                have := digs_isDig s.length 40 (by rw [hg]; simp)
                rw [not_isDig_40] at this; cases this
            · exact h
          have h40 : c ≠ 40 := by rintro rfl; rw [not_isDig_40] at hd'; cases hd'
          simp only [List.cons_append, rdNode]
          rw [if_neg (by simp [hd']), if_neg (by omega), if_neg h40]
          exact ht
theorem rdKids_enc (ks : List Tr) : ∀ (d f : Nat) (acc : List Tr) (rest : List UInt8), checkL ks (13 - d) = 0 → (encL ks).length ≤ 20000 → acc.length + ks.length ≤ 256 → ks.length < f → d ≤ 12 →
    rdKids (rdNode d) f acc (encL ks ++ 41 :: rest) = .ok (acc ++ ks, rest) := by
  cases ks with
  | nil =>
    intro d f acc rest hc hl ha hf hd
    obtain ⟨f, rfl⟩ : ∃ e, f = e + 1 := ⟨f - 1, by simp at hf; omega⟩
    simp [encL, rdKids]
  | cons k ks =>
    intro d f acc rest hc hl ha hf hd
    obtain ⟨f, rfl⟩ : ∃ e, f = e + 1 := ⟨f - 1, by simp at hf; omega⟩
    rw [checkL] at hc
    by_cases hk : check k (13 - d) = 0
    · rw [if_pos hk] at hc
      simp only [encL, List.length_append] at hl
      simp only [List.length_cons] at ha hf
      have h1 := rdNode_enc k d acc.length (encL ks ++ 41 :: rest) hk (by omega) (by omega) hd
      have h2 := rdKids_enc ks d f (acc ++ [k]) rest hc (by omega) (by simp; omega) (by omega) hd
      obtain ⟨c, r, he, hne, _⟩ := enc_head k
      rw [encL, List.append_assoc]
      rw [he] at h1 ⊢
      simp only [List.cons_append] at h1 ⊢
      rw [rdKids, if_neg hne, h1]
      simp only [h2, List.append_assoc, List.cons_append, List.nil_append]
    · rw [if_neg hk] at hc; exact absurd hc hk
end

/-! ### Encode inverts Decode -/
theorem rdText_inv {c : UInt8} {l : List UInt8} {t : Tr} {r : List UInt8} (hd : isDig c = true) (h : rdText (c :: l) = .ok (t, r)) :
    ∃ s, t = .mk false s [] ∧ c :: l = enc t ++ r := by
  unfold rdText at h
  split at h
  · cases h
  · rename_i n r' hlen
    split at h
    · cases h
    · rename_i hn
      injection h with h; injection h with h1 h2
      obtain ⟨_, hl⟩ := rdLen_first_inv hd hlen
      have hlen' : (r'.take n).length = n := by simp; omega
      refine ⟨r'.take n, h1.symm, ?_⟩
      rw [← h1, ← h2, enc, if_neg (by simp), hlen', hl]
      simp

theorem rdKids_inv {rd : Nat → List UInt8 → Except Nat (Tr × List UInt8)} {lv : Nat}
    (hrd : ∀ count l t r, rd count l = .ok (t, r) → l = enc t ++ r ∧ check t lv = 0 ∧ count < 256) :
    ∀ (f : Nat) (acc : List Tr) (l : List UInt8) (ks' : List Tr) (rest : List UInt8), rdKids rd f acc l = .ok (ks', rest) → acc.length ≤ 256 →
      ∃ ks, ks' = acc ++ ks ∧ l = encL ks ++ 41 :: rest ∧ checkL ks lv = 0 ∧ ks'.length ≤ 256 := by
  intro f
  induction f with
  | zero => intro acc l ks' rest h; simp [rdKids] at h
  | succ f ih =>
    intro acc l ks' rest h ha
    cases l with
    | nil => simp [rdKids] at h
    | cons c l =>
      rw [rdKids] at h
      by_cases h41 : c = 41
      · rw [if_pos h41] at h
        injection h with h; injection h with h1 h2
        subst h1; subst h2
        exact ⟨[], by simp, by simp [encL, h41], by simp [checkL], ha⟩
      · rw [if_neg h41] at h
        split at h
        · cases h
        · rename_i t r' hr
          obtain ⟨he, hck, hcn⟩ := hrd _ _ _ _ hr
          obtain ⟨ks, hks, hl, hc, hlen⟩ := ih _ _ _ _ h (by simp; omega)
          refine ⟨t :: ks, by rw [hks]; simp, by rw [he, hl, encL]; simp, by rw [checkL, if_pos hck]; exact hc, hlen⟩

theorem rdNode_inv : ∀ (d count : Nat) (l : List UInt8) (t : Tr) (r : List UInt8), d ≤ 12 → rdNode d count l = .ok (t, r) →
    l = enc t ++ r ∧ check t (13 - d) = 0 ∧ count < 256 := by
  intro d
  induction d with
  | zero =>
    intro count l t r _ h
    cases l with
    | nil => simp [rdNode] at h
    | cons c l => simp only [rdNode] at h; split at h <;> cases h
  | succ d ih =>
    intro count l t r hd h
    cases l with
    | nil => simp [rdNode] at h
    | cons c l =>
      rw [rdNode] at h
      by_cases h1 : c ≠ 40 ∧ isDig c = false
      · rw [if_pos h1] at h; cases h
      · rw [if_neg h1] at h
        by_cases h2 : 256 ≤ count
        · rw [if_pos h2] at h; cases h
        · rw [if_neg h2] at h
          by_cases h40 : c = 40
          · rw [if_pos h40] at h
            split at h
            · cases h
            · rename_i ks r' hk
              injection h with h; injection h with e1 e2
              obtain ⟨ks', hks, hl, hc, hlen⟩ := rdKids_inv (lv := 13 - d) (fun count l t r hh => ih count l t r (by omega) hh) _ _ _ _ _ hk (by simp)
              simp only [List.nil_append] at hks
              subst hks; subst e1; subst e2
              refine ⟨?_, ?_, by omega⟩
              · rw [enc, if_pos rfl, hl, h40]; simp
              · rw [check, if_neg (by simp), if_neg (by omega), show 13 - (d + 1) + 1 = 13 - d by omega]; exact hc
          · rw [if_neg h40] at h
            have hdg : isDig c = true := by
              cases hx : isDig c with
              | true => rfl
              | false => exact absurd ⟨h40, hx⟩ h1
            obtain ⟨s, e1, e2⟩ := rdText_inv hdg h
            refine ⟨e2, ?_, by omega⟩
            rw [e1, check, if_neg (by simp), if_neg (by simp)]
            rfl

/-! ### beginnings of encodings -/
theorem rdText_pre (s : List UInt8) (hs : s.length ≤ 20000) (p q : List UInt8) (hpq : p ++ q = digs s.length ++ 58 :: s) (hq : q ≠ []) (hp : p ≠ []) : rdText p = .error 4 := by
  rcases List.append_eq_append_iff.1 hpq with ⟨a, ha, hb⟩ | ⟨a, ha, hb⟩
  · -- digs = p ++ a
    unfold rdText
    rw [rdLen_pre s.length hs p a ha.symm hp]
  · -- p = digs ++ a, 58 :: s = a ++ q
    cases a with
    | nil =>
      unfold rdText
      rw [rdLen_pre s.length hs p [] (by simpa using ha) hp]
    | cons x a =>
      rw [List.cons_append] at hb
      injection hb with h1 h2
      subst h1
      unfold rdText
      rw [ha, rdLen_digs _ hs, rdLen_colon]
      have hl : s.length = a.length + q.length := by rw [h2]; simp
      have hq' : 0 < q.length := List.length_pos_iff.2 hq
      simp; omega

mutual
theorem rdNode_pre (t : Tr) : ∀ (d count : Nat) (p q : List UInt8), check t (13 - d) = 0 → (enc t).length ≤ 20000 → count < 256 → d ≤ 12 → p ++ q = enc t → q ≠ [] →
    rdNode d count p = .error 4 := by
  cases t with
  | mk l s ks =>
    intro d count p q hc hl hcount hd hpq hq
    cases p with
    | nil => simp [rdNode]
    | cons c p =>
    rw [check] at hc
    by_cases h1 : (l = true ∧ s ≠ []) ∨ (l = false ∧ ks ≠ [])
    · rw [if_pos h1] at hc; cases hc
    · rw [if_neg h1] at hc
      by_cases h2 : 12 < 13 - d ∨ 256 < ks.length
      · rw [if_pos h2] at hc; cases hc
      · rw [if_neg h2] at hc
        obtain ⟨d, rfl⟩ : ∃ e, d = e + 1 := ⟨d - 1, by omega⟩
        cases l with
        | true =>
          rw [enc, if_pos rfl] at hl hpq
          rw [List.cons_append] at hpq
          injection hpq with hc40 hpq
          subst hc40
          have hpl : p.length < (encL ks ++ [41]).length := by
            rw [← hpq]; have := List.length_pos_iff.2 hq; simp; omega
          rw [rdNode, if_neg (by simp), if_neg (by omega), if_pos rfl]
          have := rdKids_pre ks d (p.length + 1) [] p q (by rw [show 13 - d = 13 - (d + 1) + 1 by omega]; exact hc)
            (by simp at hl; omega) (by simp; omega) (by omega) (by omega) hpq hq
          rw [this]
        | false =>
          have hks : ks = [] := by
            apply Classical.byContradiction; intro h; exact h1 (.inr ⟨rfl, h⟩)
          subst hks
          rw [enc, if_neg (by simp)] at hl hpq
          have hs : s.length ≤ 20000 := by simp at hl; omega
          have hd' : isDig c = true := by
            cases hg : digs s.length with
            | nil => exact absurd hg (digs_ne_nil _)
            | cons x y =>
              rw [hg, List.cons_append, List.cons_append] at hpq; injection hpq with hx _; subst hx
              exact digs_isDig s.length c (by rw [hg]; simp)
          have h40 : c ≠ 40 := by rintro rfl; rw [not_isDig_40] at hd'; cases hd'
          rw [rdNode, if_neg (by simp [hd']), if_neg (by omega), if_neg h40]
          exact rdText_pre s hs (c :: p) q hpq hq (by simp)
theorem rdKids_pre (ks : List Tr) : ∀ (d f : Nat) (acc : List Tr) (p q : List UInt8), checkL ks (13 - d) = 0 → (encL ks).length ≤ 20000 → acc.length + ks.length ≤ 256 → p.length < f → d ≤ 12 →
    p ++ q = encL ks ++ [41] → q ≠ [] → rdKids (rdNode d) f acc p = .error 4 := by
  cases ks with
  | nil =>
    intro d f acc p q hc hl ha hf hd hpq hq
    obtain ⟨f, rfl⟩ : ∃ e, f = e + 1 := ⟨f - 1, by omega⟩
    have hlen := congrArg List.length hpq
    have hq' := List.length_pos_iff.2 hq
    simp [encL] at hlen
    have hp : p = [] := List.length_eq_zero_iff.1 (by omega)
    subst hp
    simp [rdKids]
  | cons k ks =>
    intro d f acc p q hc hl ha hf hd hpq hq
    obtain ⟨f, rfl⟩ : ∃ e, f = e + 1 := ⟨f - 1, by omega⟩
    rw [checkL] at hc
    by_cases hk : check k (13 - d) = 0
    · rw [if_pos hk] at hc
      simp only [encL, List.length_append] at hl
      simp only [List.length_cons] at ha
      cases p with
      | nil => simp [rdKids]
      | cons c p =>
      obtain ⟨c', r, he, hne, _⟩ := enc_head k
      have hcc : c = c' := by
        rw [encL, he, List.cons_append, List.cons_append, List.cons_append] at hpq
        injection hpq
      subst hcc
      rw [rdKids, if_neg hne]
      rw [encL, List.append_assoc] at hpq
      rcases List.append_eq_append_iff.1 hpq with ⟨a, h1, h2⟩ | ⟨a, h1, h2⟩
      · -- enc k = (c :: p) ++ a
        by_cases hn : a = []
        · subst hn
          have hx := rdNode_enc k d acc.length [] hk (by omega) (by omega) hd
          rw [h1, List.append_nil, List.append_nil] at hx
          rw [hx]
          simp only [List.nil_append] at h2
          have hy := rdKids_pre ks d f (acc ++ [k]) [] q hc (by omega) (by simp; omega) (by simp at hf ⊢; omega) hd (by simpa using h2) hq
          exact hy
        · rw [rdNode_pre k d acc.length (c :: p) a hk (by omega) (by omega) hd h1.symm hn]
      · -- c :: p = enc k ++ a
        have hx := rdNode_enc k d acc.length a hk (by omega) (by omega) hd
        rw [h1, hx]
        have hal : a.length ≤ p.length := by
          have := congrArg List.length h1
          have h3 := enc_pos k
          simp at this; omega
        exact rdKids_pre ks d f (acc ++ [k]) a q hc (by omega) (by simp; omega) (by simp at hf; omega) hd h2.symm hq
    · rw [if_neg hk] at hc; exact absurd hc hk
end

/-! ### the laws -/
theorem encode_ok {t : Tr} {s : List UInt8} (h : encode t = .ok s) : check t 1 = 0 ∧ s = enc t ∧ s.length ≤ 20000 := by
  unfold encode at h
  by_cases hc : check t 1 = 0
  · rw [if_neg (by simp [hc])] at h
    by_cases hl : 20000 < (enc t).length
    · rw [if_pos hl] at h; cases h
    · rw [if_neg hl] at h
      injection h with h
      exact ⟨hc, h.symm, by rw [← h]; omega⟩
  · rw [if_pos hc] at h; cases h

theorem encode_of {t : Tr} (hc : check t 1 = 0) (hl : (enc t).length ≤ 20000) : encode t = .ok (enc t) := by
  unfold encode
  rw [if_neg (by simp [hc]), if_neg (by omega)]

theorem decode_encode {t : Tr} {s : List UInt8} (h : encode t = .ok s) : decode s = .ok t := by
  obtain ⟨hc, rfl, hl⟩ := encode_ok h
  unfold decode
  have := rdNode_enc t 12 0 [] hc hl (by omega) (by omega)
  rw [List.append_nil] at this
  rw [if_neg (by omega), this]
  simp

theorem encode_decode {t : Tr} {s : List UInt8} (h : decode s = .ok t) : encode t = .ok s := by
  unfold decode at h
  by_cases hl : 20000 < s.length
  · rw [if_pos hl] at h; cases h
  · rw [if_neg hl] at h
    split at h
    · cases h
    · rename_i t' r hr
      split at h
      · rename_i hr0
        injection h with h; subst h; subst hr0
        obtain ⟨e1, e2, _⟩ := rdNode_inv _ _ _ _ _ (by omega) hr
        rw [List.append_nil] at e1
        rw [encode_of e2 (by rw [← e1]; omega), e1]
      · cases h

theorem decode_pre {t : Tr} {s p q : List UInt8} (h : encode t = .ok s) (hpq : p ++ q = s) (hq : q ≠ []) : decode p = .error 4 := by
  obtain ⟨hc, rfl, hl⟩ := encode_ok h
  unfold decode
  have hpl : p.length ≤ (enc t).length := by rw [← hpq]; simp
  rw [if_neg (by omega), rdNode_pre t 12 0 p q hc hl (by omega) (by omega) hpq hq]

theorem decode_more {t : Tr} {s m : List UInt8} (h : encode t = .ok s) (hm : m ≠ []) (hl : s.length + m.length ≤ 20000) : decode (s ++ m) = .error 2 := by
  obtain ⟨hc, rfl, hl'⟩ := encode_ok h
  unfold decode
  rw [if_neg (by simp; omega), rdNode_enc t 12 0 m hc hl' (by omega) (by omega)]
  simp [hm]

theorem apart {a b : Tr} {s t : List UInt8} (ha : encode a = .ok s) (hb : encode b = .ok t) (m : List UInt8) (h : t = s ++ m) : a = b := by
  obtain ⟨hc, rfl, hl⟩ := encode_ok ha
  obtain ⟨hc', rfl, hl'⟩ := encode_ok hb
  have h1 := rdNode_enc a 12 0 m hc hl (by omega) (by omega)
  have h2 := rdNode_enc b 12 0 [] hc' hl' (by omega) (by omega)
  rw [List.append_nil, h, h1] at h2
  injection h2 with h2; injection h2

mutual
theorem check_mono (t : Tr) : ∀ lv, check t (lv + 1) = 0 → check t lv = 0 := by
  cases t with
  | mk l s ks =>
    intro lv h
    rw [check] at h ⊢
    split at h
    · cases h
    · rename_i h1
      rw [if_neg h1]
      split at h
      · cases h
      · rename_i h2
        rw [if_neg (by omega)]
        exact checkL_mono ks (lv + 1) h
theorem checkL_mono (ks : List Tr) : ∀ lv, checkL ks (lv + 1) = 0 → checkL ks lv = 0 := by
  cases ks with
  | nil => intro lv _; simp [checkL]
  | cons k ks =>
    intro lv h
    rw [checkL] at h ⊢
    split at h
    · rename_i hk
      rw [if_pos (check_mono k lv hk)]
      exact checkL_mono ks lv h
    · rename_i hk; exact absurd h hk
end

theorem check_le (t : Tr) (lv m : Nat) (h : check t (lv + m) = 0) : check t lv = 0 := by
  induction m with
  | zero => exact h
  | succ m ih => exact ih (check_mono t _ h)

theorem checkL_mem {ks : List Tr} {lv : Nat} (h : checkL ks lv = 0) : ∀ k ∈ ks, check k lv = 0 := by
  induction ks with
  | nil => intro k hk; cases hk
  | cons x ks ih =>
    rw [checkL] at h
    split at h
    · rename_i hx
      intro k hk
      rcases List.mem_cons.1 hk with rfl | hk
      · exact hx
      · exact ih h k hk
    · rename_i hx; exact absurd h hx

theorem enc_mem {ks : List Tr} {k : Tr} (h : k ∈ ks) : ∃ a b, encL ks = a ++ enc k ++ b := by
  induction ks with
  | nil => cases h
  | cons x ks ih =>
    rcases List.mem_cons.1 h with rfl | h
    · exact ⟨[], encL ks, by simp [encL]⟩
    · obtain ⟨a, b, hab⟩ := ih h
      exact ⟨enc x ++ a, b, by simp [encL, hab]⟩

theorem check_kids {t : Tr} {lv : Nat} (h : check t lv = 0) : checkL t.kids (lv + 1) = 0 ∧ (t.list = true → t.text = []) ∧ (t.list = false → t.kids = []) := by
  cases t with
  | mk l s ks =>
    rw [check] at h
    split at h
    · cases h
    · rename_i h1
      split at h
      · cases h
      · refine ⟨h, fun hl => ?_, fun hl => ?_⟩
        · apply Classical.byContradiction; intro hs; exact h1 (.inl ⟨hl, hs⟩)
        · apply Classical.byContradiction; intro hs; exact h1 (.inr ⟨hl, hs⟩)

theorem encode_at : ∀ (p : List Int) (t b : Tr) (s : List UInt8), encode t = .ok s → at? t p = some b → ∃ u x y, encode b = .ok u ∧ s = x ++ u ++ y := by
  intro p
  induction p with
  | nil => intro t b s h hb; simp [at?] at hb; subst hb; exact ⟨s, [], [], h, by simp⟩
  | cons i p ih =>
    intro t b s h hb
    obtain ⟨hc, rfl, hl⟩ := encode_ok h
    rw [at?] at hb
    split at hb
    · rename_i hcond
      split at hb
      · rename_i k hk
        have hmem : k ∈ t.kids := List.mem_of_getElem? hk
        obtain ⟨hck, _, _⟩ := check_kids hc
        have hk1 : check k 1 = 0 := check_le k 1 1 (checkL_mem hck k hmem)
        obtain ⟨x, y, hxy⟩ := enc_mem hmem
        have het : enc t = 40 :: (x ++ enc k ++ y ++ [41]) := by
          cases t with
          | mk l s' ks =>
            obtain rfl : l = true := hcond.1
            rw [enc, if_pos rfl]
            rw [show encL ks = x ++ enc k ++ y from hxy]
        have hkl : (enc k).length ≤ 20000 := by rw [het] at hl; simp at hl; omega
        obtain ⟨u, x', y', hu, hxy'⟩ := ih k b (enc k) (encode_of hk1 hkl) hb
        refine ⟨u, 40 :: (x ++ x'), y' ++ y ++ [41], hu, ?_⟩
        rw [het, hxy']; simp
      · cases hb
    · cases hb

theorem at?_append : ∀ (p q : List Int) (t : Tr), at? t (p ++ q) = (at? t p).bind fun b => at? b q := by
  intro p
  induction p with
  | nil => intro q t; simp [at?]
  | cons i p ih =>
    intro q t
    rw [List.cons_append, at?, at?]
    split
    · split
      · rw [ih]
      · rfl
    · rfl

/-! ### sizes -/
mutual
theorem enc_length_le (t : Tr) : (enc t).length ≤ 2 * size t := by
  cases t with
  | mk l s ks =>
    have h1 := encL_length_le ks
    have h2 := digs_length_le s.length
    rw [enc, size]
    split <;> simp <;> omega
theorem encL_length_le (ks : List Tr) : (encL ks).length ≤ 2 * sizeL ks := by
  cases ks with
  | nil => simp [encL]
  | cons k ks =>
    have h1 := enc_length_le k
    have h2 := encL_length_le ks
    rw [encL, sizeL]; simp; omega
end

/-! ### the writer -/
mutual
theorem wr_spec (t : Tr) : ∀ b : List UInt8, (wr b t = b ++ enc t ∨ (20000 < (wr b t).length ∧ 20000 < b.length + (enc t).length)) := by
  cases t with
  | mk l s ks =>
    intro b
    rw [wr, enc]
    by_cases hb : 20000 < b.length
    · rw [if_pos hb]; exact .inr ⟨hb, by omega⟩
    · rw [if_neg hb]
      cases l with
      | true =>
        rw [if_pos rfl, if_pos rfl]
        rcases wrL_spec ks (b ++ [40]) with h | ⟨h, h'⟩
        · left; rw [h]; simp
        · right; simp at h' ⊢; omega
      | false => rw [if_neg (by simp), if_neg (by simp)]; left; simp
theorem wrL_spec (ks : List Tr) : ∀ b : List UInt8, (wrL b ks = b ++ encL ks ∨ (20000 < (wrL b ks).length ∧ 20000 < b.length + (encL ks).length)) := by
  cases ks with
  | nil => intro b; left; simp [wrL, encL]
  | cons k ks =>
    intro b
    rw [wrL, encL]
    rcases wr_spec k b with h | ⟨h, h'⟩
    · rcases wrL_spec ks (wr b k) with g | ⟨g, g'⟩
      · left; rw [g, h]; simp
      · right; rw [h] at g'; simp at g' ⊢; omega
    · rcases wrL_spec ks (wr b k) with g | ⟨g, g'⟩
      · right; rw [g]; simp; omega
      · right; simp at h' ⊢; omega
end

theorem encode_wr (t : Tr) (hc : check t 1 = 0) : encode t = if 20000 < (wr [] t).length then .error 5 else .ok (wr [] t) := by
  unfold encode
  rw [if_neg (by simp [hc])]
  rcases wr_spec t [] with h | ⟨h, h'⟩
  · rw [h]; simp
  · rw [if_pos h, if_pos (by simpa using h')]

end Go.Proofs.YtfpeplpoliileaaDoor.Pl
