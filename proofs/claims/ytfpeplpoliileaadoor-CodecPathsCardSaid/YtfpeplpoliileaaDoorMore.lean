/- More plain laws: errors are not OK; a tree is no larger than its encoding. -/
import Derived.Test.YtfpeplpoliileaaDoorPlain
namespace Go.Proofs.YtfpeplpoliileaaDoor.Pl

theorem rdLen_err : ∀ (l : List UInt8) (m n : Nat) (b : Bool), rdLen m b l = .error n → n ≠ 0 := by
  intro l
  induction l with
  | nil => intro m n b h; rw [rdLen] at h; injection h with h; omega
  | cons c l ih =>
    intro m n b h
    rw [rdLen] at h
    split at h
    · split at h
      · injection h with h; omega
      · split at h
        · injection h with h; omega
        · exact ih _ _ _ h
    · split at h
      · cases h
      · injection h with h; omega

theorem rdText_err0 {l : List UInt8} {n : Nat} (h : rdText l = .error n) : n ≠ 0 := by
  unfold rdText at h
  split at h
  · rename_i e he
    injection h with h; subst h
    exact rdLen_err _ _ _ _ he
  · split at h
    · injection h with h; omega
    · cases h

theorem rdKids_err0 {rd : Nat → List UInt8 → Except Nat (Tr × List UInt8)} (h1 : ∀ count l n, rd count l = .error n → n ≠ 0) (h2 : ∀ count l t r, rd count l = .ok (t, r) → r.length < l.length) :
    ∀ (f : Nat) (acc : List Tr) (l : List UInt8) (n : Nat), l.length < f → rdKids rd f acc l = .error n → n ≠ 0 := by
  intro f
  induction f with
  | zero => intro acc l n hl; omega
  | succ f ih =>
    intro acc l n hl h
    cases l with
    | nil => rw [rdKids] at h; injection h with h; omega
    | cons c l =>
      rw [rdKids] at h
      split at h
      · cases h
      · split at h
        · rename_i e he
          injection h with h; subst h
          exact h1 _ _ _ he
        · rename_i t r he
          have := h2 _ _ _ _ he
          exact ih _ _ _ (by simp at this hl; omega) h

theorem rdNode_err0 : ∀ (d count : Nat) (l : List UInt8) (n : Nat), d ≤ 12 → rdNode d count l = .error n → n ≠ 0 := by
  intro d
  induction d with
  | zero =>
    intro count l n _ h
    cases l with
    | nil => rw [rdNode] at h; injection h with h; omega
    | cons c l =>
      rw [rdNode] at h
      split at h <;> (injection h with h; omega)
  | succ d ih =>
    intro count l n hd h
    cases l with
    | nil => rw [rdNode] at h; injection h with h; omega
    | cons c l =>
      rw [rdNode] at h
      split at h
      · injection h with h; omega
      · split at h
        · injection h with h; omega
        · split at h
          · split at h
            · rename_i e he
              injection h with h; subst h
              refine rdKids_err0 (fun count l n hh => ih count l n (by omega) hh) (fun count l t r hh => ?_) _ _ _ _ (by omega) he
              obtain ⟨e1, _, _⟩ := rdNode_inv d count l t r (by omega) hh
              have := enc_pos t
              rw [e1]; simp; omega
            · cases h
          · exact rdText_err0 h

theorem decode_err0 {s : List UInt8} {n : Nat} (h : decode s = .error n) : n ≠ 0 := by
  unfold decode at h
  split at h
  · injection h with h; omega
  · split at h
    · rename_i e he
      injection h with h; subst h
      exact rdNode_err0 _ _ _ _ (by omega) he
    · split at h
      · cases h
      · injection h with h; omega
theorem encode_err0 {t : Tr} {n : Nat} (h : encode t = .error n) : n ≠ 0 := by
  unfold encode at h
  split at h
  · rename_i hc
    injection h with h; rw [← h]; exact hc
  · split at h
    · injection h with h; omega
    · cases h

mutual
theorem size_le_enc (t : Tr) : ∀ lv, check t lv = 0 → size t ≤ (enc t).length := by
  cases t with
  | mk l s ks =>
    intro lv h
    obtain ⟨h1, h2, h3⟩ := check_kids h
    rw [size, enc]
    cases l with
    | true =>
      have hs : s = [] := h2 rfl
      have := sizeL_le_enc ks (lv + 1) h1
      rw [if_pos rfl, hs]; simp; omega
    | false =>
      have hk : ks = [] := h3 rfl
      rw [if_neg (by simp), hk, sizeL]; simp; omega
theorem sizeL_le_enc (ks : List Tr) : ∀ lv, checkL ks lv = 0 → sizeL ks ≤ (encL ks).length := by
  cases ks with
  | nil => intro lv _; simp [sizeL]
  | cons k ks =>
    intro lv h
    rw [checkL] at h
    split at h
    · rename_i hk
      have h1 := size_le_enc k lv hk
      have h2 := sizeL_le_enc ks lv h
      rw [sizeL, encL]; simp; omega
    · rename_i hk; exact absurd h hk
end

theorem size_of_encode {t : Tr} {s : List UInt8} (h : encode t = .ok s) : size t ≤ 20000 := by
  obtain ⟨hc, rfl, hl⟩ := encode_ok h
  have := size_le_enc t 1 hc
  omega
end Go.Proofs.YtfpeplpoliileaaDoor.Pl
