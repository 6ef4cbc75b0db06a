/- The plain laws behind JournalFirst, JournalPrefix, JournalChanges and JournalRoundTrip. -/
import Derived.Test.YtdbijjiolknbfaaDoorRefAppend
namespace Go.Proofs.YtdbijjiolknbfaaDoor
open Pl

/-! ### First -/
theorem first_law (s more : List UInt8) (hs : s.length ≤ 3000) (hm : more.length ≤ 3000) :
    (read s).n ≤ s.length ∧ (read (s.take (read s).n)).err = 0 ∧ (read (s.take (read s).n)).n = (read s).n ∧ (read (s.take (read s).n)).entries = (read s).entries ∧
    (read s).n ≤ (read (s.take (read s).n ++ more)).n ∧ (∃ x, (read (s.take (read s).n ++ more)).entries = (read s).entries ++ x) ∧ ((read s).err = 0 → (read s).n = s.length) := by
  obtain ⟨rest, h1, h2, h3, _, h5, _⟩ := read_inv s (by omega)
  generalize read s = r at *
  have hl := congrArg List.length h1
  rw [List.length_append] at hl
  have ht : s.take r.n = makeL 0 r.entries := by rw [h2, h1, List.take_left' rfl]
  have e0 := read_make (rest := []) h3 (by rw [List.append_nil]; omega)
  rw [List.append_nil, readL_nil] at e0
  have em := read_make (rest := more) h3 (by rw [List.length_append]; omega)
  rw [ht, e0, em]
  refine ⟨by omega, rfl, by show _ + 0 = _; omega, by simp, ?_, ⟨_, rfl⟩, ?_⟩
  · show r.n ≤ _ + _; omega
  · intro h
    have h6 := h5.1 h
    rw [h6] at hl
    simp at hl; omega

/-! ### lines and line feeds -/
theorem feeds_append (a b : List UInt8) : feeds (a ++ b) = feeds a + feeds b := by simp [feeds, List.countP_append]
theorem feeds_none {r : List UInt8} (h : ∀ c ∈ r, c ≠ 10) : feeds r = 0 := by
  rw [feeds, List.countP_eq_zero]
  intro c hc
  simpa using h c hc
theorem feeds_make {l : List (List UInt8)} : ∀ d, (∀ e ∈ l, isEntry e = true) → feeds (makeL d l) = l.length := by
  induction l with
  | nil => intro d _; rfl
  | cons e l ih =>
    intro d h
    rw [makeL, feeds_append, lineOf_body, feeds_append, feeds_none (body_ne (h e (by simp))), ih _ fun x hx => h x (by simp [hx])]
    rw [List.length_cons, show feeds [10] = 1 from rfl]
    omega
theorem whole_tail (a : List UInt8) {r : List UInt8} (h : ∀ c ∈ r, c ≠ 10) : whole_ (a ++ r) = whole_ a := by
  unfold whole_
  rw [List.reverse_append, List.takeWhile_append_of_pos (by intro c hc; simpa using h c (by simpa using hc))]
  simp
  omega
theorem makeL_end (l : List (List UInt8)) : ∀ d, makeL d l = [] ∨ ∃ a, makeL d l = a ++ [10] := by
  induction l with
  | nil => intro d; exact .inl rfl
  | cons e l ih =>
    intro d
    right
    rw [makeL, lineOf_body]
    rcases ih (chain d e) with h | ⟨a, h⟩
    · rw [h]; exact ⟨bodyOf d e, by simp⟩
    · rw [h]; exact ⟨bodyOf d e ++ [10] ++ a, by simp⟩
theorem whole_make (l : List (List UInt8)) (d : Nat) {r : List UInt8} (h : ∀ c ∈ r, c ≠ 10) : whole_ (makeL d l ++ r) = (makeL d l).length := by
  rw [whole_tail _ h]
  rcases makeL_end l d with h | ⟨a, h⟩
  · rw [h]; rfl
  · rw [h, whole_snoc_feed]; simp
theorem cut_make {l : List (List UInt8)} : ∀ d k, (∀ e ∈ l, isEntry e = true) → ∃ j r, j ≤ l.length ∧ (makeL d l).take k = makeL d (l.take j) ++ r ∧ ∀ c ∈ r, c ≠ 10 := by
  induction l with
  | nil => intro d k _; exact ⟨0, [], Nat.le_refl _, by simp [makeL], fun c hc => by cases hc⟩
  | cons e l ih =>
    intro d k h
    by_cases hk : (lineOf d e).length ≤ k
    · obtain ⟨j, r, h1, h2, h3⟩ := ih (chain d e) (k - (lineOf d e).length) fun x hx => h x (by simp [hx])
      refine ⟨j + 1, r, by simp; omega, ?_, h3⟩
      rw [makeL, List.take_append, List.take_of_length_le hk, h2, List.take_succ_cons, makeL, List.append_assoc]
    · refine ⟨0, (bodyOf d e).take k, Nat.zero_le _, ?_, fun c hc => body_ne (h e (by simp)) c (List.mem_of_mem_take hc)⟩
      have hb := body_length d e
      rw [lineOf_length] at hk
      rw [makeL, lineOf_body, List.append_assoc, List.take_append_of_le_length (by omega)]
      rfl
theorem readL_tail {r : List UInt8} (h : ∀ c ∈ r, c ≠ 10) (d : Nat) : readL r.length d r = ⟨[], 0, d, if r = [] then 0 else 4⟩ := by
  by_cases hr : r = []
  · subst hr; rfl
  · have hp : 0 < r.length := List.length_pos_iff.2 hr
    obtain ⟨f, hf⟩ : ∃ f, r.length = f + 1 := ⟨r.length - 1, by omega⟩
    rw [hf, readL_trunc hr (by rw [upto_none h]), if_neg hr]
theorem prefix_law {l : List (List UInt8)} (h : ∀ e ∈ l, isEntry e = true) (hl : (makeL 0 l).length ≤ 20000) (k : Nat) :
    feeds ((makeL 0 l).take k) ≤ l.length ∧ (read ((makeL 0 l).take k)).entries = l.take (feeds ((makeL 0 l).take k)) ∧ (read ((makeL 0 l).take k)).n = whole_ ((makeL 0 l).take k) ∧
    (read ((makeL 0 l).take k)).err = if whole_ ((makeL 0 l).take k) = ((makeL 0 l).take k).length then 0 else 4 := by
  have htl : ((makeL 0 l).take k).length ≤ (makeL 0 l).length := by rw [List.length_take]; omega
  obtain ⟨j, r, h1, h2, h3⟩ := cut_make 0 k h
  have hj : ∀ e ∈ l.take j, isEntry e = true := fun e he => h e (List.mem_of_mem_take he)
  have hf : feeds ((makeL 0 l).take k) = j := by rw [h2, feeds_append, feeds_none h3, feeds_make 0 hj, List.length_take]; omega
  have hw : whole_ ((makeL 0 l).take k) = (makeL 0 (l.take j)).length := by rw [h2, whole_make _ _ h3]
  have hr := read_make (rest := r) hj (by rw [← h2]; omega)
  rw [readL_tail h3] at hr
  rw [hf, hw, h2, hr]
  refine ⟨h1, by simp, by simp, ?_⟩
  show (if r = [] then 0 else 4) = _
  rw [List.length_append]
  by_cases hr0 : r = []
  · subst hr0; simp
  · have := List.length_pos_iff.2 hr0
    rw [if_neg hr0, if_neg (by omega)]

/-! ### Make -/
theorem makeE_cases (l : List (List UInt8)) : ∀ (d : Nat) (acc : List UInt8), (∀ e ∈ l, e.length ≤ 250) → acc.length + 268 * l.length ≤ 20000 →
    (makeE d acc l = ([], 2) ∧ ¬ ∀ e ∈ l, isEntry e = true) ∨ (makeE d acc l = (acc ++ makeL d l, 0) ∧ ∀ e ∈ l, isEntry e = true) := by
  induction l with
  | nil => intro d acc _ _; right; exact ⟨by simp [makeE, makeL], fun e he => by cases he⟩
  | cons e l ih =>
    intro d acc hs hl
    have he := hs e (by simp)
    have hll := lineOf_length d e
    rw [List.length_cons] at hl
    cases hie : isEntry e
    · left; exact ⟨makeE_bad hie, fun h => by have := h e (by simp); rw [hie] at this; cases this⟩
    · rw [makeE_go hie (by omega)]
      rcases ih (chain d e) (acc ++ lineOf d e) (fun x hx => hs x (by simp [hx])) (by rw [List.length_append]; omega) with ⟨h1, h2⟩ | ⟨h1, h2⟩
      · left; exact ⟨h1, fun h => h2 fun x hx => h x (by simp [hx])⟩
      · right
        refine ⟨by rw [h1, makeL, List.append_assoc], ?_⟩
        intro x hx
        rcases List.mem_cons.1 hx with rfl | hx
        · exact hie
        · exact h2 x hx
theorem makeL_le (l : List (List UInt8)) : ∀ d, (∀ e ∈ l, e.length ≤ 250) → (makeL d l).length ≤ 268 * l.length := by
  induction l with
  | nil => intro d _; simp [makeL]
  | cons e l ih =>
    intro d h
    have := ih (chain d e) fun x hx => h x (by simp [hx])
    have he := h e (by simp)
    rw [makeL, List.length_append, lineOf_length, List.length_cons]; omega

/-! ### a changed byte -/
theorem body_change {d : Nat} {e : List UInt8} {j : Nat} {x b : UInt8} (hx : (bodyOf d e)[j]? = some x) (hb : x ≠ b) (hf : form ((bodyOf d e).set j b) = true) :
    ((bodyOf d e).set j b).take 16 ≠ hex (chain d (((bodyOf d e).set j b).drop 17)) := by
  have hj : j < (bodyOf d e).length := (List.getElem?_eq_some_iff.1 hx).1
  rw [List.take_set, List.drop_set, body_take, body_drop]
  by_cases h1 : j < 16
  · rw [if_pos (by omega)]
    intro h
    have hjl : j < (hex (chain d e)).length := by rw [hex_length]; exact h1
    have h2 : ((hex (chain d e)).set j b)[j]? = some b := by rw [List.getElem?_set, if_pos rfl, if_pos hjl]
    rw [h] at h2
    rw [bodyOf, List.getElem?_append_left hjl, h2] at hx
    exact hb (Option.some.inj hx).symm
  · by_cases h2 : j = 16
    · subst h2
      exfalso
      rw [body_16] at hx
      simp only [form, Bool.and_eq_true, decide_eq_true_eq, beq_iff_eq] at hf
      obtain ⟨⟨⟨_, h4⟩, _⟩, _⟩ := hf
      rw [List.getElem?_set, if_pos rfl, if_pos hj, hx] at h4
      exact hb (Option.some.inj h4).symm
    · rw [if_neg (by omega), List.set_eq_of_length_le (by rw [hex_length]; omega)]
      intro h
      have h3 := hex_inj (chain_lt _ _) (chain_lt _ _) h
      have hbl := body_length d e
      obtain ⟨m, rfl⟩ : ∃ m, j = 17 + m := ⟨j - 17, by omega⟩
      rw [Nat.add_sub_cancel_left] at h3
      have hm : m < e.length := by omega
      have h4 : e[m]? = some x := by
        rw [← hx]
        conv => lhs; rw [← body_drop d e]
        rw [List.getElem?_drop]
      rw [List.getElem?_eq_getElem hm] at h4
      have h4 := Option.some.inj h4
      rw [List.set_eq_take_append_cons_drop, if_pos hm] at h3
      have h5 : e = e.take m ++ x :: e.drop (m + 1) := by rw [← h4, ← List.drop_eq_getElem_cons hm, List.take_append_drop]
      apply hb
      refine chain_byte d (e.take m) (e.drop (m + 1)) x b ?_
      rw [← h5]; exact h3
theorem split_at {l : List (List UInt8)} : ∀ (d i : Nat) (x : UInt8), (makeL d l)[i]? = some x → x ≠ 10 → ∃ l1 e l2 j, l = l1 ++ e :: l2 ∧ i = (makeL d l1).length + j ∧ (bodyOf (last d l1) e)[j]? = some x := by
  induction l with
  | nil => intro d i x hi; simp [makeL] at hi
  | cons e l ih =>
    intro d i x hi hne
    have hll : (lineOf d e).length = (bodyOf d e).length + 1 := by rw [lineOf_body, List.length_append]; rfl
    rw [makeL] at hi
    by_cases h1 : i < (bodyOf d e).length
    · rw [lineOf_body, List.append_assoc, List.getElem?_append_left h1] at hi
      exact ⟨[], e, l, i, rfl, by rw [makeL]; simp, hi⟩
    · by_cases h2 : i = (bodyOf d e).length
      · rw [lineOf_body, List.append_assoc, List.getElem?_append_right (by omega), h2, Nat.sub_self] at hi
        exact absurd (Option.some.inj hi).symm hne
      · rw [List.getElem?_append_right (by omega)] at hi
        obtain ⟨l1, y, l2, j, h3, h4, h5⟩ := ih (chain d e) _ x hi hne
        refine ⟨e :: l1, y, l2, j, by rw [h3]; rfl, ?_, by rw [last_cons]; exact h5⟩
        rw [makeL, List.length_append]; omega
theorem change_parts {l1 l2 : List (List UInt8)} {e M rest u : List UInt8} {d j : Nat} (hd : last 0 l1 = d) (hM : makeL 0 l1 = M) (hr : makeL (chain d e) l2 = rest) (hu : bodyOf d e = u) (hj : j < u.length) (b : UInt8) :
    (makeL 0 (l1 ++ e :: l2)).take (M.length + j) = M ++ u.take j ∧ (makeL 0 (l1 ++ e :: l2)).take (M.length + j) ++ b :: (makeL 0 (l1 ++ e :: l2)).drop (M.length + j + 1) = M ++ (u.set j b ++ 10 :: rest) ∧
    (makeL 0 (l1 ++ e :: l2)).length = M.length + (u.length + 1 + rest.length) := by
  have hS : makeL 0 (l1 ++ e :: l2) = M ++ (u ++ 10 :: rest) := by
    rw [makeL_append, makeL, lineOf_body, hd, hM, hu, hr]; simp
  rw [hS]
  have ht : (M ++ (u ++ 10 :: rest)).take (M.length + j) = M ++ u.take j := by
    rw [List.take_append, List.take_of_length_le (by omega), Nat.add_sub_cancel_left, List.take_append_of_le_length (by omega)]
  have hdr : (M ++ (u ++ 10 :: rest)).drop (M.length + j + 1) = u.drop (j + 1) ++ 10 :: rest := by
    rw [List.drop_append, List.drop_of_length_le (by omega), List.nil_append, show M.length + j + 1 - M.length = j + 1 by omega, List.drop_append_of_le_length (by omega)]
  refine ⟨ht, ?_, by simp only [List.length_append, List.length_cons]; omega⟩
  rw [ht, hdr, List.set_eq_take_append_cons_drop, if_pos hj]
  simp
theorem change_law {l : List (List UInt8)} (h : ∀ e ∈ l, isEntry e = true) (hl : (makeL 0 l).length ≤ 20000) {i : Nat} {x b : UInt8} (hx : (makeL 0 l)[i]? = some x) (h1 : x ≠ 10) (hb : b ≠ 10) (hne : x ≠ b) :
    feeds ((makeL 0 l).take i) ≤ l.length ∧ (read ((makeL 0 l).take i ++ b :: (makeL 0 l).drop (i + 1))).entries = l.take (feeds ((makeL 0 l).take i)) ∧
    (read ((makeL 0 l).take i ++ b :: (makeL 0 l).drop (i + 1))).n = whole_ ((makeL 0 l).take i) ∧
    ((read ((makeL 0 l).take i ++ b :: (makeL 0 l).drop (i + 1))).err = 2 ∨ (read ((makeL 0 l).take i ++ b :: (makeL 0 l).drop (i + 1))).err = 19) := by
  obtain ⟨l1, e, l2, j, rfl, rfl, hxj⟩ := split_at 0 i x hx h1
  have he : isEntry e = true := h e (by simp)
  have hl1 : ∀ x ∈ l1, isEntry x = true := fun x hx => h x (by simp [hx])
  have hj := (List.getElem?_eq_some_iff.1 hxj).1
  obtain ⟨p1, p2, p3⟩ := change_parts (l1 := l1) (l2 := l2) (e := e) rfl rfl rfl rfl hj b
  rw [p2, p1]
  rw [p3] at hl
  have hall : ∀ c ∈ bodyOf (last 0 l1) e, c ≠ 10 := body_ne he
  have hall2 : ∀ c ∈ (bodyOf (last 0 l1) e).set j b, c ≠ 10 := by
    intro c hc
    rcases List.mem_or_eq_of_mem_set hc with hc | hc
    · exact hall c hc
    · rw [hc]; exact hb
  have hallt : ∀ c ∈ (bodyOf (last 0 l1) e).take j, c ≠ 10 := fun c hc => hall c (List.mem_of_mem_take hc)
  have hft : feeds (makeL 0 l1 ++ (bodyOf (last 0 l1) e).take j) = l1.length := by
    rw [feeds_append, feeds_none hallt, feeds_make 0 hl1]; rfl
  have hwt : whole_ (makeL 0 l1 ++ (bodyOf (last 0 l1) e).take j) = (makeL 0 l1).length := whole_make _ _ hallt
  have hbc := body_change hxj hne
  rw [hft, hwt]
  generalize makeL (chain (last 0 l1) e) l2 = rest at *
  have hvl : ((bodyOf (last 0 l1) e).set j b).length = (bodyOf (last 0 l1) e).length := List.length_set
  generalize (bodyOf (last 0 l1) e).set j b = v at *
  have hlen : (makeL 0 l1 ++ (v ++ 10 :: rest)).length ≤ 20000 := by
    simp only [List.length_append, List.length_cons]; omega
  have hr := read_make hl1 hlen
  obtain ⟨f, hf⟩ : ∃ f, (v ++ 10 :: rest).length = f + 1 := ⟨v.length + rest.length, by simp only [List.length_append, List.length_cons]; omega⟩
  rw [hf] at hr
  have hup : upto (v ++ 10 :: rest) = v := upto_append hall2 rest
  have hn0 : v ++ 10 :: rest ≠ [] := by simp
  have hnl : (upto (v ++ 10 :: rest)).length ≠ (v ++ 10 :: rest).length := by rw [hup, List.length_append, List.length_cons]; omega
  have htl : (l1 ++ e :: l2).take l1.length = l1 := List.take_left' rfl
  rw [htl]
  have hle : l1.length ≤ (l1 ++ e :: l2).length := by rw [List.length_append]; omega
  cases hfm : form v
  · rw [readL_form hn0 hnl (by rw [hup]; exact hfm)] at hr
    rw [hr]
    exact ⟨hle, by simp, by simp, .inl rfl⟩
  · rw [readL_dig hn0 hnl (by rw [hup]; exact hfm) (by rw [hup]; exact hbc hfm)] at hr
    rw [hr]
    exact ⟨hle, by simp, by simp, .inr rfl⟩

/-! ### round trip -/
theorem read_whole {l : List (List UInt8)} (h : ∀ e ∈ l, isEntry e = true) (hl : (makeL 0 l).length ≤ 20000) : read (makeL 0 l) = ⟨l, (makeL 0 l).length, last 0 l, 0⟩ := by
  have e0 := read_make (rest := []) h (by rw [List.append_nil]; omega)
  rw [List.append_nil, readL_nil] at e0
  rw [e0]; simp
theorem append_whole {l : List (List UInt8)} (h : ∀ e ∈ l, isEntry e = true) (hl : (makeL 0 l).length ≤ 19000) {e : List UInt8} (he : e.length ≤ 250) :
    appendL (makeL 0 l) e = if isEntry e = true then (makeL 0 (l ++ [e]), 0) else ([], 2) := by
  have hll := lineOf_length (last 0 l) e
  rw [appendL, read_whole h (by omega), if_neg (by simp)]
  cases hie : isEntry e
  · simp
  · simp only [Bool.true_eq_false, if_false, if_true]
    rw [if_neg (by omega), makeL_append]
    simp [makeL]
theorem makeL_take {l : List ByteArray} {k : Nat} (h : k < l.length) : makeL 0 ((lb l).take (k + 1)) = makeL 0 ((lb l).take k) ++ lineOf (last 0 ((lb l).take k)) l[k].data.toList := by
  rw [List.take_succ_eq_append_getElem (by rw [lb_length]; exact h), lb_get h, makeL_append]
  simp [makeL]
end Go.Proofs.YtdbijjiolknbfaaDoor
