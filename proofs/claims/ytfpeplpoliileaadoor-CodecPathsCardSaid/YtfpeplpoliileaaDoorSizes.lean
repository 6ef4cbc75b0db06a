/- The walks of Size, small and check. -/
import Derived.Test.YtfpeplpoliileaaDoorMem
namespace Go.Proofs.YtfpeplpoliileaaDoor
open Go.RowKit Pl

mutual
/-- Size with a limit. -/
def szN : Tr → Nat → Nat
  | .mk _ s ks, lim => szL ks lim (1 + min s.length lim)
def szL : List Tr → Nat → Nat → Nat
  | [], _, sz => sz
  | k :: ks, lim, sz => if sz ≤ lim then szL ks lim (sz + szN k (lim - sz)) else sz
end

mutual
theorem szN_spec (t : Tr) : ∀ lim, (size t ≤ lim ∧ szN t lim = size t) ∨ (lim < size t ∧ lim < szN t lim ∧ szN t lim ≤ 2 * lim + 1) := by
  cases t with
  | mk l s ks =>
    intro lim
    rw [size, szN]
    rcases szL_spec ks lim (1 + min s.length lim) (by omega) (by omega) with ⟨h1, h2⟩ | ⟨h1, h2, h3⟩
    · by_cases h : s.length ≤ lim
      · rw [Nat.min_eq_left h] at h1 h2 ⊢
        exact .inl ⟨h1, h2⟩
      · rw [Nat.min_eq_right (by omega)] at h1; omega
    · right; refine ⟨by omega, h2, h3⟩
theorem szL_spec (ks : List Tr) : ∀ lim sz, 1 ≤ sz → sz ≤ lim + 1 → (sz + sizeL ks ≤ lim ∧ szL ks lim sz = sz + sizeL ks) ∨ (lim < sz + sizeL ks ∧ lim < szL ks lim sz ∧ szL ks lim sz ≤ 2 * lim + 1) := by
  cases ks with
  | nil => intro lim sz h1 h2; rw [szL, sizeL]; omega
  | cons k ks =>
    intro lim sz h1 h2
    rw [szL, sizeL]
    by_cases h : sz ≤ lim
    · rw [if_pos h]
      rcases szN_spec k (lim - sz) with ⟨g1, g2⟩ | ⟨g1, g2, g3⟩
      · rcases szL_spec ks lim (sz + szN k (lim - sz)) (by omega) (by omega) with ⟨f1, f2⟩ | ⟨f1, f2, f3⟩
        · left; omega
        · right; omega
      · have hx : szL ks lim (sz + szN k (lim - sz)) = sz + szN k (lim - sz) := by
          cases ks with
          | nil => rw [szL]
          | cons x xs => rw [szL, if_neg (by omega)]
        right; rw [hx]; omega
    · rw [if_neg h]; right; omega
end

theorem szN_le (t : Tr) (lim : Nat) : szN t lim ≤ 2 * lim + 1 := by
  rcases szN_spec t lim with h | h <;> omega
theorem szN_small (t : Tr) (lim : Nat) : szN t lim ≤ lim ↔ size t ≤ lim := by
  rcases szN_spec t lim with h | h <;> omega

theorem szL_step {ks : List Tr} {lim sz k : Nat} (hk : k < ks.length) (h : sz ≤ lim) : szL (ks.drop k) lim sz = szL (ks.drop (k + 1)) lim (sz + szN ks[k] (lim - sz)) := by
  rw [List.drop_eq_getElem_cons hk, szL, if_pos h]
theorem szL_stop {ks : List Tr} {lim sz k : Nat} (h : ¬ (k < ks.length ∧ sz ≤ lim)) : szL (ks.drop k) lim sz = sz := by
  by_cases hk : k < ks.length
  · rw [List.drop_eq_getElem_cons hk, szL, if_neg (by omega)]
  · rw [List.drop_of_length_le (by omega), szL]
theorem szN_eq (t : Tr) (lim : Nat) : szN t lim = szL (t.kids.drop 0) lim (1 + min t.text.length lim) := by
  cases t; rw [szN]; rfl

set_option maxHeartbeats 400000 in
theorem size_any (t : Tr) : ∀ (v : Value) (lim : Nat) (w : World), Lies anyB w t v → lim ≤ 100000 →
    Calls Tryd.prog 20 #[v, .int .i64 lim] w fun e w' => e = .returned (.int .i64 (szN t lim : Nat)) ∧ Below w.heap.size w w' := by
  induction t using Tr.ind with
  | h t ih =>
  intro v lim w ha hlim
  obtain ⟨sa, A, ca, rfl, hsa, hsl, hka, hea⟩ := ha.later
  have hsz : sa.size = t.text.length := by rw [Lib.size_eq, hsa]
  have IH := Lib.hid ih
  have HA := Lib.hid hea
  have hs2 : sa.size ≤ 9223372036854775807 := by rw [hsz]; unfold maxLen at hsl; omega
  have HR : Hid (szL (t.kids.drop 0) lim (1 + min sa.size lim) = szN t lim) := by rw [szN_eq, hsz]; exact rfl
  clear ih hea hsa ha hsz hsl
  unfold maxLen at hka
  have hmin1 : lim < sa.size → min sa.size lim = lim := fun h => Nat.min_eq_right (by omega)
  have hmin2 : ¬ lim < sa.size → min sa.size lim = sa.size := fun h => Nat.min_eq_left (by omega)
  have HM1 := Lib.hid hmin1
  have HM2 := Lib.hid hmin2
  clear hmin1 hmin2
  by_cases hcase : lim < sa.size
  all_goals
    go_enter Tryd.func20, Tryd.ntmps20
    go_wp2_with fail
    go_loopw [5, 6] (fun s i wr => ∃ k sz : Nat, k ≤ t.kids.length ∧ i = .int .i64 k ∧ s = .int .i64 sz ∧ sz ≤ 300000 ∧ Below (w.heap.size + 1) (w.alloc (.cells #[.bool t.list, .string sa, .slice A t.kids.length ca] 25)) wr ∧ szL (t.kids.drop k) lim sz = szN t lim) (fun _ i _ => t.kids.length - (intOf i).toNat)
    case atStart =>
      first
        | exact ⟨0, 1 + lim, Nat.zero_le _, rfl, by go_num, by omega, Below.refl _ _, by have := HR.out; rw [HM1.out hcase] at this; exact this⟩
        | exact ⟨0, 1 + sa.size, Nat.zero_le _, rfl, by go_num, by omega, Below.refl _ _, by have := HR.out; rw [HM2.out hcase] at this; exact this⟩
    case round =>
      obtain ⟨k, sz, hk, rfl, rfl, hszb, hB, hR⟩ := hrel
      have HR2 := Lib.hid hR
      clear hR HR
      have c1 : wr.cell? ⟨w.heap.size, 2, none⟩ = some (.slice A t.kids.length ca) := by rw [hB.cell (by simp)]; simp
      have hw : Below w.heap.size w wr := ((Below.refl _ _).alloc (Nat.le_refl _) _).trans (hB.mono (by omega))
      have hsz : w.heap.size + 1 ≤ wr.heap.size := by have := hB.size; simpa using this
      by_cases hlt : k < t.kids.length
      · by_cases hle : sz ≤ lim
        · obtain ⟨ba, oa, a0, a1, a2, rfl, _, hba, ca0, ca1, ca2, hka'⟩ := HA.out wr (fun g _ hg => hw.block g hg) k hlt
          have HLA := Lib.hid hka'
          have HST := Lib.hid (szL_step (lim := lim) hlt hle)
          have hb2 := szN_le t.kids[k] (lim - sz)
          clear hka' HA
          go_wp2_with fail
          rw [show ((lim : Int) - (sz : Int)) = ((lim - sz : Nat) : Int) by omega]
          refine (IH.out _ (List.getElem_mem hlt) _ (lim - sz) _ HLA.out (by omega)).mono ?_
          generalize hq : szN t.kids[k] (lim - sz) = q at *
          rintro e w1 ⟨rfl, hb1⟩
          have HQ := Lib.hid hq
          clear hq
          go_wp2_with fail
          go_roundw
          case rel => exact ⟨k + 1, sz + q, by omega, by go_num, by go_num, by omega, hB.trans (hb1.mono (by simpa using hsz)), by rw [← HR2.out, HST.out]⟩
          case measure => simp [intOf]; omega
        · have hstop := Lib.hid (szL_stop (ks := t.kids) (lim := lim) (sz := sz) (k := k) (by omega))
          clear HA
          go_wp2_with fail
          go_returns
          exact ⟨ret_int (by rw [← HR2.out, hstop.out]), hw⟩
      · have hstop := Lib.hid (szL_stop (ks := t.kids) (lim := lim) (sz := sz) (k := k) (by omega))
        clear HA
        go_wp2_with fail
        go_returns
        exact ⟨ret_int (by rw [← HR2.out, hstop.out]), hw⟩

theorem small_any (t : Tr) (v : Value) (w : World) (h : Lies anyB w t v) :
    Calls Tryd.prog 16 #[v] w fun e w' => e = .returned (.bool (decide (size t ≤ 21000))) ∧ Below w.heap.size w w' := by
  obtain ⟨sa, A, ca, rfl, hsa, hsl, hka, hea⟩ := h.open_
  have HH := Lib.hid h
  have HS : Hid (decide (((szN t 21000 : Nat) : Int) ≤ 21000) = decide (size t ≤ 21000)) := by
    have := szN_small t 21000
    show decide _ = decide _
    by_cases hx : size t ≤ 21000
    · rw [decide_eq_true hx, decide_eq_true (by have := this.2 hx; omega)]
    · rw [decide_eq_false hx, decide_eq_false (by intro hc; exact hx (this.1 (by omega)))]
  clear h hsa hsl hka hea
  go_enter Tryd.func16, Tryd.ntmps16
  go_wp2_with fail
  refine (size_any t _ 21000 _ (HH.out.below ((Below.refl _ _).alloc (Nat.le_refl _) _)) (by omega)).mono ?_
  rintro e w1 ⟨rfl, hb1⟩
  go_wp2_with fail
  go_returns
  exact ⟨ret_bool HS.out, ((Below.refl _ _).alloc (Nat.le_refl _) _).trans (hb1.mono (by simp))⟩

theorem checkL_step {ks : List Tr} {lv k : Nat} (hk : k < ks.length) (h : check ks[k] lv = 0) : checkL (ks.drop k) lv = checkL (ks.drop (k + 1)) lv := by
  rw [List.drop_eq_getElem_cons hk, checkL, if_pos h]
theorem checkL_stop {ks : List Tr} {lv k : Nat} (hk : k < ks.length) (h : check ks[k] lv ≠ 0) : checkL (ks.drop k) lv = check ks[k] lv := by
  rw [List.drop_eq_getElem_cons hk, checkL, if_neg h]
theorem checkL_end {ks : List Tr} {lv k : Nat} (hk : ks.length ≤ k) : checkL (ks.drop k) lv = 0 := by
  rw [List.drop_of_length_le hk, checkL]
theorem check_eq (t : Tr) (lv : Nat) : check t lv = if (t.list = true ∧ t.text ≠ []) ∨ (t.list = false ∧ t.kids ≠ []) then 1 else if 12 < lv ∨ 256 < t.kids.length then 5 else checkL t.kids (lv + 1) := by
  cases t; rw [check]; rfl

mutual
theorem check_bound (t : Tr) : ∀ lv, check t lv ≤ 5 := by
  cases t with
  | mk l s ks =>
    intro lv
    rw [check]
    split
    · omega
    · split
      · omega
      · exact checkL_bound ks (lv + 1)
theorem checkL_bound (ks : List Tr) : ∀ lv, checkL ks lv ≤ 5 := by
  cases ks with
  | nil => intro lv; simp [checkL]
  | cons k ks =>
    intro lv
    rw [checkL]
    split
    · exact checkL_bound ks lv
    · exact check_bound k lv
end

set_option maxHeartbeats 800000 in
theorem check_any (t : Tr) : ∀ (v : Value) (lv : Nat) (w : World), Lies anyB w t v → lv ≤ 1000 →
    Calls Tryd.prog 28 #[v, .int .i64 lv] w fun e w' => e = .returned (.int .i64 (check t lv : Nat)) ∧ Below w.heap.size w w' := by
  induction t using Tr.ind with
  | h t ih =>
  intro v lv w ha hlv
  obtain ⟨sa, A, ca, rfl, hsa, hsl, hka, hea⟩ := ha.later
  have IH := Lib.hid ih
  have HA := Lib.hid hea
  have HC := Lib.hid (check_eq t lv)
  have htl : t.text = [] ↔ sa.toList = [] := by rw [← hsa, Lib.toList_data]
  have HT := Lib.hid htl
  clear ih hea hsa ha hsl htl
  unfold maxLen at hka
  by_cases hbad : (t.list = true ∧ ¬ sa.toList = []) ∨ (t.list = false ∧ 0 < t.kids.length)
  · have HF : Hid (check t lv = 1) := by
      have h := HC.out
      rw [if_pos] at h
      · exact h
      · rcases hbad with ⟨h1, h2⟩ | ⟨h1, h2⟩
        · exact .inl ⟨h1, fun hx => h2 (HT.out.1 hx)⟩
        · exact .inr ⟨h1, List.length_pos_iff.1 h2⟩
    clear HC HT HA IH
    rcases hbad with ⟨h1, h2⟩ | ⟨h1, h2⟩
    all_goals
      go_enter Tryd.func28, Tryd.ntmps28
      go_wp2_with fail
      go_returns
      exact ⟨ret_int (by rw [HF.out]; rfl), by go_grown⟩
  · have h1 : ¬ ((t.list = true ∧ t.text ≠ []) ∨ (t.list = false ∧ t.kids ≠ [])) := by
      rintro (⟨g1, g2⟩ | ⟨g1, g2⟩)
      · exact hbad (.inl ⟨g1, fun hx => g2 (HT.out.2 hx)⟩)
      · exact hbad (.inr ⟨g1, List.length_pos_iff.2 g2⟩)
    have HC2 := HC.out
    rw [if_neg h1] at HC2
    clear HC h1 HT
    have hways : (t.list = true ∧ sa.toList = []) ∨ (t.list = false ∧ t.kids.length = 0) := by
      cases hl : t.list
      · right; refine ⟨rfl, ?_⟩
        apply Classical.byContradiction; intro h; exact hbad (.inr ⟨hl, by omega⟩)
      · left; refine ⟨rfl, ?_⟩
        apply Classical.byContradiction; intro h; exact hbad (.inl ⟨hl, h⟩)
    clear hbad
    by_cases hdeep : 12 < lv ∨ 256 < t.kids.length
    · have HF : Hid (check t lv = 5) := by rw [if_pos hdeep] at HC2; exact HC2
      clear HC2 HA IH
      have hd2 : 12 < lv ∨ (lv ≤ 12 ∧ 256 < t.kids.length) := by omega
      clear hdeep
      rcases hways with ⟨h1, h2⟩ | ⟨h1, h2⟩
      · rcases hd2 with hd | ⟨hd, hd'⟩
        all_goals
          go_enter Tryd.func28, Tryd.ntmps28
          go_wp2_with fail
          go_returns
          exact ⟨ret_int (by rw [HF.out]; rfl), by go_grown⟩
      · have hd : 12 < lv := by omega
        have h3 : ¬ 0 < t.kids.length := by omega
        clear h2 hd2
        go_enter Tryd.func28, Tryd.ntmps28
        go_wp2_with fail
        go_returns
        exact ⟨ret_int (by rw [HF.out]; rfl), by go_grown⟩
    · have HF : Hid (checkL (t.kids.drop 0) (lv + 1) = check t lv) := by rw [if_neg hdeep] at HC2; rw [HC2]; exact rfl
      have hd1 : lv ≤ 12 := by omega
      have hd2 : t.kids.length ≤ 256 := by omega
      have dd1 : decide ((12 : Int) < (lv : Int)) = false := by simp; omega
      have dd2 : decide ((256 : Int) < (t.kids.length : Int)) = false := by simp; omega
      clear HC2 hdeep
      have hways' : (t.list = true ∧ sa.toList = []) ∨ (t.list = false ∧ ¬ 0 < t.kids.length) := by
        rcases hways with h | ⟨h1, h2⟩
        · exact .inl h
        · exact .inr ⟨h1, by omega⟩
      clear hways
      generalize t.list = tl at hways' ⊢
      rcases hways' with ⟨rfl, h2⟩ | ⟨rfl, h2⟩
      case inr =>
        go_enter Tryd.func28, Tryd.ntmps28
        go_wp2_with fail
        go_loopw [37] (fun i wr => i = .int .i64 0 ∧ Below w.heap.size w wr) (fun i _ => 0)
        case atStart => exact ⟨rfl, by go_grown⟩
        case round =>
          obtain ⟨rfl, hw⟩ := hrel
          have HST := Lib.hid (checkL_end (ks := t.kids) (lv := lv + 1) (k := 0) (by omega))
          clear HA
          go_wp2_with fail
          go_returns
          exact ⟨ret_int (by rw [← HF.out, HST.out]; rfl), hw⟩
      case inl =>
        go_enter Tryd.func28, Tryd.ntmps28
        go_wp2_with fail
        go_loopw [37] (fun i wr => ∃ k : Nat, k ≤ t.kids.length ∧ i = .int .i64 k ∧ Below w.heap.size w wr ∧ checkL (t.kids.drop k) (lv + 1) = check t lv) (fun i _ => t.kids.length - (intOf i).toNat)
        case atStart => exact ⟨0, Nat.zero_le _, rfl, by go_grown, HF.out⟩
        case round =>
          obtain ⟨k, hk, rfl, hw, hR⟩ := hrel
          have HR2 := Lib.hid hR
          clear hR HF
          by_cases hlt : k < t.kids.length
          · obtain ⟨ba, oa, a0, a1, a2, rfl, _, hba, ca0, ca1, ca2, hka'⟩ := HA.out wr (fun g _ hg => hw.block g hg) k hlt
            obtain ⟨kl, ks, kA, kn, kc, rfl, rfl, rfl⟩ := hka'.parts
            have HLA := Lib.hid hka'
            clear hka' HA
            by_cases hc0 : check t.kids[k] (lv + 1) = 0
            · have HST := Lib.hid (checkL_step hlt hc0)
              have HC0 := Lib.hid hc0
              clear hc0
              go_wp2_with fail
              rw [show ((lv : Int) + 1) = ((lv + 1 : Nat) : Int) by omega]
              refine (IH.out _ (List.getElem_mem hlt) _ (lv + 1) _ (HLA.out.below ((Below.refl _ _).alloc (Nat.le_refl _) _)) (by omega)).mono ?_
              rw [HC0.out]
              rintro e w1 ⟨rfl, hb1⟩
              go_wp2_with fail
              go_roundw
              case rel => exact ⟨k + 1, by omega, by go_num, (hw.alloc hw.size _).trans (hb1.mono (by have := hw.size; simp; omega)), by rw [← HR2.out, HST.out]⟩
              case measure => simp [intOf]; omega
            · have HST := Lib.hid (checkL_stop hlt hc0)
              have hcb : (((check t.kids[k] (lv + 1) : Nat) : Int) != 0) = true := by simp; omega
              clear hc0
              go_wp2_with fail
              rw [show ((lv : Int) + 1) = ((lv + 1 : Nat) : Int) by omega]
              refine (IH.out _ (List.getElem_mem hlt) _ (lv + 1) _ (HLA.out.below ((Below.refl _ _).alloc (Nat.le_refl _) _)) (by omega)).mono ?_
              rintro e w1 ⟨rfl, hb1⟩
              go_wp2_with fail
              go_returns
              exact ⟨ret_int (by rw [← HR2.out, HST.out]), (hw.alloc hw.size _).trans (hb1.mono (by have := hw.size; simp; omega))⟩
          · have HST := Lib.hid (checkL_end (ks := t.kids) (lv := lv + 1) (k := k) (by omega))
            clear HA
            go_wp2_with fail
            go_returns
            exact ⟨ret_int (by rw [← HR2.out, HST.out]; rfl), hw⟩

end Go.Proofs.YtfpeplpoliileaaDoor
