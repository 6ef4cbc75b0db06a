/- The reference's encode and Encode: they answer as the plain encoding. -/
import Derived.Test.YtfpeplpoliileaaDoorRefLeaf
namespace Go.Proofs.YtfpeplpoliileaaDoor
open Go.RowKit Pl

/-- What the reference's encode gives. -/
def refEnc (t : Tr) (lv : Nat) : List UInt8 := if check t lv = 0 then Pl.enc t else []

theorem enc_text {t : Tr} (h : t.list = false) : Pl.enc t = digs t.text.length ++ 58 :: t.text := by
  cases t; simp only [Tr.list] at h; subst h; rw [Pl.enc]; simp [Tr.text]
theorem enc_list {t : Tr} (h : t.list = true) : Pl.enc t = 40 :: (encL t.kids ++ [41]) := by
  cases t; simp only [Tr.list] at h; subst h; rw [Pl.enc]; simp [Tr.kids]
set_option maxRecDepth 100000 in
set_option maxHeartbeats 1000000 in
theorem refEnc_any (t : Tr) : ∀ (v : Value) (lv : Nat) (w : World), Lies anyB w t v → lv ≤ 1000 → size t ≤ 100000 → TabB w.heap.size w →
    Calls Tryd.prog 30 #[v, .int .i64 lv] w (GivesSE (refEnc t lv) (check t lv) w) := by
  induction t using Tr.ind with
  | h t ih =>
  intro v lv w ha hlv hsize htab
  obtain ⟨sa, A, ca, rfl, hsa, hsl, hka, hea⟩ := ha.later
  have IH := Lib.hid ih
  have HA := Lib.hid hea
  have HC := Lib.hid (check_eq t lv)
  have htl : t.text = [] ↔ sa.toList = [] := by rw [← hsa, Lib.toList_data]
  have HT := Lib.hid htl
  have HSA := Lib.hid hsa
  have HTB := Lib.hid htab
  have HSZ := Lib.hid hsize
  clear ih hea hsa ha hsl htl htab hsize
  unfold maxLen at hka
  have HB0 := Lib.hid ((Below.refl w.heap.size w).alloc (Nat.le_refl _) (.cells #[.bool t.list, .string sa, .slice A t.kids.length ca] 25))
  by_cases hbad : (t.list = true ∧ ¬ sa.toList = []) ∨ (t.list = false ∧ 0 < t.kids.length)
  · have HF : Hid (check t lv = 1) := by
      have h := HC.out
      rw [if_pos] at h
      · exact h
      · rcases hbad with ⟨h1, h2⟩ | ⟨h1, h2⟩
        · exact .inl ⟨h1, fun hx => h2 (HT.out.1 hx)⟩
        · exact .inr ⟨h1, List.length_pos_iff.1 h2⟩
    rw [show GivesSE (refEnc t lv) (check t lv) w = GivesSE [] 1 w by unfold refEnc; rw [HF.out]; rfl]
    clear HC HT HA IH HF
    rcases hbad with ⟨h1, h2⟩ | ⟨h1, h2⟩
    all_goals
      go_enter Tryd.func30, Tryd.ntmps30
      go_wp2_with fail
      go_returns
      exact ⟨⟨#[]⟩, rfl, rfl, by go_grown⟩
  · have h1 : ¬ ((t.list = true ∧ t.text ≠ []) ∨ (t.list = false ∧ t.kids ≠ [])) := by
      rintro (⟨g1, g2⟩ | ⟨g1, g2⟩)
      · exact hbad (.inl ⟨g1, fun hx => g2 (HT.out.2 hx)⟩)
      · exact hbad (.inr ⟨g1, List.length_pos_iff.2 g2⟩)
    have HC2 := HC.out
    rw [if_neg h1] at HC2
    clear HC h1 HT
    have hways : (t.list = true ∧ sa.toList = []) ∨ (t.list = false ∧ t.kids.length = 0) := by
      cases hl : t.list
      · right; refine ⟨rfl, ?_⟩
        apply Classical.byContradiction; intro h; exact hbad (.inr ⟨hl, by omega⟩)
      · left; refine ⟨rfl, ?_⟩
        apply Classical.byContradiction; intro h; exact hbad (.inl ⟨hl, h⟩)
    clear hbad
    by_cases hdeep : 12 < lv ∨ 256 < t.kids.length
    · have HF : Hid (check t lv = 5) := by rw [if_pos hdeep] at HC2; exact HC2
      rw [show GivesSE (refEnc t lv) (check t lv) w = GivesSE [] 5 w by unfold refEnc; rw [HF.out]; rfl]
      clear HC2 HA IH HF
      have hd2 : 12 < lv ∨ (lv ≤ 12 ∧ 256 < t.kids.length) := by omega
      clear hdeep
      rcases hways with ⟨h1, h2⟩ | ⟨h1, h2⟩
      · rcases hd2 with hd | ⟨hd, hd'⟩
        all_goals
          go_enter Tryd.func30, Tryd.ntmps30
          go_wp2_with fail
          go_returns
          exact ⟨⟨#[]⟩, rfl, rfl, by go_grown⟩
      · have hd : 12 < lv := by omega
        have h3 : ¬ 0 < t.kids.length := by omega
        clear h2 hd2
        go_enter Tryd.func30, Tryd.ntmps30
        go_wp2_with fail
        go_returns
        exact ⟨⟨#[]⟩, rfl, rfl, by go_grown⟩
    · have HF : Hid (checkL (t.kids.drop 0) (lv + 1) = check t lv) := by rw [if_neg hdeep] at HC2; rw [HC2]; exact rfl
      have hd1 : lv ≤ 12 := by omega
      have hd2 : t.kids.length ≤ 256 := by omega
      have dd1 : decide ((12 : Int) < (lv : Int)) = false := by simp; omega
      have dd2 : decide ((256 : Int) < (t.kids.length : Int)) = false := by simp; omega
      clear HC2 hdeep
      rcases hways with ⟨h1, h2⟩ | ⟨h1, h2⟩
      · have HEL := Lib.hid (enc_list h1)
        have hel := encL_length_le t.kids
        have hsz2 : sizeL t.kids ≤ 100000 := by have := size_eq t; have := HSZ.out; simp at this ⊢; rw [size_eq t] at this; simp at this; omega
        have HSK : Hid (∀ k ∈ t.kids, size k ≤ 100000) := fun k hk => Nat.le_trans (Nat.le_of_lt (size_kid hk)) HSZ.out
        generalize t.list = tl at h1 HB0 ⊢
        subst h1
        clear HB0
        go_enter Tryd.func30, Tryd.ntmps30
        go_wp2_with fail
        go_loopw [6, 7] (fun x i wr => ∃ (k : Nat) (tb : ByteArray), k ≤ t.kids.length ∧ i = .int .i64 k ∧ x = .string tb ∧ tb.data.toList = 40 :: encL (t.kids.take k) ∧ Below (w.heap.size + 1) (w.alloc (.cells #[.bool true, .string sa, .slice A t.kids.length ca] 25)) wr ∧ checkL (t.kids.drop k) (lv + 1) = check t lv) (fun _ i _ => t.kids.length - (intOf i).toNat)
        case atStart => exact ⟨0, ⟨#[40]⟩, Nat.zero_le _, rfl, rfl, by simp [encL], Below.refl _ _, HF.out⟩
        case round =>
          obtain ⟨k, tb, hk, rfl, rfl, htb, hB, hR⟩ := hrel
          have HR2 := Lib.hid hR
          have c1 : wr.cell? ⟨w.heap.size, 2, none⟩ = some (.slice A t.kids.length ca) := by rw [hB.cell (by simp)]; simp
          have hw : Below w.heap.size w wr := ((Below.refl _ _).alloc (Nat.le_refl _) _).trans (hB.mono (by omega))
          have hsz : w.heap.size + 1 ≤ wr.heap.size := by have := hB.size; simpa using this
          have htl := encL_take_le t.kids k
          have htbs : tb.size ≤ 300000 := by rw [Lib.size_eq, htb]; simp; omega
          have HTBL := Lib.hid htb
          have HB3 := Lib.hid hB
          have HW := Lib.hid hw
          clear hR HF htb hB
          by_cases hlt : k < t.kids.length
          · obtain ⟨ba, oa, a0, a1, a2, rfl, _, hba, ca0, ca1, ca2, hka'⟩ := HA.out wr (fun g _ hg => hw.block g hg) k hlt
            obtain ⟨kl, ks, kA, kn, kc, rfl, rfl, rfl⟩ := hka'.parts
            have HLA := Lib.hid hka'
            clear hka' HA hw
            have hel2 := encL_take_le t.kids (k + 1)
            rw [encL_snoc hlt, List.length_append] at hel2
            by_cases hc0 : check t.kids[k] (lv + 1) = 0
            · have HST := Lib.hid (checkL_step hlt hc0)
              have HC0 := Lib.hid hc0
              have HRE : Hid (refEnc t.kids[k] (lv + 1) = Pl.enc t.kids[k]) := by show refEnc _ _ = _; unfold refEnc; rw [if_pos hc0]
              clear hc0
              go_wp2_with fail
              rw [show ((lv : Int) + 1) = ((lv + 1 : Nat) : Int) by omega]
              refine (IH.out _ (List.getElem_mem hlt) _ (lv + 1) _ HLA.out (by omega) (HSK.out _ (List.getElem_mem hlt)) ((HTB.out.on HW.out).mono HW.out.size)).mono ?_
              rw [HC0.out, HRE.out]
              rintro e w1 ⟨ub, rfl, hub, hb1⟩
              have HUB := Lib.hid hub
              have hubs : ub.size ≤ 300000 := by rw [Lib.size_eq, hub]; omega
              clear hub
              go_wp2_with fail
              go_roundw
              case rel => exact ⟨k + 1, tb ++ ub, by omega, by go_num, rfl, by simp [HTBL.out, HUB.out, encL_snoc hlt], HB3.out.trans (hb1.mono (by simpa using hsz)), by rw [← HR2.out, HST.out]⟩
              case measure => simp [intOf]; omega
            · have HST := Lib.hid (checkL_stop hlt hc0)
              have hcb : (((check t.kids[k] (lv + 1) : Nat) : Int) != 0) = true := by simp; omega
              have HC0 := Lib.hid hc0
              clear hc0
              go_wp2_with fail
              rw [show ((lv : Int) + 1) = ((lv + 1 : Nat) : Int) by omega]
              refine (IH.out _ (List.getElem_mem hlt) _ (lv + 1) _ HLA.out (by omega) (HSK.out _ (List.getElem_mem hlt)) ((HTB.out.on HW.out).mono HW.out.size)).mono ?_
              rintro e w1 ⟨ub, rfl, hub, hb1⟩
              have HB4 := Lib.hid (HW.out.trans (hb1.mono HW.out.size))
              have HEQ : Hid (check t lv = check t.kids[k] (lv + 1)) := by show _ = _; rw [← HR2.out, HST.out]
              have HNIL : Hid (refEnc t lv = []) := by show refEnc t lv = []; unfold refEnc; rw [HEQ.out, if_neg HC0.out]
              clear hub hb1
              go_wp2_with fail
              go_returns
              exact ⟨⟨#[]⟩, by rw [HEQ.out]; rfl, by rw [HNIL.out], HB4.out⟩
          · have HST := Lib.hid (checkL_end (ks := t.kids) (lv := lv + 1) (k := k) (by omega))
            have hkk : t.kids.take k = t.kids := List.take_of_length_le (by omega)
            have HKK := Lib.hid hkk
            have HEQ : Hid (check t lv = 0) := by show _ = _; rw [← HR2.out, HST.out]
            have HNIL : Hid (refEnc t lv = Pl.enc t) := by show refEnc t lv = _; unfold refEnc; rw [if_pos HEQ.out]
            clear HA hkk hw
            go_wp2_with fail
            go_returns
            exact ⟨tb ++ ⟨#[41]⟩, by rw [HEQ.out]; rfl, by rw [HNIL.out, HEL.out]; simp [HTBL.out, HKK.out], HW.out⟩
      · have HET := Lib.hid (enc_text h1)
        have hts : sa.size = t.text.length := by rw [Lib.size_eq, HSA.out]
        have htx : sa.size ≤ 100000 := by rw [hts]; have := HSZ.out; rw [size_eq] at this; omega
        have HEQ : check t lv = 0 := by rw [← HF.out, checkL_end (by omega)]
        have HNIL : refEnc t lv = Pl.enc t := by unfold refEnc; rw [if_pos HEQ]
        rw [h1, h2, HEQ, HNIL, HET.out, ← HSA.out, ← Lib.size_eq]
        exact refEnc_leaf sa A ca lv w hd1 htx HTB.out

/-- The reference's Encode. -/
theorem refEncode_any (t : Tr) (v : Value) (w : World) (ha : Lies anyB w t v) (hs : size t ≤ 100000) (htab : TabB w.heap.size w) : Calls Tryd.prog 22 #[v] w (GivesSE (resEnc t).1 (resEnc t).2 w) := by
  obtain ⟨tl, sa, A, tn, ca, rfl⟩ := lies_shape ha
  have HA := Lib.hid ha
  have HTB := Lib.hid htab
  have HB0 := Lib.hid ((Below.refl w.heap.size w).alloc (Nat.le_refl _) (.cells #[.bool tl, .string sa, .slice A tn ca] 25))
  have hle := enc_length_le t
  clear ha htab
  by_cases hc : check t 1 = 0
  · have HRE : Hid (refEnc t 1 = Pl.enc t) := by show refEnc t 1 = _; unfold refEnc; rw [if_pos hc]
    have HC := Lib.hid hc
    by_cases hl : 20000 < (Pl.enc t).length
    · have HR : Hid (resEnc t = ([], 5)) := by show resEnc t = _; unfold resEnc Pl.encode; rw [if_neg (by simp [hc]), if_pos hl]
      clear hc
      go_enter Tryd.func22, Tryd.ntmps22
      go_wp2_with fail
      refine (refEnc_any t _ 1 _ (HA.out.below HB0.out) (by omega) hs ((HTB.out.on HB0.out).mono HB0.out.size)).mono ?_
      rw [HC.out, HRE.out]
      rintro e w1 ⟨sb, rfl, hsb, hb1⟩
      have HB1 := Lib.hid (HB0.out.trans (hb1.mono HB0.out.size))
      have hz : 20000 < sb.size := by rw [Lib.size_eq, hsb]; exact hl
      clear hsb hb1
      go_wp2_with fail
      go_returns
      rw [HR.out]
      exact ⟨⟨#[]⟩, rfl, rfl, HB1.out⟩
    · have HR : Hid (resEnc t = (Pl.enc t, 0)) := by show resEnc t = _; unfold resEnc Pl.encode; rw [if_neg (by simp [hc]), if_neg hl]
      clear hc
      go_enter Tryd.func22, Tryd.ntmps22
      go_wp2_with fail
      refine (refEnc_any t _ 1 _ (HA.out.below HB0.out) (by omega) hs ((HTB.out.on HB0.out).mono HB0.out.size)).mono ?_
      rw [HC.out, HRE.out]
      rintro e w1 ⟨sb, rfl, hsb, hb1⟩
      have HB1 := Lib.hid (HB0.out.trans (hb1.mono HB0.out.size))
      have hz : ¬ 20000 < sb.size := by rw [Lib.size_eq, hsb]; exact hl
      have HSB := Lib.hid hsb
      clear hsb hb1
      go_wp2_with fail
      go_returns
      rw [HR.out]
      exact ⟨sb, rfl, HSB.out, HB1.out⟩
  · have hnb : (((check t 1 : Nat) : Int) != 0) = true := by simp; omega
    have HR : Hid (resEnc t = ([], check t 1)) := by show resEnc t = _; unfold resEnc Pl.encode; rw [if_pos hc]
    clear hc
    go_enter Tryd.func22, Tryd.ntmps22
    go_wp2_with fail
    refine (refEnc_any t _ 1 _ (HA.out.below HB0.out) (by omega) hs ((HTB.out.on HB0.out).mono HB0.out.size)).mono ?_
    rintro e w1 ⟨sb, rfl, hsb, hb1⟩
    have HB1 := Lib.hid (HB0.out.trans (hb1.mono HB0.out.size))
    clear hsb hb1
    go_wp2_with fail
    go_returns
    rw [HR.out]
    exact ⟨⟨#[]⟩, rfl, rfl, HB1.out⟩
end Go.Proofs.YtfpeplpoliileaaDoor
