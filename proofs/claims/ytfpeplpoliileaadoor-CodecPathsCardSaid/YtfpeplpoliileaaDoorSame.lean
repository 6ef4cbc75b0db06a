/- The walk of Same: it tells whether two trees are equal. -/
import Derived.Test.YtfpeplpoliileaaDoorMem
namespace Go.Proofs.YtfpeplpoliileaaDoor
open Go.RowKit Pl

noncomputable def eqT (a b : Tr) : Bool := @decide (a = b) (Classical.propDecidable _)
theorem eqT_true {a b : Tr} (h : a = b) : eqT a b = true := @decide_eq_true _ (Classical.propDecidable _) h
theorem eqT_false {a b : Tr} (h : a ≠ b) : eqT a b = false := @decide_eq_false _ (Classical.propDecidable _) h

theorem take_succ_eq {a b : List Tr} {k : Nat} (ha : k < a.length) (hb : k < b.length) (h : a.take k = b.take k) (he : a[k] = b[k]) : a.take (k + 1) = b.take (k + 1) := by
  rw [List.take_succ_eq_append_getElem ha, List.take_succ_eq_append_getElem hb, h, he]
theorem Tr.ext_ {a b : Tr} (h1 : a.list = b.list) (h2 : a.text = b.text) (h3 : a.kids = b.kids) : a = b := by
  cases a; cases b; simp only [Tr.list, Tr.text, Tr.kids] at h1 h2 h3; rw [h1, h2, h3]

set_option maxHeartbeats 400000 in
theorem same_any (a : Tr) : ∀ (b : Tr) (va vb : Value) (w : World), Lies anyB w a va → Lies anyB w b vb →
    Calls Tryd.prog 15 #[va, vb] w fun e w' => e = .returned (.bool (eqT a b)) ∧ Below w.heap.size w w' := by
  induction a using Tr.ind with
  | h a ih =>
  intro b va vb w ha hb
  obtain ⟨sa, A, ca, rfl, hsa, _, hka, hea⟩ := ha.later
  obtain ⟨sb, B, cb, rfl, hsb, _, hkb, heb⟩ := hb.later
  have IH := Lib.hid ih
  have HA := Lib.hid hea
  have HB := Lib.hid heb
  have HSA := Lib.hid hsa
  have HSB := Lib.hid hsb
  clear ih hea heb hsa hsb ha hb
  unfold maxLen at hka hkb
  by_cases hn : a.kids.length = b.kids.length
  case neg =>
    have h3 : ((a.kids.length : Int) != (b.kids.length : Int)) = true := by simp; omega
    have hne : a ≠ b := by rintro rfl; exact hn rfl
    have HE := Lib.hid (eqT_false hne)
    clear hn hne
    go_enter Tryd.func15, Tryd.ntmps15
    go_wp2_with fail
    all_goals
      go_returns
      exact ⟨ret_bool HE.out.symm, by go_grown⟩
  have h3 : ((a.kids.length : Int) != (b.kids.length : Int)) = false := by simp; omega
  have HN := Lib.hid hn
  clear hn
  go_enter Tryd.func15, Tryd.ntmps15
  go_wp2_with fail
  · have hl : a.list = b.list := by assumption
    have hs : sa.toList = sb.toList := by assumption
    go_loopw [5] (fun i wr => ∃ k : Nat, k ≤ a.kids.length ∧ i = .int .i64 k ∧ Below (w.heap.size + 2) ((w.alloc (.cells #[.bool b.list, .string sa, .slice A a.kids.length ca] 25)).alloc (.cells #[.bool b.list, .string sb, .slice B b.kids.length cb] 25)) wr ∧ a.kids.take k = b.kids.take k) (fun i _ => a.kids.length - (intOf i).toNat)
    case atStart => exact ⟨0, Nat.zero_le _, rfl, Below.refl _ _, by simp⟩
    case round =>
      obtain ⟨k, hk, rfl, hB, htk⟩ := hrel
      have HT := Lib.hid htk
      clear htk
      have c1 : wr.cell? ⟨w.heap.size, 2, none⟩ = some (.slice A a.kids.length ca) := by rw [hB.cell (by simp)]; simp
      have c2 : wr.cell? ⟨w.heap.size + 1, 2, none⟩ = some (.slice B b.kids.length cb) := by rw [hB.cell (by simp)]; simp
      have hw : Below w.heap.size w wr := (((Below.refl _ _).alloc (Nat.le_refl _) _).alloc (by simp) _).trans (hB.mono (by omega))
      have hsz : w.heap.size + 2 ≤ wr.heap.size := by have := hB.size; simpa using this
      by_cases hlt : k < a.kids.length
      · have hltb : k < b.kids.length := by have := HN.out; omega
        obtain ⟨ba, oa, a0, a1, a2, rfl, _, hba, ca0, ca1, ca2, hka'⟩ := HA.out wr (fun g _ hg => hw.block g hg) k hlt
        obtain ⟨bb, ob, b0, b1, b2, rfl, _, hbb, cb0, cb1, cb2, hkb'⟩ := HB.out wr (fun g _ hg => hw.block g hg) k hltb
        have HLA := Lib.hid hka'
        have HLB := Lib.hid hkb'
        clear hka' hkb' HA HB
        by_cases heq : a.kids[k] = b.kids[k]
        · have HE := Lib.hid heq
          have he1 := Lib.hid (eqT_true heq)
          clear heq
          go_wp2_with fail
          go_still_tail 10, (by kernel_rfl)
          change wpList _ _ _ _ _ wr.drew
          go_wp2_with fail
          refine (IH.out _ (List.getElem_mem hlt) _ _ _ _ HLA.out.drew HLB.out.drew).mono ?_
          rw [he1.out]
          rintro e w1 ⟨rfl, hb1⟩
          go_wp2_with fail
          go_roundw
          case rel => exact ⟨k + 1, by omega, by go_num, hB.drew.trans (hb1.mono (by simpa using hsz)), take_succ_eq hlt hltb HT.out HE.out⟩
          case measure => simp [intOf]; omega
        · have HE := Lib.hid heq
          have he1 := Lib.hid (eqT_false heq)
          clear heq
          go_wp2_with fail
          go_still_tail 10, (by kernel_rfl)
          change wpList _ _ _ _ _ wr.drew
          go_wp2_with fail
          refine (IH.out _ (List.getElem_mem hlt) _ _ _ _ HLA.out.drew HLB.out.drew).mono ?_
          rw [he1.out]
          rintro e w1 ⟨rfl, hb1⟩
          go_wp2_with fail
          go_returns
          refine ⟨ret_bool (eqT_false ?_).symm, hw.drew.trans (hb1.mono (by have := hsz; simp; omega))⟩
          rintro rfl; exact HE.out rfl
      · go_wp2_with fail
        go_returns
        refine ⟨ret_bool (eqT_true ?_).symm, hw⟩
        have ht := HT.out
        rw [List.take_of_length_le (by omega), List.take_of_length_le (by have := HN.out; omega)] at ht
        refine Tr.ext_ hl ?_ ht
        rw [← HSA.out, ← HSB.out, ← Lib.toList_data, ← Lib.toList_data, hs]
  · have hs : ¬ sa.toList = sb.toList := by assumption
    go_returns
    refine ⟨ret_bool (eqT_false ?_).symm, by go_grown⟩
    rintro rfl
    apply hs; rw [Lib.toList_data, Lib.toList_data, HSA.out, HSB.out]
  · have hl : ¬ a.list = b.list := by assumption
    go_returns
    refine ⟨ret_bool (eqT_false ?_).symm, by go_grown⟩
    rintro rfl; exact hl rfl
end Go.Proofs.YtfpeplpoliileaaDoor
