/- The walks of clone, At and the reference's At. -/
import Derived.Test.YtfpeplpoliileaaDoorMem
namespace Go.Proofs.YtfpeplpoliileaaDoor
open Go.RowKit Pl

/-- The call returns this tree, in new memory; what was there is as it was. -/
def GivesTree (t : Tr) (w : World) (e : Ending) (w' : World) : Prop := ∃ v', e = .returned v' ∧ Lies (fun b => w.heap.size ≤ b) w' t v' ∧ Below w.heap.size w w'

theorem size_kid {t k : Tr} (h : k ∈ t.kids) : size k < size t := by
  cases t with
  | mk l s ks =>
    have : ∀ ks : List Tr, k ∈ ks → size k ≤ sizeL ks := by
      intro ks
      induction ks with
      | nil => intro hk; cases hk
      | cons x ks ih =>
        intro hk
        rw [sizeL]
        rcases List.mem_cons.1 hk with rfl | hk
        · omega
        · have := ih hk; omega
    have := this ks h
    rw [size]; omega
theorem size_kids (t : Tr) : t.kids.length ≤ size t := by
  cases t with
  | mk l s ks =>
    have : ∀ ks : List Tr, ks.length ≤ sizeL ks := by
      intro ks
      induction ks with
      | nil => simp
      | cons x ks ih => rw [sizeL]; have : 1 ≤ size x := by cases x; rw [size]; omega
                        simp; omega
    have := this ks
    rw [size]; show ks.length ≤ _; omega

set_option maxHeartbeats 400000 in
theorem clone_any (t : Tr) : ∀ (v : Value) (w : World), Lies anyB w t v → size t ≤ 100000 → Calls Tryd.prog 27 #[v] w (GivesTree t w) := by
  induction t using Tr.ind with
  | h t ih =>
  intro v w ha hsize
  obtain ⟨sa, A, ca, rfl, hsa, hsl, hka, hea⟩ := ha.later
  have hkl := size_kids t
  obtain ⟨i0, hi0, hz0, hz1, hz2⟩ := info_parts node_info
  have IH := Lib.hid ih
  have HA := Lib.hid hea
  have HSA := Lib.hid hsa
  clear ih hea hsa ha
  unfold maxLen at hka
  go_enter Tryd.func27, Tryd.ntmps27
  go_wp2_with fail
  go_loopw [3, 9] (fun v i wr => ∃ (k : Nat) (cells : List Value), k ≤ t.kids.length ∧ i = .int .i64 k ∧ wr.ownsRow (w.heap.size + 2) 25 3 v k cells ∧
      Trips (fun b => w.heap.size + 2 ≤ b ∧ v.ownBlock ≠ some b) wr (t.kids.take k) cells ∧
      Below (w.heap.size + 2) ((w.alloc (Obj.cells #[Value.bool t.list, Value.string sa, Value.slice A t.kids.length ca] 25)).alloc (Obj.cells #[Value.bool false, Value.string { data := #[] }, Value.slice none 0 0] 25)) wr) (fun _ i _ => t.kids.length - (intOf i).toNat)
  case atStart => exact ⟨0, [], Nat.zero_le _, rfl, World.ownsRow_nil _ _ _ _, by rw [List.take_zero, Trips], Below.refl _ _⟩
  case round =>
    obtain ⟨k, cells, hk, rfl, hown, htr, hB⟩ := hrel
    have hw : Below w.heap.size w wr := (((Below.refl _ _).alloc (Nat.le_refl _) _).alloc (by simp) _).trans (hB.mono (by omega))
    have hsz : w.heap.size + 2 ≤ wr.heap.size := by have := hB.size; simpa using this
    have HO := Lib.hid hown
    have HT := Lib.hid htr
    clear hown htr
    by_cases hlt : k < t.kids.length
    · obtain ⟨ba, oa, a0, a1, a2, rfl, _, hba, ca0, ca1, ca2, hka'⟩ := HA.out wr (fun g _ hg => hw.block g hg) k hlt
      obtain ⟨kl, ks, kA, kn, kc, rfl, rfl, rfl⟩ := hka'.parts
      have hks := size_kid (List.getElem_mem hlt)
      have HLA := Lib.hid hka'
      have HTK := Lib.hid (List.take_succ_eq_append_getElem hlt)
      clear hka' HA
      go_wp2_with fail
      refine (IH.out _ (List.getElem_mem hlt) _ _ (HLA.out.below ((Below.refl _ _).alloc (Nat.le_refl _) _)) (by omega)).mono ?_
      rintro e w1 ⟨vk, rfl, hL, hb1⟩
      obtain ⟨se, Ae, ce, rfl, _, _, _, _⟩ := hL.open_
      have hbw : Below wr.heap.size wr w1 := ((Below.refl _ _).alloc (Nat.le_refl _) _).trans (hb1.mono (by simp))
      have hL2 : Lies (fun b => wr.heap.size ≤ b) w1 t.kids[k] _ := Lies.mono (fun g _ hg => by simp at hg; omega) _ _ hL
      have HL := Lib.hid hL2
      have hown1 := Lib.hid (ownsRow_below HO.out hbw)
      have hs1 := hbw.size
      clear hL hL2
      go_wp2_with (at_builtin; refine wpList_append_own_at _ rfl (.tmp 13) (.tmp 16) 23 rfl (w.heap.size + 2) 25 i0 _ 3 48 Tryd.underlying23 hi0 hz0 hz1 hz2 rfl (by decide) _ k cells rfl (hown1.out.alloc _) ⟨w1.heap.size, 0, none⟩ 1 1 _ rfl rfl (cells_three _ _ _ _ _) (oneCell_three _ _ _ _ _) (by unfold maxLen; omega) (by omega) (by simp; omega) ?_; intro v2 w2 hown2 hg2 hnil2 hat2)
      go_roundw
      case rel => exact ⟨k + 1, _, by omega, by go_num, hown2, by rw [HTK.out]; exact trips_step HO.out HT.out hbw (by omega) HL.out hg2 hat2, ((hB.trans (hbw.mono hsz)).alloc (by omega) _).grown hg2 (by simp; omega) (fun g hg => (HO.out.lt g hg).1)⟩
      case measure => simp [intOf]; omega
    · obtain rfl : k = t.kids.length := by omega
      obtain ⟨A', c', rfl⟩ : ∃ A' c', u3 = .slice A' t.kids.length c' := by
        rcases HO.out.2 with ⟨h, h'⟩ | ⟨g, cap, cur, h, _⟩
        · exact ⟨none, 0, by rw [h, h']⟩
        · exact ⟨_, _, h⟩
      have d0 : wr.cell? ⟨w.heap.size, 0, none⟩ = some (.bool t.list) := by rw [hB.cell (by simp)]; simp
      have d1 : wr.cell? ⟨w.heap.size, 1, none⟩ = some (.string sa) := by rw [hB.cell (by simp)]; simp
      have d2 : wr.cell? ⟨w.heap.size, 2, none⟩ = some (.slice A t.kids.length ca) := by rw [hB.cell (by simp)]; simp
      have f2 : wr.frozen? ⟨w.heap.size, 2, none⟩ = false := by rw [hB.frozen (by simp)]; simp
      have r0 : wr.cell? ⟨w.heap.size + 1, 0, none⟩ = some (.bool false) := by rw [hB.cell (by simp)]; simp
      have r1 : wr.cell? ⟨w.heap.size + 1, 1, none⟩ = some (.string ⟨#[]⟩) := by rw [hB.cell (by simp)]; simp
      have r2 : wr.cell? ⟨w.heap.size + 1, 2, none⟩ = some (.slice none 0 0) := by rw [hB.cell (by simp)]; simp
      have g0 : wr.frozen? ⟨w.heap.size + 1, 0, none⟩ = false := by rw [hB.frozen (by simp)]; simp
      have g1 : wr.frozen? ⟨w.heap.size + 1, 1, none⟩ = false := by rw [hB.frozen (by simp)]; simp
      have g2 : wr.frozen? ⟨w.heap.size + 1, 2, none⟩ = false := by rw [hB.frozen (by simp)]; simp
      clear HA
      go_wp2_with fail
      refine bodyPost_ret (v := .agg #[.bool t.list, .string sa, .slice A' t.kids.length c']) (by simp [results, Tryd.results27, go_sem, r0, r1, r2]) rfl ⟨_, rfl, ?_, ?_⟩
      · have ht := HT.out
        rw [List.take_length] at ht
        have h1 : Lies (fun b => w.heap.size + 2 ≤ b) wr (.mk t.list t.text t.kids) (.agg #[.bool t.list, .string sa, .slice A' t.kids.length c']) :=
          lies_of_owns HO.out (Trips.mono (fun g _ hg => hg.1) _ _ ht) rfl HSA.out hsl (fun g hg => hg)
        rw [← Tr.eta] at h1
        refine Lies.to (fun g hg _ => ⟨?_, by omega⟩) t _ h1
        rw [Below.heap_setCell _ _ _ _ (by simp; omega), Below.heap_setCell _ _ _ _ (by simp; omega), Below.heap_setCell _ _ _ _ (by simp; omega), Below.heap_setCell _ _ _ _ (by simp; omega)]
      · exact (((hw.setCell (by simp) _).setCell (by simp) _).setCell (by simp) _).setCell (by simp) _

/-! ### At -/
/-- What At gives. -/
def resAt (t : Tr) (zs : List Int) : Tr × Nat := match at? t zs with | some b => (b, 0) | none => (zeroT, 6)

theorem at?_step {t : Tr} {zs : List Int} {k : Nat} (hk : k < zs.length) (hl : t.list = true) (h0 : 0 ≤ zs[k]) {j : Nat} (hj : zs[k].toNat = j) (h1 : j < t.kids.length) :
    at? t (zs.drop k) = at? t.kids[j] (zs.drop (k + 1)) := by
  subst hj
  rw [List.drop_eq_getElem_cons hk, at?, if_pos ⟨hl, h0, h1⟩, List.getElem?_eq_getElem h1]
theorem at?_stop {t : Tr} {zs : List Int} {k : Nat} (hk : k < zs.length) (h : ¬ (t.list = true ∧ 0 ≤ zs[k] ∧ zs[k].toNat < t.kids.length)) :
    at? t (zs.drop k) = none := by
  rw [List.drop_eq_getElem_cons hk, at?, if_neg h]
theorem at?_end {t : Tr} {zs : List Int} {k : Nat} (hk : zs.length ≤ k) : at? t (zs.drop k) = some t := by
  rw [List.drop_of_length_le hk, at?]

/-- A slice of ints. -/
def Ints (w : World) (A : Option Addr) (zs : List Int) : Prop :=
  zs.length ≤ maxLen ∧ (∀ z ∈ zs, -9223372036854775808 ≤ z ∧ z ≤ 9223372036854775807) ∧ ∀ i (hi : i < zs.length), ∃ b o, A = some ⟨b, o, none⟩ ∧ b < w.heap.size ∧ w.cell? ⟨b, o + i, none⟩ = some (.int .i64 zs[i])
theorem Ints.keep {w w' : World} {A : Option Addr} {zs : List Int} (h : Ints w A zs) (hb : Below w.heap.size w w') : Ints w' A zs := by
  refine ⟨h.1, h.2.1, fun i hi => ?_⟩
  obtain ⟨b, o, h1, h2, h3⟩ := h.2.2 i hi
  exact ⟨b, o, h1, Nat.lt_of_lt_of_le h2 hb.size, (hb.cell h2).trans h3⟩

set_option maxHeartbeats 400000 in
theorem at_any (t : Tr) (v : Value) (P : Option Addr) (cp : Nat) (zs : List Int) (w : World) (ha : Lies anyB w t v) (hp : Ints w P zs) (hsize : size t ≤ 100000) :
    Calls Tryd.prog 17 #[v, .slice P zs.length cp] w (GivesTE (resAt t zs).1 (resAt t zs).2 w) := by
  obtain ⟨sa, A, ca, rfl, _⟩ := ha.open_
  have hpl := hp.1
  have HP := Lib.hid hp
  have HA := Lib.hid ha
  clear ha hp
  unfold maxLen at hpl
  go_enter Tryd.func17, Tryd.ntmps17
  go_wp2_with fail
  go_loopw [10] (fun i wr => ∃ (k : Nat) (cur : Tr) (s : ByteArray) (A : Option Addr) (c : Nat), k ≤ zs.length ∧ i = .int .i64 k ∧ Blk wr w.heap.size 25 #[.bool cur.list, .string s, .slice A cur.kids.length c] ∧
      Blk wr (w.heap.size + 1) 25 #[.bool false, .string ⟨#[]⟩, .slice none 0 0] ∧ Lies anyB w cur (.agg #[.bool cur.list, .string s, .slice A cur.kids.length c]) ∧ Below w.heap.size w wr ∧ at? cur (zs.drop k) = at? t zs ∧ size cur ≤ 100000) (fun i _ => zs.length - (intOf i).toNat)
  case atStart => exact ⟨0, t, sa, A, ca, Nat.zero_le _, rfl, (Blk.new _ _ _).alloc _, by have := Blk.new (w.alloc (.cells #[.bool t.list, .string sa, .slice A t.kids.length ca] 25)) 25 #[.bool false, .string ⟨#[]⟩, .slice none 0 0]; simpa using this, HA.out, by go_grown, by rw [List.drop_zero], hsize⟩
  case round =>
    obtain ⟨k, cur, s, A, c, hk, rfl, hb0, hb1, hL, hw, hat, hsz⟩ := hrel
    obtain ⟨⟨d0, d1, d2⟩, f0, f1, f2⟩ := hb0.three
    obtain ⟨⟨r0, r1, r2⟩, g0, g1, g2⟩ := hb1.three
    have HB0 := Lib.hid hb0
    have HB1 := Lib.hid hb1
    have HL := Lib.hid hL
    have HAT := Lib.hid hat
    clear hb0 hb1 hL hat HA
    by_cases hlt : k < zs.length
    · obtain ⟨pb, po, rfl, hpb, hpc⟩ := HP.out.2.2 k hlt
      have hpr := HP.out.2.1 zs[k] (List.getElem_mem hlt)
      have hpc' : wr.cell? ⟨pb, po + k, none⟩ = some (.int .i64 zs[k]) := (hw.cell hpb).trans hpc
      clear hpc
      by_cases hgood : cur.list = true ∧ 0 ≤ zs[k] ∧ zs[k].toNat < cur.kids.length
      · obtain ⟨h1, h2, h3⟩ := hgood
        obtain ⟨_, _, hkm, hel⟩ := HL.out.elems
        unfold maxLen at hkm
        obtain ⟨j, hj⟩ : ∃ j, zs[k].toNat = j := ⟨_, rfl⟩
        rw [hj] at h3
        obtain ⟨ba, oa, se, Ae, ce, rfl, _, hba, e0, e1, e2, hLk⟩ := hel wr (fun g _ hg => hw.block g hg) j h3
        have HLK := Lib.hid hLk
        have HST := Lib.hid (at?_step hlt h1 h2 hj h3)
        have hks := size_kid (List.getElem_mem h3)
        have hzj : zs[k] = (j : Int) := by omega
        rw [hzj] at hpc'
        have HZ := Lib.hid hzj
        have hj2 : (j : Int) < (cur.kids.length : Int) := by omega
        have hj3 : ¬ (cur.kids.length : Int) ≤ (j : Int) := by omega
        clear hel hLk hj hzj h2 hpr
        go_wp2_with fail
        go_roundw
        case rel => exact ⟨k + 1, cur.kids[j], se, Ae, ce, by omega, by go_num, HB0.out.set3 _ _ _, ((HB1.out.far (by simp) _).far (by simp) _).far (by simp) _, HLK.out, ((hw.setCell (by simp) _).setCell (by simp) _).setCell (by simp) _, by rw [← HAT.out, HST.out], by omega⟩
        case measure => simp [intOf]; omega
      · have HST : Hid (resAt t zs = (zeroT, 6)) := by
          have h := at?_stop hlt hgood
          have h2 := HAT.out
          rw [h] at h2
          show resAt t zs = _
          unfold resAt
          rw [← h2]
        have hkm := HL.out.elems.2.2.1
        unfold maxLen at hkm
        clear HL HAT HP
        generalize zs[k] = z at *
        generalize cur.kids.length = cn at *
        generalize cur.list = cl at *
        have hways : cl = false ∨ (cl = true ∧ z < 0) ∨ (cl = true ∧ 0 ≤ z ∧ (cn : Int) ≤ z) := by
          cases cl
          · exact .inl rfl
          · right
            by_cases h0 : z < 0
            · exact .inl ⟨rfl, h0⟩
            · right; refine ⟨rfl, by omega, ?_⟩
              apply Classical.byContradiction; intro hc; exact hgood ⟨rfl, by omega, by omega⟩
        clear hgood
        rcases hways with rfl | ⟨rfl, h1⟩ | ⟨rfl, h1, h2⟩
        all_goals
          go_wp2_with fail
          refine bodyPost_ret (v := .tuple #[zeroV, .int .i64 6]) (by simp [results, Tryd.results17, go_sem, r0, r1, r2, zeroV]) rfl ?_
          rw [HST.out]
          exact ⟨zeroV, rfl, lies_zero _ _, ((hw.setCell (by simp) _).setCell (by simp) _).setCell (by simp) _⟩
    · have HST : Hid (resAt t zs = (cur, 0)) := by
        have h := at?_end (t := cur) (zs := zs) (k := k) (by omega)
        have h2 := HAT.out
        rw [h] at h2
        show resAt t zs = _
        unfold resAt
        rw [← h2]
      clear HAT
      go_wp2_with fail
      refine (clone_any cur _ _ (HL.out.below hw) hsz).mono ?_
      rintro e w1 ⟨vk, rfl, hLk, hbk⟩
      obtain ⟨se, Ae, ce, rfl, _, _, _, _⟩ := hLk.open_
      have hb1 := HB1.out.below hbk HB1.out.lt
      obtain ⟨⟨x0, x1, x2⟩, y0, y1, y2⟩ := hb1.three
      have HLK := Lib.hid hLk
      have HBLT := HB1.out.lt
      clear hLk
      go_wp2_with fail
      refine bodyPost_ret (v := .tuple #[.agg #[.bool cur.list, .string se, .slice Ae cur.kids.length ce], .int .i64 0]) (by simp [results, Tryd.results17, go_sem, x0, x1, x2]) rfl ?_
      rw [HST.out]
      refine ⟨_, rfl, ?_, (((hw.trans (hbk.mono hw.size)).setCell (by simp) _).setCell (by simp) _).setCell (by simp) _⟩
      refine Lies.to (fun g hg _ => ⟨?_, trivial⟩) _ _ HLK.out
      rw [Below.heap_setCell _ _ _ _ (by simp; omega), Below.heap_setCell _ _ _ _ (by simp; omega), Below.heap_setCell _ _ _ _ (by simp; omega)]
end Go.Proofs.YtfpeplpoliileaaDoor
