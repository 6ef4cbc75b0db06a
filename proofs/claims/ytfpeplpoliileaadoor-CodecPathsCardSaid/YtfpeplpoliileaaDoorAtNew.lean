/- At gives a tree in new memory: the walk of At once more, with that said. -/
import Derived.Test.YtfpeplpoliileaaDoorClone
namespace Go.Proofs.YtfpeplpoliileaaDoor
open Go.RowKit Pl

/-- The call returns a tree in new memory and an error; what was there is as it was. -/
def GivesNew (t : Tr) (n : Nat) (w : World) (e : Ending) (w' : World) : Prop := ∃ v', e = .returned (.tuple #[v', .int .i64 n]) ∧ Lies (fun b => w.heap.size ≤ b) w' t v' ∧ Below w.heap.size w w'

set_option maxHeartbeats 400000 in
theorem at_new (t : Tr) (v : Value) (P : Option Addr) (cp : Nat) (zs : List Int) (w : World) (ha : Lies anyB w t v) (hp : Ints w P zs) (hsize : size t ≤ 100000) :
    Calls Tryd.prog 17 #[v, .slice P zs.length cp] w (GivesNew (resAt t zs).1 (resAt t zs).2 w) := by
  obtain ⟨sa, A, ca, rfl, _⟩ := ha.open_
  have hpl := hp.1
  have HP := Lib.hid hp
  have HA := Lib.hid ha
  clear ha hp
  unfold maxLen at hpl
  go_enter Tryd.func17, Tryd.ntmps17
  go_wp2_with fail
  go_loopw [10] (fun i wr => ∃ (k : Nat) (cur : Tr) (s : ByteArray) (A : Option Addr) (c : Nat), k ≤ zs.length ∧ i = .int .i64 k ∧ Blk wr w.heap.size 25 #[.bool cur.list, .string s, .slice A cur.kids.length c] ∧
      Blk wr (w.heap.size + 1) 25 #[.bool false, .string ⟨#[]⟩, .slice none 0 0] ∧ Lies anyB w cur (.agg #[.bool cur.list, .string s, .slice A cur.kids.length c]) ∧ Below w.heap.size w wr ∧ at? cur (zs.drop k) = at? t zs ∧ size cur ≤ 100000) (fun i _ => zs.length - (intOf i).toNat)
  case atStart => exact ⟨0, t, sa, A, ca, Nat.zero_le _, rfl, (Blk.new _ _ _).alloc _, by have := Blk.new (w.alloc (.cells #[.bool t.list, .string sa, .slice A t.kids.length ca] 25)) 25 #[.bool false, .string ⟨#[]⟩, .slice none 0 0]; simpa using this, HA.out, by go_grown, by rw [List.drop_zero], hsize⟩
  case round =>
    obtain ⟨k, cur, s, A, c, hk, rfl, hb0, hb1, hL, hw, hat, hsz⟩ := hrel
    obtain ⟨⟨d0, d1, d2⟩, f0, f1, f2⟩ := hb0.three
    obtain ⟨⟨r0, r1, r2⟩, g0, g1, g2⟩ := hb1.three
    have HB0 := Lib.hid hb0
    have HB1 := Lib.hid hb1
    have HL := Lib.hid hL
    have HAT := Lib.hid hat
    clear hb0 hb1 hL hat HA
    by_cases hlt : k < zs.length
    · obtain ⟨pb, po, rfl, hpb, hpc⟩ := HP.out.2.2 k hlt
      have hpr := HP.out.2.1 zs[k] (List.getElem_mem hlt)
      have hpc' : wr.cell? ⟨pb, po + k, none⟩ = some (.int .i64 zs[k]) := (hw.cell hpb).trans hpc
      clear hpc
      by_cases hgood : cur.list = true ∧ 0 ≤ zs[k] ∧ zs[k].toNat < cur.kids.length
      · obtain ⟨h1, h2, h3⟩ := hgood
        obtain ⟨_, _, hkm, hel⟩ := HL.out.elems
        unfold maxLen at hkm
        obtain ⟨j, hj⟩ : ∃ j, zs[k].toNat = j := ⟨_, rfl⟩
        rw [hj] at h3
        obtain ⟨ba, oa, se, Ae, ce, rfl, _, hba, e0, e1, e2, hLk⟩ := hel wr (fun g _ hg => hw.block g hg) j h3
        have HLK := Lib.hid hLk
        have HST := Lib.hid (at?_step hlt h1 h2 hj h3)
        have hks := size_kid (List.getElem_mem h3)
        have hzj : zs[k] = (j : Int) := by omega
        rw [hzj] at hpc'
        have HZ := Lib.hid hzj
        have hj2 : (j : Int) < (cur.kids.length : Int) := by omega
        have hj3 : ¬ (cur.kids.length : Int) ≤ (j : Int) := by omega
        clear hel hLk hj hzj h2 hpr
        go_wp2_with fail
        go_roundw
        case rel => exact ⟨k + 1, cur.kids[j], se, Ae, ce, by omega, by go_num, HB0.out.set3 _ _ _, ((HB1.out.far (by simp) _).far (by simp) _).far (by simp) _, HLK.out, ((hw.setCell (by simp) _).setCell (by simp) _).setCell (by simp) _, by rw [← HAT.out, HST.out], by omega⟩
        case measure => simp [intOf]; omega
      · have HST : Hid (resAt t zs = (zeroT, 6)) := by
          have h := at?_stop hlt hgood
          have h2 := HAT.out
          rw [h] at h2
          show resAt t zs = _
          unfold resAt
          rw [← h2]
        have hkm := HL.out.elems.2.2.1
        unfold maxLen at hkm
        clear HL HAT HP
        generalize zs[k] = z at *
        generalize cur.kids.length = cn at *
        generalize cur.list = cl at *
        have hways : cl = false ∨ (cl = true ∧ z < 0) ∨ (cl = true ∧ 0 ≤ z ∧ (cn : Int) ≤ z) := by
          cases cl
          · exact .inl rfl
          · right
            by_cases h0 : z < 0
            · exact .inl ⟨rfl, h0⟩
            · right; refine ⟨rfl, by omega, ?_⟩
              apply Classical.byContradiction; intro hc; exact hgood ⟨rfl, by omega, by omega⟩
        clear hgood
        rcases hways with rfl | ⟨rfl, h1⟩ | ⟨rfl, h1, h2⟩
        all_goals
          go_wp2_with fail
          refine bodyPost_ret (v := .tuple #[zeroV, .int .i64 6]) (by simp [results, Tryd.results17, go_sem, r0, r1, r2, zeroV]) rfl ?_
          rw [HST.out]
          exact ⟨zeroV, rfl, lies_zero _ _, ((hw.setCell (by simp) _).setCell (by simp) _).setCell (by simp) _⟩
    · have HST : Hid (resAt t zs = (cur, 0)) := by
        have h := at?_end (t := cur) (zs := zs) (k := k) (by omega)
        have h2 := HAT.out
        rw [h] at h2
        show resAt t zs = _
        unfold resAt
        rw [← h2]
      clear HAT
      go_wp2_with fail
      refine (clone_any cur _ _ (HL.out.below hw) hsz).mono ?_
      rintro e w1 ⟨vk, rfl, hLk, hbk⟩
      obtain ⟨se, Ae, ce, rfl, _, _, _, _⟩ := hLk.open_
      have hb1 := HB1.out.below hbk HB1.out.lt
      obtain ⟨⟨x0, x1, x2⟩, y0, y1, y2⟩ := hb1.three
      have HLK := Lib.hid hLk
      have HBLT := HB1.out.lt
      clear hLk
      go_wp2_with fail
      refine bodyPost_ret (v := .tuple #[.agg #[.bool cur.list, .string se, .slice Ae cur.kids.length ce], .int .i64 0]) (by simp [results, Tryd.results17, go_sem, x0, x1, x2]) rfl ?_
      rw [HST.out]
      refine ⟨_, rfl, ?_, (((hw.trans (hbk.mono hw.size)).setCell (by simp) _).setCell (by simp) _).setCell (by simp) _⟩
      refine Lies.to (fun g hg _ => ⟨?_, by have := hw.size; omega⟩) _ _ HLK.out
      rw [Below.heap_setCell _ _ _ _ (by simp; omega), Below.heap_setCell _ _ _ _ (by simp; omega), Below.heap_setCell _ _ _ _ (by simp; omega)]
end Go.Proofs.YtfpeplpoliileaaDoor
