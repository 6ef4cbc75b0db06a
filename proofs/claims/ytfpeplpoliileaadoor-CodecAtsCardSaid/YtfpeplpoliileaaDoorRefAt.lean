/- The walk of the reference's At. -/
import Derived.Test.YtfpeplpoliileaaDoorClone
namespace Go.Proofs.YtfpeplpoliileaaDoor
open Go.RowKit Pl

set_option maxHeartbeats 400000 in
theorem refAt_any (t : Tr) (v : Value) (P : Option Addr) (cp : Nat) (zs : List Int) (w : World) (ha : Lies anyB w t v) (hp : Ints w P zs) :
    Calls Tryd.prog 18 #[v, .slice P zs.length cp] w (GivesTE (resAt t zs).1 (resAt t zs).2 w) := by
  obtain ⟨sa, A, ca, rfl, _⟩ := ha.open_
  have hpl := hp.1
  have HP := Lib.hid hp
  have HA := Lib.hid ha
  clear ha hp
  unfold maxLen at hpl
  go_enter Tryd.func18, Tryd.ntmps18
  go_wp2_with fail
  go_loopw [7] (fun i wr => ∃ (k : Nat) (cur : Tr) (s : ByteArray) (A : Option Addr) (c : Nat), k ≤ zs.length ∧ i = .int .i64 k ∧ Blk wr (w.heap.size + 2) 25 #[.bool cur.list, .string s, .slice A cur.kids.length c] ∧
      Blk wr (w.heap.size + 1) 25 #[.bool false, .string ⟨#[]⟩, .slice none 0 0] ∧ Lies anyB w cur (.agg #[.bool cur.list, .string s, .slice A cur.kids.length c]) ∧ Below w.heap.size w wr ∧ at? cur (zs.drop k) = at? t zs) (fun i _ => zs.length - (intOf i).toNat)
  case atStart =>
    refine ⟨0, t, sa, A, ca, Nat.zero_le _, rfl, ?_, ?_, HA.out, by go_grown, by rw [List.drop_zero]⟩
    · have := Blk.new ((w.alloc (.cells #[.bool t.list, .string sa, .slice A t.kids.length ca] 25)).alloc (.cells #[.bool false, .string ⟨#[]⟩, .slice none 0 0] 25)) 25 #[.bool t.list, .string sa, .slice A t.kids.length ca]
      simpa using this
    · have := (Blk.new (w.alloc (.cells #[.bool t.list, .string sa, .slice A t.kids.length ca] 25)) 25 #[.bool false, .string ⟨#[]⟩, .slice none 0 0]).alloc (.cells #[.bool t.list, .string sa, .slice A t.kids.length ca] 25)
      simpa using this
  case round =>
    obtain ⟨k, cur, s, A, c, hk, rfl, hb0, hb1, hL, hw, hat⟩ := hrel
    obtain ⟨⟨d0, d1, d2⟩, f0, f1, f2⟩ := hb0.three
    obtain ⟨⟨r0, r1, r2⟩, g0, g1, g2⟩ := hb1.three
    have HB0 := Lib.hid hb0
    have HB1 := Lib.hid hb1
    have HL := Lib.hid hL
    have HAT := Lib.hid hat
    clear hb0 hb1 hL hat HA
    by_cases hlt : k < zs.length
    · obtain ⟨pb, po, rfl, hpb, hpc⟩ := HP.out.2.2 k hlt
      have hpr := HP.out.2.1 zs[k] (List.getElem_mem hlt)
      have hpc' : wr.cell? ⟨pb, po + k, none⟩ = some (.int .i64 zs[k]) := (hw.cell hpb).trans hpc
      have hlti : (k : Int) < (zs.length : Int) := by omega
      clear hpc
      by_cases hgood : cur.list = true ∧ 0 ≤ zs[k] ∧ zs[k].toNat < cur.kids.length
      · obtain ⟨h1, h2, h3⟩ := hgood
        obtain ⟨_, _, hkm, hel⟩ := HL.out.elems
        unfold maxLen at hkm
        obtain ⟨j, hj⟩ : ∃ j, zs[k].toNat = j := ⟨_, rfl⟩
        rw [hj] at h3
        obtain ⟨ba, oa, se, Ae, ce, rfl, _, hba, e0, e1, e2, hLk⟩ := hel wr (fun g _ hg => hw.block g hg) j h3
        have HLK := Lib.hid hLk
        have HST := Lib.hid (at?_step hlt h1 h2 hj h3)
        have hzj : zs[k] = (j : Int) := by omega
        rw [hzj] at hpc'
        have HZ := Lib.hid hzj
        have hj2 : (j : Int) < (cur.kids.length : Int) := by omega
        have hj3 : decide ((cur.kids.length : Int) ≤ (j : Int)) = false := by simp; omega
        have hj4 : decide ((j : Int) < 0) = false := by simp
        rw [h1] at d0
        clear hel hLk hj hzj h2 hpr
        go_wp2_with fail
        go_quiet (fail)
        go_wp2_with fail
        go_region
        go_wp2_with fail
        go_roundw
        case rel =>
          refine ⟨k + 1, cur.kids[j], se, Ae, ce, by omega, by go_num, ?_, ?_, HLK.out, ?_, by rw [← HAT.out, HST.out]⟩
          · exact HB0.out.set3 _ _ _
          · exact ((HB1.out.far (p := ⟨w.heap.size + 2, 0, none⟩) (by simp) _).far (p := ⟨w.heap.size + 2, 1, none⟩) (by simp) _).far (p := ⟨w.heap.size + 2, 2, none⟩) (by simp) _
          · have h5 := ((hw.setCell (p := ⟨w.heap.size + 2, 0, none⟩) (by simp) (.bool cur.kids[j].list)).setCell (p := ⟨w.heap.size + 2, 1, none⟩) (by simp) (.string se)).setCell (p := ⟨w.heap.size + 2, 2, none⟩) (by simp) (.slice Ae cur.kids[j].kids.length ce)
            exact ⟨h5.os, h5.tape, h5.output, h5.size, h5.block⟩
        case measure => simp [intOf]; omega
      · have HST : Hid (resAt t zs = (zeroT, 6)) := by
          have h := at?_stop hlt hgood
          have h2 := HAT.out
          rw [h] at h2
          show resAt t zs = _
          unfold resAt
          rw [← h2]
        have hkm := HL.out.elems.2.2.1
        unfold maxLen at hkm
        clear HL HAT HP
        generalize zs[k] = z at *
        generalize cur.kids.length = cn at *
        generalize cur.list = cl at *
        have hways : cl = false ∨ (cl = true ∧ z < 0) ∨ (cl = true ∧ 0 ≤ z ∧ (cn : Int) ≤ z) := by
          cases cl
          · exact .inl rfl
          · right
            by_cases h0 : z < 0
            · exact .inl ⟨rfl, h0⟩
            · right; refine ⟨rfl, by omega, ?_⟩
              apply Classical.byContradiction; intro hc; exact hgood ⟨rfl, by omega, by omega⟩
        clear hgood
        rcases hways with rfl | ⟨rfl, h1⟩ | ⟨rfl, h1, h2⟩
        · go_wp2_with fail
          go_quiet (fail)
          go_wp2_with fail
          refine bodyPost_ret (v := .tuple #[zeroV, .int .i64 6]) (by simp [results, Tryd.results18, go_sem, r0, r1, r2, zeroV]) rfl ?_
          rw [HST.out]
          have h5 := ((hw.setCell (p := ⟨w.heap.size + 1, 0, none⟩) (by simp) (.bool false)).setCell (p := ⟨w.heap.size + 1, 1, none⟩) (by simp) (.string ⟨#[]⟩)).setCell (p := ⟨w.heap.size + 1, 2, none⟩) (by simp) (.slice none 0 0)
          exact ⟨zeroV, rfl, lies_zero _ _, ⟨h5.os, h5.tape, h5.output, h5.size, h5.block⟩⟩
        · have hd : decide (z < 0) = true := by simpa using h1
          go_wp2_with fail
          go_quiet (fail)
          go_wp2_with fail
          refine bodyPost_ret (v := .tuple #[zeroV, .int .i64 6]) (by simp [results, Tryd.results18, go_sem, r0, r1, r2, zeroV]) rfl ?_
          rw [HST.out]
          have h5 := ((hw.setCell (p := ⟨w.heap.size + 1, 0, none⟩) (by simp) (.bool false)).setCell (p := ⟨w.heap.size + 1, 1, none⟩) (by simp) (.string ⟨#[]⟩)).setCell (p := ⟨w.heap.size + 1, 2, none⟩) (by simp) (.slice none 0 0)
          exact ⟨zeroV, rfl, lies_zero _ _, ⟨h5.os, h5.tape, h5.output, h5.size, h5.block⟩⟩
        · have hd : decide (z < 0) = false := by simpa using h1
          have hd2 : decide ((cn : Int) ≤ z) = true := by simpa using h2
          go_wp2_with fail
          go_quiet (fail)
          go_wp2_with fail
          refine bodyPost_ret (v := .tuple #[zeroV, .int .i64 6]) (by simp [results, Tryd.results18, go_sem, r0, r1, r2, zeroV]) rfl ?_
          rw [HST.out]
          have h5 := ((hw.setCell (p := ⟨w.heap.size + 1, 0, none⟩) (by simp) (.bool false)).setCell (p := ⟨w.heap.size + 1, 1, none⟩) (by simp) (.string ⟨#[]⟩)).setCell (p := ⟨w.heap.size + 1, 2, none⟩) (by simp) (.slice none 0 0)
          exact ⟨zeroV, rfl, lies_zero _ _, ⟨h5.os, h5.tape, h5.output, h5.size, h5.block⟩⟩
    · have HST : Hid (resAt t zs = (cur, 0)) := by
        have h := at?_end (t := cur) (zs := zs) (k := k) (by omega)
        have h2 := HAT.out
        rw [h] at h2
        show resAt t zs = _
        unfold resAt
        rw [← h2]
      clear HAT
      go_wp2_with fail
      refine bodyPost_ret (v := .tuple #[.agg #[.bool cur.list, .string s, .slice A cur.kids.length c], .int .i64 0]) (by simp [results, Tryd.results18, go_sem, r0, r1, r2]) rfl ?_
      rw [HST.out]
      have h5 := ((hw.setCell (p := ⟨w.heap.size + 1, 0, none⟩) (by simp) (.bool cur.list)).setCell (p := ⟨w.heap.size + 1, 1, none⟩) (by simp) (.string s)).setCell (p := ⟨w.heap.size + 1, 2, none⟩) (by simp) (.slice A cur.kids.length c)
      exact ⟨_, rfl, HL.out.below h5, h5⟩
end Go.Proofs.YtfpeplpoliileaaDoor
