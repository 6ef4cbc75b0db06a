/- The walk of Decode. -/
import Derived.Test.YtfpeplpoliileaaDoorText
namespace Go.Proofs.YtfpeplpoliileaaDoor
open Go.RowKit Pl

theorem assert_errno (k : Int) (w : World) : (Instr.typeAssert (.iface 26 (.int .i64 k)) 20 26 true).run Tryd.prog w = .ok (.tuple #[.int .i64 k, .bool true]) w := by kernel_rfl
theorem assert_nil (w : World) : (Instr.typeAssert .nilIface 20 26 true).run Tryd.prog w = .ok (.tuple #[.int .i64 0, .bool false]) w := by kernel_rfl

set_option maxHeartbeats 400000 in
theorem catch_panicking (nb eb : Nat) (k : Int) (w : World) (x y z : Value) (u : Value) (hn : Blk w nb 25 #[x, y, z]) (he : Blk w eb 26 #[u]) (hne : nb ≠ eb) :
    CallsD Tryd.prog 24 #[.pointer (some ⟨nb, 0, none⟩), .pointer (some ⟨eb, 0, none⟩)] (.panicking [{ v := .iface 26 (.int .i64 k), recovered := false }]) w fun e u' w' =>
      e = .returned (.tuple #[]) ∧ u' = .panicking [{ v := .iface 26 (.int .i64 k), recovered := true }] ∧
      w' = (((w.setCell ⟨nb, 0, none⟩ (.bool false)).setCell ⟨nb, 1, none⟩ (.string ⟨#[]⟩)).setCell ⟨nb, 2, none⟩ (.slice none 0 0)).setCell ⟨eb, 0, none⟩ (.int .i64 k) := by
  obtain ⟨⟨c0, c1, c2⟩, f0, f1, f2⟩ := hn.three
  have e0 : w.cell? ⟨eb, 0, none⟩ = some u := he.cell 0
  have g0 := he.frozen 0
  refine callsD_of_wpS Tryd.func24 rfl fun c₀ cs hu => ?_
  apply wpS_seq
  apply wpS_region
  simp [wpOpsS, go_sem, recoverD, hu, Tryd.ntmps24, Exit.thenS, assert_errno]
  apply wpS_seq
  apply wpS_region
  simp [wpOpsS, go_sem, Exit.thenS]
  refine wpS_cond (t := true) (by simp [Act.eval, Array.replicate]) ?_
  simp only [if_true]
  apply wpS_region
  simp [wpOpsS, go_sem, c0, c1, c2, f0, f1, f2, e0, g0, bodyPostS, results, Tryd.results24, Array.replicate]

set_option maxHeartbeats 400000 in
theorem catch_idle (nb eb : Nat) (w : World) :
    CallsD Tryd.prog 24 #[.pointer (some ⟨nb, 0, none⟩), .pointer (some ⟨eb, 0, none⟩)] .returning w fun e u' w' => e = .returned (.tuple #[]) ∧ u' = .returning ∧ w' = w := by
  refine callsD_of_wpS Tryd.func24 rfl fun c₀ cs hu => ?_
  apply wpS_seq
  apply wpS_region
  simp [wpOpsS, go_sem, recoverD, hu, Tryd.ntmps24, Exit.thenS, assert_nil]
  apply wpS_seq
  apply wpS_region
  simp [wpOpsS, go_sem, Exit.thenS]
  refine wpS_cond (t := false) (by simp [Act.eval, Array.replicate]) ?_
  simp only [Bool.false_eq_true, if_false]
  refine wpS_of_wp (wp_skip ?_)
  cases c₀
  simp_all [bodyPostS, results, Tryd.results24]

/-- What Decode gives. -/
def resDec (s : List UInt8) : Tr × Nat := match Pl.decode s with | .ok t => (t, 0) | .error n => (zeroT, n)

theorem resDec_long {s : List UInt8} (h : 20000 < s.length) : resDec s = (zeroT, 5) := by unfold resDec Pl.decode; rw [if_pos h]
theorem resDec_err {s : List UInt8} {n : Nat} (h : ¬ 20000 < s.length) (he : rdNode 12 0 s = .error n) : resDec s = (zeroT, n) := by unfold resDec Pl.decode; rw [if_neg h, he]
theorem resDec_more {s r : List UInt8} {t : Tr} (h : ¬ 20000 < s.length) (he : rdNode 12 0 s = .ok (t, r)) (hr : r ≠ []) : resDec s = (zeroT, 2) := by unfold resDec Pl.decode; rw [if_neg h, he]; simp only [if_neg hr]
theorem resDec_ok {s : List UInt8} {t : Tr} (h : ¬ 20000 < s.length) (he : rdNode 12 0 s = .ok (t, [])) : resDec s = (t, 0) := by unfold resDec Pl.decode; rw [if_neg h, he]; rfl

set_option maxHeartbeats 400000 in
theorem decode_long (s : ByteArray) (w : World) (hs : 20000 < s.size) (hs2 : s.size ≤ maxLen) : Calls Tryd.prog 13 #[.string s] w (GivesTE zeroT 5 w) := by
  unfold maxLen at hs2
  have hmf : ∀ (fn : Fn) (first cap : Array Value) (w : World), (Instr.makeFunc fn first cap).run Tryd.prog w = .ok (.func fn first cap) w := fun _ _ _ _ => rfl
  go_enter_defers Tryd.func13, Tryd.ntmps13
  go_wp2_with fail
  simp [bodyPostD, Leaves, results, Tryd.results13, go_sem]
  exact ⟨zeroV, rfl, lies_zero _ _, by go_grown⟩

/-- The door of Decode behind a panic. -/
theorem fault_world {w w2 : World} {b : Nat} {x y z u : Value} (n : Int) (hn : Blk w2 b 25 #[x, y, z]) (he : Blk w2 (b + 1) 26 #[u]) (hb : Below w.heap.size w w2) (hbw : w.heap.size ≤ b) :
    ∃ FW : World, FW = (((w2.setCell ⟨b, 0, none⟩ (.bool false)).setCell ⟨b, 1, none⟩ (.string ⟨#[]⟩)).setCell ⟨b, 2, none⟩ (.slice none 0 0)).setCell ⟨b + 1, 0, none⟩ (.int .i64 n) ∧
      Blk FW b 25 #[.bool false, .string ⟨#[]⟩, .slice none 0 0] ∧ Blk FW (b + 1) 26 #[.int .i64 n] ∧ Below w.heap.size w FW := by
  refine ⟨_, rfl, ?_, ?_, ?_⟩
  · exact (hn.set3 _ _ _).far (p := ⟨b + 1, 0, none⟩) (by simp) _
  · have h1 := (((he.far (p := ⟨b, 0, none⟩) (by simp) (.bool false)).far (p := ⟨b, 1, none⟩) (by simp) (.string ⟨#[]⟩)).far (p := ⟨b, 2, none⟩) (by simp) (.slice none 0 0)).set_ 0 (.int .i64 n)
    exact h1
  · exact (((hb.setCell (p := ⟨b, 0, none⟩) hbw _).setCell (p := ⟨b, 1, none⟩) hbw _).setCell (p := ⟨b, 2, none⟩) hbw _).setCell (p := ⟨b + 1, 0, none⟩) (by simp; omega) _
/-- The world behind a good reading. -/
theorem good_world {w w2 : World} {b : Nat} {x y z u : Value} (p q r : Value) (hn : Blk w2 b 25 #[x, y, z]) (he : Blk w2 (b + 1) 26 #[u]) (hb : Below w.heap.size w w2) (hbw : w.heap.size ≤ b) :
    ∃ FW : World, FW = ((((((w2.setCell ⟨b, 0, none⟩ p).setCell ⟨b, 1, none⟩ q).setCell ⟨b, 2, none⟩ r).setCell ⟨b, 0, none⟩ p).setCell ⟨b, 1, none⟩ q).setCell ⟨b, 2, none⟩ r).setCell ⟨b + 1, 0, none⟩ (.int .i64 0) ∧
      Blk FW b 25 #[p, q, r] ∧ Blk FW (b + 1) 26 #[.int .i64 0] ∧ Below w.heap.size w FW ∧ ∀ g, b + 1 < g → FW.heap[g]? = w2.heap[g]? := by
  refine ⟨_, rfl, ?_, ?_, ?_, ?_⟩
  · exact ((hn.set3 _ _ _).set3 _ _ _).far (p := ⟨b + 1, 0, none⟩) (by simp) _
  · have h1 := ((he.far (p := ⟨b, 0, none⟩) (by simp) p).far (p := ⟨b, 1, none⟩) (by simp) q).far (p := ⟨b, 2, none⟩) (by simp) r
    have h2 := (((h1.far (p := ⟨b, 0, none⟩) (by simp) p).far (p := ⟨b, 1, none⟩) (by simp) q).far (p := ⟨b, 2, none⟩) (by simp) r).set_ 0 (.int .i64 0)
    exact h2
  · have h1 := ((hb.setCell (p := ⟨b, 0, none⟩) hbw p).setCell (p := ⟨b, 1, none⟩) hbw q).setCell (p := ⟨b, 2, none⟩) hbw r
    exact (((h1.setCell (p := ⟨b, 0, none⟩) hbw p).setCell (p := ⟨b, 1, none⟩) hbw q).setCell (p := ⟨b, 2, none⟩) hbw r).setCell (p := ⟨b + 1, 0, none⟩) (by simp; omega) _
  · intro g hg
    rw [set_far _ _ _ _ _ (by omega), set_far _ _ _ _ _ (by omega), set_far _ _ _ _ _ (by omega), set_far _ _ _ _ _ (by omega), set_far _ _ _ _ _ (by omega), set_far _ _ _ _ _ (by omega), set_far _ _ _ _ _ (by omega)]

set_option maxHeartbeats 400000 in
theorem decode_short (s : ByteArray) (w : World) (hs : s.size ≤ 20000) : Calls Tryd.prog 13 #[.string s] w (GivesTE (resDec s.data.toList).1 (resDec s.data.toList).2 w) := by
  have hmf : ∀ (fn : Fn) (first cap : Array Value) (w : World), (Instr.makeFunc fn first cap).run Tryd.prog w = .ok (.func fn first cap) w := fun _ _ _ _ => rfl
  have hnl : ¬ 20000 < s.data.toList.length := by rw [← Lib.size_eq]; omega
  obtain ⟨W, hW⟩ : ∃ W : World, W = (((w.alloc (Obj.cells #[.bool false, .string ⟨#[]⟩, .slice none 0 0] 25)).alloc (Obj.cells #[.int .i64 0] 26)).alloc (Obj.cells #[.string s, .int .i64 0] 45)) := ⟨_, rfl⟩
  have hrd : Rd W (w.heap.size + 1 + 1) s 0 := by
    rw [hW]
    have := Blk.new ((w.alloc (Obj.cells #[.bool false, .string ⟨#[]⟩, .slice none 0 0] 25)).alloc (Obj.cells #[.int .i64 0] 26)) 45 #[.string s, .int .i64 0]
    unfold Rd
    simpa using this
  have hbn : Blk W w.heap.size 25 #[.bool false, .string ⟨#[]⟩, .slice none 0 0] := by rw [hW]; exact ((Blk.new _ _ _).alloc _).alloc _
  have hbe : Blk W (w.heap.size + 1) 26 #[.int .i64 0] := by
    rw [hW]
    have := (Blk.new (w.alloc (Obj.cells #[.bool false, .string ⟨#[]⟩, .slice none 0 0] 25)) 26 #[.int .i64 0]).alloc (Obj.cells #[.string s, .int .i64 0] 45)
    simpa using this
  have hbw : Below w.heap.size w W := by rw [hW]; go_grown
  have HW := Lib.hid hW
  have HRD := Lib.hid hrd
  have HBN := Lib.hid hbn
  have HBE := Lib.hid hbe
  clear hW hrd hbn hbe
  go_enter_defers Tryd.func13, Tryd.ntmps13
  go_wp2_with fail
  rw [← HW.out]
  have hno := node_any 12 (by omega) s (w.heap.size + 1 + 1) 0 0 1 W (by omega) hs HRD.out (by omega) (by omega)
  rw [List.drop_zero] at hno
  refine hno.mono ?_
  clear hno
  have hwW : w.heap.size + 3 ≤ W.heap.size := by have := HRD.out.lt; omega
  cases hrn : rdNode 12 0 s.data.toList with
  | error n =>
    rintro e w2 ⟨rfl, hg2⟩
    have hbn2 := HBN.out.grown hg2 (by intro e; injection e with e; omega)
    have hbe2 := HBE.out.grown hg2 (by intro e; injection e with e; omega)
    have hbw2 : Below w.heap.size w w2 := ⟨hg2.os.trans hbw.os, hg2.tape.trans hbw.tape, hg2.output.trans hbw.output, Nat.le_trans hbw.size hg2.size, fun k hk => (hg2.block k (by omega) (by intro e; injection e with e; omega)).trans (hbw.block k hk)⟩
    refine leaves_cons (f := 24) (args := #[.pointer (some ⟨w.heap.size, 0, none⟩), .pointer (some ⟨w.heap.size + 1, 0, none⟩)]) (by simp) (by simp [go_sem]) ?_
    refine (catch_panicking w.heap.size (w.heap.size + 1) n w2 _ _ _ _ hbn2 hbe2 (by omega)).mono ?_
    rintro e u' w'' ⟨rfl, rfl, rfl⟩
    obtain ⟨FW, hFW, fb, fe, hfw⟩ := fault_world (n : Int) hbn2 hbe2 hbw2 (Nat.le_refl _)
    rw [← hFW]
    obtain ⟨⟨q0, q1, q2⟩, _⟩ := fb.three
    have q3 : FW.cell? ⟨w.heap.size + 1, 0, none⟩ = some (.int .i64 (n : Int)) := fe.cell 0
    rw [resDec_err hnl hrn]
    simp [Leaves, settle, results, Tryd.results13, go_sem, q0, q1, q2, q3]
    exact ⟨zeroV, rfl, lies_zero _ _, hfw⟩
  | ok tr =>
    obtain ⟨t, r⟩ := tr
    rintro e w2 ⟨v, rfl, hL, hg2, p, hrd2, hdr, hp⟩
    obtain ⟨se, Ae, ce, rfl, _⟩ := hL.open_
    have hbn2 := HBN.out.grown hg2 (by intro e; injection e with e; omega)
    have hbe2 := HBE.out.grown hg2 (by intro e; injection e with e; omega)
    have hbw2 : Below w.heap.size w w2 := ⟨hg2.os.trans hbw.os, hg2.tape.trans hbw.tape, hg2.output.trans hbw.output, Nat.le_trans hbw.size hg2.size, fun k hk => (hg2.block k (by omega) (by intro e; injection e with e; omega)).trans (hbw.block k hk)⟩
    obtain ⟨⟨x0, x1, x2⟩, y0, y1, y2⟩ := hbn2.three
    obtain ⟨d0, d1, g1⟩ := hrd2.cells
    have e0 : w2.cell? ⟨w.heap.size + 1, 0, none⟩ = some (.int .i64 0) := hbe2.cell 0
    have z0 := hbe2.frozen 0
    have HL := Lib.hid hL
    have HBN2 := Lib.hid hbn2
    have HBE2 := Lib.hid hbe2
    have HBW2 := Lib.hid hbw2
    have HDR := Lib.hid hdr
    have HRN := Lib.hid hrn
    clear hL hbn2 hbe2 hbw2 hg2 hrd2 hdr hrn
    by_cases hmore : p < s.size
    · have hr : r ≠ [] := by
        intro h; have h2 := HDR.out; rw [h] at h2
        have := drop_nil h2 hp; omega
      have HR := Lib.hid (resDec_more hnl HRN.out hr)
      clear hr
      have hmi : (p : Int) < (s.size : Int) := by omega
      go_wp2_with fail
      have hbn3 := HBN2.out.set3 (.bool t.list) (.string se) (.slice Ae t.kids.length ce)
      have hbe3 := ((HBE2.out.far (p := ⟨w.heap.size, 0, none⟩) (by simp) (.bool t.list)).far (p := ⟨w.heap.size, 1, none⟩) (by simp) (.string se)).far (p := ⟨w.heap.size, 2, none⟩) (by simp) (.slice Ae t.kids.length ce)
      have hbw3 := ((HBW2.out.setCell (p := ⟨w.heap.size, 0, none⟩) (Nat.le_refl _) (.bool t.list)).setCell (p := ⟨w.heap.size, 1, none⟩) (Nat.le_refl _) (.string se)).setCell (p := ⟨w.heap.size, 2, none⟩) (Nat.le_refl _) (.slice Ae t.kids.length ce)
      refine leaves_cons (f := 24) (args := #[.pointer (some ⟨w.heap.size, 0, none⟩), .pointer (some ⟨w.heap.size + 1, 0, none⟩)]) (by simp) (by simp [go_sem]) ?_
      refine (catch_panicking w.heap.size (w.heap.size + 1) 2 _ _ _ _ _ hbn3 hbe3 (by omega)).mono ?_
      rintro e u' w'' ⟨rfl, rfl, rfl⟩
      obtain ⟨FW, hFW, fb, fe, hfw⟩ := fault_world 2 hbn3 hbe3 hbw3 (Nat.le_refl _)
      rw [← hFW]
      obtain ⟨⟨q0, q1, q2⟩, _⟩ := fb.three
      have q3 : FW.cell? ⟨w.heap.size + 1, 0, none⟩ = some (.int .i64 2) := fe.cell 0
      rw [HR.out]
      simp [Leaves, settle, results, Tryd.results13, go_sem, q0, q1, q2, q3]
      exact ⟨zeroV, rfl, lies_zero _ _, hfw⟩
    · have hr : r = [] := by
        rw [← HDR.out]; exact List.drop_of_length_le (by rw [← Lib.size_eq]; omega)
      subst hr
      have HR := Lib.hid (resDec_ok hnl HRN.out)
      have hmi : ¬ (p : Int) < (s.size : Int) := by omega
      go_wp2_with fail
      refine leaves_cons (f := 24) (args := #[.pointer (some ⟨w.heap.size, 0, none⟩), .pointer (some ⟨w.heap.size + 1, 0, none⟩)]) (by simp) (by simp [go_sem]) ?_
      refine (catch_idle w.heap.size (w.heap.size + 1) _).mono ?_
      rintro e u' w'' ⟨rfl, rfl, rfl⟩
      obtain ⟨FW, hFW, fb, fe, hfw, hfar⟩ := good_world (.bool t.list) (.string se) (.slice Ae t.kids.length ce) HBN2.out HBE2.out HBW2.out (Nat.le_refl _)
      rw [← hFW]
      obtain ⟨⟨q0, q1, q2⟩, _⟩ := fb.three
      have q3 : FW.cell? ⟨w.heap.size + 1, 0, none⟩ = some (.int .i64 0) := fe.cell 0
      rw [HR.out]
      simp [Leaves, settle, results, Tryd.results13, go_sem, q0, q1, q2, q3]
      exact ⟨_, rfl, Lies.to (fun g hg _ => ⟨hfar g (by omega), trivial⟩) _ _ HL.out, hfw⟩

theorem decode_any (s : ByteArray) (w : World) (hs : s.size ≤ maxLen) : Calls Tryd.prog 13 #[.string s] w (GivesTE (resDec s.data.toList).1 (resDec s.data.toList).2 w) := by
  by_cases h : 20000 < s.size
  · rw [resDec_long (by rw [← Lib.size_eq]; exact h)]
    exact decode_long s w h hs
  · exact decode_short s w (by omega)
end Go.Proofs.YtfpeplpoliileaaDoor
