/- The walk of DigestDefines: it returns true. -/
import Derived.Test.YtdbijjiolknbfaaDoorJoins
namespace Go.Proofs.YtdbijjiolknbfaaDoor
open Go.RowKit Pl

/-- A contract, told in a later world. -/
theorem later {f : FuncId} {args : Array Value} {v : Value} {W : World} (h : ∀ w', Calls Tryd.prog f args w' (Draw v w')) : ∀ w', Below W.heap.size W w' → Calls Tryd.prog f args w' fun e w'' => e = .returned v ∧ Below W.heap.size W w'' := by
  intro w' hb
  exact (h w').mono fun e w'' hd => ⟨hd.gives.1, hb.trans (hd.gives.2.mono hb.size)⟩
theorem later_alive {W : World} (ht : Tab W) : ∀ w', Below W.heap.size W w' → Calls Tryd.prog 26 #[] w' fun e w'' => e = .returned (.bool true) ∧ Below W.heap.size W w'' := fun _ hb => alive_from ht hb

set_option maxRecDepth 100000 in
set_option maxHeartbeats 4000000 in
theorem defines_core (s : ByteArray) (a : Nat) (n : Int) (b : Nat) (w : World) (hs : s.size ≤ 2000) (htab : Tab w) (x j c : Nat)
    (c1 : ∀ w', Calls Tryd.prog 27 #[.string s] w' (Draw (.int .u64 (x : Int)) w')) (c2 : ∀ w', Calls Tryd.prog 28 #[.string s] w' (Draw (.int .u64 (x : Int)) w'))
    (c3 : ∀ w', Calls Tryd.prog 29 #[.int .u64 (a : Int), .int .i64 n, .int .u64 (b : Int)] w' (Draw (.int .u64 (j : Int)) w')) (c4 : ∀ w', Calls Tryd.prog 30 #[.int .u64 (a : Int), .int .i64 n, .int .u64 (b : Int)] w' (Draw (.int .u64 (j : Int)) w'))
    (c5 : ∀ w', Calls Tryd.prog 31 #[.int .u64 (a : Int), .string s] w' (Draw (.int .u64 (c : Int)) w')) (c6 : ∀ w', Calls Tryd.prog 32 #[.int .u64 (a : Int), .string s] w' (Draw (.int .u64 (c : Int)) w')) :
    Calls Tryd.prog 5 #[.string s, .agg #[.int .u64 (a : Int), .int .i64 n, .int .u64 (b : Int)]] w (Yes w) := by
  have HB0 := Lib.hid ((Below.refl w.heap.size w).alloc (Nat.le_refl _) (.cells #[.int .u64 (a : Int), .int .i64 n, .int .u64 (b : Int)] 39))
  have hbox := Lib.hid (Blk.new w 39 #[.int .u64 (a : Int), .int .i64 n, .int .u64 (b : Int)])
  obtain ⟨W, hW⟩ : ∃ W : World, W = w.alloc (.cells #[.int .u64 (a : Int), .int .i64 n, .int .u64 (b : Int)] 39) := ⟨_, rfl⟩
  rw [← hW] at HB0 hbox
  have HT := Lib.hid (htab.on HB0.out)
  have C1 := Lib.hid (later (W := W) c1)
  have C2 := Lib.hid (later (W := W) c2)
  have C3 := Lib.hid (later (W := W) c3)
  have C4 := Lib.hid (later (W := W) c4)
  have C5 := Lib.hid (later (W := W) c5)
  have C6 := Lib.hid (later (W := W) c6)
  have CA := Lib.hid (later_alive HT.out)
  have HS : Hid (∀ w' : World, Below W.heap.size W w' → (Below W.heap.size W w' ∧ w'.cell? ⟨w.heap.size, 0, none⟩ = some (.int .u64 (a : Int)) ∧ w'.cell? ⟨w.heap.size, 1, none⟩ = some (.int .i64 n) ∧ w'.cell? ⟨w.heap.size, 2, none⟩ = some (.int .u64 (b : Int)))) := by
    intro w' hb
    have h := hbox.out.below hb hbox.out.lt
    exact ⟨hb, h.cell 0, h.cell 1, h.cell 2⟩
  clear c1 c2 c3 c4 c5 c6 htab
  go_enter Tryd.func5, Tryd.ntmps5
  go_wp2_with fail
  rw [← hW]
  clear hW
  have hb0 : Below W.heap.size W W.drew := (Below.refl _ _).drew
  go_region_held3 (fun w' => Below W.heap.size W w' ∧ w'.cell? ⟨w.heap.size, 0, none⟩ = some (.int .u64 (a : Int)) ∧ w'.cell? ⟨w.heap.size, 1, none⟩ = some (.int .i64 n) ∧ w'.cell? ⟨w.heap.size, 2, none⟩ = some (.int .u64 (b : Int))) (first | exact HS.out _ (by with_reducible assumption)) (first | (go_at_call 27; refine (C1.out _ ?_).mono ?_; (with_reducible assumption); rintro e wx ⟨rfl, hbx⟩) | (go_at_call 28; refine (C2.out _ ?_).mono ?_; (with_reducible assumption); rintro e wx ⟨rfl, hbx⟩) | (go_at_call 29; refine (C3.out _ ?_).mono ?_; (with_reducible assumption); rintro e wx ⟨rfl, hbx⟩) | (go_at_call 30; refine (C4.out _ ?_).mono ?_; (with_reducible assumption); rintro e wx ⟨rfl, hbx⟩) | (go_at_call 31; refine (C5.out _ ?_).mono ?_; (with_reducible assumption); rintro e wx ⟨rfl, hbx⟩) | (go_at_call 32; refine (C6.out _ ?_).mono ?_; (with_reducible assumption); rintro e wx ⟨rfl, hbx⟩) | (go_at_call 26; refine (CA.out _ ?_).mono ?_; (with_reducible assumption); rintro e wx ⟨rfl, hbx⟩))
  all_goals
    have hbf : Below W.heap.size W wx := by with_reducible assumption
    have HF := Lib.hid (HB0.out.trans (hbf.mono HB0.out.size))
    go_wp2_with fail
    go_returns
    exact ⟨rfl, HF.out⟩

theorem defines_any (s : ByteArray) (a : Nat) (n : Int) (b : Nat) (w : World) (hs : s.size ≤ maxLen) (hp : a < 18446744073709551616 ∧ b < 18446744073709551616 ∧ -9223372036854775808 ≤ n ∧ n ≤ 9223372036854775807) (htab : Tab w) :
    Calls Tryd.prog 5 #[.string s, .agg #[.int .u64 (a : Int), .int .i64 n, .int .u64 (b : Int)]] w (Yes w) := by
  unfold maxLen at hs
  obtain ⟨ha, hb, hn⟩ := hp
  by_cases hbig : 2000 < s.size
  · have HT := Lib.hid htab
    have HB0 := Lib.hid ((Below.refl w.heap.size w).alloc (Nat.le_refl _) (.cells #[.int .u64 (a : Int), .int .i64 n, .int .u64 (b : Int)] 39))
    clear htab
    go_enter Tryd.func5, Tryd.ntmps5
    go_wp2_with fail
    refine (alive_from HT.out HB0.out).mono ?_
    rintro e w1 ⟨rfl, hb1⟩
    go_wp2_with fail
    go_returns
    exact ⟨rfl, hb1⟩
  · exact defines_core s a n b w (by omega) htab _ _ _ (fun w' => of_any s (by omega) w') (fun w' => rof_any s (by omega) w') (fun w' => join_any a n b ha hb hn w') (fun w' => rjoin_any a n b ha hb hn w')
      (fun w' => chain_any a s ha (by omega) w') (fun w' => rchain_any a s ha (by omega) w')
end Go.Proofs.YtdbijjiolknbfaaDoor
