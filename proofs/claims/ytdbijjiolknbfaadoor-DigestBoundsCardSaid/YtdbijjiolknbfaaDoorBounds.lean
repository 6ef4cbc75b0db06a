/- The walk of DigestBounds: it returns true. -/
import Derived.Test.YtdbijjiolknbfaaDoorDefines
namespace Go.Proofs.YtdbijjiolknbfaaDoor
open Go.RowKit Pl

set_option maxRecDepth 100000 in
set_option maxHeartbeats 4000000 in
theorem bounds_core (s : ByteArray) (a : Nat) (n : Int) (b : Nat) (w : World) (hs : s.size ≤ 2000) (htab : Tab w) (x j c ar br : Nat) (_hn1 : -9223372036854775808 ≤ n) (_hn2 : n ≤ 9223372036854775807)
    (hx : (x : Int) < 2305843009213693951) (hj : (j : Int) < 2305843009213693951) (ka : (a : Int).tmod 2305843009213693951 = (ar : Int)) (kb : (b : Int).tmod 2305843009213693951 = (br : Int)) (hp0 : (2305843009213693951 : Int) ≠ 0)
    (c1 : ∀ w', Calls Tryd.prog 27 #[.string s] w' (Draw (.int .u64 (x : Int)) w'))
    (c2 : ∀ w', Calls Tryd.prog 29 #[.int .u64 (a : Int), .int .i64 n, .int .u64 (b : Int)] w' (Draw (.int .u64 (j : Int)) w')) (c3 : ∀ w', Calls Tryd.prog 29 #[.int .u64 (ar : Int), .int .i64 (max n 0), .int .u64 (br : Int)] w' (Draw (.int .u64 (j : Int)) w'))
    (c4 : ∀ w', Calls Tryd.prog 31 #[.int .u64 (a : Int), .string s] w' (Draw (.int .u64 (c : Int)) w')) (c5 : ∀ w', Calls Tryd.prog 31 #[.int .u64 (ar : Int), .string s] w' (Draw (.int .u64 (c : Int)) w'))
    (c6 : ∀ w', Calls Tryd.prog 29 #[.int .u64 0, .int .i64 1, .int .u64 (j : Int)] w' (Draw (.int .u64 (j : Int)) w')) :
    Calls Tryd.prog 12 #[.string s, .agg #[.int .u64 (a : Int), .int .i64 n, .int .u64 (b : Int)]] w (Yes w) := by
  have HB0 := Lib.hid ((Below.refl w.heap.size w).alloc (Nat.le_refl _) (.cells #[.int .u64 (a : Int), .int .i64 n, .int .u64 (b : Int)] 39))
  have hbox := Lib.hid (Blk.new w 39 #[.int .u64 (a : Int), .int .i64 n, .int .u64 (b : Int)])
  have C2 := Lib.hid c2
  have HC1 := Lib.hid c1
  have HC3 := Lib.hid c3
  have HC4 := Lib.hid c4
  have HC5 := Lib.hid c5
  have HC6 := Lib.hid c6
  have HT := Lib.hid htab
  clear c1 c2 c3 c4 c5 c6 htab
  go_enter Tryd.func12, Tryd.ntmps12
  generalize (2305843009213693951 : Int) = PP at *
  go_wp2_with fail
  refine (C2.out _).mono ?_
  rintro e w1 ⟨rfl, m1, rfl⟩
  go_wp2_with fail
  obtain ⟨W, hW⟩ : ∃ W : World, W = (w.alloc (.cells #[.int .u64 (a : Int), .int .i64 n, .int .u64 (b : Int)] 39)).drewN m1 := ⟨_, rfl⟩
  rw [← hW]
  have HBW : Hid (Below w.heap.size w W) := by rw [hW]; exact HB0.out.trans ((below_drewN _ m1).mono HB0.out.size)
  have hboxW : Hid (Blk W w.heap.size 39 #[.int .u64 (a : Int), .int .i64 n, .int .u64 (b : Int)]) := by rw [hW]; exact hbox.out.drewN m1
  clear hW
  have C1 := Lib.hid (later (W := W) HC1.out)
  have C3 := Lib.hid (later (W := W) HC3.out)
  have C4 := Lib.hid (later (W := W) HC4.out)
  have C5 := Lib.hid (later (W := W) HC5.out)
  have C6 := Lib.hid (later (W := W) HC6.out)
  have CA := Lib.hid (later_alive (HT.out.on HBW.out))
  have HS : Hid (∀ w' : World, Below W.heap.size W w' → (Below W.heap.size W w' ∧ w'.cell? ⟨w.heap.size, 0, none⟩ = some (.int .u64 (a : Int)) ∧ w'.cell? ⟨w.heap.size, 1, none⟩ = some (.int .i64 n) ∧ w'.cell? ⟨w.heap.size, 2, none⟩ = some (.int .u64 (b : Int)))) := by
    intro w' hb
    have h := hboxW.out.below hb hboxW.out.lt
    exact ⟨hb, h.cell 0, h.cell 1, h.cell 2⟩
  have hb0 : Below W.heap.size W W.drew := (Below.refl _ _).drew
  go_region_held3 (fun w' => Below W.heap.size W w' ∧ w'.cell? ⟨w.heap.size, 0, none⟩ = some (.int .u64 (a : Int)) ∧ w'.cell? ⟨w.heap.size, 1, none⟩ = some (.int .i64 n) ∧ w'.cell? ⟨w.heap.size, 2, none⟩ = some (.int .u64 (b : Int))) (first | exact HS.out _ (by with_reducible assumption)) (first | (go_at_call 27; refine (C1.out _ ?_).mono ?_; (with_reducible assumption); rintro e wx ⟨rfl, hbx⟩) | (go_at_call_of 29 (Value.int IntKind.u64 0); refine (C6.out _ ?_).mono ?_; (with_reducible assumption); rintro e wx ⟨rfl, hbx⟩) | (go_at_call 29; refine (C3.out _ ?_).mono ?_; (with_reducible assumption); rintro e wx ⟨rfl, hbx⟩) | (go_at_call_of 31 (Value.int IntKind.u64 (a : Int)); refine (C4.out _ ?_).mono ?_; (with_reducible assumption); rintro e wx ⟨rfl, hbx⟩) | (go_at_call 31; refine (C5.out _ ?_).mono ?_; (with_reducible assumption); rintro e wx ⟨rfl, hbx⟩) | (go_at_call 26; refine (CA.out _ ?_).mono ?_; (with_reducible assumption); rintro e wx ⟨rfl, hbx⟩))
  all_goals
    have hbf : Below W.heap.size W wx := by with_reducible assumption
    have HF := Lib.hid (HBW.out.trans (hbf.mono HBW.out.size))
    go_wp2_with fail
    go_returns
    exact ⟨rfl, HF.out⟩

theorem tmodP (a : Nat) : (a : Int).tmod 2305843009213693951 = ((a % P : Nat) : Int) := by
  rw [Int.tmod_eq_emod_of_nonneg (by omega)]; exact remP a
theorem ltP {x : Nat} (h : x < P) : (x : Int) < 2305843009213693951 := by rw [P_eq] at h; omega

theorem bounds_any (s : ByteArray) (a : Nat) (n : Int) (b : Nat) (w : World) (hs : s.size ≤ maxLen) (hp : a < 18446744073709551616 ∧ b < 18446744073709551616 ∧ -9223372036854775808 ≤ n ∧ n ≤ 9223372036854775807) (htab : Tab w) :
    Calls Tryd.prog 12 #[.string s, .agg #[.int .u64 (a : Int), .int .i64 n, .int .u64 (b : Int)]] w (Yes w) := by
  unfold maxLen at hs
  obtain ⟨ha, hb, hn⟩ := hp
  by_cases hbig : 2000 < s.size
  · have HT := Lib.hid htab
    have HB0 := Lib.hid ((Below.refl w.heap.size w).alloc (Nat.le_refl _) (.cells #[.int .u64 (a : Int), .int .i64 n, .int .u64 (b : Int)] 39))
    clear htab
    go_enter Tryd.func12, Tryd.ntmps12
    go_wp2_with fail
    refine (alive_from HT.out HB0.out).mono ?_
    rintro e w1 ⟨rfl, hb1⟩
    go_wp2_with fail
    go_returns
    exact ⟨rfl, hb1⟩
  · exact bounds_core s a n b w (by omega) htab _ _ _ _ _ hn.1 hn.2 (ltP (of_lt _)) (ltP (join_lt a n b)) (tmodP a) (tmodP b) (by omega) (fun w' => of_any s (by omega) w') (fun w' => join_any a n b ha hb hn w')
      (fun w' => by rw [← join_mod a n b]; exact join_any _ _ _ (modP_lt a) (modP_lt b) (by omega) w')
      (fun w' => chain_any a s ha (by omega) w') (fun w' => by rw [← chain_mod a]; exact chain_any _ s (modP_lt a) (by omega) w')
      (fun w' => by
        have h := join_any 0 1 (join a n b) (by omega) (join_u64 a n b) (by omega) w'
        rw [join_one _ (join_lt a n b)] at h
        exact h)
end Go.Proofs.YtdbijjiolknbfaaDoor
