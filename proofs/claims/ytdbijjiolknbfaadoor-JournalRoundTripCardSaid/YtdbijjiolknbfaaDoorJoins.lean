/- The walk of DigestJoins: it returns true. -/
import Derived.Test.YtdbijjiolknbfaaDoorLawsA
namespace Go.Proofs.YtdbijjiolknbfaaDoor
open Go.RowKit Pl

theorem join_u64 (a : Nat) (n : Int) (b : Nat) : join a n b < 18446744073709551616 := Nat.lt_trans (join_lt a n b) P_lt
theorem of_u64 (l : List UInt8) : of_ l < 18446744073709551616 := Nat.lt_trans (of_lt l) P_lt
theorem app_data (s t : ByteArray) : (s ++ t).data.toList = s.data.toList ++ t.data.toList := by rw [ByteArray.data_append, Array.toList_append]

/-- The walk, where the values of the calls are known. -/
theorem joins_core (s t u : ByteArray) (w : World) (hs : s.size ≤ 1000) (ht : t.size ≤ 1000) (hu : u.size ≤ 1000) (htab : Tab w) (a b c x z y l : Nat)
    (c1 : ∀ w', Calls Tryd.prog 27 #[.string s] w' (Draw (.int .u64 (a : Int)) w')) (c2 : ∀ w', Calls Tryd.prog 27 #[.string t] w' (Draw (.int .u64 (b : Int)) w')) (c3 : ∀ w', Calls Tryd.prog 27 #[.string u] w' (Draw (.int .u64 (c : Int)) w'))
    (c4 : ∀ w', Calls Tryd.prog 27 #[.string (s ++ t)] w' (Draw (.int .u64 (x : Int)) w')) (c5 : ∀ w', Calls Tryd.prog 29 #[.int .u64 (a : Int), .int .i64 (t.size : Int), .int .u64 (b : Int)] w' (Draw (.int .u64 (x : Int)) w'))
    (c6 : ∀ w', Calls Tryd.prog 29 #[.int .u64 (a : Int), .int .i64 0, .int .u64 (b : Int)] w' (Draw (.int .u64 (z : Int)) w')) (c7 : ∀ w', Calls Tryd.prog 29 #[.int .u64 (b : Int), .int .i64 0, .int .u64 (a : Int)] w' (Draw (.int .u64 (z : Int)) w'))
    (c8 : ∀ w', Calls Tryd.prog 29 #[.int .u64 (x : Int), .int .i64 (u.size : Int), .int .u64 (c : Int)] w' (Draw (.int .u64 (l : Int)) w')) (c9 : ∀ w', Calls Tryd.prog 29 #[.int .u64 (b : Int), .int .i64 (u.size : Int), .int .u64 (c : Int)] w' (Draw (.int .u64 (y : Int)) w'))
    (c10 : ∀ w', Calls Tryd.prog 29 #[.int .u64 (a : Int), .int .i64 ((t.size : Int) + (u.size : Int)), .int .u64 (y : Int)] w' (Draw (.int .u64 (l : Int)) w')) (c11 : ∀ w', Calls Tryd.prog 27 #[.string (s ++ t ++ u)] w' (Draw (.int .u64 (l : Int)) w')) :
    Calls Tryd.prog 9 #[.string s, .string t, .string u] w (Yes w) := by
  have HT := Lib.hid htab
  have C1 := Lib.hid c1
  have C2 := Lib.hid c2
  have C3 := Lib.hid c3
  have C4 := Lib.hid c4
  have C5 := Lib.hid c5
  have C6 := Lib.hid c6
  have C7 := Lib.hid c7
  have C8 := Lib.hid c8
  have C9 := Lib.hid c9
  have C10 := Lib.hid c10
  have C11 := Lib.hid c11
  clear c1 c2 c3 c4 c5 c6 c7 c8 c9 c10 c11 htab
  go_enter Tryd.func9, Tryd.ntmps9
  go_wp2_with fail
  refine (C1.out _).mono ?_
  rintro e w1 ⟨rfl, m1, rfl⟩
  go_wp2_with fail
  refine (C2.out _).mono ?_
  rintro e w1 ⟨rfl, m2, rfl⟩
  go_wp2_with fail
  refine (C3.out _).mono ?_
  rintro e w1 ⟨rfl, m3, rfl⟩
  go_wp2_with fail
  refine (C4.out _).mono ?_
  rintro e w1 ⟨rfl, m4, rfl⟩
  go_wp2_with fail
  refine (C5.out _).mono ?_
  rintro e w1 ⟨rfl, m5, rfl⟩
  go_wp2_with fail
  refine (C6.out _).mono ?_
  rintro e w1 ⟨rfl, m6, rfl⟩
  go_wp2_with fail
  refine (C7.out _).mono ?_
  rintro e w1 ⟨rfl, m7, rfl⟩
  go_wp2_with fail
  refine (C5.out _).mono ?_
  rintro e w1 ⟨rfl, m8, rfl⟩
  go_wp2_with fail
  refine (C8.out _).mono ?_
  rintro e w1 ⟨rfl, m9, rfl⟩
  go_wp2_with fail
  refine (C9.out _).mono ?_
  rintro e w1 ⟨rfl, m10, rfl⟩
  go_wp2_with fail
  refine (C10.out _).mono ?_
  rintro e w1 ⟨rfl, m11, rfl⟩
  go_wp2_with fail
  refine (C11.out _).mono ?_
  rintro e w1 ⟨rfl, m12, rfl⟩
  go_wp2_with fail
  refine (alive_from HT.out (below_drewN w _)).mono ?_
  rintro e w5 ⟨rfl, hb5⟩
  go_wp2_with fail
  go_returns
  exact ⟨rfl, hb5⟩

set_option maxHeartbeats 400000 in
theorem joins_any (s t u : ByteArray) (w : World) (hs : s.size ≤ maxLen) (ht : t.size ≤ maxLen) (hu : u.size ≤ maxLen) (htab : Tab w) : Calls Tryd.prog 9 #[.string s, .string t, .string u] w (Yes w) := by
  unfold maxLen at hs ht hu
  by_cases hbig : 1000 < s.size ∨ (s.size ≤ 1000 ∧ 1000 < t.size) ∨ (s.size ≤ 1000 ∧ t.size ≤ 1000 ∧ 1000 < u.size)
  · have HT := Lib.hid htab
    clear htab
    rcases hbig with h1 | ⟨h1, h2⟩ | ⟨h1, h2, h3⟩
    all_goals
      go_enter Tryd.func9, Tryd.ntmps9
      go_wp2_with fail
      refine (alive_from HT.out (Below.refl _ _)).mono ?_
      rintro e w1 ⟨rfl, hb1⟩
      go_wp2_with fail
      go_returns
      exact ⟨rfl, hb1⟩
  · have h1 : s.size ≤ 1000 := by omega
    have h2 : t.size ≤ 1000 := by omega
    have h3 : u.size ≤ 1000 := by omega
    have e1 : of_ (s ++ t).data.toList = join (of_ s.data.toList) (t.size : Nat) (of_ t.data.toList) := by rw [app_data, of_append, Lib.size_eq]
    have e2 : of_ (s ++ t ++ u).data.toList = join (join (of_ s.data.toList) (t.size : Nat) (of_ t.data.toList)) (u.size : Nat) (of_ u.data.toList) := by
      rw [app_data, of_append, ← Lib.size_eq, e1]
    refine joins_core s t u w h1 h2 h3 htab _ _ _ _ _ _ _ (fun w' => of_any s (by omega) w') (fun w' => of_any t (by omega) w') (fun w' => of_any u (by omega) w') (fun w' => of_any (s ++ t) (by rw [ByteArray.size_append]; omega) w')
      (fun w' => by rw [e1]; exact join_any _ _ _ (of_u64 _) (of_u64 _) (by omega) w') (fun w' => join_any _ _ _ (of_u64 _) (of_u64 _) (by omega) w') (fun w' => by rw [join_comm0]; exact join_any _ _ _ (of_u64 _) (of_u64 _) (by omega) w')
      (fun w' => by rw [e1]; exact join_any _ _ _ (join_u64 _ _ _) (of_u64 _) (by omega) w') (fun w' => join_any _ _ _ (of_u64 _) (of_u64 _) (by omega) w')
      (fun w' => ?_) (fun w' => ?_)
    · have h := join_any (of_ s.data.toList) ((t.size : Int) + (u.size : Int)) (join (of_ t.data.toList) (u.size : Nat) (of_ u.data.toList)) (of_u64 _) (join_u64 _ _ _) (by omega) w'
      rw [← join_assoc] at h
      exact h
    · have h := of_any (s ++ t ++ u) (by rw [ByteArray.size_append, ByteArray.size_append]; omega) w'
      rw [e2] at h
      exact h
end Go.Proofs.YtdbijjiolknbfaaDoor
