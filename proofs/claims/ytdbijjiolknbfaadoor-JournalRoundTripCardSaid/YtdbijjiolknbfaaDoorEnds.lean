/- The walks of the reference's form and of the law's ends. -/
import Derived.Test.YtdbijjiolknbfaaDoorSame
namespace Go.Proofs.YtdbijjiolknbfaaDoor
open Go.RowKit Pl

set_option maxHeartbeats 1000000 in
theorem rform_any (s : ByteArray) (hs : s.size ≤ 100000) (w : World) : Calls Tryd.prog 55 #[.string s] w fun e w' => e = .returned (.bool (form s.data.toList)) ∧ w = w' := by
  have hl := Lib.size_eq s
  by_cases h16 : s.size ≤ 16
  · have HF := Lib.hid (form_short (l := s.data.toList) (by omega))
    clear hl
    go_enter Tryd.func55, Tryd.ntmps55
    go_wp2_with fail
    go_returns
    exact ⟨ret_bool HF.out.symm, rfl⟩
  · have hl16 : 16 < s.data.toList.length := by omega
    have hck : s.data.toList[16] = s[16] := rfl
    have hc16 := s[16].toNat_lt
    by_cases hc : s[16] = 32
    · have hci : ((s[16].toNat : Int) != 32) = false := by rw [hc]; rfl
      obtain ⟨x, hx⟩ : ∃ x, x = s.extract 17 s.size := ⟨_, rfl⟩
      have hxz : x.size ≤ 100000 := by rw [hx, Lib.size_eq, ext_from]; simp; omega
      have HXE : Hid (isEntry x.data.toList = isEntry (s.data.toList.drop 17)) := by show _ = _; rw [hx, ext_from]
      have CE := Lib.hid (fun w' => rentry_any x hxz w')
      have h17 : (17 : Int) ≤ (s.size : Int) := by omega
      rw [hx] at CE
      cases he : isEntry (s.data.toList.drop 17)
      · have HF := Lib.hid (form_entry he)
        have HE := Lib.hid (HXE.out.trans he)
        rw [hx] at HE
        clear hl he hxz hx HXE
        go_enter Tryd.func55, Tryd.ntmps55
        go_wp2_with fail
        refine (CE.out _).mono ?_
        rw [HE.out]
        rintro e w1 ⟨rfl, rfl⟩
        go_wp2_with fail
        go_returns
        exact ⟨ret_bool HF.out.symm, rfl⟩
      · have HEN := Lib.hid he
        have HE := Lib.hid (HXE.out.trans he)
        rw [hx] at HE
        have HC := Lib.hid (hck.trans hc)
        clear hl he hxz hx HXE
        go_enter Tryd.func55, Tryd.ntmps55
        go_wp2_with fail
        refine (CE.out _).mono ?_
        rw [HE.out]
        rintro e w1 ⟨rfl, rfl⟩
        go_wp2_with fail
        go_loop [3] (fun i => ∃ k : Nat, k ≤ 16 ∧ i = .int .i64 (k : Int) ∧ ∀ c ∈ s.data.toList.take k, hval c ≠ none) (fun i => 16 - (intOf i).toNat)
        case atStart => exact ⟨0, by omega, rfl, fun c hc => by simp at hc⟩
        case round =>
          obtain ⟨k, hk, rfl, hall⟩ := hrel
          have HALL := Lib.hid hall
          clear hall
          by_cases hlt : k < 16
          · have hkl : k < s.data.toList.length := by omega
            have hks : k < s.size := by omega
            have hck2 : s.data.toList[k] = s[k] := rfl
            have hlti : (k : Int) < (s.size : Int) := by omega
            have hkc := s[k].toNat_lt
            by_cases hv : hval s[k] = none
            · have HF := Lib.hid (form_digit hl16 hlt (by rw [hck2]; exact hv))
              have hv2 := hval_nonev hv
              have hways : (s[k].toNat : Int) < 48 ∨ (57 < (s[k].toNat : Int) ∧ (s[k].toNat : Int) < 97) ∨ 102 < (s[k].toNat : Int) := by omega
              clear hv hv2
              rcases hways with i1 | ⟨i1, i2⟩ | i1
              · go_wp2_with fail
                go_returns
                exact ⟨ret_bool HF.out.symm, rfl⟩
              · have d1 : decide ((s[k].toNat : Int) ≤ 57) = false := decide_eq_false (by omega)
                have d2 : (48 : Int) ≤ (s[k].toNat : Int) := by omega
                go_wp2_with fail
                go_returns
                exact ⟨ret_bool HF.out.symm, rfl⟩
              · have d1 : decide ((s[k].toNat : Int) ≤ 57) = false := decide_eq_false (by omega)
                have d2 : (48 : Int) ≤ (s[k].toNat : Int) := by omega
                have d3 : (97 : Int) ≤ (s[k].toNat : Int) := by omega
                have d4 : decide ((s[k].toNat : Int) ≤ 102) = false := decide_eq_false (by omega)
                have d5 : ¬ (s[k].toNat : Int) ≤ 57 := by omega
                go_wp2_with fail
                go_returns
                exact ⟨ret_bool HF.out.symm, rfl⟩
            · have HN := Lib.hid (digs_take hkl HALL.out (by rw [hck2]; exact hv))
              have hways : ((48 : Int) ≤ (s[k].toNat : Int) ∧ (s[k].toNat : Int) ≤ 57) ∨ ((97 : Int) ≤ (s[k].toNat : Int) ∧ (s[k].toNat : Int) ≤ 102) := by
                have := hval_some hv; omega
              clear hv
              rcases hways with ⟨i1, i2⟩ | ⟨i1, i2⟩
              all_goals
                go_wp2_with fail
                go_round
                case rel => exact ⟨k + 1, by omega, by go_num, HN.out⟩
                case measure => simp [intOf]; omega
          · obtain rfl : k = 16 := by omega
            have HF := Lib.hid (form_good hl16 HC.out HEN.out HALL.out)
            go_wp2_with fail
            go_returns
            exact ⟨ret_bool HF.out.symm, rfl⟩
    · have HF := Lib.hid (form_space hl16 (by rw [hck]; exact hc))
      have hci : ((s[16].toNat : Int) != 32) = true := by
        simp; intro h; apply hc; apply UInt8.toNat_inj.1; simpa using (by omega : s[16].toNat = 32)
      clear hl hc
      go_enter Tryd.func55, Tryd.ntmps55
      go_wp2_with fail
      go_returns
      exact ⟨ret_bool HF.out.symm, rfl⟩

/-! ### ends -/
/-- The bytes of the complete lines at the beginning. -/
def whole_ (s : List UInt8) : Nat := s.length - (s.reverse.takeWhile fun c => c != 10).length
def feeds (s : List UInt8) : Nat := s.countP fun c => c == 10
theorem whole_snoc_feed (s : List UInt8) : whole_ (s ++ [10]) = s.length + 1 := by simp [whole_]
theorem whole_snoc_other (s : List UInt8) {c : UInt8} (h : c ≠ 10) : whole_ (s ++ [c]) = whole_ s := by
  unfold whole_
  rw [List.reverse_append, List.reverse_singleton, List.singleton_append, List.takeWhile_cons, if_pos (by simpa using h)]
  simp
theorem feeds_snoc (s : List UInt8) (c : UInt8) : feeds (s ++ [c]) = feeds s + if c = 10 then 1 else 0 := by
  simp [feeds, List.countP_append, List.countP_cons]
theorem feeds_le (s : List UInt8) : feeds s ≤ s.length := List.countP_le_length

set_option maxHeartbeats 1000000 in
theorem ends_any (s : ByteArray) (hs : s.size ≤ 100000) (w : World) : Calls Tryd.prog 41 #[.string s] w fun e w' => e = .returned (.tuple #[.int .i64 ((whole_ s.data.toList : Nat) : Int), .int .i64 ((feeds s.data.toList : Nat) : Int)]) ∧ w = w' := by
  have HL := Lib.hid (Lib.size_eq s)
  obtain ⟨a0, ha0⟩ : ∃ a, a = whole_ s.data.toList := ⟨_, rfl⟩
  obtain ⟨n0, hn0⟩ : ∃ a, a = feeds s.data.toList := ⟨_, rfl⟩
  rw [← ha0, ← hn0]
  have HA := Lib.hid ha0
  have HN := Lib.hid hn0
  clear ha0 hn0
  go_enter Tryd.func41, Tryd.ntmps41
  go_wp2_with fail
  go_loop [4, 5, 6] (fun x y i => ∃ k a n : Nat, k ≤ s.size ∧ i = .int .i64 (k : Int) ∧ x = .int .i64 (a : Int) ∧ y = .int .i64 (n : Int) ∧ n ≤ k ∧ a = whole_ (s.data.toList.take k) ∧ n = feeds (s.data.toList.take k)) (fun _ _ i => s.size - (intOf i).toNat)
  case atStart => exact ⟨0, 0, 0, Nat.zero_le _, rfl, rfl, rfl, Nat.le_refl _, by simp [whole_], by simp [feeds]⟩
  case round =>
    obtain ⟨k, a, n, hk, rfl, rfl, rfl, hnk, ha, hn⟩ := hrel
    have HA2 := Lib.hid ha
    have HN2 := Lib.hid hn
    clear ha hn
    by_cases hlt : k < s.size
    · have hlti : (k : Int) < (s.size : Int) := by omega
      have hkl : k < s.data.toList.length := by rw [← HL.out]; exact hlt
      have hck : s.data.toList[k] = s[k] := rfl
      have htk : s.data.toList.take (k + 1) = s.data.toList.take k ++ [s[k]] := by rw [List.take_succ_eq_append_getElem hkl, hck]
      have hll : (s.data.toList.take k).length = k := by rw [List.length_take]; omega
      have hkc := s[k].toNat_lt
      by_cases hc : s[k] = 10
      · have hci : ((s[k].toNat : Int) == 10) = true := by rw [hc]; rfl
        have HX : Hid (k + 1 = whole_ (s.data.toList.take (k + 1)) ∧ n + 1 = feeds (s.data.toList.take (k + 1))) := by
          refine ⟨?_, ?_⟩
          · rw [htk, hc, whole_snoc_feed, hll]
          · rw [htk, hc, feeds_snoc, if_pos rfl, ← HN2.out]
        clear hck htk hll hc
        go_wp2_with fail
        go_round
        case rel => exact ⟨k + 1, k + 1, n + 1, by omega, by go_num, by go_num, by go_num, by omega, HX.out.1, HX.out.2⟩
        case measure => simp [intOf]; omega
      · have hci : ((s[k].toNat : Int) == 10) = false := by
          rw [beq_eq_false_iff_ne]; intro h; apply hc; apply UInt8.toNat_inj.1; simpa using (by omega : s[k].toNat = 10)
        have HX : Hid (a = whole_ (s.data.toList.take (k + 1)) ∧ n = feeds (s.data.toList.take (k + 1))) := by
          refine ⟨?_, ?_⟩
          · rw [htk, whole_snoc_other _ hc, ← HA2.out]
          · rw [htk, feeds_snoc, if_neg hc, ← HN2.out, Nat.add_zero]
        clear hck htk hll hc
        go_wp2_with fail
        go_round
        case rel => exact ⟨k + 1, a, n, by omega, by go_num, rfl, rfl, by omega, HX.out.1, HX.out.2⟩
        case measure => simp [intOf]; omega
    · obtain rfl : k = s.size := by omega
      have HX : Hid (a = a0 ∧ n = n0) := by
        refine ⟨?_, ?_⟩
        · rw [HA2.out, HA.out, List.take_of_length_le (by rw [← HL.out]; exact Nat.le_refl _)]
        · rw [HN2.out, HN.out, List.take_of_length_le (by rw [← HL.out]; exact Nat.le_refl _)]
      go_wp2_with fail
      refine bodyPost_ret (v := .tuple #[.int .i64 (a : Int), .int .i64 (n : Int)]) (by simp [results, Tryd.results41, go_sem]) rfl ?_
      rw [HX.out.1, HX.out.2]
      exact ⟨rfl, rfl⟩
end Go.Proofs.YtdbijjiolknbfaaDoor
