/- The walks of strings.Cut at a line feed, of the reference's feed and form. -/
import Derived.Test.YtdbijjiolknbfaaDoorEntry
namespace Go.Proofs.YtdbijjiolknbfaaDoor
open Go.RowKit Pl

theorem index_upto (l : List UInt8) : (upto l = l ∧ Lib.indexByte l 10 = -1) ∨ ((upto l).length < l.length ∧ Lib.indexByte l 10 = ((upto l).length : Int)) := by
  induction l with
  | nil => exact .inl ⟨rfl, rfl⟩
  | cons c l ih =>
    by_cases hc : c = 10
    · right; subst hc; exact ⟨by simp [upto], by simp [upto, Lib.indexByte]⟩
    · have hu : upto (c :: l) = c :: upto l := by unfold upto; rw [List.takeWhile_cons, if_pos (by simpa using hc)]
      have hb : (c == 10) = false := by simpa using hc
      rcases ih with ⟨h1, h2⟩ | ⟨h1, h2⟩
      · left; refine ⟨by rw [hu, h1], ?_⟩; rw [Lib.indexByte, hb, h2]; rfl
      · right; refine ⟨by rw [hu]; simpa using h1, ?_⟩
        rw [Lib.indexByte, hb, h2, hu]
        have : (((upto l).length : Int) == -1) = false := by rw [beq_eq_false_iff_ne]; omega
        rw [this]; simp
theorem upto_take (l : List UInt8) : upto l = l.take (upto l).length := by
  rcases upto_cases l with h | ⟨r, h⟩
  · rw [h, List.take_length]
  · have h2 : l.take (upto l).length = (upto l ++ 10 :: r).take (upto l).length := by rw [← h]
    rw [h2, List.take_left]

/-- What Cut gives at a line feed. -/
def CutPost (s : ByteArray) (w : World) (e : Ending) (w' : World) : Prop :=
  ((upto s.data.toList).length = s.size ∧ Draw (.tuple #[.string s, .string ⟨#[]⟩, .bool false]) w e w') ∨
  ((upto s.data.toList).length < s.size ∧ Draw (.tuple #[.string (s.extract 0 (upto s.data.toList).length), .string (s.extract ((upto s.data.toList).length + 1) s.size), .bool true]) w e w')

theorem cut66_any (s : ByteArray) (hs : s.size ≤ 100000) (w : World) : Calls Tryd.prog 66 #[.string s, .string ⟨#[10]⟩] w (CutPost s w) := by
  have hl := Lib.size_eq s
  have CI := Lib.hid (Tryd.stringslite_Index_one s 10 w)
  rcases index_upto s.data.toList with ⟨h1, h2⟩ | ⟨h1, h2⟩
  · have hlen : (upto s.data.toList).length = s.size := by rw [h1]; exact hl.symm
    have HL := Lib.hid hlen
    have H2 := Lib.hid h2
    clear h1 h2 hl hlen
    go_enter Tryd.func66, Tryd.ntmps66
    go_wp2_with fail
    refine CI.out.mono ?_
    rw [H2.out]
    rintro e w1 ⟨rfl, hw1⟩
    rw [hw1]
    clear hw1
    go_wp2_with fail
    go_ret3
    exact .inl ⟨HL.out, rfl, 0, rfl⟩
  · have H2 := Lib.hid h2
    rw [← hl] at h1
    have H1 := Lib.hid h1
    unfold CutPost
    generalize (upto s.data.toList).length = k at *
    have hki : (k : Int) ≤ (s.size : Int) := by omega
    have hki2 : (k : Int) + 1 ≤ (s.size : Int) := by omega
    clear h2 hl
    go_enter Tryd.func66, Tryd.ntmps66
    go_wp2_with fail
    refine CI.out.mono ?_
    rw [H2.out]
    rintro e w1 ⟨rfl, hw1⟩
    rw [hw1]
    clear hw1
    go_wp2_with fail
    go_quiet (fail)
    go_wp2_with fail
    go_ret3
    exact .inr ⟨H1.out, rfl, _, rfl⟩
theorem cut_any (s : ByteArray) (hs : s.size ≤ 100000) (w : World) : Calls Tryd.prog 57 #[.string s, .string ⟨#[10]⟩] w (CutPost s w) := by
  have c66 := cut66_any s hs w
  unfold CutPost at c66 ⊢
  generalize (upto s.data.toList).length = k at *
  have C66 := Lib.hid c66
  clear c66
  go_enter Tryd.func57, Tryd.ntmps57
  go_wp2_with fail
  refine C66.out.mono ?_
  rintro e w1 (⟨h1, rfl, m, rfl⟩ | ⟨h1, rfl, m, rfl⟩)
  · have H1 := Lib.hid h1
    clear h1
    go_wp2_with fail
    go_ret3
    exact .inl ⟨H1.out, rfl, m, rfl⟩
  · have H1 := Lib.hid h1
    clear h1
    go_wp2_with fail
    go_ret3
    exact .inr ⟨H1.out, rfl, m, rfl⟩

set_option maxHeartbeats 400000 in
theorem feed_core (s : ByteArray) (n : Nat) (hs : s.size ≤ 100000) (hn : n ≤ s.size) (hbef : ∀ k (hk : k < s.size), k < n → s[k] ≠ 10) (hat : ∀ (hk : n < s.size), s[n] = 10) (w : World) : Calls Tryd.prog 54 #[.string s] w fun e w' => e = .returned (.int .i64 (n : Int)) ∧ w = w' := by
  have HB := Lib.hid hbef
  have HA := Lib.hid hat
  clear hbef hat
  go_enter Tryd.func54, Tryd.ntmps54
  go_wp2_with fail
  go_loop [3] (fun i => ∃ k : Nat, k ≤ n ∧ i = .int .i64 (k : Int)) (fun i => n - (intOf i).toNat)
  case atStart => exact ⟨0, Nat.zero_le _, rfl⟩
  case round =>
    obtain ⟨k, hk, rfl⟩ := hrel
    by_cases hlt : k < n
    · have hks : k < s.size := by omega
      have hne := HB.out k hks hlt
      have hci : ((s[k].toNat : Int) != 10) = true := by
        simp; intro h; apply hne; apply UInt8.toNat_inj.1; simpa using (by omega : s[k].toNat = 10)
      have hlti : (k : Int) < (s.size : Int) := by omega
      have hc := s[k].toNat_lt
      clear hne
      go_wp2_with fail
      go_round
      case rel => exact ⟨k + 1, by omega, by go_num⟩
      case measure => simp [intOf]; omega
    · obtain rfl : k = n := by omega
      by_cases hks : k < s.size
      · have hci : ((s[k].toNat : Int) != 10) = false := by rw [HA.out hks]; rfl
        have hlti : (k : Int) < (s.size : Int) := by omega
        go_wp2_with fail
        go_returns
        exact ⟨rfl, rfl⟩
      · have hlti : ¬ (k : Int) < (s.size : Int) := by omega
        go_wp2_with fail
        go_returns
        exact ⟨rfl, rfl⟩
theorem feed_any (s : ByteArray) (hs : s.size ≤ 100000) (w : World) : Calls Tryd.prog 54 #[.string s] w fun e w' => e = .returned (.int .i64 (((upto s.data.toList).length : Nat) : Int)) ∧ w = w' := by
  have hl := Lib.size_eq s
  refine feed_core s _ hs (by rw [hl]; exact upto_le _) ?_ ?_ w
  · intro k hk hlt
    have h1 := upto_ne s.data.toList ((upto s.data.toList)[k]) (List.getElem_mem hlt)
    have h2 : (upto s.data.toList)[k] = s.data.toList[k] := by
      have h3 := congrArg (fun l => l[k]?) (upto_take s.data.toList)
      simp only [List.getElem?_take, hlt, if_true] at h3
      rw [List.getElem?_eq_getElem hlt, List.getElem?_eq_getElem (by omega)] at h3
      exact Option.some.inj h3
    rw [h2] at h1
    exact h1
  · intro hk
    rcases upto_cases s.data.toList with h | ⟨r, h⟩
    · rw [h] at hk; omega
    · have h3 : s.data.toList[(upto s.data.toList).length]? = some 10 := by
        have h4 : (upto s.data.toList ++ 10 :: r)[(upto s.data.toList).length]? = some 10 := by simp
        rw [← h] at h4
        exact h4
      rw [List.getElem?_eq_getElem (by omega)] at h3
      exact Option.some.inj h3
end Go.Proofs.YtdbijjiolknbfaaDoor
