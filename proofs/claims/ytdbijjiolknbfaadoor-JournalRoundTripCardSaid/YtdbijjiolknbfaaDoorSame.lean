/- The walks of the reference's Same and Few and of the law's ends. -/
import Derived.Test.YtdbijjiolknbfaaDoorAppend
namespace Go.Proofs.YtdbijjiolknbfaaDoor
open Go.RowKit Pl

theorem take_more {l m : List ByteArray} {k : Nat} (hl : k < l.length) (hm : k < m.length) (h : l.take k = m.take k) (he : l[k] = m[k]) : l.take (k + 1) = m.take (k + 1) := by
  rw [List.take_succ_eq_append_getElem hl, List.take_succ_eq_append_getElem hm, h, he]
theorem bytes_eq {a b : ByteArray} (h : a.data.toList = b.data.toList) : a = b := by
  cases a with | mk x => cases b with | mk y => cases x; cases y; simp at h; subst h; rfl

set_option maxRecDepth 100000 in
set_option maxHeartbeats 1000000 in
theorem same_any (l m : List ByteArray) (A B : Option Addr) (c c2 : Nat) (w : World) (ha : Strs w A l) (hb : Strs w B m) : Calls Tryd.prog 20 #[.slice A l.length c, .slice B m.length c2] w (Draw (.bool (decide (l = m))) w) := by
  have hlm := ha.1
  unfold maxLen at hlm
  have HA := Lib.hid ha
  have HB := Lib.hid hb
  clear ha hb
  by_cases hlen : l.length = m.length
  · rw [← hlen]
    have HLE := Lib.hid hlen
    clear hlen
    obtain ⟨r, hr⟩ : ∃ r, r = decide (l = m) := ⟨_, rfl⟩
    rw [← hr]
    have HR := Lib.hid hr
    clear hr
    go_enter Tryd.func20, Tryd.ntmps20
    go_wp2_with fail
    go_loopw [5] (fun i wr => ∃ k : Nat, k ≤ l.length ∧ i = .int .i64 (k : Int) ∧ Drawn w wr ∧ l.take k = m.take k) (fun i _ => l.length - (intOf i).toNat)
    case atStart => exact ⟨0, Nat.zero_le _, rfl, ⟨0, rfl⟩, rfl⟩
    case round =>
      obtain ⟨k, hk, rfl, hD, hT⟩ := hrel
      have HD := Lib.hid hD
      have HT := Lib.hid hT
      clear hD hT
      by_cases hlt : k < l.length
      · have hltm : k < m.length := by rw [← HLE.out]; exact hlt
        obtain ⟨b, o, rfl, hb, hc⟩ := (HA.out.keep HD.out.below).2.2 k hlt
        obtain ⟨b2, o2, rfl, hb2, hc2⟩ := (HB.out.keep HD.out.below).2.2 k hltm
        have HD1 := Lib.hid (HD.out.more 1)
        by_cases he : l[k] = m[k]
        · have HTN := Lib.hid (take_more hlt hltm HT.out he)
          rw [← he] at hc2
          generalize l[k] = sk at *
          go_wp2_with fail
          go_region
          all_goals
            go_wp2_with fail
            go_roundw
            case rel => exact ⟨k + 1, by omega, by go_num, HD1.out, HTN.out⟩
            case measure => simp [intOf]; omega
        · have hneb : (l[k].toList == m[k].toList) = false := by
            rw [Lib.toList_data, Lib.toList_data, beq_eq_false_iff_ne]; exact fun h => he (bytes_eq h)
          have HF : Hid (r = false) := by
            show r = false
            rw [HR.out, decide_eq_false_iff_not]
            intro h; subst h; exact he rfl
          generalize l[k] = sk at *
          generalize m[k] = sk2 at *
          go_wp2_with fail
          go_region
          all_goals
            go_wp2_with fail
            go_returns
            exact ⟨ret_bool HF.out.symm, HD1.out⟩
      · have HF : Hid (r = true) := by
          show r = true
          have h := HT.out
          have hle := HLE.out
          rw [List.take_of_length_le (by omega), List.take_of_length_le (by omega)] at h
          rw [HR.out, decide_eq_true_iff]; exact h
        go_wp2_with fail
        go_returns
        exact ⟨ret_bool HF.out.symm, HD.out⟩
  · have hnb : ((l.length : Int) != (m.length : Int)) = true := by simp; omega
    have HF : Hid (decide (l = m) = false) := by
      show _ = false
      rw [decide_eq_false_iff_not]; intro h; exact hlen (by rw [h])
    rw [HF.out]
    clear hlen
    go_enter Tryd.func20, Tryd.ntmps20
    go_wp2_with fail
    go_returns
    exact ⟨rfl, 0, rfl⟩

def fewB (n : Nat) (l : List ByteArray) : Bool := decide (l.length ≤ n) && l.all fun s => decide (s.size ≤ 250)
theorem fewB_iff (n : Nat) (l : List ByteArray) : fewB n l = true ↔ l.length ≤ n ∧ ∀ s ∈ l, s.size ≤ 250 := by simp [fewB]
theorem all_take2 {l : List ByteArray} {k : Nat} (hk : k < l.length) (h : ∀ s ∈ l.take k, s.size ≤ 250) (h2 : l[k].size ≤ 250) : ∀ s ∈ l.take (k + 1), s.size ≤ 250 := by
  rw [List.take_succ_eq_append_getElem hk]
  intro s hs
  rcases List.mem_append.1 hs with hs | hs
  · exact h s hs
  · rw [List.mem_singleton] at hs; subst hs; exact h2

set_option maxHeartbeats 400000 in
theorem few_any (n : Nat) (hn : n ≤ 1000) (l : List ByteArray) (A : Option Addr) (c : Nat) (w : World) (ha : Strs w A l) :
    Calls Tryd.prog 21 #[.slice A l.length c, .int .i64 (n : Int)] w fun e w' => e = .returned (.bool (fewB n l)) ∧ w = w' := by
  have hlm := ha.1
  unfold maxLen at hlm
  have HA := Lib.hid ha
  clear ha
  obtain ⟨r, hr⟩ : ∃ r, r = fewB n l := ⟨_, rfl⟩
  rw [← hr]
  have HR := Lib.hid hr
  clear hr
  go_enter Tryd.func21, Tryd.ntmps21
  go_wp2_with fail
  go_loop [5] (fun i => ∃ k : Nat, k ≤ l.length ∧ k ≤ n ∧ i = .int .i64 (k : Int) ∧ ∀ s ∈ l.take k, s.size ≤ 250) (fun i => l.length - (intOf i).toNat)
  case atStart => exact ⟨0, Nat.zero_le _, Nat.zero_le _, rfl, fun s hs => by simp at hs⟩
  case round =>
    obtain ⟨k, hk, hkn, rfl, hall⟩ := hrel
    have HALL := Lib.hid hall
    clear hall
    by_cases hlt : k < l.length
    · by_cases hltn : k < n
      · obtain ⟨b, o, rfl, hb, hc⟩ := HA.out.2.2 k hlt
        have hsm := HA.out.2.1 l[k] (List.getElem_mem hlt)
        unfold maxLen at hsm
        by_cases h250 : 250 < l[k].size
        · have HF : Hid (r = false) := by
            show r = false
            rw [HR.out]
            cases h : fewB n l
            · rfl
            · have := ((fewB_iff n l).1 h).2 l[k] (List.getElem_mem hlt); omega
          generalize l[k] = sk at *
          go_wp2_with fail
          go_returns
          exact ⟨ret_bool HF.out.symm, rfl⟩
        · have HN := Lib.hid (all_take2 hlt HALL.out (by omega))
          generalize l[k] = sk at *
          go_wp2_with fail
          go_round
          case rel => exact ⟨k + 1, by omega, by omega, by go_num, HN.out⟩
          case measure => simp [intOf]; omega
      · have HF : Hid (r = false) := by
          show r = false
          rw [HR.out]
          cases h : fewB n l
          · rfl
          · have := ((fewB_iff n l).1 h).1; omega
        go_wp2_with fail
        go_returns
        exact ⟨ret_bool ((decide_eq_false (by omega)).trans HF.out.symm), rfl⟩
    · have HF : Hid (r = true) := by
        show r = true
        rw [HR.out, fewB_iff]
        have := HALL.out
        rw [List.take_of_length_le (by omega)] at this
        exact ⟨by omega, this⟩
      go_wp2_with fail
      go_returns
      exact ⟨ret_bool ((decide_eq_true (by omega)).trans HF.out.symm), rfl⟩
end Go.Proofs.YtdbijjiolknbfaaDoor
