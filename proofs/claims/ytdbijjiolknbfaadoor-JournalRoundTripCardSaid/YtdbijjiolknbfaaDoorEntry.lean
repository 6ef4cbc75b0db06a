/- The walks of journal.isEntry, split, add, of strings.Cut at a line feed; the reference's Entry, form, feed. -/
import Derived.Test.YtdbijjiolknbfaaDoorLists
namespace Go.Proofs.YtdbijjiolknbfaaDoor
open Go.RowKit Pl

theorem printable_iff (c : UInt8) : printable c = true ↔ 32 ≤ c.toNat ∧ c.toNat ≤ 126 := by simp [printable]
theorem isEntry_long {l : List UInt8} (h : 200 < l.length) : isEntry l = false := by
  rw [isEntry, decide_eq_false (by omega)]; rfl
theorem isEntry_bad {l : List UInt8} {k : Nat} (hk : k < l.length) (h : printable l[k] = false) : isEntry l = false := by
  have : l.all printable = false := by
    rw [List.all_eq_false]; exact ⟨l[k], List.getElem_mem hk, by simp [h]⟩
  rw [isEntry, this, Bool.and_false]
theorem isEntry_good {l : List UInt8} (h : l.length ≤ 200) (ha : ∀ c ∈ l.take l.length, printable c = true) : isEntry l = true := by
  rw [List.take_length] at ha
  rw [isEntry, decide_eq_true h, List.all_eq_true.2 ha]; rfl
theorem print_take {l : List UInt8} {k : Nat} (hk : k < l.length) (h : ∀ c ∈ l.take k, printable c = true) (h2 : printable l[k] = true) : ∀ c ∈ l.take (k + 1), printable c = true := by
  rw [List.take_succ_eq_append_getElem hk]
  intro c hc
  rcases List.mem_append.1 hc with hc | hc
  · exact h c hc
  · rw [List.mem_singleton] at hc; subst hc; exact h2

set_option maxHeartbeats 400000 in
theorem isEntry_any (s : ByteArray) (hs : s.size ≤ 100000) (w : World) : Calls Tryd.prog 43 #[.string s] w fun e w' => e = .returned (.bool (isEntry s.data.toList)) ∧ w = w' := by
  by_cases h200 : 200 < s.size
  · have HF := Lib.hid (isEntry_long (l := s.data.toList) (by rw [← Lib.size_eq]; exact h200))
    go_enter Tryd.func43, Tryd.ntmps43
    go_wp2_with fail
    go_returns
    exact ⟨ret_bool HF.out.symm, rfl⟩
  · go_enter Tryd.func43, Tryd.ntmps43
    go_wp2_with fail
    go_loop [9] (fun i => ∃ k : Nat, k ≤ s.size ∧ i = .int .i64 (k : Int) ∧ ∀ c ∈ s.data.toList.take k, printable c = true) (fun i => s.size - (intOf i).toNat)
    case atStart => exact ⟨0, Nat.zero_le _, rfl, fun c hc => by simp at hc⟩
    case round =>
      obtain ⟨k, hk, rfl, hall⟩ := hrel
      have HALL := Lib.hid hall
      clear hall
      by_cases hlt : k < s.size
      · have hkl : k < s.data.toList.length := by rw [← Lib.size_eq]; exact hlt
        have hck : s.data.toList[k] = s[k] := rfl
        have hlti : (k : Int) < (s.size : Int) := by omega
        have hc := s[k].toNat_lt
        by_cases hp : printable s[k] = true
        · obtain ⟨p1, p2⟩ := (printable_iff _).1 hp
          have HN := Lib.hid (print_take hkl HALL.out (by rw [hck]; exact hp))
          have i1 : ¬ (s[k].toNat : Int) < 32 := by omega
          have i2 : ¬ (126 : Int) < (s[k].toNat : Int) := by omega
          clear hp
          go_wp2_with fail
          go_round
          case rel => exact ⟨k + 1, by omega, by go_num, HN.out⟩
          case measure => simp [intOf]; omega
        · have hpf : printable s[k] = false := by simpa using hp
          have HF := Lib.hid (isEntry_bad hkl (by rw [hck]; exact hpf))
          have hways : (s[k].toNat : Int) < 32 ∨ (¬ (s[k].toNat : Int) < 32 ∧ (126 : Int) < (s[k].toNat : Int)) := by
            rw [printable_iff] at hp; omega
          clear hp hpf
          rcases hways with i1 | ⟨i1, i2⟩
          all_goals
            go_wp2_with fail
            go_returns
            exact ⟨ret_bool HF.out.symm, rfl⟩
      · have HF := Lib.hid (isEntry_good (l := s.data.toList) (by rw [← Lib.size_eq]; omega) (by rw [← Lib.size_eq]; have := HALL.out; rw [show k = s.size by omega] at this; exact this))
        go_wp2_with fail
        go_returns
        exact ⟨ret_bool HF.out.symm, rfl⟩

set_option maxHeartbeats 400000 in
theorem rentry_any (s : ByteArray) (hs : s.size ≤ 100000) (w : World) : Calls Tryd.prog 56 #[.string s] w fun e w' => e = .returned (.bool (isEntry s.data.toList)) ∧ w = w' := by
  go_enter Tryd.func56, Tryd.ntmps56
  go_wp2_with fail
  go_loop [3] (fun i => ∃ k : Nat, k ≤ s.size ∧ i = .int .i64 (k : Int) ∧ ∀ c ∈ s.data.toList.take k, printable c = true) (fun i => s.size - (intOf i).toNat)
  case atStart => exact ⟨0, Nat.zero_le _, rfl, fun c hc => by simp at hc⟩
  case round =>
    obtain ⟨k, hk, rfl, hall⟩ := hrel
    have HALL := Lib.hid hall
    clear hall
    by_cases hlt : k < s.size
    · have hkl : k < s.data.toList.length := by rw [← Lib.size_eq]; exact hlt
      have hck : s.data.toList[k] = s[k] := rfl
      have hlti : (k : Int) < (s.size : Int) := by omega
      have hc := s[k].toNat_lt
      by_cases hp : printable s[k] = true
      · obtain ⟨p1, p2⟩ := (printable_iff _).1 hp
        have HN := Lib.hid (print_take hkl HALL.out (by rw [hck]; exact hp))
        have i1 : ¬ (s[k].toNat : Int) < 32 := by omega
        have i2 : ¬ (126 : Int) < (s[k].toNat : Int) := by omega
        clear hp
        go_wp2_with fail
        go_round
        case rel => exact ⟨k + 1, by omega, by go_num, HN.out⟩
        case measure => simp [intOf]; omega
      · have hpf : printable s[k] = false := by simpa using hp
        have HF := Lib.hid (isEntry_bad hkl (by rw [hck]; exact hpf))
        have hways : (s[k].toNat : Int) < 32 ∨ (¬ (s[k].toNat : Int) < 32 ∧ (126 : Int) < (s[k].toNat : Int)) := by
          rw [printable_iff] at hp; omega
        clear hp hpf
        rcases hways with i1 | ⟨i1, i2⟩
        all_goals
          go_wp2_with fail
          go_returns
          exact ⟨ret_bool HF.out.symm, rfl⟩
    · have HF : Hid (isEntry s.data.toList = decide ((s.size : Int) ≤ 200)) := by
        show isEntry s.data.toList = decide ((s.size : Int) ≤ 200)
        by_cases h2 : s.size ≤ 200
        · rw [isEntry_good (by rw [← Lib.size_eq]; exact h2) (by rw [← Lib.size_eq]; have := HALL.out; rw [show k = s.size by omega] at this; exact this)]; simp; omega
        · rw [isEntry_long (by rw [← Lib.size_eq]; omega)]; simp; omega
      go_wp2_with fail
      go_returns
      exact ⟨ret_bool HF.out.symm, rfl⟩

/-- The line of an entry, and its digest. -/
theorem add_any (d : Nat) (s : ByteArray) (hd : d < 18446744073709551616) (hs : s.size ≤ 80000) (w : World) (ht : Tab w) :
    Calls Tryd.prog 44 #[.int .u64 (d : Int), .string s] w fun e w' => e = .returned (.tuple #[.string ⟨(lineOf d s.data.toList).toArray⟩, .int .u64 ((chain d s.data.toList : Nat) : Int)]) ∧ Below w.heap.size w w' := by
  have HC := Lib.hid (fun w' => chain_any d s hd (by omega) w')
  have hx := Nat.lt_trans (chain_lt d s.data.toList) P_lt
  have HL : Hid (lineOf d s.data.toList = hex (chain d s.data.toList) ++ 32 :: (s.data.toList ++ [10])) := rfl
  generalize chain d s.data.toList = x at *
  have hlen := hex_length x
  obtain ⟨hb, hhb⟩ : ∃ hb : ByteArray, hb = ⟨(hex x).toArray⟩ := ⟨_, rfl⟩
  have HH : Hid (∀ w', Tab w' → Calls Tryd.prog 24 #[.int .u64 (x : Int)] w' fun e w'' => e = .returned (.string hb) ∧ Below w'.heap.size w' w'') := by
    intro w' h; rw [hhb]; exact hex_any x hx w' h
  have hbz : hb.size ≤ 16 := by rw [hhb, Lib.size_eq]; show (hex x).length ≤ 16; omega
  have HHB := Lib.hid hhb
  have HT := Lib.hid ht
  clear hhb ht hlen
  go_enter Tryd.func44, Tryd.ntmps44
  go_wp2_with fail
  refine (HC.out _).mono ?_
  rintro e w1 ⟨rfl, m1, rfl⟩
  go_wp2_with fail
  refine (HH.out _ (HT.out.on (below_drewN w m1))).mono ?_
  rintro e w2 ⟨rfl, hb2⟩
  have HB2 := Lib.hid ((below_drewN w m1).trans hb2)
  clear hb2
  go_wp2_with fail
  go_ret2
  refine ⟨?_, HB2.out⟩
  have he : hb ++ ⟨#[32]⟩ ++ s ++ ⟨#[10]⟩ = ⟨(lineOf d s.data.toList).toArray⟩ := by
    refine bytes_ext ?_
    rw [HL.out]
    simp [ByteArray.data_append, HHB.out]
  rw [← he]
  rfl

/-! ### split, form -/
theorem form_short {l : List UInt8} (h : l.length ≤ 16) : form l = false := by
  rw [form, decide_eq_false (by omega)]; rfl
theorem form_space {l : List UInt8} (h : 16 < l.length) (hc : l[16] ≠ 32) : form l = false := by
  have : (l[16]? == some 32) = false := by rw [List.getElem?_eq_getElem h]; simpa using hc
  rw [form, this, Bool.and_false, Bool.false_and, Bool.false_and]
theorem form_entry {l : List UInt8} (he : isEntry (l.drop 17) = false) : form l = false := by
  rw [form, he, Bool.and_false, Bool.false_and]
theorem form_digit {l : List UInt8} {k : Nat} (hl : 16 < l.length) (hk : k < 16) (h : hval l[k] = none) : form l = false := by
  have : ((l.take 16).all fun c => (hval c).isSome) = false := by
    rw [List.all_eq_false]
    refine ⟨l[k], ?_, by simp [h]⟩
    rw [List.mem_take_iff_getElem]
    exact ⟨k, by omega, rfl⟩
  rw [form, this, Bool.and_false]
theorem form_good {l : List UInt8} (hl : 16 < l.length) (hc : l[16] = 32) (he : isEntry (l.drop 17) = true) (h : ∀ c ∈ (l.take 16), hval c ≠ none) : form l = true := by
  have h1 : ((l.take 16).all fun c => (hval c).isSome) = true := by
    rw [List.all_eq_true]; intro c hm; rw [Option.isSome_iff_ne_none]; exact h c hm
  have h2 : (l[16]? == some 32) = true := by rw [List.getElem?_eq_getElem hl, hc]; rfl
  rw [form, h1, h2, he, decide_eq_true (by omega)]; rfl
theorem digs_take {l : List UInt8} {k : Nat} (hk : k < l.length) (h : ∀ c ∈ l.take k, hval c ≠ none) (h2 : hval l[k] ≠ none) : ∀ c ∈ l.take (k + 1), hval c ≠ none := by
  rw [List.take_succ_eq_append_getElem hk]
  intro c hc
  rcases List.mem_append.1 hc with hc | hc
  · exact h c hc
  · rw [List.mem_singleton] at hc; subst hc; exact h2
theorem ext_from (s : ByteArray) (k : Nat) : (s.extract k s.size).data.toList = s.data.toList.drop k := by
  rw [Lib.extract_data, Lib.size_eq]
  exact List.take_of_length_le (by simp)
theorem ext_to (s : ByteArray) (k : Nat) : (s.extract 0 k).data.toList = s.data.toList.take k := by
  rw [Lib.extract_data]; simp
theorem hval_some {c : UInt8} (h : hval c ≠ none) : (48 ≤ c.toNat ∧ c.toNat ≤ 57) ∨ (97 ≤ c.toNat ∧ c.toNat ≤ 102) := by
  unfold hval at h
  split at h
  · left; assumption
  · split at h
    · right; assumption
    · exact absurd rfl h
theorem hval_nonev {c : UInt8} (h : hval c = none) : ¬ (48 ≤ c.toNat ∧ c.toNat ≤ 57) ∧ ¬ (97 ≤ c.toNat ∧ c.toNat ≤ 102) := by
  unfold hval at h
  split at h
  · cases h
  · split at h
    · cases h
    · exact ⟨by assumption, by assumption⟩

/-- What split gives. -/
def SplitPost (s : ByteArray) (w : World) (e : Ending) (w' : World) : Prop :=
  (form s.data.toList = true ∧ Draw (.tuple #[.string (s.extract 0 16), .string (s.extract 17 s.size), .bool true]) w e w') ∨
  (form s.data.toList = false ∧ Draw (.tuple #[.string ⟨#[]⟩, .string ⟨#[]⟩, .bool false]) w e w')

set_option maxHeartbeats 1000000 in
theorem split_any (s : ByteArray) (hs : s.size ≤ 100000) (w : World) : Calls Tryd.prog 58 #[.string s] w (SplitPost s w) := by
  have hl := Lib.size_eq s
  by_cases h16 : s.size ≤ 16
  · have HF := Lib.hid (form_short (l := s.data.toList) (by omega))
    clear hl
    go_enter Tryd.func58, Tryd.ntmps58
    go_wp2_with fail
    go_ret3
    exact .inr ⟨HF.out, rfl, 0, rfl⟩
  · have hl16 : 16 < s.data.toList.length := by omega
    have hck : s.data.toList[16] = s[16] := rfl
    have hc16 := s[16].toNat_lt
    by_cases hc : s[16] = 32
    · have hci : ((s[16].toNat : Int) != 32) = false := by rw [hc]; rfl
      obtain ⟨x, hx⟩ : ∃ x, x = s.extract 17 s.size := ⟨_, rfl⟩
      have hxz : x.size ≤ 100000 := by rw [hx, Lib.size_eq, ext_from]; simp; omega
      have HXE : Hid (isEntry x.data.toList = isEntry (s.data.toList.drop 17)) := by show _ = _; rw [hx, ext_from]
      have CE := Lib.hid (fun w' => isEntry_any x hxz w')
      have h17 : (17 : Int) ≤ (s.size : Int) := by omega
      rw [hx] at CE
      cases he : isEntry (s.data.toList.drop 17)
      · have HF := Lib.hid (form_entry he)
        have HE := Lib.hid (HXE.out.trans he)
        rw [hx] at HE
        clear hl he hxz hx HXE
        go_enter Tryd.func58, Tryd.ntmps58
        go_wp2_with fail
        refine (CE.out _).mono ?_
        rw [HE.out]
        rintro e w1 ⟨rfl, rfl⟩
        go_wp2_with fail
        go_ret3
        exact .inr ⟨HF.out, rfl, 0, rfl⟩
      · have HEN := Lib.hid he
        have HE := Lib.hid (HXE.out.trans he)
        rw [hx] at HE
        have HC := Lib.hid (hck.trans hc)
        clear hl he hxz hx HXE
        go_enter Tryd.func58, Tryd.ntmps58
        go_wp2_with fail
        refine (CE.out _).mono ?_
        rw [HE.out]
        rintro e w1 ⟨rfl, rfl⟩
        go_wp2_with fail
        go_loop [21] (fun i => ∃ k : Nat, k ≤ 16 ∧ i = .int .i64 (k : Int) ∧ ∀ c ∈ s.data.toList.take k, hval c ≠ none) (fun i => 16 - (intOf i).toNat)
        case atStart => exact ⟨0, by omega, rfl, fun c hc => by simp at hc⟩
        case round =>
          obtain ⟨k, hk, rfl, hall⟩ := hrel
          have HALL := Lib.hid hall
          clear hall
          by_cases hlt : k < 16
          · have hkl : k < s.data.toList.length := by omega
            have hks : k < s.size := by omega
            have hck2 : s.data.toList[k] = s[k] := rfl
            have hlti : (k : Int) < (s.size : Int) := by omega
            have hkc := s[k].toNat_lt
            by_cases hv : hval s[k] = none
            · have HF := Lib.hid (form_digit hl16 hlt (by rw [hck2]; exact hv))
              have hv2 := hval_nonev hv
              have hways : (s[k].toNat : Int) < 48 ∨ (57 < (s[k].toNat : Int) ∧ (s[k].toNat : Int) < 97) ∨ 102 < (s[k].toNat : Int) := by omega
              clear hv hv2
              rcases hways with i1 | ⟨i1, i2⟩ | i1
              all_goals
                go_wp2_with fail
                go_ret3
                exact .inr ⟨HF.out, rfl, 0, rfl⟩
            · have HN := Lib.hid (digs_take hkl HALL.out (by rw [hck2]; exact hv))
              have hways : ((48 : Int) ≤ (s[k].toNat : Int) ∧ (s[k].toNat : Int) ≤ 57) ∨ ((97 : Int) ≤ (s[k].toNat : Int) ∧ (s[k].toNat : Int) ≤ 102) := by
                have := hval_some hv; omega
              clear hv
              rcases hways with ⟨i1, i2⟩ | ⟨i1, i2⟩
              all_goals
                go_wp2_with fail
                go_round
                case rel => exact ⟨k + 1, by omega, by go_num, HN.out⟩
                case measure => simp [intOf]; omega
          · obtain rfl : k = 16 := by omega
            have HF := Lib.hid (form_good hl16 HC.out HEN.out HALL.out)
            go_wp2_with fail
            go_quiet (fail)
            go_wp2_with fail
            go_ret3
            exact .inl ⟨HF.out, rfl, _, rfl⟩
    · have HF := Lib.hid (form_space hl16 (by rw [hck]; exact hc))
      have hci : ((s[16].toNat : Int) != 32) = true := by
        simp; intro h; apply hc; apply UInt8.toNat_inj.1; simpa using (by omega : s[16].toNat = 32)
      clear hl hc
      go_enter Tryd.func58, Tryd.ntmps58
      go_wp2_with fail
      go_ret3
      exact .inr ⟨HF.out, rfl, 0, rfl⟩
end Go.Proofs.YtdbijjiolknbfaaDoor
