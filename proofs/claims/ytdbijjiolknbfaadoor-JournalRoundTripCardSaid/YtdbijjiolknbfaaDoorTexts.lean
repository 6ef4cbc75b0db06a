/- The walks of Hex and Parse, and of the reference's. -/
import Derived.Test.YtdbijjiolknbfaaDoorHex
namespace Go.Proofs.YtdbijjiolknbfaaDoor
open Go.RowKit Pl

/-- The call returns this string; what was there is as it was. -/
def GivesS (l : List UInt8) (w : World) (e : Ending) (w' : World) : Prop := e = .returned (.string ⟨l.toArray⟩) ∧ Below w.heap.size w w'
theorem bytes_ext {b : ByteArray} {l : List UInt8} (h : b.data.toList = l) : b = ⟨l.toArray⟩ := by
  subst h; rfl

theorem fmtu_any (u : Nat) (hu : u < 18446744073709551616) (w : World) (ht : Tab w) : Calls Tryd.prog 48 #[.int .u64 (u : Int), .int .i64 16] w (GivesS (fmt u) w) := by
  have HT := Lib.hid ht
  clear ht
  have H60 : Hid (∀ w', Tab w' → Calls Tryd.prog 60 #[.int .u64 (u : Int), .int .i64 16] w' (GivesS (fmt u) w')) := by
    intro w' ht'
    have HT' := Lib.hid ht'
    clear ht'
    go_enter Tryd.func60, Tryd.ntmps60
    go_wp2_with fail
    refine (bits16_any u hu _ HT'.out).mono ?_
    rintro e w1 ⟨rfl, hb⟩
    go_wp2_with fail
    go_returns
    exact ⟨rfl, hb⟩
  go_enter Tryd.func48, Tryd.ntmps48
  go_wp2_with fail
  refine (H60.out _ HT.out).mono ?_
  rintro e w1 ⟨rfl, hb⟩
  go_wp2_with fail
  go_returns
  exact ⟨rfl, hb⟩

theorem repeat48 (c : Nat) : Lib.repeatL [48] c = List.replicate c 48 := by
  induction c with
  | zero => rfl
  | succ c ih => rw [Lib.repeatL, ih]; rfl

theorem hex_any (d : Nat) (hd : d < 18446744073709551616) (w : World) (ht : Tab w) : Calls Tryd.prog 24 #[.int .u64 (d : Int)] w (GivesS (hex d) w) := by
  obtain ⟨hl, hx⟩ := fmt_hex d hd
  have HF := Lib.hid (fmtu_any d hd w ht)
  have hsz : (⟨(fmt d).toArray⟩ : ByteArray).size = (fmt d).length := by rw [Lib.size_eq]
  obtain ⟨c, hc⟩ : ∃ c, c = 16 - (fmt d).length := ⟨_, rfl⟩
  rw [← hc] at hx
  have hci : (16 : Int) - ((fmt d).length : Int) = (c : Int) := by omega
  have HX := Lib.hid hx
  obtain ⟨fb, hfb⟩ : ∃ fb : ByteArray, fb = ⟨(fmt d).toArray⟩ := ⟨_, rfl⟩
  have HFB := Lib.hid hfb
  have hfs : fb.size ≤ 16 := by rw [hfb, hsz]; exact hl
  have hci2 : (16 : Int) - (fb.size : Int) = (c : Int) := by rw [hfb, hsz]; exact hci
  have HF2 : Hid (Calls Tryd.prog 48 #[.int .u64 (d : Int), .int .i64 16] w (fun e w' => e = .returned (.string fb) ∧ Below w.heap.size w w')) := by
    rw [hfb]; exact HF.out
  have hc16 : c ≤ 16 := by omega
  clear HF hsz hc hci hx hl hfb ht
  go_enter Tryd.func24, Tryd.ntmps24
  go_wp2_with fail
  refine HF2.out.mono ?_
  rintro e w1 ⟨rfl, hb1⟩
  go_wp2_with fail
  refine (Tryd.strings_Repeat ⟨#[48]⟩ c w1 (by omega) (by show 1 * c ≤ _; omega)).mono ?_
  rintro e w2 ⟨rfl, hb2⟩
  have HB := Lib.hid (hb1.trans (hb2.mono hb1.size))
  obtain ⟨rb, hrb⟩ : ∃ rb : ByteArray, rb = ⟨(Lib.repeatL (⟨#[48]⟩ : ByteArray).data.toList c).toArray⟩ := ⟨_, rfl⟩
  rw [← hrb]
  have hrs : rb.size ≤ 16 := by
    rw [hrb, Lib.size_eq]; show (Lib.repeatL [48] c).length ≤ 16; rw [repeat48, List.length_replicate]; exact hc16
  have HRB := Lib.hid hrb
  clear hrb hb1 hb2
  go_wp2_with fail
  go_returns
  refine ⟨ret_str (bytes_ext ?_), HB.out⟩
  rw [ByteArray.data_append, Array.toList_append, HRB.out, HFB.out, ← HX.out]
  show Lib.repeatL [48] c ++ fmt d = _
  rw [repeat48]

theorem conv_one (w : World) (c : UInt8) : (convert 49 9 (.slice (some ⟨w.heap.size, 0, none⟩) 1 1)).run Tryd.prog (w.alloc (.cells #[.int .u8 (c.toNat : Int)] 5)) = .ok (.string ⟨#[c]⟩) (w.alloc (.cells #[.int .u8 (c.toNat : Int)] 5)) := by
  have h := run_convert_bytes_back (P := Tryd.prog) (w.alloc (.cells #[.int .u8 (c.toNat : Int)] 5)) 49 9 5 ⟨w.heap.size, 0, none⟩ 1 [c] Tryd.underlying49 Tryd.underlying5 Tryd.underlying9 (by
    intro j hj
    have : j = 0 := by simpa using hj
    subst this
    simp [Addr.add])
  exact h
theorem dig16 (n : Nat) (h : n < 16) (h2 : n < (⟨#[48, 49, 50, 51, 52, 53, 54, 55, 56, 57, 97, 98, 99, 100, 101, 102]⟩ : ByteArray).size) : (⟨#[48, 49, 50, 51, 52, 53, 54, 55, 56, 57, 97, 98, 99, 100, 101, 102]⟩ : ByteArray)[n] = hdig n := by
  match n, h with
  | 0, _ => rfl
  | 1, _ => rfl
  | 2, _ => rfl
  | 3, _ => rfl
  | 4, _ => rfl
  | 5, _ => rfl
  | 6, _ => rfl
  | 7, _ => rfl
  | 8, _ => rfl
  | 9, _ => rfl
  | 10, _ => rfl
  | 11, _ => rfl
  | 12, _ => rfl
  | 13, _ => rfl
  | 14, _ => rfl
  | 15, _ => rfl
  | n + 16, h => exact absurd h (by omega)

set_option maxRecDepth 100000 in
set_option maxHeartbeats 400000 in
theorem rhex_any (d : Nat) (hd : d < 18446744073709551616) (w : World) : Calls Tryd.prog 37 #[.int .u64 (d : Int)] w (GivesS (hex d) w) := by
  go_enter Tryd.func37, Tryd.ntmps37
  go_wp2_with fail
  go_loopw [0, 3, 4] (fun dv sv iv wr => ∃ (k x : Nat) (sb : ByteArray), k ≤ 16 ∧ dv = .int .u64 (x : Int) ∧ sv = .string sb ∧ iv = .int .i64 (k : Int) ∧ sb.size = k ∧ hex d = hexk (16 - k) x ++ sb.data.toList ∧ x < 18446744073709551616 ∧ Below w.heap.size w wr) (fun _ _ i _ => 16 - (intOf i).toNat)
  case atStart => exact ⟨0, d, ⟨#[]⟩, by omega, rfl, rfl, rfl, rfl, by simp [hex], hd, Below.refl _ _⟩
  case round =>
    obtain ⟨k, x, sb, hk, rfl, rfl, rfl, hsb, hh, hx, hbw⟩ := hrel
    have HH := Lib.hid hh
    have HBW := Lib.hid hbw
    have hsb2 : sb.size ≤ 16 := by omega
    have HSB := Lib.hid hsb
    clear hh hbw hsb
    by_cases hlt : k < 16
    · have hm : x % 16 < 16 := Nat.mod_lt _ (by omega)
      have hmi : (x : Int) % 16 = ((x % 16 : Nat) : Int) := by omega
      have HSTEP : Hid (hexk (16 - k) x = hexk (16 - (k + 1)) (x / 16) ++ [hdig (x % 16)]) := by
        show _ = _
        rw [show 16 - k = (16 - (k + 1)) + 1 by omega, hexk]
      generalize x % 16 = n at *
      have hcv := conv_one wr
      go_wp2_with fail
      go_roundw
      case rel =>
        refine ⟨k + 1, x / 16, ⟨#[hdig n]⟩ ++ sb, by omega, by go_num, by rw [dig16 n hm], by go_num, ?_, ?_, by omega, HBW.out.alloc HBW.out.size _⟩
        · rw [ByteArray.size_append, HSB.out]; show 1 + k = k + 1; omega
        · rw [HH.out, HSTEP.out, List.append_assoc, ByteArray.data_append, Array.toList_append]
      case measure => simp [intOf]; omega
    · obtain rfl : k = 16 := by omega
      go_wp2_with fail
      go_returns
      refine ⟨ret_str (bytes_ext ?_), HBW.out⟩
      rw [HH.out]; rfl

/-! ### Parse -/
theorem or16 (a b : Nat) (hb : b < 16) (ha : a * 16 + b < 18446744073709551616) : bits .or .u64 ((a : Int) * 16) (b : Int) = ((16 * a + b : Nat) : Int) := by
  have h := bits_or_u64_nat (a * 16) b (by omega) (by omega)
  have e : a * 16 ||| b = 16 * a + b := by
    have := Nat.two_pow_add_eq_or_of_lt (i := 4) (b := b) (by omega) a
    rw [Nat.mul_comm a]
    exact this.symm
  rw [e] at h
  simpa using h
theorem unhex_step {d v : Nat} {s : List UInt8} {k : Nat} (hk : k < s.length) (hv : hval s[k] = some v) : unhex d (s.drop k) = unhex (16 * d + v) (s.drop (k + 1)) := by
  rw [List.drop_eq_getElem_cons hk, unhex, hv]
theorem unhex_stop {d : Nat} {s : List UInt8} {k : Nat} (hk : k < s.length) (hv : hval s[k] = none) : unhex d (s.drop k) = none := by
  rw [List.drop_eq_getElem_cons hk, unhex, hv]
theorem hval_dig {c : UInt8} (h1 : 48 ≤ c.toNat) (h2 : c.toNat ≤ 57) : hval c = some (c.toNat - 48) := by rw [hval, if_pos ⟨h1, h2⟩]
theorem hval_let {c : UInt8} (h1 : 97 ≤ c.toNat) (h2 : c.toNat ≤ 102) : hval c = some (c.toNat - 87) := by rw [hval, if_neg (by omega), if_pos ⟨h1, h2⟩]
theorem hval_no {c : UInt8} (h1 : ¬ (48 ≤ c.toNat ∧ c.toNat ≤ 57)) (h2 : ¬ (97 ≤ c.toNat ∧ c.toNat ≤ 102)) : hval c = none := by rw [hval, if_neg h1, if_neg h2]
theorem pow_small {k d : Nat} (hk : k < 16) (h : d < 16 ^ k) : d < 1152921504606846976 := Nat.lt_of_lt_of_le h (Nat.pow_le_pow_right (by omega) (by omega : k ≤ 15))
theorem pow_next {k d v : Nat} (h : d < 16 ^ k) (hv : v < 16) : 16 * d + v < 16 ^ (k + 1) := by rw [Nat.pow_succ]; omega
theorem parse_len {s : List UInt8} (h : s.length ≠ 16) : parse s = (0, 2) := by rw [parse, if_neg h]
theorem parse_bad {s : List UInt8} (h : s.length = 16) (hu : unhex 0 s = none) : parse s = (0, 2) := by rw [parse, if_pos h, hu]
theorem parse_good {s : List UInt8} {d : Nat} (h : s.length = 16) (hu : unhex 0 s = some d) : parse s = if P ≤ d then (0, 3) else (d, 0) := by rw [parse, if_pos h, hu]

set_option maxHeartbeats 400000 in
theorem parse_any (s : ByteArray) (_hs : s.size ≤ 100000) (w : World) : Calls Tryd.prog 35 #[.string s] w (Draw (.tuple #[.int .u64 (((parse s.data.toList).1 : Nat) : Int), .int .i64 (((parse s.data.toList).2 : Nat) : Int)]) w) := by
  by_cases hl : s.size = 16
  · have hl2 : s.data.toList.length = 16 := by rw [← Lib.size_eq]; exact hl
    have hni : ((s.size : Int) != 16) = false := by simp; omega
    have HL := Lib.hid hl
    clear hl
    go_enter Tryd.func35, Tryd.ntmps35
    go_wp2_with fail
    go_loop [4, 12] (fun dv iv => ∃ k d : Nat, k ≤ 16 ∧ dv = .int .u64 (d : Int) ∧ iv = .int .i64 (k : Int) ∧ d < 16 ^ k ∧ unhex d (s.data.toList.drop k) = unhex 0 s.data.toList) (fun _ i => 16 - (intOf i).toNat)
    case atStart => exact ⟨0, 0, by omega, rfl, rfl, by simp, by simp⟩
    case round =>
      obtain ⟨k, d, hk, rfl, rfl, hd, hun⟩ := hrel
      have hsz := HL.out
      by_cases hlt : k < 16
      · have hds := pow_small hlt hd
        have hkl : k < s.data.toList.length := by omega
        have hks : k < s.size := by omega
        have hck : s.data.toList[k] = s[k] := rfl
        have hc := s[k].toNat_lt
        have hlti : (k : Int) < (s.size : Int) := by omega
        by_cases h1 : 48 ≤ s[k].toNat ∧ s[k].toNat ≤ 57
        · obtain ⟨h1a, h1b⟩ := h1
          have hv := hval_dig h1a h1b
          have HU := Lib.hid ((unhex_step hkl (by rw [hck]; exact hv)).symm.trans hun)
          obtain ⟨v, hve⟩ : ∃ v, v = s[k].toNat - 48 := ⟨_, rfl⟩
          rw [← hve] at HU
          have hv16 : v < 16 := by omega
          have k1 := or16 d v hv16 (by omega)
          have k2 : (s[k].toNat : Int) - 48 = (v : Int) := by omega
          have HP := Lib.hid (pow_next hd hv16)
          have i1 : (48 : Int) ≤ (s[k].toNat : Int) := by omega
          have i2 : (s[k].toNat : Int) ≤ 57 := by omega
          clear hun hv hve hd
          go_wp2_with fail
          go_round
          case rel => exact ⟨k + 1, 16 * d + v, by omega, rfl, by go_num, HP.out, HU.out⟩
          case measure => simp [intOf]; omega
        · by_cases h2 : 97 ≤ s[k].toNat ∧ s[k].toNat ≤ 102
          · obtain ⟨h2a, h2b⟩ := h2
            have hv := hval_let h2a h2b
            have HU := Lib.hid ((unhex_step hkl (by rw [hck]; exact hv)).symm.trans hun)
            obtain ⟨v, hve⟩ : ∃ v, v = s[k].toNat - 87 := ⟨_, rfl⟩
            rw [← hve] at HU
            have hv16 : v < 16 := by omega
            have k1 := or16 d v hv16 (by omega)
            have k2 : (s[k].toNat : Int) - 97 + 10 = (v : Int) := by omega
            have HP := Lib.hid (pow_next hd hv16)
            have i0 : (48 : Int) ≤ (s[k].toNat : Int) := by omega
            have i1 : ¬ (s[k].toNat : Int) ≤ 57 := by omega
            have i2 : (97 : Int) ≤ (s[k].toNat : Int) := by omega
            have i3 : (s[k].toNat : Int) ≤ 102 := by omega
            clear hun hv hve hd h1
            go_wp2_with fail
            go_round
            case rel => exact ⟨k + 1, 16 * d + v, by omega, rfl, by go_num, HP.out, HU.out⟩
            case measure => simp [intOf]; omega
          · have hv := hval_no h1 h2
            have HB := Lib.hid (parse_bad hl2 (hun.symm.trans (unhex_stop hkl (by rw [hck]; exact hv))))
            have hways : (s[k].toNat : Int) < 48 ∨ (57 < (s[k].toNat : Int) ∧ (s[k].toNat : Int) < 97) ∨ 102 < (s[k].toNat : Int) := by omega
            clear hun hv h1 h2 hd
            rcases hways with i1 | ⟨i1, i2⟩ | i1
            all_goals
              go_wp2_with fail
              go_ret2
              rw [HB.out]
              exact ⟨rfl, 0, rfl⟩
      · obtain rfl : k = 16 := by omega
        rw [List.drop_of_length_le (by omega), unhex] at hun
        have HG := Lib.hid (parse_good hl2 hun.symm)
        have hd2 : d < 18446744073709551616 := by simpa using hd
        by_cases hp : 2305843009213693951 ≤ d
        · have HG2 : Hid (parse s.data.toList = (0, 3)) := HG.out.trans (if_pos hp)
          have hpi : (2305843009213693951 : Int) ≤ (d : Int) := by omega
          clear hun hd
          go_wp2_with fail
          go_ret2
          rw [HG2.out]
          exact ⟨rfl, 0, rfl⟩
        · have HG2 : Hid (parse s.data.toList = (d, 0)) := HG.out.trans (if_neg hp)
          have hpi : ¬ (2305843009213693951 : Int) ≤ (d : Int) := by omega
          clear hun hd
          go_wp2_with fail
          go_ret2
          rw [HG2.out]
          exact ⟨rfl, 0, rfl⟩
  · have HP := Lib.hid (parse_len (s := s.data.toList) (by rw [← Lib.size_eq]; exact hl))
    have hni : ((s.size : Int) != 16) = true := by simp; omega
    go_enter Tryd.func35, Tryd.ntmps35
    go_wp2_with fail
    go_ret2
    rw [HP.out]
    exact ⟨rfl, 0, rfl⟩

set_option maxHeartbeats 400000 in
theorem rparse_any (s : ByteArray) (_hs : s.size ≤ 100000) (w : World) : Calls Tryd.prog 36 #[.string s] w (Draw (.tuple #[.int .u64 (((parse s.data.toList).1 : Nat) : Int), .int .i64 (((parse s.data.toList).2 : Nat) : Int)]) w) := by
  by_cases hl : s.size = 16
  · have hl2 : s.data.toList.length = 16 := by rw [← Lib.size_eq]; exact hl
    have hni : ((s.size : Int) != 16) = false := by simp; omega
    have HL := Lib.hid hl
    clear hl
    go_enter Tryd.func36, Tryd.ntmps36
    go_wp2_with fail
    go_loop [4, 5] (fun dv iv => ∃ k d : Nat, k ≤ 16 ∧ dv = .int .u64 (d : Int) ∧ iv = .int .i64 (k : Int) ∧ d < 16 ^ k ∧ unhex d (s.data.toList.drop k) = unhex 0 s.data.toList) (fun _ i => 16 - (intOf i).toNat)
    case atStart => exact ⟨0, 0, by omega, rfl, rfl, by simp, by simp⟩
    case round =>
      obtain ⟨k, d, hk, rfl, rfl, hd, hun⟩ := hrel
      have hsz := HL.out
      by_cases hlt : k < 16
      · have hds := pow_small hlt hd
        have hkl : k < s.data.toList.length := by omega
        have hks : k < s.size := by omega
        have hck : s.data.toList[k] = s[k] := rfl
        have hc := s[k].toNat_lt
        have hlti : (k : Int) < (s.size : Int) := by omega
        by_cases h1 : 48 ≤ s[k].toNat ∧ s[k].toNat ≤ 57
        · obtain ⟨h1a, h1b⟩ := h1
          have hv := hval_dig h1a h1b
          have HU := Lib.hid ((unhex_step hkl (by rw [hck]; exact hv)).symm.trans hun)
          obtain ⟨v, hve⟩ : ∃ v, v = s[k].toNat - 48 := ⟨_, rfl⟩
          rw [← hve] at HU
          have hv16 : v < 16 := by omega
          have HP := Lib.hid (pow_next hd hv16)
          have i1 : (48 : Int) ≤ (s[k].toNat : Int) := by omega
          have i2 : (s[k].toNat : Int) ≤ 57 := by omega
          have HK : Hid (IntKind.u64.wrap (IntKind.u64.wrap (16 * (d : Int) + (s[k].toNat : Int)) - 48) = ((16 * d + v : Nat) : Int)) := by
            show IntKind.u64.wrap (IntKind.u64.wrap (16 * (d : Int) + (s[k].toNat : Int)) - 48) = ((16 * d + v : Nat) : Int)
            rw [IntKind.wrap_u64, IntKind.wrap_u64]; omega
          have k1 := HK.out
          clear hun hv hve hd
          go_wp2_with fail
          go_round
          case rel => exact ⟨k + 1, 16 * d + v, by omega, rfl, by go_num, HP.out, HU.out⟩
          case measure => simp [intOf]; omega
        · by_cases h2 : 97 ≤ s[k].toNat ∧ s[k].toNat ≤ 102
          · obtain ⟨h2a, h2b⟩ := h2
            have hv := hval_let h2a h2b
            have HU := Lib.hid ((unhex_step hkl (by rw [hck]; exact hv)).symm.trans hun)
            obtain ⟨v, hve⟩ : ∃ v, v = s[k].toNat - 87 := ⟨_, rfl⟩
            rw [← hve] at HU
            have hv16 : v < 16 := by omega
            have HP := Lib.hid (pow_next hd hv16)
            have i0 : (48 : Int) ≤ (s[k].toNat : Int) := by omega
            have i1 : ¬ (s[k].toNat : Int) ≤ 57 := by omega
            have i2 : (97 : Int) ≤ (s[k].toNat : Int) := by omega
            have i3 : (s[k].toNat : Int) ≤ 102 := by omega
            have k1 : IntKind.u64.wrap (IntKind.u64.wrap (IntKind.u64.wrap (16 * (d : Int) + (s[k].toNat : Int)) - 97) + 10) = ((16 * d + v : Nat) : Int) := by
              rw [IntKind.wrap_u64, IntKind.wrap_u64, IntKind.wrap_u64]; omega
            clear hun hv hve hd h1
            go_wp2_with fail
            go_round
            case rel => exact ⟨k + 1, 16 * d + v, by omega, rfl, by go_num, HP.out, HU.out⟩
            case measure => simp [intOf]; omega
          · have hv := hval_no h1 h2
            have HB := Lib.hid (parse_bad hl2 (hun.symm.trans (unhex_stop hkl (by rw [hck]; exact hv))))
            have hways : (s[k].toNat : Int) < 48 ∨ (57 < (s[k].toNat : Int) ∧ (s[k].toNat : Int) < 97) ∨ 102 < (s[k].toNat : Int) := by omega
            clear hun hv h1 h2 hd
            rcases hways with i1 | ⟨i1, i2⟩ | i1
            all_goals
              go_wp2_with fail
              go_ret2
              rw [HB.out]
              exact ⟨rfl, 0, rfl⟩
      · obtain rfl : k = 16 := by omega
        rw [List.drop_of_length_le (by omega), unhex] at hun
        have HG := Lib.hid (parse_good hl2 hun.symm)
        have hd2 : d < 18446744073709551616 := by simpa using hd
        by_cases hp : 2305843009213693951 ≤ d
        · have HG2 : Hid (parse s.data.toList = (0, 3)) := HG.out.trans (if_pos hp)
          have hpi : (2305843009213693951 : Int) ≤ (d : Int) := by omega
          clear hun hd
          go_wp2_with fail
          go_ret2
          rw [HG2.out]
          exact ⟨rfl, 0, rfl⟩
        · have HG2 : Hid (parse s.data.toList = (d, 0)) := HG.out.trans (if_neg hp)
          have hpi : ¬ (2305843009213693951 : Int) ≤ (d : Int) := by omega
          clear hun hd
          go_wp2_with fail
          go_ret2
          rw [HG2.out]
          exact ⟨rfl, 0, rfl⟩
  · have HP := Lib.hid (parse_len (s := s.data.toList) (by rw [← Lib.size_eq]; exact hl))
    have hni : ((s.size : Int) != 16) = true := by simp; omega
    go_enter Tryd.func36, Tryd.ntmps36
    go_wp2_with fail
    go_ret2
    rw [HP.out]
    exact ⟨rfl, 0, rfl⟩
end Go.Proofs.YtdbijjiolknbfaaDoor
