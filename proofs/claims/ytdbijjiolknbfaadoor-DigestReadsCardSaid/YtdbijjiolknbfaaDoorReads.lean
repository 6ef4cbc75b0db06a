/- The walk of DigestReads: it returns true. -/
import Derived.Test.YtdbijjiolknbfaaDoorLawsA
namespace Go.Proofs.YtdbijjiolknbfaaDoor
open Go.RowKit Pl

theorem str_of {s : ByteArray} {l : List UInt8} (h : l = s.data.toList) : (⟨l.toArray⟩ : ByteArray) = s := by subst h; rfl
set_option maxRecDepth 100000 in
set_option maxHeartbeats 2000000 in
theorem reads_1 (d : Nat) (s : ByteArray) (w : World) (hs : s.size ≤ 100) (ht : Tab w) (hb : ByteArray) (hbs : hb.size = 16) (hhx : Calls Tryd.prog 24 #[.int .u64 (d : Int)] w fun e w' => e = .returned (.string hb) ∧ Below w.heap.size w w')
    (hc1 : (d : Int) < 2305843009213693951) (hp1 : parse hb.data.toList = (d, 0)) (b : Nat) (hp2 : parse s.data.toList = (b, 0)) (hb2 : (b : Int) < 2305843009213693951) (HXB : ∀ W, Tab W → Calls Tryd.prog 24 #[.int .u64 (b : Int)] W fun e w' => e = .returned (.string s) ∧ Below W.heap.size W w') : Calls Tryd.prog 11 #[.int .u64 (d : Int), .string s] w (Yes w) := by
  have HT := Lib.hid ht
  have HBS := Lib.hid hbs
  have HHX := Lib.hid hhx
  have HP1 := Lib.hid hp1
  have HP2 := Lib.hid hp2
  have HX2 := Lib.hid HXB
  clear HXB
  clear ht hbs hhx hp1 hp2
  go_enter Tryd.func11, Tryd.ntmps11
  generalize (2305843009213693951 : Int) = PP at *
  go_wp2_with fail
  refine HHX.out.mono ?_
  rintro e w1 ⟨rfl, hb1⟩
  have HB1 := Lib.hid hb1
  clear hb1
  go_wp2_with fail
  refine (parse_any hb (by rw [HBS.out]; decide) _).mono ?_
  rw [HP1.out]
  rintro e w2 ⟨rfl, m2, rfl⟩
  have hbsz := HBS.out
  go_wp2_with fail
  refine (parse_any s (by omega) _).mono ?_
  rw [HP2.out]
  rintro e w3 ⟨rfl, m3, rfl⟩
  have HB3 := Lib.hid (HB1.out.trans ((below_drewN w1 (m2 + m3)).mono HB1.out.size))
  have HT3 := Lib.hid (HT.out.on HB3.out)
  go_wp2_with fail
  generalize w1.drewN (m2 + m3) = W at *
  refine (HX2.out W HT3.out).mono ?_
  rintro e w4 ⟨rfl, hb4⟩
  have HB4 := Lib.hid (HB3.out.trans (hb4.mono HB3.out.size))
  clear hb4
  go_wp2_with fail
  refine (alive_from HT.out HB4.out).mono ?_
  rintro e w5 ⟨rfl, hb5⟩
  go_wp2_with fail
  go_returns
  exact ⟨rfl, hb5⟩

set_option maxRecDepth 100000 in
set_option maxHeartbeats 2000000 in
theorem reads_2 (d : Nat) (s : ByteArray) (w : World) (hs : s.size ≤ 100) (ht : Tab w) (hb : ByteArray) (hbs : hb.size = 16) (hhx : Calls Tryd.prog 24 #[.int .u64 (d : Int)] w fun e w' => e = .returned (.string hb) ∧ Below w.heap.size w w')
    (hc1 : (d : Int) < 2305843009213693951) (hp1 : parse hb.data.toList = (d, 0)) (n : Nat) (hp2 : parse s.data.toList = (0, n)) (hn2 : n ≠ 0) : Calls Tryd.prog 11 #[.int .u64 (d : Int), .string s] w (Yes w) := by
  have HT := Lib.hid ht
  have HBS := Lib.hid hbs
  have HHX := Lib.hid hhx
  have HP1 := Lib.hid hp1
  have HP2 := Lib.hid hp2
  have hnb : (((n : Nat) : Int) != 0) = true := by simp; omega
  clear ht hbs hhx hp1 hp2
  go_enter Tryd.func11, Tryd.ntmps11
  generalize (2305843009213693951 : Int) = PP at *
  go_wp2_with fail
  refine HHX.out.mono ?_
  rintro e w1 ⟨rfl, hb1⟩
  have HB1 := Lib.hid hb1
  clear hb1
  go_wp2_with fail
  refine (parse_any hb (by rw [HBS.out]; decide) _).mono ?_
  rw [HP1.out]
  rintro e w2 ⟨rfl, m2, rfl⟩
  have hbsz := HBS.out
  go_wp2_with fail
  refine (parse_any s (by omega) _).mono ?_
  rw [HP2.out]
  rintro e w3 ⟨rfl, m3, rfl⟩
  have HB3 := Lib.hid (HB1.out.trans ((below_drewN w1 (m2 + m3)).mono HB1.out.size))
  go_wp2_with fail
  refine (alive_from HT.out HB3.out).mono ?_
  rintro e w5 ⟨rfl, hb5⟩
  go_wp2_with fail
  go_returns
  exact ⟨rfl, hb5⟩

set_option maxRecDepth 100000 in
set_option maxHeartbeats 2000000 in
theorem reads_3 (d : Nat) (s : ByteArray) (w : World) (hs : s.size ≤ 100) (ht : Tab w) (hb : ByteArray) (hbs : hb.size = 16) (hhx : Calls Tryd.prog 24 #[.int .u64 (d : Int)] w fun e w' => e = .returned (.string hb) ∧ Below w.heap.size w w')
    (hc1 : decide ((d : Int) < 2305843009213693951) = false) (hc2 : decide ((2305843009213693951 : Int) ≤ (d : Int)) = true) (hp1 : parse hb.data.toList = (0, 3)) (b : Nat) (hp2 : parse s.data.toList = (b, 0)) (hb2 : (b : Int) < 2305843009213693951) (HXB : ∀ W, Tab W → Calls Tryd.prog 24 #[.int .u64 (b : Int)] W fun e w' => e = .returned (.string s) ∧ Below W.heap.size W w') : Calls Tryd.prog 11 #[.int .u64 (d : Int), .string s] w (Yes w) := by
  have HT := Lib.hid ht
  have HBS := Lib.hid hbs
  have HHX := Lib.hid hhx
  have HP1 := Lib.hid hp1
  have HP2 := Lib.hid hp2
  have HX2 := Lib.hid HXB
  clear HXB
  clear ht hbs hhx hp1 hp2
  go_enter Tryd.func11, Tryd.ntmps11
  generalize (2305843009213693951 : Int) = PP at *
  go_wp2_with fail
  refine HHX.out.mono ?_
  rintro e w1 ⟨rfl, hb1⟩
  have HB1 := Lib.hid hb1
  clear hb1
  go_wp2_with fail
  refine (parse_any hb (by rw [HBS.out]; decide) _).mono ?_
  rw [HP1.out]
  rintro e w2 ⟨rfl, m2, rfl⟩
  have hbsz := HBS.out
  go_wp2_with fail
  refine (parse_any s (by omega) _).mono ?_
  rw [HP2.out]
  rintro e w3 ⟨rfl, m3, rfl⟩
  have HB3 := Lib.hid (HB1.out.trans ((below_drewN w1 (m2 + m3)).mono HB1.out.size))
  have HT3 := Lib.hid (HT.out.on HB3.out)
  go_wp2_with fail
  generalize w1.drewN (m2 + m3) = W at *
  refine (HX2.out W HT3.out).mono ?_
  rintro e w4 ⟨rfl, hb4⟩
  have HB4 := Lib.hid (HB3.out.trans (hb4.mono HB3.out.size))
  clear hb4
  go_wp2_with fail
  refine (alive_from HT.out HB4.out).mono ?_
  rintro e w5 ⟨rfl, hb5⟩
  go_wp2_with fail
  go_returns
  exact ⟨rfl, hb5⟩

set_option maxRecDepth 100000 in
set_option maxHeartbeats 2000000 in
theorem reads_4 (d : Nat) (s : ByteArray) (w : World) (hs : s.size ≤ 100) (ht : Tab w) (hb : ByteArray) (hbs : hb.size = 16) (hhx : Calls Tryd.prog 24 #[.int .u64 (d : Int)] w fun e w' => e = .returned (.string hb) ∧ Below w.heap.size w w')
    (hc1 : decide ((d : Int) < 2305843009213693951) = false) (hc2 : decide ((2305843009213693951 : Int) ≤ (d : Int)) = true) (hp1 : parse hb.data.toList = (0, 3)) (n : Nat) (hp2 : parse s.data.toList = (0, n)) (hn2 : n ≠ 0) : Calls Tryd.prog 11 #[.int .u64 (d : Int), .string s] w (Yes w) := by
  have HT := Lib.hid ht
  have HBS := Lib.hid hbs
  have HHX := Lib.hid hhx
  have HP1 := Lib.hid hp1
  have HP2 := Lib.hid hp2
  have hnb : (((n : Nat) : Int) != 0) = true := by simp; omega
  clear ht hbs hhx hp1 hp2
  go_enter Tryd.func11, Tryd.ntmps11
  generalize (2305843009213693951 : Int) = PP at *
  go_wp2_with fail
  refine HHX.out.mono ?_
  rintro e w1 ⟨rfl, hb1⟩
  have HB1 := Lib.hid hb1
  clear hb1
  go_wp2_with fail
  refine (parse_any hb (by rw [HBS.out]; decide) _).mono ?_
  rw [HP1.out]
  rintro e w2 ⟨rfl, m2, rfl⟩
  have hbsz := HBS.out
  go_wp2_with fail
  refine (parse_any s (by omega) _).mono ?_
  rw [HP2.out]
  rintro e w3 ⟨rfl, m3, rfl⟩
  have HB3 := Lib.hid (HB1.out.trans ((below_drewN w1 (m2 + m3)).mono HB1.out.size))
  go_wp2_with fail
  refine (alive_from HT.out HB3.out).mono ?_
  rintro e w5 ⟨rfl, hb5⟩
  go_wp2_with fail
  go_returns
  exact ⟨rfl, hb5⟩

theorem reads_any (d : Nat) (s : ByteArray) (w : World) (hd : d < 18446744073709551616) (hs : s.size ≤ maxLen) (ht : Tab w) : Calls Tryd.prog 11 #[.int .u64 (d : Int), .string s] w (Yes w) := by
  unfold maxLen at hs
  by_cases hbig : 100 < s.size
  · have HT := Lib.hid ht
    clear ht
    go_enter Tryd.func11, Tryd.ntmps11
    go_wp2_with fail
    refine (alive_from HT.out (Below.refl _ _)).mono ?_
    rintro e w1 ⟨rfl, hb1⟩
    go_wp2_with fail
    go_returns
    exact ⟨rfl, hb1⟩
  · have hbs : (⟨(hex d).toArray⟩ : ByteArray).size = 16 := by rw [Lib.size_eq]; exact hex_length d
    have hpx := parse_hex d hd
    rw [P_eq] at hpx
    have hx := hex_any d hd w ht
    generalize hra : parse s.data.toList = ra
    obtain ⟨pb, nb⟩ := ra
    have hok : nb = 0 → (pb : Int) < 2305843009213693951 ∧ ∀ W, Tab W → Calls Tryd.prog 24 #[.int .u64 (pb : Int)] W fun e w' => e = .returned (.string s) ∧ Below W.heap.size W w' := by
      intro hn
      subst hn
      obtain ⟨h1, h2⟩ := hex_parse hra
      rw [P_eq] at h1
      refine ⟨by omega, fun W hW => ?_⟩
      have h := hex_any pb (by omega) W hW
      unfold GivesS at h
      rw [str_of h2] at h
      exact h
    have hbad : nb ≠ 0 → pb = 0 := by
      intro hn
      have := parse_err s.data.toList (by rw [hra]; exact hn)
      rw [hra] at this
      exact this
    by_cases hp : 2305843009213693951 ≤ d
    · rw [if_pos hp] at hpx
      by_cases hn : nb = 0
      · obtain ⟨h1, h2⟩ := hok hn
        subst hn
        exact reads_3 d s w (by omega) ht _ hbs hx (by simp; omega) (by simp; omega) hpx pb hra h1 h2
      · obtain rfl := hbad hn
        exact reads_4 d s w (by omega) ht _ hbs hx (by simp; omega) (by simp; omega) hpx nb hra hn
    · rw [if_neg hp] at hpx
      by_cases hn : nb = 0
      · obtain ⟨h1, h2⟩ := hok hn
        subst hn
        exact reads_1 d s w (by omega) ht _ hbs hx (by omega) hpx pb hra h1 h2
      · obtain rfl := hbad hn
        exact reads_2 d s w (by omega) ht _ hbs hx (by omega) hpx nb hra hn

end Go.Proofs.YtdbijjiolknbfaaDoor
