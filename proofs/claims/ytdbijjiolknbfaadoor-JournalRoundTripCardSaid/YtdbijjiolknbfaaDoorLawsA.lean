/- The walks of DigestTexts, DigestReads, DigestLists, DigestJoins: they return true. -/
import Derived.Test.YtdbijjiolknbfaaDoorLists
namespace Go.Proofs.YtdbijjiolknbfaaDoor
open Go.RowKit Pl

/-- The law returns true; what was there is as it was. -/
def Yes (w : World) (e : Ending) (w' : World) : Prop := e = .returned (.bool true) ∧ Below w.heap.size w w'
theorem alive_from {w w' : World} (ht : Tab w) (hb : Below w.heap.size w w') : Calls Tryd.prog 26 #[] w' fun e w'' => e = .returned (.bool true) ∧ Below w.heap.size w w'' :=
  (alive_any w' (ht.on hb)).mono fun _ _ ⟨h1, h2⟩ => ⟨h1, hb.trans (h2.mono hb.size)⟩

set_option maxRecDepth 100000 in
set_option maxHeartbeats 400000 in
theorem texts_any (d : Nat) (s : ByteArray) (w : World) (hd : d < 18446744073709551616) (hs : s.size ≤ maxLen) (ht : Tab w) : Calls Tryd.prog 7 #[.int .u64 (d : Int), .string s] w (Yes w) := by
  have HT := Lib.hid ht
  clear ht
  unfold maxLen at hs
  by_cases hbig : 100 < s.size
  · go_enter Tryd.func7, Tryd.ntmps7
    go_wp2_with fail
    refine (alive_from HT.out (Below.refl _ _)).mono ?_
    rintro e w1 ⟨rfl, hb1⟩
    go_wp2_with fail
    go_returns
    exact ⟨rfl, hb1⟩
  · generalize hra : parse s.data.toList = ra
    obtain ⟨pa, na⟩ := ra
    have HRA := Lib.hid hra
    clear hra
    have hnn : (((na : Nat) : Int) == (na : Nat)) = true := by simp
    have hpp : (((pa : Nat) : Int) == (pa : Nat)) = true := by simp
    have heq : ((⟨(hex d).toArray⟩ : ByteArray).toList == (⟨(hex d).toArray⟩ : ByteArray).toList) = true := by simp
    go_enter Tryd.func7, Tryd.ntmps7
    go_wp2_with fail
    refine (parse_any s (by omega) _).mono ?_
    rw [HRA.out]
    rintro e w1 ⟨rfl, m1, rfl⟩
    go_wp2_with fail
    refine (rparse_any s (by omega) _).mono ?_
    rw [HRA.out]
    rintro e w1 ⟨rfl, m2, rfl⟩
    have HB1 := Lib.hid (below_drewN w (m1 + m2))
    have HT1 := Lib.hid (HT.out.on HB1.out)
    go_wp2_with fail
    generalize w.drewN (m1 + m2) = W at *
    refine (hex_any d hd W HT1.out).mono ?_
    rintro e w2 ⟨rfl, hb2⟩
    have HB2 := Lib.hid (HB1.out.trans (hb2.mono HB1.out.size))
    clear hb2
    go_wp2_with fail
    refine (rhex_any d hd w2).mono ?_
    rintro e w3 ⟨rfl, hb3⟩
    have HB3 := Lib.hid (HB2.out.trans (hb3.mono HB2.out.size))
    clear hb3
    go_wp2_with fail
    refine (alive_from HT.out HB3.out).mono ?_
    rintro e w4 ⟨rfl, hb4⟩
    go_wp2_with fail
    go_returns
    exact ⟨rfl, hb4⟩

set_option maxRecDepth 100000 in
set_option maxHeartbeats 400000 in
theorem lists_any (l : List ByteArray) (A : Option Addr) (c : Nat) (w : World) (ha : Strs w A l) (ht : Tab w) : Calls Tryd.prog 6 #[.slice A l.length c] w (Yes w) := by
  have HT := Lib.hid ht
  have HA := Lib.hid ha
  clear ht ha
  cases hli : lightB l
  · have HLI := Lib.hid hli
    clear hli
    go_enter Tryd.func6, Tryd.ntmps6
    go_wp2_with fail
    refine (light_any l A c w HA.out).mono ?_
    rw [HLI.out]
    rintro e w1 ⟨rfl, rfl⟩
    go_wp2_with fail
    refine (alive_from HT.out (Below.refl _ _)).mono ?_
    rintro e w1 ⟨rfl, hb1⟩
    go_wp2_with fail
    go_returns
    exact ⟨rfl, hb1⟩
  · obtain ⟨h30, h200⟩ := (lightB_iff l).1 hli
    have HLI := Lib.hid hli
    have H200 : Hid (∀ s ∈ l, s.size ≤ 90000) := fun s hs => Nat.le_trans (h200 s hs) (by omega)
    have hlen : (links 0 (lb l)).length = l.length := by rw [links_length, lb_length]
    generalize hds : links 0 (lb l) = ds at *
    have HDS := Lib.hid hds
    have hdl : ds.length ≤ 30 := by omega
    clear hli h200 hds hlen
    go_enter Tryd.func6, Tryd.ntmps6
    go_wp2_with fail
    refine (light_any l A c w HA.out).mono ?_
    rw [HLI.out]
    rintro e w1 ⟨rfl, rfl⟩
    go_wp2_with fail
    refine (links_any l A c _ (by omega) H200.out HA.out).mono ?_
    rw [HDS.out]
    rintro e w1 ⟨A1, c1, rfl, hU1, hb1⟩
    have HB1 := Lib.hid hb1
    have HU1 := Lib.hid hU1
    clear hb1 hU1
    go_wp2_with fail
    refine (rlinks_any l A c _ (by omega) H200.out (HA.out.keep HB1.out)).mono ?_
    rw [HDS.out]
    rintro e w2 ⟨A2, c2, rfl, hU2, hb2⟩
    have HB2 := Lib.hid (HB1.out.trans (hb2.mono HB1.out.size))
    have HU2 := Lib.hid hU2
    have HU3 := Lib.hid (HU1.out.keep hb2)
    clear hb2 hU2
    go_wp2_with fail
    go_loopw [5] (fun i wr => ∃ k : Nat, k ≤ ds.length ∧ i = .int .i64 (k : Int) ∧ Drawn w2 wr) (fun i _ => ds.length - (intOf i).toNat)
    case atStart => exact ⟨0, Nat.zero_le _, rfl, 0, rfl⟩
    case round =>
      obtain ⟨k, hk, rfl, hdr⟩ := hrel
      have HD := Lib.hid hdr
      clear hdr
      by_cases hlt : k < ds.length
      · obtain ⟨b, o, rfl, hb, hc⟩ := (HU3.out.keep HD.out.below) k hlt
        obtain ⟨b', o', rfl, hb', hc'⟩ := (HU2.out.keep HD.out.below) k hlt
        generalize ds[k] = z at *
        have hzz : ((z : Int) != (z : Int)) = false := by simp
        have hlti : (k : Int) < (ds.length : Int) := by omega
        go_wp2_with fail
        go_quiet (fail)
        go_wp2_with fail
        go_roundw
        case rel => exact ⟨k + 1, by omega, by go_num, HD.out.more _⟩
        case measure => simp [intOf]; omega
      · have HB3 := Lib.hid (HB2.out.trans (HD.out.below.mono HB2.out.size))
        go_wp2_with fail
        refine (alive_from HT.out HB3.out).mono ?_
        rintro e w5 ⟨rfl, hb5⟩
        go_wp2_with fail
        go_returns
        exact ⟨rfl, hb5⟩
end Go.Proofs.YtdbijjiolknbfaaDoor
