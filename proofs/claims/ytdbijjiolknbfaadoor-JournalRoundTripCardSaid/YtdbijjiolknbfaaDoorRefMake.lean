/- The walk of the reference's Make. -/
import Derived.Test.YtdbijjiolknbfaaDoorRefAppend
namespace Go.Proofs.YtdbijjiolknbfaaDoor
open Go.RowKit Pl

theorem line_data (acc hb t : ByteArray) (d : Nat) (h : hb = ⟨(hex (chain d t.data.toList)).toArray⟩) : ((((acc ++ hb) ++ ⟨#[32]⟩) ++ t) ++ ⟨#[10]⟩ : ByteArray).data.toList = acc.data.toList ++ lineOf d t.data.toList := by
  subst h
  simp [lineOf, ByteArray.data_append]

set_option maxRecDepth 100000 in
set_option maxHeartbeats 4000000 in
theorem rmake_any (l : List ByteArray) (A : Option Addr) (c : Nat) (w : World) (hs : ∀ s ∈ l, s.size ≤ 300) (ha : Strs w A l) : Calls Tryd.prog 40 #[.slice A l.length c] w (APost (makeE 0 [] (lb l)) w) := by
  have hlm := ha.1
  unfold maxLen at hlm
  have HA := Lib.hid ha
  have HS := Lib.hid hs
  obtain ⟨R, hR⟩ : ∃ R, R = makeE 0 [] (lb l) := ⟨_, rfl⟩
  rw [← hR]
  have HRE := Lib.hid hR
  clear ha hs hR
  go_enter Tryd.func40, Tryd.ntmps40
  go_wp2_with fail
  go_loopw [4, 5, 6] (fun av dv iv wr => ∃ (k d : Nat) (acc : ByteArray), k ≤ l.length ∧ av = .string acc ∧ dv = .int .u64 (d : Int) ∧ iv = .int .i64 (k : Int) ∧ d < 18446744073709551616 ∧ acc.size ≤ 20000 ∧ Below w.heap.size w wr ∧ makeE d acc.data.toList ((lb l).drop k) = R) (fun _ _ i _ => l.length - (intOf i).toNat)
  case atStart => exact ⟨0, 0, ⟨#[]⟩, Nat.zero_le _, rfl, rfl, rfl, by decide, by decide, Below.refl _ _, HRE.out.symm⟩
  case round =>
    obtain ⟨k, d, acc, hk, rfl, rfl, rfl, hd, hac, hbw, hX⟩ := hrel
    have HBW := Lib.hid hbw
    have HX := Lib.hid hX
    clear hbw hX HRE
    by_cases hlt : k < l.length
    · obtain ⟨b, o, rfl, hb, hc⟩ := (HA.out.keep HBW.out).2.2 k hlt
      have hsz := HS.out l[k] (List.getElem_mem hlt)
      have HD := Lib.hid (lb_drop hlt)
      generalize l[k] = t at *
      have CE := Lib.hid (fun w' => rentry_any t (by omega) w')
      have CH := Lib.hid (fun w' => rchain_any d t hd (by omega) w')
      obtain ⟨ch, hch⟩ : ∃ x, x = chain d t.data.toList := ⟨_, rfl⟩
      rw [← hch] at CH
      have hch64 : ch < 18446744073709551616 := by rw [hch]; exact Nat.lt_trans (chain_lt _ _) P_lt
      have HCH := Lib.hid hch
      clear hch
      cases hie : isEntry t.data.toList
      · rw [hie] at CE
        have HE : Hid (R = ([], 2)) := by show R = _; rw [← HX.out, HD.out, makeE_bad hie]
        clear hie
        go_wp2_with fail
        refine (CE.out _).mono ?_
        rintro e w1 ⟨rfl, rfl⟩
        go_wp2_with fail
        refine bodyPost_ret (v := .tuple #[.string ⟨#[]⟩, .int .i64 2]) (by simp [results, Tryd.results40, go_sem]) rfl ?_
        rw [HE.out]
        exact ⟨rfl, HBW.out⟩
      · rw [hie] at CE
        have HIE := Lib.hid hie
        clear hie
        go_wp2_with fail
        refine (CE.out _).mono ?_
        rintro e w1 ⟨rfl, rfl⟩
        go_wp2_with fail
        refine (CH.out _).mono ?_
        rintro e w2 ⟨rfl, m2, rfl⟩
        have HB2 := Lib.hid (HBW.out.trans ((below_drewN wr m2).mono HBW.out.size))
        obtain ⟨hx, hhx⟩ : ∃ x : ByteArray, x = ⟨(hex ch).toArray⟩ := ⟨_, rfl⟩
        have CX := Lib.hid (later_rhex ch hch64 (W := wr.drewN m2) hhx)
        have hhz : hx.size = 16 := by rw [hhx, Lib.size_eq]; exact hex_length ch
        obtain ⟨res, hres⟩ : ∃ x : ByteArray, x = (((acc ++ hx) ++ ⟨#[32]⟩) ++ t) ++ ⟨#[10]⟩ := ⟨_, rfl⟩
        have hrd : res.data.toList = acc.data.toList ++ lineOf d t.data.toList := by rw [hres]; exact line_data acc hx t d (by rw [hhx, HCH.out])
        have hrz : res.size = acc.size + (lineOf d t.data.toList).length := by rw [Lib.size_eq, hrd, List.length_append, ← Lib.size_eq]
        have hlz := lineOf_length d t.data.toList
        rw [← Lib.size_eq] at hlz
        have HRD := Lib.hid hrd
        have HRZ := Lib.hid hrz
        have HLZ := Lib.hid hlz
        have hresz : res.size ≤ 30000 := by omega
        have hhz2 : hx.size ≤ 16 := by omega
        have hcW : (wr.drewN m2).cell? ⟨b, o + k, none⟩ = some (.string t) := hc
        have hbW0 : b < (wr.drewN m2).heap.size := hb
        clear hhx hrd hrz hlz CE CH hc hb hhz
        generalize wr.drewN m2 = W at *
        have hbW : Below W.heap.size W W.drew := (Below.refl _ _).drew
        have HSS : Hid (∀ w' : World, Below W.heap.size W w' → (Below W.heap.size W w' ∧ w'.cell? ⟨b, o + k, none⟩ = some (.string t))) := fun w' h => ⟨h, (h.cell hbW0).trans hcW⟩
        have g0 : acc.size + hx.size + 1 + t.size + 1 ≤ 30000 := by omega
        go_wp2_with fail
        have g1 : ¬ 9223372036854775807 < acc.size + hx.size := by omega
        have g2 : ¬ 9223372036854775807 < acc.size + hx.size + 1 := by omega
        have g3 : ¬ 9223372036854775807 < acc.size + hx.size + 1 + t.size := by omega
        have g4 : ¬ 9223372036854775807 < acc.size + hx.size + 1 + t.size + 1 := by omega
        go_region_held3 (fun w' => Below W.heap.size W w' ∧ w'.cell? ⟨b, o + k, none⟩ = some (.string t)) (first | exact HSS.out _ (by with_reducible assumption)) (first | (go_at_call 37; refine (CX.out _ ?_).mono ?_; (with_reducible assumption); rintro e w4 ⟨rfl, hb4⟩))
        all_goals
          have hbf : Below W.heap.size W w4 := by with_reducible assumption
          have HB4 := Lib.hid (HB2.out.trans (hbf.mono HB2.out.size))
          clear g1 g2 g3 g4 hbf
          rw [← hres]
          have HRS := Lib.hid hres
          clear hres g0 hhz2 hcW hbW0 hbW
          by_cases hbig : 20000 < res.size
          · have hbi : (20000 : Int) < (res.size : Int) := by omega
            have HE : Hid (R = ([], 5)) := by show R = _; rw [← HX.out, HD.out, makeE_long HIE.out (by rw [← Lib.size_eq, ← HRZ.out]; exact hbig)]
            go_wp2_with fail
            refine bodyPost_ret (v := .tuple #[.string ⟨#[]⟩, .int .i64 5]) (by simp [results, Tryd.results40, go_sem]) rfl ?_
            rw [HE.out]
            exact ⟨rfl, HB4.out⟩
          · have hbi : ¬ (20000 : Int) < (res.size : Int) := by omega
            have HE : Hid (R = makeE ch res.data.toList ((lb l).drop (k + 1))) := by show R = _; rw [← HX.out, HD.out, makeE_go HIE.out (by rw [← Lib.size_eq, ← HRZ.out]; exact hbig), HCH.out, HRD.out]
            go_wp2_with fail
            go_roundw
            case rel => exact ⟨k + 1, ch, res, by omega, rfl, rfl, by go_num, hch64, by omega, HB4.out, HE.out.symm⟩
            case measure => simp [intOf]; omega
    · obtain rfl : k = l.length := by omega
      have HE : Hid (R = (acc.data.toList, 0)) := by show R = _; rw [← HX.out, List.drop_of_length_le (by rw [lb_length]; exact Nat.le_refl _), makeE]
      go_wp2_with fail
      refine bodyPost_ret (v := .tuple #[.string acc, .int .i64 0]) (by simp [results, Tryd.results40, go_sem]) rfl ?_
      rw [HE.out]
      exact ⟨rfl, HBW.out⟩
end Go.Proofs.YtdbijjiolknbfaaDoor
