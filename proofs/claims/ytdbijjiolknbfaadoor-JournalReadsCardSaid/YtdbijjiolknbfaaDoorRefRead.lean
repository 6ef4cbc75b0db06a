/- The walk of the reference's Read. -/
import Derived.Test.YtdbijjiolknbfaaDoorEnds
namespace Go.Proofs.YtdbijjiolknbfaaDoor
open Go.RowKit Pl

theorem later_rhex (d : Nat) (hd : d < 18446744073709551616) {W : World} {hb : ByteArray} (h : hb = ⟨(hex d).toArray⟩) : ∀ w', Below W.heap.size W w' → Calls Tryd.prog 37 #[.int .u64 (d : Int)] w' fun e w'' => e = .returned (.string hb) ∧ Below W.heap.size W w'' := by
  intro w' hbw
  subst h
  exact (rhex_any d hd w').mono fun e w'' hd => ⟨hd.1, hbw.trans (hd.2.mono hbw.size)⟩
theorem ext_mid (s : ByteArray) (k L : Nat) : (s.extract k (k + L)).data.toList = (s.data.toList.drop k).take L := by
  rw [Lib.extract_data, Nat.add_sub_cancel_left]

set_option maxRecDepth 100000 in
set_option maxHeartbeats 4000000 in
theorem rread_short (s : ByteArray) (hs : s.size ≤ 20000) (w : World) : Calls Tryd.prog 38 #[.string s] w (RPost (read s.data.toList) w) := by
  have hl := Lib.size_eq s
  have HR : Hid (read s.data.toList = readL s.size 0 s.data.toList) := by
    show read s.data.toList = _
    unfold Pl.read
    rw [if_neg (by omega), ← hl]
  rw [HR.out]
  obtain ⟨R, hR⟩ : ∃ R, R = readL s.size 0 s.data.toList := ⟨_, rfl⟩
  rw [← hR]
  have HRE := Lib.hid hR
  have HL := Lib.hid hl
  clear hR HR hl
  go_enter Tryd.func38, Tryd.ntmps38
  go_wp2_with fail
  go_loopg [5, 6, 7] s.size (fun f v2 v3 v4 wr => ∃ (es : List ByteArray) (k d : Nat), OwnS w.heap.size wr v2 es ∧ v3 = .int .i64 (k : Int) ∧ v4 = .int .u64 (d : Int) ∧ d < 18446744073709551616 ∧ k ≤ s.size ∧ s.size - k ≤ f ∧ es.length ≤ k ∧ (∀ x ∈ es, x.size ≤ 200) ∧ Below w.heap.size w wr ∧ joinR es k (readL f d (s.data.toList.drop k)) = R)
  case atStart => exact ⟨[], 0, 0, World.ownsRow_nil _ _ _ _, rfl, rfl, by omega, by omega, by omega, by simp, fun x hx => by simp at hx, Below.refl _ _, by rw [List.drop_zero, HRE.out]; simp [joinR, lb]⟩
  case round =>
    obtain ⟨es, k, d, hown, rfl, rfl, hd, hk, hfu, hel, hsz, hbw, hres⟩ := hrel
    obtain ⟨A1, c1, rfl⟩ := hown.form
    have HO := Lib.hid hown
    have HSZ := Lib.hid hsz
    have HBW := Lib.hid hbw
    have HX := Lib.hid hres
    clear hown hsz hbw hres HRE
    have hnil : Hid (Strs wr A1 es) := HO.out.strs (fun x hx => Nat.le_trans (HSZ.out x hx) (by unfold maxLen; omega))
    by_cases hlt : k < s.size
    · obtain ⟨f, rfl⟩ : ∃ f, gk = f + 1 := ⟨gk - 1, by omega⟩
      have hlti : (k : Int) < (s.size : Int) := by omega
      have hki : (k : Int) ≤ (s.size : Int) := by omega
      obtain ⟨sub, hsub⟩ : ∃ sub, sub = s.extract k s.size := ⟨_, rfl⟩
      have hsd : sub.data.toList = s.data.toList.drop k := by rw [hsub, ext_from]
      have hsz2 : sub.size = s.size - k := by rw [Lib.size_eq, hsd, List.length_drop, ← HL.out]
      have CC := Lib.hid (fun w' => feed_any sub (by omega) w')
      obtain ⟨L, hL⟩ : ∃ L, L = (upto sub.data.toList).length := ⟨_, rfl⟩
      rw [← hL] at CC
      have hLle : L ≤ s.size - k := by rw [← hsz2, hL, Lib.size_eq]; exact upto_le _
      have hne : s.data.toList.drop k ≠ [] := by
        intro h; have := congrArg List.length h; have hl := HL.out; simp at this; omega
      have HNE := Lib.hid hne
      have HLU : Hid ((upto (s.data.toList.drop k)).length = L) := by show _ = _; rw [hL, hsd]
      have HDL : Hid ((s.data.toList.drop k).length = s.size - k) := by show _ = _; rw [List.length_drop, ← HL.out]
      obtain ⟨line, hline⟩ : ∃ line, line = s.extract k (k + L) := ⟨_, rfl⟩
      have HLD : Hid (line.data.toList = upto (s.data.toList.drop k)) := by
        show _ = _
        rw [hline, ext_mid, ← HLU.out, ← upto_take]
      have hls : line.size = L := by rw [Lib.size_eq, HLD.out, HLU.out]
      rw [hsub] at CC
      clear hne hsd hsz2 hsub hL
      by_cases h1 : L = s.size - k
      · have hE : Hid (R = joinR es k ⟨[], 0, d, 4⟩) := by
          show R = _
          rw [← HX.out, readL_trunc HNE.out (by rw [HLU.out, HDL.out, h1])]
        have hkL : ((k : Int) + (L : Int) == (s.size : Int)) = true := by rw [beq_iff_eq]; omega
        clear h1 hls hline
        go_wp2_with fail
        refine (CC.out _).mono ?_
        rintro e w1 ⟨rfl, rfl⟩
        go_wp2_with fail
        refine bodyPost_ret (v := .tuple #[.slice A1 es.length c1, .int .i64 (k : Int), .int .i64 4]) (by simp [results, Tryd.results38, go_sem]) rfl ?_
        rw [hE.out]
        exact ⟨A1, c1, es, rfl, hnil.out, by simp [joinR], HSZ.out, by omega, owns_nil_cap HO.out, HBW.out⟩
      · have hkL : ((k : Int) + (L : Int) == (s.size : Int)) = false := by rw [beq_eq_false_iff_ne]; omega
        have hkL2 : (k : Int) + (L : Int) ≤ (s.size : Int) := by omega
        have hkL3 : k + L < s.size := by omega
        have HNL : Hid ((upto (s.data.toList.drop k)).length ≠ (s.data.toList.drop k).length) := by
          show _ ≠ _
          rw [HLU.out, HDL.out]; exact h1
        clear h1
        have CS := Lib.hid (fun w' => rform_any line (by omega) w')
        have HLS := Lib.hid hls
        clear hls
        go_wp2_with fail
        refine (CC.out _).mono ?_
        rintro e w1 ⟨rfl, rfl⟩
        go_wp2_with fail
        rw [← hline]
        refine (CS.out _).mono ?_
        cases hf : form line.data.toList
        · rintro e w2 ⟨rfl, rfl⟩
          have hE : Hid (R = joinR es k ⟨[], 0, d, 2⟩) := by
            show R = _
            rw [← HX.out, readL_form HNE.out HNL.out (by rw [← HLD.out]; exact hf)]
          clear hf
          go_wp2_with fail
          refine bodyPost_ret (v := .tuple #[.slice A1 es.length c1, .int .i64 (k : Int), .int .i64 2]) (by simp [results, Tryd.results38, go_sem]) rfl ?_
          rw [hE.out]
          exact ⟨A1, c1, es, rfl, hnil.out, by simp [joinR], HSZ.out, by omega, owns_nil_cap HO.out, HBW.out⟩
        · rintro e w2 ⟨rfl, rfl⟩
          have hfe := form_entry_len hf
          have h17 : (17 : Int) ≤ (line.size : Int) := by have := hfe.2; rw [← Lib.size_eq] at this; omega
          have h16 : (16 : Int) ≤ (line.size : Int) := by omega
          obtain ⟨ent, hent⟩ : ∃ x, x = line.extract 17 line.size := ⟨_, rfl⟩
          obtain ⟨dig, hdig⟩ : ∃ x, x = line.extract 0 16 := ⟨_, rfl⟩
          have hed : ent.data.toList = (upto (s.data.toList.drop k)).drop 17 := by rw [hent, ext_from, HLD.out]
          have hdd : dig.data.toList = (upto (s.data.toList.drop k)).take 16 := by rw [hdig, ext_to, HLD.out]
          have hes : ent.size ≤ 200 := by rw [Lib.size_eq, hed, ← HLD.out]; exact isEntry_len hfe.1
          rw [HLD.out] at hf
          have HF := Lib.hid hf
          have HED := Lib.hid hed
          have HDD := Lib.hid hdd
          clear hed hdd hfe hf CS CC hline
          have CH := Lib.hid (fun w' => rchain_any d ent hd (by omega) w')
          obtain ⟨ch, hch⟩ : ∃ x, x = chain d ent.data.toList := ⟨_, rfl⟩
          rw [← hch] at CH
          have hch64 : ch < 18446744073709551616 := by rw [hch]; exact Nat.lt_trans (chain_lt _ _) P_lt
          have HCH := Lib.hid hch
          clear hch
          go_wp2_with fail
          rw [← hent]
          refine (CH.out _).mono ?_
          rintro e w3 ⟨rfl, m3, rfl⟩
          have HB3 := Lib.hid (HBW.out.trans ((below_drewN wr m3).mono HBW.out.size))
          have HK3 := Lib.hid (below_drewN wr m3)
          obtain ⟨hb, hhb⟩ : ∃ x : ByteArray, x = ⟨(hex ch).toArray⟩ := ⟨_, rfl⟩
          have HHB := Lib.hid hhb
          have CX := Lib.hid (later_rhex ch hch64 (W := wr.drewN m3) hhb)
          clear hhb CH
          by_cases hcmp : dig.data.toList = hex ch
          · have hcb : (hb.toList == dig.toList) = true := by rw [HHB.out, Lib.toList_data, Lib.toList_data, hcmp]; simp
            have HGO : Hid (R = joinR (es ++ [ent]) (k + (L + 1)) (readL f ch (s.data.toList.drop (k + (L + 1))))) := by
              show R = _
              rw [← HX.out, readL_go HNE.out HNL.out HF.out (by rw [← HED.out, ← HDD.out, hcmp, HCH.out]), ← HED.out, ← HCH.out, HLU.out, List.drop_drop]
              simp [joinR, lb]; omega
            clear hcmp
            generalize wr.drewN m3 = W at *
            have hbW : Below W.heap.size W W.drew := (Below.refl _ _).drew
            rw [hdig] at hcb
            go_wp2_with fail
            go_region_held3 (fun w' => Below W.heap.size W w') (first | (with_reducible assumption)) (first | (go_at_call 37; refine (CX.out _ ?_).mono ?_; (with_reducible assumption); rintro e w4 ⟨rfl, hb4⟩))
            all_goals
              have hbf : Below W.heap.size W w4 := by with_reducible assumption
              have HB4 := Lib.hid (HB3.out.trans (hbf.mono HB3.out.size))
              have HK4 := Lib.hid (HK3.out.trans (hbf.mono HK3.out.size))
              have HO4 := Lib.hid (HO.out.keep HK4.out)
              have hw4 := HB4.out.size
              have hes2 : (line.extract 17 line.size).size ≤ 200 := by rw [← hent]; exact hes
              go_wp2_with (at_builtin; (refine append_strs rfl (.tmp 51) (.tmp 54) rfl w.heap.size _ es rfl (HO4.out.alloc _) (by simp; omega) (some ⟨w4.heap.size, 0, none⟩) 1 [line.extract 17 line.size] rfl (strs_one w4 _ (by unfold maxLen; omega)) (fun h => by cases h) (by simp; omega) ?_))
              intro v5 w5 hown5 hg5
              have HB5 := Lib.hid ((HB4.out.alloc hw4 (.cells #[.string (line.extract 17 line.size)] 9)).grown hg5 (by simp; omega) (fun g hg => (HO4.out.lt g hg).1))
              rw [← hent] at hown5
              have HO5 := Lib.hid hown5
              clear hown5 hg5
              go_wp2_with fail
              go_roundg f
              case measure => omega
              case rel =>
                refine ⟨es ++ [ent], k + (L + 1), ch, HO5.out, by go_num, rfl, hch64, by omega, by omega, by simp; omega, ?_, HB5.out, HGO.out.symm⟩
                intro x hx
                rcases List.mem_append.1 hx with hx | hx
                · exact HSZ.out x hx
                · obtain rfl := List.mem_singleton.1 hx; exact hes
          · have hcb : (hb.toList == dig.toList) = false := by rw [HHB.out, Lib.toList_data, Lib.toList_data, beq_eq_false_iff_ne]; exact fun h => hcmp h.symm
            have hE : Hid (R = joinR es k ⟨[], 0, d, 19⟩) := by
              show R = _
              rw [← HX.out, readL_dig HNE.out HNL.out HF.out (by rw [← HED.out, ← HDD.out, ← HCH.out]; exact hcmp)]
            clear hcmp
            generalize wr.drewN m3 = W at *
            have hbW : Below W.heap.size W W.drew := (Below.refl _ _).drew
            rw [hdig] at hcb
            go_wp2_with fail
            go_region_held3 (fun w' => Below W.heap.size W w') (first | (with_reducible assumption)) (first | (go_at_call 37; refine (CX.out _ ?_).mono ?_; (with_reducible assumption); rintro e w4 ⟨rfl, hb4⟩))
            all_goals
              have hbf : Below W.heap.size W w4 := by with_reducible assumption
              have HB4 := Lib.hid (HB3.out.trans (hbf.mono HB3.out.size))
              have HK4 := Lib.hid (HK3.out.trans (hbf.mono HK3.out.size))
              go_wp2_with fail
              refine bodyPost_ret (v := .tuple #[.slice A1 es.length c1, .int .i64 (k : Int), .int .i64 19]) (by simp [results, Tryd.results38, go_sem]) rfl ?_
              rw [hE.out]
              exact ⟨A1, c1, es, rfl, hnil.out.keep HK4.out, by simp [joinR], HSZ.out, by omega, owns_nil_cap HO.out, HB4.out⟩
    · obtain rfl : k = s.size := by omega
      have hE : Hid (R = joinR es s.size ⟨[], 0, d, 0⟩) := by
        show R = _
        rw [← HX.out, List.drop_of_length_le (by rw [← HL.out]; exact Nat.le_refl _), readL_nil]
      go_wp2_with fail
      refine bodyPost_ret (v := .tuple #[.slice A1 es.length c1, .int .i64 (s.size : Int), .int .i64 0]) (by simp [results, Tryd.results38, go_sem]) rfl ?_
      rw [hE.out]
      exact ⟨A1, c1, es, rfl, hnil.out, by simp [joinR], HSZ.out, by omega, owns_nil_cap HO.out, HBW.out⟩

theorem rread_any (s : ByteArray) (hs : s.size ≤ maxLen) (w : World) : Calls Tryd.prog 38 #[.string s] w (RPost (read s.data.toList) w) := by
  by_cases hb : s.size ≤ 20000
  · exact rread_short s hb w
  · have HR : Hid (read s.data.toList = ⟨[], 0, 0, 5⟩) := by
      show read s.data.toList = _
      unfold Pl.read
      rw [if_pos (by rw [← Lib.size_eq]; omega)]
    rw [HR.out]
    unfold maxLen at hs
    clear HR
    go_enter Tryd.func38, Tryd.ntmps38
    go_wp2_with fail
    refine bodyPost_ret (v := .tuple #[.slice none 0 0, .int .i64 0, .int .i64 5]) (by simp [results, Tryd.results38, go_sem]) rfl ?_
    exact ⟨none, 0, [], rfl, ⟨by unfold maxLen; simp, fun x hx => by simp at hx, fun i hi => by simp at hi⟩, rfl, fun x hx => by simp at hx, by simp, ⟨fun _ => rfl, by simp⟩, Below.refl _ _⟩
end Go.Proofs.YtdbijjiolknbfaaDoor
