/- The walks of the reference's Append and of JournalAppends: it returns true. -/
import Derived.Test.YtdbijjiolknbfaaDoorRefMake
namespace Go.Proofs.YtdbijjiolknbfaaDoor
open Go.RowKit Pl

set_option maxRecDepth 100000 in
set_option maxHeartbeats 2000000 in
theorem rappend_core (s t : ByteArray) (hs : s.size ≤ maxLen) (htz : t.size ≤ 300) (w : World) (n er d : Nat) (r : Res) (hr : r.err = er) (hn : r.n = n) (hrd : last 0 r.entries = d) (ln : ByteArray)
    (hln : ln = ⟨(lineOf d t.data.toList).toArray⟩) (hsl : er = 0 → s.size ≤ 3000 ∧ r.entries.length ≤ 200)
    (cr : Calls Tryd.prog 38 #[.string s] w (RPost r w)) :
    Calls Tryd.prog 39 #[.string s, .string t] w (APost (if er ≠ 0 then ([], er) else if isEntry t.data.toList = false then ([], 2) else if 20000 < s.size + ln.size then ([], 5) else (s.data.toList ++ lineOf d t.data.toList, 0)) w) := by
  have CR := Lib.hid cr
  have CE := Lib.hid (fun w' => rentry_any t (by omega) w')
  have HLN := Lib.hid hln
  unfold maxLen at hs
  generalize isEntry t.data.toList = ie at *
  have HRE := Lib.hid hr
  have HRN := Lib.hid hn
  have HRL := Lib.hid hrd
  clear cr hln hr hn hrd
  obtain ⟨res, hres⟩ : ∃ res : List UInt8 × Nat, res = (if er ≠ 0 then ([], er) else if ie = false then ([], 2) else if 20000 < s.size + ln.size then ([], 5) else (s.data.toList ++ lineOf d t.data.toList, 0)) := ⟨_, rfl⟩
  rw [← hres]
  have HRES := Lib.hid hres
  clear hres
  by_cases h0 : er = 0
  · obtain ⟨hsz, hcnt⟩ := hsl h0
    have HCN := Lib.hid hcnt
    subst h0
    clear hsl hcnt
    go_enter Tryd.func39, Tryd.ntmps39
    go_wp2_with fail
    refine CR.out.mono ?_
    rintro e w1 ⟨A, c, es, rfl, hS1, hl1, h200, _, hk1, hb1⟩
    rw [HRE.out, HRN.out]
    have hcnt : es.length ≤ 200 := by rw [← lb_length, hl1]; exact HCN.out
    have HB1 := Lib.hid hb1
    have HS1 := Lib.hid hS1
    have H200 := Lib.hid h200
    have HK1 := Lib.hid hk1
    have HRL2 : Hid (last 0 (lb es) = d) := by show _ = _; rw [hl1]; exact HRL.out
    clear hb1 CR hS1 hl1 h200 hk1
    go_wp2_with fail
    refine (CE.out _).mono ?_
    rintro e w2 ⟨rfl, rfl⟩
    cases ie
    · go_wp2_with fail
      refine bodyPost_ret (v := .tuple #[.string ⟨#[]⟩, .int .i64 2]) (by simp [results, Tryd.results39, go_sem]) rfl ?_
      rw [HRES.out]
      exact ⟨rfl, HB1.out⟩
    · go_wp2_with (at_builtin; (refine append_strs rfl (.tmp 23) (.tmp 24) rfl w1.heap.size _ [] rfl (OwnS.start w1) (by simp) A c es rfl (HS1.out.keep ((Below.refl _ _).alloc (Nat.le_refl _) _)) HK1.out.1 (by simp; omega) ?_))
      intro v2 w2 hown2 hg2
      have HO2 := Lib.hid hown2
      have hBB2 : w1.heap.size ≤ w2.heap.size := by have := hg2.size; simp at this; omega
      have HK2 := Lib.hid (((Below.refl w1.heap.size w1).alloc (Nat.le_refl _) (.cells #[] 9)).grown hg2 (by simp) (fun g hg => by rw [own_at hg]; exact Nat.le_refl _))
      obtain ⟨A2, c2, rfl⟩ := hown2.form
      clear hown2 hg2
      go_wp2_with (at_builtin; (refine append_strs rfl (.tmp 25) (.tmp 27) rfl w1.heap.size _ es rfl (HO2.out.alloc _) (by simp; omega) (some ⟨w2.heap.size, 0, none⟩) 1 [t] rfl (strs_one w2 t (by unfold maxLen; omega)) (fun h => by cases h) (by simp; omega) ?_))
      intro v3 w3 hown3 hg3
      have HO3 := Lib.hid hown3
      obtain ⟨A3, c3, rfl⟩ := hown3.form
      have HK3 := Lib.hid ((HK2.out.alloc hBB2 (.cells #[.string t] 9)).grown hg3 (by simp; omega) (fun g hg => (HO2.out.lt g hg).1))
      have HB3 := Lib.hid (HB1.out.trans (HK3.out.mono HB1.out.size))
      clear hown3 hg3
      have H9b : Hid (∀ x ∈ (es ++ [t]), x.size ≤ 90000) := by
        intro x hx
        simp only [List.mem_append, List.mem_singleton] at hx
        rcases hx with hx | hx
        · exact Nat.le_trans (H200.out x hx) (by omega)
        · subst hx; omega
      have HST3 := Lib.hid (HO3.out.strs (fun x hx => Nat.le_trans (H9b.out x hx) (by unfold maxLen; omega)))
      obtain ⟨db, hdb⟩ : ∃ db, db = links 0 (lb es ++ [t.data.toList]) := ⟨_, rfl⟩
      have HDB := Lib.hid hdb
      have HLB : Hid (db.length = es.length + 1) := by show _ = _; rw [hdb, links_length]; simp [lb_length]
      clear hdb
      have CL : Hid (Calls Tryd.prog 34 #[.slice A3 (es.length + 1) c3] w3 (GivesL db w3)) := by
        have h := rlinks_any (es ++ [t]) A3 c3 w3 (by simp; omega) H9b.out HST3.out
        rw [show lb (es ++ [t]) = lb es ++ [t.data.toList] by simp [lb], ← HDB.out, show (es ++ [t]).length = es.length + 1 by simp] at h
        exact h
      go_wp2_with fail
      refine CL.out.mono ?_
      rintro e w4 ⟨A4, c4, rfl, hU4, hb4⟩
      rw [HLB.out]
      have HB4 := Lib.hid (HB3.out.trans (hb4.mono HB3.out.size))
      have hkB : es.length < db.length := by rw [HLB.out]; omega
      obtain ⟨b2, o2, rfl, hb2, hc2⟩ := hU4 es.length hkB
      obtain ⟨ch, hch⟩ : ∃ x, x = chain d t.data.toList := ⟨_, rfl⟩
      have e2 : db[es.length] = ch := by
        have h := links_end (lb es) t.data.toList
        rw [lb_length, ← HDB.out, List.getElem?_eq_getElem hkB] at h
        rw [hch, ← HRL2.out]
        exact Option.some.inj h
      rw [e2] at hc2
      have hch64 : ch < 18446744073709551616 := by rw [hch]; exact Nat.lt_trans (chain_lt _ _) P_lt
      have HCH := Lib.hid hch
      obtain ⟨hx, hhx⟩ : ∃ x : ByteArray, x = ⟨(hex ch).toArray⟩ := ⟨_, rfl⟩
      have CX := Lib.hid (later_rhex ch hch64 (W := w4) hhx w4 (Below.refl _ _))
      have hhz : hx.size = 16 := by rw [hhx, Lib.size_eq]; exact hex_length ch
      have hhz2 : hx.size ≤ 16 := by omega
      have HHZ := Lib.hid hhz
      have HHX := Lib.hid hhx
      clear hb4 hU4 hkB hch e2 hhx hhz CL
      go_wp2_with fail
      refine CX.out.mono ?_
      rintro e w5 ⟨rfl, hb5⟩
      have HB5 := Lib.hid (HB4.out.trans (hb5.mono HB4.out.size))
      clear hb5 CX
      go_wp2_with fail
      refine bodyPost_ret (v := .tuple #[.string ((((s ++ hx) ++ ⟨#[32]⟩) ++ t) ++ ⟨#[10]⟩), .int .i64 0]) (by simp [results, Tryd.results39, go_sem]) rfl ?_
      have hlz : ln.size = t.size + 18 := by rw [HLN.out, Lib.size_eq]; show (lineOf d t.data.toList).length = _; rw [lineOf_length, ← Lib.size_eq]
      rw [HRES.out, if_neg (by simp), if_neg (by simp), if_neg (by omega)]
      refine ⟨?_, HB5.out⟩
      have hld := line_data s hx t d (by rw [HHX.out, HCH.out])
      rw [bytes_ext hld]
      rfl
  · have hnb : (((er : Nat) : Int) != 0) = true := by simp; omega
    clear hsl
    go_enter Tryd.func39, Tryd.ntmps39
    go_wp2_with fail
    refine CR.out.mono ?_
    rintro e w1 ⟨A, c, es, rfl, _, _, _, _, _, hb1⟩
    rw [HRE.out, HRN.out]
    have HB1 := Lib.hid hb1
    clear hb1 CR
    go_wp2_with fail
    refine bodyPost_ret (v := .tuple #[.string ⟨#[]⟩, .int .i64 (er : Int)]) (by simp [results, Tryd.results39, go_sem]) rfl ?_
    rw [HRES.out, if_pos h0]
    exact ⟨rfl, HB1.out⟩

theorem rappend_any (s t : ByteArray) (hs : s.size ≤ maxLen) (hways : s.size ≤ 3000 ∨ 20000 < s.size) (htz : t.size ≤ 300) (w : World) : Calls Tryd.prog 39 #[.string s, .string t] w (APost (appendL s.data.toList t.data.toList) w) := by
  have e1 := Lib.size_eq s
  have hok : (read s.data.toList).err = 0 → s.size ≤ 3000 ∧ (read s.data.toList).entries.length ≤ 200 := by
    intro h
    have := read_ok_len h
    have h2 := read_count s.data.toList (by omega)
    omega
  by_cases h0 : (read s.data.toList).err = 0
  · have h3 := read_ok_len h0
    obtain ⟨_, _, _, _, h4, _⟩ := read_inv s.data.toList h3
    have h := rappend_core s t hs htz w _ _ _ (read s.data.toList) rfl rfl h4.symm _ rfl hok (rread_any s hs w)
    unfold appendL
    rw [Lib.size_eq, Lib.size_eq] at h
    exact h
  · have h := rappend_core s t hs htz w _ _ _ (read s.data.toList) rfl rfl rfl _ rfl hok (rread_any s hs w)
    unfold appendL
    rw [if_pos h0] at h ⊢
    exact h

set_option maxRecDepth 100000 in
set_option maxHeartbeats 2000000 in
theorem jappends_any (s t : ByteArray) (w : World) (hs : s.size ≤ maxLen) (hm : t.size ≤ maxLen) (ht : Tab w) : Calls Tryd.prog 14 #[.string s, .string t] w (Yes w) := by
  by_cases h1 : 3000 < s.size ∧ s.size ≤ 20000
  · unfold maxLen at hs hm
    have HT := Lib.hid ht
    obtain ⟨h1, h2⟩ := h1
    clear ht
    go_enter Tryd.func14, Tryd.ntmps14
    go_wp2_with fail
    refine (awake_from HT.out (Below.refl _ _)).mono ?_
    rintro e w1 ⟨rfl, hb1⟩
    go_wp2_with fail
    go_returns
    exact ⟨rfl, hb1⟩
  have hways : s.size ≤ 3000 ∨ 20000 < s.size := by omega
  by_cases h2 : 300 < t.size
  · unfold maxLen at hs hm
    have HT := Lib.hid ht
    clear ht h1
    rcases hways with h1 | h1
    all_goals
      go_enter Tryd.func14, Tryd.ntmps14
      go_wp2_with fail
      refine (awake_from HT.out (Below.refl _ _)).mono ?_
      rintro e w1 ⟨rfl, hb1⟩
      go_wp2_with fail
      go_returns
      exact ⟨rfl, hb1⟩
  · have CA := Lib.hid (append_any s t hs (by omega) w ht)
    have CR := Lib.hid (fun w' => rappend_any s t hs hways (by omega) w')
    have HT := Lib.hid ht
    generalize appendL s.data.toList t.data.toList = r at *
    obtain ⟨S, n⟩ := r
    obtain ⟨S2, hS⟩ : ∃ S2 : ByteArray, S2 = ⟨S.toArray⟩ := ⟨_, rfl⟩
    unfold APost at CA CR
    simp only [← hS] at CA CR
    unfold maxLen at hs hm
    clear ht hS h1
    rcases hways with h1 | h1
    all_goals
      go_enter Tryd.func14, Tryd.ntmps14
      go_wp2_with fail
      refine CA.out.mono ?_
      rintro e w1 ⟨rfl, hb1⟩
      have HB1 := Lib.hid hb1
      clear hb1
      go_wp2_with fail
      refine (CR.out w1).mono ?_
      rintro e w2 ⟨rfl, hb2⟩
      have HB2 := Lib.hid (HB1.out.trans (hb2.mono HB1.out.size))
      clear hb2
      go_wp2_with fail
      refine (awake_from HT.out HB2.out).mono ?_
      rintro e w3 ⟨rfl, hb3⟩
      go_wp2_with fail
      go_returns
      exact ⟨rfl, hb3⟩
end Go.Proofs.YtdbijjiolknbfaaDoor
