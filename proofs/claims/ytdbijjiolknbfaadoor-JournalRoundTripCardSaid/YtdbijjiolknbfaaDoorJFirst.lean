/- The walk of JournalFirst: it returns true. -/
import Derived.Test.YtdbijjiolknbfaaDoorJLaws
namespace Go.Proofs.YtdbijjiolknbfaaDoor
open Go.RowKit Pl

theorem Strs.take {w : World} {A : Option Addr} {l : List ByteArray} (h : Strs w A l) (k : Nat) : Strs w A (l.take k) := by
  refine ⟨Nat.le_trans (by rw [List.length_take]; omega) h.1, fun s hs => h.2.1 s (List.mem_of_mem_take hs), fun i hi => ?_⟩
  have hi2 : i < l.length := by rw [List.length_take] at hi; omega
  obtain ⟨b, o, h1, h2, h3⟩ := h.2.2 i hi2
  exact ⟨b, o, h1, h2, by rw [h3, List.getElem_take]⟩
theorem lb_take (l : List ByteArray) (k : Nat) : lb (l.take k) = (lb l).take k := by simp [lb]
theorem map_add0 (A : Option Addr) : A.map (fun a => a.add 0) = A := by
  cases A with
  | none => rfl
  | some a => simp [Addr.add]

theorem read_n_le (s : List UInt8) (h : s.length ≤ 20000) : (read s).n ≤ s.length := by
  obtain ⟨rest, h1, h2, _⟩ := read_inv s h
  have := congrArg List.length h1
  rw [List.length_append] at this
  omega

theorem res_ext {r : Res} {es : List (List UInt8)} {n d er : Nat} (h1 : r.entries = es) (h2 : r.n = n) (h3 : r.last = d) (h4 : r.err = er) : r = ⟨es, n, d, er⟩ := by
  subst h1; subst h2; subst h3; subst h4; rfl
/-- A call of Read at a string of which it is known what is read. -/
theorem readj_at {s : ByteArray} {l : List UInt8} {r : Res} (hl : s.data.toList = l) (hr : read l = r) (hs : s.size ≤ maxLen) : ∀ w, Tab w → Calls Tryd.prog 19 #[.string s] w (RPost r w) := by
  intro w ht
  have h := readj_any s hs w ht
  rw [hl, hr] at h
  exact h

set_option maxRecDepth 100000 in
set_option maxHeartbeats 4000000 in
theorem jfirst_core (s t : ByteArray) (w : World) (hs : s.size ≤ 3000) (htz : t.size ≤ 3000) (ht : Tab w) (es xs : List (List UInt8)) (n i d1 d2 d3 er er3 : Nat) (hn : n ≤ s.size) (hni : n ≤ i) (hi : i ≤ 10000) (he : er = 0 → n = s.size)
    (c1 : ∀ w', Tab w' → Calls Tryd.prog 19 #[.string s] w' (RPost ⟨es, n, d1, er⟩ w'))
    (c2 : ∀ w', Tab w' → Calls Tryd.prog 19 #[.string (s.extract 0 n)] w' (RPost ⟨es, n, d2, 0⟩ w'))
    (c3 : ∀ w', Tab w' → Calls Tryd.prog 19 #[.string (s.extract 0 n ++ t)] w' (RPost ⟨es ++ xs, i, d3, er3⟩ w')) :
    Calls Tryd.prog 3 #[.string s, .string t] w (Yes w) := by
  have HT := Lib.hid ht
  have C1 := Lib.hid c1
  have C2 := Lib.hid c2
  have C3 := Lib.hid c3
  have hni2 : (n : Int) ≤ (s.size : Int) := by omega
  have hnn : ¬ (s.size : Int) < (n : Int) := by omega
  have hin : ¬ (i : Int) < (n : Int) := by omega
  have hz1 : (s.extract 0 n).size ≤ 3000 := by rw [Lib.size_eq, ext_to]; have hl := Lib.size_eq s; simp; omega
  clear c1 c2 c3 ht
  go_enter Tryd.func3, Tryd.ntmps3
  go_wp2_with fail
  refine (C1.out _ HT.out).mono ?_
  rintro e w1 ⟨A1, k1, es1, rfl, hS1, hl1, _, hz1a, hk1, hb1⟩
  have HS1 := Lib.hid hS1
  have HL1 := Lib.hid hl1
  have HB1 := Lib.hid hb1
  clear hS1 hl1 hb1
  have T1 := Lib.hid (HT.out.on HB1.out)
  go_wp2_with fail
  refine (C2.out _ T1.out).mono ?_
  rintro e w2 ⟨A2, k2, es2, rfl, hS2, hl2, _, hz2a, hk2, hb2⟩
  have HS2 := Lib.hid hS2
  have HL2 := Lib.hid hl2
  have HS1b := Lib.hid (HS1.out.keep hb2)
  have HB2 := Lib.hid (HB1.out.trans (hb2.mono HB1.out.size))
  have T2 := Lib.hid (HT.out.on HB2.out)
  clear hS2 hl2 hb2 HS1
  go_wp2_with fail
  refine (C3.out _ T2.out).mono ?_
  rintro e w3 ⟨A3, k3, es3, rfl, hS3, hl3, _, hz3a, hk3, hb3⟩
  have HS3 := Lib.hid hS3
  have HL3 := Lib.hid hl3
  have HS1c := Lib.hid (HS1b.out.keep hb3)
  have HS2c := Lib.hid (HS2.out.keep hb3)
  have HB3 := Lib.hid (HB2.out.trans (hb3.mono HB2.out.size))
  obtain rfl : es1 = es2 := lb_inj (HL1.out.trans HL2.out.symm)
  have hle : es1.length ≤ es3.length := by rw [← lb_length es1, ← lb_length es3, HL1.out, hl3]; simp
  have hl13 : es3.take es1.length = es1 := lb_inj (by rw [lb_take, hl3, HL1.out, ← lb_length es1, HL1.out]; exact List.take_left' rfl)
  have HTK := Lib.hid hl13
  clear hS3 hl3 hb3 HS1b HS2 hl13 HL2 T1 T2 C1 C2 C3
  have CS1 := Lib.hid (same_any es1 es1 A2 A1 k2 k1 w3 HS2c.out HS1c.out)
  rw [decide_eq_true (by rfl)] at CS1
  have hle2 : ¬ (es3.length : Int) < (es1.length : Int) := by omega
  have hk3b : (es1.length : Int) ≤ (k3 : Int) := by omega
  go_wp2_with fail
  refine CS1.out.mono ?_
  rintro e w4 ⟨rfl, m4, rfl⟩
  have HB4 := Lib.hid (HB3.out.trans ((below_drewN w3 m4).mono HB3.out.size))
  have CS2 : Hid (Calls Tryd.prog 20 #[.slice A3 es1.length k3, .slice A1 es1.length k1] (w3.drewN m4) (Draw (.bool true) (w3.drewN m4))) := by
    have h := same_any (es3.take es1.length) es1 A3 A1 k3 k1 (w3.drewN m4) ((HS3.out.take _).keep (below_drewN w3 m4)) (HS1c.out.keep (below_drewN w3 m4))
    rw [HTK.out, decide_eq_true (by rfl)] at h
    exact h
  generalize w3.drewN m4 = W4 at *
  go_wp2_with fail
  refine CS2.out.mono ?_
  rintro e w5 ⟨rfl, m5, rfl⟩
  have HB5 := Lib.hid (HB4.out.trans ((below_drewN W4 m5).mono HB4.out.size))
  generalize W4.drewN m5 = W5 at *
  by_cases h0 : er = 0
  · subst h0
    obtain rfl := he rfl
    go_wp2_with fail
    refine (awake_from HT.out HB5.out).mono ?_
    rintro e w6 ⟨rfl, hb6⟩
    go_wp2_with fail
    go_returns
    exact ⟨rfl, hb6⟩
  · have hnb : (((er : Nat) : Int) != 0) = true := by simp; omega
    clear he
    go_wp2_with fail
    refine (awake_from HT.out HB5.out).mono ?_
    rintro e w6 ⟨rfl, hb6⟩
    go_wp2_with fail
    go_returns
    exact ⟨rfl, hb6⟩

set_option maxRecDepth 100000 in
theorem jfirst_any (s t : ByteArray) (w : World) (hs : s.size ≤ maxLen) (hm : t.size ≤ maxLen) (ht : Tab w) : Calls Tryd.prog 3 #[.string s, .string t] w (Yes w) := by
  by_cases h1 : s.size ≤ 3000
  · by_cases h2 : t.size ≤ 3000
    · have e1 := Lib.size_eq s
      have e2 := Lib.size_eq t
      obtain ⟨f1, f2, f3, f4, f5, ⟨xs, f6⟩, f7⟩ := first_law s.data.toList t.data.toList (by omega) (by omega)
      have hd : (s.extract 0 (read s.data.toList).n).data.toList = s.data.toList.take (read s.data.toList).n := ext_to _ _
      have hd3 : (s.extract 0 (read s.data.toList).n ++ t).data.toList = s.data.toList.take (read s.data.toList).n ++ t.data.toList := by
        rw [ByteArray.data_append, Array.toList_append, hd]
      have hz3 : (s.extract 0 (read s.data.toList).n ++ t).size ≤ 6000 := by rw [Lib.size_eq, hd3]; simp; omega
      have hz2 : (s.extract 0 (read s.data.toList).n).size ≤ 6000 := by rw [Lib.size_eq, hd]; simp; omega
      have hi := read_n_le (s.data.toList.take (read s.data.toList).n ++ t.data.toList) (by simp; omega)
      have hil : (s.data.toList.take (read s.data.toList).n ++ t.data.toList).length ≤ 6000 := by rw [← hd3, ← Lib.size_eq]; exact hz3
      refine jfirst_core s t w h1 h2 ht (read s.data.toList).entries xs (read s.data.toList).n _ (read s.data.toList).last (read (s.data.toList.take (read s.data.toList).n)).last (read (s.data.toList.take (read s.data.toList).n ++ t.data.toList)).last (read s.data.toList).err (read (s.data.toList.take (read s.data.toList).n ++ t.data.toList)).err (by omega) f5 (by omega) (fun h => by rw [f7 h, e1]) (readj_at rfl rfl hs) ?_ ?_
      · refine readj_at hd ?_ (by unfold maxLen; omega)
        exact res_ext f4 f3 rfl f2
      · refine readj_at hd3 ?_ (by unfold maxLen; omega)
        exact res_ext f6 rfl rfl rfl
    · unfold maxLen at hs hm
      have HT := Lib.hid ht
      clear ht
      go_enter Tryd.func3, Tryd.ntmps3
      go_wp2_with fail
      refine (awake_from HT.out (Below.refl _ _)).mono ?_
      rintro e w1 ⟨rfl, hb1⟩
      go_wp2_with fail
      go_returns
      exact ⟨rfl, hb1⟩
  · unfold maxLen at hs hm
    have HT := Lib.hid ht
    clear ht
    go_enter Tryd.func3, Tryd.ntmps3
    go_wp2_with fail
    refine (awake_from HT.out (Below.refl _ _)).mono ?_
    rintro e w1 ⟨rfl, hb1⟩
    go_wp2_with fail
    go_returns
    exact ⟨rfl, hb1⟩
end Go.Proofs.YtdbijjiolknbfaaDoor
