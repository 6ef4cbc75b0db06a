/- The walk of DigestNotices: it returns true. -/
import Derived.Test.YtdbijjiolknbfaaDoorDefines
import Derived.Deep.DeepCutAuto
namespace Go.Proofs.YtdbijjiolknbfaaDoor
open Go.RowKit Pl

theorem strs_three (w : World) (x y z : ByteArray) (hx : x.size ≤ 90000) (hy : y.size ≤ 90000) (hz : z.size ≤ 90000) : Strs (w.alloc (.cells #[.string x, .string y, .string z] 9)) (some ⟨w.heap.size, 0, none⟩) [x, y, z] := by
  refine ⟨by simp [maxLen], ?_, ?_⟩
  · intro s hs; simp at hs; unfold maxLen; rcases hs with rfl | rfl | rfl <;> omega
  · intro i hi
    refine ⟨_, _, rfl, by simp, ?_⟩
    match i, hi with
    | 0, _ => simp
    | 1, _ => simp
    | 2, _ => simp
theorem u64s_three {w : World} {A : Option Addr} {x y z : Nat} (h : U64s w A [x, y, z]) : ∃ b o, A = some ⟨b, o, none⟩ ∧ b < w.heap.size ∧ w.cell? ⟨b, o, none⟩ = some (.int .u64 (x : Int)) ∧ w.cell? ⟨b, o + 1, none⟩ = some (.int .u64 (y : Int)) ∧ w.cell? ⟨b, o + 2, none⟩ = some (.int .u64 (z : Int)) := by
  obtain ⟨b, o, rfl, hb, h0⟩ := h 0 (by simp)
  obtain ⟨b1, o1, e1, _, h1⟩ := h 1 (by simp)
  obtain ⟨b2, o2, e2, _, h2⟩ := h 2 (by simp)
  injection e1 with e1; injection e1 with e1 f1; subst e1; subst f1
  injection e2 with e2; injection e2 with e2 f2; subst e2; subst f2
  exact ⟨b, o, rfl, hb, by simpa using h0, by simpa using h1, by simpa using h2⟩
theorem ext_to0 (s : ByteArray) (k : Nat) : (s.extract 0 k).data.toList = s.data.toList.take k := by rw [Lib.extract_data]; simp
/-- The text with one byte replaced. -/
theorem repl_data (s : ByteArray) (i : Nat) (c : UInt8) : ((s.extract 0 i ++ ⟨#[c]⟩) ++ s.extract (i + 1) s.size).data.toList = s.data.toList.take i ++ c :: s.data.toList.drop (i + 1) := by
  simp only [ByteArray.data_append, Array.toList_append]
  rw [Lib.extract_data, Lib.extract_data, Lib.size_eq]
  simp only [List.drop_zero, Nat.sub_zero, List.append_assoc, List.cons_append, List.nil_append]
  congr 2
  exact List.take_of_length_le (by simp)
theorem split_data (l : List UInt8) (i : Nat) (h : i < l.length) : l = l.take i ++ l[i] :: l.drop (i + 1) := by
  rw [← List.drop_eq_getElem_cons h, List.take_append_drop]

set_option maxRecDepth 100000 in
set_option maxHeartbeats 4000000 in
/-- The walk, where the values of the calls are known: t is the text with a byte replaced. -/
theorem notices_core (s : ByteArray) (at_ : Nat) (by_ : UInt8) (i : Nat) (t : ByteArray) (w : World) (hs0 : 0 < s.size) (hs : s.size ≤ 2000) (htab : Tab w) (hat : at_ < 65536) (hi : (at_ : Int).tmod (s.size : Int) = (i : Int)) (hil : i < s.size)
    (ht : t = (s.extract 0 i ++ ⟨#[by_]⟩) ++ s.extract (i + 1) s.size) (x0 x1 x2 y1 y2 ox oy : Nat) (same : Bool)
    (hst : (t.toList == s.toList) = same) (h1 : ((ox : Int) == (oy : Int)) = same) (h2 : ((x1 : Int) == (y1 : Int)) = same) (h3 : ((x2 : Int) == (y2 : Int)) = same)
    (c1 : ∀ w' A c, Strs w' A [⟨#[120]⟩, s, ⟨#[121]⟩] → Calls Tryd.prog 23 #[.slice A 3 c] w' (GivesL [x0, x1, x2] w')) (c2 : ∀ w' A c, Strs w' A [⟨#[120]⟩, t, ⟨#[121]⟩] → Calls Tryd.prog 23 #[.slice A 3 c] w' (GivesL [x0, y1, y2] w'))
    (c3 : ∀ w', Calls Tryd.prog 27 #[.string s] w' (Draw (.int .u64 (ox : Int)) w')) (c4 : ∀ w', Calls Tryd.prog 27 #[.string t] w' (Draw (.int .u64 (oy : Int)) w')) :
    Calls Tryd.prog 8 #[.string s, .int .u16 (at_ : Int), .int .u8 (by_.toNat : Int)] w (Yes w) := by
  have htz : t.size ≤ 2000 := by
    rw [ht, Lib.size_eq, repl_data]
    have hl := Lib.size_eq s
    simp only [List.length_append, List.length_take, List.length_cons, List.length_drop]
    omega
  have HT := Lib.hid htab
  have C1 := Lib.hid c1
  have C2 := Lib.hid c2
  have HC3 := Lib.hid c3
  have HC4 := Lib.hid c4
  have HTE := Lib.hid ht
  have HS0 : ((s.size : Int) == 0) = false := by rw [beq_eq_false_iff_ne]; omega
  have hcv : (convert 49 9 (.slice (some ⟨w.heap.size, 0, none⟩) 1 1)).run Tryd.prog (w.alloc (.cells #[.int .u8 (by_.toNat : Int)] 5)).drew = .ok (.string ⟨#[by_]⟩) (w.alloc (.cells #[.int .u8 (by_.toNat : Int)] 5)).drew := conv_one w.drew by_
  have hile : i ≤ s.size := by omega
  have hile2 : i + 1 ≤ s.size := by omega
  have hilei : (i : Int) + 1 ≤ (s.size : Int) := by omega
  have hz1 : (s.extract 0 i).size ≤ 2000 := by rw [Lib.size_eq, ext_to0]; have hl := Lib.size_eq s; simp; omega
  have hz2 : (s.extract (i + 1) s.size).size ≤ 2000 := by rw [Lib.size_eq, Lib.extract_data]; have hl := Lib.size_eq s; simp; omega
  have hby := by_.toNat_lt
  have hne : (s.size : Int) ≠ 0 := by omega
  have hil2 : (i : Int) < (s.size : Int) := by omega
  have H1 := Lib.hid h1
  have H2 := Lib.hid h2
  have H3 := Lib.hid h3
  have HST := Lib.hid hst
  clear c1 c2 c3 c4 htab ht h1 h2 h3 hst
  go_enter Tryd.func8, Tryd.ntmps8
  go_wp2_with fail
  go_cut [8] (fun s8 wc => s8 = .string t ∧ Below w.heap.size w wc)
  case first =>
    go_region
    all_goals
      go_wp2_with fail
      go_meet
      case rel => exact ⟨by rw [HTE.out], (((Below.refl w.heap.size w).alloc (Nat.le_refl _) _).drew)⟩
  case rest =>
    obtain ⟨rfl, hbc⟩ := hcut
    have HBC := Lib.hid hbc
    clear hbc
    go_wp2_with fail
    refine (C1.out _ _ _ (strs_three wc _ _ _ (by decide) (by omega) (by decide))).mono ?_
    rintro e w1 ⟨A1, k1, rfl, hU1, hb1⟩
    have hw0 := HBC.out.size
    have HA1 := Lib.hid (HBC.out.alloc hw0 (.cells #[.string ⟨#[120]⟩, .string s, .string ⟨#[121]⟩] 9))
    have HB1 := Lib.hid (HA1.out.trans (hb1.mono HA1.out.size))
    have HU1 := Lib.hid hU1
    clear hb1 hU1
    go_wp2_with fail
    refine (C2.out _ _ _ (strs_three w1 _ _ _ (by decide) (by omega) (by decide))).mono ?_
    rintro e w2 ⟨A2, k2, rfl, hU2, hb2⟩
    have hw1 := HB1.out.size
    have HA2 := Lib.hid (HB1.out.alloc hw1 (.cells #[.string ⟨#[120]⟩, .string t, .string ⟨#[121]⟩] 9))
    have HB2 := Lib.hid (HA2.out.trans (hb2.mono HA2.out.size))
    have HK := Lib.hid (((Below.refl w1.heap.size w1).alloc (Nat.le_refl _) (.cells #[.string ⟨#[120]⟩, .string t, .string ⟨#[121]⟩] 9)).trans (hb2.mono ((Below.refl w1.heap.size w1).alloc (Nat.le_refl _) (.cells #[.string ⟨#[120]⟩, .string t, .string ⟨#[121]⟩] 9)).size))
    obtain ⟨bx, ox1, rfl, hbx0, hx0, hx1, hx2⟩ := u64s_three (HU1.out.keep HK.out)
    obtain ⟨by1, oy1, rfl, hby0, hy0, hy1, hy2⟩ := u64s_three hU2
    clear hb2 hU2
    have hstv := HST.out
    have CA := Lib.hid (later_alive (HT.out.on HB2.out))
    have D3 := Lib.hid (later (W := w2) HC3.out)
    have D4 := Lib.hid (later (W := w2) HC4.out)
    have HS : Hid (∀ w' : World, Below w2.heap.size w2 w' → (Below w2.heap.size w2 w' ∧ w'.cell? ⟨bx, ox1, none⟩ = some (.int .u64 (x0 : Int)) ∧ w'.cell? ⟨bx, ox1 + 1, none⟩ = some (.int .u64 (x1 : Int)) ∧ w'.cell? ⟨bx, ox1 + 2, none⟩ = some (.int .u64 (x2 : Int)) ∧ w'.cell? ⟨by1, oy1, none⟩ = some (.int .u64 (x0 : Int)) ∧ w'.cell? ⟨by1, oy1 + 1, none⟩ = some (.int .u64 (y1 : Int)) ∧ w'.cell? ⟨by1, oy1 + 2, none⟩ = some (.int .u64 (y2 : Int)))) := by
      intro w' hb
      exact ⟨hb, (hb.cell hbx0).trans hx0, (hb.cell hbx0).trans hx1, (hb.cell hbx0).trans hx2, (hb.cell hby0).trans hy0, (hb.cell hby0).trans hy1, (hb.cell hby0).trans hy2⟩
    go_wp2_with fail
    clear hstv HST HU1 HK HA1 HA2 HB1 HBC C1 C2 HC3 HC4 HTE hx0 hx1 hx2 hy0 hy1 hy2 hcv hi hz1 hz2 hile hile2 hilei hil2 hne HS0
    have hg1 := H1.out
    have hg2 := H2.out
    have hg3 := H3.out
    have hb0 : Below w2.heap.size w2 w2.drew := (Below.refl _ _).drew
    go_region_held3 (fun w' => Below w2.heap.size w2 w' ∧ w'.cell? ⟨bx, ox1, none⟩ = some (.int .u64 (x0 : Int)) ∧ w'.cell? ⟨bx, ox1 + 1, none⟩ = some (.int .u64 (x1 : Int)) ∧ w'.cell? ⟨bx, ox1 + 2, none⟩ = some (.int .u64 (x2 : Int)) ∧ w'.cell? ⟨by1, oy1, none⟩ = some (.int .u64 (x0 : Int)) ∧ w'.cell? ⟨by1, oy1 + 1, none⟩ = some (.int .u64 (y1 : Int)) ∧ w'.cell? ⟨by1, oy1 + 2, none⟩ = some (.int .u64 (y2 : Int))) (first | exact HS.out _ (by with_reducible assumption)) (first | (go_at_call_of 27 (Value.string s); refine (D3.out _ ?_).mono ?_; (with_reducible assumption); rintro e wx ⟨rfl, hbx⟩) | (go_at_call_of 27 (Value.string t); refine (D4.out _ ?_).mono ?_; (with_reducible assumption); rintro e wx ⟨rfl, hbx⟩) | (go_at_call 26; refine (CA.out _ ?_).mono ?_; (with_reducible assumption); rintro e wx ⟨rfl, hbx⟩))
    all_goals
      have hbf : Below w2.heap.size w2 wx := by with_reducible assumption
      have HF := Lib.hid (HB2.out.trans (hbf.mono HB2.out.size))
      go_wp2_with fail
      go_returns
      exact ⟨rfl, HF.out⟩

theorem beq_same {a b : Nat} {same : Bool} (h : a = b ↔ same = true) : ((a : Int) == (b : Int)) = same := by
  rw [Bool.eq_iff_iff, ← h, beq_iff_eq]; omega
theorem three_le {x y z : ByteArray} (hx : x.size ≤ 90000) (hy : y.size ≤ 90000) (hz : z.size ≤ 90000) : ∀ q ∈ [x, y, z], q.size ≤ 90000 := by
  intro q hq; simp at hq; rcases hq with rfl | rfl | rfl <;> assumption

theorem notices_any (s : ByteArray) (at_ : Nat) (by_ : UInt8) (w : World) (hs : s.size ≤ maxLen) (hat : at_ < 65536) (htab : Tab w) :
    Calls Tryd.prog 8 #[.string s, .int .u16 (at_ : Int), .int .u8 (by_.toNat : Int)] w (Yes w) := by
  unfold maxLen at hs
  by_cases h0 : s.size = 0
  · have HT := Lib.hid htab
    have HS0 : ((s.size : Int) == 0) = true := by rw [h0]; rfl
    clear htab
    go_enter Tryd.func8, Tryd.ntmps8
    go_wp2_with fail
    refine (alive_from HT.out (Below.refl _ _)).mono ?_
    rintro e w1 ⟨rfl, hb1⟩
    go_wp2_with fail
    go_returns
    exact ⟨rfl, hb1⟩
  · by_cases hbig : 2000 < s.size
    · have HT := Lib.hid htab
      have HS0 : ((s.size : Int) == 0) = false := by rw [beq_eq_false_iff_ne]; omega
      clear htab
      go_enter Tryd.func8, Tryd.ntmps8
      go_wp2_with fail
      refine (alive_from HT.out (Below.refl _ _)).mono ?_
      rintro e w1 ⟨rfl, hb1⟩
      go_wp2_with fail
      go_returns
      exact ⟨rfl, hb1⟩
    · have hil : at_ % s.size < s.size := Nat.mod_lt _ (by omega)
      have hl := Lib.size_eq s
      generalize hi : at_ % s.size = i at *
      generalize ht : (s.extract 0 i ++ ⟨#[by_]⟩) ++ s.extract (i + 1) s.size = t
      have htd : t.data.toList = s.data.toList.take i ++ by_ :: s.data.toList.drop (i + 1) := by rw [← ht]; exact repl_data s i by_
      have hsd := split_data s.data.toList i (by omega)
      have htz : t.size ≤ 2000 := by
        rw [Lib.size_eq, htd]
        simp only [List.length_append, List.length_take, List.length_cons, List.length_drop]
        omega
      have hsame : s.data.toList = t.data.toList ↔ decide (s.data.toList = t.data.toList) = true := by simp
      have hofs : of_ s.data.toList = of_ t.data.toList ↔ s.data.toList = t.data.toList := by
        constructor
        · intro h
          rw [hsd, htd] at h
          have := of_byte _ _ _ _ h
          rw [htd, ← this]; exact hsd
        · intro h; rw [h]
      have hch : ∀ d, chain d s.data.toList = chain d t.data.toList ↔ s.data.toList = t.data.toList := by
        intro d
        constructor
        · intro h
          rw [hsd, htd] at h
          have := chain_byte d _ _ _ _ h
          rw [htd, ← this]; exact hsd
        · intro h; rw [h]
      have hl1 : ∀ z : ByteArray, links 0 (lb [⟨#[120]⟩, z, ⟨#[121]⟩]) = [chain 0 [120], chain (chain 0 [120]) z.data.toList, chain (chain (chain 0 [120]) z.data.toList) [121]] := fun z => rfl
      refine notices_core s at_ by_ i t w (by omega) (by omega) htab hat ?_ hil ht.symm (chain 0 [120]) (chain (chain 0 [120]) s.data.toList) (chain (chain (chain 0 [120]) s.data.toList) [121]) (chain (chain 0 [120]) t.data.toList) (chain (chain (chain 0 [120]) t.data.toList) [121]) (of_ s.data.toList) (of_ t.data.toList) (decide (s.data.toList = t.data.toList)) ?_ ?_ ?_ ?_ ?_ ?_ ?_ ?_
      · rw [← hi, Int.tmod_eq_emod_of_nonneg (by omega)]; omega
      · rw [Lib.toList_data, Lib.toList_data, Bool.eq_iff_iff, beq_iff_eq, decide_eq_true_iff]; exact eq_comm
      · exact beq_same (hofs.trans hsame)
      · exact beq_same ((hch _).trans hsame)
      · refine beq_same (Iff.trans ?_ ((hch (chain 0 [120])).trans hsame))
        exact ⟨fun h => chain_inj _ _ _ (chain_lt _ _) (chain_lt _ _) h, fun h => by rw [h]⟩
      · intro w' A c hA
        have h := links_any [⟨#[120]⟩, s, ⟨#[121]⟩] A c w' (by simp) (three_le (by decide) (by omega) (by decide)) hA
        rw [hl1] at h
        exact h
      · intro w' A c hA
        have h := links_any [⟨#[120]⟩, t, ⟨#[121]⟩] A c w' (by simp) (three_le (by decide) (by omega) (by decide)) hA
        rw [hl1] at h
        exact h
      · exact fun w' => of_any s (by omega) w'
      · exact fun w' => of_any t (by omega) w'
end Go.Proofs.YtdbijjiolknbfaaDoor
