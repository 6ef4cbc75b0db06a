/- The walk of JournalRoundTrip: it returns true. -/
import Derived.Test.YtdbijjiolknbfaaDoorJPrefix
import Derived.Test.YtdbijjiolknbfaaDoorRefMake
namespace Go.Proofs.YtdbijjiolknbfaaDoor
open Go.RowKit Pl

theorem later_hex (d : Nat) (hd : d < 18446744073709551616) {W : World} (ht : Tab W) {hb : ByteArray} (h : hb = ⟨(hex d).toArray⟩) : ∀ w', Below W.heap.size W w' → Calls Tryd.prog 24 #[.int .u64 (d : Int)] w' fun e w'' => e = .returned (.string hb) ∧ Below W.heap.size W w'' := by
  intro w' hbw
  subst h
  exact (hex_any d hd w' (ht.on hbw)).mono fun e w'' hd => ⟨hd.1, hbw.trans (hd.2.mono hbw.size)⟩

/-- The call returns this string and this number. -/
def Pair (s : ByteArray) (er : Nat) (w : World) (e : Ending) (w' : World) : Prop := e = .returned (.tuple #[.string s, .int .i64 (er : Int)]) ∧ Below w.heap.size w w'

set_option maxRecDepth 100000 in
set_option maxHeartbeats 8000000 in
theorem jround_core (l : List ByteArray) (A : Option Addr) (c : Nat) (t : ByteArray) (w : World) (S U : ByteArray) (htz : t.size ≤ 250) (hl : l.length ≤ 12) (h250 : ∀ x ∈ l, x.size ≤ 250) (ha : Strs w A l) (hnil : A = none → c = 0) (ht : Tab w)
    (hSd : S.data.toList = makeL 0 (lb l)) (hSz : S.size ≤ 4000) (d1 d2 : Nat)
    (cf : Calls Tryd.prog 21 #[.slice A l.length c, .int .i64 (12 : Int)] w fun e w' => e = .returned (.bool true) ∧ w = w')
    (cm : Calls Tryd.prog 22 #[.slice A l.length c] w (Pair S 0 w))
    (cr : ∀ w', Tab w' → Calls Tryd.prog 19 #[.string S] w' (RPost ⟨lb l, S.size, d1, 0⟩ w'))
    (hap : (∀ w', Tab w' → Calls Tryd.prog 25 #[.string S, .string t] w' (Pair ⟨#[]⟩ 2 w')) ∨
      (U.size = S.size + 18 + t.size ∧ (∀ w', Tab w' → Calls Tryd.prog 25 #[.string S, .string t] w' (Pair U 0 w')) ∧
        (∀ w' A' c', Tab w' → Strs w' A' (l ++ [t]) → Calls Tryd.prog 22 #[.slice A' (l.length + 1) c'] w' (Pair U 0 w')) ∧ (∀ w', Tab w' → Calls Tryd.prog 19 #[.string U] w' (RPost ⟨lb (l ++ [t]), U.size, d2, 0⟩ w')))) :
    Calls Tryd.prog 4 #[.slice A l.length c, .string t] w (Yes w) := by
  have HT := Lib.hid ht
  have HA := Lib.hid ha
  have HN := Lib.hid hnil
  have H250 := Lib.hid h250
  have HSD := Lib.hid hSd
  have CF := Lib.hid cf
  have CM := Lib.hid cm
  have CR := Lib.hid cr
  have HAP := Lib.hid hap
  have H9 : Hid (∀ x ∈ l, x.size ≤ 90000) := fun x hx => Nat.le_trans (h250 x hx) (by omega)
  obtain ⟨da, hda⟩ : ∃ da, da = links 0 (lb l) := ⟨_, rfl⟩
  have HDA := Lib.hid hda
  have HLA : Hid (da.length = l.length) := by show _ = _; rw [hda, links_length, lb_length]
  clear ht ha hnil h250 hSd cf cm cr hap hda
  go_enter Tryd.func4, Tryd.ntmps4
  go_wp2_with fail
  refine CF.out.mono ?_
  rintro e w1 ⟨rfl, rfl⟩
  go_wp2_with fail
  refine CM.out.mono ?_
  rintro e w1 ⟨rfl, hb1⟩
  have HB1 := Lib.hid hb1
  have HA1 := Lib.hid (HA.out.keep hb1)
  clear hb1 CM CF
  go_wp2_with fail
  refine (links_any l A c _ (by omega) H9.out HA1.out).mono ?_
  rw [← HDA.out]
  rintro e w2 ⟨A2, c2, rfl, hU2, hb2⟩
  rw [HLA.out]
  have HU2 := Lib.hid hU2
  have HA2 := Lib.hid (HA1.out.keep hb2)
  have HB2 := Lib.hid (HB1.out.trans (hb2.mono HB1.out.size))
  clear hU2 hb2
  go_wp2_with fail
  go_loopw [8, 9] (fun tv iv wr => ∃ (k : Nat) (wb : ByteArray), k ≤ l.length ∧ tv = .string wb ∧ iv = .int .i64 (k : Int) ∧ wb.data.toList = makeL 0 ((lb l).take k) ∧ wb.size ≤ 268 * k ∧ Below w2.heap.size w2 wr) (fun _ i _ => l.length - (intOf i).toNat)
  case atStart => exact ⟨0, ⟨#[]⟩, Nat.zero_le _, rfl, rfl, rfl, by decide, Below.refl _ _⟩
  case round =>
    obtain ⟨k, wb, hk, rfl, rfl, hwb, hwz, hbr⟩ := hrel
    have HWB := Lib.hid hwb
    have HBR := Lib.hid hbr
    clear hwb hbr
    by_cases hlt : k < l.length
    · obtain ⟨b0, o0, rfl, hb0, hc0⟩ := (HA2.out.keep HBR.out).2.2 k hlt
      have hkA : k < da.length := by rw [HLA.out]; exact hlt
      obtain ⟨b1, o1, rfl, hb1, hc1⟩ := (HU2.out.keep HBR.out) k hkA
      have hlt2 := last_take hlt
      have e1 : da[k] = last 0 ((lb l).take (k + 1)) := by
        have h := links_get (lb l) 0 k (by rw [lb_length]; exact hlt)
        rw [← HDA.out, List.getElem?_eq_getElem hkA] at h
        exact Option.some.inj h
      rw [e1] at hc1
      have hd := last_u64 ((lb l).take (k + 1))
      have hsz := H250.out l[k] (List.getElem_mem hlt)
      obtain ⟨hx, hhx⟩ : ∃ x : ByteArray, x = ⟨(hex (last 0 ((lb l).take (k + 1)))).toArray⟩ := ⟨_, rfl⟩
      have hhz : hx.size ≤ 16 := by rw [hhx, Lib.size_eq]; show (hex _).length ≤ 16; rw [hex_length]; omega
      have CX := Lib.hid (later_hex _ hd (W := wr) (HT.out.on (HB2.out.trans (HBR.out.mono HB2.out.size))) hhx)
      obtain ⟨res, hres⟩ : ∃ x : ByteArray, x = (((wb ++ hx) ++ ⟨#[32]⟩) ++ l[k]) ++ ⟨#[10]⟩ := ⟨_, rfl⟩
      have HRD : Hid (res.data.toList = makeL 0 ((lb l).take (k + 1))) := by
        show _ = _
        rw [hres, line_data wb hx l[k] (last 0 ((lb l).take k)) (by rw [hhx, hlt2]), makeL_take hlt, HWB.out]
      have HRZ : Hid (res.size ≤ 268 * (k + 1)) := by
        show _ ≤ _
        rw [hres]; simp only [ByteArray.size_append]; show wb.size + hx.size + 1 + l[k].size + 1 ≤ _; omega
      generalize last 0 ((lb l).take (k + 1)) = z at *
      generalize l[k] = sk at *
      have HSS : Hid (∀ w' : World, Below wr.heap.size wr w' → (Below wr.heap.size wr w' ∧ w'.cell? ⟨b1, o1 + k, none⟩ = some (.int .u64 (z : Int)) ∧ w'.cell? ⟨b0, o0 + k, none⟩ = some (.string sk))) := fun w' h => ⟨h, (h.cell hb1).trans hc1, (h.cell hb0).trans hc0⟩
      have hbW : Below wr.heap.size wr wr.drew := (Below.refl _ _).drew
      clear hhx hlt2 e1 hkA HA HA1 HN HAP CR HSD
      go_wp2_with fail
      have g1 : ¬ 9223372036854775807 < wb.size + hx.size := by omega
      have g2 : ¬ 9223372036854775807 < wb.size + hx.size + 1 := by omega
      have g3 : ¬ 9223372036854775807 < wb.size + hx.size + 1 + sk.size := by omega
      have g4 : ¬ 9223372036854775807 < wb.size + hx.size + 1 + sk.size + 1 := by omega
      go_region_held3 (fun w' => Below wr.heap.size wr w' ∧ w'.cell? ⟨b1, o1 + k, none⟩ = some (.int .u64 (z : Int)) ∧ w'.cell? ⟨b0, o0 + k, none⟩ = some (.string sk)) (first | exact HSS.out _ (by with_reducible assumption)) (first | (go_at_call 24; refine (CX.out _ ?_).mono ?_; (with_reducible assumption); rintro e w4 ⟨rfl, hb4⟩))
      all_goals
        have hbf : Below wr.heap.size wr w4 := by with_reducible assumption
        have HB4 := Lib.hid (HBR.out.trans (hbf.mono HBR.out.size))
        clear g1 g2 g3 g4 hbf
        rw [← hres]
        clear hres hc0 hc1 hb0 hb1 hbW
        go_wp2_with fail
        go_roundw
        case rel => exact ⟨k + 1, res, by omega, rfl, by go_num, HRD.out, HRZ.out, HB4.out⟩
        case measure => simp [intOf]; omega
    · obtain rfl : k = l.length := by omega
      have hwS : wb = S := bytes_eq (by rw [HWB.out, HSD.out, List.take_of_length_le (by rw [lb_length]; exact Nat.le_refl _)])
      subst hwS
      have HBr := Lib.hid (HB2.out.trans (HBR.out.mono HB2.out.size))
      have HTr := Lib.hid (HT.out.on HBr.out)
      have HAr := Lib.hid (HA2.out.keep HBR.out)
      clear HWB HSD
      have CR1 := Lib.hid (CR.out wr HTr.out)
      go_wp2_with fail
      refine CR1.out.mono ?_
      rintro e w5 ⟨A5, k5, es5, rfl, hS5, hl5, _, _, hk5, hb5⟩
      obtain rfl : es5 = l := lb_inj hl5
      have HB5 := Lib.hid (HBr.out.trans (hb5.mono HBr.out.size))
      have HA5 := Lib.hid (HAr.out.keep hb5)
      have CS5 := Lib.hid (same_any es5 es5 A5 A k5 c w5 hS5 HA5.out)
      rw [decide_eq_true (by rfl)] at CS5
      clear hS5 hl5 hk5 hb5 CR1 CR
      go_wp2_with fail
      refine CS5.out.mono ?_
      rintro e w6 ⟨rfl, m6, rfl⟩
      have HB6 := Lib.hid (HB5.out.trans ((below_drewN w5 m6).mono HB5.out.size))
      have HA6 := Lib.hid (HA5.out.keep (below_drewN w5 m6))
      have HT6 := Lib.hid (HT.out.on HB6.out)
      clear CS5 HA5
      generalize w5.drewN m6 = W6 at *
      rcases HAP.out with hap | ⟨hUz, hap, hmk, hrd⟩
      · have CA := Lib.hid (hap W6 HT6.out)
        clear hap HAP
        go_wp2_with fail
        refine CA.out.mono ?_
        rintro e w7 ⟨rfl, hb7⟩
        have HB7 := Lib.hid (HB6.out.trans (hb7.mono HB6.out.size))
        clear hb7
        go_wp2_with fail
        refine (awake_from HT.out HB7.out).mono ?_
        rintro e w8 ⟨rfl, hb8⟩
        go_wp2_with fail
        go_returns
        exact ⟨rfl, hb8⟩
      · have CA := Lib.hid (hap W6 HT6.out)
        have CMK := Lib.hid hmk
        have CRD := Lib.hid hrd
        clear hap hmk hrd HAP
        go_wp2_with fail
        refine CA.out.mono ?_
        rintro e w7 ⟨rfl, hb7⟩
        have HB7 := Lib.hid (HB6.out.trans (hb7.mono HB6.out.size))
        have HA7 := Lib.hid (HA6.out.keep hb7)
        clear hb7 CA HA6
        go_wp2_with (at_builtin; (refine append_strs rfl (.tmp 112) (.tmp 113) rfl w7.heap.size _ [] rfl (OwnS.start w7) (by simp) A c es5 rfl (HA7.out.keep ((Below.refl _ _).alloc (Nat.le_refl _) _)) HN.out (by simp; omega) ?_))
        intro v8 w8 hown8 hg8
        have HO8 := Lib.hid hown8
        have hBB8 : w7.heap.size ≤ w8.heap.size := by have := hg8.size; simp at this; omega
        have HK8 := Lib.hid (((Below.refl w7.heap.size w7).alloc (Nat.le_refl _) (.cells #[] 9)).grown hg8 (by simp) (fun g hg => by rw [own_at hg]; exact Nat.le_refl _))
        obtain ⟨A8, c8, rfl⟩ := hown8.form
        clear hown8 hg8
        go_wp2_with (at_builtin; (refine append_strs rfl (.tmp 114) (.tmp 116) rfl w7.heap.size _ es5 rfl (HO8.out.alloc _) (by simp; omega) (some ⟨w8.heap.size, 0, none⟩) 1 [t] rfl (strs_one w8 t (by unfold maxLen; omega)) (fun h => by cases h) (by simp; omega) ?_))
        intro v9 w9 hown9 hg9
        have HO9 := Lib.hid hown9
        obtain ⟨A9, c9, rfl⟩ := hown9.form
        have HK9 := Lib.hid ((HK8.out.alloc hBB8 (.cells #[.string t] 9)).grown hg9 (by simp; omega) (fun g hg => (HO8.out.lt g hg).1))
        have HB9 := Lib.hid (HB7.out.trans (HK9.out.mono HB7.out.size))
        clear hown9 hg9
        have H9b : Hid (∀ x ∈ (es5 ++ [t]), x.size ≤ maxLen) := by
          intro x hx
          unfold maxLen
          simp only [List.mem_append, List.mem_singleton] at hx
          rcases hx with hx | hx
          · exact Nat.le_trans (H250.out x hx) (by omega)
          · subst hx; omega
        have HST9 := Lib.hid (HO9.out.strs H9b.out)
        have CM9 := Lib.hid (CMK.out w9 A9 c9 (HT.out.on HB9.out) HST9.out)
        go_wp2_with fail
        refine CM9.out.mono ?_
        rintro e w10 ⟨rfl, hb10⟩
        have HB10 := Lib.hid (HB9.out.trans (hb10.mono HB9.out.size))
        have HST10 := Lib.hid (HST9.out.keep hb10)
        have CR10 := Lib.hid (CRD.out w10 (HT.out.on HB10.out))
        clear hb10 CM9 HST9 HO9 HO8 HK9 HK8
        go_wp2_with fail
        refine CR10.out.mono ?_
        rintro e w11 ⟨A11, k11, es11, rfl, hS11, hl11, _, _, hk11, hb11⟩
        obtain rfl : es11 = es5 ++ [t] := lb_inj hl11
        have HB11 := Lib.hid (HB10.out.trans (hb11.mono HB10.out.size))
        have CS11 : Hid (Calls Tryd.prog 20 #[.slice A11 (es5.length + 1) k11, .slice A9 (es5.length + 1) c9] w11 (Draw (.bool true) w11)) := by
          have h := same_any (es5 ++ [t]) (es5 ++ [t]) A11 A9 k11 c9 w11 hS11 (HST10.out.keep hb11)
          rw [decide_eq_true (by rfl), show (es5 ++ [t]).length = es5.length + 1 by simp] at h
          exact h
        rw [show (es5 ++ [t]).length = es5.length + 1 by simp]
        have hUi : ((U.size : Int) == (wb.size : Int) + 18 + (t.size : Int)) = true := by rw [beq_iff_eq]; omega
        clear hS11 hl11 hk11 hb11 HST10 CR10 CRD CMK
        have HUZ := Lib.hid hUz
        clear hUz
        go_wp2_with fail
        refine CS11.out.mono ?_
        rintro e w12 ⟨rfl, m12, rfl⟩
        have HB12 := Lib.hid (HB11.out.trans ((below_drewN w11 m12).mono HB11.out.size))
        generalize w11.drewN m12 = W12 at *
        go_wp2_with fail
        refine (awake_from HT.out HB12.out).mono ?_
        rintro e w13 ⟨rfl, hb13⟩
        go_wp2_with fail
        go_returns
        exact ⟨rfl, hb13⟩

theorem lb_snoc (l : List ByteArray) (t : ByteArray) : lb (l ++ [t]) = lb l ++ [t.data.toList] := by simp [lb]
/-- What Append and what follows it return. -/
theorem jround_rest {l : List ByteArray} {t S : ByteArray} (htz : t.size ≤ 250) (hl : l.length ≤ 12) (h250 : ∀ x ∈ l, x.size ≤ 250) (hall : ∀ e ∈ lb l, isEntry e = true) (hSd : S.data.toList = makeL 0 (lb l)) (hSz : S.size ≤ 4000) :
    (∀ w', Tab w' → Calls Tryd.prog 25 #[.string S, .string t] w' (Pair ⟨#[]⟩ 2 w')) ∨
      ((⟨(makeL 0 (lb (l ++ [t]))).toArray⟩ : ByteArray).size = S.size + 18 + t.size ∧ (∀ w', Tab w' → Calls Tryd.prog 25 #[.string S, .string t] w' (Pair ⟨(makeL 0 (lb (l ++ [t]))).toArray⟩ 0 w')) ∧
        (∀ w' A' c', Tab w' → Strs w' A' (l ++ [t]) → Calls Tryd.prog 22 #[.slice A' (l.length + 1) c'] w' (Pair ⟨(makeL 0 (lb (l ++ [t]))).toArray⟩ 0 w')) ∧
        (∀ w', Tab w' → Calls Tryd.prog 19 #[.string ⟨(makeL 0 (lb (l ++ [t]))).toArray⟩] w' (RPost ⟨lb (l ++ [t]), (⟨(makeL 0 (lb (l ++ [t]))).toArray⟩ : ByteArray).size, last 0 (lb (l ++ [t])), 0⟩ w'))) := by
  have e1 := Lib.size_eq t
  have e2 := Lib.size_eq S
  rw [hSd] at e2
  have haw := append_whole hall (by omega) (e := t.data.toList) (by omega)
  have hap : ∀ w', Tab w' → Calls Tryd.prog 25 #[.string S, .string t] w' (APost (if isEntry t.data.toList = true then (makeL 0 (lb l ++ [t.data.toList]), 0) else ([], 2)) w') := by
    intro w' h
    have := append_any S t (by unfold maxLen; omega) (by omega) w' h
    rw [hSd, haw] at this
    exact this
  cases hie : isEntry t.data.toList
  · left
    rw [hie, if_neg (by simp)] at hap
    exact hap
  · right
    rw [hie, if_pos rfl, ← lb_snoc] at hap
    have hall2 : ∀ e ∈ lb (l ++ [t]), isEntry e = true := by
      intro e he
      rw [lb_snoc] at he
      rcases List.mem_append.1 he with he | he
      · exact hall e he
      · rw [List.mem_singleton] at he; subst he; exact hie
    have hlen : (makeL 0 (lb (l ++ [t]))).length = S.size + 18 + t.size := by
      rw [lb_snoc, makeL_append, List.length_append, makeL, makeL, List.append_nil, lineOf_length]; omega
    have hU : (⟨(makeL 0 (lb (l ++ [t]))).toArray⟩ : ByteArray).data.toList = makeL 0 (lb (l ++ [t])) := rfl
    have hUz : (⟨(makeL 0 (lb (l ++ [t]))).toArray⟩ : ByteArray).size = (makeL 0 (lb (l ++ [t]))).length := by rw [Lib.size_eq]
    have h250b : ∀ x ∈ l ++ [t], x.size ≤ 250 := by
      intro x hx
      rcases List.mem_append.1 hx with hx | hx
      · exact h250 x hx
      · rw [List.mem_singleton] at hx; subst hx; exact htz
    refine ⟨by omega, hap, ?_, ?_⟩
    · intro w' A' c' h hs
      have h13 : (l ++ [t]).length = l.length + 1 := by simp
      rcases make_few (c := c') (by omega) h250b hs h with ⟨h1, _⟩ | ⟨_, _, hm⟩
      · exact absurd hall2 h1
      · rw [h13] at hm
        exact hm
    · refine readj_at hU ?_ (by unfold maxLen; omega)
      rw [hUz]
      exact read_whole hall2 (by omega)

set_option maxRecDepth 100000 in
set_option maxHeartbeats 4000000 in
theorem jround_any (l : List ByteArray) (A : Option Addr) (c : Nat) (t : ByteArray) (w : World) (ha : Strs w A l ∧ (A = none → c = 0) ∧ l.length ≤ c) (htm : t.size ≤ maxLen) (ht : Tab w) : Calls Tryd.prog 4 #[.slice A l.length c, .string t] w (Yes w) := by
  have CF := Lib.hid (few_any 12 (by omega) l A c w ha.1)
  have HT := Lib.hid ht
  cases hf : fewB 12 l
  · rw [hf] at CF
    unfold maxLen at htm
    clear ht ha hf
    go_enter Tryd.func4, Tryd.ntmps4
    go_wp2_with fail
    refine CF.out.mono ?_
    rintro e w1 ⟨rfl, rfl⟩
    go_wp2_with fail
    refine (awake_from HT.out (Below.refl _ _)).mono ?_
    rintro e w1 ⟨rfl, hb1⟩
    go_wp2_with fail
    go_returns
    exact ⟨rfl, hb1⟩
  · rw [hf] at CF
    obtain ⟨h12, h250⟩ := (fewB_iff 12 l).1 hf
    by_cases htz : t.size ≤ 250
    · rcases make_few (c := c) (by omega) h250 ha.1 ht with ⟨_, hm⟩ | ⟨h1, h2, hm⟩
      · have CM := Lib.hid hm
        unfold maxLen at htm
        clear ht ha hf hm h12 h250
        go_enter Tryd.func4, Tryd.ntmps4
        go_wp2_with fail
        refine CF.out.mono ?_
        rintro e w1 ⟨rfl, rfl⟩
        go_wp2_with fail
        refine CM.out.mono ?_
        rintro e w1 ⟨rfl, hb1⟩
        have HB1 := Lib.hid hb1
        clear hb1
        go_wp2_with fail
        refine (awake_from HT.out HB1.out).mono ?_
        rintro e w2 ⟨rfl, hb2⟩
        go_wp2_with fail
        go_returns
        exact ⟨rfl, hb2⟩
      · have hSd : (⟨(makeL 0 (lb l)).toArray⟩ : ByteArray).data.toList = makeL 0 (lb l) := rfl
        have hSz : (⟨(makeL 0 (lb l)).toArray⟩ : ByteArray).size = (makeL 0 (lb l)).length := by rw [Lib.size_eq]
        refine jround_core l A c t w ⟨(makeL 0 (lb l)).toArray⟩ ⟨(makeL 0 (lb (l ++ [t]))).toArray⟩ htz h12 h250 ha.1 ha.2.1 ht hSd (by omega) (last 0 (lb l)) (last 0 (lb (l ++ [t]))) CF.out hm ?_ (jround_rest htz h12 h250 h1 hSd (by omega))
        refine readj_at hSd ?_ (by unfold maxLen; omega)
        rw [hSz]
        exact read_whole h1 (by omega)
    · unfold maxLen at htm
      clear ht ha hf h12 h250
      go_enter Tryd.func4, Tryd.ntmps4
      go_wp2_with fail
      refine CF.out.mono ?_
      rintro e w1 ⟨rfl, rfl⟩
      go_wp2_with fail
      refine (awake_from HT.out (Below.refl _ _)).mono ?_
      rintro e w1 ⟨rfl, hb1⟩
      go_wp2_with fail
      go_returns
      exact ⟨rfl, hb1⟩
end Go.Proofs.YtdbijjiolknbfaaDoor
