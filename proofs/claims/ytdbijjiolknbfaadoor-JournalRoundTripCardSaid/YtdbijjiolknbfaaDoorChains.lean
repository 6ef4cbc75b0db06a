/- The walk of DigestChains: it returns true. -/
import Derived.Test.YtdbijjiolknbfaaDoorDefines
import Derived.Test.YtdbijjiolknbfaaDoorSpread
namespace Go.Proofs.YtdbijjiolknbfaaDoor
open Go.RowKit Pl

theorem str_info : (Tryd.prog.info? 9).map (fun i => (i.zero, i.size, i.bytes)) = some (some (.string ⟨#[]⟩), 1, 16) := by kernel_rfl
def SV (l : List ByteArray) : List Value := l.map Value.string
theorem SV_length (l : List ByteArray) : (SV l).length = l.length := by simp [SV]
/-- A slice of strings of the call's own. -/
def OwnS (B : Nat) (w : World) (v : Value) (l : List ByteArray) : Prop := w.ownsRow B 9 1 v l.length (SV l)
theorem OwnS.form {B : Nat} {w : World} {v : Value} {l : List ByteArray} (h : OwnS B w v l) : ∃ A c, v = .slice A l.length c := by
  rcases h.2 with ⟨h1, h2⟩ | ⟨g, cap, cur, h1, _⟩
  · exact ⟨none, 0, by rw [h1, h2]⟩
  · exact ⟨_, _, h1⟩
theorem OwnS.strs {B : Nat} {w : World} {A : Option Addr} {c : Nat} {l : List ByteArray} (h : OwnS B w (.slice A l.length c) l) (hs : ∀ s ∈ l, s.size ≤ maxLen) : Strs w A l := by
  rcases h.2 with ⟨_, h2⟩ | ⟨g, cap, cur, h1, _, h3, h4, h5, _⟩
  · have : l = [] := List.length_eq_zero_iff.1 h2
    subst this
    exact ⟨by simp, hs, fun i hi => by simp at hi⟩
  · have hA : A = some ⟨g, 0, none⟩ := by injection h1
    have hc : c = cap := by injection h1
    subst hA
    refine ⟨Nat.le_trans h4 h5, hs, fun i hi => ⟨g, 0, rfl, (Array.getElem?_eq_some_iff.1 h3).1, ?_⟩⟩
    have := World.ownsRow.cells h (g := g) rfl i (.string l[i]) (by simp [SV, hi])
    rw [← this, Nat.zero_add]
    congr 1
    unfold Addr.add
    split <;> simp_all
theorem OwnS.start (w : World) : OwnS w.heap.size (w.alloc (.cells #[] 9)) (.slice (some ⟨w.heap.size, 0, none⟩) 0 0) [] :=
  World.ownsRow_made w #[] 0 (Nat.le_refl _) (by simp) (by simp)

theorem own_at {g0 g c : Nat} (h : (Value.slice (some ⟨g0, 0, none⟩) 0 c).ownBlock = some g) : g = g0 := by simpa [Value.ownBlock] using h.symm
set_option maxRecDepth 100000 in
/-- append(own, l...): for the walk. -/
theorem append_strs {w : World} {ops : Array Oper} {rest : List Oper} {o : Oper} {a : Act} {Q : Exit → Act → World → Prop} (hgd : o.guard = none) (s x : Operand)
    (ho : o.op = .call { callee := .builtin .append, args := #[s, x], argTypes := #[23, 23] })
    (B : Nat) (v : Value) (zs : List ByteArray) (hs : a.eval s = v) (hown : OwnS B w v zs) (hB : B ≤ w.heap.size) (A : Option Addr) (c : Nat) (ys : List ByteArray) (hx : a.eval x = .slice A ys.length c) (hI : Strs w A ys) (hA : A = none → c = 0) (hlen : zs.length + ys.length ≤ 100000)
    (h : ∀ v' w', OwnS B w' v' (zs ++ ys) → w.grownBy w' v.ownBlock → wpList Tryd.prog ops Q rest (a.put o.dst v') w') : wpList Tryd.prog ops Q (o :: rest) a w := by
  obtain ⟨i0, hi0, hz0, hz1, hz2⟩ := info_parts str_info
  refine wpList_append_src w hgd s x 23 ho B 9 i0 _ 1 16 Tryd.underlying23 hi0 hz0 hz1 hz2 rfl (by decide) v zs.length _ hs hown A ys.length c (SV ys) hx (fun hn => ⟨?_, hA hn⟩) (by simp [SV]) ?_ ?_ (by unfold maxLen; omega) (by omega) hB ?_
  · cases ys with
    | nil => rfl
    | cons y ys => obtain ⟨b, o, h1, _⟩ := hI.2.2 0 (by simp); rw [hn] at h1; cases h1
  · intro ad had j u hj
    have hjl : j < ys.length := by
      have := (List.getElem?_eq_some_iff.1 hj).1; simpa [SV] using this
    obtain ⟨b, o, h1, h2, h3⟩ := hI.2.2 j hjl
    rw [had] at h1; injection h1 with h1; subst h1
    have hadd : (⟨b, o, none⟩ : Addr).add j = ⟨b, o + j, none⟩ := by unfold Addr.add; split <;> simp_all
    rw [hadd, h3]
    simp [SV, hjl] at hj
    rw [← hj]
  · intro u hu
    obtain ⟨z, _, rfl⟩ := List.mem_map.1 hu
    rfl
  · intro v' w' h1 h2 h3
    refine h v' w' ?_ h2
    show w'.ownsRow B 9 1 v' (zs ++ ys).length (SV (zs ++ ys))
    rw [List.length_append]
    simpa [SV] using h1
theorem strs_one (w : World) (x : ByteArray) (hx : x.size ≤ maxLen) : Strs (w.alloc (.cells #[.string x] 9)) (some ⟨w.heap.size, 0, none⟩) [x] := by
  refine ⟨by simp [maxLen], ?_, ?_⟩
  · intro s hs; simp at hs; rw [hs]; exact hx
  · intro i hi
    refine ⟨_, _, rfl, by simp, ?_⟩
    have : i = 0 := by simpa using hi
    subst this
    simp

theorem links_pre {l : List (List UInt8)} {s : List UInt8} {k : Nat} (hk : k < l.length) : (links 0 (l ++ [s]))[k]? = some (last 0 (l.take (k + 1))) := by
  rw [links_get _ _ _ (by simp; omega), List.take_append_of_le_length (by omega)]
theorem links_end (l : List (List UInt8)) (s : List UInt8) : (links 0 (l ++ [s]))[l.length]? = some (chain (last 0 l) s) := by
  rw [links_get _ _ _ (by simp), List.take_of_length_le (by simp), last_snoc]
theorem whole_take {l : List ByteArray} {k : Nat} (h : k < l.length) : whole ((lb l).take (k + 1)) = whole ((lb l).take k) ++ 10 :: l[k].data.toList := by
  rw [List.take_succ_eq_append_getElem (by rw [lb_length]; exact h), lb_get h, whole_snoc]

set_option maxRecDepth 100000 in
set_option maxHeartbeats 4000000 in
theorem chains_any (l : List ByteArray) (A : Option Addr) (c : Nat) (s : ByteArray) (w : World) (ha : Strs w A l ∧ (A = none → c = 0)) (hs : s.size ≤ maxLen) (ht : Tab w) : Calls Tryd.prog 10 #[.slice A l.length c, .string s] w (Yes w) := by
  have HT := Lib.hid ht
  have HA := Lib.hid ha
  have hsm := hs
  unfold maxLen at hsm
  clear ht ha
  cases hli : lightB l
  · have HLI := Lib.hid hli
    clear hli
    go_enter Tryd.func10, Tryd.ntmps10
    go_wp2_with fail
    refine (light_any l A c w HA.out.1).mono ?_
    rw [HLI.out]
    rintro e w1 ⟨rfl, rfl⟩
    go_wp2_with fail
    refine (alive_from HT.out (Below.refl _ _)).mono ?_
    rintro e w1 ⟨rfl, hb1⟩
    go_wp2_with fail
    go_returns
    exact ⟨rfl, hb1⟩
  · obtain ⟨h30, h200⟩ := (lightB_iff l).1 hli
    have HLI := Lib.hid hli
    clear hli
    by_cases hbig : 200 < s.size
    · clear h200
      go_enter Tryd.func10, Tryd.ntmps10
      go_wp2_with fail
      refine (light_any l A c w HA.out.1).mono ?_
      rw [HLI.out]
      rintro e w1 ⟨rfl, rfl⟩
      go_wp2_with fail
      refine (alive_from HT.out (Below.refl _ _)).mono ?_
      rintro e w1 ⟨rfl, hb1⟩
      go_wp2_with fail
      go_returns
      exact ⟨rfl, hb1⟩
    · have H200 := Lib.hid h200
      have H9 : Hid (∀ x ∈ l, x.size ≤ 90000) := fun x hx => Nat.le_trans (h200 x hx) (by omega)
      have H9b : Hid (∀ x ∈ (l ++ [s]), x.size ≤ 90000) := by
        intro x hx
        simp only [List.mem_append, List.mem_singleton] at hx
        rcases hx with hx | hx
        · exact Nat.le_trans (h200 x hx) (by omega)
        · subst hx; omega
      have hla : (links 0 (lb l)).length = l.length := by rw [links_length, lb_length]
      have hlbb : (links 0 (lb l ++ [s.data.toList])).length = l.length + 1 := by rw [links_length]; simp [lb_length]
      obtain ⟨da, hda⟩ : ∃ da, da = links 0 (lb l) := ⟨_, rfl⟩
      obtain ⟨db, hdb⟩ : ∃ db, db = links 0 (lb l ++ [s.data.toList]) := ⟨_, rfl⟩
      have HDA := Lib.hid hda
      have HDB := Lib.hid hdb
      rw [← hda] at hla
      rw [← hdb] at hlbb
      have HLA := Lib.hid hla
      have HLB := Lib.hid hlbb
      clear h200 hda hdb hla hlbb
      go_enter Tryd.func10, Tryd.ntmps10
      go_wp2_with fail
      refine (light_any l A c w HA.out.1).mono ?_
      rw [HLI.out]
      rintro e w1 ⟨rfl, rfl⟩
      go_wp2_with fail
      refine (links_any l A c _ (by omega) H9.out HA.out.1).mono ?_
      rw [← HDA.out]
      rintro e w1 ⟨A1, c1, rfl, hU1, hb1⟩
      rw [HLA.out]
      have HB1 := Lib.hid hb1
      have HU1 := Lib.hid hU1
      clear hb1 hU1
      go_wp2_with (at_builtin; (refine append_strs rfl (.tmp 21) (.tmp 22) rfl w1.heap.size _ [] rfl (OwnS.start w1) (by simp) A c l rfl ((HA.out.1.keep HB1.out).keep ((Below.refl _ _).alloc (Nat.le_refl _) _)) HA.out.2 (by simp; omega) ?_))
      intro v2 w2 hown2 hg2
      have HO2 := Lib.hid hown2
      have HB2 := Lib.hid ((HB1.out.alloc HB1.out.size (.cells #[] 9)).grown hg2 (by have := HB1.out.size; simp; omega) (fun g hg => by rw [own_at hg]; exact HB1.out.size))
      have hBB2 : w1.heap.size ≤ w2.heap.size := by have := hg2.size; simp at this; omega
      have HK2 := Lib.hid (((Below.refl w1.heap.size w1).alloc (Nat.le_refl _) (.cells #[] 9)).grown hg2 (by simp) (fun g hg => by rw [own_at hg]; exact Nat.le_refl _))
      obtain ⟨A2, c2, rfl⟩ := hown2.form
      clear hown2 hg2
      go_wp2_with (at_builtin; (refine append_strs rfl (.tmp 23) (.tmp 25) rfl w1.heap.size _ l rfl (HO2.out.alloc _) (by simp; omega) (some ⟨w2.heap.size, 0, none⟩) 1 [s] rfl (strs_one w2 s hs) (fun h => by cases h) (by simp; omega) ?_))
      intro v3 w3 hown3 hg3
      have HO3 := Lib.hid hown3
      obtain ⟨A3, c3, rfl⟩ := hown3.form
      have HK3 := Lib.hid ((HK2.out.alloc hBB2 (.cells #[.string s] 9)).grown hg3 (by simp; omega) (fun g hg => (HO2.out.lt g hg).1))
      have HB3 := Lib.hid (HB1.out.trans (HK3.out.mono HB1.out.size))
      clear hown3 hg3
      have HST3 := Lib.hid (HO3.out.strs (fun x hx => Nat.le_trans (H9b.out x hx) (by unfold maxLen; omega)))
      have CL : Hid (Calls Tryd.prog 23 #[.slice A3 (l.length + 1) c3] w3 (GivesL db w3)) := by
        have h := links_any (l ++ [s]) A3 c3 w3 (by simp; omega) H9b.out HST3.out
        rw [show lb (l ++ [s]) = lb l ++ [s.data.toList] by simp [lb], ← HDB.out, show (l ++ [s]).length = l.length + 1 by simp] at h
        exact h
      go_wp2_with fail
      refine CL.out.mono ?_
      rintro e w4 ⟨A4, c4, rfl, hU4, hb4⟩
      rw [HLB.out]
      have HB4 := Lib.hid (HB3.out.trans (hb4.mono HB3.out.size))
      have HU4 := Lib.hid hU4
      have HU14 := Lib.hid ((HU1.out.keep HK3.out).keep hb4)
      clear hb4 hU4
      go_wp2_with fail
      go_loopw [7, 8, 9] (fun lv wv iv wr => ∃ (k : Nat) (wb : ByteArray), k ≤ l.length ∧ lv = .int .u64 ((last 0 ((lb l).take k) : Nat) : Int) ∧ wv = .string wb ∧ wb.data.toList = whole ((lb l).take k) ∧ wb.size ≤ 201 * k ∧ iv = .int .i64 (k : Int) ∧ Drawn w4 wr) (fun _ _ i _ => l.length - (intOf i).toNat)
      case atStart => exact ⟨0, ⟨#[]⟩, Nat.zero_le _, rfl, rfl, rfl, by decide, rfl, 0, rfl⟩
      case round =>
        obtain ⟨k, wb, hk, rfl, rfl, hwb, hwz, rfl, hdr⟩ := hrel
        have HD := Lib.hid hdr
        have HWB := Lib.hid hwb
        clear hdr hwb
        have HBr := Lib.hid (HB4.out.trans (HD.out.below.mono HB4.out.size))
        by_cases hlt : k < l.length
        · obtain ⟨b0, o0, rfl, hb0, hc0⟩ := (HA.out.1.keep HBr.out).2.2 k hlt
          have hkA : k < da.length := by rw [HLA.out]; exact hlt
          have hkB : k < db.length := by rw [HLB.out]; omega
          obtain ⟨b1, o1, rfl, hb1, hc1⟩ := (HU14.out.keep HD.out.below) k hkA
          obtain ⟨b2, o2, rfl, hb2, hc2⟩ := (HU4.out.keep HD.out.below) k hkB
          have hlt2 := last_take hlt
          have e1 : da[k] = last 0 ((lb l).take (k + 1)) := by
            have h := links_get (lb l) 0 k (by rw [lb_length]; exact hlt)
            rw [← HDA.out, List.getElem?_eq_getElem hkA] at h
            exact Option.some.inj h
          have e2 : db[k] = last 0 ((lb l).take (k + 1)) := by
            have h := links_pre (l := lb l) (s := s.data.toList) (k := k) (by rw [lb_length]; exact hlt)
            rw [← HDB.out, List.getElem?_eq_getElem hkB] at h
            exact Option.some.inj h
          rw [e1] at hc1
          rw [e2] at hc2
          have hd := last_u64 ((lb l).take k)
          have hsz := H9.out l[k] (List.getElem_mem hlt)
          have hsz2 := H200.out l[k] (List.getElem_mem hlt)
          have CH := Lib.hid (fun w' => chain_any (last 0 ((lb l).take k)) l[k] hd hsz w')
          rw [← hlt2] at CH
          have hwz2 : ((wb ++ ⟨#[10]⟩) ++ l[k]).size ≤ 201 * (k + 1) := by
            rw [ByteArray.size_append, ByteArray.size_append]; show wb.size + 1 + l[k].size ≤ _; omega
          have HWD : Hid (((wb ++ ⟨#[10]⟩) ++ l[k]).data.toList = whole ((lb l).take (k + 1))) := by
            show _ = _
            rw [whole_take hlt, ← HWB.out]; simp [ByteArray.data_append]
          have CO : Hid (∀ w', Calls Tryd.prog 27 #[.string ((wb ++ ⟨#[10]⟩) ++ l[k])] w' (Draw (.int .u64 ((last 0 ((lb l).take (k + 1)) : Nat) : Int)) w')) := by
            intro w'
            have h := of_any ((wb ++ ⟨#[10]⟩) ++ l[k]) (by omega) w'
            rw [HWD.out, of_whole] at h
            exact h
          have HWZ := Lib.hid hwz2
          clear hlt2 e1 e2 hwz2 hkA hkB
          have hl200 : l[k].size ≤ 200 := hsz2
          generalize hz0 : last 0 ((lb l).take (k + 1)) = z at *
          have HZ := Lib.hid hz0
          clear hz0
          generalize last 0 ((lb l).take k) = y at *
          generalize l[k] = sk at *
          have hzz : ((z : Int) != (z : Int)) = false := by simp
          go_wp2_with fail
          refine (CH.out _).mono ?_
          rintro e w5 ⟨rfl, m5, rfl⟩
          go_wp2_with fail
          refine (CO.out _).mono ?_
          rintro e w6 ⟨rfl, m6, rfl⟩
          go_wp2_with fail
          go_roundw
          case rel => exact ⟨k + 1, (wb ++ ⟨#[10]⟩) ++ sk, by omega, by rw [HZ.out], rfl, HWD.out, HWZ.out, by go_num, HD.out.more _⟩
          case measure => simp [intOf]; omega
        · obtain rfl : k = l.length := by omega
          have hkB : l.length < db.length := by rw [HLB.out]; omega
          obtain ⟨b2, o2, rfl, hb2, hc2⟩ := (HU4.out.keep HD.out.below) l.length hkB
          have htk : (lb l).take l.length = lb l := List.take_of_length_le (by rw [lb_length]; exact Nat.le_refl _)
          rw [htk]
          have e2 : db[l.length] = chain (last 0 (lb l)) s.data.toList := by
            have h := links_end (lb l) s.data.toList
            rw [lb_length, ← HDB.out, List.getElem?_eq_getElem hkB] at h
            exact Option.some.inj h
          rw [e2] at hc2
          have hd := last_u64 (lb l)
          have CH := Lib.hid (later (W := wr) (fun w' => chain_any (last 0 (lb l)) s hd (by omega) w'))
          have CA := Lib.hid (later_alive (HT.out.on HBr.out))
          have HC2 : Hid (∀ w', Below wr.heap.size wr w' → (Below wr.heap.size wr w' ∧ w'.cell? ⟨b2, o2 + l.length, none⟩ = some (.int .u64 ((chain (last 0 (lb l)) s.data.toList : Nat) : Int)))) := fun w' hb => ⟨hb, (hb.cell hb2).trans hc2⟩
          generalize chain (last 0 (lb l)) s.data.toList = z at *
          generalize last 0 (lb l) = y at *
          have hli1 : (l.length : Int) < (l.length : Int) + 1 := by omega
          have hb0 : Below wr.heap.size wr wr.drew := (Below.refl _ _).drew
          clear hc2 e2 HU4 HU14 HU1 HA HWB
          go_wp2_with fail
          go_region_held3 (fun w' => Below wr.heap.size wr w' ∧ w'.cell? ⟨b2, o2 + l.length, none⟩ = some (.int .u64 (z : Int))) (first | exact HC2.out _ (by with_reducible assumption)) (first | (go_at_call 31; refine (CH.out _ ?_).mono ?_; (with_reducible assumption); rintro e wx ⟨rfl, hbx⟩) | (go_at_call 26; refine (CA.out _ ?_).mono ?_; (with_reducible assumption); rintro e wx ⟨rfl, hbx⟩))
          all_goals
            have hbf : Below wr.heap.size wr wx := by with_reducible assumption
            have HF := Lib.hid (HBr.out.trans (hbf.mono HBr.out.size))
            go_wp2_with fail
            go_returns
            exact ⟨rfl, HF.out⟩
end Go.Proofs.YtdbijjiolknbfaaDoor
