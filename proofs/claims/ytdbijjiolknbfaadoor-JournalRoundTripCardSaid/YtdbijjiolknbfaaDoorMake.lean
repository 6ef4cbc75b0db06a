/- The walk of journal.Make. -/
import Derived.Test.YtdbijjiolknbfaaDoorRefRead
namespace Go.Proofs.YtdbijjiolknbfaaDoor
open Go.RowKit Pl

theorem lays166 : Lays.n166 Tryd.prog Tryd.lays105_ren := { Tryd.lays105 with }
theorem writeString_any (B b : Nat) (bs : List Value) (s : ByteArray) (w : World) (h : Lib.IsBuilder 61 5 B b bs w) (hlen : bs.length + s.size ≤ 140737488355328) (hBw : B ≤ w.heap.size) :
    Calls Tryd.prog 46 #[.pointer (some ⟨b, 0, none⟩), .string s] w fun e w' => e = .returned (.tuple #[.int .i64 s.size, .nilIface]) ∧ (Lib.BuilderAt 61 5 B b (.pointer (some ⟨b, 0, none⟩)) (bs ++ Lib.strCells s) w' ∧ Below B w w') :=
  Any.Builder_WriteString lays166 Tryd.Builder_Extra_105 B b bs s w h hlen hBw

theorem isB_keep {B b : Nat} {bs : List Value} {w w' : World} (h : Lib.IsBuilder 61 5 B b bs w) (hb : Below w.heap.size w w') : Lib.IsBuilder 61 5 B b bs w' := by
  have key : ∀ p, Lib.BuilderAt 61 5 B b p bs w → Lib.BuilderAt 61 5 B b p bs w' := by
    intro p h
    have hlt := h.lt
    obtain ⟨h1, v, h2, h3, h4⟩ := h
    refine ⟨h1, v, (hb.block b hlt).trans h2, ?_, h4⟩
    refine World.ownsRow.kept (row := none) h3 ⟨hb.os, hb.tape, hb.output, hb.size, fun i hi _ => hb.block i hi⟩ ?_
    cases hv : v.ownBlock <;> simp
  rcases h with h | h
  · exact .inl (key _ h)
  · exact .inr (key _ h)

def makeE : Nat → List UInt8 → List (List UInt8) → List UInt8 × Nat
  | _, acc, [] => (acc, 0)
  | d, acc, e :: l => if isEntry e = false then ([], 2) else if 20000 < acc.length + (lineOf d e).length then ([], 5) else makeE (chain d e) (acc ++ lineOf d e) l
theorem lb_drop {l : List ByteArray} {k : Nat} (h : k < l.length) : (lb l).drop k = l[k].data.toList :: (lb l).drop (k + 1) := by
  rw [List.drop_eq_getElem_cons (by rw [lb_length]; exact h), lb_get h]
theorem makeE_bad {d : Nat} {acc e : List UInt8} {l : List (List UInt8)} (h : isEntry e = false) : makeE d acc (e :: l) = ([], 2) := by rw [makeE, if_pos h]
theorem makeE_long {d : Nat} {acc e : List UInt8} {l : List (List UInt8)} (h : isEntry e = true) (h2 : 20000 < acc.length + (lineOf d e).length) : makeE d acc (e :: l) = ([], 5) := by rw [makeE, if_neg (by simp [h]), if_pos h2]
theorem makeE_go {d : Nat} {acc e : List UInt8} {l : List (List UInt8)} (h : isEntry e = true) (h2 : ¬ 20000 < acc.length + (lineOf d e).length) : makeE d acc (e :: l) = makeE (chain d e) (acc ++ lineOf d e) l := by rw [makeE, if_neg (by simp [h]), if_neg h2]

set_option maxRecDepth 100000 in
set_option maxHeartbeats 4000000 in
theorem make_any (l : List ByteArray) (A : Option Addr) (c : Nat) (w : World) (hs : ∀ s ∈ l, s.size ≤ 300) (ha : Strs w A l) (ht : Tab w) : Calls Tryd.prog 22 #[.slice A l.length c] w (APost (makeE 0 [] (lb l)) w) := by
  have hlm := ha.1
  unfold maxLen at hlm
  have HA := Lib.hid ha
  have HS := Lib.hid hs
  have HT := Lib.hid ht
  obtain ⟨R, hR⟩ : ∃ R, R = makeE 0 [] (lb l) := ⟨_, rfl⟩
  rw [← hR]
  have HRE := Lib.hid hR
  have HB0 := Lib.hid ((Below.refl w.heap.size w).alloc (Nat.le_refl _) (.cells #[.pointer none, .slice none 0 0] 61))
  have HF0 := Lib.hid (Lib.fresh_isBuilder 61 5 w)
  clear ha hs ht hR
  go_enter Tryd.func22, Tryd.ntmps22
  go_wp2_with fail
  go_loopw [5, 12] (fun dv iv wr => ∃ (k d : Nat) (acc : List UInt8), k ≤ l.length ∧ dv = .int .u64 (d : Int) ∧ iv = .int .i64 (k : Int) ∧ d < 18446744073709551616 ∧ acc.length ≤ 20000 ∧ Lib.IsBuilder 61 5 w.heap.size w.heap.size (Lib.byteCells acc) wr ∧ Below w.heap.size w wr ∧ makeE d acc ((lb l).drop k) = R) (fun _ i _ => l.length - (intOf i).toNat)
  case atStart => exact ⟨0, 0, [], Nat.zero_le _, rfl, rfl, by decide, by decide, HF0.out, HB0.out, HRE.out.symm⟩
  case round =>
    obtain ⟨k, d, acc, hk, rfl, rfl, hd, hac, hB, hbw, hX⟩ := hrel
    have HB := Lib.hid hB
    have HBW := Lib.hid hbw
    have HX := Lib.hid hX
    clear hB hbw hX HF0 HB0 HRE
    by_cases hlt : k < l.length
    · obtain ⟨b, o, rfl, hb, hc⟩ := (HA.out.keep HBW.out).2.2 k hlt
      have hsz := HS.out l[k] (List.getElem_mem hlt)
      have HD := Lib.hid (lb_drop hlt)
      generalize l[k] = t at *
      have CE := Lib.hid (fun w' => isEntry_any t (by omega) w')
      have CA := Lib.hid (add_any d t hd (by omega) wr (HT.out.on HBW.out))
      obtain ⟨ln, hln⟩ : ∃ ln : ByteArray, ln = ⟨(lineOf d t.data.toList).toArray⟩ := ⟨_, rfl⟩
      rw [← hln] at CA
      have hld : ln.data.toList = lineOf d t.data.toList := by rw [hln]
      have hlz : ln.size ≤ 400 := by rw [Lib.size_eq, hld, lineOf_length, ← Lib.size_eq]; omega
      obtain ⟨ch, hch⟩ : ∃ x, x = chain d t.data.toList := ⟨_, rfl⟩
      rw [← hch] at CA
      have hch64 : ch < 18446744073709551616 := by rw [hch]; exact Nat.lt_trans (chain_lt _ _) P_lt
      have HLD := Lib.hid hld
      have HCH := Lib.hid hch
      clear hln hld hch
      cases hie : isEntry t.data.toList
      · rw [hie] at CE
        have HE : Hid (R = ([], 2)) := by show R = _; rw [← HX.out, HD.out, makeE_bad hie]
        go_wp2_with fail
        refine (CE.out _).mono ?_
        rintro e w1 ⟨rfl, rfl⟩
        go_wp2_with fail
        refine bodyPost_ret (v := .tuple #[.string ⟨#[]⟩, .int .i64 2]) (by simp [results, Tryd.results22, go_sem]) rfl ?_
        rw [HE.out]
        exact ⟨rfl, HBW.out⟩
      · rw [hie] at CE
        have HIE := Lib.hid hie
        clear hie
        go_wp2_with fail
        refine (CE.out _).mono ?_
        rintro e w1 ⟨rfl, rfl⟩
        go_wp2_with fail
        refine CA.out.mono ?_
        rintro e w2 ⟨rfl, hb2⟩
        have HB2 := Lib.hid (HBW.out.trans (hb2.mono HBW.out.size))
        have HI2 := Lib.hid (isB_keep HB.out hb2)
        have CL := Lib.hid (Tryd.Builder_Len w.heap.size w.heap.size _ w2 HI2.out)
        rw [Lib.byteCells_length] at CL
        clear hb2 CA CE
        go_wp2_with fail
        refine CL.out.mono ?_
        rintro e w3 ⟨rfl, rfl⟩
        by_cases hbig : 20000 < acc.length + ln.size
        · have hbi : (20000 : Int) < (acc.length : Int) + (ln.size : Int) := by omega
          have HE : Hid (R = ([], 5)) := by show R = _; rw [← HX.out, HD.out, makeE_long HIE.out (by rw [← HLD.out, ← Lib.size_eq]; exact hbig)]
          go_wp2_with fail
          refine bodyPost_ret (v := .tuple #[.string ⟨#[]⟩, .int .i64 5]) (by simp [results, Tryd.results22, go_sem]) rfl ?_
          rw [HE.out]
          exact ⟨rfl, HB2.out⟩
        · have hbi : ¬ (20000 : Int) < (acc.length : Int) + (ln.size : Int) := by omega
          have HE : Hid (R = makeE ch (acc ++ ln.data.toList) ((lb l).drop (k + 1))) := by show R = _; rw [← HX.out, HD.out, makeE_go HIE.out (by rw [← HLD.out, ← Lib.size_eq]; exact hbig), HCH.out, HLD.out]
          have CW := Lib.hid (writeString_any w.heap.size w.heap.size _ ln w3 HI2.out (by rw [Lib.byteCells_length]; omega) HB2.out.size)
          go_wp2_with fail
          refine CW.out.mono ?_
          rintro e w4 ⟨rfl, hB4, hb4⟩
          have HB4 := Lib.hid (HB2.out.trans hb4)
          have HI4 : Hid (Lib.IsBuilder 61 5 w.heap.size w.heap.size (Lib.byteCells (acc ++ ln.data.toList)) w4) := by
            refine .inr ?_
            have h := hB4
            rw [show Lib.byteCells acc ++ Lib.strCells ln = Lib.byteCells (acc ++ ln.data.toList) by simp [Lib.byteCells, Lib.strCells]] at h
            exact h
          clear hB4 hb4 CW
          go_wp2_with fail
          go_roundw
          case rel => exact ⟨k + 1, ch, acc ++ ln.data.toList, by omega, rfl, by go_num, hch64, by rw [List.length_append, ← Lib.size_eq]; omega, HI4.out, HB4.out, HE.out.symm⟩
          case measure => simp [intOf]; omega
    · obtain rfl : k = l.length := by omega
      have HE : Hid (R = (acc, 0)) := by show R = _; rw [← HX.out, List.drop_of_length_le (by rw [lb_length]; exact Nat.le_refl _), makeE]
      have CS := Lib.hid (Tryd.Builder_String_any w.heap.size w.heap.size acc wr HB.out HBW.out.size)
      go_wp2_with fail
      refine CS.out.mono ?_
      rintro e w1 ⟨rfl, hb1⟩
      have HB1 := Lib.hid (HBW.out.trans hb1)
      clear hb1 CS
      go_wp2_with fail
      refine bodyPost_ret (v := .tuple #[.string ⟨acc.toArray⟩, .int .i64 0]) (by simp [results, Tryd.results22, go_sem]) rfl ?_
      rw [HE.out]
      exact ⟨rfl, HB1.out⟩
end Go.Proofs.YtdbijjiolknbfaaDoor
