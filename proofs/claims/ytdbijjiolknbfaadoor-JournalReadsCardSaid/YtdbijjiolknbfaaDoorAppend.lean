/- The walks of journal.Read and journal.Append. -/
import Derived.Test.YtdbijjiolknbfaaDoorRead
namespace Go.Proofs.YtdbijjiolknbfaaDoor
open Go.RowKit Pl

theorem read_last_lt (s : List UInt8) : (read s).last < 18446744073709551616 := by
  unfold Pl.read
  split
  · exact (by decide : (0 : Nat) < 18446744073709551616)
  · obtain ⟨_, _, _, _, h, _⟩ := readL_inv s.length 0 s (Nat.le_refl _)
    rw [h]; exact last_u64 _

def RPost (r : Res) (w : World) (e : Ending) (w' : World) : Prop :=
  ∃ A c es, e = .returned (.tuple #[.slice A (List.length es) c, .int .i64 ((r.n : Nat) : Int), .int .i64 ((r.err : Nat) : Int)]) ∧ Strs w' A es ∧ lb es = r.entries ∧ (∀ x ∈ es, x.size ≤ 200) ∧ es.length ≤ 20000 ∧ ((A = none → c = 0) ∧ es.length ≤ c) ∧ Below w.heap.size w w'

set_option maxRecDepth 100000 in
theorem readj_any (s : ByteArray) (hs : s.size ≤ maxLen) (w : World) (ht : Tab w) : Calls Tryd.prog 19 #[.string s] w (RPost (read s.data.toList) w) := by
  have CR := Lib.hid (read_any s hs w ht)
  generalize read s.data.toList = r at *
  clear ht hs
  go_enter Tryd.func19, Tryd.ntmps19
  go_wp2_with fail
  refine CR.out.mono ?_
  rintro e w1 ⟨A, c, es, rfl, hp⟩
  have HP := Lib.hid hp
  clear hp
  go_wp2_with fail
  refine bodyPost_ret (v := .tuple #[.slice A es.length c, .int .i64 ((r.n : Nat) : Int), .int .i64 ((r.err : Nat) : Int)]) (by simp [results, Tryd.results19, go_sem]) rfl ?_
  exact ⟨A, c, es, rfl, HP.out⟩

def appendL (s e : List UInt8) : List UInt8 × Nat :=
  if (read s).err ≠ 0 then ([], (read s).err) else if isEntry e = false then ([], 2) else if 20000 < s.length + (lineOf (read s).last e).length then ([], 5) else (s ++ lineOf (read s).last e, 0)
def APost (r : List UInt8 × Nat) (w : World) (e : Ending) (w' : World) : Prop := e = .returned (.tuple #[.string ⟨r.1.toArray⟩, .int .i64 ((r.2 : Nat) : Int)]) ∧ Below w.heap.size w w'

set_option maxRecDepth 100000 in
set_option maxHeartbeats 1000000 in
theorem append_core (s t : ByteArray) (hs : s.size ≤ maxLen) (htz : t.size ≤ 300) (w : World) (ht : Tab w) (n er d : Nat) (r : Res) (hr : r.err = er) (hn : r.n = n) (hrd : r.last = d) (hd : d < 18446744073709551616) (ln : ByteArray)
    (hln : ln = ⟨(lineOf d t.data.toList).toArray⟩) (hsl : er = 0 → s.size ≤ 20000)
    (cr : Calls Tryd.prog 42 #[.string s] w (ReadPost r w)) :
    Calls Tryd.prog 25 #[.string s, .string t] w (APost (if er ≠ 0 then ([], er) else if isEntry t.data.toList = false then ([], 2) else if 20000 < s.size + ln.size then ([], 5) else (s.data.toList ++ lineOf d t.data.toList, 0)) w) := by
  have CR := Lib.hid cr
  have HT := Lib.hid ht
  have CE := Lib.hid (fun w' => isEntry_any t (by omega) w')
  have CA := Lib.hid (fun w' (h : Tab w') => add_any d t hd (by omega) w' h)
  rw [← hln] at CA
  have HLN := Lib.hid hln
  have hlz : ln.size ≤ 400 := by rw [hln, Lib.size_eq]; show (lineOf d t.data.toList).length ≤ 400; rw [lineOf_length, ← Lib.size_eq]; omega
  unfold maxLen at hs
  generalize isEntry t.data.toList = ie at *
  have HRE := Lib.hid hr
  have HRN := Lib.hid hn
  have HRL := Lib.hid hrd
  clear cr ht hln hr hn hrd
  obtain ⟨res, hres⟩ : ∃ res : List UInt8 × Nat, res = (if er ≠ 0 then ([], er) else if ie = false then ([], 2) else if 20000 < s.size + ln.size then ([], 5) else (s.data.toList ++ lineOf d t.data.toList, 0)) := ⟨_, rfl⟩
  rw [← hres]
  have HRES := Lib.hid hres
  clear hres
  by_cases h0 : er = 0
  · have hsz := hsl h0
    subst h0
    clear hsl
    go_enter Tryd.func25, Tryd.ntmps25
    go_wp2_with fail
    refine CR.out.mono ?_
    rintro e w1 ⟨A, c, es, rfl, _, _, _, _, _, hb1⟩
    rw [HRE.out, HRN.out, HRL.out]
    have HB1 := Lib.hid hb1
    clear hb1 CR
    go_wp2_with fail
    refine (CE.out _).mono ?_
    rintro e w2 ⟨rfl, rfl⟩
    cases ie
    · go_wp2_with fail
      refine bodyPost_ret (v := .tuple #[.string ⟨#[]⟩, .int .i64 2]) (by simp [results, Tryd.results25, go_sem]) rfl ?_
      rw [HRES.out]
      exact ⟨rfl, HB1.out⟩
    · have CA1 := Lib.hid (CA.out w1 (HT.out.on HB1.out))
      go_wp2_with fail
      refine CA1.out.mono ?_
      rintro e w2 ⟨rfl, hb2⟩
      have HB2 := Lib.hid (HB1.out.trans (hb2.mono HB1.out.size))
      clear hb2 CA1
      by_cases hbig : 20000 < s.size + ln.size
      · have hbi : (20000 : Int) < (s.size : Int) + (ln.size : Int) := by omega
        go_wp2_with fail
        refine bodyPost_ret (v := .tuple #[.string ⟨#[]⟩, .int .i64 5]) (by simp [results, Tryd.results25, go_sem]) rfl ?_
        rw [HRES.out, if_neg (by simp), if_neg (by simp), if_pos hbig]
        exact ⟨rfl, HB2.out⟩
      · have hbi : ¬ (20000 : Int) < (s.size : Int) + (ln.size : Int) := by omega
        go_wp2_with fail
        refine bodyPost_ret (v := .tuple #[.string (s ++ ln), .int .i64 0]) (by simp [results, Tryd.results25, go_sem]) rfl ?_
        rw [HRES.out, if_neg (by simp), if_neg (by simp), if_neg hbig]
        refine ⟨?_, HB2.out⟩
        have : s ++ ln = ⟨(s.data.toList ++ lineOf d t.data.toList).toArray⟩ := by
          rw [HLN.out]; exact bytes_ext (by rw [ByteArray.data_append, Array.toList_append])
        rw [this]; rfl
  · have hnb : (((er : Nat) : Int) != 0) = true := by simp; omega
    clear hsl
    go_enter Tryd.func25, Tryd.ntmps25
    go_wp2_with fail
    refine CR.out.mono ?_
    rintro e w1 ⟨A, c, es, rfl, _, _, _, _, _, hb1⟩
    rw [HRE.out, HRN.out, HRL.out]
    have HB1 := Lib.hid hb1
    clear hb1 CR
    go_wp2_with fail
    refine bodyPost_ret (v := .tuple #[.string ⟨#[]⟩, .int .i64 (er : Int)]) (by simp [results, Tryd.results25, go_sem]) rfl ?_
    rw [HRES.out, if_pos h0]
    exact ⟨rfl, HB1.out⟩

theorem read_ok_len {s : List UInt8} (h : (read s).err = 0) : s.length ≤ 20000 := by
  unfold Pl.read at h
  split at h
  · cases h
  · omega
theorem append_any (s t : ByteArray) (hs : s.size ≤ maxLen) (htz : t.size ≤ 300) (w : World) (ht : Tab w) : Calls Tryd.prog 25 #[.string s, .string t] w (APost (appendL s.data.toList t.data.toList) w) := by
  have h := append_core s t hs htz w ht _ _ _ (read s.data.toList) rfl rfl rfl (read_last_lt _) _ rfl (fun h => by rw [Lib.size_eq]; exact read_ok_len h) (read_any s hs w ht)
  unfold appendL
  rw [Lib.size_eq, Lib.size_eq] at h
  exact h
end Go.Proofs.YtdbijjiolknbfaaDoor
