/- The walk of journal.read and Read. -/
import Derived.Test.YtdbijjiolknbfaaDoorCut
import Derived.Test.YtdbijjiolknbfaaDoorChains
namespace Go.Proofs.YtdbijjiolknbfaaDoor
open Go.RowKit Pl

theorem readL_trunc {f d : Nat} {s : List UInt8} (h0 : s ≠ []) (h : (upto s).length = s.length) : readL (f + 1) d s = ⟨[], 0, d, 4⟩ := by rw [readL, if_neg h0, if_pos h]
theorem readL_form {f d : Nat} {s : List UInt8} (h0 : s ≠ []) (h : (upto s).length ≠ s.length) (hf : form (upto s) = false) : readL (f + 1) d s = ⟨[], 0, d, 2⟩ := by rw [readL, if_neg h0, if_neg h, if_pos hf]
theorem readL_dig {f d : Nat} {s : List UInt8} (h0 : s ≠ []) (h : (upto s).length ≠ s.length) (hf : form (upto s) = true) (hd : (upto s).take 16 ≠ hex (chain d ((upto s).drop 17))) : readL (f + 1) d s = ⟨[], 0, d, 19⟩ := by
  rw [readL, if_neg h0, if_neg h, if_neg (by simp [hf]), if_pos hd]
theorem readL_go {f d : Nat} {s : List UInt8} (h0 : s ≠ []) (h : (upto s).length ≠ s.length) (hf : form (upto s) = true) (hd : (upto s).take 16 = hex (chain d ((upto s).drop 17))) :
    readL (f + 1) d s = ⟨(upto s).drop 17 :: (readL f (chain d ((upto s).drop 17)) (s.drop ((upto s).length + 1))).entries, (upto s).length + 1 + (readL f (chain d ((upto s).drop 17)) (s.drop ((upto s).length + 1))).n, (readL f (chain d ((upto s).drop 17)) (s.drop ((upto s).length + 1))).last, (readL f (chain d ((upto s).drop 17)) (s.drop ((upto s).length + 1))).err⟩ := by
  rw [readL, if_neg h0, if_neg h, if_neg (by simp [hf]), if_neg (by simp [hd])]

/-- What is left to read, joined to what was read. -/
def joinR (es : List ByteArray) (k : Nat) (r : Res) : Res := ⟨lb es ++ r.entries, k + r.n, r.last, r.err⟩

def ReadPost (r : Res) (w : World) (e : Ending) (w' : World) : Prop :=
  ∃ A c es, e = .returned (.tuple #[.slice A (List.length es) c, .int .i64 ((r.n : Nat) : Int), .int .u64 ((r.last : Nat) : Int), .int .i64 ((r.err : Nat) : Int)]) ∧ Strs w' A es ∧ lb es = r.entries ∧ (∀ x ∈ es, x.size ≤ 200) ∧ es.length ≤ 20000 ∧ ((A = none → c = 0) ∧ es.length ≤ c) ∧ Below w.heap.size w w'

theorem owns_nil_cap {B : Nat} {w : World} {A : Option Addr} {c : Nat} {es : List ByteArray} (h : OwnS B w (.slice A es.length c) es) : (A = none → c = 0) ∧ es.length ≤ c := by
  rcases h.2 with ⟨h1, h2⟩ | ⟨g, cap, cur, h1, _, h3, h4, h5, _⟩
  · exact ⟨fun _ => by injection h1, by omega⟩
  · injection h1 with h1 h6 h7
    subst h7
    exact ⟨fun hA => (by rw [hA] at h1; cases h1), h4⟩

theorem OwnS.keep {B : Nat} {w w' : World} {v : Value} {l : List ByteArray} (h : OwnS B w v l) (hb : Below w.heap.size w w') : OwnS B w' v l := by
  refine World.ownsRow.kept (row := none) h ⟨hb.os, hb.tape, hb.output, hb.size, fun i hi _ => hb.block i hi⟩ ?_
  cases hv : v.ownBlock <;> simp
theorem form_entry_len {l : List UInt8} (h : form l = true) : isEntry (l.drop 17) = true ∧ 17 ≤ l.length := by
  simp only [form, Bool.and_eq_true, decide_eq_true_eq] at h
  exact ⟨h.1.2, h.1.1.1⟩

set_option maxRecDepth 100000 in
set_option maxHeartbeats 4000000 in
theorem read_short (s : ByteArray) (hs : s.size ≤ 20000) (w : World) (ht : Tab w) : Calls Tryd.prog 42 #[.string s] w (ReadPost (read s.data.toList) w) := by
  have hl := Lib.size_eq s
  have HR : Hid (read s.data.toList = readL s.size 0 s.data.toList) := by
    show read s.data.toList = _
    unfold Pl.read
    rw [if_neg (by omega), ← hl]
  rw [HR.out]
  obtain ⟨R, hR⟩ : ∃ R, R = readL s.size 0 s.data.toList := ⟨_, rfl⟩
  rw [← hR]
  have HRE := Lib.hid hR
  have HT := Lib.hid ht
  have HL := Lib.hid hl
  clear hR ht HR hl
  go_enter Tryd.func42, Tryd.ntmps42
  go_wp2_with fail
  go_loopg [2, 3, 4] s.size (fun f v2 v3 v4 wr => ∃ (es : List ByteArray) (k d : Nat), OwnS w.heap.size wr v2 es ∧ v3 = .int .i64 (k : Int) ∧ v4 = .int .u64 (d : Int) ∧ d < 18446744073709551616 ∧ k ≤ s.size ∧ s.size - k ≤ f ∧ es.length ≤ k ∧ (∀ x ∈ es, x.size ≤ 200) ∧ Below w.heap.size w wr ∧ joinR es k (readL f d (s.data.toList.drop k)) = R)
  case atStart => exact ⟨[], 0, 0, World.ownsRow_nil _ _ _ _, rfl, rfl, by omega, by omega, by omega, by simp, fun x hx => by simp at hx, Below.refl _ _, by rw [List.drop_zero, HRE.out]; simp [joinR, lb]⟩
  case round =>
    obtain ⟨es, k, d, hown, rfl, rfl, hd, hk, hfu, hel, hsz, hbw, hres⟩ := hrel
    obtain ⟨A1, c1, rfl⟩ := hown.form
    have HO := Lib.hid hown
    have HSZ := Lib.hid hsz
    have HBW := Lib.hid hbw
    have HX := Lib.hid hres
    clear hown hsz hbw hres HRE
    have hnil : Hid (Strs wr A1 es) := HO.out.strs (fun x hx => Nat.le_trans (HSZ.out x hx) (by unfold maxLen; omega))
    by_cases hlt : k < s.size
    · obtain ⟨f, rfl⟩ : ∃ f, gk = f + 1 := ⟨gk - 1, by omega⟩
      have hlti : (k : Int) < (s.size : Int) := by omega
      have hki : (k : Int) ≤ (s.size : Int) := by omega
      obtain ⟨sub, hsub⟩ : ∃ sub, sub = s.extract k s.size := ⟨_, rfl⟩
      have hsd : sub.data.toList = s.data.toList.drop k := by rw [hsub, ext_from]
      have hsz2 : sub.size = s.size - k := by rw [Lib.size_eq, hsd, List.length_drop, ← HL.out]
      have CC := Lib.hid (fun w' => cut_any sub (by omega) w')
      have hne : s.data.toList.drop k ≠ [] := by
        intro h; have := congrArg List.length h; have hl := HL.out; simp at this; omega
      have HNE := Lib.hid hne
      have HSD := Lib.hid hsd
      have HS2 := Lib.hid hsz2
      rw [hsub] at CC
      clear hne hsd hsz2
      go_wp2_with fail
      refine (CC.out _).mono ?_
      rw [← hsub]
      rintro e w1 (⟨h1, rfl, m1, rfl⟩ | ⟨h1, rfl, m1, rfl⟩)
      · have hE : Hid (R = joinR es k ⟨[], 0, d, 4⟩) := by
          show R = _
          rw [← HX.out, readL_trunc HNE.out (by rw [← HSD.out, h1, Lib.size_eq])]
        clear h1 hsub
        go_wp2_with fail
        refine bodyPost_ret (v := .tuple #[.slice A1 es.length c1, .int .i64 (k : Int), .int .u64 (d : Int), .int .i64 4]) (by simp [results, Tryd.results42, go_sem]) rfl ?_
        rw [hE.out]
        exact ⟨A1, c1, es, rfl, hnil.out.keep (below_drewN wr m1), by simp [joinR], HSZ.out, by omega, owns_nil_cap HO.out, HBW.out.trans ((below_drewN wr m1).mono HBW.out.size)⟩
      · obtain ⟨L, hL⟩ : ∃ L, L = (upto sub.data.toList).length := ⟨_, rfl⟩
        rw [← hL] at h1
        rw [← hL]
        obtain ⟨line, hline⟩ : ∃ line, line = sub.extract 0 L := ⟨_, rfl⟩
        obtain ⟨rst, hrst⟩ : ∃ x, x = sub.extract (L + 1) sub.size := ⟨_, rfl⟩
        rw [← hline, ← hrst]
        have hld : line.data.toList = upto (s.data.toList.drop k) := by rw [hline, ext_to, hL, ← upto_take, HSD.out]
        have hls : line.size = L := by rw [Lib.size_eq, hld, hL, HSD.out]
        have hLlt : L < s.size - k := by rw [← HS2.out]; exact h1
        have HNL : Hid ((upto (s.data.toList.drop k)).length ≠ (s.data.toList.drop k).length) := by
          show _ ≠ _
          rw [← hld, ← Lib.size_eq, hls, List.length_drop, ← HL.out]; omega
        have HLD := Lib.hid hld
        have HLS := Lib.hid hls
        clear hld HLS hline hrst hL h1 hsub CC
        subst hls
        have CS := Lib.hid (fun w' => split_any line (by omega) w')
        go_wp2_with fail
        refine (CS.out _).mono ?_
        rintro e w2 (⟨hf, rfl, m2, rfl⟩ | ⟨hf, rfl, m2, rfl⟩)
        · obtain ⟨ent, hent⟩ : ∃ x, x = line.extract 17 line.size := ⟨_, rfl⟩
          obtain ⟨dig, hdig⟩ : ∃ x, x = line.extract 0 16 := ⟨_, rfl⟩
          rw [← hent, ← hdig]
          have hed : ent.data.toList = (upto (s.data.toList.drop k)).drop 17 := by rw [hent, ext_from, HLD.out]
          have hdd : dig.data.toList = (upto (s.data.toList.drop k)).take 16 := by rw [hdig, ext_to, HLD.out]
          have hfe := form_entry_len hf
          have hes : ent.size ≤ 200 := by rw [Lib.size_eq, hed, ← HLD.out]; exact isEntry_len hfe.1
          rw [HLD.out] at hf
          have HF := Lib.hid hf
          have HED := Lib.hid hed
          have HDD := Lib.hid hdd
          clear hent hdig hed hdd hfe hf CS
          have CH := Lib.hid (fun w' => chain_any d ent hd (by omega) w')
          obtain ⟨ch, hch⟩ : ∃ x, x = chain d ent.data.toList := ⟨_, rfl⟩
          rw [← hch] at CH
          have hch64 : ch < 18446744073709551616 := by rw [hch]; exact Nat.lt_trans (chain_lt _ _) P_lt
          have HCH := Lib.hid hch
          clear hch
          go_wp2_with fail
          refine (CH.out _).mono ?_
          rintro e w3 ⟨rfl, m3, rfl⟩
          have HB3 := Lib.hid (HBW.out.trans ((below_drewN wr (m1 + m2 + m3)).mono HBW.out.size))
          have HK3 := Lib.hid (below_drewN wr (m1 + m2 + m3))
          have HT3 := Lib.hid (HT.out.on HB3.out)
          have CX := Lib.hid (hex_any ch hch64 _ HT3.out)
          obtain ⟨hb, hhb⟩ : ∃ x : ByteArray, x = ⟨(hex ch).toArray⟩ := ⟨_, rfl⟩
          unfold GivesS at CX
          rw [← hhb] at CX
          have HHB := Lib.hid hhb
          clear hhb CH
          go_wp2_with fail
          refine CX.out.mono ?_
          rintro e w4 ⟨rfl, hb4⟩
          have HB4 := Lib.hid (HB3.out.trans (hb4.mono HB3.out.size))
          have HK4 := Lib.hid (HK3.out.trans (hb4.mono HK3.out.size))
          clear hb4 CX HK3 HB3 HT3
          by_cases hcmp : dig.data.toList = hex ch
          · have hcb : (dig.toList == hb.toList) = true := by rw [HHB.out, Lib.toList_data, Lib.toList_data, hcmp]; simp
            have HGO : Hid (R = joinR (es ++ [ent]) (k + (line.size + 1)) (readL f ch (s.data.toList.drop (k + (line.size + 1))))) := by
              show R = _
              rw [← HX.out, readL_go HNE.out HNL.out HF.out (by rw [← HED.out, ← HDD.out, hcmp, HCH.out]), ← HED.out, ← HCH.out, ← HLD.out, ← Lib.size_eq, List.drop_drop]
              simp [joinR, lb]; omega
            have HO4 := Lib.hid (HO.out.keep HK4.out)
            have hw4 := HB4.out.size
            clear hcmp
            go_wp2_with (at_builtin; (refine append_strs rfl (.tmp 53) (.tmp 55) rfl w.heap.size _ es rfl (HO4.out.alloc _) (by simp; omega) (some ⟨w4.heap.size, 0, none⟩) 1 [ent] rfl (strs_one w4 ent (by unfold maxLen; omega)) (fun h => by cases h) (by simp; omega) ?_))
            intro v5 w5 hown5 hg5
            have HO5 := Lib.hid hown5
            have HB5 := Lib.hid ((HB4.out.alloc hw4 (.cells #[.string ent] 9)).grown hg5 (by simp; omega) (fun g hg => (HO4.out.lt g hg).1))
            clear hown5 hg5
            go_wp2_with fail
            go_roundg f
            case measure => omega
            case rel =>
              refine ⟨es ++ [ent], k + (line.size + 1), ch, HO5.out, by go_num, rfl, hch64, by omega, by omega, by simp; omega, ?_, HB5.out, HGO.out.symm⟩
              intro x hx
              rcases List.mem_append.1 hx with hx | hx
              · exact HSZ.out x hx
              · obtain rfl := List.mem_singleton.1 hx; exact hes
          · have hcb : (dig.toList == hb.toList) = false := by rw [HHB.out, Lib.toList_data, Lib.toList_data]; simpa using hcmp
            have hE : Hid (R = joinR es k ⟨[], 0, d, 19⟩) := by
              show R = _
              rw [← HX.out, readL_dig HNE.out HNL.out HF.out (by rw [← HED.out, ← HDD.out, ← HCH.out]; exact hcmp)]
            clear hcmp
            go_wp2_with fail
            refine bodyPost_ret (v := .tuple #[.slice A1 es.length c1, .int .i64 (k : Int), .int .u64 (d : Int), .int .i64 19]) (by simp [results, Tryd.results42, go_sem]) rfl ?_
            rw [hE.out]
            exact ⟨A1, c1, es, rfl, hnil.out.keep HK4.out, by simp [joinR], HSZ.out, by omega, owns_nil_cap HO.out, HB4.out⟩
        · have hE : Hid (R = joinR es k ⟨[], 0, d, 2⟩) := by
            show R = _
            rw [← HX.out, readL_form HNE.out HNL.out (by rw [← HLD.out]; exact hf)]
          clear hf
          go_wp2_with fail
          refine bodyPost_ret (v := .tuple #[.slice A1 es.length c1, .int .i64 (k : Int), .int .u64 (d : Int), .int .i64 2]) (by simp [results, Tryd.results42, go_sem]) rfl ?_
          rw [hE.out]
          exact ⟨A1, c1, es, rfl, hnil.out.keep (below_drewN wr (m1 + m2)), by simp [joinR], HSZ.out, by omega, owns_nil_cap HO.out, HBW.out.trans ((below_drewN wr (m1 + m2)).mono HBW.out.size)⟩
    · obtain rfl : k = s.size := by omega
      have hE : Hid (R = joinR es s.size ⟨[], 0, d, 0⟩) := by
        show R = _
        rw [← HX.out, List.drop_of_length_le (by rw [← HL.out]; exact Nat.le_refl _), readL_nil]
      go_wp2_with fail
      refine bodyPost_ret (v := .tuple #[.slice A1 es.length c1, .int .i64 (s.size : Int), .int .u64 (d : Int), .int .i64 0]) (by simp [results, Tryd.results42, go_sem]) rfl ?_
      rw [hE.out]
      exact ⟨A1, c1, es, rfl, hnil.out, by simp [joinR], HSZ.out, by omega, owns_nil_cap HO.out, HBW.out⟩

theorem read_any (s : ByteArray) (hs : s.size ≤ maxLen) (w : World) (ht : Tab w) : Calls Tryd.prog 42 #[.string s] w (ReadPost (read s.data.toList) w) := by
  by_cases hb : s.size ≤ 20000
  · exact read_short s hb w ht
  · have HR : Hid (read s.data.toList = ⟨[], 0, 0, 5⟩) := by
      show read s.data.toList = _
      unfold Pl.read
      rw [if_pos (by rw [← Lib.size_eq]; omega)]
    rw [HR.out]
    unfold maxLen at hs
    clear ht HR
    go_enter Tryd.func42, Tryd.ntmps42
    go_wp2_with fail
    refine bodyPost_ret (v := .tuple #[.slice none 0 0, .int .i64 0, .int .u64 0, .int .i64 5]) (by simp [results, Tryd.results42, go_sem]) rfl ?_
    exact ⟨none, 0, [], rfl, ⟨by unfold maxLen; simp, fun x hx => by simp at hx, fun i hi => by simp at hi⟩, rfl, fun x hx => by simp at hx, by simp, ⟨fun _ => rfl, by simp⟩, Below.refl _ _⟩
end Go.Proofs.YtdbijjiolknbfaaDoor
