/- The walk of the reference's node. -/
import Derived.Test.YtfpeplpoliileaaDoorRefText
import Derived.Test.YtfpeplpoliileaaDoorMore
namespace Go.Proofs.YtfpeplpoliileaaDoor
open Go.RowKit Pl

theorem beg_iff (c : UInt8) : beg c = true ↔ (c = 40 ∨ isDig c = true) := by simp [beg]
theorem rdNode_count {d count : Nat} {c : UInt8} {r : List UInt8} (h : ¬ (beg c = true ∧ 256 ≤ count)) : rdNode d count (c :: r) = rdNode d 0 (c :: r) := by
  cases d with
  | zero => rw [rdNode, rdNode]
  | succ d =>
    by_cases hb : beg c = true
    · have : ¬ 256 ≤ count := fun hx => h ⟨hb, hx⟩
      rw [rdNode, rdNode, if_neg this, if_neg (by omega : ¬ 256 ≤ 0)]
    · rw [beg_iff] at hb
      have h2 : c ≠ 40 ∧ isDig c = false := ⟨fun e => hb (.inl e), by cases hd : isDig c; rfl; exact absurd (.inr hd) hb⟩
      rw [rdNode_bad h2.1 h2.2, rdNode_bad h2.1 h2.2]
theorem rdNode_full {d count : Nat} {c : UInt8} {r : List UInt8} (hb : beg c = true) (hc : 256 ≤ count) : rdNode d count (c :: r) = .error 5 := by
  rw [beg_iff] at hb
  cases d with
  | zero => exact rdNode_deep hb
  | succ d => exact rdNode_many hb hc

/-- The contract of the reference's node with d levels left. -/
def RefNodeOk (d : Nat) : Prop := ∀ (s : ByteArray) (p : Nat) (L : Int) (w : World), L = 13 - (d : Int) → s.size ≤ 20000 → p ≤ s.size →
  Calls Tryd.prog 26 #[.string s, .int .i64 (p : Int), .int .i64 L] w (RefPost s (rdNode d 0 (s.data.toList.drop p)) w)

theorem refPost_err {s : ByteArray} {res : Except Nat (Tr × List UInt8)} {n : Nat} {w wx : World} (h : res = .error n) (hn : n ≠ 0) (hb : Below w.heap.size w wx) : RefPost s res w (.returned (.tuple #[zeroV, .int .i64 0, .int .i64 (n : Nat)])) wx := by
  rw [h]; exact ⟨hb, hn, rfl⟩

theorem rdKids_nil {rd : Nat → List UInt8 → Except Nat (Tr × List UInt8)} {f : Nat} {acc : List Tr} : rdKids rd (f + 1) acc [] = .error 4 := by rw [rdKids]

/-- The ways that node leaves ahead of the reading itself. -/
theorem refNode_faults (d : Nat) (s : ByteArray) (p : Nat) (L : Int) (w : World) (hL : L = 13 - (d : Int)) (hd : d ≤ 12) (_hs : s.size ≤ 20000) (hp : p ≤ s.size)
    (hcase : s.data.toList.drop p = [] ∨ ∃ c r, s.data.toList.drop p = c :: r ∧ (beg c = false ∨ (beg c = true ∧ d = 0))) :
    Calls Tryd.prog 26 #[.string s, .int .i64 (p : Int), .int .i64 L] w (RefPost s (rdNode d 0 (s.data.toList.drop p)) w) := by
  have HB0 := Lib.hid ((Below.refl w.heap.size w).alloc (Nat.le_refl _) (.cells #[.bool false, .string ⟨#[]⟩, .slice none 0 0] 25))
  have hbox := Blk.new w 25 #[.bool false, .string ⟨#[]⟩, .slice none 0 0]
  obtain ⟨⟨r0, r1, r2⟩, _⟩ := hbox.three
  have hl1 : 1 ≤ L := by omega
  have hl2 : L ≤ 13 := by omega
  clear hbox
  rcases hcase with hdr | ⟨c, r, hdr, hways⟩
  · obtain rfl := drop_nil hdr hp
    have HE : Hid (rdNode d 0 (s.data.toList.drop s.size) = .error 4) := by
      rw [hdr]; cases d <;> exact rfl
    clear hdr hL
    go_enter Tryd.func26, Tryd.ntmps26
    go_wp2_with fail
    refine bodyPost_ret (v := .tuple #[zeroV, .int .i64 0, .int .i64 4]) (by simp [results, Tryd.results26, go_sem, zeroV]) rfl ?_
    exact refPost_err (n := 4) HE.out (by decide) (by go_grown)
  · obtain ⟨hlt, hcp, _⟩ := drop_get hdr
    have hcp' : s[p] = c := hcp hlt
    have HC := Lib.hid hcp'
    have hne : ((p : Int) == (s.size : Int)) = false := by simp; omega
    have hlti : (p : Int) < (s.size : Int) := by omega
    rcases hways with hb | ⟨hb, rfl⟩
    · have HE : Hid (rdNode d 0 (s.data.toList.drop p) = .error 2) := by
        show rdNode d 0 (s.data.toList.drop p) = _
        have : ¬ (c = 40 ∨ isDig c = true) := by rw [← beg_iff, hb]; simp
        rw [hdr, rdNode_bad (fun e => this (.inl e)) (by cases hd : isDig c; rfl; exact absurd (.inr hd) this)]
      have HBG := Lib.hid hb
      clear hdr hcp hcp' hb hL
      go_enter Tryd.func26, Tryd.ntmps26
      go_wp2_with fail
      refine (begins_any s[p] _).mono ?_
      rw [HC.out, HBG.out]
      rintro e w1 ⟨rfl, rfl⟩
      go_wp2_with fail
      refine bodyPost_ret (v := .tuple #[zeroV, .int .i64 0, .int .i64 2]) (by simp [results, Tryd.results26, go_sem, zeroV]) rfl ?_
      exact refPost_err (n := 2) HE.out (by decide) (by go_grown)
    · have HE : Hid (rdNode 0 0 (s.data.toList.drop p) = .error 5) := by
        show rdNode 0 0 (s.data.toList.drop p) = _
        rw [hdr]; exact rdNode_deep ((beg_iff c).1 hb)
      have HBG := Lib.hid hb
      have hl12 : (12 : Int) < L := by omega
      clear hdr hcp hcp' hb hL
      go_enter Tryd.func26, Tryd.ntmps26
      go_wp2_with fail
      refine (begins_any s[p] _).mono ?_
      rw [HC.out, HBG.out]
      rintro e w1 ⟨rfl, rfl⟩
      go_wp2_with fail
      refine bodyPost_ret (v := .tuple #[zeroV, .int .i64 0, .int .i64 5]) (by simp [results, Tryd.results26, go_sem, zeroV]) rfl ?_
      exact refPost_err (n := 5) HE.out (by decide) (by go_grown)

theorem refPost_mono {s : ByteArray} {res : Except Nat (Tr × List UInt8)} {w : World} {e : Ending} {w' : World} (h : RefPost s res w e w') : Below w.heap.size w w' := h.1

/-- A text. -/
theorem refNode_text (d : Nat) (s : ByteArray) (p : Nat) (L : Int) (w : World) (hL : L = 12 - (d : Int)) (hd : d ≤ 11) (hs : s.size ≤ 20000) (c : UInt8) (r : List UInt8) (hdr : s.data.toList.drop p = c :: r) (h40 : c ≠ 40) (hdg : isDig c = true) :
    Calls Tryd.prog 26 #[.string s, .int .i64 (p : Int), .int .i64 L] w (RefPost s (rdNode (d + 1) 0 (s.data.toList.drop p)) w) := by
  have hbox := Blk.new w 25 #[.bool false, .string ⟨#[]⟩, .slice none 0 0]
  have HBX := Lib.hid hbox
  have HB0 := Lib.hid ((Below.refl w.heap.size w).alloc (Nat.le_refl _) (.cells #[.bool false, .string ⟨#[]⟩, .slice none 0 0] 25))
  have HE : Hid (rdNode (d + 1) 0 (s.data.toList.drop p) = rdText (s.data.toList.drop p)) := by
    show rdNode (d + 1) 0 (s.data.toList.drop p) = _
    rw [hdr]; exact rdNode_text h40 hdg (by omega)
  obtain ⟨hlt, hcp, _⟩ := drop_get hdr
  have hcp' : s[p] = c := hcp hlt
  have HC := Lib.hid hcp'
  have HBG : Hid (beg c = true) := (beg_iff c).2 (.inr hdg)
  have h40b : ((s[p].toNat : Int) != 40) = true := by rw [hcp']; exact byte_ne (k := 40) (by omega) h40
  have HDR := Lib.hid hdr
  have hne : ((p : Int) == (s.size : Int)) = false := by simp; omega
  have hlti : (p : Int) < (s.size : Int) := by omega
  have hl1 : ¬ (12 : Int) < L := by omega
  clear hbox hcp hcp' hL hdg hdr
  go_enter Tryd.func26, Tryd.ntmps26
  go_wp2_with fail
  refine (begins_any s[p] _).mono ?_
  rw [HC.out, HBG.out]
  rintro e w1 ⟨rfl, rfl⟩
  go_wp2_with fail
  refine (refText_any s p c r _ hs HDR.out).mono ?_
  rw [HE.out]
  cases hres : rdText (s.data.toList.drop p) with
  | error n =>
    rintro e w1 ⟨hb, hn, rfl⟩
    obtain ⟨⟨r0, r1, r2⟩, f0, f1, f2⟩ := (HBX.out.below hb (by simp)).three
    have HB := Lib.hid (HB0.out.trans (hb.mono (by simp)))
    have HE2 := Lib.hid (HE.out.trans hres)
    clear hb hres
    unfold zeroV
    go_wp2_with fail
    refine bodyPost_ret (v := .tuple #[zeroV, .int .i64 0, .int .i64 (n : Nat)]) (by simp [results, Tryd.results26, go_sem, r0, r1, r2, zeroV]) rfl ?_
    exact refPost_err HE2.out hn (below_set3 HB.out (Nat.le_refl _) _ _ _)
  | ok tr =>
    obtain ⟨t, r'⟩ := tr
    rintro e w1 ⟨hb, v, p2, rfl, hL, hd2, hp2⟩
    obtain ⟨se, Ae, ce, rfl, _⟩ := hL.open_
    obtain ⟨⟨r0, r1, r2⟩, f0, f1, f2⟩ := (HBX.out.below hb (by simp)).three
    have HB := Lib.hid (HB0.out.trans (hb.mono (by simp)))
    have HL := Lib.hid hL
    have HD2 := Lib.hid hd2
    have HE2 := Lib.hid (HE.out.trans hres)
    clear hb hL hd2 hres
    go_wp2_with fail
    refine bodyPost_ret (v := .tuple #[.agg #[.bool t.list, .string se, .slice Ae t.kids.length ce], .int .i64 (p2 : Nat), .int .i64 0]) (by simp [results, Tryd.results26, go_sem, r0, r1, r2]) rfl ?_
    rw [HE2.out]
    refine ⟨below_set3 HB.out (Nat.le_refl _) _ _ _, _, p2, rfl, ?_, HD2.out, hp2⟩
    refine Lies.to (fun g hg _ => ⟨?_, by simp at hg; omega⟩) _ _ HL.out
    simp at hg
    rw [set_far _ _ _ _ _ (by omega), set_far _ _ _ _ _ (by omega), set_far _ _ _ _ _ (by omega)]

theorem own_shape {w : World} {base n : Nat} {v : Value} {cells : List Value} (h : w.ownsRow base 25 3 v n cells) : ∃ A c, v = .slice A n c := by
  rcases h.2 with ⟨h1, h2⟩ | ⟨g, cap, cur, h1, _⟩
  · exact ⟨none, 0, by rw [h1, h2]⟩
  · exact ⟨_, _, h1⟩

set_option maxRecDepth 100000 in
set_option maxHeartbeats 1000000 in
theorem refNode_list (d : Nat) (hN : RefNodeOk d) (s : ByteArray) (p : Nat) (L : Int) (w : World) (hL : L = 12 - (d : Int)) (hd : d ≤ 11) (hs : s.size ≤ 20000) (r : List UInt8) (hdr : s.data.toList.drop p = 40 :: r) :
    Calls Tryd.prog 26 #[.string s, .int .i64 (p : Int), .int .i64 L] w (RefPost s (rdNode (d + 1) 0 (s.data.toList.drop p)) w) := by
  obtain ⟨i0, hi0, hz0, hz1, hz2⟩ := info_parts node_info
  have HB0 := Lib.hid (((Below.refl w.heap.size w).alloc (Nat.le_refl _) (.cells #[.bool false, .string ⟨#[]⟩, .slice none 0 0] 25)).alloc (by simp) (.cells #[.bool true, .string ⟨#[]⟩, .slice none 0 0] 25))
  have HZ0 := Lib.hid ((Blk.new w 25 #[.bool false, .string ⟨#[]⟩, .slice none 0 0]).alloc (.cells #[.bool true, .string ⟨#[]⟩, .slice none 0 0] 25))
  have HN0 : Hid (Blk ((w.alloc (.cells #[.bool false, .string ⟨#[]⟩, .slice none 0 0] 25)).alloc (.cells #[.bool true, .string ⟨#[]⟩, .slice none 0 0] 25)) (w.heap.size + 1) 25 #[.bool true, .string ⟨#[]⟩, .slice none 0 0]) := by
    have := Blk.new (w.alloc (.cells #[.bool false, .string ⟨#[]⟩, .slice none 0 0] 25)) 25 #[.bool true, .string ⟨#[]⟩, .slice none 0 0]
    simpa [Hid] using this
  obtain ⟨hlt, hcp, hdr2⟩ := drop_get hdr
  have hcp' : s[p] = 40 := hcp hlt
  have HC := Lib.hid hcp'
  have h40b : ((s[p].toNat : Int) != 40) = false := by rw [hcp']; rfl
  have hne : ((p : Int) == (s.size : Int)) = false := by simp; omega
  have hlti : (p : Int) < (s.size : Int) := by omega
  have hl1 : ¬ (12 : Int) < L := by omega
  have hl2 : 1 ≤ L := by omega
  have HLV : Hid (L + 1 = 13 - (d : Int)) := by show L + 1 = _; omega
  have HNK := Lib.hid hN
  have HDR2 := Lib.hid hdr2
  have HDR := Lib.hid hdr
  obtain ⟨R, hR⟩ : ∃ R, R = rdKids (rdNode d) (r.length + 1) [] r := ⟨_, rfl⟩
  have HR := Lib.hid hR
  clear hcp hcp' hL hdr hdr2 hR hN
  go_enter Tryd.func26, Tryd.ntmps26
  go_wp2_with fail
  refine (begins_any s[p] _).mono ?_
  rw [HC.out, show beg 40 = true from rfl]
  rintro e w1 ⟨rfl, rfl⟩
  go_wp2_with fail
  go_loopg [10] (r.length + 1) (fun f iv wr => ∃ (q : Nat) (acc : List Tr) (cells : List Value) (v : Value), q ≤ s.size ∧ iv = .int .i64 (q : Int) ∧ Blk wr w.heap.size 25 #[.bool false, .string ⟨#[]⟩, .slice none 0 0] ∧ Blk wr (w.heap.size + 1) 25 #[.bool true, .string ⟨#[]⟩, v] ∧
      wr.ownsRow (w.heap.size + 2) 25 3 v acc.length cells ∧ Trips (fun b => w.heap.size + 2 ≤ b ∧ v.ownBlock ≠ some b) wr acc cells ∧ Below w.heap.size w wr ∧ acc.length ≤ 256 ∧ (s.data.toList.drop q).length < f ∧ rdKids (rdNode d) f acc (s.data.toList.drop q) = R)
  case atStart => exact ⟨p + 1, [], [], .slice none 0 0, by omega, rfl, HZ0.out, HN0.out, World.ownsRow_nil _ _ _ _, by rw [Trips], HB0.out, by simp, by rw [HDR2.out]; omega, by rw [HDR2.out, HR.out]⟩
  case round =>
    obtain ⟨q, acc, cells, v, hq, rfl, hbz, hbn, hown, htr, hbw, hacc, hfu, hres⟩ := hrel
    obtain ⟨A1, c1, rfl⟩ := own_shape hown
    obtain ⟨f, rfl⟩ : ∃ f, gk = f + 1 := ⟨gk - 1, by omega⟩
    obtain ⟨⟨r0, r1, r2⟩, g0, g1, g2⟩ := hbz.three
    obtain ⟨⟨n0, n1, n2⟩, f0, f1, f2⟩ := hbn.three
    have hsz : w.heap.size + 2 ≤ wr.heap.size := hbn.lt
    have HBZ := Lib.hid hbz
    have HBN := Lib.hid hbn
    have HBW := Lib.hid hbw
    have HO := Lib.hid hown
    have HT := Lib.hid htr
    have HF := Lib.hid hfu
    clear hbz hbn hbw hown htr hfu HB0 HZ0 HN0 HDR2
    cases hdq : s.data.toList.drop q with
    | nil =>
      obtain rfl := drop_nil hdq hq
      rw [hdq, rdKids_nil] at hres
      have HE : Hid (rdNode (d + 1) 0 (s.data.toList.drop p) = .error 4) := by
        show rdNode (d + 1) 0 (s.data.toList.drop p) = _
        rw [HDR.out, rdNode_list_err (by omega) (by rw [← HR.out, ← hres])]
      clear hres hdq
      go_wp2_with fail
      refine bodyPost_ret (v := .tuple #[zeroV, .int .i64 0, .int .i64 4]) (by simp [results, Tryd.results26, go_sem, r0, r1, r2, zeroV]) rfl ?_
      exact refPost_err (n := 4) HE.out (by decide) (below_set3 HBW.out (Nat.le_refl _) _ _ _)
    | cons c r' =>
      obtain ⟨hlq, hcq, hdq2⟩ := drop_get hdq
      have hcq' : s[q] = c := hcq hlq
      have hlqi : (q : Int) < (s.size : Int) := by omega
      have hneq : ((q : Int) == (s.size : Int)) = false := by simp; omega
      rw [hdq] at hres
      have HDQ := Lib.hid hdq
      have HDQ2 := Lib.hid hdq2
      have HCQ := Lib.hid hcq'
      clear hdq hdq2 hcq
      by_cases h41 : c = 41
      · rw [rdKids_close h41] at hres
        have h41b : ((s[q].toNat : Int) != 41) = false := by rw [hcq', h41]; rfl
        have HE : Hid (rdNode (d + 1) 0 (s.data.toList.drop p) = .ok (.mk true [] acc, r')) := by
          show rdNode (d + 1) 0 (s.data.toList.drop p) = _
          rw [HDR.out, rdNode_list_ok (by omega) (by rw [← HR.out, ← hres])]
        clear hres hcq'
        go_wp2_with fail
        refine bodyPost_ret (v := .tuple #[.agg #[.bool true, .string ⟨#[]⟩, .slice A1 acc.length c1], .int .i64 ((q + 1 : Nat) : Int), .int .i64 0]) (by simp [results, Tryd.results26, go_sem, r0, r1, r2]) rfl ?_
        rw [HE.out]
        refine ⟨below_set3 HBW.out (Nat.le_refl _) _ _ _, _, q + 1, rfl, ?_, HDQ2.out, by omega⟩
        have h1 : Lies (fun b => w.heap.size + 2 ≤ b) wr (.mk true [] acc) (.agg #[.bool true, .string ⟨#[]⟩, .slice A1 acc.length c1]) :=
          lies_of_owns HO.out (Trips.mono (fun g _ hg => hg.1) _ _ HT.out) rfl rfl (by simp) (fun g hg => hg)
        refine Lies.to (fun g hg _ => ⟨?_, by omega⟩) _ _ h1
        rw [set_far _ _ _ _ _ (by omega), set_far _ _ _ _ _ (by omega), set_far _ _ _ _ _ (by omega)]
      · have h41b : ((s[q].toNat : Int) != 41) = true := by rw [hcq']; exact byte_ne (k := 41) (by omega) h41
        by_cases hfull : beg c = true ∧ 256 ≤ acc.length
        · obtain ⟨hb, hge⟩ := hfull
          rw [rdKids_err h41 (rdNode_full hb hge)] at hres
          have HE : Hid (rdNode (d + 1) 0 (s.data.toList.drop p) = .error 5) := by
            show rdNode (d + 1) 0 (s.data.toList.drop p) = _
            rw [HDR.out, rdNode_list_err (by omega) (by rw [← HR.out, ← hres])]
          have h256 : ((acc.length : Int) == 256) = true := by simp; omega
          have HBG := Lib.hid hb
          clear hres hcq' hb
          go_wp2_with fail
          refine (begins_any s[q] _).mono ?_
          rw [HCQ.out, HBG.out]
          rintro e w1 ⟨rfl, rfl⟩
          go_wp2_with fail
          refine bodyPost_ret (v := .tuple #[zeroV, .int .i64 0, .int .i64 5]) (by simp [results, Tryd.results26, go_sem, r0, r1, r2, zeroV]) rfl ?_
          exact refPost_err (n := 5) HE.out (by decide) (below_set3 HBW.out (Nat.le_refl _) _ _ _)
        · have hcount := rdNode_count (d := d) (r := r') hfull
          have hways : beg c = false ∨ (beg c = true ∧ ((acc.length : Int) == 256) = false) := by
            cases hb : beg c
            · exact .inl rfl
            · right; refine ⟨rfl, ?_⟩
              have : ¬ 256 ≤ acc.length := fun h => hfull ⟨hb, h⟩
              simp; omega
          clear hcq' hfull
          have HCOUNT := Lib.hid hcount
          have HRES := Lib.hid hres
          clear hcount hres
          rcases hways with hb | ⟨hb, h256⟩
          all_goals
            have HBG := Lib.hid hb
            clear hb
            go_wp2_with fail
            refine (begins_any s[q] _).mono ?_
            rw [HCQ.out, HBG.out]
            rintro e w1 ⟨rfl, rfl⟩
            go_wp2_with fail
            refine (HNK.out s q (L + 1) _ HLV.out hs hq).mono ?_
            rw [HDQ.out, ← HCOUNT.out]
            cases hrn : rdNode d acc.length (c :: r') with
            | error n =>
              rintro e w1 ⟨hb1, hn, rfl⟩
              have hres := HRES.out
              rw [rdKids_err h41 hrn] at hres
              have HE : Hid (rdNode (d + 1) 0 (s.data.toList.drop p) = .error n) := by
                show rdNode (d + 1) 0 (s.data.toList.drop p) = _
                rw [HDR.out, rdNode_list_err (by omega) (by rw [← HR.out, ← hres])]
              have hnb : (((n : Nat) : Int) != 0) = true := by simp; omega
              have hbz1 := (HBZ.out.below hb1 HBZ.out.lt).alloc (.cells #[.bool false, .string ⟨#[]⟩, .slice none 0 0] 25)
              obtain ⟨⟨r0, r1, r2⟩, g0, g1, g2⟩ := hbz1.three
              have HB1 := Lib.hid ((HBW.out.trans (hb1.mono HBW.out.size)).alloc (Nat.le_trans HBW.out.size hb1.size) (.cells #[.bool false, .string ⟨#[]⟩, .slice none 0 0] 25))
              clear hb1 hres hrn hbz1
              unfold zeroV
              go_wp2_with fail
              refine bodyPost_ret (v := .tuple #[zeroV, .int .i64 0, .int .i64 (n : Nat)]) (by simp [results, Tryd.results26, go_sem, r0, r1, r2, zeroV]) rfl ?_
              exact refPost_err HE.out hn (below_set3 HB1.out (Nat.le_refl _) _ _ _)
            | ok tr =>
              obtain ⟨t, r2'⟩ := tr
              rintro e w1 ⟨hb1, vk, q2, rfl, hL, hdq3, hq2⟩
              obtain ⟨he1, _, hcnt⟩ := rdNode_inv d _ _ _ _ (by omega) hrn
              have hres := HRES.out
              rw [rdKids_go h41 hrn] at hres
              have hlen : r2'.length < (c :: r').length := by
                rw [he1]; have := enc_pos t; simp; omega
              have hfl := HF.out
              rw [HDQ.out] at hfl
              obtain ⟨se, Ae, ce, rfl, _⟩ := hL.open_
              have hb2 : Below wr.heap.size wr (w1.alloc (.cells #[.bool t.list, .string se, .slice Ae t.kids.length ce] 25)) := hb1.alloc hb1.size _
              have hL2 : Lies (fun b => wr.heap.size ≤ b) (w1.alloc (.cells #[.bool t.list, .string se, .slice Ae t.kids.length ce] 25)) t (.agg #[.bool t.list, .string se, .slice Ae t.kids.length ce]) := hL.below ((Below.refl _ _).alloc (Nat.le_refl _) _)
              have hbz1 := (HBZ.out.below hb2 HBZ.out.lt)
              have hbn1 := (HBN.out.below hb2 HBN.out.lt)
              have hown1 := ownsRow_below HO.out hb2
              have hs1 := hb1.size
              obtain ⟨⟨m0, m1, m2⟩, _, _, l2⟩ := hbn1.three
              have HL2 := Lib.hid hL2
              have HB2 := Lib.hid hb2
              have HBZ1 := Lib.hid hbz1
              have HBN1 := Lib.hid hbn1
              have HO1 := Lib.hid hown1
              have HDQ3 := Lib.hid hdq3
              have HE := Lib.hid hres
              have HLN := Lib.hid hlen
              have HFL := Lib.hid hfl
              have HACC := Lib.hid hacc
              clear hL hL2 hb1 hb2 hbz1 hbn1 hown1 hdq3 hres hlen hfl he1 hrn HF r0 r1 r2 g0 g1 g2 n0 n1 n2 f0 f1 f2
              go_wp2_with (at_builtin; (refine wpList_append_own_at _ rfl (.tmp 76) (.tmp 78) 23 rfl (w.heap.size + 2) 25 i0 _ 3 48 Tryd.underlying23 hi0 hz0 hz1 hz2 rfl (by decide) _ acc.length cells rfl (HO1.out.alloc _) ⟨w1.heap.size + 1, 0, none⟩ 1 1 [.bool t.list, .string se, .slice Ae t.kids.length ce] rfl rfl ?c1 (oneCell_three _ _ _ _ _) (by unfold maxLen; omega) (by omega) (by simp; omega) ?_))
              case c1 =>
                have := cells_three (w1.alloc (.cells #[.bool t.list, .string se, .slice Ae t.kids.length ce] 25)) (.bool t.list) (.string se) (.slice Ae t.kids.length ce) 25
                simpa using this
              intro v3 w3 hown3 hg4 hnil3 hat3
              have hob : ∀ g, (Value.slice A1 acc.length c1).ownBlock = some g → w.heap.size + 2 ≤ g := fun g hg => (HO.out.lt g hg).1
              have hbn3 := (HBN1.out.alloc (.cells #[.bool t.list, .string se, .slice Ae t.kids.length ce] 25)).grown hg4 (fun e => by have := hob _ e.symm; omega)
              have hbz3 := (HBZ1.out.alloc (.cells #[.bool t.list, .string se, .slice Ae t.kids.length ce] 25)).grown hg4 (fun e => by have := hob _ e.symm; omega)
              obtain ⟨A3, c3, rfl⟩ := own_shape hown3
              have htr3 := trips_step HO.out HT.out HB2.out (by omega) HL2.out hg4 (by simpa using hat3)
              have hbw3 : Below w.heap.size w w3 := ((HBW.out.trans (HB2.out.mono HBW.out.size)).alloc (by simp; omega) _).grown hg4 (by simp; omega) (fun g hg => by have := hob g hg; omega)
              obtain ⟨⟨x0, x1, x2⟩, _, _, y2⟩ := hbn3.three
              have HBN3 := Lib.hid hbn3
              have HBZ3 := Lib.hid hbz3
              have HTR3 := Lib.hid htr3
              have HBW3 := Lib.hid hbw3
              have HO3 := Lib.hid hown3
              clear hbn3 hbz3 htr3 hbw3 hown3 hg4 hnil3 hat3 hob
              go_wp2_with fail
              go_roundg f
              case measure => omega
              case rel =>
                refine ⟨q2, acc ++ [t], cells ++ [.bool t.list, .string se, .slice Ae t.kids.length ce], .slice A3 (acc.length + 1) c3, hq2, rfl, ?_, ?_, ?_, ?_, ?_, ?_, ?_, ?_⟩
                · exact HBZ3.out.far (p := ⟨w.heap.size + 1, 2, none⟩) (by simp) _
                · exact HBN3.out.set_ 2 _
                · rw [List.length_append]
                  exact HO3.out.kept (row := some (w.heap.size + 1)) (grownBy_set (grownBy_refl w3 _) 2 _) (own_ne_rb HO3.out (by omega))
                · exact Trips.to (w := w3) (fun g hg _ => ⟨set_far w3 (w.heap.size + 1) 2 _ g (by omega), hg⟩) _ _ HTR3.out
                · exact HBW3.out.setCell (p := ⟨w.heap.size + 1, 2, none⟩) (by simp) _
                · simp; omega
                · rw [HDQ3.out]; have h1 := HLN.out; have h2 := HFL.out; omega
                · rw [HDQ3.out]; exact HE.out

theorem refNode_any : ∀ d, d ≤ 12 → RefNodeOk d := by
  intro d
  induction d with
  | zero =>
    intro _ s p L w hL hs hp
    refine refNode_faults 0 s p L w hL (by omega) hs hp ?_
    cases hdr : s.data.toList.drop p with
    | nil => exact .inl rfl
    | cons c r => exact .inr ⟨c, r, rfl, by cases hb : beg c; exact .inl rfl; exact .inr ⟨rfl, rfl⟩⟩
  | succ d ih =>
    intro hd s p L w hL hs hp
    cases hdr : s.data.toList.drop p with
    | nil => rw [← hdr]; exact refNode_faults (d + 1) s p L w hL hd hs hp (.inl hdr)
    | cons c r =>
      rw [← hdr]
      cases hb : beg c
      · exact refNode_faults (d + 1) s p L w hL hd hs hp (.inr ⟨c, r, hdr, .inl hb⟩)
      · by_cases h40 : c = 40
        · subst h40
          exact refNode_list d (ih (by omega)) s p L w (by omega) (by omega) hs r hdr
        · have hdg : isDig c = true := by
            rcases (beg_iff c).1 hb with h | h
            · exact absurd h h40
            · exact h
          exact refNode_text d s p L w (by omega) (by omega) hs c r hdr h40 hdg
end Go.Proofs.YtfpeplpoliileaaDoor
