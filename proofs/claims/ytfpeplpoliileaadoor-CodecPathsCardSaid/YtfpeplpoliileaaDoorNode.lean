/- The walks of the reader's kids and node. -/
import Derived.Test.YtfpeplpoliileaaDoorReader
namespace Go.Proofs.YtfpeplpoliileaaDoor
open Go.RowKit Pl

def NodePost (s : ByteArray) (rb : Nat) (res : Except Nat (Tr × List UInt8)) (w : World) (e : Ending) (w' : World) : Prop :=
  match res with
  | .ok (t, r) => ∃ v, e = .returned v ∧ Lies (fun b => w.heap.size ≤ b) w' t v ∧ w.grownBy w' (some rb) ∧ ∃ p, Rd w' rb s p ∧ s.data.toList.drop p = r ∧ p ≤ s.size
  | .error n => e = .panicked (fault n) ∧ w.grownBy w' (some rb)

def KidsPost (s : ByteArray) (rb : Nat) (res : Except Nat (List Tr × List UInt8)) (w : World) (e : Ending) (w' : World) : Prop :=
  match res with
  | .ok (ks, r) => ∃ v cells, e = .returned v ∧ w'.ownsRow w.heap.size 25 3 v ks.length cells ∧ Trips (fun b => w.heap.size ≤ b) w' ks cells ∧ w.grownBy w' (some rb) ∧ ∃ p, Rd w' rb s p ∧ s.data.toList.drop p = r ∧ p ≤ s.size
  | .error n => e = .panicked (fault n) ∧ w.grownBy w' (some rb)

/-- The contract of node with d levels left. -/
def NodeOk (d : Nat) : Prop := ∀ (s : ByteArray) (rb p count : Nat) (L : Int) (w : World), L = 13 - (d : Int) → s.size ≤ 20000 → Rd w rb s p → p ≤ s.size → count ≤ 1000 →
  Calls Tryd.prog 25 #[.pointer (some ⟨rb, 0, none⟩), .int .i64 L, .int .i64 (count : Int)] w (NodePost s rb (rdNode d count (s.data.toList.drop p)) w)
def KidsOk (d : Nat) : Prop := ∀ (s : ByteArray) (rb p : Nat) (L : Int) (w : World), L = 13 - (d : Int) → s.size ≤ 20000 → Rd w rb s p → p ≤ s.size →
  Calls Tryd.prog 33 #[.pointer (some ⟨rb, 0, none⟩), .int .i64 L] w (KidsPost s rb (rdKids (rdNode d) ((s.data.toList.drop p).length + 1) [] (s.data.toList.drop p)) w)

theorem Rd.lt {w : World} {rb : Nat} {s : ByteArray} {p : Nat} (h : Rd w rb s p) : rb < w.heap.size := Blk.lt h
theorem Rd.alloc {w : World} {rb : Nat} {s : ByteArray} {p : Nat} (h : Rd w rb s p) (o : Obj) : Rd (w.alloc o) rb s p := Blk.alloc h o
theorem Rd.grown {w w' : World} {rb : Nat} {s : ByteArray} {p : Nat} {row : Option Nat} (h : Rd w rb s p) (hg : w.grownBy w' row) (hne : some rb ≠ row) : Rd w' rb s p := Blk.grown h hg hne

theorem grownBy_alloc {a w : World} {row : Option Nat} (h : a.grownBy w row) (o : Obj) : a.grownBy (w.alloc o) row :=
  ⟨h.os, h.tape, h.output, Nat.le_trans h.size (by simp), fun i hi hne => (Below.heap_alloc w o i (Nat.lt_of_lt_of_le hi h.size)).trans (h.block i hi hne)⟩
theorem grownBy_own {a w w' : World} {row own : Option Nat} (h : a.grownBy w row) (hg : w.grownBy w' own) (ho : ∀ g, own = some g → a.heap.size ≤ g) : a.grownBy w' row :=
  ⟨hg.os.trans h.os, hg.tape.trans h.tape, hg.output.trans h.output, Nat.le_trans h.size hg.size, fun i hi hne =>
    (hg.block i (Nat.lt_of_lt_of_le hi h.size) (fun e => by have := ho i e.symm; omega)).trans (h.block i hi hne)⟩

/-- One element more, where the reader's block may have turned. -/
theorem trips_step2 {wr w1 w2 : World} {base k rb : Nat} {v v2 : Value} {cells : List Value} {acc : List Tr} {kd : Tr} {x0 x1 x2 : Value} {o : Obj}
    (hown : wr.ownsRow base 25 3 v k cells) (ht : Trips (fun b => base ≤ b ∧ v.ownBlock ≠ some b) wr acc cells) (hgr : wr.grownBy w1 (some rb)) (hrb : rb < base) (hbase : base ≤ wr.heap.size)
    (hL : Lies (fun b => wr.heap.size ≤ b) w1 kd (.agg #[x0, x1, x2])) (hg : (w1.alloc o).grownBy w2 v.ownBlock) (hat : v2.ownBlock = v.ownBlock ∨ v2.ownBlock = some (w1.alloc o).heap.size) :
    Trips (fun b => base ≤ b ∧ v2.ownBlock ≠ some b) w2 (acc ++ [kd]) (cells ++ [x0, x1, x2]) := by
  have hs1 := hgr.size
  have hsa : (w1.alloc o).heap.size = w1.heap.size + 1 := by simp
  refine Trips.snoc _ (Lies.to ?_ kd _ hL) _ (Trips.to ?_ acc _ ht)
  · intro g hg1 hlt
    have hne : v.ownBlock ≠ some g := by
      intro he; have := (hown.lt g he).2; omega
    refine ⟨(hg.block g (by omega) (fun e => hne e.symm)).trans (Below.heap_alloc w1 o g hlt), by omega, ?_⟩
    rcases hat with h | h
    · rw [h]; exact hne
    · rw [h]; intro e; injection e with e; omega
  · rintro g ⟨hb, hne⟩ hlt
    refine ⟨((hg.block g (by omega) (fun e => hne e.symm)).trans (Below.heap_alloc w1 o g (by omega))).trans (hgr.block g hlt (fun e => by injection e with e; omega)), hb, ?_⟩
    rcases hat with h | h
    · rw [h]; exact hne
    · rw [h]; intro e; injection e with e; omega

theorem own_ne_rb {w : World} {base n rb : Nat} {v : Value} {xs : List Value} (h : w.ownsRow base 25 3 v n xs) (hrb : rb < base) : v.ownBlock = none ∨ v.ownBlock ≠ some rb := by
  right; intro he; have := (h.lt rb he).1; omega
theorem set_far (w : World) (rb o : Nat) (u : Value) (g : Nat) (h : g ≠ rb) : (w.setCell ⟨rb, o, none⟩ u).heap[g]? = w.heap[g]? := Below.heap_setCell _ _ _ _ h
theorem rdKids_close {rd : Nat → List UInt8 → Except Nat (Tr × List UInt8)} {f : Nat} {acc : List Tr} {c : UInt8} {r : List UInt8} (h : c = 41) : rdKids rd (f + 1) acc (c :: r) = .ok (acc, r) := by rw [rdKids, if_pos h]
theorem rdKids_err {rd : Nat → List UInt8 → Except Nat (Tr × List UInt8)} {f n : Nat} {acc : List Tr} {c : UInt8} {r : List UInt8} (h : c ≠ 41) (he : rd acc.length (c :: r) = .error n) : rdKids rd (f + 1) acc (c :: r) = .error n := by rw [rdKids, if_neg h, he]
theorem rdKids_go {rd : Nat → List UInt8 → Except Nat (Tr × List UInt8)} {f : Nat} {acc : List Tr} {c : UInt8} {r r' : List UInt8} {t : Tr} (h : c ≠ 41) (he : rd acc.length (c :: r) = .ok (t, r')) : rdKids rd (f + 1) acc (c :: r) = rdKids rd f (acc ++ [t]) r' := by rw [rdKids, if_neg h, he]

theorem byte_ne {c : UInt8} {k : Nat} (hk : k < 256) (h : c ≠ UInt8.ofNat k) : ((c.toNat : Int) != (k : Int)) = true := by
  simp; intro he; apply h
  apply UInt8.toNat_inj.1
  rw [UInt8.toNat_ofNat']; omega

set_option maxHeartbeats 400000 in
theorem kids_of_node (d : Nat) (hd : d ≤ 12) (hN : NodeOk d) : KidsOk d := by
  intro s rb p0 L w hL hs hb hp0
  have HLV := Lib.hid hL
  clear hL
  obtain ⟨i0, hi0, hz0, hz1, hz2⟩ := info_parts node_info
  have hrb := hb.lt
  have HB := Lib.hid hb
  have HN := Lib.hid hN
  clear hb hN
  obtain ⟨R, hR⟩ : ∃ R, R = rdKids (rdNode d) ((s.data.toList.drop p0).length + 1) [] (s.data.toList.drop p0) := ⟨_, rfl⟩
  rw [← hR]
  have HR := Lib.hid hR
  clear hR
  go_enter Tryd.func33, Tryd.ntmps33
  go_wp2_with fail
  go_loopg [5] ((s.data.toList.drop p0).length + 1) (fun f v wr => ∃ (p : Nat) (acc : List Tr) (cells : List Value), p ≤ s.size ∧ Rd wr rb s p ∧ wr.ownsRow w.heap.size 25 3 v acc.length cells ∧ Trips (fun b => w.heap.size ≤ b ∧ v.ownBlock ≠ some b) wr acc cells ∧
      w.grownBy wr (some rb) ∧ acc.length ≤ 256 ∧ (s.data.toList.drop p).length < f ∧ rdKids (rdNode d) f acc (s.data.toList.drop p) = R)
  case atStart => exact ⟨p0, [], [], hp0, HB.out, World.ownsRow_nil _ _ _ _, by rw [Trips], grownBy_refl _ _, by simp, by omega, HR.out.symm⟩
  case round =>
    obtain ⟨p, acc, cells, hp, hrd, hown, htr, hgr, hacc, hfu, hres⟩ := hrel
    obtain ⟨A1, c1, rfl⟩ : ∃ A c, u5 = .slice A acc.length c := by
      rcases hown.2 with ⟨h1, h2⟩ | ⟨g, cap, cur, h1, _⟩
      · exact ⟨none, 0, by rw [h1, h2]⟩
      · exact ⟨_, _, h1⟩
    obtain ⟨f, rfl⟩ : ∃ f, gk = f + 1 := ⟨gk - 1, by omega⟩
    obtain ⟨d0, d1, g1⟩ := hrd.cells
    have hwB := hgr.size
    have HRD := Lib.hid hrd
    have HG := Lib.hid hgr
    have HX := Lib.hid hres
    have HO := Lib.hid hown
    have HT := Lib.hid htr
    have HF := Lib.hid hfu
    clear hrd hgr hres hown htr hfu HB HR
    cases hdr : s.data.toList.drop p with
    | nil =>
      have hE : Hid (R = .error 4) := by rw [← HX.out, hdr]; exact rfl
      have HDR := Lib.hid hdr
      clear hdr
      go_wp2_with fail
      refine (next_none s rb p _ HRD.out HDR.out hp).mono ?_
      rintro e w1 ⟨rfl, k1, rfl⟩
      refine ⟨rfl, ?_⟩
      rw [hE.out]
      exact ⟨rfl, grownBy_alike HG.out rfl rfl rfl rfl⟩
    | cons c r =>
      obtain ⟨hlt, _, hdr2⟩ := drop_get hdr
      have HX2 := HX.out
      rw [hdr] at HX2
      have HDR := Lib.hid hdr
      have HDR2 := Lib.hid hdr2
      clear hdr hdr2 HX
      by_cases h41 : c = 41
      · rw [rdKids_close h41] at HX2
        subst h41
        have hE := Lib.hid HX2.symm
        clear HX2
        go_wp2_with fail
        refine (next_some s rb p 41 r _ HRD.out HDR.out).mono ?_
        rintro e w1 ⟨rfl, k1, rfl⟩
        go_wp2_with fail
        go_returns
        rw [hE.out]
        refine ⟨_, cells, rfl, ?_, ?_, grownBy_alike (grownBy_set HG.out 1 (.int .i64 ((p + 1 : Nat) : Int))) rfl rfl rfl rfl, p + 1, (Rd.set HRD.out (q := p + 1)).alike rfl, HDR2.out, hlt⟩
        · exact HO.out.kept (row := some rb) (grownBy_alike (grownBy_set (grownBy_refl wr _) 1 (.int .i64 ((p + 1 : Nat) : Int))) rfl rfl rfl rfl) (own_ne_rb HO.out hrb)
        · exact Trips.to (w := wr) (fun g hg _ => ⟨set_far (wr.drewN k1) rb 1 _ g (by omega), hg.1⟩) _ _ HT.out
      · have h41b := byte_ne (k := 41) (by omega) h41
        go_wp2_with fail
        refine (next_some s rb p c r _ HRD.out HDR.out).mono ?_
        rintro e w1 ⟨rfl, k1, rfl⟩
        go_wp2_with fail
        refine (HN.out s rb p acc.length L _ HLV.out hs (HRD.out.drewN _) hp (by omega)).mono ?_
        rw [HDR.out]
        cases hrn : rdNode d acc.length (c :: r) with
        | error n =>
          rintro e w2 ⟨rfl, hg2⟩
          refine ⟨rfl, ?_⟩
          rw [← HX2, rdKids_err h41 hrn]
          exact ⟨rfl, World.grownBy.trans (b := wr.drewN k1) (grownBy_alike HG.out rfl rfl rfl rfl) hg2⟩
        | ok tr =>
          obtain ⟨t, r'⟩ := tr
          rintro e w2 ⟨v', rfl, hL, hg2, p2, hrd2, hdr3, hp2⟩
          obtain ⟨he1, _, hcnt⟩ := rdNode_inv d _ _ _ _ hd hrn
          rw [rdKids_go h41 hrn] at HX2
          have hlen : r'.length < (c :: r).length := by
            rw [he1]; have := enc_pos t; simp; omega
          have hfl := HF.out
          rw [HDR.out] at hfl
          obtain ⟨se, Ae, ce, rfl, _⟩ := hL.open_
          have hg3 : wr.grownBy w2 (some rb) := World.grownBy.trans (b := wr.drewN k1) (grownBy_alike (grownBy_refl wr _) rfl rfl rfl rfl) hg2
          have hL3 : Lies (fun b => wr.heap.size ≤ b) w2 t _ := Lies.mono (fun g _ hg => hg) _ _ hL
          have hown2 := HO.out.kept hg3 (own_ne_rb HO.out hrb)
          have hs2 := hg3.size
          have HL3 := Lib.hid hL3
          have HG3 := Lib.hid hg3
          have HO2 := Lib.hid hown2
          have HRD2 := Lib.hid hrd2
          have HDR3 := Lib.hid hdr3
          have HE := Lib.hid HX2
          have HLN := Lib.hid hlen
          have HFL := Lib.hid hfl
          clear hL hL3 hg2 hg3 hown2 hrd2 hdr3 HX2 hlen hfl he1 hrn HF
          go_wp2_with (at_builtin; (refine wpList_append_own_at _ rfl (.tmp 9) (.tmp 15) 23 rfl w.heap.size 25 i0 _ 3 48 Tryd.underlying23 hi0 hz0 hz1 hz2 rfl (by decide) _ acc.length cells rfl (HO2.out.alloc _) ⟨w2.heap.size, 0, none⟩ 1 1 _ rfl rfl (cells_three _ _ _ _ _) (oneCell_three _ _ _ _ _) (by unfold maxLen; omega) (by omega) (by simp; omega) ?_); intro v3 w3 hown3 hg4 hnil3 hat3)
          go_roundg f
          case measure => omega
          case rel =>
            refine ⟨p2, acc ++ [t], _, hp2, ?_, ?_, trips_step2 HO.out HT.out HG3.out hrb hwB HL3.out hg4 hat3, ?_, by simp; omega, ?_, ?_⟩
            · exact (HRD2.out.alloc _).grown hg4 (fun e => by have := (HO.out.lt rb e.symm).1; omega)
            · simpa using hown3
            · exact grownBy_own (grownBy_alloc (World.grownBy.trans HG.out HG3.out) _) hg4 (fun g hg => (HO.out.lt g hg).1)
            · rw [HDR3.out]; have h1 := HLN.out; have h2 := HFL.out; omega
            · rw [HDR3.out]; exact HE.out


/-! ### node -/
theorem rdNode_bad {d count : Nat} {c : UInt8} {r : List UInt8} (h1 : c ≠ 40) (h2 : isDig c = false) : rdNode d count (c :: r) = .error 2 := by
  cases d with
  | zero => rw [rdNode, if_pos ⟨h1, h2⟩]
  | succ d => rw [rdNode, if_pos ⟨h1, h2⟩]
theorem rdNode_deep {count : Nat} {c : UInt8} {r : List UInt8} (h : c = 40 ∨ isDig c = true) : rdNode 0 count (c :: r) = .error 5 := by
  rw [rdNode, if_neg (by rintro ⟨g1, g2⟩; rcases h with h | h; exact g1 h; rw [h] at g2; cases g2)]
theorem rdNode_many {d count : Nat} {c : UInt8} {r : List UInt8} (h : c = 40 ∨ isDig c = true) (hc : 256 ≤ count) : rdNode (d + 1) count (c :: r) = .error 5 := by
  rw [rdNode, if_neg (by rintro ⟨g1, g2⟩; rcases h with h | h; exact g1 h; rw [h] at g2; cases g2), if_pos hc]
theorem rdNode_list_err {d count n : Nat} {r : List UInt8} (hc : count < 256) (he : rdKids (rdNode d) (r.length + 1) [] r = .error n) : rdNode (d + 1) count (40 :: r) = .error n := by
  rw [rdNode, if_neg (by simp), if_neg (by omega), if_pos rfl, he]
theorem rdNode_list_ok {d count : Nat} {r r' : List UInt8} {ks : List Tr} (hc : count < 256) (he : rdKids (rdNode d) (r.length + 1) [] r = .ok (ks, r')) : rdNode (d + 1) count (40 :: r) = .ok (.mk true [] ks, r') := by
  rw [rdNode, if_neg (by simp), if_neg (by omega), if_pos rfl, he]
theorem rdNode_text {d count : Nat} {c : UInt8} {r : List UInt8} (h1 : c ≠ 40) (h2 : isDig c = true) (hc : count < 256) : rdNode (d + 1) count (c :: r) = rdText (c :: r) := by
  rw [rdNode, if_neg (by simp [h2]), if_neg (by omega), if_neg h1]

theorem grownBy_trans_draw {a b c : World} {row : Option Nat} (h : a.grownBy b row) (n : Nat) (k : (b.drewN n).grownBy c row) : a.grownBy c row :=
  World.grownBy.trans (b := b.drewN n) (grownBy_alike h rfl rfl rfl rfl) k

/-- The ways that node leaves ahead of the reading itself: d levels are left. -/
theorem node_faults (d : Nat) (s : ByteArray) (rb p count : Nat) (L : Int) (w : World) (hL : L = 13 - (d : Int)) (hd : d ≤ 12) (hb : Rd w rb s p) (hp : p ≤ s.size) (hcount : count ≤ 1000) (n : Nat)
    (hE : rdNode d count (s.data.toList.drop p) = .error n)
    (hcase : s.data.toList.drop p = [] ∨ ∃ c r, s.data.toList.drop p = c :: r ∧ ((c ≠ 40 ∧ isDig c = false) ∨ ((c = 40 ∨ isDig c = true) ∧ (d = 0 ∨ 256 ≤ count)))) :
    Calls Tryd.prog 25 #[.pointer (some ⟨rb, 0, none⟩), .int .i64 L, .int .i64 (count : Int)] w (NodePost s rb (.error n) w) := by
  have HB := Lib.hid (hb.alloc (.cells #[.bool false, .string ⟨#[]⟩, .slice none 0 0] 25))
  have hgA := Lib.hid (grownBy_alloc (grownBy_refl w (some rb)) (.cells #[.bool false, .string ⟨#[]⟩, .slice none 0 0] 25))
  clear hb
  have hl1 : 1 ≤ L := by omega
  have hl2 : L ≤ 13 := by omega
  rcases hcase with hdr | ⟨c, r, hdr, hways⟩
  · rw [hdr] at hE
    have hn : n = 4 := by
      cases d with
      | zero => injection hE with h; exact h.symm
      | succ d => injection hE with h; exact h.symm
    subst hn
    have HDR := Lib.hid hdr
    clear hdr hE hL
    go_enter Tryd.func25, Tryd.ntmps25
    go_wp2_with fail
    refine (next_none s rb p _ HB.out HDR.out hp).mono ?_
    rintro e w1 ⟨rfl, k1, rfl⟩
    refine ⟨rfl, ?_⟩
    exact ⟨rfl, grownBy_alike hgA.out rfl rfl rfl rfl⟩
  · rw [hdr] at hE
    have HDR := Lib.hid hdr
    clear hdr
    rcases hways with ⟨h40, hdg⟩ | ⟨hok, hmany⟩
    · rw [rdNode_bad h40 hdg] at hE
      injection hE with hE
      subst hE
      have h40b : ((c.toNat : Int) != 40) = true := byte_ne (k := 40) (by omega) h40
      have HD := Lib.hid hdg
      clear hdg hL
      go_enter Tryd.func25, Tryd.ntmps25
      go_wp2_with fail
      refine (next_some s rb p c r _ HB.out HDR.out).mono ?_
      rintro e w1 ⟨rfl, k1, rfl⟩
      go_wp2_with fail
      refine (isDigit_any c _).mono ?_
      rw [HD.out]
      rintro e w1 ⟨rfl, rfl⟩
      go_wp2_with fail
      refine ⟨rfl, ?_⟩
      exact ⟨rfl, grownBy_alike hgA.out rfl rfl rfl rfl⟩
    · have hn : n = 5 := by
        cases d with
        | zero => rw [rdNode_deep hok] at hE; injection hE with h; exact h.symm
        | succ d =>
          rcases hmany with h | h
          · omega
          · rw [rdNode_many hok h] at hE; injection hE with h; exact h.symm
      subst hn
      have hm2 : (12 : Int) < L ∨ (L ≤ 12 ∧ (256 : Int) ≤ (count : Int)) := by omega
      clear hmany hE hL
      by_cases h40 : c = 40
      · subst h40
        rcases hm2 with h | ⟨h, h'⟩
        all_goals
          go_enter Tryd.func25, Tryd.ntmps25
          go_wp2_with fail
          refine (next_some s rb p 40 r _ HB.out HDR.out).mono ?_
          rintro e w1 ⟨rfl, k1, rfl⟩
          go_wp2_with fail
          refine ⟨rfl, ?_⟩
          exact ⟨rfl, grownBy_alike hgA.out rfl rfl rfl rfl⟩
      · have hdg : isDig c = true := by
          rcases hok with h | h
          · exact absurd h h40
          · exact h
        have h40b : ((c.toNat : Int) != 40) = true := byte_ne (k := 40) (by omega) h40
        have HD := Lib.hid hdg
        clear hdg hok
        rcases hm2 with h | ⟨h, h'⟩
        all_goals
          go_enter Tryd.func25, Tryd.ntmps25
          go_wp2_with fail
          refine (next_some s rb p c r _ HB.out HDR.out).mono ?_
          rintro e w1 ⟨rfl, k1, rfl⟩
          go_wp2_with fail
          refine (isDigit_any c _).mono ?_
          rw [HD.out]
          rintro e w1 ⟨rfl, rfl⟩
          go_wp2_with fail
          refine ⟨rfl, ?_⟩
          exact ⟨rfl, grownBy_alike hgA.out rfl rfl rfl rfl⟩

set_option maxHeartbeats 400000 in
theorem node_list (d : Nat) (hK : KidsOk d) (s : ByteArray) (rb p count : Nat) (L : Int) (w : World) (hL : L = 12 - (d : Int)) (hd : d ≤ 11) (hs : s.size ≤ 20000) (hb : Rd w rb s p) (hcount : count < 256) (r : List UInt8) (hdr : s.data.toList.drop p = 40 :: r) :
    Calls Tryd.prog 25 #[.pointer (some ⟨rb, 0, none⟩), .int .i64 L, .int .i64 (count : Int)] w (NodePost s rb (rdNode (d + 1) count (40 :: r)) w) := by
  have HB := Lib.hid (hb.alloc (.cells #[.bool false, .string ⟨#[]⟩, .slice none 0 0] 25))
  have hgA := Lib.hid (grownBy_alloc (grownBy_refl w (some rb)) (.cells #[.bool false, .string ⟨#[]⟩, .slice none 0 0] 25))
  have hblk := Lib.hid (Blk.new w 25 #[.bool false, .string ⟨#[]⟩, .slice none 0 0])
  have hrb := hb.lt
  obtain ⟨d0, d1, g1⟩ := HB.out.cells
  clear hb
  obtain ⟨hlt, _, hdr2⟩ := drop_get hdr
  have HDR := Lib.hid hdr
  have HDR2 := Lib.hid hdr2
  have HKK := Lib.hid hK
  have HL := Lib.hid hL
  have hl1 : 1 ≤ L := by omega
  have hl2 : L ≤ 12 := by omega
  clear hdr hdr2 hK hL
  go_enter Tryd.func25, Tryd.ntmps25
  go_wp2_with fail
  refine (next_some s rb p 40 r _ HB.out HDR.out).mono ?_
  rintro e w1 ⟨rfl, k1, rfl⟩
  go_wp2_with fail
  obtain ⟨W, hW⟩ : ∃ W : World, W = ((w.alloc (Obj.cells #[.bool false, .string ⟨#[]⟩, .slice none 0 0] 25)).drewN k1).setCell ⟨rb, 1, none⟩ (.int .i64 ((p : Int) + 1)) := ⟨_, rfl⟩
  rw [← hW]
  have hrd : Rd W rb s (p + 1) := by rw [hW]; exact Rd.set (HB.out.drewN k1) (q := p + 1)
  have hgW : w.grownBy W (some rb) := by rw [hW]; exact grownBy_set (grownBy_drewN hgA.out k1) 1 _
  have hbW : Blk W w.heap.size 25 #[.bool false, .string ⟨#[]⟩, .slice none 0 0] := by rw [hW]; exact (hblk.out.drewN k1).far (p := ⟨rb, 1, none⟩) (by simp; omega) _
  have hsW : w.heap.size + 1 ≤ W.heap.size := hbW.lt
  have HW := Lib.hid hgW
  have HBW := Lib.hid hbW
  clear hW hgW hbW d0 d1 g1
  refine (HKK.out s rb (p + 1) (L + 1) W (by have := HL.out; omega) hs hrd (by omega)).mono ?_
  rw [HDR2.out]
  clear hrd
  cases hrk : rdKids (rdNode d) (r.length + 1) [] r with
  | error n =>
    rintro e w2 ⟨rfl, hg2⟩
    refine ⟨rfl, ?_⟩
    rw [rdNode_list_err hcount hrk]
    exact ⟨rfl, World.grownBy.trans HW.out hg2⟩
  | ok kr =>
    obtain ⟨ks, r'⟩ := kr
    rintro e w2 ⟨v, cells, rfl, hown, htr, hg2, p2, hrd2, hdr3, hp2⟩
    obtain ⟨A1, c1, rfl⟩ : ∃ A c, v = .slice A ks.length c := by
      rcases hown.2 with ⟨h1, h2⟩ | ⟨g, cap, cur, h1, _⟩
      · exact ⟨none, 0, by rw [h1, h2]⟩
      · exact ⟨_, _, h1⟩
    have hb2 := HBW.out.grown hg2 (by intro e; injection e with e; omega)
    obtain ⟨⟨x0, x1, x2⟩, y0, y1, y2⟩ := hb2.three
    have hLt : Lies (fun b => W.heap.size ≤ b) w2 (.mk true [] ks) (.agg #[.bool true, .string ⟨#[]⟩, .slice A1 ks.length c1]) :=
      lies_of_owns hown htr rfl rfl (by simp) (fun g hg => hg)
    have HLT := Lib.hid hLt
    have HG2 := Lib.hid hg2
    have HR := Lib.hid (rdNode_list_ok hcount hrk)
    have HRD2 := Lib.hid hrd2
    have HD3 := Lib.hid hdr3
    clear hLt hown htr hg2 hrk hrd2 hdr3 hb2
    go_wp2_with fail
    refine bodyPost_ret (v := .agg #[.bool true, .string ⟨#[]⟩, .slice A1 ks.length c1]) (by simp [results, Tryd.results25, go_sem, x0, x1, x2]) rfl ?_
    rw [HR.out]
    refine ⟨_, rfl, ?_, ?_, p2, ?_, HD3.out, hp2⟩
    · refine Lies.to (fun g hg _ => ⟨?_, by omega⟩) _ _ HLT.out
      rw [set_far _ _ _ _ _ (by omega), set_far _ _ _ _ _ (by omega), set_far _ _ _ _ _ (by omega)]
    · have h1 := World.grownBy.trans HW.out HG2.out
      refine ⟨h1.os, h1.tape, h1.output, by simpa [World.setCell] using h1.size, fun i hi hne => ?_⟩
      rw [set_far _ _ _ _ _ (by omega), set_far _ _ _ _ _ (by omega), set_far _ _ _ _ _ (by omega)]
      exact h1.block i hi hne
    · exact Blk.far (Blk.far (Blk.far HRD2.out (p := ⟨w.heap.size, 0, none⟩) (by simp; omega) _) (p := ⟨w.heap.size, 1, none⟩) (by simp; omega) _) (p := ⟨w.heap.size, 2, none⟩) (by simp; omega) _
end Go.Proofs.YtfpeplpoliileaaDoor
