/- The walks of the reader: next, isDigit, length. -/
import Derived.Test.YtfpeplpoliileaaDoorMem
import Derived.Deep.LoopGhost
namespace Go.Proofs.YtfpeplpoliileaaDoor
open Go.RowKit Pl

/-- The panic with this error. -/
def fault (n : Nat) : List PanicEntry := [{ v := .iface 26 (.int .i64 n), recovered := false }]

/-- The reader's block: the text and where it is read next. -/
def Rd (w : World) (rb : Nat) (s : ByteArray) (p : Nat) : Prop := Blk w rb 45 #[.string s, .int .i64 (p : Int)]

theorem Rd.cells {w : World} {rb : Nat} {s : ByteArray} {p : Nat} (h : Rd w rb s p) : w.cell? ⟨rb, 0, none⟩ = some (.string s) ∧ w.cell? ⟨rb, 1, none⟩ = some (.int .i64 p) ∧ w.frozen? ⟨rb, 1, none⟩ = false :=
  ⟨Blk.cell h 0, Blk.cell h 1, Blk.frozen h 1⟩

theorem drop_get {s : ByteArray} {p : Nat} {c : UInt8} {r : List UInt8} (h : s.data.toList.drop p = c :: r) : p < s.size ∧ (∀ hp : p < s.size, s[p] = c) ∧ s.data.toList.drop (p + 1) = r := by
  have hl : p < s.data.toList.length := by
    apply Classical.byContradiction; intro hn
    rw [List.drop_of_length_le (by omega)] at h; cases h
  rw [List.drop_eq_getElem_cons hl] at h
  injection h with h1 h2
  refine ⟨by rw [Lib.size_eq]; exact hl, fun hp => ?_, h2⟩
  rw [← h1]; rfl
theorem drop_nil {s : ByteArray} {p : Nat} (h : s.data.toList.drop p = []) (hp : p ≤ s.size) : p = s.size := by
  have := List.drop_eq_nil_iff.1 h
  rw [← Lib.size_eq] at this
  omega

theorem next_some (s : ByteArray) (rb p : Nat) (c : UInt8) (r : List UInt8) (w : World) (hb : Rd w rb s p) (h : s.data.toList.drop p = c :: r) :
    Calls Tryd.prog 31 #[.pointer (some ⟨rb, 0, none⟩)] w fun e w' => e = .returned (.int .u8 (c.toNat : Int)) ∧ ∃ n, w' = w.drewN n := by
  obtain ⟨hp, hc, _⟩ := drop_get h
  obtain ⟨c0, c1, f1⟩ := hb.cells
  have hne : ((p : Int) == (s.size : Int)) = false := by simp; omega
  have hpi : (p : Int) < (s.size : Int) := by omega
  have hc2 : s[p] = c := hc hp
  have HC := Lib.hid hc2
  clear h hc hc2 hb
  go_enter Tryd.func31, Tryd.ntmps31
  go_wp2_with fail
  go_quiet (fail)
  go_wp2_with fail
  go_quiet (fail)
  go_wp2_with fail
  go_returns
  exact ⟨ret_int (by rw [HC.out]), _, World.drewN_drewN _ _ _⟩
theorem next_none (s : ByteArray) (rb p : Nat) (w : World) (hb : Rd w rb s p) (h : s.data.toList.drop p = []) (hp : p ≤ s.size) :
    Calls Tryd.prog 31 #[.pointer (some ⟨rb, 0, none⟩)] w fun e w' => e = .panicked (fault 4) ∧ ∃ n, w' = w.drewN n := by
  obtain rfl := drop_nil h hp
  obtain ⟨c0, c1, f1⟩ := hb.cells
  have hne : ((s.size : Int) == (s.size : Int)) = true := by simp
  clear h hb
  go_enter Tryd.func31, Tryd.ntmps31
  go_wp2_with fail
  go_quiet (fail)
  go_wp2_with fail
  exact ⟨rfl, rfl, _, rfl⟩

theorem isDigit_any (c : UInt8) (w : World) : Calls Tryd.prog 32 #[.int .u8 (c.toNat : Int)] w fun e w' => e = .returned (.bool (isDig c)) ∧ w = w' := by
  have hc : (c.toNat : Int) ≤ 255 := by have := c.toNat_lt; omega
  have HI : Hid (isDig c = (decide (48 ≤ c.toNat) && decide (c.toNat ≤ 57))) := rfl
  by_cases h1 : 48 ≤ c.toNat
  · by_cases h2 : c.toNat ≤ 57
    all_goals
      go_enter Tryd.func32, Tryd.ntmps32
      go_wp2_with fail
      go_returns
      refine ⟨ret_bool ?_, rfl⟩
      rw [HI.out]
      rw [Bool.eq_iff_iff]; simp; omega
  · go_enter Tryd.func32, Tryd.ntmps32
    go_wp2_with fail
    go_returns
    refine ⟨ret_bool ?_, rfl⟩
    rw [HI.out]; simp; omega

/-- What the call of a reading method leaves: the world but for the reader's block and new blocks; the reader at its new place. -/
def LenPost (s : ByteArray) (rb : Nat) (res : Except Nat (Nat × List UInt8)) (w : World) (e : Ending) (w' : World) : Prop :=
  match res with
  | .ok (n, r) => e = .returned (.int .i64 (n : Int)) ∧ n ≤ 20000 ∧ w.grownBy w' (some rb) ∧ ∃ p, Rd w' rb s p ∧ s.data.toList.drop p = r ∧ p ≤ s.size
  | .error n => e = .panicked (fault n) ∧ w.grownBy w' (some rb)

theorem grownBy_refl (w : World) (row : Option Nat) : w.grownBy w row := ⟨rfl, rfl, rfl, Nat.le_refl _, fun _ _ _ => rfl⟩
theorem grownBy_drewN {a w : World} {row : Option Nat} (h : a.grownBy w row) (n : Nat) : a.grownBy (w.drewN n) row := ⟨h.os, h.tape, h.output, h.size, h.block⟩
theorem grownBy_set {a w : World} {g : Nat} (h : a.grownBy w (some g)) (o : Nat) (u : Value) : a.grownBy (w.setCell ⟨g, o, none⟩ u) (some g) :=
  ⟨h.os, h.tape, h.output, by simpa [World.setCell] using h.size, fun i hi hne => (Below.heap_setCell w ⟨g, o, none⟩ u i (fun e => hne (by rw [e]))).trans (h.block i hi hne)⟩
theorem grownBy_alike {a w w' : World} {row : Option Nat} (h : a.grownBy w row) (h1 : w'.os = w.os) (h2 : w'.tape = w.tape) (h3 : w'.output = w.output) (h4 : w'.heap = w.heap) : a.grownBy w' row :=
  ⟨h1.trans h.os, h2.trans h.tape, h3.trans h.output, by rw [h4]; exact h.size, fun i hi hne => by rw [h4]; exact h.block i hi hne⟩
theorem Rd.alike {w w' : World} {rb : Nat} {s : ByteArray} {p : Nat} (h : Rd w rb s p) (h4 : w'.heap = w.heap) : Rd w' rb s p := by
  unfold Rd Blk at h ⊢; rw [h4]; exact h
theorem Rd.drewN {w : World} {rb : Nat} {s : ByteArray} {p : Nat} (h : Rd w rb s p) (n : Nat) : Rd (w.drewN n) rb s p := h
theorem Rd.set {w : World} {rb : Nat} {s : ByteArray} {p q : Nat} (h : Rd w rb s p) : Rd (w.setCell ⟨rb, 1, none⟩ (.int .i64 (q : Int))) rb s q := Blk.set_ h 1 (.int .i64 (q : Int))

theorem rdLen_digit {n : Nat} {b : Bool} {c : UInt8} {r : List UInt8} (hd : isDig c = true) : rdLen n b (c :: r) = if b = false ∧ n = 0 then .error 2 else if 20000 < 10 * n + (c.toNat - 48) then .error 5 else rdLen (10 * n + (c.toNat - 48)) false r := by
  rw [rdLen, if_pos hd]
theorem rdLen_other {n : Nat} {b : Bool} {c : UInt8} {r : List UInt8} (hd : isDig c = false) : rdLen n b (c :: r) = if c = 58 then .ok (n, r) else .error 2 := by
  rw [rdLen, if_neg (by simp [hd])]

set_option maxHeartbeats 400000 in
theorem length_any (s : ByteArray) (rb p0 : Nat) (w : World) (hs : s.size ≤ 20000) (hb : Rd w rb s p0) (hp0 : p0 ≤ s.size) :
    Calls Tryd.prog 34 #[.pointer (some ⟨rb, 0, none⟩)] w (LenPost s rb (rdLen 0 true (s.data.toList.drop p0)) w) := by
  obtain ⟨c0, c1, f1⟩ := hb.cells
  have HB := Lib.hid hb
  clear hb
  obtain ⟨R, hR⟩ : ∃ R, R = rdLen 0 true (s.data.toList.drop p0) := ⟨_, rfl⟩
  rw [← hR]
  have HR := Lib.hid hR
  clear hR
  go_enter Tryd.func34, Tryd.ntmps34
  go_wp2_with fail
  go_loopg [3] (s.size - p0) (fun g nv wr => ∃ p n : Nat, p0 ≤ p ∧ p ≤ s.size ∧ g = s.size - p ∧ nv = .int .i64 (n : Int) ∧ n ≤ 20000 ∧ Rd wr rb s p ∧ w.grownBy wr (some rb) ∧ rdLen n (decide (p = p0)) (s.data.toList.drop p) = R)
  case atStart => exact ⟨p0, 0, Nat.le_refl _, hp0, rfl, rfl, by omega, HB.out, grownBy_refl _ _, by rw [HR.out, decide_eq_true rfl]⟩
  case round =>
    obtain ⟨p, n, hp1, hp2, hg, rfl, hn, hrd, hgr, hres⟩ := hrel
    obtain ⟨d0, d1, g1⟩ := hrd.cells
    have HRD := Lib.hid hrd
    have HG := Lib.hid hgr
    have HX := Lib.hid hres
    have HGK := Lib.hid hg
    clear hrd hgr hres hg
    cases hdr : s.data.toList.drop p with
    | nil =>
      have hE : Hid (R = .error 4) := by rw [← HX.out, hdr]; exact rfl
      have HDR := Lib.hid hdr
      clear hdr
      go_wp2_with fail
      refine (next_none s rb p _ HRD.out HDR.out hp2).mono ?_
      rintro e w1 ⟨rfl, k1, rfl⟩
      refine ⟨rfl, ?_⟩
      rw [hE.out]
      exact ⟨rfl, grownBy_drewN HG.out _⟩
    | cons c r =>
      obtain ⟨hlt, _, hdr2⟩ := drop_get hdr
      have HX2 := HX.out
      rw [hdr] at HX2
      have HDR := Lib.hid hdr
      have HDR2 := Lib.hid hdr2
      have hc255 : c.toNat ≤ 255 := by have := c.toNat_lt; omega
      clear hdr hdr2 HX
      cases hd : isDig c
      · -- no digit
        rw [rdLen_other hd] at HX2
        have HD := Lib.hid hd
        clear hd
        by_cases h58 : c = 58
        · rw [if_pos h58] at HX2
          subst h58
          have hE := Lib.hid HX2.symm
          clear HX2
          go_wp2_with fail
          refine (next_some s rb p 58 r _ HRD.out HDR.out).mono ?_
          rintro e w1 ⟨rfl, k1, rfl⟩
          go_wp2_with fail
          refine (isDigit_any 58 _).mono ?_
          rw [HD.out]
          rintro e w1 ⟨rfl, rfl⟩
          go_wp2_with fail
          refine (next_some s rb p 58 r _ (HRD.out.drewN _) HDR.out).mono ?_
          rintro e w1 ⟨rfl, k2, rfl⟩
          go_wp2_with fail
          go_returns
          rw [hE.out]
          exact ⟨rfl, hn, grownBy_alike (grownBy_set HG.out 1 (.int .i64 ((p + 1 : Nat) : Int))) rfl rfl rfl rfl, p + 1, (Rd.set HRD.out (q := p + 1)).alike rfl, HDR2.out, hlt⟩
        · rw [if_neg h58] at HX2
          have hE := Lib.hid HX2.symm
          clear HX2
          have h58b : ((c.toNat : Int) != 58) = true := by
            simp; intro h; apply h58
            have : c.toNat = (58 : UInt8).toNat := by simp; omega
            exact UInt8.toNat_inj.1 this
          go_wp2_with fail
          refine (next_some s rb p c r _ HRD.out HDR.out).mono ?_
          rintro e w1 ⟨rfl, k1, rfl⟩
          go_wp2_with fail
          refine (isDigit_any c _).mono ?_
          rw [HD.out]
          rintro e w1 ⟨rfl, rfl⟩
          go_wp2_with fail
          refine (next_some s rb p c r _ (HRD.out.drewN _) HDR.out).mono ?_
          rintro e w1 ⟨rfl, k2, rfl⟩
          go_wp2_with fail
          refine ⟨rfl, ?_⟩
          rw [hE.out]
          exact ⟨rfl, grownBy_alike HG.out rfl rfl rfl rfl⟩
      · -- a digit
        have hcd := (isDig_iff c).1 hd
        obtain ⟨hcd1, hcd2⟩ := hcd
        rw [rdLen_digit hd] at HX2
        have HD := Lib.hid hd
        clear hd
        by_cases hz : p ≠ p0 ∧ n = 0
        · obtain ⟨hz1, rfl⟩ := hz
          rw [if_pos ⟨decide_eq_false hz1, rfl⟩] at HX2
          have hE := Lib.hid HX2.symm
          have hpp : (p0 : Int) < (p : Int) := by omega
          clear HX2
          go_wp2_with fail
          refine (next_some s rb p c r _ HRD.out HDR.out).mono ?_
          rintro e w1 ⟨rfl, k1, rfl⟩
          go_wp2_with fail
          refine (isDigit_any c _).mono ?_
          rw [HD.out]
          rintro e w1 ⟨rfl, rfl⟩
          go_wp2_with fail
          refine ⟨rfl, ?_⟩
          rw [hE.out]
          exact ⟨rfl, grownBy_alike HG.out rfl rfl rfl rfl⟩
        · rw [if_neg (by intro hx; exact hz ⟨of_decide_eq_false hx.1, hx.2⟩)] at HX2
          have hzw : p = p0 ∨ (p0 < p ∧ n ≠ 0) := by omega
          clear hz
          by_cases hbig : 20000 < 10 * n + (c.toNat - 48)
          · rw [if_pos hbig] at HX2
            have hE := Lib.hid HX2.symm
            clear HX2
            have hbi : (20000 : Int) < 10 * (n : Int) + ((c.toNat : Int) - 48) := by omega
            rcases hzw with hz | ⟨hz1, hz2⟩
            · subst hz
              go_wp2_with fail
              refine (next_some s rb p c r _ HRD.out HDR.out).mono ?_
              rintro e w1 ⟨rfl, k1, rfl⟩
              go_wp2_with fail
              refine (isDigit_any c _).mono ?_
              rw [HD.out]
              rintro e w1 ⟨rfl, rfl⟩
              go_wp2_with fail
              refine (next_some s rb p c r _ (HRD.out.drewN _) HDR.out).mono ?_
              rintro e w1 ⟨rfl, k2, rfl⟩
              go_wp2_with fail
              refine ⟨rfl, ?_⟩
              rw [hE.out]
              exact ⟨rfl, grownBy_alike HG.out rfl rfl rfl rfl⟩
            · have hzi : (p0 : Int) < (p : Int) := by omega
              have hnz : ((n : Int) == 0) = false := by simp; omega
              go_wp2_with fail
              refine (next_some s rb p c r _ HRD.out HDR.out).mono ?_
              rintro e w1 ⟨rfl, k1, rfl⟩
              go_wp2_with fail
              refine (isDigit_any c _).mono ?_
              rw [HD.out]
              rintro e w1 ⟨rfl, rfl⟩
              go_wp2_with fail
              refine (next_some s rb p c r _ (HRD.out.drewN _) HDR.out).mono ?_
              rintro e w1 ⟨rfl, k2, rfl⟩
              go_wp2_with fail
              refine ⟨rfl, ?_⟩
              rw [hE.out]
              exact ⟨rfl, grownBy_alike HG.out rfl rfl rfl rfl⟩
          · rw [if_neg hbig] at HX2
            have HE := Lib.hid HX2
            clear HX2
            have hbi : ¬ (20000 : Int) < 10 * (n : Int) + ((c.toNat : Int) - 48) := by omega
            have hdf : decide (p + 1 = p0) = false := decide_eq_false (by omega)
            have HDF := Lib.hid hdf
            clear hdf
            rcases hzw with hz | ⟨hz1, hz2⟩
            · subst hz
              go_wp2_with fail
              refine (next_some s rb p c r _ HRD.out HDR.out).mono ?_
              rintro e w1 ⟨rfl, k1, rfl⟩
              go_wp2_with fail
              refine (isDigit_any c _).mono ?_
              rw [HD.out]
              rintro e w1 ⟨rfl, rfl⟩
              go_wp2_with fail
              refine (next_some s rb p c r _ (HRD.out.drewN _) HDR.out).mono ?_
              rintro e w1 ⟨rfl, k2, rfl⟩
              go_wp2_with fail
              go_roundg (s.size - (p + 1))
              case measure => have := HGK.out; omega
              case rel => exact ⟨p + 1, 10 * n + (c.toNat - 48), by omega, by omega, rfl, by go_num, by omega, (Rd.set HRD.out (q := p + 1)).alike rfl, grownBy_alike (grownBy_set HG.out 1 (.int .i64 ((p + 1 : Nat) : Int))) rfl rfl rfl rfl, by rw [HDR2.out, HDF.out]; exact HE.out⟩
            · have hzi : (p0 : Int) < (p : Int) := by omega
              have hnz : ((n : Int) == 0) = false := by simp; omega
              go_wp2_with fail
              refine (next_some s rb p c r _ HRD.out HDR.out).mono ?_
              rintro e w1 ⟨rfl, k1, rfl⟩
              go_wp2_with fail
              refine (isDigit_any c _).mono ?_
              rw [HD.out]
              rintro e w1 ⟨rfl, rfl⟩
              go_wp2_with fail
              refine (next_some s rb p c r _ (HRD.out.drewN _) HDR.out).mono ?_
              rintro e w1 ⟨rfl, k2, rfl⟩
              go_wp2_with fail
              go_roundg (s.size - (p + 1))
              case measure => have := HGK.out; omega
              case rel => exact ⟨p + 1, 10 * n + (c.toNat - 48), by omega, by omega, rfl, by go_num, by omega, (Rd.set HRD.out (q := p + 1)).alike rfl, grownBy_alike (grownBy_set HG.out 1 (.int .i64 ((p + 1 : Nat) : Int))) rfl rfl rfl rfl, by rw [HDR2.out, HDF.out]; exact HE.out⟩
end Go.Proofs.YtfpeplpoliileaaDoor
