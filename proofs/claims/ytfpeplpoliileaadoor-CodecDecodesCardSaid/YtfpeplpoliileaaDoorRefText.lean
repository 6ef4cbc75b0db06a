/- The walks of the reference's begins and text. -/
import Derived.Test.YtfpeplpoliileaaDoorNode
namespace Go.Proofs.YtfpeplpoliileaaDoor
open Go.RowKit Pl

def beg (c : UInt8) : Bool := (c == 40) || isDig c

theorem begins_any (c : UInt8) (w : World) : Calls Tryd.prog 35 #[.int .u8 (c.toNat : Int)] w fun e w' => e = .returned (.bool (beg c)) ∧ w = w' := by
  have hc : (c.toNat : Int) ≤ 255 := by have := c.toNat_lt; omega
  have HI : Hid (beg c = (decide (c.toNat = 40) || (decide (48 ≤ c.toNat) && decide (c.toNat ≤ 57)))) := by
    show beg c = _
    unfold beg isDig
    congr 1
    rw [Bool.eq_iff_iff]; simp
    constructor
    · rintro rfl; rfl
    · intro h; exact UInt8.toNat_inj.1 (by simpa using h)
  by_cases h0 : c.toNat = 40
  · have h0b : ((c.toNat : Int) == 40) = true := by simp; omega
    go_enter Tryd.func35, Tryd.ntmps35
    go_wp2_with fail
    go_returns
    refine ⟨ret_bool ?_, rfl⟩
    rw [HI.out]; simp [h0]
  · have h0b : ((c.toNat : Int) == 40) = false := by simp; omega
    by_cases h1 : 48 ≤ c.toNat
    · by_cases h2 : c.toNat ≤ 57
      all_goals
        go_enter Tryd.func35, Tryd.ntmps35
        go_wp2_with fail
        go_returns
        refine ⟨ret_bool ?_, rfl⟩
        rw [HI.out]
        rw [Bool.eq_iff_iff]; simp; omega
    · go_enter Tryd.func35, Tryd.ntmps35
      go_wp2_with fail
      go_returns
      refine ⟨ret_bool ?_, rfl⟩
      rw [HI.out, Bool.eq_iff_iff]; simp; omega

/-- What the reference's readers give: the tree and the place behind it, or the error. -/
def RefPost (s : ByteArray) (res : Except Nat (Tr × List UInt8)) (w : World) (e : Ending) (w' : World) : Prop :=
  Below w.heap.size w w' ∧ match res with
  | .ok (t, r) => ∃ v p, e = .returned (.tuple #[v, .int .i64 (p : Nat), .int .i64 0]) ∧ Lies (fun b => w.heap.size ≤ b) w' t v ∧ s.data.toList.drop p = r ∧ p ≤ s.size
  | .error n => n ≠ 0 ∧ e = .returned (.tuple #[zeroV, .int .i64 0, .int .i64 (n : Nat)])

theorem rdText_bad {l : List UInt8} {n : Nat} (h : rdLen 0 true l = .error n) : rdText l = .error n := by unfold rdText; rw [h]
theorem rdText_short {l r : List UInt8} {n : Nat} (h : rdLen 0 true l = .ok (n, r)) (hn : r.length < n) : rdText l = .error 4 := by unfold rdText; rw [h]; exact if_pos hn
theorem rdText_fits {l r : List UInt8} {n : Nat} (h : rdLen 0 true l = .ok (n, r)) (hn : ¬ r.length < n) : rdText l = .ok (.mk false (r.take n) [], r.drop n) := by unfold rdText; rw [h]; exact if_neg hn

theorem below_set3 {w wr : World} {g : Nat} (h : Below w.heap.size w wr) (hg : w.heap.size ≤ g) (a b c : Value) : Below w.heap.size w (((wr.setCell ⟨g, 0, none⟩ a).setCell ⟨g, 1, none⟩ b).setCell ⟨g, 2, none⟩ c) :=
  ((h.setCell (p := ⟨g, 0, none⟩) hg a).setCell (p := ⟨g, 1, none⟩) hg b).setCell (p := ⟨g, 2, none⟩) hg c

theorem lies_leaf_any (ok : Nat → Prop) (w : World) (sb : ByteArray) (s : List UInt8) (h : sb.data.toList = s) (hl : s.length ≤ maxLen) : Lies ok w (.mk false s []) (.agg #[.bool false, .string sb, .slice none 0 0]) := by
  rw [Lies]
  exact ⟨sb, none, 0, [], rfl, h, hl, by simp, fun j u hj => by simp at hj, by rw [Trips]⟩

set_option maxHeartbeats 400000 in
theorem refText_any (s : ByteArray) (p0 : Nat) (c0 : UInt8) (r0 : List UInt8) (w : World) (hs : s.size ≤ 20000) (hdr0 : s.data.toList.drop p0 = c0 :: r0) :
    Calls Tryd.prog 36 #[.string s, .int .i64 (p0 : Int)] w (RefPost s (rdText (s.data.toList.drop p0)) w) := by
  obtain ⟨hp0, hc0, _⟩ := drop_get hdr0
  have hc0' : s[p0] = c0 := hc0 hp0
  have HC0 := Lib.hid hc0'
  clear hdr0 hc0 hc0'
  obtain ⟨R, hR⟩ : ∃ R, R = rdLen 0 true (s.data.toList.drop p0) := ⟨_, rfl⟩
  have HR := Lib.hid hR
  clear hR
  have HB0 := Lib.hid ((Below.refl w.heap.size w).alloc (Nat.le_refl _) (.cells #[.bool false, .string ⟨#[]⟩, .slice none 0 0] 25))
  have hbox := Lib.hid (Blk.new w 25 #[.bool false, .string ⟨#[]⟩, .slice none 0 0])
  go_enter Tryd.func36, Tryd.ntmps36
  go_wp2_with fail
  go_loopw [7, 8] (fun nv i wr => ∃ p n : Nat, p0 ≤ p ∧ p ≤ s.size ∧ i = .int .i64 (p : Int) ∧ nv = .int .i64 (n : Int) ∧ n ≤ 20000 ∧ Blk wr w.heap.size 25 #[.bool false, .string ⟨#[]⟩, .slice none 0 0] ∧ Below w.heap.size w wr ∧
      (p = p0 → n = 0) ∧ (p = p0 + 1 → n = c0.toNat - 48 ∧ 48 ≤ c0.toNat) ∧ (p0 + 1 < p → n ≠ 0) ∧ rdLen n (decide (p = p0)) (s.data.toList.drop p) = R) (fun _ i _ => s.size - (intOf i).toNat)
  case atStart => exact ⟨p0, 0, Nat.le_refl _, by omega, rfl, rfl, by omega, hbox.out, HB0.out, fun _ => rfl, fun h => by omega, fun h => by omega, by rw [HR.out, decide_eq_true rfl]⟩
  case round =>
    obtain ⟨p, n, hp1, hp2, rfl, rfl, hn, hblk, hbw, hq0, hq1, hq2, hres⟩ := hrel
    obtain ⟨⟨r0, r1, r2⟩, g0, g1, g2⟩ := hblk.three
    have HBK := Lib.hid hblk
    have HBW := Lib.hid hbw
    have HQ0 := Lib.hid hq0
    have HQ1 := Lib.hid hq1
    have HQ2 := Lib.hid hq2
    have HX := hres
    clear hblk hbw hq0 hq1 hq2 hres hbox HB0
    have hfin : Hid (∀ k : Nat, k ≠ 0 → rdText (s.data.toList.drop p0) = .error k → ∀ wx, Below w.heap.size w wx → RefPost s (rdText (s.data.toList.drop p0)) w (.returned (.tuple #[zeroV, .int .i64 0, .int .i64 (k : Nat)])) wx) := by
      intro k hk h wx hb; rw [h]; exact ⟨hb, hk, rfl⟩
    cases hdr : s.data.toList.drop p with
    | nil =>
      obtain rfl := drop_nil hdr hp2
      have hE : Hid (rdText (s.data.toList.drop p0) = .error 4) := rdText_bad (by rw [← HR.out, ← HX, hdr]; rfl)
      clear hdr HX
      go_wp2_with fail
      refine bodyPost_ret (v := .tuple #[zeroV, .int .i64 0, .int .i64 4]) (by simp [results, Tryd.results36, go_sem, r0, r1, r2, zeroV]) rfl ?_
      exact hfin.out 4 (by omega) hE.out _ (below_set3 HBW.out (Nat.le_refl _) _ _ _)
    | cons c r =>
      obtain ⟨hlt, hcp, hdr2⟩ := drop_get hdr
      have hcp' : s[p] = c := hcp hlt
      have hc255 : c.toNat ≤ 255 := by have := c.toNat_lt; omega
      rw [hdr] at HX
      have HDR2 := Lib.hid hdr2
      have hlti : (p : Int) < (s.size : Int) := by omega
      have hne : ((p : Int) == (s.size : Int)) = false := by simp; omega
      clear hdr hdr2 hcp
      have hrl : r.length = s.size - p - 1 := by
        rw [← HDR2.out, List.length_drop, ← Lib.size_eq]; omega
      have HRL := Lib.hid hrl
      clear hrl
      cases hd : isDig c
      · rw [rdLen_other hd] at HX
        have hways : c.toNat < 48 ∨ (48 ≤ c.toNat ∧ 57 < c.toNat) := by
          have h2 : ¬ isDig c = true := by simp [hd]
          rw [isDig_iff] at h2; omega
        clear hd
        by_cases h58 : c = 58
        · rw [if_pos h58] at HX
          subst h58
          have hw2 : (57 : Int) < ((58 : UInt8).toNat : Int) := by decide
          clear hways
          by_cases hsh : s.size - p - 1 < n
          · have hE : Hid (rdText (s.data.toList.drop p0) = .error 4) := rdText_short (by rw [← HR.out, ← HX]) (by rw [HRL.out]; exact hsh)
            have hshi : (s.size : Int) - (p : Int) - 1 < (n : Int) := by omega
            clear HX hsh
            go_wp2_with fail
            refine bodyPost_ret (v := .tuple #[zeroV, .int .i64 0, .int .i64 4]) (by simp [results, Tryd.results36, go_sem, r0, r1, r2, zeroV]) rfl ?_
            exact hfin.out 4 (by omega) hE.out _ (below_set3 HBW.out (Nat.le_refl _) _ _ _)
          · have hE : Hid (rdText (s.data.toList.drop p0) = _) := rdText_fits (by rw [← HR.out, ← HX]) (by rw [HRL.out]; exact hsh)
            have hshi : ¬ (s.size : Int) - (p : Int) - 1 < (n : Int) := by omega
            clear HX
            go_wp2_with fail
            refine bodyPost_ret (v := .tuple #[.agg #[.bool false, .string (s.extract (p + 1) (p + 1 + n)), .slice none 0 0], .int .i64 ((p + 1 + n : Nat) : Int), .int .i64 0]) (by simp [results, Tryd.results36, go_sem, r0, r1, r2]) rfl ?_
            rw [hE.out]
            refine ⟨below_set3 HBW.out (Nat.le_refl _) _ _ _, _, p + 1 + n, rfl, lies_leaf_any _ _ _ _ ?_ ?_, ?_, by omega⟩
            · rw [Lib.extract_data, ← HDR2.out]; congr 1; omega
            · rw [List.length_take, HRL.out]; unfold maxLen; omega
            · rw [← HDR2.out, List.drop_drop]
        · rw [if_neg h58] at HX
          have hE : Hid (rdText (s.data.toList.drop p0) = .error 2) := rdText_bad (by rw [← HR.out, ← HX])
          have h58b : ((c.toNat : Int) != 58) = true := byte_ne (k := 58) (by omega) h58
          clear HX
          rcases hways with hw | ⟨hw1, hw2⟩
          all_goals
            go_wp2_with fail
            refine bodyPost_ret (v := .tuple #[zeroV, .int .i64 0, .int .i64 2]) (by simp [results, Tryd.results36, go_sem, r0, r1, r2, zeroV]) rfl ?_
            exact hfin.out 2 (by omega) hE.out _ (below_set3 HBW.out (Nat.le_refl _) _ _ _)
      · -- a digit
        obtain ⟨hcd1, hcd2⟩ := (isDig_iff c).1 hd
        rw [rdLen_digit hd] at HX
        clear hd
        have hcd1i : (48 : Int) ≤ (c.toNat : Int) := by omega
        have hcd2i : (c.toNat : Int) ≤ 57 := by omega
        by_cases hz : p = p0 + 1 ∧ c0.toNat = 48
        · obtain ⟨rfl, hz2⟩ := hz
          have hn0 := (HQ1.out rfl).1
          rw [if_pos ⟨by simp, by omega⟩] at HX
          have hE : Hid (rdText (s.data.toList.drop p0) = .error 2) := rdText_bad (by rw [← HR.out, ← HX])
          have hcz : (s[p0].toNat : Int) = 48 := by rw [HC0.out]; omega
          have hp0i : (p0 : Int) < (s.size : Int) := by omega
          clear HX hn0
          go_wp2_with fail
          refine bodyPost_ret (v := .tuple #[zeroV, .int .i64 0, .int .i64 2]) (by simp [results, Tryd.results36, go_sem, r0, r1, r2, zeroV]) rfl ?_
          exact hfin.out 2 (by omega) hE.out _ (below_set3 HBW.out (Nat.le_refl _) _ _ _)
        · have hz0 : ¬ (decide (p = p0) = false ∧ n = 0) := by
            rintro ⟨hx, hy⟩
            have hx := of_decide_eq_false hx
            by_cases h1 : p = p0 + 1
            · have := HQ1.out h1; exact hz ⟨h1, by omega⟩
            · exact HQ2.out (by omega) hy
          rw [if_neg hz0] at HX
          have hzw : ((p : Int) == (p0 : Int) + 1) = false ∨ (((p : Int) == (p0 : Int) + 1) = true ∧ ((s[p0].toNat : Int) == 48) = false) := by
            by_cases h1 : p = p0 + 1
            · right; refine ⟨by simp; omega, ?_⟩
              rw [HC0.out]
              simp; intro h; exact hz ⟨h1, by omega⟩
            · left; simp; omega
          have hp0i : (p0 : Int) < (s.size : Int) := by omega
          clear hz hz0
          by_cases hbig : 20000 < 10 * n + (c.toNat - 48)
          · rw [if_pos hbig] at HX
            have hE : Hid (rdText (s.data.toList.drop p0) = .error 5) := rdText_bad (by rw [← HR.out, ← HX])
            have hbi : (20000 : Int) < 10 * (n : Int) + ((c.toNat : Int) - 48) := by omega
            clear HX
            rcases hzw with hz | ⟨hz1, hz2⟩
            all_goals
              go_wp2_with fail
              refine bodyPost_ret (v := .tuple #[zeroV, .int .i64 0, .int .i64 5]) (by simp [results, Tryd.results36, go_sem, r0, r1, r2, zeroV]) rfl ?_
              exact hfin.out 5 (by omega) hE.out _ (below_set3 HBW.out (Nat.le_refl _) _ _ _)
          · rw [if_neg hbig] at HX
            have hbi : ¬ (20000 : Int) < 10 * (n : Int) + ((c.toNat : Int) - 48) := by omega
            have HE := Lib.hid HX
            have HCP := Lib.hid hcp'
            have HN1 : Hid (p + 1 = p0 + 1 → 10 * n + (c.toNat - 48) = c0.toNat - 48 ∧ 48 ≤ c0.toNat) := by
              intro h
              obtain rfl : p = p0 := by omega
              have h1 : c = c0 := by rw [← HCP.out, HC0.out]
              have h2 := HQ0.out rfl
              subst h1; omega
            have HN2 : Hid (p0 + 1 < p + 1 → 10 * n + (c.toNat - 48) ≠ 0) := by
              intro h
              by_cases h1 : p = p0 + 1
              · have := HQ1.out h1
                rcases hzw with hz | ⟨hz1, hz2⟩
                · simp at hz; omega
                · rw [HC0.out] at hz2; simp at hz2; omega
              · have := HQ2.out (by omega); omega
            clear HX
            rcases hzw with hz | ⟨hz1, hz2⟩
            all_goals
              go_wp2_with fail
              go_roundw
              case rel => exact ⟨p + 1, 10 * n + (c.toNat - 48), by omega, by omega, by go_num, by go_num, by omega, HBK.out, HBW.out, fun h => by omega, HN1.out, HN2.out, by rw [HDR2.out, decide_eq_false (by omega)]; exact HE.out⟩
              case measure => simp [intOf]; omega
end Go.Proofs.YtfpeplpoliileaaDoor
