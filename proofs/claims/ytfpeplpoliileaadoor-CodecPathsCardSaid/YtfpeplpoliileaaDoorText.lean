/- The walk of the reader's node at a text, and node as a whole. -/
import Derived.Test.YtfpeplpoliileaaDoorNode
namespace Go.Proofs.YtfpeplpoliileaaDoor
open Go.RowKit Pl

theorem rdText_err {l : List UInt8} {n : Nat} (h : rdLen 0 true l = .error n) : rdText l = .error n := by unfold rdText; rw [h]
theorem rdText_short {l r : List UInt8} {n : Nat} (h : rdLen 0 true l = .ok (n, r)) (hn : r.length < n) : rdText l = .error 4 := by unfold rdText; rw [h]; simp only [if_pos hn]
theorem rdText_ok {l r : List UInt8} {n : Nat} (h : rdLen 0 true l = .ok (n, r)) (hn : ¬ r.length < n) : rdText l = .ok (.mk false (r.take n) [], r.drop n) := by unfold rdText; rw [h]; simp only [if_neg hn]

set_option maxHeartbeats 400000 in
theorem node_text (d : Nat) (s : ByteArray) (rb p count : Nat) (L : Int) (w : World) (hl1 : 1 ≤ L) (hl2 : L ≤ 12) (hs : s.size ≤ 20000) (hb : Rd w rb s p) (hp : p ≤ s.size) (hcount : count < 256) (c : UInt8) (r : List UInt8)
    (hdr : s.data.toList.drop p = c :: r) (h40 : c ≠ 40) (hdg : isDig c = true) :
    Calls Tryd.prog 25 #[.pointer (some ⟨rb, 0, none⟩), .int .i64 L, .int .i64 (count : Int)] w (NodePost s rb (rdNode (d + 1) count (c :: r)) w) := by
  rw [rdNode_text h40 hdg hcount]
  have HB := Lib.hid (hb.alloc (.cells #[.bool false, .string ⟨#[]⟩, .slice none 0 0] 25))
  have hgA := Lib.hid (grownBy_alloc (grownBy_refl w (some rb)) (.cells #[.bool false, .string ⟨#[]⟩, .slice none 0 0] 25))
  have hblk := Lib.hid (Blk.new w 25 #[.bool false, .string ⟨#[]⟩, .slice none 0 0])
  have hrb := hb.lt
  clear hb
  have HDR := Lib.hid hdr
  have h40b : ((c.toNat : Int) != 40) = true := byte_ne (k := 40) (by omega) h40
  have h40c : ((c.toNat : Int) == 40) = false := by simpa using h40b
  have HD := Lib.hid hdg
  clear hdr hdg h40
  go_enter Tryd.func25, Tryd.ntmps25
  go_wp2_with fail
  refine (next_some s rb p c r _ HB.out HDR.out).mono ?_
  rintro e w1 ⟨rfl, k1, rfl⟩
  go_wp2_with fail
  refine (isDigit_any c _).mono ?_
  rw [HD.out]
  rintro e w1 ⟨rfl, rfl⟩
  go_wp2_with fail
  refine (length_any s rb p _ hs (HB.out.drewN k1) hp).mono ?_
  rw [HDR.out]
  cases hrl : rdLen 0 true (c :: r) with
  | error n =>
    rintro e w2 ⟨rfl, hg2⟩
    refine ⟨rfl, ?_⟩
    rw [rdText_err hrl]
    exact ⟨rfl, World.grownBy.trans (grownBy_drewN hgA.out k1) hg2⟩
  | ok nr =>
    obtain ⟨n, r1⟩ := nr
    rintro e w2 ⟨rfl, hn, hg2, p1, hrd, hdr1, hp1⟩
    obtain ⟨d0, d1, g1⟩ := hrd.cells
    have hlen : r1.length = s.size - p1 := by rw [← hdr1, List.length_drop, ← Lib.size_eq]
    have hb2 := (hblk.out.drewN k1).grown hg2 (by intro e; injection e with e; omega)
    obtain ⟨⟨x0, x1, x2⟩, y0, y1, y2⟩ := hb2.three
    have HG2 := Lib.hid (World.grownBy.trans (grownBy_drewN hgA.out k1) hg2)
    have HRD := Lib.hid hrd
    have HB2 := Lib.hid hb2
    have HRL := Lib.hid hrl
    have HD1 := Lib.hid hdr1
    have HLN := Lib.hid hlen
    clear hg2 hb2 hrl hdr1 hrd
    by_cases hshort : r1.length < n
    · have hsi : (s.size : Int) - (p1 : Int) < (n : Int) := by omega
      clear hlen
      go_wp2_with fail
      go_quiet (fail)
      go_wp2_with fail
      refine ⟨rfl, ?_⟩
      rw [rdText_short HRL.out hshort]
      exact ⟨rfl, grownBy_alike HG2.out rfl rfl rfl rfl⟩
    · have hsi : ¬ (s.size : Int) - (p1 : Int) < (n : Int) := by omega
      have hsd : decide ((s.size : Int) - (p1 : Int) < (n : Int)) = false := by simpa using hsi
      have hpn : p1 + n ≤ s.size := by omega
      clear hlen
      go_wp2_with fail
      go_quiet (fail)
      go_wp2_with fail
      go_region
      go_wp2_with fail
      have hext : (s.extract p1 (p1 + n)).data.toList = r1.take n := by rw [Lib.extract_data, HD1.out, show p1 + n - p1 = n by omega]
      have hrdn : Rd (w2.setCell ⟨rb, 1, none⟩ (.int .i64 ((p1 + n : Nat) : Int))) rb s (p1 + n) := Rd.set HRD.out
      have hdrn : s.data.toList.drop (p1 + n) = r1.drop n := by rw [← HD1.out, List.drop_drop]
      refine bodyPost_ret (v := .agg #[.bool false, .string (s.extract p1 (p1 + n)), .slice none 0 0]) (by simp [results, Tryd.results25, go_sem, x0, x1, x2]) rfl ?_
      rw [rdText_ok HRL.out hshort]
      refine ⟨_, rfl, ?_, ?_, p1 + n, ?_, hdrn, hpn⟩
      · rw [Lies]
        refine ⟨_, none, 0, [], rfl, hext, ?_, by simp, fun j u hj => by simp at hj, by rw [Trips]⟩
        have : (r1.take n).length ≤ n := List.length_take_le _ _
        unfold maxLen; omega
      · have h1 := grownBy_set HG2.out 1 (.int .i64 ((p1 : Int) + (n : Int)))
        refine ⟨h1.os, h1.tape, h1.output, by simpa [World.setCell] using HG2.out.size, fun i hi hx => ?_⟩
        show (World.setCell (World.setCell (World.setCell _ _ _) _ _) _ _).heap[i]? = _
        rw [set_far _ _ _ _ _ (by omega), set_far _ _ _ _ _ (by omega), set_far _ _ _ _ _ (by omega)]
        exact h1.block i hi hx
      · exact Blk.far (Blk.far (Blk.far hrdn (p := ⟨w.heap.size, 0, none⟩) (by simp; omega) _) (p := ⟨w.heap.size, 1, none⟩) (by simp; omega) _) (p := ⟨w.heap.size, 2, none⟩) (by simp; omega) _

theorem node_any : ∀ d, d ≤ 12 → NodeOk d := by
  intro d
  induction d with
  | zero =>
    intro _ s rb p count L w hL hs hb hp hcount
    cases hdr : s.data.toList.drop p with
    | nil =>
      have h := node_faults 0 s rb p count L w hL (by omega) hb hp hcount 4 (by rw [hdr]; rfl) (.inl hdr)
      rw [show rdNode 0 count [] = .error 4 from rfl]; exact h
    | cons c r =>
      by_cases hbad : c ≠ 40 ∧ isDig c = false
      · have h := node_faults 0 s rb p count L w hL (by omega) hb hp hcount 2 (by rw [hdr, rdNode_bad hbad.1 hbad.2]) (.inr ⟨c, r, hdr, .inl hbad⟩)
        rw [rdNode_bad hbad.1 hbad.2]; exact h
      · have hok : c = 40 ∨ isDig c = true := by
          by_cases h : c = 40
          · exact .inl h
          · right; cases hx : isDig c
            · exact absurd ⟨h, hx⟩ hbad
            · rfl
        have h := node_faults 0 s rb p count L w hL (by omega) hb hp hcount 5 (by rw [hdr, rdNode_deep hok]) (.inr ⟨c, r, hdr, .inr ⟨hok, .inl rfl⟩⟩)
        rw [rdNode_deep hok]; exact h
  | succ d ih =>
    intro hd s rb p count L w hL hs hb hp hcount
    cases hdr : s.data.toList.drop p with
    | nil =>
      have h := node_faults (d + 1) s rb p count L w hL hd hb hp hcount 4 (by rw [hdr]; rfl) (.inl hdr)
      rw [show rdNode (d + 1) count [] = .error 4 from rfl]; exact h
    | cons c r =>
      by_cases hbad : c ≠ 40 ∧ isDig c = false
      · have h := node_faults (d + 1) s rb p count L w hL hd hb hp hcount 2 (by rw [hdr, rdNode_bad hbad.1 hbad.2]) (.inr ⟨c, r, hdr, .inl hbad⟩)
        rw [rdNode_bad hbad.1 hbad.2]; exact h
      · have hok : c = 40 ∨ isDig c = true := by
          by_cases h : c = 40
          · exact .inl h
          · right; cases hx : isDig c
            · exact absurd ⟨h, hx⟩ hbad
            · rfl
        by_cases hmany : 256 ≤ count
        · have h := node_faults (d + 1) s rb p count L w hL hd hb hp hcount 5 (by rw [hdr, rdNode_many hok hmany]) (.inr ⟨c, r, hdr, .inr ⟨hok, .inr hmany⟩⟩)
          rw [rdNode_many hok hmany]; exact h
        · by_cases h40 : c = 40
          · subst h40
            exact node_list d (kids_of_node d (by omega) (ih (by omega))) s rb p count L w (by omega) (by omega) hs hb (by omega) r hdr
          · have hdg : isDig c = true := by
              rcases hok with h | h
              · exact absurd h h40
              · exact h
            exact node_text d s rb p count L w (by omega) (by omega) hs hb hp (by omega) c r hdr h40 hdg

end Go.Proofs.YtfpeplpoliileaaDoor
