/- The walk of exampleHolds: it returns true. -/
import Derived.Test.YtfpeplpoliileaaDoorDecode
import Derived.Test.YtfpeplpoliileaaDoorEncode
import Derived.Test.YtfpeplpoliileaaDoorSame
import Derived.Deep.DeepCutAuto
namespace Go.Proofs.YtfpeplpoliileaaDoor
open Go.RowKit Pl

theorem lies_leaf (ok : Nat → Prop) (w : World) (sb : ByteArray) (s : List UInt8) (h : sb.data.toList = s) (hl : s.length ≤ maxLen) : Lies ok w (.mk false s []) (.agg #[.bool false, .string sb, .slice none 0 0]) := by
  rw [Lies]
  exact ⟨sb, none, 0, [], rfl, h, hl, by simp, fun j u hj => by simp at hj, by rw [Trips]⟩
theorem lies_list {ok : Nat → Prop} {w : World} {g c : Nat} {cells : List Value} {ks : List Tr} {fz : Nat × Nat} (hb : w.heap[g]? = some (.cells cells.toArray 25 fz)) (ht : Trips ok w ks cells) (hok : ok g) (hk : ks.length ≤ maxLen) :
    Lies ok w (.mk true [] ks) (.agg #[.bool true, .string ⟨#[]⟩, .slice (some ⟨g, 0, none⟩) ks.length c]) := by
  rw [Lies]
  refine ⟨⟨#[]⟩, some ⟨g, 0, none⟩, c, cells, rfl, rfl, by simp, hk, fun j u hj => ⟨g, 0, rfl, hok, ?_⟩, ht⟩
  rw [Nat.zero_add, cell_of_row w g j cells.toArray 25 fz hb]
  simpa using hj

/-- The examples' tree. -/
def exT : Tr := .mk true [] [.mk false [97] [], .mk false [40] [], .mk true [] [.mk false [] []]]
def exS : List UInt8 := [40, 49, 58, 97, 49, 58, 40, 40, 48, 58, 41, 41]

theorem enc_exT : enc exT = exS := by
  simp [exT, exS, enc, encL, digs_small]
theorem encode_exT : Pl.encode exT = .ok exS := by
  rw [← enc_exT]
  exact encode_of (by simp [exT, check, checkL]) (by rw [enc_exT]; decide)
theorem resEnc_exT : resEnc exT = (exS, 0) := by unfold resEnc; rw [encode_exT]
theorem resDec_exS : resDec exS = (exT, 0) := by unfold resDec; rw [decode_encode encode_exT]
theorem resDec_2 : resDec [40, 50, 58, 97] = (zeroT, 4) := by rfl
theorem resDec_3 : resDec [48, 50, 58, 97, 98] = (zeroT, 2) := by rfl
theorem resAt_1 : resAt exT [2, 0] = (.mk false [] [], 0) := by rfl
theorem resAt_2 : resAt exT [0, 0] = (zeroT, 6) := by rfl

theorem leaf_any (s : ByteArray) (w : World) : Calls Tryd.prog 23 #[.string s] w fun e w' => e = .returned (.agg #[.bool false, .string s, .slice none 0 0]) ∧ Below w.heap.size w w' := by
  go_enter Tryd.func23, Tryd.ntmps23
  go_wp2_with fail
  go_returns
  exact ⟨rfl, by go_grown⟩

theorem leaf_exact (s : ByteArray) (w : World) : Calls Tryd.prog 23 #[.string s] w fun e w' => e = .returned (.agg #[.bool false, .string s, .slice none 0 0]) ∧ w.alloc (.cells #[.bool false, .string s, .slice none 0 0] 25) = w' := by
  go_enter Tryd.func23, Tryd.ntmps23
  go_wp2_with fail
  go_returns
  exact ⟨rfl, rfl⟩

theorem blk_new_at {w : World} {g : Nat} {t : TypeId} {cs : Array Value} (h : g = w.heap.size) : Blk (w.alloc (.cells cs t)) g t cs := by rw [h]; exact Blk.new w t cs

theorem ex_close {w W2 wc : World} {g b b9 : Nat} (hg : Blk W2 g 25 #[.bool false, .string ⟨#[]⟩, .slice none 0 0]) (hbw : Below w.heap.size w W2) (hb : Below W2.heap.size W2 wc)
    (h9 : Blk wc b9 25 #[.bool false, .string ⟨#[97]⟩, .slice none 0 0, .bool false, .string ⟨#[40]⟩, .slice none 0 0, .bool true, .string ⟨#[]⟩, .slice (some ⟨g, 0, none⟩) 1 1])
    (hn : Blk wc b 25 #[.bool true, .string ⟨#[]⟩, .slice (some ⟨b9, 0, none⟩) 3 3]) :
    Below w.heap.size w wc ∧ ∃ (b' b9 : Nat), Value.pointer (some ⟨b, 0, none⟩) = .pointer (some ⟨b', 0, none⟩) ∧ Blk wc b' 25 #[.bool true, .string ⟨#[]⟩, .slice (some ⟨b9, 0, none⟩) 3 3] ∧ Lies anyB wc exT (.agg #[.bool true, .string ⟨#[]⟩, .slice (some ⟨b9, 0, none⟩) 3 3]) := by
  refine ⟨hbw.trans (hb.mono hbw.size), b, b9, rfl, hn, ?_⟩
  have hin : Lies anyB wc (.mk true [] [.mk false [] []]) (.agg #[.bool true, .string ⟨#[]⟩, .slice (some ⟨g, 0, none⟩) 1 1]) := by
    refine lies_list (ks := [.mk false [] []]) (cells := [.bool false, .string ⟨#[]⟩, .slice none 0 0]) (hg.below hb hg.lt) ?_ trivial (by simp [maxLen])
    rw [Trips]
    exact ⟨_, _, _, [], rfl, lies_leaf _ _ _ _ rfl (by simp), by rw [Trips]⟩
  refine lies_list (ks := [.mk false [97] [], .mk false [40] [], .mk true [] [.mk false [] []]]) (cells := [.bool false, .string ⟨#[97]⟩, .slice none 0 0, .bool false, .string ⟨#[40]⟩, .slice none 0 0, .bool true, .string ⟨#[]⟩, .slice (some ⟨g, 0, none⟩) 1 1]) h9 ?_ trivial (by simp [maxLen])
  rw [Trips]
  refine ⟨_, _, _, _, rfl, lies_leaf _ _ _ _ rfl (by simp [maxLen]), ?_⟩
  rw [Trips]
  refine ⟨_, _, _, _, rfl, lies_leaf _ _ _ _ rfl (by simp [maxLen]), ?_⟩
  rw [Trips]
  exact ⟨_, _, _, [], rfl, hin, by rw [Trips]⟩

theorem lies_shape {ok : Nat → Prop} {w : World} {t : Tr} {v : Value} (h : Lies ok w t v) : ∃ l s A n c, v = .agg #[.bool l, .string s, .slice A n c] := by
  obtain ⟨s, A, c, h1, _⟩ := h.open_
  exact ⟨_, _, _, _, _, h1⟩
theorem ints_two (w : World) (x y : Int) (hx : 0 ≤ x ∧ x ≤ 100) (hy : 0 ≤ y ∧ y ≤ 100) {g : Nat} (hg : g = w.heap.size) : Ints (w.alloc (.cells #[.int .i64 x, .int .i64 y] 3)) (some ⟨g, 0, none⟩) [x, y] := by
  subst hg
  refine ⟨by simp [maxLen], ?_, ?_⟩
  · intro z hz; simp at hz; omega
  · intro i hi
    refine ⟨_, _, rfl, by simp, ?_⟩
    match i, hi with
    | 0, _ => simp
    | 1, _ => simp

/-- A node's cells behind one and two new blocks. -/
theorem Blk.later {w : World} {g : Nat} {x y z : Value} (h : Blk w g 25 #[x, y, z]) :
    (∀ o, (w.alloc o).cell? ⟨g, 0, none⟩ = some x) ∧ (∀ o, (w.alloc o).cell? ⟨g, 1, none⟩ = some y) ∧ (∀ o, (w.alloc o).cell? ⟨g, 2, none⟩ = some z) ∧
    (∀ o o', ((w.alloc o).alloc o').cell? ⟨g, 0, none⟩ = some x) ∧ (∀ o o', ((w.alloc o).alloc o').cell? ⟨g, 1, none⟩ = some y) ∧ (∀ o o', ((w.alloc o).alloc o').cell? ⟨g, 2, none⟩ = some z) :=
  ⟨fun o => (h.alloc o).three.1.1, fun o => (h.alloc o).three.1.2.1, fun o => (h.alloc o).three.1.2.2,
   fun o o' => ((h.alloc o).alloc o').three.1.1, fun o o' => ((h.alloc o).alloc o').three.1.2.1, fun o o' => ((h.alloc o).alloc o').three.1.2.2⟩

set_option maxRecDepth 100000 in
set_option maxHeartbeats 8000000 in
theorem example_any (w : World) (htab : TabB w.heap.size w) : Calls Tryd.prog 12 #[] w fun e w' => e = .returned (.bool true) ∧ Below w.heap.size w w' := by
  have HTB := Lib.hid htab
  clear htab
  go_enter Tryd.func12, Tryd.ntmps12
  go_wp2_with fail
  refine (leaf_any _ _).mono ?_
  rintro e w1 ⟨rfl, hb1⟩
  have hs1 := hb1.size
  go_wp2_with fail
  obtain ⟨W2, hW2⟩ : ∃ W2 : World, W2 = (w1.alloc (Obj.cells #[.bool false, .string ⟨#[]⟩, .slice none 0 0] 25)).alloc (Obj.cells #[.bool true, .string ⟨#[]⟩, .slice (some ⟨w1.heap.size, 0, none⟩) 1 1] 25) := ⟨_, rfl⟩
  rw [← hW2]
  have hg1 : Blk W2 w1.heap.size 25 #[.bool false, .string ⟨#[]⟩, .slice none 0 0] := by rw [hW2]; exact (Blk.new _ _ _).alloc _
  have hg2 : Blk W2 (w1.heap.size + 1) 25 #[.bool true, .string ⟨#[]⟩, .slice (some ⟨w1.heap.size, 0, none⟩) 1 1] := by
    rw [hW2]
    have := Blk.new (w1.alloc (Obj.cells #[.bool false, .string ⟨#[]⟩, .slice none 0 0] 25)) 25 #[.bool true, .string ⟨#[]⟩, .slice (some ⟨w1.heap.size, 0, none⟩) 1 1]
    simpa using this
  have hbW : Below w.heap.size w W2 := by rw [hW2]; exact (hb1.alloc hs1 _).alloc (by simp; omega) _
  have hbs : w.heap.size ≤ W2.heap.size := hbW.size
  obtain ⟨g, hg⟩ : ∃ g, g = w1.heap.size := ⟨_, rfl⟩
  rw [← hg] at hg1 hg2 ⊢
  have HG1 := Lib.hid hg1
  have HG2 := Lib.hid hg2
  have HBW := Lib.hid hbW
  clear hW2 hg hg1 hg2 hbW hb1 hs1
  clear w1
  have HS : Hid (∀ w' : World, Below W2.heap.size W2 w' → (Below W2.heap.size W2 w' ∧ w'.cell? ⟨g + 1, 0, none⟩ = some (.bool true) ∧ w'.cell? ⟨g + 1, 1, none⟩ = some (.string ⟨#[]⟩) ∧ w'.cell? ⟨g + 1, 2, none⟩ = some (.slice (some ⟨g, 0, none⟩) 1 1))) := by
    intro w' hb
    obtain ⟨⟨a, b, c⟩, _⟩ := (HG2.out.below hb HG2.out.lt).three
    exact ⟨hb, a, b, c⟩
  go_cut [2] (fun s2 wc => Below w.heap.size w wc ∧ ∃ (b b9 : Nat), s2 = .pointer (some ⟨b, 0, none⟩) ∧ Blk wc b 25 #[.bool true, .string ⟨#[]⟩, .slice (some ⟨b9, 0, none⟩) 3 3] ∧ Lies anyB wc exT (.agg #[.bool true, .string ⟨#[]⟩, .slice (some ⟨b9, 0, none⟩) 3 3]))
  case first =>
    have hb0 : Below W2.heap.size W2 W2.drew := (Below.refl _ _).drew
    go_region_held3 (fun w' => Below W2.heap.size W2 w' ∧ w'.cell? ⟨g + 1, 0, none⟩ = some (.bool true) ∧ w'.cell? ⟨g + 1, 1, none⟩ = some (.string ⟨#[]⟩) ∧ w'.cell? ⟨g + 1, 2, none⟩ = some (.slice (some ⟨g, 0, none⟩) 1 1)) (first | exact HS.out _ (by with_reducible assumption) | (refine HS.out _ ?_; go_grown)) (first | (go_at_call 23; refine (leaf_exact _ _).mono ?_; rintro e wx ⟨rfl, rfl⟩))
    all_goals
      go_wp2_with fail
      go_meet
      case rel =>
        apply ex_close HG1.out HBW.out (And.left (by with_reducible assumption))
        case hn =>
          refine Blk.drew ?_
          repeat (first | exact blk_new_at (by simp) | refine Blk.alloc ?_ _)
        case h9 =>
          refine Blk.drew ?_
          repeat (first | exact blk_new_at (by simp) | refine Blk.alloc ?_ _)
  case rest =>
    obtain ⟨hbc, b, b9, rfl, hblk, hL⟩ := hcut
    have hsc := hbc.size
    have HBC := Lib.hid hbc
    have HBLK := Lib.hid hblk
    have HL := Lib.hid hL
    have hblt := hblk.lt
    obtain ⟨⟨x0, x1, x2⟩, _⟩ := hblk.three
    clear hbc hblk hL HS HG1 HG2 HBW hbs
    go_wp2_with fail
    refine (encode_any exT _ _ HL.out (by simp [exT, Pl.size, sizeL]) ((HTB.out.on HBC.out).mono hsc)).mono ?_
    rw [resEnc_exT]
    rintro e w3 ⟨sb, rfl, hsb, hb3⟩
    have hsbt : (sb.toList == [40, 49, 58, 97, 49, 58, 40, 40, 48, 58, 41, 41]) = true := by rw [Lib.toList_data, hsb]; rfl
    have hs3 := hb3.size
    have HB3 := Lib.hid hb3
    clear hsb hb3
    go_wp2_with fail
    refine (decode_any _ _ (by decide)).mono ?_
    rw [show (⟨#[40, 49, 58, 97, 49, 58, 40, 40, 48, 58, 41, 41]⟩ : ByteArray).data.toList = exS from rfl, resDec_exS]
    rintro e w4 ⟨vm, rfl, hLm, hb4⟩
    obtain ⟨ml, sm, Am, mn, cm, rfl⟩ := lies_shape hLm
    have HB4 := Lib.hid (HB3.out.trans (hb4.mono hs3))
    have HLM := Lib.hid hLm
    have hs4 := HB4.out.size
    obtain ⟨y0, y1, y2, y3, y4, y5⟩ := (HBLK.out.below HB4.out HBLK.out.lt).later
    have hbB4 := Lib.hid (HBLK.out.below HB4.out HBLK.out.lt)
    clear hLm hb4
    go_wp2_with fail
    obtain ⟨W5, hW5⟩ : ∃ W5 : World, W5 = (w4.alloc (Obj.cells #[.bool ml, .string sm, .slice Am mn cm] 25)).alloc (Obj.cells #[.int .i64 2, .int .i64 0] 3) := ⟨_, rfl⟩
    have hI5 : Ints W5 (some ⟨w4.heap.size + 1, 0, none⟩) [2, 0] := by rw [hW5]; exact ints_two _ 2 0 (by omega) (by omega) (by simp)
    have hm5 : Blk W5 w4.heap.size 25 #[.bool ml, .string sm, .slice Am mn cm] := by rw [hW5]; exact (Blk.new _ _ _).alloc _
    have hB5 : Below wc.heap.size wc W5 := by rw [hW5]; exact (HB4.out.alloc hs4 _).alloc (by simp; omega) _
    have hLm5 : Lies anyB W5 exT (.agg #[.bool ml, .string sm, .slice Am mn cm]) := by rw [hW5]; exact HLM.out.below (by go_grown)
    rw [← hW5]
    have HM5 := Lib.hid hm5
    have HB5 := Lib.hid hB5
    have HLM5 := Lib.hid hLm5
    clear hW5 hm5 hB5 hLm5 HLM hbB4
    refine (at_any exT _ _ 2 [2, 0] _ (HL.out.below HB5.out) hI5 (by simp [exT, Pl.size, sizeL])).mono ?_
    rw [resAt_1]
    rintro e w5 ⟨vx, rfl, hLx, hb5⟩
    obtain ⟨xl, sx, Ax, xn, cx, rfl⟩ := lies_shape hLx
    have HB6 := Lib.hid (HB5.out.trans (hb5.mono HB5.out.size))
    have HM6 := Lib.hid (HM5.out.below hb5 HM5.out.lt)
    have HLM6 := Lib.hid (HLM5.out.below hb5)
    have HLX := Lib.hid hLx
    clear hLx hb5 hI5 y0 y1 y2 y3 y4 y5
    go_wp2_with fail
    -- the blocks of m, n, x at the world W6 = w5 with x's box
    obtain ⟨W6, hW6⟩ : ∃ W6 : World, W6 = w5.alloc (Obj.cells #[.bool xl, .string sx, .slice Ax xn cx] 25) := ⟨_, rfl⟩
    have hx6 : Blk W6 w5.heap.size 25 #[.bool xl, .string sx, .slice Ax xn cx] := by rw [hW6]; exact Blk.new _ _ _
    have hm6 : Blk W6 w4.heap.size 25 #[.bool ml, .string sm, .slice Am mn cm] := by rw [hW6]; exact HM6.out.alloc _
    have hB6 : Below wc.heap.size wc W6 := by rw [hW6]; exact HB6.out.alloc HB6.out.size _
    have hLm6 : Lies anyB W6 exT (.agg #[.bool ml, .string sm, .slice Am mn cm]) := by rw [hW6]; exact HLM6.out.below (by go_grown)
    have hLx6 : Lies anyB W6 (.mk false [] []) (.agg #[.bool xl, .string sx, .slice Ax xn cx]) := by rw [hW6]; exact HLX.out.below (by go_grown)
    rw [← hW6]
    have H6 : Hid (Blk W6 w5.heap.size 25 #[.bool xl, .string sx, .slice Ax xn cx] ∧ Blk W6 w4.heap.size 25 #[.bool ml, .string sm, .slice Am mn cm] ∧ Below wc.heap.size wc W6 ∧ Lies anyB W6 exT (.agg #[.bool ml, .string sm, .slice Am mn cm]) ∧ Lies anyB W6 (.mk false [] []) (.agg #[.bool xl, .string sx, .slice Ax xn cx])) := ⟨hx6, hm6, hB6, hLm6, hLx6⟩
    clear hW6 hx6 hm6 hB6 hLm6 hLx6 HLM6 HLX HM6 HB6 HM5 HB5 HLM5
    refine (decode_any _ _ (by decide)).mono ?_
    rw [show (⟨#[40, 50, 58, 97]⟩ : ByteArray).data.toList = [40, 50, 58, 97] from rfl, resDec_2]
    rintro e w7 ⟨v7, rfl, hL7, hb7⟩
    obtain ⟨l7, s7, A7, n7, c7, rfl⟩ := lies_shape hL7
    have HB7 := Lib.hid hb7
    clear hL7 hb7
    go_wp2_with fail
    refine (decode_any _ _ (by decide)).mono ?_
    rw [show (⟨#[48, 50, 58, 97, 98]⟩ : ByteArray).data.toList = [48, 50, 58, 97, 98] from rfl, resDec_3]
    rintro e w8 ⟨v8, rfl, hL8, hb8⟩
    obtain ⟨l8, s8, A8, n8, c8, rfl⟩ := lies_shape hL8
    have HB8 := Lib.hid ((HB7.out.alloc HB7.out.size _).trans (hb8.mono (by have := HB7.out.size; simp; omega)))
    have hbl8 := Lib.hid ((HBLK.out.below H6.out.2.2.1 HBLK.out.lt).below HB8.out (HBLK.out.below H6.out.2.2.1 HBLK.out.lt).lt)
    obtain ⟨y0, y1, y2, y3, y4, y5⟩ := hbl8.out.later
    have hs8 := HB8.out.size
    clear hL8 hb8 HB7
    go_wp2_with fail
    obtain ⟨W9, hW9⟩ : ∃ W9 : World, W9 = (w8.alloc (Obj.cells #[.bool l8, .string s8, .slice A8 n8 c8] 25)).alloc (Obj.cells #[.int .i64 0, .int .i64 0] 3) := ⟨_, rfl⟩
    have hI9 : Ints W9 (some ⟨w8.heap.size + 1, 0, none⟩) [0, 0] := by rw [hW9]; exact ints_two _ 0 0 (by omega) (by omega) (by simp)
    have hB9 : Below W6.heap.size W6 W9 := by rw [hW9]; exact (HB8.out.alloc hs8 _).alloc (by simp; omega) _
    rw [← hW9]
    have HB9 := Lib.hid hB9
    clear hW9 hB9 HB8 hbl8 y0 y1 y2 y3 y4 y5 hs8
    refine (at_any exT _ _ 2 [0, 0] _ ((HL.out.below H6.out.2.2.1).below (HB9.out)) hI9 (by simp [exT, Pl.size, sizeL])).mono ?_
    rw [resAt_2]
    rintro e w10 ⟨v10, rfl, hL10, hb10⟩
    obtain ⟨l10, s10, A10, n10, c10, rfl⟩ := lies_shape hL10
    have HB10 := Lib.hid (HB9.out.trans (hb10.mono HB9.out.size))
    clear hL10 hb10 hI9 HB9
    go_wp2_with fail
    obtain ⟨W, hW⟩ : ∃ W : World, W = w10.alloc (Obj.cells #[.bool l10, .string s10, .slice A10 n10 c10] 25) := ⟨_, rfl⟩
    have hB6W : Below W6.heap.size W6 W := by rw [hW]; exact HB10.out.alloc HB10.out.size _
    rw [← hW]
    have hwW : Below w.heap.size w W := (HBC.out.trans (H6.out.2.2.1.mono hsc)).trans (hB6W.mono (Nat.le_trans hsc H6.out.2.2.1.size))
    have hnW := ((HBLK.out.below H6.out.2.2.1 HBLK.out.lt).below hB6W (HBLK.out.below H6.out.2.2.1 HBLK.out.lt).lt)
    have hxW := H6.out.1.below hB6W H6.out.1.lt
    have hmW := H6.out.2.1.below hB6W H6.out.2.1.lt
    have hLnW := (HL.out.below H6.out.2.2.1).below hB6W
    have hLmW := H6.out.2.2.2.1.below hB6W
    have hLxW := H6.out.2.2.2.2.below hB6W
    have C1 : Hid (∀ w', Below W.heap.size W w' → Calls Tryd.prog 15 #[.agg #[.bool ml, .string sm, .slice Am mn cm], .agg #[.bool true, .string ⟨#[]⟩, .slice (some ⟨b9, 0, none⟩) 3 3]] w' fun e w'' => e = .returned (.bool true) ∧ Below W.heap.size W w'') := by
      intro w' hb
      have h := same_any exT exT _ _ w' (hLmW.below hb) (hLnW.below hb)
      rw [eqT_true rfl] at h
      exact h.mono fun e w'' ⟨h1, h2⟩ => ⟨h1, hb.trans (h2.mono hb.size)⟩
    have C2 : Hid (∀ w', Below W.heap.size W w' → Calls Tryd.prog 23 #[.string ⟨#[]⟩] w' fun e w'' => e = .returned (.agg #[.bool false, .string ⟨#[]⟩, .slice none 0 0]) ∧ Below W.heap.size W w'') := by
      intro w' hb
      exact (leaf_any _ w').mono fun e w'' ⟨h1, h2⟩ => ⟨h1, hb.trans (h2.mono hb.size)⟩
    have C3 : Hid (∀ w', Below W.heap.size W w' → Calls Tryd.prog 15 #[.agg #[.bool xl, .string sx, .slice Ax xn cx], .agg #[.bool false, .string ⟨#[]⟩, .slice none 0 0]] w' fun e w'' => e = .returned (.bool true) ∧ Below W.heap.size W w'') := by
      intro w' hb
      have h := same_any (.mk false [] []) (.mk false [] []) _ _ w' (hLxW.below hb) (lies_leaf anyB w' ⟨#[]⟩ [] rfl (by simp))
      rw [eqT_true rfl] at h
      exact h.mono fun e w'' ⟨h1, h2⟩ => ⟨h1, hb.trans (h2.mono hb.size)⟩
    have HS : Hid (∀ w' : World, Below W.heap.size W w' → (Below W.heap.size W w' ∧ w'.cell? ⟨w4.heap.size, 0, none⟩ = some (.bool ml) ∧ w'.cell? ⟨w4.heap.size, 1, none⟩ = some (.string sm) ∧ w'.cell? ⟨w4.heap.size, 2, none⟩ = some (.slice Am mn cm) ∧
        w'.cell? ⟨b, 0, none⟩ = some (.bool true) ∧ w'.cell? ⟨b, 1, none⟩ = some (.string ⟨#[]⟩) ∧ w'.cell? ⟨b, 2, none⟩ = some (.slice (some ⟨b9, 0, none⟩) 3 3) ∧
        w'.cell? ⟨w5.heap.size, 0, none⟩ = some (.bool xl) ∧ w'.cell? ⟨w5.heap.size, 1, none⟩ = some (.string sx) ∧ w'.cell? ⟨w5.heap.size, 2, none⟩ = some (.slice Ax xn cx))) := by
      intro w' hb
      obtain ⟨⟨m0, m1, m2⟩, _⟩ := (hmW.below hb hmW.lt).three
      obtain ⟨⟨n0, n1, n2⟩, _⟩ := (hnW.below hb hnW.lt).three
      obtain ⟨⟨x0, x1, x2⟩, _⟩ := (hxW.below hb hxW.lt).three
      exact ⟨hb, m0, m1, m2, n0, n1, n2, x0, x1, x2⟩
    have HWW := Lib.hid hwW
    clear hnW hxW hmW hLnW hLmW hLxW hwW hB6W hW H6 HL HBLK HBC HB3 HB4 HB10 hs3 hs4 hsc hblt x0 x1 x2
    have hb0 : Below W.heap.size W W.drew := (Below.refl _ _).drew
    go_region_held3 (fun w' => Below W.heap.size W w' ∧ w'.cell? ⟨w4.heap.size, 0, none⟩ = some (.bool ml) ∧ w'.cell? ⟨w4.heap.size, 1, none⟩ = some (.string sm) ∧ w'.cell? ⟨w4.heap.size, 2, none⟩ = some (.slice Am mn cm) ∧ w'.cell? ⟨b, 0, none⟩ = some (.bool true) ∧ w'.cell? ⟨b, 1, none⟩ = some (.string ⟨#[]⟩) ∧ w'.cell? ⟨b, 2, none⟩ = some (.slice (some ⟨b9, 0, none⟩) 3 3) ∧ w'.cell? ⟨w5.heap.size, 0, none⟩ = some (.bool xl) ∧ w'.cell? ⟨w5.heap.size, 1, none⟩ = some (.string sx) ∧ w'.cell? ⟨w5.heap.size, 2, none⟩ = some (.slice Ax xn cx)) (first | exact HS.out _ (by with_reducible assumption)) (first | (go_at_call 23; refine (C2.out _ ?_).mono ?_; (with_reducible assumption); rintro e wx ⟨rfl, hbx⟩) | (go_at_call_of 15 (Value.string sm); refine (C1.out _ ?_).mono ?_; (with_reducible assumption); rintro e wx ⟨rfl, hbx⟩) | (go_at_call_of 15 (Value.string sx); refine (C3.out _ ?_).mono ?_; (with_reducible assumption); rintro e wx ⟨rfl, hbx⟩))
    all_goals
      have hbf : Below W.heap.size W wx := by with_reducible assumption
      have HF := Lib.hid (HWW.out.trans (hbf.mono HWW.out.size))
      go_wp2_with fail
      go_returns
      exact ⟨rfl, HF.out⟩
end Go.Proofs.YtfpeplpoliileaaDoor
