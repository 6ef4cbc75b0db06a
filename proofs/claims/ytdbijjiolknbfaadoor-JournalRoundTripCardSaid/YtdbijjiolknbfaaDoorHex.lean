/- The walks of the library's FormatUint at base 16 and of Hex; the reference's Hex. -/
import Derived.Test.YtdbijjiolknbfaaDoorNums
namespace Go.Proofs.YtdbijjiolknbfaaDoor
open Go.RowKit Pl

/-- The one cell of the library's table that is read. -/
def Tab (w : World) : Prop := w.cell? ⟨5, 15, none⟩ = some (.int .u8 4)
theorem Tab.on {w w' : World} (h : Tab w) (hb : Below w.heap.size w w') : Tab w' := by
  have hlt := World.block_lt_of_cell? w _ h
  exact (hb.cell hlt).trans h

theorem zeros64_any (w : World) (h : Tab w) : Calls Tryd.prog 89 #[.int .u64 16] w fun e w' => e = .returned (.int .i64 4) ∧ w' = w := by
  have h1 : w.cell? ⟨5, 15, none⟩ = some (.int .u8 4) := h
  have kall : (IntKind.u64.wrap (bits .and .u64 16 (IntKind.u64.wrap (-16)) * 285870213051353865) / 288230376151711744).toNat = 15 := by decide
  clear h
  go_enter Tryd.func89, Tryd.ntmps89
  go_wp2_with fail
  go_returns
  exact ⟨rfl, rfl⟩
theorem zeros_any (w : World) (h : Tab w) : Calls Tryd.prog 81 #[.int .u64 16] w fun e w' => e = .returned (.int .i64 4) ∧ w' = w := by
  have H := Lib.hid h
  clear h
  go_enter Tryd.func81, Tryd.ntmps81
  go_wp2_with fail
  refine (zeros64_any w H.out).mono ?_
  rintro e w1 ⟨rfl, hw⟩
  rw [hw]
  go_wp2_with fail
  go_returns
  exact ⟨rfl, rfl⟩

theorem pow2_any (w : World) : Calls Tryd.prog 80 #[.int .i64 16] w fun e w' => e = .returned (.bool true) ∧ w' = w := by
  have k1 : bits .and .i64 16 15 = 0 := by decide
  go_enter Tryd.func80, Tryd.ntmps80
  go_wp2_with fail
  go_returns
  exact ⟨rfl, rfl⟩

theorem fmt_big {x : Nat} (h : ¬ x < 16) : fmt x = fmt (x / 16) ++ [hdig (x % 16)] := by rw [fmt, dif_neg h]
theorem fmt_small {x : Nat} (h : x < 16) : fmt x = [hdig x] := by rw [fmt, dif_pos h]
/-- The cell of a digit. -/
def digV (n : Nat) : Value := .int .u8 ((hdig n).toNat : Int)
theorem and15 (x : Nat) (hx : x < 18446744073709551616) : bits .and .u64 (x : Int) 15 = ((x % 16 : Nat) : Int) := by
  have h := bits_and_u64_nat x 15 hx (by omega)
  have e : x &&& 15 = x % 16 := Nat.and_two_pow_sub_one_eq_mod x 4
  rw [e] at h
  exact h
/-- The array of digits: what is not yet written, and the digits. -/
def Arr (w : World) (g : Nat) (pre : List Value) (l : List UInt8) : Prop := Blk w g 102 (pre ++ Lib.byteCells l).toArray
theorem Arr.put {w : World} {g : Nat} {pre : List Value} {x : Value} {l : List UInt8} (h : Arr w g (pre ++ [x]) l) (c : UInt8) : Arr (w.setCell ⟨g, pre.length, none⟩ (.int .u8 (c.toNat : Int))) g pre (c :: l) := by
  have := Blk.set_ h pre.length (.int .u8 (c.toNat : Int))
  unfold Arr
  have e : (((pre ++ [x]) ++ Lib.byteCells l).toArray).setIfInBounds pre.length (.int .u8 (c.toNat : Int)) = (pre ++ Lib.byteCells (c :: l)).toArray := by
    simp [Lib.byteCells]
  rw [e] at this
  exact this
theorem Arr.cell {w : World} {g : Nat} {pre : List Value} {x : Value} {l : List UInt8} (h : Arr w g (pre ++ [x]) l) : w.cell? ⟨g, pre.length, none⟩ = some x ∧ w.frozen? ⟨g, pre.length, none⟩ = false := by
  refine ⟨?_, Blk.frozen h _⟩
  have := Blk.cell h pre.length
  simpa using this
theorem Arr.bytes {w : World} {g : Nat} {pre : List Value} {l : List UInt8} (h : Arr w g pre l) : ∀ j (hj : j < l.length), w.cell? ((⟨g, pre.length, none⟩ : Addr).add j) = some (.int .u8 (l[j].toNat : Int)) := by
  intro j hj
  have hadd : (⟨g, pre.length, none⟩ : Addr).add j = ⟨g, pre.length + j, none⟩ := by unfold Addr.add; split <;> simp_all
  rw [hadd, Blk.cell h]
  simp [Lib.byteCells, hj]

theorem slice102 (g n : Nat) (hn : n < 65) (w : World) : (Instr.sliceAt 102 (.pointer (some ⟨g, 0, none⟩)) (some (.int .i64 (n : Int))) none none).run Tryd.prog w = .ok (.slice (some ⟨g, n, none⟩) (65 - n) (65 - n)) w := by
  have ha : Tryd.prog.arrayLen 102 = 65 := by kernel_rfl
  have he : Tryd.prog.elem 102 = 5 := by kernel_rfl
  rw [run_sliceAt_array_l (P := Tryd.prog) (w := w) (t := 102) (a := ⟨g, 0, none⟩) (ht := by kernel_rfl) .i64 (n : Int) (by omega) (by rw [ha]; omega), ha, he]
  have hs : (sizeOf 5).run Tryd.prog w = .ok 1 w := by kernel_rfl
  rw [hs]
  simp [Result.andThen, slicedAt, Addr.add]
  split
  · omega
  · split
    · rename_i h; rw [h]
    · rfl
def digs36 : ByteArray := ⟨#[48, 49, 50, 51, 52, 53, 54, 55, 56, 57, 97, 98, 99, 100, 101, 102, 103, 104, 105, 106, 107, 108, 109, 110, 111, 112, 113, 114, 115, 116, 117, 118, 119, 120, 121, 122]⟩
theorem dig36 (n : Nat) (h : n < 16) (h2 : n < (⟨#[48, 49, 50, 51, 52, 53, 54, 55, 56, 57, 97, 98, 99, 100, 101, 102, 103, 104, 105, 106, 107, 108, 109, 110, 111, 112, 113, 114, 115, 116, 117, 118, 119, 120, 121, 122]⟩ : ByteArray).size) : (⟨#[48, 49, 50, 51, 52, 53, 54, 55, 56, 57, 97, 98, 99, 100, 101, 102, 103, 104, 105, 106, 107, 108, 109, 110, 111, 112, 113, 114, 115, 116, 117, 118, 119, 120, 121, 122]⟩ : ByteArray)[n] = hdig n := by
  match n, h with
  | 0, _ => rfl
  | 1, _ => rfl
  | 2, _ => rfl
  | 3, _ => rfl
  | 4, _ => rfl
  | 5, _ => rfl
  | 6, _ => rfl
  | 7, _ => rfl
  | 8, _ => rfl
  | 9, _ => rfl
  | 10, _ => rfl
  | 11, _ => rfl
  | 12, _ => rfl
  | 13, _ => rfl
  | 14, _ => rfl
  | 15, _ => rfl
  | n + 16, h => exact absurd h (by omega)

set_option maxRecDepth 100000 in
set_option maxHeartbeats 1000000 in
theorem bits16_any (u : Nat) (hu : u < 18446744073709551616) (w : World) (ht : Tab w) :
    Calls Tryd.prog 71 #[.slice none 0 0, .int .u64 (u : Int), .int .i64 16, .bool false, .bool false] w fun e w' => e = .returned (.tuple #[.slice none 0 0, .string ⟨(fmt u).toArray⟩]) ∧ Below w.heap.size w w' := by
  have HT := Lib.hid (ht.on ((Below.refl _ _).alloc (Nat.le_refl _) (.cells Tryd.zeroCells102 102)))
  have HB0 := Lib.hid ((Below.refl w.heap.size w).alloc (Nat.le_refl _) (.cells Tryd.zeroCells102 102))
  have HA0 : Hid (Arr (w.alloc (.cells Tryd.zeroCells102 102)) w.heap.size (List.replicate 65 (.int .u8 0)) []) := by
    have h := Blk.new w 102 Tryd.zeroCells102
    have e : Tryd.zeroCells102 = (List.replicate 65 (Value.int .u8 0) ++ Lib.byteCells []).toArray := by kernel_rfl
    show Blk _ _ _ _
    rw [← e]; exact h
  have hfl := (fmt_hex u hu).1
  have HFL := Lib.hid hfl
  clear ht hfl
  go_enter Tryd.func71, Tryd.ntmps71
  go_wp2_with fail
  generalize w.alloc (.cells Tryd.zeroCells102 102) = W at *
  refine (pow2_any _).mono ?_
  rintro e w1 ⟨rfl, hw⟩
  rw [hw]
  clear hw
  go_wp2_with fail
  refine (zeros_any _ HT.out).mono ?_
  rintro e w1 ⟨rfl, hw⟩
  rw [hw]
  clear hw
  go_wp2_with fail
  go_loopw [1, 13] (fun uv iv wr => ∃ (x : Nat) (l : List UInt8) (pre : List Value), uv = .int .u64 (x : Int) ∧ iv = .int .i64 (pre.length : Int) ∧ pre.length + l.length = 65 ∧ Arr wr w.heap.size pre l ∧ fmt u = fmt x ++ l ∧ x < 18446744073709551616 ∧ Below w.heap.size w wr) (fun uv _ _ => (intOf uv).toNat)
  case atStart => exact ⟨u, [], _, rfl, rfl, rfl, HA0.out, by simp, hu, HB0.out⟩
  case round =>
    obtain ⟨x, l, pre0, rfl, rfl, hlen, harr, hfm, hx, hbw⟩ := hrel
    have hfp := fmt_pos x
    have hfl := HFL.out
    rw [hfm, List.length_append] at hfl
    have hpl : 50 ≤ pre0.length := by omega
    obtain ⟨pre, y, rfl⟩ : ∃ pre y, pre0 = pre ++ [y] := ⟨pre0.dropLast, pre0.getLast (by intro h; rw [h] at hpl; simp at hpl), (List.dropLast_concat_getLast _).symm⟩
    obtain ⟨c0, f0⟩ := harr.cell
    have hpl2 : pre.length ≤ 64 := by simp at hlen; omega
    have hplen : (((pre ++ [y]).length : Nat) : Int) = (pre.length : Int) + 1 := by simp
    have hlen2 : pre.length + (l.length + 1) = 65 := by simp at hlen; omega
    rw [hplen]
    have HARR := Lib.hid harr
    have HBW := Lib.hid hbw
    have HFM := Lib.hid hfm
    have HL2 := Lib.hid hlen2
    clear harr hbw hfm hlen hlen2 hpl hfl hfp hplen HA0 HB0 HT
    by_cases hbig : x < 16
    · have HS := Lib.hid (fmt_small hbig)
      have hbi : ¬ (16 : Int) ≤ (x : Int) := by omega
      have hsl := slice102 w.heap.size pre.length (by omega)
      have hcv : ∀ (w' : World), Arr w' w.heap.size pre (hdig x :: l) → (convert 49 9 (.slice (some ⟨w.heap.size, pre.length, none⟩) (65 - pre.length) (65 - pre.length))).run Tryd.prog w' = .ok (.string ⟨(fmt u).toArray⟩) w' := by
        intro w' ha
        have h := run_convert_bytes_back (P := Tryd.prog) w' 49 9 5 ⟨w.heap.size, pre.length, none⟩ (65 - pre.length) (hdig x :: l) Tryd.underlying49 Tryd.underlying5 Tryd.underlying9 ha.bytes
        have e1 : (hdig x :: l).length = 65 - pre.length := by have := HL2.out; simp; omega
        rw [e1] at h
        rw [h, HFM.out, HS.out]; rfl
      have hcv2 := hcv _ (by rw [← dig36 x hbig (Nat.lt_trans hbig (by decide))]; exact HARR.out.put _)
      have hcv3 : (convert 49 9 (.slice (some ⟨w.heap.size, pre.length, none⟩) (65 - pre.length) (65 - pre.length))).run Tryd.prog _ = _ := hcv2
      clear hcv
      go_wp2_with fail
      go_ret2
      exact ⟨rfl, HBW.out.setCell (p := ⟨w.heap.size, pre.length, none⟩) (by simp) _⟩
    · have HS := Lib.hid (fmt_big hbig)
      have hbi : (16 : Int) ≤ (x : Int) := by omega
      have k1 := and15 x hx
      have hm : x % 16 < 16 := Nat.mod_lt _ (by omega)
      generalize x % 16 = n at *
      go_wp2_with fail
      go_roundw
      case rel =>
        refine ⟨x / 16, hdig n :: l, pre, by go_num, rfl, HL2.out, ?_, ?_, by omega, HBW.out.setCell (p := ⟨w.heap.size, pre.length, none⟩) (by simp) _⟩
        · rw [dig36 n hm]; exact HARR.out.put _
        · rw [HFM.out, HS.out, List.append_assoc]; rfl
      case measure => simp [intOf]; omega
end Go.Proofs.YtdbijjiolknbfaaDoor
