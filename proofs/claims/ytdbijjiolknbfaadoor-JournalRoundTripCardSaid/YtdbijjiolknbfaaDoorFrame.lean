/- The frame of the laws' cards: what a row's list gives, the witness' world, and how a law's row is closed. -/
import Derived.Test.YtdbijjiolknbfaaDoorCards
import Derived.Test.YtdbijjiolknbfaaDoorTie
import Derived.Test.YtdbijjiolknbfaaDoorLawsA
import Derived.WalkKit
import Derived.ProofKit
import Derived.OpenShut
import Derived.Deep.DeepHandedRow
import Derived.Lib.LaidTab
import Derived.LaidSub
import Derived.Deep.Strs
import Derived.Lib.ItoaMem
import Derived.Lib.SmallJoins
namespace Go.Proofs.YtdbijjiolknbfaaDoor
open Go.ChangeShapes Go.WideShapes Go.ChangeAt Go.RowKit

theorem own : ownKnob Tryd.prog.godebug = none := by kernel_rfl
theorem laidOut : laidOutB Tryd.prog = true := by kernel_rfl
theorem gTab : Tryd.prog.globalNamed "math/bits.deBruijn64tab" = some 5 := by kernel_rfl
theorem gTabType : (Tryd.prog.globals[5]?).map (·.type) = some 110 := by kernel_rfl
theorem cells110 : Tryd.prog.cellsOf 110 = 64 := by kernel_rfl
theorem cells5 : Tryd.prog.cellsOf 5 = 1 := by kernel_rfl
theorem cells9 : Tryd.prog.cellsOf 9 = 1 := by kernel_rfl
theorem cells35 : Tryd.prog.cellsOf 35 = 1 := by kernel_rfl
theorem cells3 : Tryd.prog.cellsOf 3 = 1 := by kernel_rfl
theorem cells39 : Tryd.prog.cellsOf 39 = 3 := by kernel_rfl
def tab32 : List Int := [0, 1, 28, 2, 29, 14, 24, 3, 30, 22, 20, 15, 25, 17, 4, 8, 31, 27, 13, 23, 21, 19, 16, 7, 26, 12, 18, 6, 11, 5, 10, 9]
def tab64 : List Int := [0, 1, 56, 2, 57, 49, 28, 3, 61, 58, 42, 50, 38, 29, 17, 4, 62, 47, 59, 36, 45, 43, 51, 22, 53, 39, 33, 30, 24, 18, 12, 5, 63, 55, 48, 27, 60, 41, 37, 16, 46, 35, 44, 21, 52, 32, 23, 11, 54, 26, 40, 15, 34, 20, 31, 10, 25, 14, 19, 9, 13, 8, 7, 6]

/-- What the rows list. -/
def laidAll : List (String × DataW Unit) := [("math/bits.deBruijn32tab", Rows.laid_math_bits_deBruijn32tab), ("math/bits.deBruijn64tab", Rows.laid_math_bits_deBruijn64tab), ("internal/strconv.uint64pow10", Rows.laid_internal_strconv_uint64pow10)]

theorem tab_data : (Rows.laid_math_bits_deBruijn64tab : DataW Unit) = Lib.tabData .u8 tab64 := by kernel_rfl

theorem table {W : World} (h : laidMetH Tryd.prog laidAll W) : Tab W := by
  have h1 : laidMet Tryd.prog laidAll W := h
  have h2 := h1.filter (fun x => x.1 == "math/bits.deBruijn64tab")
  have h3 : laidAll.filter (fun x => x.1 == "math/bits.deBruijn64tab") = [("math/bits.deBruijn64tab", Lib.tabData .u8 tab64)] := by
    rw [← tab_data]; rfl
  rw [h3] at h2
  have h4 := Lib.tabIs_of_head (rest := []) gTab gTabType Tryd.underlying110 Tryd.underlying5 cells5 cells110 h2
  exact h4.cell gTab 15 (by decide)

section
variable {H : Type} {enc : TypeId × Value → H}
theorem trodAll_stays {W W' : World} {sp : Nat → Bool} : ∀ {ts : List TypeId} {vs : List Value} {ds : List (DataW H)} {ps : List MemPlace}, (∀ t ∈ ts, Tryd.prog.readableRec t = true ∧ t < Tryd.prog.types.size) →
    DataW.TrodAll enc Tryd.prog W 0 (fun _ => true) true ts vs ds ps → (∀ x ∈ ps, W.sameAt W' x) → (∀ x ∈ ps, sp x.block = true) → DataW.TrodAll enc Tryd.prog W' 0 sp true ts vs ds ps := by
  intro ts
  induction ts with
  | nil =>
    intro vs ds ps _ h _ _
    obtain ⟨rfl, rfl, rfl⟩ := trodAll_nil h
    exact trodAll_mk0
  | cons t ts ih =>
    intro vs ds ps ht h hsame hsp
    obtain ⟨v, vs', d, ds', p, q, rfl, rfl, rfl, h0, r⟩ := trodAll_cons h
    have h1 := ht t (by simp)
    exact trodAll_cons_mk (WideElems.Trod_stays laidOut h1.1 h1.2 h0 (fun x hx => hsame x (by simp [hx])) (fun x hx => hsp x (by simp [hx])))
      (ih (fun t ht' => ht t (by simp [ht'])) r (fun x hx => hsame x (by simp [hx])) (fun x hx => hsp x (by simp [hx])))

theorem law_post {fn : Func} {s : ChangeSpec} {W W' : World} {args : Array Value} {ds : List (DataW H)} {before : List MemPlace}
    (hts : ∀ t ∈ fn.params.toList, Tryd.prog.readableRec t = true ∧ t < Tryd.prog.types.size) (hvars : s.vars = []) (hfn : s.fn H (ds ++ []) = { results := [.lit (.bool true)], args := ds }) (hrt : fn.resultTypes = #[4])
    (hW : DataW.Whole enc Tryd.prog fn.params.toList s.vars false W args.toList ds [] before) (hb : Below W.heap.size W W') : s.post enc Tryd.prog fn false true false false W args (.bool true) W' := by
  have hlt : ∀ p ∈ before, p.block < W.heap.size := fun p hp => hW.lt p hp
  obtain ⟨p, q, hA, hV, hpq, hz, hn⟩ := hW
  have hW2 : DataW.Whole enc Tryd.prog fn.params.toList s.vars false W args.toList ds [] before := ⟨p, q, hA, hV, hpq, hz, hn⟩
  have hq : q = [] := by
    rw [hvars] at hV
    exact (trodVars_none hV).2
  have hp : before = p := by rw [hpq, hq, List.append_nil]
  subst hp
  refine ⟨ds, [], before, [], before, [], hW2, ?_, ?_, ?_, ?_, fun h => by cases h⟩
  · rw [hfn, hrt]
    exact trodAll_cons_mk (shut_bool Tryd.underlying4 true) trodAll_mk0
  · rw [hfn]
    exact trodAll_stays hts hA (fun x hx => hb.same (hlt x hx)) (fun x hx => by simpa using hlt x hx)
  · rw [hfn, hvars]; rfl
  · exact World.keptBut_mono (fun p hp => ⟨hp, .inr (.inl hp)⟩) (hb.frame (· ∈ before))
end

/-- The cells of a block, laid anew. -/
def layCells (cs : Array Value) : Obj → Obj
  | .cells _ t frozen => .cells cs t frozen
  | o => o
def laidHeap (h : Array Obj) : Array Obj := ((h.modify 0 (layCells (Lib.pow10Tab.map (Value.int .u64)).toArray)).modify 4 (layCells (tab32.map (Value.int .u8)).toArray)).modify 5 (layCells (tab64.map (Value.int .u8)).toArray)
/-- A world for the witness: the settled one, the tables holding what their initialisers lay. -/
noncomputable def laidWorld (os : Os) : World := { World.holding Tryd.prog os ⟨#[], #[], []⟩ with heap := laidHeap (World.holding Tryd.prog os ⟨#[], #[], []⟩).heap }

/-! ### how the arguments read -/
set_option maxRecDepth 100000
theorem addr_plain {W : World} {a : Addr} {j : Nat} {u0 u : Value} (h0 : W.cell? (a.add 0) = some u0) (h : W.cell? (a.add j) = some u) : ∃ b o, a = ⟨b, o, none⟩ ∧ b < W.heap.size ∧ W.cell? ⟨b, o + j, none⟩ = some u := by
  have hne2 : a.spot = none := by
    have he : a.add 0 = a := by simp [Addr.add]
    rw [he] at h0
    unfold World.cell? at h0
    split at h0
    · split at h0
      · cases h0
      · rename_i hs
        cases hsp : a.spot with
        | none => rfl
        | some _ => rw [hsp] at hs; simp at hs
    · cases h0
  obtain ⟨b, o, sp⟩ := a
  simp only at hne2
  subst hne2
  have hadd : (⟨b, o, none⟩ : Addr).add j = ⟨b, o + j, none⟩ := by
    unfold Addr.add
    split
    · simp
    · rfl
  rw [hadd] at h
  exact ⟨b, o, rfl, World.block_lt_of_cell? W _ h, h⟩

section
variable {H : Type} {enc : TypeId × Value → H} {W : World} {sp : Nat → Bool} {held : Bool}
/-- An argument of type []string; a nil one has no room. -/
theorem open_texts {base : Nat} {v : Value} {d : DataW H} {ps : List MemPlace} (hval : Value.okWide Tryd.prog W .any base 23 v) (h : DataW.Trod enc Tryd.prog W 0 (fun _ => true) held 23 v d ps) :
    ∃ A c l, v = .slice A (List.length l) c ∧ (Strs W A l ∧ (A = none → c = 0)) := by
  obtain ⟨a0, len, cap, rfl⟩ := okWide_slice Tryd.underlying23 hval
  obtain ⟨fuel, hf⟩ := h
  rcases Go.Deep.open_strs Tryd.underlying23 Tryd.underlying9 cells9 hf with ⟨h2, _⟩ | ⟨a, len', cap', m, Sx, h2, _, hlc, hcm, hm, _, hc⟩
  · simp [Value.cells] at h2
    obtain ⟨rfl, rfl, rfl⟩ := h2
    exact ⟨none, 0, [], rfl, ⟨by simp, fun s hs => by simp at hs, fun i hi => by simp at hi⟩, fun _ => rfl⟩
  · simp [Value.cells] at h2
    obtain ⟨rfl, rfl, rfl⟩ := h2
    have hml : len ≤ m := by rw [hm]; simp; exact hlc
    refine ⟨some a, cap, (List.range len).map Sx, by simp, ⟨by simp; exact Nat.le_trans hlc hcm, ?_, ?_⟩, fun h => by cases h⟩
    · intro s hs
      obtain ⟨i, hi, rfl⟩ := List.mem_map.1 hs
      exact (hc i (Nat.lt_of_lt_of_le (List.mem_range.1 hi) hml)).2
    · intro i hi
      have hi2 : i < len := by simpa using hi
      obtain ⟨b, o, h1, h2, h3⟩ := addr_plain (hc 0 (by omega)).1 (hc i (Nat.lt_of_lt_of_le hi2 hml)).1
      exact ⟨b, o, by rw [h1], h2, by simpa using h3⟩

/-- An argument of type uint64. -/
theorem open_u64 {base : Nat} {v : Value} {d : DataW H} {ps : List MemPlace} (hval : Value.okWide Tryd.prog W .any base 35 v) (h : DataW.Trod enc Tryd.prog W 0 sp held 35 v d ps) :
    ∃ n : Nat, v = .int .u64 (n : Int) ∧ n < 18446744073709551616 := by
  obtain ⟨z, rfl, _, _, hw⟩ := open_int Tryd.underlying35 hval h
  have hz : 0 ≤ z ∧ z ≤ 18446744073709551615 := by simpa [Lit.wf, IntKind.min, IntKind.max, IntKind.signed, IntKind.bits] using hw
  exact ⟨z.toNat, by congr 1; omega, by omega⟩
theorem open_u16 {base : Nat} {v : Value} {d : DataW H} {ps : List MemPlace} (hval : Value.okWide Tryd.prog W .any base 48 v) (h : DataW.Trod enc Tryd.prog W 0 sp held 48 v d ps) :
    ∃ n : Nat, v = .int .u16 (n : Int) ∧ n < 65536 := by
  obtain ⟨z, rfl, _, _, hw⟩ := open_int Tryd.underlying48 hval h
  have hz : 0 ≤ z ∧ z ≤ 65535 := by simpa [Lit.wf, IntKind.min, IntKind.max, IntKind.signed, IntKind.bits] using hw
  exact ⟨z.toNat, by congr 1; omega, by omega⟩
theorem open_u8 {base : Nat} {v : Value} {d : DataW H} {ps : List MemPlace} (hval : Value.okWide Tryd.prog W .any base 5 v) (h : DataW.Trod enc Tryd.prog W 0 sp held 5 v d ps) :
    ∃ n : UInt8, v = .int .u8 (n.toNat : Int) := by
  obtain ⟨z, rfl, _, _, hw⟩ := open_int Tryd.underlying5 hval h
  have hz : 0 ≤ z ∧ z ≤ 255 := by simpa [Lit.wf, IntKind.min, IntKind.max, IntKind.signed, IntKind.bits] using hw
  exact ⟨UInt8.ofNat z.toNat, by congr 1; rw [UInt8.toNat_ofNat']; omega⟩
/-- An argument of type Parts. -/
theorem open_parts {base : Nat} {v : Value} {d : DataW H} {ps : List MemPlace} (hval : Value.okWide Tryd.prog W .any base 39 v) (h : DataW.Trod enc Tryd.prog W 0 sp held 39 v d ps) :
    ∃ (a : Nat) (n : Int) (b : Nat), v = .agg #[.int .u64 (a : Int), .int .i64 n, .int .u64 (b : Int)] ∧ (a < 18446744073709551616 ∧ b < 18446744073709551616 ∧ -9223372036854775808 ≤ n ∧ n ≤ 9223372036854775807) := by
  obtain ⟨cs, rfl, hsz⟩ := okWide_struct Tryd.underlying39 hval
  obtain ⟨fuel, hf⟩ := h
  obtain ⟨xs, n, _, _, hcl, hxl, hg⟩ := DataW.trod_struct Tryd.underlying39 hf
  rw [cells39] at hcl
  have hcl2 : cs.toList.length = 3 := by simpa [Value.cells] using hcl
  match hcs : cs.toList, hcl2 with
  | [c0, c1, c2], _ =>
    have hce : (Value.agg cs).cells.toList = [c0, c1, c2] := by simpa [Value.cells] using hcs
    rw [hce] at hg
    have f0 : DataW.trod enc Tryd.prog W 0 sp held n 35 ([c0, c1, c2].drop 0 |>.take (Tryd.prog.cellsOf 35)) = xs[0]? := hg 0 _ rfl
    have f1 : DataW.trod enc Tryd.prog W 0 sp held n 3 ([c0, c1, c2].drop 1 |>.take (Tryd.prog.cellsOf 3)) = xs[1]? := hg 1 _ rfl
    have f2 : DataW.trod enc Tryd.prog W 0 sp held n 35 ([c0, c1, c2].drop 2 |>.take (Tryd.prog.cellsOf 35)) = xs[2]? := hg 2 _ rfl
    rw [cells35] at f0 f2
    rw [cells3] at f1
    have hxl : xs.length = 3 := hxl
    rw [List.getElem?_eq_getElem (by omega)] at f0
    rw [List.getElem?_eq_getElem (by omega)] at f1
    rw [List.getElem?_eq_getElem (by omega)] at f2
    obtain ⟨z0, h0, _, w0⟩ := DataW.trod_int Tryd.underlying35 f0
    obtain ⟨z1, h1, _, w1⟩ := DataW.trod_int Tryd.underlying3 f1
    obtain ⟨z2, h2, _, w2⟩ := DataW.trod_int Tryd.underlying35 f2
    obtain rfl : c0 = _ := List.cons.inj h0 |>.1
    obtain rfl : c1 = _ := List.cons.inj h1 |>.1
    obtain rfl : c2 = _ := List.cons.inj h2 |>.1
    have e0 : 0 ≤ z0 ∧ z0 ≤ 18446744073709551615 := by simpa [Lit.wf, IntKind.min, IntKind.max, IntKind.signed, IntKind.bits] using w0
    have e1 : -9223372036854775808 ≤ z1 ∧ z1 ≤ 9223372036854775807 := by simpa [Lit.wf, IntKind.min, IntKind.max, IntKind.signed, IntKind.bits] using w1
    have e2 : 0 ≤ z2 ∧ z2 ≤ 18446744073709551615 := by simpa [Lit.wf, IntKind.min, IntKind.max, IntKind.signed, IntKind.bits] using w2
    refine ⟨z0.toNat, z1, z2.toNat, ?_, by omega, by omega, e1⟩
    have : cs = #[.int .u64 z0, .int .i64 z1, .int .u64 z2] := by
      cases cs; simpa using hcs
    rw [this]
    congr 1
    rw [show ((z0.toNat : Nat) : Int) = z0 by omega, show ((z2.toNat : Nat) : Int) = z2 by omega]
end
end Go.Proofs.YtdbijjiolknbfaaDoor
