/- How the arguments read: a node that can be read as data is a tree; a slice of ints, a slice of nodes. -/
import Derived.Test.YtfpeplpoliileaaDoorFrame
namespace Go.Proofs.YtfpeplpoliileaaDoor
open Go.ChangeShapes Go.WideShapes Go.ChangeAt Go.RowKit Pl

theorem cells25 : Tryd.prog.cellsOf 25 = 3 := by kernel_rfl
theorem cells4 : Tryd.prog.cellsOf 4 = 1 := by kernel_rfl
theorem cells9 : Tryd.prog.cellsOf 9 = 1 := by kernel_rfl
theorem cells23 : Tryd.prog.cellsOf 23 = 1 := by kernel_rfl
theorem cells3 : Tryd.prog.cellsOf 3 = 1 := by kernel_rfl

/-- Cells behind an address, as a row. -/
theorem row_of_add {W : World} {a : Addr} {cells : List Value} (h : ∀ j u, cells[j]? = some u → W.cell? (a.add j) = some u) : Row anyB W (some a) cells := by
  intro j u hj
  have hne : a.spot = none := by
    cases cells with
    | nil => simp at hj
    | cons x xs =>
      have h0 := h 0 x rfl
      have he : a.add 0 = a := by simp [Addr.add]
      rw [he] at h0
      unfold World.cell? at h0
      split at h0
      · split at h0
        · cases h0
        · rename_i hs
          cases hsp : a.spot with
          | none => rfl
          | some _ => rw [hsp] at hs; simp at hs
      · cases h0
  obtain ⟨b, o, sp⟩ := a
  simp only at hne
  subst hne
  refine ⟨b, o, rfl, trivial, ?_⟩
  have := h j u hj
  rw [← this]
  congr 1
  unfold Addr.add
  split
  · rename_i h0; simp
  · rfl

section
variable {H : Type} {enc : TypeId × Value → H} {W : World} {sp : Nat → Bool} {held : Bool}

theorem kids_of_elems (a : Addr) (n len : Nat) (elems : List (DataW H × List MemPlace))
    (hnode : ∀ cs x, DataW.trod enc Tryd.prog W 0 sp held n 25 cs = some x → ∃ t c0 c1 c2, cs = [c0, c1, c2] ∧ Lies anyB W t (.agg #[c0, c1, c2]))
    (hlen : elems.length = len) (hel : ∀ i, i < len → (W.cells? 0 (a.add (i * 3)) 3).bind (DataW.trod enc Tryd.prog W 0 sp held n 25) = elems[i]?) :
    ∀ m, m ≤ len → ∃ (ks : List Tr) (cells : List Value), ks.length = m ∧ Trips anyB W ks cells ∧ ∀ j u, cells[j]? = some u → W.cell? (a.add j) = some u := by
  intro m
  induction m with
  | zero => intro _; exact ⟨[], [], rfl, by rw [Trips], fun j u h => by simp at h⟩
  | succ m ih =>
    intro hm
    obtain ⟨ks, cells, hk, ht, hc⟩ := ih (by omega)
    have h1 := hel m (by omega)
    rw [List.getElem?_eq_getElem (by omega)] at h1
    obtain ⟨cs, hcs, htr⟩ := Option.bind_eq_some_iff.1 h1
    obtain ⟨t, c0, c1, c2, rfl, hL⟩ := hnode cs _ htr
    obtain ⟨_, _, hcell⟩ := World.cells?_some hcs
    have hl3 := Trips.length ks cells ht
    refine ⟨ks ++ [t], cells ++ [c0, c1, c2], by simp [hk], Trips.snoc ks hL cells ht, fun j u hj => ?_⟩
    by_cases hlt : j < cells.length
    · rw [List.getElem?_append_left hlt] at hj
      exact hc j u hj
    · rw [List.getElem?_append_right (by omega)] at hj
      have hj3 : j - cells.length < 3 := by
        have := (List.getElem?_eq_some_iff.1 hj).1
        simpa using this
      have h2 := hcell (j - cells.length) hj3
      rw [hj] at h2
      rw [← h2, Addr.add_add]
      congr 2
      omega

theorem node_lies : ∀ (fuel : Nat) (cs : List Value) (x : DataW H × List MemPlace), DataW.trod enc Tryd.prog W 0 sp held fuel 25 cs = some x → ∃ t c0 c1 c2, cs = [c0, c1, c2] ∧ Lies anyB W t (.agg #[c0, c1, c2]) := by
  intro fuel
  induction fuel using Nat.strongRecOn with
  | _ fuel ih =>
    intro cs x h
    obtain ⟨xs, n, rfl, _, hcl, hxl, hf⟩ := DataW.trod_struct Tryd.underlying25 h
    rw [cells25] at hcl
    match cs, hcl with
    | [c0, c1, c2], _ =>
      have f0 : DataW.trod enc Tryd.prog W 0 sp held n 4 ([c0, c1, c2].drop 0 |>.take (Tryd.prog.cellsOf 4)) = xs[0]? := hf 0 _ rfl
      have f1 : DataW.trod enc Tryd.prog W 0 sp held n 9 ([c0, c1, c2].drop 1 |>.take (Tryd.prog.cellsOf 9)) = xs[1]? := hf 1 _ rfl
      have f2 : DataW.trod enc Tryd.prog W 0 sp held n 23 ([c0, c1, c2].drop 2 |>.take (Tryd.prog.cellsOf 23)) = xs[2]? := hf 2 _ rfl
      rw [cells4] at f0
      rw [cells9] at f1
      rw [cells23] at f2
      have hxl : xs.length = 3 := hxl
      rw [List.getElem?_eq_getElem (by omega)] at f0
      rw [List.getElem?_eq_getElem (by omega)] at f1
      rw [List.getElem?_eq_getElem (by omega)] at f2
      obtain ⟨l, h0, _⟩ := DataW.trod_bool Tryd.underlying4 f0
      obtain ⟨s, h1, _, hs⟩ := DataW.trod_string Tryd.underlying9 f1
      obtain rfl : c0 = _ := List.cons.inj h0 |>.1
      obtain rfl : c1 = _ := List.cons.inj h1 |>.1
      have hsl : s.data.toList.length ≤ maxLen := by rw [← Lib.size_eq]; exact hs
      rcases DataW.trod_slice Tryd.underlying23 f2 with ⟨h2, _⟩ | ⟨a, len, cap, elems, rest, n', hn', h2, _, _, hlc, hcm, hlen, hel, _, _⟩
      · obtain rfl : c2 = _ := List.cons.inj h2 |>.1
        refine ⟨.mk l s.data.toList [], _, _, _, rfl, ?_⟩
        rw [Lies]
        exact ⟨s, none, 0, [], rfl, rfl, hsl, by simp, fun j u hj => by simp at hj, by rw [Trips]⟩
      · obtain rfl : c2 = _ := List.cons.inj h2 |>.1
        rw [cells25] at hel
        obtain ⟨ks, cells, hk, ht, hc⟩ := kids_of_elems a n' len elems (fun cs x hh => ih n' (by omega) cs x hh) hlen hel len (Nat.le_refl _)
        subst hk
        refine ⟨.mk l s.data.toList ks, _, _, _, rfl, ?_⟩
        rw [Lies]
        exact ⟨s, some a, cap, cells, rfl, rfl, hsl, Nat.le_trans hlc hcm, row_of_add hc, ht⟩

/-- An argument of type Node. -/
theorem open_node {base : Nat} {v : Value} {d : DataW H} {ps : List MemPlace} (hval : Value.okWide Tryd.prog W .any base 25 v) (h : DataW.Trod enc Tryd.prog W 0 sp held 25 v d ps) : ∃ t, Lies anyB W t v := by
  obtain ⟨cs, rfl, hsz⟩ := okWide_struct Tryd.underlying25 hval
  obtain ⟨fuel, hf⟩ := h
  obtain ⟨t, c0, c1, c2, hcs, hL⟩ := node_lies fuel _ _ hf
  refine ⟨t, ?_⟩
  have : cs = #[c0, c1, c2] := by
    cases cs
    simpa [Value.cells] using hcs
  rw [this]; exact hL

/-- An argument of type []int. -/
theorem open_path {base : Nat} {v : Value} {d : DataW H} {ps : List MemPlace} (hval : Value.okWide Tryd.prog W .any base 31 v) (h : DataW.Trod enc Tryd.prog W 0 (fun _ => true) held 31 v d ps) : ∃ A c zs, v = .slice A (List.length zs) c ∧ Ints W A zs := by
  obtain ⟨a0, len, cap, rfl⟩ := okWide_slice Tryd.underlying31 hval
  obtain ⟨fuel, hf⟩ := h
  rcases DataW.trod_slice Tryd.underlying31 hf with ⟨h2, _⟩ | ⟨a, len', cap', elems, rest, n', hn', h2, _, _, hlc, hcm, hlen, hel, _, _⟩
  · simp [Value.cells] at h2
    obtain ⟨rfl, rfl, rfl⟩ := h2
    exact ⟨none, 0, [], rfl, by simp, fun z hz => by simp at hz, fun i hi => by simp at hi⟩
  · simp [Value.cells] at h2
    obtain ⟨rfl, rfl, rfl⟩ := h2
    rw [cells3] at hel
    have hz : ∀ i, i < len → ∃ z : Int, W.cell? (a.add i) = some (.int .i64 z) ∧ -9223372036854775808 ≤ z ∧ z ≤ 9223372036854775807 := by
      intro i hi
      have h1 := hel i hi
      rw [List.getElem?_eq_getElem (by omega), Nat.mul_one] at h1
      obtain ⟨cs, hcs, htr⟩ := Option.bind_eq_some_iff.1 h1
      obtain ⟨z, rfl, _, hwf⟩ := DataW.trod_int Tryd.underlying3 htr
      obtain ⟨_, _, hcell⟩ := World.cells?_some hcs
      have h2 := hcell 0 (by omega)
      rw [Addr.add_add, Nat.add_zero] at h2
      exact ⟨z, h2, by simpa [Lit.wf, IntKind.min, IntKind.max, IntKind.signed, IntKind.bits] using hwf⟩
    have hch : ∀ m, m ≤ len → ∃ zs : List Int, zs.length = m ∧ (∀ z ∈ zs, -9223372036854775808 ≤ z ∧ z ≤ 9223372036854775807) ∧ ∀ j u, (zs.map (Value.int .i64))[j]? = some u → W.cell? (a.add j) = some u := by
      intro m
      induction m with
      | zero => intro _; exact ⟨[], rfl, fun z h => by simp at h, fun j u h => by simp at h⟩
      | succ m ih =>
        intro hm
        obtain ⟨zs, h1, h2, h3⟩ := ih (by omega)
        obtain ⟨z, g1, g2⟩ := hz m (by omega)
        refine ⟨zs ++ [z], by simp [h1], ?_, ?_⟩
        · intro y hy
          rcases List.mem_append.1 hy with hy | hy
          · exact h2 y hy
          · simp at hy; subst hy; exact g2
        · intro j u hj
          rw [List.map_append] at hj
          by_cases hlt : j < (zs.map (Value.int .i64)).length
          · rw [List.getElem?_append_left hlt] at hj; exact h3 j u hj
          · rw [List.getElem?_append_right (by omega)] at hj
            have hj1 : j - (zs.map (Value.int .i64)).length < 1 := by
              have := (List.getElem?_eq_some_iff.1 hj).1
              simpa using this
            have hjm : j = m := by simp at hlt hj1; omega
            subst hjm
            simp [h1] at hj
            rw [g1, hj]
    obtain ⟨zs, h1, h2, h3⟩ := hch len (Nat.le_refl _)
    subst h1
    refine ⟨some a, cap, zs, rfl, Nat.le_trans hlc hcm, h2, fun i hi => ?_⟩
    obtain ⟨b, o, e1, _, e2⟩ := row_of_add h3 i (.int .i64 zs[i]) (by simp [hi])
    exact ⟨b, o, e1, World.block_lt_of_cell? W _ e2, e2⟩
end
end Go.Proofs.YtfpeplpoliileaaDoor
