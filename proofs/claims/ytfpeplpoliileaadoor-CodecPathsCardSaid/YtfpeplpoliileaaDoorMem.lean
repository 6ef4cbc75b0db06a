/- What it means that a value reads as a tree in a world, and what keeps that. -/
import Derived.Test.YtfpeplpoliileaaDoorPlain
import Derived.Test.YtfpeplpoliileaaDoorProg
import Derived.WalkKit
import Derived.Deep.Draws
import Derived.Lib.Hide
import Derived.Maps.AppendAt
import Derived.Lib.Strings
import Derived.WalkLawsBesides
import Derived.WalkSpells
import Derived.StillTailTactics
import Derived.Deep.RegionHeld3
import Derived.Deep.QuietTactic
import Derived.BigQuiet
import Derived.Handy
namespace Go.Proofs.YtfpeplpoliileaaDoor
open Go.RowKit Pl

/-- Everything is let. -/
def anyB : Nat → Prop := fun _ => True

/-- The cells lie in a row from the address on, in a block that is let. -/
def Row (ok : Nat → Prop) (w : World) (A : Option Addr) (cells : List Value) : Prop :=
  ∀ j u, cells[j]? = some u → ∃ b o, A = some ⟨b, o, none⟩ ∧ ok b ∧ w.cell? ⟨b, o + j, none⟩ = some u

mutual
/-- The value reads as the tree. -/
def Lies (ok : Nat → Prop) (w : World) : Tr → Value → Prop
  | .mk l s ks, v => ∃ sb A cap cells, v = .agg #[.bool l, .string sb, .slice A ks.length cap] ∧ sb.data.toList = s ∧ s.length ≤ maxLen ∧ ks.length ≤ maxLen ∧ Row ok w A cells ∧ Trips ok w ks cells
def Trips (ok : Nat → Prop) (w : World) : List Tr → List Value → Prop
  | [], cells => cells = []
  | t :: ts, cells => ∃ v0 v1 v2 rest, cells = v0 :: v1 :: v2 :: rest ∧ Lies ok w t (.agg #[v0, v1, v2]) ∧ Trips ok w ts rest
end

section
variable {ok : Nat → Prop} {w w' : World}

theorem Row.lt {A : Option Addr} {cells : List Value} (h : Row ok w A cells) {b o : Nat} (hA : A = some ⟨b, o, none⟩) (hc : cells ≠ []) : b < w.heap.size := by
  cases cells with
  | nil => exact absurd rfl hc
  | cons u us =>
    obtain ⟨b', o', h1, _, h2⟩ := h 0 u rfl
    rw [hA] at h1; injection h1 with h1; injection h1 with h1 h3
    have := World.block_lt_of_cell? w _ h2
    simp at this; omega

theorem Row.keep (hk : ∀ g, ok g → g < w.heap.size → w'.heap[g]? = w.heap[g]?) {A : Option Addr} {cells : List Value} (h : Row ok w A cells) : Row ok w' A cells := by
  intro j u hj
  obtain ⟨b, o, h1, h2, h3⟩ := h j u hj
  have hlt := World.block_lt_of_cell? w _ h3
  exact ⟨b, o, h1, h2, (World.cell?_of_block (w := w) (hk b h2 hlt)).trans h3⟩

mutual
theorem Lies.keep (hk : ∀ g, ok g → g < w.heap.size → w'.heap[g]? = w.heap[g]?) (t : Tr) : ∀ v, Lies ok w t v → Lies ok w' t v := by
  cases t with
  | mk l s ks =>
    intro v h
    rw [Lies] at h ⊢
    obtain ⟨sb, A, cap, cells, h1, h0, h2, h3, h4, h5⟩ := h
    exact ⟨sb, A, cap, cells, h1, h0, h2, h3, h4.keep hk, Trips.keep hk ks cells h5⟩
theorem Trips.keep (hk : ∀ g, ok g → g < w.heap.size → w'.heap[g]? = w.heap[g]?) (ts : List Tr) : ∀ cells, Trips ok w ts cells → Trips ok w' ts cells := by
  cases ts with
  | nil => intro cells h; rw [Trips] at h ⊢; exact h
  | cons t ts =>
    intro cells h
    rw [Trips] at h ⊢
    obtain ⟨v0, v1, v2, rest, h1, h2, h3⟩ := h
    exact ⟨v0, v1, v2, rest, h1, Lies.keep hk t _ h2, Trips.keep hk ts rest h3⟩
end

mutual
theorem Lies.mono {ok' : Nat → Prop} (hk : ∀ g, g < w.heap.size → ok g → ok' g) (t : Tr) : ∀ v, Lies ok w t v → Lies ok' w t v := by
  cases t with
  | mk l s ks =>
    intro v h
    rw [Lies] at h ⊢
    obtain ⟨sb, A, cap, cells, h1, h0, h2, h3, h4, h5⟩ := h
    refine ⟨sb, A, cap, cells, h1, h0, h2, h3, fun j u hj => ?_, Trips.mono hk ks cells h5⟩
    obtain ⟨b, o, g1, g2, g3⟩ := h4 j u hj
    exact ⟨b, o, g1, hk b (World.block_lt_of_cell? w _ g3) g2, g3⟩
theorem Trips.mono {ok' : Nat → Prop} (hk : ∀ g, g < w.heap.size → ok g → ok' g) (ts : List Tr) : ∀ cells, Trips ok w ts cells → Trips ok' w ts cells := by
  cases ts with
  | nil => intro cells h; rw [Trips] at h ⊢; exact h
  | cons t ts =>
    intro cells h
    rw [Trips] at h ⊢
    obtain ⟨v0, v1, v2, rest, h1, h2, h3⟩ := h
    exact ⟨v0, v1, v2, rest, h1, Lies.mono hk t _ h2, Trips.mono hk ts rest h3⟩
end

mutual
theorem Lies.to {ok' : Nat → Prop} (hk : ∀ g, ok g → g < w.heap.size → w'.heap[g]? = w.heap[g]? ∧ ok' g) (t : Tr) : ∀ v, Lies ok w t v → Lies ok' w' t v := by
  cases t with
  | mk l s ks =>
    intro v h
    rw [Lies] at h ⊢
    obtain ⟨sb, A, cap, cells, h1, h0, h2, h3, h4, h5⟩ := h
    refine ⟨sb, A, cap, cells, h1, h0, h2, h3, fun j u hj => ?_, Trips.to hk ks cells h5⟩
    obtain ⟨b, o, g1, g2, g3⟩ := h4 j u hj
    have hlt := World.block_lt_of_cell? w _ g3
    exact ⟨b, o, g1, (hk b g2 hlt).2, (World.cell?_of_block (w := w) (hk b g2 hlt).1).trans g3⟩
theorem Trips.to {ok' : Nat → Prop} (hk : ∀ g, ok g → g < w.heap.size → w'.heap[g]? = w.heap[g]? ∧ ok' g) (ts : List Tr) : ∀ cells, Trips ok w ts cells → Trips ok' w' ts cells := by
  cases ts with
  | nil => intro cells h; rw [Trips] at h ⊢; exact h
  | cons t ts =>
    intro cells h
    rw [Trips] at h ⊢
    obtain ⟨v0, v1, v2, rest, h1, h2, h3⟩ := h
    exact ⟨v0, v1, v2, rest, h1, Lies.to hk t _ h2, Trips.to hk ts rest h3⟩
end

/-- A slice of nodes that the call owns reads as a list of trees. -/
theorem lies_of_owns {base n : Nat} {v : Value} {cells : List Value} {l : Bool} {sb : ByteArray} {s : List UInt8} {ks : List Tr} (hown : w.ownsRow base 25 3 v n cells) (ht : Trips ok w ks cells) (hn : n = ks.length)
    (hs : sb.data.toList = s) (hsl : s.length ≤ maxLen) (hok : ∀ g, base ≤ g → ok g) : Lies ok w (.mk l s ks) (.agg #[.bool l, .string sb, v]) := by
  subst hn
  rw [Lies]
  rcases hown.2 with ⟨rfl, h0⟩ | ⟨g, cap, cur, rfl, hb, hg, hc, hm, hsz, htake⟩
  · have hk : ks = [] := List.length_eq_zero_iff.1 h0
    subst hk
    rw [Trips] at ht
    subst ht
    exact ⟨sb, none, 0, [], rfl, hs, hsl, by simp, fun j u hj => by simp at hj, by rw [Trips]⟩
  · refine ⟨sb, some ⟨g, 0, none⟩, cap, cells, rfl, hs, hsl, Nat.le_trans hc hm, fun j u hj => ?_, ht⟩
    have := hown.cells (g := g) rfl j u hj
    refine ⟨g, 0, rfl, hok g hb, ?_⟩
    rw [← this, Nat.zero_add]
    congr 1
    unfold Addr.add
    split <;> simp_all

theorem Trips.length (ts : List Tr) : ∀ cells, Trips ok w ts cells → cells.length = 3 * ts.length := by
  induction ts with
  | nil => intro cells h; rw [Trips] at h; subst h; rfl
  | cons t ts ih =>
    intro cells h
    rw [Trips] at h
    obtain ⟨v0, v1, v2, rest, h1, h2, h3⟩ := h
    subst h1
    have := ih rest h3
    simp; omega

theorem Trips.get (ts : List Tr) : ∀ cells, Trips ok w ts cells → ∀ i (hi : i < ts.length), ∃ v0 v1 v2, cells[3 * i]? = some v0 ∧ cells[3 * i + 1]? = some v1 ∧ cells[3 * i + 2]? = some v2 ∧ Lies ok w ts[i] (.agg #[v0, v1, v2]) := by
  induction ts with
  | nil => intro cells h i hi; exact absurd hi (by simp)
  | cons t ts ih =>
    intro cells h i hi
    rw [Trips] at h
    obtain ⟨v0, v1, v2, rest, h1, h2, h3⟩ := h
    subst h1
    cases i with
    | zero => exact ⟨v0, v1, v2, rfl, rfl, rfl, h2⟩
    | succ i =>
      obtain ⟨u0, u1, u2, g0, g1, g2, g⟩ := ih rest h3 i (by simpa using hi)
      refine ⟨u0, u1, u2, ?_, ?_, ?_, g⟩
      · rw [show 3 * (i + 1) = 3 * i + 3 by omega]; simpa using g0
      · rw [show 3 * (i + 1) + 1 = 3 * i + 1 + 3 by omega]; simpa using g1
      · rw [show 3 * (i + 1) + 2 = 3 * i + 2 + 3 by omega]; simpa using g2

theorem Trips.snoc (ts : List Tr) {t : Tr} {v0 v1 v2 : Value} (ht : Lies ok w t (.agg #[v0, v1, v2])) : ∀ cells, Trips ok w ts cells → Trips ok w (ts ++ [t]) (cells ++ [v0, v1, v2]) := by
  induction ts with
  | nil =>
    intro cells h
    rw [Trips] at h; subst h
    rw [List.nil_append, Trips]
    exact ⟨v0, v1, v2, [], rfl, ht, by rw [Trips]⟩
  | cons x ts ih =>
    intro cells h
    rw [Trips] at h
    obtain ⟨u0, u1, u2, rest, h1, h2, h3⟩ := h
    subst h1
    rw [List.cons_append, Trips]
    exact ⟨u0, u1, u2, rest ++ [v0, v1, v2], rfl, h2, ih rest h3⟩

/-- The parts of a tree's value, and where an element's cells lie. -/
theorem Lies.open_ {t : Tr} {v : Value} (h : Lies ok w t v) :
    ∃ sb A cap, v = .agg #[.bool t.list, .string sb, .slice A t.kids.length cap] ∧ sb.data.toList = t.text ∧ t.text.length ≤ maxLen ∧ t.kids.length ≤ maxLen ∧
      ∀ i (hi : i < t.kids.length), ∃ b o v0 v1 v2, A = some ⟨b, o, none⟩ ∧ ok b ∧ b < w.heap.size ∧ w.cell? ⟨b, o + i * 3, none⟩ = some v0 ∧ w.cell? ⟨b, o + i * 3 + 1, none⟩ = some v1 ∧ w.cell? ⟨b, o + i * 3 + 2, none⟩ = some v2 ∧
        Lies ok w t.kids[i] (.agg #[v0, v1, v2]) := by
  cases t with
  | mk l s ks =>
    rw [Lies] at h
    obtain ⟨sb, A, cap, cells, h1, h0, h2, h3, h4, h5⟩ := h
    refine ⟨sb, A, cap, h1, h0, h2, h3, fun i hi => ?_⟩
    obtain ⟨v0, v1, v2, g0, g1, g2, g⟩ := Trips.get ks cells h5 i hi
    obtain ⟨b, o, e0, o0, c0⟩ := h4 _ _ g0
    obtain ⟨b1, o1, e1, _, c1⟩ := h4 _ _ g1
    obtain ⟨b2, o2, e2, _, c2⟩ := h4 _ _ g2
    rw [e0] at e1 e2
    injection e1 with e1; injection e1 with e1 f1
    injection e2 with e2; injection e2 with e2 f2
    subst e1; subst f1; subst e2; subst f2
    rw [show o + 3 * i = o + i * 3 by omega] at c0
    rw [show o + (3 * i + 1) = o + i * 3 + 1 by omega] at c1
    rw [show o + (3 * i + 2) = o + i * 3 + 2 by omega] at c2
    exact ⟨b, o, v0, v1, v2, e0, o0, World.block_lt_of_cell? w _ c0, c0, c1, c2, g⟩

/-- The same for every later world. -/
theorem Lies.later {t : Tr} {v : Value} (h : Lies ok w t v) :
    ∃ sb A cap, v = .agg #[.bool t.list, .string sb, .slice A t.kids.length cap] ∧ sb.data.toList = t.text ∧ t.text.length ≤ maxLen ∧ t.kids.length ≤ maxLen ∧
      ∀ w', (∀ g, ok g → g < w.heap.size → w'.heap[g]? = w.heap[g]?) → ∀ i (hi : i < t.kids.length), ∃ b o v0 v1 v2, A = some ⟨b, o, none⟩ ∧ ok b ∧ b < w.heap.size ∧ w'.cell? ⟨b, o + i * 3, none⟩ = some v0 ∧ w'.cell? ⟨b, o + i * 3 + 1, none⟩ = some v1 ∧ w'.cell? ⟨b, o + i * 3 + 2, none⟩ = some v2 ∧
        Lies ok w' t.kids[i] (.agg #[v0, v1, v2]) := by
  obtain ⟨sb, A, cap, h1, h2, h3, h4, h5⟩ := h.open_
  refine ⟨sb, A, cap, h1, h2, h3, h4, fun w' hk i hi => ?_⟩
  obtain ⟨b, o, v0, v1, v2, e0, o0, hlt, c0, c1, c2, g⟩ := h5 i hi
  have hc : ∀ j, w'.cell? ⟨b, j, none⟩ = w.cell? ⟨b, j, none⟩ := fun j => World.cell?_of_block (a := ⟨b, j, none⟩) (hk b o0 hlt)
  exact ⟨b, o, v0, v1, v2, e0, o0, hlt, (hc _).trans c0, (hc _).trans c1, (hc _).trans c2, Lies.keep hk _ _ g⟩

/-- The shape of a node's three cells. -/
theorem Lies.parts {t : Tr} {v0 v1 v2 : Value} (h : Lies ok w t (.agg #[v0, v1, v2])) : ∃ l se Ae n ce, v0 = .bool l ∧ v1 = .string se ∧ v2 = .slice Ae n ce := by
  obtain ⟨se, Ae, ce, he, _⟩ := h.open_
  injection he with he
  injection he with he
  injection he with h0 he
  injection he with h1 he
  injection he with h2 _
  exact ⟨_, _, _, _, _, h0, h1, h2⟩

/-- A tree whose value is written out, and its elements in every later world. -/
theorem Lies.elems {t : Tr} {sb : ByteArray} {A : Option Addr} {cap : Nat} (h : Lies ok w t (.agg #[.bool t.list, .string sb, .slice A t.kids.length cap])) :
    sb.data.toList = t.text ∧ t.text.length ≤ maxLen ∧ t.kids.length ≤ maxLen ∧
      ∀ w' : World, (∀ g, ok g → g < w.heap.size → w'.heap[g]? = w.heap[g]?) → ∀ i (hi : i < t.kids.length), ∃ b o se Ae ce, A = some ⟨b, o, none⟩ ∧ ok b ∧ b < w.heap.size ∧ w'.cell? ⟨b, o + i * 3, none⟩ = some (.bool t.kids[i].list) ∧ w'.cell? ⟨b, o + i * 3 + 1, none⟩ = some (.string se) ∧
        w'.cell? ⟨b, o + i * 3 + 2, none⟩ = some (.slice Ae t.kids[i].kids.length ce) ∧ Lies ok w t.kids[i] (.agg #[.bool t.kids[i].list, .string se, .slice Ae t.kids[i].kids.length ce]) := by
  obtain ⟨sb', A', cap', he, h2, h3, h4, h5⟩ := h.open_
  injection he with he
  injection he with he
  injection he with _ he
  injection he with e1 he
  injection he with e2 _
  injection e1 with e1
  injection e2 with e2 _ e3
  subst e1; subst e2; subst e3
  refine ⟨h2, h3, h4, fun w' hk i hi => ?_⟩
  obtain ⟨b, o, v0, v1, v2, e0, o0, hlt, c0, c1, c2, g⟩ := h5 i hi
  have hc : ∀ j, w'.cell? ⟨b, j, none⟩ = w.cell? ⟨b, j, none⟩ := fun j => World.cell?_of_block (a := ⟨b, j, none⟩) (hk b o0 hlt)
  obtain ⟨se, Ae, ce, hv, _⟩ := g.open_
  injection hv with hv
  injection hv with hv
  injection hv with u0 hv
  injection hv with u1 hv
  injection hv with u2 _
  subst u0; subst u1; subst u2
  exact ⟨b, o, se, Ae, ce, e0, o0, hlt, (hc _).trans c0, (hc _).trans c1, (hc _).trans c2, g⟩

theorem Lies.drew {t : Tr} {v : Value} (h : Lies ok w t v) : Lies ok w.drew t v := Lies.keep (w := w) (w' := w.drew) (fun _ _ _ => rfl) t v h

theorem Lies.below {t : Tr} {v : Value} (h : Lies ok w t v) (hb : Below w.heap.size w w') : Lies ok w' t v :=
  Lies.keep (fun g _ hg => hb.block g hg) t v h

end

/-- Induction over trees. -/
theorem Tr.ind {P : Tr → Prop} (h : ∀ t : Tr, (∀ k ∈ t.kids, P k) → P t) (t : Tr) : P t := by
  suffices hs : ∀ n t, size t ≤ n → P t from hs (size t) t (Nat.le_refl _)
  intro n
  induction n with
  | zero => intro t ht; cases t; simp [size] at ht
  | succ n ih =>
    intro t ht
    refine h t fun k hk => ih k ?_
    cases t with
    | mk l s ks =>
      have : ∀ ks : List Tr, k ∈ ks → size k ≤ sizeL ks := by
        intro ks
        induction ks with
        | nil => intro hk; cases hk
        | cons x ks ih =>
          intro hk
          rw [sizeL]
          rcases List.mem_cons.1 hk with rfl | hk
          · omega
          · have := ih hk; omega
      have := this ks hk
      rw [size] at ht; omega

theorem ret_bool {a b : Bool} (h : a = b) : Ending.returned (.bool a) = .returned (.bool b) := by rw [h]
theorem ret_int {k : IntKind} {a b : Int} (h : a = b) : Ending.returned (.int k a) = .returned (.int k b) := by rw [h]

theorem grownBy_of_below {a w : World} (h : Below a.heap.size a w) (row : Option Nat) : a.grownBy w row := ⟨h.os, h.tape, h.output, h.size, fun i hi _ => h.block i hi⟩
theorem ownsRow_below {w w' : World} {base : Nat} {e : TypeId} {size : Nat} {v : Value} {n : Nat} {xs : List Value} (h : w.ownsRow base e size v n xs) (hb : Below w.heap.size w w') : w'.ownsRow base e size v n xs := by
  refine h.kept (grownBy_of_below hb none) ?_
  cases hv : v.ownBlock <;> simp

/-- One element more. -/
theorem trips_step {wr w1 w2 : World} {base k : Nat} {v v2 : Value} {cells : List Value} {acc : List Tr} {kd : Tr} {x0 x1 x2 : Value} {o : Obj}
    (hown : wr.ownsRow base 25 3 v k cells) (ht : Trips (fun b => base ≤ b ∧ v.ownBlock ≠ some b) wr acc cells) (hbw : Below wr.heap.size wr w1) (hbase : base ≤ wr.heap.size)
    (hL : Lies (fun b => wr.heap.size ≤ b) w1 kd (.agg #[x0, x1, x2])) (hg : (w1.alloc o).grownBy w2 v.ownBlock) (hat : v2.ownBlock = v.ownBlock ∨ v2.ownBlock = some (w1.alloc o).heap.size) :
    Trips (fun b => base ≤ b ∧ v2.ownBlock ≠ some b) w2 (acc ++ [kd]) (cells ++ [x0, x1, x2]) := by
  have hs1 := hbw.size
  have hsa : (w1.alloc o).heap.size = w1.heap.size + 1 := by simp
  refine Trips.snoc _ (Lies.to ?_ kd _ hL) _ (Trips.to ?_ acc _ ht)
  · intro g hg1 hlt
    have hne : v.ownBlock ≠ some g := by
      intro he; have := (hown.lt g he).2; omega
    refine ⟨(hg.block g (by omega) (fun e => hne e.symm)).trans (Below.heap_alloc w1 o g hlt), by omega, ?_⟩
    rcases hat with h | h
    · rw [h]; exact hne
    · rw [h]; intro e; injection e with e; omega
  · rintro g ⟨hb, hne⟩ hlt
    refine ⟨((hg.block g (by omega) (fun e => hne e.symm)).trans (Below.heap_alloc w1 o g (by omega))).trans (hbw.block g hlt), hb, ?_⟩
    rcases hat with h | h
    · rw [h]; exact hne
    · rw [h]; intro e; injection e with e; omega

/-- A block that is known whole. -/
def Blk (w : World) (g : Nat) (t : TypeId) (cs : Array Value) : Prop := w.heap[g]? = some (.cells cs t (0, 0))
section
variable {w w' : World} {g : Nat} {t : TypeId} {cs : Array Value}
theorem Blk.lt (h : Blk w g t cs) : g < w.heap.size := by
  unfold Blk at h
  exact (Array.getElem?_eq_some_iff.1 h).1
theorem Blk.cell (h : Blk w g t cs) (i : Nat) : w.cell? ⟨g, i, none⟩ = cs[i]? := cell_of_row w g i cs t (0, 0) h
theorem Blk.frozen (h : Blk w g t cs) (i : Nat) : w.frozen? ⟨g, i, none⟩ = false := by
  unfold Blk at h
  simp [World.frozen?, h]
theorem Blk.new (w : World) (t : TypeId) (cs : Array Value) : Blk (w.alloc (.cells cs t)) w.heap.size t cs := heap_alloc_new w _
theorem Blk.drew (h : Blk w g t cs) : Blk w.drew g t cs := h
theorem Blk.drewN (h : Blk w g t cs) (n : Nat) : Blk (w.drewN n) g t cs := h
theorem Blk.alloc (h : Blk w g t cs) (o : Obj) : Blk (w.alloc o) g t cs := (Below.heap_alloc w o g h.lt).trans h
theorem Blk.set_ (h : Blk w g t cs) (i : Nat) (u : Value) : Blk (w.setCell ⟨g, i, none⟩ u) g t (cs.setIfInBounds i u) := by
  unfold Blk at h ⊢
  simp [World.setCell, Array.getElem?_modify, h]
theorem Blk.far (h : Blk w g t cs) {p : Addr} (hp : g ≠ p.block) (u : Value) : Blk (w.setCell p u) g t cs := (Below.heap_setCell w p u g hp).trans h
theorem Blk.below {B : Nat} (h : Blk w g t cs) (hb : Below B w w') (hg : g < B) : Blk w' g t cs := (hb.block g hg).trans h
theorem Blk.grown {row : Option Nat} (h : Blk w g t cs) (hb : w.grownBy w' row) (hg : some g ≠ row) : Blk w' g t cs := (hb.block g h.lt hg).trans h
theorem Blk.three {x y z : Value} (h : Blk w g t #[x, y, z]) : (w.cell? ⟨g, 0, none⟩ = some x ∧ w.cell? ⟨g, 1, none⟩ = some y ∧ w.cell? ⟨g, 2, none⟩ = some z) ∧ (w.frozen? ⟨g, 0, none⟩ = false ∧ w.frozen? ⟨g, 1, none⟩ = false ∧ w.frozen? ⟨g, 2, none⟩ = false) :=
  ⟨⟨h.cell 0, h.cell 1, h.cell 2⟩, h.frozen 0, h.frozen 1, h.frozen 2⟩
theorem Blk.set3 {x y z : Value} (h : Blk w g t #[x, y, z]) (a b c : Value) : Blk (((w.setCell ⟨g, 0, none⟩ a).setCell ⟨g, 1, none⟩ b).setCell ⟨g, 2, none⟩ c) g t #[a, b, c] :=
  ((h.set_ 0 a).set_ 1 b).set_ 2 c
end

/-- The empty tree that comes with an error. -/
def zeroT : Tr := .mk false [] []
def zeroV : Value := .agg #[.bool false, .string ⟨#[]⟩, .slice none 0 0]
theorem lies_zero (ok : Nat → Prop) (w : World) : Lies ok w zeroT zeroV := by
  rw [zeroT, Lies]
  exact ⟨⟨#[]⟩, none, 0, [], rfl, rfl, by simp, by simp, fun j u hj => by simp at hj, by rw [Trips]⟩
theorem Tr.eta (t : Tr) : t = .mk t.list t.text t.kids := by cases t; rfl

/-- The call returns a tree and an error; what was there is as it was. -/
def GivesTE (t : Tr) (n : Nat) (w : World) (e : Ending) (w' : World) : Prop := ∃ v', e = .returned (.tuple #[v', .int .i64 n]) ∧ Lies anyB w' t v' ∧ Below w.heap.size w w'

/-- An element's three cells, as append lays them. -/
theorem cells_three (w : World) (x y z : Value) (t : TypeId) : ∀ j u, [x, y, z][j]? = some u → (w.alloc (.cells #[x, y, z] t)).cell? ((⟨w.heap.size, 0, none⟩ : Addr).add j) = some u := by
  intro j u hj
  match j, hj with
  | 0, hj => simp at hj; subst hj; simp [Addr.add]
  | 1, hj => simp at hj; subst hj; simp [Addr.add]
  | 2, hj => simp at hj; subst hj; simp [Addr.add]

theorem oneCell_three (l : Bool) (s : ByteArray) (A : Option Addr) (n c : Nat) : ∀ u ∈ [Value.bool l, Value.string s, Value.slice A n c], u.oneCell' = true := by
  intro u hu
  simp only [List.mem_cons, List.not_mem_nil, or_false] at hu
  rcases hu with rfl | rfl | rfl <;> rfl

theorem node_info : (Tryd.prog.info? 25).map (fun i => (i.zero, i.size, i.bytes)) = some (some (.agg #[.bool false, .string ⟨#[]⟩, .slice none 0 0]), 3, 48) := by kernel_rfl


end Go.Proofs.YtfpeplpoliileaaDoor
