/- Slices of strings and of numbers; the walks of Links, of the reference's Links, of light and of alive. -/
import Derived.Test.YtdbijjiolknbfaaDoorTexts
import Derived.Deep.OwnRows
namespace Go.Proofs.YtdbijjiolknbfaaDoor
open Go.RowKit Pl

/-- A slice of strings. -/
def Strs (w : World) (A : Option Addr) (l : List ByteArray) : Prop :=
  l.length ≤ maxLen ∧ (∀ s ∈ l, s.size ≤ maxLen) ∧ ∀ i (hi : i < l.length), ∃ b o, A = some ⟨b, o, none⟩ ∧ b < w.heap.size ∧ w.cell? ⟨b, o + i, none⟩ = some (.string l[i])
theorem Strs.keep {w w' : World} {A : Option Addr} {l : List ByteArray} (h : Strs w A l) (hb : Below w.heap.size w w') : Strs w' A l := by
  refine ⟨h.1, h.2.1, fun i hi => ?_⟩
  obtain ⟨b, o, h1, h2, h3⟩ := h.2.2 i hi
  exact ⟨b, o, h1, Nat.lt_of_lt_of_le h2 hb.size, (hb.cell h2).trans h3⟩
/-- A slice of numbers. -/
def U64s (w : World) (A : Option Addr) (ds : List Nat) : Prop :=
  ∀ i (hi : i < ds.length), ∃ b o, A = some ⟨b, o, none⟩ ∧ b < w.heap.size ∧ w.cell? ⟨b, o + i, none⟩ = some (.int .u64 (ds[i] : Int))
theorem U64s.keep {w w' : World} {A : Option Addr} {ds : List Nat} (h : U64s w A ds) (hb : Below w.heap.size w w') : U64s w' A ds := by
  intro i hi
  obtain ⟨b, o, h1, h2, h3⟩ := h i hi
  exact ⟨b, o, h1, Nat.lt_of_lt_of_le h2 hb.size, (hb.cell h2).trans h3⟩
/-- The texts as lists of bytes. -/
def lb (l : List ByteArray) : List (List UInt8) := l.map fun s => s.data.toList
theorem lb_length (l : List ByteArray) : (lb l).length = l.length := by simp [lb]
theorem lb_get {l : List ByteArray} {k : Nat} (h : k < l.length) : (lb l)[k]'(by rw [lb_length]; exact h) = l[k].data.toList := by simp [lb]
def U (ds : List Nat) : List Value := ds.map fun (d : Nat) => Value.int .u64 (d : Int)
theorem U_length (ds : List Nat) : (U ds).length = ds.length := by simp [U]
/-- The call returns these numbers. -/
def GivesL (ds : List Nat) (w : World) (e : Ending) (w' : World) : Prop := ∃ A c, e = .returned (.slice A ds.length c) ∧ U64s w' A ds ∧ Below w.heap.size w w'

theorem linksF_snoc (f : Nat → List UInt8 → Nat) (l : List (List UInt8)) (s : List UInt8) : ∀ d, linksF f d (l ++ [s]) = linksF f d l ++ [f (lastF f d l) s] := by
  induction l with
  | nil => intro d; rfl
  | cons x l ih => intro d; rw [List.cons_append, linksF, linksF, ih, lastF]; rfl
theorem links_snoc (l : List (List UInt8)) (s : List UInt8) (d : Nat) : links d (l ++ [s]) = links d l ++ [chain (last d l) s] := linksF_snoc chain l s d
theorem links_take {l : List ByteArray} {k : Nat} (h : k < l.length) : links 0 ((lb l).take (k + 1)) = links 0 ((lb l).take k) ++ [chain (last 0 ((lb l).take k)) l[k].data.toList] := by
  rw [List.take_succ_eq_append_getElem (by rw [lb_length]; exact h), lb_get h, links_snoc]
theorem last_take {l : List ByteArray} {k : Nat} (h : k < l.length) : last 0 ((lb l).take (k + 1)) = chain (last 0 ((lb l).take k)) l[k].data.toList := by
  rw [List.take_succ_eq_append_getElem (by rw [lb_length]; exact h), lb_get h, last_snoc]
theorem last_u64 (l : List (List UInt8)) : last 0 l < 18446744073709551616 := Nat.lt_trans (last_lt l 0 P_pos) P_lt

theorem u64s_of_owns {w : World} {base : Nat} {A : Option Addr} {n c : Nat} {ds : List Nat} (h : w.ownsRow base 35 1 (.slice A n c) n (U ds)) (hn : n = ds.length) : U64s w A ds := by
  intro i hi
  rcases h.2 with ⟨_, h2⟩ | ⟨g, cap, cur, h1, _, h3, _⟩
  · omega
  · have hA : A = some ⟨g, 0, none⟩ := by injection h1
    subst hA
    refine ⟨g, 0, rfl, (Array.getElem?_eq_some_iff.1 h3).1, ?_⟩
    have := h.cells (g := g) rfl i (.int .u64 (ds[i] : Int)) (by simp [U, hi])
    rw [← this, Nat.zero_add]
    congr 1
    unfold Addr.add
    split <;> simp_all
theorem u64_info : (Tryd.prog.info? 35).map (fun i => (i.zero, i.size, i.bytes)) = some (some (.int .u64 0), 1, 8) := by kernel_rfl
theorem made_eq (z : Value) (n : Nat) : madeCells #[z] n = (List.replicate n z).toArray := by
  rw [← toList_madeCells_one]

set_option maxHeartbeats 400000 in
theorem links_any (l : List ByteArray) (A : Option Addr) (c : Nat) (w : World) (hl : l.length ≤ 1000) (hs : ∀ s ∈ l, s.size ≤ 90000) (ha : Strs w A l) :
    Calls Tryd.prog 23 #[.slice A l.length c] w (GivesL (links 0 (lb l)) w) := by
  have hmk := fun w' => run_make_row' (P := Tryd.prog) 32 35 (.int .u64 0) 8 Tryd.underlying32 u64_info rfl .i64 .i64 l.length (by omega) (by omega) w'
  have HA := Lib.hid ha
  have HS := Lib.hid hs
  have HB0 := Lib.hid ((Below.refl w.heap.size w).alloc (Nat.le_refl _) (.cells (madeCells #[.int .u64 0] l.length) 35))
  have HK0 := Lib.hid (Blk.new w 35 (madeCells #[.int .u64 0] l.length))
  clear ha hs
  go_enter Tryd.func23, Tryd.ntmps23
  go_wp2_with fail
  clear hmk
  go_loopw [4, 12] (fun dv iv wr => ∃ k : Nat, k ≤ l.length ∧ dv = .int .u64 ((last 0 ((lb l).take k) : Nat) : Int) ∧ iv = .int .i64 (k : Int) ∧ Blk wr w.heap.size 35 (U (links 0 ((lb l).take k)) ++ List.replicate (l.length - k) (Value.int .u64 0)).toArray ∧ Below w.heap.size w wr) (fun _ i _ => l.length - (intOf i).toNat)
  case atStart => exact ⟨0, Nat.zero_le _, rfl, rfl, by rw [show (U (links 0 (List.take 0 (lb l))) ++ List.replicate (l.length - 0) (Value.int .u64 0)).toArray = madeCells #[.int .u64 0] l.length by rw [made_eq]; rfl]; exact HK0.out, HB0.out⟩
  case round =>
    obtain ⟨k, hk, rfl, rfl, hblk, hbw⟩ := hrel
    have HBW := Lib.hid hbw
    by_cases hlt : k < l.length
    · obtain ⟨b, o, rfl, hb, hc⟩ := (HA.out.keep HBW.out).2.2 k hlt
      have hsz := HS.out l[k] (List.getElem_mem hlt)
      have HLT := Lib.hid (links_take hlt)
      have HLA := Lib.hid (last_take hlt)
      have hd := last_u64 ((lb l).take k)
      have hll : (links 0 ((lb l).take k)).length = k := by rw [links_length, List.length_take, lb_length]; omega
      obtain ⟨ds, hds⟩ : ∃ ds, ds = links 0 ((lb l).take k) := ⟨_, rfl⟩
      rw [← hds] at hblk hll HLT
      have hrep : List.replicate (l.length - k) (Value.int .u64 0) = .int .u64 0 :: List.replicate (l.length - (k + 1)) (.int .u64 0) := by
        rw [show l.length - k = (l.length - (k + 1)) + 1 by omega, List.replicate_succ]
      rw [hrep] at hblk
      have hcell : wr.cell? ⟨w.heap.size, k, none⟩ = some (.int .u64 0) := by
        rw [hblk.cell]; simp [U_length, hll]
      have hfz := hblk.frozen k
      have HBLK := Lib.hid hblk
      have CH := Lib.hid (fun w' => chain_any (last 0 ((lb l).take k)) l[k] hd hsz w')
      generalize chain (last 0 ((lb l).take k)) l[k].data.toList = e at *
      have HLL := Lib.hid hll
      clear hblk hbw hll hrep hds HS HA
      go_wp2_with fail
      refine (CH.out _).mono ?_
      rintro e w1 ⟨rfl, m1, rfl⟩
      go_wp2_with fail
      go_roundw
      case rel =>
        refine ⟨k + 1, by omega, by rw [HLA.out], by go_num, ?_, ?_⟩
        · rw [HLT.out]
          have h := (HBLK.out.drewN m1).set_ k (.int .u64 (e : Int))
          have h2 : ((U ds ++ Value.int .u64 0 :: List.replicate (l.length - (k + 1)) (Value.int .u64 0)).toArray).setIfInBounds k (.int .u64 (e : Int)) = (U (ds ++ [e]) ++ List.replicate (l.length - (k + 1)) (Value.int .u64 0)).toArray := by
            have h3 := U_length ds
            rw [HLL.out] at h3
            simp only [List.setIfInBounds_toArray]
            congr 1
            rw [List.set_append_right _ _ (by omega), h3, Nat.sub_self]
            simp [U]
          rw [h2] at h
          exact h
        · exact (HBW.out.trans ((below_drewN wr m1).mono HBW.out.size)).setCell (p := ⟨w.heap.size, k, none⟩) (by simp) _
      case measure => simp [intOf]; omega
    · obtain rfl : k = l.length := by omega
      rw [List.take_of_length_le (by rw [lb_length]; exact Nat.le_refl _)] at hblk ⊢
      rw [Nat.sub_self, List.replicate_zero, List.append_nil] at hblk
      have HBLK := Lib.hid hblk
      clear hblk hbw
      go_wp2_with fail
      go_returns
      have hlen : (links 0 (lb l)).length = l.length := by rw [links_length, lb_length]
      refine ⟨some ⟨w.heap.size, 0, none⟩, l.length, by rw [hlen]; rfl, fun i hi => ⟨w.heap.size, 0, rfl, HBLK.out.lt, ?_⟩, HBW.out⟩
      rw [Nat.zero_add, HBLK.out.cell]
      simp [U, hi]

set_option maxHeartbeats 400000 in
theorem rlinks_any (l : List ByteArray) (A : Option Addr) (c : Nat) (w : World) (hl : l.length ≤ 1000) (hs : ∀ s ∈ l, s.size ≤ 90000) (ha : Strs w A l) :
    Calls Tryd.prog 34 #[.slice A l.length c] w (GivesL (links 0 (lb l)) w) := by
  obtain ⟨i0, hi0, hz0, hz1, hz2⟩ := info_parts u64_info
  have HA := Lib.hid ha
  have HS := Lib.hid hs
  clear ha hs
  go_enter Tryd.func34, Tryd.ntmps34
  go_wp2_with fail
  go_loopw [3, 4, 5] (fun v dv iv wr => ∃ k : Nat, k ≤ l.length ∧ dv = .int .u64 ((last 0 ((lb l).take k) : Nat) : Int) ∧ iv = .int .i64 (k : Int) ∧ wr.ownsRow w.heap.size 35 1 v k (U (links 0 ((lb l).take k))) ∧ Below w.heap.size w wr) (fun _ _ i _ => l.length - (intOf i).toNat)
  case atStart => exact ⟨0, Nat.zero_le _, rfl, rfl, World.ownsRow_nil _ _ _ _, Below.refl _ _⟩
  case round =>
    obtain ⟨k, hk, rfl, rfl, hown, hbw⟩ := hrel
    have HBW := Lib.hid hbw
    have HO := Lib.hid hown
    obtain ⟨A1, c1, rfl⟩ : ∃ A c, u3 = .slice A k c := by
      rcases hown.2 with ⟨h1, h2⟩ | ⟨g, cap, cur, h1, _⟩
      · exact ⟨none, 0, by rw [h1, h2]⟩
      · exact ⟨_, _, h1⟩
    clear hown hbw
    by_cases hlt : k < l.length
    · obtain ⟨b, o, rfl, hb, hc⟩ := (HA.out.keep HBW.out).2.2 k hlt
      have hsz := HS.out l[k] (List.getElem_mem hlt)
      have HLT := Lib.hid (links_take hlt)
      have HLA := Lib.hid (last_take hlt)
      have hd := last_u64 ((lb l).take k)
      have CH := Lib.hid (fun w' => rchain_any (last 0 ((lb l).take k)) l[k] hd hsz w')
      generalize chain (last 0 ((lb l).take k)) l[k].data.toList = e at *
      clear HS HA
      go_wp2_with fail
      refine (CH.out _).mono ?_
      rintro e w1 ⟨rfl, m1, rfl⟩
      have hbase := HBW.out.size
      have HO1 : Hid ((wr.drewN m1).ownsRow w.heap.size 35 1 (.slice A1 k c1) k (U (links 0 ((lb l).take k)))) := HO.out
      go_wp2_with (at_builtin; (refine wpList_append_own_at _ rfl (.tmp 18) (.tmp 20) 32 rfl w.heap.size 35 i0 _ 1 8 Tryd.underlying32 hi0 hz0 hz1 hz2 rfl (by decide) _ k _ rfl (HO1.out.alloc _) ⟨wr.heap.size, 0, none⟩ 1 1 [.int .u64 (e : Int)] rfl rfl ?c1 ?c2 (by unfold maxLen; omega) (by omega) (by simp; omega) ?_))
      case c1 => exact cell_one_new (wr.drewN m1) _ _
      case c2 => intro u hu; simp at hu; subst hu; rfl
      intro v3 w3 hown3 hg4 _ _
      have HO3 := Lib.hid hown3
      have HB3 := Lib.hid (((HBW.out.trans ((below_drewN wr m1).mono HBW.out.size)).alloc (by simp; omega) _).grown hg4 (by simp; omega) (fun g hg => (HO.out.lt g hg).1))
      clear hown3 hg4
      go_wp2_with fail
      go_roundw
      case rel => exact ⟨k + 1, by omega, by rw [HLA.out], by go_num, by rw [HLT.out]; simpa [U] using HO3.out, HB3.out⟩
      case measure => simp [intOf]; omega
    · obtain rfl : k = l.length := by omega
      have hO := HO.out
      rw [List.take_of_length_le (by rw [lb_length]; exact Nat.le_refl _)] at hO
      have HO2 := Lib.hid hO
      clear hO HO
      go_wp2_with fail
      go_returns
      have hlen : (links 0 (lb l)).length = l.length := by rw [links_length, lb_length]
      exact ⟨A1, c1, by rw [hlen]; rfl, u64s_of_owns HO2.out hlen.symm, HBW.out⟩

/-! ### light, alive -/
def lightB (l : List ByteArray) : Bool := decide (l.length ≤ 30) && l.all fun s => decide (s.size ≤ 200)
theorem lightB_iff (l : List ByteArray) : lightB l = true ↔ l.length ≤ 30 ∧ ∀ s ∈ l, s.size ≤ 200 := by simp [lightB]
theorem all_take {l : List ByteArray} {k : Nat} (hk : k < l.length) (h : ∀ s ∈ l.take k, s.size ≤ 200) (h2 : l[k].size ≤ 200) : ∀ s ∈ l.take (k + 1), s.size ≤ 200 := by
  rw [List.take_succ_eq_append_getElem hk]
  intro s hs
  rcases List.mem_append.1 hs with hs | hs
  · exact h s hs
  · rw [List.mem_singleton] at hs; subst hs; exact h2

set_option maxHeartbeats 400000 in
theorem light_any (l : List ByteArray) (A : Option Addr) (c : Nat) (w : World) (ha : Strs w A l) :
    Calls Tryd.prog 33 #[.slice A l.length c] w fun e w' => e = .returned (.bool (lightB l)) ∧ w = w' := by
  have hlm := ha.1
  unfold maxLen at hlm
  have HA := Lib.hid ha
  clear ha
  by_cases h30 : 30 < l.length
  · have HF : Hid (lightB l = false) := by
      show lightB l = false
      cases h : lightB l
      · rfl
      · have := ((lightB_iff l).1 h).1; omega
    go_enter Tryd.func33, Tryd.ntmps33
    go_wp2_with fail
    go_returns
    exact ⟨ret_bool HF.out.symm, rfl⟩
  · go_enter Tryd.func33, Tryd.ntmps33
    go_wp2_with fail
    go_loop [3] (fun i => ∃ k : Nat, k ≤ l.length ∧ i = .int .i64 (k : Int) ∧ ∀ s ∈ l.take k, s.size ≤ 200) (fun i => l.length - (intOf i).toNat)
    case atStart => exact ⟨0, Nat.zero_le _, rfl, fun s hs => by simp at hs⟩
    case round =>
      obtain ⟨k, hk, rfl, hall⟩ := hrel
      have HALL := Lib.hid hall
      clear hall
      by_cases hlt : k < l.length
      · obtain ⟨b, o, rfl, hb, hc⟩ := HA.out.2.2 k hlt
        have hsm := HA.out.2.1 l[k] (List.getElem_mem hlt)
        unfold maxLen at hsm
        by_cases h200 : 200 < l[k].size
        · have HF : Hid (lightB l = false) := by
            show lightB l = false
            cases h : lightB l
            · rfl
            · have := ((lightB_iff l).1 h).2 l[k] (List.getElem_mem hlt); omega
          generalize l[k] = sk at *
          go_wp2_with fail
          go_returns
          exact ⟨ret_bool HF.out.symm, rfl⟩
        · have HN := Lib.hid (all_take hlt HALL.out (by omega))
          generalize l[k] = sk at *
          go_wp2_with fail
          go_round
          case rel => exact ⟨k + 1, by omega, by go_num, HN.out⟩
          case measure => simp [intOf]; omega
      · have HF : Hid (lightB l = true) := by
          show lightB l = true
          rw [lightB_iff]
          have := HALL.out
          rw [List.take_of_length_le (by omega)] at this
          exact ⟨by omega, this⟩
        go_wp2_with fail
        go_returns
        exact ⟨ret_bool HF.out.symm, rfl⟩

theorem p1 : parse [48, 48, 48, 48, 48, 48, 48, 48, 48, 48, 48, 48, 48, 48, 54, 50] = (98, 0) := by decide +kernel
theorem p2 : parse [49, 102, 102, 102, 102, 102, 102, 102, 102, 102, 102, 102, 102, 102, 102, 102] = (0, 3) := by decide +kernel
theorem p3 : links 0 [[], []] = [11, 12094627910332] := by decide +kernel
theorem p4 : of_ [97, 98] = 107752139564777 := by decide +kernel
theorem p5 : join 1 1 0 = 1099511628211 := by decide +kernel
theorem p6 : chain 0 [] = 11 := by decide +kernel
theorem p7 : hex 98 = [48, 48, 48, 48, 48, 48, 48, 48, 48, 48, 48, 48, 48, 48, 54, 50] := by decide +kernel

theorem strs_two (w : World) (x y : ByteArray) (hx : x.size ≤ 100) (hy : y.size ≤ 100) : Strs (w.alloc (.cells #[.string x, .string y] 9)) (some ⟨w.heap.size, 0, none⟩) [x, y] := by
  refine ⟨by simp [maxLen], ?_, ?_⟩
  · intro s hs; simp at hs; unfold maxLen; rcases hs with rfl | rfl <;> omega
  · intro i hi
    refine ⟨_, _, rfl, by simp, ?_⟩
    match i, hi with
    | 0, _ => simp
    | 1, _ => simp

set_option maxRecDepth 100000 in
set_option maxHeartbeats 1000000 in
theorem alive_any (w : World) (ht : Tab w) : Calls Tryd.prog 26 #[] w fun e w' => e = .returned (.bool true) ∧ Below w.heap.size w w' := by
  have HT := Lib.hid ht
  clear ht
  go_enter Tryd.func26, Tryd.ntmps26
  go_wp2_with fail
  refine (parse_any ⟨#[48, 48, 48, 48, 48, 48, 48, 48, 48, 48, 48, 48, 48, 48, 54, 50]⟩ (by decide) _).mono ?_
  rw [show (⟨#[48, 48, 48, 48, 48, 48, 48, 48, 48, 48, 48, 48, 48, 48, 54, 50]⟩ : ByteArray).data.toList = [48, 48, 48, 48, 48, 48, 48, 48, 48, 48, 48, 48, 48, 48, 54, 50] from rfl, p1]
  rintro e w1 ⟨rfl, m1, rfl⟩
  go_wp2_with fail
  refine (parse_any ⟨#[49, 102, 102, 102, 102, 102, 102, 102, 102, 102, 102, 102, 102, 102, 102, 102]⟩ (by decide) _).mono ?_
  rw [show (⟨#[49, 102, 102, 102, 102, 102, 102, 102, 102, 102, 102, 102, 102, 102, 102, 102]⟩ : ByteArray).data.toList = [49, 102, 102, 102, 102, 102, 102, 102, 102, 102, 102, 102, 102, 102, 102, 102] from rfl, p2]
  rintro e w1 ⟨rfl, m2, rfl⟩
  go_wp2_with fail
  have hs2 := strs_two (w.drewN (m1 + m2)) ⟨#[]⟩ ⟨#[]⟩ (by decide) (by decide)
  have HB2 := Lib.hid ((below_drewN w (m1 + m2)).alloc (by simp) (.cells #[.string ⟨#[]⟩, .string ⟨#[]⟩] 9))
  refine (links_any [⟨#[]⟩, ⟨#[]⟩] _ 2 _ (by simp) (by intro s hs; simp at hs; subst hs; decide) hs2).mono ?_
  rw [show lb [⟨#[]⟩, ⟨#[]⟩] = [[], []] from rfl, p3]
  rintro e w3 ⟨A, c, rfl, hU, hb3⟩
  obtain ⟨b, o, rfl, hb, hc0⟩ := hU 0 (by simp)
  obtain ⟨b', o', he, _, hc1⟩ := hU 1 (by simp)
  injection he with he
  injection he with he1 he2
  subst he1; subst he2
  have hc0' : w3.cell? ⟨b, o, none⟩ = some (.int .u64 11) := by simpa using hc0
  have hc1' : w3.cell? ⟨b, o + 1, none⟩ = some (.int .u64 12094627910332) := by simpa using hc1
  have HB3 := Lib.hid (HB2.out.trans (hb3.mono HB2.out.size))
  clear hU hb3 hc0 hc1 hs2
  have HT3 := Lib.hid (HT.out.on HB3.out)
  go_wp2_with fail
  refine (of_any ⟨#[97, 98]⟩ (by decide) _).mono ?_
  rw [show (⟨#[97, 98]⟩ : ByteArray).data.toList = [97, 98] from rfl, p4]
  rintro e w4 ⟨rfl, m4, rfl⟩
  go_wp2_with fail
  refine (join_any 1 1 0 (by decide) (by decide) (by decide) _).mono ?_
  rw [p5]
  rintro e w4 ⟨rfl, m5, rfl⟩
  go_wp2_with fail
  refine (chain_any 0 ⟨#[]⟩ (by decide) (by decide) _).mono ?_
  rw [show (⟨#[]⟩ : ByteArray).data.toList = [] from rfl, p6]
  rintro e w4 ⟨rfl, m6, rfl⟩
  go_wp2_with fail
  refine (hex_any 98 (by decide) _ (HT3.out.on (below_drewN _ _))).mono ?_
  rw [p7]
  rintro e w5 ⟨rfl, hb5⟩
  have HB5 := Lib.hid ((HB3.out.trans ((below_drewN w3 _).mono HB3.out.size)).trans (hb5.mono HB3.out.size))
  clear hb5
  go_wp2_with fail
  go_returns
  exact ⟨rfl, HB5.out⟩
end Go.Proofs.YtdbijjiolknbfaaDoor
