/- The walks of write and Encode. -/
import Derived.Test.YtfpeplpoliileaaDoorSizes
import Derived.Test.YtfpeplpoliileaaDoorClone
import Derived.Test.YtfpeplpoliileaaDoorShelf
import Derived.Lib.AppendStr
import Derived.Laws.BytesString
namespace Go.Proofs.YtfpeplpoliileaaDoor
open Go.RowKit Pl

mutual
theorem wr_length (t : Tr) : ∀ b : List UInt8, (wr b t).length ≤ b.length + 2 * size t := by
  cases t with
  | mk l s ks =>
    intro b
    rw [wr, size]
    have h2 := digs_length_le s.length
    split
    · omega
    · split
      · have h1 := wrL_length ks (b ++ [40])
        simp at h1 ⊢; omega
      · simp; omega
theorem wrL_length (ks : List Tr) : ∀ b : List UInt8, (wrL b ks).length ≤ b.length + 2 * sizeL ks := by
  cases ks with
  | nil => intro b; simp [wrL]
  | cons k ks =>
    intro b
    rw [wrL, sizeL]
    have h1 := wr_length k b
    have h2 := wrL_length ks (wr b k)
    omega
end

theorem wr_eq (b : List UInt8) (t : Tr) : wr b t = if 20000 < b.length then b else if t.list = true then wrL (b ++ [40]) (t.kids.drop 0) ++ [41] else b ++ digs t.text.length ++ [58] ++ t.text := by
  cases t; rw [wr]; rfl
theorem wrL_step {ks : List Tr} {k : Nat} (hk : k < ks.length) (b : List UInt8) : wrL b (ks.drop k) = wrL (wr b ks[k]) (ks.drop (k + 1)) := by
  rw [List.drop_eq_getElem_cons hk, wrL]
theorem wrL_end {ks : List Tr} {k : Nat} (hk : ks.length ≤ k) (b : List UInt8) : wrL b (ks.drop k) = b := by
  rw [List.drop_of_length_le hk, wrL]
theorem sizeL_step {ks : List Tr} {k : Nat} (hk : k < ks.length) : sizeL (ks.drop k) = size ks[k] + sizeL (ks.drop (k + 1)) := by
  rw [List.drop_eq_getElem_cons hk, sizeL]
theorem size_eq (t : Tr) : size t = 1 + t.text.length + sizeL (t.kids.drop 0) := by cases t; rw [size]; rfl

/-- The table of powers of ten lies below block B. -/
def TabB (B : Nat) (w : World) : Prop := Lib.TabBelow Tryd.prog B w "internal/strconv.uint64pow10" .u64 Lib.pow10Tab
theorem TabB.on {B : Nat} {w w' : World} (h : TabB B w) (hb : Below B w w') : TabB B w' := Lib.TabBelow.on h hb
theorem TabB.mono {B B' : Nat} {w : World} (h : TabB B w) (hB : B ≤ B') : TabB B' w := fun w' hb => h w' (hb.mono hB)

theorem owns_form {w : World} {B : Nat} {e : TypeId} {size : Nat} {v : Value} {n : Nat} {xs : List Value} (h : w.ownsRow B e size v n xs) : ∃ A c, v = .slice A n c := by
  rcases h.2 with ⟨h1, h2⟩ | ⟨g, cap, cur, h1, _⟩
  · exact ⟨none, 0, by rw [h1, h2]⟩
  · exact ⟨_, _, h1⟩

theorem byte_info : (Tryd.prog.info? 5).map (fun i => (i.zero, i.size, i.bytes)) = some (some (.int .u8 0), 1, 1) := by kernel_rfl

/-- A slice of bytes of the call's own comes back. -/
def GivesBytes (l : List UInt8) (B : Nat) (w : World) (e : Ending) (w' : World) : Prop := ∃ v', e = .returned v' ∧ w'.ownsRow B 5 1 v' l.length (Lib.byteCells l) ∧ Below B w w'

theorem byteCells_append (a b : List UInt8) : Lib.byteCells (a ++ b) = Lib.byteCells a ++ Lib.byteCells b := by simp [Lib.byteCells]
theorem byteCells_one (c : UInt8) : Lib.byteCells [c] = [.int .u8 c.toNat] := rfl
theorem oneCell_byte (n : Int) : ∀ u ∈ [Value.int .u8 n], u.oneCell' = true := by
  intro u hu; simp at hu; subst hu; rfl
theorem owns_one {w : World} {B : Nat} {v : Value} {l : List UInt8} {c : UInt8} (h : w.ownsRow B 5 1 v (l.length + 1) (Lib.byteCells l ++ [.int .u8 c.toNat])) : w.ownsRow B 5 1 v (l ++ [c]).length (Lib.byteCells (l ++ [c])) := by
  rw [byteCells_append, byteCells_one]; simpa using h
theorem owns_more {w : World} {B : Nat} {v : Value} {l m : List UInt8} (h : w.ownsRow B 5 1 v (l.length + m.length) (Lib.byteCells l ++ Lib.byteCells m)) : w.ownsRow B 5 1 v (l ++ m).length (Lib.byteCells (l ++ m)) := by
  rw [byteCells_append]; simpa using h

theorem own_ne {w : World} {B : Nat} {v : Value} {n : Nat} {xs : List Value} {g : Nat} {cs : Array Value} (h : w.ownsRow B 5 1 v n xs) (hb : Blk w g 25 cs) : some g ≠ v.ownBlock := by
  intro he
  rcases h.2 with ⟨rfl, _⟩ | ⟨g', cap, cur, rfl, _, hh, _⟩
  · simp [Value.ownBlock] at he
  · have : g = g' := by simpa [Value.ownBlock] using he
    subst this
    unfold Blk at hb
    rw [hb] at hh
    injection hh with hh
    injection hh with _ h2
    exact absurd h2 (by decide)
theorem Blk.others {w w' : World} {g : Nat} {cs : Array Value} (h : Blk w g 25 cs) (hk : Lib.OthersKept 5 none w w') : Blk w' g 25 cs :=
  hk g _ h (by simp) (fun c fz e => by injection e with _ e2; exact absurd e2 (by decide))
theorem itoa_size (n : Nat) : Lib.itoa (n : Int) = digs n := by
  unfold Lib.itoa digs
  rw [if_neg (by omega), Int.toNat_natCast]
theorem strCells_eq (s : ByteArray) : Lib.strCells s = Lib.byteCells s.data.toList := rfl

set_option maxHeartbeats 400000 in
theorem write_any (t : Tr) : ∀ (B : Nat) (sv : Value) (xs : List UInt8) (v : Value) (w : World), Lies (fun b => b < B) w t v → w.ownsRow B 5 1 sv xs.length (Lib.byteCells xs) → B ≤ w.heap.size →
    xs.length + 2 * size t ≤ 1000000 → TabB B w → Calls Tryd.prog 29 #[sv, v] w (GivesBytes (wr xs t) B w) := by
  induction t using Tr.ind with
  | h t ih =>
  intro B sv xs v w ha hown hBw hlim htab
  obtain ⟨sa, A, ca, rfl, _⟩ := ha.open_
  obtain ⟨hsa, _, hka, hel⟩ := ha.elems
  obtain ⟨A0, c0, rfl⟩ := owns_form hown
  obtain ⟨i0, hi0, hz0, hz1, hz2⟩ := info_parts byte_info
  have hsz := size_eq t
  have hsl : sa.size = t.text.length := by rw [Lib.size_eq, hsa]
  have hs3 : sa.size ≤ 500000 := by omega
  have hxl : xs.length ≤ 1000000 := by omega
  have IH := Lib.hid ih
  have HA := Lib.hid hel
  have HSA := Lib.hid hsa
  have HO := Lib.hid hown
  have HTB := Lib.hid htab
  have HW := Lib.hid (wr_eq xs t)
  have HSZ := Lib.hid hsz
  have HSL := Lib.hid hsl
  clear ih hel hsa ha hown htab hsz hsl
  unfold maxLen at hka
  by_cases hbig : 20000 < xs.length
  · have HE : Hid (wr xs t = xs) := by have := HW.out; rw [if_pos hbig] at this; exact this
    go_enter Tryd.func29, Tryd.ntmps29
    go_wp2_with fail
    go_returns
    refine ⟨_, rfl, ?_, by go_grown⟩
    rw [HE.out]; exact HO.out.alloc _
  have HW2 := HW.out
  rw [if_neg hbig] at HW2
  clear HW
  cases hl : t.list
  · -- a text
    rw [hl] at HW2
    simp only [Bool.false_eq_true, if_false] at HW2
    have HW := Lib.hid HW2
    clear HW2
    generalize t.list = tl at *
    subst hl
    go_enter Tryd.func29, Tryd.ntmps29
    go_wp2_with fail
    have hown1 := Lib.hid (HO.out.alloc (.cells #[.bool false, .string sa, .slice A t.kids.length ca] 25))
    have htb1 := Lib.hid (HTB.out.on ((Below.refl _ _).alloc hBw (.cells #[.bool false, .string sa, .slice A t.kids.length ca] 25)))
    refine (Tryd.strconv_AppendInt_10 B xs.length (sa.size : Int) (by omega) (by omega) _ _ _ hown1.out (by simp; omega) (by omega) htb1.out).mono ?_
    rintro e w1 ⟨v1, rfl, ho1, hb1, _⟩
    rw [itoa_size] at ho1
    have hbk1 := (Blk.new w 25 #[.bool false, .string sa, .slice A t.kids.length ca]).others (by assumption)
    have ho2 := owns_more ho1
    have hdl := digs_length_le sa.size
    obtain ⟨l1, hl1⟩ : ∃ l1, l1 = xs ++ digs sa.size := ⟨_, rfl⟩
    have hl1l : l1.length ≤ 1600000 := by rw [hl1]; simp; omega
    rw [← hl1] at ho2
    obtain ⟨A1, c1, rfl⟩ := owns_form ho2
    have HO2 := Lib.hid ho2
    have HBK1 := Lib.hid hbk1
    have HL1 := Lib.hid hl1
    have hB1 : B ≤ w1.heap.size := by have := hb1.size; simp at this; omega
    clear ho1 ho2 hbk1 hl1 hdl
    go_wp2_with (at_builtin; refine wpList_append_own_at _ rfl (.tmp 19) (.tmp 20) 51 rfl B 5 i0 _ 1 1 Tryd.underlying51 hi0 hz0 hz1 hz2 rfl (by decide) _ _ _ rfl (HO2.out.alloc _) ⟨w1.heap.size, 0, none⟩ 1 1 _ rfl rfl (cell_one_new _ _ _) (oneCell_byte _) (by unfold maxLen; omega) (by omega) (by simp; omega) ?_)
    intro v2 w2 hown2 hg2 hnil2 hat2
    have hbk2 := Lib.hid (((HBK1.out.alloc _).grown hg2 (own_ne HO2.out HBK1.out)))
    have k1 : w2.cell? ⟨w.heap.size, 1, none⟩ = some (.string sa) := hbk2.out.cell 1
    have hown3 := Lib.hid (owns_one (c := 58) hown2)
    have hB2 := hg2.size
    have hbl2 := Lib.hid (((hb1.alloc hB1 _).grown hg2 (by simp; omega) (fun g hg => (HO2.out.lt g hg).1)))
    clear hown2 hg2 hnil2 hat2
    simp only [World.size_alloc] at hB2
    obtain ⟨l2, hl2⟩ : ∃ l2, l2 = l1 ++ [58] := ⟨_, rfl⟩
    have hl2l : l2.length ≤ 1600001 := by rw [hl2]; simp; omega
    rw [← hl2] at hown3
    obtain ⟨A2, c2, rfl⟩ := owns_form hown3.out
    have HL2 := Lib.hid hl2
    clear hl2
    go_wp2_with (at_builtin; (refine Lib.wpList_append_own_string _ rfl (.tmp 22) (.tmp 24) 51 9 rfl B 5 i0 Tryd.underlying51 Tryd.underlying9 hi0 hz0 hz1 hz2 _ _ _ rfl hown3.out sa rfl (by unfold maxLen; omega) (by omega) (by omega) ?_))
    intro v3 w3 hown4 hg3 _
    have hfin : w3.ownsRow B 5 1 v3 (wr xs t).length (Lib.byteCells (wr xs t)) := by
      have h1 : wr xs t = l2 ++ sa.data.toList := by rw [HW.out, HL2.out, HL1.out, HSL.out, HSA.out]
      rw [h1]
      refine owns_more ?_
      rw [← strCells_eq, ← Lib.size_eq]
      exact hown4
    have hbf := hbl2.out.grown hg3 (by omega) (fun g hg => (hown3.out.lt g hg).1)
    have HFIN := Lib.hid hfin
    have HBF := Lib.hid hbf
    clear hfin hbf hown4 hg3
    go_wp2_with fail
    go_returns
    exact ⟨_, rfl, HFIN.out, ((Below.refl _ _).alloc hBw _).trans HBF.out⟩
  · -- a list
    rw [hl] at HW2
    simp only [if_true] at HW2
    have HW := Lib.hid HW2
    clear HW2
    generalize t.list = tl at *
    subst hl
    go_enter Tryd.func29, Tryd.ntmps29
    go_wp2_with (at_builtin; refine wpList_append_own_at _ rfl (.tmp 26) (.tmp 27) 51 rfl B 5 i0 _ 1 1 Tryd.underlying51 hi0 hz0 hz1 hz2 rfl (by decide) _ _ _ rfl ((HO.out.alloc _).alloc _) ⟨w.heap.size + 1, 0, none⟩ 1 1 [.int .u8 40] rfl rfl ?c1 (oneCell_byte _) (by unfold maxLen; omega) (by omega) (by simp; omega) ?_)
    case c1 =>
      have := cell_one_new (w.alloc (Obj.cells #[.bool true, .string sa, .slice A t.kids.length ca] 25)) (.int .u8 40) 5
      simpa using this
    intro v1 w1 hown1 hg1 hnil1 hat1
    have hown2 := owns_one (c := 40) hown1
    obtain ⟨l1, hl1⟩ : ∃ l1, l1 = xs ++ [40] := ⟨_, rfl⟩
    have hl1l : l1.length = xs.length + 1 := by rw [hl1]; simp
    rw [← hl1] at hown2
    have hbl1 : Below B w w1 := ((((Below.refl _ _).alloc hBw _).alloc (by simp; omega) _).grown hg1 (by simp; omega) (fun g hg => (HO.out.lt g hg).1))
    have HL1 := Lib.hid hl1
    have HLL := Lib.hid hl1l
    have HO1 := Lib.hid hown2
    have c2 : w1.cell? ⟨w.heap.size, 2, none⟩ = some (.slice A t.kids.length ca) := by
      have hb := (Blk.new w 25 #[.bool true, .string sa, .slice A t.kids.length ca])
      have hne := own_ne (HO.out.alloc (.cells #[.bool true, .string sa, .slice A t.kids.length ca] 25)) hb
      exact ((hb.alloc _).grown hg1 hne).cell 2
    clear hown1 hg1 hnil1 hat1 hown2 hl1 hl1l
    obtain ⟨A1, cc1, rfl⟩ := owns_form HO1.out
    go_wp2_with fail
    go_loopw [0, 32] (fun v i wr => ∃ (k : Nat) (bk : List UInt8), k ≤ t.kids.length ∧ i = .int .i64 k ∧ wr.ownsRow B 5 1 v bk.length (Lib.byteCells bk) ∧ Below B w wr ∧ bk.length + 2 * sizeL (t.kids.drop k) + 1 ≤ 1000000 ∧ wrL bk (t.kids.drop k) = wrL l1 (t.kids.drop 0)) (fun _ i _ => t.kids.length - (intOf i).toNat)
    case atStart => exact ⟨0, l1, Nat.zero_le _, rfl, HO1.out, hbl1, by have h1 := HLL.out; have h2 := HSZ.out; omega, rfl⟩
    case round =>
      obtain ⟨k, bk, hk, rfl, hown, hw, hbd, hR⟩ := hrel
      obtain ⟨A2, cc2, rfl⟩ := owns_form hown
      have HOK := Lib.hid hown
      have HR := Lib.hid hR
      have hwB : B ≤ wr.heap.size := Nat.le_trans hBw hw.size
      clear hown hR HO1
      by_cases hlt : k < t.kids.length
      · obtain ⟨ba, oa, se, Ae, ce, rfl, _, hba, e0, e1, e2, hLk⟩ := HA.out wr (fun g hg _ => hw.block g hg) k hlt
        have HLK := Lib.hid (Lies.keep (w' := wr) (fun g hg _ => hw.block g hg) _ _ hLk)
        have hst := sizeL_step hlt
        have HST := Lib.hid (wrL_step hlt bk)
        have hkl := wr_length t.kids[k] bk
        clear hLk HA
        generalize t.kids[k].list = kl at *
        generalize t.kids[k].kids.length = kn at *
        have HS2 := Lib.hid hst
        have HKL := Lib.hid hkl
        have hlim2 : bk.length + 2 * size t.kids[k] ≤ 1000000 := by omega
        clear hst hkl
        go_wp2_with fail
        refine (IH.out _ (List.getElem_mem hlt) B _ bk _ _ (Lies.keep (fun g hg _ => Below.heap_alloc _ _ _ (by omega)) _ _ HLK.out) (HOK.out.alloc _) (by simp; omega) hlim2 ((HTB.out.on hw).on ((Below.refl _ _).alloc hwB _))).mono ?_
        rintro e w2 ⟨v2, rfl, hown2, hb2⟩
        go_wp2_with fail
        go_roundw
        case rel => exact ⟨k + 1, Pl.wr bk t.kids[k], by omega, by go_num, hown2, (hw.alloc hwB _).trans hb2, by have h1 := HS2.out; have h2 := HKL.out; omega, by rw [← HR.out, HST.out]⟩
        case measure => simp [intOf]; omega
      · have hend := wrL_end (ks := t.kids) (k := k) (by omega) bk
        have HE : Hid (Pl.wr xs t = bk ++ [41]) := by
          show Pl.wr xs t = _
          rw [HW.out, ← HL1.out, ← HR.out, hend]
        clear hend HA
        go_wp2_with (at_builtin; (refine wpList_append_own_at _ rfl (.tmp 40) (.tmp 41) 51 rfl B 5 i0 _ 1 1 Tryd.underlying51 hi0 hz0 hz1 hz2 rfl (by decide) _ _ _ rfl (HOK.out.alloc _) ⟨wr.heap.size, 0, none⟩ 1 1 [.int .u8 41] rfl rfl (cell_one_new _ _ _) (oneCell_byte _) (by unfold maxLen; omega) (by omega) (by simp; omega) ?_))
        intro v2 w2 hown2 hg2 _ _
        have HF := Lib.hid (owns_one (c := 41) hown2)
        have HB := Lib.hid ((hw.alloc hwB _).grown hg2 (by simp; omega) (fun g hg => (HOK.out.lt g hg).1))
        clear hown2 hg2
        go_wp2_with fail
        go_returns
        refine ⟨_, rfl, ?_, HB.out⟩
        rw [HE.out]; exact HF.out

end Go.Proofs.YtfpeplpoliileaaDoor
