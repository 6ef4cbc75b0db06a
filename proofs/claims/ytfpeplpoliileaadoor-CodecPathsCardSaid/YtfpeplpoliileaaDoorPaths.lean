/- The walk of CodecPaths: it returns true. -/
import Derived.Test.YtfpeplpoliileaaDoorReads
import Derived.Test.YtfpeplpoliileaaDoorSpread
import Derived.Test.YtfpeplpoliileaaDoorUnique
import Derived.Test.YtfpeplpoliileaaDoorAtNew
namespace Go.Proofs.YtfpeplpoliileaaDoor
open Go.ChangeShapes Go.WideShapes Go.ChangeAt Go.RowKit Pl

section
variable {H : Type} {enc : TypeId × Value → H} {W : World} {held : Bool}
/-- An argument of type []int; a nil one has no room. -/
theorem open_path2 {base : Nat} {v : Value} {d : DataW H} {ps : List MemPlace} (hval : Value.okWide Tryd.prog W .any base 31 v) (h : DataW.Trod enc Tryd.prog W 0 (fun _ => true) held 31 v d ps) :
    ∃ A c zs, v = .slice A (List.length zs) c ∧ Ints W A zs ∧ (A = none → c = 0) := by
  obtain ⟨A, c, zs, rfl, hI⟩ := open_path hval h
  refine ⟨A, c, zs, rfl, hI, ?_⟩
  obtain ⟨fuel, hf⟩ := h
  rcases DataW.trod_slice Tryd.underlying31 hf with ⟨h2, _⟩ | ⟨a, len', cap', elems, rest, n', hn', h2, _⟩
  · simp [Value.cells] at h2
    intro _; exact h2.2.2
  · simp [Value.cells] at h2
    intro h; rw [h] at h2; simp at h2
end

theorem int_info : (Tryd.prog.info? 3).map (fun i => (i.zero, i.size, i.bytes)) = some (some (.int .i64 0), 1, 8) := by kernel_rfl

/-- A slice of ints of the call's own. -/
def OwnI (W w : World) (v : Value) (zs : List Int) : Prop := w.ownsRow W.heap.size 3 1 v zs.length (zs.map (Value.int .i64)) ∧ Below W.heap.size W w

theorem OwnI.start {W w : World} (hb : Below W.heap.size W w) {g : Nat} (hg : g = w.heap.size) : OwnI W (w.alloc (.cells #[] 3)) (.slice (some ⟨g, 0, none⟩) 0 0) [] := by
  subst hg
  exact ⟨World.ownsRow_made w #[] 0 hb.size (by simp) (by simp), hb.alloc hb.size _⟩
theorem OwnI.start1 (W : World) (o : Obj) : OwnI W ((W.alloc o).alloc (.cells #[] 3)) (.slice (some ⟨W.heap.size + 1, 0, none⟩) 0 0) [] :=
  OwnI.start ((Below.refl _ _).alloc (Nat.le_refl _) _) (by simp)
theorem OwnI.drew {W w : World} {v : Value} {zs : List Int} (h : OwnI W w v zs) : OwnI W w.drew v zs := ⟨h.1, h.2.drew⟩
theorem OwnI.alloc {W w : World} {v : Value} {zs : List Int} (h : OwnI W w v zs) (o : Obj) : OwnI W (w.alloc o) v zs := ⟨h.1.alloc o, h.2.alloc h.2.size o⟩
theorem OwnI.ne {W w : World} {v : Value} {zs : List Int} (h : OwnI W w v zs) {g : Nat} {cs : Array Value} (hb : Blk w g 25 cs) : some g ≠ v.ownBlock := by
  intro he
  rcases h.1.2 with ⟨rfl, _⟩ | ⟨g', cap, cur, rfl, _, hh, _⟩
  · simp [Value.ownBlock] at he
  · have : g = g' := by simpa [Value.ownBlock] using he
    subst this
    unfold Blk at hb
    rw [hb] at hh
    injection hh with hh
    injection hh with _ h2
    exact absurd h2 (by decide)
theorem OwnI.ints {W w : World} {v : Value} {zs : List Int} (h : OwnI W w v zs) (hr : ∀ z ∈ zs, -9223372036854775808 ≤ z ∧ z ≤ 9223372036854775807) : ∃ A c, v = .slice A zs.length c ∧ Ints w A zs := by
  obtain ⟨h1, _⟩ := h
  rcases h1.2 with ⟨rfl, h0⟩ | ⟨g, cap, cur, rfl, hb, hg, hc, hm, hsz, htake⟩
  · have : zs = [] := List.length_eq_zero_iff.1 h0
    subst this
    exact ⟨none, 0, rfl, by simp, hr, fun i hi => by simp at hi⟩
  · refine ⟨_, _, rfl, Nat.le_trans hc hm, hr, fun i hi => ⟨g, 0, rfl, (Array.getElem?_eq_some_iff.1 hg).1, ?_⟩⟩
    have := h1.cells (g := g) rfl i (.int .i64 zs[i]) (by simp [hi])
    rw [← this, Nat.zero_add]
    congr 1
    unfold Addr.add
    split <;> simp_all

theorem step_ints {ops : Array Oper} {o : Oper} {a : Act} {w : World} {K : Act → World → Prop} {Q : Exit → Act → World → Prop} {E : Prop} (hgd : o.guard = none) (s x : Operand)
    (ho : o.op = .call { callee := .builtin .append, args := #[s, x], argTypes := #[31, 31] })
    (W : World) (v : Value) (zs : List Int) (hs : a.eval s = v) (hown : OwnI W w v zs) (A : Option Addr) (c : Nat) (ys : List Int) (hx : a.eval x = .slice A ys.length c) (hI : Ints W A ys) (hA : A = none → c = 0) (hlen : zs.length + ys.length ≤ 100000)
    (h : ∀ v' w', OwnI W w' v' (zs ++ ys) → (∀ g cs, Blk w g 25 cs → Blk w' g 25 cs) → K (a.put o.dst v') w') : if Region.wanted o (yielded ops a.tmps) = true then Oper.wp Tryd.prog o a w K Q else E := by
  obtain ⟨i0, hi0, hz0, hz1, hz2⟩ := info_parts int_info
  refine step_append_src w hgd s x 31 ho W.heap.size 3 i0 _ 1 8 Tryd.underlying31 hi0 hz0 hz1 hz2 rfl (by decide) v zs.length _ hs hown.1 A ys.length c (ys.map (Value.int .i64)) hx (fun hn => ⟨?_, hA hn⟩) (by simp) ?_ ?_ (by unfold maxLen; omega) (by omega) hown.2.size ?_
  · cases ys with
    | nil => rfl
    | cons y ys => obtain ⟨b, o, h1, _⟩ := hI.2.2 0 (by simp); rw [hn] at h1; cases h1
  · intro ad had j u hj
    have hjl : j < ys.length := by
      have := (List.getElem?_eq_some_iff.1 hj).1; simpa using this
    obtain ⟨b, o, h1, h2, h3⟩ := hI.2.2 j hjl
    rw [had] at h1; injection h1 with h1; subst h1
    have hadd : (⟨b, o, none⟩ : Addr).add j = ⟨b, o + j, none⟩ := by unfold Addr.add; split <;> simp_all
    rw [hadd, hown.2.cell h2, h3]
    simp [hjl] at hj
    rw [← hj]
  · intro u hu
    obtain ⟨z, _, rfl⟩ := List.mem_map.1 hu
    rfl
  · intro v' w' h1 h2 h3
    refine h v' w' ⟨by rw [List.length_append, List.map_append]; exact h1, hown.2.grown h2 hown.2.size (fun g hg => (hown.1.lt g hg).1)⟩ (fun g cs hb => hb.grown h2 (hown.ne hb))

/-- occurs: where one is known. -/
theorem occurs_any (s t : ByteArray) (x y : List UInt8) (h : s.data.toList = x ++ t.data.toList ++ y) (hs : s.size ≤ 100000) (w : World) : Calls Tryd.prog 21 #[.string s, .string t] w fun e w' => e = .returned (.bool true) ∧ w = w' := by
  have hl := congrArg List.length h
  simp only [List.length_append, ← Lib.size_eq] at hl
  have HX : Hid ((s.extract x.length (x.length + t.size)).toList = t.toList) := by
    show (s.extract x.length (x.length + t.size)).toList = t.toList
    rw [Lib.toList_data, Lib.toList_data, Lib.extract_data, h, List.append_assoc, List.drop_left' rfl, Nat.add_sub_cancel_left, Lib.size_eq, List.take_left' rfl]
  clear h
  go_enter Tryd.func21, Tryd.ntmps21
  go_wp2_with fail
  go_loop [5] (fun i => ∃ k : Nat, k ≤ x.length ∧ i = .int .i64 (k : Int)) (fun i => x.length - (intOf i).toNat)
  case atStart => exact ⟨0, Nat.zero_le _, rfl⟩
  case round =>
    obtain ⟨k, hk, rfl⟩ := hrel
    have h1 : (k : Int) + (t.size : Int) ≤ (s.size : Int) := by omega
    have h2 : k + t.size ≤ s.size := by omega
    by_cases hkx : k = x.length
    · subst hkx
      have hb : ((s.extract x.length (x.length + t.size)).toList == t.toList) = true := by rw [HX.out]; simp
      go_wp2_with fail
      go_returns
      exact ⟨rfl, rfl⟩
    · cases hb : ((s.extract k (k + t.size)).toList == t.toList)
      · go_wp2_with fail
        go_round
        case rel => exact ⟨k + 1, by omega, by go_num⟩
        case measure => simp [intOf]; omega
      · go_wp2_with fail
        go_returns
        exact ⟨rfl, rfl⟩

theorem resAt_append (t : Tr) (p q : List Int) : (∃ b, resAt t p = (b, 0) ∧ at? t p = some b ∧ resAt t (p ++ q) = resAt b q) ∨ (resAt t p = (zeroT, 6) ∧ resAt t (p ++ q) = (zeroT, 6)) := by
  unfold resAt
  rw [at?_append]
  cases h : at? t p with
  | none => exact .inr ⟨rfl, rfl⟩
  | some b => exact .inl ⟨b, rfl, rfl, rfl⟩

theorem below_store3 {w wr : World} {g : Nat} (h : Below w.heap.size w wr) (hg : w.heap.size ≤ g) (a b c : Value) : Below w.heap.size w (((wr.setCell ⟨g, 0, none⟩ a).setCell ⟨g, 1, none⟩ b).setCell ⟨g, 2, none⟩ c) :=
  ((h.setCell (p := ⟨g, 0, none⟩) hg a).setCell (p := ⟨g, 1, none⟩) hg b).setCell (p := ⟨g, 2, none⟩) hg c
theorem lies_store3 {B : Nat} {wx : World} {t : Tr} {v : Value} {b : Nat} (h : Lies (fun g => B ≤ g) wx t v) (hb : b < B) (x y z : Value) : Lies anyB (((wx.setCell ⟨b, 0, none⟩ x).setCell ⟨b, 1, none⟩ y).setCell ⟨b, 2, none⟩ z) t v := by
  refine Lies.to (fun g hg _ => ⟨?_, trivial⟩) _ _ h
  have hne : g ≠ b := Nat.ne_of_gt (Nat.lt_of_lt_of_le hb hg)
  rw [set_far _ _ _ _ _ hne, set_far _ _ _ _ _ hne, set_far _ _ _ _ _ hne]
theorem size_at : ∀ (p : List Int) (t b : Tr), at? t p = some b → size b ≤ size t := by
  intro p
  induction p with
  | nil => intro t b h; rw [at?] at h; injection h with h; subst h; exact Nat.le_refl _
  | cons i p ih =>
    intro t b h
    rw [at?] at h
    split at h
    · rename_i hg
      rw [List.getElem?_eq_getElem hg.2.2] at h
      exact Nat.le_trans (ih _ _ h) (Nat.le_of_lt (size_kid (List.getElem_mem hg.2.2)))
    · cases h
theorem blk_second (w : World) (o : Obj) (cs : Array Value) : Blk ((w.alloc o).alloc (.cells cs 25)) (w.heap.size + 1) 25 cs := by
  have := Blk.new (w.alloc o) 25 cs
  simpa using this

set_option maxRecDepth 100000 in
set_option maxHeartbeats 8000000 in
theorem paths_any (t : Tr) (v : Value) (P : Option Addr) (cp : Nat) (zs : List Int) (Q : Option Addr) (cq : Nat) (ys : List Int) (w : World) (ha : Lies anyB w t v) (hp : Ints w P zs ∧ (P = none → cp = 0)) (hq : Ints w Q ys ∧ (Q = none → cq = 0)) (htab : TabB w.heap.size w) :
    Calls Tryd.prog 10 #[v, .slice P zs.length cp, .slice Q ys.length cq] w (Yes w) := by
  obtain ⟨tl, sa, A, tn, ca, rfl⟩ := lies_shape ha
  have hzl := hp.1.1
  have hyl := hq.1.1
  unfold maxLen at hzl hyl
  have HA := Lib.hid ha
  have HP := Lib.hid hp
  have HQ := Lib.hid hq
  have HTB := Lib.hid htab
  have hbox := Lib.hid (Blk.new w 25 #[.bool tl, .string sa, .slice A tn ca])
  have HB0 := Lib.hid ((Below.refl w.heap.size w).alloc (Nat.le_refl _) (.cells #[.bool tl, .string sa, .slice A tn ca] 25))
  clear ha hp hq htab
  have hsz := szN_small t 5000
  have hszle := szN_le t 5000
  generalize hqq : szN t 5000 = q at hsz hszle
  have HQQ := Lib.hid hqq
  clear hqq
  by_cases hguard : 5000 < q ∨ (q ≤ 5000 ∧ 20 < zs.length) ∨ (q ≤ 5000 ∧ zs.length ≤ 20 ∧ 20 < ys.length)
  · rcases hguard with h1 | ⟨h1, h2⟩ | ⟨h1, h2, h3⟩
    all_goals
      go_enter Tryd.func10, Tryd.ntmps10
      go_wp2_with fail
      refine (size_any t _ 5000 _ (HA.out.below HB0.out) (by omega)).mono ?_
      rw [HQQ.out]
      rintro e w1 ⟨rfl, hb1⟩
      have HB1 := Lib.hid (HB0.out.trans (hb1.mono (by simp)))
      clear hb1
      go_wp2_with fail
      refine (example_from HTB.out HB1.out).mono ?_
      rintro e wx ⟨rfl, hbx⟩
      go_wp2_with fail
      go_returns
      exact ⟨rfl, hbx⟩
  · have hq1 : q ≤ 5000 := by omega
    have hz20 : zs.length ≤ 20 := by omega
    have hy20 : ys.length ≤ 20 := by omega
    have hst : size t ≤ 5000 := hsz.1 hq1
    have HST := Lib.hid hst
    clear hguard hsz hst
    go_enter Tryd.func10, Tryd.ntmps10
    go_wp2_with fail
    refine (size_any t _ 5000 _ (HA.out.below HB0.out) (by omega)).mono ?_
    rw [HQQ.out]
    rintro e w1 ⟨rfl, hb1⟩
    have HB1 := Lib.hid (HB0.out.trans (hb1.mono (by simp)))
    have hbx1 := Lib.hid (hbox.out.below hb1 (by simp))
    clear hb1
    go_wp2_with fail
    have HS : Hid (∀ w' : World, Below w1.heap.size w1 w' → (Below w1.heap.size w1 w' ∧ w'.cell? ⟨w.heap.size, 0, none⟩ = some (.bool tl) ∧ w'.cell? ⟨w.heap.size, 1, none⟩ = some (.string sa) ∧ w'.cell? ⟨w.heap.size, 2, none⟩ = some (.slice A tn ca))) := by
      intro w' hb
      obtain ⟨⟨a, b, c⟩, _⟩ := (hbx1.out.below hb hbx1.out.lt).three
      exact ⟨hb, a, b, c⟩
    have HI1 := Lib.hid (HP.out.1.keep HB1.out)
    have HI2 := Lib.hid (HQ.out.1.keep HB1.out)
    have C17 : Hid (∀ (w' : World) (v' : Value), OwnI w1 w' v' ([] ++ zs ++ ys) → Calls Tryd.prog 17 #[.agg #[.bool tl, .string sa, .slice A tn ca], v'] w' (fun e w'' => (∃ l2 s2 A2 n2 c2, e = .returned (.tuple #[.agg #[.bool l2, .string s2, .slice A2 n2 c2], .int .i64 ((resAt t (zs ++ ys)).2 : Nat)]) ∧ Lies (fun b => w'.heap.size ≤ b) w'' (resAt t (zs ++ ys)).1 (.agg #[.bool l2, .string s2, .slice A2 n2 c2])) ∧ Below w1.heap.size w1 w'' ∧ (∀ g cs, Blk w' g 25 cs → g < w'.heap.size ∧ Blk w'' g 25 cs))) := by
      intro w' v' ho
      rw [List.nil_append] at ho
      have hb := ho.2
      obtain ⟨A', c', rfl, hI⟩ := ho.ints (by
        intro z hz
        rcases List.mem_append.1 hz with h | h
        · exact HP.out.1.2.1 z h
        · exact HQ.out.1.2.1 z h)
      refine (at_new t _ A' c' (zs ++ ys) w' ((HA.out.below HB1.out).below hb) hI (by have := HST.out; omega)).mono ?_
      rintro e w'' ⟨v2, rfl, hL2, hb2⟩
      obtain ⟨l2, s2, A2, n2, c2, rfl⟩ := lies_shape hL2
      exact ⟨⟨l2, s2, A2, n2, c2, rfl, hL2⟩, hb.trans (hb2.mono hb.size), fun g cs hbk => ⟨hbk.lt, hbk.below hb2 hbk.lt⟩⟩
    go_cut [7, 8] (fun s7 s8 wc => Below w1.heap.size w1 wc ∧ ∃ (b : Nat) (l2 : Bool) (s2 : ByteArray) (A2 : Option Addr) (n2 c2 : Nat), s7 = .pointer (some ⟨b, 0, none⟩) ∧ s8 = .int .i64 ((resAt t (zs ++ ys)).2 : Nat) ∧ Blk wc b 25 #[.bool l2, .string s2, .slice A2 n2 c2] ∧ Lies anyB wc (resAt t (zs ++ ys)).1 (.agg #[.bool l2, .string s2, .slice A2 n2 c2]))
    case first =>
      have hb0 : Below w1.heap.size w1 w1.drew := (Below.refl _ _).drew
      have hA1 := HP.out.2
      have hA2 := HQ.out.2
      go_region_held3 (fun w' => Below w1.heap.size w1 w' ∧ w'.cell? ⟨w.heap.size, 0, none⟩ = some (.bool tl) ∧ w'.cell? ⟨w.heap.size, 1, none⟩ = some (.string sa) ∧ w'.cell? ⟨w.heap.size, 2, none⟩ = some (.slice A tn ca))
        (first | with_reducible exact HS.out _ hbx | with_reducible exact HS.out _ (below_store3 hbx (Nat.le_refl _) _ _ _) | with_reducible exact HS.out _ (below_store3 hbx (Nat.le_succ _) _ _ _) | with_reducible exact HS.out _ (below_store3 hbx hbo1.size _ _ _) | with_reducible exact HS.out _ (below_store3 hbx hbo2.size _ _ _) | with_reducible exact HS.out _ (hbx.alloc hbx.size _) | with_reducible exact HS.out _ hbo2 | with_reducible exact HS.out _ (hbo2.alloc hbo2.size _) | with_reducible exact HS.out _ hbo1 | with_reducible exact HS.out _ (hbo1.alloc hbo1.size _) | exact HS.out _ (by with_reducible assumption) | (refine HS.out _ ?_; go_grown))
        (first | (refine step_ints rfl (.tmp 33) (.tmp 34) rfl w1 _ [] rfl (OwnI.drew (OwnI.start1 _ _)) P cp zs rfl HI1.out hA1 (by simp; omega) ?_; intro v1 w2 ho1 hk1; have hbo1 := ho1.2; have hbk1 := hk1 w1.heap.size #[.bool false, .string ⟨#[]⟩, .slice none 0 0] (Blk.drew (Blk.alloc (Blk.new _ _ _) _))) | (refine step_ints rfl (.tmp 33) (.tmp 34) rfl w1 _ [] rfl (OwnI.drew (OwnI.alloc (OwnI.start (Below.refl _ _) rfl) _)) P cp zs rfl HI1.out hA1 (by simp; omega) ?_; intro v1 w2 ho1 hk1; have hbo1 := ho1.2; have hbk1 := hk1 (w1.heap.size + 1) #[.bool false, .string ⟨#[]⟩, .slice none 0 0] (Blk.drew (blk_second _ _ _))) | (refine step_ints rfl (.tmp 33) (.tmp 34) rfl w1 _ [] rfl (OwnI.drew (OwnI.start (Below.refl _ _) rfl)) P cp zs rfl HI1.out hA1 (by simp; omega) ?_; intro v1 w2 ho1 hk1; have hbo1 := ho1.2) | (refine step_ints rfl (.tmp 35) (.tmp 36) rfl w1 v1 ([] ++ zs) rfl ho1 Q cq ys rfl HI2.out hA2 (by simp; omega) ?_; intro v2 w3 ho2 hk2; have hbo2 := ho2.2; have hbk2 := hk2 _ _ hbk1) | (refine step_ints rfl (.tmp 35) (.tmp 36) rfl w1 v1 ([] ++ zs) rfl (OwnI.alloc ho1 _) Q cq ys rfl HI2.out hA2 (by simp; omega) ?_; intro v2 w3 ho2 hk2; have hbo2 := ho2.2; have hbk2 := hk2 w2.heap.size #[.bool false, .string ⟨#[]⟩, .slice none 0 0] (Blk.new _ _ _)) | (refine step_ints rfl (.tmp 35) (.tmp 36) rfl w1 v1 ([] ++ zs) rfl ho1 Q cq ys rfl HI2.out hA2 (by simp; omega) ?_; intro v2 w3 ho2 hk2; have hbo2 := ho2.2) | (go_at_call 17; refine (C17.out _ v2 ho2).mono ?_; rintro e wx ⟨⟨l2, s2, A2, n2, c2, rfl, hLx⟩, hbx, hkx⟩; have hbk3 := hkx _ _ hbk2; have hbl3 := hbk3.1; obtain ⟨⟨q0, q1, q2⟩, q3, q4, q5⟩ := hbk3.2.three) | (go_at_call 17; refine (C17.out _ v2 (OwnI.alloc ho2 _)).mono ?_; rintro e wx ⟨⟨l2, s2, A2, n2, c2, rfl, hLx⟩, hbx, hkx⟩; have hbk3 := hkx w3.heap.size #[.bool false, .string ⟨#[]⟩, .slice none 0 0] (Blk.new _ _ _); have hbl3 := hbk3.1; obtain ⟨⟨q0, q1, q2⟩, q3, q4, q5⟩ := hbk3.2.three) | (go_at_call 17; refine (C17.out _ v2 ho2).mono ?_; rintro e wx ⟨⟨l2, s2, A2, n2, c2, rfl, hLx⟩, hbx, hkx⟩))
      all_goals
        go_wp2_with fail
        go_meet
        case rel =>
          first
            | exact ⟨hbx.alloc hbx.size _, _, l2, s2, A2, n2, c2, rfl, rfl, Blk.new _ _ _, Lies.to (fun g _ hg => ⟨Below.heap_alloc _ _ _ hg, trivial⟩) _ _ hLx⟩
            | exact ⟨below_store3 hbx (Nat.le_refl _) _ _ _, _, l2, s2, A2, n2, c2, rfl, rfl, hbk3.2.set3 _ _ _, lies_store3 hLx hbk3.1 _ _ _⟩
            | exact ⟨below_store3 hbx (Nat.le_succ _) _ _ _, _, l2, s2, A2, n2, c2, rfl, rfl, hbk3.2.set3 _ _ _, lies_store3 hLx hbk3.1 _ _ _⟩
            | exact ⟨below_store3 hbx hbo1.size _ _ _, _, l2, s2, A2, n2, c2, rfl, rfl, hbk3.2.set3 _ _ _, lies_store3 hLx hbk3.1 _ _ _⟩
            | exact ⟨below_store3 hbx hbo2.size _ _ _, _, l2, s2, A2, n2, c2, rfl, rfl, hbk3.2.set3 _ _ _, lies_store3 hLx hbk3.1 _ _ _⟩
    case rest =>
      obtain ⟨hbc, b, l2, s2, A2, n2, c2, rfl, rfl, hblk, hL⟩ := hcut
      have HBC := Lib.hid (HB1.out.trans (hbc.mono HB1.out.size))
      have hbxc := Lib.hid (hbx1.out.below hbc hbx1.out.lt)
      have HBL := Lib.hid hblk
      have HL := Lib.hid hL
      have hblt := hblk.lt
      obtain ⟨⟨x0, x1, x2⟩, _⟩ := hbxc.out.three
      clear hbc hblk hL HS C17 HI1 HI2
      rcases resAt_append t zs ys with ⟨tb, hra, hat, hrq⟩ | ⟨hra, hrq⟩
      · generalize hrz : resAt tb ys = rz at hrq
        obtain ⟨tc, nc⟩ := rz
        have HRA := Lib.hid hra
        have HRQ := Lib.hid hrq
        have HRZ := Lib.hid hrz
        have hsb : size tb ≤ 5000 := Nat.le_trans (size_at _ _ _ hat) HST.out
        have HAT := Lib.hid hat
        rw [hrq] at HL
        rw [hrq]
        clear hra hrq hrz hat
        have hnn : (((nc : Nat) : Int) != (nc : Nat)) = false := by simp
        go_wp2_with fail
        refine (at_any t _ P cp zs _ (HA.out.below HBC.out) (HP.out.1.keep HBC.out) (by have := HST.out; omega)).mono ?_
        rw [HRA.out]
        rintro e w3 ⟨v3, rfl, hL3, hb3⟩
        obtain ⟨l3, s3, A3, n3, c3, rfl⟩ := lies_shape hL3
        have HB3 := Lib.hid ((HBC.out.trans (hb3.mono HBC.out.size)).alloc (Nat.le_trans HBC.out.size hb3.size) (.cells #[.bool l3, .string s3, .slice A3 n3 c3] 25))
        have hbc3 := Lib.hid ((Below.refl _ _).alloc (Nat.le_refl _) (.cells #[.bool l3, .string s3, .slice A3 n3 c3] 25) : Below w3.heap.size w3 _)
        have HLb := Lib.hid (hL3.below hbc3.out)
        have HLa := Lib.hid ((HL.out.below hb3).below hbc3.out)
        have hBb := Lib.hid (Blk.new w3 25 #[.bool l3, .string s3, .slice A3 n3 c3])
        have hBa := Lib.hid ((HBL.out.below hb3 HBL.out.lt).alloc (.cells #[.bool l3, .string s3, .slice A3 n3 c3] 25))
        have hBn := Lib.hid ((hbxc.out.below hb3 hbxc.out.lt).alloc (.cells #[.bool l3, .string s3, .slice A3 n3 c3] 25))
        obtain ⟨⟨y0, y1, y2⟩, _⟩ := hBb.out.three
        clear hL3 hb3
        go_wp2_with fail
        refine (at_any tb _ Q cq ys _ HLb.out (HQ.out.1.keep HB3.out) (by omega)).mono ?_
        rw [HRZ.out]
        rintro e w4 ⟨v4, rfl, hL4, hb4⟩
        obtain ⟨l4, s4, A4, n4, c4, rfl⟩ := lies_shape hL4
        have HB4 := Lib.hid ((HB3.out.trans (hb4.mono HB3.out.size)).alloc (Nat.le_trans HB3.out.size hb4.size) (.cells #[.bool l4, .string s4, .slice A4 n4 c4] 25))
        have hbc4 := Lib.hid ((Below.refl _ _).alloc (Nat.le_refl _) (.cells #[.bool l4, .string s4, .slice A4 n4 c4] 25) : Below w4.heap.size w4 _)
        have HLc := Lib.hid (hL4.below hbc4.out)
        have HLa4 := Lib.hid ((HLa.out.below hb4).below hbc4.out)
        have HLb4 := Lib.hid ((HLb.out.below hb4).below hbc4.out)
        have hBa4 := Lib.hid ((hBa.out.below hb4 hBa.out.lt).alloc (.cells #[.bool l4, .string s4, .slice A4 n4 c4] 25))
        have hBb4 := Lib.hid ((hBb.out.below hb4 hBb.out.lt).alloc (.cells #[.bool l4, .string s4, .slice A4 n4 c4] 25))
        have hBn4 := Lib.hid ((hBn.out.below hb4 hBn.out.lt).alloc (.cells #[.bool l4, .string s4, .slice A4 n4 c4] 25))
        obtain ⟨⟨z0, z1, z2⟩, _⟩ := hBa4.out.three
        clear hL4 hb4
        go_wp2_with fail
        refine (same_any tc tc _ _ _ HLa4.out HLc.out).mono ?_
        rw [eqT_true rfl]
        rintro e w5 ⟨rfl, hb5⟩
        have HB5 := Lib.hid (HB4.out.trans (hb5.mono HB4.out.size))
        have HLb5 := Lib.hid (HLb4.out.below hb5)
        have hBb5 := Lib.hid (hBb4.out.below hb5 hBb4.out.lt)
        obtain ⟨⟨k0, k1, k2⟩, _⟩ := (hBn4.out.below hb5 hBn4.out.lt).three
        clear hb5
        go_wp2_with fail
        refine (encode_any t _ _ (HA.out.below HB5.out) (by have := HST.out; omega) ((HTB.out.on HB5.out).mono HB5.out.size)).mono ?_
        rcases resEnc_cases t with ⟨l, hre, hen⟩ | ⟨n, hre, hn, _⟩
        · rw [hre]
          rintro e w6 ⟨sb, rfl, hsb6, hb6⟩
          have HB6 := Lib.hid (HB5.out.trans (hb6.mono HB5.out.size))
          have HLb6 := Lib.hid (HLb5.out.below hb6)
          obtain ⟨⟨m0, m1, m2⟩, _⟩ := (hBb5.out.below hb6 hBb5.out.lt).three
          obtain ⟨u, x, y, hu, hsu⟩ := encode_at _ _ _ _ hen HAT.out
          have hru : resEnc tb = (u, 0) := by unfold resEnc; rw [hu]
          have HRU := Lib.hid hru
          have hll := (encode_ok hen).2.2
          have hsbz : sb.size ≤ 20000 := by rw [Lib.size_eq, hsb6]; exact hll
          have HSB := Lib.hid (hsb6.trans hsu)
          clear hb6 hsb6 hre hen hu hsu hru hll
          go_wp2_with fail
          refine (encode_any tb _ _ HLb6.out (by omega) ((HTB.out.on HB6.out).mono HB6.out.size)).mono ?_
          rw [HRU.out]
          rintro e w7 ⟨tbb, rfl, htb7, hb7⟩
          have HB7 := Lib.hid (HB6.out.trans (hb7.mono HB6.out.size))
          have HSB2 : Hid (sb.data.toList = x ++ tbb.data.toList ++ y) := by show _ = _; rw [htb7]; exact HSB.out
          clear hb7 htb7
          go_wp2_with fail
          refine (occurs_any sb tbb x y HSB2.out (by omega) _).mono ?_
          rintro e w8 ⟨rfl, rfl⟩
          go_wp2_with fail
          refine (example_from HTB.out HB7.out).mono ?_
          rintro e wx ⟨rfl, hbx⟩
          go_wp2_with fail
          go_returns
          exact ⟨rfl, hbx⟩
        · rw [hre]
          rintro e w6 ⟨sb, rfl, _, hb6⟩
          have HB6 := Lib.hid (HB5.out.trans (hb6.mono HB5.out.size))
          have HLb6 := Lib.hid (HLb5.out.below hb6)
          obtain ⟨⟨m0, m1, m2⟩, _⟩ := (hBb5.out.below hb6 hBb5.out.lt).three
          have hnb : (((n : Nat) : Int) != 0) = true := by simp; omega
          clear hb6 hre
          go_wp2_with fail
          refine (encode_any tb _ _ HLb6.out (by omega) ((HTB.out.on HB6.out).mono HB6.out.size)).mono ?_
          generalize resEnc tb = re2
          obtain ⟨u2, n2'⟩ := re2
          rintro e w7 ⟨tbb, rfl, _, hb7⟩
          have HB7 := Lib.hid (HB6.out.trans (hb7.mono HB6.out.size))
          clear hb7
          go_wp2_with fail
          refine (example_from HTB.out HB7.out).mono ?_
          rintro e wx ⟨rfl, hbx⟩
          go_wp2_with fail
          go_returns
          exact ⟨rfl, hbx⟩
      · have HRA := Lib.hid hra
        rw [hrq] at HL
        rw [hrq]
        clear hra hrq
        go_wp2_with fail
        refine (at_any t _ P cp zs _ (HA.out.below HBC.out) (HP.out.1.keep HBC.out) (by have := HST.out; omega)).mono ?_
        rw [HRA.out]
        rintro e w3 ⟨v3, rfl, hL3, hb3⟩
        obtain ⟨l3, s3, A3, n3, c3, rfl⟩ := lies_shape hL3
        have HB3 := Lib.hid ((HBC.out.trans (hb3.mono HBC.out.size)).alloc (Nat.le_trans HBC.out.size hb3.size) (.cells #[.bool l3, .string s3, .slice A3 n3 c3] 25))
        clear hL3 hb3
        go_wp2_with fail
        refine (example_from HTB.out HB3.out).mono ?_
        rintro e wx ⟨rfl, hbx⟩
        go_wp2_with fail
        go_returns
        exact ⟨rfl, hbx⟩
end Go.Proofs.YtfpeplpoliileaaDoor
