/- The walk of CodecLists: it returns true; and how an argument of nodes reads. -/
import Derived.Test.YtfpeplpoliileaaDoorReads
namespace Go.Proofs.YtfpeplpoliileaaDoor
open Go.ChangeShapes Go.WideShapes Go.ChangeAt Go.RowKit Pl

section
variable {H : Type} {enc : TypeId × Value → H} {W : World} {sp : Nat → Bool} {held : Bool}
/-- An argument of type []Node. -/
theorem open_nodes {base : Nat} {v : Value} {d : DataW H} {ps : List MemPlace} (hval : Value.okWide Tryd.prog W .any base 23 v) (h : DataW.Trod enc Tryd.prog W 0 sp held 23 v d ps) :
    ∃ A c ks, v = .slice A (List.length ks) c ∧ Lies anyB W (.mk true [] ks) (.agg #[.bool true, .string ⟨#[]⟩, .slice A (List.length ks) c]) := by
  obtain ⟨a0, len, cap, rfl⟩ := okWide_slice Tryd.underlying23 hval
  obtain ⟨fuel, hf⟩ := h
  rcases DataW.trod_slice Tryd.underlying23 hf with ⟨h2, _⟩ | ⟨a, len', cap', elems, rest, n', hn', h2, _, _, hlc, hcm, hlen, hel, _, _⟩
  · simp [Value.cells] at h2
    obtain ⟨rfl, rfl, rfl⟩ := h2
    refine ⟨none, 0, [], rfl, ?_⟩
    rw [Lies]
    exact ⟨_, none, 0, [], rfl, rfl, by simp, by simp, fun j u hj => by simp at hj, by rw [Trips]⟩
  · simp [Value.cells] at h2
    obtain ⟨rfl, rfl, rfl⟩ := h2
    rw [cells25] at hel
    obtain ⟨ks, cells, hk, ht, hc⟩ := kids_of_elems a n' len elems (fun cs x hh => node_lies n' cs x hh) hlen hel len (Nat.le_refl _)
    subst hk
    refine ⟨some a, cap, ks, rfl, ?_⟩
    rw [Lies]
    exact ⟨_, some a, cap, cells, rfl, rfl, by simp, Nat.le_trans hlc hcm, row_of_add hc, ht⟩
end

theorem encL_snoc {ks : List Tr} {k : Nat} (hk : k < ks.length) : encL (ks.take (k + 1)) = encL (ks.take k) ++ Pl.enc ks[k] := by
  rw [List.take_succ_eq_append_getElem hk]
  generalize ks.take k = a
  induction a with
  | nil => simp [encL]
  | cons x xs ih => simp [encL, ih]
theorem encL_take_le (ks : List Tr) (k : Nat) : (encL (ks.take k)).length ≤ (encL ks).length := by
  induction ks generalizing k with
  | nil => simp
  | cons x xs ih =>
    cases k with
    | zero => simp [encL]
    | succ k => simp only [List.take_succ_cons, encL, List.length_append]; have := ih k; omega

/-- What an encoding of a list says of its elements. -/
theorem list_facts {ks : List Tr} {s : List UInt8} (h : Pl.encode (.mk true [] ks) = .ok s) :
    s = 40 :: (encL ks ++ [41]) ∧ (encL ks).length ≤ 20000 ∧ ∀ i (hi : i < ks.length), resEnc ks[i] = (Pl.enc ks[i], 0) := by
  obtain ⟨hc, hs, hl⟩ := encode_ok h
  have he : s = 40 :: (encL ks ++ [41]) := by rw [hs, Pl.enc]; simp
  refine ⟨he, by rw [he] at hl; simp at hl; omega, fun i hi => ?_⟩
  have ha : at? (.mk true [] ks) [(i : Int)] = some ks[i] := by
    simp [at?, Tr.list, Tr.kids, hi]
  obtain ⟨u, x, y, hu, _⟩ := encode_at [(i : Int)] _ _ s h ha
  unfold resEnc
  rw [hu, (encode_ok hu).2.1]

set_option maxHeartbeats 1000000 in
theorem lists_any (ks : List Tr) (A : Option Addr) (c : Nat) (w : World) (ha : Lies anyB w (.mk true [] ks) (.agg #[.bool true, .string ⟨#[]⟩, .slice A ks.length c])) (htab : TabB w.heap.size w) :
    Calls Tryd.prog 9 #[.slice A ks.length c] w (Yes w) := by
  obtain ⟨sa0, A0, ca0, h0, _, _, hka, hea⟩ := ha.later
  have hA0 : A0 = A ∧ ca0 = c := by
    simp [Tr.kids] at h0
    exact ⟨h0.2.2.1.symm, h0.2.2.2.symm⟩
  obtain ⟨rfl, rfl⟩ := hA0
  have HE := Lib.hid hea
  have HA := Lib.hid ha
  have HTB := Lib.hid htab
  have hbox := Lib.hid (Blk.new w 25 #[.bool true, .string ⟨#[]⟩, .slice A0 ks.length ca0])
  have HB0 := Lib.hid ((Below.refl w.heap.size w).alloc (Nat.le_refl _) (.cells #[.bool true, .string ⟨#[]⟩, .slice A0 ks.length ca0] 25))
  have hklen : ks.length ≤ 9223372036854775807 := by simp only [Tr.kids] at hka; unfold maxLen at hka; omega
  clear ha htab hea hka h0
  by_cases hk20 : 20 < ks.length
  · go_enter Tryd.func9, Tryd.ntmps9
    go_wp2_with fail
    refine (example_from HTB.out HB0.out).mono ?_
    rintro e wx ⟨rfl, hbx⟩
    go_wp2_with fail
    go_returns
    exact ⟨rfl, hbx⟩
  · have hsz := szN_small (.mk true [] ks) 10000
    have hszle := szN_le (.mk true [] ks) 10000
    generalize hq : szN (.mk true [] ks) 10000 = q at hsz hszle
    have HQ := Lib.hid hq
    clear hq
    by_cases hsm : size (.mk true [] ks) ≤ 10000
    · have hq1 : q ≤ 10000 := hsz.2 hsm
      rcases resEnc_cases (.mk true [] ks) with ⟨l, hre, hen⟩ | ⟨n, hre, hn, _⟩
      · have HRE := Lib.hid hre
        obtain ⟨hl, hll, hki⟩ := list_facts hen
        have HL := Lib.hid hl
        have HK := Lib.hid hki
        have HSK : Hid (∀ i (hi : i < ks.length), size ks[i] ≤ 10000) := fun i hi => Nat.le_trans (Nat.le_of_lt (size_kid (t := .mk true [] ks) (List.getElem_mem hi))) hsm
        clear hre hen hl hki hsz hsm
        go_enter Tryd.func9, Tryd.ntmps9
        go_wp2_with fail
        refine (size_any (.mk true [] ks) _ 10000 _ (HA.out.below HB0.out) (by omega)).mono ?_
        rw [HQ.out]
        rintro e w1 ⟨rfl, hb1⟩
        have HB1 := Lib.hid (HB0.out.trans (hb1.mono (by simp)))
        obtain ⟨⟨c0, c1, c2⟩, _⟩ := (hbox.out.below hb1 (by simp)).three
        clear hb1
        go_wp2_with fail
        refine (encode_any (.mk true [] ks) _ _ (HA.out.below HB1.out) (by have := (szN_small (.mk true [] ks) 10000).1 (by rw [HQ.out]; exact hq1); omega) ((HTB.out.on HB1.out).mono HB1.out.size)).mono ?_
        rw [HRE.out]
        rintro e w2 ⟨sb, rfl, hsb, hb2⟩
        have HB2 := Lib.hid (HB1.out.trans (hb2.mono HB1.out.size))
        have HSB := Lib.hid hsb
        clear hsb hb2
        go_wp2_with fail
        go_loopw [6, 32] (fun x i wr => ∃ (k : Nat) (tb : ByteArray), k ≤ ks.length ∧ i = .int .i64 k ∧ x = .string tb ∧ tb.data.toList = 40 :: encL (ks.take k) ∧ Below w.heap.size w wr) (fun _ i _ => ks.length - (intOf i).toNat)
        case atStart => exact ⟨0, ⟨#[40]⟩, Nat.zero_le _, rfl, rfl, by simp [encL], HB2.out⟩
        case round =>
          obtain ⟨k, tb, hk, rfl, rfl, htb, hB⟩ := hrel
          have HB3 := Lib.hid hB
          have htl := encL_take_le ks k
          have htbs : tb.size ≤ 20001 := by rw [Lib.size_eq, htb]; simp; omega
          have HTBL := Lib.hid htb
          clear htb hB
          by_cases hlt : k < ks.length
          · obtain ⟨ba, oa, a0, a1, a2, rfl, _, hba, ca0, ca1, ca2, hka'⟩ := HE.out wr (fun g _ hg => HB3.out.block g hg) k hlt
            obtain ⟨l0, s0, A1, n1, cc1, rfl, rfl, rfl⟩ := hka'.parts
            have HLA := Lib.hid (hka'.below ((Below.refl _ _).alloc (Nat.le_refl _) (.cells #[.bool l0, .string s0, .slice A1 n1 cc1] 25)))
            have HB4 := Lib.hid (HB3.out.alloc HB3.out.size (.cells #[.bool l0, .string s0, .slice A1 n1 cc1] 25))
            have hel := encL_take_le ks (k + 1)
            rw [encL_snoc hlt, List.length_append] at hel
            clear hka' HE
            go_wp2_with fail
            refine (encode_any ks[k] _ _ HLA.out (by have := HSK.out k hlt; omega) ((HTB.out.on HB4.out).mono HB4.out.size)).mono ?_
            rw [HK.out k hlt]
            rintro e w4 ⟨ub, rfl, hub, hb4⟩
            have HB5 := Lib.hid (HB4.out.trans (hb4.mono HB4.out.size))
            have HUB := Lib.hid hub
            have hubs : ub.size ≤ 20000 := by rw [Lib.size_eq, hub]; show (Pl.enc ks[k]).length ≤ 20000; omega
            clear hub hb4
            go_wp2_with fail
            go_roundw
            case rel => exact ⟨k + 1, tb ++ ub, by omega, by go_num, rfl, by simp [HTBL.out, HUB.out, encL_snoc hlt], HB5.out⟩
            case measure => simp [intOf]; omega
          · have hkk : ks.take k = ks := List.take_of_length_le (by omega)
            have heq : (sb.toList == (tb ++ ⟨#[41]⟩).toList) = true := by
              rw [Lib.toList_data, Lib.toList_data, HSB.out, HL.out]
              simp [HTBL.out, hkk]
            clear HE
            go_wp2_with fail
            refine (example_from HTB.out HB3.out).mono ?_
            rintro e wx ⟨rfl, hbx⟩
            go_wp2_with fail
            go_returns
            exact ⟨rfl, hbx⟩
      · have HRE := Lib.hid hre
        have hnb : (((n : Nat) : Int) != 0) = true := by simp; omega
        clear hre hsz
        go_enter Tryd.func9, Tryd.ntmps9
        go_wp2_with fail
        refine (size_any (.mk true [] ks) _ 10000 _ (HA.out.below HB0.out) (by omega)).mono ?_
        rw [HQ.out]
        rintro e w1 ⟨rfl, hb1⟩
        have HB1 := Lib.hid (HB0.out.trans (hb1.mono (by simp)))
        obtain ⟨⟨c0, c1, c2⟩, _⟩ := (hbox.out.below hb1 (by simp)).three
        clear hb1
        go_wp2_with fail
        refine (encode_any (.mk true [] ks) _ _ (HA.out.below HB1.out) (by omega) ((HTB.out.on HB1.out).mono HB1.out.size)).mono ?_
        rw [HRE.out]
        rintro e w2 ⟨sb, rfl, hsb, hb2⟩
        have HB2 := Lib.hid (HB1.out.trans (hb2.mono HB1.out.size))
        clear hsb hb2
        go_wp2_with fail
        refine (example_from HTB.out HB2.out).mono ?_
        rintro e wx ⟨rfl, hbx⟩
        go_wp2_with fail
        go_returns
        exact ⟨rfl, hbx⟩
    · have hq1 : 10000 < q := Nat.lt_of_not_le fun h => hsm (hsz.1 h)
      clear hsz hsm
      go_enter Tryd.func9, Tryd.ntmps9
      go_wp2_with fail
      refine (size_any (.mk true [] ks) _ 10000 _ (HA.out.below HB0.out) (by omega)).mono ?_
      rw [HQ.out]
      rintro e w1 ⟨rfl, hb1⟩
      have HB1 := Lib.hid (HB0.out.trans (hb1.mono (by simp)))
      clear hb1
      go_wp2_with fail
      refine (example_from HTB.out HB1.out).mono ?_
      rintro e wx ⟨rfl, hbx⟩
      go_wp2_with fail
      go_returns
      exact ⟨rfl, hbx⟩
end Go.Proofs.YtfpeplpoliileaaDoor
