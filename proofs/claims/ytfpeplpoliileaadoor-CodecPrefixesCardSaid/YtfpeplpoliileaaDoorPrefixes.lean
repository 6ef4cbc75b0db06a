/- The walk of CodecPrefixes: it returns true. -/
import Derived.Test.YtfpeplpoliileaaDoorUnique
namespace Go.Proofs.YtfpeplpoliileaaDoor
open Go.RowKit Pl

theorem resDec_cut {t : Tr} {s : List UInt8} (h : Pl.encode t = .ok s) {k : Nat} (hk : k < s.length) : resDec (s.take k) = (zeroT, 4) := by
  unfold resDec
  rw [decode_pre h (List.take_append_drop k s) (by intro h0; have := congrArg List.length h0; simp at this; omega)]
theorem resDec_behind {t : Tr} {s m : List UInt8} (h : Pl.encode t = .ok s) (hm : m ≠ []) (hl : s.length + m.length ≤ 20000) : resDec (s ++ m) = (zeroT, 2) := by
  unfold resDec; rw [decode_more h hm hl]

set_option maxHeartbeats 1000000 in
theorem prefixes_any (t : Tr) (v : Value) (z : Int) (m : ByteArray) (w : World) (ha : Lies anyB w t v) (hz : -9223372036854775808 ≤ z ∧ z ≤ 9223372036854775807) (hm : m.size ≤ maxLen) (htab : TabB w.heap.size w) :
    Calls Tryd.prog 7 #[v, .int .i64 z, .string m] w (Yes w) := by
  obtain ⟨tl, sa, A, tn, ca, rfl⟩ := lies_shape ha
  have HA := Lib.hid ha
  have HTB := Lib.hid htab
  have hbox := Lib.hid (Blk.new w 25 #[.bool tl, .string sa, .slice A tn ca])
  have HB0 := Lib.hid ((Below.refl w.heap.size w).alloc (Nat.le_refl _) (.cells #[.bool tl, .string sa, .slice A tn ca] 25))
  clear ha htab
  unfold maxLen at hm
  by_cases hsm : size t ≤ 21000
  · have HSM : Hid (decide (size t ≤ 21000) = true) := decide_eq_true hsm
    by_cases hml : 100 < m.size
    · skip
      go_enter Tryd.func7, Tryd.ntmps7
      go_wp2_with fail
      refine (small_any t _ _ (HA.out.below HB0.out)).mono ?_
      rw [HSM.out]
      rintro e w1 ⟨rfl, hb1⟩
      have HB1 := Lib.hid (HB0.out.trans (hb1.mono (by simp)))
      clear hb1
      go_wp2_with fail
      refine (example_from HTB.out HB1.out).mono ?_
      rintro e wx ⟨rfl, hbx⟩
      go_wp2_with fail
      go_returns
      exact ⟨rfl, hbx⟩
    · rcases resEnc_cases t with ⟨l, hre, hen⟩ | ⟨n, hre, hn, _⟩
      · have HRE := Lib.hid hre
        have hll : l.length ≤ 20000 := (encode_ok hen).2.2
        have HCUT : Hid (∀ k, k < l.length → resDec (l.take k) = (zeroT, 4)) := fun k hk => resDec_cut hen hk
        have HMORE : Hid (m.data.toList ≠ [] → l.length + m.data.toList.length ≤ 20000 → resDec (l ++ m.data.toList) = (zeroT, 2)) := fun h1 h2 => resDec_behind hen h1 h2
        clear hre hen
        by_cases hz0 : z < 0
        · by_cases hm0 : m.data.toList = []
          · skip
            have hmt : (m.toList == ([] : List UInt8)) = true := by rw [Lib.toList_data, hm0]; rfl
            have hmt2 : m.toList = [] := by rw [Lib.toList_data, hm0]
            have hmt3 : m.toList.isEmpty = true := by rw [hmt2]; rfl
            go_enter Tryd.func7, Tryd.ntmps7
            go_wp2_with fail
            refine (small_any t _ _ (HA.out.below HB0.out)).mono ?_
            rw [HSM.out]
            rintro e w1 ⟨rfl, hb1⟩
            have HB1 := Lib.hid (HB0.out.trans (hb1.mono (by simp)))
            obtain ⟨⟨c0, c1, c2⟩, _⟩ := (hbox.out.below hb1 (by simp)).three
            clear hb1
            go_wp2_with fail
            refine (encode_any t _ _ (HA.out.below HB1.out) (by omega) ((HTB.out.on HB1.out).mono HB1.out.size)).mono ?_
            rw [HRE.out]
            rintro e w2 ⟨sb, rfl, hsb, hb2⟩
            have HB2 := Lib.hid (HB1.out.trans (hb2.mono HB1.out.size))
            have HSB := Lib.hid hsb
            have hsz : sb.size = l.length := by rw [Lib.size_eq, hsb]
            have hsbs : sb.size ≤ 20000 := by omega
            clear hsb hb2
            go_wp2_with fail
            refine (example_from HTB.out HB2.out).mono ?_
            rintro e wx ⟨rfl, hbx⟩
            go_wp2_with fail
            go_returns
            exact ⟨rfl, hbx⟩
          · have hmne : m.data.toList ≠ [] := hm0
            by_cases hlong : 20000 < l.length + m.size
            · skip
              have hmt : (m.toList == ([] : List UInt8)) = false := by rw [Lib.toList_data]; exact beq_eq_false_iff_ne.2 hmne
              have hmt2 : m.toList ≠ [] := by rw [Lib.toList_data]; exact hmne
              have hmt3 : m.toList.isEmpty = false := by rw [Lib.toList_data]; simpa using hmne
              go_enter Tryd.func7, Tryd.ntmps7
              go_wp2_with fail
              refine (small_any t _ _ (HA.out.below HB0.out)).mono ?_
              rw [HSM.out]
              rintro e w1 ⟨rfl, hb1⟩
              have HB1 := Lib.hid (HB0.out.trans (hb1.mono (by simp)))
              obtain ⟨⟨c0, c1, c2⟩, _⟩ := (hbox.out.below hb1 (by simp)).three
              clear hb1
              go_wp2_with fail
              refine (encode_any t _ _ (HA.out.below HB1.out) (by omega) ((HTB.out.on HB1.out).mono HB1.out.size)).mono ?_
              rw [HRE.out]
              rintro e w2 ⟨sb, rfl, hsb, hb2⟩
              have HB2 := Lib.hid (HB1.out.trans (hb2.mono HB1.out.size))
              have HSB := Lib.hid hsb
              have hsz : sb.size = l.length := by rw [Lib.size_eq, hsb]
              have hsum : 20000 < sb.size + m.size := by omega
              have hsbs : sb.size ≤ 20000 := by omega
              clear hsb hb2
              go_wp2_with fail
              refine (example_from HTB.out HB2.out).mono ?_
              rintro e wx ⟨rfl, hbx⟩
              go_wp2_with fail
              go_returns
              exact ⟨rfl, hbx⟩
            · skip
              have hmt : (m.toList == ([] : List UInt8)) = false := by rw [Lib.toList_data]; exact beq_eq_false_iff_ne.2 hmne
              have hmt2 : m.toList ≠ [] := by rw [Lib.toList_data]; exact hmne
              have hmt3 : m.toList.isEmpty = false := by rw [Lib.toList_data]; simpa using hmne
              go_enter Tryd.func7, Tryd.ntmps7
              go_wp2_with fail
              refine (small_any t _ _ (HA.out.below HB0.out)).mono ?_
              rw [HSM.out]
              rintro e w1 ⟨rfl, hb1⟩
              have HB1 := Lib.hid (HB0.out.trans (hb1.mono (by simp)))
              obtain ⟨⟨c0, c1, c2⟩, _⟩ := (hbox.out.below hb1 (by simp)).three
              clear hb1
              go_wp2_with fail
              refine (encode_any t _ _ (HA.out.below HB1.out) (by omega) ((HTB.out.on HB1.out).mono HB1.out.size)).mono ?_
              rw [HRE.out]
              rintro e w2 ⟨sb, rfl, hsb, hb2⟩
              have HB2 := Lib.hid (HB1.out.trans (hb2.mono HB1.out.size))
              have HSB := Lib.hid hsb
              have hsz : sb.size = l.length := by rw [Lib.size_eq, hsb]
              have hsum : sb.size + m.size ≤ 20000 := by omega
              have hsbs : sb.size ≤ 20000 := by omega
              clear hsb hb2
              go_wp2_with fail
              refine (decode_any (sb ++ m) _ (by unfold maxLen; rw [ByteArray.size_append]; omega)).mono ?_
              rw [show (sb ++ m).data.toList = l ++ m.data.toList by simp [HSB.out], HMORE.out hmne (by rw [← Lib.size_eq]; omega)]
              rintro e w4 ⟨v4, rfl, hL4, hb4⟩
              obtain ⟨l4, s4, A4, n4, c4, rfl⟩ := lies_shape hL4
              have HB5 := Lib.hid (((HB2).out.trans (hb4.mono (HB2).out.size)).alloc ((HB2).out.trans (hb4.mono (HB2).out.size)).size (.cells #[.bool l4, .string s4, .slice A4 n4 c4] 25))
              clear hL4 hb4
              go_wp2_with fail
              refine (example_from HTB.out HB5.out).mono ?_
              rintro e wx ⟨rfl, hbx⟩
              go_wp2_with fail
              go_returns
              exact ⟨rfl, hbx⟩
        · by_cases hzl : (l.length : Int) ≤ z
          · by_cases hm0 : m.data.toList = []
            · skip
              have hmt : (m.toList == ([] : List UInt8)) = true := by rw [Lib.toList_data, hm0]; rfl
              have hmt2 : m.toList = [] := by rw [Lib.toList_data, hm0]
              have hmt3 : m.toList.isEmpty = true := by rw [hmt2]; rfl
              go_enter Tryd.func7, Tryd.ntmps7
              go_wp2_with fail
              refine (small_any t _ _ (HA.out.below HB0.out)).mono ?_
              rw [HSM.out]
              rintro e w1 ⟨rfl, hb1⟩
              have HB1 := Lib.hid (HB0.out.trans (hb1.mono (by simp)))
              obtain ⟨⟨c0, c1, c2⟩, _⟩ := (hbox.out.below hb1 (by simp)).three
              clear hb1
              go_wp2_with fail
              refine (encode_any t _ _ (HA.out.below HB1.out) (by omega) ((HTB.out.on HB1.out).mono HB1.out.size)).mono ?_
              rw [HRE.out]
              rintro e w2 ⟨sb, rfl, hsb, hb2⟩
              have HB2 := Lib.hid (HB1.out.trans (hb2.mono HB1.out.size))
              have HSB := Lib.hid hsb
              have hsz : sb.size = l.length := by rw [Lib.size_eq, hsb]
              have hsbs : sb.size ≤ 20000 := by omega
              have hzs : ¬ z < (sb.size : Int) := by omega
              clear hsb hb2
              go_wp2_with fail
              refine (example_from HTB.out HB2.out).mono ?_
              rintro e wx ⟨rfl, hbx⟩
              go_wp2_with fail
              go_returns
              exact ⟨rfl, hbx⟩
            · have hmne : m.data.toList ≠ [] := hm0
              by_cases hlong : 20000 < l.length + m.size
              · skip
                have hmt : (m.toList == ([] : List UInt8)) = false := by rw [Lib.toList_data]; exact beq_eq_false_iff_ne.2 hmne
                have hmt2 : m.toList ≠ [] := by rw [Lib.toList_data]; exact hmne
                have hmt3 : m.toList.isEmpty = false := by rw [Lib.toList_data]; simpa using hmne
                go_enter Tryd.func7, Tryd.ntmps7
                go_wp2_with fail
                refine (small_any t _ _ (HA.out.below HB0.out)).mono ?_
                rw [HSM.out]
                rintro e w1 ⟨rfl, hb1⟩
                have HB1 := Lib.hid (HB0.out.trans (hb1.mono (by simp)))
                obtain ⟨⟨c0, c1, c2⟩, _⟩ := (hbox.out.below hb1 (by simp)).three
                clear hb1
                go_wp2_with fail
                refine (encode_any t _ _ (HA.out.below HB1.out) (by omega) ((HTB.out.on HB1.out).mono HB1.out.size)).mono ?_
                rw [HRE.out]
                rintro e w2 ⟨sb, rfl, hsb, hb2⟩
                have HB2 := Lib.hid (HB1.out.trans (hb2.mono HB1.out.size))
                have HSB := Lib.hid hsb
                have hsz : sb.size = l.length := by rw [Lib.size_eq, hsb]
                have hsum : 20000 < sb.size + m.size := by omega
                have hsbs : sb.size ≤ 20000 := by omega
                have hzs : ¬ z < (sb.size : Int) := by omega
                clear hsb hb2
                go_wp2_with fail
                refine (example_from HTB.out HB2.out).mono ?_
                rintro e wx ⟨rfl, hbx⟩
                go_wp2_with fail
                go_returns
                exact ⟨rfl, hbx⟩
              · skip
                have hmt : (m.toList == ([] : List UInt8)) = false := by rw [Lib.toList_data]; exact beq_eq_false_iff_ne.2 hmne
                have hmt2 : m.toList ≠ [] := by rw [Lib.toList_data]; exact hmne
                have hmt3 : m.toList.isEmpty = false := by rw [Lib.toList_data]; simpa using hmne
                go_enter Tryd.func7, Tryd.ntmps7
                go_wp2_with fail
                refine (small_any t _ _ (HA.out.below HB0.out)).mono ?_
                rw [HSM.out]
                rintro e w1 ⟨rfl, hb1⟩
                have HB1 := Lib.hid (HB0.out.trans (hb1.mono (by simp)))
                obtain ⟨⟨c0, c1, c2⟩, _⟩ := (hbox.out.below hb1 (by simp)).three
                clear hb1
                go_wp2_with fail
                refine (encode_any t _ _ (HA.out.below HB1.out) (by omega) ((HTB.out.on HB1.out).mono HB1.out.size)).mono ?_
                rw [HRE.out]
                rintro e w2 ⟨sb, rfl, hsb, hb2⟩
                have HB2 := Lib.hid (HB1.out.trans (hb2.mono HB1.out.size))
                have HSB := Lib.hid hsb
                have hsz : sb.size = l.length := by rw [Lib.size_eq, hsb]
                have hsum : sb.size + m.size ≤ 20000 := by omega
                have hsbs : sb.size ≤ 20000 := by omega
                have hzs : ¬ z < (sb.size : Int) := by omega
                clear hsb hb2
                go_wp2_with fail
                refine (decode_any (sb ++ m) _ (by unfold maxLen; rw [ByteArray.size_append]; omega)).mono ?_
                rw [show (sb ++ m).data.toList = l ++ m.data.toList by simp [HSB.out], HMORE.out hmne (by rw [← Lib.size_eq]; omega)]
                rintro e w4 ⟨v4, rfl, hL4, hb4⟩
                obtain ⟨l4, s4, A4, n4, c4, rfl⟩ := lies_shape hL4
                have HB5 := Lib.hid (((HB2).out.trans (hb4.mono (HB2).out.size)).alloc ((HB2).out.trans (hb4.mono (HB2).out.size)).size (.cells #[.bool l4, .string s4, .slice A4 n4 c4] 25))
                clear hL4 hb4
                go_wp2_with fail
                refine (example_from HTB.out HB5.out).mono ?_
                rintro e wx ⟨rfl, hbx⟩
                go_wp2_with fail
                go_returns
                exact ⟨rfl, hbx⟩
          · by_cases hm0 : m.data.toList = []
            · skip
              have hmt : (m.toList == ([] : List UInt8)) = true := by rw [Lib.toList_data, hm0]; rfl
              have hmt2 : m.toList = [] := by rw [Lib.toList_data, hm0]
              have hmt3 : m.toList.isEmpty = true := by rw [hmt2]; rfl
              go_enter Tryd.func7, Tryd.ntmps7
              go_wp2_with fail
              refine (small_any t _ _ (HA.out.below HB0.out)).mono ?_
              rw [HSM.out]
              rintro e w1 ⟨rfl, hb1⟩
              have HB1 := Lib.hid (HB0.out.trans (hb1.mono (by simp)))
              obtain ⟨⟨c0, c1, c2⟩, _⟩ := (hbox.out.below hb1 (by simp)).three
              clear hb1
              go_wp2_with fail
              refine (encode_any t _ _ (HA.out.below HB1.out) (by omega) ((HTB.out.on HB1.out).mono HB1.out.size)).mono ?_
              rw [HRE.out]
              rintro e w2 ⟨sb, rfl, hsb, hb2⟩
              have HB2 := Lib.hid (HB1.out.trans (hb2.mono HB1.out.size))
              have HSB := Lib.hid hsb
              have hsz : sb.size = l.length := by rw [Lib.size_eq, hsb]
              have hsbs : sb.size ≤ 20000 := by omega
              clear hb2
              have hzs : z < (sb.size : Int) := by rw [Lib.size_eq, hsb]; omega
              go_wp2_with fail
              refine (decode_any (sb.extract 0 z.toNat) _ (by unfold maxLen; simp; omega)).mono ?_
              rw [show (sb.extract 0 z.toNat).data.toList = l.take z.toNat by simp [hsb], HCUT.out z.toNat (by omega)]
              rintro e w3 ⟨v3, rfl, hL3, hb3⟩
              obtain ⟨l3, s3, A3, n3, c3, rfl⟩ := lies_shape hL3
              have HB3 := Lib.hid ((HB2.out.trans (hb3.mono HB2.out.size)).alloc (HB2.out.trans (hb3.mono HB2.out.size)).size (.cells #[.bool l3, .string s3, .slice A3 n3 c3] 25))
              clear hL3 hb3
              go_wp2_with fail
              refine (example_from HTB.out HB3.out).mono ?_
              rintro e wx ⟨rfl, hbx⟩
              go_wp2_with fail
              go_returns
              exact ⟨rfl, hbx⟩
            · have hmne : m.data.toList ≠ [] := hm0
              by_cases hlong : 20000 < l.length + m.size
              · skip
                have hmt : (m.toList == ([] : List UInt8)) = false := by rw [Lib.toList_data]; exact beq_eq_false_iff_ne.2 hmne
                have hmt2 : m.toList ≠ [] := by rw [Lib.toList_data]; exact hmne
                have hmt3 : m.toList.isEmpty = false := by rw [Lib.toList_data]; simpa using hmne
                go_enter Tryd.func7, Tryd.ntmps7
                go_wp2_with fail
                refine (small_any t _ _ (HA.out.below HB0.out)).mono ?_
                rw [HSM.out]
                rintro e w1 ⟨rfl, hb1⟩
                have HB1 := Lib.hid (HB0.out.trans (hb1.mono (by simp)))
                obtain ⟨⟨c0, c1, c2⟩, _⟩ := (hbox.out.below hb1 (by simp)).three
                clear hb1
                go_wp2_with fail
                refine (encode_any t _ _ (HA.out.below HB1.out) (by omega) ((HTB.out.on HB1.out).mono HB1.out.size)).mono ?_
                rw [HRE.out]
                rintro e w2 ⟨sb, rfl, hsb, hb2⟩
                have HB2 := Lib.hid (HB1.out.trans (hb2.mono HB1.out.size))
                have HSB := Lib.hid hsb
                have hsz : sb.size = l.length := by rw [Lib.size_eq, hsb]
                have hsum : 20000 < sb.size + m.size := by omega
                have hsbs : sb.size ≤ 20000 := by omega
                clear hb2
                have hzs : z < (sb.size : Int) := by rw [Lib.size_eq, hsb]; omega
                go_wp2_with fail
                refine (decode_any (sb.extract 0 z.toNat) _ (by unfold maxLen; simp; omega)).mono ?_
                rw [show (sb.extract 0 z.toNat).data.toList = l.take z.toNat by simp [hsb], HCUT.out z.toNat (by omega)]
                rintro e w3 ⟨v3, rfl, hL3, hb3⟩
                obtain ⟨l3, s3, A3, n3, c3, rfl⟩ := lies_shape hL3
                have HB3 := Lib.hid ((HB2.out.trans (hb3.mono HB2.out.size)).alloc (HB2.out.trans (hb3.mono HB2.out.size)).size (.cells #[.bool l3, .string s3, .slice A3 n3 c3] 25))
                clear hL3 hb3
                go_wp2_with fail
                refine (example_from HTB.out HB3.out).mono ?_
                rintro e wx ⟨rfl, hbx⟩
                go_wp2_with fail
                go_returns
                exact ⟨rfl, hbx⟩
              · skip
                have hmt : (m.toList == ([] : List UInt8)) = false := by rw [Lib.toList_data]; exact beq_eq_false_iff_ne.2 hmne
                have hmt2 : m.toList ≠ [] := by rw [Lib.toList_data]; exact hmne
                have hmt3 : m.toList.isEmpty = false := by rw [Lib.toList_data]; simpa using hmne
                go_enter Tryd.func7, Tryd.ntmps7
                go_wp2_with fail
                refine (small_any t _ _ (HA.out.below HB0.out)).mono ?_
                rw [HSM.out]
                rintro e w1 ⟨rfl, hb1⟩
                have HB1 := Lib.hid (HB0.out.trans (hb1.mono (by simp)))
                obtain ⟨⟨c0, c1, c2⟩, _⟩ := (hbox.out.below hb1 (by simp)).three
                clear hb1
                go_wp2_with fail
                refine (encode_any t _ _ (HA.out.below HB1.out) (by omega) ((HTB.out.on HB1.out).mono HB1.out.size)).mono ?_
                rw [HRE.out]
                rintro e w2 ⟨sb, rfl, hsb, hb2⟩
                have HB2 := Lib.hid (HB1.out.trans (hb2.mono HB1.out.size))
                have HSB := Lib.hid hsb
                have hsz : sb.size = l.length := by rw [Lib.size_eq, hsb]
                have hsum : sb.size + m.size ≤ 20000 := by omega
                have hsbs : sb.size ≤ 20000 := by omega
                clear hb2
                have hzs : z < (sb.size : Int) := by rw [Lib.size_eq, hsb]; omega
                go_wp2_with fail
                refine (decode_any (sb.extract 0 z.toNat) _ (by unfold maxLen; simp; omega)).mono ?_
                rw [show (sb.extract 0 z.toNat).data.toList = l.take z.toNat by simp [hsb], HCUT.out z.toNat (by omega)]
                rintro e w3 ⟨v3, rfl, hL3, hb3⟩
                obtain ⟨l3, s3, A3, n3, c3, rfl⟩ := lies_shape hL3
                have HB3 := Lib.hid ((HB2.out.trans (hb3.mono HB2.out.size)).alloc (HB2.out.trans (hb3.mono HB2.out.size)).size (.cells #[.bool l3, .string s3, .slice A3 n3 c3] 25))
                clear hL3 hb3
                go_wp2_with fail
                refine (decode_any (sb ++ m) _ (by unfold maxLen; rw [ByteArray.size_append]; omega)).mono ?_
                rw [show (sb ++ m).data.toList = l ++ m.data.toList by simp [HSB.out], HMORE.out hmne (by rw [← Lib.size_eq]; omega)]
                rintro e w4 ⟨v4, rfl, hL4, hb4⟩
                obtain ⟨l4, s4, A4, n4, c4, rfl⟩ := lies_shape hL4
                have HB5 := Lib.hid (((HB3).out.trans (hb4.mono (HB3).out.size)).alloc ((HB3).out.trans (hb4.mono (HB3).out.size)).size (.cells #[.bool l4, .string s4, .slice A4 n4 c4] 25))
                clear hL4 hb4
                go_wp2_with fail
                refine (example_from HTB.out HB5.out).mono ?_
                rintro e wx ⟨rfl, hbx⟩
                go_wp2_with fail
                go_returns
                exact ⟨rfl, hbx⟩
      · have HRE := Lib.hid hre
        have hnb : (((n : Nat) : Int) != 0) = true := by simp; omega
        clear hre
        go_enter Tryd.func7, Tryd.ntmps7
        go_wp2_with fail
        refine (small_any t _ _ (HA.out.below HB0.out)).mono ?_
        rw [HSM.out]
        rintro e w1 ⟨rfl, hb1⟩
        have HB1 := Lib.hid (HB0.out.trans (hb1.mono (by simp)))
        obtain ⟨⟨c0, c1, c2⟩, _⟩ := (hbox.out.below hb1 (by simp)).three
        clear hb1
        go_wp2_with fail
        refine (encode_any t _ _ (HA.out.below HB1.out) (by omega) ((HTB.out.on HB1.out).mono HB1.out.size)).mono ?_
        rw [HRE.out]
        rintro e w2 ⟨sb, rfl, hsb, hb2⟩
        have HB2 := Lib.hid (HB1.out.trans (hb2.mono HB1.out.size))
        have HSB := Lib.hid hsb
        clear hsb hb2
        go_wp2_with fail
        refine (example_from HTB.out HB2.out).mono ?_
        rintro e wx ⟨rfl, hbx⟩
        go_wp2_with fail
        go_returns
        exact ⟨rfl, hbx⟩
  · have HSM : Hid (decide (size t ≤ 21000) = false) := decide_eq_false hsm
    go_enter Tryd.func7, Tryd.ntmps7
    go_wp2_with fail
    refine (small_any t _ _ (HA.out.below HB0.out)).mono ?_
    rw [HSM.out]
    rintro e w1 ⟨rfl, hb1⟩
    have HB1 := Lib.hid (HB0.out.trans (hb1.mono (by simp)))
    clear hb1
    go_wp2_with fail
    refine (example_from HTB.out HB1.out).mono ?_
    rintro e wx ⟨rfl, hbx⟩
    go_wp2_with fail
    go_returns
    exact ⟨rfl, hbx⟩
end Go.Proofs.YtfpeplpoliileaaDoor
