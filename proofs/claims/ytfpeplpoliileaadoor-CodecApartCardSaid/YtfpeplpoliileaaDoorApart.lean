/- The walk of CodecApart: it returns true. -/
import Derived.Test.YtfpeplpoliileaaDoorUnique
namespace Go.Proofs.YtfpeplpoliileaaDoor
open Go.RowKit Pl

theorem alloc_size (w : World) (o : Obj) : (w.alloc o).heap.size = w.heap.size + 1 := by simp

theorem begins_iff {a b : Tr} {s t : List UInt8} (ha : Pl.encode a = .ok s) (hb : Pl.encode b = .ok t) (hl : s.length ≤ t.length) : (t.take s.length == s) = eqT a b := by
  by_cases hab : a = b
  · subst hab
    have : s = t := by rw [ha] at hb; cases hb; rfl
    subst this
    rw [eqT_true rfl]; simp
  · rw [eqT_false hab]
    simp only [beq_eq_false_iff_ne, ne_eq]
    intro h
    exact hab (apart ha hb (t.drop s.length) (by conv => lhs; rw [← List.take_append_drop s.length t, h]))
theorem longer_apart {a b : Tr} {s t : List UInt8} (ha : Pl.encode a = .ok s) (hb : Pl.encode b = .ok t) (hl : ¬ s.length ≤ t.length) : eqT a b = false := by
  refine eqT_false fun h => ?_
  subst h
  rw [ha] at hb; cases hb
  exact hl (Nat.le_refl _)
theorem encode_short' {t : Tr} {s : List UInt8} (h : Pl.encode t = .ok s) : s.length ≤ 20000 := (encode_ok h).2.2

set_option maxHeartbeats 400000 in
theorem apart_any (a b : Tr) (va vb : Value) (w : World) (ha : Lies anyB w a va) (hb : Lies anyB w b vb) (htab : TabB w.heap.size w) : Calls Tryd.prog 8 #[va, vb] w (Yes w) := by
  obtain ⟨al, sa, A, an, ca, rfl⟩ := lies_shape ha
  obtain ⟨bl, sb, B, bn, cb, rfl⟩ := lies_shape hb
  have HA := Lib.hid ha
  have HB := Lib.hid hb
  have HTB := Lib.hid htab
  have hbox := Lib.hid (Blk.new w 25 #[.bool al, .string sa, .slice A an ca])
  have HB0 := Lib.hid ((Below.refl w.heap.size w).alloc (Nat.le_refl _) (.cells #[.bool al, .string sa, .slice A an ca] 25))
  have hboxa := Lib.hid (hbox.out.alloc (.cells #[.bool bl, .string sb, .slice B bn cb] 25))
  have hboxb := Lib.hid (Blk.new (w.alloc (.cells #[.bool al, .string sa, .slice A an ca] 25)) 25 #[.bool bl, .string sb, .slice B bn cb])
  have HB1 := Lib.hid (HB0.out.alloc HB0.out.size (.cells #[.bool bl, .string sb, .slice B bn cb] 25))
  clear ha hb htab
  by_cases hsa : size a ≤ 21000
  · have HSA : Hid (decide (size a ≤ 21000) = true) := decide_eq_true hsa
    obtain ⟨⟨c0, c1, c2⟩, _⟩ := hboxa.out.three
    by_cases hsb : size b ≤ 21000
    · have HSB : Hid (decide (size b ≤ 21000) = true) := decide_eq_true hsb
      generalize hra : resEnc a = ra
      obtain ⟨la, na⟩ := ra
      generalize hrb : resEnc b = rb
      obtain ⟨lb, nb⟩ := rb
      have HRA := Lib.hid hra
      have HRB := Lib.hid hrb
      have hcase : (na ≠ 0) ∨ (na = 0 ∧ nb ≠ 0) ∨ (na = 0 ∧ nb = 0 ∧ Pl.encode a = .ok la ∧ Pl.encode b = .ok lb) := by
        rcases resEnc_cases a with ⟨s, h1, h2⟩ | ⟨n, h1, h2, _⟩
        · rcases resEnc_cases b with ⟨s', h1', h2'⟩ | ⟨n', h1', h2', _⟩
          · rw [hra] at h1; rw [hrb] at h1'; cases h1; cases h1'
            exact .inr (.inr ⟨rfl, rfl, h2, h2'⟩)
          · rw [hra] at h1; rw [hrb] at h1'; cases h1; cases h1'
            exact .inr (.inl ⟨rfl, h2'⟩)
        · rw [hra] at h1; cases h1
          exact .inl h2
      clear hra hrb
      rcases hcase with hn | ⟨rfl, hn⟩ | ⟨rfl, rfl, hea, heb⟩
      · have hnb : (((na : Nat) : Int) != 0) = true := by simp; omega
        go_enter Tryd.func8, Tryd.ntmps8
        go_wp2_with fail
        refine (small_any a _ _ (HA.out.below HB1.out)).mono ?_
        rw [HSA.out]
        rintro e w1 ⟨rfl, hb1⟩
        have HB2 := Lib.hid (HB1.out.trans (hb1.mono HB1.out.size))
        have hba1 := Lib.hid (hboxa.out.below hb1 hboxa.out.lt)
        have hbb1 := Lib.hid (hboxb.out.below hb1 hboxb.out.lt)
        obtain ⟨⟨d0, d1, d2⟩, _⟩ := hba1.out.three
        obtain ⟨⟨e0, e1, e2⟩, _⟩ := hbb1.out.three
        rw [alloc_size] at e0 e1 e2
        clear hb1
        go_wp2_with fail
        refine (small_any b _ _ (HB.out.below HB2.out)).mono ?_
        rw [HSB.out]
        rintro e w2 ⟨rfl, hb2⟩
        have HB3 := Lib.hid (HB2.out.trans (hb2.mono HB2.out.size))
        have hba2 := Lib.hid (hba1.out.below hb2 hba1.out.lt)
        have hbb2 := Lib.hid (hbb1.out.below hb2 hbb1.out.lt)
        obtain ⟨⟨f0, f1, f2⟩, _⟩ := hba2.out.three
        clear hb2
        go_wp2_with fail
        refine (encode_any a _ _ (HA.out.below HB3.out) (by omega) ((HTB.out.on HB3.out).mono HB3.out.size)).mono ?_
        rw [HRA.out]
        rintro e w3 ⟨x3, rfl, hx3, hb3⟩
        have HB4 := Lib.hid (HB3.out.trans (hb3.mono HB3.out.size))
        have hbb3 := Lib.hid (hbb2.out.below hb3 hbb2.out.lt)
        obtain ⟨⟨g0, g1, g2⟩, _⟩ := hbb3.out.three
        rw [alloc_size] at g0 g1 g2
        clear hb3
        go_wp2_with fail
        refine (encode_any b _ _ (HB.out.below HB4.out) (by omega) ((HTB.out.on HB4.out).mono HB4.out.size)).mono ?_
        rw [HRB.out]
        rintro e w4 ⟨x4, rfl, hx4, hb4⟩
        have HB5 := Lib.hid (HB4.out.trans (hb4.mono HB4.out.size))
        clear hb4
        go_wp2_with fail
        refine (example_from HTB.out HB5.out).mono ?_
        rintro e w5 ⟨rfl, hb5⟩
        go_wp2_with fail
        go_returns
        exact ⟨rfl, hb5⟩
      · have hnb : (((nb : Nat) : Int) != 0) = true := by simp; omega
        go_enter Tryd.func8, Tryd.ntmps8
        go_wp2_with fail
        refine (small_any a _ _ (HA.out.below HB1.out)).mono ?_
        rw [HSA.out]
        rintro e w1 ⟨rfl, hb1⟩
        have HB2 := Lib.hid (HB1.out.trans (hb1.mono HB1.out.size))
        have hba1 := Lib.hid (hboxa.out.below hb1 hboxa.out.lt)
        have hbb1 := Lib.hid (hboxb.out.below hb1 hboxb.out.lt)
        obtain ⟨⟨d0, d1, d2⟩, _⟩ := hba1.out.three
        obtain ⟨⟨e0, e1, e2⟩, _⟩ := hbb1.out.three
        rw [alloc_size] at e0 e1 e2
        clear hb1
        go_wp2_with fail
        refine (small_any b _ _ (HB.out.below HB2.out)).mono ?_
        rw [HSB.out]
        rintro e w2 ⟨rfl, hb2⟩
        have HB3 := Lib.hid (HB2.out.trans (hb2.mono HB2.out.size))
        have hba2 := Lib.hid (hba1.out.below hb2 hba1.out.lt)
        have hbb2 := Lib.hid (hbb1.out.below hb2 hbb1.out.lt)
        obtain ⟨⟨f0, f1, f2⟩, _⟩ := hba2.out.three
        clear hb2
        go_wp2_with fail
        refine (encode_any a _ _ (HA.out.below HB3.out) (by omega) ((HTB.out.on HB3.out).mono HB3.out.size)).mono ?_
        rw [HRA.out]
        rintro e w3 ⟨x3, rfl, hx3, hb3⟩
        have HB4 := Lib.hid (HB3.out.trans (hb3.mono HB3.out.size))
        have hbb3 := Lib.hid (hbb2.out.below hb3 hbb2.out.lt)
        obtain ⟨⟨g0, g1, g2⟩, _⟩ := hbb3.out.three
        rw [alloc_size] at g0 g1 g2
        clear hb3
        go_wp2_with fail
        refine (encode_any b _ _ (HB.out.below HB4.out) (by omega) ((HTB.out.on HB4.out).mono HB4.out.size)).mono ?_
        rw [HRB.out]
        rintro e w4 ⟨x4, rfl, hx4, hb4⟩
        have HB5 := Lib.hid (HB4.out.trans (hb4.mono HB4.out.size))
        clear hb4
        go_wp2_with fail
        refine (example_from HTB.out HB5.out).mono ?_
        rintro e w5 ⟨rfl, hb5⟩
        go_wp2_with fail
        go_returns
        exact ⟨rfl, hb5⟩
      · have hla := encode_short' hea
        have hlb := encode_short' heb
        by_cases hlen : la.length ≤ lb.length
        · have HBE := Lib.hid (begins_iff hea heb hlen)
          have heq : (eqT a b == eqT a b) = true := by simp
          clear hea heb
          go_enter Tryd.func8, Tryd.ntmps8
          go_wp2_with fail
          refine (small_any a _ _ (HA.out.below HB1.out)).mono ?_
          rw [HSA.out]
          rintro e w1 ⟨rfl, hb1⟩
          have HB2 := Lib.hid (HB1.out.trans (hb1.mono HB1.out.size))
          have hba1 := Lib.hid (hboxa.out.below hb1 hboxa.out.lt)
          have hbb1 := Lib.hid (hboxb.out.below hb1 hboxb.out.lt)
          obtain ⟨⟨d0, d1, d2⟩, _⟩ := hba1.out.three
          obtain ⟨⟨e0, e1, e2⟩, _⟩ := hbb1.out.three
          rw [alloc_size] at e0 e1 e2
          clear hb1
          go_wp2_with fail
          refine (small_any b _ _ (HB.out.below HB2.out)).mono ?_
          rw [HSB.out]
          rintro e w2 ⟨rfl, hb2⟩
          have HB3 := Lib.hid (HB2.out.trans (hb2.mono HB2.out.size))
          have hba2 := Lib.hid (hba1.out.below hb2 hba1.out.lt)
          have hbb2 := Lib.hid (hbb1.out.below hb2 hbb1.out.lt)
          obtain ⟨⟨f0, f1, f2⟩, _⟩ := hba2.out.three
          clear hb2
          go_wp2_with fail
          refine (encode_any a _ _ (HA.out.below HB3.out) (by omega) ((HTB.out.on HB3.out).mono HB3.out.size)).mono ?_
          rw [HRA.out]
          rintro e w3 ⟨x3, rfl, hx3, hb3⟩
          have HB4 := Lib.hid (HB3.out.trans (hb3.mono HB3.out.size))
          have hba3 := Lib.hid (hba2.out.below hb3 hba2.out.lt)
          have hbb3 := Lib.hid (hbb2.out.below hb3 hbb2.out.lt)
          obtain ⟨⟨g0, g1, g2⟩, _⟩ := hbb3.out.three
          rw [alloc_size] at g0 g1 g2
          clear hb3
          go_wp2_with fail
          refine (encode_any b _ _ (HB.out.below HB4.out) (by omega) ((HTB.out.on HB4.out).mono HB4.out.size)).mono ?_
          rw [HRB.out]
          rintro e w4 ⟨x4, rfl, hx4, hb4⟩
          have HB5 := Lib.hid (HB4.out.trans (hb4.mono HB4.out.size))
          obtain ⟨⟨h0, h1, h2⟩, _⟩ := (hba3.out.below hb4 hba3.out.lt).three
          obtain ⟨⟨i0, i1, i2⟩, _⟩ := (hbb3.out.below hb4 hbb3.out.lt).three
          rw [alloc_size] at i0 i1 i2
          have hz3 : x3.size = la.length := by rw [Lib.size_eq, hx3]
          have hz4 : x4.size = lb.length := by rw [Lib.size_eq, hx4]
          have hlen' : x3.size ≤ x4.size := by omega
          have hbe : ((x4.extract 0 x3.size).toList == x3.toList) = eqT a b := by
            rw [Lib.toList_data, Lib.toList_data, ← HBE.out]
            simp [hx3, hx4, hz3]
          have hx4s : x4.size ≤ 20000 := by omega
          clear hb4 hz3 hz4
          go_wp2_with fail
          refine (same_any a b _ _ _ (HA.out.below HB5.out) (HB.out.below HB5.out)).mono ?_
          rintro e w5 ⟨rfl, hb5⟩
          have HB6 := Lib.hid (HB5.out.trans (hb5.mono HB5.out.size))
          clear hb5
          go_wp2_with fail
          refine (example_from HTB.out HB6.out).mono ?_
          rintro e w6 ⟨rfl, hb6⟩
          go_wp2_with fail
          go_returns
          exact ⟨rfl, hb6⟩
        · have HBE := Lib.hid (longer_apart hea heb hlen)
          clear hea heb
          go_enter Tryd.func8, Tryd.ntmps8
          go_wp2_with fail
          refine (small_any a _ _ (HA.out.below HB1.out)).mono ?_
          rw [HSA.out]
          rintro e w1 ⟨rfl, hb1⟩
          have HB2 := Lib.hid (HB1.out.trans (hb1.mono HB1.out.size))
          have hba1 := Lib.hid (hboxa.out.below hb1 hboxa.out.lt)
          have hbb1 := Lib.hid (hboxb.out.below hb1 hboxb.out.lt)
          obtain ⟨⟨d0, d1, d2⟩, _⟩ := hba1.out.three
          obtain ⟨⟨e0, e1, e2⟩, _⟩ := hbb1.out.three
          rw [alloc_size] at e0 e1 e2
          clear hb1
          go_wp2_with fail
          refine (small_any b _ _ (HB.out.below HB2.out)).mono ?_
          rw [HSB.out]
          rintro e w2 ⟨rfl, hb2⟩
          have HB3 := Lib.hid (HB2.out.trans (hb2.mono HB2.out.size))
          have hba2 := Lib.hid (hba1.out.below hb2 hba1.out.lt)
          have hbb2 := Lib.hid (hbb1.out.below hb2 hbb1.out.lt)
          obtain ⟨⟨f0, f1, f2⟩, _⟩ := hba2.out.three
          clear hb2
          go_wp2_with fail
          refine (encode_any a _ _ (HA.out.below HB3.out) (by omega) ((HTB.out.on HB3.out).mono HB3.out.size)).mono ?_
          rw [HRA.out]
          rintro e w3 ⟨x3, rfl, hx3, hb3⟩
          have HB4 := Lib.hid (HB3.out.trans (hb3.mono HB3.out.size))
          have hba3 := Lib.hid (hba2.out.below hb3 hba2.out.lt)
          have hbb3 := Lib.hid (hbb2.out.below hb3 hbb2.out.lt)
          obtain ⟨⟨g0, g1, g2⟩, _⟩ := hbb3.out.three
          rw [alloc_size] at g0 g1 g2
          clear hb3
          go_wp2_with fail
          refine (encode_any b _ _ (HB.out.below HB4.out) (by omega) ((HTB.out.on HB4.out).mono HB4.out.size)).mono ?_
          rw [HRB.out]
          rintro e w4 ⟨x4, rfl, hx4, hb4⟩
          have HB5 := Lib.hid (HB4.out.trans (hb4.mono HB4.out.size))
          obtain ⟨⟨h0, h1, h2⟩, _⟩ := (hba3.out.below hb4 hba3.out.lt).three
          obtain ⟨⟨i0, i1, i2⟩, _⟩ := (hbb3.out.below hb4 hbb3.out.lt).three
          rw [alloc_size] at i0 i1 i2
          have hz3 : x3.size = la.length := by rw [Lib.size_eq, hx3]
          have hz4 : x4.size = lb.length := by rw [Lib.size_eq, hx4]
          have hlen' : ¬ x3.size ≤ x4.size := by omega
          clear hb4
          go_wp2_with fail
          refine (same_any a b _ _ _ (HA.out.below HB5.out) (HB.out.below HB5.out)).mono ?_
          rw [HBE.out]
          rintro e w5 ⟨rfl, hb5⟩
          have HB6 := Lib.hid (HB5.out.trans (hb5.mono HB5.out.size))
          clear hb5
          go_wp2_with fail
          refine (example_from HTB.out HB6.out).mono ?_
          rintro e w6 ⟨rfl, hb6⟩
          go_wp2_with fail
          go_returns
          exact ⟨rfl, hb6⟩
    · have HSB : Hid (decide (size b ≤ 21000) = false) := decide_eq_false hsb
      go_enter Tryd.func8, Tryd.ntmps8
      go_wp2_with fail
      refine (small_any a _ _ (HA.out.below HB1.out)).mono ?_
      rw [HSA.out]
      rintro e w1 ⟨rfl, hb1⟩
      have HB2 := Lib.hid (HB1.out.trans (hb1.mono HB1.out.size))
      have hbb1 := Lib.hid (hboxb.out.below hb1 hboxb.out.lt)
      obtain ⟨⟨e0, e1, e2⟩, _⟩ := hbb1.out.three
      rw [alloc_size] at e0 e1 e2
      clear hb1
      go_wp2_with fail
      refine (small_any b _ _ (HB.out.below HB2.out)).mono ?_
      rw [HSB.out]
      rintro e w2 ⟨rfl, hb2⟩
      have HB3 := Lib.hid (HB2.out.trans (hb2.mono HB2.out.size))
      clear hb2
      go_wp2_with fail
      refine (example_from HTB.out HB3.out).mono ?_
      rintro e w5 ⟨rfl, hb5⟩
      go_wp2_with fail
      go_returns
      exact ⟨rfl, hb5⟩
  · have HSA : Hid (decide (size a ≤ 21000) = false) := decide_eq_false hsa
    obtain ⟨⟨c0, c1, c2⟩, _⟩ := hboxa.out.three
    go_enter Tryd.func8, Tryd.ntmps8
    go_wp2_with fail
    refine (small_any a _ _ (HA.out.below HB1.out)).mono ?_
    rw [HSA.out]
    rintro e w1 ⟨rfl, hb1⟩
    have HB2 := Lib.hid (HB1.out.trans (hb1.mono HB1.out.size))
    clear hb1
    go_wp2_with fail
    refine (example_from HTB.out HB2.out).mono ?_
    rintro e w5 ⟨rfl, hb5⟩
    go_wp2_with fail
    go_returns
    exact ⟨rfl, hb5⟩
end Go.Proofs.YtfpeplpoliileaaDoor
