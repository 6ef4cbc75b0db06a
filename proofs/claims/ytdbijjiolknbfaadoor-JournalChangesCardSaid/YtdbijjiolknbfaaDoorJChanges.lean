/- The walk of JournalChanges: it returns true. -/
import Derived.Test.YtdbijjiolknbfaaDoorJPrefix
import Derived.Test.YtdbijjiolknbfaaDoorNotices
import Derived.Deep.RegionWith
import Derived.IntWalk
namespace Go.Proofs.YtdbijjiolknbfaaDoor
open Go.RowKit Pl

set_option maxRecDepth 100000 in
set_option maxHeartbeats 4000000 in
theorem jchanges_core (l : List ByteArray) (A : Option Addr) (c i : Nat) (b : UInt8) (w : World) (s t u : ByteArray) (hat : i < 65536) (hss : s.size ≤ 20000) (ha : Strs w A l) (hlc : l.length ≤ c) (ht : Tab w)
    (n wh d er : Nat) (hi : i < s.size) (hsi : s[i] ≠ 10) (hb : b ≠ 10) (hsb : s[i] ≠ b) (hte : s.extract 0 i = t) (hue : (s.extract 0 i ++ ⟨#[b]⟩) ++ s.extract (i + 1) s.size = u) (hn : n ≤ l.length) (her : er = 2 ∨ er = 19)
    (cf : Calls Tryd.prog 21 #[.slice A l.length c, .int .i64 (12 : Int)] w fun e w' => e = .returned (.bool true) ∧ w = w')
    (cm : Calls Tryd.prog 22 #[.slice A l.length c] w (fun e w' => e = .returned (.tuple #[.string s, .int .i64 0]) ∧ Below w.heap.size w w'))
    (ce : ∀ w', Calls Tryd.prog 41 #[.string t] w' fun e w'' => e = .returned (.tuple #[.int .i64 (wh : Int), .int .i64 (n : Int)]) ∧ w' = w'')
    (cr : ∀ w', Tab w' → Calls Tryd.prog 19 #[.string u] w' (RPost ⟨lb (l.take n), wh, d, er⟩ w')) :
    Calls Tryd.prog 17 #[.slice A l.length c, .int .u16 (i : Int), .int .u8 (b.toNat : Int)] w (Yes w) := by
  have HT := Lib.hid ht
  have HA := Lib.hid ha
  have CF := Lib.hid cf
  have CM := Lib.hid cm
  have CE := Lib.hid ce
  have CR := Lib.hid cr
  have HTE := Lib.hid hte
  have HUE := Lib.hid hue
  have hby := b.toNat_lt
  have hsn := s[i].toNat_lt
  have f1 : ((s[i].toNat : Int) == 10) = false := by
    rw [beq_eq_false_iff_ne]; intro h; apply hsi; apply UInt8.toNat_inj.1; simpa using (by omega : s[i].toNat = 10)
  have f2 : ((b.toNat : Int) == 10) = false := by
    rw [beq_eq_false_iff_ne]; intro h; apply hb; apply UInt8.toNat_inj.1; simpa using (by omega : b.toNat = 10)
  have f3 : ((s[i].toNat : Int) == (b.toNat : Int)) = false := by
    rw [beq_eq_false_iff_ne]; intro h; apply hsb; apply UInt8.toNat_inj.1; omega
  have hii : ¬ (s.size : Int) ≤ (i : Int) := by omega
  have hii2 : (i : Int) < (s.size : Int) := by omega
  have hii3 : (i : Int) ≤ (s.size : Int) := by omega
  have hii4 : (i : Int) + 1 ≤ (s.size : Int) := by omega
  have hz1 : (s.extract 0 i).size ≤ 20000 := by rw [Lib.size_eq, ext_to]; have hl := Lib.size_eq s; simp; omega
  have hz2 : (s.extract (i + 1) s.size).size ≤ 20000 := by rw [Lib.size_eq, Lib.extract_data]; have hl := Lib.size_eq s; simp; omega
  clear ht ha cf cm ce cr hte hue hsi hb hsb
  go_enter Tryd.func17, Tryd.ntmps17
  go_wp2_with fail
  refine CF.out.mono ?_
  rintro e w1 ⟨rfl, rfl⟩
  go_wp2_with fail
  refine CM.out.mono ?_
  rintro e w1 ⟨rfl, hb1⟩
  have HB1 := Lib.hid hb1
  have T1 := Lib.hid (HT.out.on hb1)
  have HA1 := Lib.hid (HA.out.keep hb1)
  clear hb1 CM
  go_wp2_with fail
  rw [HTE.out]
  refine (CE.out _).mono ?_
  rintro e w2 ⟨rfl, rfl⟩
  have hcv : (convert 49 9 (.slice (some ⟨w1.heap.size, 0, none⟩) 1 1)).run Tryd.prog (w1.alloc (.cells #[.int .u8 (b.toNat : Int)] 5)).drew = .ok (.string ⟨#[b]⟩) (w1.alloc (.cells #[.int .u8 (b.toNat : Int)] 5)).drew := conv_one w1.drew b
  have CRU : Hid (∀ w', Below w1.heap.size w1 w' → Calls Tryd.prog 19 #[.string ((s.extract 0 i ++ ⟨#[b]⟩) ++ s.extract (i + 1) s.size)] w' (fun e w'' => ∃ A2 k2, e = .returned (.tuple #[.slice A2 n k2, .int .i64 (wh : Int), .int .i64 (er : Int)]) ∧ Strs w'' A2 (l.take n) ∧ Below w1.heap.size w1 w'')) := by
    intro w' hbw
    rw [HUE.out]
    refine (CR.out w' (T1.out.on hbw)).mono ?_
    rintro e w'' ⟨A2, k2, es2, rfl, hS2, hl2, _, _, _, hb2⟩
    obtain rfl : es2 = l.take n := lb_inj hl2
    rw [List.length_take, Nat.min_eq_left hn]
    exact ⟨A2, k2, rfl, hS2, hbw.trans (hb2.mono hbw.size)⟩
  have HBA := Lib.hid ((((Below.refl w1.heap.size w1).alloc (Nat.le_refl _) (.cells #[.int .u8 (b.toNat : Int)] 5))).drew)
  go_wp2_with fail
  clear CR CE CF HTE HUE T1
  go_cut [12, 13, 14] (fun s12 s13 s14 wc => ∃ A2 k2, s12 = .slice A2 n k2 ∧ s13 = .int .i64 (wh : Int) ∧ s14 = .int .i64 (er : Int) ∧ Strs wc A2 (l.take n) ∧ Below w1.heap.size w1 wc)
  case first =>
    have g2 : (0 : Int) ≤ (i : Int) + 1 := by omega
    have g3 : ((i : Int) + 1).toNat = i + 1 := by omega
    have g4 : ¬ (s.size : Int) < (i : Int) + 1 := by omega
    have g1 : IntKind.i64.wrap ((i : Int) + 1) = (i : Int) + 1 := IntWalk.i64_in _ (by omega)
    go_region_with (go_at_call 19; refine (CRU.out _ HBA.out).mono ?_; rintro e w2 ⟨A2, k2, rfl, hS2, hb2⟩)
    all_goals
      go_wp2_with fail
      go_meet
      case rel => exact ⟨A2, k2, rfl, rfl, rfl, hS2, hb2⟩
  case rest =>
    obtain ⟨A2, k2, rfl, rfl, rfl, hS2, hb2⟩ := hcut
    have HB2 := Lib.hid (HB1.out.trans (hb2.mono HB1.out.size))
    have CS : Hid (Calls Tryd.prog 20 #[.slice A2 n k2, .slice A n c] wc (Draw (.bool true) wc)) := by
      have h := same_any (l.take n) (l.take n) A2 A k2 c wc hS2 ((HA1.out.keep hb2).take n)
      rw [decide_eq_true (by rfl), List.length_take, Nat.min_eq_left hn] at h
      exact h
    clear hS2 hb2 hcv HBA CRU hz1 hz2 f1 f2 f3 hii hii2 hii3 hii4
    have hnl : (n : Int) ≤ (l.length : Int) := by omega
    have hnc : (n : Int) ≤ (c : Int) := by omega
    go_wp2_with fail
    refine CS.out.mono ?_
    rintro e w3 ⟨rfl, m3, rfl⟩
    have HB3 := Lib.hid (HB2.out.trans ((below_drewN wc m3).mono HB2.out.size))
    generalize wc.drewN m3 = W3 at *
    rcases her with rfl | rfl
    all_goals
      go_wp2_with fail
      refine (awake_from HT.out HB3.out).mono ?_
      rintro e w6 ⟨rfl, hb6⟩
      go_wp2_with fail
      go_returns
      exact ⟨rfl, hb6⟩

set_option maxRecDepth 100000 in
set_option maxHeartbeats 4000000 in
/-- The ways on which nothing was changed: awake is called. -/
theorem jchanges_idle (l : List ByteArray) (A : Option Addr) (c i : Nat) (b : UInt8) (w : World) (s : ByteArray) (er : Nat) (hat : i < 65536) (ht : Tab w)
    (h : er ≠ 0 ∨ er = 0 ∧ (s.size ≤ i ∨ ∃ hi : i < s.size, s[i] = 10 ∨ s[i] ≠ 10 ∧ (b = 10 ∨ b ≠ 10 ∧ s[i] = b)))
    (cf : Calls Tryd.prog 21 #[.slice A l.length c, .int .i64 (12 : Int)] w fun e w' => e = .returned (.bool true) ∧ w = w')
    (cm : Calls Tryd.prog 22 #[.slice A l.length c] w (fun e w' => e = .returned (.tuple #[.string s, .int .i64 (er : Int)]) ∧ Below w.heap.size w w')) :
    Calls Tryd.prog 17 #[.slice A l.length c, .int .u16 (i : Int), .int .u8 (b.toNat : Int)] w (Yes w) := by
  have HT := Lib.hid ht
  have CF := Lib.hid cf
  have CM := Lib.hid cm
  have hby := b.toNat_lt
  clear ht cf cm
  rcases h with h | ⟨rfl, h | ⟨hi, h | ⟨h1, h | ⟨h2, h⟩⟩⟩⟩
  · have f0 : ((er : Int) != 0) = true := by simp; omega
    go_enter Tryd.func17, Tryd.ntmps17
    go_wp2_with fail
    refine CF.out.mono ?_
    rintro e w1 ⟨rfl, rfl⟩
    go_wp2_with fail
    refine CM.out.mono ?_
    rintro e w1 ⟨rfl, hb1⟩
    have HB1 := Lib.hid hb1
    clear hb1 CM
    go_wp2_with fail
    refine (awake_from HT.out HB1.out).mono ?_
    rintro e w6 ⟨rfl, hb6⟩
    go_wp2_with fail
    go_returns
    exact ⟨rfl, hb6⟩
  · have f0 : (s.size : Int) ≤ (i : Int) := by omega
    go_enter Tryd.func17, Tryd.ntmps17
    go_wp2_with fail
    refine CF.out.mono ?_
    rintro e w1 ⟨rfl, rfl⟩
    go_wp2_with fail
    refine CM.out.mono ?_
    rintro e w1 ⟨rfl, hb1⟩
    have HB1 := Lib.hid hb1
    clear hb1 CM
    go_wp2_with fail
    refine (awake_from HT.out HB1.out).mono ?_
    rintro e w6 ⟨rfl, hb6⟩
    go_wp2_with fail
    go_returns
    exact ⟨rfl, hb6⟩
  · have f0 : ¬ (s.size : Int) ≤ (i : Int) := by omega
    have f1 : ((s[i].toNat : Int) == 10) = true := by rw [h]; rfl
    have hii2 : (i : Int) < (s.size : Int) := by omega
    have hsn := s[i].toNat_lt
    clear h
    go_enter Tryd.func17, Tryd.ntmps17
    go_wp2_with fail
    refine CF.out.mono ?_
    rintro e w1 ⟨rfl, rfl⟩
    go_wp2_with fail
    refine CM.out.mono ?_
    rintro e w1 ⟨rfl, hb1⟩
    have HB1 := Lib.hid hb1
    clear hb1 CM
    go_wp2_with fail
    refine (awake_from HT.out HB1.out).mono ?_
    rintro e w6 ⟨rfl, hb6⟩
    go_wp2_with fail
    go_returns
    exact ⟨rfl, hb6⟩
  · have f0 : ¬ (s.size : Int) ≤ (i : Int) := by omega
    have hsn := s[i].toNat_lt
    have f1 : ((s[i].toNat : Int) == 10) = false := by
      rw [beq_eq_false_iff_ne]; intro h; apply h1; apply UInt8.toNat_inj.1; simpa using (by omega : s[i].toNat = 10)
    have f2 : ((b.toNat : Int) == 10) = true := by rw [h]; rfl
    have hii2 : (i : Int) < (s.size : Int) := by omega
    clear h h1
    go_enter Tryd.func17, Tryd.ntmps17
    go_wp2_with fail
    refine CF.out.mono ?_
    rintro e w1 ⟨rfl, rfl⟩
    go_wp2_with fail
    refine CM.out.mono ?_
    rintro e w1 ⟨rfl, hb1⟩
    have HB1 := Lib.hid hb1
    clear hb1 CM
    go_wp2_with fail
    refine (awake_from HT.out HB1.out).mono ?_
    rintro e w6 ⟨rfl, hb6⟩
    go_wp2_with fail
    go_returns
    exact ⟨rfl, hb6⟩
  · have f0 : ¬ (s.size : Int) ≤ (i : Int) := by omega
    have hsn := s[i].toNat_lt
    have f1 : ((s[i].toNat : Int) == 10) = false := by
      rw [beq_eq_false_iff_ne]; intro h; apply h1; apply UInt8.toNat_inj.1; simpa using (by omega : s[i].toNat = 10)
    have f2 : ((b.toNat : Int) == 10) = false := by
      rw [beq_eq_false_iff_ne]; intro h; apply h2; apply UInt8.toNat_inj.1; simpa using (by omega : b.toNat = 10)
    have f3 : ((s[i].toNat : Int) == (b.toNat : Int)) = true := by rw [h]; simp
    have hii2 : (i : Int) < (s.size : Int) := by omega
    clear h h1 h2
    go_enter Tryd.func17, Tryd.ntmps17
    go_wp2_with fail
    refine CF.out.mono ?_
    rintro e w1 ⟨rfl, rfl⟩
    go_wp2_with fail
    refine CM.out.mono ?_
    rintro e w1 ⟨rfl, hb1⟩
    have HB1 := Lib.hid hb1
    clear hb1 CM
    go_wp2_with fail
    refine (awake_from HT.out HB1.out).mono ?_
    rintro e w6 ⟨rfl, hb6⟩
    go_wp2_with fail
    go_returns
    exact ⟨rfl, hb6⟩

set_option maxRecDepth 100000 in
set_option maxHeartbeats 4000000 in
theorem jchanges_any (l : List ByteArray) (A : Option Addr) (c i : Nat) (b : UInt8) (w : World) (ha : Strs w A l ∧ (A = none → c = 0) ∧ l.length ≤ c) (hat : i < 65536) (ht : Tab w) : Calls Tryd.prog 17 #[.slice A l.length c, .int .u16 (i : Int), .int .u8 (b.toNat : Int)] w (Yes w) := by
  have CF := Lib.hid (few_any 12 (by omega) l A c w ha.1)
  cases hf : fewB 12 l
  · rw [hf] at CF
    have HT := Lib.hid ht
    clear ht ha hf
    go_enter Tryd.func17, Tryd.ntmps17
    go_wp2_with fail
    refine CF.out.mono ?_
    rintro e w1 ⟨rfl, rfl⟩
    go_wp2_with fail
    refine (awake_from HT.out (Below.refl _ _)).mono ?_
    rintro e w1 ⟨rfl, hb1⟩
    go_wp2_with fail
    go_returns
    exact ⟨rfl, hb1⟩
  · rw [hf] at CF
    obtain ⟨h12, h250⟩ := (fewB_iff 12 l).1 hf
    rcases make_few (c := c) (by omega) h250 ha.1 ht with ⟨_, hm⟩ | ⟨h1, h2, hm⟩
    · exact jchanges_idle l A c i b w _ 2 hat ht (.inl (by omega)) CF.out hm
    · obtain ⟨S, hS⟩ : ∃ S : ByteArray, S = ⟨(makeL 0 (lb l)).toArray⟩ := ⟨_, rfl⟩
      have hSd : S.data.toList = makeL 0 (lb l) := by rw [hS]
      have hSz : S.size = (makeL 0 (lb l)).length := by rw [Lib.size_eq, hSd]
      rw [← hS] at hm
      by_cases g0 : S.size ≤ i
      · exact jchanges_idle l A c i b w S 0 hat ht (.inr ⟨rfl, .inl g0⟩) CF.out hm
      have hi : i < S.size := by omega
      by_cases g1 : S[i] = 10
      · exact jchanges_idle l A c i b w S 0 hat ht (.inr ⟨rfl, .inr ⟨hi, .inl g1⟩⟩) CF.out hm
      by_cases g2 : b = 10
      · exact jchanges_idle l A c i b w S 0 hat ht (.inr ⟨rfl, .inr ⟨hi, .inr ⟨g1, .inl g2⟩⟩⟩) CF.out hm
      by_cases g3 : S[i] = b
      · exact jchanges_idle l A c i b w S 0 hat ht (.inr ⟨rfl, .inr ⟨hi, .inr ⟨g1, .inr ⟨g2, g3⟩⟩⟩⟩) CF.out hm
      have hx : (makeL 0 (lb l))[i]? = some S[i] := by
        rw [← hSd, List.getElem?_eq_getElem (by rw [← Lib.size_eq]; exact hi)]; rfl
      obtain ⟨p1, p2, p3, p4⟩ := change_law h1 (by omega) hx g1 g2 g3
      have htd : (S.extract 0 i).data.toList = (makeL 0 (lb l)).take i := by rw [ext_to, hSd]
      have hud : ((S.extract 0 i ++ ⟨#[b]⟩) ++ S.extract (i + 1) S.size).data.toList = (makeL 0 (lb l)).take i ++ b :: (makeL 0 (lb l)).drop (i + 1) := by rw [repl_data, hSd]
      have htz : (S.extract 0 i).size ≤ 20000 := by rw [Lib.size_eq, htd, List.length_take]; omega
      have huz : ((S.extract 0 i ++ ⟨#[b]⟩) ++ S.extract (i + 1) S.size).size ≤ 20000 := by
        rw [Lib.size_eq, hud]; simp only [List.length_append, List.length_take, List.length_cons, List.length_drop]; omega
      rw [lb_length] at p1
      refine jchanges_core l A c i b w S (S.extract 0 i) ((S.extract 0 i ++ ⟨#[b]⟩) ++ S.extract (i + 1) S.size) hat (by omega) ha.1 ha.2.2 ht (feeds ((makeL 0 (lb l)).take i)) (whole_ ((makeL 0 (lb l)).take i)) (read ((makeL 0 (lb l)).take i ++ b :: (makeL 0 (lb l)).drop (i + 1))).last _ hi g1 g2 g3 rfl rfl p1 p4 CF.out hm ?_ ?_
      · intro w'
        have h := ends_any (S.extract 0 i) (by omega) w'
        rw [htd] at h
        exact h
      · exact readj_at hud (res_ext (by rw [p2, lb_take]) p3 rfl rfl) (by unfold maxLen; omega)
end Go.Proofs.YtdbijjiolknbfaaDoor
