/- The walk of JournalPrefix: it returns true. -/
import Derived.Test.YtdbijjiolknbfaaDoorJFirst
namespace Go.Proofs.YtdbijjiolknbfaaDoor
open Go.RowKit Pl

/-- What Make returns for a short list: a refusal, or the journal. -/
theorem make_few {l : List ByteArray} {A : Option Addr} {c : Nat} {w : World} (hl : l.length ≤ 13) (hs : ∀ s ∈ l, s.size ≤ 250) (ha : Strs w A l) (ht : Tab w) :
    ((¬ ∀ e ∈ lb l, isEntry e = true) ∧ Calls Tryd.prog 22 #[.slice A l.length c] w (fun e w' => e = .returned (.tuple #[.string ⟨#[]⟩, .int .i64 2]) ∧ Below w.heap.size w w')) ∨
    ((∀ e ∈ lb l, isEntry e = true) ∧ (makeL 0 (lb l)).length ≤ 268 * l.length ∧ Calls Tryd.prog 22 #[.slice A l.length c] w (fun e w' => e = .returned (.tuple #[.string ⟨(makeL 0 (lb l)).toArray⟩, .int .i64 0]) ∧ Below w.heap.size w w')) := by
  have hlb : ∀ e ∈ lb l, e.length ≤ 250 := by
    intro e he
    obtain ⟨x, hx, rfl⟩ := List.mem_map.1 he
    rw [← Lib.size_eq]; exact hs x hx
  have hm := make_any l A c w (fun s h => Nat.le_trans (hs s h) (by omega)) ha ht
  rcases makeE_cases (lb l) 0 [] hlb (by rw [lb_length]; simp; omega) with ⟨h1, h2⟩ | ⟨h1, h2⟩
  · left
    rw [h1] at hm
    exact ⟨h2, hm⟩
  · right
    have h3 := makeL_le (lb l) 0 hlb
    rw [lb_length] at h3
    rw [h1, List.nil_append] at hm
    exact ⟨h2, h3, hm⟩

set_option maxRecDepth 100000 in
set_option maxHeartbeats 4000000 in
theorem jprefix_core (l : List ByteArray) (A : Option Addr) (c at_ : Nat) (w : World) (s t : ByteArray) (hat : at_ < 65536) (hss : s.size ≤ 20000) (ha : Strs w A l) (hlc : l.length ≤ c) (ht : Tab w)
    (n wh d er : Nat) (hte : s.extract 0 (min (at_ : Int) (s.size : Int)).toNat = t) (hn : n ≤ l.length) (hwh : wh ≤ t.size) (her : er = if wh = t.size then 0 else 4)
    (cf : Calls Tryd.prog 21 #[.slice A l.length c, .int .i64 (12 : Int)] w fun e w' => e = .returned (.bool true) ∧ w = w')
    (cm : Calls Tryd.prog 22 #[.slice A l.length c] w (fun e w' => e = .returned (.tuple #[.string s, .int .i64 0]) ∧ Below w.heap.size w w'))
    (ce : ∀ w', Calls Tryd.prog 41 #[.string t] w' fun e w'' => e = .returned (.tuple #[.int .i64 (wh : Int), .int .i64 (n : Int)]) ∧ w' = w'')
    (cr : ∀ w', Tab w' → Calls Tryd.prog 19 #[.string t] w' (RPost ⟨lb (l.take n), wh, d, er⟩ w')) :
    Calls Tryd.prog 16 #[.slice A l.length c, .int .u16 (at_ : Int)] w (Yes w) := by
  have HT := Lib.hid ht
  have HA := Lib.hid ha
  have CF := Lib.hid cf
  have CM := Lib.hid cm
  have CE := Lib.hid ce
  have CR := Lib.hid cr
  have HTE := Lib.hid hte
  have HER := Lib.hid her
  clear ht ha cf cm ce cr hte her
  go_enter Tryd.func16, Tryd.ntmps16
  go_wp2_with fail
  refine CF.out.mono ?_
  rintro e w1 ⟨rfl, rfl⟩
  go_wp2_with fail
  refine CM.out.mono ?_
  rintro e w1 ⟨rfl, hb1⟩
  have HB1 := Lib.hid hb1
  have T1 := Lib.hid (HT.out.on hb1)
  have HA1 := Lib.hid (HA.out.keep hb1)
  clear hb1 CM
  go_wp2_with fail
  rw [HTE.out]
  refine (CE.out _).mono ?_
  rintro e w2 ⟨rfl, rfl⟩
  go_wp2_with fail
  refine (CR.out _ T1.out).mono ?_
  rintro e w2 ⟨A2, k2, es2, rfl, hS2, hl2, _, hz2, hk2, hb2⟩
  obtain rfl : es2 = l.take n := lb_inj hl2
  have HB2 := Lib.hid (HB1.out.trans (hb2.mono HB1.out.size))
  have CS : Hid (Calls Tryd.prog 20 #[.slice A2 n k2, .slice A n c] w2 (Draw (.bool true) w2)) := by
    have h := same_any (l.take n) (l.take n) A2 A k2 c w2 hS2 ((HA1.out.keep hb2).take n)
    rw [decide_eq_true (by rfl), List.length_take, Nat.min_eq_left hn] at h
    exact h
  rw [List.length_take, Nat.min_eq_left hn]
  clear hS2 hl2 hb2 hz2 hk2 CE CR
  have hnl : ¬ (l.length : Int) < (n : Int) := by omega
  have hnc : (n : Int) ≤ (c : Int) := by omega
  go_wp2_with fail
  refine CS.out.mono ?_
  rintro e w3 ⟨rfl, m3, rfl⟩
  have HB3 := Lib.hid (HB2.out.trans ((below_drewN w2 m3).mono HB2.out.size))
  generalize w2.drewN m3 = W3 at *
  by_cases h0 : wh = t.size
  · have he0 : er = 0 := by rw [HER.out, if_pos h0]
    subst he0
    subst h0
    go_wp2_with fail
    refine (awake_from HT.out HB3.out).mono ?_
    rintro e w6 ⟨rfl, hb6⟩
    go_wp2_with fail
    go_returns
    exact ⟨rfl, hb6⟩
  · have he0 : er = 4 := by rw [HER.out, if_neg h0]
    subst he0
    have hnb : ((wh : Int) == (t.size : Int)) = false := by rw [beq_eq_false_iff_ne]; omega
    go_wp2_with fail
    refine (awake_from HT.out HB3.out).mono ?_
    rintro e w6 ⟨rfl, hb6⟩
    go_wp2_with fail
    go_returns
    exact ⟨rfl, hb6⟩

theorem nil_size : (⟨#[]⟩ : ByteArray).size = 0 := rfl
set_option maxRecDepth 100000 in
set_option maxHeartbeats 4000000 in
theorem jprefix_any (l : List ByteArray) (A : Option Addr) (c at_ : Nat) (w : World) (ha : Strs w A l ∧ (A = none → c = 0) ∧ l.length ≤ c) (hat : at_ < 65536) (ht : Tab w) : Calls Tryd.prog 16 #[.slice A l.length c, .int .u16 (at_ : Int)] w (Yes w) := by
  have CF := Lib.hid (few_any 12 (by omega) l A c w ha.1)
  cases hf : fewB 12 l
  · rw [hf] at CF
    have HT := Lib.hid ht
    clear ht ha hf
    go_enter Tryd.func16, Tryd.ntmps16
    go_wp2_with fail
    refine CF.out.mono ?_
    rintro e w1 ⟨rfl, rfl⟩
    go_wp2_with fail
    refine (awake_from HT.out (Below.refl _ _)).mono ?_
    rintro e w1 ⟨rfl, hb1⟩
    go_wp2_with fail
    go_returns
    exact ⟨rfl, hb1⟩
  · rw [hf] at CF
    obtain ⟨h12, h250⟩ := (fewB_iff 12 l).1 hf
    rcases make_few (c := c) (by omega) h250 ha.1 ht with ⟨_, hm⟩ | ⟨h1, h2, hm⟩
    · have HT := Lib.hid ht
      have CM := Lib.hid hm
      clear ht ha hf hm h12 h250
      go_enter Tryd.func16, Tryd.ntmps16
      go_wp2_with fail
      refine CF.out.mono ?_
      rintro e w1 ⟨rfl, rfl⟩
      go_wp2_with fail
      refine CM.out.mono ?_
      rintro e w1 ⟨rfl, hb1⟩
      have HB1 := Lib.hid hb1
      clear hb1
      go_wp2_with fail
      refine (awake_from HT.out HB1.out).mono ?_
      rintro e w2 ⟨rfl, hb2⟩
      go_wp2_with fail
      go_returns
      exact ⟨rfl, hb2⟩
    · obtain ⟨S, hS⟩ : ∃ S : ByteArray, S = ⟨(makeL 0 (lb l)).toArray⟩ := ⟨_, rfl⟩
      have hSd : S.data.toList = makeL 0 (lb l) := by rw [hS]
      have hSz : S.size = (makeL 0 (lb l)).length := by rw [Lib.size_eq, hSd]
      rw [← hS] at hm
      obtain ⟨K, hK⟩ : ∃ K, K = (min (at_ : Int) (S.size : Int)).toNat := ⟨_, rfl⟩
      obtain ⟨p1, p2, p3, p4⟩ := prefix_law h1 (by omega) K
      have htd : (S.extract 0 K).data.toList = (makeL 0 (lb l)).take K := by rw [ext_to, hSd]
      have htz : (S.extract 0 K).size = ((makeL 0 (lb l)).take K).length := by rw [Lib.size_eq, htd]
      have htz2 : ((makeL 0 (lb l)).take K).length ≤ 20000 := by rw [List.length_take]; omega
      have hwl : whole_ ((makeL 0 (lb l)).take K) ≤ ((makeL 0 (lb l)).take K).length := by unfold whole_; omega
      rw [lb_length] at p1
      refine jprefix_core l A c at_ w S (S.extract 0 K) hat (by omega) ha.1 ha.2.2 ht (feeds ((makeL 0 (lb l)).take K)) (whole_ ((makeL 0 (lb l)).take K)) (read ((makeL 0 (lb l)).take K)).last _ (by rw [hK]) p1 (by rw [htz]; exact hwl) (by rw [htz]) CF.out hm ?_ ?_
      · intro w'
        have h := ends_any (S.extract 0 K) (by omega) w'
        rw [htd] at h
        exact h
      · exact readj_at htd (res_ext (by rw [p2, lb_take]) p3 rfl p4) (by unfold maxLen; omega)
end Go.Proofs.YtdbijjiolknbfaaDoor
