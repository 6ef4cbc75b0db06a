/- The walks of Of, Join, Chain, and of the reference's add, mul, power, Of, Join, Chain. -/
import Derived.Test.YtdbijjiolknbfaaDoorMul
namespace Go.Proofs.YtdbijjiolknbfaaDoor
open Go.RowKit Pl

/-- The world but for the count of draws. -/
def Drawn (w w' : World) : Prop := ∃ m, w' = w.drewN m
theorem Drawn.more {w w' : World} (h : Drawn w w') (n : Nat) : Drawn w (w'.drewN n) := by
  obtain ⟨m, rfl⟩ := h
  exact ⟨m + n, World.drewN_drewN _ _ _⟩
theorem Drawn.below {w w' : World} (h : Drawn w w') : Below w.heap.size w w' := by
  obtain ⟨m, rfl⟩ := h
  exact below_drewN w m
theorem and_one (y : Nat) (hy : y ≤ 9223372036854775807) : bits .and .i64 (y : Int) 1 = ((y % 2 : Nat) : Int) := by
  have h1 : (BitVec.ofInt 64 1).toNat = 2 ^ 1 - 1 := by decide
  have key : (BitVec.ofInt 64 (y : Int) &&& BitVec.ofInt 64 1).toNat = ((y : Int) % ((2 ^ 64 : Nat) : Int)).toNat % 2 ^ 1 := by
    rw [BitVec.toNat_and, BitVec.toNat_ofInt, h1, Nat.and_two_pow_sub_one_eq_mod]
  show IntKind.i64.wrap ((BitVec.ofInt 64 (y : Int) &&& BitVec.ofInt 64 1).toNat : Nat) = _
  rw [key, IntKind.wrap_i64]
  omega
theorem P_lt : P < 18446744073709551616 := by decide
theorem modP_lt (a : Nat) : a % P < 18446744073709551616 := Nat.lt_trans (mod_lt a) P_lt
theorem remP (a : Nat) : (a : Int) % 2305843009213693951 = ((a % P : Nat) : Int) := by rw [P_eq]; omega

theorem ofD_take {s : List UInt8} {k : Nat} (hk : k < s.length) (d : Nat) : ofD d (s.take (k + 1)) = (ofD d (s.take k) * B + s[k].toNat + 1) % P := by
  have h : ∀ (a b : List UInt8) d, ofD d (a ++ b) = ofD (ofD d a) b := by
    intro a
    induction a with
    | nil => intro b d; rfl
    | cons c a ih => intro b d; rw [List.cons_append, ofD, ofD, ih]
  rw [List.take_succ_eq_append_getElem hk, h, ofD, ofD]

set_option maxHeartbeats 400000 in
theorem of_any (s : ByteArray) (hs : s.size ≤ 100000) (w : World) : Calls Tryd.prog 27 #[.string s] w (Draw (.int .u64 ((of_ s.data.toList : Nat) : Int)) w) := by
  go_enter Tryd.func27, Tryd.ntmps27
  go_wp2_with fail
  go_loopw [3, 7] (fun d i wr => ∃ k : Nat, k ≤ s.size ∧ d = .int .u64 ((ofD 0 (s.data.toList.take k) : Nat) : Int) ∧ i = .int .i64 (k : Int) ∧ Drawn w wr) (fun _ i _ => s.size - (intOf i).toNat)
  case atStart => exact ⟨0, Nat.zero_le _, rfl, rfl, 0, rfl⟩
  case round =>
    obtain ⟨k, hk, rfl, rfl, hwr⟩ := hrel
    have HW := Lib.hid hwr
    clear hwr
    by_cases hlt : k < s.size
    · have hlt2 : k < s.data.toList.length := by rw [← Lib.size_eq]; exact hlt
      have ht := ofD_take hlt2 0
      have hd := ofD_lt (s.data.toList.take k) 0 P_pos
      have hck : s.data.toList[k] = s[k] := rfl
      rw [hck] at ht
      have hci : s[k].toNat < 256 := s[k].toNat_lt
      generalize ofD 0 (s.data.toList.take k) = d at *
      have CM : Hid (∀ w', Calls Tryd.prog 50 #[.int .u64 (d : Int), .int .u64 1099511628211] w' (Draw (.int .u64 ((d * B % P : Nat) : Int)) w')) := fun w' => mul_any d B (Nat.lt_trans hd P_lt) (by decide) w'
      have he := mod_lt (d * B)
      rw [Nat.add_assoc, ← add_mod_l, ← Nat.add_assoc] at ht
      generalize d * B % P = e at *
      have HT := Lib.hid ht
      rw [P_eq] at he
      have hlti : (k : Int) < (s.size : Int) := by omega
      clear ht hd hck
      go_wp2_with fail
      go_quiet ((go_at_call 50; exact Calls.quiet_of (CM.out _)))
      go_wp2_with fail
      go_roundw
      case rel => exact ⟨k + 1, by omega, by rw [HT.out, P_eq]; congr 1, by go_num, HW.out.more _⟩
      case measure => simp [intOf]; omega
    · go_wp2_with fail
      go_returns
      refine ⟨ret_int ?_, HW.out⟩
      rw [List.take_of_length_le (by rw [← Lib.size_eq]; omega)]; rfl

set_option maxHeartbeats 400000 in
theorem join_any (a : Nat) (n : Int) (b : Nat) (ha : a < 18446744073709551616) (hb : b < 18446744073709551616) (hn : -9223372036854775808 ≤ n ∧ n ≤ 9223372036854775807) (w : World) :
    Calls Tryd.prog 29 #[.int .u64 (a : Int), .int .i64 n, .int .u64 (b : Int)] w (Draw (.int .u64 ((join a n b : Nat) : Int)) w) := by
  obtain ⟨hn1, hn2⟩ := hn
  go_enter Tryd.func29, Tryd.ntmps29
  go_wp2_with fail
  go_loopw [0, 1, 7] (fun av nv pv wr => ∃ (x p : Nat) (z : Int), av = .int .u64 (x : Int) ∧ nv = .int .i64 z ∧ pv = .int .u64 (p : Int) ∧ x < 18446744073709551616 ∧ p < 18446744073709551616 ∧ -9223372036854775808 ≤ z ∧ z ≤ 9223372036854775807 ∧ (x * p ^ z.toNat) % P = (a * B ^ n.toNat) % P ∧ ∃ m, wr = w.drewN m) (fun _ nv _ _ => (intOf nv).toNat)
  case atStart => exact ⟨a, B, n, rfl, rfl, rfl, ha, by decide, hn1, hn2, rfl, 0, rfl⟩
  case round =>
    obtain ⟨x, p, z, rfl, rfl, rfl, hx, hp, hz1, hz2, hinv, m, rfl⟩ := hrel
    by_cases hpos : 0 < z
    · obtain ⟨y, rfl⟩ : ∃ y : Nat, z = (y : Int) := ⟨z.toNat, by omega⟩
      rw [Int.toNat_natCast] at hinv
      have hand : bits .and .i64 (y : Int) 1 = ((y % 2 : Nat) : Int) := and_one y (by omega)
      have CM : Hid (∀ (u v : Nat) (w' : World), u < 18446744073709551616 → v < 18446744073709551616 → Calls Tryd.prog 50 #[.int .u64 (u : Int), .int .u64 (v : Int)] w' (Draw (.int .u64 ((u * v % P : Nat) : Int)) w')) := fun u v w' hu hv => mul_any u v hu hv w'
      by_cases hodd : y % 2 = 1
      · have HI := Lib.hid ((pow_odd x p y hodd).trans hinv)
        have hm1 := modP_lt (x * p)
        have hm2 := modP_lt (p * p)
        rw [hodd] at hand
        clear hinv
        go_wp2_with fail
        refine (CM.out x p _ hx hp).mono ?_
        rintro e w1 ⟨rfl, m1, rfl⟩
        go_wp2_with fail
        refine (CM.out p p _ hp hp).mono ?_
        rintro e w1 ⟨rfl, m2, rfl⟩
        go_wp2_with fail
        go_roundw
        case rel => exact ⟨x * p % P, p * p % P, ((y / 2 : Nat) : Int), rfl, by go_num, rfl, hm1, hm2, by omega, by omega, by rw [Int.toNat_natCast]; exact HI.out, _, rfl⟩
        case measure => simp [intOf]; omega
      · have hev : y % 2 = 0 := by omega
        have HI := Lib.hid ((pow_even x p y hev).trans hinv)
        have hm2 := modP_lt (p * p)
        rw [hev] at hand
        clear hinv hodd
        go_wp2_with fail
        refine (CM.out p p _ hp hp).mono ?_
        rintro e w1 ⟨rfl, m2, rfl⟩
        go_wp2_with fail
        go_roundw
        case rel => exact ⟨x, p * p % P, ((y / 2 : Nat) : Int), rfl, by go_num, rfl, hx, hm2, by omega, by omega, by rw [Int.toNat_natCast]; exact HI.out, _, rfl⟩
        case measure => simp [intOf]; omega
    · have hz0 : z.toNat = 0 := by omega
      rw [hz0, Nat.pow_zero, Nat.mul_one] at hinv
      have HI := Lib.hid hinv
      clear hinv
      go_wp2_with fail
      go_returns
      refine ⟨ret_int ?_, m, rfl⟩
      rw [join, ← add_mod_l, ← HI.out, add_mod_l, ← add_mod_l, ← add_mod_r, P_eq]
      omega

theorem cons10 (s : ByteArray) : ((⟨#[10]⟩ : ByteArray) ++ s).data.toList = 10 :: s.data.toList := by simp

theorem chain_any (a : Nat) (s : ByteArray) (ha : a < 18446744073709551616) (hs : s.size ≤ 90000) (w : World) :
    Calls Tryd.prog 31 #[.int .u64 (a : Int), .string s] w (Draw (.int .u64 ((chain a s.data.toList : Nat) : Int)) w) := by
  have HO := Lib.hid (fun w' => of_any ((⟨#[10]⟩ : ByteArray) ++ s) (by rw [ByteArray.size_append]; show 1 + s.size ≤ 100000; omega) w')
  rw [cons10] at HO
  have hof := Nat.lt_trans (of_lt (10 :: s.data.toList)) P_lt
  have HC : Hid (chain a s.data.toList = join a ((s.size : Int) + 1) (of_ (10 :: s.data.toList))) := by
    show chain a s.data.toList = _
    rw [chain, ← Lib.size_eq]; rfl
  rw [HC.out]
  generalize of_ (10 :: s.data.toList) = o at *
  go_enter Tryd.func31, Tryd.ntmps31
  go_wp2_with fail
  refine (HO.out _).mono ?_
  rintro e w1 ⟨rfl, m1, rfl⟩
  go_wp2_with fail
  refine (join_any a _ o ha hof (by omega) _).mono ?_
  rintro e w2 ⟨rfl, m2, rfl⟩
  go_wp2_with fail
  go_returns
  exact ⟨rfl, _, rfl⟩

/-! ### the reference -/
theorem radd_any (a b : Nat) (h : a + b < 18446744073709551616) (w : World) : Calls Tryd.prog 51 #[.int .u64 (a : Int), .int .u64 (b : Int)] w (Draw (.int .u64 (((a + b) % P : Nat) : Int)) w) := by
  have hi : (a : Int) + (b : Int) < 18446744073709551616 := by omega
  go_enter Tryd.func51, Tryd.ntmps51
  go_wp2_with fail
  go_returns
  exact ⟨ret_int (by rw [P_eq]; omega), 0, rfl⟩

theorem mulm_odd (o a b : Nat) (h : b % 2 = 1) : ((o + a) % P + ((a + a) % P) * (b / 2)) % P = (o + a * b) % P := by
  rw [add_mod_l, ← add_mod_r, mul_mod_l, add_mod_r]
  congr 1
  have : b = 2 * (b / 2) + 1 := by omega
  generalize b / 2 = c at this
  subst this
  rw [Nat.add_mul, Nat.mul_add, Nat.mul_one, ← Nat.mul_assoc, Nat.mul_comm a 2, Nat.two_mul, Nat.add_mul]
  omega
theorem mulm_even (o a b : Nat) (h : b % 2 = 0) : (o + ((a + a) % P) * (b / 2)) % P = (o + a * b) % P := by
  rw [← add_mod_r, mul_mod_l, add_mod_r]
  congr 1
  have : b = 2 * (b / 2) := by omega
  generalize b / 2 = c at this
  subst this
  rw [Nat.add_mul, ← Nat.mul_assoc, Nat.mul_comm a 2, Nat.two_mul, Nat.add_mul]

set_option maxHeartbeats 400000 in
theorem rmul_any (a b : Nat) (ha : a < P) (hb : b < 18446744073709551616) (w : World) : Calls Tryd.prog 52 #[.int .u64 (a : Int), .int .u64 (b : Int)] w (Draw (.int .u64 ((a * b % P : Nat) : Int)) w) := by
  go_enter Tryd.func52, Tryd.ntmps52
  go_wp2_with fail
  go_loopw [0, 1, 5] (fun av bv ov wr => ∃ x y o : Nat, av = .int .u64 (x : Int) ∧ bv = .int .u64 (y : Int) ∧ ov = .int .u64 (o : Int) ∧ x < P ∧ y < 18446744073709551616 ∧ o < P ∧ (o + x * y) % P = a * b % P ∧ ∃ m, wr = w.drewN m) (fun _ bv _ _ => (intOf bv).toNat)
  case atStart => exact ⟨a, b, 0, rfl, rfl, rfl, ha, hb, P_pos, by rw [Nat.zero_add], 0, rfl⟩
  case round =>
    obtain ⟨x, y, o, rfl, rfl, rfl, hx, hy, ho, hinv, m, rfl⟩ := hrel
    by_cases hpos : 0 < y
    · have hx2 := hx
      have ho2 := ho
      rw [P_eq] at hx2 ho2
      have CA : Hid (∀ (u v : Nat) (w' : World), u + v < 18446744073709551616 → Calls Tryd.prog 51 #[.int .u64 (u : Int), .int .u64 (v : Int)] w' (Draw (.int .u64 (((u + v) % P : Nat) : Int)) w')) := fun u v w' h => radd_any u v h w'
      have hl1 := mod_lt (o + x)
      have hl2 := mod_lt (x + x)
      by_cases hodd : y % 2 = 1
      · have HI := Lib.hid ((mulm_odd o x y hodd).trans hinv)
        have hoi : ((y : Int) % 2 == 1) = true := by simp; omega
        clear hinv
        go_wp2_with fail
        refine (CA.out o x _ (by omega)).mono ?_
        rintro e w1 ⟨rfl, m1, rfl⟩
        go_wp2_with fail
        refine (CA.out x x _ (by omega)).mono ?_
        rintro e w1 ⟨rfl, m2, rfl⟩
        go_wp2_with fail
        go_roundw
        case rel => exact ⟨(x + x) % P, y / 2, (o + x) % P, rfl, by go_num, rfl, hl2, by omega, hl1, HI.out, _, rfl⟩
        case measure => simp [intOf]; omega
      · have HI := Lib.hid ((mulm_even o x y (by omega)).trans hinv)
        have hoi : ((y : Int) % 2 == 1) = false := by simp; omega
        clear hinv
        go_wp2_with fail
        refine (CA.out x x _ (by omega)).mono ?_
        rintro e w1 ⟨rfl, m2, rfl⟩
        go_wp2_with fail
        go_roundw
        case rel => exact ⟨(x + x) % P, y / 2, o, rfl, by go_num, rfl, hl2, by omega, ho, HI.out, _, rfl⟩
        case measure => simp [intOf]; omega
    · have hy0 : y = 0 := by omega
      subst hy0
      rw [Nat.mul_zero, Nat.add_zero, Nat.mod_eq_of_lt ho] at hinv
      have HI := Lib.hid hinv
      clear hinv
      go_wp2_with fail
      go_returns
      exact ⟨ret_int (congrArg Nat.cast HI.out), m, rfl⟩

set_option maxHeartbeats 400000 in
theorem power_any (n : Int) (hn : -9223372036854775808 ≤ n ∧ n ≤ 9223372036854775807) (w : World) : Calls Tryd.prog 53 #[.int .i64 n] w (Draw (.int .u64 ((B ^ n.toNat % P : Nat) : Int)) w) := by
  obtain ⟨hn1, hn2⟩ := hn
  go_enter Tryd.func53, Tryd.ntmps53
  go_wp2_with fail
  go_loopw [0, 3, 4] (fun nv ov sv wr => ∃ (z : Int) (o p : Nat), nv = .int .i64 z ∧ ov = .int .u64 (o : Int) ∧ sv = .int .u64 (p : Int) ∧ o < P ∧ p < P ∧ -9223372036854775808 ≤ z ∧ z ≤ 9223372036854775807 ∧ (o * p ^ z.toNat) % P = B ^ n.toNat % P ∧ ∃ m, wr = w.drewN m) (fun nv _ _ _ => (intOf nv).toNat)
  case atStart => exact ⟨n, 1, B, rfl, rfl, rfl, by decide, by decide, hn1, hn2, by rw [Nat.one_mul], 0, rfl⟩
  case round =>
    obtain ⟨z, o, p, rfl, rfl, rfl, ho, hp, hz1, hz2, hinv, m, rfl⟩ := hrel
    by_cases hpos : 0 < z
    · obtain ⟨y, rfl⟩ : ∃ y : Nat, z = (y : Int) := ⟨z.toNat, by omega⟩
      rw [Int.toNat_natCast] at hinv
      have CM : Hid (∀ (u v : Nat) (w' : World), u < P → v < P → Calls Tryd.prog 52 #[.int .u64 (u : Int), .int .u64 (v : Int)] w' (Draw (.int .u64 ((u * v % P : Nat) : Int)) w')) := fun u v w' hu hv => rmul_any u v hu (Nat.lt_trans hv P_lt) w'
      have hl1 := mod_lt (o * p)
      have hl2 := mod_lt (p * p)
      by_cases hodd : y % 2 = 1
      · have HI := Lib.hid ((pow_odd o p y hodd).trans hinv)
        have hoi : ((y : Int).tmod 2 == 1) = true := by rw [Int.tmod_eq_emod_of_nonneg (by omega)]; simp; omega
        clear hinv
        go_wp2_with fail
        refine (CM.out o p _ ho hp).mono ?_
        rintro e w1 ⟨rfl, m1, rfl⟩
        go_wp2_with fail
        refine (CM.out p p _ hp hp).mono ?_
        rintro e w1 ⟨rfl, m2, rfl⟩
        go_wp2_with fail
        go_roundw
        case rel => exact ⟨((y / 2 : Nat) : Int), o * p % P, p * p % P, by go_num, rfl, rfl, hl1, hl2, by omega, by omega, by rw [Int.toNat_natCast]; exact HI.out, _, rfl⟩
        case measure => simp [intOf]; omega
      · have HI := Lib.hid ((pow_even o p y (by omega)).trans hinv)
        have hoi : ((y : Int).tmod 2 == 1) = false := by rw [Int.tmod_eq_emod_of_nonneg (by omega)]; simp; omega
        clear hinv
        go_wp2_with fail
        refine (CM.out p p _ hp hp).mono ?_
        rintro e w1 ⟨rfl, m2, rfl⟩
        go_wp2_with fail
        go_roundw
        case rel => exact ⟨((y / 2 : Nat) : Int), o, p * p % P, by go_num, rfl, rfl, ho, hl2, by omega, by omega, by rw [Int.toNat_natCast]; exact HI.out, _, rfl⟩
        case measure => simp [intOf]; omega
    · have hz0 : z.toNat = 0 := by omega
      rw [hz0, Nat.pow_zero, Nat.mul_one, Nat.mod_eq_of_lt ho] at hinv
      have HI := Lib.hid hinv
      clear hinv
      go_wp2_with fail
      go_returns
      exact ⟨ret_int (congrArg Nat.cast HI.out), m, rfl⟩

set_option maxHeartbeats 400000 in
theorem rof_any (s : ByteArray) (hs : s.size ≤ 100000) (w : World) : Calls Tryd.prog 28 #[.string s] w (Draw (.int .u64 ((of_ s.data.toList : Nat) : Int)) w) := by
  go_enter Tryd.func28, Tryd.ntmps28
  go_wp2_with fail
  go_loopw [3, 4] (fun d i wr => ∃ k : Nat, k ≤ s.size ∧ d = .int .u64 ((ofD 0 (s.data.toList.take k) : Nat) : Int) ∧ i = .int .i64 (k : Int) ∧ Drawn w wr) (fun _ i _ => s.size - (intOf i).toNat)
  case atStart => exact ⟨0, Nat.zero_le _, rfl, rfl, 0, rfl⟩
  case round =>
    obtain ⟨k, hk, rfl, rfl, hwr⟩ := hrel
    have HW := Lib.hid hwr
    clear hwr
    by_cases hlt : k < s.size
    · have hlt2 : k < s.data.toList.length := by rw [← Lib.size_eq]; exact hlt
      have ht := ofD_take hlt2 0
      have hd := ofD_lt (s.data.toList.take k) 0 P_pos
      have hck : s.data.toList[k] = s[k] := rfl
      rw [hck] at ht
      have hci : s[k].toNat < 256 := s[k].toNat_lt
      generalize ofD 0 (s.data.toList.take k) = d at *
      have CM : Hid (∀ w', Calls Tryd.prog 52 #[.int .u64 (d : Int), .int .u64 1099511628211] w' (Draw (.int .u64 ((d * B % P : Nat) : Int)) w')) := fun w' => rmul_any d B hd (by decide) w'
      have he := mod_lt (d * B)
      rw [Nat.add_assoc, ← add_mod_l] at ht
      generalize d * B % P = e at *
      obtain ⟨c, hc⟩ : ∃ c, c = s[k].toNat + 1 := ⟨_, rfl⟩
      rw [← hc] at ht
      have CA : Hid (∀ w', Calls Tryd.prog 51 #[.int .u64 (e : Int), .int .u64 (c : Int)] w' (Draw (.int .u64 (((e + c) % P : Nat) : Int)) w')) := fun w' => radd_any e c (by rw [P_eq] at he; omega) w'
      have HT := Lib.hid ht
      have hci2 : (s[k].toNat : Int) + 1 = (c : Int) := by omega
      have hlti : (k : Int) < (s.size : Int) := by omega
      clear ht hd hck hc
      go_wp2_with fail
      go_quiet (first | (go_at_call 52; exact Calls.quiet_of (CM.out _)) | (go_at_call 51; exact Calls.quiet_of (CA.out _)))
      go_wp2_with fail
      go_roundw
      case rel => exact ⟨k + 1, by omega, by rw [HT.out], by go_num, HW.out.more _⟩
      case measure => simp [intOf]; omega
    · go_wp2_with fail
      go_returns
      refine ⟨ret_int ?_, HW.out⟩
      rw [List.take_of_length_le (by rw [← Lib.size_eq]; omega)]; rfl

theorem rjoin_any (a : Nat) (n : Int) (b : Nat) (ha : a < 18446744073709551616) (hb : b < 18446744073709551616) (hn : -9223372036854775808 ≤ n ∧ n ≤ 9223372036854775807) (w : World) :
    Calls Tryd.prog 30 #[.int .u64 (a : Int), .int .i64 n, .int .u64 (b : Int)] w (Draw (.int .u64 ((join a n b : Nat) : Int)) w) := by
  have HJ : Hid (join a n b = (a % P * (B ^ n.toNat % P) % P + b % P) % P) := by
    show join a n b = _
    rw [join, add_mod_l, add_mod_r, ← add_mod_l, ← add_mod_l (_ * _), mul_mod_l, mul_mod_r]
  rw [HJ.out]
  have ka := remP a
  have kb := remP b
  have h1 := mod_lt a
  have h2 := mod_lt b
  have h3 := mod_lt (B ^ n.toNat)
  have HP := Lib.hid (fun w' => power_any n hn w')
  generalize B ^ n.toNat % P = p at *
  generalize a % P = x at *
  generalize b % P = y at *
  have h4 := mod_lt (x * p)
  have CM := Lib.hid (fun w' => rmul_any x p h1 (Nat.lt_trans h3 P_lt) w')
  generalize x * p % P = z at *
  have CA := Lib.hid (fun w' => radd_any z y (by rw [P_eq] at h2 h4; omega) w')
  clear hn
  go_enter Tryd.func30, Tryd.ntmps30
  go_wp2_with fail
  refine (HP.out _).mono ?_
  rintro e w1 ⟨rfl, m1, rfl⟩
  go_wp2_with fail
  refine (CM.out _).mono ?_
  rintro e w1 ⟨rfl, m2, rfl⟩
  go_wp2_with fail
  refine (CA.out _).mono ?_
  rintro e w1 ⟨rfl, m3, rfl⟩
  go_wp2_with fail
  go_returns
  exact ⟨rfl, _, rfl⟩

theorem rchain_any (a : Nat) (s : ByteArray) (ha : a < 18446744073709551616) (hs : s.size ≤ 90000) (w : World) :
    Calls Tryd.prog 32 #[.int .u64 (a : Int), .string s] w (Draw (.int .u64 ((chain a s.data.toList : Nat) : Int)) w) := by
  have HO := Lib.hid (fun w' => rof_any ((⟨#[10]⟩ : ByteArray) ++ s) (by rw [ByteArray.size_append]; show 1 + s.size ≤ 100000; omega) w')
  rw [cons10] at HO
  have hof := Nat.lt_trans (of_lt (10 :: s.data.toList)) P_lt
  have HC : Hid (chain a s.data.toList = join a ((s.size : Int) + 1) (of_ (10 :: s.data.toList))) := by
    show chain a s.data.toList = _
    rw [chain, ← Lib.size_eq]; rfl
  rw [HC.out]
  generalize of_ (10 :: s.data.toList) = o at *
  go_enter Tryd.func32, Tryd.ntmps32
  go_wp2_with fail
  refine (HO.out _).mono ?_
  rintro e w1 ⟨rfl, m1, rfl⟩
  go_wp2_with fail
  refine (rjoin_any a _ o ha hof (by omega) _).mono ?_
  rintro e w2 ⟨rfl, m2, rfl⟩
  go_wp2_with fail
  go_returns
  exact ⟨rfl, _, rfl⟩
end Go.Proofs.YtdbijjiolknbfaaDoor
