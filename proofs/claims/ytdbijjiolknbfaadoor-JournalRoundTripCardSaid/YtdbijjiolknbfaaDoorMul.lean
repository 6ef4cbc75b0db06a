/- The walks of bits.Div64 and bits.Rem64 at the modulus, and of mul. -/
import Derived.Test.YtdbijjiolknbfaaDoorBase
import Derived.Deep.DeepCutAuto
import Derived.Deep.CutBlock
namespace Go.Proofs.YtdbijjiolknbfaaDoor
open Go.RowKit Pl

theorem lead_any (w : World) : Calls Tryd.prog 83 #[.int .u64 2305843009213693951] w fun e w' => e = .returned (.int .i64 3) ∧ w' = w := by
  have h := Tryd.bits_LeadingZeros64 2305843009213693951 w (by omega) (by omega)
  refine h.mono ?_
  rintro e w' ⟨rfl, rfl⟩
  exact ⟨ret_int (by decide), rfl⟩

theorem below_drewN (w : World) (n : Nat) : Below w.heap.size w (w.drewN n) := ⟨rfl, rfl, rfl, Nat.le_refl _, fun _ _ => rfl⟩

set_option maxHeartbeats 400000 in
theorem div_zero (lo : Nat) (hl : lo < 18446744073709551616) (w : World) : Calls Tryd.prog 75 #[.int .u64 0, .int .u64 (lo : Int), .int .u64 2305843009213693951] w fun e w' => ∃ q : Int, e = .returned (.tuple #[.int .u64 q, .int .u64 ((lo % 2305843009213693951 : Nat) : Int)]) ∧ ∃ m, w' = w.drewN m := by
  go_enter Tryd.func75, Tryd.ntmps75
  go_wp2_with fail
  go_quiet (fail)
  go_wp2_with fail
  go_ret2
  exact ⟨_, rfl, _, rfl⟩

theorem or_add (a b : Nat) (hb : b < 8) (ha : a * 8 + b < 18446744073709551616) : bits .or .u64 ((a : Int) * 8) (b : Int) = ((a * 8 + b : Nat) : Int) := by
  have h := bits_or_u64_nat (a * 8) b (by omega) (by omega)
  have e : a * 8 ||| b = a * 8 + b := by
    have := Nat.two_pow_add_eq_or_of_lt (i := 3) (b := b) (by omega) a
    rw [Nat.mul_comm] at this
    exact this.symm
  rw [e] at h
  simpa using h
theorem and_mod (a : Nat) (ha : a < 18446744073709551616) : bits .and .u64 (a : Int) 4294967295 = ((a % 4294967296 : Nat) : Int) := Mul64.maskN a ha
theorem and_const : bits .and .u64 18446744073709551608 4294967295 = 4294967288 := by
  have := and_mod 18446744073709551608 (by omega)
  simpa using this

theorem wrap3 (M x b y : Int) : ((x % M + b) % M - y % M) % M = (x + b - y) % M := by
  rw [Int.emod_add_emod, ← Int.sub_emod]
theorem wrap_rem (u b : Nat) : IntKind.u64.wrap (IntKind.u64.wrap (IntKind.u64.wrap ((u : Int) * 4294967296) + (b : Int)) - IntKind.u64.wrap (((qt u b : Nat) : Int) * 18446744073709551608)) = ((rt u b : Nat) : Int) := by
  rw [IntKind.wrap_u64, IntKind.wrap_u64, IntKind.wrap_u64, IntKind.wrap_u64, wrap3]
  exact rem_mod _ rfl

set_option maxRecDepth 100000 in
set_option maxHeartbeats 1000000 in
theorem div_any (hi lo : Nat) (hh : hi < 2305843009213693951) (h0 : 0 < hi) (hl : lo < 18446744073709551616) (w : World) : Calls Tryd.prog 75 #[.int .u64 (hi : Int), .int .u64 (lo : Int), .int .u64 2305843009213693951] w fun e w' => ∃ q : Int, e = .returned (.tuple #[.int .u64 q, .int .u64 (((hi * 18446744073709551616 + lo) % 2305843009213693951 : Nat) : Int)]) ∧ ∃ m, w' = w.drewN m := by
  have hz : ((hi : Int) == 0) = false := by simp; omega
  have hy : ¬ (2305843009213693951 : Int) ≤ (hi : Int) := by omega
  have HFIN := Lib.hid (two_steps hi lo hl)
  obtain ⟨u, hu⟩ : ∃ u, u = hi * 8 + lo / 2305843009213693952 := ⟨_, rfl⟩
  obtain ⟨v, hv⟩ : ∃ v, v = lo * 8 % 18446744073709551616 := ⟨_, rfl⟩
  rw [← hu, ← hv] at HFIN
  have hub : u < 18446744073709551608 := by omega
  have hvb : v < 18446744073709551616 := by omega
  have k1 : bits .or .u64 ((hi : Int) * 8) ((lo : Int) / 2305843009213693952) = (u : Int) := by
    have := or_add hi (lo / 2305843009213693952) (by omega) (by omega)
    rw [hu, ← this]; congr 1
  have k2 : IntKind.u64.wrap ((lo : Int) * 8) = (v : Int) := by rw [IntKind.wrap_u64]; omega
  have hb0 : v / 4294967296 < 4294967296 := by omega
  have hb1 : v % 4294967296 < 4294967296 := by omega
  have k3 : (v : Int) / 4294967296 = ((v / 4294967296 : Nat) : Int) := by omega
  have k4 : bits .and .u64 (v : Int) 4294967295 = ((v % 4294967296 : Nat) : Int) := and_mod v hvb
  have k5 := and_const
  generalize v / 4294967296 = b1 at *
  generalize v % 4294967296 = b0 at *
  have HU := Lib.hid hu
  have HV := Lib.hid hv
  have HUB := Lib.hid hub
  have HB1 := Lib.hid hb0
  have HB0 := Lib.hid hb1
  clear hu hv
  go_enter Tryd.func75, Tryd.ntmps75
  go_wp2_with fail
  refine (lead_any _).mono ?_
  rintro e w1 ⟨rfl, hw1⟩
  rw [hw1]
  clear hw1
  go_upto_block 0 with fail
  clear k1 k2 k3 k4 k5 hh h0 hl hz hy hvb
  go_cut [15] (fun s15 wc => s15 = .int .u64 ((qt u b1 : Nat) : Int) ∧ w = wc)
  case first =>
    go_wp2_with fail
    go_loop [15, 16] (fun a b => ∃ q r : Nat, a = .int .u64 (q : Int) ∧ b = .int .u64 (r : Int) ∧ qt u b1 ≤ q ∧ q * 4294967295 + r = u ∧ r < 4294967296 ∧ q ≤ 4294967296) (fun a _ => (intOf a).toNat)
    case atStart => exact ⟨_, _, rfl, by congr 1; omega, guess_start HUB.out HB1.out⟩
    case round =>
      obtain ⟨q, r, rfl, rfl, h1, h2, h3, h4⟩ := hrel
      have H1 := Lib.hid h1
      have H2 := Lib.hid h2
      clear h1 h2
      by_cases hc : 4294967296 ≤ q ∨ 4294967296 * r + b1 < q * 4294967288
      · have HN := Lib.hid (guess_next HUB.out HB1.out H2.out hc)
        have hq1 : 1 ≤ q := HN.out.2.2
        have hways : ((4294967296 : Int) ≤ (q : Int)) ∨ (¬ (4294967296 : Int) ≤ (q : Int) ∧ (4294967296 : Int) * (r : Int) + (b1 : Int) < (q : Int) * 4294967288) := by omega
        by_cases hbr : 4294967296 ≤ r + 4294967295
        · have HL := Lib.hid (guess_leave HUB.out HB1.out H2.out hc hbr h4)
          have hbi : (4294967296 : Int) ≤ (r : Int) + 4294967295 := by omega
          clear hc
          rcases hways with hw | ⟨hw1, hw2⟩
          all_goals
            go_wp2_with fail
            go_meet
            case rel => exact ⟨by rw [← HL.out]; congr 1; omega, rfl⟩
        · have hbi : ¬ (4294967296 : Int) ≤ (r : Int) + 4294967295 := by omega
          clear hc
          rcases hways with hw | ⟨hw1, hw2⟩
          all_goals
            go_wp2_with fail
            go_round
            case rel => exact ⟨q - 1, r + 4294967295, by congr 1; omega, by congr 1, HN.out.1, HN.out.2.1, by omega, by omega⟩
            case measure => simp [intOf]; omega
      · have HE := Lib.hid (guess_end H1.out H2.out hc)
        have hn1 : ¬ (4294967296 : Int) ≤ (q : Int) := by omega
        have hn2 : ¬ (4294967296 : Int) * (r : Int) + (b1 : Int) < (q : Int) * 4294967288 := by omega
        clear hc
        go_wp2_with fail
        go_meet
        case rel => exact ⟨by rw [← HE.out], rfl⟩
  case rest =>
    obtain ⟨rfl, rfl⟩ := hcut
    have k8 := wrap_rem u b1
    have HU2 := Lib.hid (rt_lt u b1)
    have hu2 := HU2.out
    have hQ := qt_lt HUB.out HB1.out
    generalize rt u b1 = u2 at *
    generalize qt u b1 = Q at *
    go_upto_block 2 with fail
    clear k8
    go_cut [18] (fun s18 wc => s18 = .int .u64 ((qt u2 b0 : Nat) : Int) ∧ w = wc)
    case first =>
      go_wp2_with fail
      go_loop [18, 16] (fun a b => ∃ q r : Nat, a = .int .u64 (q : Int) ∧ b = .int .u64 (r : Int) ∧ qt u2 b0 ≤ q ∧ q * 4294967295 + r = u2 ∧ r < 4294967296 ∧ q ≤ 4294967296) (fun a _ => (intOf a).toNat)
      case atStart => exact ⟨_, _, rfl, by congr 1; omega, guess_start HU2.out HB0.out⟩
      case round =>
        obtain ⟨q, r, rfl, rfl, h1, h2, h3, h4⟩ := hrel
        have H1 := Lib.hid h1
        have H2 := Lib.hid h2
        clear h1 h2
        by_cases hc : 4294967296 ≤ q ∨ 4294967296 * r + b0 < q * 4294967288
        · have HN := Lib.hid (guess_next HU2.out HB0.out H2.out hc)
          have hq1 : 1 ≤ q := HN.out.2.2
          have hways : ((4294967296 : Int) ≤ (q : Int)) ∨ (¬ (4294967296 : Int) ≤ (q : Int) ∧ (4294967296 : Int) * (r : Int) + (b0 : Int) < (q : Int) * 4294967288) := by omega
          by_cases hbr : 4294967296 ≤ r + 4294967295
          · have HL := Lib.hid (guess_leave HU2.out HB0.out H2.out hc hbr h4)
            have hbi : (4294967296 : Int) ≤ (r : Int) + 4294967295 := by omega
            clear hc
            rcases hways with hw | ⟨hw1, hw2⟩
            all_goals
              go_wp2_with fail
              go_meet
              case rel => exact ⟨by rw [← HL.out]; congr 1; omega, rfl⟩
          · have hbi : ¬ (4294967296 : Int) ≤ (r : Int) + 4294967295 := by omega
            clear hc
            rcases hways with hw | ⟨hw1, hw2⟩
            all_goals
              go_wp2_with fail
              go_round
              case rel => exact ⟨q - 1, r + 4294967295, by congr 1; omega, by congr 1, HN.out.1, HN.out.2.1, by omega, by omega⟩
              case measure => simp [intOf]; omega
        · have HE := Lib.hid (guess_end H1.out H2.out hc)
          have hn1 : ¬ (4294967296 : Int) ≤ (q : Int) := by omega
          have hn2 : ¬ (4294967296 : Int) * (r : Int) + (b0 : Int) < (q : Int) * 4294967288 := by omega
          clear hc
          go_wp2_with fail
          go_meet
          case rel => exact ⟨by rw [← HE.out], rfl⟩
    case rest =>
      obtain ⟨rfl, rfl⟩ := hcut
      have k9 := wrap_rem u2 b0
      have hQ2 := qt_lt HU2.out HB0.out
      generalize rt u2 b0 = u3 at *
      generalize qt u2 b0 = Q2 at *
      go_wp2_with fail
      go_ret2
      exact ⟨_, by rw [← HFIN.out]; rfl, 0, rfl⟩

/-- The call returns this value and changes nothing but the count of draws. -/
def Draw (v : Value) (w : World) (e : Ending) (w' : World) : Prop := e = .returned v ∧ ∃ m, w' = w.drewN m
theorem Draw.gives {v : Value} {w : World} {e : Ending} {w' : World} (h : Draw v w e w') : e = .returned v ∧ Below w.heap.size w w' := by
  obtain ⟨h1, m, rfl⟩ := h
  exact ⟨h1, below_drewN w m⟩

theorem rem_any (hi lo : Nat) (hh : hi < 18446744073709551616) (hl : lo < 18446744073709551616) (w : World) :
    Calls Tryd.prog 65 #[.int .u64 (hi : Int), .int .u64 (lo : Int), .int .u64 2305843009213693951] w (Draw (.int .u64 (((hi * 18446744073709551616 + lo) % P : Nat) : Int)) w) := by
  rw [P_eq, ← rem_step]
  have hmlt : hi % 2305843009213693951 < 2305843009213693951 := Nat.mod_lt _ (by omega)
  have k : (hi : Int) % 2305843009213693951 = ((hi % 2305843009213693951 : Nat) : Int) := by omega
  generalize hi % 2305843009213693951 = m at *
  by_cases hm : m = 0
  · subst hm
    have k' : (hi : Int) % 2305843009213693951 = 0 := by omega
    clear k
    go_enter Tryd.func65, Tryd.ntmps65
    go_wp2_with fail
    refine (div_zero lo hl _).mono ?_
    rintro e w1 ⟨q, rfl, n, rfl⟩
    go_wp2_with fail
    go_returns
    exact ⟨ret_int (by simp), n, rfl⟩
  · go_enter Tryd.func65, Tryd.ntmps65
    go_wp2_with fail
    refine (div_any m lo hmlt (by omega) hl _).mono ?_
    rintro e w1 ⟨q, rfl, n, rfl⟩
    go_wp2_with fail
    go_returns
    exact ⟨rfl, n, rfl⟩

theorem mul_of (a b : Int) (x y : Nat) (hx : x < 18446744073709551616) (hy : y < 18446744073709551616) (w : World)
    (c64 : Calls Tryd.prog 64 #[.int .u64 a, .int .u64 b] w fun e w' => e = .returned (.tuple #[.int .u64 (x : Int), .int .u64 (y : Int)]) ∧ w' = w) :
    Calls Tryd.prog 50 #[.int .u64 a, .int .u64 b] w (Draw (.int .u64 (((x * 18446744073709551616 + y) % P : Nat) : Int)) w) := by
  have HC := Lib.hid c64
  clear c64
  go_enter Tryd.func50, Tryd.ntmps50
  go_wp2_with fail
  refine HC.out.mono ?_
  rintro e w1 ⟨rfl, hw1⟩
  rw [hw1]
  clear hw1
  go_wp2_with fail
  refine (rem_any x y hx hy _).mono ?_
  rintro e w2 ⟨rfl, n, rfl⟩
  go_wp2_with fail
  go_returns
  exact ⟨rfl, n, rfl⟩
theorem mul_any (a b : Nat) (ha : a < 18446744073709551616) (hb : b < 18446744073709551616) (w : World) :
    Calls Tryd.prog 50 #[.int .u64 (a : Int), .int .u64 (b : Int)] w (Draw (.int .u64 ((a * b % P : Nat) : Int)) w) := by
  have h1 : a * b / 18446744073709551616 < 18446744073709551616 := Nat.div_lt_of_lt_mul (Nat.mul_lt_mul'' ha hb)
  have h2 : a * b % 18446744073709551616 < 18446744073709551616 := Nat.mod_lt _ (by omega)
  have h3 : a * b / 18446744073709551616 * 18446744073709551616 + a * b % 18446744073709551616 = a * b := Nat.div_add_mod' _ _
  have h := mul_of a b _ _ h1 h2 w (Tryd.bits_Mul64 a b ha hb w)
  rw [h3] at h
  exact h
end Go.Proofs.YtdbijjiolknbfaaDoor
