/- What the calls of package qarith tell, as plain numbers: sums, products, quotients, or that they are too great. Conditions: the arguments are numbers of 64 bits. -/
import Derived.Test.YtabdnglgdbjbiaaX1
import Derived.Test.YtabdnglgdbjbiaaXN
namespace Go.Proofs.YtabdnglgdbjbiaaQ
open Go Go.Proofs.YtabdnglgdbjbiaaM Go.Proofs.YtabdnglgdbjbiaaX Go.Proofs.YtabdnglgdbjbiaaL
set_option linter.unusedVariables false
set_option linter.unusedSimpArgs false

def AddS (a b : Int) : Int × Int := if -9223372036854775808 ≤ a + b ∧ a + b ≤ 9223372036854775807 then (a + b, 0) else (0, 2)
def MulS (a b : Int) : Int × Int := if -9223372036854775808 ≤ a * b ∧ a * b ≤ 9223372036854775807 then (a * b, 0) else (0, 2)
def CeilS (a b : Int) : Int × Int := if a < 0 ∨ b ≤ 0 then (0, 1) else ((a + (b - 1)) / b, 0)
theorem AddS_ok {a b : Int} (h0 : -9223372036854775808 ≤ a + b) (h1 : a + b ≤ 9223372036854775807) : AddS a b = (a + b, 0) := by
  unfold AddS
  rw [if_pos ⟨h0, h1⟩]
theorem AddS_over {a b : Int} (h : ¬ (-9223372036854775808 ≤ a + b ∧ a + b ≤ 9223372036854775807)) : AddS a b = (0, 2) := by
  unfold AddS
  rw [if_neg h]
theorem MulS_ok {a b : Int} (h0 : -9223372036854775808 ≤ a * b) (h1 : a * b ≤ 9223372036854775807) : MulS a b = (a * b, 0) := by
  unfold MulS
  rw [if_pos ⟨h0, h1⟩]
theorem MulS_over {a b : Int} (h : ¬ (-9223372036854775808 ≤ a * b ∧ a * b ≤ 9223372036854775807)) : MulS a b = (0, 2) := by
  unfold MulS
  rw [if_neg h]
/-- A number and an error, as a call gives them. -/
abbrev two (p : Int × Int) : ((Int × (Int × Unit)) × Unit) := ((p.1, p.2, ()), ())

theorem add_at {N : Nat} {a b : Int} (ha : (Lit.int .i64 a).wf = true) (hb : (Lit.int .i64 b).wf = true) : Add_25 N ((a, b, ()), ()) = some (two (AddS a b)) := by
  obtain ⟨ha0, ha1⟩ := wf64 ha
  obtain ⟨hb0, hb1⟩ := wf64 hb
  have hn := w64_range (a + b)
  unfold Add_25 AddS
  have e := and_neg (xor_range a (IntKind.wrap .i64 (a + b))).1 (xor_range _ _).2 (xor_range b (IntKind.wrap .i64 (a + b))).1 (xor_range _ _).2
  rw [xor_neg ha0 ha1 hn.1 hn.2, xor_neg hb0 hb1 hn.1 hn.2] at e
  dsimp only
  by_cases c : -9223372036854775808 ≤ a + b ∧ a + b ≤ 9223372036854775807
  · have e2 := w64 c.1 c.2
    rw [e2] at e ⊢
    rw [if_pos c, byB_f]
    intro h
    have := e.1 h
    omega
  · rw [if_neg c, byB_t]
    refine e.2 ?_
    rw [w64_def]
    omega
theorem ceil_at {N : Nat} {a b : Int} (ha : (Lit.int .i64 a).wf = true) (hb : (Lit.int .i64 b).wf = true) : CeilDiv_35 N ((a, b, ()), ()) = some (two (CeilS a b)) := by
  obtain ⟨ha0, ha1⟩ := wf64 ha
  obtain ⟨hb0, hb1⟩ := wf64 hb
  unfold CeilDiv_35 CeilS
  dsimp only
  by_cases h1 : a < 0
  · rw [byB_t h1, if_pos (.inl h1)]
  rw [byB_f h1]
  by_cases h2 : b ≤ 0
  · rw [byB_t h2, if_pos (.inr h2)]
  rw [byB_f h2, if_neg (show ¬ (a < 0 ∨ b ≤ 0) by omega), wu64 (n := b) (by omega) (by omega), wu64 (n := a) (by omega) (by omega), if_neg (show ¬ b = 0 by omega), wu64 (n := a + b) (by omega) (by omega), wu64 (n := a + b - 1) (by omega) (by omega)]
  rw [Int.tdiv_eq_ediv_of_nonneg (by omega)]
  have e : a + b - 1 = a + (b - 1) := by omega
  rw [e]
  have hq0 : 0 ≤ (a + (b - 1)) / b := Int.ediv_nonneg (by omega) (by omega)
  have hq1 : (a + (b - 1)) / b ≤ a := by
    have h : (a + (b - 1)) / b < a + 1 := Int.ediv_lt_of_lt_mul (by omega) (by
      have := Int.mul_le_mul_of_nonneg_left (show (1 : Int) ≤ b by omega) (show 0 ≤ a by omega)
      rw [Int.add_mul]
      omega)
    omega
  rw [wu64 (by omega) (by omega), w64 (by omega) (by omega)]
theorem size_at {N : Nat} {a : Int} (ha : (Lit.int .i64 a).wf = true) : size_37 N ((a, ()), ()) = some ((if a < 0 then -a else a, ()), ()) := by
  obtain ⟨ha0, ha1⟩ := wf64 ha
  unfold size_37
  dsimp only
  by_cases h : a < 0
  · rw [byB_t h, if_pos h, wu64_def, wu64_def]
    congr 3
    omega
  · rw [byB_f h, if_neg h, wu64 (by omega) (by omega)]

theorem times_at {N : Nat} {a b : Int} (ha0 : 0 ≤ a) (ha : a < 18446744073709551616) (hb0 : 0 ≤ b) (hb : b < 18446744073709551616) :
    times_36 N ((a, b, ()), ()) = some (((a * b / 18446744073709551616, a * b % 18446744073709551616, ()), ()), ()) := by
  have hp := pp_mul a b
  unfold times_36
  dsimp only
  have e32 : (2 : Int) ^ 32 = 4294967296 := rfl
  have fd : ∀ {x : Int}, 0 ≤ x → Int.fdiv x 4294967296 = x / 4294967296 := fun h => Int.fdiv_eq_ediv_of_nonneg _ (by decide)
  rw [and32 ha0 ha, and32 hb0 hb, e32, fd ha0, fd hb0]
  have q0 := prod_le (a := a % 4294967296) (b := b % 4294967296) (A := 4294967295) (B := 4294967295) (by omega) (by omega) (by omega) (by omega)
  have q1 := prod_le (a := a / 4294967296) (b := b % 4294967296) (A := 4294967295) (B := 4294967295) (by omega) (by omega) (by omega) (by omega)
  have q2 := prod_le (a := a % 4294967296) (b := b / 4294967296) (A := 4294967295) (B := 4294967295) (by omega) (by omega) (by omega) (by omega)
  have q3 := prod_le (a := a / 4294967296) (b := b / 4294967296) (A := 4294967295) (B := 4294967295) (by omega) (by omega) (by omega) (by omega)
  generalize (a / 4294967296) * (b / 4294967296) = p3 at *
  generalize (a / 4294967296) * (b % 4294967296) = p1 at *
  generalize (a % 4294967296) * (b / 4294967296) = p2 at *
  generalize (a % 4294967296) * (b % 4294967296) = p0 at *
  generalize a * b = p at *
  clear ha0 ha hb0 hb
  rw [wu64 (n := p3) (by omega) (by omega), wu64 (n := p1) (by omega) (by omega), wu64 (n := p2) (by omega) (by omega), wu64 (n := p0) (by omega) (by omega)]
  rw [fd (x := p0) (by omega)]
  rw [wu64 (n := p1 + p0 / 4294967296) (by omega) (by omega)]
  rw [and32 (x := p1 + p0 / 4294967296) (by omega) (by omega), and32 (x := p0) (by omega) (by omega), fd (x := p1 + p0 / 4294967296) (by omega)]
  rw [wu64 (n := p2 + (p1 + p0 / 4294967296) % 4294967296) (by omega) (by omega)]
  rw [wu64 (n := p3 + (p1 + p0 / 4294967296) / 4294967296) (by omega) (by omega), fd (x := p2 + (p1 + p0 / 4294967296) % 4294967296) (by omega)]
  rw [wu64 (n := p3 + (p1 + p0 / 4294967296) / 4294967296 + (p2 + (p1 + p0 / 4294967296) % 4294967296) / 4294967296) (by omega) (by omega)]
  rw [wu64_def ((p2 + (p1 + p0 / 4294967296) % 4294967296) * 4294967296), or32 (by omega) (by omega) (by omega) (by omega) (by omega)]
  congr 4
  · omega
  · congr 1
    omega

theorem over_loop {N : Nat} (d w0 w1 : Int) (hd0 : 0 < d) (hd1 : d < 18446744073709551616) (hw0 : 0 ≤ w1) (hw1 : w1 < 18446744073709551616) :
    ∀ (n k : Nat) (q r : Int), n ≤ 64 → n < k → 0 ≤ r → r < d → 0 ≤ q → q % 2 ^ n = 0 → q + 2 ^ n ≤ 18446744073709551616 →
      loopN k (over_43_L3 N) ((d, (), q, r, (n : Int) - 1, ()), (w0, w1, ()), ()) = some (two (q + (r * 2 ^ n + w1 % 2 ^ n) / d, (r * 2 ^ n + w1 % 2 ^ n) % d)) := by
  intro n
  induction n with
  | zero =>
    intro k q r _ hk hr0 hr hq0 hq hqm
    obtain ⟨k, rfl⟩ : ∃ m, k = m + 1 := ⟨k - 1, by omega⟩
    rw [loopN_succ, over_43_L3]
    dsimp only
    rw [byB_f (by omega)]
    simp only [two, Int.pow_zero, Int.mul_one, Int.emod_one, Int.add_zero]
    rw [Int.ediv_eq_zero_of_lt hr0 hr, Int.emod_eq_of_lt hr0 hr, Int.add_zero]
  | succ m ih =>
    intro k q r hn hk hr0 hr hq0 hq hqm
    obtain ⟨k, rfl⟩ : ∃ m, k = m + 1 := ⟨k - 1, by omega⟩
    have hm := two_pow_pos m
    have hm64 : (2 : Int) ^ m ≤ 9223372036854775808 := pow_le63 (by omega)
    have hpow : (2 : Int) ^ (m + 1) = 2 * 2 ^ m := by rw [Int.pow_succ, Int.mul_comm]
    have hi : ((m + 1 : Nat) : Int) - 1 = (m : Int) := by omega
    rw [hi, loopN_succ, over_43_L3]
    dsimp only
    have hmin : min (m : Int).toNat (IntKind.bits .u64) = m := by rw [Int.toNat_natCast, Nat.min_eq_left (show m ≤ IntKind.u64.bits from (show m ≤ 64 by omega))]
    rw [byB_t (by omega), if_neg (by omega), if_neg (by omega), hmin, fdiv_pow hw0, Int.one_mul, wu64 (n := 2 ^ m) (by omega) (by omega)]
    have e1 : (2 : Int) ^ 1 = 2 := rfl
    have e63 : (2 : Int) ^ 63 = 9223372036854775808 := rfl
    rw [fdiv_pow hr0, e1, e63]
    have hs0 : 0 ≤ w1 / 2 ^ m := Int.ediv_nonneg hw0 (by omega)
    have hs1 : w1 / 2 ^ m ≤ w1 := Int.ediv_le_self _ hw0
    rw [and1 hs0 (by omega), wu64_def (r * 2), or1 (x := r * 2 % 18446744073709551616) (y := w1 / 2 ^ m % 2) (by omega) (by omega) (by omega) (by omega) (by omega)]
    have hw : w1 % 2 ^ (m + 1) = (w1 / 2 ^ m % 2) * 2 ^ m + w1 % 2 ^ m := by
      rw [hpow]
      have h1 := Int.mul_ediv_add_emod w1 (2 ^ m)
      have h2 := Int.mul_ediv_add_emod (w1 / 2 ^ m) 2
      have h3 : w1 = (2 * 2 ^ m) * (w1 / 2 ^ m / 2) + ((w1 / 2 ^ m % 2) * 2 ^ m + w1 % 2 ^ m) := by
        conv => lhs; rw [← h1]
        conv => lhs; lhs; rw [← h2]
        rw [Int.mul_add, Int.mul_comm (2 ^ m) (2 * _), Int.mul_assoc, Int.mul_comm (w1 / 2 ^ m / 2), ← Int.mul_assoc, Int.add_assoc, Int.mul_comm (2 ^ m) (w1 / 2 ^ m % 2)]
      have hb := Int.emod_nonneg (w1 / 2 ^ m) (show (2 : Int) ≠ 0 by decide)
      have hb2 := Int.emod_lt_of_pos (w1 / 2 ^ m) (show (0 : Int) < 2 by decide)
      have hl0 := Int.emod_nonneg w1 (show (2 : Int) ^ m ≠ 0 by omega)
      have hl1 := Int.emod_lt_of_pos w1 hm
      have hbm : 0 ≤ (w1 / 2 ^ m % 2) * 2 ^ m ∧ (w1 / 2 ^ m % 2) * 2 ^ m ≤ 1 * 2 ^ m := prod_le hb (by omega) (by omega) (Int.le_refl _)
      conv => lhs; rw [h3]
      rw [Int.mul_add_emod_self_left]
      exact Int.emod_eq_of_lt (by omega) (by omega)
    have hb := Int.emod_nonneg (w1 / 2 ^ m) (show (2 : Int) ≠ 0 by decide)
    have hb2 := Int.emod_lt_of_pos (w1 / 2 ^ m) (show (0 : Int) < 2 by decide)
    have hval : r * 2 ^ (m + 1) + w1 % 2 ^ (m + 1) = (r * 2 + w1 / 2 ^ m % 2) * 2 ^ m + w1 % 2 ^ m := by
      rw [hw, hpow, Int.add_mul, Int.mul_assoc, Int.add_assoc]
    rw [hval]
    generalize w1 / 2 ^ m % 2 = b at *
    have hq2 : q % 2 ^ m = 0 := by
      have : (2 : Int) ^ m ∣ q := Int.dvd_trans ⟨2, by rw [hpow, Int.mul_comm]⟩ (Int.dvd_of_emod_eq_zero hq)
      exact Int.emod_eq_zero_of_dvd this
    rw [or_at (m + 1) hq0 (by omega) hq (by omega) (by omega) (by omega)]
    have hq3 : (q + 2 ^ m) % 2 ^ m = 0 := by rw [Int.add_emod_right]; exact hq2
    have key : ∀ t : Int, t = r * 2 + b → d ≤ t → (loopN k (over_43_L3 N) ((d, (), q + 2 ^ m, t - d, (m : Int) - 1, ()), (w0, w1, ()), ()) = some (two (q + (t * 2 ^ m + w1 % 2 ^ m) / d, (t * 2 ^ m + w1 % 2 ^ m) % d))) := by
      intro t ht hdt
      rw [ih k (q + 2 ^ m) (t - d) (by omega) (by omega) (by omega) (by omega) (by omega) hq3 (by omega)]
      have e : t * 2 ^ m + w1 % 2 ^ m = ((t - d) * 2 ^ m + w1 % 2 ^ m) + d * 2 ^ m := by
        rw [Int.sub_mul]
        omega
      rw [e, Int.add_mul_ediv_left _ _ (by omega : d ≠ 0), Int.add_mul_emod_self_left]
      have e9 : q + 2 ^ m + ((t - d) * 2 ^ m + w1 % 2 ^ m) / d = q + (((t - d) * 2 ^ m + w1 % 2 ^ m) / d + 2 ^ m) := by omega
      rw [e9]
    have hwr : IntKind.wrap .i64 ((m : Int) - 1) = (m : Int) - 1 := w64 (by omega) (by omega)
    rw [hwr]
    by_cases htop : r / 9223372036854775808 = 1
    · rw [byB_eqt htop]
      have e : IntKind.wrap .u64 (r * 2 % 18446744073709551616 + b - d) = (r * 2 + b) - d := by
        rw [wu64_def]
        omega
      rw [e]
      exact key _ rfl (by omega)
    · rw [byB_eqf htop]
      have e0 : r * 2 % 18446744073709551616 = r * 2 := by omega
      rw [e0]
      by_cases hge : r * 2 + b ≥ d
      · rw [byB_t hge, wu64 (by omega) (by omega)]
        exact key _ rfl hge
      · rw [byB_f hge]
        exact ih k q (r * 2 + b) (by omega) (by omega) (by omega) (by omega) hq0 hq2 (by omega)

theorem over_at {N : Nat} (hk : 65 ≤ N) {w0 w1 d : Int} (h0 : 0 ≤ w0) (h1 : w0 < d) (hd1 : d < 18446744073709551616) (hw0 : 0 ≤ w1) (hw1 : w1 < 18446744073709551616) :
    over_43 N (((w0, w1, ()), d, ()), ()) = some (two ((w0 * 18446744073709551616 + w1) / d, (w0 * 18446744073709551616 + w1) % d)) := by
  have h := over_loop (N := N) d w0 w1 (by omega) hd1 hw0 hw1 64 N 0 w0 (by omega) (by omega) h0 h1 (by omega) (by decide) (by decide)
  unfold over_43
  dsimp only
  have e : ((64 : Nat) : Int) - 1 = 63 := rfl
  have e2 : (2 : Int) ^ 64 = 18446744073709551616 := rfl
  rw [e, e2] at h
  rw [h, Int.zero_add, Int.emod_eq_of_lt hw0 hw1]

theorem mul_at {N : Nat} {a b : Int} (ha : (Lit.int .i64 a).wf = true) (hb : (Lit.int .i64 b).wf = true) : Mul_24 N ((a, b, ()), ()) = some (two (MulS a b)) := by
  obtain ⟨ha0, ha1⟩ := wf64 ha
  obtain ⟨hb0, hb1⟩ := wf64 hb
  unfold Mul_24
  dsimp only
  rw [size_at ha, bnd, size_at hb, bnd]
  have hs : 0 ≤ (if a < 0 then -a else a) ∧ (if a < 0 then -a else a) ≤ 9223372036854775808 := by split <;> omega
  have ht : 0 ≤ (if b < 0 then -b else b) ∧ (if b < 0 then -b else b) ≤ 9223372036854775808 := by split <;> omega
  dsimp only
  rw [times_at hs.1 (by omega) ht.1 (by omega), bnd]
  dsimp only
  have hp : (if a < 0 then -a else a) * (if b < 0 then -b else b) = if (decide (a < 0) == decide (b < 0)) = true then a * b else -(a * b) := by
    by_cases h1 : a < 0 <;> by_cases h2 : b < 0 <;> simp [h1, h2, Int.neg_mul, Int.mul_neg]
  have hP := prod_le hs.1 hs.2 ht.1 ht.2
  rw [hp] at hP ⊢
  clear hs ht hp
  unfold MulS
  generalize a * b = p at *
  generalize (decide (a < 0) == decide (b < 0)) = same at *
  cases same with
  | true =>
    simp only [Bool.not_true, if_true, byB_false, byB_true, byB_not] at hP ⊢
    by_cases h1 : p / 18446744073709551616 = 0
    · by_cases h2 : p % 18446744073709551616 ≤ 9223372036854775807
      · have e : p % 18446744073709551616 = p := by omega
        rw [byB_eqt h1, byB_t h2, e, w64 (by omega) (by omega), if_pos (show -9223372036854775808 ≤ p ∧ p ≤ 9223372036854775807 by omega)]
      · have : ¬ (-9223372036854775808 ≤ p ∧ p ≤ 9223372036854775807) := by omega
        rw [byB_eqt h1, byB_f h2, if_neg this]
        simp only [byB_same, byB_eqt h1, two]
    · rw [byB_eqf h1, if_neg (by omega)]
      simp only [byB_same, byB_eqf h1, two]
  | false =>
    simp only [Bool.not_false, Bool.false_eq_true, if_false, byB_false, byB_true, byB_not] at hP ⊢
    by_cases h1 : -p / 18446744073709551616 = 0
    · by_cases h2 : -p % 18446744073709551616 ≤ 9223372036854775808
      · have e : -p % 18446744073709551616 = -p := by omega
        have e2 : IntKind.wrap .i64 (IntKind.wrap .u64 (0 - -p)) = p := by
          rw [wu64_def, w64_def]
          omega
        simp only [byB_same, byB_eqt h1, byB_t h2, two]
        rw [if_pos (by omega), e, e2]
      · simp only [byB_same, byB_eqt h1, byB_f h2, two]
        rw [if_neg (by omega)]
    · simp only [byB_same, byB_eqf h1, two]
      rw [if_neg (by omega)]
end Go.Proofs.YtabdnglgdbjbiaaQ
