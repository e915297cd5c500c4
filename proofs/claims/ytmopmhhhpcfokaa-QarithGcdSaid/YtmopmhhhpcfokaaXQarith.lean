/- What the calls of package qarith tell, as plain numbers: sums, products, quotients, or that they are too great. Conditions: the arguments are numbers of 64 bits. -/
import Derived.Test.YtmopmhhhpcfokaaPAx1
import Derived.Test.YtmopmhhhpcfokaaPAx2
import Derived.Test.YtmopmhhhpcfokaaXNum
namespace Go.Proofs.YtmopmhhhpcfokaaX
open Go.RowKit Go.Proofs.YtmopmhhhpcfokaaW.PrintWords Go.Proofs.YtmopmhhhpcfokaaW.PrintMore Go.Proofs.Ytmopmhhhpcfokaa.PA

theorem pp_mul (a b : Int) : a * b = (a / 4294967296) * (b / 4294967296) * 18446744073709551616 + ((a / 4294967296) * (b % 4294967296) + (a % 4294967296) * (b / 4294967296)) * 4294967296 + (a % 4294967296) * (b % 4294967296) := by
  conv => lhs; rw [← Int.mul_ediv_add_emod a 4294967296, ← Int.mul_ediv_add_emod b 4294967296]
  generalize a / 4294967296 = ah
  generalize a % 4294967296 = al
  generalize b / 4294967296 = bh
  generalize b % 4294967296 = bl
  simp only [Int.add_mul, Int.mul_add]
  have e1 : 4294967296 * ah * (4294967296 * bh) = ah * bh * 18446744073709551616 := by
    rw [Int.mul_assoc, Int.mul_left_comm ah, ← Int.mul_assoc, Int.mul_comm _ (ah * bh)]
    rfl
  have e2 : al * (4294967296 * bh) = al * bh * 4294967296 := by rw [Int.mul_left_comm, Int.mul_comm]
  have e3 : 4294967296 * ah * bl = ah * bl * 4294967296 := by rw [Int.mul_assoc, Int.mul_comm]
  rw [e1, e2, e3]
  omega

theorem prod_le {a b A B : Int} (ha0 : 0 ≤ a) (ha : a ≤ A) (hb0 : 0 ≤ b) (hb : b ≤ B) : 0 ≤ a * b ∧ a * b ≤ A * B :=
  ⟨Int.mul_nonneg ha0 hb0, Int.mul_le_mul ha hb hb0 (Int.le_trans ha0 ha)⟩

theorem times_at {a b : Int} (ha0 : 0 ≤ a) (ha : a < 18446744073709551616) (hb0 : 0 ≤ b) (hb : b < 18446744073709551616) :
    qarith_times.f a b = some (a * b / 18446744073709551616, a * b % 18446744073709551616) := by
  have hp := pp_mul a b
  unfold qarith_times.f
  rw [and32 ha0 ha, and32 hb0 hb]
  have q0 := prod_le (a := a % 4294967296) (b := b % 4294967296) (A := 4294967295) (B := 4294967295) (by omega) (by omega) (by omega) (by omega)
  have q1 := prod_le (a := a / 4294967296) (b := b % 4294967296) (A := 4294967295) (B := 4294967295) (by omega) (by omega) (by omega) (by omega)
  have q2 := prod_le (a := a % 4294967296) (b := b / 4294967296) (A := 4294967295) (B := 4294967295) (by omega) (by omega) (by omega) (by omega)
  have q3 := prod_le (a := a / 4294967296) (b := b / 4294967296) (A := 4294967295) (B := 4294967295) (by omega) (by omega) (by omega) (by omega)
  generalize (a / 4294967296) * (b / 4294967296) = p3 at *
  generalize (a / 4294967296) * (b % 4294967296) = p1 at *
  generalize (a % 4294967296) * (b / 4294967296) = p2 at *
  generalize (a % 4294967296) * (b % 4294967296) = p0 at *
  generalize a * b = p at *
  clear ha0 ha hb0 hb
  rw [u64s (n := p3) (by omega) (by omega), u64s (n := p1) (by omega) (by omega), u64s (n := p2) (by omega) (by omega), u64s (n := p0) (by omega) (by omega)]
  rw [u64s (n := p1 + p0 / 4294967296) (by omega) (by omega)]
  rw [and32 (x := p1 + p0 / 4294967296) (by omega) (by omega), and32 (x := p0) (by omega) (by omega)]
  rw [u64s (n := p2 + (p1 + p0 / 4294967296) % 4294967296) (by omega) (by omega)]
  rw [u64s (n := p3 + (p1 + p0 / 4294967296) / 4294967296) (by omega) (by omega)]
  rw [u64s (n := p3 + (p1 + p0 / 4294967296) / 4294967296 + (p2 + (p1 + p0 / 4294967296) % 4294967296) / 4294967296) (by omega) (by omega)]
  rw [u64w, or32 (by omega) (by omega) (by omega) (by omega) (by omega)]
  congr 2 <;> omega

theorem two_pow_pos (n : Nat) : (0 : Int) < 2 ^ n := Int.pow_pos (by decide)
theorem pow_le64 {n : Nat} (h : n ≤ 64) : (2 : Int) ^ n ≤ 18446744073709551616 := by
  have := Nat.pow_le_pow_right (n := 2) (by decide) h
  have h2 : ((2 ^ n : Nat) : Int) ≤ ((2 ^ 64 : Nat) : Int) := Int.ofNat_le.2 this
  simpa using h2
theorem pow_le63 {n : Nat} (h : n ≤ 63) : (2 : Int) ^ n ≤ 9223372036854775808 := by
  have := Nat.pow_le_pow_right (n := 2) (by decide) h
  have h2 : ((2 ^ n : Nat) : Int) ≤ ((2 ^ 63 : Nat) : Int) := Int.ofNat_le.2 this
  simpa using h2

theorem over_loop (d w0 w1 : Int) (hd0 : 0 < d) (hd1 : d < 18446744073709551616) (hw0 : 0 ≤ w1) (hw1 : w1 < 18446744073709551616) :
    ∀ (n k : Nat) (q r : Int), n ≤ 64 → n < k → 0 ≤ r → r < d → 0 ≤ q → q % 2 ^ n = 0 → q + 2 ^ n ≤ 18446744073709551616 →
      qarith_wide_over.l0 k d q r ((n : Int) - 1) w0 w1 = some (q + (r * 2 ^ n + w1 % 2 ^ n) / d, (r * 2 ^ n + w1 % 2 ^ n) % d) := by
  intro n
  induction n with
  | zero =>
    intro k q r _ hk hr0 hr hq0 hq hqm
    obtain ⟨k, rfl⟩ : ∃ m, k = m + 1 := ⟨k - 1, by omega⟩
    simp only [qarith_wide_over.l0]
    rw [if_neg (by omega)]
    simp only [Int.pow_zero, Int.mul_one, Int.emod_one, Int.add_zero]
    rw [Int.ediv_eq_zero_of_lt hr0 hr, Int.emod_eq_of_lt hr0 hr, Int.add_zero]
  | succ m ih =>
    intro k q r hn hk hr0 hr hq0 hq hqm
    obtain ⟨k, rfl⟩ : ∃ m, k = m + 1 := ⟨k - 1, by omega⟩
    have hm := two_pow_pos m
    have hm64 : (2 : Int) ^ m ≤ 9223372036854775808 := pow_le63 (by omega)
    have hpow : (2 : Int) ^ (m + 1) = 2 * 2 ^ m := by rw [Int.pow_succ, Int.mul_comm]
    have hi : ((m + 1 : Nat) : Int) - 1 = (m : Int) := by omega
    rw [hi]
    simp only [qarith_wide_over.l0]
    rw [if_pos (by omega), if_pos (by omega)]
    have hshr : shr .u64 w1 (m : Int) = w1 / 2 ^ m := by
      unfold shr
      rw [Int.toNat_natCast, Nat.min_eq_left (show m ≤ IntKind.u64.bits from (show m ≤ 64 by omega))]
    have hshl : shl .u64 1 (m : Int) = 2 ^ m := by
      unfold shl
      rw [Int.toNat_natCast, Nat.min_eq_left (show m ≤ IntKind.u64.bits from (show m ≤ 64 by omega)), Int.one_mul]
      exact u64s (by omega) (by omega)
    rw [hshr, hshl]
    have hs0 : 0 ≤ w1 / 2 ^ m := Int.ediv_nonneg hw0 (by omega)
    have hs1 : w1 / 2 ^ m ≤ w1 := Int.ediv_le_self _ hw0
    rw [and1 hs0 (by omega), u64w (r * 2), or1 (x := r * 2 % 18446744073709551616) (y := w1 / 2 ^ m % 2) (by omega) (by omega) (by omega) (by omega) (by omega)]
    have hw : w1 % 2 ^ (m + 1) = (w1 / 2 ^ m % 2) * 2 ^ m + w1 % 2 ^ m := by
      rw [hpow]
      have h1 := Int.mul_ediv_add_emod w1 (2 ^ m)
      have h2 := Int.mul_ediv_add_emod (w1 / 2 ^ m) 2
      have h3 : w1 = (2 * 2 ^ m) * (w1 / 2 ^ m / 2) + ((w1 / 2 ^ m % 2) * 2 ^ m + w1 % 2 ^ m) := by
        conv => lhs; rw [← h1]
        conv => lhs; lhs; rw [← h2]
        rw [Int.mul_add, Int.mul_comm (2 ^ m) (2 * _), Int.mul_assoc, Int.mul_comm (w1 / 2 ^ m / 2), ← Int.mul_assoc, Int.add_assoc, Int.mul_comm (2 ^ m) (w1 / 2 ^ m % 2)]
      have hb := Int.emod_nonneg (w1 / 2 ^ m) (show (2 : Int) ≠ 0 by decide)
      have hb2 := Int.emod_lt_of_pos (w1 / 2 ^ m) (show (0 : Int) < 2 by decide)
      have hl0 := Int.emod_nonneg w1 (show (2 : Int) ^ m ≠ 0 by omega)
      have hl1 := Int.emod_lt_of_pos w1 hm
      have hbm : 0 ≤ (w1 / 2 ^ m % 2) * 2 ^ m ∧ (w1 / 2 ^ m % 2) * 2 ^ m ≤ 1 * 2 ^ m := prod_le hb (by omega) (by omega) (Int.le_refl _)
      conv => lhs; rw [h3]
      rw [Int.mul_add_emod_self_left]
      exact Int.emod_eq_of_lt (by omega) (by omega)
    have hb := Int.emod_nonneg (w1 / 2 ^ m) (show (2 : Int) ≠ 0 by decide)
    have hb2 := Int.emod_lt_of_pos (w1 / 2 ^ m) (show (0 : Int) < 2 by decide)
    have hval : r * 2 ^ (m + 1) + w1 % 2 ^ (m + 1) = (r * 2 + w1 / 2 ^ m % 2) * 2 ^ m + w1 % 2 ^ m := by
      rw [hw, hpow, Int.add_mul, Int.mul_assoc, Int.add_assoc]
    rw [hval]
    generalize w1 / 2 ^ m % 2 = b at *
    have hq2 : q % 2 ^ m = 0 := by
      have : (2 : Int) ^ m ∣ q := Int.dvd_trans ⟨2, by rw [hpow, Int.mul_comm]⟩ (Int.dvd_of_emod_eq_zero hq)
      exact Int.emod_eq_zero_of_dvd this
    have hor : Go.bits .or .u64 q (2 ^ m) = q + 2 ^ m := or_at (m + 1) hq0 (by omega) hq (by omega) (by omega) (by omega)
    have hq3 : (q + 2 ^ m) % 2 ^ m = 0 := by rw [Int.add_emod_right]; exact hq2
    have key : ∀ t : Int, t = r * 2 + b → d ≤ t → (qarith_wide_over.l0 k d (q + 2 ^ m) (t - d) (m - 1) w0 w1 = some (q + (t * 2 ^ m + w1 % 2 ^ m) / d, (t * 2 ^ m + w1 % 2 ^ m) % d)) := by
      intro t ht hdt
      rw [ih k (q + 2 ^ m) (t - d) (by omega) (by omega) (by omega) (by omega) (by omega) hq3 (by omega)]
      have e : t * 2 ^ m + w1 % 2 ^ m = ((t - d) * 2 ^ m + w1 % 2 ^ m) + d * 2 ^ m := by
        rw [Int.sub_mul]
        omega
      rw [e, Int.add_mul_ediv_left _ _ (by omega : d ≠ 0), Int.add_mul_emod_self_left]
      congr 2
      omega
    rw [hor]
    have hwr : wrap64 ((m : Int) - 1) = (m : Int) - 1 := w64 (by omega) (by omega)
    rw [hwr]
    by_cases htop : r / 9223372036854775808 = 1
    · rw [if_pos htop]
      have e : IntKind.u64.wrap (r * 2 % 18446744073709551616 + b - d) = (r * 2 + b) - d := by
        rw [u64w]
        omega
      rw [e]
      exact key _ rfl (by omega)
    · rw [if_neg htop]
      have e0 : r * 2 % 18446744073709551616 = r * 2 := by omega
      rw [e0]
      by_cases hge : r * 2 + b ≥ d
      · rw [if_pos hge, u64s (by omega) (by omega)]
        exact key _ rfl hge
      · rw [if_neg hge]
        exact ih k q (r * 2 + b) (by omega) (by omega) (by omega) (by omega) hq0 hq2 (by omega)

theorem over_at {k : Nat} (hk : 65 ≤ k) {w0 w1 d : Int} (h0 : 0 ≤ w0) (h1 : w0 < d) (hd1 : d < 18446744073709551616) (hw0 : 0 ≤ w1) (hw1 : w1 < 18446744073709551616) :
    qarith_wide_over.f k w0 w1 d = some ((w0 * 18446744073709551616 + w1) / d, (w0 * 18446744073709551616 + w1) % d) := by
  have h := over_loop d w0 w1 (by omega) hd1 hw0 hw1 64 k 0 w0 (by omega) (by omega) h0 h1 (by omega) (by decide) (by decide)
  unfold qarith_wide_over.f
  have e : ((64 : Nat) : Int) - 1 = 63 := rfl
  have e2 : (2 : Int) ^ 64 = 18446744073709551616 := rfl
  rw [e, e2] at h
  rw [h, Int.zero_add, Int.emod_eq_of_lt hw0 hw1]

/-! ### what the calls tell -/
def AddS (a b : Int) : Int × Int := if -9223372036854775808 ≤ a + b ∧ a + b ≤ 9223372036854775807 then (a + b, 0) else (0, 2)
def SubS (a b : Int) : Int × Int := if -9223372036854775808 ≤ a - b ∧ a - b ≤ 9223372036854775807 then (a - b, 0) else (0, 2)
def MulS (a b : Int) : Int × Int := if -9223372036854775808 ≤ a * b ∧ a * b ≤ 9223372036854775807 then (a * b, 0) else (0, 2)
def CeilS (a b : Int) : Int × Int := if a < 0 ∨ b ≤ 0 then (0, 1) else ((a + (b - 1)) / b, 0)
def MulDivQ (a b c : Int) (up : Bool) : Int := if up then (a * b + (c - 1)) / c else a * b / c
/-- What MulDiv tells. The second case is the fault that REPORT.md tells: where the quotient is 2^64 - 1 and something is left, rounding up comes round to 0. -/
def MulDivS (a b c : Int) (up : Bool) : Int × Int := if a < 0 ∨ b < 0 ∨ c ≤ 0 then (0, 1) else if up = true ∧ a * b / c = 18446744073709551615 ∧ ¬ a * b % c = 0 then (0, 0) else if MulDivQ a b c up ≤ 9223372036854775807 then (MulDivQ a b c up, 0) else (0, 2)

theorem Add_at {a b : Int} (ha : (Lit.int .i64 a).wf = true) (hb : (Lit.int .i64 b).wf = true) : qarith_Add.f a b = some (AddS a b) := by
  obtain ⟨ha0, ha1⟩ := wf64 ha
  obtain ⟨hb0, hb1⟩ := wf64 hb
  have hn := wrap64_range (a + b)
  unfold qarith_Add.f AddS
  have e : Go.bits .and .i64 (Go.bits .xor .i64 a (wrap64 (a + b))) (Go.bits .xor .i64 b (wrap64 (a + b))) < 0 ↔ ¬ (-9223372036854775808 ≤ a + b ∧ a + b ≤ 9223372036854775807) := by
    rw [and_neg (xor_range _ _).1 (xor_range _ _).2 (xor_range _ _).1 (xor_range _ _).2, xor_neg ha0 ha1 hn.1 hn.2, xor_neg hb0 hb1 hn.1 hn.2]
    unfold wrap64 at *
    omega
  by_cases c : -9223372036854775808 ≤ a + b ∧ a + b ≤ 9223372036854775807
  · rw [if_neg (fun h => e.1 h c), if_pos c, w64 c.1 c.2]
  · rw [if_pos (e.2 c), if_neg c]

theorem CeilDiv_at {a b : Int} (ha : (Lit.int .i64 a).wf = true) (hb : (Lit.int .i64 b).wf = true) : qarith_CeilDiv.f a b = some (CeilS a b) := by
  obtain ⟨ha0, ha1⟩ := wf64 ha
  obtain ⟨hb0, hb1⟩ := wf64 hb
  unfold qarith_CeilDiv.f CeilS
  by_cases h1 : a < 0
  · rw [if_pos h1, if_pos (.inl h1)]
  rw [if_neg h1]
  by_cases h2 : b ≤ 0
  · rw [if_pos h2, if_pos (.inr h2)]
  rw [if_neg h2, if_neg (show ¬ (a < 0 ∨ b ≤ 0) by omega), u64s (n := b) (by omega) (by omega), u64s (n := a) (by omega) (by omega), if_neg (show ¬ b = 0 by omega), u64s (n := a + b) (by omega) (by omega), u64s (n := a + b - 1) (by omega) (by omega)]
  rw [Int.tdiv_eq_ediv_of_nonneg (by omega)]
  have e : a + b - 1 = a + (b - 1) := by omega
  rw [e]
  have hq0 : 0 ≤ (a + (b - 1)) / b := Int.ediv_nonneg (by omega) (by omega)
  have hq1 : (a + (b - 1)) / b ≤ a := by
    have h : (a + (b - 1)) / b < a + 1 := Int.ediv_lt_of_lt_mul (by omega) (by
      have := Int.mul_le_mul_of_nonneg_left (show (1 : Int) ≤ b by omega) (show 0 ≤ a by omega)
      rw [Int.add_mul]
      omega)
    omega
  rw [u64s (by omega) (by omega), w64 (by omega) (by omega)]

theorem size_at {a : Int} (ha : (Lit.int .i64 a).wf = true) : qarith_size.f a = some (if a < 0 then -a else a) := by
  obtain ⟨ha0, ha1⟩ := wf64 ha
  unfold qarith_size.f
  by_cases h : a < 0
  · rw [if_pos h, if_pos h, u64w, u64w]
    congr 1
    omega
  · rw [if_neg h, if_neg h, u64s (by omega) (by omega)]

theorem Mul_at {k : Nat} (hk : 1 ≤ k) {a b : Int} (ha : (Lit.int .i64 a).wf = true) (hb : (Lit.int .i64 b).wf = true) : qarith_Mul.f k a b = some (MulS a b) := by
  obtain ⟨ha0, ha1⟩ := wf64 ha
  obtain ⟨hb0, hb1⟩ := wf64 hb
  obtain ⟨k, rfl⟩ : ∃ m, k = m + 1 := ⟨k - 1, by omega⟩
  unfold qarith_Mul.f
  rw [size_at ha, size_at hb]
  simp only [Option.bind_some]
  have hs : 0 ≤ (if a < 0 then -a else a) ∧ (if a < 0 then -a else a) ≤ 9223372036854775808 := by split <;> omega
  have ht : 0 ≤ (if b < 0 then -b else b) ∧ (if b < 0 then -b else b) ≤ 9223372036854775808 := by split <;> omega
  rw [times_at hs.1 (by omega) ht.1 (by omega)]
  simp only [Option.bind_some]
  have hp : (if a < 0 then -a else a) * (if b < 0 then -b else b) = if (decide (a < 0) != decide (b < 0)) = true then -(a * b) else a * b := by
    by_cases h1 : a < 0 <;> by_cases h2 : b < 0 <;> simp [h1, h2, Int.neg_mul, Int.mul_neg]
  have hP := prod_le hs.1 hs.2 ht.1 ht.2
  rw [hp] at hP ⊢
  clear hs ht hp
  unfold MulS
  generalize a * b = p at *
  generalize (decide (a < 0) != decide (b < 0)) = neg at *
  cases neg with
  | false =>
    simp only [Bool.false_eq_true, if_false] at hP ⊢
    by_cases h1 : p / 18446744073709551616 = 0
    · rw [if_pos h1]
      by_cases h2 : p % 18446744073709551616 ≤ 9223372036854775807
      · rw [if_pos h2]
        simp only [qarith_Mul.j0, Bool.not_false, if_true]
        have e : p % 18446744073709551616 = p := by omega
        rw [e, w64 (by omega) (by omega), if_pos (show -9223372036854775808 ≤ p ∧ p ≤ 9223372036854775807 by omega)]
      · rw [if_neg h2]
        simp only [qarith_Mul.j0, Bool.false_eq_true, if_false]
        rw [if_pos h1]
        have : ¬ (-9223372036854775808 ≤ p ∧ p ≤ 9223372036854775807) := by omega
        rw [if_neg this]
        split <;> rfl
    · rw [if_neg h1]
      simp only [qarith_Mul.j0, Bool.false_eq_true, if_false]
      rw [if_neg h1, if_neg (by omega)]
  | true =>
    simp only [if_true] at hP ⊢
    simp only [qarith_Mul.j0, Bool.not_true, Bool.false_eq_true, if_false, if_true, ite_self]
    by_cases h1 : -p / 18446744073709551616 = 0
    · rw [if_pos h1]
      by_cases h2 : -p % 18446744073709551616 ≤ 9223372036854775808
      · have e : -p % 18446744073709551616 = -p := by omega
        rw [if_pos h2, if_pos (by omega), e, u64w]
        have e2 : wrap64 (- -p % 18446744073709551616) = p := by
          unfold wrap64
          omega
        rw [e2]
      · rw [if_neg h2, if_neg (by omega)]
    · rw [if_neg h1, if_neg (by omega)]

theorem up_div {n c : Int} (hc : 0 < c) : (n + (c - 1)) / c = if n % c = 0 then n / c else n / c + 1 := by
  have h1 := Int.mul_ediv_add_emod n c
  have h2 := Int.emod_nonneg n (show c ≠ 0 by omega)
  have h3 := Int.emod_lt_of_pos n hc
  split
  · rename_i h
    have e : n + (c - 1) = (c - 1) + c * (n / c) := by omega
    rw [e, Int.add_mul_ediv_left _ _ (by omega : c ≠ 0), Int.ediv_eq_zero_of_lt (by omega) (by omega), Int.zero_add]
  · rename_i h
    have e : n + (c - 1) = (n % c - 1) + c * (n / c + 1) := by
      rw [Int.mul_add]
      omega
    rw [e, Int.add_mul_ediv_left _ _ (by omega : c ≠ 0), Int.ediv_eq_zero_of_lt (by omega) (by omega), Int.zero_add]

theorem MulDiv_at {k : Nat} (hk : 67 ≤ k) {a b c : Int} (up : Bool) (ha : (Lit.int .i64 a).wf = true) (hb : (Lit.int .i64 b).wf = true) (hc : (Lit.int .i64 c).wf = true) : qarith_MulDiv.f k a b c up = some (MulDivS a b c up) := by
  obtain ⟨ha0, ha1⟩ := wf64 ha
  obtain ⟨hb0, hb1⟩ := wf64 hb
  obtain ⟨hc0, hc1⟩ := wf64 hc
  obtain ⟨k, rfl⟩ : ∃ m, k = m + 1 := ⟨k - 1, by omega⟩
  unfold qarith_MulDiv.f MulDivS
  by_cases h1 : a < 0
  · rw [if_pos h1, if_pos (.inl h1)]
    rfl
  by_cases h2 : b < 0
  · rw [if_neg h1, if_pos h2, if_pos (.inr (.inl h2))]
    rfl
  by_cases h3 : c ≤ 0
  · rw [if_neg h1, if_neg h2, if_pos (.inr (.inr h3)), decide_eq_true h3]
    rfl
  rw [if_neg h1, if_neg h2, if_neg (by omega), decide_eq_false h3]
  simp only [qarith_MulDiv.j0, Bool.false_eq_true, if_false]
  rw [u64s (n := a) (by omega) (by omega), u64s (n := b) (by omega) (by omega), u64s (n := c) (by omega) (by omega), times_at (by omega) (by omega) (by omega) (by omega)]
  simp only [Option.bind_some]
  have hP := prod_le (a := a) (b := b) (A := 9223372036854775807) (B := 9223372036854775807) (by omega) ha1 (by omega) hb1
  unfold MulDivQ
  generalize a * b = p at *
  clear ha hb hc ha0 ha1 hb0 hb1
  have hsum : p / 18446744073709551616 * 18446744073709551616 + p % 18446744073709551616 = p := by omega
  by_cases h4 : p / 18446744073709551616 ≥ c
  · rw [if_pos h4]
    have hbig : 18446744073709551616 ≤ p / c := Int.le_ediv_of_mul_le (by omega) (by omega)
    have hbig2 : p / c ≤ (p + (c - 1)) / c := Int.ediv_le_ediv (by omega) (by omega)
    cases up with
    | false =>
      simp only [Bool.false_eq_true, if_false, false_and]
      rw [if_neg (by omega)]
    | true =>
      simp only [if_true, true_and]
      rw [if_neg (by omega), if_neg (by omega)]
  · rw [if_neg h4, over_at (by omega) (by omega) (by omega) (by omega) (by omega) (by omega), hsum]
    simp only [Option.bind_some]
    obtain ⟨k, rfl⟩ : ∃ m, k = m + 1 := ⟨k - 1, by omega⟩
    have hq0 : 0 ≤ p / c := Int.ediv_nonneg (by omega) (by omega)
    have hq1 : p / c < 18446744073709551616 := Int.ediv_lt_of_lt_mul (by omega) (by
      have := Int.mul_le_mul_of_nonneg_left (show p / 18446744073709551616 + 1 ≤ c by omega) (show (0 : Int) ≤ 18446744073709551616 by omega)
      omega)
    have hr0 := Int.emod_nonneg p (show c ≠ 0 by omega)
    have hup := up_div (n := p) (c := c) (by omega)
    generalize p / c = q at *
    cases up with
    | false =>
      simp only [qarith_MulDiv.j1, Bool.false_eq_true, if_false, false_and]
      by_cases h5 : q > 9223372036854775807
      · rw [if_pos h5, if_neg (by omega)]
      · rw [if_neg h5, if_pos (by omega), w64 (by omega) (by omega)]
    | true =>
      simp only [if_true, qarith_MulDiv.j1, decide_eq_true_eq, true_and]
      rw [hup]
      by_cases h6 : p % c = 0
      · rw [if_pos h6, if_neg (show ¬ p % c > 0 by omega)]
        have hn : ¬ (q = 18446744073709551615 ∧ ¬ p % c = 0) := fun h => h.2 h6
        by_cases h5 : q > 9223372036854775807
        · rw [if_pos h5, if_neg hn, if_neg (by omega)]
        · rw [if_neg h5, if_neg hn, if_pos (by omega), w64 (by omega) (by omega)]
      · rw [if_neg h6, if_pos (show p % c > 0 by omega), u64w]
        by_cases h7 : q = 18446744073709551615
        · subst h7
          have hy : (18446744073709551615 : Int) = 18446744073709551615 ∧ ¬ p % c = 0 := ⟨rfl, h6⟩
          have hz : ¬ ((18446744073709551615 : Int) + 1) % 18446744073709551616 > 9223372036854775807 := by decide
          have he : wrap64 (((18446744073709551615 : Int) + 1) % 18446744073709551616) = 0 := by
            unfold wrap64
            decide
          rw [if_pos hy, if_neg hz, he]
        · have e : (q + 1) % 18446744073709551616 = q + 1 := by omega
          have hn : ¬ (q = 18446744073709551615 ∧ ¬ p % c = 0) := fun h => h7 h.1
          rw [e, if_neg hn]
          by_cases h5 : q + 1 > 9223372036854775807
          · rw [if_pos h5, if_neg (by omega)]
          · rw [if_neg h5, if_pos (by omega), w64 (by omega) (by omega)]
end Go.Proofs.YtmopmhhhpcfokaaX
