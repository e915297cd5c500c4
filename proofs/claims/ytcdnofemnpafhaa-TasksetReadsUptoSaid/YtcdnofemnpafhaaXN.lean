/- Plain facts on whole numbers as the functions spell them: masks, shifts, signs, products by halves. Conditions: as each theorem states them. -/
import Derived.Laws.BitsLemmas
import Derived.Test.YtcdnofemnpafhaaPL
namespace Go.Proofs.YtcdnofemnpafhaaL
open Go Go.Proofs.YtcdnofemnpafhaaM
set_option linter.unusedVariables false

theorem wraps_u64 (n : Int) (h₀ : 0 ≤ n) (h₁ : n < 2 ^ 64) : IntKind.wrap .u64 n = n := wu64 h₀ (by simpa using h₁)
theorem and32 {x : Int} (h0 : 0 ≤ x) (h1 : x < 18446744073709551616) : IntKind.wrap .u64 (BitVec.ofInt (IntKind.bits .u64) x &&& BitVec.ofInt (IntKind.bits .u64) 4294967295).toNat = x % 4294967296 := by
  have := bits_mask .u64 64 (by decide) wraps_u64 32 (by decide) x h0 (by simpa using h1)
  have e : (2 : Int) ^ 32 = 4294967296 := rfl
  rw [e] at this
  exact this
theorem and1 {x : Int} (h0 : 0 ≤ x) (h1 : x < 18446744073709551616) : IntKind.wrap .u64 (BitVec.ofInt (IntKind.bits .u64) x &&& BitVec.ofInt (IntKind.bits .u64) 1).toNat = x % 2 := by
  have := bits_mask .u64 64 (by decide) wraps_u64 1 (by decide) x h0 (by simpa using h1)
  have e : (2 : Int) ^ 1 = 2 := rfl
  rw [e] at this
  exact this
theorem or_at {x y : Int} (i : Nat) (hx0 : 0 ≤ x) (hx1 : x < 18446744073709551616) (hx : x % 2 ^ i = 0) (hy0 : 0 ≤ y) (hy : y < 2 ^ i) (hy1 : y < 18446744073709551616) : IntKind.wrap .u64 (BitVec.ofInt (IntKind.bits .u64) x ||| BitVec.ofInt (IntKind.bits .u64) y).toNat = x + y :=
  bits_join .u64 64 (by decide) wraps_u64 i x y hx0 hx (by simpa using hx1) hy0 hy (by simpa using hy1)
theorem or32 {x y : Int} (hx0 : 0 ≤ x) (hx1 : x < 18446744073709551616) (hx : x % 4294967296 = 0) (hy0 : 0 ≤ y) (hy : y < 4294967296) : IntKind.wrap .u64 (BitVec.ofInt (IntKind.bits .u64) x ||| BitVec.ofInt (IntKind.bits .u64) y).toNat = x + y :=
  or_at 32 hx0 hx1 (by simpa using hx) hy0 (by simpa using hy) (by omega)
theorem or1 {x y : Int} (hx0 : 0 ≤ x) (hx1 : x < 18446744073709551616) (hx : x % 2 = 0) (hy0 : 0 ≤ y) (hy : y < 2) : IntKind.wrap .u64 (BitVec.ofInt (IntKind.bits .u64) x ||| BitVec.ofInt (IntKind.bits .u64) y).toNat = x + y :=
  or_at 1 hx0 hx1 (by simpa using hx) hy0 (by simpa using hy) (by omega)

/-! signs -/
theorem i64_toInt (b : BitVec 64) : IntKind.wrap .i64 (b.toNat : Int) = b.toInt := by
  rw [IntKind.wrap_i64, BitVec.toInt_eq_toNat_cond]
  have := b.isLt
  split <;> omega
theorem ofInt_neg {x : Int} (h0 : -9223372036854775808 ≤ x) (h1 : x ≤ 9223372036854775807) : (BitVec.ofInt 64 x).msb = decide (x < 0) := by
  have h : (BitVec.ofInt 64 x).toInt = x := by
    rw [BitVec.toInt_ofInt]
    simp only [Int.bmod]
    omega
  rw [BitVec.msb_eq_toInt, h]
theorem and_neg {x y : Int} (hx0 : -9223372036854775808 ≤ x) (hx1 : x ≤ 9223372036854775807) (hy0 : -9223372036854775808 ≤ y) (hy1 : y ≤ 9223372036854775807) : IntKind.wrap .i64 (BitVec.ofInt (IntKind.bits .i64) x &&& BitVec.ofInt (IntKind.bits .i64) y).toNat < 0 ↔ x < 0 ∧ y < 0 := by
  have h : IntKind.wrap .i64 (BitVec.ofInt (IntKind.bits .i64) x &&& BitVec.ofInt (IntKind.bits .i64) y).toNat = (BitVec.ofInt 64 x &&& BitVec.ofInt 64 y).toInt := i64_toInt _
  rw [h]
  have e := BitVec.msb_eq_toInt (x := BitVec.ofInt 64 x &&& BitVec.ofInt 64 y)
  rw [BitVec.msb_and, ofInt_neg hx0 hx1, ofInt_neg hy0 hy1] at e
  constructor
  · intro hn
    rw [decide_eq_true hn] at e
    simpa using e
  · rintro ⟨a, b⟩
    rw [decide_eq_true a, decide_eq_true b] at e
    exact of_decide_eq_true e.symm
theorem xor_neg {x y : Int} (hx0 : -9223372036854775808 ≤ x) (hx1 : x ≤ 9223372036854775807) (hy0 : -9223372036854775808 ≤ y) (hy1 : y ≤ 9223372036854775807) : IntKind.wrap .i64 (BitVec.ofInt (IntKind.bits .i64) x ^^^ BitVec.ofInt (IntKind.bits .i64) y).toNat < 0 ↔ ¬ (x < 0 ↔ y < 0) := by
  have h : IntKind.wrap .i64 (BitVec.ofInt (IntKind.bits .i64) x ^^^ BitVec.ofInt (IntKind.bits .i64) y).toNat = (BitVec.ofInt 64 x ^^^ BitVec.ofInt 64 y).toInt := i64_toInt _
  rw [h]
  have e := BitVec.msb_eq_toInt (x := BitVec.ofInt 64 x ^^^ BitVec.ofInt 64 y)
  rw [BitVec.msb_xor, ofInt_neg hx0 hx1, ofInt_neg hy0 hy1] at e
  generalize (BitVec.ofInt 64 x ^^^ BitVec.ofInt 64 y).toInt = z at e ⊢
  by_cases a : x < 0 <;> by_cases b : y < 0 <;> by_cases c : z < 0 <;> simp only [a, b, c, decide_true, decide_false, Bool.xor_true, Bool.xor_false, Bool.not_true, Bool.not_false, reduceCtorEq, not_true_eq_false, not_false_eq_true, iff_true, iff_false] at e ⊢
theorem xor_range (x y : Int) : -9223372036854775808 ≤ IntKind.wrap .i64 (BitVec.ofInt (IntKind.bits .i64) x ^^^ BitVec.ofInt (IntKind.bits .i64) y).toNat ∧ IntKind.wrap .i64 (BitVec.ofInt (IntKind.bits .i64) x ^^^ BitVec.ofInt (IntKind.bits .i64) y).toNat ≤ 9223372036854775807 := w64_range _

/-! products, powers, quotients -/
theorem pp_mul (a b : Int) : a * b = (a / 4294967296) * (b / 4294967296) * 18446744073709551616 + ((a / 4294967296) * (b % 4294967296) + (a % 4294967296) * (b / 4294967296)) * 4294967296 + (a % 4294967296) * (b % 4294967296) := by
  conv => lhs; rw [← Int.mul_ediv_add_emod a 4294967296, ← Int.mul_ediv_add_emod b 4294967296]
  generalize a / 4294967296 = ah
  generalize a % 4294967296 = al
  generalize b / 4294967296 = bh
  generalize b % 4294967296 = bl
  simp only [Int.add_mul, Int.mul_add]
  have e1 : 4294967296 * ah * (4294967296 * bh) = ah * bh * 18446744073709551616 := by
    rw [Int.mul_assoc, Int.mul_left_comm ah, ← Int.mul_assoc, Int.mul_comm _ (ah * bh)]
    rfl
  have e2 : al * (4294967296 * bh) = al * bh * 4294967296 := by rw [Int.mul_left_comm, Int.mul_comm]
  have e3 : 4294967296 * ah * bl = ah * bl * 4294967296 := by rw [Int.mul_assoc, Int.mul_comm]
  rw [e1, e2, e3]
  omega
theorem prod_le {a b A B : Int} (ha0 : 0 ≤ a) (ha : a ≤ A) (hb0 : 0 ≤ b) (hb : b ≤ B) : 0 ≤ a * b ∧ a * b ≤ A * B :=
  ⟨Int.mul_nonneg ha0 hb0, Int.mul_le_mul ha hb hb0 (Int.le_trans ha0 ha)⟩
theorem two_pow_pos (n : Nat) : (0 : Int) < 2 ^ n := Int.pow_pos (by decide)
theorem pow_le64 {n : Nat} (h : n ≤ 64) : (2 : Int) ^ n ≤ 18446744073709551616 := by
  have := Nat.pow_le_pow_right (n := 2) (by decide) h
  have h2 : ((2 ^ n : Nat) : Int) ≤ ((2 ^ 64 : Nat) : Int) := Int.ofNat_le.2 this
  simpa using h2
theorem pow_le63 {n : Nat} (h : n ≤ 63) : (2 : Int) ^ n ≤ 9223372036854775808 := by
  have := Nat.pow_le_pow_right (n := 2) (by decide) h
  have h2 : ((2 ^ n : Nat) : Int) ≤ ((2 ^ 63 : Nat) : Int) := Int.ofNat_le.2 this
  simpa using h2
theorem up_div {n c : Int} (hc : 0 < c) : (n + (c - 1)) / c = if n % c = 0 then n / c else n / c + 1 := by
  have h1 := Int.mul_ediv_add_emod n c
  have h2 := Int.emod_nonneg n (show c ≠ 0 by omega)
  have h3 := Int.emod_lt_of_pos n hc
  split
  · rename_i h
    have e : n + (c - 1) = (c - 1) + c * (n / c) := by omega
    rw [e, Int.add_mul_ediv_left _ _ (by omega : c ≠ 0), Int.ediv_eq_zero_of_lt (by omega) (by omega), Int.zero_add]
  · rename_i h
    have e : n + (c - 1) = (n % c - 1) + c * (n / c + 1) := by
      rw [Int.mul_add]
      omega
    rw [e, Int.add_mul_ediv_left _ _ (by omega : c ≠ 0), Int.ediv_eq_zero_of_lt (by omega) (by omega), Int.zero_add]
theorem div_of {W c q r : Int} (hc : 0 < c) (h : W = q * c + r) (h0 : 0 ≤ r) (h1 : r < c) : W / c = q ∧ W % c = r := by
  subst h
  rw [Int.add_comm, Int.add_mul_ediv_right _ _ (by omega), Int.ediv_eq_zero_of_lt h0 h1, Int.add_mul_emod_self_right, Int.emod_eq_of_lt h0 h1]
  omega
theorem tmod_small (p b : Int) (hb : b ≠ 0) : (Int.tmod p b).natAbs < b.natAbs := by
  rw [Int.natAbs_tmod]
  exact Nat.mod_lt _ (by omega)
theorem fdiv_pow {a : Int} (h : 0 ≤ a) (k : Nat) : Int.fdiv a (2 ^ k) = a / 2 ^ k := Int.fdiv_eq_ediv_of_nonneg _ (by exact Int.pow_nonneg (by omega))
/-- Whether the product is a number of 64 bits shows in the quotients. -/
theorem quot_tells {a b : Int} (ha0 : -9223372036854775808 ≤ a) (ha1 : a ≤ 9223372036854775807) (hb0 : -9223372036854775808 ≤ b) (hb1 : b ≤ 9223372036854775807) (hb : b ≠ 0) (hx : ¬ (b = -1 ∧ a = -9223372036854775808)) :
    IntKind.wrap .i64 (Int.tdiv (IntKind.wrap .i64 (a * b)) b) = a ↔ -9223372036854775808 ≤ a * b ∧ a * b ≤ 9223372036854775807 := by
  constructor
  · intro h
    have h1 := Int.mul_tdiv_add_tmod (IntKind.wrap .i64 (a * b)) b
    have h2 := tmod_small (IntKind.wrap .i64 (a * b)) b hb
    have hr := w64_range (a * b)
    have h3 : (Int.tdiv (IntKind.wrap .i64 (a * b)) b).natAbs ≤ (IntKind.wrap .i64 (a * b)).natAbs := by
      rw [Int.natAbs_tdiv]
      exact Nat.div_le_self _ _
    have h4 : Int.tdiv (IntKind.wrap .i64 (a * b)) b = a := by
      generalize Int.tdiv (IntKind.wrap .i64 (a * b)) b = q at *
      by_cases hq : q ≤ 9223372036854775807
      · rw [w64 (by omega) hq] at h
        exact h
      · exfalso
        have hq2 : q = 9223372036854775808 := by omega
        subst hq2
        have : a = -9223372036854775808 := by
          rw [w64_def] at h
          omega
        have hb3 : b = -1 := by
          have hp : IntKind.wrap .i64 (a * b) = -9223372036854775808 := by omega
          omega
        exact hx ⟨hb3, this⟩
    rw [h4, Int.mul_comm b a] at h1
    generalize Int.tmod (IntKind.wrap .i64 (a * b)) b = r at *
    generalize a * b = m at *
    simp only [w64_def] at *
    omega
  · rintro ⟨h0, h1⟩
    rw [w64 h0 h1, Int.mul_tdiv_cancel _ hb, w64 ha0 ha1]
end Go.Proofs.YtcdnofemnpafhaaL
