/- Plain facts on whole numbers as the printed functions spell them: wraps, masks, shifts, signs, products by halves. Conditions: none. -/
import Derived.Laws.BitsLemmas
import Derived.Test.YtecefkenfpbfkaaWMore
namespace Go.Proofs.YtecefkenfpbfkaaX
open Go.RowKit Go.Proofs.YtecefkenfpbfkaaW.PrintWords Go.Proofs.YtecefkenfpbfkaaW.PrintMore

theorem wf64 {n : Int} (h : (Lit.int .i64 n).wf = true) : -9223372036854775808 ≤ n ∧ n ≤ 9223372036854775807 := by
  simp [Lit.wf, IntKind.min, IntKind.max, IntKind.signed, IntKind.bits] at h
  omega
theorem wf64_mk {n : Int} (h0 : -9223372036854775808 ≤ n) (h1 : n ≤ 9223372036854775807) : (Lit.int .i64 n).wf = true := by
  simp [Lit.wf, IntKind.min, IntKind.max, IntKind.signed, IntKind.bits]
  omega
theorem w64 {n : Int} (h0 : -9223372036854775808 ≤ n) (h1 : n ≤ 9223372036854775807) : wrap64 n = n := by
  unfold wrap64
  omega
theorem u64w (n : Int) : IntKind.u64.wrap n = n % 18446744073709551616 := by simp [IntKind.wrap, IntKind.bits, IntKind.signed]
theorem u64s {n : Int} (h0 : 0 ≤ n) (h1 : n < 18446744073709551616) : IntKind.u64.wrap n = n := by
  rw [u64w]
  omega
theorem wraps_u64 (n : Int) (h₀ : 0 ≤ n) (h₁ : n < 2 ^ 64) : IntKind.u64.wrap n = n := u64s h₀ (by simpa using h₁)
theorem and32 {x : Int} (h0 : 0 ≤ x) (h1 : x < 18446744073709551616) : Go.bits .and .u64 x 4294967295 = x % 4294967296 := by
  have := bits_mask .u64 64 (by decide) wraps_u64 32 (by decide) x h0 (by simpa using h1)
  simpa using this
theorem and1 {x : Int} (h0 : 0 ≤ x) (h1 : x < 18446744073709551616) : Go.bits .and .u64 x 1 = x % 2 := by
  have := bits_mask .u64 64 (by decide) wraps_u64 1 (by decide) x h0 (by simpa using h1)
  simpa using this
theorem or_at {x y : Int} (i : Nat) (hx0 : 0 ≤ x) (hx1 : x < 18446744073709551616) (hx : x % 2 ^ i = 0) (hy0 : 0 ≤ y) (hy : y < 2 ^ i) (hy1 : y < 18446744073709551616) : Go.bits .or .u64 x y = x + y :=
  bits_join .u64 64 (by decide) wraps_u64 i x y hx0 hx (by simpa using hx1) hy0 hy (by simpa using hy1)
theorem or32 {x y : Int} (hx0 : 0 ≤ x) (hx1 : x < 18446744073709551616) (hx : x % 4294967296 = 0) (hy0 : 0 ≤ y) (hy : y < 4294967296) : Go.bits .or .u64 x y = x + y :=
  or_at 32 hx0 hx1 (by simpa using hx) hy0 (by simpa using hy) (by omega)
theorem or1 {x y : Int} (hx0 : 0 ≤ x) (hx1 : x < 18446744073709551616) (hx : x % 2 = 0) (hy0 : 0 ≤ y) (hy : y < 2) : Go.bits .or .u64 x y = x + y :=
  or_at 1 hx0 hx1 (by simpa using hx) hy0 (by simpa using hy) (by omega)

/-! signs -/
theorem i64_toInt (b : BitVec 64) : IntKind.i64.wrap (b.toNat : Int) = b.toInt := by
  rw [IntKind.wrap_i64, BitVec.toInt_eq_toNat_cond]
  have := b.isLt
  split <;> omega
theorem ofInt_neg {x : Int} (h0 : -9223372036854775808 ≤ x) (h1 : x ≤ 9223372036854775807) : (BitVec.ofInt 64 x).msb = decide (x < 0) := by
  have h : (BitVec.ofInt 64 x).toInt = x := by
    rw [BitVec.toInt_ofInt]
    simp only [Int.bmod]
    omega
  rw [BitVec.msb_eq_toInt, h]
theorem and_neg {x y : Int} (hx0 : -9223372036854775808 ≤ x) (hx1 : x ≤ 9223372036854775807) (hy0 : -9223372036854775808 ≤ y) (hy1 : y ≤ 9223372036854775807) : Go.bits .and .i64 x y < 0 ↔ x < 0 ∧ y < 0 := by
  have h : Go.bits .and .i64 x y = (BitVec.ofInt 64 x &&& BitVec.ofInt 64 y).toInt := i64_toInt _
  rw [h]
  have e := BitVec.msb_eq_toInt (x := BitVec.ofInt 64 x &&& BitVec.ofInt 64 y)
  rw [BitVec.msb_and, ofInt_neg hx0 hx1, ofInt_neg hy0 hy1] at e
  constructor
  · intro hn
    rw [decide_eq_true hn] at e
    simpa using e
  · rintro ⟨a, b⟩
    rw [decide_eq_true a, decide_eq_true b] at e
    exact of_decide_eq_true e.symm
theorem xor_neg {x y : Int} (hx0 : -9223372036854775808 ≤ x) (hx1 : x ≤ 9223372036854775807) (hy0 : -9223372036854775808 ≤ y) (hy1 : y ≤ 9223372036854775807) : Go.bits .xor .i64 x y < 0 ↔ ¬ (x < 0 ↔ y < 0) := by
  have h : Go.bits .xor .i64 x y = (BitVec.ofInt 64 x ^^^ BitVec.ofInt 64 y).toInt := i64_toInt _
  rw [h]
  have e := BitVec.msb_eq_toInt (x := BitVec.ofInt 64 x ^^^ BitVec.ofInt 64 y)
  rw [BitVec.msb_xor, ofInt_neg hx0 hx1, ofInt_neg hy0 hy1] at e
  generalize (BitVec.ofInt 64 x ^^^ BitVec.ofInt 64 y).toInt = z at e ⊢
  by_cases a : x < 0 <;> by_cases b : y < 0 <;> by_cases c : z < 0 <;> simp only [a, b, c, decide_true, decide_false, Bool.xor_true, Bool.xor_false, Bool.not_true, Bool.not_false, reduceCtorEq, not_true_eq_false, not_false_eq_true, iff_true, iff_false] at e ⊢
theorem xor_range (x y : Int) : -9223372036854775808 ≤ Go.bits .xor .i64 x y ∧ Go.bits .xor .i64 x y ≤ 9223372036854775807 := by
  have h : Go.bits .xor .i64 x y = (BitVec.ofInt 64 x ^^^ BitVec.ofInt 64 y).toInt := i64_toInt _
  rw [h]
  have h1 := BitVec.le_two_mul_toInt (x := BitVec.ofInt 64 x ^^^ BitVec.ofInt 64 y)
  have h2 := BitVec.two_mul_toInt_lt (x := BitVec.ofInt 64 x ^^^ BitVec.ofInt 64 y)
  omega
theorem wrap64_range (n : Int) : -9223372036854775808 ≤ wrap64 n ∧ wrap64 n ≤ 9223372036854775807 := by
  unfold wrap64
  omega
end Go.Proofs.YtecefkenfpbfkaaX
