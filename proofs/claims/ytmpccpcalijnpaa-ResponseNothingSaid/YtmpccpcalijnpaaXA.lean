/- What the calls of package qarith tell, as plain numbers: sums, products, quotients, or that they are too great. Conditions: the arguments are numbers of 64 bits. -/
import Derived.Test.YtmpccpcalijnpaaX1
import Derived.Test.YtmpccpcalijnpaaXN
namespace Go.Proofs.YtmpccpcalijnpaaQ
open Go Go.Proofs.YtmpccpcalijnpaaM Go.Proofs.YtmpccpcalijnpaaX Go.Proofs.YtmpccpcalijnpaaL
set_option linter.unusedVariables false
set_option linter.unusedSimpArgs false

def AddS (a b : Int) : Int × Int := if -9223372036854775808 ≤ a + b ∧ a + b ≤ 9223372036854775807 then (a + b, 0) else (0, 2)
def MulS (a b : Int) : Int × Int := if -9223372036854775808 ≤ a * b ∧ a * b ≤ 9223372036854775807 then (a * b, 0) else (0, 2)
theorem AddS_ok {a b : Int} (h0 : -9223372036854775808 ≤ a + b) (h1 : a + b ≤ 9223372036854775807) : AddS a b = (a + b, 0) := by
  unfold AddS
  rw [if_pos ⟨h0, h1⟩]
theorem AddS_over {a b : Int} (h : ¬ (-9223372036854775808 ≤ a + b ∧ a + b ≤ 9223372036854775807)) : AddS a b = (0, 2) := by
  unfold AddS
  rw [if_neg h]
theorem MulS_ok {a b : Int} (h0 : -9223372036854775808 ≤ a * b) (h1 : a * b ≤ 9223372036854775807) : MulS a b = (a * b, 0) := by
  unfold MulS
  rw [if_pos ⟨h0, h1⟩]
theorem MulS_over {a b : Int} (h : ¬ (-9223372036854775808 ≤ a * b ∧ a * b ≤ 9223372036854775807)) : MulS a b = (0, 2) := by
  unfold MulS
  rw [if_neg h]
/-- A number and an error, as a call gives them. -/
abbrev two (p : Int × Int) : ((Int × (Int × Unit)) × Unit) := ((p.1, p.2, ()), ())

theorem add_at {N : Nat} {a b : Int} (ha : (Lit.int .i64 a).wf = true) (hb : (Lit.int .i64 b).wf = true) : Add_18 N ((a, b, ()), ()) = some (two (AddS a b)) := by
  obtain ⟨ha0, ha1⟩ := wf64 ha
  obtain ⟨hb0, hb1⟩ := wf64 hb
  have hn := w64_range (a + b)
  unfold Add_18 AddS
  have e := and_neg (xor_range a (IntKind.wrap .i64 (a + b))).1 (xor_range _ _).2 (xor_range b (IntKind.wrap .i64 (a + b))).1 (xor_range _ _).2
  rw [xor_neg ha0 ha1 hn.1 hn.2, xor_neg hb0 hb1 hn.1 hn.2] at e
  dsimp only
  by_cases c : -9223372036854775808 ≤ a + b ∧ a + b ≤ 9223372036854775807
  · have e2 := w64 c.1 c.2
    rw [e2] at e ⊢
    rw [if_pos c, byB_f]
    intro h
    have := e.1 h
    omega
  · rw [if_neg c, byB_t]
    refine e.2 ?_
    rw [w64_def]
    omega
theorem size_at {N : Nat} {a : Int} (ha : (Lit.int .i64 a).wf = true) : size_27 N ((a, ()), ()) = some ((if a < 0 then -a else a, ()), ()) := by
  obtain ⟨ha0, ha1⟩ := wf64 ha
  unfold size_27
  dsimp only
  by_cases h : a < 0
  · rw [byB_t h, if_pos h, wu64_def, wu64_def]
    congr 3
    omega
  · rw [byB_f h, if_neg h, wu64 (by omega) (by omega)]

theorem times_at {N : Nat} {a b : Int} (ha0 : 0 ≤ a) (ha : a < 18446744073709551616) (hb0 : 0 ≤ b) (hb : b < 18446744073709551616) :
    times_26 N ((a, b, ()), ()) = some (((a * b / 18446744073709551616, a * b % 18446744073709551616, ()), ()), ()) := by
  have hp := pp_mul a b
  unfold times_26
  dsimp only
  have e32 : (2 : Int) ^ 32 = 4294967296 := rfl
  have fd : ∀ {x : Int}, 0 ≤ x → Int.fdiv x 4294967296 = x / 4294967296 := fun h => Int.fdiv_eq_ediv_of_nonneg _ (by decide)
  rw [and32 ha0 ha, and32 hb0 hb, e32, fd ha0, fd hb0]
  have q0 := prod_le (a := a % 4294967296) (b := b % 4294967296) (A := 4294967295) (B := 4294967295) (by omega) (by omega) (by omega) (by omega)
  have q1 := prod_le (a := a / 4294967296) (b := b % 4294967296) (A := 4294967295) (B := 4294967295) (by omega) (by omega) (by omega) (by omega)
  have q2 := prod_le (a := a % 4294967296) (b := b / 4294967296) (A := 4294967295) (B := 4294967295) (by omega) (by omega) (by omega) (by omega)
  have q3 := prod_le (a := a / 4294967296) (b := b / 4294967296) (A := 4294967295) (B := 4294967295) (by omega) (by omega) (by omega) (by omega)
  generalize (a / 4294967296) * (b / 4294967296) = p3 at *
  generalize (a / 4294967296) * (b % 4294967296) = p1 at *
  generalize (a % 4294967296) * (b / 4294967296) = p2 at *
  generalize (a % 4294967296) * (b % 4294967296) = p0 at *
  generalize a * b = p at *
  clear ha0 ha hb0 hb
  rw [wu64 (n := p3) (by omega) (by omega), wu64 (n := p1) (by omega) (by omega), wu64 (n := p2) (by omega) (by omega), wu64 (n := p0) (by omega) (by omega)]
  rw [fd (x := p0) (by omega)]
  rw [wu64 (n := p1 + p0 / 4294967296) (by omega) (by omega)]
  rw [and32 (x := p1 + p0 / 4294967296) (by omega) (by omega), and32 (x := p0) (by omega) (by omega), fd (x := p1 + p0 / 4294967296) (by omega)]
  rw [wu64 (n := p2 + (p1 + p0 / 4294967296) % 4294967296) (by omega) (by omega)]
  rw [wu64 (n := p3 + (p1 + p0 / 4294967296) / 4294967296) (by omega) (by omega), fd (x := p2 + (p1 + p0 / 4294967296) % 4294967296) (by omega)]
  rw [wu64 (n := p3 + (p1 + p0 / 4294967296) / 4294967296 + (p2 + (p1 + p0 / 4294967296) % 4294967296) / 4294967296) (by omega) (by omega)]
  rw [wu64_def ((p2 + (p1 + p0 / 4294967296) % 4294967296) * 4294967296), or32 (by omega) (by omega) (by omega) (by omega) (by omega)]
  congr 4
  · omega
  · congr 1
    omega

theorem mul_at {N : Nat} {a b : Int} (ha : (Lit.int .i64 a).wf = true) (hb : (Lit.int .i64 b).wf = true) : Mul_17 N ((a, b, ()), ()) = some (two (MulS a b)) := by
  obtain ⟨ha0, ha1⟩ := wf64 ha
  obtain ⟨hb0, hb1⟩ := wf64 hb
  unfold Mul_17
  dsimp only
  rw [size_at ha, bnd, size_at hb, bnd]
  have hs : 0 ≤ (if a < 0 then -a else a) ∧ (if a < 0 then -a else a) ≤ 9223372036854775808 := by split <;> omega
  have ht : 0 ≤ (if b < 0 then -b else b) ∧ (if b < 0 then -b else b) ≤ 9223372036854775808 := by split <;> omega
  dsimp only
  rw [times_at hs.1 (by omega) ht.1 (by omega), bnd]
  dsimp only
  have hp : (if a < 0 then -a else a) * (if b < 0 then -b else b) = if (decide (a < 0) == decide (b < 0)) = true then a * b else -(a * b) := by
    by_cases h1 : a < 0 <;> by_cases h2 : b < 0 <;> simp [h1, h2, Int.neg_mul, Int.mul_neg]
  have hP := prod_le hs.1 hs.2 ht.1 ht.2
  rw [hp] at hP ⊢
  clear hs ht hp
  unfold MulS
  generalize a * b = p at *
  generalize (decide (a < 0) == decide (b < 0)) = same at *
  cases same with
  | true =>
    simp only [Bool.not_true, if_true, byB_false, byB_true, byB_not] at hP ⊢
    by_cases h1 : p / 18446744073709551616 = 0
    · by_cases h2 : p % 18446744073709551616 ≤ 9223372036854775807
      · have e : p % 18446744073709551616 = p := by omega
        rw [byB_eqt h1, byB_t h2, e, w64 (by omega) (by omega), if_pos (show -9223372036854775808 ≤ p ∧ p ≤ 9223372036854775807 by omega)]
      · have : ¬ (-9223372036854775808 ≤ p ∧ p ≤ 9223372036854775807) := by omega
        rw [byB_eqt h1, byB_f h2, if_neg this]
        simp only [byB_same, byB_eqt h1, two]
    · rw [byB_eqf h1, if_neg (by omega)]
      simp only [byB_same, byB_eqf h1, two]
  | false =>
    simp only [Bool.not_false, Bool.false_eq_true, if_false, byB_false, byB_true, byB_not] at hP ⊢
    by_cases h1 : -p / 18446744073709551616 = 0
    · by_cases h2 : -p % 18446744073709551616 ≤ 9223372036854775808
      · have e : -p % 18446744073709551616 = -p := by omega
        have e2 : IntKind.wrap .i64 (IntKind.wrap .u64 (0 - -p)) = p := by
          rw [wu64_def, w64_def]
          omega
        simp only [byB_same, byB_eqt h1, byB_t h2, two]
        rw [if_pos (by omega), e, e2]
      · simp only [byB_same, byB_eqt h1, byB_f h2, two]
        rw [if_neg (by omega)]
    · simp only [byB_same, byB_eqf h1, two]
      rw [if_neg (by omega)]
end Go.Proofs.YtmpccpcalijnpaaQ
