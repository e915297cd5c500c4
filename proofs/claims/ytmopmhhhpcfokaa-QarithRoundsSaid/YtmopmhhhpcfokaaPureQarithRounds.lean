/- The pure statement of QarithRounds: rounded up is as much as rounded down, or one more. Conditions: none beyond the given bounds. -/
import Derived.Test.YtmopmhhhpcfokaaPAx8
import Derived.Test.YtmopmhhhpcfokaaXQgcd
namespace Go.Proofs.Ytmopmhhhpcfokaa.Pure
open Go.RowKit Go.Proofs.Ytmopmhhhpcfokaa.PA Go.Proofs.YtmopmhhhpcfokaaW.PrintWords Go.Proofs.YtmopmhhhpcfokaaW.PrintLast Go.Proofs.YtmopmhhhpcfokaaW.PrintMore Go.Proofs.YtmopmhhhpcfokaaX

theorem QarithRounds : tourbillonlaw01_QarithRounds.Pure := by
  intro a b c ha hb hc
  obtain ⟨ha0, ha1⟩ := wf64 ha
  obtain ⟨hb0, hb1⟩ := wf64 hb
  obtain ⟨hc0, hc1⟩ := wf64 hc
  have h1 : (Lit.int .i64 1).wf = true := wf64_mk (by omega) (by omega)
  refine ⟨402, ?_⟩
  unfold tourbillonlaw01_QarithRounds.f
  rw [ex_at (by omega)]
  simp only [Option.bind_some]
  have no : tourbillonlaw01_QarithRounds.j0 402 a b c true true = some true := by simp [tourbillonlaw01_QarithRounds.j0]
  by_cases n1 : a < 0
  · rw [if_pos n1, no]
  rw [if_neg n1]
  by_cases n2 : b < 0
  · rw [if_pos n2, no]
  rw [if_neg n2]
  by_cases n3 : c ≤ 0
  · rw [decide_eq_true n3, no]
  rw [decide_eq_false n3]
  simp only [tourbillonlaw01_QarithRounds.j0, Bool.false_eq_true, if_false]
  rw [MulDiv_at (by omega) false ha hb hc, MulDiv_at (by omega) true ha hb hc]
  simp only [Option.bind_some]
  have hn : ¬ (a < 0 ∨ b < 0 ∨ c ≤ 0) := by omega
  have hn1 : ¬ (a < 0 ∨ (1 : Int) < 0 ∨ c ≤ 0) := by omega
  have hp0 : 0 ≤ a * b := Int.mul_nonneg (by omega) (by omega)
  have hq0 : 0 ≤ a * b / c := Int.ediv_nonneg hp0 (by omega)
  have hup := up_div (n := a * b) (c := c) (by omega)
  have ha2 : 0 ≤ a / c := Int.ediv_nonneg (by omega) (by omega)
  have ha3 : a / c ≤ a := Int.ediv_le_self _ (by omega)
  have hua := up_div (n := a) (c := c) (by omega)
  have ea : a / c + 1 ≤ 9223372036854775807 ∨ a % c = 0 := by
    by_cases h : c = 1
    · right
      rw [h]
      exact Int.emod_one a
    · left
      have : a / c < 9223372036854775807 := Int.ediv_lt_of_lt_mul (by omega) (by omega)
      omega
  have one : MulDivS a 1 c false = (a / c, 0) := by
    unfold MulDivS MulDivQ
    rw [if_neg hn1]
    simp only [Bool.false_eq_true, if_false, false_and, Int.mul_one]
    rw [if_pos (by omega)]
  have hu1 : (a + (c - 1)) / c ≤ 9223372036854775807 := by
    rw [hua]
    split <;> omega
  have two : MulDivS a 1 c true = ((a + (c - 1)) / c, 0) := by
    unfold MulDivS MulDivQ
    rw [if_neg hn1]
    simp only [if_true, true_and, Int.mul_one]
    rw [if_neg (by omega), if_pos hu1]
  have ceil : CeilS a c = ((a + (c - 1)) / c, 0) := by
    unfold CeilS
    rw [if_neg (by omega)]
  have tail : ∀ (x : Int), x = a * b / c → (if b > 1 then some true else if b = 0 then some true else some (x == a / c)) = some true := by
    intro x hx
    by_cases h4 : b > 1
    · rw [if_pos h4]
    · rw [if_neg h4]
      by_cases h5 : b = 0
      · rw [if_pos h5]
      · rw [if_neg h5]
        have h6 : b = 1 := by omega
        rw [hx, h6, Int.mul_one, beq_self_eq_true]
  by_cases h2 : a * b / c ≤ 9223372036854775807
  · have d1 : MulDivS a b c false = (a * b / c, 0) := by
      unfold MulDivS MulDivQ
      rw [if_neg hn]
      simp only [Bool.false_eq_true, if_false, false_and]
      rw [if_pos h2]
    have d2 : MulDivS a b c true = (if (a * b + (c - 1)) / c ≤ 9223372036854775807 then ((a * b + (c - 1)) / c, 0) else (0, 2)) := by
      unfold MulDivS MulDivQ
      rw [if_neg hn]
      simp only [if_true, true_and]
      rw [if_neg (by omega)]
    rw [d1, d2]
    simp only [if_true]
    by_cases h3 : (a * b + (c - 1)) / c ≤ 9223372036854775807
    · rw [if_pos h3]
      simp only [bne_self_eq_false, tourbillonlaw01_QarithRounds.j1, Bool.false_eq_true, if_false, if_true]
      rw [MulDiv_at (by omega) false ha h1 hc, MulDiv_at (by omega) true ha h1 hc, CeilDiv_at ha hc]
      simp only [Option.bind_some]
      rw [one, two, ceil, Int.tdiv_eq_ediv_of_nonneg (by omega), w64 (n := a / c) (by omega) (by omega)]
      simp only [if_true]
      rw [if_neg (show ¬ c = 0 by omega)]
      by_cases h7 : (a * b + (c - 1)) / c = a * b / c
      · rw [if_pos h7]
        exact tail _ rfl
      · have h8 : (a * b + (c - 1)) / c = a * b / c + 1 := by
          rw [hup] at h7 ⊢
          by_cases h9 : a * b % c = 0
          · rw [if_pos h9] at h7
            exact absurd rfl h7
          · rw [if_neg h9]
        rw [if_neg h7, if_pos (show (a * b + (c - 1)) / c = wrap64 (a * b / c + 1) by rw [w64 (by omega) (by omega)]; exact h8)]
        exact tail _ rfl
    · rw [if_neg h3]
      have h8 : a * b / c = 9223372036854775807 := by
        rw [hup] at h3
        by_cases h9 : a * b % c = 0
        · rw [if_pos h9] at h3
          omega
        · rw [if_neg h9] at h3
          omega
      rw [h8]
      simp [tourbillonlaw01_QarithRounds.j1]
  · have d1 : MulDivS a b c false = (0, 2) := by
      unfold MulDivS MulDivQ
      rw [if_neg hn]
      simp only [Bool.false_eq_true, if_false, false_and]
      rw [if_neg h2]
    rw [d1]
    simp [tourbillonlaw01_QarithRounds.j1]

end Go.Proofs.Ytmopmhhhpcfokaa.Pure
