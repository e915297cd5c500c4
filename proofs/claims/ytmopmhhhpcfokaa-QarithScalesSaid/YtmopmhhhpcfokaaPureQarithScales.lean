/- The pure statement of QarithScales: a number times another one, by that one, is the number; twice as much by twice as much is the same. Conditions: none beyond the given bounds. -/
import Derived.Test.YtmopmhhhpcfokaaPAx10
import Derived.Test.YtmopmhhhpcfokaaXQgcd
namespace Go.Proofs.Ytmopmhhhpcfokaa.Pure
open Go.RowKit Go.Proofs.Ytmopmhhhpcfokaa.PA Go.Proofs.YtmopmhhhpcfokaaW.PrintWords Go.Proofs.YtmopmhhhpcfokaaW.PrintLast Go.Proofs.YtmopmhhhpcfokaaW.PrintMore Go.Proofs.YtmopmhhhpcfokaaX

theorem QarithScales : tourbillonlaw01_QarithScales.Pure := by
  intro a b c up ha hb hc
  obtain ⟨ha0, ha1⟩ := wf64 ha
  obtain ⟨hb0, hb1⟩ := wf64 hb
  obtain ⟨hc0, hc1⟩ := wf64 hc
  have h2 : (Lit.int .i64 2).wf = true := wf64_mk (by omega) (by omega)
  refine ⟨402, ?_⟩
  unfold tourbillonlaw01_QarithScales.f
  rw [ex_at (by omega)]
  simp only [Option.bind_some]
  have no : tourbillonlaw01_QarithScales.j0 402 a b c up true true = some true := by simp [tourbillonlaw01_QarithScales.j0]
  by_cases n1 : a < 0
  · rw [if_pos n1, no]
  rw [if_neg n1]
  by_cases n2 : b ≤ 0
  · rw [if_pos n2, no]
  rw [if_neg n2]
  by_cases n3 : c ≤ 0
  · rw [decide_eq_true n3, no]
  rw [decide_eq_false n3]
  simp only [tourbillonlaw01_QarithScales.j0, Bool.false_eq_true, if_false]
  rw [MulDiv_at (by omega) up ha hb hb]
  simp only [Option.bind_some]
  have eb : a * b / b = a := Int.mul_ediv_cancel _ (by omega)
  have eb2 : a * b % b = 0 := Int.mul_emod_left a b
  have e1 : MulDivS a b b up = (a, 0) := by
    unfold MulDivS MulDivQ
    rw [if_neg (by omega), up_div (by omega), if_pos eb2, eb, ite_self, if_neg (fun h => h.2.2 eb2), if_pos ha1]
  rw [e1]
  simp only [bne_self_eq_false, if_true, tourbillonlaw01_QarithScales.j1, Bool.false_eq_true, if_false]
  rw [MulDiv_at (by omega) up ha hb hc, Mul_at (by omega) hb h2, Mul_at (by omega) hc h2]
  simp only [Option.bind_some]
  have hm : ∀ x y : Int, (MulS x y).2 = 0 → (MulS x y).1 = x * y ∧ -9223372036854775808 ≤ x * y ∧ x * y ≤ 9223372036854775807 := by
    intro x y
    unfold MulS
    split
    · rename_i h
      exact fun _ => ⟨rfl, h⟩
    · simp
  by_cases h3 : (MulS b 2).2 = 0
  · rw [if_pos h3]
    by_cases h4 : (MulS c 2).2 = 0
    · obtain ⟨m1, m2, m3⟩ := hm _ _ h3
      obtain ⟨k1, k2, k3⟩ := hm _ _ h4
      rw [if_pos h4, m1, k1, MulDiv_at (by omega) up ha (wf64_mk m2 m3) (wf64_mk k2 k3)]
      simp only [Option.bind_some]
      have q1 : a * (b * 2) / (c * 2) = a * b / c := by rw [← Int.mul_assoc, Int.mul_ediv_mul_of_pos_left _ _ (by omega)]
      have q2 : a * (b * 2) % (c * 2) = 2 * (a * b % c) := by
        rw [← Int.mul_assoc, Int.mul_comm _ 2, Int.mul_comm c 2, Int.mul_emod_mul_of_pos _ _ (by omega)]
      have e2 : MulDivS a (b * 2) (c * 2) up = MulDivS a b c up := by
        unfold MulDivS MulDivQ
        rw [if_neg (show ¬ (a < 0 ∨ b * 2 < 0 ∨ c * 2 ≤ 0) by omega), if_neg (show ¬ (a < 0 ∨ b < 0 ∨ c ≤ 0) by omega), up_div (n := a * (b * 2)) (by omega), up_div (n := a * b) (by omega), q1, q2]
        by_cases h5 : a * b % c = 0
        · rw [h5]
          simp
        · have h6 : ¬ 2 * (a * b % c) = 0 := by omega
          simp only [h5, h6, if_false, not_false_eq_true]
      rw [e2]
      simp
    · rw [if_neg h4]
  · rw [if_neg h3]

end Go.Proofs.Ytmopmhhhpcfokaa.Pure
