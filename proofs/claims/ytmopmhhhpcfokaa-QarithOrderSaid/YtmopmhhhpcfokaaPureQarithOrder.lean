/- The pure statement of QarithOrder: the order of two fractions turned round has the other sign, and a common factor makes no difference. Conditions: none beyond the given bounds. -/
import Derived.Test.YtmopmhhhpcfokaaPAx8
import Derived.Test.YtmopmhhhpcfokaaXQgcd
namespace Go.Proofs.Ytmopmhhhpcfokaa.Pure
open Go.RowKit Go.Proofs.Ytmopmhhhpcfokaa.PA Go.Proofs.YtmopmhhhpcfokaaW.PrintWords Go.Proofs.YtmopmhhhpcfokaaW.PrintLast Go.Proofs.YtmopmhhhpcfokaaW.PrintMore Go.Proofs.YtmopmhhhpcfokaaX

theorem QarithOrder : tourbillonlaw01_QarithOrder.Pure := by
  intro a b c d k ha hb hc hd hk
  obtain ⟨ha0, ha1⟩ := wf64 ha
  obtain ⟨hb0, hb1⟩ := wf64 hb
  obtain ⟨hc0, hc1⟩ := wf64 hc
  obtain ⟨hd0, hd1⟩ := wf64 hd
  have hm : ∀ x y : Int, (MulS x y).2 = 0 → (MulS x y).1 = x * y ∧ -9223372036854775808 ≤ x * y ∧ x * y ≤ 9223372036854775807 := by
    intro x y
    unfold MulS
    split
    · rename_i h
      exact fun _ => ⟨rfl, h⟩
    · simp
  refine ⟨402, ?_⟩
  unfold tourbillonlaw01_QarithOrder.f
  rw [ex_at (by omega), Cmp_at (by omega) ha hb hc hd, Cmp_at (by omega) hc hd ha hb]
  simp only [Option.bind_some]
  by_cases h : b ≤ 0 ∨ d ≤ 0 ∨ a < 0 ∨ c < 0
  · have e1 : CmpS a b c d = (0, 1) := by unfold CmpS; rw [if_pos h]
    have e2 : CmpS c d a b = (0, 1) := by unfold CmpS; rw [if_pos (by omega)]
    rw [e1, e2]
    simp [tourbillonlaw01_QarithOrder.j0, wrap64]
  · have e1 : CmpS a b c d = (cmpI (a * d) (c * b), 0) := by unfold CmpS; rw [if_neg h]
    have e2 : CmpS c d a b = (- cmpI (a * d) (c * b), 0) := by unfold CmpS; rw [if_neg (by omega), cmpI_neg]
    have hr : -1 ≤ cmpI (a * d) (c * b) ∧ cmpI (a * d) (c * b) ≤ 1 := by
      unfold cmpI
      repeat (first | split | omega)
    rw [e1, e2]
    generalize cmpI (a * d) (c * b) = x at *
    simp only [if_true]
    rw [w64 (by omega) (by omega), Int.neg_neg]
    simp only [bne_self_eq_false, tourbillonlaw01_QarithOrder.j0, Bool.false_eq_true, if_false, if_true]
    rw [Mul_at (by omega) ha hk, Mul_at (by omega) hb hk]
    simp only [Option.bind_some]
    have no : tourbillonlaw01_QarithOrder.j1 401 a b true x (MulS a k).1 (MulS b k).1 false = some true := by
      simp only [tourbillonlaw01_QarithOrder.j1, Bool.false_eq_true, if_false, if_true]
      rw [if_pos (by omega), decide_eq_true hr.2]
    by_cases h1 : (MulS a k).2 = 0
    · rw [if_pos h1]
      by_cases h2 : (MulS b k).2 = 0
      · rw [if_pos h2]
        by_cases h3 : k > 0
        · obtain ⟨m1, m2, m3⟩ := hm _ _ h1
          obtain ⟨n1, n2, n3⟩ := hm _ _ h2
          rw [decide_eq_true h3, m1, n1]
          simp only [tourbillonlaw01_QarithOrder.j1, if_true]
          rw [Cmp_at (by omega) (wf64_mk m2 m3) (wf64_mk n2 n3) ha hb]
          have p1 : 0 ≤ a * k := Int.mul_nonneg (by omega) (by omega)
          have p2 : 0 < b * k := Int.mul_pos (by omega) (by omega)
          have e3 : CmpS (a * k) (b * k) a b = (0, 0) := by
            unfold CmpS
            rw [if_neg (by omega), cmpI_of_eq (by rw [Int.mul_right_comm, Int.mul_assoc])]
          rw [e3]
          simp only [Option.bind_some, if_true]
          rw [if_pos (by omega), decide_eq_true hr.2]
        · rw [decide_eq_false h3]
          exact no
      · rw [if_neg h2]
        exact no
    · rw [if_neg h1]
      exact no

end Go.Proofs.Ytmopmhhhpcfokaa.Pure
