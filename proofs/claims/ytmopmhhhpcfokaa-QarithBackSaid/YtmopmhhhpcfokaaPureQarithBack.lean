/- The pure statement of QarithBack: what was added is taken away; a sum and a product are the same either way round. Conditions: none beyond the given bounds. -/
import Derived.Test.YtmopmhhhpcfokaaPAx7
import Derived.Test.YtmopmhhhpcfokaaXQgcd
namespace Go.Proofs.Ytmopmhhhpcfokaa.Pure
open Go.RowKit Go.Proofs.Ytmopmhhhpcfokaa.PA Go.Proofs.YtmopmhhhpcfokaaW.PrintWords Go.Proofs.YtmopmhhhpcfokaaW.PrintLast Go.Proofs.YtmopmhhhpcfokaaW.PrintMore Go.Proofs.YtmopmhhhpcfokaaX

theorem QarithBack : tourbillonlaw01_QarithBack.Pure := by
  intro a b ha hb
  obtain ⟨ha0, ha1⟩ := wf64 ha
  obtain ⟨hb0, hb1⟩ := wf64 hb
  refine ⟨300, ?_⟩
  have e1 : AddS b a = AddS a b := by unfold AddS; rw [Int.add_comm]
  have e2 : MulS b a = MulS a b := by unfold MulS; rw [Int.mul_comm]
  unfold tourbillonlaw01_QarithBack.f
  rw [ex_at (by omega), Add_at ha hb, Add_at hb ha, Mul_at (by omega) ha hb, Mul_at (by omega) hb ha, e1, e2]
  simp only [Option.bind_some, if_true, bne_self_eq_false]
  simp only [tourbillonlaw01_QarithBack.j0, Bool.false_eq_true, if_false, if_true]
  have hm : (MulS a b).2 = 0 → (MulS a b).1 = a * b ∧ -9223372036854775808 ≤ a * b ∧ a * b ≤ 9223372036854775807 := by
    unfold MulS
    split
    · rename_i h
      exact fun _ => ⟨rfl, h⟩
    · simp
  have hq : (MulS a b).2 = 0 → ¬ b = 0 → wrap64 (Int.tdiv (MulS a b).1 b) = a ∧ Int.tmod (MulS a b).1 b = 0 := by
    intro h h0
    rw [(hm h).1, Int.mul_tdiv_cancel _ h0, w64 ha0 ha1, Int.mul_tmod_left]
    exact ⟨rfl, rfl⟩
  by_cases c : -9223372036854775808 ≤ a + b ∧ a + b ≤ 9223372036854775807
  · have hs : AddS a b = (a + b, 0) := by unfold AddS; rw [if_pos c]
    have hd : SubS (a + b) b = (a, 0) := by
      unfold SubS
      rw [show a + b - b = a by omega, if_pos (by omega)]
    rw [hs]
    simp only [if_true]
    rw [Sub_at (wf64_mk c.1 c.2) hb, hd]
    simp only [Option.bind_some, if_true, bne_self_eq_false]
    simp only [tourbillonlaw01_QarithBack.j1, Bool.false_eq_true, if_false, if_true]
    by_cases h2 : (MulS a b).2 = 0
    · rw [if_pos h2]
      by_cases h3 : b = 0
      · rw [if_pos h3]
      · rw [if_neg h3, if_pos (hq h2 h3).1, if_pos (hq h2 h3).2]
    · rw [if_neg h2]
  · have hs : AddS a b = (0, 2) := by unfold AddS; rw [if_neg c]
    have hsg : (decide (a > 0) == decide (b > 0)) = true := by
      by_cases h1 : a > 0 <;> by_cases h2 : b > 0 <;> simp [h1, h2] <;> omega
    rw [hs]
    simp only [Int.reduceEq, if_false, hsg]
    by_cases h2 : (MulS a b).2 = 0
    · rw [if_pos h2]
      by_cases h3 : b = 0
      · rw [if_pos h3]
      · rw [if_neg h3, if_pos (hq h2 h3).1, if_pos (hq h2 h3).2]
    · rw [if_neg h2]

end Go.Proofs.Ytmopmhhhpcfokaa.Pure
