/- The pure statement of QarithTurns: a difference turned round has the other sign. Conditions: none beyond the given bounds. -/
import Derived.Test.YtmopmhhhpcfokaaPAx9
import Derived.Test.YtmopmhhhpcfokaaXQgcd
namespace Go.Proofs.Ytmopmhhhpcfokaa.Pure
open Go.RowKit Go.Proofs.Ytmopmhhhpcfokaa.PA Go.Proofs.YtmopmhhhpcfokaaW.PrintWords Go.Proofs.YtmopmhhhpcfokaaW.PrintLast Go.Proofs.YtmopmhhhpcfokaaW.PrintMore Go.Proofs.YtmopmhhhpcfokaaX

theorem QarithTurns : tourbillonlaw01_QarithTurns.Pure := by
  intro a b ha hb
  obtain ⟨ha0, ha1⟩ := wf64 ha
  obtain ⟨hb0, hb1⟩ := wf64 hb
  refine ⟨300, ?_⟩
  unfold tourbillonlaw01_QarithTurns.f
  rw [ex_at (by omega), Sub_at ha hb, Sub_at hb ha]
  simp only [Option.bind_some, if_true]
  unfold SubS
  by_cases c1 : -9223372036854775808 ≤ a - b ∧ a - b ≤ 9223372036854775807
  · rw [if_pos c1]
    by_cases c2 : -9223372036854775808 ≤ b - a ∧ b - a ≤ 9223372036854775807
    · rw [if_pos c2]
      simp only [if_true]
      rw [w64 (by omega) (by omega), beq_iff_eq.2 (by omega)]
    · rw [if_neg c2]
      have h : a - b = -9223372036854775808 := by omega
      simp [h]
  · rw [if_neg c1]
    by_cases c2 : -9223372036854775808 ≤ b - a ∧ b - a ≤ 9223372036854775807
    · rw [if_pos c2]
      have h : b - a = -9223372036854775808 := by omega
      simp [h]
    · rw [if_neg c2]
      simp

end Go.Proofs.Ytmopmhhhpcfokaa.Pure
