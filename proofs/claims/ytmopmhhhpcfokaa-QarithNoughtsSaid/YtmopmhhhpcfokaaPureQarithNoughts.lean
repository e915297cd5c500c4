/- The pure statement of QarithNoughts: with nought and one all calls tell what they must. Conditions: none beyond the given bounds. -/
import Derived.Test.YtmopmhhhpcfokaaPAx12
import Derived.Test.YtmopmhhhpcfokaaXQgcd
namespace Go.Proofs.Ytmopmhhhpcfokaa.Pure
open Go.RowKit Go.Proofs.Ytmopmhhhpcfokaa.PA Go.Proofs.YtmopmhhhpcfokaaW.PrintWords Go.Proofs.YtmopmhhhpcfokaaW.PrintLast Go.Proofs.YtmopmhhhpcfokaaW.PrintMore Go.Proofs.YtmopmhhhpcfokaaX

theorem QarithNoughts : tourbillonlaw01_QarithNoughts.Pure := by
  intro a ha
  obtain ⟨ha0, ha1⟩ := wf64 ha
  have h0 : (Lit.int .i64 0).wf = true := wf64_mk (by omega) (by omega)
  have h1 : (Lit.int .i64 1).wf = true := wf64_mk (by omega) (by omega)
  have e1 : AddS a 0 = (a, 0) := by unfold AddS; rw [Int.add_zero, if_pos ⟨ha0, ha1⟩]
  have e2 : MulS a 1 = (a, 0) := by unfold MulS; rw [Int.mul_one, if_pos ⟨ha0, ha1⟩]
  have e3 : MulS 0 a = (0, 0) := by unfold MulS; rw [Int.zero_mul]; rfl
  refine ⟨301, ?_⟩
  unfold tourbillonlaw01_QarithNoughts.f
  rw [ex_at (by omega), Add_at ha h0, Mul_at (by omega) ha h1, Mul_at (by omega) h0 ha, e1, e2, e3]
  simp only [Option.bind_some, if_true, bne_self_eq_false]
  simp only [tourbillonlaw01_QarithNoughts.j0, Bool.false_eq_true, if_false, if_true]
  rw [Gcd_at (by decide), Lcm_at (by decide) ha h1, CeilDiv_at ha h1]
  simp only [Option.bind_some]
  by_cases c : a < 0
  · have g1 : GcdS a 0 = (0, 1) := by unfold GcdS; rw [if_pos (.inl c)]
    have g2 : LcmS a 1 = (0, 1) := by unfold LcmS; rw [if_pos (.inl c)]
    have g3 : CeilS a 1 = (0, 1) := by unfold CeilS; rw [if_pos (.inl c)]
    rw [if_pos c, g1, g2, g3]
    rfl
  · have ea : ((a.toNat : Nat) : Int) = a := by omega
    have g1 : GcdS a 0 = (a, 0) := by
      unfold GcdS
      rw [if_neg (by omega)]
      simp [ea]
    have g2 : LcmS a 1 = (a, 0) := by
      unfold LcmS
      rw [if_neg (by omega)]
      by_cases h : a = 0
      · rw [if_pos (.inl h), h]
      · rw [if_neg (by omega)]
        have e : MulS (a / (Nat.gcd a.toNat (1 : Int).toNat : Nat)) 1 = MulS a 1 := by simp
        rw [e, e2]
    have g3 : CeilS a 1 = (a, 0) := by
      unfold CeilS
      rw [if_neg (by omega)]
      simp
    have g4 : CmpS 0 1 a 1 = (if a = 0 then 0 else -1, 0) := by
      unfold CmpS cmpI
      rw [if_neg (by omega)]
      simp only [Int.mul_one]
      by_cases h : a = 0
      · subst h
        rfl
      · rw [if_pos (by omega), if_neg h]
    rw [if_neg c, Cmp_at (by omega) h0 h1 ha h1, g1, g2, g3, g4]
    simp only [Option.bind_some, if_true]
    by_cases h : a = 0
    · subst h
      rfl
    · rw [if_neg h]
      simp [h]
end Go.Proofs.Ytmopmhhhpcfokaa.Pure
