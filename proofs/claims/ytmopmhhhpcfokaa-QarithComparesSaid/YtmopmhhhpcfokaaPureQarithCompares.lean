/- The pure statement of QarithCompares: common divisor, common multiple and the order of fractions are what the reference tells. Conditions: none beyond the given bounds. -/
import Derived.Test.YtmopmhhhpcfokaaPAx4
import Derived.Test.YtmopmhhhpcfokaaXQgcd
namespace Go.Proofs.Ytmopmhhhpcfokaa.Pure
open Go.RowKit Go.Proofs.Ytmopmhhhpcfokaa.PA Go.Proofs.YtmopmhhhpcfokaaW.PrintWords Go.Proofs.YtmopmhhhpcfokaaW.PrintLast Go.Proofs.YtmopmhhhpcfokaaW.PrintMore Go.Proofs.YtmopmhhhpcfokaaX

theorem QarithCompares : tourbillonlaw01_QarithCompares.Pure := by
  intro a b c d ha hb hc hd
  refine ⟨2 * b.toNat + 300, ?_⟩
  unfold tourbillonlaw01_QarithCompares.f
  rw [ex_at (by omega), Gcd_at (by omega), Lcm_at (by omega) ha hb, Cmp_at (by omega) ha hb hc hd, rGcd_at (by omega), rLcm_at (by omega) ha hb, rCmp_at (by omega) ha hb hc hd]
  simp only [Option.bind_some, told_at, if_true]

end Go.Proofs.Ytmopmhhhpcfokaa.Pure
