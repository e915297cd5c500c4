/- The pure statement of QarithSums: sums, differences and products are what the reference tells. Conditions: none beyond the given bounds. -/
import Derived.Test.YtmopmhhhpcfokaaPAx3
import Derived.Test.YtmopmhhhpcfokaaXQgcd
namespace Go.Proofs.Ytmopmhhhpcfokaa.Pure
open Go.RowKit Go.Proofs.Ytmopmhhhpcfokaa.PA Go.Proofs.YtmopmhhhpcfokaaW.PrintWords Go.Proofs.YtmopmhhhpcfokaaW.PrintLast Go.Proofs.YtmopmhhhpcfokaaW.PrintMore Go.Proofs.YtmopmhhhpcfokaaX

theorem QarithSums : tourbillonlaw01_QarithSums.Pure := by
  intro a b ha hb
  refine ⟨300, ?_⟩
  unfold tourbillonlaw01_QarithSums.f
  rw [ex_at (by omega), Add_at ha hb, Sub_at ha hb, Mul_at (by omega) ha hb, rAdd_at ha hb, rSub_at ha hb, rMul_at (by omega) ha hb]
  simp only [Option.bind_some, told_at, if_true]

end Go.Proofs.Ytmopmhhhpcfokaa.Pure
