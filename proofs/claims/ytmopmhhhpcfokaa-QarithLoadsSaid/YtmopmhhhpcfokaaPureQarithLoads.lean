/- The pure statement of QarithLoads: any works in any times are the load that the reference tells. Conditions: none beyond the given bounds. -/
import Derived.Test.YtmopmhhhpcfokaaPAx6
import Derived.Test.YtmopmhhhpcfokaaXQload
namespace Go.Proofs.Ytmopmhhhpcfokaa.Pure
open Go.RowKit Go.Proofs.Ytmopmhhhpcfokaa.PA Go.Proofs.YtmopmhhhpcfokaaW.PrintWords Go.Proofs.YtmopmhhhpcfokaaW.PrintLast Go.Proofs.YtmopmhhhpcfokaaW.PrintMore Go.Proofs.YtmopmhhhpcfokaaX

theorem QarithLoads : tourbillonlaw01_QarithLoads.Pure := by
  intro l0 l1 _ h0 w0 _ h1 w1
  refine ⟨3 * l0.length + 300, ?_⟩
  unfold tourbillonlaw01_QarithLoads.f
  rw [ex_at (by omega), Load_at (by omega) (by omega) w0 w1, rLoad_at (by omega) (by omega) w0 w1]
  simp only [Option.bind_some, told_at, if_true]

end Go.Proofs.Ytmopmhhhpcfokaa.Pure
