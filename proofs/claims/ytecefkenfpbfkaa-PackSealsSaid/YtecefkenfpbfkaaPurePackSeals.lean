/- The pure statement of PackSeals: sums, seals and openings are what the reference tells. Conditions: none beyond the given bounds. -/
import Derived.Test.YtecefkenfpbfkaaPAx7
import Derived.Test.YtecefkenfpbfkaaPAx6
import Derived.Test.YtecefkenfpbfkaaXRefSum
import Derived.Test.YtecefkenfpbfkaaXSeal
namespace Go.Proofs.Ytecefkenfpbfkaa.Pure
open Go.RowKit Go.Proofs.Ytecefkenfpbfkaa.PA Go.Proofs.YtecefkenfpbfkaaW.PrintWords Go.Proofs.YtecefkenfpbfkaaW.PrintLast Go.Proofs.YtecefkenfpbfkaaW.PrintMore Go.Proofs.YtecefkenfpbfkaaX

theorem PackSeals : tourbillonlaw06_PackSeals.Pure := by
  intro s hs
  have hk : 10 * s.size + 1 ≤ 10 * s.size + 100 := by omega
  refine ⟨10 * s.size + 100, ?_⟩
  unfold tourbillonlaw06_PackSeals.f
  rw [ex_at (by omega), Option.bind_some, Seal_at (by omega), Option.bind_some, rSeal_at (by omega) hk, Option.bind_some, Open_at (by omega), Option.bind_some, rOpen_at (by omega) hk, Option.bind_some, if_pos rfl, Sum_at (by omega), Option.bind_some, rSum_at (by omega) hk, Option.bind_some]
  have hl := cL_lt s.data.toList (show 65535 < 65536 by decide)
  rw [if_pos (w64 (by omega) (by omega))]
  unfold SealS
  split <;> simp

end Go.Proofs.Ytecefkenfpbfkaa.Pure
