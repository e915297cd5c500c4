/- The plain law DemandAsks. Conditions: its own. -/
import Derived.Test.YtabdnglgdbjbiaaXDemand2
namespace Go.Proofs.Ytabdnglgdbjbiaa.Pure
open Go Go.Proofs.YtabdnglgdbjbiaaM Go.Proofs.YtabdnglgdbjbiaaX Go.Proofs.YtabdnglgdbjbiaaL Go.Proofs.YtabdnglgdbjbiaaC Go.Proofs.YtabdnglgdbjbiaaQ
set_option linter.unusedVariables false

theorem DemandAsks (y0 : List (Int × Int × Int × Bool)) (y1 : Int) (y2 : Int) (y3 : Int) (gy0 : (y0.length * 32 ≤ 140737488351232 ∧ ∀ e0 ∈ y0, ((Lit.int .i64 e0.1).wf = true ∧ ((Lit.int .i64 e0.2.1).wf = true ∧ ((Lit.int .i64 e0.2.2.1).wf = true ∧ True))))) (gy1 : (Lit.int .i64 y1).wf = true) (gy2 : (Lit.int .i64 y2).wf = true) (gy3 : (Lit.int .i64 y3).wf = true) : ∃ N, DemandAsks_3 N ((y0, y1, y2, y3, ()), ()) = some ((true, ()), ()) := by
  obtain ⟨M, hM⟩ : ∃ M : Nat, 1000 ≤ M := ⟨1000, Nat.le_refl _⟩
  refine ⟨M + y0.length, ?_⟩
  have ht := wf64 gy3
  unfold DemandAsks_3
  try dsimp only
  rw [examples_eq (by omega), bnd, ask_at ht.2 y0 (by omega) (by omega) gy0.1, bnd, works_at y0 gy0.1 (by omega), bnd]
  try dsimp only
  rw [rask_at ht.2 y0 (by omega), bnd, byB_true]
  rw [byB_eqt rfl, beq_self_eq_true]
end Go.Proofs.Ytabdnglgdbjbiaa.Pure
