/- The plain law DemandTests. Conditions: its own. -/
import Derived.Test.YtabdnglgdbjbiaaXDemand4
namespace Go.Proofs.Ytabdnglgdbjbiaa.Pure
open Go Go.Proofs.YtabdnglgdbjbiaaM Go.Proofs.YtabdnglgdbjbiaaX Go.Proofs.YtabdnglgdbjbiaaL Go.Proofs.YtabdnglgdbjbiaaC Go.Proofs.YtabdnglgdbjbiaaQ
set_option linter.unusedVariables false
set_option linter.unusedSimpArgs false

theorem DemandTests (y0 : List (Int × Int × Int × Bool)) (y1 : Int) (y2 : Int) (gy0 : (y0.length * 32 ≤ 140737488351232 ∧ ∀ e0 ∈ y0, ((Lit.int .i64 e0.1).wf = true ∧ ((Lit.int .i64 e0.2.1).wf = true ∧ ((Lit.int .i64 e0.2.2.1).wf = true ∧ True))))) (gy1 : (Lit.int .i64 y1).wf = true) (gy2 : (Lit.int .i64 y2).wf = true) : ∃ N, DemandTests_4 N ((y0, y1, y2, ()), ()) = some ((true, ()), ()) := by
  obtain ⟨M, hM⟩ : ∃ M : Nat, 6000 ≤ M := ⟨6000, Nat.le_refl _⟩
  refine ⟨M + y0.length, ?_⟩
  unfold DemandTests_4
  try dsimp only
  rw [examples_eq (by omega), bnd, busy_at y0 gy0.1 (by omega) (by omega), bnd, works_at y0 gy0.1 (by omega), bnd]
  try dsimp only
  rw [rbusy_at y0 (by omega), bnd, test_at y0 gy0.1 (by omega) (by omega), bnd, bnd]
  try dsimp only
  rw [rtest_at y0 (by omega), bnd, byB_true, byB_eqt rfl, byB_eqt rfl]
  try dsimp only
  rw [beq_self_eq_true]
end Go.Proofs.Ytabdnglgdbjbiaa.Pure
