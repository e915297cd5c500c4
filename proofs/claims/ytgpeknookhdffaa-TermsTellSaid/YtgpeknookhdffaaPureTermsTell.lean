/- The plain law TermsTell. Conditions: its own. -/
import Derived.Test.YtgpeknookhdffaaXTerms2
namespace Go.Proofs.Ytgpeknookhdffaa.Pure
open Go Go.Proofs.YtgpeknookhdffaaM Go.Proofs.YtgpeknookhdffaaX Go.Proofs.YtgpeknookhdffaaL Go.Proofs.YtgpeknookhdffaaC
set_option linter.unusedVariables false
set_option linter.unusedSimpArgs false

theorem TermsTell (y0 : Int × Int × Int × Int × Int × Int × Int × Int × (List (Int × Int × Int × (List (Int × Int × Int))))) (y1 : List Int) (y2 : Int) (y3 : Int) (y4 : Int) (y5 : Int) (gy0 : ((Lit.int .i64 y0.1).wf = true ∧ ((Lit.int .i64 y0.2.1).wf = true ∧ ((Lit.int .i64 y0.2.2.1).wf = true ∧ ((Lit.int .i64 y0.2.2.2.1).wf = true ∧ ((Lit.int .i64 y0.2.2.2.2.1).wf = true ∧ ((Lit.int .i64 y0.2.2.2.2.2.1).wf = true ∧ ((Lit.int .i64 y0.2.2.2.2.2.2.1).wf = true ∧ ((Lit.int .i64 y0.2.2.2.2.2.2.2.1).wf = true ∧ (y0.2.2.2.2.2.2.2.2.length * 48 ≤ 140737488351232 ∧ ∀ e0 ∈ y0.2.2.2.2.2.2.2.2, ((Lit.int .i64 e0.1).wf = true ∧ ((Lit.int .i64 e0.2.1).wf = true ∧ ((Lit.int .i64 e0.2.2.1).wf = true ∧ (e0.2.2.2.length * 24 ≤ 140737488351232 ∧ ∀ e1 ∈ e0.2.2.2, ((Lit.int .i64 e1.1).wf = true ∧ ((Lit.int .i64 e1.2.1).wf = true ∧ (Lit.int .i64 e1.2.2).wf = true)))))))))))))))) (gy1 : (y1.length * 8 ≤ 140737488351232 ∧ ∀ e0 ∈ y1, (Lit.int .i64 e0).wf = true)) (gy2 : (Lit.int .i64 y2).wf = true) (gy3 : (Lit.int .i64 y3).wf = true) (gy4 : (Lit.int .i64 y4).wf = true) (gy5 : (Lit.int .i64 y5).wf = true) : ∃ N, TermsTell_3 N (((y0.1, y0.2.1, y0.2.2.1, y0.2.2.2.1, y0.2.2.2.2.1, y0.2.2.2.2.2.1, y0.2.2.2.2.2.2.1, y0.2.2.2.2.2.2.2.1, y0.2.2.2.2.2.2.2.2, ()), y1, y2, y3, y4, y5, ()), ()) = some ((true, ()), ()) := by
  obtain ⟨M, hM⟩ : ∃ M : Nat, 1000 ≤ M := ⟨1000, Nat.le_refl _⟩
  refine ⟨M, ?_⟩
  obtain ⟨a0, a1, a2, a3, a4, a5, a6, a7, l⟩ := y0
  unfold TermsTell_3
  try dsimp only
  rw [examples_eq (by omega), bnd, Longest_at (by omega), bnd, rLongest_at (by omega), bnd, Wait_at (by omega), bnd, rWait_at (by omega), bnd, Hold_at (by omega), bnd, rHold_at (by omega), bnd, Extra_at (by omega), bnd, rExtra_at (by omega), bnd, Uses_at (by omega), bnd, rUses_at (by omega), bnd]
  try dsimp only
  rw [byB_true, byB_eqt rfl, byB_eqt rfl, byB_eqt rfl, byB_eqt rfl, beq_self_eq_true]
end Go.Proofs.Ytgpeknookhdffaa.Pure
