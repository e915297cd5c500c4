/- The plain law ResponseTells. Conditions: its own. -/
import Derived.Test.YtmpccpcalijnpaaXResp2
namespace Go.Proofs.Ytmpccpcalijnpaa.Pure
open Go Go.Proofs.YtmpccpcalijnpaaM Go.Proofs.YtmpccpcalijnpaaX Go.Proofs.YtmpccpcalijnpaaL Go.Proofs.YtmpccpcalijnpaaC Go.Proofs.YtmpccpcalijnpaaQ
set_option linter.unusedVariables false

theorem ResponseTells (y0 : Int) (y1 : Int) (y2 : Int) (y3 : List (Int × Int × Int)) (y4 : List (Int × Int × Int)) (y5 : Int) (y6 : Int) (gy0 : (Lit.int .i64 y0).wf = true) (gy1 : (Lit.int .i64 y1).wf = true) (gy2 : (Lit.int .i64 y2).wf = true) (gy3 : (y3.length * 24 ≤ 140737488351232 ∧ ∀ e0 ∈ y3, ((Lit.int .i64 e0.1).wf = true ∧ ((Lit.int .i64 e0.2.1).wf = true ∧ (Lit.int .i64 e0.2.2).wf = true)))) (gy4 : (y4.length * 24 ≤ 140737488351232 ∧ ∀ e0 ∈ y4, ((Lit.int .i64 e0.1).wf = true ∧ ((Lit.int .i64 e0.2.1).wf = true ∧ (Lit.int .i64 e0.2.2).wf = true)))) (gy5 : (Lit.int .i64 y5).wf = true) (gy6 : (Lit.int .i64 y6).wf = true) : ∃ N, ResponseTells_3 N ((y0, y1, y2, y3, y4, y5, y6, ()), ()) = some ((true, ()), ()) := by
  obtain ⟨M, hM⟩ : ∃ M : Nat, 6000 ≤ M := ⟨6000, Nat.le_refl _⟩
  refine ⟨M + y3.length + y4.length, ?_⟩
  have c3 := copy_at (N := M + y3.length + y4.length) gy3.1 (by omega)
  have c4 := copy_at (N := M + y3.length + y4.length) gy4.1 (by omega)
  have g3 := gy3.1
  have g4 := gy4.1
  unfold ResponseTells_3
  dsimp only
  rw [examples_eq (by omega), bnd, within_at (by omega), bnd]
  refine Ev.eq (Q := fun z => z = ((true, ()), ())) ?_ fun s h => h
  refine Ev.bind c3 fun a ha => Ev.bind c4 fun b hb => ?_
  rw [ha, hb, rwithin_at (by omega) (by omega) (by omega) (by omega) (by omega), bnd, bound_at (by omega), bnd]
  refine Ev.bind c3 fun a' ha' => Ev.bind c4 fun b' hb' => ?_
  rw [ha', hb', rbound_at (by omega) (by omega) (by omega) (by omega) (by omega), bnd]
  dsimp only
  rw [byB_true, byB_eqt rfl, byB_eqt rfl, byB_eqt rfl]
  refine Ev.mk ?_
  rw [beq_self_eq_true]
end Go.Proofs.Ytmpccpcalijnpaa.Pure
