/- The law TasksetWrites, with no program in sight. Conditions: none. -/
import Derived.Test.YtcdnofemnpafhaaXF
import Derived.Test.YtcdnofemnpafhaaPureTasksetTells
namespace Go.Proofs.Ytcdnofemnpafhaa.Pure
open Go Go.Proofs.YtcdnofemnpafhaaM Go.Proofs.YtcdnofemnpafhaaX Go.Proofs.YtcdnofemnpafhaaL Go.Proofs.YtcdnofemnpafhaaC
set_option linter.unusedVariables false
set_option linter.unusedSimpArgs false
theorem TasksetWrites (y0 : Int × Int × Int × Int × Int × Int × Int × Int × (List (Int × Int × Int × (List (Int × Int × Int))))) (gy0 : ((Lit.int .i64 y0.1).wf = true ∧ ((Lit.int .i64 y0.2.1).wf = true ∧ ((Lit.int .i64 y0.2.2.1).wf = true ∧ ((Lit.int .i64 y0.2.2.2.1).wf = true ∧ ((Lit.int .i64 y0.2.2.2.2.1).wf = true ∧ ((Lit.int .i64 y0.2.2.2.2.2.1).wf = true ∧ ((Lit.int .i64 y0.2.2.2.2.2.2.1).wf = true ∧ ((Lit.int .i64 y0.2.2.2.2.2.2.2.1).wf = true ∧ (y0.2.2.2.2.2.2.2.2.length * 48 ≤ 140737488351232 ∧ ∀ e0 ∈ y0.2.2.2.2.2.2.2.2, ((Lit.int .i64 e0.1).wf = true ∧ ((Lit.int .i64 e0.2.1).wf = true ∧ ((Lit.int .i64 e0.2.2.1).wf = true ∧ (e0.2.2.2.length * 24 ≤ 140737488351232 ∧ ∀ e1 ∈ e0.2.2.2, ((Lit.int .i64 e1.1).wf = true ∧ ((Lit.int .i64 e1.2.1).wf = true ∧ (Lit.int .i64 e1.2.2).wf = true)))))))))))))))) : ∃ N, TasksetWrites_3 N (((y0.1, y0.2.1, y0.2.2.1, y0.2.2.2.1, y0.2.2.2.2.1, y0.2.2.2.2.2.1, y0.2.2.2.2.2.2.1, y0.2.2.2.2.2.2.2.1, y0.2.2.2.2.2.2.2.2, ()), ()), ()) = some ((true, ()), ()) := by
  have w0 := wfS_of (y0 := y0) gy0
  refine ⟨300000, Ev.eq (Q := fun r => r = ((true, ()), ())) ?_ fun _ h => h⟩
  unfold TasksetWrites_3
  dsimp only
  rw [ex07 (by omega), bnd]
  refine Ev.bind (encode_at (N := 300000) (by omega) (s := y0) w0) fun a ha => ?_
  refine Ev.bind (rencode_at (N := 300000) (by omega) (s := y0) w0) fun b hb => ?_
  have e : a = b := by
    rcases ha with ⟨h1, rfl⟩ | ⟨h1, h2, rfl⟩ | ⟨h1, h2, rfl⟩ <;> rcases hb with ⟨k1, rfl⟩ | ⟨k1, k2, rfl⟩ | ⟨k1, k2, rfl⟩ <;> first | rfl | exact absurd h1 k1 | exact absurd k1 h1 | exact absurd h2 k2 | exact absurd k2 h2
  subst e
  dsimp only
  rw [byB_true, str_eq, decide_eq_true rfl, byB_true]
  exact Ev.mk (by simp)
end Go.Proofs.Ytcdnofemnpafhaa.Pure
