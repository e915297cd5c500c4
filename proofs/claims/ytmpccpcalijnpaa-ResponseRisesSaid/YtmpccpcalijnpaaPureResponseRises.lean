/- The plain law ResponseRises. Conditions: its own. -/
import Derived.Test.YtmpccpcalijnpaaXResp3
namespace Go.Proofs.Ytmpccpcalijnpaa.Pure
open Go Go.Proofs.YtmpccpcalijnpaaM Go.Proofs.YtmpccpcalijnpaaX Go.Proofs.YtmpccpcalijnpaaL Go.Proofs.YtmpccpcalijnpaaC Go.Proofs.YtmpccpcalijnpaaQ
set_option linter.unusedVariables false

theorem ResponseRises (y0 : Int) (y1 : Int) (y2 : Int) (y3 : List (Int × Int × Int)) (y4 : List (Int × Int × Int)) (y5 : Int) (y6 : Int) (gy0 : (Lit.int .i64 y0).wf = true) (gy1 : (Lit.int .i64 y1).wf = true) (gy2 : (Lit.int .i64 y2).wf = true) (gy3 : (y3.length * 24 ≤ 140737488351232 ∧ ∀ e0 ∈ y3, ((Lit.int .i64 e0.1).wf = true ∧ ((Lit.int .i64 e0.2.1).wf = true ∧ (Lit.int .i64 e0.2.2).wf = true)))) (gy4 : (y4.length * 24 ≤ 140737488351232 ∧ ∀ e0 ∈ y4, ((Lit.int .i64 e0.1).wf = true ∧ ((Lit.int .i64 e0.2.1).wf = true ∧ (Lit.int .i64 e0.2.2).wf = true)))) (gy5 : (Lit.int .i64 y5).wf = true) (gy6 : (Lit.int .i64 y6).wf = true) : ∃ N, ResponseRises_6 N ((y0, y1, y2, y3, y4, y5, y6, ()), ()) = some ((true, ()), ()) := by
  obtain ⟨N, hN⟩ : ∃ N : Nat, 6000 ≤ N := ⟨6000, Nat.le_refl _⟩
  refine ⟨N, ?_⟩
  have h6 := wf64 gy6
  unfold ResponseRises_6
  dsimp only
  rw [examples_eq (by omega), bnd, within_at (by omega), bnd]
  dsimp only
  by_cases he : (WS y0 y1 y2 y3 y4 y5).2 = 0
  rotate_left
  · rw [byB_net he, byB_true, WS_err he]
    rfl
  rw [byB_nef he, join_eq]
  obtain ⟨k1, k2, k3, k4, k5⟩ := WS_0 he
  rw [k5]
  obtain ⟨t1, t2, t3⟩ := rt_of k1
  have ht := tms_of t1
  have ha0 := tot_nonneg (n := y5) k1 k2
  -- the second part
  have last : ResponseRises_6_J11 N ((y0, y1, y2, y3, y4, y5, true, tot y0 y1 y2 y3 y4 y5, ()), ()) = some ((true, ()), ()) := by
    unfold ResponseRises_6_J11
    dsimp only
    rw [w64 (n := y0 + 1) (by omega) (by omega), within_at (by omega), bnd, w64 (n := tot y0 y1 y2 y3 y4 y5 + 1) (by omega) (by omega)]
    dsimp only
    rw [byB_true]
    by_cases c : y0 = 1099511627776
    · have hb : WS (y0 + 1) y1 y2 y3 y4 y5 = (0, 1) := WS_bad (by
        have : tms (y0 + 1) y1 y2 = false := by unfold tms; rw [decide_eq_false_iff_not]; omega
        unfold rt; rw [this]; simp)
      rw [hb]
      dsimp only
      rw [byB_eqf (by decide), byB_eqt c, byB_eqt rfl]
    · have hr : rt (y0 + 1) y1 y2 y3 y4 = true := by
        have : tms (y0 + 1) y1 y2 = true := by unfold tms; rw [decide_eq_true_eq]; omega
        unfold rt; rw [this, t2, t3]; rfl
      have e : tot (y0 + 1) y1 y2 y3 y4 y5 = tot y0 y1 y2 y3 y4 y5 + 1 := by unfold tot; omega
      by_cases d : tot y0 y1 y2 y3 y4 y5 + 1 ≤ 4611686018427387904
      · rw [WS_ok ⟨hr, k2, k3⟩ (by omega), e]
        dsimp only
        rw [byB_eqt rfl, byB_eqt rfl]
      · rw [WS_over ⟨hr, k2, k3⟩ (by omega)]
        dsimp only
        rw [byB_eqf (by decide), byB_eqf c, byB_eqt (by omega)]
        rfl
  have main : ∀ m : Int, 0 ≤ m → m ≤ 9223372036854775807 → ResponseRises_6_J7 N ((y0, y1, y2, y3, y4, y5, m, true, tot y0 y1 y2 y3 y4 y5, ()), ()) = some ((true, ()), ()) := by
    intro m hm0 hm1
    unfold ResponseRises_6_J7
    dsimp only
    rw [join_eq]
    by_cases c : y5 ≤ 1099511627776
    · rw [byB_t c, Int.tmod_eq_emod_of_nonneg hm0]
      have e1 := Int.emod_nonneg m (show (1000000 : Int) ≠ 0 by omega)
      have e2 := Int.emod_lt_of_pos m (show (0 : Int) < 1000000 by omega)
      generalize m % 1000000 = q at *
      rw [w64 (by omega) (by omega), within_at (by omega), bnd, join_eq]
      dsimp only
      have go : ResponseRises_6_J10 N (ResponseRises_6_J11 N) ((y0, y1, y2, y3, y4, y5, true, tot y0 y1 y2 y3 y4 y5, false, ()), ()) = some ((true, ()), ()) := by
        unfold ResponseRises_6_J10
        dsimp only
        rw [byB_false]
        exact last
      have hm := tot_mono (n := y5) (m := y5 + q) k1 (by omega)
      by_cases d : tot y0 y1 y2 y3 y4 (y5 + q) ≤ 4611686018427387904
      · rw [WS_ok ⟨k1, by omega, by omega⟩ d]
        dsimp only
        rw [byB_eqt rfl, byB_f (by omega), byB_nef rfl]
        exact go
      · rw [WS_over ⟨k1, by omega, by omega⟩ d]
        dsimp only
        rw [byB_eqf (by decide), byB_net (by decide)]
        exact go
    · rw [byB_f c]
      exact last
  by_cases hneg : y6 < 0
  · rw [byB_t hneg]
    have e : IntKind.wrap .i64 (0 - (IntKind.wrap .i64 (y6 + 1))) = -(y6 + 1) := by
      rw [w64 (n := y6 + 1) (by omega) (by omega), w64 (by omega) (by omega)]; omega
    rw [e]
    exact main _ (by omega) (by omega)
  · rw [byB_f hneg]
    exact main _ (by omega) (by omega)
end Go.Proofs.Ytmpccpcalijnpaa.Pure
