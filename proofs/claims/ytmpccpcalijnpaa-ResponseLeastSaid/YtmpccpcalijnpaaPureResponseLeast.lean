/- The plain law ResponseLeast. Conditions: its own. -/
import Derived.Test.YtmpccpcalijnpaaXResp3
namespace Go.Proofs.Ytmpccpcalijnpaa.Pure
open Go Go.Proofs.YtmpccpcalijnpaaM Go.Proofs.YtmpccpcalijnpaaX Go.Proofs.YtmpccpcalijnpaaL Go.Proofs.YtmpccpcalijnpaaC Go.Proofs.YtmpccpcalijnpaaQ
set_option linter.unusedVariables false

theorem ResponseLeast (y0 : Int) (y1 : Int) (y2 : Int) (y3 : List (Int × Int × Int)) (y4 : List (Int × Int × Int)) (y5 : Int) (y6 : Int) (gy0 : (Lit.int .i64 y0).wf = true) (gy1 : (Lit.int .i64 y1).wf = true) (gy2 : (Lit.int .i64 y2).wf = true) (gy3 : (y3.length * 24 ≤ 140737488351232 ∧ ∀ e0 ∈ y3, ((Lit.int .i64 e0.1).wf = true ∧ ((Lit.int .i64 e0.2.1).wf = true ∧ (Lit.int .i64 e0.2.2).wf = true)))) (gy4 : (y4.length * 24 ≤ 140737488351232 ∧ ∀ e0 ∈ y4, ((Lit.int .i64 e0.1).wf = true ∧ ((Lit.int .i64 e0.2.1).wf = true ∧ (Lit.int .i64 e0.2.2).wf = true)))) (gy5 : (Lit.int .i64 y5).wf = true) (gy6 : (Lit.int .i64 y6).wf = true) : ∃ N, ResponseLeast_4 N ((y0, y1, y2, y3, y4, y5, y6, ()), ()) = some ((true, ()), ()) := by
  obtain ⟨N, hN⟩ : ∃ N : Nat, 6000 ≤ N := ⟨6000, Nat.le_refl _⟩
  refine ⟨N, ?_⟩
  have h6 := wf64 gy6
  unfold ResponseLeast_4
  dsimp only
  rw [examples_eq (by omega), bnd, bound_at (by omega), bnd]
  dsimp only
  by_cases he : (BS y0 y1 y2 y3 y4 y5).2 = 0
  rotate_left
  · rw [byB_net he, byB_true, BS_err he]
    rfl
  rw [byB_nef he]
  obtain ⟨k1, k2, k3, k4, k5, k6, k7⟩ := BS_cases he
  generalize (BS y0 y1 y2 y3 y4 y5).1 = b at *
  have hW := WS_ok (o := y0) (b := y1) (r := y2) (A := y3) (L := y4) (n := b) ⟨k1, by omega, by omega⟩ (by omega)
  rw [within_at (by omega), bnd, join_eq, hW]
  dsimp only
  rw [byB_nef rfl, byB_f (by omega)]
  have hlt : decide (b < 1) = false := decide_eq_false (by omega)
  rw [hlt]
  unfold ResponseLeast_4_J7
  dsimp only
  rw [byB_false]
  have key : ∀ n : Int, 0 ≤ n → n ≤ 9223372036854775807 → (if b = 0 then none else
            let t28 := IntKind.wrap .i64 (1 + (Int.tmod n b));
            (Within_10 N ((y0, y1, y2, y3, y4, t28, ()), ())).bind fun y29 =>
            byB true
              (byB (y29.1.2.1 == 0)
                  (byB (t28 == b)
                      (some ((true, ()), ()))
                      (some ((decide (y29.1.1 > t28), ()), ())))
                  (some ((false, ()), ())))
              (some ((false, ()), ()))) = some ((true, ()), ()) := by
    intro n hn0 hn1
    rw [if_neg (by omega), Int.tmod_eq_emod_of_nonneg hn0]
    have e1 := Int.emod_nonneg n (show b ≠ 0 by omega)
    have e2 := Int.emod_lt_of_pos n (show 0 < b by omega)
    dsimp only
    rw [w64 (by omega) (by omega)]
    generalize n % b = q at *
    have hm := tot_mono (n := 1 + q) (m := b) k1 (by omega)
    rw [within_at (by omega), bnd, WS_ok ⟨k1, by omega, by omega⟩ (by omega)]
    dsimp only
    rw [byB_true, byB_eqt rfl]
    by_cases hq : 1 + q = b
    · rw [byB_eqt hq]
    · rw [byB_eqf hq]
      have : ¬ tot y0 y1 y2 y3 y4 (1 + q) ≤ 1 + q := fun h => by have := k7 _ (by omega) h; omega
      rw [decide_eq_true (by omega)]
  by_cases hneg : y6 < 0
  · rw [byB_t hneg]
    have e : IntKind.wrap .i64 (0 - (IntKind.wrap .i64 (y6 + 1))) = -(y6 + 1) := by
      rw [w64 (n := y6 + 1) (by omega) (by omega), w64 (by omega) (by omega)]; omega
    rw [e]
    exact key _ (by omega) (by omega)
  · rw [byB_f hneg]
    exact key _ (by omega) (by omega)
end Go.Proofs.Ytmpccpcalijnpaa.Pure
