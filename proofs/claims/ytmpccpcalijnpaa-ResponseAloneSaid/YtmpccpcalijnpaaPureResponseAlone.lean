/- The plain law ResponseAlone. Conditions: its own. -/
import Derived.Test.YtmpccpcalijnpaaXResp3
namespace Go.Proofs.Ytmpccpcalijnpaa.Pure
open Go Go.Proofs.YtmpccpcalijnpaaM Go.Proofs.YtmpccpcalijnpaaX Go.Proofs.YtmpccpcalijnpaaL Go.Proofs.YtmpccpcalijnpaaC Go.Proofs.YtmpccpcalijnpaaQ
set_option linter.unusedVariables false

theorem ResponseAlone (y0 : Int) (y1 : Int) (gy0 : (Lit.int .i64 y0).wf = true) (gy1 : (Lit.int .i64 y1).wf = true) : ∃ N, ResponseAlone_7 N ((y0, y1, ()), ()) = some ((true, ()), ()) := by
  obtain ⟨N, hN⟩ : ∃ N : Nat, 6000 ≤ N := ⟨6000, Nat.le_refl _⟩
  refine ⟨N, ?_⟩
  have h0 := wf64 gy0
  have h1 := wf64 gy1
  unfold ResponseAlone_7
  dsimp only
  rw [examples_eq (by omega), bnd, bound_at (by omega), bnd]
  dsimp only
  have bad : tms y0 y1 0 = false → BS y0 y1 0 [] [] 1099511627776 = (0, 1) := fun h => BS_bad (by unfold rt; rw [h]; simp)
  by_cases c1 : y0 < 0
  · rw [byB_t c1, byB_true, bad (by unfold tms; rw [decide_eq_false_iff_not]; omega)]
    rfl
  rw [byB_f c1]
  by_cases c2 : y0 > 1099511627776
  · rw [byB_t c2, byB_true, bad (by unfold tms; rw [decide_eq_false_iff_not]; omega)]
    rfl
  rw [byB_f c2]
  by_cases c3 : y1 < 0
  · rw [byB_t c3, byB_true, bad (by unfold tms; rw [decide_eq_false_iff_not]; omega)]
    rfl
  rw [byB_f c3]
  by_cases c4 : y1 > 1099511627776
  · rw [byB_t c4, byB_true, bad (by unfold tms; rw [decide_eq_false_iff_not]; omega)]
    rfl
  rw [byB_f c4]
  have hr : rt y0 y1 0 [] [] = true := by
    have : tms y0 y1 0 = true := by unfold tms; rw [decide_eq_true_eq]; omega
    unfold rt; rw [this]; rfl
  have ht : ∀ n, tot y0 y1 0 [] [] n = y0 + y1 := fun n => by simp [tot, sg]
  have hW : ∀ n, 0 ≤ n → n ≤ 4611686018427387904 → WS y0 y1 0 [] [] n = (y0 + y1, 0) := fun n hn hm => by
    rw [WS_ok ⟨hr, hn, hm⟩ (by rw [ht]; omega), ht]
  have hB : BS y0 y1 0 [] [] 1099511627776 = if y0 + y1 > 1099511627776 then (0, 12) else (if y0 + y1 > 1 then y0 + y1 else 1, 0) := by
    rw [BS_ok ⟨hr, by omega, by omega⟩, bl, hW 1 (by omega) (by omega)]
    simp only [if_true]
    by_cases c : y0 + y1 ≤ 1
    · rw [if_pos c, if_neg (by omega), if_neg (by omega)]
    · rw [if_neg c]
      by_cases d : y0 + y1 > 1099511627776
      · rw [if_pos d, if_pos d]
      · rw [if_neg d, if_neg d, if_pos (by omega), bl, hW _ (by omega) (by omega)]
        simp
  rw [w64 (by omega) (by omega), hB]
  by_cases c5 : y0 + y1 > 1099511627776
  · rw [byB_t c5, if_pos c5, byB_true]; rfl
  · rw [byB_f c5, if_neg c5, byB_true]
    dsimp only
    rw [byB_eqt rfl, beq_self_eq_true]
end Go.Proofs.Ytmpccpcalijnpaa.Pure
