/- The plain law ResponseMore. Conditions: its own. -/
import Derived.Test.YtmpccpcalijnpaaXResp3
namespace Go.Proofs.Ytmpccpcalijnpaa.Pure
open Go Go.Proofs.YtmpccpcalijnpaaM Go.Proofs.YtmpccpcalijnpaaX Go.Proofs.YtmpccpcalijnpaaL Go.Proofs.YtmpccpcalijnpaaC Go.Proofs.YtmpccpcalijnpaaQ
set_option linter.unusedVariables false

theorem ResponseMore (y0 : Int) (y1 : Int) (y2 : Int) (y3 : List (Int × Int × Int)) (y4 : Int × Int × Int) (y5 : Int) (y6 : Int) (gy0 : (Lit.int .i64 y0).wf = true) (gy1 : (Lit.int .i64 y1).wf = true) (gy2 : (Lit.int .i64 y2).wf = true) (gy3 : (y3.length * 24 ≤ 140737488351232 ∧ ∀ e0 ∈ y3, ((Lit.int .i64 e0.1).wf = true ∧ ((Lit.int .i64 e0.2.1).wf = true ∧ (Lit.int .i64 e0.2.2).wf = true)))) (gy4 : ((Lit.int .i64 y4.1).wf = true ∧ ((Lit.int .i64 y4.2.1).wf = true ∧ (Lit.int .i64 y4.2.2).wf = true))) (gy5 : (Lit.int .i64 y5).wf = true) (gy6 : (Lit.int .i64 y6).wf = true) : ∃ N, ResponseMore_5 N ((y0, y1, y2, y3, (y4.1, y4.2.1, y4.2.2, ()), y5, y6, ()), ()) = some ((true, ()), ()) := by
  obtain ⟨N, hN⟩ : ∃ N : Nat, 6000 ≤ N := ⟨6000, Nat.le_refl _⟩
  refine ⟨N, ?_⟩
  have h5 := wf64 gy5
  have g3 := gy3.1
  unfold ResponseMore_5
  dsimp only
  rw [examples_eq (by omega), bnd, bound_at (by omega), bnd, if_pos (by omega), if_pos (by omega), bound_at (by omega), bnd]
  dsimp only
  rw [show (y4.1, y4.2.1, y4.2.2) = y4 from rfl]
  generalize hW2 : BS y0 y1 y2 (y3 ++ [y4]) [] y6 = W2
  -- what is found with more above is found with less
  have rt2 : rt y0 y1 y2 (y3 ++ [y4]) [] = true → rt y0 y1 y2 y3 [] = true ∧ ∀ n, 0 ≤ n → tot y0 y1 y2 y3 [] n ≤ tot y0 y1 y2 (y3 ++ [y4]) [] n := by
    intro h
    obtain ⟨t1, t2, t3⟩ := rt_of h
    obtain ⟨u1, u2⟩ := lsok_of t2
    have h3 : lsok y3 = true := by
      unfold lsok
      simp only [Bool.and_eq_true, decide_eq_true_eq, List.all_eq_true]
      refine ⟨by simp at u1; omega, fun x hx => u2 x (by simp [hx])⟩
    refine ⟨by unfold rt; rw [t1, h3, t3]; rfl, fun n hn => ?_⟩
    have h4 := wA_nonneg (n := n) (u2 y4 (by simp)) hn
    unfold tot
    rw [sg_append]
    simp only [sg]
    omega
  have up : W2.2 = 0 → (BS y0 y1 y2 y3 [] y6).2 = 11 ∨ ((BS y0 y1 y2 y3 [] y6).2 = 0 ∧ (BS y0 y1 y2 y3 [] y6).1 ≤ W2.1) := by
    intro h
    subst hW2
    obtain ⟨k1, k2, k3, k4, k5, k6, k7⟩ := BS_cases h
    obtain ⟨r1, r2⟩ := rt2 k1
    exact BS_below ⟨r1, k2, k3⟩ k4 k5 (Int.le_trans (r2 _ (by omega)) k6)
  by_cases he : (BS y0 y1 y2 y3 [] y6).2 = 0
  rotate_left
  · rw [byB_net he, byB_true]
    by_cases hf : W2.2 = 0
    · rw [byB_nef hf]
      rcases up hf with h | h
      · rw [h]; rfl
      · exact absurd h.1 he
    · rw [byB_net hf]
  rw [byB_nef he]
  obtain ⟨k1, k2, k3, k4, k5, k6, k7⟩ := BS_cases he
  obtain ⟨t1, t2, t3⟩ := rt_of k1
  have ht := tms_of t1
  rw [byB_f (by omega)]
  have key : ∀ m : Int, 0 ≤ m → m ≤ 9223372036854775807 → (let t20 := IntKind.wrap .i64 (y0 + 1);
                if t20 = 0 then
                  none
                else
                (Bound_13 N ((Int.tmod m t20, y1, y2, y3, [], y6, ()), ())).bind fun y22 =>
                byB true
                  (byB (W2.2 != 0)
                      (byB (y22.1.2.1 == 11)
                          (some ((true, ()), ()))
                          (byB (y22.1.2.1 == 0)
                              (some ((decide (y22.1.1 ≤ (BS y0 y1 y2 y3 [] y6).1), ()), ()))
                              (some ((false, ()), ()))))
                      (byB (decide (W2.1 ≥ (BS y0 y1 y2 y3 [] y6).1))
                          (byB (y22.1.2.1 == 11)
                              (some ((true, ()), ()))
                              (byB (y22.1.2.1 == 0)
                                  (some ((decide (y22.1.1 ≤ (BS y0 y1 y2 y3 [] y6).1), ()), ()))
                                  (some ((false, ()), ()))))
                          (some ((false, ()), ()))))
                  (some ((false, ()), ()))) = some ((true, ()), ()) := by
    intro m hm0 hm1
    dsimp only
    rw [w64 (n := y0 + 1) (by omega) (by omega), if_neg (by omega), Int.tmod_eq_emod_of_nonneg hm0, bound_at (by omega), bnd, byB_true]
    have e1 := Int.emod_nonneg m (show y0 + 1 ≠ 0 by omega)
    have e2 := Int.emod_lt_of_pos m (show 0 < y0 + 1 by omega)
    generalize m % (y0 + 1) = q at *
    have r3 : rt q y1 y2 y3 [] = true := by
      have : tms q y1 y2 = true := by unfold tms; rw [decide_eq_true_eq]; omega
      unfold rt; rw [this, t2, t3]; rfl
    have hb := BS_below (o := q) (b := y1) (r := y2) (A := y3) (L := []) (lim := y6) (c := (BS y0 y1 y2 y3 [] y6).1) ⟨r3, k2, k3⟩ k4 k5 (by unfold tot at k6 ⊢; omega)
    dsimp only
    have c2 : (byB ((BS q y1 y2 y3 [] y6).2 == 11)
                          (some ((true, ()), ()))
                          (byB ((BS q y1 y2 y3 [] y6).2 == 0)
                              (some ((decide ((BS q y1 y2 y3 [] y6).1 ≤ (BS y0 y1 y2 y3 [] y6).1), ()), ()))
                              (some ((false, ()), ())))) = some ((true, ()), ()) := by
      rcases hb with h | ⟨h, h'⟩
      · rw [byB_eqt h]
      · rw [byB_eqf (by omega), byB_eqt h, decide_eq_true h']
    rw [c2]
    by_cases hf : W2.2 = 0
    · rw [byB_nef hf]
      rcases up hf with h | ⟨_, h⟩
      · rw [h] at he; cases he
      · rw [byB_t h]
    · rw [byB_net hf]
  by_cases hneg : y5 < 0
  · rw [byB_t hneg]
    have e : IntKind.wrap .i64 (0 - (IntKind.wrap .i64 (y5 + 1))) = -(y5 + 1) := by
      rw [w64 (n := y5 + 1) (by omega) (by omega), w64 (by omega) (by omega)]; omega
    rw [e]
    exact key _ (by omega) (by omega)
  · rw [byB_f hneg]
    exact key _ (by omega) (by omega)
end Go.Proofs.Ytmpccpcalijnpaa.Pure
