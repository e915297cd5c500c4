/- The plain law ResponseNothing. Conditions: its own. -/
import Derived.Test.YtmpccpcalijnpaaXResp3
namespace Go.Proofs.Ytmpccpcalijnpaa.Pure
open Go Go.Proofs.YtmpccpcalijnpaaM Go.Proofs.YtmpccpcalijnpaaX Go.Proofs.YtmpccpcalijnpaaL Go.Proofs.YtmpccpcalijnpaaC Go.Proofs.YtmpccpcalijnpaaQ
set_option linter.unusedVariables false

theorem lsok_none {A : List Ld} (h : A.length ≤ 20) : lsok (A ++ A.map fun x => (0, x.2)) = lsok A ∨ lsok (A ++ A.map fun x => (0, x.2)) = false := by
  cases hb : lsok (A ++ A.map fun x => (0, x.2)) with
  | false => exact .inr rfl
  | true =>
    obtain ⟨h1, h2⟩ := lsok_of hb
    refine .inl ?_
    have : lsok A = true := by
      unfold lsok
      simp only [Bool.and_eq_true, decide_eq_true_eq, List.all_eq_true]
      exact ⟨by omega, fun x hx => h2 x (List.mem_append_left _ hx)⟩
    rw [this]
theorem tot_none {o b n : Int} {A L : List Ld} : tot o b 0 (A ++ A.map fun x => (0, x.2)) L n = tot o b 0 A [] n := by
  unfold tot
  rw [sg_append, sg_zero (f := wA n) (l := A.map fun x => (0, x.2)) (fun x hx => by
    obtain ⟨y, _, rfl⟩ := List.mem_map.1 hx
    simp [wA]), sg_zero (f := wL n 0) (l := L) (fun x _ => by simp [wL])]
  simp [sg]

theorem ResponseNothing (y0 : Int) (y1 : Int) (y2 : List (Int × Int × Int)) (y3 : List (Int × Int × Int)) (y4 : Int) (y5 : Int) (gy0 : (Lit.int .i64 y0).wf = true) (gy1 : (Lit.int .i64 y1).wf = true) (gy2 : (y2.length * 24 ≤ 140737488351232 ∧ ∀ e0 ∈ y2, ((Lit.int .i64 e0.1).wf = true ∧ ((Lit.int .i64 e0.2.1).wf = true ∧ (Lit.int .i64 e0.2.2).wf = true)))) (gy3 : (y3.length * 24 ≤ 140737488351232 ∧ ∀ e0 ∈ y3, ((Lit.int .i64 e0.1).wf = true ∧ ((Lit.int .i64 e0.2.1).wf = true ∧ (Lit.int .i64 e0.2.2).wf = true)))) (gy4 : (Lit.int .i64 y4).wf = true) (gy5 : (Lit.int .i64 y5).wf = true) : ∃ N, ResponseNothing_8 N ((y0, y1, y2, y3, y4, y5, ()), ()) = some ((true, ()), ()) := by
  obtain ⟨N, hN⟩ : ∃ N : Nat, 6000 ≤ N := ⟨6000, Nat.le_refl _⟩
  refine ⟨N, ?_⟩
  unfold ResponseNothing_8
  dsimp only
  rw [examples_eq (by omega), bnd]
  have cut : ∀ l : List Ld, ((0 : Int) ≤ 0 ∧ (0 : Int) ≤ (if 20 < (l.length : Int) then 20 else (l.length : Int)) ∧ (if 20 < (l.length : Int) then 20 else (l.length : Int)) ≤ (l.length : Int)) ∧ (l.take (if 20 < (l.length : Int) then (20 : Int) else (l.length : Int)).toNat).length ≤ 20 := by
    intro l
    split
    · exact ⟨⟨by omega, by omega, by omega⟩, by rw [List.length_take]; omega⟩
    · exact ⟨⟨by omega, by omega, by omega⟩, by rw [List.length_take]; omega⟩
  obtain ⟨c1, c2⟩ := cut y2
  obtain ⟨d1, d2⟩ := cut y3
  rw [if_pos c1, if_pos d1]
  generalize y2.take (if 20 < (y2.length : Int) then (20 : Int) else (y2.length : Int)).toNat = A at *
  generalize y3.take (if 20 < (y3.length : Int) then (20 : Int) else (y3.length : Int)).toNat = L at *
  rw [if_pos (by omega)]
  refine Ev.eq (Q := fun z => z = ((true, ()), ())) ?_ fun s h => h
  refine Ev.loop (k := A.length) (fun k s => ∃ i : Nat, s = ((y0, y1, A, L, y4, y5, true, (), (i : Int), ()), A ++ (A.take i).map (fun x => ((0 : Int), x.2)), ()) ∧ i + k = A.length) ?_ ⟨0, by simp, by omega⟩ (by omega)
  rintro k s again ⟨i, rfl, hk⟩ ih
  unfold ResponseNothing_8_L6
  dsimp only
  by_cases h : (i : Int) < A.length
  · have hin : i < A.length := by omega
    rw [byB_t h, if_pos ⟨by omega, h⟩, if_pos (by rw [List.length_append, List.length_map, List.length_take]; omega), Int.toNat_natCast, w64 (by omega) (by omega)]
    refine ih (k - 1) _ (by omega) ⟨i + 1, ?_, by omega⟩
    rw [take_succ_getD (d := ((0, 0, 0) : Ld)) hin, List.map_append]
    simp
  · rw [byB_f h, List.take_of_length_le (by omega)]
    rw [within_at (by omega), bnd, within_at (by omega), bnd, bound_at (by omega), bnd, bound_at (by omega), bnd]
    dsimp only
    by_cases hr : rt y0 y1 0 (A ++ A.map fun x => (0, x.2)) L = true
    · -- all is right: the same sums
      have hr1 : rt y0 y1 0 A [] = true := by
        obtain ⟨t1, t2, t3⟩ := rt_of hr
        have : lsok A = true := by
          rcases lsok_none c2 with h | h
          · rw [← h]; exact t2
          · rw [h] at t2; cases t2
        unfold rt
        rw [t1, this]; rfl
      have hW : ∀ n, WS y0 y1 0 (A ++ A.map fun x => (0, x.2)) L n = WS y0 y1 0 A [] n := by
        intro n
        unfold WS
        rw [hr, hr1, tot_none]
      have hB : BS y0 y1 0 (A ++ A.map fun x => (0, x.2)) L y5 = BS y0 y1 0 A [] y5 := by
        unfold Go.Proofs.YtmpccpcalijnpaaC.BS
        rw [hr, hr1, funext hW]
      rw [hW, hB]
      rw [byB_true, byB_eqt rfl, byB_eqt rfl, byB_eqt rfl, beq_self_eq_true, byB_same, byB_same]
      exact Ev.mk rfl
    · have e1 : (WS y0 y1 0 (A ++ A.map fun x => (0, x.2)) L y4).2 = 1 := by rw [WS_bad (fun h => hr h.1)]
      have e2 : (BS y0 y1 0 (A ++ A.map fun x => (0, x.2)) L y5).2 = 1 := by rw [BS_bad (fun h => hr h.1)]
      rw [byB_eqt e1, byB_eqt e2]
      exact Ev.mk rfl
end Go.Proofs.Ytmpccpcalijnpaa.Pure
