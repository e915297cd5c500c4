/- The plain law DeltaPlays. Conditions: its own. -/
import Derived.Test.YtcaapoidmfkldaaXR2
namespace Go.Proofs.Ytcaapoidmfkldaa.Pure
open Go Go.Proofs.YtcaapoidmfkldaaM Go.Proofs.YtcaapoidmfkldaaX Go.Proofs.YtcaapoidmfkldaaL Go.Proofs.YtcaapoidmfkldaaC
set_option linter.unusedVariables false
set_option linter.unusedSimpArgs false

theorem outs_short {n : Int} {A : List (Int × Int)} : (outs n A).length ≤ A.length := by
  unfold outs ids; rw [List.length_map]; have := upto_past_len n A; omega

theorem DeltaPlays (y0 : Int) (y1 : List (Int × Int × Int)) (gy0 : (Lit.int .i64 y0).wf = true) (gy1 : (y1.length * 24 ≤ 140737488351232 ∧ ∀ e0 ∈ y1, ((Lit.int .i64 e0.1).wf = true ∧ ((Lit.int .i64 e0.2.1).wf = true ∧ (Lit.int .i64 e0.2.2).wf = true)))) : ∃ N, DeltaPlays_5 N ((y0, y1, ()), ()) = some ((true, ()), ()) := by
  obtain ⟨N, hN⟩ : ∃ N : Nat, 2000 < N := ⟨2001, by omega⟩
  refine ⟨N, ?_⟩
  unfold DeltaPlays_5
  dsimp only
  rw [examples_eq (by omega), bnd]
  by_cases hroom : 0 ≤ y0 ∧ y0 ≤ 256
  · rw [new_at hroom, bnd]
    dsimp only
    rw [new17_at hroom, bnd]
    dsimp only
    rw [byB_nef rfl]
    refine loopN_ind (fun k s => ∃ (i : Nat) (L : List (Int × Int)), i + k = 300 ∧ Rd L ∧ s = ((y1, true, (), (), (i : Int), ()), (y0, ((so L).length : Int), (), ()), (y0, (), ()), df 0 (so L), L, ())) (fun _ => some ((true, ()), ())) ?_ 300 _ N ⟨0, [], by omega, Rd.nil, rfl⟩ (by omega)
    rintro k s again ⟨i, L, hik, hL, rfl⟩ ih
    unfold DeltaPlays_5_L9
    dsimp only
    by_cases hi : (i : Int) < y1.length
    · rw [byB_t hi]
      by_cases hi2 : (i : Int) < 300
      · rw [byB_t hi2, if_pos ⟨by omega, hi⟩, Int.toNat_natCast, join_eq]
        obtain ⟨w1, w2, w3⟩ := gy1.2 _ (getD_mem (l := y1) (i := i) (d := (0, 0, 0)) (by omega))
        generalize y1.getD i (0, 0, 0) = e at w1 w2 w3 ⊢
        have join : ∀ (L' : List (Int × Int)) (T : Bool), Rd L' → DeltaPlays_5_J23 N again ((y1, true, (), (), (i : Int), (), true, (i : Int), T, ()), (y0, ((so L').length : Int), (), ()), (y0, (), ()), (e.1, e.2.1, e.2.2, ()), df 0 (so L'), L', ()) = some ((true, ()), ()) := by
          intro L' T hL'
          unfold DeltaPlays_5_J23
          dsimp only
          rw [Bool.not_true, byB_false, len_at, bnd]
          dsimp only
          rw [byB_nef (by rw [so_len]), left_at hL'.so_gd (by omega), bnd, left22_at hL'.len (by omega), bnd]
          dsimp only
          rw [byB_nef (show ((ix e.2.1 (so L')).map (·.2)).getD 0 = left e.2.1 L' from left_so hL'), w64 (by omega) (by omega)]
          exact ih (k - 1) _ (by omega) ⟨i + 1, L', by omega, hL', by simp⟩
        have hp := pk_range (c := e.1) (n := 4) (by omega)
        rw [pick_at w1 (by omega), bnd]
        dsimp only
        by_cases h0 : pk e.1 4 = 0
        · rw [byB_eqt h0, add_at hL.so_gd (by omega) (by omega), bnd, add18_at hL (by omega), bnd, addR_so hL]
          dsimp only
          rw [show ((addR y0 L e.2.1 e.2.2).1 == (addR y0 L e.2.1 e.2.2).1) = true by simp]
          exact join _ _ (addR_rd hL (by omega))
        · rw [byB_eqf h0]
          by_cases h1 : pk e.1 4 = 1
          · rw [byB_eqt h1, tick_at hL.so_gd (by omega), bnd, tick19_at hL.len (fun x hx => by have := hL.pos x hx; omega) (by omega), bnd]
            dsimp only
            have e1 : outs 1 (so L) = outs 1 L := outs_first fun x hx => (hL.pos x hx).1
            have hs := outs_short (n := 1) (A := L)
            have := hL.len
            rw [e1, numbers_eq (by omega) (by omega), bnd, ← so_aft]
            exact join _ _ (hL.aft (by omega))
          · rw [byB_eqf h1]
            by_cases h2 : pk e.1 4 = 2
            · rw [byB_eqt h2]
              have w3' := wf64 w3
              by_cases hneg : e.2.2 < 0
              · rw [skip_no hneg, bnd, skip20_no hneg, bnd]
                dsimp only
                rw [numbers_eq (by simp; omega) (by simp), bnd, byB_true, show (((1 : Int) == 0) == false) = true by decide, byB_true, byB_false, show ((1 : Int) == 1) = true by decide]
                exact join L _ hL
              · have hs := outs_short (n := e.2.2) (A := so L)
                have hlen := hL.len
                rw [so_len] at hs
                rw [skip_ok hL.so_gd (by omega) (by omega), bnd, skip20_at hL (by omega) (by omega), bnd]
                dsimp only
                rw [numbers_eq (by omega) (by omega), bnd, byB_true, show (((0 : Int) == 0) == true) = true by decide, byB_true, byB_true, ← so_aft]
                exact join _ _ (hL.aft (by omega))
            · rw [byB_eqf h2, cancel_at hL.so_gd (by omega), bnd, cancel21_at hL.len (by omega), bnd]
              dsimp only
              rw [some_so hL, ← so_can hL, show ((ix e.2.1 L).isSome == (ix e.2.1 L).isSome) = true by simp]
              exact join _ _ hL.can
      · rw [byB_f hi2]
    · rw [byB_f hi]
  · rw [new_no hroom, bnd]
    dsimp only
    rw [new17_no hroom, bnd]
    rfl
end Go.Proofs.Ytcaapoidmfkldaa.Pure
