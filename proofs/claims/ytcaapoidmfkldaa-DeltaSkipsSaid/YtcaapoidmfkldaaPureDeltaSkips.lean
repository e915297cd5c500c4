/- The plain law DeltaSkips. Conditions: its own. -/
import Derived.Test.YtcaapoidmfkldaaXD3
namespace Go.Proofs.Ytcaapoidmfkldaa.Pure
open Go Go.Proofs.YtcaapoidmfkldaaM Go.Proofs.YtcaapoidmfkldaaX Go.Proofs.YtcaapoidmfkldaaL Go.Proofs.YtcaapoidmfkldaaC
set_option linter.unusedVariables false
set_option linter.unusedSimpArgs false

theorem skips_end {N : Nat} {ids' : List Int} {A : List (Int × Int)} (hA : Gd A) (hN : 2000 < N) :
    loopN N (DeltaSkips_3_L21 N) ((ids', true, (), (), 0, true, 0, ()), (256, (A.length : Int), (), ()), (256, (A.length : Int), (), ()), df 0 A, df 0 A, ()) = some ((true, ()), ()) := by
  refine loopN_ind (fun k s => ∃ i : Nat, i + k = 100 ∧ s = ((ids', true, (), (), 0, true, (i : Int), ()), (256, (A.length : Int), (), ()), (256, (A.length : Int), (), ()), df 0 A, df 0 A, ())) (fun _ => some ((true, ()), ())) ?_ 100 _ N ⟨0, by omega, rfl⟩ (by omega)
  rintro k s again ⟨i, hik, rfl⟩ ih
  unfold DeltaSkips_3_L21
  dsimp only
  simp only [len_at, bnd, byB_true]
  by_cases h : (i : Int) < ids'.length
  · rw [byB_t h]
    by_cases h2 : (i : Int) < 100
    · rw [byB_t h2, if_pos ⟨by omega, h⟩, left_at hA (by omega), bnd, if_pos ⟨by omega, h⟩, bnd, byB_nef rfl, w64 (by omega) (by omega)]
      exact ih (k - 1) _ (by omega) ⟨i + 1, by omega, by simp⟩
    · rw [byB_f h2]; simp [byB]
  · rw [byB_f h]; simp [byB]
theorem skips_tail {N : Nat} {ids' : List Int} {m : Int} {A : List (Int × Int)} (hA : Gd A) (hm : 0 ≤ m ∧ m ≤ 500) (hN : 2000 < N) :
    ((Skip_11 N (((), m, ()), (256, (A.length : Int), (), ()), df 0 A, ())).bind fun y36 =>
      loopN N (DeltaSkips_3_L16 N) ((ids', m, true, (), (), (), y36.1.2.1, (), 0, ()), (y36.2.1.1, y36.2.1.2.1, (), ()), (256, (A.length : Int), (), ()), y36.2.2.2.2.1, [], y36.2.2.2.1, df 0 A, ())) = some ((true, ()), ()) := by
  rw [skip_ok hA (by omega) (by omega), bnd]
  dsimp only
  have hlen := hA.len
  have houts : ∀ n, (outs n A).length ≤ 256 := fun n => by
    unfold outs ids; rw [List.length_map]; have := upto_past_len n A; omega
  refine loopN_ind (fun k s => ∃ i : Nat, (i : Int) + k = m ∧ s = ((ids', m, true, (), (), (), 0, (), (i : Int), ()), (256, ((aft m A).length : Int), (), ()), (256, ((aft i A).length : Int), (), ()), outs m A, outs i A, df 0 (aft m A), df 0 (aft i A), ())) (fun _ => some ((true, ()), ())) ?_ m.toNat _ N ⟨0, by omega, by simp [aft_zero hA, outs_zero hA]⟩ (by omega)
  rintro k s again ⟨i, hik, rfl⟩ ih
  unfold DeltaSkips_3_L16
  dsimp only
  by_cases h : (i : Int) < m
  · rw [byB_t h, tick_at (aft_gd (by omega) hA) (by omega), bnd]
    dsimp only
    have h1 := houts i
    have h2 : (outs 1 (aft i A)).length ≤ 256 := by
      unfold outs ids; rw [List.length_map]; have := upto_past_len 1 (aft i A); have := (aft_gd (n := i) (by omega) hA).len; omega
    rw [if_pos (by omega), outs_add (by omega) hA.srt, aft_aft (by omega), w64 (by omega) (by omega)]
    exact ih (k - 1) _ (by omega) ⟨i + 1, by omega, by simp⟩
  · have e : (i : Int) = m := by omega
    rw [byB_f h, e, numbers_eq (by have := houts m; omega) (by have := houts m; omega), bnd]
    exact skips_end (aft_gd (by omega) hA) hN

theorem DeltaSkips (y0 : List Int) (y1 : List Int) (y2 : Int) (gy0 : (y0.length * 8 ≤ 140737488351232 ∧ ∀ e0 ∈ y0, (Lit.int .i64 e0).wf = true)) (gy1 : (y1.length * 8 ≤ 140737488351232 ∧ ∀ e0 ∈ y1, (Lit.int .i64 e0).wf = true)) (gy2 : (Lit.int .i64 y2).wf = true) : ∃ N, DeltaSkips_3 N ((y0, y1, y2, ()), ()) = some ((true, ()), ()) := by
  obtain ⟨N, hN⟩ : ∃ N : Nat, 2000 < N := ⟨2001, by omega⟩
  refine ⟨N, ?_⟩
  unfold DeltaSkips_3
  dsimp only
  rw [examples_eq (by omega), bnd, new_at (by omega), bnd]
  dsimp only
  rw [bnd]
  dsimp only
  have hp := pk_range (c := y2) (n := 501) (by omega)
  refine loopN_ind (fun k s => ∃ (i : Nat) (A : List (Int × Int)), i + k = 100 ∧ Gd A ∧ s = ((y0, y1, y2, true, (), (), (i : Int), ()), (256, (A.length : Int), (), ()), (256, (A.length : Int), (), ()), df 0 A, df 0 A, ())) (fun _ => some ((true, ()), ())) ?_ 100 _ N ⟨0, [], by omega, Gd.nil, rfl⟩ (by omega)
  rintro k s again ⟨i, A, hik, hA, rfl⟩ ih
  unfold DeltaSkips_3_L7
  dsimp only
  by_cases h : (i : Int) < y0.length
  · rw [byB_t h]
    by_cases h1 : (i : Int) < y1.length
    · rw [byB_t h1]
      by_cases h2 : (i : Int) < 100
      · have hq := pk_range (c := y1.getD i 0) (n := 1000) (by omega)
        rw [byB_t h2, if_pos ⟨by omega, h1⟩, Int.toNat_natCast, pick_at (gy1.2 _ (getD_mem (by omega))) (by omega), bnd]
        dsimp only
        rw [w64 (by omega) (by omega), if_pos ⟨by omega, h⟩, add_at hA (by omega) (by omega), bnd, if_pos ⟨by omega, h⟩, bnd]
        dsimp only
        rw [byB_nef rfl, w64 (by omega) (by omega)]
        exact ih (k - 1) _ (by omega) ⟨i + 1, (addD 256 A (y0.getD i 0) (1 + pk (y1.getD i 0) 1000)).2, by omega, addD_gd hA (by omega), by simp⟩
      · rw [byB_f h2, pick_at gy2 (by omega), bnd]
        exact skips_tail (m := pk y2 501) hA ⟨hp.1, by omega⟩ hN
    · rw [byB_f h1, pick_at gy2 (by omega), bnd]
      exact skips_tail (m := pk y2 501) hA ⟨hp.1, by omega⟩ hN
  · rw [byB_f h, pick_at gy2 (by omega), bnd]
    exact skips_tail (m := pk y2 501) hA ⟨hp.1, by omega⟩ hN
end Go.Proofs.Ytcaapoidmfkldaa.Pure
