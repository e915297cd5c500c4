/- The plain law DeltaLeft. Conditions: its own. -/
import Derived.Test.YtcaapoidmfkldaaXD3
namespace Go.Proofs.Ytcaapoidmfkldaa.Pure
open Go Go.Proofs.YtcaapoidmfkldaaM Go.Proofs.YtcaapoidmfkldaaX Go.Proofs.YtcaapoidmfkldaaL Go.Proofs.YtcaapoidmfkldaaC
set_option linter.unusedVariables false
set_option linter.unusedSimpArgs false

/-- Who is there behind t ticks, x left out. -/
def Has (y0 : List Int) (n : Int) (x t : Int) (A : List (Int × Int)) : Prop :=
  ∀ j s, (j, s) ∈ A ↔ (0 ≤ j ∧ j < n ∧ j ≠ x) ∧ s = 1 + pk (y0.getD j.toNat 0) 60 - t ∧ 0 < s

theorem left_all {N : Nat} {y0 : List Int} {y1 : Int} {x n : Int} {A : List (Int × Int)} (hA : Gd A) (hn : ndp A) (g0 : ∀ e0 ∈ y0, (Lit.int .i64 e0).wf = true) (g1 : (Lit.int .i64 y1).wf = true) (hn0 : 0 ≤ n ∧ n ≤ 40 ∧ n ≤ y0.length) (hh : Has y0 n x 0 A) (hN : 2000 < N) :
    loopN N (DeltaLeft_4_L17 N) ((y0, y1, true, (), n, x, 0, ()), (256, (A.length : Int), (), ()), df 0 A, ()) = some ((true, ()), ()) := by
  have hp := pk_range (c := y1) (n := 81) (by omega)
  refine loopN_ind (fun k s => ∃ (t : Nat) (A : List (Int × Int)), t + k = 82 ∧ (t : Int) ≤ pk y1 81 + 1 ∧ Gd A ∧ ndp A ∧ Has y0 n x t A ∧ s = ((y0, y1, true, (), n, x, (t : Int), ()), (256, (A.length : Int), (), ()), df 0 A, ())) (fun _ => some ((true, ()), ())) ?_ 82 _ N ⟨0, A, by omega, by omega, hA, hn, hh, rfl⟩ (by omega)
  clear hh hn hA A
  rintro k s again ⟨t, A, htk, htm, hA, hn, hh, rfl⟩ ih
  unfold DeltaLeft_4_L17
  dsimp only
  rw [pick_at g1 (by omega), bnd]
  dsimp only
  by_cases h : (t : Int) ≤ pk y1 81
  · rw [byB_t h]
    refine loopN_ind (fun k2 s => ∃ i : Nat, i + k2 = n ∧ s = ((y0, y1, true, (), n, x, (t : Int), (i : Int), ()), (256, (A.length : Int), (), ()), df 0 A, ())) (fun _ => some ((true, ()), ())) ?_ n.toNat _ N ⟨0, by omega, rfl⟩ (by omega)
    rintro k2 s again2 ⟨i, hik, rfl⟩ ih2
    unfold DeltaLeft_4_L20
    dsimp only
    by_cases hi : (i : Int) < n
    · have hq := pk_range (c := y0.getD i 0) (n := 60) (by omega)
      rw [byB_t hi, if_pos ⟨by omega, by omega⟩, Int.toNat_natCast, pick_at (g0 _ (getD_mem (by omega))) (by omega), bnd]
      dsimp only
      rw [left_at hA (by omega)]
      simp only [bnd]
      rw [w64 (n := 1 + pk (y0.getD i 0) 60) (by omega) (by omega), w64 (n := 1 + pk (y0.getD i 0) 60 - (t : Int)) (by omega) (by omega)]
      have hl : ((ix (i : Int) A).map (·.2)).getD 0 = left i A := rfl
      rw [hl, w64 (n := (i : Int) + 1) (by omega) (by omega)]
      have hnext := ih2 (k2 - 1) ((y0, y1, true, (), n, x, (t : Int), ((i + 1 : Nat) : Int), ()), (256, (A.length : Int), (), ()), df 0 A, ()) (by omega) ⟨i + 1, by omega, rfl⟩
      have hcast : ((i + 1 : Nat) : Int) = (i : Int) + 1 := by omega
      rw [hcast] at hnext
      by_cases hx : (i : Int) = x
      · rw [byB_eqt hx, byB_nef (left_none fun s hs => ((hh i s).1 hs).1.2.2 hx)]
        exact hnext
      · rw [byB_eqf hx, byB_nef, hnext]
        by_cases hpos : 0 < 1 + pk (y0.getD i 0) 60 - (t : Int)
        · rw [if_pos (by omega)]
          exact left_mem hn ((hh i _).2 ⟨⟨by omega, hi, hx⟩, by rw [Int.toNat_natCast], by omega⟩)
        · rw [if_neg (by omega)]
          exact left_none fun s hs => by
            have h3 := (hh i s).1 hs
            rw [Int.toNat_natCast] at h3
            omega
    · rw [byB_f hi, tick_at hA (by omega), bnd]
      dsimp only
      rw [w64 (by omega) (by omega)]
      refine ih (k - 1) _ (by omega) ⟨t + 1, aft 1 A, by omega, by omega, aft_gd (by omega) hA, ndp_aft hn, fun j s => ?_, by simp⟩
      rw [aft_mem, hh j]
      constructor
      · rintro ⟨⟨h1, h2, h3⟩, h4⟩
        exact ⟨h1, by omega, h4⟩
      · rintro ⟨h1, h2, h3⟩
        exact ⟨⟨h1, by omega, by omega⟩, h3⟩
  · rw [byB_f h]

theorem DeltaLeft (y0 : List Int) (y1 : Int) (y2 : Int) (gy0 : (y0.length * 8 ≤ 140737488351232 ∧ ∀ e0 ∈ y0, (Lit.int .i64 e0).wf = true)) (gy1 : (Lit.int .i64 y1).wf = true) (gy2 : (Lit.int .i64 y2).wf = true) : ∃ N, DeltaLeft_4 N ((y0, y1, y2, ()), ()) = some ((true, ()), ()) := by
  obtain ⟨N, hN⟩ : ∃ N : Nat, 2000 < N := ⟨2001, by omega⟩
  refine ⟨N, ?_⟩
  unfold DeltaLeft_4
  dsimp only
  rw [examples_eq (by omega), bnd, new_at (by omega), bnd]
  dsimp only
  generalize hnn : (if 40 < (y0.length : Int) then 40 else (y0.length : Int)) = n
  have hn0 : 0 ≤ n ∧ n ≤ 40 ∧ n ≤ y0.length := by rw [← hnn]; split <;> omega
  refine loopN_ind (fun k s => ∃ (i : Nat) (A : List (Int × Int)), i + k = n ∧ Gd A ∧ ndp A ∧ A.length = i ∧ (∀ j s, (j, s) ∈ A ↔ (0 ≤ j ∧ j < i) ∧ s = 1 + pk (y0.getD j.toNat 0) 60) ∧ s = ((y0, y1, y2, true, (), n, (i : Int), ()), (256, (A.length : Int), (), ()), df 0 A, ())) (fun _ => some ((true, ()), ())) ?_ n.toNat _ N ⟨0, [], by omega, Gd.nil, by simp [ndp, ids], rfl, fun j s => by simp; omega, rfl⟩ (by omega)
  rintro k s again ⟨i, A, hik, hA, hn, hAl, hh, rfl⟩ ih
  unfold DeltaLeft_4_L7
  dsimp only
  by_cases hi : (i : Int) < n
  · have hq := pk_range (c := y0.getD i 0) (n := 60) (by omega)
    have hid : ∀ t, ((i : Int), t) ∉ A := fun t ht => by have := ((hh _ _).1 ht).1.2; omega
    have hadd := addD_ok (A := A) (id := (i : Int)) (after := 1 + pk (y0.getD i 0) 60) (by omega) (by omega) hid (by omega)
    have hg := addD_gd (room := 256) (id := (i : Int)) (after := 1 + pk (y0.getD i 0) 60) hA (by omega)
    rw [byB_t hi, if_pos ⟨by omega, by omega⟩, Int.toNat_natCast, pick_at (gy0.2 _ (getD_mem (by omega))) (by omega), bnd]
    dsimp only
    rw [w64 (by omega) (by omega), add_at hA (by omega) (by omega), bnd, hadd]
    rw [hadd] at hg
    dsimp only at hg ⊢
    rw [byB_nef rfl, w64 (by omega) (by omega)]
    refine ih (k - 1) _ (by omega) ⟨i + 1, ins ((i : Int), 1 + pk (y0.getD i 0) 60) A, by omega, hg, ndp_ins hn hid, by rw [ins_len, hAl], fun j s => ?_, by simp⟩
    rw [ins_mem, hh]
    simp only [Prod.mk.injEq]
    constructor
    · rintro (⟨rfl, rfl⟩ | ⟨h1, h2⟩)
      · exact ⟨by omega, by rw [Int.toNat_natCast]⟩
      · exact ⟨by omega, h2⟩
    · rintro ⟨h1, h2⟩
      by_cases e : j = i
      · subst e
        rw [Int.toNat_natCast] at h2
        exact .inl ⟨rfl, h2⟩
      · exact .inr ⟨by omega, h2⟩
  · have e : (i : Int) = n := by omega
    rw [byB_f hi, byB_not]
    by_cases hz : n ≤ 0
    · rw [byB_t hz]
      refine left_all hA hn gy0.2 gy1 hn0 (fun j s => ?_) hN
      rw [hh j s]
      constructor
      · rintro ⟨h1, h2⟩; omega
      · rintro ⟨h1, h2⟩; omega
    · have hx := pk_range (c := y2) (n := n) (by omega)
      rw [byB_f hz, pick_at gy2 (by omega), bnd]
      dsimp only
      rw [cancel_at hA (by omega), bnd]
      dsimp only
      have hsome : (ix (pk y2 n) A).isSome = true := (ix_iff hn).2 ⟨_, (hh _ _).2 ⟨by omega, rfl⟩⟩
      rw [hsome, Bool.not_true, byB_false]
      refine left_all (canD_gd hA) (ndp_can hn) gy0.2 gy1 hn0 (fun j s => ?_) hN
      rw [can_mem hn, hh j s]
      have hq := pk_range (c := y0.getD j.toNat 0) (n := 60) (by omega)
      constructor
      · rintro ⟨⟨h1, h2⟩, h3⟩; exact ⟨⟨by omega, by omega, h3⟩, by omega, by omega⟩
      · rintro ⟨⟨h1, h2, h3⟩, h4, h5⟩; exact ⟨⟨by omega, by omega⟩, h3⟩
end Go.Proofs.Ytcaapoidmfkldaa.Pure
