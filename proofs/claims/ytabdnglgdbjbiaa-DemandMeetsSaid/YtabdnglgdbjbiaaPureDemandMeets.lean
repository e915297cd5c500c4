/- The plain law DemandMeets. Conditions: its own. -/
import Derived.Test.YtabdnglgdbjbiaaXDemand5
namespace Go.Proofs.Ytabdnglgdbjbiaa.Pure
open Go Go.Proofs.YtabdnglgdbjbiaaM Go.Proofs.YtabdnglgdbjbiaaX Go.Proofs.YtabdnglgdbjbiaaL Go.Proofs.YtabdnglgdbjbiaaC Go.Proofs.YtabdnglgdbjbiaaQ
set_option linter.unusedVariables false
set_option linter.unusedSimpArgs false

theorem meets_end {N : Nat} {b r t q n : Int} {l : List Wk} (h : rt l b r = true) (hN : 6000 + l.length ≤ N) (ht : 1 ≤ t ∧ t ≤ n) (hn : n ≤ 9223372036854775807) (hc : b + csum n r l ≤ n) (hm : ∀ u, q ≤ u → u ≤ n → b + asum u r l ≤ u) :
    ((Ask_11 N ((l, b, r, t, ()), ())).bind fun y44 =>
            byB true
              (byB (y44.1.2.1 == 0)
                  (byB (decide (t < q))
                      (some ((true, ()), ()))
                      (some ((decide (y44.1.1 ≤ t), ()), ())))
                  (some ((false, ()), ())))
              (some ((false, ()), ()))) = some (((true, ()), ()) : ((Bool × Unit) × Unit)) := by
  obtain ⟨hw, hl, h6⟩ := rt_of h
  have h1 := asum_le_csum (t := t) (r := r) ht.1 (by omega) hw
  have h2 := csum_mono (t := t) (u := n) (r := r) ht.1 ht.2 (by omega) hw (by omega)
  rw [ask_at (by omega) l (by omega) (by omega) (by omega), bnd, askS_ok h ht.1, tot_ok (by omega), byB_true]
  simp only [two]
  rw [byB_eqt rfl]
  by_cases c : t < q
  · rw [byB_t c]
  · have := hm t (by omega) ht.2
    rw [byB_f c, decide_eq_true this]
theorem meets_loop {N : Nat} {b r t : Int} {l : List Wk} (h0 : testS l b r = 0) (hN : 6000 + l.length ≤ N) (ht : -9223372036854775808 ≤ t ∧ t ≤ 9223372036854775807) : ∀ (d i k : Nat) (m s : Int), i + d = l.length → d < k → (s = 0 ∧ m = 1099511627777 ∨ s = m ∧ 1 ≤ m ∧ m ≤ 1099511627776) → least (l.drop i) m = least l 1099511627777 →
    loopN k (DemandMeets_5_L6 N) ((l, b, r, t, true, s, (i : Int), ()), ()) = some ((true, ()), ()) := by
  obtain ⟨h, h1⟩ := test_ok h0
  obtain ⟨hw, hl, h3⟩ := rt_of h
  intro d
  induction d with
  | zero =>
    intro i k m s hd hk hs hm
    obtain ⟨k, rfl⟩ : ∃ j, k = j + 1 := ⟨k - 1, by omega⟩
    rw [List.drop_of_length_le (by omega), least_nil] at hm
    subst hm
    rw [loopN_succ, DemandMeets_5_L6]
    try dsimp only
    rw [byB_f (by omega)]
    rcases hs with ⟨rfl, e⟩ | ⟨rfl, e1, e2⟩
    · rw [byB_eqt rfl]
    · rcases h1 with h1 | ⟨_, hb, hmm⟩
      · omega
      obtain ⟨_, b2, b3, b4⟩ := busyS_range hb
      have b5 := (busyS_fix hb).1
      rw [byB_eqf (by omega), busy_at l (by omega) (by omega) (by omega), bnd, join_eq]
      simp only [two]
      rw [byB_nef hb, DemandMeets_5_J14]
      try dsimp only
      rw [byB_f (by omega)]
      generalize hne : (busyS l b r).1 = n at *
      by_cases c : t < 0
      · have e3 : IntKind.wrap .i64 (0 - IntKind.wrap .i64 (t + 1)) = -(t + 1) := by
          rw [w64 (n := t + 1) (by omega) (by omega), w64 (by omega) (by omega)]; omega
        have r1 := Int.emod_nonneg (-(t + 1)) (show n ≠ 0 by omega)
        have r2 := Int.emod_lt_of_pos (-(t + 1)) (show 0 < n by omega)
        rw [byB_t c, if_neg (by omega), e3, Int.tmod_eq_emod_of_nonneg (by omega), w64 (by omega) (by omega)]
        exact meets_end h hN (by omega) (by omega) b5 hmm
      · have r1 := Int.emod_nonneg t (show n ≠ 0 by omega)
        have r2 := Int.emod_lt_of_pos t (show 0 < n by omega)
        rw [byB_f c, if_neg (by omega), Int.tmod_eq_emod_of_nonneg (by omega), w64 (by omega) (by omega)]
        exact meets_end h hN (by omega) (by omega) b5 hmm
  | succ d ih =>
    intro i k m s hd hk hs hm
    obtain ⟨k, rfl⟩ : ∃ j, k = j + 1 := ⟨k - 1, by omega⟩
    have hi : i < l.length := by omega
    have hnx : IntKind.wrap .i64 ((i : Int) + 1) = ((i + 1 : Nat) : Int) := by rw [w64 (by omega) (by omega)]; omega
    have hx := wok_of (hw _ (getD_mem (d := (0, 0, 0, false)) hi))
    rw [drop_getD (d := (0, 0, 0, false)) hi, least_cons] at hm
    rw [loopN_succ, DemandMeets_5_L6]
    try dsimp only
    rw [byB_t (by omega), if_pos (by omega), Int.toNat_natCast, hnx, byB_not]
    cases c : (l.getD i (0, 0, 0, false)).2.2.2 with
    | true =>
      rw [byB_true]
      rw [if_neg (by rw [c]; simp)] at hm
      exact ih (i + 1) k m s (by omega) (by omega) hs hm
    | false =>
      rw [byB_false]
      rcases hs with ⟨rfl, e⟩ | ⟨rfl, e1, e2⟩
      · rw [byB_eqt rfl, if_pos (by omega)]
        rw [if_pos ⟨c, by omega⟩] at hm
        exact ih (i + 1) k _ _ (by omega) (by omega) (.inr ⟨rfl, by omega, by omega⟩) hm
      · rw [byB_eqf (by omega), if_pos (by omega)]
        by_cases c2 : (l.getD i (0, 0, 0, false)).2.2.1 < s
        · rw [if_pos ⟨c, c2⟩] at hm
          rw [byB_t c2, if_pos (by omega)]
          exact ih (i + 1) k _ _ (by omega) (by omega) (.inr ⟨rfl, by omega, by omega⟩) hm
        · rw [if_neg (fun h => c2 h.2)] at hm
          rw [byB_f c2]
          exact ih (i + 1) k _ _ (by omega) (by omega) (.inr ⟨rfl, e1, e2⟩) hm
theorem DemandMeets (y0 : List (Int × Int × Int × Bool)) (y1 : Int) (y2 : Int) (y3 : Int) (gy0 : (y0.length * 32 ≤ 140737488351232 ∧ ∀ e0 ∈ y0, ((Lit.int .i64 e0.1).wf = true ∧ ((Lit.int .i64 e0.2.1).wf = true ∧ ((Lit.int .i64 e0.2.2.1).wf = true ∧ True))))) (gy1 : (Lit.int .i64 y1).wf = true) (gy2 : (Lit.int .i64 y2).wf = true) (gy3 : (Lit.int .i64 y3).wf = true) : ∃ N, DemandMeets_5 N ((y0, y1, y2, y3, ()), ()) = some ((true, ()), ()) := by
  obtain ⟨M, hM⟩ : ∃ M : Nat, 6000 ≤ M := ⟨6000, Nat.le_refl _⟩
  refine ⟨M + y0.length, ?_⟩
  unfold DemandMeets_5
  try dsimp only
  rw [examples_eq (by omega), bnd, test_at y0 gy0.1 (by omega) (by omega), bnd]
  try dsimp only
  by_cases c : testS y0 y1 y2 = 0
  · rw [byB_nef c]
    have := meets_loop (N := M + y0.length) (t := y3) c (by omega) (wf64 gy3) y0.length 0 (M + y0.length) 1099511627777 0 (by omega) (by omega) (.inl ⟨rfl, rfl⟩) (by rw [List.drop_zero])
    exact this
  · rw [byB_net c]
end Go.Proofs.Ytabdnglgdbjbiaa.Pure
