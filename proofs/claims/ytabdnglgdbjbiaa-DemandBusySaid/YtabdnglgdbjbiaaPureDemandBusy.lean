/- The plain law DemandBusy. Conditions: its own. -/
import Derived.Test.YtabdnglgdbjbiaaXDemand5
namespace Go.Proofs.Ytabdnglgdbjbiaa.Pure
open Go Go.Proofs.YtabdnglgdbjbiaaM Go.Proofs.YtabdnglgdbjbiaaX Go.Proofs.YtabdnglgdbjbiaaL Go.Proofs.YtabdnglgdbjbiaaC Go.Proofs.YtabdnglgdbjbiaaQ
set_option linter.unusedVariables false
set_option linter.unusedSimpArgs false

theorem comes_loop {N : Nat} {b n r : Int} (hn : 1 ≤ n ∧ n ≤ 9223372036854775807) (hr : 0 ≤ r ∧ r ≤ 1099511627776) (l : List Wk) (hw : ∀ x ∈ l, wok x = true) (hl : l.length ≤ 72) : ∀ (d i k : Nat) (s : Int), i + d = l.length → d < k → 0 ≤ s → s + csum n r (l.drop i) ≤ 9223372036854775807 →
    loopN k (comes_19_L3 N) ((l, r, n, s, (i : Int), ()), ()) = some ((s + csum n r (l.drop i), ()), ()) := by
  intro d
  induction d with
  | zero =>
    intro i k s hd hk h0 h1
    obtain ⟨k, rfl⟩ : ∃ j, k = j + 1 := ⟨k - 1, by omega⟩
    rw [loopN_succ, comes_19_L3]
    try dsimp only
    rw [byB_f (by omega), List.drop_of_length_le (by omega), csum_nil, Int.add_zero]
  | succ d ih =>
    intro i k s hd hk h0 h1
    obtain ⟨k, rfl⟩ : ∃ j, k = j + 1 := ⟨k - 1, by omega⟩
    have hi : i < l.length := by omega
    have hnx : IntKind.wrap .i64 ((i : Int) + 1) = ((i + 1 : Nat) : Int) := by rw [w64 (by omega) (by omega)]; omega
    have hx := hw _ (getD_mem (d := (0, 0, 0, false)) hi)
    have hs := csum_nonneg (t := n) (r := r) hn.1 hr.1 (l := l.drop (i + 1)) (fun y hy => hw y (List.mem_of_mem_drop hy))
    rw [drop_getD (d := (0, 0, 0, false)) hi, csum_cons] at h1 ⊢
    rw [loopN_succ, comes_19_L3]
    try dsimp only
    rw [byB_t (by omega), if_pos (by omega), Int.toNat_natCast, hnx]
    have ih2 := fun s h0 h1 => ih (i + 1) k s (by omega) (by omega) h0 h1
    generalize l.getD i (0, 0, 0, false) = x at *
    generalize csum n r (l.drop (i + 1)) = S at *
    obtain ⟨w0, w1, p0, p1, d0, d1⟩ := wok_of hx
    have hc := cd_pos hn.1 p0
    have hr0 : 0 ≤ (cd n x.2.1 + 2) * r := Int.mul_nonneg (by omega) (by omega)
    have hw0 : 0 ≤ (cd n x.2.1 + 1) * x.1 := Int.mul_nonneg (by omega) (by omega)
    have e1 : cd n x.2.1 = (n - 1) / x.2.1 + 1 := by
      unfold cd
      have : n + (x.2.1 - 1) = (n - 1) + x.2.1 * 1 := by omega
      rw [this, Int.add_mul_ediv_left _ _ (by omega)]
    unfold c1 at h1 ⊢
    by_cases c : cd n x.2.1 + 2 > 9223372036854775807
    · rw [if_pos c] at h1; omega
    rw [if_neg c] at h1 ⊢
    rw [byB_f (by omega), if_pos (by omega), if_neg (by omega), if_pos (by omega), w64 (n := n - 1) (by omega) (by omega), Int.tdiv_eq_ediv_of_nonneg (by omega), w64 (n := (n - 1) / x.2.1) (by omega) (by omega), w64 (n := (n - 1) / x.2.1 + 1) (by omega) (by omega), ← e1]
    rw [w64 (n := cd n x.2.1 + 1) (by omega) (by omega), w64 (n := cd n x.2.1 + 2) (by omega) (by omega), w64 (n := (cd n x.2.1 + 1) * x.1) (by omega) (by omega), w64 (n := (cd n x.2.1 + 2) * r) (by omega) (by omega), w64 (n := s + (cd n x.2.1 + 1) * x.1) (by omega) (by omega), w64 (by omega) (by omega), ih2 _ (by omega) (by omega)]
    have e : s + (cd n x.2.1 + 1) * x.1 + (cd n x.2.1 + 2) * r + S = s + ((cd n x.2.1 + 1) * x.1 + (cd n x.2.1 + 2) * r + S) := by omega
    rw [e]
theorem comes_at {N : Nat} {b n r : Int} (hn : 1 ≤ n ∧ n ≤ 9223372036854775807) {l : List Wk} (h : rt l b r = true) (hN : 100 < N) (hc : b + csum n r l ≤ 9223372036854775807) : comes_19 N ((l, b, r, n, ()), ()) = some ((b + csum n r l, ()), ()) := by
  obtain ⟨hw, hl, h3⟩ := rt_of h
  have := comes_loop (N := N) (b := b) hn (r := r) (by omega) l hw hl l.length 0 N b (by omega) (by omega) (by omega) (by rw [List.drop_zero]; exact hc)
  exact this
theorem DemandBusy (y0 : List (Int × Int × Int × Bool)) (y1 : Int) (y2 : Int) (gy0 : (y0.length * 32 ≤ 140737488351232 ∧ ∀ e0 ∈ y0, ((Lit.int .i64 e0.1).wf = true ∧ ((Lit.int .i64 e0.2.1).wf = true ∧ ((Lit.int .i64 e0.2.2.1).wf = true ∧ True))))) (gy1 : (Lit.int .i64 y1).wf = true) (gy2 : (Lit.int .i64 y2).wf = true) : ∃ N, DemandBusy_8 N ((y0, y1, y2, ()), ()) = some ((true, ()), ()) := by
  obtain ⟨M, hM⟩ : ∃ M : Nat, 6000 ≤ M := ⟨6000, Nat.le_refl _⟩
  refine ⟨M + y0.length, ?_⟩
  unfold DemandBusy_8
  try dsimp only
  rw [examples_eq (by omega), bnd, busy_at y0 gy0.1 (by omega) (by omega), bnd]
  simp only [two]
  by_cases c : (busyS y0 y1 y2).2 = 0
  · obtain ⟨h1, h2, h3, h4⟩ := busyS_range c
    have h5 := busyS_fix c
    obtain ⟨hw, hl, h6⟩ := rt_of h1
    rw [byB_nef c, byB_f (by omega), comes_at h4 h1 (by omega) (by omega), bnd]
    try dsimp only
    rw [byB_f (by omega), byB_true]
    by_cases c1 : (busyS y0 y1 y2).1 = 1
    · rw [byB_eqt c1]
    · have h7 := h5.2 ((busyS y0 y1 y2).1 - 1) (by omega) (by omega)
      have h8 := csum_mono (t := (busyS y0 y1 y2).1 - 1) (u := (busyS y0 y1 y2).1) (r := y2) (by omega) (by omega) (by omega) hw (by omega)
      rw [byB_eqf c1, w64 (by omega) (by omega), comes_at (by omega) h1 (by omega) (by omega), bnd, decide_eq_true h7]
  · have e : (busyS y0 y1 y2).1 = 0 := by
      unfold busyS at c ⊢
      have : ∀ (m : Nat) (n : Int), (busyIt y0 y1 y2 m n).2 ≠ 0 → (busyIt y0 y1 y2 m n).1 = 0 := by
        intro m
        induction m with
        | zero => intro n _; rw [busyIt_zero]
        | succ m ih =>
          intro n hc
          rw [busyIt_succ] at hc ⊢
          split
          · rfl
          · rename_i h1
            rw [if_neg h1] at hc
            split
            · rename_i h2; rw [if_pos h2] at hc; exact absurd rfl hc
            · rename_i h2; rw [if_neg h2] at hc; exact ih _ hc
      split
      · rename_i h1
        rw [if_pos h1] at c
        split
        · rfl
        · rename_i h2
          rw [if_neg h2] at c
          exact this _ _ c
      · rfl
    rw [byB_net c, byB_true, e]
    rfl
end Go.Proofs.Ytabdnglgdbjbiaa.Pure
