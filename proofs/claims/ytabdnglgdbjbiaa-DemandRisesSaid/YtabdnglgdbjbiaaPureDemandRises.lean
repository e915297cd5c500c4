/- The plain law DemandRises. Conditions: its own. -/
import Derived.Test.YtabdnglgdbjbiaaXDemand5
namespace Go.Proofs.Ytabdnglgdbjbiaa.Pure
open Go Go.Proofs.YtabdnglgdbjbiaaM Go.Proofs.YtabdnglgdbjbiaaX Go.Proofs.YtabdnglgdbjbiaaL Go.Proofs.YtabdnglgdbjbiaaC Go.Proofs.YtabdnglgdbjbiaaQ
set_option linter.unusedVariables false
set_option linter.unusedSimpArgs false

theorem rise13 {N : Nat} {b r t : Int} {k : Int} {l : List Wk} (h : rt l b r = true) (hN : 6000 + l.length ≤ N) (ht : 1 ≤ t ∧ t ≤ 9223372036854775807) (hk : 0 ≤ k) (hM : b + asum t r l ≤ 9223372036854775807) :
    DemandRises_7_J13 N ((l, b, r, t, k, true, b + asum t r l, ()), ()) = some ((true, ()), ()) := by
  obtain ⟨hw, hl, h6⟩ := rt_of h
  rw [DemandRises_7_J13]
  try dsimp only
  have r1 := Int.emod_nonneg k (show ((l.length : Int) + 1) ≠ 0 by omega)
  have r2 := Int.emod_lt_of_pos k (show (0 : Int) < (l.length : Int) + 1 by omega)
  rw [w64 (n := (l.length : Int) + 1) (by omega) (by omega), if_neg (by omega), Int.tmod_eq_emod_of_nonneg hk, if_pos (by omega)]
  obtain ⟨m, hm⟩ : ∃ m : Nat, k % ((l.length : Int) + 1) = m := ⟨(k % ((l.length : Int) + 1)).toNat, by omega⟩
  rw [hm, Int.toNat_natCast]
  rw [hm] at r1 r2
  have e := asum_app t r (l.take m) (l.drop m)
  rw [List.take_append_drop] at e
  have w1 : ∀ x ∈ l.take m, wok x = true := fun x hx => hw x (List.mem_of_mem_take hx)
  have w2 : ∀ x ∈ l.drop m, wok x = true := fun x hx => hw x (List.mem_of_mem_drop hx)
  have l1 : (l.take m).length ≤ l.length := by simp; omega
  have l2 : (l.drop m).length ≤ l.length := by simp
  have n1 := asum_nonneg (t := t) (r := r) ht.1 (by omega) w1
  have n2 := asum_nonneg (t := t) (r := r) ht.1 (by omega) w2
  have q1 : rt (l.take m) b r = true := rt_mk ⟨w1, by omega, by omega⟩
  have q2 : rt (l.drop m) 0 r = true := rt_mk ⟨w2, by omega, by omega⟩
  rw [ask_at ht.2 _ (by omega) (by omega) (by omega), bnd, if_pos (by omega), List.take_length, ask_at ht.2 _ (by omega) (by omega) (by omega), bnd, askS_ok q1 ht.1, askS_ok q2 ht.1, tot_ok (by omega), tot_ok (by omega)]
  simp only [two]
  have e2 : b + asum t r (l.take m) + (0 + asum t r (l.drop m)) = b + asum t r l := by omega
  rw [byB_true, byB_eqt rfl, byB_eqt rfl, e2, w64 (by omega) hM, beq_self_eq_true]
theorem rise9 {N : Nat} {b r t more : Int} {k : Int} {l : List Wk} (h : rt l b r = true) (hN : 6000 + l.length ≤ N) (ht : 1 ≤ t ∧ t ≤ 9223372036854775807) (hk : 0 ≤ k) (hm : 0 ≤ more) (hM : b + asum t r l ≤ 9223372036854775807) :
    DemandRises_7_J9 N ((l, b, r, t, more, k, true, b + asum t r l, ()), ()) = some ((true, ()), ()) := by
  obtain ⟨hw, hl, h6⟩ := rt_of h
  have f13 := rise13 (N := N) (k := k) h hN ht hk hM
  have f12 : DemandRises_7_J12 N (DemandRises_7_J13 N) ((l, b, r, t, k, true, b + asum t r l, false, ()), ()) = some ((true, ()), ()) := by
    rw [DemandRises_7_J12]
    try dsimp only
    rw [byB_false, f13]
  rw [DemandRises_7_J9]
  try dsimp only
  rw [join_eq]
  by_cases c : t ≤ 1099511627776
  · have r1 := Int.emod_nonneg more (show (1000000 : Int) ≠ 0 by omega)
    have r2 := Int.emod_lt_of_pos more (show (0 : Int) < 1000000 by omega)
    rw [byB_t c, Int.tmod_eq_emod_of_nonneg hm, w64 (by omega) (by omega), ask_at (by omega) l (by omega) (by omega) (by omega), bnd, askS_ok h (by omega), join_eq]
    by_cases c2 : b + asum (t + more % 1000000) r l ≤ 9223372036854775807
    · have := asum_mono (t := t) (u := t + more % 1000000) (r := r) ht.1 (by omega) (by omega) hw (by omega)
      rw [tot_ok c2]
      simp only [two]
      rw [byB_eqt rfl, byB_f (by omega), byB_nef rfl, f12]
    · rw [tot_no c2]
      simp only [two]
      rw [byB_eqf (by decide), byB_net (by decide)]
      exact f12
  · rw [byB_f c, f13]
theorem rise7 {N : Nat} {b r t more : Int} {k : Int} {l : List Wk} (h : rt l b r = true) (hN : 6000 + l.length ≤ N) (ht : 1 ≤ t ∧ t ≤ 9223372036854775807) (hk : -9223372036854775808 ≤ k ∧ k ≤ 9223372036854775807) (hm : 0 ≤ more) (hM : b + asum t r l ≤ 9223372036854775807) :
    DemandRises_7_J7 N ((l, b, r, t, more, k, true, b + asum t r l, ()), ()) = some ((true, ()), ()) := by
  rw [DemandRises_7_J7]
  try dsimp only
  rw [join_eq]
  by_cases c : k < 0
  · have e3 : IntKind.wrap .i64 (0 - IntKind.wrap .i64 (k + 1)) = -(k + 1) := by
      rw [w64 (n := k + 1) (by omega) (by omega), w64 (by omega) (by omega)]; omega
    rw [byB_t c, e3]
    exact rise9 h hN ht (by omega) hm hM
  · rw [byB_f c]
    exact rise9 h hN ht (by omega) hm hM
theorem DemandRises (y0 : List (Int × Int × Int × Bool)) (y1 : Int) (y2 : Int) (y3 : Int) (y4 : Int) (y5 : Int) (gy0 : (y0.length * 32 ≤ 140737488351232 ∧ ∀ e0 ∈ y0, ((Lit.int .i64 e0.1).wf = true ∧ ((Lit.int .i64 e0.2.1).wf = true ∧ ((Lit.int .i64 e0.2.2.1).wf = true ∧ True))))) (gy1 : (Lit.int .i64 y1).wf = true) (gy2 : (Lit.int .i64 y2).wf = true) (gy3 : (Lit.int .i64 y3).wf = true) (gy4 : (Lit.int .i64 y4).wf = true) (gy5 : (Lit.int .i64 y5).wf = true) : ∃ N, DemandRises_7 N ((y0, y1, y2, y3, y4, y5, ()), ()) = some ((true, ()), ()) := by
  obtain ⟨M, hM⟩ : ∃ M : Nat, 6000 ≤ M := ⟨6000, Nat.le_refl _⟩
  refine ⟨M + y0.length, ?_⟩
  have ht := wf64 gy3
  have hm := wf64 gy4
  have hk := wf64 gy5
  unfold DemandRises_7
  try dsimp only
  rw [examples_eq (by omega), bnd, ask_at ht.2 y0 (by omega) (by omega) gy0.1, bnd]
  simp only [two]
  by_cases c : rt y0 y1 y2 = true ∧ 1 ≤ y3
  · rw [askS_ok c.1 c.2]
    by_cases c2 : y1 + asum y3 y2 y0 ≤ 9223372036854775807
    · rw [tot_ok c2]
      try dsimp only
      rw [byB_nef rfl, join_eq]
      by_cases c3 : y4 < 0
      · have e3 : IntKind.wrap .i64 (0 - IntKind.wrap .i64 (y4 + 1)) = -(y4 + 1) := by
          rw [w64 (n := y4 + 1) (by omega) (by omega), w64 (by omega) (by omega)]; omega
        rw [byB_t c3, e3]
        exact rise7 c.1 (by omega) (by omega) hk (by omega) c2
      · rw [byB_f c3]
        exact rise7 c.1 (by omega) (by omega) hk (by omega) c2
    · rw [tot_no c2]
      try dsimp only
      rw [byB_net (by decide), byB_true]
      rfl
  · rw [askS_no c]
    try dsimp only
    rw [byB_net (by decide), byB_true]
    rfl
end Go.Proofs.Ytabdnglgdbjbiaa.Pure
