/- The plain law DemandLess. Conditions: its own. -/
import Derived.Test.YtabdnglgdbjbiaaXDemand5
namespace Go.Proofs.Ytabdnglgdbjbiaa.Pure
open Go Go.Proofs.YtabdnglgdbjbiaaM Go.Proofs.YtabdnglgdbjbiaaX Go.Proofs.YtabdnglgdbjbiaaL Go.Proofs.YtabdnglgdbjbiaaC Go.Proofs.YtabdnglgdbjbiaaQ
set_option linter.unusedVariables false
set_option linter.unusedSimpArgs false

theorem fine_at {N : Nat} {e : Int} (h : e = 0 ∨ e = 11) : fine_18 N ((e, ()), ()) = some ((true, ()), ()) := by
  unfold fine_18
  rcases h with rfl | rfl <;> rfl
theorem parts {l : List Wk} {i : Nat} (hi : i < l.length) : l = l.take i ++ l.getD i (0, 0, 0, false) :: l.drop (i + 1) := by
  rw [← drop_getD hi, List.take_append_drop]
theorem set_parts {l : List Wk} {i : Nat} (hi : i < l.length) (v : Wk) : l.set i v = l.take i ++ v :: l.drop (i + 1) := List.set_eq_take_append_cons_drop .. |>.trans (by rw [if_pos hi])
theorem least_app : ∀ (l m : List Wk) (n : Int), least (l ++ m) n = least m (least l n)
  | [], m, n => by rw [List.nil_append, least_nil]
  | x :: l, m, n => by rw [List.cons_append, least_cons, least_cons, least_app l m]
theorem least_mono : ∀ (l : List Wk) {m n : Int}, m ≤ n → least l m ≤ least l n
  | [], m, n, h => by rw [least_nil, least_nil]; exact h
  | x :: l, m, n, h => by
    rw [least_cons, least_cons]
    refine least_mono l ?_
    by_cases c : x.2.2.2 = false
    · simp only [c, true_and]
      split <;> split <;> omega
    · rw [if_neg (fun h => c h.1), if_neg (fun h => c h.1)]
      exact h
theorem one_le {x : Wk} {m : Int} : (if x.2.2.2 = false ∧ x.2.2.1 < m then x.2.2.1 else m) ≤ m := by
  split <;> omega
/-- One of the works changed for a lesser one, or taken away. -/
theorem less_set {l : List Wk} {b r : Int} {i : Nat} (hi : i < l.length) (h0 : testS l b r = 0) {v : Wk} (hv : wok v = true) (ha : ∀ k, 1 ≤ k → a1 k r v ≤ a1 k r (l.getD i (0, 0, 0, false))) (hc : ∀ k, 1 ≤ k → c1 k r v ≤ c1 k r (l.getD i (0, 0, 0, false))) (hp : Go.Proofs.YtabdnglgdbjbiaaQ.part v.1 v.2.1 + Go.Proofs.YtabdnglgdbjbiaaQ.part r v.2.1 ≤ Go.Proofs.YtabdnglgdbjbiaaQ.part (l.getD i (0, 0, 0, false)).1 (l.getD i (0, 0, 0, false)).2.1 + Go.Proofs.YtabdnglgdbjbiaaQ.part r (l.getD i (0, 0, 0, false)).2.1) (ht : v.2.2.2 = (l.getD i (0, 0, 0, false)).2.2.2) (hd : (l.getD i (0, 0, 0, false)).2.2.1 ≤ v.2.2.1) : testS (l.set i v) b r = 0 ∨ testS (l.set i v) b r = 11 := by
  obtain ⟨h, _⟩ := test_ok h0
  obtain ⟨hw, hl, h6⟩ := rt_of h
  have e1 := parts hi
  have e2 := set_parts hi v
  refine test_less h0 (rt_mk ⟨?_, by simpa using hl, h6⟩) ?_ ?_ ?_ ?_
  · intro x hx
    rcases List.mem_or_eq_of_mem_set hx with h | h
    · exact hw x h
    · rw [h]; exact hv
  · intro k hk
    have := ha k hk
    rw [e2]
    conv => rhs; rw [e1]
    rw [asum_app, asum_app, asum_cons, asum_cons]
    omega
  · intro k hk
    have := hc k hk
    rw [e2]
    conv => rhs; rw [e1]
    rw [csum_app, csum_app, csum_cons, csum_cons]
    omega
  · rw [e2]
    conv => rhs; rw [e1]
    rw [lsum_app, lsum_app, lsum_cons, lsum_cons]
    omega
  · rw [e2]
    conv => lhs; rw [e1]
    rw [least_app, least_app, least_cons, least_cons]
    refine least_mono _ ?_
    rw [ht]
    by_cases c : (l.getD i (0, 0, 0, false)).2.2.2 = false
    · simp only [c, true_and]
      split <;> split <;> omega
    · rw [if_neg (fun h => c h.1), if_neg (fun h => c h.1)]
      omega
theorem less_rest {l : List Wk} {b r : Int} {i : Nat} (hi : i < l.length) (h0 : testS l b r = 0) : testS (l.take i ++ l.drop (i + 1)) b r = 0 ∨ testS (l.take i ++ l.drop (i + 1)) b r = 11 := by
  obtain ⟨h, _⟩ := test_ok h0
  obtain ⟨hw, hl, h6⟩ := rt_of h
  have e1 := parts hi
  have hx := hw _ (getD_mem (d := (0, 0, 0, false)) hi)
  have hx2 := wok_of hx
  refine test_less h0 (rt_mk ⟨?_, by simp; omega, h6⟩) ?_ ?_ ?_ ?_
  · intro x hx
    rcases List.mem_append.1 hx with h | h
    · exact hw x (List.mem_of_mem_take h)
    · exact hw x (List.mem_of_mem_drop h)
  · intro k hk
    have := a1_nonneg (t := k) (r := r) hk (by omega) hx
    conv => rhs; rw [e1]
    rw [asum_app, asum_app, asum_cons]
    omega
  · intro k hk
    have := c1_nonneg (t := k) (r := r) hk (by omega) hx
    conv => rhs; rw [e1]
    rw [csum_app, csum_app, csum_cons]
    omega
  · have q1 := part_nonneg (w := (l.getD i (0, 0, 0, false)).1) (t := (l.getD i (0, 0, 0, false)).2.1) hx2.1 (by omega)
    have q2 := part_nonneg (w := r) (t := (l.getD i (0, 0, 0, false)).2.1) (by omega) (by omega)
    conv => rhs; rw [e1]
    rw [lsum_app, lsum_app, lsum_cons]
    omega
  · conv => lhs; rw [e1]
    rw [least_app, least_app, least_cons]
    exact least_mono _ one_le
theorem less_block {l : List Wk} {b b' r : Int} (h0 : testS l b r = 0) (hb : 0 ≤ b' ∧ b' ≤ b) : testS l b' r = 0 ∨ testS l b' r = 11 := by
  obtain ⟨h, _⟩ := test_ok h0
  obtain ⟨hw, hl, h6⟩ := rt_of h
  exact test_less h0 (rt_mk ⟨hw, hl, by omega⟩) (fun k _ => by omega) (fun k _ => by omega) (Int.le_refl _) (Int.le_refl _)
theorem part_le {w w' t : Int} (h : w' ≤ w) (ht : 0 < t) : Go.Proofs.YtabdnglgdbjbiaaQ.part w' t ≤ Go.Proofs.YtabdnglgdbjbiaaQ.part w t := by
  unfold Go.Proofs.YtabdnglgdbjbiaaQ.part
  exact Int.ediv_le_ediv ht (by omega)
theorem less_work {l : List Wk} {b r : Int} {i : Nat} (hi : i < l.length) (h0 : testS l b r = 0) {w : Int} (hw : 0 ≤ w ∧ w ≤ (l.getD i (0, 0, 0, false)).1) : testS (l.set i (w, (l.getD i (0, 0, 0, false)).2)) b r = 0 ∨ testS (l.set i (w, (l.getD i (0, 0, 0, false)).2)) b r = 11 := by
  obtain ⟨h, _⟩ := test_ok h0
  obtain ⟨hww, hl, h6⟩ := rt_of h
  have hx := hww _ (getD_mem (d := (0, 0, 0, false)) hi)
  have hx2 := wok_of hx
  generalize hxe : l.getD i (0, 0, 0, false) = x at *
  have hp := part_le (w := x.1) (w' := w) (t := x.2.1) hw.2 (by omega)
  refine less_set hi h0 (v := (w, x.2)) ?_ ?_ ?_ (by rw [hxe]; simp only; omega) (by rw [hxe]) (by rw [hxe]; simp only; omega)
  · exact decide_eq_true (show 0 ≤ w ∧ w ≤ 1099511627776 ∧ 1 ≤ x.2.1 ∧ x.2.1 ≤ 1099511627776 ∧ 1 ≤ x.2.2.1 ∧ x.2.2.1 ≤ 1099511627776 by omega)
  · intro k hk
    rw [hxe]
    have h1 := cd_pos hk hx2.2.2.1
    have : own k (w, x.2) ≤ own k x := by
      unfold own
      by_cases c : x.2.2.2 = true
      · rw [if_pos c, if_pos (show (w, x.2).2.2.2 = true from c)]
        exact mul_mono (by simp only; omega) (Int.le_refl _) hw.1 hw.2
      · rw [if_neg c, if_neg (show ¬ (w, x.2).2.2.2 = true from c)]
        by_cases c2 : k ≥ x.2.2.1
        · have h4 : 0 ≤ (k - x.2.2.1) / x.2.1 := Int.ediv_nonneg (by omega) (by omega)
          rw [if_pos c2, if_pos (show k ≥ (w, x.2).2.2.1 from c2)]
          exact mul_mono (by simp only; omega) (Int.le_refl _) hw.1 hw.2
        · rw [if_neg c2, if_neg (show ¬ k ≥ (w, x.2).2.2.1 from c2)]
          omega
    unfold a1
    by_cases c : cd k x.2.1 + 2 > 9223372036854775807
    · rw [if_pos c, if_pos (show cd k (w, x.2).2.1 + 2 > 9223372036854775807 from c)]; omega
    · rw [if_neg c, if_neg (show ¬ cd k (w, x.2).2.1 + 2 > 9223372036854775807 from c)]
      simp only
      omega
  · intro k hk
    rw [hxe]
    have h1 := cd_pos hk hx2.2.2.1
    have : (cd k x.2.1 + 1) * w ≤ (cd k x.2.1 + 1) * x.1 := mul_mono (by omega) (Int.le_refl _) hw.1 hw.2
    unfold c1
    by_cases c : cd k x.2.1 + 2 > 9223372036854775807
    · rw [if_pos c, if_pos (show cd k (w, x.2).2.1 + 2 > 9223372036854775807 from c)]; omega
    · rw [if_neg c, if_neg (show ¬ cd k (w, x.2).2.1 + 2 > 9223372036854775807 from c)]
      simp only
      omega
theorem less_late {l : List Wk} {b r : Int} {i : Nat} (hi : i < l.length) (h0 : testS l b r = 0) {e : Int} (hd : (l.getD i (0, 0, 0, false)).2.2.1 ≤ e ∧ e ≤ 1099511627776) :
    testS (l.set i ((l.getD i (0, 0, 0, false)).1, (l.getD i (0, 0, 0, false)).2.1, e, (l.getD i (0, 0, 0, false)).2.2.2)) b r = 0 ∨ testS (l.set i ((l.getD i (0, 0, 0, false)).1, (l.getD i (0, 0, 0, false)).2.1, e, (l.getD i (0, 0, 0, false)).2.2.2)) b r = 11 := by
  obtain ⟨h, _⟩ := test_ok h0
  obtain ⟨hww, hl, h6⟩ := rt_of h
  have hx := hww _ (getD_mem (d := (0, 0, 0, false)) hi)
  have hx2 := wok_of hx
  generalize hxe : l.getD i (0, 0, 0, false) = x at *
  refine less_set hi h0 (v := (x.1, x.2.1, e, x.2.2.2)) ?_ ?_ ?_ (by rw [hxe]; simp only; omega) (by rw [hxe]) (by rw [hxe]; simp only; omega)
  · exact decide_eq_true (show 0 ≤ x.1 ∧ x.1 ≤ 1099511627776 ∧ 1 ≤ x.2.1 ∧ x.2.1 ≤ 1099511627776 ∧ 1 ≤ e ∧ e ≤ 1099511627776 by omega)
  · intro k hk
    rw [hxe]
    have h1 := cd_pos hk hx2.2.2.1
    have : own k (x.1, x.2.1, e, x.2.2.2) ≤ own k x := by
      have hn := own_nonneg hk hx
      unfold own at hn ⊢
      by_cases c : x.2.2.2 = true
      · rw [if_pos c, if_pos (show (x.1, x.2.1, e, x.2.2.2).2.2.2 = true from c)]
        simp only
        omega
      · rw [if_neg c] at hn
        rw [if_neg c, if_neg (show ¬ (x.1, x.2.1, e, x.2.2.2).2.2.2 = true from c)]
        simp only
        by_cases c2 : k ≥ e
        · have h4 : 0 ≤ (k - e) / x.2.1 := Int.ediv_nonneg (by omega) (by omega)
          have h5 : (k - e) / x.2.1 ≤ (k - x.2.2.1) / x.2.1 := Int.ediv_le_ediv (by omega) (by omega)
          rw [if_pos c2, if_pos (by omega)]
          exact mul_mono (by omega) (by omega) hx2.1 (Int.le_refl _)
        · rw [if_neg c2]
          exact hn
    unfold a1
    by_cases c : cd k x.2.1 + 2 > 9223372036854775807
    · rw [if_pos c, if_pos (show cd k (x.1, x.2.1, e, x.2.2.2).2.1 + 2 > 9223372036854775807 from c)]; omega
    · rw [if_neg c, if_neg (show ¬ cd k (x.1, x.2.1, e, x.2.2.2).2.1 + 2 > 9223372036854775807 from c)]
      simp only
      omega
  · intro k hk
    rw [hxe]
    exact Int.le_refl _

theorem less10 {N : Nat} {b r less : Int} {i : Nat} {l : List Wk} (h0 : testS l b r = 0) (hl : l.length * 32 ≤ 140737488351232) (hN : 6000 + l.length ≤ N) (hi : i < l.length) (hle : 0 ≤ less ∧ less ≤ 9223372036854775807) :
    DemandLess_6_J10 N ((l, b, r, less, true, (i : Int), false, ()), ()) = some ((true, ()), ()) := by
  obtain ⟨h, _⟩ := test_ok h0
  obtain ⟨hw, hl2, h6⟩ := rt_of h
  have hx2 := wok_of (hw _ (getD_mem (d := (0, 0, 0, false)) hi))
  have l1 : (l.take i).length = i := by simp; omega
  have l2 : (l.drop (i + 1)).length = l.length - (i + 1) := by simp
  have e1 : ((i + 1 : Nat) : Int) = (i : Int) + 1 := by omega
  have e2 : ((i : Int) + 1).toNat = i + 1 := by omega
  have r1 := Int.emod_nonneg less (show (l.getD i (0, 0, 0, false)).1 + 1 ≠ 0 by omega)
  have r2 := Int.emod_lt_of_pos less (show 0 < (l.getD i (0, 0, 0, false)).1 + 1 by omega)
  have r3 := Int.emod_nonneg less (show (1000 : Int) ≠ 0 by omega)
  have r4 := Int.emod_lt_of_pos less (show (0 : Int) < 1000 by omega)
  have r5 := Int.emod_nonneg less (show b + 1 ≠ 0 by omega)
  have r6 := Int.emod_lt_of_pos less (show 0 < b + 1 by omega)
  have f1 := less_rest hi h0
  have f2 := less_work hi h0 (w := less % ((l.getD i (0, 0, 0, false)).1 + 1)) (by omega)
  have f3 := less_late hi h0 (e := if 1099511627776 < (l.getD i (0, 0, 0, false)).2.2.1 + less % 1000 then 1099511627776 else (l.getD i (0, 0, 0, false)).2.2.1 + less % 1000) (by split <;> omega)
  have f4 := less_block (b' := less % (b + 1)) h0 (by omega)
  rw [DemandLess_6_J10]
  try dsimp only
  rw [byB_false, if_pos (by omega), Int.toNat_natCast, if_pos (by rw [l1]; omega), w64 (n := (i : Int) + 1) (by omega) (by omega), if_pos (by omega), e2, List.take_length, if_pos (by rw [l1, l2]; omega), if_pos (by omega), if_pos (by omega), w64 (n := (l.getD i (0, 0, 0, false)).1 + 1) (by omega) (by omega), if_neg (by omega), if_pos (by omega), if_pos (by omega), if_pos (by omega), if_pos (by omega)]
  rw [Int.tmod_eq_emod_of_nonneg hle.1, Int.tmod_eq_emod_of_nonneg hle.1, w64 (n := (l.getD i (0, 0, 0, false)).2.2.1 + less % 1000) (by omega) (by omega), w64 (n := b + 1) (by omega) (by omega), Int.tmod_eq_emod_of_nonneg hle.1]
  have s1 : (l.take i ++ l.drop (i + 1)).length ≤ l.length := by rw [List.length_append, l1, l2]; omega
  rw [test_at _ (by omega) (by omega) (by omega), bnd, test_at _ (by rw [List.length_set]; omega) (by omega) (by rw [List.length_set]; omega), bnd, test_at _ (by rw [List.length_set]; omega) (by omega) (by rw [List.length_set]; omega), bnd, if_neg (by omega), test_at _ (by omega) (by omega) (by omega), bnd]
  try dsimp only
  rw [byB_true, fine_at f1, bnd, byB_true, fine_at f2, bnd, byB_true, fine_at f3, bnd, byB_true, fine_at f4, bnd]
theorem less8 {N : Nat} {b r which less : Int} {l : List Wk} (h0 : testS l b r = 0) (hl : l.length * 32 ≤ 140737488351232) (hN : 6000 + l.length ≤ N) (hne : 0 < l.length) (hwh : 0 ≤ which) (hle : 0 ≤ less ∧ less ≤ 9223372036854775807) :
    DemandLess_6_J8 N ((l, b, r, which, less, true, ()), ()) = some ((true, ()), ()) := by
  obtain ⟨h, _⟩ := test_ok h0
  obtain ⟨hw, hl2, h6⟩ := rt_of h
  have r1 := Int.emod_nonneg which (show (l.length : Int) ≠ 0 by omega)
  have r2 := Int.emod_lt_of_pos which (show 0 < (l.length : Int) by omega)
  obtain ⟨i, hi⟩ : ∃ i : Nat, which % (l.length : Int) = i := ⟨(which % (l.length : Int)).toNat, by omega⟩
  rw [DemandLess_6_J8]
  try dsimp only
  rw [if_neg (by omega), join_eq, Int.tmod_eq_emod_of_nonneg hwh, hi]
  rw [hi] at r1 r2
  have hx2 := wok_of (hw _ (getD_mem (d := (0, 0, 0, false)) (show i < l.length by omega)))
  rw [if_pos (by omega), Int.toNat_natCast, byB_f (by omega), decide_eq_false (show ¬ b < 0 by omega)]
  exact less10 h0 hl hN (by omega) hle
theorem less6 {N : Nat} {b r which less : Int} {l : List Wk} (h0 : testS l b r = 0) (hl : l.length * 32 ≤ 140737488351232) (hN : 6000 + l.length ≤ N) (hne : 0 < l.length) (hwh : 0 ≤ which) (hle : -9223372036854775808 ≤ less ∧ less ≤ 9223372036854775807) :
    DemandLess_6_J6 N ((l, b, r, which, less, true, ()), ()) = some ((true, ()), ()) := by
  rw [DemandLess_6_J6]
  try dsimp only
  rw [join_eq]
  by_cases c : less < 0
  · have e3 : IntKind.wrap .i64 (0 - IntKind.wrap .i64 (less + 1)) = -(less + 1) := by
      rw [w64 (n := less + 1) (by omega) (by omega), w64 (by omega) (by omega)]; omega
    rw [byB_t c, e3]
    exact less8 h0 hl hN hne hwh (by omega)
  · rw [byB_f c]
    exact less8 h0 hl hN hne hwh (by omega)
theorem DemandLess (y0 : List (Int × Int × Int × Bool)) (y1 : Int) (y2 : Int) (y3 : Int) (y4 : Int) (gy0 : (y0.length * 32 ≤ 140737488351232 ∧ ∀ e0 ∈ y0, ((Lit.int .i64 e0.1).wf = true ∧ ((Lit.int .i64 e0.2.1).wf = true ∧ ((Lit.int .i64 e0.2.2.1).wf = true ∧ True))))) (gy1 : (Lit.int .i64 y1).wf = true) (gy2 : (Lit.int .i64 y2).wf = true) (gy3 : (Lit.int .i64 y3).wf = true) (gy4 : (Lit.int .i64 y4).wf = true) : ∃ N, DemandLess_6 N ((y0, y1, y2, y3, y4, ()), ()) = some ((true, ()), ()) := by
  obtain ⟨M, hM⟩ : ∃ M : Nat, 6000 ≤ M := ⟨6000, Nat.le_refl _⟩
  refine ⟨M + y0.length, ?_⟩
  have hwh := wf64 gy3
  unfold DemandLess_6
  try dsimp only
  rw [examples_eq (by omega), bnd, join_eq, test_at y0 gy0.1 (by omega) (by omega), bnd]
  try dsimp only
  by_cases c : testS y0 y1 y2 = 0
  · rw [byB_nef c, DemandLess_6_J3]
    try dsimp only
    by_cases c2 : (y0.length : Int) = 0
    · rw [byB_eqt c2]
    · rw [byB_eqf c2, join_eq]
      by_cases c3 : y3 < 0
      · have e3 : IntKind.wrap .i64 (0 - IntKind.wrap .i64 (y3 + 1)) = -(y3 + 1) := by
          rw [w64 (n := y3 + 1) (by omega) (by omega), w64 (by omega) (by omega)]; omega
        rw [byB_t c3, e3]
        exact less6 c gy0.1 (by omega) (by omega) (by omega) (wf64 gy4)
      · rw [byB_f c3]
        exact less6 c gy0.1 (by omega) (by omega) (by omega) (wf64 gy4)
  · rw [byB_net c, DemandLess_6_J3]
    try dsimp only
    rw [byB_true]
end Go.Proofs.Ytabdnglgdbjbiaa.Pure
