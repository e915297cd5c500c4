/- The plain law TermsLongest. Conditions: its own. -/
import Derived.Test.YtgpeknookhdffaaXTerms2
namespace Go.Proofs.Ytgpeknookhdffaa.Pure
open Go Go.Proofs.YtgpeknookhdffaaM Go.Proofs.YtgpeknookhdffaaX Go.Proofs.YtgpeknookhdffaaL Go.Proofs.YtgpeknookhdffaaC
set_option linter.unusedVariables false
set_option linter.unusedSimpArgs false

theorem long_secs {N : Nat} {s0 s1 s2 s3 s4 s5 s6 s7 : Int} {l : List Tk} (hl : l.length ≤ 24) {wh : List Int} {c res n : Int} {i : Nat} (hi : i < l.length) (hiw : i < wh.length) {t50 t52 : Int} {t51 : List Int} {t53 : Bool} {again7 : _ → Option ((Bool × Unit) × Unit)} (hs : (l.getD i (0, 0, 0, [])).2.2.2.length ≤ 4)
    (hbig : wh.getD i 0 = c → ∀ x ∈ (l.getD i (0, 0, 0, [])).2.2.2, x.2.1 = res → x.2.2 ≤ n) :
    ∀ (d j k : Nat) (met : Bool), j + d = (l.getD i (0, 0, 0, [])).2.2.2.length → d < k →
      loopN k (TermsLongest_6_L10 N again7) ((wh, c, res, (), true, n, met, (i : Int), (j : Int), t50, t51, t52, t53, ()), (s0, s1, s2, s3, s4, s5, s6, s7, l, ()), ()) =
        again7 ((wh, c, res, (), true, n, (met || (decide (wh.getD i 0 = c) && ((l.getD i (0, 0, 0, [])).2.2.2.drop j).any (fun x => decide (x.2.1 = res ∧ x.2.2 = n)))), IntKind.wrap .i64 ((i : Int) + 1), ()), (s0, s1, s2, s3, s4, s5, s6, s7, l, ()), ()) := by
  intro d
  induction d with
  | zero =>
    intro j k met hd hk
    obtain ⟨k, rfl⟩ : ∃ q, k = q + 1 := ⟨k - 1, by omega⟩
    rw [loopN_succ, TermsLongest_6_L10]
    try dsimp only
    rw [if_pos (by omega), Int.toNat_natCast, byB_f (by omega), List.drop_of_length_le (by omega), List.any_nil, Bool.and_false, Bool.or_false]
  | succ d ih =>
    intro j k met hd hk
    obtain ⟨k, rfl⟩ : ∃ q, k = q + 1 := ⟨k - 1, by omega⟩
    have hj : j < (l.getD i (0, 0, 0, [])).2.2.2.length := by omega
    have hnx : IntKind.wrap .i64 ((j : Int) + 1) = ((j + 1 : Nat) : Int) := by rw [w64 (by omega) (by omega)]; omega
    have ih2 := fun m' => ih (j + 1) k m' (by omega) (by omega)
    have hx := fun h => hbig h _ (getD_mem (d := (0, 0, 0)) hj)
    rw [loopN_succ, TermsLongest_6_L10]
    try dsimp only
    rw [if_pos (by omega), Int.toNat_natCast, byB_t (by omega), if_pos (by omega)]
    by_cases h : wh.getD i 0 = c
    · rw [byB_eqt h, if_pos (by omega), if_pos (by omega), Int.toNat_natCast, hnx, drop_getD (d := (0, 0, 0)) hj, List.any_cons, ih2, ih2, ih2]
      generalize (l.getD i (0, 0, 0, [])).2.2.2.getD j (0, 0, 0) = x at *
      rw [decide_eq_true h, Bool.true_and, Bool.true_and]
      by_cases h2 : x.2.1 = res
      · rw [byB_eqt h2, byB_f (by have := hx h h2; omega), byB_eqt h2]
        cases met with
        | true => rw [byB_true, Bool.true_or, Bool.true_or]
        | false =>
          rw [byB_false, Bool.false_or]
          by_cases h3 : x.2.2 = n
          · have e : (x.2.2 == n) = true := by simpa using h3
            rw [e, decide_eq_true ⟨h2, h3⟩]
          · have e : (x.2.2 == n) = false := by simpa using h3
            rw [e, decide_eq_false (fun g => h3 g.2)]
      · rw [byB_eqf h2, byB_eqf h2, decide_eq_false (fun g => h2 g.1)]
        cases met with
        | true => simp only [byB_true, Bool.true_or, Bool.false_or]
        | false => simp only [byB_false, Bool.false_or]
    · rw [byB_eqf h, decide_eq_false h, Bool.false_and, Bool.or_false]
theorem long_tasks {N : Nat} (hN : 10 ≤ N) {s0 s1 s2 s3 s4 s5 s6 s7 : Int} {l : List Tk} (hl : l.length ≤ 24) (hs : ∀ t ∈ l, t.2.2.2.length ≤ 4) {wh : List Int} {c res n : Int} (hbig : ∀ i, i < l.length → i < wh.length → wh.getD i 0 = c → ∀ x ∈ (l.getD i (0, 0, 0, [])).2.2.2, x.2.1 = res → x.2.2 ≤ n) :
    ∀ (d i k : Nat) (met : Bool), i + d = l.length → d < k → (met = true ∨ ∃ q, i ≤ q ∧ q < l.length ∧ q < wh.length ∧ wh.getD q 0 = c ∧ ∃ x ∈ (l.getD q (0, 0, 0, [])).2.2.2, x.2.1 = res ∧ x.2.2 = n) →
      loopN k (TermsLongest_6_L7 N) ((wh, c, res, (), true, n, met, (i : Int), ()), (s0, s1, s2, s3, s4, s5, s6, s7, l, ()), ()) = some ((true, ()), ()) := by
  intro d
  induction d with
  | zero =>
    intro i k met hd hk hm
    obtain ⟨k, rfl⟩ : ∃ q, k = q + 1 := ⟨k - 1, by omega⟩
    rw [loopN_succ, TermsLongest_6_L7]
    try dsimp only
    rcases hm with rfl | ⟨q, h1, h2, _⟩
    · rw [byB_f (by omega), byB_true]
    · omega
  | succ d ih =>
    intro i k met hd hk hm
    obtain ⟨k, rfl⟩ : ∃ q, k = q + 1 := ⟨k - 1, by omega⟩
    have hi : i < l.length := by omega
    have hnx : IntKind.wrap .i64 ((i : Int) + 1) = ((i + 1 : Nat) : Int) := by rw [w64 (by omega) (by omega)]; omega
    have hst := hs _ (getD_mem (d := (0, 0, 0, [])) hi)
    rw [loopN_succ, TermsLongest_6_L7]
    try dsimp only
    rw [byB_t (by omega)]
    by_cases h : (i : Int) < wh.length
    · have e := long_secs (N := N) (s0 := s0) (s1 := s1) (s2 := s2) (s3 := s3) (s4 := s4) (s5 := s5) (s6 := s6) (s7 := s7) hl (wh := wh) (c := c) (res := res) (n := n) hi (by omega) (t50 := (i : Int)) (t51 := wh) (t52 := (wh.length : Int)) (t53 := decide ((i : Int) < (wh.length : Int))) (again7 := loopN k (TermsLongest_6_L7 N)) hst (hbig i hi (by omega)) _ 0 N met (by rw [Nat.zero_add]) (by omega)
      have e0 : ((0 : Nat) : Int) = 0 := rfl
      rw [e0, List.drop_zero] at e
      rw [byB_t h, e, hnx]
      refine ih (i + 1) k _ (by omega) (by omega) ?_
      rcases hm with rfl | ⟨q, h1, h2, h3, h4, x, h5, h6, h7⟩
      · exact .inl (Bool.true_or _)
      · by_cases hq : q = i
        · subst hq
          refine .inl ?_
          rw [decide_eq_true h4, Bool.true_and]
          have : ((l.getD q (0, 0, 0, [])).2.2.2).any (fun x => decide (x.2.1 = res ∧ x.2.2 = n)) = true := List.any_eq_true.2 ⟨x, h5, decide_eq_true ⟨h6, h7⟩⟩
          rw [this, Bool.or_true]
        · exact .inr ⟨q, by omega, h2, h3, h4, x, h5, h6, h7⟩
    · rw [byB_f h, byB_true]
      rcases hm with rfl | ⟨q, h1, h2, h3, _⟩
      · rfl
      · omega
theorem TermsLongest (y0 : Int × Int × Int × Int × Int × Int × Int × Int × (List (Int × Int × Int × (List (Int × Int × Int))))) (y1 : List Int) (y2 : Int) (y3 : Int) (gy0 : ((Lit.int .i64 y0.1).wf = true ∧ ((Lit.int .i64 y0.2.1).wf = true ∧ ((Lit.int .i64 y0.2.2.1).wf = true ∧ ((Lit.int .i64 y0.2.2.2.1).wf = true ∧ ((Lit.int .i64 y0.2.2.2.2.1).wf = true ∧ ((Lit.int .i64 y0.2.2.2.2.2.1).wf = true ∧ ((Lit.int .i64 y0.2.2.2.2.2.2.1).wf = true ∧ ((Lit.int .i64 y0.2.2.2.2.2.2.2.1).wf = true ∧ (y0.2.2.2.2.2.2.2.2.length * 48 ≤ 140737488351232 ∧ ∀ e0 ∈ y0.2.2.2.2.2.2.2.2, ((Lit.int .i64 e0.1).wf = true ∧ ((Lit.int .i64 e0.2.1).wf = true ∧ ((Lit.int .i64 e0.2.2.1).wf = true ∧ (e0.2.2.2.length * 24 ≤ 140737488351232 ∧ ∀ e1 ∈ e0.2.2.2, ((Lit.int .i64 e1.1).wf = true ∧ ((Lit.int .i64 e1.2.1).wf = true ∧ (Lit.int .i64 e1.2.2).wf = true)))))))))))))))) (gy1 : (y1.length * 8 ≤ 140737488351232 ∧ ∀ e0 ∈ y1, (Lit.int .i64 e0).wf = true)) (gy2 : (Lit.int .i64 y2).wf = true) (gy3 : (Lit.int .i64 y3).wf = true) : ∃ N, TermsLongest_6 N (((y0.1, y0.2.1, y0.2.2.1, y0.2.2.2.1, y0.2.2.2.2.1, y0.2.2.2.2.2.1, y0.2.2.2.2.2.2.1, y0.2.2.2.2.2.2.2.1, y0.2.2.2.2.2.2.2.2, ()), y1, y2, y3, ()), ()) = some ((true, ()), ()) := by
  obtain ⟨M, hM⟩ : ∃ M : Nat, 1000 ≤ M := ⟨1000, Nat.le_refl _⟩
  refine ⟨M, ?_⟩
  obtain ⟨a0, a1, a2, a3, a4, a5, a6, a7, l⟩ := y0
  unfold TermsLongest_6
  try dsimp only
  rw [examples_eq (by omega), bnd, Longest_at (by omega), bnd, right_at (by omega), bnd, byB_not]
  try dsimp only
  unfold longS
  cases hr : rightB a0 a1 a2 a3 a4 a5 a6 a7 l with
  | false =>
    rw [byB_false, byB_true, if_neg (by simp)]
    rfl
  | true =>
    rw [byB_true, byB_true]
    by_cases h1 : y2 < 0
    · rw [byB_t h1, if_neg (by omega)]
      rfl
    · by_cases h2 : y2 ≥ a0
      · rw [byB_f h1, byB_t h2, if_neg (by omega)]
        rfl
      · obtain ⟨_, _, hl, ht⟩ := right_facts hr
        rw [byB_f h1, byB_f h2, if_pos ⟨rfl, by omega, by omega⟩]
        have := long_tasks (N := M) (by omega) (s0 := a0) (s1 := a1) (s2 := a2) (s3 := a3) (s4 := a4) (s5 := a5) (s6 := a6) (s7 := a7) hl (fun t m => (task_facts (ht t m)).2.2.1) (wh := y1) (c := y2) (res := y3) (n := lgS y1 y2 y3 l)
          (fun i h3 h4 h5 x hx hres => bestT_mem (i := 0) i h3 (by omega) (by rw [Nat.zero_add]; exact h5) x hx hres) l.length 0 M (lgS y1 y2 y3 l == 0) (by omega) (by omega) ?_
        · exact this
        · rcases bestT_get (wh := y1) (c := y2) (res := y3) l 0 0 with g | ⟨q, g1, g2, g3, x, g4, g5, g6⟩
          · refine .inl ?_
            have : lgS y1 y2 y3 l = 0 := g
            rw [this]
            rfl
          · rw [Nat.zero_add] at g2 g3
            exact .inr ⟨q, by omega, g1, g2, g3, x, g4, g5, g6.symm⟩
end Go.Proofs.Ytgpeknookhdffaa.Pure
