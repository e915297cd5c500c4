/- The plain law TermsSum. Conditions: its own. -/
import Derived.Test.YtgpeknookhdffaaXTerms2
namespace Go.Proofs.Ytgpeknookhdffaa.Pure
open Go Go.Proofs.YtgpeknookhdffaaM Go.Proofs.YtgpeknookhdffaaX Go.Proofs.YtgpeknookhdffaaL Go.Proofs.YtgpeknookhdffaaC
set_option linter.unusedVariables false
set_option linter.unusedSimpArgs false

def most (n : Int) (l : List Sec) : Int := l.foldl (fun m x => if x.2.2 > m then x.2.2 else m) n
theorem most_spec : ∀ (l : List Sec) (n : Int), n ≤ most n l ∧ ∀ x ∈ l, x.2.2 ≤ most n l
  | [], n => ⟨Int.le_refl _, fun x h => by simp at h⟩
  | y :: l, n => by
    have h := most_spec l (if y.2.2 > n then y.2.2 else n)
    have e : most n (y :: l) = most (if y.2.2 > n then y.2.2 else n) l := rfl
    rw [e]
    constructor
    · refine Int.le_trans ?_ h.1
      split <;> omega
    · intro x hx
      rcases List.mem_cons.1 hx with rfl | hx
      · refine Int.le_trans ?_ h.1
        split <;> omega
      · exact h.2 x hx
theorem most_top {B : Int} : ∀ (l : List Sec) (n : Int), n ≤ B → (∀ x ∈ l, x.2.2 ≤ B) → most n l ≤ B
  | [], n, h, _ => h
  | y :: l, n, h, hx => by
    have e : most n (y :: l) = most (if y.2.2 > n then y.2.2 else n) l := rfl
    rw [e]
    refine most_top l _ ?_ (fun x hx' => hx x (.tail _ hx'))
    have := hx y (.head _)
    split <;> omega
theorem sum_secs {N : Nat} {s0 s1 s2 s3 s4 s5 s6 s7 : Int} {l : List Tk} (hl : l.length ≤ 24) {wh : List Int} {task : Int} {i : Nat} (hi : i < l.length) {again6 : _ → Option ((Bool × Unit) × Unit)} (hs : (l.getD i (0, 0, 0, [])).2.2.2.length ≤ 4) :
    ∀ (d j k : Nat) (m : Int), j + d = (l.getD i (0, 0, 0, [])).2.2.2.length → d < k →
      loopN k (TermsSum_5_L9 N again6) ((wh, task, (), true, m, (i : Int), (j : Int), ()), (s0, s1, s2, s3, s4, s5, s6, s7, l, ()), ()) =
        again6 ((wh, task, (), true, most m ((l.getD i (0, 0, 0, [])).2.2.2.drop j), IntKind.wrap .i64 ((i : Int) + 1), ()), (s0, s1, s2, s3, s4, s5, s6, s7, l, ()), ()) := by
  intro d
  induction d with
  | zero =>
    intro j k m hd hk
    obtain ⟨k, rfl⟩ : ∃ q, k = q + 1 := ⟨k - 1, by omega⟩
    rw [loopN_succ, TermsSum_5_L9]
    try dsimp only
    rw [if_pos (by omega), Int.toNat_natCast, byB_f (by omega), List.drop_of_length_le (by omega)]
    rfl
  | succ d ih =>
    intro j k m hd hk
    obtain ⟨k, rfl⟩ : ∃ q, k = q + 1 := ⟨k - 1, by omega⟩
    have hj : j < (l.getD i (0, 0, 0, [])).2.2.2.length := by omega
    have hnx : IntKind.wrap .i64 ((j : Int) + 1) = ((j + 1 : Nat) : Int) := by rw [w64 (by omega) (by omega)]; omega
    rw [loopN_succ, TermsSum_5_L9]
    try dsimp only
    rw [if_pos (by omega), Int.toNat_natCast, byB_t (by omega), if_pos (by omega), if_pos (by omega), Int.toNat_natCast, hnx, drop_getD (d := (0, 0, 0)) hj, ih (j + 1) k _ (by omega) (by omega)]
    rfl
theorem sum_waits {N : Nat} (hN : 100 ≤ N) {s0 s1 s2 s3 s4 s5 s6 s7 : Int} {l : List Tk} (hr : rightB s0 s1 s2 s3 s4 s5 s6 s7 l = true) {wh : List Int} {task : Nat} (ht : task < l.length) {B : Int} (hB : ∀ c res, lgS wh c res l ≤ B) (hB0 : 0 ≤ B ∧ B ≤ 1099511627776) :
    ∀ (d j k : Nat) (sum : Int), j + d = (l.getD task (0, 0, 0, [])).2.2.2.length → d < k → 0 ≤ sum → sum ≤ j * 8796093022216 → sum + esum (waitS (rightB s0 s1 s2 s3 s4 s5 s6 s7 l) s0 l wh (task : Int)) d j = extraS (rightB s0 s1 s2 s3 s4 s5 s6 s7 l) s0 l wh (task : Int) →
      loopN k (TermsSum_5_L15 N) ((wh, (task : Int), (), true, B, sum, (l.getD task (0, 0, 0, [])).2.2.2, (j : Int), ()), (s0, s1, s2, s3, s4, s5, s6, s7, l, ()), ()) = some ((true, ()), ()) := by
  obtain ⟨hs0, _, hl, htk⟩ := right_facts hr
  have hst := (task_facts (htk _ (getD_mem (d := (0, 0, 0, [])) ht))).2.2.1
  intro d
  induction d with
  | zero =>
    intro j k sum hd hk h0 h1 he
    obtain ⟨k, rfl⟩ : ∃ q, k = q + 1 := ⟨k - 1, by omega⟩
    rw [esum_zero, Int.add_zero] at he
    rw [loopN_succ, TermsSum_5_L15]
    try dsimp only
    rw [byB_f (by omega), byB_true, Extra_at hN, bnd, byB_eqt he.symm, Uses_at hN, bnd]
    try dsimp only
    unfold secOk
    rw [hr, Bool.true_and]
    have e : decide (0 ≤ (task : Int) ∧ (task : Int) < l.length ∧ (0 : Int) ≤ 0 ∧ (0 : Int) < (l.getD (task : Int).toNat (0, 0, 0, [])).2.2.2.length) = decide (((l.getD task (0, 0, 0, [])).2.2.2.length : Int) > 0) := by
      rw [Int.toNat_natCast, Bool.eq_iff_iff, decide_eq_true_eq, decide_eq_true_eq]
      omega
    rw [e, beq_self_eq_true]
  | succ d ih =>
    intro j k sum hd hk h0 h1 he
    obtain ⟨k, rfl⟩ : ∃ q, k = q + 1 := ⟨k - 1, by omega⟩
    have hnx : IntKind.wrap .i64 ((j : Int) + 1) = ((j + 1 : Nat) : Int) := by rw [w64 (by omega) (by omega)]; omega
    have hw := wait_range (s0 := s0) (s1 := s1) (s2 := s2) (s3 := s3) (s4 := s4) (s5 := s5) (s6 := s6) (s7 := s7) (l := l) wh (task : Int) (j : Int)
    have hok : secOk (rightB s0 s1 s2 s3 s4 s5 s6 s7 l) l (task : Int) (j : Int) = true := by
      unfold secOk
      rw [hr, Bool.true_and, Int.toNat_natCast]
      exact decide_eq_true (by omega)
    have hx := (task_facts (htk _ (getD_mem (d := (0, 0, 0, [])) ht))).2.2.2 _ (getD_mem (d := (0, 0, 0)) (show j < (l.getD task (0, 0, 0, [])).2.2.2.length by omega))
    have ehold : holdS (rightB s0 s1 s2 s3 s4 s5 s6 s7 l) s0 l wh (task : Int) (j : Int) = waitS (rightB s0 s1 s2 s3 s4 s5 s6 s7 l) s0 l wh (task : Int) (j : Int) + ((l.getD task (0, 0, 0, [])).2.2.2.getD j (0, 0, 0)).2.2 := by
      unfold holdS secR secX
      rw [if_pos hok, Int.toNat_natCast, Int.toNat_natCast]
    have hmost : waitS (rightB s0 s1 s2 s3 s4 s5 s6 s7 l) s0 l wh (task : Int) (j : Int) ≤ s0 * (B + 1) := by
      unfold waitS
      rw [if_pos hok]
      have := (wsum_range (own := ownS wh (task : Int)) (B := B) (fun c => ⟨(lg_range hr wh c (secX l (task : Int) (j : Int)).2.1).1, hB c (secX l (task : Int) (j : Int)).2.1⟩) s0.toNat 0).2
      rw [show ((s0.toNat : Nat) : Int) = s0 by omega] at this
      exact this
    have hprod : 0 ≤ s0 * (B + 1) ∧ s0 * (B + 1) ≤ 8 * (1099511627776 + 1) := ⟨Int.mul_nonneg (by omega) (by omega), Int.mul_le_mul (by omega) (by omega) (by omega) (by omega)⟩
    rw [esum_succ] at he
    rw [loopN_succ, TermsSum_5_L15]
    try dsimp only
    rw [byB_t (by omega), Wait_at hN, bnd]
    try dsimp only
    rw [byB_f (by omega), w64 (n := B + 1) (by omega) (by omega), w64 (n := s0 * (B + 1)) (by omega) (by omega), byB_f (by omega), Hold_at hN, bnd, if_pos (by omega), Int.toNat_natCast]
    try dsimp only
    rw [w64 (n := waitS (rightB s0 s1 s2 s3 s4 s5 s6 s7 l) s0 l wh (task : Int) (j : Int) + ((l.getD task (0, 0, 0, [])).2.2.2.getD j (0, 0, 0)).2.2) (by omega) (by omega), byB_nef ehold, hnx, w64 (by omega) (by omega)]
    exact ih (j + 1) k _ (by omega) (by omega) (by omega) (by omega) (by rw [show ((j + 1 : Nat) : Int) = (j : Int) + 1 by omega, Int.add_assoc]; exact he)
theorem sum_tasks {N : Nat} (hN : 100 ≤ N) {s0 s1 s2 s3 s4 s5 s6 s7 : Int} {l : List Tk} (hr : rightB s0 s1 s2 s3 s4 s5 s6 s7 l = true) {wh : List Int} {task : Nat} (ht : task < l.length) :
    ∀ (d i k : Nat) (m : Int), i + d = l.length → d < k → 0 ≤ m → m ≤ 1099511627776 → (∀ q, q < i → ∀ x ∈ (l.getD q (0, 0, 0, [])).2.2.2, x.2.2 ≤ m) →
      loopN k (TermsSum_5_L6 N) ((wh, (task : Int), (), true, m, (i : Int), ()), (s0, s1, s2, s3, s4, s5, s6, s7, l, ()), ()) = some ((true, ()), ()) := by
  obtain ⟨hs0, _, hl, htk⟩ := right_facts hr
  intro d
  induction d with
  | zero =>
    intro i k m hd hk h0 h1 hm
    obtain ⟨k, rfl⟩ : ∃ q, k = q + 1 := ⟨k - 1, by omega⟩
    have hst := (task_facts (htk _ (getD_mem (d := (0, 0, 0, [])) ht))).2.2.1
    rw [loopN_succ, TermsSum_5_L6]
    try dsimp only
    rw [byB_f (by omega), if_pos (by omega), Int.toNat_natCast]
    have := sum_waits hN hr (wh := wh) ht (B := m) (fun c res => by
      rcases bestT_get (wh := wh) (c := c) (res := res) l 0 0 with h | ⟨q, h1, _, _, x, h4, _, h6⟩
      · unfold lgS; omega
      · have := hm q (by omega) x h4
        unfold lgS; omega) ⟨h0, h1⟩ (l.getD task (0, 0, 0, [])).2.2.2.length 0 N 0 (by omega) (by omega) (by omega) (by omega) (by
        unfold extraS
        rw [if_pos ⟨hr, by omega, by omega⟩, Int.toNat_natCast, Int.zero_add]
        rfl)
    exact this
  | succ d ih =>
    intro i k m hd hk h0 h1 hm
    obtain ⟨k, rfl⟩ : ∃ q, k = q + 1 := ⟨k - 1, by omega⟩
    have hi : i < l.length := by omega
    have hnx : IntKind.wrap .i64 ((i : Int) + 1) = ((i + 1 : Nat) : Int) := by rw [w64 (by omega) (by omega)]; omega
    have hst := task_facts (htk _ (getD_mem (d := (0, 0, 0, [])) hi))
    have e := sum_secs (N := N) (s0 := s0) (s1 := s1) (s2 := s2) (s3 := s3) (s4 := s4) (s5 := s5) (s6 := s6) (s7 := s7) hl (wh := wh) (task := (task : Int)) hi (again6 := loopN k (TermsSum_5_L6 N)) hst.2.2.1 _ 0 N m (by rw [Nat.zero_add]) (by omega)
    have e0 : ((0 : Nat) : Int) = 0 := rfl
    rw [e0, List.drop_zero] at e
    have hsp := most_spec (l.getD i (0, 0, 0, [])).2.2.2 m
    rw [loopN_succ, TermsSum_5_L6]
    try dsimp only
    rw [byB_t (by omega), e, hnx]
    refine ih (i + 1) k _ (by omega) (by omega) (by omega) (most_top _ _ h1 (fun x hx => (hst.2.2.2 x hx).2)) fun q hq x hx => ?_
    by_cases h : q = i
    · subst h; exact hsp.2 x hx
    · have := hm q (by omega) x hx
      omega
theorem TermsSum (y0 : Int × Int × Int × Int × Int × Int × Int × Int × (List (Int × Int × Int × (List (Int × Int × Int))))) (y1 : List Int) (y2 : Int) (gy0 : ((Lit.int .i64 y0.1).wf = true ∧ ((Lit.int .i64 y0.2.1).wf = true ∧ ((Lit.int .i64 y0.2.2.1).wf = true ∧ ((Lit.int .i64 y0.2.2.2.1).wf = true ∧ ((Lit.int .i64 y0.2.2.2.2.1).wf = true ∧ ((Lit.int .i64 y0.2.2.2.2.2.1).wf = true ∧ ((Lit.int .i64 y0.2.2.2.2.2.2.1).wf = true ∧ ((Lit.int .i64 y0.2.2.2.2.2.2.2.1).wf = true ∧ (y0.2.2.2.2.2.2.2.2.length * 48 ≤ 140737488351232 ∧ ∀ e0 ∈ y0.2.2.2.2.2.2.2.2, ((Lit.int .i64 e0.1).wf = true ∧ ((Lit.int .i64 e0.2.1).wf = true ∧ ((Lit.int .i64 e0.2.2.1).wf = true ∧ (e0.2.2.2.length * 24 ≤ 140737488351232 ∧ ∀ e1 ∈ e0.2.2.2, ((Lit.int .i64 e1.1).wf = true ∧ ((Lit.int .i64 e1.2.1).wf = true ∧ (Lit.int .i64 e1.2.2).wf = true)))))))))))))))) (gy1 : (y1.length * 8 ≤ 140737488351232 ∧ ∀ e0 ∈ y1, (Lit.int .i64 e0).wf = true)) (gy2 : (Lit.int .i64 y2).wf = true) : ∃ N, TermsSum_5 N (((y0.1, y0.2.1, y0.2.2.1, y0.2.2.2.1, y0.2.2.2.2.1, y0.2.2.2.2.2.1, y0.2.2.2.2.2.2.1, y0.2.2.2.2.2.2.2.1, y0.2.2.2.2.2.2.2.2, ()), y1, y2, ()), ()) = some ((true, ()), ()) := by
  obtain ⟨M, hM⟩ : ∃ M : Nat, 1000 ≤ M := ⟨1000, Nat.le_refl _⟩
  refine ⟨M, ?_⟩
  obtain ⟨a0, a1, a2, a3, a4, a5, a6, a7, l⟩ := y0
  have no : ¬ (rightB a0 a1 a2 a3 a4 a5 a6 a7 l = true ∧ 0 ≤ y2 ∧ y2 < l.length) → extraS (rightB a0 a1 a2 a3 a4 a5 a6 a7 l) a0 l y1 y2 = 0 ∧ secOk (rightB a0 a1 a2 a3 a4 a5 a6 a7 l) l y2 0 = false := by
    intro h
    constructor
    · unfold extraS
      rw [if_neg h]
    · cases g : secOk (rightB a0 a1 a2 a3 a4 a5 a6 a7 l) l y2 0 with
      | false => rfl
      | true =>
        obtain ⟨g1, g2, g3, _⟩ := secOk_of g
        exact absurd ⟨g1, g2, g3⟩ h
  unfold TermsSum_5
  try dsimp only
  rw [examples_eq (by omega), bnd, right_at (by omega), bnd, byB_not]
  simp only [byB_true, Extra_at (N := M) (by omega), bnd, Uses_at (N := M) (by omega)]
  by_cases h : rightB a0 a1 a2 a3 a4 a5 a6 a7 l = true ∧ 0 ≤ y2 ∧ y2 < l.length
  · obtain ⟨task, rfl⟩ : ∃ q : Nat, y2 = q := ⟨y2.toNat, by omega⟩
    have hr := h.1
    have hl := (right_facts hr).2.2.1
    have := sum_tasks (N := M) (by omega) hr (wh := y1) (task := task) (by omega) l.length 0 M 0 (by omega) (by omega) (by omega) (by omega) (fun q hq => by omega)
    rw [hr, byB_true, byB_f (by omega), byB_f (by omega)]
    exact this
  · obtain ⟨e1, e2⟩ := no h
    rw [e1, e2]
    by_cases hr : rightB a0 a1 a2 a3 a4 a5 a6 a7 l = true
    · have h3 : ¬ (0 ≤ y2 ∧ y2 < l.length) := fun g => h ⟨hr, g⟩
      rw [hr, byB_true]
      by_cases h1 : y2 < 0
      · rw [byB_t h1]
        rfl
      · rw [byB_f h1, byB_t (by omega)]
        rfl
    · have hr' : rightB a0 a1 a2 a3 a4 a5 a6 a7 l = false := by simpa using hr
      rw [hr', byB_false]
      rfl
end Go.Proofs.Ytgpeknookhdffaa.Pure
