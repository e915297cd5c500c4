/- The plain law TermsGrow. Conditions: its own. -/
import Derived.Test.YtgpeknookhdffaaXTerms2
namespace Go.Proofs.Ytgpeknookhdffaa.Pure
open Go Go.Proofs.YtgpeknookhdffaaM Go.Proofs.YtgpeknookhdffaaX Go.Proofs.YtgpeknookhdffaaL Go.Proofs.YtgpeknookhdffaaC
set_option linter.unusedVariables false
set_option linter.unusedSimpArgs false

/-- Where one more is on its core, none is shorter. -/
theorem grow_bestT {l : List Tk} {less more : List Int} {c res : Int} (hlen : less.length = more.length) (hs : ∀ q, less.getD q 0 = c → more.getD q 0 = c) : lgS less c res l ≤ lgS more c res l := by
  unfold lgS
  rcases bestT_get (wh := less) (c := c) (res := res) l 0 0 with h | ⟨q, h1, h2, h3, x, h4, h5, h6⟩
  · rw [h]; exact bestT_le
  · rw [h6]
    rw [Nat.zero_add] at h2 h3
    exact bestT_mem (i := 0) q h1 (by omega) (by rw [Nat.zero_add]; exact hs q h3) x h4 h5
theorem wsum_mono {n m : Int → Int} {own : Int} (hn : ∀ c, 0 ≤ n c) : ∀ (d : Nat) (c : Int), (∀ q, c ≤ q → n q ≤ m q) → wsum n own d c ≤ wsum m own d c
  | 0, c, _ => by rw [wsum_zero, wsum_zero]; omega
  | d + 1, c, h => by
    have h1 := wsum_mono hn d (c + 1) (own := own) (fun q hq => h q (by omega))
    have h2 := h c (Int.le_refl _)
    have h3 := hn c
    rw [wsum_succ, wsum_succ]
    by_cases h4 : c = own
    · rw [if_neg (fun g => g.1 h4), if_neg (fun g => g.1 h4)]; omega
    · by_cases h5 : n c > 0
      · rw [if_pos ⟨h4, h5⟩, if_pos ⟨h4, by omega⟩]; omega
      · rw [if_neg (fun g => h5 g.2)]
        split <;> omega
theorem wsum_none {n : Int → Int} {own : Int} : ∀ (d : Nat) (c : Int), (∀ q, c ≤ q → q ≠ own → n q = 0) → wsum n own d c = 0
  | 0, c, _ => wsum_zero _ _ _
  | d + 1, c, h => by
    have h1 := wsum_none d (c + 1) (own := own) (fun q hq => h q (by omega))
    rw [wsum_succ, h1]
    by_cases h4 : c = own
    · rw [if_neg (fun g => g.1 h4)]; omega
    · rw [if_neg (fun g => by have := h c (Int.le_refl _) h4; omega)]; omega
theorem esum_none {f : Int → Int} : ∀ (d : Nat) (j : Int), (∀ q, f q = 0) → esum f d j = 0
  | 0, j, _ => esum_zero _ _
  | d + 1, j, h => by rw [esum_succ, h, esum_none d (j + 1) h]; rfl

theorem grow_loop {N : Nat} (hN : 100 ≤ N) {s0 s1 s2 s3 s4 s5 s6 s7 : Int} {l : List Tk} (hr : rightB s0 s1 s2 s3 s4 s5 s6 s7 l = true) {more : List Int} {task : Nat} {core other k a b : Int} {t35 : Bool} (ht : task < l.length) (hc : 0 ≤ core ∧ core < s0) (hab : b ≥ a) (ha : a ≥ 0) :
    ∀ (d i : Nat) (K : Nat) (none : List Int), i + d = l.length → d < K → none.length = l.length → (∀ q, q < i → none.getD q 0 = -1) →
      loopN K (TermsGrow_4_L14 N) (((task : Int), core, other, k, (), t35, true, (), a, b, (), (i : Int), ()), (s0, s1, s2, s3, s4, s5, s6, s7, l, ()), more, none, ()) = some ((true, ()), ()) := by
  have hl := (right_facts hr).2.2.1
  intro d
  induction d with
  | zero =>
    intro i K none hd hk hlen hq
    obtain ⟨K, rfl⟩ : ∃ q, K = q + 1 := ⟨K - 1, by omega⟩
    rw [loopN_succ, TermsGrow_4_L14]
    try dsimp only
    have hz : extraS (rightB s0 s1 s2 s3 s4 s5 s6 s7 l) s0 l (none.set task core) (task : Int) = 0 := by
      unfold extraS
      rw [if_pos ⟨hr, by omega, by omega⟩]
      refine esum_none _ _ fun j => ?_
      unfold waitS
      split
      · have ho : ownS (none.set task core) (task : Int) = core := by
          unfold ownS
          rw [if_neg (by rw [List.length_set]; omega), Int.toNat_natCast, getD_set_eq (by omega)]
        rw [ho]
        refine wsum_none _ _ fun q hq0 hqc => ?_
        rcases bestT_get (wh := none.set task core) (c := q) (res := (secX l (task : Int) j).2.1) l 0 0 with h | ⟨p, h1, h2, h3, _⟩
        · exact h
        · exfalso
          rw [Nat.zero_add] at h2 h3
          rw [List.length_set] at h2
          by_cases hp : task = p
          · subst hp
            rw [getD_set_eq (by omega)] at h3
            exact hqc h3.symm
          · rw [Go.Proofs.YtgpeknookhdffaaL.getD_set_ne hp, hq p (by omega)] at h3
            omega
      · rfl
    rw [byB_f (by omega), byB_t (by omega), if_pos (by omega), Int.toNat_natCast, Extra_at hN, bnd, hz, byB_true, byB_t hab, byB_t ha, byB_eqt rfl, Hold_at hN, bnd, Wait_at hN, bnd]
    have h2 := sec_range (s0 := s0) (s1 := s1) (s2 := s2) (s3 := s3) (s4 := s4) (s5 := s5) (s6 := s6) (s7 := s7) (l := l) other k
    unfold holdS
    rw [decide_eq_true (by simp only; omega)]
  | succ d ih =>
    intro i K none hd hk hlen hq
    obtain ⟨K, rfl⟩ : ∃ q, K = q + 1 := ⟨K - 1, by omega⟩
    have hnx : IntKind.wrap .i64 ((i : Int) + 1) = ((i + 1 : Nat) : Int) := by rw [w64 (by omega) (by omega)]; omega
    rw [loopN_succ, TermsGrow_4_L14]
    try dsimp only
    rw [byB_t (by omega), if_pos (by omega), Int.toNat_natCast, hnx]
    refine ih (i + 1) K _ (by omega) (by omega) (by rw [List.length_set]; exact hlen) fun q hq1 => ?_
    by_cases h : i = q
    · subst h
      rw [getD_set_eq (by omega)]
    · rw [Go.Proofs.YtgpeknookhdffaaL.getD_set_ne h]
      exact hq q (by omega)
theorem TermsGrow (y0 : Int × Int × Int × Int × Int × Int × Int × Int × (List (Int × Int × Int × (List (Int × Int × Int))))) (y1 : List Int) (y2 : Int) (y3 : Int) (y4 : Int) (y5 : Int) (gy0 : ((Lit.int .i64 y0.1).wf = true ∧ ((Lit.int .i64 y0.2.1).wf = true ∧ ((Lit.int .i64 y0.2.2.1).wf = true ∧ ((Lit.int .i64 y0.2.2.2.1).wf = true ∧ ((Lit.int .i64 y0.2.2.2.2.1).wf = true ∧ ((Lit.int .i64 y0.2.2.2.2.2.1).wf = true ∧ ((Lit.int .i64 y0.2.2.2.2.2.2.1).wf = true ∧ ((Lit.int .i64 y0.2.2.2.2.2.2.2.1).wf = true ∧ (y0.2.2.2.2.2.2.2.2.length * 48 ≤ 140737488351232 ∧ ∀ e0 ∈ y0.2.2.2.2.2.2.2.2, ((Lit.int .i64 e0.1).wf = true ∧ ((Lit.int .i64 e0.2.1).wf = true ∧ ((Lit.int .i64 e0.2.2.1).wf = true ∧ (e0.2.2.2.length * 24 ≤ 140737488351232 ∧ ∀ e1 ∈ e0.2.2.2, ((Lit.int .i64 e1.1).wf = true ∧ ((Lit.int .i64 e1.2.1).wf = true ∧ (Lit.int .i64 e1.2.2).wf = true)))))))))))))))) (gy1 : (y1.length * 8 ≤ 140737488351232 ∧ ∀ e0 ∈ y1, (Lit.int .i64 e0).wf = true)) (gy2 : (Lit.int .i64 y2).wf = true) (gy3 : (Lit.int .i64 y3).wf = true) (gy4 : (Lit.int .i64 y4).wf = true) (gy5 : (Lit.int .i64 y5).wf = true) : ∃ N, TermsGrow_4 N (((y0.1, y0.2.1, y0.2.2.1, y0.2.2.2.1, y0.2.2.2.2.1, y0.2.2.2.2.2.1, y0.2.2.2.2.2.2.1, y0.2.2.2.2.2.2.2.1, y0.2.2.2.2.2.2.2.2, ()), y1, y2, y3, y4, y5, ()), ()) = some ((true, ()), ()) := by
  obtain ⟨M, hM⟩ : ∃ M : Nat, 1000 ≤ M := ⟨1000, Nat.le_refl _⟩
  refine ⟨M, ?_⟩
  obtain ⟨a0, a1, a2, a3, a4, a5, a6, a7, l⟩ := y0
  unfold TermsGrow_4
  try dsimp only
  rw [examples_eq (by omega), bnd, right_at (by omega), bnd, byB_not]
  try dsimp only
  cases hr : rightB a0 a1 a2 a3 a4 a5 a6 a7 l with
  | false => rw [byB_false]
  | true =>
    obtain ⟨hs0, _, hl, htk⟩ := right_facts hr
    rw [byB_true]
    by_cases h1 : y2 < 0
    · rw [byB_t h1]
    rw [byB_f h1]
    by_cases h2 : y2 ≥ l.length
    · rw [byB_t h2]
    rw [byB_f h2]
    by_cases h3 : (y1.length : Int) < l.length
    · rw [byB_t h3]
    rw [byB_f h3]
    by_cases h4 : y4 = y2
    · rw [byB_eqt h4]
    obtain ⟨task, rfl⟩ : ∃ q : Nat, y2 = q := ⟨y2.toNat, by omega⟩
    have hg := gy1.1
    rw [byB_eqf h4, if_pos (by omega), if_pos (by omega), if_pos (by omega), if_pos (by omega), Int.toNat_natCast]
    by_cases h5 : y3 < 0
    · rw [byB_t h5]
    rw [byB_f h5]
    by_cases h6 : y3 ≥ a0
    · rw [byB_t h6]
    rw [byB_f h6, Wait_at (by omega), bnd, Wait_at (by omega), bnd, if_pos (by omega), Int.toNat_natCast]
    have r1 := wait_range (s0 := a0) (s1 := a1) (s2 := a2) (s3 := a3) (s4 := a4) (s5 := a5) (s6 := a6) (s7 := a7) (l := l) (y1.set task (-1)) y4 y5
    have hab : waitS (rightB a0 a1 a2 a3 a4 a5 a6 a7 l) a0 l (y1.set task (-1)) y4 y5 ≤ waitS (rightB a0 a1 a2 a3 a4 a5 a6 a7 l) a0 l (y1.set task y3) y4 y5 := by
      unfold waitS
      split
      · have ho : ownS (y1.set task (-1)) y4 = ownS (y1.set task y3) y4 := by
          unfold ownS
          rw [List.length_set, List.length_set]
          by_cases g : y4 < 0 ∨ y4 ≥ y1.length
          · rw [if_pos g, if_pos g]
          · have g2 : task ≠ y4.toNat := by omega
            rw [if_neg g, if_neg g, Go.Proofs.YtgpeknookhdffaaL.getD_set_ne g2, Go.Proofs.YtgpeknookhdffaaL.getD_set_ne g2]
        rw [ho]
        refine wsum_mono (fun c => (lg_range hr _ c _).1) _ _ fun q hq => ?_
        refine grow_bestT (by rw [List.length_set, List.length_set]) fun p hp => ?_
        by_cases g : task = p
        · subst g
          rw [getD_set_eq (by omega)] at hp
          omega
        · rw [Go.Proofs.YtgpeknookhdffaaL.getD_set_ne g] at hp ⊢
          exact hp
      · exact Int.le_refl _
    exact grow_loop (N := M) (by omega) hr (by omega) (by omega) hab r1.1 l.length 0 M (List.replicate l.length 0) (by omega) (by omega) (by simp) (fun q hq => by omega)
end Go.Proofs.Ytgpeknookhdffaa.Pure
