/- What Right of the document's chapter 8 tells: the same test. Conditions: as each theorem states them. -/
import Derived.Test.YtlheebdnplcmcaaXValidQ
namespace Go.Proofs.YtlheebdnplcmcaaC
open Go Go.Proofs.YtlheebdnplcmcaaM Go.Proofs.YtlheebdnplcmcaaX Go.Proofs.YtlheebdnplcmcaaL
set_option linter.unusedVariables false
set_option linter.unusedSimpArgs false

theorem rwithin_at {N : Nat} {n a b : Int} : within_34 N ((n, a, b, ()), ()) = some ((decide (a ≤ n ∧ n ≤ b), ()), ()) := by
  unfold within_34
  try dsimp only
  by_cases h : n ≥ a
  · rw [byB_t h]
    congr 4
    exact propext ⟨fun g => ⟨h, g⟩, fun g => g.2⟩
  · rw [byB_f h, decide_eq_false (fun g => h g.1)]
theorem rwhole_at {N : Nat} {s0 s1 s2 s3 s4 s5 s6 s7 : Int} {l : List Tk} : whole_33 N (((s0, s1, s2, s3, s4, s5, s6, s7, l, ()), ()), ()) = some ((wholeB s0 s1 s2 s3 s4 s5 s6 s7 l, ()), ()) := by
  have jt : whole_33_J2 N (((), true, ()), (s0, s1, s2, s3, s4, s5, s6, s7, l, ()), ()) = some ((false, ()), ()) := by
    rw [whole_33_J2]; try dsimp only
    rw [byB_true]
  have jf : ∀ v, v = wholeB s0 s1 s2 s3 s4 s5 s6 s7 l → (1 ≤ s0 ∧ s0 ≤ 8) → (1 ≤ s1 ∧ s1 ≤ 2) → (s2 = 1 ∨ s2 = 2 ∧ s1 = 1) → whole_33_J2 N (((), false, ()), (s0, s1, s2, s3, s4, s5, s6, s7, l, ()), ()) = some ((v, ()), ()) := by
    rintro v rfl g0 g1 g2
    unfold wholeB
    rw [whole_33_J2]
    try dsimp only
    rw [byB_false, rwithin_at, bnd, rwithin_at, bnd, rwithin_at, bnd, rwithin_at, bnd, rwithin_at, bnd, rwithin_at, bnd]
    try dsimp only
    by_cases h1 : 0 ≤ s3 ∧ s3 ≤ 50
    · by_cases h2 : 0 ≤ s4 ∧ s4 ≤ 50
      · by_cases h3 : 0 ≤ s5 ∧ s5 ≤ 50
        · by_cases h5 : 1 ≤ s6 ∧ s6 ≤ 50
          · by_cases h6 : 0 ≤ s7 ∧ s7 ≤ 8
            · rw [byB_t h1, byB_t h2, byB_t h3, byB_t h5, byB_t h6]
              congr 4
              exact propext ⟨fun g => by omega, fun g => by omega⟩
            · rw [byB_t h1, byB_t h2, byB_t h3, byB_t h5, byB_f h6, decide_eq_false (fun g => by omega)]
          · rw [byB_t h1, byB_t h2, byB_t h3, byB_f h5, decide_eq_false (fun g => by omega)]
        · rw [byB_t h1, byB_t h2, byB_f h3, decide_eq_false (fun g => by omega)]
      · rw [byB_t h1, byB_f h2, decide_eq_false (fun g => by omega)]
    · rw [byB_f h1, decide_eq_false (fun g => by omega)]
  have no : ¬ ((1 ≤ s0 ∧ s0 ≤ 8) ∧ (1 ≤ s1 ∧ s1 ≤ 2) ∧ (s2 = 1 ∨ s2 = 2 ∧ s1 = 1)) → wholeB s0 s1 s2 s3 s4 s5 s6 s7 l = false := by
    intro g
    unfold wholeB
    exact decide_eq_false (fun k => by omega)
  unfold whole_33
  try dsimp only
  rw [join_eq, rwithin_at, bnd, byB_not]
  try dsimp only
  by_cases g0 : 1 ≤ s0 ∧ s0 ≤ 8
  · rw [byB_t g0, rwithin_at, bnd, byB_not]
    try dsimp only
    by_cases g1 : 1 ≤ s1 ∧ s1 ≤ 2
    · rw [byB_t g1, rwithin_at, bnd, byB_not]
      try dsimp only
      by_cases g2 : 1 ≤ s2 ∧ s2 ≤ 2
      · rw [byB_t g2]
        by_cases g3 : s2 = 2
        · rw [byB_eqt g3]
          by_cases g4 : s1 = 1
          · have e : (s1 != 1) = false := by simp [g4]
            rw [e, jf _ rfl g0 g1 (by omega)]
          · have e : (s1 != 1) = true := by simp [g4]
            rw [e, jt, no (by omega)]
        · rw [byB_eqf g3, jf _ rfl g0 g1 (by omega)]
      · rw [byB_f g2, jt, no (by omega)]
    · rw [byB_f g1, jt, no (by omega)]
  · rw [byB_f g0, jt, no (by omega)]

theorem rsecs_ev {N : Nat} {R W P D : Int} {secs : List Sec} {l : List Tk} {i : Nat} {s0 s1 s2 s3 s4 s5 s6 : Int} {Q : ((Bool × (Int × (Int × Unit))) × Unit) → Prop} {again4 : _ → _} {t35 t36 t39 t40 t44 : Int} {t37 t38 t41 t42 t45 : Bool} {t43 : List Sec} (hW : W ≤ 1099511627776) (hR : 0 ≤ R ∧ R ≤ 8) (hlen : secs.length ≤ 4)
    (H2 : secB R W 0 secs = false → ∀ a b, Q ((true, a, b, ()), ()))
    (H1 : secB R W 0 secs = true → Ev (again4 (((), IntKind.wrap .i64 ((i : Int) + 1), ()), (s0, s1, s2, s3, s4, s5, s6, R, l, ()), ())) Q) :
    ∀ (d j k : Nat) (e : Int), j + d = secs.length → d < k → 0 ≤ e → e ≤ 1099511627776 → secB R W e (secs.drop j) = secB R W 0 secs →
      Ev (loopN k (Check_30_L11 N again4) (((), (i : Int), (), e, (j : Int), (), t35, (), t36, t37, t38, (), t39, (), t40, t41, t42, (), t43, t44, t45, ()), (s0, s1, s2, s3, s4, s5, s6, R, l, ()), (P, D, W, secs, ()), ())) Q := by
  intro d
  induction d with
  | zero =>
    intro j k e hd hk h0 h1 hs
    obtain ⟨k, rfl⟩ : ∃ m, k = m + 1 := ⟨k - 1, by omega⟩
    rw [List.drop_of_length_le (by omega), secB_nil] at hs
    rw [loopN_succ, Check_30_L11]
    try dsimp only
    rw [byB_f (by omega)]
    exact H1 hs.symm
  | succ d ih =>
    intro j k e hd hk h0 h1 hs
    obtain ⟨k, rfl⟩ : ∃ m, k = m + 1 := ⟨k - 1, by omega⟩
    have hj : j < secs.length := by omega
    have hnx : IntKind.wrap .i64 ((j : Int) + 1) = ((j + 1 : Nat) : Int) := by rw [w64 (by omega) (by omega)]; omega
    rw [drop_getD (d := (0, 0, 0)) hj, secB_cons] at hs
    rw [loopN_succ, Check_30_L11]
    try dsimp only
    rw [byB_t (by omega), if_pos (by omega), Int.toNat_natCast, hnx]
    have ih2 := fun e' h0 h1 h2 => ih (j + 1) k e' (by omega) (by omega) h0 h1 h2
    generalize secs.getD j (0, 0, 0) = x at *
    have bad : ¬ (e ≤ x.1 ∧ x.1 ≤ W ∧ 0 ≤ x.2.1 ∧ x.2.1 < R ∧ 1 ≤ x.2.2 ∧ x.2.2 ≤ W - x.1) → ∀ a b, Ev (some ((true, a, b, ()), ())) Q := by
      intro h a b
      rw [decide_eq_false h, Bool.false_and] at hs
      exact .mk (H2 hs.symm _ _)
    rw [rwithin_at, bnd, byB_not]
    try dsimp only
    refine Ev.dec (fun h1' => ?_) (fun h => bad (by omega) _ _)
    rw [w64 (n := R - 1) (by omega) (by omega), rwithin_at, bnd, byB_not]
    try dsimp only
    refine Ev.dec (fun h2' => ?_) (fun h => bad (by omega) _ _)
    rw [w64 (n := W - x.1) (by omega) (by omega), rwithin_at, bnd, byB_not]
    try dsimp only
    refine Ev.dec (fun h3' => ?_) (fun h => bad (by omega) _ _)
    rw [w64 (n := x.1 + x.2.2) (by omega) (by omega)]
    rw [decide_eq_true (by omega), Bool.true_and] at hs
    exact ih2 _ (by omega) (by omega) hs
theorem rtasks_ev {N : Nat} (hN : 10 ≤ N) {R : Int} (hR : 0 ≤ R ∧ R ≤ 8) {l : List Tk} (hl : l.length ≤ 24) {s0 s1 s2 s3 s4 s5 s6 : Int} :
    ∀ (d i k : Nat), i + d = l.length → d < k →
      Ev (loopN k (Check_30_L4 N) (((), (i : Int), ()), (s0, s1, s2, s3, s4, s5, s6, R, l, ()), ())) (fun r => r.1.1 = !((l.drop i).all (taskB R))) := by
  intro d
  induction d with
  | zero =>
    intro i k hd hk
    obtain ⟨k, rfl⟩ : ∃ m, k = m + 1 := ⟨k - 1, by omega⟩
    rw [List.drop_of_length_le (by omega)]
    rw [loopN_succ, Check_30_L4]
    try dsimp only
    rw [byB_f (by omega)]
    exact .mk rfl
  | succ d ih =>
    intro i k hd hk
    obtain ⟨k, rfl⟩ : ∃ m, k = m + 1 := ⟨k - 1, by omega⟩
    have hi : i < l.length := by omega
    have hnx : IntKind.wrap .i64 ((i : Int) + 1) = ((i + 1 : Nat) : Int) := by rw [w64 (by omega) (by omega)]; omega
    have ih2 := ih (i + 1) k (by omega) (by omega)
    rw [drop_getD (d := (0, 0, 0, [])) hi, List.all_cons]
    rw [loopN_succ, Check_30_L4]
    try dsimp only
    rw [byB_t (by omega), if_pos (by omega), Int.toNat_natCast]
    generalize l.getD i (0, 0, 0, []) = t at *
    rw [rwithin_at, bnd, rwithin_at, bnd, rwithin_at, bnd]
    simp only [byB_not]
    have bad : ¬ (1 ≤ t.1 ∧ t.1 ≤ 1099511627776 ∧ 1 ≤ t.2.1 ∧ t.2.1 ≤ t.1 ∧ 1 ≤ t.2.2.1 ∧ t.2.2.1 ≤ t.2.1 ∧ t.2.2.2.length ≤ 4) → Ev (some ((true, (i : Int), (-1 : Int), ()), ())) (fun r => r.1.1 = !(taskB R t && (l.drop (i + 1)).all (taskB R))) := by
      intro h
      unfold taskB numB
      rw [decide_eq_false h, Bool.false_and, Bool.false_and]
      exact .mk rfl
    refine Ev.dec (fun h1 => ?_) (fun h => bad (by omega))
    refine Ev.dec (fun h2 => ?_) (fun h => bad (by omega))
    refine Ev.dec (fun h3 => ?_) (fun h => bad (by omega))
    refine Ev.dec (fun h => bad (by omega)) fun h4 => ?_
    have hn : numB t = true := decide_eq_true (by omega)
    refine rsecs_ev (by omega) hR (by omega) ?_ ?_ t.2.2.2.length 0 N 0 (by omega) (by omega) (by omega) (by omega) (by rw [List.drop_zero])
    · intro h a b
      unfold taskB
      rw [h, Bool.and_false, Bool.false_and]
      rfl
    · intro h
      unfold taskB at ih2 ⊢
      rw [h, hn, Bool.true_and, Bool.true_and, hnx]
      exact ih2
theorem rright_at {N : Nat} (hN : 30 ≤ N) {s0 s1 s2 s3 s4 s5 s6 s7 : Int} {l : List Tk} : Right_25 N (((s0, s1, s2, s3, s4, s5, s6, s7, l, ()), ()), ()) = some ((rightB s0 s1 s2 s3 s4 s5 s6 s7 l, ()), ()) := by
  have h : Ev (Check_30 N (((s0, s1, s2, s3, s4, s5, s6, s7, l, ()), ()), ())) (fun r => r.1.1 = !rightB s0 s1 s2 s3 s4 s5 s6 s7 l) := by
    unfold Check_30 rightB
    try dsimp only
    rw [rwhole_at, bnd, byB_not]
    try dsimp only
    cases hw : wholeB s0 s1 s2 s3 s4 s5 s6 s7 l with
    | false =>
      rw [byB_false, Bool.false_and]
      exact .mk rfl
    | true =>
      have hd : (0 ≤ s7 ∧ s7 ≤ 8) ∧ l.length ≤ 24 := by
        unfold wholeB at hw
        have := of_decide_eq_true hw
        omega
      rw [byB_true, Bool.true_and]
      have := rtasks_ev (N := N) (by omega) (R := s7) hd.1 hd.2 (s0 := s0) (s1 := s1) (s2 := s2) (s3 := s3) (s4 := s4) (s5 := s5) (s6 := s6) l.length 0 N (by omega) (by omega)
      rw [List.drop_zero] at this
      exact this
  obtain ⟨r, e, q⟩ := h
  unfold Right_25
  try dsimp only
  rw [e, bnd, q, Bool.not_not]
end Go.Proofs.YtlheebdnplcmcaaC
