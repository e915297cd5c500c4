/- Chapter 8: what Right tells, as a plain test. Conditions: as each theorem states them. -/
import Derived.Test.YtflnooigdbhpdaaX1
import Derived.Test.YtflnooigdbhpdaaPL
namespace Go.Proofs.YtflnooigdbhpdaaC
open Go Go.Proofs.YtflnooigdbhpdaaM Go.Proofs.YtflnooigdbhpdaaX Go.Proofs.YtflnooigdbhpdaaL
set_option linter.unusedVariables false
set_option linter.unusedSimpArgs false

theorem nlt {a b : Int} : (!decide (a < b)) = decide (a ≥ b) := by
  by_cases h : a < b
  · rw [decide_eq_true h, decide_eq_false (by omega)]; rfl
  · rw [decide_eq_false h, decide_eq_true (by omega)]; rfl
theorem nle {a b : Int} : (!decide (a ≤ b)) = decide (a > b) := by
  by_cases h : a ≤ b
  · rw [decide_eq_true h, decide_eq_false (by omega)]; rfl
  · rw [decide_eq_false h, decide_eq_true (by omega)]; rfl
abbrev Sec := Int × Int × Int
abbrev Tk := Int × Int × Int × List Sec
def secB (R W : Int) : Int → List Sec → Bool
  | _, [] => true
  | e, x :: l => decide (e ≤ x.1 ∧ x.1 ≤ W ∧ 0 ≤ x.2.1 ∧ x.2.1 < R ∧ 1 ≤ x.2.2 ∧ x.2.2 ≤ W - x.1) && secB R W (x.1 + x.2.2) l
theorem secB_nil (R W e : Int) : secB R W e [] = true := by simp [secB]
theorem secB_cons (R W e : Int) (x : Sec) (l : List Sec) : secB R W e (x :: l) = (decide (e ≤ x.1 ∧ x.1 ≤ W ∧ 0 ≤ x.2.1 ∧ x.2.1 < R ∧ 1 ≤ x.2.2 ∧ x.2.2 ≤ W - x.1) && secB R W (x.1 + x.2.2) l) := by simp [secB]
def numB (t : Tk) : Bool := decide (1 ≤ t.1 ∧ t.1 ≤ 1099511627776 ∧ 1 ≤ t.2.1 ∧ t.2.1 ≤ t.1 ∧ 1 ≤ t.2.2.1 ∧ t.2.2.1 ≤ t.2.1 ∧ t.2.2.2.length ≤ 4)
def taskB (R : Int) (t : Tk) : Bool := numB t && secB R t.2.2.1 0 t.2.2.2
def wholeB (s0 s1 s2 s3 s4 s5 s6 s7 : Int) (l : List Tk) : Bool := decide ((s1 = 1 ∨ s1 = 2) ∧ (s2 = 1 ∨ s2 = 2 ∧ s1 = 1) ∧ (0 ≤ s3 ∧ s3 ≤ 50) ∧ (0 ≤ s4 ∧ s4 ≤ 50) ∧ (0 ≤ s5 ∧ s5 ≤ 50) ∧ (1 ≤ s0 ∧ s0 ≤ 8) ∧ (1 ≤ s6 ∧ s6 ≤ 50) ∧ (0 ≤ s7 ∧ s7 ≤ 8) ∧ (1 ≤ (l.length : Int) ∧ (l.length : Int) ≤ 24))
def rightB (s0 s1 s2 s3 s4 s5 s6 s7 : Int) (l : List Tk) : Bool := wholeB s0 s1 s2 s3 s4 s5 s6 s7 l && l.all (taskB s7)

theorem between_at {N : Nat} {n a b : Int} : between_13 N ((n, a, b, ()), ()) = some ((decide (a ≤ n ∧ n ≤ b), ()), ()) := by
  unfold between_13
  try dsimp only
  simp only [nlt, nle]
  by_cases h : n ≥ a
  · rw [byB_t h]
    congr 4
    exact propext ⟨fun g => ⟨h, g⟩, fun g => g.2⟩
  · rw [byB_f h, decide_eq_false (fun g => h g.1)]
theorem whole_at {N : Nat} {s0 s1 s2 s3 s4 s5 s6 s7 : Int} {l : List Tk} : whole_12 N (((s0, s1, s2, s3, s4, s5, s6, s7, l, ()), ()), ()) = some ((wholeB s0 s1 s2 s3 s4 s5 s6 s7 l, ()), ()) := by
  have j5 : whole_12_J5 N (((), ()), (s0, s1, s2, s3, s4, s5, s6, s7, l, ()), ()) = some ((decide ((0 ≤ s3 ∧ s3 ≤ 50) ∧ (0 ≤ s4 ∧ s4 ≤ 50) ∧ (0 ≤ s5 ∧ s5 ≤ 50) ∧ (1 ≤ s0 ∧ s0 ≤ 8) ∧ (1 ≤ s6 ∧ s6 ≤ 50) ∧ (0 ≤ s7 ∧ s7 ≤ 8) ∧ (1 ≤ (l.length : Int) ∧ (l.length : Int) ≤ 24)), ()), ()) := by
    rw [whole_12_J5]
    try dsimp only
    rw [between_at, bnd, between_at, bnd, between_at, bnd, between_at, bnd, between_at, bnd, between_at, bnd, between_at, bnd]
    try dsimp only
    by_cases h1 : 0 ≤ s3 ∧ s3 ≤ 50
    · by_cases h2 : 0 ≤ s4 ∧ s4 ≤ 50
      · by_cases h3 : 0 ≤ s5 ∧ s5 ≤ 50
        · by_cases h4 : 1 ≤ s0 ∧ s0 ≤ 8
          · by_cases h5 : 1 ≤ s6 ∧ s6 ≤ 50
            · by_cases h6 : 0 ≤ s7 ∧ s7 ≤ 8
              · rw [byB_t h1, byB_t h2, byB_t h3, byB_t h4, byB_t h5, byB_t h6]
                congr 4
                exact propext ⟨fun g => ⟨h1, h2, h3, h4, h5, h6, g⟩, fun g => g.2.2.2.2.2.2⟩
              · rw [byB_t h1, byB_t h2, byB_t h3, byB_t h4, byB_t h5, byB_f h6, decide_eq_false (fun g => h6 g.2.2.2.2.2.1)]
            · rw [byB_t h1, byB_t h2, byB_t h3, byB_t h4, byB_f h5, decide_eq_false (fun g => h5 g.2.2.2.2.1)]
          · rw [byB_t h1, byB_t h2, byB_t h3, byB_f h4, decide_eq_false (fun g => h4 g.2.2.2.1)]
        · rw [byB_t h1, byB_t h2, byB_f h3, decide_eq_false (fun g => h3 g.2.2.1)]
      · rw [byB_t h1, byB_f h2, decide_eq_false (fun g => h2 g.2.1)]
    · rw [byB_f h1, decide_eq_false (fun g => h1 g.1)]
  have j4t : whole_12_J4 N (whole_12_J5 N) (((), true, ()), (s0, s1, s2, s3, s4, s5, s6, s7, l, ()), ()) = some ((false, ()), ()) := by
    rw [whole_12_J4]; try dsimp only
    rw [byB_true]
  have j4f : whole_12_J4 N (whole_12_J5 N) (((), false, ()), (s0, s1, s2, s3, s4, s5, s6, s7, l, ()), ()) = some ((decide ((0 ≤ s3 ∧ s3 ≤ 50) ∧ (0 ≤ s4 ∧ s4 ≤ 50) ∧ (0 ≤ s5 ∧ s5 ≤ 50) ∧ (1 ≤ s0 ∧ s0 ≤ 8) ∧ (1 ≤ s6 ∧ s6 ≤ 50) ∧ (0 ≤ s7 ∧ s7 ≤ 8) ∧ (1 ≤ (l.length : Int) ∧ (l.length : Int) ≤ 24)), ()), ()) := by
    rw [whole_12_J4]; try dsimp only
    rw [byB_false]
    exact j5
  have j2t : whole_12_J2 N (whole_12_J5 N) (((), true, ()), (s0, s1, s2, s3, s4, s5, s6, s7, l, ()), ()) = some ((false, ()), ()) := by
    rw [whole_12_J2]; try dsimp only
    rw [byB_true]
  have j2f : ∀ v, v = wholeB s0 s1 s2 s3 s4 s5 s6 s7 l → (s1 = 1 ∨ s1 = 2) → whole_12_J2 N (whole_12_J5 N) (((), false, ()), (s0, s1, s2, s3, s4, s5, s6, s7, l, ()), ()) = some ((v, ()), ()) := by
    rintro v rfl hs
    unfold wholeB
    rw [whole_12_J2]; try dsimp only
    rw [byB_false, join_eq]
    by_cases h1 : s2 = 1
    · rw [byB_nef h1, j4f]
      congr 4
      exact propext ⟨fun g => ⟨hs, .inl h1, g⟩, fun g => g.2.2⟩
    · rw [byB_net h1]
      by_cases h2 : s2 = 2
      · rw [byB_nef h2]
        by_cases h3 : s1 = 1
        · have e : (s1 != 1) = false := by simp [h3]
          rw [e, j4f]
          congr 4
          exact propext ⟨fun g => ⟨hs, .inr ⟨h2, h3⟩, g⟩, fun g => g.2.2⟩
        · have e : (s1 != 1) = true := by simp [h3]
          rw [e, j4t, decide_eq_false (fun g => by omega)]
      · rw [byB_net h2, j4t, decide_eq_false (fun g => by omega)]
  unfold whole_12
  try dsimp only
  rw [join_eq, join_eq]
  by_cases h1 : s1 = 1
  · rw [byB_nef h1, j2f _ rfl (.inl h1)]
  · rw [byB_net h1]
    by_cases h2 : s1 = 2
    · have e : (s1 != 2) = false := by simp [h2]
      rw [e, j2f _ rfl (.inr h2)]
    · have e : (s1 != 2) = true := by simp [h2]
      unfold wholeB
      rw [e, j2t, decide_eq_false (fun g => by omega)]

theorem secs_ev {N : Nat} {R W P D : Int} {secs : List Sec} {l : List Tk} {i : Nat} {s0 s1 s2 s3 s4 s5 s6 : Int} {Q : (((Int × (Int × (Int × Unit))) × Unit) × Unit) → Prop} {again5 : _ → _} {t45 t46 t49 t50 t54 : Int} {t47 t48 t51 t52 t55 : Bool} {t53 : List Sec} (hW : W ≤ 1099511627776) (hlen : secs.length ≤ 4)
    (H2 : secB R W 0 secs = false → ∀ a b, Q (((10, a, b, ()), ()), ()))
    (H1 : secB R W 0 secs = true → Ev (again5 (((), (), (), l, (l.length : Int), IntKind.wrap .i64 ((i : Int) + 1), ()), (s0, s1, s2, s3, s4, s5, s6, R, l, ()), (0, 0, 0, ()), (10, -1, -1, ()), ())) Q) :
    ∀ (d j k : Nat) (e : Int), j + d = secs.length → d < k → 0 ≤ e → e ≤ 1099511627776 → secB R W e (secs.drop j) = secB R W 0 secs →
      Ev (loopN k (Check_8_L12 N again5) (((), (), (), (), e, l, (l.length : Int), (i : Int), (), t45, (), t46, t47, t48, (), t49, (), t50, t51, t52, (), t53, t54, t55, secs, (secs.length : Int), (j : Int), ()), (s0, s1, s2, s3, s4, s5, s6, R, l, ()), (0, 0, 0, ()), (10, (i : Int), -1, ()), (P, D, W, secs, ()), ())) Q := by
  intro d
  induction d with
  | zero =>
    intro j k e hd hk h0 h1 hs
    obtain ⟨k, rfl⟩ : ∃ m, k = m + 1 := ⟨k - 1, by omega⟩
    rw [List.drop_of_length_le (by omega), secB_nil] at hs
    rw [loopN_succ, Check_8_L12]
    try dsimp only
    try simp only [nlt, nle]
    rw [byB_f (by omega)]
    exact H1 hs.symm
  | succ d ih =>
    intro j k e hd hk h0 h1 hs
    obtain ⟨k, rfl⟩ : ∃ m, k = m + 1 := ⟨k - 1, by omega⟩
    have hj : j < secs.length := by omega
    have hnx : IntKind.wrap .i64 ((j : Int) + 1) = ((j + 1 : Nat) : Int) := by rw [w64 (by omega) (by omega)]; omega
    rw [drop_getD (d := (0, 0, 0)) hj, secB_cons] at hs
    have bad : ¬ (e ≤ (secs.getD j (0, 0, 0)).1 ∧ (secs.getD j (0, 0, 0)).1 ≤ W ∧ 0 ≤ (secs.getD j (0, 0, 0)).2.1 ∧ (secs.getD j (0, 0, 0)).2.1 < R ∧ 1 ≤ (secs.getD j (0, 0, 0)).2.2 ∧ (secs.getD j (0, 0, 0)).2.2 ≤ W - (secs.getD j (0, 0, 0)).1) →
        Ev (byB (decide ((i : Int) ≥ 0)) (some (((10, (i : Int), (j : Int), ()), ()), ())) (some (((0, -1, -1, ()), ()), ()))) Q := by
      intro h
      rw [byB_t (by omega)]
      rw [decide_eq_false h, Bool.false_and] at hs
      exact .mk (H2 hs.symm _ _)
    rw [loopN_succ, Check_8_L12]
    try dsimp only
    try simp only [nlt, nle]
    rw [byB_t (by omega), if_pos (by omega), Int.toNat_natCast, hnx]
    have ih2 := fun e' h0 h1 h2 => ih (j + 1) k e' (by omega) (by omega) h0 h1 h2
    generalize secs.getD j (0, 0, 0) = x at *
    refine Ev.dec (fun h => bad (by omega)) fun h1' => ?_
    refine Ev.dec (fun h => bad (by omega)) fun h2' => ?_
    refine Ev.dec (fun h => bad (by omega)) fun h3' => ?_
    refine Ev.dec (fun h => bad (by omega)) fun h4' => ?_
    refine Ev.dec (fun h => bad (by omega)) fun h5' => ?_
    rw [w64 (n := W - x.1) (by omega) (by omega)]
    refine Ev.dec (fun h => bad (by omega)) fun h6' => ?_
    rw [w64 (n := x.1 + x.2.2) (by omega) (by omega)]
    rw [decide_eq_true (by omega), Bool.true_and] at hs
    exact ih2 _ (by omega) (by omega) hs
theorem tasks_ev {N : Nat} (hN : 10 ≤ N) {R : Int} {l : List Tk} (hl : l.length ≤ 24) {s0 s1 s2 s3 s4 s5 s6 : Int} :
    ∀ (d i k : Nat), i + d = l.length → d < k →
      Ev (loopN k (Check_8_L5 N) (((), (), (), l, (l.length : Int), (i : Int), ()), (s0, s1, s2, s3, s4, s5, s6, R, l, ()), (0, 0, 0, ()), (10, -1, -1, ()), ())) (fun r => r.1.1.1 = if (l.drop i).all (taskB R) = true then 0 else 10) := by
  intro d
  induction d with
  | zero =>
    intro i k hd hk
    obtain ⟨k, rfl⟩ : ∃ m, k = m + 1 := ⟨k - 1, by omega⟩
    rw [List.drop_of_length_le (by omega)]
    rw [loopN_succ, Check_8_L5]
    try dsimp only
    try simp only [nlt, nle]
    rw [byB_f (by omega), byB_f (by omega)]
    exact .mk rfl
  | succ d ih =>
    intro i k hd hk
    obtain ⟨k, rfl⟩ : ∃ m, k = m + 1 := ⟨k - 1, by omega⟩
    have hi : i < l.length := by omega
    have hnx : IntKind.wrap .i64 ((i : Int) + 1) = ((i + 1 : Nat) : Int) := by rw [w64 (by omega) (by omega)]; omega
    have ih2 := ih (i + 1) k (by omega) (by omega)
    rw [drop_getD (d := (0, 0, 0, [])) hi, List.all_cons]
    rw [loopN_succ, Check_8_L5]
    try dsimp only
    try simp only [nlt, nle]
    rw [byB_t (by omega), if_pos (by omega), Int.toNat_natCast]
    generalize l.getD i (0, 0, 0, []) = t at *
    rw [between_at, bnd, between_at, bnd, between_at, bnd]
    simp only [byB_not]
    have bad : ¬ (1 ≤ t.1 ∧ t.1 ≤ 1099511627776 ∧ 1 ≤ t.2.1 ∧ t.2.1 ≤ t.1 ∧ 1 ≤ t.2.2.1 ∧ t.2.2.1 ≤ t.2.1 ∧ t.2.2.2.length ≤ 4) → Ev (some ((((10 : Int), (i : Int), (-1 : Int), ()), ()), ())) (fun r => r.1.1.1 = if (taskB R t && (l.drop (i + 1)).all (taskB R)) = true then 0 else 10) := by
      intro h
      unfold taskB numB
      rw [decide_eq_false h, Bool.false_and, Bool.false_and, if_neg (by decide)]
      exact .mk rfl
    refine Ev.dec (fun h1 => ?_) (fun h => bad (by omega))
    refine Ev.dec (fun h2 => ?_) (fun h => bad (by omega))
    refine Ev.dec (fun h3 => ?_) (fun h => bad (by omega))
    refine Ev.dec (fun h => bad (by omega)) fun h4 => ?_
    have hn : numB t = true := decide_eq_true (by omega)
    refine secs_ev (by omega) (by omega) ?_ ?_ t.2.2.2.length 0 N 0 (by omega) (by omega) (by omega) (by omega) (by rw [List.drop_zero])
    · intro h a b
      unfold taskB
      rw [h, Bool.and_false, Bool.false_and, if_neg (by decide)]
    · intro h
      unfold taskB at ih2 ⊢
      rw [h, hn, Bool.true_and, Bool.true_and, hnx]
      exact ih2
theorem right_at {N : Nat} (hN : 30 ≤ N) {s0 s1 s2 s3 s4 s5 s6 s7 : Int} {l : List Tk} : Right_10 N (((s0, s1, s2, s3, s4, s5, s6, s7, l, ()), ()), ()) = some ((rightB s0 s1 s2 s3 s4 s5 s6 s7 l, ()), ()) := by
  have h : Ev (Check_8 N (((s0, s1, s2, s3, s4, s5, s6, s7, l, ()), ()), ())) (fun r => r.1.1.1 = if rightB s0 s1 s2 s3 s4 s5 s6 s7 l = true then 0 else 10) := by
    unfold Check_8 rightB
    try dsimp only
    rw [whole_at, bnd, byB_not]
    try dsimp only
    cases hw : wholeB s0 s1 s2 s3 s4 s5 s6 s7 l with
    | false =>
      rw [byB_false, Bool.false_and, if_neg (by decide)]
      exact .mk rfl
    | true =>
      have hl : l.length ≤ 24 := by
        unfold wholeB at hw
        have := of_decide_eq_true hw
        omega
      rw [byB_true, Bool.true_and]
      have := tasks_ev (N := N) (by omega) (R := s7) hl (s0 := s0) (s1 := s1) (s2 := s2) (s3 := s3) (s4 := s4) (s5 := s5) (s6 := s6) l.length 0 N (by omega) (by omega)
      rw [List.drop_zero] at this
      exact this
  obtain ⟨r, e, q⟩ := h
  unfold Right_10
  try dsimp only
  rw [e, bnd, q]
  cases rightB s0 s1 s2 s3 s4 s5 s6 s7 l <;> rfl
end Go.Proofs.YtflnooigdbhpdaaC
