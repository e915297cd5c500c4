/- Chapter 15: Test, of the program and of the document. Conditions: as each theorem states them. -/
import Derived.Test.YtabdnglgdbjbiaaXDemand3
namespace Go.Proofs.YtabdnglgdbjbiaaC
open Go Go.Proofs.YtabdnglgdbjbiaaM Go.Proofs.YtabdnglgdbjbiaaX Go.Proofs.YtabdnglgdbjbiaaL Go.Proofs.YtabdnglgdbjbiaaQ
set_option linter.unusedVariables false
set_option linter.unusedSimpArgs false

/-- The least deadline of those that are not Top, from a number on. -/
def least : List Wk → Int → Int
  | [], m => m
  | x :: l, m => least l (if x.2.2.2 = false ∧ x.2.2.1 < m then x.2.2.1 else m)
theorem least_nil (m : Int) : least [] m = m := by simp [least]
theorem least_cons (x : Wk) (l : List Wk) (m : Int) : least (x :: l) m = least l (if x.2.2.2 = false ∧ x.2.2.1 < m then x.2.2.1 else m) := by simp [least]
theorem least_le : ∀ (l : List Wk) (m : Int), least l m ≤ m
  | [], m => by rw [least_nil]; omega
  | x :: l, m => by
    rw [least_cons]
    have := least_le l (if x.2.2.2 = false ∧ x.2.2.1 < m then x.2.2.1 else m)
    split at this <;> rename_i h
    · rw [if_pos h]; omega
    · rw [if_neg h]; exact this
theorem least_mem : ∀ {l : List Wk} {m : Int} {x : Wk}, x ∈ l → x.2.2.2 = false → least l m ≤ x.2.2.1
  | y :: l, m, x, h, hx => by
    rw [least_cons]
    rcases List.mem_cons.1 h with rfl | h
    · have := least_le l (if x.2.2.2 = false ∧ x.2.2.1 < m then x.2.2.1 else m)
      by_cases c : x.2.2.1 < m
      · rw [if_pos ⟨hx, c⟩] at this ⊢; exact this
      · rw [if_neg (fun h => c h.2)] at this ⊢; omega
    · exact least_mem h hx
theorem least_get : ∀ (l : List Wk) (m : Int), least l m = m ∨ ∃ x ∈ l, x.2.2.2 = false ∧ least l m = x.2.2.1
  | [], m => .inl (least_nil m)
  | y :: l, m => by
    rw [least_cons]
    by_cases c : y.2.2.2 = false ∧ y.2.2.1 < m
    · rw [if_pos c]
      rcases least_get l y.2.2.1 with h | ⟨x, h1, h2, h3⟩
      · exact .inr ⟨y, .head _, c.1, h⟩
      · exact .inr ⟨x, .tail _ h1, h2, h3⟩
    · rw [if_neg c]
      rcases least_get l m with h | ⟨x, h1, h2, h3⟩
      · exact .inl h
      · exact .inr ⟨x, .tail _ h1, h2, h3⟩
theorem least_pos {l : List Wk} (h : ∀ x ∈ l, wok x = true) {m : Int} (hm : 1 ≤ m) : 1 ≤ least l m := by
  rcases least_get l m with e | ⟨x, h1, _, e⟩
  · omega
  · have := wok_of (h x h1)
    omega
/-- Some rounds of the test. -/
def testIt (l : List Wk) (b r q : Int) : Nat → Int → Int
  | 0, _ => 11
  | m + 1, t => if t < q then 0 else if b + asum t r l > 9223372036854775807 then 2 else if b + asum t r l > t then 12 else if b + asum t r l = t then testIt l b r q m (t - 1) else testIt l b r q m (b + asum t r l)
theorem testIt_zero (l : List Wk) (b r q t : Int) : testIt l b r q 0 t = 11 := by simp [testIt]
theorem testIt_succ (l : List Wk) (b r q t : Int) (m : Nat) : testIt l b r q (m + 1) t = if t < q then 0 else if b + asum t r l > 9223372036854775807 then 2 else if b + asum t r l > t then 12 else if b + asum t r l = t then testIt l b r q m (t - 1) else testIt l b r q m (b + asum t r l) := by simp [testIt]
/-- What Test tells of right works. -/
def testR (l : List Wk) (b r : Int) : Int := if least l 1099511627777 > 1099511627776 then 0 else if (busyS l b r).2 ≠ 0 then (busyS l b r).2 else testIt l b r (least l 1099511627777) steps (busyS l b r).1
def testS (l : List Wk) (b r : Int) : Int := if rt l b r = true then testR l b r else 1
theorem busyIt_range {l : List Wk} {b r : Int} (h : rt l b r = true) : ∀ (m : Nat) (n : Int), 1 ≤ n → n ≤ 9223372036854775807 → (busyIt l b r m n).2 = 0 → 1 ≤ (busyIt l b r m n).1 ∧ (busyIt l b r m n).1 ≤ 9223372036854775807
  | 0, n, _, _, h0 => by rw [busyIt_zero] at h0; simp at h0
  | m + 1, n, h1, h2, h0 => by
    rw [busyIt_succ] at h0 ⊢
    split at h0 <;> rename_i c
    · simp at h0
    · rw [if_neg c]
      split at h0 <;> rename_i c2
      · rw [if_pos c2]; exact ⟨h1, h2⟩
      · rw [if_neg c2]
        exact busyIt_range h m _ (by omega) (by omega) h0
theorem busyS_range {l : List Wk} {b r : Int} (h : (busyS l b r).2 = 0) : rt l b r = true ∧ fullS l r = false ∧ busyS l b r = busyIt l b r steps 1 ∧ 1 ≤ (busyS l b r).1 ∧ (busyS l b r).1 ≤ 9223372036854775807 := by
  unfold busyS at h ⊢
  by_cases c : rt l b r = true
  · rw [if_pos c] at h ⊢
    by_cases c2 : fullS l r = true
    · rw [if_pos c2] at h; simp at h
    · rw [if_neg c2] at h ⊢
      have := busyIt_range c steps 1 (by omega) (by omega) h
      exact ⟨c, by simpa using c2, rfl, this⟩
  · rw [if_neg c] at h; simp at h
theorem test_it {N : Nat} {b r q : Int} (l : List Wk) (h : rt l b r = true) (hN : 300 ≤ N) (hq : 1 ≤ q) : ∀ (m i k : Nat) (t : Int), i + m = 5000 → m < k → 0 ≤ t → t ≤ 9223372036854775807 →
    loopN k (Test_16_L16 N) ((l, b, r, q, t, (i : Int), ()), ()) = some ((testIt l b r q m t, ()), ()) := by
  obtain ⟨hw, hl, h3⟩ := rt_of h
  intro m
  induction m with
  | zero =>
    intro i k t hd hk h0 h1
    obtain ⟨k, rfl⟩ : ∃ j, k = j + 1 := ⟨k - 1, by omega⟩
    rw [loopN_succ, Test_16_L16, testIt_zero]
    try dsimp only
    rw [byB_f (by omega)]
  | succ m ih =>
    intro i k t hd hk h0 h1
    obtain ⟨k, rfl⟩ : ∃ j, k = j + 1 := ⟨k - 1, by omega⟩
    have hnx : IntKind.wrap .i64 ((i : Int) + 1) = ((i + 1 : Nat) : Int) := by rw [w64 (by omega) (by omega)]; omega
    rw [loopN_succ, Test_16_L16, testIt_succ]
    try dsimp only
    rw [byB_t (by omega)]
    by_cases c : t < q
    · rw [byB_t c, if_pos c]
    · have ha := asum_nonneg (t := t) (r := r) (by omega) (by omega) hw
      rw [byB_f c, if_neg c, ask_at h1 l (by omega) (by omega) (by omega), bnd, askS_ok h (by omega), hnx, w64 (n := t - 1) (by omega) (by omega)]
      by_cases c2 : b + asum t r l > 9223372036854775807
      · rw [tot_no (by omega), if_pos c2]
        simp only [two]
        rw [byB_net (by decide)]
      · rw [tot_ok (by omega), if_neg c2]
        simp only [two]
        rw [byB_nef rfl]
        by_cases c3 : b + asum t r l > t
        · rw [byB_t c3, if_pos c3]
        · rw [byB_f c3, if_neg c3]
          by_cases c4 : b + asum t r l = t
          · rw [byB_eqt c4, if_pos c4, ih (i + 1) k _ (by omega) (by omega) (by omega) (by omega)]
          · rw [byB_eqf c4, if_neg c4, ih (i + 1) k _ (by omega) (by omega) (by omega) (by omega)]
theorem test_loop {N : Nat} {b r : Int} (l : List Wk) (h : rt l b r = true) (hN : 6000 ≤ N) : ∀ (d i k : Nat) (m : Int), i + d = l.length → d < k → 1 ≤ m → m ≤ 1099511627777 → least (l.drop i) m = least l 1099511627777 →
    loopN k (Test_16_L5 N) ((l, b, r, m, l, (l.length : Int), (i : Int), ()), ()) = some ((testR l b r, ()), ()) := by
  obtain ⟨hw, hl, h3⟩ := rt_of h
  intro d
  induction d with
  | zero =>
    intro i k m hd hk h0 h1 hm
    obtain ⟨k, rfl⟩ : ∃ j, k = j + 1 := ⟨k - 1, by omega⟩
    rw [List.drop_of_length_le (by omega), least_nil] at hm
    subst hm
    have hq := least_pos hw (m := 1099511627777) (by omega)
    rw [loopN_succ, Test_16_L5]
    unfold testR
    try dsimp only
    rw [byB_f (by omega)]
    by_cases c : least l 1099511627777 > 1099511627776
    · rw [byB_t c, if_pos c]
    · rw [byB_f c, if_neg c, busy_at l (by omega) hN (by omega), bnd]
      simp only [two]
      by_cases c2 : (busyS l b r).2 = 0
      · have hb := busyS_range c2
        rw [byB_nef c2, if_neg (by omega)]
        have := test_it (N := N) l h (by omega) hq steps 0 N (busyS l b r).1 (by rw [steps_eq]) (by rw [steps_eq]; omega) (by omega) (by omega)
        have e0 : ((0 : Nat) : Int) = 0 := rfl
        rw [e0] at this
        exact this
      · rw [byB_net c2, if_pos c2]
  | succ d ih =>
    intro i k m hd hk h0 h1 hm
    obtain ⟨k, rfl⟩ : ∃ j, k = j + 1 := ⟨k - 1, by omega⟩
    have hi : i < l.length := by omega
    have hnx : IntKind.wrap .i64 ((i : Int) + 1) = ((i + 1 : Nat) : Int) := by rw [w64 (by omega) (by omega)]; omega
    have hx := wok_of (hw _ (getD_mem (d := (0, 0, 0, false)) hi))
    rw [drop_getD (d := (0, 0, 0, false)) hi, least_cons] at hm
    rw [loopN_succ, Test_16_L5]
    try dsimp only
    rw [byB_t (by omega), if_pos (by omega), Int.toNat_natCast, hnx, byB_not]
    cases c : (l.getD i (0, 0, 0, false)).2.2.2 with
    | true =>
      rw [byB_true]
      rw [if_neg (by rw [c]; simp)] at hm
      exact ih (i + 1) k m (by omega) (by omega) h0 h1 hm
    | false =>
      rw [byB_false]
      by_cases c2 : (l.getD i (0, 0, 0, false)).2.2.1 < m
      · rw [if_pos ⟨c, c2⟩] at hm
        rw [if_pos c2]
        exact ih (i + 1) k _ (by omega) (by omega) (by omega) (by omega) hm
      · rw [if_neg (fun h => c2 h.2)] at hm
        rw [if_neg c2]
        exact ih (i + 1) k m (by omega) (by omega) h0 h1 hm
theorem test_at {N : Nat} {b r : Int} (l : List Wk) (hl : l.length * 32 ≤ 140737488351232) (hN : 6000 ≤ N) (hN2 : l.length < N) : Test_16 N ((l, b, r, ()), ()) = some ((testS l b r, ()), ()) := by
  unfold Test_16 testS
  try dsimp only
  rw [right_at (by omega) l hl hN2, bnd, byB_not]
  try dsimp only
  by_cases c : rt l b r = true
  · rw [c, byB_true, if_pos rfl]
    have := test_loop (N := N) l c hN l.length 0 N 1099511627777 (by omega) (by omega) (by omega) (by omega) (by rw [List.drop_zero])
    exact this
  · have c2 : rt l b r = false := by simpa using c
    rw [c2, byB_false, if_neg (by decide)]
/-! of the document -/
theorem rtest_it {N : Nat} {b r q : Int} (l : List Wk) (h : rt l b r = true) (hN : 300 ≤ N) (hq : 1 ≤ q) : ∀ (m i k : Nat) (t : Int), i + m = 5000 → m < k → 0 ≤ t → t ≤ 9223372036854775807 →
    loopN k (Test_17_L16 N) ((l, b, r, q, t, (i : Int), ()), ()) = some ((testIt l b r q m t, ()), ()) := by
  obtain ⟨hw, hl, h3⟩ := rt_of h
  intro m
  induction m with
  | zero =>
    intro i k t hd hk h0 h1
    obtain ⟨k, rfl⟩ : ∃ j, k = j + 1 := ⟨k - 1, by omega⟩
    rw [loopN_succ, Test_17_L16, testIt_zero]
    try dsimp only
    rw [byB_f (by omega)]
  | succ m ih =>
    intro i k t hd hk h0 h1
    obtain ⟨k, rfl⟩ : ∃ j, k = j + 1 := ⟨k - 1, by omega⟩
    have hnx : IntKind.wrap .i64 ((i : Int) + 1) = ((i + 1 : Nat) : Int) := by rw [w64 (by omega) (by omega)]; omega
    rw [loopN_succ, Test_17_L16, testIt_succ]
    try dsimp only
    rw [byB_t (by omega)]
    by_cases c : t < q
    · rw [byB_t c, if_pos c]
    · have ha := asum_nonneg (t := t) (r := r) (by omega) (by omega) hw
      rw [byB_f c, if_neg c, rask_at h1 l (by omega), bnd, askS_ok h (by omega), hnx, w64 (n := t - 1) (by omega) (by omega)]
      by_cases c2 : b + asum t r l > 9223372036854775807
      · rw [tot_no (by omega), if_pos c2]
        simp only [two]
        rw [byB_net (by decide)]
      · rw [tot_ok (by omega), if_neg c2]
        simp only [two]
        rw [byB_nef rfl]
        by_cases c3 : b + asum t r l > t
        · rw [byB_t c3, if_pos c3]
        · rw [byB_f c3, if_neg c3]
          by_cases c4 : b + asum t r l = t
          · rw [byB_f (by omega), if_pos c4, ih (i + 1) k _ (by omega) (by omega) (by omega) (by omega)]
          · rw [byB_t (by omega), if_neg c4, ih (i + 1) k _ (by omega) (by omega) (by omega) (by omega)]
theorem rtest_loop {N : Nat} {b r : Int} (l : List Wk) (h : rt l b r = true) (hN : 6000 ≤ N) : ∀ (d i k : Nat) (m s : Int), i + d = l.length → d < k → (s = 0 ∧ m = 1099511627777 ∨ s = m ∧ 1 ≤ m ∧ m ≤ 1099511627776) → least (l.drop i) m = least l 1099511627777 →
    loopN k (Test_17_L6 N) ((l, b, r, s, (i : Int), ()), ()) = some ((testR l b r, ()), ()) := by
  obtain ⟨hw, hl, h3⟩ := rt_of h
  intro d
  induction d with
  | zero =>
    intro i k m s hd hk hs hm
    obtain ⟨k, rfl⟩ : ∃ j, k = j + 1 := ⟨k - 1, by omega⟩
    rw [List.drop_of_length_le (by omega), least_nil] at hm
    subst hm
    have hq := least_pos hw (m := 1099511627777) (by omega)
    rw [loopN_succ, Test_17_L6]
    unfold testR
    try dsimp only
    rw [byB_f (by omega)]
    rcases hs with ⟨rfl, e⟩ | ⟨rfl, e1, e2⟩
    · rw [byB_eqt rfl, if_pos (by omega)]
    · rw [byB_eqf (by omega), if_neg (by omega), rbusy_at l hN, bnd]
      simp only [two]
      by_cases c2 : (busyS l b r).2 = 0
      · have hb := busyS_range c2
        rw [byB_nef c2, if_neg (by omega)]
        have := rtest_it (N := N) l h (by omega) hq steps 0 N (busyS l b r).1 (by rw [steps_eq]) (by rw [steps_eq]; omega) (by omega) (by omega)
        have e0 : ((0 : Nat) : Int) = 0 := rfl
        rw [e0] at this
        exact this
      · rw [byB_net c2, if_pos c2]
  | succ d ih =>
    intro i k m s hd hk hs hm
    obtain ⟨k, rfl⟩ : ∃ j, k = j + 1 := ⟨k - 1, by omega⟩
    have hi : i < l.length := by omega
    have hnx : IntKind.wrap .i64 ((i : Int) + 1) = ((i + 1 : Nat) : Int) := by rw [w64 (by omega) (by omega)]; omega
    have hx := wok_of (hw _ (getD_mem (d := (0, 0, 0, false)) hi))
    rw [drop_getD (d := (0, 0, 0, false)) hi, least_cons] at hm
    rw [loopN_succ, Test_17_L6]
    try dsimp only
    rw [byB_t (by omega), if_pos (by omega), Int.toNat_natCast, hnx, byB_not]
    cases c : (l.getD i (0, 0, 0, false)).2.2.2 with
    | true =>
      rw [byB_true]
      rw [if_neg (by rw [c]; simp)] at hm
      exact ih (i + 1) k m s (by omega) (by omega) hs hm
    | false =>
      rw [byB_false]
      rcases hs with ⟨rfl, e⟩ | ⟨rfl, e1, e2⟩
      · rw [byB_eqt rfl, if_pos (by omega)]
        rw [if_pos ⟨c, by omega⟩] at hm
        exact ih (i + 1) k _ _ (by omega) (by omega) (.inr ⟨rfl, by omega, by omega⟩) hm
      · rw [byB_eqf (by omega), if_pos (by omega)]
        by_cases c2 : (l.getD i (0, 0, 0, false)).2.2.1 < s
        · rw [if_pos ⟨c, c2⟩] at hm
          rw [byB_t c2, if_pos (by omega)]
          exact ih (i + 1) k _ _ (by omega) (by omega) (.inr ⟨rfl, by omega, by omega⟩) hm
        · rw [if_neg (fun h => c2 h.2)] at hm
          rw [byB_f c2]
          exact ih (i + 1) k _ _ (by omega) (by omega) (.inr ⟨rfl, e1, e2⟩) hm
theorem rtest_at {N : Nat} {b r : Int} (l : List Wk) (hN : 6000 ≤ N) : Test_17 N ((l, b, r, ()), ()) = some ((testS l b r, ()), ()) := by
  unfold Test_17 testS
  try dsimp only
  rw [rright_at (by omega) l, bnd, byB_not]
  try dsimp only
  by_cases c : rt l b r = true
  · obtain ⟨hw, hl, h3⟩ := rt_of c
    rw [c, byB_true, if_pos rfl]
    have := rtest_loop (N := N) l c hN l.length 0 N 1099511627777 0 (by omega) (by omega) (.inl ⟨rfl, rfl⟩) (by rw [List.drop_zero])
    exact this
  · have c2 : rt l b r = false := by simpa using c
    rw [c2, byB_false, if_neg (by decide)]
end Go.Proofs.YtabdnglgdbjbiaaC
