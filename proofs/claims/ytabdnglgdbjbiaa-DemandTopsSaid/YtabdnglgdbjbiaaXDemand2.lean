/- Chapter 15: Ask, of the program and of the document. Conditions: as each theorem states them. -/
import Derived.Test.YtabdnglgdbjbiaaXDemand
namespace Go.Proofs.YtabdnglgdbjbiaaC
open Go Go.Proofs.YtabdnglgdbjbiaaM Go.Proofs.YtabdnglgdbjbiaaX Go.Proofs.YtabdnglgdbjbiaaL Go.Proofs.YtabdnglgdbjbiaaQ
set_option linter.unusedVariables false
set_option linter.unusedSimpArgs false

theorem add_tot2 {N : Nat} {a b : Int} (ha : 0 ≤ a ∧ a ≤ 9223372036854775807) (hb : 0 ≤ b ∧ b ≤ 9223372036854775807) : Add_25 N ((a, b, ()), ()) = some (two (tot (a + b))) := by
  rw [add_at (wf64_mk (by omega) (by omega)) (wf64_mk (by omega) (by omega)), add_tot (by omega)]
theorem mul_tot2 {N : Nat} {a b : Int} (ha : 0 ≤ a ∧ a ≤ 9223372036854775807) (hb : 0 ≤ b ∧ b ≤ 9223372036854775807) : Mul_24 N ((a, b, ()), ()) = some (two (tot (a * b))) := by
  rw [mul_at (wf64_mk (by omega) (by omega)) (wf64_mk (by omega) (by omega)), mul_tot (Int.mul_nonneg (by omega) (by omega))]
theorem radd_tot2 {N : Nat} {a b : Int} (ha : 0 ≤ a ∧ a ≤ 9223372036854775807) (hb : 0 ≤ b ∧ b ≤ 9223372036854775807) : Add_27 N ((a, b, ()), ()) = some (two (tot (a + b))) := by
  rw [rAdd_at (wf64_mk (by omega) (by omega)) (wf64_mk (by omega) (by omega)), add_tot (by omega)]
theorem rmul_tot2 {N : Nat} {a b : Int} (ha : 0 ≤ a ∧ a ≤ 9223372036854775807) (hb : 0 ≤ b ∧ b ≤ 9223372036854775807) : Mul_38 N ((a, b, ()), ()) = some (two (tot (a * b))) := by
  rw [rMul_at (wf64_mk (by omega) (by omega)) (wf64_mk (by omega) (by omega)), mul_tot (Int.mul_nonneg (by omega) (by omega))]

/-- What follows a first part: the second part, and both. -/
theorem rest_at {N : Nat} {t p r n : Int} (ht : 1 ≤ t ∧ t ≤ 9223372036854775807) (hp : 1 ≤ p ∧ p ≤ 1099511627776) (hr : 0 ≤ r ∧ r ≤ 1099511627776) (hn : 0 ≤ n ∧ n ≤ 9223372036854775807) {S : Type} (f : Int → Int → S) :
    ((often_23 N ((t, p, 2, r, ()), ())).bind fun y8 => byB (y8.1.2.1 != 0) (some (f 0 y8.1.2.1)) ((Add_25 N ((n, y8.1.1, ()), ())).bind fun y10 => some (f y10.1.1 y10.1.2.1))) =
      some (if cd t p + 2 > 9223372036854775807 then f 0 2 else f (tot (n + (cd t p + 2) * r)).1 (tot (n + (cd t p + 2) * r)).2) := by
  have h1 := cd_pos ht.1 hp.1
  rw [often_at ht ⟨hp.1, by omega⟩ (by omega) (by omega), bnd]
  have h0 : 0 ≤ (cd t p + 2) * r := Int.mul_nonneg (by omega) (by omega)
  unfold oft
  by_cases c : cd t p + 2 > 9223372036854775807
  · rw [if_pos c, if_pos c]
    simp only [two]
    rw [byB_net (by decide)]
  · rw [if_neg c, if_neg c]
    by_cases c2 : (cd t p + 2) * r ≤ 9223372036854775807
    · rw [tot_ok c2]
      simp only [two]
      rw [byB_nef rfl, add_tot2 hn ⟨h0, c2⟩, bnd]
    · rw [tot_no c2, tot_no (by omega)]
      simp only [two]
      rw [byB_net (by decide)]
theorem ask1_at {N : Nat} {t r : Int} {x : Wk} (ht : 1 ≤ t ∧ t ≤ 9223372036854775807) (hr : 0 ≤ r ∧ r ≤ 1099511627776) (hx : wok x = true) :
    Ask1_22 N (((x.1, x.2.1, x.2.2.1, x.2.2.2, ()), (), (), ()), (t, ()), (r, ()), ()) = some (((tot (a1 t r x)).1, (tot (a1 t r x)).2, ()), (t, ()), (r, ()), ()) := by
  obtain ⟨w0, w1, p0, p1, d0, d1⟩ := wok_of hx
  have h1 := cd_pos ht.1 p0
  have hrest := fun (n : Int) (hn : 0 ≤ n ∧ n ≤ 9223372036854775807) => rest_at (N := N) ht ⟨p0, p1⟩ hr hn (fun a e => (((a, e, ()), (t, ()), (r, ()), ()) : ((Int × (Int × Unit)) × ((Int × Unit) × ((Int × Unit) × Unit)))))
  have h0 : 0 ≤ (cd t x.2.1 + 2) * r := Int.mul_nonneg (by omega) (by omega)
  have fin : ∀ n : Int, own t x = n → (if cd t x.2.1 + 2 > 9223372036854775807 then (((0, 2, ()), (t, ()), (r, ()), ()) : ((Int × (Int × Unit)) × ((Int × Unit) × ((Int × Unit) × Unit)))) else (((tot (n + (cd t x.2.1 + 2) * r)).1, (tot (n + (cd t x.2.1 + 2) * r)).2, ()), (t, ()), (r, ()), ())) = (((tot (a1 t r x)).1, (tot (a1 t r x)).2, ()), (t, ()), (r, ()), ()) := by
    intro n hn
    unfold a1
    rw [hn]
    by_cases c : cd t x.2.1 + 2 > 9223372036854775807
    · rw [if_pos c, if_pos c, tot_no (by decide)]
    · rw [if_neg c, if_neg c]
  have over : ∀ n : Int, own t x = n → 9223372036854775807 < n → (((tot (a1 t r x)).1, (tot (a1 t r x)).2, ()), (t, ()), (r, ()), ()) = (((0, 2, ()), (t, ()), (r, ()), ()) : ((Int × (Int × Unit)) × ((Int × Unit) × ((Int × Unit) × Unit)))) := by
    intro n hn h
    unfold a1
    rw [hn, tot_no (by split <;> omega)]
  unfold Ask1_22
  try dsimp only
  by_cases c1 : x.2.2.2 = true
  · rw [c1, byB_true]
    have ho : own t x = (cd t x.2.1 + 1) * x.1 := by unfold own; rw [if_pos c1]
    have hn0 : 0 ≤ (cd t x.2.1 + 1) * x.1 := Int.mul_nonneg (by omega) (by omega)
    rw [often_at ht ⟨p0, by omega⟩ (by omega) (by omega), bnd]
    unfold oft
    by_cases c2 : cd t x.2.1 + 1 > 9223372036854775807
    · rw [if_pos c2]
      simp only [two]
      rw [byB_net (by decide)]
      unfold a1
      rw [if_pos (by omega), tot_no (by decide)]
    · rw [if_neg c2]
      by_cases c3 : (cd t x.2.1 + 1) * x.1 ≤ 9223372036854775807
      · rw [tot_ok c3]
        simp only [two]
        rw [byB_nef rfl, hrest _ ⟨hn0, c3⟩, fin _ ho]
      · rw [tot_no c3]
        simp only [two]
        rw [byB_net (by decide), over _ ho (by omega)]
  · have c1' : x.2.2.2 = false := by simpa using c1
    rw [c1', byB_false]
    by_cases c2 : t ≥ x.2.2.1
    · rw [byB_t c2, if_neg (by omega)]
      have ho : own t x = ((t - x.2.2.1) / x.2.1 + 1) * x.1 := by unfold own; rw [if_neg c1, if_pos c2]
      have hq : 0 ≤ (t - x.2.2.1) / x.2.1 := Int.ediv_nonneg (by omega) (by omega)
      have hq2 : (t - x.2.2.1) / x.2.1 ≤ t - x.2.2.1 := Int.ediv_le_self _ (by omega)
      have hn0 : 0 ≤ ((t - x.2.2.1) / x.2.1 + 1) * x.1 := Int.mul_nonneg (by omega) (by omega)
      rw [w64 (n := t - x.2.2.1) (by omega) (by omega), Int.tdiv_eq_ediv_of_nonneg (by omega), w64 (n := (t - x.2.2.1) / x.2.1) (by omega) (by omega), w64 (n := (t - x.2.2.1) / x.2.1 + 1) (by omega) (by omega)]
      rw [mul_tot2 (by omega) (by omega), bnd]
      by_cases c3 : ((t - x.2.2.1) / x.2.1 + 1) * x.1 ≤ 9223372036854775807
      · rw [tot_ok c3]
        simp only [two]
        rw [byB_nef rfl, hrest _ ⟨hn0, c3⟩, fin _ ho]
      · rw [tot_no c3]
        simp only [two]
        rw [byB_net (by decide), over _ ho (by omega)]
    · rw [byB_f c2]
      have ho : own t x = 0 := by unfold own; rw [if_neg c1, if_neg c2]
      rw [hrest 0 (by omega), fin _ ho]
theorem work_loop {N : Nat} {t r : Int} (ht : 1 ≤ t ∧ t ≤ 9223372036854775807) (hr : 0 ≤ r ∧ r ≤ 1099511627776) (l : List Wk) (hw : ∀ x ∈ l, wok x = true) (hl : l.length ≤ 72) : ∀ (d i k : Nat) (n : Int), i + d = l.length → d < k → 0 ≤ n → n ≤ 9223372036854775807 →
    loopN k (Work_21_L2 N) ((n, (), l, (l.length : Int), (i : Int), ()), ((), (), (), ()), (t, ()), (r, ()), ()) = some (((tot (n + asum t r (l.drop i))).1, (tot (n + asum t r (l.drop i))).2, ()), ((), (), (), ()), (t, ()), (r, ()), ()) := by
  intro d
  induction d with
  | zero =>
    intro i k n hd hk h0 h1
    obtain ⟨k, rfl⟩ : ∃ j, k = j + 1 := ⟨k - 1, by omega⟩
    rw [loopN_succ, Work_21_L2]
    try dsimp only
    rw [byB_f (by omega), List.drop_of_length_le (by omega), asum_nil, Int.add_zero, tot_ok h1]
  | succ d ih =>
    intro i k n hd hk h0 h1
    obtain ⟨k, rfl⟩ : ∃ j, k = j + 1 := ⟨k - 1, by omega⟩
    have hi : i < l.length := by omega
    have hnx : IntKind.wrap .i64 ((i : Int) + 1) = ((i + 1 : Nat) : Int) := by rw [w64 (by omega) (by omega)]; omega
    have hx := hw _ (getD_mem (d := (0, 0, 0, false)) hi)
    have ha := a1_nonneg ht.1 hr.1 hx
    have hs := asum_nonneg ht.1 hr.1 (l := l.drop (i + 1)) (fun y hy => hw y (List.mem_of_mem_drop hy))
    rw [loopN_succ, Work_21_L2]
    try dsimp only
    rw [byB_t (by omega), if_pos (by omega), Int.toNat_natCast, hnx, drop_getD (d := (0, 0, 0, false)) hi, asum_cons, ask1_at ht hr hx, bnd]
    try dsimp only
    by_cases c : a1 t r (l.getD i (0, 0, 0, false)) ≤ 9223372036854775807
    · rw [tot_ok c, byB_eqt rfl, add_tot2 ⟨h0, h1⟩ ⟨ha, c⟩, bnd]
      by_cases c2 : n + a1 t r (l.getD i (0, 0, 0, false)) ≤ 9223372036854775807
      · rw [tot_ok c2]
        simp only [two]
        rw [byB_nef rfl, ih (i + 1) k _ (by omega) (by omega) (by omega) c2, Int.add_assoc]
      · rw [tot_no c2, tot_no (v := n + (a1 t r (l.getD i (0, 0, 0, false)) + asum t r (l.drop (i + 1)))) (by omega)]
        simp only [two]
        rw [byB_net (by decide)]
    · rw [tot_no c, tot_no (v := n + (a1 t r (l.getD i (0, 0, 0, false)) + asum t r (l.drop (i + 1)))) (by omega)]
      try dsimp only
      rw [byB_eqf (by decide), byB_net (by decide)]
/-- What Ask tells. -/
def askS (l : List Wk) (b r t : Int) : Int × Int := if rt l b r = true ∧ 1 ≤ t then tot (b + asum t r l) else (0, 1)
theorem askS_ok {l : List Wk} {b r t : Int} (h : rt l b r = true) (ht : 1 ≤ t) : askS l b r t = tot (b + asum t r l) := by unfold askS; rw [if_pos ⟨h, ht⟩]
theorem askS_no {l : List Wk} {b r t : Int} (h : ¬ (rt l b r = true ∧ 1 ≤ t)) : askS l b r t = (0, 1) := by unfold askS; rw [if_neg h]
theorem ask_at {N : Nat} {t b r : Int} (ht : t ≤ 9223372036854775807) (l : List Wk) (hN : 100 < N) (hN2 : l.length < N) (hl : l.length * 32 ≤ 140737488351232) :
    Ask_11 N ((l, b, r, t, ()), ()) = some (two (askS l b r t)) := by
  unfold Ask_11
  try dsimp only
  rw [right_at hN l hl hN2, bnd, byB_not]
  try dsimp only
  by_cases c : rt l b r = true
  · obtain ⟨h1, h2, h3⟩ := rt_of c
    rw [c, byB_true]
    by_cases c2 : t < 1
    · rw [byB_t c2, askS_no (by omega)]
    · rw [byB_f c2, askS_ok c (by omega)]
      have := work_loop (N := N) (t := t) (r := r) (by omega) (by omega) l h1 h2 l.length 0 N b (by omega) (by omega) (by omega) (by omega)
      have e0 : ((0 : Nat) : Int) = 0 := rfl
      rw [e0, List.drop_zero] at this
      rw [Work_21]
      try dsimp only
      rw [this, bnd]
  · have c2 : rt l b r = false := by simpa using c
    rw [c2, byB_false, askS_no (by simp [c])]

/-! of the document -/
theorem up_at {N : Nat} {t p : Int} (ht : 1 ≤ t ∧ t ≤ 9223372036854775807) (hp : 1 ≤ p ∧ p ≤ 1099511627776) : up_28 N ((t, p, ()), ()) = some ((cd t p, ()), ()) := by
  have h1 := cd_pos ht.1 hp.1
  have h2 := up_div (n := t) (c := p) (by omega)
  have h3 := Int.emod_nonneg t (show p ≠ 0 by omega)
  unfold cd at h1 ⊢
  unfold up_28
  try dsimp only
  rw [h2] at h1 ⊢
  rw [if_neg (by omega), if_neg (by omega), Int.tdiv_eq_ediv_of_nonneg (by omega), Int.tmod_eq_emod_of_nonneg (by omega)]
  have h4 : 0 ≤ t / p := Int.ediv_nonneg (by omega) (by omega)
  have h5 : t / p ≤ t := Int.ediv_le_self _ (by omega)
  rw [w64 (n := t / p) (by omega) (by omega)]
  by_cases c : t % p = 0
  · rw [byB_f (by omega), if_pos c]
  · rw [if_neg c] at h1
    rw [byB_t (by omega), if_neg c, w64 (by omega) (by omega)]
theorem rtimes_at {N : Nat} {s m w : Int} (hs : 0 ≤ s ∧ s ≤ 9223372036854775807) (hm : 0 ≤ m ∧ m ≤ 9223372036854775807) (hw : 0 ≤ w ∧ w ≤ 9223372036854775807) : times_29 N ((s, m, w, ()), ()) = some (two (tot (s + m * w))) := by
  have h0 : 0 ≤ m * w := Int.mul_nonneg (by omega) (by omega)
  unfold times_29
  try dsimp only
  rw [rmul_tot2 hm hw, bnd]
  by_cases c : m * w ≤ 9223372036854775807
  · rw [tot_ok c]
    simp only [two]
    rw [byB_nef rfl, radd_tot2 hs ⟨h0, c⟩, bnd]
  · rw [tot_no c, tot_no (by omega)]
    simp only [two]
    rw [byB_net (by decide)]
/-- Behind an error nothing more is asked. -/
theorem rask_err {N : Nat} {t r s : Int} (l : List Wk) (hl : l.length ≤ 72) (i : Int) (k : Nat) (hk : 0 < k) : loopN k (Ask_12_L7 N) ((l, r, t, s, 2, i, ()), ()) = some ((0, 2, ()), ()) := by
  obtain ⟨k, rfl⟩ : ∃ j, k = j + 1 := ⟨k - 1, by omega⟩
  rw [loopN_succ, Ask_12_L7]
  try dsimp only
  have e : ((2 : Int) == 0) = false := rfl
  rw [e, byB_false, byB_net (by decide)]
  exact byB_same
theorem rask_loop {N : Nat} {t r : Int} (ht : 1 ≤ t ∧ t ≤ 9223372036854775807) (hr : 0 ≤ r ∧ r ≤ 1099511627776) (l : List Wk) (hw : ∀ x ∈ l, wok x = true) (hl : l.length ≤ 72) : ∀ (d i k : Nat) (n : Int), i + d = l.length → d + 1 < k → 0 ≤ n → n ≤ 9223372036854775807 →
    loopN k (Ask_12_L7 N) ((l, r, t, n, 0, (i : Int), ()), ()) = some (two (tot (n + asum t r (l.drop i)))) := by
  intro d
  induction d with
  | zero =>
    intro i k n hd hk h0 h1
    obtain ⟨k, rfl⟩ : ∃ j, k = j + 1 := ⟨k - 1, by omega⟩
    rw [loopN_succ, Ask_12_L7]
    try dsimp only
    rw [byB_f (by omega), byB_nef rfl, List.drop_of_length_le (by omega), asum_nil, Int.add_zero, tot_ok h1]
  | succ d ih =>
    intro i k n hd hk h0 h1
    obtain ⟨k, rfl⟩ : ∃ j, k = j + 1 := ⟨k - 1, by omega⟩
    have hi : i < l.length := by omega
    have hnx : IntKind.wrap .i64 ((i : Int) + 1) = ((i + 1 : Nat) : Int) := by rw [w64 (by omega) (by omega)]; omega
    have hx := hw _ (getD_mem (d := (0, 0, 0, false)) hi)
    have hs := asum_nonneg ht.1 hr.1 (l := l.drop (i + 1)) (fun y hy => hw y (List.mem_of_mem_drop hy))
    rw [loopN_succ, Ask_12_L7]
    try dsimp only
    have e00 : ((0 : Int) == 0) = true := rfl
    rw [byB_t (by omega), e00, byB_true, if_pos (by omega), join_eq, Int.toNat_natCast, drop_getD (d := (0, 0, 0, false)) hi, asum_cons]
    have ih2 := fun s h0 h1 => ih (i + 1) k s (by omega) (by omega) h0 h1
    have err := fun s => rask_err (N := N) (t := t) (r := r) (s := s) l hl ((i + 1 : Nat) : Int) k (by omega)
    generalize hxe : l.getD i (0, 0, 0, false) = x at *
    generalize asum t r (l.drop (i + 1)) = S at *
    obtain ⟨w0, w1, p0, p1, d0, d1⟩ := wok_of hx
    have hc := cd_pos ht.1 p0
    have ho := own_nonneg ht.1 hx
    have hr0 : 0 ≤ (cd t x.2.1 + 2) * r := Int.mul_nonneg (by omega) (by omega)
    -- what follows: the release
    have fin : ∀ s : Int, n + own t x = s → s ≤ 9223372036854775807 → Ask_12_J17 N (loopN k (Ask_12_L7 N)) ((l, r, t, s, 0, (i : Int), (), 0, true, ()), (x.1, x.2.1, x.2.2.1, x.2.2.2, ()), ()) = some (two (tot (n + (a1 t r x + S)))) := by
      intro s hs1 hs2
      rw [Ask_12_J17]
      try dsimp only
      rw [byB_eqt rfl, up_at ht ⟨p0, p1⟩, bnd]
      try dsimp only
      rw [radd_tot2 (by omega) (by omega), bnd, hnx]
      unfold a1
      by_cases c : cd t x.2.1 + 2 > 9223372036854775807
      · rw [if_pos c, tot_no (by omega)]
        simp only [two]
        rw [byB_eqf (by decide), err, tot_no (by omega)]
      · rw [if_neg c, tot_ok (by omega)]
        simp only [two]
        rw [byB_eqt rfl, rtimes_at (by omega) (by omega) (by omega), bnd]
        by_cases c2 : s + (cd t x.2.1 + 2) * r ≤ 9223372036854775807
        · rw [tot_ok c2]
          simp only [two]
          rw [ih2 _ (by omega) c2]
          have e : s + (cd t x.2.1 + 2) * r + S = n + (own t x + (cd t x.2.1 + 2) * r + S) := by omega
          rw [e]
        · rw [tot_no c2]
          simp only [two]
          rw [err, tot_no (by omega)]
    have bad : ∀ s : Int, 9223372036854775807 < n + a1 t r x → Ask_12_J17 N (loopN k (Ask_12_L7 N)) ((l, r, t, s, 2, (i : Int), (), 0, true, ()), (x.1, x.2.1, x.2.2.1, x.2.2.2, ()), ()) = some (two (tot (n + (a1 t r x + S)))) := by
      intro s hb
      rw [Ask_12_J17]
      try dsimp only
      rw [byB_eqf (by decide), hnx, err, tot_no (by omega)]
    have big : 9223372036854775807 < n + own t x → 9223372036854775807 < n + a1 t r x := by
      intro h
      unfold a1
      split <;> omega
    by_cases c1 : x.2.2.2 = true
    · have ho1 : own t x = (cd t x.2.1 + 1) * x.1 := by unfold own; rw [if_pos c1]
      rw [c1] at fin bad ⊢
      rw [byB_true, up_at ht ⟨p0, p1⟩, bnd]
      try dsimp only
      rw [radd_tot2 (by omega) (by omega), bnd]
      by_cases c : cd t x.2.1 + 1 > 9223372036854775807
      · rw [tot_no (by omega)]
        simp only [two]
        rw [byB_eqf (by decide), bad]
        unfold a1
        rw [if_pos (by omega)]
        omega
      · rw [tot_ok (by omega)]
        simp only [two]
        rw [byB_eqt rfl, rtimes_at (by omega) (by omega) (by omega), bnd]
        by_cases c2 : n + (cd t x.2.1 + 1) * x.1 ≤ 9223372036854775807
        · rw [tot_ok c2]
          simp only [two]
          rw [fin _ (by rw [ho1]) c2]
        · rw [tot_no c2]
          simp only [two]
          rw [bad _ (big (by rw [ho1]; omega))]
    · have c1' : x.2.2.2 = false := by simpa using c1
      rw [c1'] at fin bad ⊢
      rw [byB_false]
      by_cases c2 : t ≥ x.2.2.1
      · rw [byB_t c2, if_neg (by omega)]
        have ho1 : own t x = ((t - x.2.2.1) / x.2.1 + 1) * x.1 := by unfold own; rw [if_neg c1, if_pos c2]
        have hq : 0 ≤ (t - x.2.2.1) / x.2.1 := Int.ediv_nonneg (by omega) (by omega)
        have hq2 : (t - x.2.2.1) / x.2.1 ≤ t - x.2.2.1 := Int.ediv_le_self _ (by omega)
        rw [w64 (n := t - x.2.2.1) (by omega) (by omega), Int.tdiv_eq_ediv_of_nonneg (by omega), w64 (n := (t - x.2.2.1) / x.2.1) (by omega) (by omega), w64 (n := (t - x.2.2.1) / x.2.1 + 1) (by omega) (by omega)]
        rw [rtimes_at (by omega) (by omega) (by omega), bnd]
        by_cases c3 : n + ((t - x.2.2.1) / x.2.1 + 1) * x.1 ≤ 9223372036854775807
        · rw [tot_ok c3]
          simp only [two]
          rw [fin _ (by rw [ho1]) c3]
        · rw [tot_no c3]
          simp only [two]
          rw [bad _ (big (by rw [ho1]; omega))]
      · rw [byB_f c2]
        have ho1 : own t x = 0 := by unfold own; rw [if_neg c1, if_neg c2]
        rw [fin _ (by rw [ho1]; omega) h1]
theorem rask_at {N : Nat} {t b r : Int} (ht : t ≤ 9223372036854775807) (l : List Wk) (hN : 100 < N) :
    Ask_12 N ((l, b, r, t, ()), ()) = some (two (askS l b r t)) := by
  unfold Ask_12
  try dsimp only
  rw [rright_at hN l, bnd, byB_not]
  try dsimp only
  by_cases c : rt l b r = true
  · obtain ⟨h1, h2, h3⟩ := rt_of c
    rw [c, byB_true]
    by_cases c2 : t < 1
    · rw [byB_t c2, askS_no (by omega)]
    · rw [byB_f c2, askS_ok c (by omega)]
      have := rask_loop (N := N) (t := t) (r := r) (by omega) (by omega) l h1 h2 l.length 0 N b (by omega) (by omega) (by omega) (by omega)
      have e0 : ((0 : Nat) : Int) = 0 := rfl
      rw [e0, List.drop_zero] at this
      rw [this]
  · have c2 : rt l b r = false := by simpa using c
    rw [c2, byB_false, askS_no (by simp [c])]
/-- The works for the document: the same. -/
theorem works_loop {N : Nat} (l : List Wk) (hl : l.length * 32 ≤ 140737488351232) : ∀ (d i k : Nat), i + d = l.length → d < k →
    loopN k (works_13_L3 N) ((l, (), (i : Int), ()), l.take i, ()) = some (((), ()), l, ()) := by
  intro d
  induction d with
  | zero =>
    intro i k hd hk
    obtain ⟨k, rfl⟩ : ∃ j, k = j + 1 := ⟨k - 1, by omega⟩
    rw [loopN_succ, works_13_L3]
    try dsimp only
    rw [byB_f (by omega), List.take_of_length_le (by omega)]
  | succ d ih =>
    intro i k hd hk
    obtain ⟨k, rfl⟩ : ∃ j, k = j + 1 := ⟨k - 1, by omega⟩
    have hi : i < l.length := by omega
    have hnx : IntKind.wrap .i64 ((i : Int) + 1) = ((i + 1 : Nat) : Int) := by rw [w64 (by omega) (by omega)]; omega
    have e := ih (i + 1) k (by omega) (by omega)
    rw [take_succ_getD (d := (0, 0, 0, false)) hi] at e
    have hlen : (l.take i).length = i := by simp; omega
    rw [loopN_succ, works_13_L3]
    try dsimp only
    rw [byB_t (by omega), if_pos (by omega), if_pos (by omega), if_pos (by omega), if_pos (by omega), if_pos (by rw [hlen]; omega), Int.toNat_natCast, hnx, e]
theorem works_at {N : Nat} (l : List Wk) (hl : l.length * 32 ≤ 140737488351232) (hN : l.length < N) : works_13 N ((l, ()), ()) = some (((), ()), l, ()) := by
  have := works_loop (N := N) l hl l.length 0 N (by omega) (by omega)
  exact this
theorem examples_eq {N : Nat} (h : 300 ≤ N) : examples_10 N ((), ()) = some ((true, ()), ()) := by
  unfold examples_10
  rw [if_pos h]
end Go.Proofs.YtabdnglgdbjbiaaC
