/- Chapter 15: what is asked within some ticks, as numbers; the calls that tell it. Conditions: as each theorem states them. -/
import Derived.Test.YtabdnglgdbjbiaaX2
import Derived.Test.YtabdnglgdbjbiaaXQLoad
namespace Go.Proofs.YtabdnglgdbjbiaaC
open Go Go.Proofs.YtabdnglgdbjbiaaM Go.Proofs.YtabdnglgdbjbiaaX Go.Proofs.YtabdnglgdbjbiaaL Go.Proofs.YtabdnglgdbjbiaaQ
set_option linter.unusedVariables false
set_option linter.unusedSimpArgs false

/-- A work. -/
abbrev Wk := Int × Int × Int × Bool
def cd (t p : Int) : Int := (t + (p - 1)) / p
theorem cd_pos {t p : Int} (ht : 1 ≤ t) (hp : 1 ≤ p) : 1 ≤ cd t p ∧ cd t p ≤ t := by
  unfold cd
  constructor
  · exact Int.le_ediv_of_mul_le (by omega) (by omega)
  · have h : (t + (p - 1)) / p < t + 1 := Int.ediv_lt_of_lt_mul (by omega) (by
      have := Int.mul_le_mul_of_nonneg_left (show (1 : Int) ≤ p by omega) (show 0 ≤ t by omega)
      rw [Int.add_mul]
      omega)
    omega
theorem cd_mono {t u p : Int} (hp : 1 ≤ p) (h : t ≤ u) : cd t p ≤ cd u p := Int.ediv_le_ediv (by omega) (by omega)
def wok (x : Wk) : Bool := decide (0 ≤ x.1 ∧ x.1 ≤ 1099511627776 ∧ 1 ≤ x.2.1 ∧ x.2.1 ≤ 1099511627776 ∧ 1 ≤ x.2.2.1 ∧ x.2.2.1 ≤ 1099511627776)
theorem wok_of {x : Wk} (h : wok x = true) : 0 ≤ x.1 ∧ x.1 ≤ 1099511627776 ∧ 1 ≤ x.2.1 ∧ x.2.1 ≤ 1099511627776 ∧ 1 ≤ x.2.2.1 ∧ x.2.2.1 ≤ 1099511627776 := by
  unfold wok at h
  exact of_decide_eq_true h
def rt (l : List Wk) (b r : Int) : Bool := l.all wok && decide (l.length ≤ 72 ∧ 0 ≤ b ∧ b ≤ 1099511627776 ∧ 0 ≤ r ∧ r ≤ 1099511627776)
theorem rt_of {l : List Wk} {b r : Int} (h : rt l b r = true) : (∀ x ∈ l, wok x = true) ∧ l.length ≤ 72 ∧ 0 ≤ b ∧ b ≤ 1099511627776 ∧ 0 ≤ r ∧ r ≤ 1099511627776 := by
  unfold rt at h
  simp only [Bool.and_eq_true, List.all_eq_true, decide_eq_true_eq] at h
  exact h
theorem rt_mk {l : List Wk} {b r : Int} (h : (∀ x ∈ l, wok x = true) ∧ l.length ≤ 72 ∧ 0 ≤ b ∧ b ≤ 1099511627776 ∧ 0 ≤ r ∧ r ≤ 1099511627776) : rt l b r = true := by
  unfold rt
  simp only [Bool.and_eq_true, List.all_eq_true, decide_eq_true_eq]
  exact h
/-- A number, or that it is too great. -/
def tot (v : Int) : Int × Int := if v ≤ 9223372036854775807 then (v, 0) else (0, 2)
theorem tot_ok {v : Int} (h : v ≤ 9223372036854775807) : tot v = (v, 0) := by unfold tot; rw [if_pos h]
theorem tot_no {v : Int} (h : ¬ v ≤ 9223372036854775807) : tot v = (0, 2) := by unfold tot; rw [if_neg h]
theorem add_tot {a b : Int} (h : 0 ≤ a + b) : AddS a b = tot (a + b) := by
  unfold AddS tot
  by_cases c : a + b ≤ 9223372036854775807
  · rw [if_pos c, if_pos (by omega)]
  · rw [if_neg c, if_neg (by omega)]
theorem mul_tot {a b : Int} (h : 0 ≤ a * b) : MulS a b = tot (a * b) := by
  unfold MulS tot
  by_cases c : a * b ≤ 9223372036854775807
  · rw [if_pos c, if_pos (by omega)]
  · rw [if_neg c, if_neg (by omega)]
/-- How much a work asks by itself. -/
def own (t : Int) (x : Wk) : Int := if x.2.2.2 = true then (cd t x.2.1 + 1) * x.1 else if t ≥ x.2.2.1 then ((t - x.2.2.1) / x.2.1 + 1) * x.1 else 0
def a1 (t r : Int) (x : Wk) : Int := if cd t x.2.1 + 2 > 9223372036854775807 then 9223372036854775808 else own t x + (cd t x.2.1 + 2) * r
def asum (t r : Int) : List Wk → Int
  | [] => 0
  | x :: l => a1 t r x + asum t r l
theorem asum_cons (t r : Int) (x : Wk) (l : List Wk) : asum t r (x :: l) = a1 t r x + asum t r l := by simp [asum]
theorem asum_nil (t r : Int) : asum t r [] = 0 := by simp [asum]
theorem asum_app (t r : Int) (l m : List Wk) : asum t r (l ++ m) = asum t r l + asum t r m := by
  induction l with
  | nil => simp [asum]
  | cons x l ih => rw [List.cons_append, asum_cons, asum_cons, ih]; omega
def c1 (n r : Int) (x : Wk) : Int := if cd n x.2.1 + 2 > 9223372036854775807 then 9223372036854775808 else (cd n x.2.1 + 1) * x.1 + (cd n x.2.1 + 2) * r
def csum (n r : Int) : List Wk → Int
  | [] => 0
  | x :: l => c1 n r x + csum n r l
theorem csum_cons (n r : Int) (x : Wk) (l : List Wk) : csum n r (x :: l) = c1 n r x + csum n r l := by simp [csum]
theorem csum_nil (n r : Int) : csum n r [] = 0 := by simp [csum]
theorem csum_app (t r : Int) (l m : List Wk) : csum t r (l ++ m) = csum t r l + csum t r m := by
  induction l with
  | nil => simp [csum]
  | cons x l ih => rw [List.cons_append, csum_cons, csum_cons, ih]; omega
theorem own_nonneg {t : Int} {x : Wk} (ht : 1 ≤ t) (hx : wok x = true) : 0 ≤ own t x := by
  have := wok_of hx
  have := cd_pos ht this.2.2.1
  unfold own
  split
  · exact Int.mul_nonneg (by omega) (by omega)
  · split
    · have : 0 ≤ (t - x.2.2.1) / x.2.1 := Int.ediv_nonneg (by omega) (by omega)
      exact Int.mul_nonneg (by omega) (by omega)
    · omega
theorem a1_nonneg {t r : Int} {x : Wk} (ht : 1 ≤ t) (hr : 0 ≤ r) (hx : wok x = true) : 0 ≤ a1 t r x := by
  have := wok_of hx
  have h2 := cd_pos ht this.2.2.1
  have h3 := own_nonneg ht hx
  have h4 : 0 ≤ (cd t x.2.1 + 2) * r := Int.mul_nonneg (by omega) hr
  unfold a1
  split <;> omega
theorem c1_nonneg {t r : Int} {x : Wk} (ht : 1 ≤ t) (hr : 0 ≤ r) (hx : wok x = true) : 0 ≤ c1 t r x := by
  have := wok_of hx
  have h2 := cd_pos ht this.2.2.1
  have h3 : 0 ≤ (cd t x.2.1 + 1) * x.1 := Int.mul_nonneg (by omega) (by omega)
  have h4 : 0 ≤ (cd t x.2.1 + 2) * r := Int.mul_nonneg (by omega) hr
  unfold c1
  split <;> omega
theorem asum_nonneg {t r : Int} (ht : 1 ≤ t) (hr : 0 ≤ r) : ∀ {l : List Wk}, (∀ x ∈ l, wok x = true) → 0 ≤ asum t r l
  | [], _ => by simp [asum]
  | x :: l, h => by
    have h1 := a1_nonneg ht hr (h x (.head _))
    have h2 := asum_nonneg ht hr (fun y hy => h y (.tail _ hy))
    rw [asum_cons]
    omega
theorem csum_nonneg {t r : Int} (ht : 1 ≤ t) (hr : 0 ≤ r) : ∀ {l : List Wk}, (∀ x ∈ l, wok x = true) → 0 ≤ csum t r l
  | [], _ => by simp [csum]
  | x :: l, h => by
    have h1 := c1_nonneg ht hr (h x (.head _))
    have h2 := csum_nonneg ht hr (fun y hy => h y (.tail _ hy))
    rw [csum_cons]
    omega

/-! the calls -/
theorem within_loop {N : Nat} {least : Int} (L : List Int) (hL : L.length ≤ 100) : ∀ (d i k : Nat), i + d = L.length → d < k →
    loopN k (within_34_L2 N) ((least, L, (L.length : Int), (i : Int), ()), ()) = some (((L.drop i).all (fun n => decide (least ≤ n ∧ n ≤ 1099511627776)), ()), ()) := by
  intro d
  induction d with
  | zero =>
    intro i k hd hk
    obtain ⟨k, rfl⟩ : ∃ j, k = j + 1 := ⟨k - 1, by omega⟩
    rw [loopN_succ, within_34_L2]
    try dsimp only
    rw [byB_f (by omega), List.drop_of_length_le (by omega)]
    rfl
  | succ d ih =>
    intro i k hd hk
    obtain ⟨k, rfl⟩ : ∃ j, k = j + 1 := ⟨k - 1, by omega⟩
    have hi : i < L.length := by omega
    have hnx : IntKind.wrap .i64 ((i : Int) + 1) = ((i + 1 : Nat) : Int) := by rw [w64 (by omega) (by omega)]; omega
    rw [loopN_succ, within_34_L2]
    try dsimp only
    rw [byB_t (by omega), if_pos (by omega), Int.toNat_natCast, hnx, drop_getD (d := 0) hi, ih (i + 1) k (by omega) (by omega), List.all_cons]
    by_cases c1 : L.getD i 0 < least
    · rw [byB_t c1, decide_eq_false (by omega), Bool.false_and]
    · by_cases c2 : L.getD i 0 > 1099511627776
      · rw [byB_f c1, byB_t c2, decide_eq_false (by omega), Bool.false_and]
      · rw [byB_f c1, byB_f c2, decide_eq_true (by omega), Bool.true_and]
theorem within_at {N : Nat} {least : Int} (L : List Int) (hL : L.length ≤ 100) (hN : 100 < N) : within_34 N ((least, L, ()), ()) = some ((L.all (fun n => decide (least ≤ n ∧ n ≤ 1099511627776)), ()), ()) := by
  have := within_loop (N := N) (least := least) L hL L.length 0 N (by omega) (by omega)
  exact this
theorem wf_len {l : List Wk} (h : l.length * 32 ≤ 140737488351232) : l.length ≤ 4398046510976 := by omega
theorem right_loop {N : Nat} (hN : 100 < N) {b r : Int} (l : List Wk) (hl : l.length * 32 ≤ 140737488351232) : ∀ (d i k : Nat), i + d = l.length → d < k →
    loopN k (right_20_L2 N) ((l, b, r, l, (l.length : Int), (i : Int), ()), ()) = some (((l.drop i).all wok && decide (l.length ≤ 72 ∧ 0 ≤ b ∧ b ≤ 1099511627776 ∧ 0 ≤ r ∧ r ≤ 1099511627776), ()), ()) := by
  intro d
  induction d with
  | zero =>
    intro i k hd hk
    obtain ⟨k, rfl⟩ : ∃ j, k = j + 1 := ⟨k - 1, by omega⟩
    rw [loopN_succ, right_20_L2]
    try dsimp only
    rw [byB_f (by omega), List.drop_of_length_le (by omega), within_at _ (by simp) hN, bnd]
    simp only [List.all_nil, Bool.true_and, List.all_cons, Bool.and_true]
    by_cases c : (l.length : Int) ≤ 72
    · rw [byB_t c]
      congr 4
      rw [Bool.eq_iff_iff]
      simp only [Bool.and_eq_true, decide_eq_true_eq]
      omega
    · rw [byB_f c, decide_eq_false (by omega)]
  | succ d ih =>
    intro i k hd hk
    obtain ⟨k, rfl⟩ : ∃ j, k = j + 1 := ⟨k - 1, by omega⟩
    have hi : i < l.length := by omega
    have hnx : IntKind.wrap .i64 ((i : Int) + 1) = ((i + 1 : Nat) : Int) := by rw [w64 (by omega) (by omega)]; omega
    rw [loopN_succ, right_20_L2]
    try dsimp only
    rw [byB_t (by omega), if_pos (by omega), Int.toNat_natCast, hnx, drop_getD (d := (0, 0, 0, false)) hi, ih (i + 1) k (by omega) (by omega), List.all_cons, within_at _ (by simp) hN, bnd, within_at _ (by simp) hN, bnd]
    generalize l.getD i (0, 0, 0, false) = x
    simp only [List.all_cons, List.all_nil, Bool.and_true, byB_not]
    have e : wok x = (decide (0 ≤ x.1 ∧ x.1 ≤ 1099511627776) && (decide (1 ≤ x.2.1 ∧ x.2.1 ≤ 1099511627776) && decide (1 ≤ x.2.2.1 ∧ x.2.2.1 ≤ 1099511627776))) := by
      unfold wok
      rw [Bool.eq_iff_iff]
      simp only [Bool.and_eq_true, decide_eq_true_eq]
      omega
    rw [e]
    cases decide (0 ≤ x.1 ∧ x.1 ≤ 1099511627776) with
    | false => simp only [byB_false, Bool.false_and]
    | true =>
      cases (decide (1 ≤ x.2.1 ∧ x.2.1 ≤ 1099511627776) && decide (1 ≤ x.2.2.1 ∧ x.2.2.1 ≤ 1099511627776)) with
      | false => simp only [byB_false, byB_true, Bool.false_and, Bool.true_and]
      | true => simp only [byB_true, Bool.true_and]
theorem right_at {N : Nat} (hN : 100 < N) {b r : Int} (l : List Wk) (hl : l.length * 32 ≤ 140737488351232) (hN2 : l.length < N) : right_20 N ((l, b, r, ()), ()) = some ((rt l b r, ()), ()) := by
  have := right_loop (N := N) hN (b := b) (r := r) l hl l.length 0 N (by omega) (by omega)
  exact this
theorem rright_loop {N : Nat} (l : List Wk) (hl : l.length ≤ 72) : ∀ (d i k : Nat), i + d = l.length → d < k →
    loopN k (right_26_L4 N) ((l, (i : Int), ()), ()) = some (((l.drop i).all wok, ()), ()) := by
  intro d
  induction d with
  | zero =>
    intro i k hd hk
    obtain ⟨k, rfl⟩ : ∃ j, k = j + 1 := ⟨k - 1, by omega⟩
    rw [loopN_succ, right_26_L4]
    try dsimp only
    rw [byB_f (by omega), List.drop_of_length_le (by omega)]
    rfl
  | succ d ih =>
    intro i k hd hk
    obtain ⟨k, rfl⟩ : ∃ j, k = j + 1 := ⟨k - 1, by omega⟩
    have hi : i < l.length := by omega
    have hnx : IntKind.wrap .i64 ((i : Int) + 1) = ((i + 1 : Nat) : Int) := by rw [w64 (by omega) (by omega)]; omega
    rw [loopN_succ, right_26_L4]
    try dsimp only
    rw [byB_t (by omega), if_pos (by omega), Int.toNat_natCast, hnx, drop_getD (d := (0, 0, 0, false)) hi, ih (i + 1) k (by omega) (by omega), List.all_cons]
    generalize l.getD i (0, 0, 0, false) = x
    by_cases c : wok x = true
    · have := wok_of c
      rw [c, Bool.true_and, byB_f (by omega), byB_f (by omega), byB_f (by omega), byB_f (by omega), byB_f (by omega), byB_f (by omega)]
    · have c2 : wok x = false := by simpa using c
      have c3 : ¬ (0 ≤ x.1 ∧ x.1 ≤ 1099511627776 ∧ 1 ≤ x.2.1 ∧ x.2.1 ≤ 1099511627776 ∧ 1 ≤ x.2.2.1 ∧ x.2.2.1 ≤ 1099511627776) := fun h => c (decide_eq_true h)
      rw [c2, Bool.false_and]
      simp only [byB_dec]
      repeat' split
      all_goals first | rfl | (exfalso; omega)
theorem rright_at {N : Nat} (hN : 100 < N) {b r : Int} (l : List Wk) : right_26 N ((l, b, r, ()), ()) = some ((rt l b r, ()), ()) := by
  unfold right_26 rt
  try dsimp only
  by_cases c : l.length ≤ 72 ∧ 0 ≤ b ∧ b ≤ 1099511627776 ∧ 0 ≤ r ∧ r ≤ 1099511627776
  · have := rright_loop (N := N) l c.1 l.length 0 N (by omega) (by omega)
    have e0 : ((0 : Nat) : Int) = 0 := rfl
    rw [e0, List.drop_zero] at this
    rw [decide_eq_true c, Bool.and_true, byB_f (by omega), byB_f (by omega), byB_f (by omega), byB_f (by omega), byB_f (by omega), this]
  · rw [decide_eq_false c, Bool.and_false]
    simp only [byB_dec]
    repeat' split
    all_goals first | rfl | (exfalso; omega)

/-- Some work, so often. -/
def oft (t p more w : Int) : Int × Int := if cd t p + more > 9223372036854775807 then (0, 2) else tot ((cd t p + more) * w)
theorem often_at {N : Nat} {t p more w : Int} (ht : 1 ≤ t ∧ t ≤ 9223372036854775807) (hp : 1 ≤ p ∧ p ≤ 9223372036854775807) (hm : 0 ≤ more ∧ more ≤ 100) (hw : 0 ≤ w ∧ w ≤ 9223372036854775807) :
    often_23 N ((t, p, more, w, ()), ()) = some (two (oft t p more w)) := by
  have h1 := cd_pos ht.1 hp.1
  unfold often_23 oft
  try dsimp only
  rw [ceil_at (wf64_mk (by omega) (by omega)) (wf64_mk (by omega) (by omega)), bnd]
  have e : CeilS t p = (cd t p, 0) := by
    unfold CeilS cd
    rw [if_neg (by omega)]
  rw [e]
  simp only [two]
  rw [byB_eqt rfl, add_at (wf64_mk (by omega) (by omega)) (wf64_mk (by omega) (by omega)), bnd, add_tot (by omega)]
  by_cases c : cd t p + more > 9223372036854775807
  · rw [if_pos c, tot_no (by omega)]
    simp only [two]
    rw [byB_net (by decide)]
  · have h0 : 0 ≤ (cd t p + more) * w := Int.mul_nonneg (by omega) (by omega)
    rw [if_neg c, tot_ok (by omega)]
    simp only [two]
    rw [byB_nef rfl, mul_at (wf64_mk (by omega) (by omega)) (wf64_mk (by omega) (by omega)), bnd, mul_tot h0]
end Go.Proofs.YtabdnglgdbjbiaaC
