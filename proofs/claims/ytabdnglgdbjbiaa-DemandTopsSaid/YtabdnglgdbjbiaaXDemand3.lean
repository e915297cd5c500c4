/- Chapter 15: Busy and Test, of the program and of the document. Conditions: as each theorem states them. -/
import Derived.Test.YtabdnglgdbjbiaaXDemand2
namespace Go.Proofs.YtabdnglgdbjbiaaC
open Go Go.Proofs.YtabdnglgdbjbiaaM Go.Proofs.YtabdnglgdbjbiaaX Go.Proofs.YtabdnglgdbjbiaaL Go.Proofs.YtabdnglgdbjbiaaQ
set_option linter.unusedVariables false
set_option linter.unusedSimpArgs false

/-! whether more is asked than a core can do -/
def fw (r : Int) : List Wk → List Int
  | [] => []
  | x :: l => x.1 :: r :: fw r l
def ft : List Wk → List Int
  | [] => []
  | x :: l => x.2.1 :: x.2.1 :: ft l
theorem fw_app (r : Int) (l m : List Wk) : fw r (l ++ m) = fw r l ++ fw r m := by
  induction l with
  | nil => simp [fw]
  | cons x l ih => simp [fw, ih]
theorem ft_app (l m : List Wk) : ft (l ++ m) = ft l ++ ft m := by
  induction l with
  | nil => simp [ft]
  | cons x l ih => simp [ft, ih]
theorem fw_len (r : Int) (l : List Wk) : (fw r l).length = 2 * l.length := by
  induction l with
  | nil => simp [fw]
  | cons x l ih => simp [fw, ih]; omega
theorem ft_len (l : List Wk) : (ft l).length = 2 * l.length := by
  induction l with
  | nil => simp [ft]
  | cons x l ih => simp [ft, ih]; omega
theorem fw_ok {r : Int} (hr : 0 ≤ r ∧ r ≤ 1099511627776) : ∀ {l : List Wk}, (∀ x ∈ l, wok x = true) → ∀ y ∈ fw r l, 0 ≤ y ∧ y ≤ 9223372036854775807
  | [], _, y, hy => by simp [fw] at hy
  | x :: l, h, y, hy => by
    simp only [fw, List.mem_cons] at hy
    have := wok_of (h x (.head _))
    rcases hy with rfl | rfl | hy
    · omega
    · omega
    · exact fw_ok hr (fun z hz => h z (.tail _ hz)) y hy
theorem ft_ok : ∀ {l : List Wk}, (∀ x ∈ l, wok x = true) → ∀ y ∈ ft l, 0 < y ∧ y ≤ 9223372036854775807
  | [], _, y, hy => by simp [ft] at hy
  | x :: l, h, y, hy => by
    simp only [ft, List.mem_cons] at hy
    have := wok_of (h x (.head _))
    rcases hy with rfl | rfl | hy
    · omega
    · omega
    · exact ft_ok (fun z hz => h z (.tail _ hz)) y hy
def lsum (r : Int) (l : List Wk) : Int := total (fw r l) (ft l)
theorem lsum_cons (r : Int) (x : Wk) (l : List Wk) : lsum r (x :: l) = Go.Proofs.YtabdnglgdbjbiaaQ.part x.1 x.2.1 + (Go.Proofs.YtabdnglgdbjbiaaQ.part r x.2.1 + lsum r l) := by simp [lsum, fw, ft, total_cons]
theorem lsum_nil (r : Int) : lsum r [] = 0 := by simp [lsum, fw, ft, total]
theorem lsum_app (r : Int) (l m : List Wk) : lsum r (l ++ m) = lsum r l + lsum r m := by
  induction l with
  | nil => simp [lsum_nil]
  | cons x l ih => rw [List.cons_append, lsum_cons, lsum_cons, ih]; omega
def fullS (l : List Wk) (r : Int) : Bool := decide (lsum r l > 4294967296)
theorem load_tells {N : Nat} {r : Int} (hr : 0 ≤ r ∧ r ≤ 1099511627776) {l : List Wk} (hw : ∀ x ∈ l, wok x = true) (hl : l.length ≤ 72) (hN : 300 ≤ N) :
    Load_39 N ((fw r l, ft l, ()), ()) = some (two (tot (lsum r l))) ∧ Load_32 N ((fw r l, ft l, ()), ()) = some (two (tot (lsum r l))) := by
  have e1 := fw_len r l
  have e2 := ft_len l
  constructor
  · rw [load_at (by omega) (by omega) (by omega) (fw_ok hr hw) (ft_ok hw)]
    rfl
  · rw [rLoad_at (by omega) (by omega) (by omega) (fw_ok hr hw) (ft_ok hw)]
    rfl
theorem full_loop {N : Nat} {r : Int} (hr : 0 ≤ r ∧ r ≤ 1099511627776) (l : List Wk) (hw : ∀ x ∈ l, wok x = true) (hl : l.length ≤ 72) (hN : 300 ≤ N) : ∀ (d i k : Nat), i + d = l.length → d < k →
    loopN k (full_30_L3 N) ((r, (), (), l, (l.length : Int), (i : Int), ()), fw r (l.take i), ft (l.take i), ()) = some ((fullS l r, ()), ()) := by
  intro d
  induction d with
  | zero =>
    intro i k hd hk
    obtain ⟨k, rfl⟩ : ∃ j, k = j + 1 := ⟨k - 1, by omega⟩
    rw [loopN_succ, full_30_L3]
    try dsimp only
    rw [byB_f (by omega), List.take_of_length_le (by omega), (load_tells hr hw hl hN).1, bnd]
    unfold fullS
    by_cases c : lsum r l ≤ 9223372036854775807
    · rw [tot_ok c]
      simp only [two]
      rw [byB_nef rfl]
    · rw [tot_no c]
      simp only [two]
      rw [byB_net (by decide), decide_eq_true (show lsum r l > 4294967296 by omega)]
  | succ d ih =>
    intro i k hd hk
    obtain ⟨k, rfl⟩ : ∃ j, k = j + 1 := ⟨k - 1, by omega⟩
    have hi : i < l.length := by omega
    have hnx : IntKind.wrap .i64 ((i : Int) + 1) = ((i + 1 : Nat) : Int) := by rw [w64 (by omega) (by omega)]; omega
    have e := ih (i + 1) k (by omega) (by omega)
    rw [take_succ_getD (d := (0, 0, 0, false)) hi, fw_app, ft_app] at e
    have h1 : (fw r (l.take i)).length = 2 * i := by rw [fw_len]; simp; omega
    have h2 : (ft (l.take i)).length = 2 * i := by rw [ft_len]; simp; omega
    rw [loopN_succ, full_30_L3]
    try dsimp only
    rw [byB_t (by omega), if_pos (by omega), if_pos (by rw [h1]; omega), if_pos (by rw [h2]; omega), Int.toNat_natCast, hnx]
    exact e
theorem full_at {N : Nat} {r : Int} (hr : 0 ≤ r ∧ r ≤ 1099511627776) (l : List Wk) (hw : ∀ x ∈ l, wok x = true) (hl : l.length ≤ 72) (hN : 300 ≤ N) : full_30 N ((l, r, ()), ()) = some ((fullS l r, ()), ()) := by
  have := full_loop (N := N) hr l hw hl hN l.length 0 N (by omega) (by omega)
  exact this

/-! what may come -/
theorem busy1_at {N : Nat} {t r : Int} {x : Wk} (ht : 1 ≤ t ∧ t ≤ 9223372036854775807) (hr : 0 ≤ r ∧ r ≤ 1099511627776) (hx : wok x = true) :
    Busy1_31 N (((x.1, x.2.1, x.2.2.1, x.2.2.2, ()), (), (), ()), (t, ()), (r, ()), ()) = some (((tot (c1 t r x)).1, (tot (c1 t r x)).2, ()), (t, ()), (r, ()), ()) := by
  obtain ⟨w0, w1, p0, p1, d0, d1⟩ := wok_of hx
  have h1 := cd_pos ht.1 p0
  have h0 : 0 ≤ (cd t x.2.1 + 2) * r := Int.mul_nonneg (by omega) (by omega)
  have hn0 : 0 ≤ (cd t x.2.1 + 1) * x.1 := Int.mul_nonneg (by omega) (by omega)
  unfold Busy1_31
  try dsimp only
  rw [often_at ht ⟨p0, by omega⟩ (by omega) (by omega), bnd]
  unfold oft
  by_cases c2 : cd t x.2.1 + 1 > 9223372036854775807
  · rw [if_pos c2]
    simp only [two]
    rw [byB_net (by decide)]
    unfold c1
    rw [if_pos (by omega), tot_no (by decide)]
  · rw [if_neg c2]
    by_cases c3 : (cd t x.2.1 + 1) * x.1 ≤ 9223372036854775807
    · rw [tot_ok c3]
      simp only [two]
      rw [byB_nef rfl, rest_at (N := N) ht ⟨p0, p1⟩ hr ⟨hn0, c3⟩ (fun a e => (((a, e, ()), (t, ()), (r, ()), ()) : ((Int × (Int × Unit)) × ((Int × Unit) × ((Int × Unit) × Unit)))))]
      unfold c1
      by_cases c : cd t x.2.1 + 2 > 9223372036854775807
      · rw [if_pos c, if_pos c, tot_no (by decide)]
      · rw [if_neg c, if_neg c]
    · rw [tot_no c3]
      simp only [two]
      unfold c1
      rw [byB_net (by decide), tot_no (by split <;> omega)]
theorem come_loop {N : Nat} {t r : Int} (ht : 1 ≤ t ∧ t ≤ 9223372036854775807) (hr : 0 ≤ r ∧ r ≤ 1099511627776) (l : List Wk) (hw : ∀ x ∈ l, wok x = true) (hl : l.length ≤ 72) : ∀ (d i k : Nat) (n : Int), i + d = l.length → d < k → 0 ≤ n → n ≤ 9223372036854775807 →
    loopN k (Work_21v1_L2 N) ((n, (), l, (l.length : Int), (i : Int), ()), ((), (), (), ()), (t, ()), (r, ()), ()) = some (((tot (n + csum t r (l.drop i))).1, (tot (n + csum t r (l.drop i))).2, ()), ((), (), (), ()), (t, ()), (r, ()), ()) := by
  intro d
  induction d with
  | zero =>
    intro i k n hd hk h0 h1
    obtain ⟨k, rfl⟩ : ∃ j, k = j + 1 := ⟨k - 1, by omega⟩
    rw [loopN_succ, Work_21v1_L2]
    try dsimp only
    rw [byB_f (by omega), List.drop_of_length_le (by omega), csum_nil, Int.add_zero, tot_ok h1]
  | succ d ih =>
    intro i k n hd hk h0 h1
    obtain ⟨k, rfl⟩ : ∃ j, k = j + 1 := ⟨k - 1, by omega⟩
    have hi : i < l.length := by omega
    have hnx : IntKind.wrap .i64 ((i : Int) + 1) = ((i + 1 : Nat) : Int) := by rw [w64 (by omega) (by omega)]; omega
    have hx := hw _ (getD_mem (d := (0, 0, 0, false)) hi)
    have ha := c1_nonneg ht.1 hr.1 hx
    have hs := csum_nonneg ht.1 hr.1 (l := l.drop (i + 1)) (fun y hy => hw y (List.mem_of_mem_drop hy))
    rw [loopN_succ, Work_21v1_L2]
    try dsimp only
    rw [byB_t (by omega), if_pos (by omega), Int.toNat_natCast, hnx, drop_getD (d := (0, 0, 0, false)) hi, csum_cons, busy1_at ht hr hx, bnd]
    try dsimp only
    by_cases c : c1 t r (l.getD i (0, 0, 0, false)) ≤ 9223372036854775807
    · rw [tot_ok c, byB_eqt rfl, add_tot2 ⟨h0, h1⟩ ⟨ha, c⟩, bnd]
      by_cases c2 : n + c1 t r (l.getD i (0, 0, 0, false)) ≤ 9223372036854775807
      · rw [tot_ok c2]
        simp only [two]
        rw [byB_nef rfl, ih (i + 1) k _ (by omega) (by omega) (by omega) c2, Int.add_assoc]
      · rw [tot_no c2, tot_no (v := n + (c1 t r (l.getD i (0, 0, 0, false)) + csum t r (l.drop (i + 1)))) (by omega)]
        simp only [two]
        rw [byB_net (by decide)]
    · rw [tot_no c, tot_no (v := n + (c1 t r (l.getD i (0, 0, 0, false)) + csum t r (l.drop (i + 1)))) (by omega)]
      try dsimp only
      rw [byB_eqf (by decide), byB_net (by decide)]
theorem come_at {N : Nat} {t b r : Int} (ht : 1 ≤ t ∧ t ≤ 9223372036854775807) {l : List Wk} (h : rt l b r = true) (hN : 300 ≤ N) :
    Work_21v1 N ((b, l, (), ()), ((), (), (), ()), (t, ()), (r, ()), ()) = some (((tot (b + csum t r l)).1, (tot (b + csum t r l)).2, ()), ((), (), (), ()), (t, ()), (r, ()), ()) := by
  obtain ⟨h1, h2, h3⟩ := rt_of h
  have := come_loop (N := N) (t := t) (r := r) ht (by omega) l h1 h2 l.length 0 N b (by omega) (by omega) (by omega) (by omega)
  have e0 : ((0 : Nat) : Int) = 0 := rfl
  rw [e0, List.drop_zero] at this
  exact this
/-- So many rounds from a number on. -/
def busyIt (l : List Wk) (b r : Int) : Nat → Int → Int × Int
  | 0, _ => (0, 11)
  | m + 1, n => if b + csum n r l > 9223372036854775807 then (0, 2) else if b + csum n r l ≤ n then (n, 0) else busyIt l b r m (b + csum n r l)
theorem busyIt_succ (l : List Wk) (b r n : Int) (m : Nat) : busyIt l b r (m + 1) n = if b + csum n r l > 9223372036854775807 then (0, 2) else if b + csum n r l ≤ n then (n, 0) else busyIt l b r m (b + csum n r l) := by simp [busyIt]
theorem busyIt_zero (l : List Wk) (b r n : Int) : busyIt l b r 0 n = (0, 11) := by simp [busyIt]
def steps : Nat := 5000
theorem steps_eq : steps = 5000 := by simp [steps]
def busyS (l : List Wk) (b r : Int) : Int × Int := if rt l b r = true then (if fullS l r = true then (0, 12) else busyIt l b r steps 1) else (0, 1)
theorem busy_loop {N : Nat} {b r : Int} (l : List Wk) (h : rt l b r = true) (hN : 300 ≤ N) : ∀ (m i k : Nat) (n : Int), i + m = 5000 → m < k → 1 ≤ n → n ≤ 9223372036854775807 →
    loopN k (Busy_14_L7 N) ((l, b, (), (), (i : Int), ()), (r, ()), (n, ()), ()) = some (two (busyIt l b r m n)) := by
  intro m
  induction m with
  | zero =>
    intro i k n hd hk h0 h1
    obtain ⟨k, rfl⟩ : ∃ j, k = j + 1 := ⟨k - 1, by omega⟩
    rw [loopN_succ, Busy_14_L7, busyIt_zero]
    try dsimp only
    rw [byB_f (by omega)]
  | succ m ih =>
    intro i k n hd hk h0 h1
    obtain ⟨k, rfl⟩ : ∃ j, k = j + 1 := ⟨k - 1, by omega⟩
    have hnx : IntKind.wrap .i64 ((i : Int) + 1) = ((i + 1 : Nat) : Int) := by rw [w64 (by omega) (by omega)]; omega
    rw [loopN_succ, Busy_14_L7, busyIt_succ]
    try dsimp only
    rw [byB_t (by omega), come_at ⟨h0, h1⟩ h hN, bnd, hnx]
    try dsimp only
    by_cases c : b + csum n r l > 9223372036854775807
    · rw [tot_no (by omega), if_pos c]
      try dsimp only
      rw [byB_net (by decide)]
    · rw [tot_ok (by omega), if_neg c]
      try dsimp only
      rw [byB_nef rfl]
      by_cases c2 : b + csum n r l ≤ n
      · rw [byB_t c2, if_pos c2]
      · rw [byB_f c2, if_neg c2, ih (i + 1) k _ (by omega) (by omega) (by omega) (by omega)]
theorem busy_at {N : Nat} {b r : Int} (l : List Wk) (hl : l.length * 32 ≤ 140737488351232) (hN : 6000 ≤ N) (hN2 : l.length < N) : Busy_14 N ((l, b, r, ()), ()) = some (two (busyS l b r)) := by
  unfold Busy_14 busyS
  try dsimp only
  rw [right_at (by omega) l hl hN2, bnd, byB_not]
  try dsimp only
  by_cases c : rt l b r = true
  · obtain ⟨h1, h2, h3⟩ := rt_of c
    rw [c, byB_true, if_pos rfl, full_at (by omega) l h1 h2 (by omega), bnd]
    try dsimp only
    by_cases c2 : fullS l r = true
    · rw [c2, byB_true, if_pos rfl]
    · have c2' : fullS l r = false := by simpa using c2
      rw [c2', byB_false, if_neg (by decide)]
      have := busy_loop (N := N) l c (by omega) steps 0 N 1 (by rw [steps_eq]) (by rw [steps_eq]; omega) (by omega) (by omega)
      have e0 : ((0 : Nat) : Int) = 0 := rfl
      rw [e0] at this
      exact this
  · have c2 : rt l b r = false := by simpa using c
    rw [c2, byB_false, if_neg (by decide)]
/-! of the document -/
theorem rcome_err {N : Nat} {t r s : Int} (l : List Wk) (i : Int) (k : Nat) (hk : 0 < k) : loopN k (comes_33_L4 N) ((l, r, t, s, 2, i, ()), ()) = some ((0, 2, ()), ()) := by
  obtain ⟨k, rfl⟩ : ∃ j, k = j + 1 := ⟨k - 1, by omega⟩
  rw [loopN_succ, comes_33_L4]
  try dsimp only
  rw [byB_eqf (by decide), byB_net (by decide)]
  exact byB_same
theorem rcome_loop {N : Nat} {t r : Int} (ht : 1 ≤ t ∧ t ≤ 9223372036854775807) (hr : 0 ≤ r ∧ r ≤ 1099511627776) (l : List Wk) (hw : ∀ x ∈ l, wok x = true) (hl : l.length ≤ 72) : ∀ (d i k : Nat) (n : Int), i + d = l.length → d + 1 < k → 0 ≤ n → n ≤ 9223372036854775807 →
    loopN k (comes_33_L4 N) ((l, r, t, n, 0, (i : Int), ()), ()) = some (two (tot (n + csum t r (l.drop i)))) := by
  intro d
  induction d with
  | zero =>
    intro i k n hd hk h0 h1
    obtain ⟨k, rfl⟩ : ∃ j, k = j + 1 := ⟨k - 1, by omega⟩
    rw [loopN_succ, comes_33_L4]
    try dsimp only
    rw [byB_f (by omega), byB_nef rfl, List.drop_of_length_le (by omega), csum_nil, Int.add_zero, tot_ok h1]
  | succ d ih =>
    intro i k n hd hk h0 h1
    obtain ⟨k, rfl⟩ : ∃ j, k = j + 1 := ⟨k - 1, by omega⟩
    have hi : i < l.length := by omega
    have hnx : IntKind.wrap .i64 ((i : Int) + 1) = ((i + 1 : Nat) : Int) := by rw [w64 (by omega) (by omega)]; omega
    have hx := hw _ (getD_mem (d := (0, 0, 0, false)) hi)
    have hs := csum_nonneg ht.1 hr.1 (l := l.drop (i + 1)) (fun y hy => hw y (List.mem_of_mem_drop hy))
    have ih2 := fun s h0 h1 => ih (i + 1) k s (by omega) (by omega) h0 h1
    have err := fun s => rcome_err (N := N) (t := t) (r := r) (s := s) l ((i + 1 : Nat) : Int) k (by omega)
    rw [loopN_succ, comes_33_L4]
    try dsimp only
    rw [byB_t (by omega), byB_eqt rfl, if_pos (by omega), Int.toNat_natCast, hnx, drop_getD (d := (0, 0, 0, false)) hi, csum_cons]
    generalize l.getD i (0, 0, 0, false) = x at *
    generalize csum t r (l.drop (i + 1)) = S at *
    obtain ⟨w0, w1, p0, p1, d0, d1⟩ := wok_of hx
    have hc := cd_pos ht.1 p0
    have hr0 : 0 ≤ (cd t x.2.1 + 2) * r := Int.mul_nonneg (by omega) (by omega)
    have hw0 : 0 ≤ (cd t x.2.1 + 1) * x.1 := Int.mul_nonneg (by omega) (by omega)
    rw [up_at ht ⟨p0, p1⟩, bnd]
    try dsimp only
    rw [radd_tot2 (by omega) (by omega), bnd]
    unfold c1
    by_cases c : cd t x.2.1 + 2 > 9223372036854775807
    · rw [if_pos c, tot_no (by omega), tot_no (by omega)]
      simp only [two]
      rw [byB_net (by decide)]
    · rw [if_neg c, tot_ok (by omega)]
      simp only [two]
      have e1 : cd t x.2.1 + 2 - 1 = cd t x.2.1 + 1 := by omega
      rw [byB_nef rfl, if_pos (by omega), e1, w64 (by omega) (by omega), rtimes_at (by omega) (by omega) (by omega), bnd]
      by_cases c2 : n + (cd t x.2.1 + 1) * x.1 ≤ 9223372036854775807
      · rw [tot_ok c2]
        simp only [two]
        rw [byB_eqt rfl, rtimes_at (by omega) (by omega) (by omega), bnd]
        by_cases c3 : n + (cd t x.2.1 + 1) * x.1 + (cd t x.2.1 + 2) * r ≤ 9223372036854775807
        · rw [tot_ok c3]
          simp only [two]
          rw [ih2 _ (by omega) c3]
          have e : n + (cd t x.2.1 + 1) * x.1 + (cd t x.2.1 + 2) * r + S = n + ((cd t x.2.1 + 1) * x.1 + (cd t x.2.1 + 2) * r + S) := by omega
          rw [e]
        · rw [tot_no c3]
          simp only [two]
          rw [err, tot_no (by omega)]
      · rw [tot_no c2]
        simp only [two]
        rw [byB_eqf (by decide), err, tot_no (by omega)]
theorem rcome_at {N : Nat} {t b r : Int} (ht : 1 ≤ t ∧ t ≤ 9223372036854775807) {l : List Wk} (h : rt l b r = true) (hN : 300 ≤ N) :
    comes_33 N ((l, b, r, t, ()), ()) = some (two (tot (b + csum t r l))) := by
  obtain ⟨h1, h2, h3⟩ := rt_of h
  have := rcome_loop (N := N) (t := t) (r := r) ht (by omega) l h1 h2 l.length 0 N b (by omega) (by omega) (by omega) (by omega)
  have e0 : ((0 : Nat) : Int) = 0 := rfl
  rw [e0, List.drop_zero] at this
  exact this
theorem rbusy_loop {N : Nat} {b r : Int} (l : List Wk) (h : rt l b r = true) (hN : 300 ≤ N) : ∀ (m i k : Nat) (n : Int), i + m = 5000 → m < k → 1 ≤ n → n ≤ 9223372036854775807 →
    loopN k (Busy_15_L16 N) ((l, b, r, n, (i : Int), ()), ()) = some (two (busyIt l b r m n)) := by
  intro m
  induction m with
  | zero =>
    intro i k n hd hk h0 h1
    obtain ⟨k, rfl⟩ : ∃ j, k = j + 1 := ⟨k - 1, by omega⟩
    rw [loopN_succ, Busy_15_L16, busyIt_zero]
    try dsimp only
    rw [byB_f (by omega)]
  | succ m ih =>
    intro i k n hd hk h0 h1
    obtain ⟨k, rfl⟩ : ∃ j, k = j + 1 := ⟨k - 1, by omega⟩
    have hnx : IntKind.wrap .i64 ((i : Int) + 1) = ((i + 1 : Nat) : Int) := by rw [w64 (by omega) (by omega)]; omega
    rw [loopN_succ, Busy_15_L16, busyIt_succ]
    try dsimp only
    rw [byB_t (by omega), rcome_at ⟨h0, h1⟩ h hN, bnd, hnx]
    try dsimp only
    by_cases c : b + csum n r l > 9223372036854775807
    · rw [tot_no (by omega), if_pos c]
      simp only [two]
      rw [byB_net (by decide)]
    · rw [tot_ok (by omega), if_neg c]
      simp only [two]
      rw [byB_nef rfl]
      by_cases c2 : b + csum n r l ≤ n
      · rw [byB_t c2, if_pos c2]
      · rw [byB_f c2, if_neg c2, ih (i + 1) k _ (by omega) (by omega) (by omega) (by omega)]
theorem rfull_loop {N : Nat} {b r : Int} (l : List Wk) (h : rt l b r = true) (hN : 6000 ≤ N) : ∀ (d i k : Nat), i + d = l.length → d < k →
    loopN k (Busy_15_L7 N) ((l, b, r, (), (), (i : Int), ()), fw r (l.take i), ft (l.take i), ()) = some (two (if fullS l r = true then (0, 12) else busyIt l b r steps 1)) := by
  obtain ⟨hw, hl, h3⟩ := rt_of h
  intro d
  induction d with
  | zero =>
    intro i k hd hk
    obtain ⟨k, rfl⟩ : ∃ j, k = j + 1 := ⟨k - 1, by omega⟩
    have := rbusy_loop (N := N) l h (by omega) steps 0 N 1 (by rw [steps_eq]) (by rw [steps_eq]; omega) (by omega) (by omega)
    have e0 : ((0 : Nat) : Int) = 0 := rfl
    rw [e0] at this
    rw [loopN_succ, Busy_15_L7]
    try dsimp only
    rw [byB_f (by omega), List.take_of_length_le (by omega), (load_tells (by omega) hw hl (by omega)).2, bnd, this]
    unfold fullS
    by_cases c : lsum r l ≤ 9223372036854775807
    · rw [tot_ok c]
      simp only [two]
      rw [byB_nef rfl]
      by_cases c2 : lsum r l > 4294967296
      · rw [byB_t c2, decide_eq_true c2, if_pos rfl]
      · rw [byB_f c2, decide_eq_false c2, if_neg (by decide)]
    · rw [tot_no c, decide_eq_true (show lsum r l > 4294967296 by omega), if_pos rfl]
      simp only [two]
      rw [byB_net (by decide)]
  | succ d ih =>
    intro i k hd hk
    obtain ⟨k, rfl⟩ : ∃ j, k = j + 1 := ⟨k - 1, by omega⟩
    have hi : i < l.length := by omega
    have hnx : IntKind.wrap .i64 ((i : Int) + 1) = ((i + 1 : Nat) : Int) := by rw [w64 (by omega) (by omega)]; omega
    have e := ih (i + 1) k (by omega) (by omega)
    rw [take_succ_getD (d := (0, 0, 0, false)) hi, fw_app, ft_app] at e
    have h1 : (fw r (l.take i)).length = 2 * i := by rw [fw_len]; simp; omega
    have h2 : (ft (l.take i)).length = 2 * i := by rw [ft_len]; simp; omega
    rw [loopN_succ, Busy_15_L7]
    try dsimp only
    rw [byB_t (by omega), if_pos (by omega), if_pos (by rw [h1]; omega), if_pos (by omega), if_pos (by omega), if_pos (by rw [h2]; omega), Int.toNat_natCast, hnx]
    exact e
theorem rbusy_at {N : Nat} {b r : Int} (l : List Wk) (hN : 6000 ≤ N) : Busy_15 N ((l, b, r, ()), ()) = some (two (busyS l b r)) := by
  unfold Busy_15 busyS
  try dsimp only
  rw [rright_at (by omega) l, bnd, byB_not]
  try dsimp only
  by_cases c : rt l b r = true
  · obtain ⟨h1, h2, h3⟩ := rt_of c
    rw [c, byB_true, if_pos rfl]
    have := rfull_loop (N := N) l c hN l.length 0 N (by omega) (by omega)
    exact this
  · have c2 : rt l b r = false := by simpa using c
    rw [c2, byB_false, if_neg (by decide)]
end Go.Proofs.YtabdnglgdbjbiaaC
