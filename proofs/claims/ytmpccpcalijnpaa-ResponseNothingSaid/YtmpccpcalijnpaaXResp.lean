/- Chapter 16: what there may be to do within some ticks, as numbers; the calls that tell it. Conditions: as each theorem states them. -/
import Derived.Test.YtmpccpcalijnpaaXAR
namespace Go.Proofs.YtmpccpcalijnpaaC
open Go Go.Proofs.YtmpccpcalijnpaaM Go.Proofs.YtmpccpcalijnpaaX Go.Proofs.YtmpccpcalijnpaaL Go.Proofs.YtmpccpcalijnpaaQ
set_option linter.unusedVariables false
set_option linter.unusedSimpArgs false

/-- A load. -/
abbrev Ld := Int × Int × Int
def bad (n : Int) : Bool := decide (n < 0) || decide (n > 1099511627776)
theorem bad_f {n : Int} : bad n = false ↔ 0 ≤ n ∧ n ≤ 1099511627776 := by
  unfold bad
  simp only [Bool.or_eq_false_iff, decide_eq_false_iff_not]
  omega
def lok (x : Ld) : Bool := decide (0 ≤ x.1 ∧ x.1 ≤ 1099511627776 ∧ 1 ≤ x.2.1 ∧ x.2.1 ≤ 1099511627776 ∧ 0 ≤ x.2.2 ∧ x.2.2 ≤ 1099511627776)
theorem lok_of {x : Ld} (h : lok x = true) : 0 ≤ x.1 ∧ x.1 ≤ 1099511627776 ∧ 1 ≤ x.2.1 ∧ x.2.1 ≤ 1099511627776 ∧ 0 ≤ x.2.2 ∧ x.2.2 ≤ 1099511627776 := by
  unfold lok at h
  exact of_decide_eq_true h
def lsok (l : List Ld) : Bool := decide ((l.length : Int) ≤ 72) && l.all lok
theorem lsok_of {l : List Ld} (h : lsok l = true) : (l.length : Int) ≤ 72 ∧ ∀ x ∈ l, lok x = true := by
  unfold lsok at h
  simp only [Bool.and_eq_true, decide_eq_true_eq, List.all_eq_true] at h
  exact h
def tms (o b r : Int) : Bool := decide (0 ≤ o ∧ o ≤ 1099511627776 ∧ 0 ≤ b ∧ b ≤ 1099511627776 ∧ 0 ≤ r ∧ r ≤ 1099511627776)
theorem tms_of {o b r : Int} (h : tms o b r = true) : 0 ≤ o ∧ o ≤ 1099511627776 ∧ 0 ≤ b ∧ b ≤ 1099511627776 ∧ 0 ≤ r ∧ r ≤ 1099511627776 := by
  unfold tms at h
  exact of_decide_eq_true h
def rt (o b r : Int) (A L : List Ld) : Bool := tms o b r && (lsok A && lsok L)
theorem rt_of {o b r : Int} {A L : List Ld} (h : rt o b r A L = true) : tms o b r = true ∧ lsok A = true ∧ lsok L = true := by
  unfold rt at h
  simpa only [Bool.and_eq_true] using h

theorem drop_any {α : Type} {l : List α} {i : Nat} {d : α} (h : i < l.length) (p : α → Bool) : (l.drop i).any p = (p (l.getD i d) || (l.drop (i + 1)).any p) := by
  rw [drop_getD (d := d) h, List.any_cons]

theorem index_at {N : Nat} {l : List Int} (hl : (l.length : Int) ≤ 9223372036854775806) (hN : l.length < N) : Ev (IndexFuncintint_35 N ((l, (), ()), ())) fun r => decide (r.1.1 ≥ 0) = l.any bad := by
  unfold IndexFuncintint_35
  dsimp only
  refine Ev.loop (k := l.length) (fun k s => ∃ i : Nat, s = ((l, (), (l.length : Int), (i : Int), ()), ()) ∧ i + k = l.length ∧ (l.drop i).any bad = l.any bad) ?_ ⟨0, rfl, by omega, by simp⟩ hN
  rintro k s again ⟨i, rfl, hk, hi⟩ ih
  unfold IndexFuncintint_35_L2
  dsimp only
  by_cases h : (i : Int) < l.length
  · have hin : i < l.length := by omega
    rw [byB_t h, if_pos ⟨by omega, h⟩, Int.toNat_natCast]
    rw [drop_any (d := 0) hin] at hi
    unfold time1_32
    dsimp only
    by_cases h1 : l.getD i 0 < 0
    · rw [byB_t h1, bnd, byB_true]
      refine Ev.mk ?_
      have hb : bad (l.getD i 0) = true := by unfold bad; rw [decide_eq_true h1]; rfl
      rw [← hi, hb, Bool.true_or]
      exact decide_eq_true (show (i : Int) ≥ 0 by omega)
    · rw [byB_f h1, bnd]
      by_cases h2 : l.getD i 0 > 1099511627776
      · rw [byB_t h2]
        refine Ev.mk ?_
        have hb : bad (l.getD i 0) = true := by unfold bad; rw [decide_eq_true h2, Bool.or_true]
        rw [← hi, hb, Bool.true_or]
        exact decide_eq_true (show (i : Int) ≥ 0 by omega)
      · rw [byB_f h2, w64 (by omega) (by omega)]
        refine ih (k - 1) _ (by omega) ⟨i + 1, by simp, by omega, ?_⟩
        have hb : bad (l.getD i 0) = false := bad_f.2 ⟨by omega, by omega⟩
        rw [← hi, hb, Bool.false_or]
  · rw [byB_f h]
    refine Ev.mk ?_
    rw [← hi, List.drop_eq_nil_of_le (by omega)]
    rfl
theorem time_at {N : Nat} {l : List Int} (hl : (l.length : Int) ≤ 9223372036854775806) (hN : l.length < N) : time_22 N ((l, ()), ()) = some ((!l.any bad, ()), ()) := by
  unfold time_22 ContainsFuncintint_31
  dsimp only
  refine Ev.eq (Q := fun r => r = ((!l.any bad, ()), ())) ?_ fun s h => h
  refine Ev.bind (Q := fun r => r.1.1 = l.any bad) (Ev.bind (index_at hl hN) fun s hs => Ev.mk hs) fun s hs => Ev.mk ?_
  rw [hs]
theorem load1_at {N : Nat} (hN : 3 < N) (x : Ld) : loads1_34 N (((x.1, x.2.1, x.2.2, ()), ()), ()) = some ((!lok x, ()), ()) := by
  unfold loads1_34
  dsimp only
  rw [time_at (by simp) hN, bnd]
  dsimp only
  have e : ([x.1, x.2.1, x.2.2] : List Int).any bad = (bad x.1 || (bad x.2.1 || bad x.2.2)) := by simp
  rw [e, Bool.not_not]
  cases hb : (bad x.1 || (bad x.2.1 || bad x.2.2)) with
  | true =>
    rw [byB_true]
    have : lok x = false := by
      cases hl : lok x with
      | false => rfl
      | true =>
        have h := lok_of hl
        have h1 : bad x.1 = false := bad_f.2 ⟨by omega, by omega⟩
        have h2 : bad x.2.1 = false := bad_f.2 ⟨by omega, by omega⟩
        have h3 : bad x.2.2 = false := bad_f.2 ⟨by omega, by omega⟩
        rw [h1, h2, h3] at hb
        cases hb
    rw [this]; rfl
  | false =>
    rw [byB_false]
    simp only [Bool.or_eq_false_iff, bad_f] at hb
    have : (x.2.1 == 0) = !lok x := by
      by_cases h : x.2.1 = 0
      · have : lok x = false := by
          unfold lok
          simp only [decide_eq_false_iff_not]
          omega
        rw [this]; simp [h]
      · have : lok x = true := by
          unfold lok
          simp only [decide_eq_true_eq]
          omega
        rw [this]; simp [h]
    rw [this]
theorem indexL_at {N : Nat} {l : List Ld} (hl : (l.length : Int) ≤ 72) (hN : 100 < N) : Ev (Load_36 N ((l, (), ()), ())) fun r => decide (r.1.1 ≥ 0) = l.any fun x => !lok x := by
  unfold Load_36
  dsimp only
  refine Ev.loop (k := l.length) (fun k s => ∃ i : Nat, s = ((l, (), (l.length : Int), (i : Int), ()), ()) ∧ i + k = l.length ∧ ((l.drop i).any fun x => !lok x) = l.any fun x => !lok x) ?_ ⟨0, rfl, by omega, by simp⟩ (by omega)
  rintro k s again ⟨i, rfl, hk, hi⟩ ih
  unfold Load_36_L2
  dsimp only
  by_cases h : (i : Int) < l.length
  · have hin : i < l.length := by omega
    rw [byB_t h, if_pos ⟨by omega, h⟩, Int.toNat_natCast]
    rw [drop_any (d := (0, 0, 0)) hin] at hi
    rw [load1_at (by omega), bnd]
    dsimp only
    cases hb : lok (l.getD i (0, 0, 0)) with
    | false =>
      rw [Bool.not_false, byB_true]
      refine Ev.mk ?_
      rw [← hi, hb]
      simp
    | true =>
      rw [Bool.not_true, byB_false, w64 (by omega) (by omega)]
      refine ih (k - 1) _ (by omega) ⟨i + 1, by simp, by omega, ?_⟩
      rw [← hi, hb]
      rfl
  · rw [byB_f h]
    refine Ev.mk ?_
    rw [← hi, List.drop_eq_nil_of_le (by omega)]
    rfl
theorem any_not {l : List Ld} : (!l.any fun x => !lok x) = l.all lok := by
  induction l with
  | nil => rfl
  | cons x l ih => rw [List.any_cons, List.all_cons, ← ih]; simp
theorem loads_at {N : Nat} (hN : 100 < N) (l : List Ld) : loads_23 N ((l, ()), ()) = some ((lsok l, ()), ()) := by
  unfold loads_23
  dsimp only
  by_cases h : (l.length : Int) ≤ 72
  · rw [byB_t h]
    unfold Load_33
    dsimp only
    refine Ev.eq (Q := fun r => r = ((lsok l, ()), ())) ?_ fun s h => h
    refine Ev.bind (Q := fun r => r.1.1 = l.any fun x => !lok x) (Ev.bind (indexL_at h hN) fun s hs => Ev.mk hs) fun s hs => Ev.mk ?_
    rw [hs, any_not]
    unfold lsok
    simp [h]
  · rw [byB_f h]
    unfold lsok
    simp [h]
theorem right_at {N : Nat} (hN : 100 < N) (o b r : Int) (A L : List Ld) : right_15 N ((o, b, r, A, L, ()), ()) = some ((rt o b r A L, ()), ()) := by
  unfold right_15
  dsimp only
  rw [time_at (by simp) (by simp; omega), bnd]
  have e : (!([o, b, r] : List Int).any bad) = tms o b r := by
    unfold tms bad
    simp only [List.any_cons, List.any_nil, Bool.or_false]
    rw [Bool.eq_iff_iff]
    simp
    omega
  dsimp only
  rw [e]
  unfold rt
  cases tms o b r with
  | false => rfl
  | true =>
    rw [byB_true, loads_at hN, bnd]
    dsimp only
    cases lsok A with
    | false => rfl
    | true => rw [byB_true, loads_at hN, bnd]; rfl

/-- How often. -/
def cnt (n : Int) (x : Ld) : Int := (n + x.2.2 + x.2.1 - 1) / x.2.1
theorem cnt_range {n : Int} {x : Ld} (hx : lok x = true) (hn : 0 ≤ n) : 0 ≤ cnt n x ∧ cnt n x ≤ n + x.2.2 := by
  have h := lok_of hx
  unfold cnt
  constructor
  · exact Int.ediv_nonneg (by omega) (by omega)
  · have : (n + x.2.2 + x.2.1 - 1) / x.2.1 < n + x.2.2 + 1 := Int.ediv_lt_of_lt_mul (by omega) (by
      have := Int.mul_le_mul_of_nonneg_left (show (1 : Int) ≤ x.2.1 by omega) (show 0 ≤ n + x.2.2 by omega)
      rw [Int.add_mul]
      omega)
    omega
theorem cnt_mono {n m : Int} {x : Ld} (hx : lok x = true) (h : n ≤ m) : cnt n x ≤ cnt m x := by
  have := lok_of hx
  unfold cnt
  exact Int.ediv_le_ediv (by omega) (by omega)
theorem parts1_at {N : Nat} {n : Int} {x : Ld} (hx : lok x = true) (hn : 0 ≤ n) (hm : n ≤ 4611686018427387904) : parts1_24 N (((x.1, x.2.1, x.2.2, ()), (), ()), (n, ()), ()) = some ((cnt n x, ()), (n, ()), ()) := by
  have h := lok_of hx
  have hc := cnt_range hx hn
  unfold parts1_24
  dsimp only
  rw [if_neg (by omega), w64 (n := n + x.2.2) (by omega) (by omega), w64 (n := n + x.2.2 + x.2.1) (by omega) (by omega), w64 (n := n + x.2.2 + x.2.1 - 1) (by omega) (by omega),
    Int.tdiv_eq_ediv_of_nonneg (by omega)]
  unfold cnt at hc ⊢
  rw [w64 (by omega) (by omega)]

/-- A sum, as far as it goes. -/
def sg (f : Ld → Int) : List Ld → Int
  | [] => 0
  | x :: l => f x + sg f l
theorem sg_nonneg {f : Ld → Int} : ∀ {l : List Ld}, (∀ x ∈ l, 0 ≤ f x) → 0 ≤ sg f l
  | [], _ => Int.le_refl _
  | x :: l, h => by
    have h1 := h x (by simp)
    have h2 := sg_nonneg (l := l) fun y hy => h y (by simp [hy])
    simp only [sg]
    omega
theorem sg_drop {f : Ld → Int} {l : List Ld} {i : Nat} (h : i < l.length) : sg f (l.drop i) = f (l.getD i (0, 0, 0)) + sg f (l.drop (i + 1)) := by
  rw [drop_getD (d := (0, 0, 0)) h, sg]

/-- A round: so much more. -/
theorem round_at {N : Nat} {m w s a b : Int} (hm0 : 0 ≤ m) (hm : m ≤ 9223372036854775807) (hw0 : 0 ≤ w) (hw : w ≤ 9223372036854775807) (hs0 : 0 ≤ s) (hs : s ≤ 4611686018427387904) :
    Ev (Within_10_R7 N (((), (), (), m, w, ()), (s, ()), (a, ()), (b, ()), ())) fun r =>
      (r.1.1 = false ∧ r.2.1.1 = s + m * w ∧ r.2.2.1.1 = a ∧ r.2.2.2.1.1 = b ∧ s + m * w ≤ 4611686018427387904) ∨ (r.1.1 = true ∧ r.2.2.1.1 = 0 ∧ r.2.2.2.1.1 = 2 ∧ ¬ s + m * w ≤ 4611686018427387904) := by
  have hp : 0 ≤ m * w := Int.mul_nonneg hm0 hw0
  unfold Within_10_R7
  dsimp only
  rw [mul_at (wf64_mk (by omega) hm) (wf64_mk (by omega) hw), bnd]
  by_cases h1 : m * w ≤ 9223372036854775807
  · rw [MulS_ok (by omega) h1]
    dsimp only
    rw [byB_eqt rfl, add_at (wf64_mk (by omega) (by omega)) (wf64_mk (by omega) h1), bnd]
    by_cases h2 : s + m * w ≤ 9223372036854775807
    · rw [AddS_ok (by omega) h2]
      dsimp only
      rw [byB_nef rfl]
      by_cases h3 : s + m * w > 4611686018427387904
      · rw [byB_t h3]; exact Ev.mk (.inr ⟨rfl, rfl, rfl, by omega⟩)
      · rw [byB_f h3]; exact Ev.mk (.inl ⟨rfl, rfl, rfl, rfl, by omega⟩)
    · rw [AddS_over (by omega)]
      dsimp only
      rw [byB_net (by decide)]
      exact Ev.mk (.inr ⟨rfl, rfl, rfl, by omega⟩)
  · rw [MulS_over (by omega)]
    dsimp only
    rw [byB_eqf (by decide), byB_net (by decide)]
    exact Ev.mk (.inr ⟨rfl, rfl, rfl, by omega⟩)

def wA (n : Int) (x : Ld) : Int := cnt n x * x.1
def wL (n r : Int) (x : Ld) : Int := (cnt n x + 1) * r
theorem wA_nonneg {n : Int} {x : Ld} (hx : lok x = true) (hn : 0 ≤ n) : 0 ≤ wA n x := Int.mul_nonneg (cnt_range hx hn).1 (lok_of hx).1
theorem wL_nonneg {n r : Int} {x : Ld} (hx : lok x = true) (hn : 0 ≤ n) (hr : 0 ≤ r) : 0 ≤ wL n r x := Int.mul_nonneg (by have := (cnt_range hx hn).1; omega) hr

/-- What the loop over all parts leaves. -/
def Left (t : Int) (r : Unit × (((Unit × (Unit × (Unit × Unit))) × Bool) × ((List (Int × (Int × Int)) × Unit) × ((Unit × Unit) × ((List (Int × (Int × Int)) × Unit) × ((Int × Unit) × ((Int × Unit) × ((Int × Unit) × ((Int × Unit) × ((Unit × (Unit × Unit)) × ((Int × Unit) × Unit)))))))))))  : Prop :=
  (r.2.1.2 = false ∧ r.2.2.2.2.2.2.1.1 = t ∧ t ≤ 4611686018427387904) ∨ (r.2.1.2 = true ∧ r.2.2.2.2.2.2.2.1.1 = 0 ∧ r.2.2.2.2.2.2.2.2.1.1 = 2 ∧ ¬ t ≤ 4611686018427387904)

theorem loop6_at {N : Nat} {n r t s : Int} {A L : List Ld} (hn0 : 0 ≤ n) (hn : n ≤ 4611686018427387904) (hr0 : 0 ≤ r) (hr : r ≤ 1099511627776) (hL : lsok L = true) (hN : 100 < N) (hs0 : 0 ≤ s) (hs : s ≤ 4611686018427387904) (ht : t = s + sg (wL n r) L) :
    Ev (loopN N (parts2_25v1_L6 N) (((), (), (), L, (L.length : Int), 0, ()), (((), (), (), ()), false), (A, ()), ((), ()), (L, ()), (r, ()), (s, ()), (0, ()), (0, ()), ((), (), ()), (n, ()), ())) (Left t) := by
  obtain ⟨hlen, hall⟩ := lsok_of hL
  refine Ev.loop (k := L.length) (fun k st => ∃ (i : Nat) (v : Int), st = (((), (), (), L, (L.length : Int), (i : Int), ()), (((), (), (), ()), false), (A, ()), ((), ()), (L, ()), (r, ()), (v, ()), (0, ()), (0, ()), ((), (), ()), (n, ()), ()) ∧ i + k = L.length ∧ 0 ≤ v ∧ v ≤ 4611686018427387904 ∧ t = v + sg (wL n r) (L.drop i)) ?_ ⟨0, s, rfl, by omega, hs0, hs, by simpa using ht⟩ (by omega)
  rintro k st again ⟨i, v, rfl, hk, hv0, hv, hi⟩ ih
  unfold parts2_25v1_L6
  dsimp only
  by_cases h : (i : Int) < L.length
  · have hin : i < L.length := by omega
    rw [byB_t h, if_pos ⟨by omega, h⟩, Int.toNat_natCast]
    have hx := hall _ (getD_mem (d := ((0, 0, 0) : Ld)) hin)
    rw [parts1_at hx hn0 hn, bnd]
    dsimp only
    have hc := cnt_range hx hn0
    have hlo := lok_of hx
    rw [sg_drop hin] at hi
    have hrest : 0 ≤ sg (wL n r) (L.drop (i + 1)) := sg_nonneg fun y hy => wL_nonneg (hall y (List.mem_of_mem_drop hy)) hn0 hr0
    rw [byB_false, w64 (n := cnt n (L.getD i (0, 0, 0)) + 1) (by omega) (by omega)]
    refine Ev.bind (round_at (N := N) (m := cnt n (L.getD i (0, 0, 0)) + 1) (w := r) (s := v) (a := 0) (b := 0) (by omega) (by omega) hr0 (by omega) hv0 hv) ?_
    rintro y (⟨y1, y2, y3, y4, y5⟩ | ⟨y1, y2, y3, y4⟩)
    · rw [y1, byB_false, y2, y3, y4, w64 (by omega) (by omega)]
      refine ih (k - 1) _ (by omega) ⟨i + 1, _, rfl, by omega, ?_, y5, ?_⟩
      · have := Int.mul_nonneg (show 0 ≤ cnt n (L.getD i (0, 0, 0)) + 1 by omega) hr0; omega
      · rw [hi]; unfold wL; omega
    · rw [y1, byB_true, y2, y3]
      refine Ev.mk (.inr ⟨rfl, rfl, rfl, ?_⟩)
      rw [hi]; unfold wL at hrest ⊢; omega
  · rw [byB_f h]
    refine Ev.mk (.inl ⟨rfl, ?_, ?_⟩)
    · rw [hi, List.drop_eq_nil_of_le (by omega)]; simp [sg]
    · rw [hi, List.drop_eq_nil_of_le (by omega)]; simpa [sg] using hv
theorem parts_loop {N : Nat} {n r t s : Int} {A L : List Ld} (hn0 : 0 ≤ n) (hn : n ≤ 4611686018427387904) (hr0 : 0 ≤ r) (hr : r ≤ 1099511627776) (hA : lsok A = true) (hL : lsok L = true) (hN : 100 < N) (hs0 : 0 ≤ s) (hs : s ≤ 4611686018427387904) (ht : t = s + sg (wA n) A + sg (wL n r) L) :
    Ev (parts2_25v1 N (((), (), (), (), (), ()), (((), (), (), ()), false), (A, ()), ((), ()), (L, ()), (r, ()), (s, ()), (0, ()), (0, ()), ((), (), ()), (n, ()), ())) (Left t) := by
  obtain ⟨hlen, hall⟩ := lsok_of hA
  obtain ⟨hlen', hall'⟩ := lsok_of hL
  unfold parts2_25v1
  dsimp only
  have htail : 0 ≤ sg (wL n r) L := sg_nonneg fun y hy => wL_nonneg (hall' y hy) hn0 hr0
  refine Ev.loop (k := A.length) (fun k st => ∃ (i : Nat) (v : Int), st = (((), (), (), (), A, (A.length : Int), (i : Int), ()), (((), (), (), ()), false), (A, ()), ((), ()), (L, ()), (r, ()), (v, ()), (0, ()), (0, ()), ((), (), ()), (n, ()), ()) ∧ i + k = A.length ∧ 0 ≤ v ∧ v ≤ 4611686018427387904 ∧ t = v + sg (wA n) (A.drop i) + sg (wL n r) L) ?_ ⟨0, s, rfl, by omega, hs0, hs, by simpa using ht⟩ (by omega)
  rintro k st again ⟨i, v, rfl, hk, hv0, hv, hi⟩ ih
  unfold parts2_25v1_L1
  dsimp only
  by_cases h : (i : Int) < A.length
  · have hin : i < A.length := by omega
    rw [byB_t h, if_pos ⟨by omega, h⟩, Int.toNat_natCast]
    have hx := hall _ (getD_mem (d := ((0, 0, 0) : Ld)) hin)
    rw [parts1_at hx hn0 hn, bnd]
    dsimp only
    have hc := cnt_range hx hn0
    have hlo := lok_of hx
    rw [sg_drop hin] at hi
    have hrest : 0 ≤ sg (wA n) (A.drop (i + 1)) := sg_nonneg fun y hy => wA_nonneg (hall y (List.mem_of_mem_drop hy)) hn0
    rw [byB_false]
    refine Ev.bind (round_at (N := N) (m := cnt n (A.getD i (0, 0, 0))) (w := (A.getD i (0, 0, 0)).1) (s := v) (a := 0) (b := 0) hc.1 (by omega) hlo.1 (by omega) hv0 hv) ?_
    rintro y (⟨y1, y2, y3, y4, y5⟩ | ⟨y1, y2, y3, y4⟩)
    · rw [y1, byB_false, y2, y3, y4, w64 (by omega) (by omega)]
      refine ih (k - 1) _ (by omega) ⟨i + 1, _, rfl, by omega, ?_, y5, ?_⟩
      · have := Int.mul_nonneg hc.1 hlo.1; omega
      · rw [hi]; unfold wA; omega
    · rw [y1, byB_true, y2, y3]
      refine Ev.mk (.inr ⟨rfl, rfl, rfl, ?_⟩)
      rw [hi]; unfold wA at hrest ⊢; omega
  · rw [byB_f h]
    refine loop6_at hn0 hn hr0 hr hL hN hv0 hv ?_
    rw [hi, List.drop_eq_nil_of_le (by omega)]; simp [sg]

/-- What there may be to do. -/
def tot (o b r : Int) (A L : List Ld) (n : Int) : Int := o + b + sg (wA n) A + sg (wL n r) L
def WS (o b r : Int) (A L : List Ld) (n : Int) : Int × Int :=
  if rt o b r A L = true ∧ 0 ≤ n ∧ n ≤ 4611686018427387904 then (if tot o b r A L n ≤ 4611686018427387904 then (tot o b r A L n, 0) else (0, 2)) else (0, 1)
theorem WS_bad {o b r : Int} {A L : List Ld} {n : Int} (h : ¬ (rt o b r A L = true ∧ 0 ≤ n ∧ n ≤ 4611686018427387904)) : WS o b r A L n = (0, 1) := by unfold WS; rw [if_neg h]
theorem WS_ok {o b r : Int} {A L : List Ld} {n : Int} (h : rt o b r A L = true ∧ 0 ≤ n ∧ n ≤ 4611686018427387904) (k : tot o b r A L n ≤ 4611686018427387904) : WS o b r A L n = (tot o b r A L n, 0) := by unfold WS; rw [if_pos h, if_pos k]
theorem WS_over {o b r : Int} {A L : List Ld} {n : Int} (h : rt o b r A L = true ∧ 0 ≤ n ∧ n ≤ 4611686018427387904) (k : ¬ tot o b r A L n ≤ 4611686018427387904) : WS o b r A L n = (0, 2) := by unfold WS; rw [if_pos h, if_neg k]
theorem within_at {N : Nat} (hN : 100 < N) (o b r : Int) (A L : List Ld) (n : Int) : Within_10 N ((o, b, r, A, L, n, ()), ()) = some (two (WS o b r A L n)) := by
  unfold Within_10
  dsimp only
  rw [right_at hN, bnd]
  dsimp only
  cases hr : rt o b r A L with
  | false =>
    rw [Bool.not_false, byB_true, WS_bad (by rw [hr]; simp)]
  | true =>
    rw [Bool.not_true, byB_false]
    by_cases h1 : n < 0
    · rw [byB_t h1, WS_bad (by omega)]
    · rw [byB_f h1]
      by_cases h2 : n > 4611686018427387904
      · rw [byB_t h2, WS_bad (by omega)]
      · rw [byB_f h2]
        obtain ⟨t1, t2, t3⟩ := rt_of hr
        have ht := tms_of t1
        have hg : rt o b r A L = true ∧ 0 ≤ n ∧ n ≤ 4611686018427387904 := ⟨hr, by omega, by omega⟩
        unfold parts_16v1
        dsimp only
        rw [bnd, w64 (by omega) (by omega)]
        dsimp only
        refine Ev.eq (Q := fun z => z = two (WS o b r A L n)) ?_ fun s h => h
        refine Ev.bind (parts_loop (t := tot o b r A L n) (n := n) (s := o + b) hg.2.1 hg.2.2 ht.2.2.2.2.1 ht.2.2.2.2.2 t2 t3 hN (by omega) (by omega) rfl) ?_
        rintro y (⟨y1, y2, y3⟩ | ⟨y1, y2, y3, y4⟩)
        · rw [y1, byB_false, y2, WS_ok hg y3]; exact Ev.mk rfl
        · rw [y1, byB_true, y2, y3, WS_over hg y4]; exact Ev.mk rfl
end Go.Proofs.YtmpccpcalijnpaaC
