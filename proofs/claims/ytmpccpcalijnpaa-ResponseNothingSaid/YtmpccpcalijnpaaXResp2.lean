/- Chapter 16: how long a job takes, as numbers; the reference's calls. Conditions: as each theorem states them. -/
import Derived.Test.YtmpccpcalijnpaaXResp
namespace Go.Proofs.YtmpccpcalijnpaaC
open Go Go.Proofs.YtmpccpcalijnpaaM Go.Proofs.YtmpccpcalijnpaaX Go.Proofs.YtmpccpcalijnpaaL Go.Proofs.YtmpccpcalijnpaaQ
set_option linter.unusedVariables false
set_option linter.unusedSimpArgs false

theorem examples_eq {N : Nat} (h : 300 ≤ N) : examples_9 N ((), ()) = some ((true, ()), ()) := by unfold examples_9; rw [if_pos h]

/-! ### the reference -/
theorem rloads_at {N : Nat} {l : List Ld} (hl : (l.length : Int) ≤ 9223372036854775806) (hN : l.length < N) : loads_28 N ((l, ()), ()) = some ((lsok l, ()), ()) := by
  unfold loads_28
  dsimp only
  refine Ev.eq (Q := fun z => z = ((lsok l, ()), ())) ?_ fun s h => h
  refine Ev.loop (k := l.length) (fun k s => ∃ i : Nat, s = ((l, (i : Int), ()), ()) ∧ i + k = l.length ∧ (l.drop i).all lok = l.all lok) ?_ ⟨0, rfl, by omega, by simp⟩ hN
  rintro k s again ⟨i, rfl, hk, hi⟩ ih
  unfold loads_28_L2
  dsimp only
  by_cases h : (i : Int) < l.length
  · have hin : i < l.length := by omega
    rw [byB_t h, if_pos ⟨by omega, h⟩, Int.toNat_natCast]
    rw [drop_getD (d := ((0, 0, 0) : Ld)) hin, List.all_cons] at hi
    have no : lok (l.getD i (0, 0, 0)) = false → Ev (some ((false, ()), ())) fun z : (Bool × Unit) × Unit => z = ((lsok l, ()), ()) := by
      intro hb
      rw [hb, Bool.false_and] at hi
      refine Ev.mk ?_
      unfold lsok
      rw [← hi, Bool.and_false]
    have bd : ∀ {p : Prop}, p → (lok (l.getD i (0, 0, 0)) = true → ¬ p) → lok (l.getD i (0, 0, 0)) = false := by
      intro p hp hn
      cases hb : lok (l.getD i (0, 0, 0)) with
      | false => rfl
      | true => exact absurd hp (hn hb)
    refine Ev.dec (fun hp => no (bd hp fun hb => ?_)) fun h1 => ?_
    · have := lok_of hb; omega
    refine Ev.dec (fun hp => no (bd hp fun hb => ?_)) fun h2 => ?_
    · have := lok_of hb; omega
    refine Ev.dec (fun hp => no (bd hp fun hb => ?_)) fun h3 => ?_
    · have := lok_of hb; omega
    refine Ev.dec (fun hp => no (bd hp fun hb => ?_)) fun h4 => ?_
    · have := lok_of hb; omega
    refine Ev.dec (fun hp => no (bd hp fun hb => ?_)) fun h5 => ?_
    · have := lok_of hb; omega
    refine Ev.dec (fun hp => no (bd hp fun hb => ?_)) fun h6 => ?_
    · have := lok_of hb; omega
    have hb : lok (l.getD i (0, 0, 0)) = true := by
      unfold lok
      rw [decide_eq_true_eq]
      omega
    rw [hb, Bool.true_and] at hi
    rw [w64 (by omega) (by omega)]
    exact ih (k - 1) _ (by omega) ⟨i + 1, by simp, by omega, hi⟩
  · rw [byB_f h]
    refine Ev.mk ?_
    rw [List.drop_eq_nil_of_le (by omega)] at hi
    unfold lsok
    rw [← hi]
    simp
theorem rright_at {N : Nat} {o b r : Int} {A L : List Ld} (hA : (A.length : Int) ≤ 9223372036854775806) (hL : (L.length : Int) ≤ 9223372036854775806) (hN : A.length < N) (hN2 : L.length < N) : right_19 N ((o, b, r, A, L, ()), ()) = some ((rt o b r A L, ()), ()) := by
  unfold right_19
  dsimp only
  rw [rloads_at hA hN, bnd, rloads_at hL hN2, bnd]
  dsimp only
  unfold rt
  cases lsok A with
  | false => rw [byB_false]; simp
  | true =>
    rw [byB_true]
    cases lsok L with
    | false => rw [byB_false]; simp
    | true =>
      rw [byB_true]
      simp only [Bool.and_true]
      unfold tms
      simp only [byB_dec]
      repeat' split
      all_goals (congr 3; first | (symm; rw [decide_eq_false_iff_not]; omega) | (rw [Bool.eq_iff_iff, decide_eq_true_eq, decide_eq_true_eq]; omega))
theorem up_at {N : Nat} {m d : Int} (hm : 0 ≤ m) (hm' : m ≤ 9223372036854775806) (hd : 1 ≤ d) : up_21 N ((m, d, ()), ()) = some (((m + d - 1) / d, ()), ()) := by
  unfold up_21
  dsimp only
  have hd0 : ¬ d = 0 := by omega
  rw [if_neg hd0, if_neg hd0, if_neg hd0, Int.tmod_eq_emod_of_nonneg hm, Int.tdiv_eq_ediv_of_nonneg hm]
  have h1 := Int.emod_add_mul_ediv m d
  have h2 := Int.emod_nonneg m hd0
  have h3 := Int.emod_lt_of_pos m (show 0 < d by omega)
  have h4 : 0 ≤ m / d := Int.ediv_nonneg hm (by omega)
  have h5 : m / d ≤ m := Int.ediv_le_self _ hm
  rw [w64 (n := m / d) (by omega) (by omega), w64 (n := m / d + 1) (by omega) (by omega)]
  by_cases h : m % d > 0
  · rw [byB_t h]
    have : (m + d - 1) / d = m / d + 1 := by
      rw [Int.ediv_eq_iff_of_pos (by omega)]
      constructor
      · rw [Int.add_mul, Int.mul_comm]; omega
      · rw [Int.add_mul, Int.mul_comm]; omega
    rw [this]
  · rw [byB_f h]
    have : (m + d - 1) / d = m / d := by
      rw [Int.ediv_eq_iff_of_pos (by omega)]
      constructor
      · rw [Int.mul_comm]; omega
      · rw [Int.mul_comm]; omega
    rw [this]
theorem more_at {N : Nat} {s m w : Int} (hm0 : 0 ≤ m) (hm : m ≤ 9223372036854775807) (hw0 : 0 ≤ w) (hw : w ≤ 9223372036854775807) (hs0 : 0 ≤ s) (hs : s ≤ 4611686018427387904) :
    Ev (more_20 N ((s, m, w, ()), ())) fun y => (y.1.1 = s + m * w ∧ y.1.2.1 = true ∧ s + m * w ≤ 4611686018427387904) ∨ (y.1.2.1 = false ∧ ¬ s + m * w ≤ 4611686018427387904) := by
  have hp : 0 ≤ m * w := Int.mul_nonneg hm0 hw0
  unfold more_20
  dsimp only
  rw [rMul_at (wf64_mk (by omega) hm) (wf64_mk (by omega) hw), bnd]
  by_cases h1 : m * w ≤ 9223372036854775807
  · rw [MulS_ok (by omega) h1]
    dsimp only
    rw [byB_eqt rfl, rAdd_at (wf64_mk (by omega) (by omega)) (wf64_mk (by omega) h1), bnd]
    by_cases h2 : s + m * w ≤ 9223372036854775807
    · rw [AddS_ok (by omega) h2]
      dsimp only
      rw [byB_eqt rfl]
      refine Ev.mk ?_
      by_cases h3 : s + m * w ≤ 4611686018427387904
      · exact .inl ⟨rfl, decide_eq_true h3, h3⟩
      · exact .inr ⟨decide_eq_false h3, h3⟩
    · rw [AddS_over (by omega)]
      dsimp only
      rw [byB_eqf (by decide)]
      exact Ev.mk (.inr ⟨rfl, by omega⟩)
  · rw [MulS_over (by omega)]
    dsimp only
    rw [byB_eqf (by decide), byB_eqf (by decide)]
    exact Ev.mk (.inr ⟨rfl, by omega⟩)

def fin16 (t : Int) : Int × Int := if t ≤ 4611686018427387904 then (t, 0) else (0, 2)
theorem rloop11_at {N : Nat} {n r t s : Int} {fits : Bool} {L : List Ld} (hn0 : 0 ≤ n) (hn : n ≤ 4611686018427387904) (hr0 : 0 ≤ r) (hr : r ≤ 1099511627776) (hL : lsok L = true) (hN : 100 < N)
    (h : (fits = true ∧ 0 ≤ s ∧ s ≤ 4611686018427387904 ∧ t = s + sg (wL n r) L) ∨ (fits = false ∧ ¬ t ≤ 4611686018427387904)) :
    Ev (loopN N (Within_11_L11 N) ((r, L, n, s, fits, 0, ()), ())) fun y => y = two (fin16 t) := by
  obtain ⟨hlen, hall⟩ := lsok_of hL
  refine Ev.loop (k := L.length) (fun k st => ∃ (i : Nat) (v : Int) (f : Bool), st = ((r, L, n, v, f, (i : Int), ()), ()) ∧ i + k = L.length ∧ ((f = true ∧ 0 ≤ v ∧ v ≤ 4611686018427387904 ∧ t = v + sg (wL n r) (L.drop i)) ∨ (f = false ∧ ¬ t ≤ 4611686018427387904))) ?_ ⟨0, s, fits, rfl, by omega, by simpa using h⟩ (by omega)
  rintro k st again ⟨i, v, f, rfl, hk, hi⟩ ih
  unfold Within_11_L11
  dsimp only
  rcases hi with ⟨rfl, hv0, hv, hi⟩ | ⟨rfl, hi⟩
  · by_cases h : (i : Int) < L.length
    · have hin : i < L.length := by omega
      rw [byB_t h, byB_true, if_pos ⟨by omega, h⟩, if_pos ⟨by omega, h⟩, Int.toNat_natCast]
      have hx := hall _ (getD_mem (d := ((0, 0, 0) : Ld)) hin)
      have hc := cnt_range hx hn0
      have hlo := lok_of hx
      rw [w64 (n := n + (L.getD i (0, 0, 0)).2.2) (by omega) (by omega), up_at (by omega) (by omega) (by omega), bnd]
      dsimp only
      rw [show (n + (L.getD i (0, 0, 0)).2.2 + (L.getD i (0, 0, 0)).2.1 - 1) / (L.getD i (0, 0, 0)).2.1 = cnt n (L.getD i (0, 0, 0)) from rfl]
      rw [sg_drop hin] at hi
      have hrest : 0 ≤ sg (wL n r) (L.drop (i + 1)) := sg_nonneg fun y hy => wL_nonneg (hall y (List.mem_of_mem_drop hy)) hn0 hr0
      rw [w64 (n := cnt n (L.getD i (0, 0, 0)) + 1) (by omega) (by omega)]
      refine Ev.bind (more_at (N := N) (m := cnt n (L.getD i (0, 0, 0)) + 1) (w := r) (s := v) (by omega) (by omega) hr0 (by omega) hv0 hv) ?_
      rintro y (⟨y1, y2, y3⟩ | ⟨y1, y2⟩)
      · rw [y1, y2, w64 (by omega) (by omega)]
        refine ih (k - 1) _ (by omega) ⟨i + 1, _, _, rfl, by omega, .inl ⟨rfl, ?_, y3, ?_⟩⟩
        · have := Int.mul_nonneg (show 0 ≤ cnt n (L.getD i (0, 0, 0)) + 1 by omega) hr0; omega
        · rw [hi]; unfold wL; omega
      · rw [y1, w64 (by omega) (by omega)]
        refine ih (k - 1) _ (by omega) ⟨i + 1, _, _, rfl, by omega, .inr ⟨rfl, ?_⟩⟩
        rw [hi]; unfold wL at hrest ⊢; omega
    · rw [byB_f h, Bool.not_true, byB_false]
      refine Ev.mk ?_
      rw [List.drop_eq_nil_of_le (by omega)] at hi
      simp only [sg, Int.add_zero] at hi
      unfold fin16
      rw [hi, if_pos hv]
  · have : fin16 t = (0, 2) := by unfold fin16; rw [if_neg hi]
    rw [byB_false, Bool.not_false, byB_true, byB_same, this]
    exact Ev.mk rfl
theorem rloop7_at {N : Nat} {n r t s : Int} {A L : List Ld} (hn0 : 0 ≤ n) (hn : n ≤ 4611686018427387904) (hr0 : 0 ≤ r) (hr : r ≤ 1099511627776) (hA : lsok A = true) (hL : lsok L = true) (hN : 100 < N)
    (hs0 : 0 ≤ s) (hs : s ≤ 4611686018427387904) (ht : t = s + sg (wA n) A + sg (wL n r) L) :
    Ev (loopN N (Within_11_L7 N) ((r, A, L, n, s, true, 0, ()), ())) fun y => y = two (fin16 t) := by
  obtain ⟨hlen, hall⟩ := lsok_of hA
  obtain ⟨hlen', hall'⟩ := lsok_of hL
  have htail : 0 ≤ sg (wL n r) L := sg_nonneg fun y hy => wL_nonneg (hall' y hy) hn0 hr0
  refine Ev.loop (k := A.length) (fun k st => ∃ (i : Nat) (v : Int) (f : Bool), st = ((r, A, L, n, v, f, (i : Int), ()), ()) ∧ i + k = A.length ∧ ((f = true ∧ 0 ≤ v ∧ v ≤ 4611686018427387904 ∧ t = v + sg (wA n) (A.drop i) + sg (wL n r) L) ∨ (f = false ∧ ¬ t ≤ 4611686018427387904))) ?_ ⟨0, s, true, rfl, by omega, .inl ⟨rfl, hs0, hs, by simpa using ht⟩⟩ (by omega)
  rintro k st again ⟨i, v, f, rfl, hk, hi⟩ ih
  unfold Within_11_L7
  dsimp only
  rcases hi with ⟨rfl, hv0, hv, hi⟩ | ⟨rfl, hi⟩
  · by_cases h : (i : Int) < A.length
    · have hin : i < A.length := by omega
      rw [byB_t h, byB_true, if_pos ⟨by omega, h⟩, if_pos ⟨by omega, h⟩, Int.toNat_natCast]
      have hx := hall _ (getD_mem (d := ((0, 0, 0) : Ld)) hin)
      have hc := cnt_range hx hn0
      have hlo := lok_of hx
      rw [w64 (n := n + (A.getD i (0, 0, 0)).2.2) (by omega) (by omega), up_at (by omega) (by omega) (by omega), bnd, if_pos ⟨by omega, h⟩]
      dsimp only
      rw [show (n + (A.getD i (0, 0, 0)).2.2 + (A.getD i (0, 0, 0)).2.1 - 1) / (A.getD i (0, 0, 0)).2.1 = cnt n (A.getD i (0, 0, 0)) from rfl]
      rw [sg_drop hin] at hi
      have hrest : 0 ≤ sg (wA n) (A.drop (i + 1)) := sg_nonneg fun y hy => wA_nonneg (hall y (List.mem_of_mem_drop hy)) hn0
      refine Ev.bind (more_at (N := N) (m := cnt n (A.getD i (0, 0, 0))) (w := (A.getD i (0, 0, 0)).1) (s := v) hc.1 (by omega) hlo.1 (by omega) hv0 hv) ?_
      rintro y (⟨y1, y2, y3⟩ | ⟨y1, y2⟩)
      · rw [y1, y2, w64 (by omega) (by omega)]
        refine ih (k - 1) _ (by omega) ⟨i + 1, _, _, rfl, by omega, .inl ⟨rfl, ?_, y3, ?_⟩⟩
        · have := Int.mul_nonneg hc.1 hlo.1; omega
        · rw [hi]; unfold wA; omega
      · rw [y1, w64 (by omega) (by omega)]
        refine ih (k - 1) _ (by omega) ⟨i + 1, _, _, rfl, by omega, .inr ⟨rfl, ?_⟩⟩
        rw [hi]; unfold wA at hrest ⊢; omega
    · rw [byB_f h]
      refine rloop11_at hn0 hn hr0 hr hL hN (.inl ⟨rfl, hv0, hv, ?_⟩)
      rw [List.drop_eq_nil_of_le (by omega)] at hi
      rw [hi]; simp [sg]
  · rw [byB_false, byB_same]
    exact rloop11_at hn0 hn hr0 hr hL hN (.inr ⟨rfl, hi⟩)
theorem rwithin_at {N : Nat} (hN : 100 < N) {o b r : Int} {A L : List Ld} (hA : (A.length : Int) ≤ 9223372036854775806) (hL : (L.length : Int) ≤ 9223372036854775806) (hN1 : A.length < N) (hN2 : L.length < N) (n : Int) : Within_11 N ((o, b, r, A, L, n, ()), ()) = some (two (WS o b r A L n)) := by
  unfold Within_11
  dsimp only
  rw [rright_at hA hL hN1 hN2, bnd]
  dsimp only
  cases hr : rt o b r A L with
  | false => rw [Bool.not_false, byB_true, WS_bad (by rw [hr]; simp)]
  | true =>
    rw [Bool.not_true, byB_false]
    by_cases h1 : n < 0
    · rw [byB_t h1, WS_bad (by omega)]
    · rw [byB_f h1]
      by_cases h2 : n > 4611686018427387904
      · rw [byB_t h2, WS_bad (by omega)]
      · rw [byB_f h2]
        obtain ⟨t1, t2, t3⟩ := rt_of hr
        have ht := tms_of t1
        have hg : rt o b r A L = true ∧ 0 ≤ n ∧ n ≤ 4611686018427387904 := ⟨hr, by omega, by omega⟩
        rw [w64 (by omega) (by omega)]
        refine Ev.eq (Q := fun z => z = two (WS o b r A L n)) ?_ fun s h => h
        have := rloop7_at (N := N) (t := tot o b r A L n) (n := n) (s := o + b) hg.2.1 hg.2.2 ht.2.2.2.2.1 ht.2.2.2.2.2 t2 t3 hN (by omega) (by omega) rfl
        refine this.mono fun y hy => ?_
        rw [hy]
        unfold fin16 WS
        rw [if_pos hg]

/-! ### how long -/
def bl (W : Int → Int × Int) (m : Int) : Nat → Int → Int × Int
  | 0, _ => (0, 11)
  | k + 1, n => if (W n).2 = 0 then (if (W n).1 ≤ n then (n, 0) else if (W n).1 > m then (0, 12) else bl W m k (W n).1) else (0, (W n).2)
def BS (o b r : Int) (A L : List Ld) (m : Int) : Int × Int := if rt o b r A L = true ∧ 1 ≤ m ∧ m ≤ 1099511627776 then bl (WS o b r A L) m 5000 1 else (0, 1)
theorem BS_bad {o b r : Int} {A L : List Ld} {m : Int} (h : ¬ (rt o b r A L = true ∧ 1 ≤ m ∧ m ≤ 1099511627776)) : BS o b r A L m = (0, 1) := by unfold BS; rw [if_neg h]
theorem BS_ok {o b r : Int} {A L : List Ld} {m : Int} (h : rt o b r A L = true ∧ 1 ≤ m ∧ m ≤ 1099511627776) : BS o b r A L m = bl (WS o b r A L) m 5000 1 := by unfold BS; rw [if_pos h]
theorem bound_at {N : Nat} (hN : 5000 < N) (o b r : Int) (A L : List Ld) (m : Int) : Bound_13 N ((o, b, r, A, L, m, ()), ()) = some (two (BS o b r A L m)) := by
  unfold Bound_13
  dsimp only
  rw [right_at (by omega), bnd]
  dsimp only
  cases hr : rt o b r A L with
  | false => rw [Bool.not_false, byB_true, BS_bad (by rw [hr]; simp)]
  | true =>
    rw [Bool.not_true, byB_false]
    by_cases h1 : m < 1
    · rw [byB_t h1, BS_bad (by omega)]
    · rw [byB_f h1]
      by_cases h2 : m > 1099511627776
      · rw [byB_t h2, BS_bad (by omega)]
      · rw [byB_f h2, BS_ok ⟨hr, by omega, by omega⟩]
        refine Ev.eq (Q := fun z => z = two (bl (WS o b r A L) m 5000 1)) ?_ fun s h => h
        refine Ev.loop (k := 5000) (fun k st => ∃ (i : Nat) (n : Int), st = ((o, b, r, A, L, m, n, (i : Int), ()), ()) ∧ i + k = 5000 ∧ bl (WS o b r A L) m k n = bl (WS o b r A L) m 5000 1) ?_ ⟨0, 1, rfl, rfl, rfl⟩ hN
        rintro k st again ⟨i, n, rfl, hk, hi⟩ ih
        unfold Bound_13_L5
        dsimp only
        cases k with
        | zero =>
          rw [byB_f (by omega)]
          refine Ev.mk ?_
          rw [← hi]; rfl
        | succ k =>
          rw [byB_t (by omega), within_at (by omega), bnd]
          dsimp only
          rw [bl] at hi
          by_cases e1 : (WS o b r A L n).2 = 0
          · rw [byB_nef e1]
            rw [if_pos e1] at hi
            by_cases e2 : (WS o b r A L n).1 ≤ n
            · rw [byB_t e2]
              rw [if_pos e2] at hi
              refine Ev.mk ?_
              rw [← hi]
            · rw [byB_f e2]
              rw [if_neg e2] at hi
              by_cases e3 : (WS o b r A L n).1 > m
              · rw [byB_t e3]
                rw [if_pos e3] at hi
                refine Ev.mk ?_
                rw [← hi]
              · rw [byB_f e3]
                rw [if_neg e3] at hi
                rw [w64 (by omega) (by omega)]
                exact ih k _ (by omega) ⟨i + 1, _, by simp, by omega, hi⟩
          · rw [byB_net e1]
            rw [if_neg e1] at hi
            refine Ev.mk ?_
            rw [← hi]
theorem rbound_at {N : Nat} (hN : 5000 < N) {o b r : Int} {A L : List Ld} (hA : (A.length : Int) ≤ 9223372036854775806) (hL : (L.length : Int) ≤ 9223372036854775806) (hN1 : A.length < N) (hN2 : L.length < N) (m : Int) : Bound_14 N ((o, b, r, A, L, m, ()), ()) = some (two (BS o b r A L m)) := by
  unfold Bound_14
  dsimp only
  rw [rright_at hA hL hN1 hN2, bnd]
  dsimp only
  cases hr : rt o b r A L with
  | false => rw [Bool.not_false, byB_true, BS_bad (by rw [hr]; simp)]
  | true =>
    rw [Bool.not_true, byB_false]
    by_cases h1 : m < 1
    · rw [byB_t h1, BS_bad (by omega)]
    · rw [byB_f h1]
      by_cases h2 : m > 1099511627776
      · rw [byB_t h2, BS_bad (by omega)]
      · rw [byB_f h2, BS_ok ⟨hr, by omega, by omega⟩]
        refine Ev.eq (Q := fun z => z = two (bl (WS o b r A L) m 5000 1)) ?_ fun s h => h
        refine Ev.loop (k := 5000) (fun k st => ∃ (i : Nat) (n : Int), st = ((o, b, r, A, L, m, n, (i : Int), ()), ()) ∧ i + k = 5000 ∧ bl (WS o b r A L) m k n = bl (WS o b r A L) m 5000 1) ?_ ⟨0, 1, rfl, rfl, rfl⟩ hN
        rintro k st again ⟨i, n, rfl, hk, hi⟩ ih
        unfold Bound_14_L6
        dsimp only
        cases k with
        | zero =>
          rw [byB_f (by omega)]
          refine Ev.mk ?_
          rw [← hi]; rfl
        | succ k =>
          rw [byB_t (by omega), rwithin_at (by omega) hA hL hN1 hN2, bnd]
          dsimp only
          rw [bl] at hi
          by_cases e1 : (WS o b r A L n).2 = 0
          · rw [byB_nef e1]
            rw [if_pos e1] at hi
            by_cases e2 : (WS o b r A L n).1 ≤ n
            · rw [byB_t e2]
              rw [if_pos e2] at hi
              refine Ev.mk ?_
              rw [← hi]
            · rw [byB_f e2]
              rw [if_neg e2] at hi
              by_cases e3 : (WS o b r A L n).1 > m
              · rw [byB_t e3]
                rw [if_pos e3] at hi
                refine Ev.mk ?_
                rw [← hi]
              · rw [byB_f e3]
                rw [if_neg e3] at hi
                rw [w64 (by omega) (by omega)]
                exact ih k _ (by omega) ⟨i + 1, _, by simp, by omega, hi⟩
          · rw [byB_net e1]
            rw [if_neg e1] at hi
            refine Ev.mk ?_
            rw [← hi]
theorem copy_at {N : Nat} {l : List Ld} (hl : l.length * 24 ≤ 140737488351232) (hN : l.length < N) : Ev (loads_12 N ((l, ()), ())) fun y => y.2.1 = l := by
  unfold loads_12
  dsimp only
  refine Ev.loop (k := l.length) (fun k s => ∃ i : Nat, s = ((l, (), (i : Int), ()), l.take i, ()) ∧ i + k = l.length) ?_ ⟨0, by simp, by omega⟩ hN
  rintro k s again ⟨i, rfl, hk⟩ ih
  unfold loads_12_L3
  dsimp only
  by_cases h : (i : Int) < l.length
  · have hin : i < l.length := by omega
    have hg : (0 : Int) ≤ i ∧ (i : Int) < l.length := ⟨by omega, h⟩
    rw [byB_t h, if_pos hg, if_pos hg, if_pos hg, Int.toNat_natCast, if_pos (by rw [List.length_take]; omega), w64 (by omega) (by omega), ← take_succ_getD hin]
    exact ih (k - 1) _ (by omega) ⟨i + 1, by simp, by omega⟩
  · rw [byB_f h]
    refine Ev.mk ?_
    rw [List.take_of_length_le (by omega)]
end Go.Proofs.YtmpccpcalijnpaaC
