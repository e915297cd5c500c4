/- Chapter 20: what is right of a script, and its releases of a tick. Conditions: as each theorem states them. -/
import Derived.Test.YtlheebdnplcmcaaX2
import Derived.Test.YtlheebdnplcmcaaXValidR
namespace Go.Proofs.YtlheebdnplcmcaaC
open Go Go.Proofs.YtlheebdnplcmcaaM Go.Proofs.YtlheebdnplcmcaaX Go.Proofs.YtlheebdnplcmcaaL
set_option linter.unusedVariables false
set_option linter.unusedSimpArgs false

theorem examples_eq {N : Nat} (h : 300 ≤ N) : examples_8 N ((), ()) = some ((true, ()), ()) := by unfold examples_8; rw [if_pos h]
/-- A release: whose, when, how much. -/
abbrev Rel := Int × Int × Int
def relB (n : Int) : Int → List Rel → Bool
  | _, [] => true
  | last, r :: l => decide (last ≤ r.2.1 ∧ 0 ≤ r.1 ∧ r.1 < n ∧ 1 ≤ r.2.2 ∧ r.2.2 ≤ 1099511627776) && relB n r.2.1 l
def scB (s0 s1 s2 s3 s4 s5 s6 s7 : Int) (s8 : List Tk) (x0 : Int) (x1 : List Rel) : Bool :=
  rightB s0 s1 s2 s3 s4 s5 s6 s7 s8 && (decide (0 ≤ x0 ∧ x0 ≤ 20000 ∧ (x1.length : Int) ≤ 2000) && relB s8.length 0 x1)
theorem scB_of {s0 s1 s2 s3 s4 s5 s6 s7 : Int} {s8 : List Tk} {x0 : Int} {x1 : List Rel} (h : scB s0 s1 s2 s3 s4 s5 s6 s7 s8 x0 x1 = true) :
    rightB s0 s1 s2 s3 s4 s5 s6 s7 s8 = true ∧ 0 ≤ x0 ∧ x0 ≤ 20000 ∧ (x1.length : Int) ≤ 2000 ∧ relB s8.length 0 x1 = true := by
  unfold scB at h
  simp only [Bool.and_eq_true, decide_eq_true_eq] at h
  exact ⟨h.1, h.2.1.1, h.2.1.2.1, h.2.1.2.2, h.2.2⟩
theorem sright_at {N : Nat} (hN : 3000 < N) (s0 s1 s2 s3 s4 s5 s6 s7 : Int) (s8 : List Tk) (x0 : Int) (x1 : List Rel) (x2 : List (List Int)) (x3 : List Int) :
    Right_13 N (((s0, s1, s2, s3, s4, s5, s6, s7, s8, ()), (x0, x1, x2, x3, ()), ()), ()) = some ((scB s0 s1 s2 s3 s4 s5 s6 s7 s8 x0 x1, ()), ()) := by
  unfold Right_13 scB
  dsimp only
  rw [right_at (by omega), bnd]
  dsimp only
  cases rightB s0 s1 s2 s3 s4 s5 s6 s7 s8 with
  | false => rfl
  | true =>
    rw [Bool.not_true, byB_false, Bool.true_and]
    by_cases h1 : x0 < 0
    · rw [byB_t h1, decide_eq_false (by omega)]; rfl
    rw [byB_f h1]
    by_cases h2 : x0 > 20000
    · rw [byB_t h2, decide_eq_false (by omega)]; rfl
    rw [byB_f h2]
    by_cases h3 : (x1.length : Int) > 2000
    · rw [byB_t h3, decide_eq_false (by omega)]; rfl
    rw [byB_f h3, decide_eq_true (show 0 ≤ x0 ∧ x0 ≤ 20000 ∧ (x1.length : Int) ≤ 2000 by omega), Bool.true_and]
    refine Ev.eq (Q := fun z => z = ((relB s8.length 0 x1, ()), ())) ?_ fun s h => h
    refine Ev.loop (k := x1.length) (fun k st => ∃ (i : Nat) (last : Int), st = (((), last, x1, (x1.length : Int), (i : Int), ()), (s0, s1, s2, s3, s4, s5, s6, s7, s8, ()), ()) ∧ i + k = x1.length ∧ relB s8.length last (x1.drop i) = relB s8.length 0 x1) ?_ ⟨0, 0, rfl, by omega, by simp⟩ (by omega)
    rintro k st again ⟨i, last, rfl, hk, hi⟩ ih
    unfold Right_13_L5
    dsimp only
    by_cases h : (i : Int) < x1.length
    · have hin : i < x1.length := by omega
      rw [byB_t h, if_pos ⟨by omega, h⟩, Int.toNat_natCast]
      rw [drop_getD (d := ((0, 0, 0) : Rel)) hin, relB] at hi
      generalize x1.getD i (0, 0, 0) = r at *
      have no : ¬ (last ≤ r.2.1 ∧ 0 ≤ r.1 ∧ r.1 < (s8.length : Int) ∧ 1 ≤ r.2.2 ∧ r.2.2 ≤ 1099511627776) → Ev (some ((false, ()), ())) fun z : (Bool × Unit) × Unit => z = ((relB s8.length 0 x1, ()), ()) := by
        intro hb
        rw [decide_eq_false hb, Bool.false_and] at hi
        rw [← hi]; exact Ev.mk rfl
      refine Ev.dec (fun hp => no (by omega)) fun h4 => ?_
      refine Ev.dec (fun hp => no (by omega)) fun h5 => ?_
      refine Ev.dec (fun hp => no (by omega)) fun h6 => ?_
      refine Ev.dec (fun hp => no (by omega)) fun h7 => ?_
      refine Ev.dec (fun hp => no (by omega)) fun h8 => ?_
      rw [decide_eq_true (by omega), Bool.true_and] at hi
      rw [w64 (by omega) (by omega)]
      exact ih (k - 1) _ (by omega) ⟨i + 1, _, by simp, by omega, hi⟩
    · rw [byB_f h]
      rw [List.drop_eq_nil_of_le (by omega), relB] at hi
      rw [← hi]; exact Ev.mk rfl
theorem rel_sorted {n : Int} : ∀ {l : List Rel} {last : Int}, relB n last l = true → (∀ r ∈ l, last ≤ r.2.1) ∧ l.Pairwise (fun a b => a.2.1 ≤ b.2.1)
  | [], last, _ => ⟨fun r h => (by cases h), List.Pairwise.nil⟩
  | r :: l, last, h => by
    simp only [relB, Bool.and_eq_true, decide_eq_true_eq] at h
    obtain ⟨h1, h2⟩ := rel_sorted h.2
    refine ⟨fun x hx => ?_, List.Pairwise.cons h1 h2⟩
    rcases List.mem_cons.1 hx with rfl | hx
    · exact h.1.1
    · have := h1 x hx; omega

/-! ### the releases of a tick -/
theorem at_at {N : Nat} {x0 tick : Int} {x1 : List Rel} {x2 : List (List Int)} {x3 : List Int} (hl : x1.length * 24 ≤ 140737488351232) (hN : x1.length < N) :
    Ev (At_12 N (((x0, x1, x2, x3, ()), tick, ()), ())) fun y => y.2.1 = x1.filter fun r => r.2.1 == tick := by
  unfold At_12 at_23v1
  dsimp only
  rw [bnd]
  dsimp only
  refine Ev.bind (Q := fun y => y.2.1.2 = false ∧ y.2.2.2.2.2.2.1 = x1.filter fun r => r.2.1 == tick) ?_ fun y hy => ?_
  · unfold at1_28v1
    dsimp only
    refine Ev.loop (k := x1.length) (fun k st => ∃ i : Nat, st = (((), (), x1, (x1.length : Int), (i : Int), ()), (((), ()), false), (x0, x1, x2, x3, ()), (tick, ()), ((), ()), (), (x1.take i).filter (fun r => r.2.1 == tick), ()) ∧ i + k = x1.length) ?_ ⟨0, by simp, by omega⟩ hN
    rintro k st again ⟨i, rfl, hk⟩ ih
    unfold at1_28v1_L1
    dsimp only
    by_cases h : (i : Int) < x1.length
    · have hin : i < x1.length := by omega
      rw [byB_t h, if_pos ⟨by omega, h⟩, Int.toNat_natCast, w64 (by omega) (by omega)]
      have e : (x1.take (i + 1)).filter (fun r => r.2.1 == tick) = (x1.take i).filter (fun r => r.2.1 == tick) ++ if ((x1.getD i (0, 0, 0)).2.1 == tick) = true then [x1.getD i (0, 0, 0)] else [] := by
        rw [take_succ_getD (d := ((0, 0, 0) : Rel)) hin, List.filter_append]
        congr 1
        simp only [List.filter_cons, List.filter_nil]
      have hlen : ((x1.take i).filter fun r => r.2.1 == tick).length ≤ i := Nat.le_trans (List.length_filter_le ..) (by rw [List.length_take]; omega)
      cases hb : (x1.getD i (0, 0, 0)).2.1 == tick with
      | true =>
        rw [byB_true, byB_false]
        unfold At_12_R4
        dsimp only
        rw [if_pos (by omega), bnd]
        dsimp only
        rw [byB_false]
        refine ih (k - 1) _ (by omega) ⟨i + 1, ?_, by omega⟩
        rw [e, hb]
        simp
      | false =>
        rw [byB_false]
        refine ih (k - 1) _ (by omega) ⟨i + 1, ?_, by omega⟩
        rw [e, hb]
        simp
    · rw [byB_f h]
      refine Ev.mk ⟨rfl, ?_⟩
      rw [List.take_of_length_le (by omega)]
  · rw [hy.1, byB_false]
    exact Ev.mk hy.2

theorem split3 (t : Int) : ∀ {l : List Rel}, l.Pairwise (fun a b => a.2.1 ≤ b.2.1) → l = l.filter (fun r => decide (r.2.1 < t)) ++ (l.filter (fun r => r.2.1 == t) ++ l.filter (fun r => decide (t < r.2.1)))
  | [], _ => rfl
  | r :: l, h => by
    obtain ⟨h1, h2⟩ := List.pairwise_cons.1 h
    have ih := split3 t h2
    rcases Int.lt_trichotomy r.2.1 t with c | c | c
    · have e1 : decide (r.2.1 < t) = true := decide_eq_true c
      have e2 : (r.2.1 == t) = false := by simp; omega
      have e3 : decide (t < r.2.1) = false := decide_eq_false (by omega)
      simp only [List.filter_cons, e1, e2, e3, if_true, Bool.false_eq_true, if_false, List.cons_append]
      rw [← ih]
    · have hno : l.filter (fun r => decide (r.2.1 < t)) = [] := List.filter_eq_nil_iff.2 fun x hx => by have := h1 x hx; simp; omega
      have e1 : decide (r.2.1 < t) = false := decide_eq_false (by omega)
      have e2 : (r.2.1 == t) = true := by simp; omega
      have e3 : decide (t < r.2.1) = false := decide_eq_false (by omega)
      simp only [List.filter_cons, e1, e2, e3, if_true, Bool.false_eq_true, if_false, hno, List.nil_append, List.cons_append]
      rw [hno, List.nil_append] at ih
      rw [← ih]
    · have hno : l.filter (fun r => decide (r.2.1 < t)) = [] := List.filter_eq_nil_iff.2 fun x hx => by have := h1 x hx; simp; omega
      have hno2 : l.filter (fun r => r.2.1 == t) = [] := List.filter_eq_nil_iff.2 fun x hx => by have := h1 x hx; simp; omega
      have e1 : decide (r.2.1 < t) = false := decide_eq_false (by omega)
      have e2 : (r.2.1 == t) = false := by simp; omega
      have e3 : decide (t < r.2.1) = true := decide_eq_true c
      simp only [List.filter_cons, e1, e2, e3, if_true, Bool.false_eq_true, if_false, hno, hno2, List.nil_append]
      rw [hno, hno2, List.nil_append, List.nil_append] at ih
      rw [← ih]
/-- How many come ahead of a tick. -/
def bef (t : Int) (l : List Rel) : Nat := (l.filter fun r => decide (r.2.1 < t)).length
theorem bef_le (t : Int) (l : List Rel) : bef t l ≤ l.length := List.length_filter_le ..
theorem bef_succ (t : Int) : ∀ l : List Rel, bef (t + 1) l = bef t l + (l.filter fun r => r.2.1 == t).length
  | [] => rfl
  | r :: l => by
    have ih := bef_succ t l
    unfold bef at ih ⊢
    rcases Int.lt_trichotomy r.2.1 t with c | c | c
    · have e1 : decide (r.2.1 < t) = true := decide_eq_true c
      have e2 : (r.2.1 == t) = false := by simp; omega
      have e3 : decide (r.2.1 < t + 1) = true := decide_eq_true (by omega)
      simp only [List.filter_cons, e1, e2, e3, if_true, Bool.false_eq_true, if_false, List.length_cons]
      omega
    · have e1 : decide (r.2.1 < t) = false := decide_eq_false (by omega)
      have e2 : (r.2.1 == t) = true := by simp; omega
      have e3 : decide (r.2.1 < t + 1) = true := decide_eq_true (by omega)
      simp only [List.filter_cons, e1, e2, e3, if_true, Bool.false_eq_true, if_false, List.length_cons]
      omega
    · have e1 : decide (r.2.1 < t) = false := decide_eq_false (by omega)
      have e2 : (r.2.1 == t) = false := by simp; omega
      have e3 : decide (r.2.1 < t + 1) = false := decide_eq_false (by omega)
      simp only [List.filter_cons, e1, e2, e3, if_true, Bool.false_eq_true, if_false]
      exact ih
theorem seg_at {t : Int} {l : List Rel} (h : l.Pairwise (fun a b => a.2.1 ≤ b.2.1)) {i : Nat} (hi : i < (l.filter fun r => r.2.1 == t).length) {d : Rel} :
    bef t l + i < l.length ∧ l.getD (bef t l + i) d = (l.filter fun r => r.2.1 == t).getD i d ∧ ((l.filter fun r => r.2.1 == t).getD i d).2.1 = t := by
  have e := split3 t h
  refine ⟨?_, ?_, ?_⟩
  · have := congrArg List.length e
    rw [List.length_append, List.length_append] at this
    unfold bef
    omega
  · refine (congrArg (fun m => m.getD (bef t l + i) d) e).trans ?_
    unfold bef
    rw [getD_app_r (by omega), Nat.add_sub_cancel_left, getD_app_l hi]
  · have hm := getD_mem (d := d) hi
    have := (List.mem_filter.1 hm).2
    simpa using this
end Go.Proofs.YtlheebdnplcmcaaC
