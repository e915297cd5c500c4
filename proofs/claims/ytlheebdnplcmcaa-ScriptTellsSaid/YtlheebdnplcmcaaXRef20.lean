/- Chapter 20: the document's own answers. Conditions: as each theorem states them. -/
import Derived.Test.YtlheebdnplcmcaaXAdm
import Derived.Test.YtlheebdnplcmcaaXTick
namespace Go.Proofs.YtlheebdnplcmcaaC
open Go Go.Proofs.YtlheebdnplcmcaaM Go.Proofs.YtlheebdnplcmcaaX Go.Proofs.YtlheebdnplcmcaaL
set_option linter.unusedVariables false
set_option linter.unusedSimpArgs false

theorem rlat_at {N : Nat} {s0 s1 s2 s3 s4 s5 s6 s7 : Int} {s8 : List Tk} {x0 : Int} {x1 : List Rel} {x2 : List (List Int)} {x3 : List Int} {t : Int} :
    Latency_18 N (((s0, s1, s2, s3, s4, s5, s6, s7, s8, ()), (x0, x1, x2, x3, ()), t, ()), ()) = some ((lat x3 t, ()), ()) := by
  unfold Latency_18 lat
  dsimp only
  by_cases h : x3.length = 0
  · have e : turn x3 0 t = 0 := by unfold turn; rw [if_pos (.inl h)]
    rw [byB_eqt (by omega), e]; rfl
  · rw [byB_eqf (by omega)]
    by_cases h2 : t < 0
    · have e : turn x3 0 t = 0 := by unfold turn; rw [if_pos (.inr h2)]
      rw [byB_t h2, e]; rfl
    · have h3 := Int.emod_nonneg t (show (x3.length : Int) ≠ 0 by omega)
      have h4 := Int.emod_lt_of_pos t (show 0 < (x3.length : Int) by omega)
      have e : turn x3 0 t = x3.getD (t % x3.length).toNat 0 := by unfold turn; rw [if_neg (by omega)]
      rw [byB_f h2, if_neg (by omega), Int.tmod_eq_emod_of_nonneg (by omega), if_pos ⟨h3, h4⟩, e]
theorem rorder_at {N : Nat} {s0 s1 s2 s3 s4 s5 s6 s7 : Int} {s8 : List Tk} {x0 : Int} {x1 : List Rel} {x2 : List (List Int)} {x3 : List Int} {t : Int} (hN : 10 < N) (hl : ∀ l ∈ x2, l.length + 10 < N ∧ l.length * 8 ≤ 140737488351232) :
    Order_9 N (((s0, s1, s2, s3, s4, s5, s6, s7, s8, ()), (x0, x1, x2, x3, ()), t, ()), ()) = some (((), ()), cut8 s0 (turn x2 [] t), ()) := by
  unfold Order_9 cut8
  dsimp only
  by_cases h1 : s0 < 1
  · rw [byB_t h1, if_neg (by omega)]
  rw [byB_f h1]
  by_cases h2 : s0 > 8
  · rw [byB_t h2, if_neg (by omega)]
  rw [byB_f h2, if_pos (show 1 ≤ s0 ∧ s0 ≤ 8 by omega)]
  obtain ⟨n, rfl⟩ : ∃ n : Nat, s0 = n := ⟨s0.toNat, by omega⟩
  have hlen : (turn x2 [] t).length + 10 < N ∧ (turn x2 [] t).length * 8 ≤ 140737488351232 := by
    rcases turn_mem (l := x2) (d := []) (t := t) with h | h
    · rw [h]; exact ⟨by simpa using hN, by simp⟩
    · exact hl _ h
  have fin : (Order_20 N (((n : Int), turn x2 [] t, ()), ())).bind (fun y : ((Unit × Unit) × (List Int × Unit)) => some (((), ()), y.2.1, ())) = some (((), ()), ord (n : Int).toNat (turn x2 [] t), ()) := by
    rw [ref_ok (by omega) (by omega) (by omega) (by omega), bnd, Int.toNat_natCast]
  by_cases h : x2.length = 0
  · rw [byB_f (by omega)]
    have e : turn x2 [] t = ([] : List Int) := by unfold turn; rw [if_pos (.inl h)]
    rw [e] at fin ⊢
    exact fin
  · rw [byB_t (by omega)]
    by_cases h2 : t < 0
    · rw [byB_f (by omega)]
      have e : turn x2 [] t = ([] : List Int) := by unfold turn; rw [if_pos (.inr h2)]
      rw [e] at fin ⊢
      exact fin
    · have h3 := Int.emod_nonneg t (show (x2.length : Int) ≠ 0 by omega)
      have h4 := Int.emod_lt_of_pos t (show 0 < (x2.length : Int) by omega)
      rw [byB_t (by omega), if_neg (by omega), Int.tmod_eq_emod_of_nonneg (by omega), if_pos ⟨h3, h4⟩]
      have e : turn x2 [] t = x2.getD (t % x2.length).toNat [] := by unfold turn; rw [if_neg (by omega)]
      rw [e] at fin ⊢
      exact fin
theorem rat_at {N : Nat} {x0 tick : Int} {x1 : List Rel} {x2 : List (List Int)} {x3 : List Int} (hl : x1.length * 24 ≤ 140737488351232) (hN : x1.length < N) :
    Ev (At_10 N (((x0, x1, x2, x3, ()), tick, ()), ())) fun y => y.2.1 = x1.filter fun r => r.2.1 == tick := by
  unfold At_10
  dsimp only
  refine Ev.loop (k := x1.length) (fun k st => ∃ i : Nat, st = ((tick, (), (), (i : Int), ()), (x0, x1, x2, x3, ()), (x1.take i).filter (fun r => r.2.1 == tick), ()) ∧ i + k = x1.length) ?_ ⟨0, by simp, by omega⟩ hN
  rintro k st again ⟨i, rfl, hk⟩ ih
  unfold At_10_L3
  dsimp only
  by_cases h : (i : Int) < x1.length
  · have hin : i < x1.length := by omega
    rw [byB_t h, if_pos ⟨by omega, h⟩, Int.toNat_natCast, w64 (by omega) (by omega)]
    have e : (x1.take (i + 1)).filter (fun r => r.2.1 == tick) = (x1.take i).filter (fun r => r.2.1 == tick) ++ if ((x1.getD i (0, 0, 0)).2.1 == tick) = true then [x1.getD i (0, 0, 0)] else [] := by
      rw [take_succ_getD (d := ((0, 0, 0) : Rel)) hin, List.filter_append]
      congr 1
      simp only [List.filter_cons, List.filter_nil]
    have hlen : ((x1.take i).filter fun r => r.2.1 == tick).length ≤ i := Nat.le_trans (List.length_filter_le ..) (by rw [List.length_take]; omega)
    cases hb : (x1.getD i (0, 0, 0)).2.1 == tick with
    | true =>
      rw [byB_true, if_pos ⟨by omega, h⟩, if_pos (by omega)]
      refine ih (k - 1) _ (by omega) ⟨i + 1, ?_, by omega⟩
      rw [e, hb]
      simp
    | false =>
      rw [byB_false]
      refine ih (k - 1) _ (by omega) ⟨i + 1, ?_, by omega⟩
      rw [e, hb]
      simp
  · rw [byB_f h]
    refine Ev.mk ?_
    rw [List.take_of_length_le (by omega)]
theorem rsright_at {N : Nat} (hN : 3000 < N) (s0 s1 s2 s3 s4 s5 s6 s7 : Int) (s8 : List Tk) (x0 : Int) (x1 : List Rel) (x2 : List (List Int)) (x3 : List Int) :
    Right_14 N (((s0, s1, s2, s3, s4, s5, s6, s7, s8, ()), (x0, x1, x2, x3, ()), ()), ()) = some ((scB s0 s1 s2 s3 s4 s5 s6 s7 s8 x0 x1, ()), ()) := by
  unfold Right_14 scB
  dsimp only
  rw [rright_at (by omega), bnd]
  dsimp only
  cases rightB s0 s1 s2 s3 s4 s5 s6 s7 s8 with
  | false => rfl
  | true =>
    rw [Bool.not_true, byB_false, Bool.true_and]
    by_cases h1 : x0 < 0
    · rw [byB_t h1, decide_eq_false (by omega)]; rfl
    rw [byB_f h1]
    by_cases h2 : x0 > 20000
    · rw [byB_t h2, decide_eq_false (by omega)]; rfl
    rw [byB_f h2]
    by_cases h3 : (x1.length : Int) > 2000
    · rw [byB_t h3, decide_eq_false (by omega)]; rfl
    rw [byB_f h3, decide_eq_true (show 0 ≤ x0 ∧ x0 ≤ 20000 ∧ (x1.length : Int) ≤ 2000 by omega), Bool.true_and]
    refine Ev.eq (Q := fun z => z = ((relB s8.length 0 x1, ()), ())) ?_ fun s h => h
    refine Ev.loop (k := x1.length) (fun k st => ∃ (i : Nat) (last : Int), st = (((), (), (i : Int), ()), (s0, s1, s2, s3, s4, s5, s6, s7, s8, ()), (x0, x1, x2, x3, ()), ()) ∧ i + k = x1.length ∧ 0 ≤ last ∧ (i = 0 → last = 0) ∧ (0 < i → (x1.getD (i - 1) (0, 0, 0)).2.1 = last) ∧ relB s8.length last (x1.drop i) = relB s8.length 0 x1) ?_ ⟨0, 0, rfl, by omega, by omega, fun _ => rfl, fun h => by omega, by simp⟩ (by omega)
    rintro k st again ⟨i, last, rfl, hk, hl0, hl1, hl2, hi⟩ ih
    unfold Right_14_L5
    dsimp only
    by_cases h : (i : Int) < x1.length
    · have hin : i < x1.length := by omega
      rw [byB_t h, if_pos ⟨by omega, h⟩, Int.toNat_natCast]
      rw [drop_getD (d := ((0, 0, 0) : Rel)) hin, relB] at hi
      have hnext : (x1.getD (i + 1 - 1) (0, 0, 0)) = x1.getD i (0, 0, 0) := rfl
      generalize hr : x1.getD i (0, 0, 0) = r at *
      have no : ¬ (last ≤ r.2.1 ∧ 0 ≤ r.1 ∧ r.1 < (s8.length : Int) ∧ 1 ≤ r.2.2 ∧ r.2.2 ≤ 1099511627776) → Ev (some ((false, ()), ())) fun z : (Bool × Unit) × Unit => z = ((relB s8.length 0 x1, ()), ()) := by
        intro hb
        rw [decide_eq_false hb, Bool.false_and] at hi
        rw [← hi]; exact Ev.mk rfl
      refine Ev.dec (fun hp => no (by omega)) fun h4 => ?_
      have rest : last ≤ r.2.1 → Ev (byB (decide (r.1 < 0)) (some ((false, ()), ())) (byB (decide (r.1 ≥ (s8.length : Int))) (some ((false, ()), ())) (byB (decide (r.2.2 < 1)) (some ((false, ()), ())) (byB (decide (r.2.2 > 1099511627776)) (some ((false, ()), ()))
          (again (((), (), IntKind.wrap .i64 ((i : Int) + 1), ()), (s0, s1, s2, s3, s4, s5, s6, s7, s8, ()), (x0, x1, x2, x3, ()), ())))))) fun z : (Bool × Unit) × Unit => z = ((relB s8.length 0 x1, ()), ()) := by
        intro hle
        refine Ev.dec (fun hp => no (by omega)) fun h5 => ?_
        refine Ev.dec (fun hp => no (by omega)) fun h6 => ?_
        refine Ev.dec (fun hp => no (by omega)) fun h7 => ?_
        refine Ev.dec (fun hp => no (by omega)) fun h8 => ?_
        rw [decide_eq_true (by omega), Bool.true_and] at hi
        rw [w64 (by omega) (by omega)]
        exact ih (k - 1) _ (by omega) ⟨i + 1, r.2.1, by simp, by omega, by omega, fun h => (by omega), fun _ => by rw [hnext], hi⟩
      by_cases h0 : (i : Int) > 0
      · rw [byB_t h0]
        have e : IntKind.wrap .i64 ((i : Int) - 1) = ((i - 1 : Nat) : Int) := by rw [w64 (by omega) (by omega)]; omega
        rw [e, if_pos ⟨by omega, by omega⟩, Int.toNat_natCast, hl2 (by omega)]
        refine Ev.dec (fun hp => no (by omega)) fun h5 => ?_
        exact rest (by omega)
      · rw [byB_f h0]
        have := hl1 (by omega)
        exact rest (by omega)
    · rw [byB_f h]
      rw [List.drop_eq_nil_of_le (by omega), relB] at hi
      rw [← hi]; exact Ev.mk rfl
theorem rlats_at {N : Nat} {s0 s1 s2 s3 s4 s5 s6 s7 x0 : Int} {s8 : List Tk} {x1 : List Rel} {x2 : List (List Int)} {x3 : List Int} (hl : (x3.length : Int) ≤ 9223372036854775806) (hN : x3.length < N) :
    Ev (loopN N (Admissible_16_L16 N) (((), (), 0, ()), (s0, s1, s2, s3, s4, s5, s6, s7, s8, ()), (x0, x1, x2, x3, ()), ())) fun z => z.1.1 = true ↔ LatsP s6 x3 := by
  refine Ev.loop (k := x3.length) (fun k st => ∃ i : Nat, st = (((), (), (i : Int), ()), (s0, s1, s2, s3, s4, s5, s6, s7, s8, ()), (x0, x1, x2, x3, ()), ()) ∧ i + k = x3.length ∧ ∀ n ∈ x3.take i, 1 ≤ n ∧ n ≤ s6) ?_ ⟨0, rfl, by omega, by simp⟩ hN
  rintro k st again ⟨i, rfl, hk, hi⟩ ih
  unfold Admissible_16_L16
  dsimp only
  by_cases h : (i : Int) < x3.length
  · have hin : i < x3.length := by omega
    have hm := getD_mem (d := (0 : Int)) hin
    rw [byB_t h, if_pos ⟨by omega, h⟩, Int.toNat_natCast]
    refine Ev.dec (fun h1 => Ev.mk ⟨fun h => (by cases h), fun hP => ?_⟩) fun h1 => ?_
    · have := hP _ hm; omega
    rw [if_pos ⟨by omega, h⟩]
    refine Ev.dec (fun h2 => Ev.mk ⟨fun h => (by cases h), fun hP => ?_⟩) fun h2 => ?_
    · have := hP _ hm; omega
    rw [w64 (by omega) (by omega)]
    refine ih (k - 1) _ (by omega) ⟨i + 1, by simp, by omega, fun n hn => ?_⟩
    rw [take_succ_getD (d := (0 : Int)) hin, List.mem_append, List.mem_singleton] at hn
    rcases hn with hn | rfl
    · exact hi n hn
    · omega
  · rw [byB_f h]
    rw [List.take_of_length_le (by omega)] at hi
    exact Ev.mk ⟨fun _ => hi, fun _ => rfl⟩
theorem radm_at {N : Nat} (hN : 3000 < N) {s0 s1 s2 s3 s4 s5 s6 s7 : Int} {s8 : List Tk} {x0 : Int} {x1 : List Rel} {x2 : List (List Int)} {x3 : List Int} (h3 : (x3.length : Int) ≤ 9223372036854775806) (hN3 : x3.length < N)
    (hw : ∀ r ∈ x1, (Lit.int .i64 r.2.1).wf = true) :
    Ev (Admissible_16 N (((s0, s1, s2, s3, s4, s5, s6, s7, s8, ()), (x0, x1, x2, x3, ()), ()), ())) fun z => z.1.1 = true ↔ AdmP s0 s1 s2 s3 s4 s5 s6 s7 s8 x0 x1 x3 := by
  unfold Admissible_16
  dsimp only
  rw [rsright_at (by omega), bnd]
  dsimp only
  cases hr : scB s0 s1 s2 s3 s4 s5 s6 s7 s8 x0 x1 with
  | false =>
    rw [Bool.not_false, byB_true]
    exact Ev.mk ⟨fun h => (by cases h), fun h => (by rw [h.1] at hr; cases hr)⟩
  | true =>
    obtain ⟨_, _, _, hlen, hrel⟩ := scB_of hr
    obtain ⟨hge, hso⟩ := rel_sorted hrel
    have htk := rel_tasks hrel
    rw [Bool.not_true, byB_false]
    have no : ¬ RelsP s8 x1 → Ev (some ((false, ()), ())) fun z : (Bool × Unit) × Unit => z.1.1 = true ↔ AdmP s0 s1 s2 s3 s4 s5 s6 s7 s8 x0 x1 x3 := fun h => Ev.mk ⟨fun h => (by cases h), fun k => absurd k.2.1 h⟩
    refine Ev.loop (k := x1.length) (fun k st => ∃ i : Nat, st = (((), (), (i : Int), ()), (s0, s1, s2, s3, s4, s5, s6, s7, s8, ()), (x0, x1, x2, x3, ()), ()) ∧ i + k = x1.length ∧ RelsP s8 (x1.take i)) ?_
      ⟨0, rfl, by omega, ⟨fun r h => (by simp at h), by simp⟩⟩ (by omega)
    rintro k st again ⟨i, rfl, hk, hi⟩ ih
    unfold Admissible_16_L5
    dsimp only
    by_cases h : (i : Int) < x1.length
    · have hin : i < x1.length := by omega
      have hmem := getD_mem (d := ((0, 0, 0) : Rel)) hin
      have hts := take_succ_getD (d := ((0, 0, 0) : Rel)) hin
      have hsub : (x1.take i ++ [x1.getD i (0, 0, 0)]).Sublist x1 := by rw [← hts]; exact List.take_sublist ..
      have hsplit : x1 = x1.take i ++ x1.getD i (0, 0, 0) :: x1.drop (i + 1) := by
        rw [← drop_getD hin, List.take_append_drop]
      have hbef : ∀ a ∈ x1.take i, a.2.1 ≤ (x1.getD i (0, 0, 0)).2.1 := by
        intro a ha
        have h1 := hso
        rw [hsplit, List.pairwise_append] at h1
        exact h1.2.2 a ha _ (List.mem_cons_self ..)
      rw [byB_t h, if_pos ⟨by omega, h⟩, Int.toNat_natCast]
      have ht := htk _ hmem
      have hat := wf64 (hw _ hmem)
      rw [if_pos ⟨ht.1, ht.2.1⟩]
      generalize x1.getD i (0, 0, 0) = r at *
      by_cases h1 : r.2.2 > (s8.getD r.1.toNat (0, 0, 0, [])).2.2.1
      · rw [decide_eq_true h1, byB_true]
        refine no fun hP => ?_
        have := (RelsP.snoc.1 (hP.sub hsub)).2.1
        unfold wc at this
        omega
      rw [decide_eq_false h1, byB_false]
      have g2 : r.2.2 ≤ wc s8 r.1 := by unfold wc; omega
      refine Ev.loop (k := i) (fun k st => ∃ q : Nat, st = (((), (), (i : Int), (), (q : Int), (), r.2.2, (), s8, (), r.1, (s8.getD r.1.toNat (0, 0, 0, [])).2.2.1, false, ()), (s0, s1, s2, s3, s4, s5, s6, s7, s8, ()), (x0, x1, x2, x3, ()), (r.1, r.2.1, r.2.2, ()), ()) ∧ q + k = i ∧ ∀ a ∈ x1.take q, a.1 = r.1 → per s8 r.1 ≤ r.2.1 - a.2.1) ?_ ⟨0, rfl, by omega, by simp⟩ (by omega)
      rintro k2 st again2 ⟨q, rfl, hk2, hq⟩ ih2
      unfold Admissible_16_L11
      dsimp only
      by_cases h2 : (q : Int) < i
      · have hqn : q < x1.length := by omega
        have hts2 := take_succ_getD (d := ((0, 0, 0) : Rel)) hqn
        have hqm : x1.getD q (0, 0, 0) ∈ x1.take i := by
          have : x1.getD q (0, 0, 0) ∈ x1.take (q + 1) := by rw [hts2]; simp
          exact (List.take_subset_take_left x1 (show q + 1 ≤ i by omega)) this
        have hge2 := hge _ (List.mem_of_mem_take hqm)
        have hle2 := hbef _ hqm
        rw [byB_t h2, if_pos ⟨by omega, by omega⟩, Int.toNat_natCast, w64 (n := (q : Int) + 1) (by omega) (by omega)]
        generalize x1.getD q (0, 0, 0) = a at *
        have ew : IntKind.wrap .i64 (r.2.1 - a.2.1) = r.2.1 - a.2.1 := w64 (by omega) (by omega)
        have go : (a.1 = r.1 → per s8 r.1 ≤ r.2.1 - a.2.1) → Ev (again2 (((), (), (i : Int), (), (q : Int) + 1, (), r.2.2, (), s8, (), r.1, (s8.getD r.1.toNat (0, 0, 0, [])).2.2.1, false, ()), (s0, s1, s2, s3, s4, s5, s6, s7, s8, ()), (x0, x1, x2, x3, ()), (r.1, r.2.1, r.2.2, ()), ())) fun z => z.1.1 = true ↔ AdmP s0 s1 s2 s3 s4 s5 s6 s7 s8 x0 x1 x3 := by
          intro hh
          refine ih2 (k2 - 1) _ (by omega) ⟨q + 1, by simp, by omega, fun b hb e => ?_⟩
          rw [hts2, List.mem_append, List.mem_singleton] at hb
          rcases hb with hb | rfl
          · exact hq b hb e
          · exact hh e
        refine Ev.beq (fun e => ?_) fun e => go fun e' => absurd e' e
        rw [if_pos ⟨by omega, by omega⟩, if_pos ⟨ht.1, ht.2.1⟩]
        simp only [ew]
        refine Ev.dec (fun h5 => no fun hP => ?_) fun h5 => go fun _ => ?_
        · have := (RelsP.snoc.1 (hP.sub hsub)).2.2 a hqm e
          unfold per at this
          omega
        · unfold per; omega
      · rw [byB_f h2, w64 (by omega) (by omega)]
        have e : q = i := by omega
        subst e
        refine ih (k - 1) _ (by omega) ⟨q + 1, by simp, by omega, ?_⟩
        rw [hts]
        exact RelsP.snoc.2 ⟨hi, g2, hq⟩
    · rw [byB_f h]
      rw [List.take_of_length_le (by omega)] at hi
      refine (rlats_at h3 hN3).mono fun z hz => ?_
      exact ⟨fun h => ⟨hr, hi, hz.1 h⟩, fun h => hz.2 h.2.2⟩
end Go.Proofs.YtlheebdnplcmcaaC
