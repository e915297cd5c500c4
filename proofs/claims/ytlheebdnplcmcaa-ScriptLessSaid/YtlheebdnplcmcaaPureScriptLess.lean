/- The plain law ScriptLess. Conditions: its own. -/
import Derived.Test.YtlheebdnplcmcaaXAdm
namespace Go.Proofs.Ytlheebdnplcmcaa.Pure
open Go Go.Proofs.YtlheebdnplcmcaaM Go.Proofs.YtlheebdnplcmcaaX Go.Proofs.YtlheebdnplcmcaaL Go.Proofs.YtlheebdnplcmcaaC
set_option linter.unusedVariables false

def okr (n : Int) (r : Rel) : Prop := 0 ≤ r.1 ∧ r.1 < n ∧ 1 ≤ r.2.2 ∧ r.2.2 ≤ 1099511627776
theorem rel_iff {n : Int} : ∀ {l : List Rel} {last : Int}, relB n last l = true ↔ (∀ r ∈ l, last ≤ r.2.1 ∧ okr n r) ∧ l.Pairwise fun a b => a.2.1 ≤ b.2.1
  | [], last => by simp [relB]
  | r :: l, last => by
    rw [relB, Bool.and_eq_true, decide_eq_true_eq, rel_iff, List.pairwise_cons]
    constructor
    · rintro ⟨h1, h2, h3⟩
      refine ⟨fun x hx => ?_, fun x hx => (h2 x hx).1, h3⟩
      rcases List.mem_cons.1 hx with rfl | hx
      · exact h1
      · exact ⟨by have := (h2 x hx).1; omega, (h2 x hx).2⟩
    · rintro ⟨h1, h2, h3⟩
      exact ⟨h1 r (by simp), fun x hx => ⟨h2 x hx, (h1 x (by simp [hx])).2⟩, h3⟩
section
variable {s0 s1 s2 s3 s4 s5 s6 s7 x0 : Int} {s8 : List Tk} {x1 : List Rel} {x3 : List Int}
theorem sc_mk {l : List Rel} (h : scB s0 s1 s2 s3 s4 s5 s6 s7 s8 x0 x1 = true) (hl : (l.length : Int) ≤ 2000) (hr : relB s8.length 0 l = true) : scB s0 s1 s2 s3 s4 s5 s6 s7 s8 x0 l = true := by
  obtain ⟨k1, k2, k3, k4, k5⟩ := scB_of h
  unfold scB
  rw [k1, hr, Bool.true_and, Bool.and_true, decide_eq_true_eq]
  exact ⟨k2, k3, hl⟩
theorem adm_sub {l : List Rel} (h : AdmP s0 s1 s2 s3 s4 s5 s6 s7 s8 x0 x1 x3) (hs : l.Sublist x1) : AdmP s0 s1 s2 s3 s4 s5 s6 s7 s8 x0 l x3 := by
  obtain ⟨k1, k2, k3, k4, k5⟩ := scB_of h.1
  have hr := rel_iff.1 k5
  refine ⟨sc_mk h.1 (by have := hs.length_le; omega) (rel_iff.2 ⟨fun r hr' => hr.1 r (hs.subset hr'), hr.2.sublist hs⟩), h.2.1.sub hs, h.2.2⟩
theorem map_set_same {α β : Type} {f : α → β} {l : List α} {i : Nat} {v : α} (h : ∀ a, l[i]? = some a → f v = f a) : (l.set i v).map f = l.map f := by
  apply List.ext_getElem?
  intro j
  rw [List.getElem?_map, List.getElem?_map, List.getElem?_set]
  by_cases e : i = j
  · subst e
    rw [if_pos rfl]
    cases hl : l[i]? with
    | none => rw [if_neg (by have := List.getElem?_eq_none_iff.1 hl; omega)]
    | some a =>
      rw [if_pos (List.getElem?_eq_some_iff.1 hl).1]
      simp only [Option.map_some, h a hl]
  · rw [if_neg e]
theorem adm_small {i : Nat} (h : AdmP s0 s1 s2 s3 s4 s5 s6 s7 s8 x0 x1 x3) (hi : i < x1.length) : AdmP s0 s1 s2 s3 s4 s5 s6 s7 s8 x0 (x1.set i ((x1.getD i (0, 0, 0)).1, (x1.getD i (0, 0, 0)).2.1, 1)) x3 := by
  obtain ⟨k1, k2, k3, k4, k5⟩ := scB_of h.1
  have hr := rel_iff.1 k5
  have hm := getD_mem (d := ((0, 0, 0) : Rel)) hi
  have hsame : ∀ a : Rel, x1[i]? = some a → x1.getD i (0, 0, 0) = a := fun a ha => by rw [List.getD_eq_getElem?_getD, ha]; rfl
  have pw : ∀ R : (Int × Int) → (Int × Int) → Prop, x1.Pairwise (fun a b => R (a.1, a.2.1) (b.1, b.2.1)) → (x1.set i ((x1.getD i (0, 0, 0)).1, (x1.getD i (0, 0, 0)).2.1, 1)).Pairwise fun a b => R (a.1, a.2.1) (b.1, b.2.1) := by
    intro R hp
    have h1 : ∀ l : List Rel, l.Pairwise (fun a b => R (a.1, a.2.1) (b.1, b.2.1)) ↔ (l.map fun a => (a.1, a.2.1)).Pairwise R := fun l => by rw [List.pairwise_map]
    rw [h1] at hp ⊢
    rw [map_set_same fun a ha => by rw [hsame a ha]]
    exact hp
  refine ⟨sc_mk h.1 (by simpa using k4) (rel_iff.2 ⟨fun r hr' => ?_, pw (fun a b => a.2 ≤ b.2) hr.2⟩), ⟨fun r hr' => ?_, pw (fun a b => a.1 = b.1 → per s8 b.1 ≤ b.2 - a.2) h.2.1.2⟩, h.2.2⟩
  · rcases List.mem_or_eq_of_mem_set hr' with h1 | rfl
    · exact hr.1 r h1
    · have := hr.1 _ hm
      exact ⟨this.1, this.2.1, this.2.2.1, show (1 : Int) ≤ 1 by omega, show (1 : Int) ≤ 1099511627776 by omega⟩
  · rcases List.mem_or_eq_of_mem_set hr' with h1 | rfl
    · exact h.2.1.1 r h1
    · have h1 := h.2.1.1 _ hm
      have h2 := (hr.1 _ hm).2.2.2.1
      exact Int.le_trans h2 h1
theorem per_range (h : scB s0 s1 s2 s3 s4 s5 s6 s7 s8 x0 x1 = true) {t : Int} (h0 : 0 ≤ t) (h1 : t < s8.length) : 1 ≤ per s8 t ∧ per s8 t ≤ 1099511627776 := by
  obtain ⟨k1, _⟩ := scB_of h
  unfold rightB at k1
  rw [Bool.and_eq_true] at k1
  have hm := getD_mem (d := ((0, 0, 0, []) : Tk)) (show t.toNat < s8.length by omega)
  have := List.all_eq_true.1 k1.2 _ hm
  unfold taskB at this
  rw [Bool.and_eq_true] at this
  have h2 := this.1
  unfold numB at h2
  rw [decide_eq_true_eq] at h2
  unfold per
  exact ⟨h2.1, h2.2.1⟩
end

theorem ScriptLess (y0 : Int × Int × Int × Int × Int × Int × Int × Int × (List (Int × Int × Int × (List (Int × Int × Int))))) (y1 : Int × (List (Int × Int × Int)) × (List (List Int)) × (List Int)) (y2 : Int) (gy0 : ((Lit.int .i64 y0.1).wf = true ∧ ((Lit.int .i64 y0.2.1).wf = true ∧ ((Lit.int .i64 y0.2.2.1).wf = true ∧ ((Lit.int .i64 y0.2.2.2.1).wf = true ∧ ((Lit.int .i64 y0.2.2.2.2.1).wf = true ∧ ((Lit.int .i64 y0.2.2.2.2.2.1).wf = true ∧ ((Lit.int .i64 y0.2.2.2.2.2.2.1).wf = true ∧ ((Lit.int .i64 y0.2.2.2.2.2.2.2.1).wf = true ∧ (y0.2.2.2.2.2.2.2.2.length * 48 ≤ 140737488351232 ∧ ∀ e0 ∈ y0.2.2.2.2.2.2.2.2, ((Lit.int .i64 e0.1).wf = true ∧ ((Lit.int .i64 e0.2.1).wf = true ∧ ((Lit.int .i64 e0.2.2.1).wf = true ∧ (e0.2.2.2.length * 24 ≤ 140737488351232 ∧ ∀ e1 ∈ e0.2.2.2, ((Lit.int .i64 e1.1).wf = true ∧ ((Lit.int .i64 e1.2.1).wf = true ∧ (Lit.int .i64 e1.2.2).wf = true)))))))))))))))) (gy1 : ((Lit.int .i64 y1.1).wf = true ∧ ((y1.2.1.length * 24 ≤ 140737488351232 ∧ ∀ e0 ∈ y1.2.1, ((Lit.int .i64 e0.1).wf = true ∧ ((Lit.int .i64 e0.2.1).wf = true ∧ (Lit.int .i64 e0.2.2).wf = true))) ∧ ((y1.2.2.1.length * 24 ≤ 140737488351232 ∧ ∀ e0 ∈ y1.2.2.1, (e0.length * 8 ≤ 140737488351232 ∧ ∀ e1 ∈ e0, (Lit.int .i64 e1).wf = true)) ∧ (y1.2.2.2.length * 8 ≤ 140737488351232 ∧ ∀ e0 ∈ y1.2.2.2, (Lit.int .i64 e0).wf = true))))) (gy2 : (Lit.int .i64 y2).wf = true) : ∃ N, ScriptLess_4 N (((y0.1, y0.2.1, y0.2.2.1, y0.2.2.2.1, y0.2.2.2.2.1, y0.2.2.2.2.2.1, y0.2.2.2.2.2.2.1, y0.2.2.2.2.2.2.2.1, y0.2.2.2.2.2.2.2.2, ()), (y1.1, y1.2.1, y1.2.2.1, y1.2.2.2, ()), y2, ()), ()) = some ((true, ()), ()) := by
  obtain ⟨M, hM⟩ : ∃ M : Nat, 6000 ≤ M := ⟨6000, Nat.le_refl _⟩
  have h2 := wf64 gy2
  have ht := gy0.2.2.2.2.2.2.2.2.1
  have hx := gy1.2.1
  have hx3 := gy1.2.2.2.1
  obtain ⟨s0, s1, s2, s3, s4, s5, s6, s7, s8⟩ := y0
  obtain ⟨x0, x1, x2, x3⟩ := y1
  dsimp only at ht hx hx3 ⊢
  refine ⟨M + x3.length, ?_⟩
  have hN : 6000 ≤ M + x3.length ∧ x3.length < M + x3.length := by omega
  generalize M + x3.length = N at *
  unfold ScriptLess_4
  dsimp only
  rw [examples_eq (by omega), bnd, join_eq]
  refine Ev.eq (Q := fun z => z = ((true, ()), ())) ?_ fun s h => h
  refine Ev.bind (adm_at (N := N) (by omega) (x0 := x0) (x1 := x1) (x2 := x2) (x3 := x3) (by omega) hN.2 (fun r hr => (hx.2 r hr).2.1)) fun z hz => ?_
  have end3 : ∀ (w : Int) , Ev (ScriptLess_4_J3 N ((w, (), (), false, true, true, ()), (s0, s1, s2, s3, s4, s5, s6, s7, s8, ()), (x0, x1, x2, x3, ()), ())) fun z => z = ((true, ()), ()) := fun w => by
    unfold ScriptLess_4_J3
    dsimp only
    rw [byB_true]
    exact Ev.mk rfl
  cases hb : z.1.1 with
  | false => rw [Bool.not_false, byB_true]; exact end3 _
  | true =>
    have hadm := hz.1 hb
    obtain ⟨k1, k2, k3, k4, k5⟩ := scB_of hadm.1
    have hrel := rel_iff.1 k5
    rw [Bool.not_true, byB_false]
    by_cases hl0 : (x1.length : Int) = 0
    · have : ((x1.length : Int) == 0) = true := by rw [hl0]; rfl
      rw [this]
      exact end3 _
    have e0 : ((x1.length : Int) == 0) = false := by simpa using hl0
    rw [e0]
    have main : ∀ w : Int, 0 ≤ w → Ev (ScriptLess_4_J6 N ((w, (), (), false, true, ()), (s0, s1, s2, s3, s4, s5, s6, s7, s8, ()), (x0, x1, x2, x3, ()), ())) fun z => z = ((true, ()), ()) := by
      intro w hw
      unfold ScriptLess_4_J6
      dsimp only
      rw [if_neg hl0, Int.tmod_eq_emod_of_nonneg hw]
      have e1 := Int.emod_nonneg w hl0
      have e2 := Int.emod_lt_of_pos w (show 0 < (x1.length : Int) by omega)
      obtain ⟨i, hi⟩ : ∃ i : Nat, w % (x1.length : Int) = i := ⟨(w % (x1.length : Int)).toNat, by omega⟩
      rw [hi] at e1 e2 ⊢
      have hin : i < x1.length := by omega
      have e3 : IntKind.wrap .i64 ((i : Int) + 1) = ((i + 1 : Nat) : Int) := by rw [w64 (by omega) (by omega)]; simp
      rw [e3]
      simp only [Int.toNat_natCast, List.length_take, List.length_drop]
      rw [if_pos ⟨by omega, by omega, by omega⟩, if_pos (by omega), if_pos ⟨by omega, by omega, by omega⟩, if_pos (by omega), if_pos (by omega), if_pos ⟨by omega, by omega⟩, if_pos ⟨by omega, by omega⟩, if_pos ⟨by omega, by omega, by omega⟩, if_pos (by omega), if_pos (by omega), join_eq, join_eq, List.take_length]
      have hm := getD_mem (d := ((0, 0, 0) : Rel)) hin
      have hok := hrel.1 _ hm
      have hat := wf64 ((hx.2 _ hm).2.1)
      have hts := take_succ_getD (d := ((0, 0, 0) : Rel)) hin
      have hless := adm_sub hadm (l := x1.take i ++ x1.drop (i + 1)) (by
        have := List.Sublist.append (List.Sublist.refl (x1.take i)) (show (x1.drop (i + 1)).Sublist (x1.drop i) by rw [drop_getD (d := ((0, 0, 0) : Rel)) hin]; exact List.sublist_cons_self ..)
        rwa [List.take_append_drop] at this)
      have hsmall := adm_small hadm hin
      have hpre := hadm.2.1.sub (List.take_sublist (i + 1) x1)
      have hmt : x1.getD i (0, 0, 0) ∈ x1.take (i + 1) := by rw [hts]; simp
      have hpw : ∀ a ∈ x1.take (i + 1), a.2.1 ≤ (x1.getD i (0, 0, 0)).2.1 := by
        have h1 := hrel.2.sublist (List.take_sublist (i + 1) x1)
        rw [hts, List.pairwise_append] at h1
        intro a ha
        rw [hts] at ha
        rcases List.mem_append.1 ha with ha | ha
        · exact h1.2.2 a ha _ (by simp)
        · rw [List.mem_singleton] at ha; rw [ha]; exact Int.le_refl _
      have hpt := hrel.2.sublist (List.take_sublist (i + 1) x1)
      have hlt : (x1.take (i + 1)).length = i + 1 := by rw [List.length_take]; omega
      have hsubm : ∀ a ∈ x1.take (i + 1), 0 ≤ a.2.1 ∧ okr s8.length a := fun a ha => hrel.1 a (List.mem_of_mem_take ha)
      rw [byB_t (show (x1.getD i (0, 0, 0)).1 ≥ 0 from hok.2.1), decide_eq_true (show (x1.getD i (0, 0, 0)).1 < (s8.length : Int) from hok.2.2.1)]
      generalize x1.getD i (0, 0, 0) = r at *
      have hp := per_range hadm.1 hok.2.1 hok.2.2.1
      unfold ScriptLess_4_J16
      dsimp only
      rw [byB_true, e3, if_pos ⟨hok.2.1, hok.2.2.1⟩, if_pos ⟨by omega, by rw [List.length_append, hlt, List.length_singleton]; omega⟩, Int.toNat_natCast]
      have hget : (x1.take (i + 1) ++ [r]).getD (i + 1) (0, 0, 0) = r := by
        rw [getD_app_r (by omega), hlt, Nat.sub_self]; rfl
      have hset : ∀ v : Rel, (x1.take (i + 1) ++ [r]).set (i + 1) v = x1.take (i + 1) ++ [v] := fun v => by
        rw [List.set_append_right _ _ (by omega), hlt, Nat.sub_self]; rfl
      rw [hget, hset]
      have hP : (s8.getD r.1.toNat (0, 0, 0, [])).1 = per s8 r.1 := rfl
      rw [hP]
      have hA : IntKind.wrap .i64 (IntKind.wrap .i64 (r.2.1 + per s8 r.1) - 1) = r.2.1 + per s8 r.1 - 1 ∧ r.2.1 + per s8 r.1 - 1 ≤ 9223372036854775807 ∨ IntKind.wrap .i64 (IntKind.wrap .i64 (r.2.1 + per s8 r.1) - 1) < 0 := by
        rw [w64_def, w64_def]
        omega
      have hAw := w64_range (IntKind.wrap .i64 (r.2.1 + per s8 r.1) - 1)
      generalize IntKind.wrap .i64 (IntKind.wrap .i64 (r.2.1 + per s8 r.1) - 1) = A at *
      unfold ScriptLess_4_J17
      dsimp only
      rw [sright_at (by omega), bnd, byB_true]
      refine Ev.bind (adm_at (N := N) (by omega) (x0 := x0) (x1 := x1.take i ++ x1.drop (i + 1)) (x2 := x2) (x3 := x3) (by omega) hN.2 (fun a ha => by
        rcases List.mem_append.1 ha with ha | ha
        · exact (hx.2 a (List.mem_of_mem_take ha)).2.1
        · exact (hx.2 a (List.mem_of_mem_drop ha)).2.1)) fun z1 hz1 => ?_
      rw [hz1.2 hless, byB_true]
      refine Ev.bind (adm_at (N := N) (by omega) (x0 := x0) (x1 := x1.set i (r.1, r.2.1, 1)) (x2 := x2) (x3 := x3) (by omega) hN.2 (fun a ha => by
        rcases List.mem_or_eq_of_mem_set ha with ha | rfl
        · exact (hx.2 a ha).2.1
        · exact (hx.2 r hm).2.1)) fun z2 hz2 => ?_
      rw [hz2.2 hsmall, byB_true]
      refine Ev.bind (adm_at (N := N) (by omega) (x0 := x0) (x1 := x1.take (i + 1) ++ [(r.1, A, r.2.2)]) (x2 := x2) (x3 := x3) (by omega) hN.2 (fun a ha => by
        rcases List.mem_append.1 ha with ha | ha
        · exact (hx.2 a (List.mem_of_mem_take ha)).2.1
        · rw [List.mem_singleton] at ha; subst ha; exact wf64_mk hAw.1 hAw.2)) fun z3 hz3 => ?_
      have hno : ¬ AdmP s0 s1 s2 s3 s4 s5 s6 s7 s8 x0 (x1.take (i + 1) ++ [(r.1, A, r.2.2)]) x3 := by
        intro h
        obtain ⟨j1, j2, j3, j4, j5⟩ := scB_of h.1
        have hr2 := (rel_iff.1 j5).1 (r.1, A, r.2.2) (by simp)
        have h3 := (RelsP.snoc.1 h.2.1).2.2 r hmt rfl
        dsimp only at hr2 h3
        rcases hA with hA | hA <;> omega
      have hz3' : z3.1.1 = false := by
        cases hc : z3.1.1 with
        | false => rfl
        | true => exact absurd (hz3.1 hc) hno
      rw [hz3', Bool.not_false, byB_true]
      cases hc : scB s0 s1 s2 s3 s4 s5 s6 s7 s8 x0 (x1.take (i + 1) ++ [(r.1, A, r.2.2)]) with
      | true => rw [byB_true]; exact Ev.mk rfl
      | false =>
        rw [byB_false]
        by_cases hlong : ((x1.take (i + 1) ++ [(r.1, A, r.2.2)]).length : Int) > 2000
        · rw [byB_t hlong]; exact Ev.mk rfl
        · rw [byB_f hlong, e3, if_pos ⟨by omega, by rw [List.length_append, hlt, List.length_singleton]; omega⟩, Int.toNat_natCast]
          refine Ev.mk ?_
          have hget2 : (x1.take (i + 1) ++ [(r.1, A, r.2.2)]).getD (i + 1) (0, 0, 0) = (r.1, A, r.2.2) := by
            rw [getD_app_r (by omega), hlt, Nat.sub_self]; rfl
          rw [hget2]
          have : A < r.2.1 := by
            rcases hA with hA | hA
            · exfalso
              have hgood : relB s8.length 0 (x1.take (i + 1) ++ [(r.1, A, r.2.2)]) = true := by
                refine rel_iff.2 ⟨fun a ha => ?_, ?_⟩
                · rcases List.mem_append.1 ha with ha | ha
                  · exact hsubm a ha
                  · rw [List.mem_singleton] at ha; subst ha
                    exact ⟨show 0 ≤ A by omega, hok.2⟩
                · rw [List.pairwise_append]
                  refine ⟨hpt, List.pairwise_singleton .., fun a ha b hb => ?_⟩
                  rw [List.mem_singleton] at hb; subst hb
                  have := hpw a ha
                  show a.2.1 ≤ A
                  omega
              rw [sc_mk hadm.1 (by omega) hgood] at hc
              cases hc
            · have := hok.1; omega
          dsimp only
          rw [decide_eq_true this]
    unfold ScriptLess_4_J3
    dsimp only
    rw [byB_false, join_eq]
    by_cases hneg : y2 < 0
    · rw [byB_t hneg]
      have e : IntKind.wrap .i64 (0 - (IntKind.wrap .i64 (y2 + 1))) = -(y2 + 1) := by
        rw [w64 (n := y2 + 1) (by omega) (by omega), w64 (by omega) (by omega)]; omega
      rw [e]
      exact main _ (by omega)
    · rw [byB_f hneg]
      exact main _ (by omega)
end Go.Proofs.Ytlheebdnplcmcaa.Pure
