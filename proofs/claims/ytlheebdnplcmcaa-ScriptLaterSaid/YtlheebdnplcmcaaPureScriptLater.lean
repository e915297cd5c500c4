/- The plain law ScriptLater. Conditions: its own. -/
import Derived.Test.YtlheebdnplcmcaaXAdm
namespace Go.Proofs.Ytlheebdnplcmcaa.Pure
open Go Go.Proofs.YtlheebdnplcmcaaM Go.Proofs.YtlheebdnplcmcaaX Go.Proofs.YtlheebdnplcmcaaL Go.Proofs.YtlheebdnplcmcaaC
set_option linter.unusedVariables false

theorem ext_getD {α : Type} {l m : List α} {d : α} (h : l.length = m.length) (k : ∀ j, j < l.length → l.getD j d = m.getD j d) : l = m := by
  refine List.ext_getElem h fun j h1 h2 => ?_
  have := k j h1
  rwa [getD_eq h1, getD_eq h2] at this
def sh (q : Int) (r : Rel) : Rel := (r.1, r.2.1 + q, r.2.2)
def lg (t : Tk) : Tk := (1099511627776, t.2)
theorem rel_shift {n q : Int} : ∀ {l : List Rel} {last last' : Int}, relB n last l = true → last' ≤ last + q → relB n last' (l.map (sh q)) = true
  | [], _, _, _, _ => rfl
  | r :: l, last, last', h, hl => by
    simp only [relB, Bool.and_eq_true, decide_eq_true_eq] at h
    have := rel_shift (q := q) (last' := r.2.1 + q) h.2 (Int.le_refl _)
    rw [List.map_cons, relB, Bool.and_eq_true, decide_eq_true_eq]
    exact ⟨by unfold sh; dsimp only; omega, this⟩
theorem adm_shift {q : Int} (hq : 0 ≤ q) {s0 s1 s2 s3 s4 s5 s6 s7 : Int} {s8 : List Tk} {x0 : Int} {x1 : List Rel} {x3 : List Int} (h : AdmP s0 s1 s2 s3 s4 s5 s6 s7 s8 x0 x1 x3) : AdmP s0 s1 s2 s3 s4 s5 s6 s7 s8 x0 (x1.map (sh q)) x3 := by
  obtain ⟨h1, ⟨h2, h3⟩, h4⟩ := h
  obtain ⟨k1, k2, k3, k4, k5⟩ := scB_of h1
  refine ⟨?_, ⟨fun r hr => ?_, ?_⟩, h4⟩
  · unfold scB
    rw [k1, Bool.true_and, rel_shift (last' := 0) k5 (by omega), Bool.and_true, decide_eq_true_eq, List.length_map]
    exact ⟨k2, k3, k4⟩
  · obtain ⟨a, ha, rfl⟩ := List.mem_map.1 hr
    exact h2 a ha
  · rw [List.pairwise_map]
    refine h3.imp fun {a b} hab e => ?_
    have := hab e
    unfold sh
    dsimp only
    omega
theorem right_long {s0 s1 s2 s3 s4 s5 s6 s7 : Int} {s8 : List Tk} {x0 : Int} {x1 : List Rel} (h : scB s0 s1 s2 s3 s4 s5 s6 s7 s8 x0 x1 = true) : scB s0 s1 s2 s3 s4 s5 s6 s7 (s8.map lg) x0 x1 = true := by
  obtain ⟨k1, k2, k3, k4, k5⟩ := scB_of h
  have hr : rightB s0 s1 s2 s3 s4 s5 s6 s7 (s8.map lg) = true := by
    unfold rightB at k1 ⊢
    rw [Bool.and_eq_true] at k1 ⊢
    refine ⟨?_, ?_⟩
    · have := k1.1
      unfold wholeB at this ⊢
      rw [List.length_map]
      exact this
    · rw [List.all_eq_true]
      intro t ht
      obtain ⟨u, hu, rfl⟩ := List.mem_map.1 ht
      have := List.all_eq_true.1 k1.2 u hu
      unfold taskB at this ⊢
      rw [Bool.and_eq_true] at this ⊢
      refine ⟨?_, this.2⟩
      have h2 := this.1
      unfold numB at h2 ⊢
      rw [decide_eq_true_eq] at h2 ⊢
      unfold lg
      dsimp only
      omega
  unfold scB
  rw [hr, Bool.true_and, List.length_map, k5, Bool.and_true, decide_eq_true_eq]
  exact ⟨k2, k3, k4⟩

theorem ScriptLater (y0 : Int × Int × Int × Int × Int × Int × Int × Int × (List (Int × Int × Int × (List (Int × Int × Int))))) (y1 : Int × (List (Int × Int × Int)) × (List (List Int)) × (List Int)) (y2 : Int) (gy0 : ((Lit.int .i64 y0.1).wf = true ∧ ((Lit.int .i64 y0.2.1).wf = true ∧ ((Lit.int .i64 y0.2.2.1).wf = true ∧ ((Lit.int .i64 y0.2.2.2.1).wf = true ∧ ((Lit.int .i64 y0.2.2.2.2.1).wf = true ∧ ((Lit.int .i64 y0.2.2.2.2.2.1).wf = true ∧ ((Lit.int .i64 y0.2.2.2.2.2.2.1).wf = true ∧ ((Lit.int .i64 y0.2.2.2.2.2.2.2.1).wf = true ∧ (y0.2.2.2.2.2.2.2.2.length * 48 ≤ 140737488351232 ∧ ∀ e0 ∈ y0.2.2.2.2.2.2.2.2, ((Lit.int .i64 e0.1).wf = true ∧ ((Lit.int .i64 e0.2.1).wf = true ∧ ((Lit.int .i64 e0.2.2.1).wf = true ∧ (e0.2.2.2.length * 24 ≤ 140737488351232 ∧ ∀ e1 ∈ e0.2.2.2, ((Lit.int .i64 e1.1).wf = true ∧ ((Lit.int .i64 e1.2.1).wf = true ∧ (Lit.int .i64 e1.2.2).wf = true)))))))))))))))) (gy1 : ((Lit.int .i64 y1.1).wf = true ∧ ((y1.2.1.length * 24 ≤ 140737488351232 ∧ ∀ e0 ∈ y1.2.1, ((Lit.int .i64 e0.1).wf = true ∧ ((Lit.int .i64 e0.2.1).wf = true ∧ (Lit.int .i64 e0.2.2).wf = true))) ∧ ((y1.2.2.1.length * 24 ≤ 140737488351232 ∧ ∀ e0 ∈ y1.2.2.1, (e0.length * 8 ≤ 140737488351232 ∧ ∀ e1 ∈ e0, (Lit.int .i64 e1).wf = true)) ∧ (y1.2.2.2.length * 8 ≤ 140737488351232 ∧ ∀ e0 ∈ y1.2.2.2, (Lit.int .i64 e0).wf = true))))) (gy2 : (Lit.int .i64 y2).wf = true) : ∃ N, ScriptLater_7 N (((y0.1, y0.2.1, y0.2.2.1, y0.2.2.2.1, y0.2.2.2.2.1, y0.2.2.2.2.2.1, y0.2.2.2.2.2.2.1, y0.2.2.2.2.2.2.2.1, y0.2.2.2.2.2.2.2.2, ()), (y1.1, y1.2.1, y1.2.2.1, y1.2.2.2, ()), y2, ()), ()) = some ((true, ()), ()) := by
  obtain ⟨M, hM⟩ : ∃ M : Nat, 6000 ≤ M := ⟨6000, Nat.le_refl _⟩
  have h2 := wf64 gy2
  have ht := gy0.2.2.2.2.2.2.2.2.1
  have hx := gy1.2.1
  have hx3 := gy1.2.2.2.1
  obtain ⟨s0, s1, s2, s3, s4, s5, s6, s7, s8⟩ := y0
  obtain ⟨x0, x1, x2, x3⟩ := y1
  dsimp only at ht hx hx3 ⊢
  refine ⟨M + x3.length + s8.length, ?_⟩
  have hN : 6000 ≤ M + x3.length + s8.length ∧ x3.length < M + x3.length + s8.length ∧ s8.length < M + x3.length + s8.length := by omega
  generalize M + x3.length + s8.length = N at *
  unfold ScriptLater_7
  dsimp only
  rw [examples_eq (by omega), bnd]
  refine Ev.eq (Q := fun z => z = ((true, ()), ())) ?_ fun s h => h
  refine Ev.bind (adm_at (N := N) (by omega) (x0 := x0) (x1 := x1) (x2 := x2) (x3 := x3) (by omega) hN.2.1 (fun r hr => (hx.2 r hr).2.1)) fun z hz => ?_
  cases hb : z.1.1 with
  | false => rw [Bool.not_false, byB_true]; exact Ev.mk rfl
  | true =>
    have hadm := hz.1 hb
    obtain ⟨k1, k2, k3, k4, k5⟩ := scB_of hadm.1
    obtain ⟨hge, _⟩ := rel_sorted k5
    rw [Bool.not_true, byB_false]
    have main : ∀ b : Int, 0 ≤ b → b ≤ 9223372036854775807 → Ev (if (0 + x1.length) * 24 ≤ 140737488355328 then
            loopN N (ScriptLater_7_L9 N) ((b, (), (), true, (), 0, ()), (s0, s1, s2, s3, s4, s5, s6, s7, s8, ()), (x0, x1, x2, x3, ()), (x0, (), x2, x3, ()), x1, ())
            else none) fun z => z = ((true, ()), ()) := by
      intro b hb0 hb1
      rw [if_pos (by omega)]
      have q0 := Int.emod_nonneg b (show (1000 : Int) ≠ 0 by omega)
      have q1 := Int.emod_lt_of_pos b (show (0 : Int) < 1000 by omega)
      refine Ev.loop (k := x1.length) (fun k st => ∃ (i : Nat) (l : List Rel), st = ((b, (), (), true, (), (i : Int), ()), (s0, s1, s2, s3, s4, s5, s6, s7, s8, ()), (x0, x1, x2, x3, ()), (x0, (), x2, x3, ()), l, ()) ∧ i + k = x1.length ∧ l.length = x1.length ∧
        (∀ j, j < i → l.getD j (0, 0, 0) = sh (b % 1000) (x1.getD j (0, 0, 0)) ∧ (x1.getD j (0, 0, 0)).2.1 ≤ 1099511627776) ∧ ∀ j, i ≤ j → l.getD j (0, 0, 0) = x1.getD j (0, 0, 0)) ?_ ⟨0, x1, rfl, by omega, rfl, fun j hj => by omega, fun _ _ => rfl⟩ (by omega)
      rintro k st again ⟨i, l, rfl, hk, hll, hi, hj⟩ ih
      unfold ScriptLater_7_L9
      dsimp only
      by_cases h : (i : Int) < l.length
      · have hin : i < l.length := by omega
        have hg : (0 : Int) ≤ i ∧ (i : Int) < l.length := ⟨by omega, h⟩
        rw [byB_t h, if_pos hg, Int.toNat_natCast, hj i (Nat.le_refl _)]
        have hm := getD_mem (d := ((0, 0, 0) : Rel)) (show i < x1.length by omega)
        have ha := hge _ hm
        refine Ev.dec (fun _ => Ev.mk rfl) fun h1 => ?_
        rw [if_pos hg, if_pos hg, Int.tmod_eq_emod_of_nonneg hb0, w64 (n := (x1.getD i (0, 0, 0)).2.1 + b % 1000) (by omega) (by omega), w64 (n := (i : Int) + 1) (by omega) (by omega)]
        refine ih (k - 1) _ (by omega) ⟨i + 1, l.set i (sh (b % 1000) (x1.getD i (0, 0, 0))), by simp [sh], by omega, by simpa using hll, fun j hji => ?_, fun j hij => ?_⟩
        · by_cases e : i = j
          · subst e
            rw [getD_set_eq hin]
            exact ⟨rfl, by omega⟩
          · rw [Go.Proofs.YtlheebdnplcmcaaL.getD_set_ne e]
            exact hi j (by omega)
        · rw [Go.Proofs.YtlheebdnplcmcaaL.getD_set_ne (by omega)]
          exact hj j (by omega)
      · rw [byB_f h]
        have hl : l = x1.map (sh (b % 1000)) := ext_getD (d := ((0, 0, 0) : Rel)) (by rw [List.length_map]; exact hll) fun j hj' => by
          rw [(hi j (by omega)).1, getD_eq (by omega), getD_eq (by rw [List.length_map]; omega), List.getElem_map]
        have hsmall : ∀ r ∈ x1, r.2.1 ≤ 1099511627776 := by
          intro r hr
          obtain ⟨j, hj', rfl⟩ := List.mem_iff_getElem.1 hr
          have := (hi j (by omega)).2
          rw [getD_eq hj'] at this
          exact this
        rw [hl, if_pos (by omega)]
        clear hl hi hj ih hk h hll
        -- the tasks' periods
        refine Ev.loop (k := s8.length) (fun k st => ∃ (i : Nat) (l : List Tk), st = (((), (), true, (), (), (i : Int), ()), (s0, s1, s2, s3, s4, s5, s6, s7, s8, ()), (x0, x1, x2, x3, ()), (x0, (), x2, x3, ()), (s0, s1, s2, s3, s4, s5, s6, s7, (), ()), x1.map (sh (b % 1000)), l, ()) ∧ i + k = s8.length ∧ l.length = s8.length ∧
          (∀ j, j < i → l.getD j (0, 0, 0, []) = lg (s8.getD j (0, 0, 0, []))) ∧ ∀ j, i ≤ j → l.getD j (0, 0, 0, []) = s8.getD j (0, 0, 0, [])) ?_ ⟨0, s8, rfl, by omega, rfl, fun j hj => by omega, fun _ _ => rfl⟩ hN.2.2
        rintro k2 st again2 ⟨i2, l2, rfl, hk2, hll2, hi2, hj2⟩ ih2
        unfold ScriptLater_7_L17
        dsimp only
        by_cases h : (i2 : Int) < l2.length
        · have hin : i2 < l2.length := by omega
          have hg : (0 : Int) ≤ i2 ∧ (i2 : Int) < l2.length := ⟨by omega, h⟩
          rw [byB_t h, if_pos hg, Int.toNat_natCast, hj2 i2 (Nat.le_refl _), w64 (by omega) (by omega)]
          refine ih2 (k2 - 1) _ (by omega) ⟨i2 + 1, l2.set i2 (lg (s8.getD i2 (0, 0, 0, []))), by simp [lg], by omega, by simpa using hll2, fun j hji => ?_, fun j hij => ?_⟩
          · by_cases e : i2 = j
            · subst e
              rw [getD_set_eq hin]
            · rw [Go.Proofs.YtlheebdnplcmcaaL.getD_set_ne e]
              exact hi2 j (by omega)
          · rw [Go.Proofs.YtlheebdnplcmcaaL.getD_set_ne (by omega)]
            exact hj2 j (by omega)
        · rw [byB_f h, byB_true]
          have hl2 : l2 = s8.map lg := ext_getD (d := ((0, 0, 0, []) : Tk)) (by rw [List.length_map]; exact hll2) fun j hj' => by
            rw [hi2 j (by omega), getD_eq (by omega), getD_eq (by rw [List.length_map]; omega), List.getElem_map]
          rw [hl2]
          refine Ev.bind (adm_at (N := N) (by omega) (x0 := x0) (x1 := x1.map (sh (b % 1000))) (x2 := x2) (x3 := x3) (by omega) hN.2.1 (fun r hr => by
            obtain ⟨a, ha, rfl⟩ := List.mem_map.1 hr
            have h1 := hsmall a ha
            have h2 := hge a ha
            exact wf64_mk (show _ ≤ a.2.1 + b % 1000 by omega) (show a.2.1 + b % 1000 ≤ _ by omega))) fun z2 hz2 => ?_
          rw [hz2.2 (adm_shift q0 hadm), byB_true, sright_at (by omega), bnd, right_long hadm.1]
          exact Ev.mk rfl
    by_cases hneg : y2 < 0
    · rw [byB_t hneg]
      have e : IntKind.wrap .i64 (0 - (IntKind.wrap .i64 (y2 + 1))) = -(y2 + 1) := by
        rw [w64 (n := y2 + 1) (by omega) (by omega), w64 (by omega) (by omega)]; omega
      rw [e]
      exact main _ (by omega) (by omega)
    · rw [byB_f hneg]
      exact main _ (by omega) (by omega)
end Go.Proofs.Ytlheebdnplcmcaa.Pure
