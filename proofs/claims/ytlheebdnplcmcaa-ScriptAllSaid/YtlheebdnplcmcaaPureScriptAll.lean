/- The plain law ScriptAll. Conditions: its own. -/
import Derived.Test.YtlheebdnplcmcaaXScript
namespace Go.Proofs.Ytlheebdnplcmcaa.Pure
open Go Go.Proofs.YtlheebdnplcmcaaM Go.Proofs.YtlheebdnplcmcaaX Go.Proofs.YtlheebdnplcmcaaL Go.Proofs.YtlheebdnplcmcaaC
set_option linter.unusedVariables false

theorem ScriptAll (y0 : Int × Int × Int × Int × Int × Int × Int × Int × (List (Int × Int × Int × (List (Int × Int × Int))))) (y1 : Int × (List (Int × Int × Int)) × (List (List Int)) × (List Int)) (gy0 : ((Lit.int .i64 y0.1).wf = true ∧ ((Lit.int .i64 y0.2.1).wf = true ∧ ((Lit.int .i64 y0.2.2.1).wf = true ∧ ((Lit.int .i64 y0.2.2.2.1).wf = true ∧ ((Lit.int .i64 y0.2.2.2.2.1).wf = true ∧ ((Lit.int .i64 y0.2.2.2.2.2.1).wf = true ∧ ((Lit.int .i64 y0.2.2.2.2.2.2.1).wf = true ∧ ((Lit.int .i64 y0.2.2.2.2.2.2.2.1).wf = true ∧ (y0.2.2.2.2.2.2.2.2.length * 48 ≤ 140737488351232 ∧ ∀ e0 ∈ y0.2.2.2.2.2.2.2.2, ((Lit.int .i64 e0.1).wf = true ∧ ((Lit.int .i64 e0.2.1).wf = true ∧ ((Lit.int .i64 e0.2.2.1).wf = true ∧ (e0.2.2.2.length * 24 ≤ 140737488351232 ∧ ∀ e1 ∈ e0.2.2.2, ((Lit.int .i64 e1.1).wf = true ∧ ((Lit.int .i64 e1.2.1).wf = true ∧ (Lit.int .i64 e1.2.2).wf = true)))))))))))))))) (gy1 : ((Lit.int .i64 y1.1).wf = true ∧ ((y1.2.1.length * 24 ≤ 140737488351232 ∧ ∀ e0 ∈ y1.2.1, ((Lit.int .i64 e0.1).wf = true ∧ ((Lit.int .i64 e0.2.1).wf = true ∧ (Lit.int .i64 e0.2.2).wf = true))) ∧ ((y1.2.2.1.length * 24 ≤ 140737488351232 ∧ ∀ e0 ∈ y1.2.2.1, (e0.length * 8 ≤ 140737488351232 ∧ ∀ e1 ∈ e0, (Lit.int .i64 e1).wf = true)) ∧ (y1.2.2.2.length * 8 ≤ 140737488351232 ∧ ∀ e0 ∈ y1.2.2.2, (Lit.int .i64 e0).wf = true))))) : ∃ N, ScriptAll_5 N (((y0.1, y0.2.1, y0.2.2.1, y0.2.2.2.1, y0.2.2.2.2.1, y0.2.2.2.2.2.1, y0.2.2.2.2.2.2.1, y0.2.2.2.2.2.2.2.1, y0.2.2.2.2.2.2.2.2, ()), (y1.1, y1.2.1, y1.2.2.1, y1.2.2.2, ()), ()), ()) = some ((true, ()), ()) := by
  obtain ⟨N, hN⟩ : ∃ N : Nat, 6000 ≤ N := ⟨6000, Nat.le_refl _⟩
  refine ⟨N, ?_⟩
  have hg := gy1.2.1.1
  obtain ⟨s0, s1, s2, s3, s4, s5, s6, s7, s8⟩ := y0
  obtain ⟨x0, x1, x2, x3⟩ := y1
  dsimp only at hg ⊢
  unfold ScriptAll_5
  dsimp only
  rw [examples_eq (by omega), bnd, sright_at (by omega), bnd]
  dsimp only
  cases hr : scB s0 s1 s2 s3 s4 s5 s6 s7 s8 x0 x1 with
  | false => rfl
  | true =>
    obtain ⟨_, _, _, hlen, hrel⟩ := scB_of hr
    obtain ⟨hge, hso⟩ := rel_sorted hrel
    rw [Bool.not_true, byB_false]
    refine Ev.eq (Q := fun z => z = ((true, ()), ())) ?_ fun s h => h
    -- do all come ahead of tick 200?
    refine Ev.loop (k := x1.length) (fun k st => ∃ i : Nat, st = (((), true, (i : Int), ()), (x0, x1, x2, x3, ()), ()) ∧ i + k = x1.length ∧ ∀ j, j < i → (x1.getD j (0, 0, 0)).2.1 < 200) ?_ ⟨0, rfl, by omega, fun j hj => by omega⟩ (by omega)
    rintro k st again ⟨i, rfl, hk, hi⟩ ih
    unfold ScriptAll_5_L5
    dsimp only
    by_cases h : (i : Int) < x1.length
    · have hin : i < x1.length := by omega
      rw [byB_t h, if_pos ⟨by omega, h⟩, Int.toNat_natCast]
      by_cases c : (x1.getD i (0, 0, 0)).2.1 ≥ 200
      · rw [byB_t c]; exact Ev.mk rfl
      · rw [byB_f c, w64 (by omega) (by omega)]
        refine ih (k - 1) _ (by omega) ⟨i + 1, by simp, by omega, fun j hj => ?_⟩
        by_cases e : j = i
        · subst e; omega
        · exact hi j (by omega)
    · rw [byB_f h]
      have hall : ∀ r ∈ x1, r.2.1 < 200 := by
        intro r hr
        obtain ⟨j, hj, rfl⟩ := List.mem_iff_getElem.1 hr
        have := hi j (by omega)
        rw [getD_eq hj] at this
        exact this
      clear ih hi h hk again
      -- tick by tick
      refine Ev.loop (k := 200) (fun k st => ∃ t : Nat, st = (((), true, (bef t x1 : Int), (t : Int), ()), (x0, x1, x2, x3, ()), ()) ∧ t + k = 200) ?_ ⟨0, ?_, rfl⟩ (by omega)
      · rintro k st again ⟨t, rfl, hk⟩ ih
        unfold ScriptAll_5_L11
        dsimp only
        have hb := bef_le t x1
        by_cases h : (t : Int) < 200
        · rw [byB_t h]
          refine Ev.bind (at_at hg (by omega)) fun y hy => ?_
          rw [hy]
          have hsucc := bef_succ t x1
          have hb2 := bef_le (t + 1) x1
          have hfl : (x1.filter fun r => r.2.1 == (t : Int)).length ≤ x1.length := List.length_filter_le ..
          refine Ev.loop (k := (x1.filter fun r => r.2.1 == (t : Int)).length) (fun k st => ∃ i : Nat, st = (((), true, ((bef t x1 + i : Nat) : Int), (t : Int), (), (i : Int), ()), (x0, x1, x2, x3, ()), (x1.filter fun r => r.2.1 == (t : Int)), ()) ∧ i + k = (x1.filter fun r => r.2.1 == (t : Int)).length) ?_ ⟨0, rfl, by omega⟩ (by omega)
          rintro k2 st again2 ⟨i, rfl, hk2⟩ ih2
          unfold ScriptAll_5_L15
          dsimp only
          by_cases h2 : (i : Int) < (x1.filter fun r => r.2.1 == (t : Int)).length
          · have hin : i < (x1.filter fun r => r.2.1 == (t : Int)).length := by omega
            obtain ⟨g1, g2, g3⟩ := seg_at (t := t) hso hin (d := (0, 0, 0))
            rw [byB_t h2, byB_f (by omega), if_pos ⟨by omega, h2⟩, if_pos ⟨by omega, by omega⟩, if_pos ⟨by omega, h2⟩, Int.toNat_natCast, Int.toNat_natCast, g2]
            rw [beq_self_eq_true, beq_self_eq_true, beq_self_eq_true]
            simp only [Bool.and_self, Bool.not_true, byB_false]
            rw [byB_nef g3, w64 (by omega) (by omega), w64 (by omega) (by omega)]
            exact ih2 (k2 - 1) _ (by omega) ⟨i + 1, by simp [Int.add_assoc], by omega⟩
          · rw [byB_f h2, w64 (by omega) (by omega)]
            refine ih (k - 1) _ (by omega) ⟨t + 1, ?_, by omega⟩
            have e : i = (x1.filter fun r => r.2.1 == (t : Int)).length := by omega
            have e2 : bef ((t + 1 : Nat) : Int) x1 = bef t x1 + i := by
              rw [e]
              exact hsucc
            rw [e2]
            simp
        · rw [byB_f h, byB_true]
          have e : bef (t : Int) x1 = x1.length := by
            unfold bef
            rw [List.filter_eq_self.2 fun r hr => decide_eq_true (by have := hall r hr; omega)]
          rw [e, beq_self_eq_true]
          exact Ev.mk rfl
      · have e : bef ((0 : Nat) : Int) x1 = 0 := by
          unfold bef
          rw [List.filter_eq_nil_iff.2 fun r hr => by have := hge r hr; simp; omega]
          rfl
        rw [e]
        rfl
end Go.Proofs.Ytlheebdnplcmcaa.Pure
