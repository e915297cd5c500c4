/- The plain law ScriptTells. Conditions: its own. -/
import Derived.Test.YtlheebdnplcmcaaXRef20
namespace Go.Proofs.Ytlheebdnplcmcaa.Pure
open Go Go.Proofs.YtlheebdnplcmcaaM Go.Proofs.YtlheebdnplcmcaaX Go.Proofs.YtlheebdnplcmcaaL Go.Proofs.YtlheebdnplcmcaaC
set_option linter.unusedVariables false

theorem cut8_len (n : Int) (l : List Int) : (cut8 n l).length ≤ 8 := by
  unfold cut8
  split
  · rw [ord_len]; omega
  · simp

theorem ScriptTells (y0 : Int × Int × Int × Int × Int × Int × Int × Int × (List (Int × Int × Int × (List (Int × Int × Int))))) (y1 : Int × (List (Int × Int × Int)) × (List (List Int)) × (List Int)) (y2 : Int) (gy0 : ((Lit.int .i64 y0.1).wf = true ∧ ((Lit.int .i64 y0.2.1).wf = true ∧ ((Lit.int .i64 y0.2.2.1).wf = true ∧ ((Lit.int .i64 y0.2.2.2.1).wf = true ∧ ((Lit.int .i64 y0.2.2.2.2.1).wf = true ∧ ((Lit.int .i64 y0.2.2.2.2.2.1).wf = true ∧ ((Lit.int .i64 y0.2.2.2.2.2.2.1).wf = true ∧ ((Lit.int .i64 y0.2.2.2.2.2.2.2.1).wf = true ∧ (y0.2.2.2.2.2.2.2.2.length * 48 ≤ 140737488351232 ∧ ∀ e0 ∈ y0.2.2.2.2.2.2.2.2, ((Lit.int .i64 e0.1).wf = true ∧ ((Lit.int .i64 e0.2.1).wf = true ∧ ((Lit.int .i64 e0.2.2.1).wf = true ∧ (e0.2.2.2.length * 24 ≤ 140737488351232 ∧ ∀ e1 ∈ e0.2.2.2, ((Lit.int .i64 e1.1).wf = true ∧ ((Lit.int .i64 e1.2.1).wf = true ∧ (Lit.int .i64 e1.2.2).wf = true)))))))))))))))) (gy1 : ((Lit.int .i64 y1.1).wf = true ∧ ((y1.2.1.length * 24 ≤ 140737488351232 ∧ ∀ e0 ∈ y1.2.1, ((Lit.int .i64 e0.1).wf = true ∧ ((Lit.int .i64 e0.2.1).wf = true ∧ (Lit.int .i64 e0.2.2).wf = true))) ∧ ((y1.2.2.1.length * 24 ≤ 140737488351232 ∧ ∀ e0 ∈ y1.2.2.1, (e0.length * 8 ≤ 140737488351232 ∧ ∀ e1 ∈ e0, (Lit.int .i64 e1).wf = true)) ∧ (y1.2.2.2.length * 8 ≤ 140737488351232 ∧ ∀ e0 ∈ y1.2.2.2, (Lit.int .i64 e0).wf = true))))) (gy2 : (Lit.int .i64 y2).wf = true) : ∃ N, ScriptTells_3 N (((y0.1, y0.2.1, y0.2.2.1, y0.2.2.2.1, y0.2.2.2.2.1, y0.2.2.2.2.2.1, y0.2.2.2.2.2.2.1, y0.2.2.2.2.2.2.2.1, y0.2.2.2.2.2.2.2.2, ()), (y1.1, y1.2.1, y1.2.2.1, y1.2.2.2, ()), y2, ()), ()) = some ((true, ()), ()) := by
  obtain ⟨M, hM⟩ : ∃ M : Nat, 6000 ≤ M := ⟨6000, Nat.le_refl _⟩
  have hx := gy1.2.1
  have hx2 := gy1.2.2.1
  have hx3 := gy1.2.2.2.1
  obtain ⟨s0, s1, s2, s3, s4, s5, s6, s7, s8⟩ := y0
  obtain ⟨x0, x1, x2, x3⟩ := y1
  dsimp only at hx hx2 hx3 ⊢
  refine ⟨M + x1.length + x3.length + big x2, ?_⟩
  have hl : ∀ l ∈ x2, l.length + 10 < M + x1.length + x3.length + big x2 ∧ l.length * 8 ≤ 140737488351232 := fun l hl => ⟨by have := big_le hl; omega, (hx2.2 l hl).1⟩
  have hN : 6000 ≤ M + x1.length + x3.length + big x2 ∧ x1.length < M + x1.length + x3.length + big x2 ∧ x3.length < M + x1.length + x3.length + big x2 := by omega
  generalize M + x1.length + x3.length + big x2 = N at *
  have hl' : ∀ l ∈ x2, l.length < N ∧ l.length * 8 ≤ 140737488351232 := fun l h => ⟨by have := (hl l h).1; omega, (hl l h).2⟩
  have hp := cut8_len s0 (turn x2 [] y2)
  have hq : (x1.filter fun r => r.2.1 == y2).length ≤ x1.length := List.length_filter_le ..
  have hxl := hx.1
  unfold ScriptTells_3
  dsimp only
  rw [examples_eq (by omega), bnd, rorder_at (by omega) hl, bnd]
  refine Ev.eq (Q := fun z => z = ((true, ()), ())) ?_ fun s h => h
  refine Ev.bind (rat_at (N := N) (x0 := x0) (tick := y2) (x2 := x2) (x3 := x3) hx.1 hN.2.1) fun y hy => ?_
  rw [hy]
  dsimp only
  refine Ev.loop (k := 2) (fun k st => ∃ t : Nat, st = ((y2, (), (), false, true, (), (), (t : Int), ()), (s0, s1, s2, s3, s4, s5, s6, s7, s8, ()), (x0, x1, x2, x3, ()), cut8 s0 (turn x2 [] y2), x1.filter (fun r => r.2.1 == y2), ()) ∧ t + k = 2) ?_ ⟨0, rfl, rfl⟩ (by omega)
  rintro k st again ⟨t, rfl, hk⟩ ih
  unfold ScriptTells_3_L5
  dsimp only
  by_cases h : (t : Int) < 2
  · rw [byB_t h, order_at (by omega) hl', bnd]
    refine Ev.bind (at_at (N := N) (x0 := x0) (tick := y2) (x2 := x2) (x3 := x3) hx.1 hN.2.1) fun z hz => ?_
    rw [hz]
    have eb : ((((x1.filter fun r => r.2.1 == y2).length : Int)) != ((x1.filter fun r => r.2.1 == y2).length : Int)) = false := by simp
    dsimp only
    rw [byB_nef rfl, eb, byB_false]
    generalize cut8 s0 (turn x2 [] y2) = p at *
    generalize (x1.filter fun r => r.2.1 == y2) = q at *
    refine Ev.loop (k := p.length) (fun k st => ∃ (i : Nat) (l : List Int), st = ((y2, (), (), false, true, (), (), (t : Int), (), (), (i : Int), (), (q.length : Int), (), (q.length : Int), false, ()), (s0, s1, s2, s3, s4, s5, s6, s7, s8, ()), (x0, x1, x2, x3, ()), p, q, l, q, ()) ∧ i + k = p.length ∧ l.length = p.length ∧ ∀ j, i ≤ j → l.getD j 0 = p.getD j 0) ?_ ⟨0, p, rfl, by omega, rfl, fun _ _ => rfl⟩ (by omega)
    rintro k2 st again2 ⟨i, l, rfl, hk2, hll, hj⟩ ih2
    unfold ScriptTells_3_L12
    dsimp only
    by_cases h2 : (i : Int) < l.length
    · have hg : (0 : Int) ≤ i ∧ (i : Int) < l.length := ⟨by omega, h2⟩
      rw [byB_t h2, if_pos hg, if_pos ⟨by omega, by omega⟩, Int.toNat_natCast, byB_nef (hj i (Nat.le_refl _)), if_pos hg, w64 (by omega) (by omega)]
      refine ih2 (k2 - 1) _ (by omega) ⟨i + 1, l.set i (-1), by simp, by omega, by simpa using hll, fun j hij => ?_⟩
      rw [Go.Proofs.YtlheebdnplcmcaaL.getD_set_ne (by omega)]
      exact hj j (by omega)
    · rw [byB_f h2]
      refine Ev.loop (k := q.length) (fun k st => ∃ (i : Nat) (l : List Rel), st = ((y2, (), (), false, true, (), (), (t : Int), (), (i : Int), (), (q.length : Int), (), (q.length : Int), false, ()), (s0, s1, s2, s3, s4, s5, s6, s7, s8, ()), (x0, x1, x2, x3, ()), p, q, l, ()) ∧ i + k = q.length ∧ l.length = q.length ∧ ∀ j, i ≤ j → l.getD j (0, 0, 0) = q.getD j (0, 0, 0)) ?_ ⟨0, q, rfl, by omega, rfl, fun _ _ => rfl⟩ (by omega)
      rintro k3 st again3 ⟨i3, l3, rfl, hk3, hll3, hj3⟩ ih3
      unfold ScriptTells_3_L18
      dsimp only
      by_cases h3 : (i3 : Int) < l3.length
      · have hg : (0 : Int) ≤ i3 ∧ (i3 : Int) < l3.length := ⟨by omega, h3⟩
        rw [byB_t h3, if_pos hg, if_pos ⟨by omega, by omega⟩, Int.toNat_natCast, hj3 i3 (Nat.le_refl _)]
        rw [beq_self_eq_true, beq_self_eq_true, beq_self_eq_true]
        simp only [Bool.and_self, Bool.not_true, byB_false]
        rw [if_pos hg, w64 (by omega) (by omega)]
        refine ih3 (k3 - 1) _ (by omega) ⟨i3 + 1, l3.set i3 (0, 0, 0), by simp, by omega, by simpa using hll3, fun j hij => ?_⟩
        rw [Go.Proofs.YtlheebdnplcmcaaL.getD_set_ne (by omega)]
        exact hj3 j (by omega)
      · rw [byB_f h3, w64 (by omega) (by omega)]
        exact ih (k - 1) _ (by omega) ⟨t + 1, by simp, by omega⟩
  · rw [byB_f h, byB_true, sright_at (by omega), bnd, rsright_at (by omega), bnd]
    dsimp only
    rw [beq_self_eq_true, byB_true]
    refine Ev.bind (adm_at (N := N) (by omega) (x0 := x0) (x1 := x1) (x2 := x2) (x3 := x3) (by omega) hN.2.2 (fun r hr => (hx.2 r hr).2.1)) fun z1 hz1 => ?_
    refine Ev.bind (radm_at (N := N) (by omega) (x0 := x0) (x1 := x1) (x2 := x2) (x3 := x3) (by omega) hN.2.2 (fun r hr => (hx.2 r hr).2.1)) fun z2 hz2 => ?_
    have e : z1.1.1 = z2.1.1 := by rw [Bool.eq_iff_iff]; exact hz1.trans hz2.symm
    rw [e, beq_self_eq_true, byB_true, lat_at, bnd, rlat_at, bnd]
    dsimp only
    rw [beq_self_eq_true]
    exact Ev.mk rfl
end Go.Proofs.Ytlheebdnplcmcaa.Pure
