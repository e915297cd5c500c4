/- The plain law CoresSteps. Conditions: its own. -/
import Derived.Test.YtpnalmjmgaopjaaXCores
namespace Go.Proofs.Ytpnalmjmgaopjaa.Pure
open Go Go.Proofs.YtpnalmjmgaopjaaM Go.Proofs.YtpnalmjmgaopjaaX Go.Proofs.YtpnalmjmgaopjaaL Go.Proofs.YtpnalmjmgaopjaaC
set_option linter.unusedVariables false
set_option linter.unusedSimpArgs false

theorem steps_loop {N : Nat} {n : Nat} (h1 : 1 ≤ n) (h8 : n ≤ 8) {steps : List Int} {c1 c2 c3 c4 : Int} (hN : 200 < N) :
    Ev (loopN N (CoresSteps_7_L8 N) (((n : Int), steps, true, (), (), 0, ()), (c1, c2, c3, c4, (), ()), List.replicate n 0, cores0 n, ())) (fun r => r = ((true, ()), ())) := by
  refine Ev.loop (k := 100) (I := fun m s => ∃ (cnt : List Int) (l : List Core) (i : Nat), s = (((n : Int), steps, true, (), (), (i : Int), ()), (c1, c2, c3, c4, (), ()), cnt, l, ()) ∧ cnt.length = n ∧ l.length = n ∧ i ≤ 100 ∧ m = 100 - i ∧
    ∀ k, k < n → (l.getD k (0, 0, 0)).2.2 = cnt.getD k 0 ∧ (l.getD k (0, 0, 0)).1 = 0 ∧ 0 ≤ cnt.getD k 0 ∧ cnt.getD k 0 ≤ i) ?_ ?_ (by omega)
  · rintro m _ again ⟨cnt, l, i, rfl, hc, hl, hi, rfl, hk⟩ ih
    unfold CoresSteps_7_L8
    simp only [join_eq, many_eq, Option.bind_some, byB_true]
    have hend : Ev (some (((l.length : Int) == (n : Int), ()), ())) (fun r => r = ((true, ()), ())) := Ev.mk (by rw [hl]; simp)
    refine Ev.dec (fun hs => Ev.dec (fun h100 => ?_) fun _ => hend) fun _ => hend
    rw [if_pos (by omega)]
    have hb : Ev (CoresSteps_7_J12 N again (((n : Int), steps, true, (), (), (i : Int), steps.getD (i : Int).toNat 0, (i : Int), decide ((i : Int) < 100), decide (steps.getD (i : Int).toNat 0 < 0 ∨ (n : Int) ≤ steps.getD (i : Int).toNat 0), ()), (c1, c2, c3, c4, (), ()), cnt, l, ())) (fun r => r = ((true, ()), ())) := by
      generalize steps.getD (i : Int).toNat 0 = x
      unfold CoresSteps_7_J12
      refine Ev.dec (fun hx => ?_) fun hx => ?_
      · have hx' : x < 0 ∨ (l.length : Int) ≤ x := by omega
        simp (disch := omega) only [step_no hx', owes_no hx', last_no hx', Option.bind_some, byB_nef, w64]
        exact ih _ _ (by omega) ⟨cnt, l, i + 1, by simp, hc, hl, by omega, rfl, fun k hkn => by have := hk k hkn; omega⟩
      · obtain ⟨j, rfl⟩ : ∃ j : Nat, x = j := ⟨x.toNat, by omega⟩
        have hj : j < n := by omega
        have hkj := hk j hj
        have hs1 := step_ok (N := N) (i := (j : Int)) (c1 := c1) (c2 := c2) (c3 := c3) (c4 := c4) (l := l) (by omega) (by omega) (by rw [Int.toNat_natCast]; omega)
        rw [Int.toNat_natCast] at hs1
        simp (disch := omega) only [hs1, Option.bind_some, if_pos, List.length_set, Int.toNat_natCast, getD_set_eq, w64, byB_nef]
        refine ih _ _ (by omega) ⟨cnt.set j (cnt.getD j 0 + 1), l.set j ((l.getD j (0, 0, 0)).1, (l.getD j (0, 0, 0)).2.1, (l.getD j (0, 0, 0)).2.2 + 1), i + 1, by simp, by simpa using hc, by simpa using hl, by omega, rfl, fun k hkn => ?_⟩
        have hkk := hk k hkn
        rw [getD_set (by omega), getD_set (by omega)]
        split
        · subst_vars; simp only; omega
        · omega
    refine Ev.dec (fun hx => ?_) fun hx => ?_
    · have e : decide (steps.getD (i : Int).toNat 0 < 0 ∨ (n : Int) ≤ steps.getD (i : Int).toNat 0) = true := by simp only [decide_eq_true_eq]; omega
      rw [e] at hb; exact hb
    · have e : decide (steps.getD (i : Int).toNat 0 < 0 ∨ (n : Int) ≤ steps.getD (i : Int).toNat 0) = decide (steps.getD (i : Int).toNat 0 ≥ (n : Int)) := by
        rw [decide_eq_decide]; omega
      rw [e] at hb; exact hb
  · exact ⟨_, _, 0, rfl, by simp, by simp, by omega, rfl, fun k hk => by rw [getD_rep hk, getD_rep hk]; simp⟩

theorem CoresSteps (y0 : Int) (y1 : List Int) (gy0 : (Lit.int .i64 y0).wf = true) (gy1 : (y1.length * 8 ≤ 140737488351232 ∧ ∀ e0 ∈ y1, (Lit.int .i64 e0).wf = true)) : ∃ N, CoresSteps_7 N ((y0, y1, ()), ()) = some ((true, ()), ()) := by
  refine ⟨1000, ?_⟩
  have hp := pk_range (c := y0) (n := 8) (by omega)
  obtain ⟨n, hn⟩ : ∃ n : Nat, 1 + pk y0 8 = n := ⟨(1 + pk y0 8).toNat, by omega⟩
  unfold CoresSteps_7
  simp (disch := omega) only [examples_eq (N := 1000) (by omega), pick_eq (N := 1000) gy0 (n := 8) (by omega), Option.bind_some, w64]
  rw [hn]
  simp (disch := omega) only [new_ok, if_pos, Int.toNat_natCast]
  exact (steps_loop (by omega) (by omega) (by omega)).eq fun _ h => h
end Go.Proofs.Ytpnalmjmgaopjaa.Pure
