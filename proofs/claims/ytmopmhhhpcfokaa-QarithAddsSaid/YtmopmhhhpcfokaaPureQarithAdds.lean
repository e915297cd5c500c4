/- The pure statement of QarithAdds: the load of two lists, one behind the other, is that of the first one and that of the second one. Conditions: none beyond the given bounds. -/
import Derived.Test.YtmopmhhhpcfokaaPAx11
import Derived.Test.YtmopmhhhpcfokaaXQload
namespace Go.Proofs.Ytmopmhhhpcfokaa.Pure
open Go.RowKit Go.Proofs.Ytmopmhhhpcfokaa.PA Go.Proofs.YtmopmhhhpcfokaaW.PrintWords Go.Proofs.YtmopmhhhpcfokaaW.PrintLast Go.Proofs.YtmopmhhhpcfokaaW.PrintMore Go.Proofs.YtmopmhhhpcfokaaX

theorem bad_cut : ∀ (n : Nat) (ws ts : List Int), bad ws ts = (bad (ws.take n) (ts.take n) || bad (ws.drop n) (ts.drop n))
  | 0, ws, ts => by cases ws <;> cases ts <;> simp [bad]
  | n + 1, [], ts => by simp [bad]
  | n + 1, w :: ws, [] => by
    have h : ∀ l : List Int, bad l [] = false := fun l => by cases l <;> rfl
    simp [h, bad]
  | n + 1, w :: ws, t :: ts => by
    simp only [List.take_succ_cons, List.drop_succ_cons, bad]
    rw [bad_cut n ws ts, Bool.or_assoc]
theorem total_cut : ∀ (n : Nat) (ws ts : List Int), total ws ts = total (ws.take n) (ts.take n) + total (ws.drop n) (ts.drop n)
  | 0, ws, ts => by simp [total]
  | n + 1, [], ts => by simp [total]
  | n + 1, w :: ws, [] => by
    have h : ∀ l : List Int, total l [] = 0 := fun l => by cases l <;> rfl
    simp [h, total]
  | n + 1, w :: ws, t :: ts => by
    simp only [List.take_succ_cons, List.drop_succ_cons, total]
    rw [total_cut n ws ts, Int.add_assoc]

theorem cut_at {l0 l1 : List Int} (hl : l0.length = l1.length) (hb : bad l0 l1 = false) (ht : total l0 l1 ≤ 9223372036854775807) (n : Nat) :
    LoadS (l0.take n) (l1.take n) = (total (l0.take n) (l1.take n), 0) ∧ LoadS (l0.drop n) (l1.drop n) = (total (l0.drop n) (l1.drop n), 0) ∧ AddS (total (l0.take n) (l1.take n)) (total (l0.drop n) (l1.drop n)) = (total l0 l1, 0) ∧ -9223372036854775808 ≤ total (l0.take n) (l1.take n) ∧ total (l0.take n) (l1.take n) ≤ 9223372036854775807 ∧ -9223372036854775808 ≤ total (l0.drop n) (l1.drop n) ∧ total (l0.drop n) (l1.drop n) ≤ 9223372036854775807 := by
  have hb2 := bad_cut n l0 l1
  rw [hb] at hb2
  have hb3 := (Bool.or_eq_false_iff.1 hb2.symm)
  have h1 := total_nonneg _ _ hb3.1
  have h2 := total_nonneg _ _ hb3.2
  have h3 := total_cut n l0 l1
  refine ⟨?_, ?_, ?_, by omega, by omega, by omega, by omega⟩
  · unfold LoadS
    rw [if_neg (by simp [hb3.1, hl]), if_pos (by omega)]
  · unfold LoadS
    rw [if_neg (by simp [hb3.2, hl]), if_pos (by omega)]
  · rw [AddS_ok (by omega) (by omega), ← h3]

theorem QarithAdds : tourbillonlaw01_QarithAdds.Pure := by
  intro l0 l1 a _ h0 w0 _ h1 w1 wa
  obtain ⟨ha0, ha1⟩ := wf64 wa
  refine ⟨3 * l0.length + 300, ?_⟩
  have m1 : ∀ n, ∀ x ∈ l0.take n, (Lit.int .i64 x).wf = true := fun n x hx => w0 x (List.mem_of_mem_take hx)
  have m2 : ∀ n, ∀ x ∈ l1.take n, (Lit.int .i64 x).wf = true := fun n x hx => w1 x (List.mem_of_mem_take hx)
  have m3 : ∀ n, ∀ x ∈ l0.drop n, (Lit.int .i64 x).wf = true := fun n x hx => w0 x (List.mem_of_mem_drop hx)
  have m4 : ∀ n, ∀ x ∈ l1.drop n, (Lit.int .i64 x).wf = true := fun n x hx => w1 x (List.mem_of_mem_drop hx)
  have part1 : ∀ n, qarith_Load.f (3 * l0.length + 300) (l0.take n) (l1.take n) = some (LoadS (l0.take n) (l1.take n)) := fun n => by
    have : (l0.take n).length ≤ l0.length := by rw [List.length_take]; omega
    exact Load_at (by omega) (by omega) (m1 n) (m2 n)
  have part2 : ∀ n, qarith_Load.f (3 * l0.length + 300) (l0.drop n) (l1.drop n) = some (LoadS (l0.drop n) (l1.drop n)) := fun n => by
    have : (l0.drop n).length ≤ l0.length := by rw [List.length_drop]; omega
    exact Load_at (by omega) (by omega) (m3 n) (m4 n)
  unfold tourbillonlaw01_QarithAdds.f
  rw [ex_at (by omega), Load_at (by omega) (by omega) w0 w1]
  simp only [Option.bind_some, if_true]
  by_cases hl : l0.length = l1.length
  case neg =>
    have e : LoadS l0 l1 = (0, 1) := by unfold LoadS; rw [if_pos (.inl hl)]
    rw [e]
    simp
  cases hb : bad l0 l1 with
  | true =>
    have e : LoadS l0 l1 = (0, 1) := by unfold LoadS; rw [if_pos (.inr hb)]
    rw [e]
    simp
  | false =>
    by_cases ht : total l0 l1 ≤ 9223372036854775807
    case neg =>
      have e : LoadS l0 l1 = (0, 2) := by unfold LoadS; rw [if_neg (by simp [hl, hb]), if_neg ht]
      rw [e]
      simp
    have e : LoadS l0 l1 = (total l0 l1, 0) := by unfold LoadS; rw [if_neg (by simp [hl, hb]), if_pos ht]
    rw [e, w64 (n := (l0.length : Int) + 1) (by omega) (by omega)]
    simp only [if_true]
    rw [if_neg (show ¬ (l0.length : Int) + 1 = 0 by omega)]
    have fin : ∀ m : Int, 0 ≤ m → m ≤ l0.length → (if 0 ≤ m then if m ≤ (l0.length : Int) then if m ≤ (l1.length : Int) then (qarith_Load.f (3 * l0.length + 300) (l0.take m.toNat) (l1.take m.toNat)).bind fun b1 => (qarith_Load.f (3 * l0.length + 300) (l0.drop m.toNat) (l1.drop m.toNat)).bind fun b2 => (qarith_Add.f b1.1 b2.1).bind fun b3 => if b1.2 = 0 then if b2.2 = 0 then if b3.2 = 0 then some (b3.1 == total l0 l1) else some false else some false else some false else none else none else none) = some true := by
      intro m hm0 hm1
      obtain ⟨c1, c2, c3, r1, r2, r3, r4⟩ := cut_at hl hb ht m.toNat
      rw [if_pos hm0, if_pos hm1, if_pos (by omega), part1, part2, c1, c2]
      simp only [Option.bind_some]
      rw [Add_at (wf64_mk r1 r2) (wf64_mk r3 r4), c3]
      simp
    by_cases n : a < 0
    · rw [if_pos n, w64 (n := a + 1) (by omega) (by omega), w64 (n := -(a + 1)) (by omega) (by omega)]
      have g0 := Int.emod_nonneg (-(a + 1)) (show (l0.length : Int) + 1 ≠ 0 by omega)
      have g1 := Int.emod_lt_of_pos (-(a + 1)) (show (0 : Int) < (l0.length : Int) + 1 by omega)
      rw [Int.tmod_eq_emod_of_nonneg (by omega)]
      exact fin _ g0 (by omega)
    · rw [if_neg n]
      have g0 := Int.emod_nonneg a (show (l0.length : Int) + 1 ≠ 0 by omega)
      have g1 := Int.emod_lt_of_pos a (show (0 : Int) < (l0.length : Int) + 1 by omega)
      rw [Int.tmod_eq_emod_of_nonneg (by omega)]
      exact fin _ g0 (by omega)

end Go.Proofs.Ytmopmhhhpcfokaa.Pure
