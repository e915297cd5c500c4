/- What qarith's Sub, Gcd, Lcm and Cmp tell, and the reference's calls, as plain numbers. Conditions: numbers of 64 bits. -/
import Derived.Test.YtmopmhhhpcfokaaPAx3
import Derived.Test.YtmopmhhhpcfokaaPAx1
import Derived.Test.YtmopmhhhpcfokaaPAx2
import Derived.Test.YtmopmhhhpcfokaaPAx4
import Derived.Test.YtmopmhhhpcfokaaXQarith
namespace Go.Proofs.YtmopmhhhpcfokaaX
open Go.RowKit Go.Proofs.YtmopmhhhpcfokaaW.PrintWords Go.Proofs.YtmopmhhhpcfokaaW.PrintMore Go.Proofs.Ytmopmhhhpcfokaa.PA

theorem ex_at {k : Nat} (hk : 200 ≤ k) : tourbillonlaw01_examples.f k = some true := at_rounds tourbillonlaw01_examples.mono hk (by decide +kernel)
theorem told_at (a e : Int) : tourbillonlaw01_told.f a e a e = some true := by simp [tourbillonlaw01_told.f]

theorem Sub_at {a b : Int} (ha : (Lit.int .i64 a).wf = true) (hb : (Lit.int .i64 b).wf = true) : qarith_Sub.f a b = some (SubS a b) := by
  obtain ⟨ha0, ha1⟩ := wf64 ha
  obtain ⟨hb0, hb1⟩ := wf64 hb
  have hn := wrap64_range (a - b)
  unfold qarith_Sub.f SubS
  have e : Go.bits .and .i64 (Go.bits .xor .i64 a b) (Go.bits .xor .i64 a (wrap64 (a - b))) < 0 ↔ ¬ (-9223372036854775808 ≤ a - b ∧ a - b ≤ 9223372036854775807) := by
    rw [and_neg (xor_range _ _).1 (xor_range _ _).2 (xor_range _ _).1 (xor_range _ _).2, xor_neg ha0 ha1 hb0 hb1, xor_neg ha0 ha1 hn.1 hn.2]
    unfold wrap64 at *
    omega
  by_cases c : -9223372036854775808 ≤ a - b ∧ a - b ≤ 9223372036854775807
  · rw [if_neg (fun h => e.1 h c), if_pos c, w64 c.1 c.2]
  · rw [if_pos (e.2 c), if_neg c]

theorem rAdd_at {a b : Int} (ha : (Lit.int .i64 a).wf = true) (hb : (Lit.int .i64 b).wf = true) : tourbillonref01_Add.f a b = some (AddS a b) := by
  obtain ⟨ha0, ha1⟩ := wf64 ha
  obtain ⟨hb0, hb1⟩ := wf64 hb
  unfold tourbillonref01_Add.f AddS wrap64
  repeat' split
  all_goals first | rfl | (exfalso; omega) | (congr 2; omega) | (congr 2 <;> omega)

theorem rSub_at {a b : Int} (ha : (Lit.int .i64 a).wf = true) (hb : (Lit.int .i64 b).wf = true) : tourbillonref01_Sub.f a b = some (SubS a b) := by
  obtain ⟨ha0, ha1⟩ := wf64 ha
  obtain ⟨hb0, hb1⟩ := wf64 hb
  unfold tourbillonref01_Sub.f SubS wrap64
  repeat' split
  all_goals first | rfl | (exfalso; omega) | (congr 2; omega) | (congr 2 <;> omega)

theorem tmod_small (p b : Int) (hb : b ≠ 0) : (Int.tmod p b).natAbs < b.natAbs := by
  rw [Int.natAbs_tmod]
  exact Nat.mod_lt _ (by omega)

/-- Whether the product is a number of 64 bits shows in the quotients. -/
theorem quot_tells {a b : Int} (ha0 : -9223372036854775808 ≤ a) (ha1 : a ≤ 9223372036854775807) (hb0 : -9223372036854775808 ≤ b) (hb1 : b ≤ 9223372036854775807) (hb : b ≠ 0) (hx : ¬ (b = -1 ∧ a = -9223372036854775808)) :
    wrap64 (Int.tdiv (wrap64 (a * b)) b) = a ↔ -9223372036854775808 ≤ a * b ∧ a * b ≤ 9223372036854775807 := by
  constructor
  · intro h
    have h1 := Int.mul_tdiv_add_tmod (wrap64 (a * b)) b
    have h2 := tmod_small (wrap64 (a * b)) b hb
    have hr := wrap64_range (a * b)
    have h3 : (Int.tdiv (wrap64 (a * b)) b).natAbs ≤ (wrap64 (a * b)).natAbs := by
      rw [Int.natAbs_tdiv]
      exact Nat.div_le_self _ _
    have h4 : Int.tdiv (wrap64 (a * b)) b = a := by
      generalize Int.tdiv (wrap64 (a * b)) b = q at *
      by_cases hq : q ≤ 9223372036854775807
      · rw [w64 (by omega) hq] at h
        exact h
      · exfalso
        have hq2 : q = 9223372036854775808 := by omega
        subst hq2
        have : a = -9223372036854775808 := by
          unfold wrap64 at h
          omega
        have hb3 : b = -1 := by
          have hp : wrap64 (a * b) = -9223372036854775808 := by omega
          omega
        exact hx ⟨hb3, this⟩
    rw [h4, Int.mul_comm b a] at h1
    generalize Int.tmod (wrap64 (a * b)) b = r at *
    generalize a * b = m at *
    unfold wrap64 at *
    omega
  · rintro ⟨h0, h1⟩
    rw [w64 h0 h1, Int.mul_tdiv_cancel _ hb, w64 ha0 ha1]

theorem rMul_at {k : Nat} (hk : 3 ≤ k) {a b : Int} (ha : (Lit.int .i64 a).wf = true) (hb : (Lit.int .i64 b).wf = true) : tourbillonref01_Mul.f k a b = some (MulS a b) := by
  obtain ⟨ha0, ha1⟩ := wf64 ha
  obtain ⟨hb0, hb1⟩ := wf64 hb
  obtain ⟨k, rfl⟩ : ∃ m, k = m + 3 := ⟨k - 3, by omega⟩
  unfold tourbillonref01_Mul.f MulS
  by_cases h1 : a = 0
  · subst h1
    simp [tourbillonref01_Mul.j0]
  rw [if_neg h1]
  by_cases h2 : b = 0
  · subst h2
    simp [tourbillonref01_Mul.j0]
  rw [beq_eq_false_iff_ne.2 h2]
  simp only [tourbillonref01_Mul.j0, Bool.false_eq_true, if_false]
  have over : ∀ k, tourbillonref01_Mul.j1 (k + 1) a b true = some (0, 2) := fun k => by simp [tourbillonref01_Mul.j1]
  have main : ¬ (b = -1 ∧ a = -9223372036854775808) → ¬ (a = -1 ∧ b = -9223372036854775808) → tourbillonref01_Mul.j1 (k + 2) a b false = some (if -9223372036854775808 ≤ a * b ∧ a * b ≤ 9223372036854775807 then (a * b, 0) else (0, 2)) := by
    intro hx hy
    have e1 := quot_tells ha0 ha1 hb0 hb1 h2 hx
    have e2 := quot_tells hb0 hb1 ha0 ha1 h1 hy
    rw [Int.mul_comm b a] at e2
    simp only [tourbillonref01_Mul.j1, Bool.false_eq_true, if_false]
    rw [if_neg h2]
    by_cases c : -9223372036854775808 ≤ a * b ∧ a * b ≤ 9223372036854775807
    · rw [if_pos (e1.2 c), if_neg h1]
      rw [if_pos (e2.2 c), w64 c.1 c.2, if_pos c]
    · rw [if_neg (fun h => c (e1.1 h)), if_neg c]
  by_cases h3 : a = -1
  · rw [if_pos h3]
    by_cases h4 : b = -9223372036854775808
    · rw [if_pos h4, over, if_neg (by subst h3; subst h4; decide)]
    · rw [if_neg h4]
      have h5 : ¬ a = -9223372036854775808 := by omega
      rw [beq_eq_false_iff_ne.2 h5, ite_self]
      exact main (fun h => h5 h.2) (fun h => h4 h.2)
  · rw [if_neg h3]
    by_cases h4 : b = -1
    · rw [if_pos h4]
      by_cases h5 : a = -9223372036854775808
      · rw [beq_iff_eq.2 h5, over, if_neg (by subst h5; subst h4; decide)]
      · rw [beq_eq_false_iff_ne.2 h5]
        exact main (fun h => h5 h.2) (fun h => h3 h.1)
    · rw [if_neg h4]
      exact main (fun h => h4 h.1) (fun h => h3 h.1)

end Go.Proofs.YtmopmhhhpcfokaaX
