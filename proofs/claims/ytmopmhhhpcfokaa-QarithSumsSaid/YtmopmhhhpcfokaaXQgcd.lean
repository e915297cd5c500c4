/- What qarith's Gcd, Lcm and Cmp tell, and the reference's, as plain numbers. Conditions: numbers of 64 bits. -/
import Derived.Test.YtmopmhhhpcfokaaPAx1
import Derived.Test.YtmopmhhhpcfokaaPAx2
import Derived.Test.YtmopmhhhpcfokaaPAx3
import Derived.Test.YtmopmhhhpcfokaaPAx4
import Derived.Test.YtmopmhhhpcfokaaXQmore
namespace Go.Proofs.YtmopmhhhpcfokaaX
open Go.RowKit Go.Proofs.YtmopmhhhpcfokaaW.PrintWords Go.Proofs.YtmopmhhhpcfokaaW.PrintMore Go.Proofs.Ytmopmhhhpcfokaa.PA

theorem tmod_nat (m n : Nat) : Int.tmod (m : Int) (n : Int) = ((m % n : Nat) : Int) := by
  rw [Int.tmod_eq_emod_of_nonneg (by omega)]
  simp
theorem gcd_step (m n : Nat) : Nat.gcd n (m % n) = Nat.gcd m n := by
  rw [Nat.gcd_comm m n, Nat.gcd_rec n m, Nat.gcd_comm]
theorem gcd_loop : ∀ (n m k : Nat), n < k → qarith_Gcd.l0 k (m : Int) (n : Int) = some (((Nat.gcd m n : Nat) : Int), 0) := by
  intro n
  induction n using Nat.strongRecOn with
  | _ n ih =>
    intro m k hk
    obtain ⟨k, rfl⟩ : ∃ j, k = j + 1 := ⟨k - 1, by omega⟩
    simp only [qarith_Gcd.l0]
    by_cases h : n = 0
    · subst h
      simp
    · have hlt := Nat.mod_lt m (show n > 0 by omega)
      rw [if_neg (by omega), tmod_nat, ih (m % n) hlt n k (by omega), gcd_step m n]
theorem rgcd_loop : ∀ (n m k : Nat), n < k → tourbillonref01_Gcd.l0 k (m : Int) (n : Int) = some (((Nat.gcd m n : Nat) : Int), 0) := by
  intro n
  induction n using Nat.strongRecOn with
  | _ n ih =>
    intro m k hk
    obtain ⟨k, rfl⟩ : ∃ j, k = j + 1 := ⟨k - 1, by omega⟩
    simp only [tourbillonref01_Gcd.l0]
    by_cases h : n = 0
    · subst h
      simp
    · have hlt := Nat.mod_lt m (show n > 0 by omega)
      rw [if_pos (by omega), if_neg (by omega), tmod_nat, ih (m % n) hlt n k (by omega), gcd_step m n]

def GcdS (a b : Int) : Int × Int := if a < 0 ∨ b < 0 then (0, 1) else (((Nat.gcd a.toNat b.toNat : Nat) : Int), 0)
theorem Gcd_at {k : Nat} {a b : Int} (hk : b.toNat + 3 ≤ k) : qarith_Gcd.f k a b = some (GcdS a b) := by
  obtain ⟨k, rfl⟩ : ∃ m, k = m + 1 := ⟨k - 1, by omega⟩
  unfold qarith_Gcd.f GcdS
  by_cases h1 : a < 0
  · rw [if_pos h1, if_pos (.inl h1)]
    rfl
  rw [if_neg h1]
  by_cases h2 : b < 0
  · rw [decide_eq_true h2, if_pos (.inr h2)]
    rfl
  rw [decide_eq_false h2, if_neg (show ¬ (a < 0 ∨ b < 0) by omega)]
  simp only [qarith_Gcd.j0, Bool.false_eq_true, if_false]
  have ea : ((a.toNat : Nat) : Int) = a := by omega
  have eb : ((b.toNat : Nat) : Int) = b := by omega
  have h := gcd_loop b.toNat a.toNat k (by omega)
  rw [ea, eb] at h
  exact h
theorem rGcd_at {k : Nat} {a b : Int} (hk : b.toNat + 3 ≤ k) : tourbillonref01_Gcd.f k a b = some (GcdS a b) := by
  obtain ⟨k, rfl⟩ : ∃ m, k = m + 1 := ⟨k - 1, by omega⟩
  unfold tourbillonref01_Gcd.f GcdS
  by_cases h1 : a < 0
  · rw [if_pos h1, if_pos (.inl h1)]
    rfl
  rw [if_neg h1]
  by_cases h2 : b < 0
  · rw [decide_eq_true h2, if_pos (.inr h2)]
    rfl
  rw [decide_eq_false h2, if_neg (show ¬ (a < 0 ∨ b < 0) by omega)]
  simp only [tourbillonref01_Gcd.j0, Bool.false_eq_true, if_false]
  have ea : ((a.toNat : Nat) : Int) = a := by omega
  have eb : ((b.toNat : Nat) : Int) = b := by omega
  have h := rgcd_loop b.toNat a.toNat k (by omega)
  rw [ea, eb] at h
  exact h

def LcmS (a b : Int) : Int × Int := if a < 0 ∨ b < 0 then (0, 1) else if a = 0 ∨ b = 0 then (0, 0) else MulS (a / (Nat.gcd a.toNat b.toNat : Nat)) b
theorem gcd_pos {a b : Int} (ha : 0 < a) : (0 : Int) < (Nat.gcd a.toNat b.toNat : Nat) := by
  have := Nat.gcd_pos_of_pos_left b.toNat (show 0 < a.toNat by omega)
  omega
theorem gcd_le {a b : Int} (ha : 0 < a) : ((Nat.gcd a.toNat b.toNat : Nat) : Int) ≤ a := by
  have := Nat.le_of_dvd (show 0 < a.toNat by omega) (Nat.gcd_dvd_left a.toNat b.toNat)
  omega
theorem Lcm_at {k : Nat} {a b : Int} (hk : b.toNat + 3 ≤ k) (ha : (Lit.int .i64 a).wf = true) (hb : (Lit.int .i64 b).wf = true) : qarith_Lcm.f k a b = some (LcmS a b) := by
  obtain ⟨ha0, ha1⟩ := wf64 ha
  obtain ⟨hb0, hb1⟩ := wf64 hb
  unfold qarith_Lcm.f LcmS
  rw [Gcd_at hk]
  simp only [Option.bind_some]
  unfold GcdS
  by_cases h0 : a < 0 ∨ b < 0
  · rw [if_pos h0, if_pos h0]
    rfl
  rw [if_neg h0, if_neg h0]
  simp only [if_true]
  by_cases h1 : a = 0
  · rw [if_pos h1, if_pos (.inl h1)]
  rw [if_neg h1]
  by_cases h2 : b = 0
  · rw [if_pos h2, if_pos (.inr h2)]
  rw [if_neg h2, if_neg (show ¬ (a = 0 ∨ b = 0) by omega)]
  have hg := gcd_pos (a := a) (b := b) (by omega)
  have hg2 := gcd_le (a := a) (b := b) (by omega)
  rw [if_neg (by omega), Int.tdiv_eq_ediv_of_nonneg (by omega)]
  have hq0 : 0 ≤ a / (Nat.gcd a.toNat b.toNat : Nat) := Int.ediv_nonneg (by omega) (by omega)
  have hq1 : a / (Nat.gcd a.toNat b.toNat : Nat) ≤ a := Int.ediv_le_self _ (by omega)
  rw [w64 (by omega) (by omega), Mul_at (by omega) (wf64_mk (by omega) (by omega)) hb]
  rfl
theorem rLcm_at {k : Nat} {a b : Int} (hk : b.toNat + 3 ≤ k) (ha : (Lit.int .i64 a).wf = true) (hb : (Lit.int .i64 b).wf = true) : tourbillonref01_Lcm.f k a b = some (LcmS a b) := by
  obtain ⟨ha0, ha1⟩ := wf64 ha
  obtain ⟨hb0, hb1⟩ := wf64 hb
  unfold tourbillonref01_Lcm.f LcmS
  rw [rGcd_at hk]
  simp only [Option.bind_some]
  unfold GcdS
  by_cases h0 : a < 0 ∨ b < 0
  · rw [if_pos h0, if_pos h0]
    rfl
  rw [if_neg h0, if_neg h0]
  simp only [if_true]
  by_cases h1 : a = 0
  · rw [if_pos h1, if_pos (.inl h1)]
  rw [if_neg h1]
  by_cases h2 : b = 0
  · rw [if_pos h2, if_pos (.inr h2)]
  rw [if_neg h2, if_neg (show ¬ (a = 0 ∨ b = 0) by omega)]
  have hg := gcd_pos (a := a) (b := b) (by omega)
  have hg2 := gcd_le (a := a) (b := b) (by omega)
  rw [if_neg (by omega), Int.tdiv_eq_ediv_of_nonneg (by omega)]
  have hq0 : 0 ≤ a / (Nat.gcd a.toNat b.toNat : Nat) := Int.ediv_nonneg (by omega) (by omega)
  have hq1 : a / (Nat.gcd a.toNat b.toNat : Nat) ≤ a := Int.ediv_le_self _ (by omega)
  rw [w64 (by omega) (by omega), rMul_at (by omega) (wf64_mk (by omega) (by omega)) hb]
  rfl

def cmpI (p q : Int) : Int := if p < q then -1 else if p > q then 1 else 0
def CmpS (a b c d : Int) : Int × Int := if b ≤ 0 ∨ d ≤ 0 ∨ a < 0 ∨ c < 0 then (0, 1) else (cmpI (a * d) (c * b), 0)
theorem Compare_at (p q : Int) : cmp_Compare_uint64.f p q = some (cmpI p q) := by
  unfold cmp_Compare_uint64.f cmp_isNaN_uint64.f cmpI
  simp only [Option.bind_some, bne_self_eq_false, Bool.false_eq_true, if_false]
  repeat' split
  all_goals rfl
theorem wide_cmp_at (p q : Int) : qarith_wide_cmp.f (p / 18446744073709551616) (p % 18446744073709551616) (q / 18446744073709551616) (q % 18446744073709551616) = some (cmpI p q) := by
  unfold qarith_wide_cmp.f
  by_cases h : p / 18446744073709551616 = q / 18446744073709551616
  · rw [if_pos h, Compare_at]
    simp only [Option.bind_some]
    unfold cmpI
    congr 1
    repeat' split
    all_goals first | rfl | omega
  · rw [if_neg h, Compare_at]
    simp only [Option.bind_some]
    unfold cmpI
    congr 1
    repeat' split
    all_goals first | rfl | omega
theorem Cmp_at {k : Nat} (hk : 1 ≤ k) {a b c d : Int} (ha : (Lit.int .i64 a).wf = true) (hb : (Lit.int .i64 b).wf = true) (hc : (Lit.int .i64 c).wf = true) (hd : (Lit.int .i64 d).wf = true) : qarith_Cmp.f k a b c d = some (CmpS a b c d) := by
  obtain ⟨ha0, ha1⟩ := wf64 ha
  obtain ⟨hb0, hb1⟩ := wf64 hb
  obtain ⟨hc0, hc1⟩ := wf64 hc
  obtain ⟨hd0, hd1⟩ := wf64 hd
  obtain ⟨k, rfl⟩ : ∃ m, k = m + 1 := ⟨k - 1, by omega⟩
  unfold qarith_Cmp.f CmpS
  by_cases h1 : b ≤ 0
  · rw [if_pos h1, if_pos (.inl h1)]
    rfl
  by_cases h2 : d ≤ 0
  · rw [if_neg h1, if_pos h2, if_pos (.inr (.inl h2))]
    rfl
  by_cases h3 : a < 0
  · rw [if_neg h1, if_neg h2, if_pos h3, if_pos (.inr (.inr (.inl h3)))]
    rfl
  by_cases h4 : c < 0
  · rw [if_neg h1, if_neg h2, if_neg h3, decide_eq_true h4, if_pos (.inr (.inr (.inr h4)))]
    rfl
  rw [if_neg h1, if_neg h2, if_neg h3, decide_eq_false h4, if_neg (by omega)]
  simp only [qarith_Cmp.j0, Bool.false_eq_true, if_false]
  rw [u64s (n := a) (by omega) (by omega), u64s (n := b) (by omega) (by omega), u64s (n := c) (by omega) (by omega), u64s (n := d) (by omega) (by omega), times_at (by omega) (by omega) (by omega) (by omega), times_at (by omega) (by omega) (by omega) (by omega)]
  simp only [Option.bind_some]
  rw [wide_cmp_at]
  rfl

theorem cmpI_of_lt {p q : Int} (h : p < q) : cmpI p q = -1 := by unfold cmpI; rw [if_pos h]
theorem cmpI_of_gt {p q : Int} (h : p > q) : cmpI p q = 1 := by unfold cmpI; rw [if_neg (by omega), if_pos h]
theorem cmpI_of_eq {p q : Int} (h : p = q) : cmpI p q = 0 := by unfold cmpI; rw [if_neg (by omega), if_neg (by omega)]
theorem cmpI_neg (p q : Int) : cmpI q p = - cmpI p q := by
  unfold cmpI
  repeat' split
  all_goals omega
theorem cmpI_add (p q e : Int) : cmpI (e + p) (e + q) = cmpI p q := by
  unfold cmpI
  repeat' split
  all_goals first | rfl | omega
theorem quot_lt {a b c d : Int} (hb : 0 < b) (hd : 0 < d) (h : a / b < c / d) : a * d < c * b := by
  have h1 : a < (c / d) * b := by
    have := Int.mul_ediv_add_emod a b
    have h2 := Int.emod_lt_of_pos a hb
    have h3 : b * (a / b + 1) ≤ b * (c / d) := Int.mul_le_mul_of_nonneg_left (by omega) (by omega)
    rw [Int.mul_add] at h3
    rw [Int.mul_comm]
    omega
  have h2 : (c / d) * d ≤ c := Int.ediv_mul_le _ (by omega)
  calc a * d < (c / d) * b * d := Int.mul_lt_mul_of_pos_right h1 hd
    _ = (c / d) * d * b := Int.mul_right_comm _ _ _
    _ ≤ c * b := Int.mul_le_mul_of_nonneg_right h2 (by omega)

theorem rCmp_loop : ∀ (n : Nat) (a b c d s : Int) (k : Nat), b.toNat ≤ n → 2 * n + 4 ≤ k → 0 ≤ a → 0 < b → 0 ≤ c → 0 < d → a ≤ 9223372036854775807 → b ≤ 9223372036854775807 → c ≤ 9223372036854775807 → d ≤ 9223372036854775807 → (s = 1 ∨ s = -1) →
    tourbillonref01_Cmp.l0 k a b c d s = some (s * cmpI (a * d) (c * b), 0) := by
  intro n
  induction n with
  | zero => intro a b c d s k hn hk ha hb; omega
  | succ n ih =>
    intro a b c d s k hn hk ha hb hc hd ha1 hb1 hc1 hd1 hs
    obtain ⟨k, rfl⟩ : ∃ m, k = m + 2 := ⟨k - 2, by omega⟩
    simp only [tourbillonref01_Cmp.l0]
    rw [if_neg (by omega), if_neg (by omega), Int.tdiv_eq_ediv_of_nonneg ha, Int.tdiv_eq_ediv_of_nonneg hc, Int.tmod_eq_emod_of_nonneg ha, Int.tmod_eq_emod_of_nonneg hc]
    have hq0 : 0 ≤ a / b := Int.ediv_nonneg ha (by omega)
    have hq1 : a / b ≤ a := Int.ediv_le_self _ ha
    have hq2 : 0 ≤ c / d := Int.ediv_nonneg hc (by omega)
    have hq3 : c / d ≤ c := Int.ediv_le_self _ hc
    rw [w64 (n := a / b) (by omega) (by omega), w64 (n := c / d) (by omega) (by omega)]
    have hns : wrap64 (-s) = -s := w64 (by omega) (by omega)
    rw [hns]
    by_cases h1 : a / b = c / d
    · rw [if_pos h1]
      have hx0 := Int.emod_nonneg a (show b ≠ 0 by omega)
      have hx1 := Int.emod_lt_of_pos a hb
      have hy0 := Int.emod_nonneg c (show d ≠ 0 by omega)
      have hy1 := Int.emod_lt_of_pos c hd
      have e1 := Int.mul_ediv_add_emod a b
      have e2 := Int.mul_ediv_add_emod c d
      have hcmp : cmpI (a * d) (c * b) = cmpI (a % b * d) (c % d * b) := by
        have f1 : a * d = (c / d) * (b * d) + a % b * d := by
          conv => lhs; rw [← e1, h1]
          rw [Int.add_mul, Int.mul_comm b, Int.mul_assoc]
        have f2 : c * b = (c / d) * (b * d) + c % d * b := by
          conv => lhs; rw [← e2]
          rw [Int.add_mul, Int.mul_comm d, Int.mul_assoc, Int.mul_comm d b]
        rw [f1, f2, cmpI_add]
      rw [hcmp]
      generalize a % b = x at *
      generalize c % d = y at *
      have main : (x = 0 → y ≠ 0) → tourbillonref01_Cmp.j2 (k + 1) b d s x y false = some (s * cmpI (x * d) (y * b), 0) := by
        intro hxy
        simp only [tourbillonref01_Cmp.j2, Bool.false_eq_true, if_false]
        rw [hns]
        by_cases h2 : x = 0
        · rw [if_pos h2, h2, Int.zero_mul]
          have : 0 < y * b := Int.mul_pos (by have := hxy h2; omega) hb
          rw [cmpI_of_lt this]
          simp
        · rw [if_neg h2]
          by_cases h3 : y = 0
          · rw [if_pos h3, h3, Int.zero_mul]
            have : 0 < x * d := Int.mul_pos (by omega) hd
            rw [cmpI_of_gt this, Int.mul_one]
          · rw [if_neg h3, ih b x d y (-s) k (by omega) (by omega) (by omega) (by omega) (by omega) (by omega) (by omega) (by omega) (by omega) (by omega) (by omega)]
            rw [Int.mul_comm b y, Int.mul_comm d x, cmpI_neg (x * d) (y * b), Int.neg_mul_neg]
      by_cases h2 : x = 0
      · rw [if_pos h2]
        by_cases h3 : y = 0
        · rw [beq_iff_eq.2 h3, h2, h3]
          simp [tourbillonref01_Cmp.j2, cmpI]
        · rw [beq_eq_false_iff_ne.2 h3]
          exact main (fun _ => h3)
      · rw [if_neg h2]
        exact main (fun h => absurd h h2)
    · rw [if_neg h1]
      by_cases h2 : a / b > c / d
      · rw [if_pos h2]
        have := quot_lt hd hb h2
        rw [cmpI_of_gt this, Int.mul_one]
      · rw [if_neg h2]
        have := quot_lt hb hd (show a / b < c / d by omega)
        rw [cmpI_of_lt this]
        simp
theorem rCmp_at {k : Nat} {a b c d : Int} (hk : 2 * b.toNat + 9 ≤ k) (ha : (Lit.int .i64 a).wf = true) (hb : (Lit.int .i64 b).wf = true) (hc : (Lit.int .i64 c).wf = true) (hd : (Lit.int .i64 d).wf = true) : tourbillonref01_Cmp.f k a b c d = some (CmpS a b c d) := by
  obtain ⟨ha0, ha1⟩ := wf64 ha
  obtain ⟨hb0, hb1⟩ := wf64 hb
  obtain ⟨hc0, hc1⟩ := wf64 hc
  obtain ⟨hd0, hd1⟩ := wf64 hd
  obtain ⟨k, rfl⟩ : ∃ m, k = m + 1 := ⟨k - 1, by omega⟩
  unfold tourbillonref01_Cmp.f CmpS
  by_cases h1 : b ≤ 0
  · rw [if_pos h1, if_pos (.inl h1)]
    rfl
  by_cases h2 : d ≤ 0
  · rw [if_neg h1, if_pos h2, if_pos (.inr (.inl h2))]
    rfl
  by_cases h3 : a < 0
  · rw [if_neg h1, if_neg h2, if_pos h3, if_pos (.inr (.inr (.inl h3)))]
    rfl
  by_cases h4 : c < 0
  · rw [if_neg h1, if_neg h2, if_neg h3, decide_eq_true h4, if_pos (.inr (.inr (.inr h4)))]
    rfl
  rw [if_neg h1, if_neg h2, if_neg h3, decide_eq_false h4, if_neg (by omega)]
  simp only [tourbillonref01_Cmp.j0, Bool.false_eq_true, if_false]
  rw [rCmp_loop b.toNat a b c d 1 k (by omega) (by omega) (by omega) (by omega) (by omega) (by omega) ha1 hb1 hc1 hd1 (.inl rfl), Int.one_mul]
end Go.Proofs.YtmopmhhhpcfokaaX
