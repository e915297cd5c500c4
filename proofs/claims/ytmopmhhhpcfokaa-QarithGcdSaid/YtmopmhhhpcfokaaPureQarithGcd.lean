/- The pure statement of QarithGcd: the common divisor divides both, the common multiple is divided by both, together they make the product. Conditions: none beyond the given bounds. -/
import Derived.Test.YtmopmhhhpcfokaaPAx9
import Derived.Test.YtmopmhhhpcfokaaXQgcd
namespace Go.Proofs.Ytmopmhhhpcfokaa.Pure
open Go.RowKit Go.Proofs.Ytmopmhhhpcfokaa.PA Go.Proofs.YtmopmhhhpcfokaaW.PrintWords Go.Proofs.YtmopmhhhpcfokaaW.PrintLast Go.Proofs.YtmopmhhhpcfokaaW.PrintMore Go.Proofs.YtmopmhhhpcfokaaX

theorem QarithGcd : tourbillonlaw01_QarithGcd.Pure := by
  intro a b ha hb
  obtain ⟨ha0, ha1⟩ := wf64 ha
  obtain ⟨hb0, hb1⟩ := wf64 hb
  refine ⟨b.toNat + 403, ?_⟩
  unfold tourbillonlaw01_QarithGcd.f
  rw [ex_at (by omega), Gcd_at (by omega), Lcm_at (by omega) ha hb]
  simp only [Option.bind_some]
  by_cases n : a < 0 ∨ b < 0
  · have e1 : GcdS a b = (0, 1) := by unfold GcdS; rw [if_pos n]
    have e2 : LcmS a b = (0, 1) := by unfold LcmS; rw [if_pos n]
    rw [e1, e2]
    have e3 : ∀ z : Bool, z = true → tourbillonlaw01_QarithGcd.j0 (b.toNat + 403) a b true 0 1 0 1 z = some true := by
      rintro z rfl
      simp [tourbillonlaw01_QarithGcd.j0]
    by_cases n1 : a < 0
    · rw [if_pos n1]
      exact e3 true rfl
    · rw [if_neg n1]
      exact e3 _ (decide_eq_true (by omega))
  · rw [if_neg (by omega), decide_eq_false (by omega)]
    simp only [tourbillonlaw01_QarithGcd.j0, Bool.false_eq_true, if_false]
    have e1 : GcdS a b = (((Nat.gcd a.toNat b.toNat : Nat) : Int), 0) := by unfold GcdS; rw [if_neg n]
    by_cases z : a = 0 ∨ b = 0
    · have e2 : LcmS a b = (0, 0) := by unfold LcmS; rw [if_neg n, if_pos z]
      have e4 : ((Nat.gcd a.toNat b.toNat : Nat) : Int) = wrap64 (a + b) := by
        rw [w64 (by omega) (by omega)]
        rcases z with z | z
        · subst z
          have : Nat.gcd (0 : Int).toNat b.toNat = b.toNat := by simp
          rw [this]
          omega
        · subst z
          have : Nat.gcd a.toNat (0 : Int).toNat = a.toNat := by simp
          rw [this]
          omega
      rw [e1, e2]
      have e3 : ∀ y : Bool, y = true → tourbillonlaw01_QarithGcd.j1 (b.toNat + 402) a b true ((Nat.gcd a.toNat b.toNat : Nat) : Int) 0 0 0 y = some true := by
        rintro y rfl
        simp only [tourbillonlaw01_QarithGcd.j1, if_true]
        rw [if_pos e4]
        rfl
      by_cases z1 : a = 0
      · rw [if_pos z1]
        exact e3 true rfl
      · rw [if_neg z1]
        exact e3 _ (beq_iff_eq.2 (by omega))
    · have e2 : LcmS a b = MulS (a / ((Nat.gcd a.toNat b.toNat : Nat) : Int)) b := by unfold LcmS; rw [if_neg n, if_neg z]
      rw [e1, e2, if_neg (by omega), beq_eq_false_iff_ne.2 (by omega)]
      have hg0 := gcd_pos (a := a) (b := b) (by omega)
      have hg1 := gcd_le (a := a) (b := b) (by omega)
      have da : ((Nat.gcd a.toNat b.toNat : Nat) : Int) ∣ a := by
        have h := Int.natCast_dvd_natCast.2 (Nat.gcd_dvd_left a.toNat b.toNat)
        rwa [show ((a.toNat : Nat) : Int) = a by omega] at h
      have db : ((Nat.gcd a.toNat b.toNat : Nat) : Int) ∣ b := by
        have h := Int.natCast_dvd_natCast.2 (Nat.gcd_dvd_right a.toNat b.toNat)
        rwa [show ((b.toNat : Nat) : Int) = b by omega] at h
      have hco : Nat.gcd (a / ((Nat.gcd a.toNat b.toNat : Nat) : Int)).toNat (b / ((Nat.gcd a.toNat b.toNat : Nat) : Int)).toNat = 1 := by
        have h := Nat.gcd_div_gcd_div_gcd_of_pos_left (m := b.toNat) (show 0 < a.toNat by omega)
        have f1 : (a / ((Nat.gcd a.toNat b.toNat : Nat) : Int)).toNat = a.toNat / Nat.gcd a.toNat b.toNat := by
          have : a / ((Nat.gcd a.toNat b.toNat : Nat) : Int) = ((a.toNat / Nat.gcd a.toNat b.toNat : Nat) : Int) := by
            rw [Int.natCast_ediv, show ((a.toNat : Nat) : Int) = a by omega]
          rw [this]
          exact Int.toNat_natCast _
        have f2 : (b / ((Nat.gcd a.toNat b.toNat : Nat) : Int)).toNat = b.toNat / Nat.gcd a.toNat b.toNat := by
          have : b / ((Nat.gcd a.toNat b.toNat : Nat) : Int) = ((b.toNat / Nat.gcd a.toNat b.toNat : Nat) : Int) := by
            rw [Int.natCast_ediv, show ((b.toNat : Nat) : Int) = b by omega]
          rw [this]
          exact Int.toNat_natCast _
        rw [f1, f2]
        exact h
      generalize ((Nat.gcd a.toNat b.toNat : Nat) : Int) = g at *
      have qa0 : 0 < a / g := Int.ediv_pos_of_pos_of_dvd (by omega) (by omega) da
      have qb0 : 0 < b / g := Int.ediv_pos_of_pos_of_dvd (by omega) (by omega) db
      have qa1 : a / g ≤ a := Int.ediv_le_self _ (by omega)
      have qb1 : b / g ≤ b := Int.ediv_le_self _ (by omega)
      have ea : a / g * g = a := Int.ediv_mul_cancel da
      have eb : b / g * g = b := Int.ediv_mul_cancel db
      simp only [tourbillonlaw01_QarithGcd.j1, Bool.false_eq_true, if_false, if_true]
      rw [if_neg (by omega), if_neg (by omega), if_pos (by rw [Int.tmod_eq_emod_of_nonneg (by omega)]; exact Int.emod_eq_zero_of_dvd da)]
      have tb : Int.tmod b g = 0 := by
        rw [Int.tmod_eq_emod_of_nonneg (by omega)]
        exact Int.emod_eq_zero_of_dvd db
      rw [tb]
      simp only [bne_self_eq_false, tourbillonlaw01_QarithGcd.j2, Bool.false_eq_true, if_false]
      rw [if_neg (by omega), Int.tdiv_eq_ediv_of_nonneg (by omega), Int.tdiv_eq_ediv_of_nonneg (by omega), w64 (n := a / g) (by omega) (by omega), w64 (n := b / g) (by omega) (by omega), Gcd_at (by omega)]
      simp only [Option.bind_some, if_true]
      have e5 : GcdS (a / g) (b / g) = (1, 0) := by
        unfold GcdS
        rw [if_neg (by omega), hco]
        rfl
      rw [e5]
      by_cases r : -9223372036854775808 ≤ a / g * b ∧ a / g * b ≤ 9223372036854775807
      · have e6 : MulS (a / g) b = (a / g * b, 0) := by unfold MulS; rw [if_pos r]
        have hl0 : 0 < a / g * b := Int.mul_pos qa0 (by omega)
        have el : a / g * b = b / g * a := by
          conv => lhs; rw [← eb]
          conv => rhs; rw [← ea]
          rw [← Int.mul_assoc, ← Int.mul_assoc, Int.mul_comm (a / g)]
        have t1 : Int.tmod (a / g * b) a = 0 := by rw [el, Int.mul_tmod_left]
        have t2 : Int.tmod (a / g * b) b = 0 := Int.mul_tmod_left _ _
        have t3 : Int.tdiv (a / g * b) a = b / g := by rw [el, Int.mul_tdiv_cancel _ (by omega)]
        rw [e6]
        simp only [if_true]
        rw [if_neg (by omega), if_pos t1, if_neg (by omega), if_pos t2, t3, w64 (by omega) (by omega), beq_self_eq_true]
      · have e6 : MulS (a / g) b = (0, 2) := by unfold MulS; rw [if_neg r]
        rw [e6]
        simp

end Go.Proofs.Ytmopmhhhpcfokaa.Pure
