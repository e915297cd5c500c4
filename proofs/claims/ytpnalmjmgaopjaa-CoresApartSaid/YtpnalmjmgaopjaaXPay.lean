/- Chapter 9: what is charged, loaded, paid. Conditions: as each theorem states them. -/
import Derived.Test.YtpnalmjmgaopjaaXCores
namespace Go.Proofs.YtpnalmjmgaopjaaC
open Go Go.Proofs.YtpnalmjmgaopjaaM Go.Proofs.YtpnalmjmgaopjaaX Go.Proofs.YtpnalmjmgaopjaaL
set_option linter.unusedVariables false
set_option linter.unusedSimpArgs false

/-- A core of a list. -/
abbrev nth (l : List Core) (i : Nat) : Core := l.getD i (0, 0, 0)
theorem charge_ok {N : Nat} {k : Nat} {op c1 c2 c3 c4 : Int} {l : List Core} (h1 : k < l.length) (ho : 1 ≤ op ∧ op ≤ 3) {e : Int} (he : [c1, c2, c3, c4].getD op.toNat 0 = e) (hr : -9223372036854775808 ≤ (nth l k).1 + e ∧ (nth l k).1 + e ≤ 9223372036854775807) :
    Charge_13 N (((), (k : Int), op, ()), (c1, c2, c3, c4, (), ()), l, ()) = some ((true, ()), (c1, c2, c3, c4, (), ()), l.set k ((nth l k).1 + e, (nth l k).2), ()) := by
  simp only [nth] at hr ⊢
  unfold Charge_13
  have := at_ok (N := N) (i := (k : Int)) (c1 := c1) (c2 := c2) (c3 := c3) (c4 := c4) (l := l) (by omega) (by omega)
  simp (disch := omega) only [this, bnd, byB_not, byB_true, byB_f, if_pos, Int.toNat_natCast, he, w64]
theorem charge_bad {N : Nat} {k op c1 c2 c3 c4 : Int} {l : List Core} (h : k < 0 ∨ (l.length : Int) ≤ k ∨ op < 1 ∨ 3 < op) :
    Charge_13 N (((), k, op, ()), (c1, c2, c3, c4, (), ()), l, ()) = some ((false, ()), (c1, c2, c3, c4, (), ()), l, ()) := by
  unfold Charge_13
  by_cases hk : 0 ≤ k ∧ k < l.length
  · have := at_ok (N := N) (i := k) (c1 := c1) (c2 := c2) (c3 := c3) (c4 := c4) (l := l) hk.1 hk.2
    by_cases h1 : op < 1
    · simp (disch := omega) only [this, bnd, byB_not, byB_true, byB_t]
    · simp (disch := omega) only [this, bnd, byB_not, byB_true, byB_t, byB_f]
  · have := at_no (N := N) (i := k) (c1 := c1) (c2 := c2) (c3 := c3) (c4 := c4) (l := l) (by omega)
    simp (disch := omega) only [this, bnd, byB_not, byB_false]
theorem load_ok {N : Nat} {k : Nat} {t c1 c2 c3 c4 : Int} {l : List Core} (h1 : k < l.length) (ht : ¬ (nth l k).2.1 = t) (hr : -9223372036854775808 ≤ (nth l k).1 + c3 ∧ (nth l k).1 + c3 ≤ 9223372036854775807) :
    Load_14 N (((), (k : Int), t, ()), (c1, c2, c3, c4, (), ()), l, ()) = some ((true, ()), (c1, c2, c3, c4, (), ()), l.set k ((nth l k).1 + c3, t, (nth l k).2.2), ()) := by
  unfold Load_14
  have := at_ok (N := N) (i := (k : Int)) (c1 := c1) (c2 := c2) (c3 := c3) (c4 := c4) (l := l) (by omega) (by omega)
  have h2 := charge_ok (N := N) (k := k) (op := 2) (c1 := c1) (c2 := c2) (c3 := c3) (c4 := c4) (l := l.set k ((nth l k).1, t, (nth l k).2.2)) (by simpa using h1) (by omega) (e := c3) rfl (by rw [nth, getD_set_eq h1]; exact hr)
  simp (disch := omega) only [this, bnd, byB_not, byB_true, byB_eqf, Int.toNat_natCast, h2, nth, getD_set_eq, List.set_set]
theorem load_same {N : Nat} {k : Nat} {t c1 c2 c3 c4 : Int} {l : List Core} (h1 : k < l.length) (ht : (nth l k).2.1 = t) :
    Load_14 N (((), (k : Int), t, ()), (c1, c2, c3, c4, (), ()), l, ()) = some ((false, ()), (c1, c2, c3, c4, (), ()), l, ()) := by
  unfold Load_14
  have := at_ok (N := N) (i := (k : Int)) (c1 := c1) (c2 := c2) (c3 := c3) (c4 := c4) (l := l) (by omega) (by omega)
  simp (disch := omega) only [this, bnd, byB_not, byB_true, byB_eqt, Int.toNat_natCast]
theorem load_bad {N : Nat} {k t c1 c2 c3 c4 : Int} {l : List Core} (h : k < 0 ∨ (l.length : Int) ≤ k) :
    Load_14 N (((), k, t, ()), (c1, c2, c3, c4, (), ()), l, ()) = some ((false, ()), (c1, c2, c3, c4, (), ()), l, ()) := by
  unfold Load_14
  have := at_no (N := N) (i := k) (c1 := c1) (c2 := c2) (c3 := c3) (c4 := c4) (l := l) h
  simp (disch := omega) only [this, bnd, byB_not, byB_false]
theorem pay_ok {N : Nat} {k : Nat} {c1 c2 c3 c4 : Int} {l : List Core} (h1 : k < l.length) (hr : 0 < (nth l k).1 ∧ (nth l k).1 ≤ 9223372036854775807) :
    Pay_15 N (((), (k : Int), ()), (c1, c2, c3, c4, (), ()), l, ()) = some ((true, ()), (c1, c2, c3, c4, (), ()), l.set k ((nth l k).1 - 1, (nth l k).2), ()) := by
  simp only [nth] at hr ⊢
  unfold Pay_15
  have := at_ok (N := N) (i := (k : Int)) (c1 := c1) (c2 := c2) (c3 := c3) (c4 := c4) (l := l) (by omega) (by omega)
  simp (disch := omega) only [this, bnd, byB_eqf, Int.toNat_natCast, w64]
theorem pay_none {N : Nat} {k : Nat} {c1 c2 c3 c4 : Int} {l : List Core} (h1 : k < l.length) (hr : (nth l k).1 = 0) :
    Pay_15 N (((), (k : Int), ()), (c1, c2, c3, c4, (), ()), l, ()) = some ((false, ()), (c1, c2, c3, c4, (), ()), l, ()) := by
  simp only [nth] at hr
  unfold Pay_15
  have := at_ok (N := N) (i := (k : Int)) (c1 := c1) (c2 := c2) (c3 := c3) (c4 := c4) (l := l) (by omega) (by omega)
  simp (disch := omega) only [this, bnd, byB_eqt, Int.toNat_natCast]
theorem pay_bad {N : Nat} {k c1 c2 c3 c4 : Int} {l : List Core} (h : k < 0 ∨ (l.length : Int) ≤ k) :
    Pay_15 N (((), k, ()), (c1, c2, c3, c4, (), ()), l, ()) = some ((false, ()), (c1, c2, c3, c4, (), ()), l, ()) := by
  unfold Pay_15
  have := at_no (N := N) (i := k) (c1 := c1) (c2 := c2) (c3 := c3) (c4 := c4) (l := l) h
  simp (disch := omega) only [this, bnd, byB_eqt]
theorem owesk {N : Nat} {k : Nat} {c1 c2 c3 c4 : Int} {l : List Core} (h1 : k < l.length) :
    Owes_16 N (((), (k : Int), ()), (c1, c2, c3, c4, (), ()), l, ()) = some (((nth l k).1, ()), (c1, c2, c3, c4, (), ()), l, ()) := owes_ok (by omega) (by omega)
theorem lastk {N : Nat} {k : Nat} {c1 c2 c3 c4 : Int} {l : List Core} (h1 : k < l.length) :
    Last_17 N (((), (k : Int), ()), (c1, c2, c3, c4, (), ()), l, ()) = some (((nth l k).2.1, ()), (c1, c2, c3, c4, (), ()), l, ()) := last_ok (by omega) (by omega)
end Go.Proofs.YtpnalmjmgaopjaaC
