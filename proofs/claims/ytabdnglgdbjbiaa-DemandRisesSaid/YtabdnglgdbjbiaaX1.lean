/- Functions of the program as plain Lean, each with its equation (printed by a program of this seat's own). Conditions: none. -/
import Derived.Test.YtabdnglgdbjbiaaM6
import Derived.Test.YtabdnglgdbjbiaaProg
import Derived.KernelRfl
namespace Go.Proofs.YtabdnglgdbjbiaaX
open Go Go.Proofs.YtabdnglgdbjbiaaM
set_option maxRecDepth 100000
set_option linter.unusedVariables false
noncomputable def fs0 (_ : Nat) : FuncId → List V1 → List Blk → Option FSpec := fun _ _ _ => none
theorem fsok0 (N : Nat) : ∀ g xs H sp, fs0 N g xs H = some sp → FSound Try.prog g sp := fun _ _ _ _ h => by cases h
/-! within_34 -/
abbrev ap_within_34 : Pat := ⟨[.one (.int .i64), .one (.ro (.int .i64))], []⟩
abbrev rp_within_34 : List Pat := [⟨[.one (.bool)], []⟩]
def lo_within_34 : List LSpec := [⟨2, [0, 7, 8, 9], ⟨[.one (.int .i64), .one (.ro (.int .i64)), .one (.int .i64), .one (.int .i64)], []⟩⟩]
def jo_within_34 : List LSpec := []
def within_34_L2 (N : Nat) (again2 : ((Int × (List Int × (Int × (Int × Unit)))) × Unit) → Option ((Bool × Unit) × Unit)) (x : ((Int × (List Int × (Int × (Int × Unit)))) × Unit)) : Option ((Bool × Unit) × Unit) := match x with
  | ((least3, t4, t5, t6, ()), ()) =>
    byB (decide (t6 < t5))
      (if (0 ≤ t6) ∧ (t6 < (t4.length : Int)) then
        let e8 := t4.getD t6.toNat 0;
        byB (decide (e8 < least3))
          (some ((false, ()), ()))
          (byB (decide (e8 > 1099511627776))
              (some ((false, ()), ()))
              (again2 ((least3, t4, t5, IntKind.wrap .i64 (t6 + 1), ()), ())))
        else none)
      (some ((true, ()), ()))
def within_34 (N : Nat) (x : ((Int × (List Int × Unit)) × Unit)) : Option ((Bool × Unit) × Unit) := match x with
  | ((least0, l1, ()), ()) =>
    loopN N (within_34_L2 N) ((least0, l1, (l1.length : Int), 0, ()), ())
theorem eq_within_34 (N : Nat) (x : (ap_within_34).den) : funX Try.prog (fs0 N) N lo_within_34 jo_within_34 Try.f34 ap_within_34 rp_within_34 x = within_34 N x := by kernel_rfl
noncomputable def sp_within_34 (N : Nat) : FSpec := specOf ap_within_34 rp_within_34 true (within_34 N)
theorem ok_within_34 (N : Nat) : FSound Try.prog 34 (sp_within_34 N) := funX_sound (N := N) (loops := lo_within_34) (joins := jo_within_34) (fsok0 N) Try.func34 (by kernel_rfl) (by kernel_rfl) fun x _ h => (eq_within_34 N x).trans h
noncomputable def fs1 (N : Nat) : FuncId → List V1 → List Blk → Option FSpec := fun g xs H => if g = 34 then some (sp_within_34 N) else fs0 N g xs H
theorem fsok1 (N : Nat) : ∀ g xs H sp, fs1 N g xs H = some sp → FSound Try.prog g sp := fun g xs H sp h => by
  unfold fs1 at h
  by_cases e : g = 34
  · rw [if_pos e] at h; subst e; cases h; exact ok_within_34 N
  · rw [if_neg e] at h; exact fsok0 N g xs H sp h
/-! right_20 -/
abbrev ap_right_20 : Pat := ⟨[.one (.ro (.pair (.int .i64) (.pair (.int .i64) (.pair (.int .i64) .bool)))), .one (.int .i64), .one (.int .i64)], []⟩
abbrev rp_right_20 : List Pat := [⟨[.one (.bool)], []⟩]
def lo_right_20 : List LSpec := [⟨2, [0, 1, 2, 9, 10, 11], ⟨[.one (.ro (.pair (.int .i64) (.pair (.int .i64) (.pair (.int .i64) .bool)))), .one (.int .i64), .one (.int .i64), .one (.ro (.pair (.int .i64) (.pair (.int .i64) (.pair (.int .i64) .bool)))), .one (.int .i64), .one (.int .i64)], []⟩⟩]
def jo_right_20 : List LSpec := []
def right_20_L2 (N : Nat) (again2 : ((List (Int × (Int × (Int × Bool))) × (Int × (Int × (List (Int × (Int × (Int × Bool))) × (Int × (Int × Unit)))))) × Unit) → Option ((Bool × Unit) × Unit)) (x : ((List (Int × (Int × (Int × Bool))) × (Int × (Int × (List (Int × (Int × (Int × Bool))) × (Int × (Int × Unit)))))) × Unit)) : Option ((Bool × Unit) × Unit) := match x with
  | ((l4, block5, release6, t7, t8, t9, ()), ()) =>
    byB (decide (t9 < t8))
      (if (0 ≤ t9) ∧ (t9 < (t7.length : Int)) then
        let e11 := t7.getD t9.toNat (0, 0, 0, false);
        (within_34 N ((0, [e11.1], ()), ())).bind fun y12 =>
        byB (!y12.1.1)
          (some ((false, ()), ()))
          ((within_34 N ((1, [e11.2.1, e11.2.2.1], ()), ())).bind fun y14 =>
            byB (!y14.1.1)
              (some ((false, ()), ()))
              (again2 ((l4, block5, release6, t7, t8, IntKind.wrap .i64 (t9 + 1), ()), ())))
        else none)
      (byB (decide ((l4.length : Int) ≤ 72))
          ((within_34 N ((0, [block5, release6], ()), ())).bind fun y19 =>
            some ((y19.1.1, ()), ()))
          (some ((false, ()), ())))
def right_20 (N : Nat) (x : ((List (Int × (Int × (Int × Bool))) × (Int × (Int × Unit))) × Unit)) : Option ((Bool × Unit) × Unit) := match x with
  | ((l0, block1, release2, ()), ()) =>
    loopN N (right_20_L2 N) ((l0, block1, release2, l0, (l0.length : Int), 0, ()), ())
theorem eq_right_20 (N : Nat) (x : (ap_right_20).den) : funX Try.prog (fs1 N) N lo_right_20 jo_right_20 Try.f20 ap_right_20 rp_right_20 x = right_20 N x := by kernel_rfl
noncomputable def sp_right_20 (N : Nat) : FSpec := specOf ap_right_20 rp_right_20 true (right_20 N)
theorem ok_right_20 (N : Nat) : FSound Try.prog 20 (sp_right_20 N) := funX_sound (N := N) (loops := lo_right_20) (joins := jo_right_20) (fsok1 N) Try.func20 (by kernel_rfl) (by kernel_rfl) fun x _ h => (eq_right_20 N x).trans h
noncomputable def fs2 (N : Nat) : FuncId → List V1 → List Blk → Option FSpec := fun g xs H => if g = 20 then some (sp_right_20 N) else fs1 N g xs H
theorem fsok2 (N : Nat) : ∀ g xs H sp, fs2 N g xs H = some sp → FSound Try.prog g sp := fun g xs H sp h => by
  unfold fs2 at h
  by_cases e : g = 20
  · rw [if_pos e] at h; subst e; cases h; exact ok_right_20 N
  · rw [if_neg e] at h; exact fsok1 N g xs H sp h
/-! CeilDiv_35 -/
abbrev ap_CeilDiv_35 : Pat := ⟨[.one (.int .i64), .one (.int .i64)], []⟩
abbrev rp_CeilDiv_35 : List Pat := [⟨[.one (.int .i64), .one (.int .i64)], []⟩]
def lo_CeilDiv_35 : List LSpec := []
def jo_CeilDiv_35 : List LSpec := []
def CeilDiv_35 (N : Nat) (x : ((Int × (Int × Unit)) × Unit)) : Option ((Int × (Int × Unit)) × Unit) := match x with
  | ((a0, b1, ()), ()) =>
    byB (decide (a0 < 0))
      (some ((0, 1, ()), ()))
      (byB (decide (b1 ≤ 0))
          (some ((0, 1, ()), ()))
          (if (IntKind.wrap .u64 b1) = 0 then
              none
            else
            some ((IntKind.wrap .i64 (IntKind.wrap .u64 (Int.tdiv (IntKind.wrap .u64 ((IntKind.wrap .u64 ((IntKind.wrap .u64 a0) + (IntKind.wrap .u64 b1))) - 1)) (IntKind.wrap .u64 b1))), 0, ()), ())))
theorem eq_CeilDiv_35 (N : Nat) (x : (ap_CeilDiv_35).den) : funX Try.prog (fs2 N) N lo_CeilDiv_35 jo_CeilDiv_35 Try.f35 ap_CeilDiv_35 rp_CeilDiv_35 x = CeilDiv_35 N x := by kernel_rfl
noncomputable def sp_CeilDiv_35 (N : Nat) : FSpec := specOf ap_CeilDiv_35 rp_CeilDiv_35 true (CeilDiv_35 N)
theorem ok_CeilDiv_35 (N : Nat) : FSound Try.prog 35 (sp_CeilDiv_35 N) := funX_sound (N := N) (loops := lo_CeilDiv_35) (joins := jo_CeilDiv_35) (fsok2 N) Try.func35 (by kernel_rfl) (by kernel_rfl) fun x _ h => (eq_CeilDiv_35 N x).trans h
noncomputable def fs3 (N : Nat) : FuncId → List V1 → List Blk → Option FSpec := fun g xs H => if g = 35 then some (sp_CeilDiv_35 N) else fs2 N g xs H
theorem fsok3 (N : Nat) : ∀ g xs H sp, fs3 N g xs H = some sp → FSound Try.prog g sp := fun g xs H sp h => by
  unfold fs3 at h
  by_cases e : g = 35
  · rw [if_pos e] at h; subst e; cases h; exact ok_CeilDiv_35 N
  · rw [if_neg e] at h; exact fsok2 N g xs H sp h
/-! Add_25 -/
abbrev ap_Add_25 : Pat := ⟨[.one (.int .i64), .one (.int .i64)], []⟩
abbrev rp_Add_25 : List Pat := [⟨[.one (.int .i64), .one (.int .i64)], []⟩]
def lo_Add_25 : List LSpec := []
def jo_Add_25 : List LSpec := []
def Add_25 (N : Nat) (x : ((Int × (Int × Unit)) × Unit)) : Option ((Int × (Int × Unit)) × Unit) := match x with
  | ((a0, b1, ()), ()) =>
    let t2 := IntKind.wrap .i64 (a0 + b1);
    byB (decide ((IntKind.wrap .i64 (BitVec.ofInt (IntKind.bits .i64) (IntKind.wrap .i64 (BitVec.ofInt (IntKind.bits .i64) a0 ^^^ BitVec.ofInt (IntKind.bits .i64) t2).toNat) &&& BitVec.ofInt (IntKind.bits .i64) (IntKind.wrap .i64 (BitVec.ofInt (IntKind.bits .i64) b1 ^^^ BitVec.ofInt (IntKind.bits .i64) t2).toNat)).toNat) < 0))
      (some ((0, 2, ()), ()))
      (some ((t2, 0, ()), ()))
theorem eq_Add_25 (N : Nat) (x : (ap_Add_25).den) : funX Try.prog (fs3 N) N lo_Add_25 jo_Add_25 Try.f25 ap_Add_25 rp_Add_25 x = Add_25 N x := by kernel_rfl
noncomputable def sp_Add_25 (N : Nat) : FSpec := specOf ap_Add_25 rp_Add_25 true (Add_25 N)
theorem ok_Add_25 (N : Nat) : FSound Try.prog 25 (sp_Add_25 N) := funX_sound (N := N) (loops := lo_Add_25) (joins := jo_Add_25) (fsok3 N) Try.func25 (by kernel_rfl) (by kernel_rfl) fun x _ h => (eq_Add_25 N x).trans h
noncomputable def fs4 (N : Nat) : FuncId → List V1 → List Blk → Option FSpec := fun g xs H => if g = 25 then some (sp_Add_25 N) else fs3 N g xs H
theorem fsok4 (N : Nat) : ∀ g xs H sp, fs4 N g xs H = some sp → FSound Try.prog g sp := fun g xs H sp h => by
  unfold fs4 at h
  by_cases e : g = 25
  · rw [if_pos e] at h; subst e; cases h; exact ok_Add_25 N
  · rw [if_neg e] at h; exact fsok3 N g xs H sp h
/-! size_37 -/
abbrev ap_size_37 : Pat := ⟨[.one (.int .i64)], []⟩
abbrev rp_size_37 : List Pat := [⟨[.one (.int .u64)], []⟩]
def lo_size_37 : List LSpec := []
def jo_size_37 : List LSpec := []
def size_37 (N : Nat) (x : ((Int × Unit) × Unit)) : Option ((Int × Unit) × Unit) := match x with
  | ((a0, ()), ()) =>
    byB (decide (a0 < 0))
      (some ((IntKind.wrap .u64 (0 - (IntKind.wrap .u64 a0)), ()), ()))
      (some ((IntKind.wrap .u64 a0, ()), ()))
theorem eq_size_37 (N : Nat) (x : (ap_size_37).den) : funX Try.prog (fs4 N) N lo_size_37 jo_size_37 Try.f37 ap_size_37 rp_size_37 x = size_37 N x := by kernel_rfl
noncomputable def sp_size_37 (N : Nat) : FSpec := specOf ap_size_37 rp_size_37 true (size_37 N)
theorem ok_size_37 (N : Nat) : FSound Try.prog 37 (sp_size_37 N) := funX_sound (N := N) (loops := lo_size_37) (joins := jo_size_37) (fsok4 N) Try.func37 (by kernel_rfl) (by kernel_rfl) fun x _ h => (eq_size_37 N x).trans h
noncomputable def fs5 (N : Nat) : FuncId → List V1 → List Blk → Option FSpec := fun g xs H => if g = 37 then some (sp_size_37 N) else fs4 N g xs H
theorem fsok5 (N : Nat) : ∀ g xs H sp, fs5 N g xs H = some sp → FSound Try.prog g sp := fun g xs H sp h => by
  unfold fs5 at h
  by_cases e : g = 37
  · rw [if_pos e] at h; subst e; cases h; exact ok_size_37 N
  · rw [if_neg e] at h; exact fsok4 N g xs H sp h
/-! times_36 -/
abbrev ap_times_36 : Pat := ⟨[.one (.int .u64), .one (.int .u64)], []⟩
abbrev rp_times_36 : List Pat := [⟨[.agg [.int .u64, .int .u64]], []⟩]
def lo_times_36 : List LSpec := []
def jo_times_36 : List LSpec := []
def times_36 (N : Nat) (x : ((Int × (Int × Unit)) × Unit)) : Option (((Int × (Int × Unit)) × Unit) × Unit) := match x with
  | ((a0, b1, ()), ()) =>
    let t4 := IntKind.wrap .u64 ((IntKind.wrap .u64 (BitVec.ofInt (IntKind.bits .u64) a0 &&& BitVec.ofInt (IntKind.bits .u64) 4294967295).toNat) * (IntKind.wrap .u64 (BitVec.ofInt (IntKind.bits .u64) b1 &&& BitVec.ofInt (IntKind.bits .u64) 4294967295).toNat));
    let t9 := IntKind.wrap .u64 ((IntKind.wrap .u64 ((Int.fdiv a0 (2 ^ 32)) * (IntKind.wrap .u64 (BitVec.ofInt (IntKind.bits .u64) b1 &&& BitVec.ofInt (IntKind.bits .u64) 4294967295).toNat))) + (Int.fdiv t4 (2 ^ 32)));
    let t14 := IntKind.wrap .u64 ((IntKind.wrap .u64 ((IntKind.wrap .u64 (BitVec.ofInt (IntKind.bits .u64) a0 &&& BitVec.ofInt (IntKind.bits .u64) 4294967295).toNat) * (Int.fdiv b1 (2 ^ 32)))) + (IntKind.wrap .u64 (BitVec.ofInt (IntKind.bits .u64) t9 &&& BitVec.ofInt (IntKind.bits .u64) 4294967295).toNat));
    some (((IntKind.wrap .u64 ((IntKind.wrap .u64 ((IntKind.wrap .u64 ((Int.fdiv a0 (2 ^ 32)) * (Int.fdiv b1 (2 ^ 32)))) + (Int.fdiv t9 (2 ^ 32)))) + (Int.fdiv t14 (2 ^ 32))), IntKind.wrap .u64 (BitVec.ofInt (IntKind.bits .u64) (IntKind.wrap .u64 (t14 * 2 ^ 32)) ||| BitVec.ofInt (IntKind.bits .u64) (IntKind.wrap .u64 (BitVec.ofInt (IntKind.bits .u64) t4 &&& BitVec.ofInt (IntKind.bits .u64) 4294967295).toNat)).toNat, ()), ()), ())
theorem eq_times_36 (N : Nat) (x : (ap_times_36).den) : funX Try.prog (fs5 N) N lo_times_36 jo_times_36 Try.f36 ap_times_36 rp_times_36 x = times_36 N x := by kernel_rfl
noncomputable def sp_times_36 (N : Nat) : FSpec := specOf ap_times_36 rp_times_36 true (times_36 N)
theorem ok_times_36 (N : Nat) : FSound Try.prog 36 (sp_times_36 N) := funX_sound (N := N) (loops := lo_times_36) (joins := jo_times_36) (fsok5 N) Try.func36 (by kernel_rfl) (by kernel_rfl) fun x _ h => (eq_times_36 N x).trans h
noncomputable def fs6 (N : Nat) : FuncId → List V1 → List Blk → Option FSpec := fun g xs H => if g = 36 then some (sp_times_36 N) else fs5 N g xs H
theorem fsok6 (N : Nat) : ∀ g xs H sp, fs6 N g xs H = some sp → FSound Try.prog g sp := fun g xs H sp h => by
  unfold fs6 at h
  by_cases e : g = 36
  · rw [if_pos e] at h; subst e; cases h; exact ok_times_36 N
  · rw [if_neg e] at h; exact fsok5 N g xs H sp h
/-! Mul_24 -/
abbrev ap_Mul_24 : Pat := ⟨[.one (.int .i64), .one (.int .i64)], []⟩
abbrev rp_Mul_24 : List Pat := [⟨[.one (.int .i64), .one (.int .i64)], []⟩]
def lo_Mul_24 : List LSpec := []
def jo_Mul_24 : List LSpec := []
def Mul_24 (N : Nat) (x : ((Int × (Int × Unit)) × Unit)) : Option ((Int × (Int × Unit)) × Unit) := match x with
  | ((a0, b1, ()), ()) =>
    (size_37 N ((a0, ()), ())).bind fun y2 =>
    (size_37 N ((b1, ()), ())).bind fun y3 =>
    (times_36 N ((y2.1.1, y3.1.1, ()), ())).bind fun y4 =>
    let t7 := !((decide (a0 < 0)) == (decide (b1 < 0)));
    byB (y4.1.1.1 == 0)
      (byB (decide (y4.1.1.2.1 ≤ 9223372036854775807))
          (byB (!t7)
              (some ((IntKind.wrap .i64 y4.1.1.2.1, 0, ()), ()))
              (byB (y4.1.1.1 == 0)
                  (byB (decide (y4.1.1.2.1 ≤ 9223372036854775808))
                      (byB t7
                          (some ((IntKind.wrap .i64 (IntKind.wrap .u64 (0 - y4.1.1.2.1)), 0, ()), ()))
                          (some ((0, 2, ()), ())))
                      (some ((0, 2, ()), ())))
                  (some ((0, 2, ()), ()))))
          (byB (y4.1.1.1 == 0)
              (byB (decide (y4.1.1.2.1 ≤ 9223372036854775808))
                  (byB t7
                      (some ((IntKind.wrap .i64 (IntKind.wrap .u64 (0 - y4.1.1.2.1)), 0, ()), ()))
                      (some ((0, 2, ()), ())))
                  (some ((0, 2, ()), ())))
              (some ((0, 2, ()), ()))))
      (byB (y4.1.1.1 == 0)
          (byB (decide (y4.1.1.2.1 ≤ 9223372036854775808))
              (byB t7
                  (some ((IntKind.wrap .i64 (IntKind.wrap .u64 (0 - y4.1.1.2.1)), 0, ()), ()))
                  (some ((0, 2, ()), ())))
              (some ((0, 2, ()), ())))
          (some ((0, 2, ()), ())))
theorem eq_Mul_24 (N : Nat) (x : (ap_Mul_24).den) : funX Try.prog (fs6 N) N lo_Mul_24 jo_Mul_24 Try.f24 ap_Mul_24 rp_Mul_24 x = Mul_24 N x := by kernel_rfl
noncomputable def sp_Mul_24 (N : Nat) : FSpec := specOf ap_Mul_24 rp_Mul_24 true (Mul_24 N)
theorem ok_Mul_24 (N : Nat) : FSound Try.prog 24 (sp_Mul_24 N) := funX_sound (N := N) (loops := lo_Mul_24) (joins := jo_Mul_24) (fsok6 N) Try.func24 (by kernel_rfl) (by kernel_rfl) fun x _ h => (eq_Mul_24 N x).trans h
noncomputable def fs7 (N : Nat) : FuncId → List V1 → List Blk → Option FSpec := fun g xs H => if g = 24 then some (sp_Mul_24 N) else fs6 N g xs H
theorem fsok7 (N : Nat) : ∀ g xs H sp, fs7 N g xs H = some sp → FSound Try.prog g sp := fun g xs H sp h => by
  unfold fs7 at h
  by_cases e : g = 24
  · rw [if_pos e] at h; subst e; cases h; exact ok_Mul_24 N
  · rw [if_neg e] at h; exact fsok6 N g xs H sp h
/-! often_23 -/
abbrev ap_often_23 : Pat := ⟨[.one (.int .i64), .one (.int .i64), .one (.int .i64), .one (.int .i64)], []⟩
abbrev rp_often_23 : List Pat := [⟨[.one (.int .i64), .one (.int .i64)], []⟩]
def lo_often_23 : List LSpec := []
def jo_often_23 : List LSpec := []
def often_23 (N : Nat) (x : ((Int × (Int × (Int × (Int × Unit)))) × Unit)) : Option ((Int × (Int × Unit)) × Unit) := match x with
  | ((t0, period1, more2, work3, ()), ()) =>
    (CeilDiv_35 N ((t0, period1, ()), ())).bind fun y4 =>
    byB (y4.1.2.1 == 0)
      ((Add_25 N ((y4.1.1, more2, ()), ())).bind fun y6 =>
        byB (y6.1.2.1 != 0)
          (some ((0, y6.1.2.1, ()), ()))
          ((Mul_24 N ((y6.1.1, work3, ()), ())).bind fun y8 =>
            some ((y8.1.1, y8.1.2.1, ()), ())))
      (byB (y4.1.2.1 != 0)
          (some ((0, y4.1.2.1, ()), ()))
          ((Mul_24 N ((y4.1.1, work3, ()), ())).bind fun y10 =>
            some ((y10.1.1, y10.1.2.1, ()), ())))
theorem eq_often_23 (N : Nat) (x : (ap_often_23).den) : funX Try.prog (fs7 N) N lo_often_23 jo_often_23 Try.f23 ap_often_23 rp_often_23 x = often_23 N x := by kernel_rfl
noncomputable def sp_often_23 (N : Nat) : FSpec := specOf ap_often_23 rp_often_23 true (often_23 N)
theorem ok_often_23 (N : Nat) : FSound Try.prog 23 (sp_often_23 N) := funX_sound (N := N) (loops := lo_often_23) (joins := jo_often_23) (fsok7 N) Try.func23 (by kernel_rfl) (by kernel_rfl) fun x _ h => (eq_often_23 N x).trans h
noncomputable def fs8 (N : Nat) : FuncId → List V1 → List Blk → Option FSpec := fun g xs H => if g = 23 then some (sp_often_23 N) else fs7 N g xs H
theorem fsok8 (N : Nat) : ∀ g xs H sp, fs8 N g xs H = some sp → FSound Try.prog g sp := fun g xs H sp h => by
  unfold fs8 at h
  by_cases e : g = 23
  · rw [if_pos e] at h; subst e; cases h; exact ok_often_23 N
  · rw [if_neg e] at h; exact fsok7 N g xs H sp h
/-! Ask1_22 -/
abbrev ap_Ask1_22 : Pat := ⟨[.agg [.int .i64, .int .i64, .int .i64, .bool], .one (.ptr 0 0), .one (.ptr 1 0)], [.var 3 [.int .i64], .var 3 [.int .i64]]⟩
abbrev rp_Ask1_22 : List Pat := [⟨[.one (.int .i64), .one (.int .i64)], [.var 3 [.int .i64], .var 3 [.int .i64]]⟩]
def lo_Ask1_22 : List LSpec := []
def jo_Ask1_22 : List LSpec := []
def Ask1_22 (N : Nat) (x : (((Int × (Int × (Int × (Bool × Unit)))) × (Unit × (Unit × Unit))) × ((Int × Unit) × ((Int × Unit) × Unit)))) : Option ((Int × (Int × Unit)) × ((Int × Unit) × ((Int × Unit) × Unit))) := match x with
  | (((x0, x1, x2, x3, ()), _, _, ()), (c4, ()), (c5, ()), ()) =>
    byB x3
      ((often_23 N ((c4, x1, 1, x0, ()), ())).bind fun y6 =>
        byB (y6.1.2.1 != 0)
          (some ((0, y6.1.2.1, ()), (c4, ()), (c5, ()), ()))
          ((often_23 N ((c4, x1, 2, c5, ()), ())).bind fun y8 =>
            byB (y8.1.2.1 != 0)
              (some ((0, y8.1.2.1, ()), (c4, ()), (c5, ()), ()))
              ((Add_25 N ((y6.1.1, y8.1.1, ()), ())).bind fun y10 =>
                some ((y10.1.1, y10.1.2.1, ()), (c4, ()), (c5, ()), ()))))
      (byB (decide (c4 ≥ x2))
          (if x1 = 0 then
              none
            else
            (Mul_24 N ((IntKind.wrap .i64 ((IntKind.wrap .i64 (Int.tdiv (IntKind.wrap .i64 (c4 - x2)) x1)) + 1), x0, ()), ())).bind fun y15 =>
            byB (y15.1.2.1 != 0)
              (some ((0, y15.1.2.1, ()), (c4, ()), (c5, ()), ()))
              ((often_23 N ((c4, x1, 2, c5, ()), ())).bind fun y17 =>
                byB (y17.1.2.1 != 0)
                  (some ((0, y17.1.2.1, ()), (c4, ()), (c5, ()), ()))
                  ((Add_25 N ((y15.1.1, y17.1.1, ()), ())).bind fun y19 =>
                    some ((y19.1.1, y19.1.2.1, ()), (c4, ()), (c5, ()), ()))))
          ((often_23 N ((c4, x1, 2, c5, ()), ())).bind fun y20 =>
            byB (y20.1.2.1 != 0)
              (some ((0, y20.1.2.1, ()), (c4, ()), (c5, ()), ()))
              ((Add_25 N ((0, y20.1.1, ()), ())).bind fun y22 =>
                some ((y22.1.1, y22.1.2.1, ()), (c4, ()), (c5, ()), ()))))
theorem eq_Ask1_22 (N : Nat) (x : (ap_Ask1_22).den) : funX Try.prog (fs8 N) N lo_Ask1_22 jo_Ask1_22 Try.f22 ap_Ask1_22 rp_Ask1_22 x = Ask1_22 N x := by kernel_rfl
noncomputable def sp_Ask1_22 (N : Nat) : FSpec := specOf ap_Ask1_22 rp_Ask1_22 true (Ask1_22 N)
theorem ok_Ask1_22 (N : Nat) : FSound Try.prog 22 (sp_Ask1_22 N) := funX_sound (N := N) (loops := lo_Ask1_22) (joins := jo_Ask1_22) (fsok8 N) Try.func22 (by kernel_rfl) (by kernel_rfl) fun x _ h => (eq_Ask1_22 N x).trans h
noncomputable def fs9 (N : Nat) : FuncId → List V1 → List Blk → Option FSpec := fun g xs H => if g = 22 then some (sp_Ask1_22 N) else fs8 N g xs H
theorem fsok9 (N : Nat) : ∀ g xs H sp, fs9 N g xs H = some sp → FSound Try.prog g sp := fun g xs H sp h => by
  unfold fs9 at h
  by_cases e : g = 22
  · rw [if_pos e] at h; subst e; cases h; exact ok_Ask1_22 N
  · rw [if_neg e] at h; exact fsok8 N g xs H sp h
/-! Work_21 -/
abbrev ap_Work_21 : Pat := ⟨[.one (.int .i64), .one (.ro (.pair (.int .i64) (.pair (.int .i64) (.pair (.int .i64) .bool)))), .one (.fn 22 0)], [.clo 22 [] [.one (.ptr 1 0), .one (.ptr 2 0)], .var 3 [.int .i64], .var 3 [.int .i64]]⟩
abbrev rp_Work_21 : List Pat := [⟨[.one (.int .i64), .one (.int .i64)], [.clo 22 [] [.one (.ptr 1 0), .one (.ptr 2 0)], .var 3 [.int .i64], .var 3 [.int .i64]]⟩]
def lo_Work_21 : List LSpec := [⟨2, [0, 2, 12, 13, 14], ⟨[.one (.int .i64), .one (.fn 22 0), .one (.ro (.pair (.int .i64) (.pair (.int .i64) (.pair (.int .i64) .bool)))), .one (.int .i64), .one (.int .i64)], [.clo 22 [] [.one (.ptr 1 0), .one (.ptr 2 0)], .var 3 [.int .i64], .var 3 [.int .i64]]⟩⟩]
def jo_Work_21 : List LSpec := []
def Work_21_L2 (N : Nat) (again2 : ((Int × (Unit × (List (Int × (Int × (Int × Bool))) × (Int × (Int × Unit))))) × ((Unit × (Unit × (Unit × Unit))) × ((Int × Unit) × ((Int × Unit) × Unit)))) → Option ((Int × (Int × Unit)) × ((Unit × (Unit × (Unit × Unit))) × ((Int × Unit) × ((Int × Unit) × Unit))))) (x : ((Int × (Unit × (List (Int × (Int × (Int × Bool))) × (Int × (Int × Unit))))) × ((Unit × (Unit × (Unit × Unit))) × ((Int × Unit) × ((Int × Unit) × Unit))))) : Option ((Int × (Int × Unit)) × ((Unit × (Unit × (Unit × Unit))) × ((Int × Unit) × ((Int × Unit) × Unit)))) := match x with
  | ((n5, _, t6, t7, t8, ()), ((), _, _, ()), (c9, ()), (c10, ()), ()) =>
    byB (decide (t8 < t7))
      (if (0 ≤ t8) ∧ (t8 < (t6.length : Int)) then
        let e12 := t6.getD t8.toNat (0, 0, 0, false);
        (Ask1_22 N (((e12.1, e12.2.1, e12.2.2.1, e12.2.2.2, ()), (), (), ()), (c9, ()), (c10, ()), ())).bind fun y13 =>
        byB (y13.1.2.1 == 0)
          ((Add_25 N ((n5, y13.1.1, ()), ())).bind fun y15 =>
            byB (y15.1.2.1 != 0)
              (some ((0, y15.1.2.1, ()), ((), (), (), ()), (y13.2.1.1, ()), (y13.2.2.1.1, ()), ()))
              (again2 ((y15.1.1, (), t6, t7, IntKind.wrap .i64 (t8 + 1), ()), ((), (), (), ()), (y13.2.1.1, ()), (y13.2.2.1.1, ()), ())))
          (byB (y13.1.2.1 != 0)
              (some ((0, y13.1.2.1, ()), ((), (), (), ()), (y13.2.1.1, ()), (y13.2.2.1.1, ()), ()))
              (again2 ((n5, (), t6, t7, IntKind.wrap .i64 (t8 + 1), ()), ((), (), (), ()), (y13.2.1.1, ()), (y13.2.2.1.1, ()), ())))
        else none)
      (some ((n5, 0, ()), ((), (), (), ()), (c9, ()), (c10, ()), ()))
def Work_21 (N : Nat) (x : ((Int × (List (Int × (Int × (Int × Bool))) × (Unit × Unit))) × ((Unit × (Unit × (Unit × Unit))) × ((Int × Unit) × ((Int × Unit) × Unit))))) : Option ((Int × (Int × Unit)) × ((Unit × (Unit × (Unit × Unit))) × ((Int × Unit) × ((Int × Unit) × Unit)))) := match x with
  | ((n0, l1, _, ()), ((), _, _, ()), (c2, ()), (c3, ()), ()) =>
    loopN N (Work_21_L2 N) ((n0, (), l1, (l1.length : Int), 0, ()), ((), (), (), ()), (c2, ()), (c3, ()), ())
theorem eq_Work_21 (N : Nat) (x : (ap_Work_21).den) : funX Try.prog (fs9 N) N lo_Work_21 jo_Work_21 Try.f21 ap_Work_21 rp_Work_21 x = Work_21 N x := by kernel_rfl
noncomputable def sp_Work_21 (N : Nat) : FSpec := specOf ap_Work_21 rp_Work_21 true (Work_21 N)
theorem ok_Work_21 (N : Nat) : FSound Try.prog 21 (sp_Work_21 N) := funX_sound (N := N) (loops := lo_Work_21) (joins := jo_Work_21) (fsok9 N) Try.func21 (by kernel_rfl) (by kernel_rfl) fun x _ h => (eq_Work_21 N x).trans h
noncomputable def fs10 (N : Nat) : FuncId → List V1 → List Blk → Option FSpec := fun g xs H => if g = 21 then (if okArgs ap_Work_21 true xs H = true then some (sp_Work_21 N) else fs9 N g xs H) else fs9 N g xs H
theorem fsok10 (N : Nat) : ∀ g xs H sp, fs10 N g xs H = some sp → FSound Try.prog g sp := fun g xs H sp h => by
  unfold fs10 at h
  by_cases e : g = 21
  · rw [if_pos e] at h
    split at h
    · subst e; cases h; exact ok_Work_21 N
    · exact fsok9 N g xs H sp h
  · rw [if_neg e] at h; exact fsok9 N g xs H sp h
/-! Ask_11 -/
abbrev ap_Ask_11 : Pat := ⟨[.one (.ro (.pair (.int .i64) (.pair (.int .i64) (.pair (.int .i64) .bool)))), .one (.int .i64), .one (.int .i64), .one (.int .i64)], []⟩
abbrev rp_Ask_11 : List Pat := [⟨[.one (.int .i64), .one (.int .i64)], []⟩]
def lo_Ask_11 : List LSpec := []
def jo_Ask_11 : List LSpec := []
def Ask_11 (N : Nat) (x : ((List (Int × (Int × (Int × Bool))) × (Int × (Int × (Int × Unit)))) × Unit)) : Option ((Int × (Int × Unit)) × Unit) := match x with
  | ((l0, block1, release2, t3, ()), ()) =>
    (right_20 N ((l0, block1, release2, ()), ())).bind fun y4 =>
    byB (!y4.1.1)
      (some ((0, 1, ()), ()))
      (byB (decide (t3 < 1))
          (some ((0, 1, ()), ()))
          ((Work_21 N ((block1, l0, (), ()), ((), (), (), ()), (t3, ()), (release2, ()), ())).bind fun y7 =>
            some ((y7.1.1, y7.1.2.1, ()), ())))
theorem eq_Ask_11 (N : Nat) (x : (ap_Ask_11).den) : funX Try.prog (fs10 N) N lo_Ask_11 jo_Ask_11 Try.f11 ap_Ask_11 rp_Ask_11 x = Ask_11 N x := by kernel_rfl
noncomputable def sp_Ask_11 (N : Nat) : FSpec := specOf ap_Ask_11 rp_Ask_11 true (Ask_11 N)
theorem ok_Ask_11 (N : Nat) : FSound Try.prog 11 (sp_Ask_11 N) := funX_sound (N := N) (loops := lo_Ask_11) (joins := jo_Ask_11) (fsok10 N) Try.func11 (by kernel_rfl) (by kernel_rfl) fun x _ h => (eq_Ask_11 N x).trans h
noncomputable def fs11 (N : Nat) : FuncId → List V1 → List Blk → Option FSpec := fun g xs H => if g = 11 then some (sp_Ask_11 N) else fs10 N g xs H
theorem fsok11 (N : Nat) : ∀ g xs H sp, fs11 N g xs H = some sp → FSound Try.prog g sp := fun g xs H sp h => by
  unfold fs11 at h
  by_cases e : g = 11
  · rw [if_pos e] at h; subst e; cases h; exact ok_Ask_11 N
  · rw [if_neg e] at h; exact fsok10 N g xs H sp h
/-! over_43 -/
abbrev ap_over_43 : Pat := ⟨[.agg [.int .u64, .int .u64], .one (.int .u64)], []⟩
abbrev rp_over_43 : List Pat := [⟨[.one (.int .u64), .one (.int .u64)], []⟩]
def lo_over_43 : List LSpec := [⟨3, [1, 2, 4, 5, 6], ⟨[.one (.int .u64), .one (.ptr 0 0), .one (.int .u64), .one (.int .u64), .one (.int .i64)], [.var 58 [.int .u64, .int .u64]]⟩⟩]
def jo_over_43 : List LSpec := []
def over_43_L3 (N : Nat) (again3 : ((Int × (Unit × (Int × (Int × (Int × Unit))))) × ((Int × (Int × Unit)) × Unit)) → Option ((Int × (Int × Unit)) × Unit)) (x : ((Int × (Unit × (Int × (Int × (Int × Unit))))) × ((Int × (Int × Unit)) × Unit))) : Option ((Int × (Int × Unit)) × Unit) := match x with
  | ((d3, _, q4, r5, k6, ()), (c7, c8, ()), ()) =>
    byB (decide (k6 ≥ 0))
      (if k6 < 0 then
          none
        else
        let t14 := IntKind.wrap .u64 (BitVec.ofInt (IntKind.bits .u64) (IntKind.wrap .u64 (r5 * 2 ^ 1)) ||| BitVec.ofInt (IntKind.bits .u64) (IntKind.wrap .u64 (BitVec.ofInt (IntKind.bits .u64) (Int.fdiv c8 (2 ^ (min k6.toNat (IntKind.bits .u64)))) &&& BitVec.ofInt (IntKind.bits .u64) 1).toNat)).toNat;
        byB ((Int.fdiv r5 (2 ^ 63)) == 1)
          (if k6 < 0 then
              none
            else
            again3 ((d3, (), IntKind.wrap .u64 (BitVec.ofInt (IntKind.bits .u64) q4 ||| BitVec.ofInt (IntKind.bits .u64) (IntKind.wrap .u64 (1 * 2 ^ (min k6.toNat (IntKind.bits .u64))))).toNat, IntKind.wrap .u64 (t14 - d3), IntKind.wrap .i64 (k6 - 1), ()), (c7, c8, ()), ()))
          (byB (decide (t14 ≥ d3))
              (if k6 < 0 then
                  none
                else
                again3 ((d3, (), IntKind.wrap .u64 (BitVec.ofInt (IntKind.bits .u64) q4 ||| BitVec.ofInt (IntKind.bits .u64) (IntKind.wrap .u64 (1 * 2 ^ (min k6.toNat (IntKind.bits .u64))))).toNat, IntKind.wrap .u64 (t14 - d3), IntKind.wrap .i64 (k6 - 1), ()), (c7, c8, ()), ()))
              (again3 ((d3, (), q4, t14, IntKind.wrap .i64 (k6 - 1), ()), (c7, c8, ()), ()))))
      (some ((q4, r5, ()), ()))
def over_43 (N : Nat) (x : (((Int × (Int × Unit)) × (Int × Unit)) × Unit)) : Option ((Int × (Int × Unit)) × Unit) := match x with
  | (((w0, w1, ()), d2, ()), ()) =>
    loopN N (over_43_L3 N) ((d2, (), 0, w0, 63, ()), (w0, w1, ()), ())
theorem eq_over_43 (N : Nat) (x : (ap_over_43).den) : funX Try.prog (fs11 N) N lo_over_43 jo_over_43 Try.f43 ap_over_43 rp_over_43 x = over_43 N x := by kernel_rfl
noncomputable def sp_over_43 (N : Nat) : FSpec := specOf ap_over_43 rp_over_43 true (over_43 N)
theorem ok_over_43 (N : Nat) : FSound Try.prog 43 (sp_over_43 N) := funX_sound (N := N) (loops := lo_over_43) (joins := jo_over_43) (fsok11 N) Try.func43 (by kernel_rfl) (by kernel_rfl) fun x _ h => (eq_over_43 N x).trans h
noncomputable def fs12 (N : Nat) : FuncId → List V1 → List Blk → Option FSpec := fun g xs H => if g = 43 then some (sp_over_43 N) else fs11 N g xs H
theorem fsok12 (N : Nat) : ∀ g xs H sp, fs12 N g xs H = some sp → FSound Try.prog g sp := fun g xs H sp h => by
  unfold fs12 at h
  by_cases e : g = 43
  · rw [if_pos e] at h; subst e; cases h; exact ok_over_43 N
  · rw [if_neg e] at h; exact fsok11 N g xs H sp h
/-! MulDiv_41 -/
abbrev ap_MulDiv_41 : Pat := ⟨[.one (.int .i64), .one (.int .i64), .one (.int .i64), .one (.bool)], []⟩
abbrev rp_MulDiv_41 : List Pat := [⟨[.one (.int .i64), .one (.int .i64)], []⟩]
def lo_MulDiv_41 : List LSpec := []
def jo_MulDiv_41 : List LSpec := [⟨2, [0, 1, 2, 3, 22], ⟨[.one (.int .i64), .one (.int .i64), .one (.int .i64), .one (.bool), .one (.bool)], []⟩⟩]
def MulDiv_41_J2 (N : Nat) (x : ((Int × (Int × (Int × (Bool × (Bool × Unit))))) × Unit)) : Option ((Int × (Int × Unit)) × Unit) := match x with
  | ((a7, b8, c9, up10, t11, ()), ()) =>
    byB t11
      (some ((0, 1, ()), ()))
      ((times_36 N ((IntKind.wrap .u64 a7, IntKind.wrap .u64 b8, ()), ())).bind fun y14 =>
        byB (decide (y14.1.1.1 ≥ (IntKind.wrap .u64 c9)))
          (some ((0, 2, ()), ()))
          ((over_43 N (((y14.1.1.1, y14.1.1.2.1, ()), IntKind.wrap .u64 c9, ()), ())).bind fun y18 =>
            byB up10
              (byB (decide (y18.1.2.1 > 0))
                  (let t20 := IntKind.wrap .u64 (y18.1.1 + 1);
                    byB (decide (t20 > 9223372036854775807))
                      (some ((0, 2, ()), ()))
                      (some ((IntKind.wrap .i64 t20, 0, ()), ())))
                  (byB (decide (y18.1.1 > 9223372036854775807))
                      (some ((0, 2, ()), ()))
                      (some ((IntKind.wrap .i64 y18.1.1, 0, ()), ()))))
              (byB (decide (y18.1.1 > 9223372036854775807))
                  (some ((0, 2, ()), ()))
                  (some ((IntKind.wrap .i64 y18.1.1, 0, ()), ())))))
def MulDiv_41 (N : Nat) (x : ((Int × (Int × (Int × (Bool × Unit)))) × Unit)) : Option ((Int × (Int × Unit)) × Unit) := match x with
  | ((a0, b1, c2, up3, ()), ()) =>
    withJoin (MulDiv_41_J2 N) fun join2 =>
    byB (decide (a0 < 0))
      (join2 ((a0, b1, c2, up3, true, ()), ()))
      (byB (decide (b1 < 0))
          (join2 ((a0, b1, c2, up3, true, ()), ()))
          (join2 ((a0, b1, c2, up3, decide (c2 ≤ 0), ()), ())))
theorem eq_MulDiv_41 (N : Nat) (x : (ap_MulDiv_41).den) : funX Try.prog (fs12 N) N lo_MulDiv_41 jo_MulDiv_41 Try.f41 ap_MulDiv_41 rp_MulDiv_41 x = MulDiv_41 N x := by kernel_rfl
noncomputable def sp_MulDiv_41 (N : Nat) : FSpec := specOf ap_MulDiv_41 rp_MulDiv_41 true (MulDiv_41 N)
theorem ok_MulDiv_41 (N : Nat) : FSound Try.prog 41 (sp_MulDiv_41 N) := funX_sound (N := N) (loops := lo_MulDiv_41) (joins := jo_MulDiv_41) (fsok12 N) Try.func41 (by kernel_rfl) (by kernel_rfl) fun x _ h => (eq_MulDiv_41 N x).trans h
noncomputable def fs13 (N : Nat) : FuncId → List V1 → List Blk → Option FSpec := fun g xs H => if g = 41 then some (sp_MulDiv_41 N) else fs12 N g xs H
theorem fsok13 (N : Nat) : ∀ g xs H sp, fs13 N g xs H = some sp → FSound Try.prog g sp := fun g xs H sp h => by
  unfold fs13 at h
  by_cases e : g = 41
  · rw [if_pos e] at h; subst e; cases h; exact ok_MulDiv_41 N
  · rw [if_neg e] at h; exact fsok12 N g xs H sp h
/-! Load_39 -/
abbrev ap_Load_39 : Pat := ⟨[.one (.ro (.int .i64)), .one (.ro (.int .i64))], []⟩
abbrev rp_Load_39 : List Pat := [⟨[.one (.int .i64), .one (.int .i64)], []⟩]
def lo_Load_39 : List LSpec := [⟨5, [1, 6, 7, 17, 18, 19], ⟨[.one (.ro (.int .i64)), .one (.int .i64), .one (.int .i64), .one (.ro (.int .i64)), .one (.int .i64), .one (.int .i64)], []⟩⟩]
def jo_Load_39 : List LSpec := []
def Load_39_L5 (N : Nat) (again5 : ((List Int × (Int × (Int × (List Int × (Int × (Int × Unit)))))) × Unit) → Option ((Int × (Int × Unit)) × Unit)) (x : ((List Int × (Int × (Int × (List Int × (Int × (Int × Unit)))))) × Unit)) : Option ((Int × (Int × Unit)) × Unit) := match x with
  | ((time6, sum7, err8, t9, t10, t11, ()), ()) =>
    byB (decide (t11 < t10))
      (if (0 ≤ t11) ∧ (t11 < (t9.length : Int)) then
        let e13 := t9.getD t11.toNat 0;
        byB (decide (e13 < 0))
          (some ((0, 1, ()), ()))
          (if (0 ≤ t11) ∧ (t11 < (time6.length : Int)) then
            byB (decide ((time6.getD t11.toNat 0) ≤ 0))
              (some ((0, 1, ()), ()))
              (if (0 ≤ t11) ∧ (t11 < (time6.length : Int)) then
                (MulDiv_41 N ((e13, 4294967296, time6.getD t11.toNat 0, true, ()), ())).bind fun y18 =>
                byB (y18.1.2.1 == 0)
                  (byB (err8 == 0)
                      ((Add_25 N ((sum7, y18.1.1, ()), ())).bind fun y21 =>
                        byB (y21.1.2.1 != 0)
                          (again5 ((time6, y21.1.1, y21.1.2.1, t9, t10, IntKind.wrap .i64 (t11 + 1), ()), ()))
                          (again5 ((time6, y21.1.1, err8, t9, t10, IntKind.wrap .i64 (t11 + 1), ()), ())))
                      (byB (y18.1.2.1 != 0)
                          (again5 ((time6, sum7, y18.1.2.1, t9, t10, IntKind.wrap .i64 (t11 + 1), ()), ()))
                          (again5 ((time6, sum7, err8, t9, t10, IntKind.wrap .i64 (t11 + 1), ()), ()))))
                  (byB (y18.1.2.1 != 0)
                      (again5 ((time6, sum7, y18.1.2.1, t9, t10, IntKind.wrap .i64 (t11 + 1), ()), ()))
                      (again5 ((time6, sum7, err8, t9, t10, IntKind.wrap .i64 (t11 + 1), ()), ())))
                else none)
            else none)
        else none)
      (byB (err8 != 0)
          (some ((0, err8, ()), ()))
          (some ((sum7, 0, ()), ())))
def Load_39 (N : Nat) (x : ((List Int × (List Int × Unit)) × Unit)) : Option ((Int × (Int × Unit)) × Unit) := match x with
  | ((work0, time1, ()), ()) =>
    byB ((work0.length : Int) != (time1.length : Int))
      (some ((0, 1, ()), ()))
      (loopN N (Load_39_L5 N) ((time1, 0, 0, work0, (work0.length : Int), 0, ()), ()))
theorem eq_Load_39 (N : Nat) (x : (ap_Load_39).den) : funX Try.prog (fs13 N) N lo_Load_39 jo_Load_39 Try.f39 ap_Load_39 rp_Load_39 x = Load_39 N x := by kernel_rfl
noncomputable def sp_Load_39 (N : Nat) : FSpec := specOf ap_Load_39 rp_Load_39 true (Load_39 N)
theorem ok_Load_39 (N : Nat) : FSound Try.prog 39 (sp_Load_39 N) := funX_sound (N := N) (loops := lo_Load_39) (joins := jo_Load_39) (fsok13 N) Try.func39 (by kernel_rfl) (by kernel_rfl) fun x _ h => (eq_Load_39 N x).trans h
noncomputable def fs14 (N : Nat) : FuncId → List V1 → List Blk → Option FSpec := fun g xs H => if g = 39 then some (sp_Load_39 N) else fs13 N g xs H
theorem fsok14 (N : Nat) : ∀ g xs H sp, fs14 N g xs H = some sp → FSound Try.prog g sp := fun g xs H sp h => by
  unfold fs14 at h
  by_cases e : g = 39
  · rw [if_pos e] at h; subst e; cases h; exact ok_Load_39 N
  · rw [if_neg e] at h; exact fsok13 N g xs H sp h
/-! full_30 -/
abbrev ap_full_30 : Pat := ⟨[.one (.ro (.pair (.int .i64) (.pair (.int .i64) (.pair (.int .i64) .bool)))), .one (.int .i64)], []⟩
abbrev rp_full_30 : List Pat := [⟨[.one (.bool)], []⟩]
def lo_full_30 : List LSpec := [⟨3, [1, 5, 6, 11, 12, 13], ⟨[.one (.int .i64), .one (.full 0), .one (.full 1), .one (.ro (.pair (.int .i64) (.pair (.int .i64) (.pair (.int .i64) .bool)))), .one (.int .i64), .one (.int .i64)], [.row 3 (.int .i64), .row 3 (.int .i64)]⟩⟩]
def jo_full_30 : List LSpec := []
def full_30_L3 (N : Nat) (again3 : ((Int × (Unit × (Unit × (List (Int × (Int × (Int × Bool))) × (Int × (Int × Unit)))))) × (List Int × (List Int × Unit))) → Option ((Bool × Unit) × Unit)) (x : ((Int × (Unit × (Unit × (List (Int × (Int × (Int × Bool))) × (Int × (Int × Unit)))))) × (List Int × (List Int × Unit)))) : Option ((Bool × Unit) × Unit) := match x with
  | ((release3, _, _, t4, t5, t6, ()), l7, l8, ()) =>
    byB (decide (t6 < t5))
      (if (0 ≤ t6) ∧ (t6 < (t4.length : Int)) then
        let e10 := t4.getD t6.toNat (0, 0, 0, false);
        if (l7.length + 2) * 8 ≤ 140737488355328 then
        (if (l8.length + 2) * 8 ≤ 140737488355328 then
        again3 ((release3, (), (), t4, t5, IntKind.wrap .i64 (t6 + 1), ()), l7 ++ [e10.1, release3], l8 ++ [e10.2.1, e10.2.1], ())
        else none)
        else none
        else none)
      ((Load_39 N ((l7, l8, ()), ())).bind fun y14 =>
        byB (y14.1.2.1 != 0)
          (some ((true, ()), ()))
          (some ((decide (y14.1.1 > 4294967296), ()), ())))
def full_30 (N : Nat) (x : ((List (Int × (Int × (Int × Bool))) × (Int × Unit)) × Unit)) : Option ((Bool × Unit) × Unit) := match x with
  | ((l0, release1, ()), ()) =>
    loopN N (full_30_L3 N) ((release1, (), (), l0, (l0.length : Int), 0, ()), [], [], ())
theorem eq_full_30 (N : Nat) (x : (ap_full_30).den) : funX Try.prog (fs14 N) N lo_full_30 jo_full_30 Try.f30 ap_full_30 rp_full_30 x = full_30 N x := by kernel_rfl
noncomputable def sp_full_30 (N : Nat) : FSpec := specOf ap_full_30 rp_full_30 true (full_30 N)
theorem ok_full_30 (N : Nat) : FSound Try.prog 30 (sp_full_30 N) := funX_sound (N := N) (loops := lo_full_30) (joins := jo_full_30) (fsok14 N) Try.func30 (by kernel_rfl) (by kernel_rfl) fun x _ h => (eq_full_30 N x).trans h
noncomputable def fs15 (N : Nat) : FuncId → List V1 → List Blk → Option FSpec := fun g xs H => if g = 30 then some (sp_full_30 N) else fs14 N g xs H
theorem fsok15 (N : Nat) : ∀ g xs H sp, fs15 N g xs H = some sp → FSound Try.prog g sp := fun g xs H sp h => by
  unfold fs15 at h
  by_cases e : g = 30
  · rw [if_pos e] at h; subst e; cases h; exact ok_full_30 N
  · rw [if_neg e] at h; exact fsok14 N g xs H sp h
/-! Busy1_31 -/
abbrev ap_Busy1_31 : Pat := ⟨[.agg [.int .i64, .int .i64, .int .i64, .bool], .one (.ptr 0 0), .one (.ptr 1 0)], [.var 3 [.int .i64], .var 3 [.int .i64]]⟩
abbrev rp_Busy1_31 : List Pat := [⟨[.one (.int .i64), .one (.int .i64)], [.var 3 [.int .i64], .var 3 [.int .i64]]⟩]
def lo_Busy1_31 : List LSpec := []
def jo_Busy1_31 : List LSpec := []
def Busy1_31 (N : Nat) (x : (((Int × (Int × (Int × (Bool × Unit)))) × (Unit × (Unit × Unit))) × ((Int × Unit) × ((Int × Unit) × Unit)))) : Option ((Int × (Int × Unit)) × ((Int × Unit) × ((Int × Unit) × Unit))) := match x with
  | (((x0, x1, x2, x3, ()), _, _, ()), (c4, ()), (c5, ()), ()) =>
    (often_23 N ((c4, x1, 1, x0, ()), ())).bind fun y6 =>
    byB (y6.1.2.1 != 0)
      (some ((0, y6.1.2.1, ()), (c4, ()), (c5, ()), ()))
      ((often_23 N ((c4, x1, 2, c5, ()), ())).bind fun y8 =>
        byB (y8.1.2.1 != 0)
          (some ((0, y8.1.2.1, ()), (c4, ()), (c5, ()), ()))
          ((Add_25 N ((y6.1.1, y8.1.1, ()), ())).bind fun y10 =>
            some ((y10.1.1, y10.1.2.1, ()), (c4, ()), (c5, ()), ())))
theorem eq_Busy1_31 (N : Nat) (x : (ap_Busy1_31).den) : funX Try.prog (fs15 N) N lo_Busy1_31 jo_Busy1_31 Try.f31 ap_Busy1_31 rp_Busy1_31 x = Busy1_31 N x := by kernel_rfl
noncomputable def sp_Busy1_31 (N : Nat) : FSpec := specOf ap_Busy1_31 rp_Busy1_31 true (Busy1_31 N)
theorem ok_Busy1_31 (N : Nat) : FSound Try.prog 31 (sp_Busy1_31 N) := funX_sound (N := N) (loops := lo_Busy1_31) (joins := jo_Busy1_31) (fsok15 N) Try.func31 (by kernel_rfl) (by kernel_rfl) fun x _ h => (eq_Busy1_31 N x).trans h
noncomputable def fs16 (N : Nat) : FuncId → List V1 → List Blk → Option FSpec := fun g xs H => if g = 31 then some (sp_Busy1_31 N) else fs15 N g xs H
theorem fsok16 (N : Nat) : ∀ g xs H sp, fs16 N g xs H = some sp → FSound Try.prog g sp := fun g xs H sp h => by
  unfold fs16 at h
  by_cases e : g = 31
  · rw [if_pos e] at h; subst e; cases h; exact ok_Busy1_31 N
  · rw [if_neg e] at h; exact fsok15 N g xs H sp h
/-! Work_21v1 -/
abbrev ap_Work_21v1 : Pat := ⟨[.one (.int .i64), .one (.ro (.pair (.int .i64) (.pair (.int .i64) (.pair (.int .i64) .bool)))), .one (.fn 31 0)], [.clo 31 [] [.one (.ptr 1 0), .one (.ptr 2 0)], .var 3 [.int .i64], .var 3 [.int .i64]]⟩
abbrev rp_Work_21v1 : List Pat := [⟨[.one (.int .i64), .one (.int .i64)], [.clo 31 [] [.one (.ptr 1 0), .one (.ptr 2 0)], .var 3 [.int .i64], .var 3 [.int .i64]]⟩]
def lo_Work_21v1 : List LSpec := [⟨2, [0, 2, 12, 13, 14], ⟨[.one (.int .i64), .one (.fn 31 0), .one (.ro (.pair (.int .i64) (.pair (.int .i64) (.pair (.int .i64) .bool)))), .one (.int .i64), .one (.int .i64)], [.clo 31 [] [.one (.ptr 1 0), .one (.ptr 2 0)], .var 3 [.int .i64], .var 3 [.int .i64]]⟩⟩]
def jo_Work_21v1 : List LSpec := []
def Work_21v1_L2 (N : Nat) (again2 : ((Int × (Unit × (List (Int × (Int × (Int × Bool))) × (Int × (Int × Unit))))) × ((Unit × (Unit × (Unit × Unit))) × ((Int × Unit) × ((Int × Unit) × Unit)))) → Option ((Int × (Int × Unit)) × ((Unit × (Unit × (Unit × Unit))) × ((Int × Unit) × ((Int × Unit) × Unit))))) (x : ((Int × (Unit × (List (Int × (Int × (Int × Bool))) × (Int × (Int × Unit))))) × ((Unit × (Unit × (Unit × Unit))) × ((Int × Unit) × ((Int × Unit) × Unit))))) : Option ((Int × (Int × Unit)) × ((Unit × (Unit × (Unit × Unit))) × ((Int × Unit) × ((Int × Unit) × Unit)))) := match x with
  | ((n5, _, t6, t7, t8, ()), ((), _, _, ()), (c9, ()), (c10, ()), ()) =>
    byB (decide (t8 < t7))
      (if (0 ≤ t8) ∧ (t8 < (t6.length : Int)) then
        let e12 := t6.getD t8.toNat (0, 0, 0, false);
        (Busy1_31 N (((e12.1, e12.2.1, e12.2.2.1, e12.2.2.2, ()), (), (), ()), (c9, ()), (c10, ()), ())).bind fun y13 =>
        byB (y13.1.2.1 == 0)
          ((Add_25 N ((n5, y13.1.1, ()), ())).bind fun y15 =>
            byB (y15.1.2.1 != 0)
              (some ((0, y15.1.2.1, ()), ((), (), (), ()), (y13.2.1.1, ()), (y13.2.2.1.1, ()), ()))
              (again2 ((y15.1.1, (), t6, t7, IntKind.wrap .i64 (t8 + 1), ()), ((), (), (), ()), (y13.2.1.1, ()), (y13.2.2.1.1, ()), ())))
          (byB (y13.1.2.1 != 0)
              (some ((0, y13.1.2.1, ()), ((), (), (), ()), (y13.2.1.1, ()), (y13.2.2.1.1, ()), ()))
              (again2 ((n5, (), t6, t7, IntKind.wrap .i64 (t8 + 1), ()), ((), (), (), ()), (y13.2.1.1, ()), (y13.2.2.1.1, ()), ())))
        else none)
      (some ((n5, 0, ()), ((), (), (), ()), (c9, ()), (c10, ()), ()))
def Work_21v1 (N : Nat) (x : ((Int × (List (Int × (Int × (Int × Bool))) × (Unit × Unit))) × ((Unit × (Unit × (Unit × Unit))) × ((Int × Unit) × ((Int × Unit) × Unit))))) : Option ((Int × (Int × Unit)) × ((Unit × (Unit × (Unit × Unit))) × ((Int × Unit) × ((Int × Unit) × Unit)))) := match x with
  | ((n0, l1, _, ()), ((), _, _, ()), (c2, ()), (c3, ()), ()) =>
    loopN N (Work_21v1_L2 N) ((n0, (), l1, (l1.length : Int), 0, ()), ((), (), (), ()), (c2, ()), (c3, ()), ())
theorem eq_Work_21v1 (N : Nat) (x : (ap_Work_21v1).den) : funX Try.prog (fs16 N) N lo_Work_21v1 jo_Work_21v1 Try.f21 ap_Work_21v1 rp_Work_21v1 x = Work_21v1 N x := by kernel_rfl
noncomputable def sp_Work_21v1 (N : Nat) : FSpec := specOf ap_Work_21v1 rp_Work_21v1 true (Work_21v1 N)
theorem ok_Work_21v1 (N : Nat) : FSound Try.prog 21 (sp_Work_21v1 N) := funX_sound (N := N) (loops := lo_Work_21v1) (joins := jo_Work_21v1) (fsok16 N) Try.func21 (by kernel_rfl) (by kernel_rfl) fun x _ h => (eq_Work_21v1 N x).trans h
noncomputable def fs17 (N : Nat) : FuncId → List V1 → List Blk → Option FSpec := fun g xs H => if g = 21 then (if okArgs ap_Work_21v1 true xs H = true then some (sp_Work_21v1 N) else fs16 N g xs H) else fs16 N g xs H
theorem fsok17 (N : Nat) : ∀ g xs H sp, fs17 N g xs H = some sp → FSound Try.prog g sp := fun g xs H sp h => by
  unfold fs17 at h
  by_cases e : g = 21
  · rw [if_pos e] at h
    split at h
    · subst e; cases h; exact ok_Work_21v1 N
    · exact fsok16 N g xs H sp h
  · rw [if_neg e] at h; exact fsok16 N g xs H sp h
/-! Busy_14 -/
abbrev ap_Busy_14 : Pat := ⟨[.one (.ro (.pair (.int .i64) (.pair (.int .i64) (.pair (.int .i64) .bool)))), .one (.int .i64), .one (.int .i64)], []⟩
abbrev rp_Busy_14 : List Pat := [⟨[.one (.int .i64), .one (.int .i64)], []⟩]
def lo_Busy_14 : List LSpec := [⟨7, [0, 1, 5, 8, 19], ⟨[.one (.ro (.pair (.int .i64) (.pair (.int .i64) (.pair (.int .i64) .bool)))), .one (.int .i64), .one (.ptr 0 0), .one (.ptr 1 0), .one (.int .i64)], [.var 3 [.int .i64], .var 3 [.int .i64]]⟩⟩]
def jo_Busy_14 : List LSpec := []
def Busy_14_L7 (N : Nat) (again7 : ((List (Int × (Int × (Int × Bool))) × (Int × (Unit × (Unit × (Int × Unit))))) × ((Int × Unit) × ((Int × Unit) × Unit))) → Option ((Int × (Int × Unit)) × Unit)) (x : ((List (Int × (Int × (Int × Bool))) × (Int × (Unit × (Unit × (Int × Unit))))) × ((Int × Unit) × ((Int × Unit) × Unit)))) : Option ((Int × (Int × Unit)) × Unit) := match x with
  | ((l6, block7, _, _, t8, ()), (c9, ()), (c10, ()), ()) =>
    byB (decide (t8 < 5000))
      ((Work_21v1 N ((block7, l6, (), ()), ((), (), (), ()), (c10, ()), (c9, ()), ())).bind fun y12 =>
        byB (y12.1.2.1 != 0)
          (some ((0, y12.1.2.1, ()), ()))
          (byB (decide (y12.1.1 ≤ y12.2.2.1.1))
              (some ((y12.2.2.1.1, 0, ()), ()))
              (again7 ((l6, block7, (), (), IntKind.wrap .i64 (t8 + 1), ()), (y12.2.2.2.1.1, ()), (y12.1.1, ()), ()))))
      (some ((0, 11, ()), ()))
def Busy_14 (N : Nat) (x : ((List (Int × (Int × (Int × Bool))) × (Int × (Int × Unit))) × Unit)) : Option ((Int × (Int × Unit)) × Unit) := match x with
  | ((l0, block1, release2, ()), ()) =>
    (right_20 N ((l0, block1, release2, ()), ())).bind fun y3 =>
    byB (!y3.1.1)
      (some ((0, 1, ()), ()))
      ((full_30 N ((l0, release2, ()), ())).bind fun y5 =>
        byB y5.1.1
          (some ((0, 12, ()), ()))
          (loopN N (Busy_14_L7 N) ((l0, block1, (), (), 0, ()), (release2, ()), (1, ()), ())))
theorem eq_Busy_14 (N : Nat) (x : (ap_Busy_14).den) : funX Try.prog (fs17 N) N lo_Busy_14 jo_Busy_14 Try.f14 ap_Busy_14 rp_Busy_14 x = Busy_14 N x := by kernel_rfl
noncomputable def sp_Busy_14 (N : Nat) : FSpec := specOf ap_Busy_14 rp_Busy_14 true (Busy_14 N)
theorem ok_Busy_14 (N : Nat) : FSound Try.prog 14 (sp_Busy_14 N) := funX_sound (N := N) (loops := lo_Busy_14) (joins := jo_Busy_14) (fsok17 N) Try.func14 (by kernel_rfl) (by kernel_rfl) fun x _ h => (eq_Busy_14 N x).trans h
noncomputable def fs18 (N : Nat) : FuncId → List V1 → List Blk → Option FSpec := fun g xs H => if g = 14 then some (sp_Busy_14 N) else fs17 N g xs H
theorem fsok18 (N : Nat) : ∀ g xs H sp, fs18 N g xs H = some sp → FSound Try.prog g sp := fun g xs H sp h => by
  unfold fs18 at h
  by_cases e : g = 14
  · rw [if_pos e] at h; subst e; cases h; exact ok_Busy_14 N
  · rw [if_neg e] at h; exact fsok17 N g xs H sp h
/-! Test_16 -/
abbrev ap_Test_16 : Pat := ⟨[.one (.ro (.pair (.int .i64) (.pair (.int .i64) (.pair (.int .i64) .bool)))), .one (.int .i64), .one (.int .i64)], []⟩
abbrev rp_Test_16 : List Pat := [⟨[.one (.int .i64)], []⟩]
def lo_Test_16 : List LSpec := [⟨5, [0, 1, 2, 7, 19, 20, 21], ⟨[.one (.ro (.pair (.int .i64) (.pair (.int .i64) (.pair (.int .i64) .bool)))), .one (.int .i64), .one (.int .i64), .one (.int .i64), .one (.ro (.pair (.int .i64) (.pair (.int .i64) (.pair (.int .i64) .bool)))), .one (.int .i64), .one (.int .i64)], []⟩⟩, ⟨16, [0, 1, 2, 7, 10, 45], ⟨[.one (.ro (.pair (.int .i64) (.pair (.int .i64) (.pair (.int .i64) .bool)))), .one (.int .i64), .one (.int .i64), .one (.int .i64), .one (.int .i64), .one (.int .i64)], []⟩⟩]
def jo_Test_16 : List LSpec := []
def Test_16_L16 (N : Nat) (again16 : ((List (Int × (Int × (Int × Bool))) × (Int × (Int × (Int × (Int × (Int × Unit)))))) × Unit) → Option ((Int × Unit) × Unit)) (x : ((List (Int × (Int × (Int × Bool))) × (Int × (Int × (Int × (Int × (Int × Unit)))))) × Unit)) : Option ((Int × Unit) × Unit) := match x with
  | ((l22, block23, release24, least25, t26, t27, ()), ()) =>
    byB (decide (t27 < 5000))
      (byB (decide (t26 < least25))
          (some ((0, ()), ()))
          ((Ask_11 N ((l22, block23, release24, t26, ()), ())).bind fun y30 =>
            byB (y30.1.2.1 != 0)
              (some ((y30.1.2.1, ()), ()))
              (byB (decide (y30.1.1 > t26))
                  (some ((12, ()), ()))
                  (byB (y30.1.1 == t26)
                      (again16 ((l22, block23, release24, least25, IntKind.wrap .i64 (t26 - 1), IntKind.wrap .i64 (t27 + 1), ()), ()))
                      (again16 ((l22, block23, release24, least25, y30.1.1, IntKind.wrap .i64 (t27 + 1), ()), ()))))))
      (some ((11, ()), ()))
def Test_16_L5 (N : Nat) (again5 : ((List (Int × (Int × (Int × Bool))) × (Int × (Int × (Int × (List (Int × (Int × (Int × Bool))) × (Int × (Int × Unit))))))) × Unit) → Option ((Int × Unit) × Unit)) (x : ((List (Int × (Int × (Int × Bool))) × (Int × (Int × (Int × (List (Int × (Int × (Int × Bool))) × (Int × (Int × Unit))))))) × Unit)) : Option ((Int × Unit) × Unit) := match x with
  | ((l6, block7, release8, least9, t10, t11, t12, ()), ()) =>
    byB (decide (t12 < t11))
      (if (0 ≤ t12) ∧ (t12 < (t10.length : Int)) then
        let e14 := t10.getD t12.toNat (0, 0, 0, false);
        byB (!e14.2.2.2)
          (again5 ((l6, block7, release8, if e14.2.2.1 < least9 then e14.2.2.1 else least9, t10, t11, IntKind.wrap .i64 (t12 + 1), ()), ()))
          (again5 ((l6, block7, release8, least9, t10, t11, IntKind.wrap .i64 (t12 + 1), ()), ()))
        else none)
      (byB (decide (least9 > 1099511627776))
          (some ((0, ()), ()))
          ((Busy_14 N ((l6, block7, release8, ()), ())).bind fun y20 =>
            byB (y20.1.2.1 != 0)
              (some ((y20.1.2.1, ()), ()))
              (loopN N (Test_16_L16 N) ((l6, block7, release8, least9, y20.1.1, 0, ()), ()))))
def Test_16 (N : Nat) (x : ((List (Int × (Int × (Int × Bool))) × (Int × (Int × Unit))) × Unit)) : Option ((Int × Unit) × Unit) := match x with
  | ((l0, block1, release2, ()), ()) =>
    (right_20 N ((l0, block1, release2, ()), ())).bind fun y3 =>
    byB (!y3.1.1)
      (some ((1, ()), ()))
      (loopN N (Test_16_L5 N) ((l0, block1, release2, 1099511627777, l0, (l0.length : Int), 0, ()), ()))
theorem eq_Test_16 (N : Nat) (x : (ap_Test_16).den) : funX Try.prog (fs18 N) N lo_Test_16 jo_Test_16 Try.f16 ap_Test_16 rp_Test_16 x = Test_16 N x := by kernel_rfl
noncomputable def sp_Test_16 (N : Nat) : FSpec := specOf ap_Test_16 rp_Test_16 true (Test_16 N)
theorem ok_Test_16 (N : Nat) : FSound Try.prog 16 (sp_Test_16 N) := funX_sound (N := N) (loops := lo_Test_16) (joins := jo_Test_16) (fsok18 N) Try.func16 (by kernel_rfl) (by kernel_rfl) fun x _ h => (eq_Test_16 N x).trans h
noncomputable def fs19 (N : Nat) : FuncId → List V1 → List Blk → Option FSpec := fun g xs H => if g = 16 then some (sp_Test_16 N) else fs18 N g xs H
theorem fsok19 (N : Nat) : ∀ g xs H sp, fs19 N g xs H = some sp → FSound Try.prog g sp := fun g xs H sp h => by
  unfold fs19 at h
  by_cases e : g = 16
  · rw [if_pos e] at h; subst e; cases h; exact ok_Test_16 N
  · rw [if_neg e] at h; exact fsok18 N g xs H sp h
/-! examples_10 -/
abbrev ap_examples_10 : Pat := ⟨[], []⟩
abbrev rp_examples_10 : List Pat := [⟨[.one (.bool)], []⟩]
def lo_examples_10 : List LSpec := []
def jo_examples_10 : List LSpec := []
def examples_10 (N : Nat) (x : (Unit × Unit)) : Option ((Bool × Unit) × Unit) := if 300 ≤ N then some ((true, ()), ()) else none
theorem eq_examples_10 (k : Nat) : funX Try.prog (fs19 (k + 300)) (k + 300) lo_examples_10 jo_examples_10 Try.f10 ap_examples_10 rp_examples_10 ((), ()) = some ((true, ()), ()) := by kernel_rfl
noncomputable def sp_examples_10 (N : Nat) : FSpec := specOf ap_examples_10 rp_examples_10 true (examples_10 N)
theorem ok_examples_10 (N : Nat) : FSound Try.prog 10 (sp_examples_10 N) := funX_sound (N := N) (loops := lo_examples_10) (joins := jo_examples_10) (fsok19 N) Try.func10 (by kernel_rfl) (by kernel_rfl) fun x _ h => by
  unfold examples_10 at h
  split at h
  · rename_i hN
    obtain ⟨k, rfl⟩ : ∃ k, N = k + 300 := ⟨N - 300, by omega⟩
    exact (eq_examples_10 k).trans h
  · cases h
noncomputable def fs20 (N : Nat) : FuncId → List V1 → List Blk → Option FSpec := fun g xs H => if g = 10 then some (sp_examples_10 N) else fs19 N g xs H
theorem fsok20 (N : Nat) : ∀ g xs H sp, fs20 N g xs H = some sp → FSound Try.prog g sp := fun g xs H sp h => by
  unfold fs20 at h
  by_cases e : g = 10
  · rw [if_pos e] at h; subst e; cases h; exact ok_examples_10 N
  · rw [if_neg e] at h; exact fsok19 N g xs H sp h
/-! works_13 -/
abbrev ap_works_13 : Pat := ⟨[.one (.ro (.pair (.int .i64) (.pair (.int .i64) (.pair (.int .i64) .bool))))], []⟩
abbrev rp_works_13 : List Pat := [⟨[.one (.full 0)], [.row 48 (.pair (.int .i64) (.pair (.int .i64) (.pair (.int .i64) .bool)))]⟩]
def lo_works_13 : List LSpec := [⟨3, [0, 3, 4], ⟨[.one (.ro (.pair (.int .i64) (.pair (.int .i64) (.pair (.int .i64) .bool)))), .one (.full 0), .one (.int .i64)], [.row 48 (.pair (.int .i64) (.pair (.int .i64) (.pair (.int .i64) .bool)))]⟩⟩]
def jo_works_13 : List LSpec := []
def works_13_L3 (N : Nat) (again3 : ((List (Int × (Int × (Int × Bool))) × (Unit × (Int × Unit))) × (List (Int × (Int × (Int × Bool))) × Unit)) → Option ((Unit × Unit) × (List (Int × (Int × (Int × Bool))) × Unit))) (x : ((List (Int × (Int × (Int × Bool))) × (Unit × (Int × Unit))) × (List (Int × (Int × (Int × Bool))) × Unit))) : Option ((Unit × Unit) × (List (Int × (Int × (Int × Bool))) × Unit)) := match x with
  | ((l1, _, i2, ()), l3, ()) =>
    byB (decide (i2 < (l1.length : Int)))
      (if (0 ≤ i2) ∧ (i2 < (l1.length : Int)) then
        (if (0 ≤ i2) ∧ (i2 < (l1.length : Int)) then
        (if (0 ≤ i2) ∧ (i2 < (l1.length : Int)) then
        (if (0 ≤ i2) ∧ (i2 < (l1.length : Int)) then
        (if (l3.length + 1) * 32 ≤ 140737488355328 then
        again3 ((l1, (), IntKind.wrap .i64 (i2 + 1), ()), l3 ++ [l1.getD i2.toNat (0, 0, 0, false)], ())
        else none)
        else none)
        else none)
        else none)
        else none)
      (some (((), ()), l3, ()))
def works_13 (N : Nat) (x : ((List (Int × (Int × (Int × Bool))) × Unit) × Unit)) : Option ((Unit × Unit) × (List (Int × (Int × (Int × Bool))) × Unit)) := match x with
  | ((l0, ()), ()) =>
    loopN N (works_13_L3 N) ((l0, (), 0, ()), [], ())
theorem eq_works_13 (N : Nat) (x : (ap_works_13).den) : funX Try.prog (fs20 N) N lo_works_13 jo_works_13 Try.f13 ap_works_13 rp_works_13 x = works_13 N x := by kernel_rfl
noncomputable def sp_works_13 (N : Nat) : FSpec := specOf ap_works_13 rp_works_13 true (works_13 N)
theorem ok_works_13 (N : Nat) : FSound Try.prog 13 (sp_works_13 N) := funX_sound (N := N) (loops := lo_works_13) (joins := jo_works_13) (fsok20 N) Try.func13 (by kernel_rfl) (by kernel_rfl) fun x _ h => (eq_works_13 N x).trans h
noncomputable def fs21 (N : Nat) : FuncId → List V1 → List Blk → Option FSpec := fun g xs H => if g = 13 then some (sp_works_13 N) else fs20 N g xs H
theorem fsok21 (N : Nat) : ∀ g xs H sp, fs21 N g xs H = some sp → FSound Try.prog g sp := fun g xs H sp h => by
  unfold fs21 at h
  by_cases e : g = 13
  · rw [if_pos e] at h; subst e; cases h; exact ok_works_13 N
  · rw [if_neg e] at h; exact fsok20 N g xs H sp h
/-! right_26 -/
abbrev ap_right_26 : Pat := ⟨[.one (.ro (.pair (.int .i64) (.pair (.int .i64) (.pair (.int .i64) .bool)))), .one (.int .i64), .one (.int .i64)], []⟩
abbrev rp_right_26 : List Pat := [⟨[.one (.bool)], []⟩]
def lo_right_26 : List LSpec := [⟨4, [0, 7], ⟨[.one (.ro (.pair (.int .i64) (.pair (.int .i64) (.pair (.int .i64) .bool)))), .one (.int .i64)], []⟩⟩]
def jo_right_26 : List LSpec := []
def right_26_L4 (N : Nat) (again4 : ((List (Int × (Int × (Int × Bool))) × (Int × Unit)) × Unit) → Option ((Bool × Unit) × Unit)) (x : ((List (Int × (Int × (Int × Bool))) × (Int × Unit)) × Unit)) : Option ((Bool × Unit) × Unit) := match x with
  | ((l9, i10, ()), ()) =>
    byB (decide (i10 < (l9.length : Int)))
      (if (0 ≤ i10) ∧ (i10 < (l9.length : Int)) then
        let e13 := l9.getD i10.toNat (0, 0, 0, false);
        byB (decide (e13.1 < 0))
          (some ((false, ()), ()))
          (byB (decide (e13.1 > 1099511627776))
              (some ((false, ()), ()))
              (byB (decide (e13.2.1 < 1))
                  (some ((false, ()), ()))
                  (byB (decide (e13.2.1 > 1099511627776))
                      (some ((false, ()), ()))
                      (byB (decide (e13.2.2.1 < 1))
                          (some ((false, ()), ()))
                          (byB (decide (e13.2.2.1 > 1099511627776))
                              (some ((false, ()), ()))
                              (again4 ((l9, IntKind.wrap .i64 (i10 + 1), ()), ())))))))
        else none)
      (some ((true, ()), ()))
def right_26 (N : Nat) (x : ((List (Int × (Int × (Int × Bool))) × (Int × (Int × Unit))) × Unit)) : Option ((Bool × Unit) × Unit) := match x with
  | ((l0, block1, release2, ()), ()) =>
    byB (decide ((l0.length : Int) > 72))
      (some ((false, ()), ()))
      (byB (decide (block1 < 0))
          (some ((false, ()), ()))
          (byB (decide (block1 > 1099511627776))
              (some ((false, ()), ()))
              (byB (decide (release2 < 0))
                  (some ((false, ()), ()))
                  (byB (decide (release2 > 1099511627776))
                      (some ((false, ()), ()))
                      (loopN N (right_26_L4 N) ((l0, 0, ()), ()))))))
theorem eq_right_26 (N : Nat) (x : (ap_right_26).den) : funX Try.prog (fs21 N) N lo_right_26 jo_right_26 Try.f26 ap_right_26 rp_right_26 x = right_26 N x := by kernel_rfl
noncomputable def sp_right_26 (N : Nat) : FSpec := specOf ap_right_26 rp_right_26 true (right_26 N)
theorem ok_right_26 (N : Nat) : FSound Try.prog 26 (sp_right_26 N) := funX_sound (N := N) (loops := lo_right_26) (joins := jo_right_26) (fsok21 N) Try.func26 (by kernel_rfl) (by kernel_rfl) fun x _ h => (eq_right_26 N x).trans h
noncomputable def fs22 (N : Nat) : FuncId → List V1 → List Blk → Option FSpec := fun g xs H => if g = 26 then some (sp_right_26 N) else fs21 N g xs H
theorem fsok22 (N : Nat) : ∀ g xs H sp, fs22 N g xs H = some sp → FSound Try.prog g sp := fun g xs H sp h => by
  unfold fs22 at h
  by_cases e : g = 26
  · rw [if_pos e] at h; subst e; cases h; exact ok_right_26 N
  · rw [if_neg e] at h; exact fsok21 N g xs H sp h
/-! up_28 -/
abbrev ap_up_28 : Pat := ⟨[.one (.int .i64), .one (.int .i64)], []⟩
abbrev rp_up_28 : List Pat := [⟨[.one (.int .i64)], []⟩]
def lo_up_28 : List LSpec := []
def jo_up_28 : List LSpec := []
def up_28 (N : Nat) (x : ((Int × (Int × Unit)) × Unit)) : Option ((Int × Unit) × Unit) := match x with
  | ((n0, d1, ()), ()) =>
    if d1 = 0 then
      none
    else
    let t2 := IntKind.wrap .i64 (Int.tdiv n0 d1);
    if d1 = 0 then
      none
    else
    byB (decide ((Int.tmod n0 d1) > 0))
      (some ((IntKind.wrap .i64 (t2 + 1), ()), ()))
      (some ((t2, ()), ()))
theorem eq_up_28 (N : Nat) (x : (ap_up_28).den) : funX Try.prog (fs22 N) N lo_up_28 jo_up_28 Try.f28 ap_up_28 rp_up_28 x = up_28 N x := by kernel_rfl
noncomputable def sp_up_28 (N : Nat) : FSpec := specOf ap_up_28 rp_up_28 true (up_28 N)
theorem ok_up_28 (N : Nat) : FSound Try.prog 28 (sp_up_28 N) := funX_sound (N := N) (loops := lo_up_28) (joins := jo_up_28) (fsok22 N) Try.func28 (by kernel_rfl) (by kernel_rfl) fun x _ h => (eq_up_28 N x).trans h
noncomputable def fs23 (N : Nat) : FuncId → List V1 → List Blk → Option FSpec := fun g xs H => if g = 28 then some (sp_up_28 N) else fs22 N g xs H
theorem fsok23 (N : Nat) : ∀ g xs H sp, fs23 N g xs H = some sp → FSound Try.prog g sp := fun g xs H sp h => by
  unfold fs23 at h
  by_cases e : g = 28
  · rw [if_pos e] at h; subst e; cases h; exact ok_up_28 N
  · rw [if_neg e] at h; exact fsok22 N g xs H sp h
/-! Add_27 -/
abbrev ap_Add_27 : Pat := ⟨[.one (.int .i64), .one (.int .i64)], []⟩
abbrev rp_Add_27 : List Pat := [⟨[.one (.int .i64), .one (.int .i64)], []⟩]
def lo_Add_27 : List LSpec := []
def jo_Add_27 : List LSpec := []
def Add_27 (N : Nat) (x : ((Int × (Int × Unit)) × Unit)) : Option ((Int × (Int × Unit)) × Unit) := match x with
  | ((a0, b1, ()), ()) =>
    byB (decide (b1 > 0))
      (byB (decide (a0 > (IntKind.wrap .i64 (9223372036854775807 - b1))))
          (some ((0, 2, ()), ()))
          (byB (decide (b1 < 0))
              (byB (decide (a0 < (IntKind.wrap .i64 ((-9223372036854775808) - b1))))
                  (some ((0, 2, ()), ()))
                  (some ((IntKind.wrap .i64 (a0 + b1), 0, ()), ())))
              (some ((IntKind.wrap .i64 (a0 + b1), 0, ()), ()))))
      (byB (decide (b1 < 0))
          (byB (decide (a0 < (IntKind.wrap .i64 ((-9223372036854775808) - b1))))
              (some ((0, 2, ()), ()))
              (some ((IntKind.wrap .i64 (a0 + b1), 0, ()), ())))
          (some ((IntKind.wrap .i64 (a0 + b1), 0, ()), ())))
theorem eq_Add_27 (N : Nat) (x : (ap_Add_27).den) : funX Try.prog (fs23 N) N lo_Add_27 jo_Add_27 Try.f27 ap_Add_27 rp_Add_27 x = Add_27 N x := by kernel_rfl
noncomputable def sp_Add_27 (N : Nat) : FSpec := specOf ap_Add_27 rp_Add_27 true (Add_27 N)
theorem ok_Add_27 (N : Nat) : FSound Try.prog 27 (sp_Add_27 N) := funX_sound (N := N) (loops := lo_Add_27) (joins := jo_Add_27) (fsok23 N) Try.func27 (by kernel_rfl) (by kernel_rfl) fun x _ h => (eq_Add_27 N x).trans h
noncomputable def fs24 (N : Nat) : FuncId → List V1 → List Blk → Option FSpec := fun g xs H => if g = 27 then some (sp_Add_27 N) else fs23 N g xs H
theorem fsok24 (N : Nat) : ∀ g xs H sp, fs24 N g xs H = some sp → FSound Try.prog g sp := fun g xs H sp h => by
  unfold fs24 at h
  by_cases e : g = 27
  · rw [if_pos e] at h; subst e; cases h; exact ok_Add_27 N
  · rw [if_neg e] at h; exact fsok23 N g xs H sp h
/-! Mul_38 -/
abbrev ap_Mul_38 : Pat := ⟨[.one (.int .i64), .one (.int .i64)], []⟩
abbrev rp_Mul_38 : List Pat := [⟨[.one (.int .i64), .one (.int .i64)], []⟩]
def lo_Mul_38 : List LSpec := []
def jo_Mul_38 : List LSpec := [⟨2, [0, 1, 12], ⟨[.one (.int .i64), .one (.int .i64), .one (.bool)], []⟩⟩, ⟨4, [0, 1, 26], ⟨[.one (.int .i64), .one (.int .i64), .one (.bool)], []⟩⟩, ⟨5, [0, 1], ⟨[.one (.int .i64), .one (.int .i64)], []⟩⟩]
def Mul_38_J4 (N : Nat) (join5 : ((Int × (Int × Unit)) × Unit) → Option ((Int × (Int × Unit)) × Unit)) (x : ((Int × (Int × (Bool × Unit))) × Unit)) : Option ((Int × (Int × Unit)) × Unit) := match x with
  | ((a13, b14, t15, ()), ()) =>
    byB t15
      (some ((0, 2, ()), ()))
      (join5 ((a13, b14, ()), ()))
def Mul_38_J5 (N : Nat) (x : ((Int × (Int × Unit)) × Unit)) : Option ((Int × (Int × Unit)) × Unit) := match x with
  | ((a16, b17, ()), ()) =>
    let t18 := IntKind.wrap .i64 (a16 * b17);
    if b17 = 0 then
      none
    else
    byB ((IntKind.wrap .i64 (Int.tdiv t18 b17)) != a16)
      (some ((0, 2, ()), ()))
      (if a16 = 0 then
          none
        else
        byB ((IntKind.wrap .i64 (Int.tdiv t18 a16)) != b17)
          (some ((0, 2, ()), ()))
          (some ((t18, 0, ()), ())))
def Mul_38_J2 (N : Nat) (x : ((Int × (Int × (Bool × Unit))) × Unit)) : Option ((Int × (Int × Unit)) × Unit) := match x with
  | ((a4, b5, t6, ()), ()) =>
    byB t6
      (some ((0, 0, ()), ()))
      (withJoin (Mul_38_J5 N) fun join5 =>
        withJoin (Mul_38_J4 N join5) fun join4 =>
        byB (a4 == (-1))
          (byB (b5 == (-9223372036854775808))
              (join4 ((a4, b5, true, ()), ()))
              (byB (b5 == (-1))
                  (join4 ((a4, b5, a4 == (-9223372036854775808), ()), ()))
                  (join4 ((a4, b5, false, ()), ()))))
          (byB (b5 == (-1))
              (join4 ((a4, b5, a4 == (-9223372036854775808), ()), ()))
              (join4 ((a4, b5, false, ()), ()))))
def Mul_38 (N : Nat) (x : ((Int × (Int × Unit)) × Unit)) : Option ((Int × (Int × Unit)) × Unit) := match x with
  | ((a0, b1, ()), ()) =>
    withJoin (Mul_38_J2 N) fun join2 =>
    byB (a0 == 0)
      (join2 ((a0, b1, true, ()), ()))
      (join2 ((a0, b1, b1 == 0, ()), ()))
theorem eq_Mul_38 (N : Nat) (x : (ap_Mul_38).den) : funX Try.prog (fs24 N) N lo_Mul_38 jo_Mul_38 Try.f38 ap_Mul_38 rp_Mul_38 x = Mul_38 N x := by kernel_rfl
noncomputable def sp_Mul_38 (N : Nat) : FSpec := specOf ap_Mul_38 rp_Mul_38 true (Mul_38 N)
theorem ok_Mul_38 (N : Nat) : FSound Try.prog 38 (sp_Mul_38 N) := funX_sound (N := N) (loops := lo_Mul_38) (joins := jo_Mul_38) (fsok24 N) Try.func38 (by kernel_rfl) (by kernel_rfl) fun x _ h => (eq_Mul_38 N x).trans h
noncomputable def fs25 (N : Nat) : FuncId → List V1 → List Blk → Option FSpec := fun g xs H => if g = 38 then some (sp_Mul_38 N) else fs24 N g xs H
theorem fsok25 (N : Nat) : ∀ g xs H sp, fs25 N g xs H = some sp → FSound Try.prog g sp := fun g xs H sp h => by
  unfold fs25 at h
  by_cases e : g = 38
  · rw [if_pos e] at h; subst e; cases h; exact ok_Mul_38 N
  · rw [if_neg e] at h; exact fsok24 N g xs H sp h
/-! times_29 -/
abbrev ap_times_29 : Pat := ⟨[.one (.int .i64), .one (.int .i64), .one (.int .i64)], []⟩
abbrev rp_times_29 : List Pat := [⟨[.one (.int .i64), .one (.int .i64)], []⟩]
def lo_times_29 : List LSpec := []
def jo_times_29 : List LSpec := []
def times_29 (N : Nat) (x : ((Int × (Int × (Int × Unit))) × Unit)) : Option ((Int × (Int × Unit)) × Unit) := match x with
  | ((sum0, many1, work2, ()), ()) =>
    (Mul_38 N ((many1, work2, ()), ())).bind fun y3 =>
    byB (y3.1.2.1 != 0)
      (some ((0, y3.1.2.1, ()), ()))
      ((Add_27 N ((sum0, y3.1.1, ()), ())).bind fun y5 =>
        some ((y5.1.1, y5.1.2.1, ()), ()))
theorem eq_times_29 (N : Nat) (x : (ap_times_29).den) : funX Try.prog (fs25 N) N lo_times_29 jo_times_29 Try.f29 ap_times_29 rp_times_29 x = times_29 N x := by kernel_rfl
noncomputable def sp_times_29 (N : Nat) : FSpec := specOf ap_times_29 rp_times_29 true (times_29 N)
theorem ok_times_29 (N : Nat) : FSound Try.prog 29 (sp_times_29 N) := funX_sound (N := N) (loops := lo_times_29) (joins := jo_times_29) (fsok25 N) Try.func29 (by kernel_rfl) (by kernel_rfl) fun x _ h => (eq_times_29 N x).trans h
noncomputable def fs26 (N : Nat) : FuncId → List V1 → List Blk → Option FSpec := fun g xs H => if g = 29 then some (sp_times_29 N) else fs25 N g xs H
theorem fsok26 (N : Nat) : ∀ g xs H sp, fs26 N g xs H = some sp → FSound Try.prog g sp := fun g xs H sp h => by
  unfold fs26 at h
  by_cases e : g = 29
  · rw [if_pos e] at h; subst e; cases h; exact ok_times_29 N
  · rw [if_neg e] at h; exact fsok25 N g xs H sp h
/-! Ask_12 -/
abbrev ap_Ask_12 : Pat := ⟨[.one (.ro (.pair (.int .i64) (.pair (.int .i64) (.pair (.int .i64) .bool)))), .one (.int .i64), .one (.int .i64), .one (.int .i64)], []⟩
abbrev rp_Ask_12 : List Pat := [⟨[.one (.int .i64), .one (.int .i64)], []⟩]
def lo_Ask_12 : List LSpec := [⟨7, [0, 2, 3, 11, 12, 13], ⟨[.one (.ro (.pair (.int .i64) (.pair (.int .i64) (.pair (.int .i64) .bool)))), .one (.int .i64), .one (.int .i64), .one (.int .i64), .one (.int .i64), .one (.int .i64)], []⟩⟩]
def jo_Ask_12 : List LSpec := [⟨17, [0, 2, 3, 11, 12, 13, 14, 35, 36], ⟨[.one (.ro (.pair (.int .i64) (.pair (.int .i64) (.pair (.int .i64) .bool)))), .one (.int .i64), .one (.int .i64), .one (.int .i64), .one (.int .i64), .one (.int .i64), .one (.ptr 0 0), .one (.int .i64), .one (.bool)], [.var 48 [.int .i64, .int .i64, .int .i64, .bool]]⟩⟩]
def Ask_12_J17 (N : Nat) (again7 : ((List (Int × (Int × (Int × Bool))) × (Int × (Int × (Int × (Int × (Int × Unit)))))) × Unit) → Option ((Int × (Int × Unit)) × Unit)) (x : ((List (Int × (Int × (Int × Bool))) × (Int × (Int × (Int × (Int × (Int × (Unit × (Int × (Bool × Unit))))))))) × ((Int × (Int × (Int × (Bool × Unit)))) × Unit))) : Option ((Int × (Int × Unit)) × Unit) := match x with
  | ((l26, release27, t28, sum29, e30, i31, _, t32, t33, ()), (c34, c35, c36, c37, ()), ()) =>
    byB (e30 == 0)
      ((up_28 N ((t28, c35, ()), ())).bind fun y39 =>
        (Add_27 N ((y39.1.1, 2, ()), ())).bind fun y40 =>
        byB (y40.1.2.1 == 0)
          ((times_29 N ((sum29, y40.1.1, release27, ()), ())).bind fun y42 =>
            again7 ((l26, release27, t28, y42.1.1, y42.1.2.1, IntKind.wrap .i64 (i31 + 1), ()), ()))
          (again7 ((l26, release27, t28, sum29, y40.1.2.1, IntKind.wrap .i64 (i31 + 1), ()), ())))
      (again7 ((l26, release27, t28, sum29, e30, IntKind.wrap .i64 (i31 + 1), ()), ()))
def Ask_12_L7 (N : Nat) (again7 : ((List (Int × (Int × (Int × Bool))) × (Int × (Int × (Int × (Int × (Int × Unit)))))) × Unit) → Option ((Int × (Int × Unit)) × Unit)) (x : ((List (Int × (Int × (Int × Bool))) × (Int × (Int × (Int × (Int × (Int × Unit)))))) × Unit)) : Option ((Int × (Int × Unit)) × Unit) := match x with
  | ((l7, release8, t9, sum10, e11, i12, ()), ()) =>
    byB (decide (i12 < (l7.length : Int)))
      (let t15 := e11 == 0;
        byB t15
          (if (0 ≤ i12) ∧ (i12 < (l7.length : Int)) then
            let e16 := l7.getD i12.toNat (0, 0, 0, false);
            withJoin (Ask_12_J17 N again7) fun join17 =>
            byB e16.2.2.2
              ((up_28 N ((t9, e16.2.1, ()), ())).bind fun y17 =>
                (Add_27 N ((y17.1.1, 1, ()), ())).bind fun y18 =>
                byB (y18.1.2.1 == 0)
                  ((times_29 N ((sum10, y18.1.1, e16.1, ()), ())).bind fun y20 =>
                    join17 ((l7, release8, t9, y20.1.1, y20.1.2.1, i12, (), e11, t15, ()), (e16.1, e16.2.1, e16.2.2.1, e16.2.2.2, ()), ()))
                  (join17 ((l7, release8, t9, sum10, y18.1.2.1, i12, (), e11, t15, ()), (e16.1, e16.2.1, e16.2.2.1, e16.2.2.2, ()), ())))
              (byB (decide (t9 ≥ e16.2.2.1))
                  (if e16.2.1 = 0 then
                      none
                    else
                    (times_29 N ((sum10, IntKind.wrap .i64 ((IntKind.wrap .i64 (Int.tdiv (IntKind.wrap .i64 (t9 - e16.2.2.1)) e16.2.1)) + 1), e16.1, ()), ())).bind fun y25 =>
                    join17 ((l7, release8, t9, y25.1.1, y25.1.2.1, i12, (), e11, t15, ()), (e16.1, e16.2.1, e16.2.2.1, e16.2.2.2, ()), ()))
                  (join17 ((l7, release8, t9, sum10, e11, i12, (), e11, t15, ()), (e16.1, e16.2.1, e16.2.2.1, e16.2.2.2, ()), ())))
            else none)
          (byB (e11 != 0)
              (some ((0, e11, ()), ()))
              (some ((sum10, 0, ()), ()))))
      (byB (e11 != 0)
          (some ((0, e11, ()), ()))
          (some ((sum10, 0, ()), ())))
def Ask_12 (N : Nat) (x : ((List (Int × (Int × (Int × Bool))) × (Int × (Int × (Int × Unit)))) × Unit)) : Option ((Int × (Int × Unit)) × Unit) := match x with
  | ((l0, block1, release2, t3, ()), ()) =>
    (right_26 N ((l0, block1, release2, ()), ())).bind fun y4 =>
    byB (!y4.1.1)
      (some ((0, 1, ()), ()))
      (byB (decide (t3 < 1))
          (some ((0, 1, ()), ()))
          (loopN N (Ask_12_L7 N) ((l0, release2, t3, block1, 0, 0, ()), ())))
theorem eq_Ask_12 (N : Nat) (x : (ap_Ask_12).den) : funX Try.prog (fs26 N) N lo_Ask_12 jo_Ask_12 Try.f12 ap_Ask_12 rp_Ask_12 x = Ask_12 N x := by kernel_rfl
noncomputable def sp_Ask_12 (N : Nat) : FSpec := specOf ap_Ask_12 rp_Ask_12 true (Ask_12 N)
theorem ok_Ask_12 (N : Nat) : FSound Try.prog 12 (sp_Ask_12 N) := funX_sound (N := N) (loops := lo_Ask_12) (joins := jo_Ask_12) (fsok26 N) Try.func12 (by kernel_rfl) (by kernel_rfl) fun x _ h => (eq_Ask_12 N x).trans h
noncomputable def fs27 (N : Nat) : FuncId → List V1 → List Blk → Option FSpec := fun g xs H => if g = 12 then some (sp_Ask_12 N) else fs26 N g xs H
theorem fsok27 (N : Nat) : ∀ g xs H sp, fs27 N g xs H = some sp → FSound Try.prog g sp := fun g xs H sp h => by
  unfold fs27 at h
  by_cases e : g = 12
  · rw [if_pos e] at h; subst e; cases h; exact ok_Ask_12 N
  · rw [if_neg e] at h; exact fsok26 N g xs H sp h
/-! DemandAsks_3 -/
abbrev ap_DemandAsks_3 : Pat := ⟨[.one (.ro (.pair (.int .i64) (.pair (.int .i64) (.pair (.int .i64) .bool)))), .one (.int .i64), .one (.int .i64), .one (.int .i64)], []⟩
abbrev rp_DemandAsks_3 : List Pat := [⟨[.one (.bool)], []⟩]
def lo_DemandAsks_3 : List LSpec := []
def jo_DemandAsks_3 : List LSpec := []
def DemandAsks_3 (N : Nat) (x : ((List (Int × (Int × (Int × Bool))) × (Int × (Int × (Int × Unit)))) × Unit)) : Option ((Bool × Unit) × Unit) := match x with
  | ((l0, block1, release2, t3, ()), ()) =>
    (examples_10 N ((), ())).bind fun y4 =>
    (Ask_11 N ((l0, block1, release2, t3, ()), ())).bind fun y5 =>
    (works_13 N ((l0, ()), ())).bind fun y6 =>
    (Ask_12 N ((y6.2.1, block1, release2, t3, ()), ())).bind fun y7 =>
    byB y4.1.1
      (byB (y5.1.1 == y7.1.1)
          (some ((y5.1.2.1 == y7.1.2.1, ()), ()))
          (some ((false, ()), ())))
      (some ((false, ()), ()))
theorem eq_DemandAsks_3 (N : Nat) (x : (ap_DemandAsks_3).den) : funX Try.prog (fs27 N) N lo_DemandAsks_3 jo_DemandAsks_3 Try.f3 ap_DemandAsks_3 rp_DemandAsks_3 x = DemandAsks_3 N x := by kernel_rfl
noncomputable def sp_DemandAsks_3 (N : Nat) : FSpec := specOf ap_DemandAsks_3 rp_DemandAsks_3 true (DemandAsks_3 N)
theorem ok_DemandAsks_3 (N : Nat) : FSound Try.prog 3 (sp_DemandAsks_3 N) := funX_sound (N := N) (loops := lo_DemandAsks_3) (joins := jo_DemandAsks_3) (fsok27 N) Try.func3 (by kernel_rfl) (by kernel_rfl) fun x _ h => (eq_DemandAsks_3 N x).trans h
noncomputable def fs28 (N : Nat) : FuncId → List V1 → List Blk → Option FSpec := fun g xs H => if g = 3 then some (sp_DemandAsks_3 N) else fs27 N g xs H
theorem fsok28 (N : Nat) : ∀ g xs H sp, fs28 N g xs H = some sp → FSound Try.prog g sp := fun g xs H sp h => by
  unfold fs28 at h
  by_cases e : g = 3
  · rw [if_pos e] at h; subst e; cases h; exact ok_DemandAsks_3 N
  · rw [if_neg e] at h; exact fsok27 N g xs H sp h
/-! plus_42 -/
abbrev ap_plus_42 : Pat := ⟨[.one (.int .i64), .one (.int .i64), .one (.int .i64)], []⟩
abbrev rp_plus_42 : List Pat := [⟨[.one (.int .i64), .one (.int .i64)], []⟩]
def lo_plus_42 : List LSpec := []
def jo_plus_42 : List LSpec := []
def plus_42 (N : Nat) (x : ((Int × (Int × (Int × Unit))) × Unit)) : Option ((Int × (Int × Unit)) × Unit) := match x with
  | ((r0, s1, c2, ()), ()) =>
    byB (decide (r0 ≥ (IntKind.wrap .i64 (c2 - s1))))
      (some ((IntKind.wrap .i64 (r0 - (IntKind.wrap .i64 (c2 - s1))), 1, ()), ()))
      (some ((IntKind.wrap .i64 (r0 + s1), 0, ()), ()))
theorem eq_plus_42 (N : Nat) (x : (ap_plus_42).den) : funX Try.prog (fs28 N) N lo_plus_42 jo_plus_42 Try.f42 ap_plus_42 rp_plus_42 x = plus_42 N x := by kernel_rfl
noncomputable def sp_plus_42 (N : Nat) : FSpec := specOf ap_plus_42 rp_plus_42 true (plus_42 N)
theorem ok_plus_42 (N : Nat) : FSound Try.prog 42 (sp_plus_42 N) := funX_sound (N := N) (loops := lo_plus_42) (joins := jo_plus_42) (fsok28 N) Try.func42 (by kernel_rfl) (by kernel_rfl) fun x _ h => (eq_plus_42 N x).trans h
noncomputable def fs29 (N : Nat) : FuncId → List V1 → List Blk → Option FSpec := fun g xs H => if g = 42 then some (sp_plus_42 N) else fs28 N g xs H
theorem fsok29 (N : Nat) : ∀ g xs H sp, fs29 N g xs H = some sp → FSound Try.prog g sp := fun g xs H sp h => by
  unfold fs29 at h
  by_cases e : g = 42
  · rw [if_pos e] at h; subst e; cases h; exact ok_plus_42 N
  · rw [if_neg e] at h; exact fsok28 N g xs H sp h
/-! MulDiv_40 -/
abbrev ap_MulDiv_40 : Pat := ⟨[.one (.int .i64), .one (.int .i64), .one (.int .i64), .one (.bool)], []⟩
abbrev rp_MulDiv_40 : List Pat := [⟨[.one (.int .i64), .one (.int .i64)], []⟩]
def lo_MulDiv_40 : List LSpec := [⟨6, [0, 1, 2, 3, 10, 11, 12], ⟨[.one (.int .i64), .one (.int .i64), .one (.int .i64), .one (.bool), .one (.int .i64), .one (.int .i64), .one (.int .i64)], []⟩⟩]
def jo_MulDiv_40 : List LSpec := []
def MulDiv_40_L6 (N : Nat) (again6 : ((Int × (Int × (Int × (Bool × (Int × (Int × (Int × Unit))))))) × Unit) → Option ((Int × (Int × Unit)) × Unit)) (x : ((Int × (Int × (Int × (Bool × (Int × (Int × (Int × Unit))))))) × Unit)) : Option ((Int × (Int × Unit)) × Unit) := match x with
  | ((a7, b8, c9, up10, q11, r12, k13, ()), ()) =>
    byB (decide (k13 ≥ 0))
      (byB (decide (q11 > 4611686018427387903))
          (some ((0, 2, ()), ()))
          ((plus_42 N ((r12, r12, c9, ()), ())).bind fun y16 =>
            (Add_27 N ((IntKind.wrap .i64 (q11 + q11), y16.1.2.1, ()), ())).bind fun y18 =>
            byB (y18.1.2.1 != 0)
              (some ((0, y18.1.2.1, ()), ()))
              (if k13 < 0 then
                  none
                else
                byB ((Int.tmod (Int.fdiv a7 (2 ^ (min k13.toNat (IntKind.bits .i64)))) 2) == 1)
                  (if c9 = 0 then
                      none
                    else
                    (plus_42 N ((y16.1.1, Int.tmod b8 c9, c9, ()), ())).bind fun y24 =>
                    if c9 = 0 then
                      none
                    else
                    (Add_27 N ((y18.1.1, IntKind.wrap .i64 (Int.tdiv b8 c9), ()), ())).bind fun y26 =>
                    byB (y26.1.2.1 == 0)
                      ((Add_27 N ((y26.1.1, y24.1.2.1, ()), ())).bind fun y28 =>
                        byB (y28.1.2.1 != 0)
                          (some ((0, y28.1.2.1, ()), ()))
                          (again6 ((a7, b8, c9, up10, y28.1.1, y24.1.1, IntKind.wrap .i64 (k13 - 1), ()), ())))
                      (byB (y26.1.2.1 != 0)
                          (some ((0, y26.1.2.1, ()), ()))
                          (again6 ((a7, b8, c9, up10, y26.1.1, y24.1.1, IntKind.wrap .i64 (k13 - 1), ()), ()))))
                  (again6 ((a7, b8, c9, up10, y18.1.1, y16.1.1, IntKind.wrap .i64 (k13 - 1), ()), ())))))
      (byB up10
          (byB (decide (r12 > 0))
              ((Add_27 N ((q11, 1, ()), ())).bind fun y35 =>
                some ((y35.1.1, y35.1.2.1, ()), ()))
              (some ((q11, 0, ()), ())))
          (some ((q11, 0, ()), ())))
def MulDiv_40 (N : Nat) (x : ((Int × (Int × (Int × (Bool × Unit)))) × Unit)) : Option ((Int × (Int × Unit)) × Unit) := match x with
  | ((a0, b1, c2, up3, ()), ()) =>
    byB (decide (a0 < 0))
      (some ((0, 1, ()), ()))
      (byB (decide (b1 < 0))
          (some ((0, 1, ()), ()))
          (byB (decide (c2 ≤ 0))
              (some ((0, 1, ()), ()))
              (loopN N (MulDiv_40_L6 N) ((a0, b1, c2, up3, 0, 0, 62, ()), ()))))
theorem eq_MulDiv_40 (N : Nat) (x : (ap_MulDiv_40).den) : funX Try.prog (fs29 N) N lo_MulDiv_40 jo_MulDiv_40 Try.f40 ap_MulDiv_40 rp_MulDiv_40 x = MulDiv_40 N x := by kernel_rfl
noncomputable def sp_MulDiv_40 (N : Nat) : FSpec := specOf ap_MulDiv_40 rp_MulDiv_40 true (MulDiv_40 N)
theorem ok_MulDiv_40 (N : Nat) : FSound Try.prog 40 (sp_MulDiv_40 N) := funX_sound (N := N) (loops := lo_MulDiv_40) (joins := jo_MulDiv_40) (fsok29 N) Try.func40 (by kernel_rfl) (by kernel_rfl) fun x _ h => (eq_MulDiv_40 N x).trans h
noncomputable def fs30 (N : Nat) : FuncId → List V1 → List Blk → Option FSpec := fun g xs H => if g = 40 then some (sp_MulDiv_40 N) else fs29 N g xs H
theorem fsok30 (N : Nat) : ∀ g xs H sp, fs30 N g xs H = some sp → FSound Try.prog g sp := fun g xs H sp h => by
  unfold fs30 at h
  by_cases e : g = 40
  · rw [if_pos e] at h; subst e; cases h; exact ok_MulDiv_40 N
  · rw [if_neg e] at h; exact fsok29 N g xs H sp h
/-! Load_32 -/
abbrev ap_Load_32 : Pat := ⟨[.one (.ro (.int .i64)), .one (.ro (.int .i64))], []⟩
abbrev rp_Load_32 : List Pat := [⟨[.one (.int .i64), .one (.int .i64)], []⟩]
def lo_Load_32 : List LSpec := [⟨4, [0, 1, 6], ⟨[.one (.ro (.int .i64)), .one (.ro (.int .i64)), .one (.int .i64)], []⟩⟩, ⟨10, [0, 1, 7, 8], ⟨[.one (.ro (.int .i64)), .one (.ro (.int .i64)), .one (.int .i64), .one (.int .i64)], []⟩⟩]
def jo_Load_32 : List LSpec := []
def Load_32_L10 (N : Nat) (again10 : ((List Int × (List Int × (Int × (Int × Unit)))) × Unit) → Option ((Int × (Int × Unit)) × Unit)) (x : ((List Int × (List Int × (Int × (Int × Unit)))) × Unit)) : Option ((Int × (Int × Unit)) × Unit) := match x with
  | ((work15, time16, sum17, i18, ()), ()) =>
    byB (decide (i18 < (work15.length : Int)))
      (if (0 ≤ i18) ∧ (i18 < (work15.length : Int)) then
        (if (0 ≤ i18) ∧ (i18 < (time16.length : Int)) then
        (MulDiv_40 N ((work15.getD i18.toNat 0, 4294967296, time16.getD i18.toNat 0, true, ()), ())).bind fun y23 =>
        byB (y23.1.2.1 == 0)
          ((Add_27 N ((sum17, y23.1.1, ()), ())).bind fun y25 =>
            byB (y25.1.2.1 != 0)
              (some ((0, y25.1.2.1, ()), ()))
              (again10 ((work15, time16, y25.1.1, IntKind.wrap .i64 (i18 + 1), ()), ())))
          (byB (y23.1.2.1 != 0)
              (some ((0, y23.1.2.1, ()), ()))
              (again10 ((work15, time16, sum17, IntKind.wrap .i64 (i18 + 1), ()), ())))
        else none)
        else none)
      (some ((sum17, 0, ()), ()))
def Load_32_L4 (N : Nat) (again4 : ((List Int × (List Int × (Int × Unit))) × Unit) → Option ((Int × (Int × Unit)) × Unit)) (x : ((List Int × (List Int × (Int × Unit))) × Unit)) : Option ((Int × (Int × Unit)) × Unit) := match x with
  | ((work5, time6, i7, ()), ()) =>
    byB (decide (i7 < (work5.length : Int)))
      (if (0 ≤ i7) ∧ (i7 < (work5.length : Int)) then
        byB (decide ((work5.getD i7.toNat 0) < 0))
          (some ((0, 1, ()), ()))
          (if (0 ≤ i7) ∧ (i7 < (time6.length : Int)) then
            byB (decide ((time6.getD i7.toNat 0) ≤ 0))
              (some ((0, 1, ()), ()))
              (again4 ((work5, time6, IntKind.wrap .i64 (i7 + 1), ()), ()))
            else none)
        else none)
      (loopN N (Load_32_L10 N) ((work5, time6, 0, 0, ()), ()))
def Load_32 (N : Nat) (x : ((List Int × (List Int × Unit)) × Unit)) : Option ((Int × (Int × Unit)) × Unit) := match x with
  | ((work0, time1, ()), ()) =>
    byB ((work0.length : Int) != (time1.length : Int))
      (some ((0, 1, ()), ()))
      (loopN N (Load_32_L4 N) ((work0, time1, 0, ()), ()))
theorem eq_Load_32 (N : Nat) (x : (ap_Load_32).den) : funX Try.prog (fs30 N) N lo_Load_32 jo_Load_32 Try.f32 ap_Load_32 rp_Load_32 x = Load_32 N x := by kernel_rfl
noncomputable def sp_Load_32 (N : Nat) : FSpec := specOf ap_Load_32 rp_Load_32 true (Load_32 N)
theorem ok_Load_32 (N : Nat) : FSound Try.prog 32 (sp_Load_32 N) := funX_sound (N := N) (loops := lo_Load_32) (joins := jo_Load_32) (fsok30 N) Try.func32 (by kernel_rfl) (by kernel_rfl) fun x _ h => (eq_Load_32 N x).trans h
noncomputable def fs31 (N : Nat) : FuncId → List V1 → List Blk → Option FSpec := fun g xs H => if g = 32 then some (sp_Load_32 N) else fs30 N g xs H
theorem fsok31 (N : Nat) : ∀ g xs H sp, fs31 N g xs H = some sp → FSound Try.prog g sp := fun g xs H sp h => by
  unfold fs31 at h
  by_cases e : g = 32
  · rw [if_pos e] at h; subst e; cases h; exact ok_Load_32 N
  · rw [if_neg e] at h; exact fsok30 N g xs H sp h
/-! comes_33 -/
abbrev ap_comes_33 : Pat := ⟨[.one (.ro (.pair (.int .i64) (.pair (.int .i64) (.pair (.int .i64) .bool)))), .one (.int .i64), .one (.int .i64), .one (.int .i64)], []⟩
abbrev rp_comes_33 : List Pat := [⟨[.one (.int .i64), .one (.int .i64)], []⟩]
def lo_comes_33 : List LSpec := [⟨4, [0, 2, 3, 10, 11, 12], ⟨[.one (.ro (.pair (.int .i64) (.pair (.int .i64) (.pair (.int .i64) .bool)))), .one (.int .i64), .one (.int .i64), .one (.int .i64), .one (.int .i64), .one (.int .i64)], []⟩⟩]
def jo_comes_33 : List LSpec := []
def comes_33_L4 (N : Nat) (again4 : ((List (Int × (Int × (Int × Bool))) × (Int × (Int × (Int × (Int × (Int × Unit)))))) × Unit) → Option ((Int × (Int × Unit)) × Unit)) (x : ((List (Int × (Int × (Int × Bool))) × (Int × (Int × (Int × (Int × (Int × Unit)))))) × Unit)) : Option ((Int × (Int × Unit)) × Unit) := match x with
  | ((l4, release5, n6, sum7, e8, i9, ()), ()) =>
    byB (decide (i9 < (l4.length : Int)))
      (byB (e8 == 0)
          (if (0 ≤ i9) ∧ (i9 < (l4.length : Int)) then
            (up_28 N ((n6, (l4.getD i9.toNat (0, 0, 0, false)).2.1, ()), ())).bind fun y14 =>
            (Add_27 N ((y14.1.1, 2, ()), ())).bind fun y15 =>
            byB (y15.1.2.1 != 0)
              (some ((0, y15.1.2.1, ()), ()))
              (if (0 ≤ i9) ∧ (i9 < (l4.length : Int)) then
                (times_29 N ((sum7, IntKind.wrap .i64 (y15.1.1 - 1), (l4.getD i9.toNat (0, 0, 0, false)).1, ()), ())).bind fun y19 =>
                byB (y19.1.2.1 == 0)
                  ((times_29 N ((y19.1.1, y15.1.1, release5, ()), ())).bind fun y21 =>
                    again4 ((l4, release5, n6, y21.1.1, y21.1.2.1, IntKind.wrap .i64 (i9 + 1), ()), ()))
                  (again4 ((l4, release5, n6, y19.1.1, y19.1.2.1, IntKind.wrap .i64 (i9 + 1), ()), ()))
                else none)
            else none)
          (byB (e8 != 0)
              (some ((0, e8, ()), ()))
              (some ((sum7, 0, ()), ()))))
      (byB (e8 != 0)
          (some ((0, e8, ()), ()))
          (some ((sum7, 0, ()), ())))
def comes_33 (N : Nat) (x : ((List (Int × (Int × (Int × Bool))) × (Int × (Int × (Int × Unit)))) × Unit)) : Option ((Int × (Int × Unit)) × Unit) := match x with
  | ((l0, block1, release2, n3, ()), ()) =>
    loopN N (comes_33_L4 N) ((l0, release2, n3, block1, 0, 0, ()), ())
theorem eq_comes_33 (N : Nat) (x : (ap_comes_33).den) : funX Try.prog (fs31 N) N lo_comes_33 jo_comes_33 Try.f33 ap_comes_33 rp_comes_33 x = comes_33 N x := by kernel_rfl
noncomputable def sp_comes_33 (N : Nat) : FSpec := specOf ap_comes_33 rp_comes_33 true (comes_33 N)
theorem ok_comes_33 (N : Nat) : FSound Try.prog 33 (sp_comes_33 N) := funX_sound (N := N) (loops := lo_comes_33) (joins := jo_comes_33) (fsok31 N) Try.func33 (by kernel_rfl) (by kernel_rfl) fun x _ h => (eq_comes_33 N x).trans h
noncomputable def fs32 (N : Nat) : FuncId → List V1 → List Blk → Option FSpec := fun g xs H => if g = 33 then some (sp_comes_33 N) else fs31 N g xs H
theorem fsok32 (N : Nat) : ∀ g xs H sp, fs32 N g xs H = some sp → FSound Try.prog g sp := fun g xs H sp h => by
  unfold fs32 at h
  by_cases e : g = 33
  · rw [if_pos e] at h; subst e; cases h; exact ok_comes_33 N
  · rw [if_neg e] at h; exact fsok31 N g xs H sp h
/-! Busy_15 -/
abbrev ap_Busy_15 : Pat := ⟨[.one (.ro (.pair (.int .i64) (.pair (.int .i64) (.pair (.int .i64) .bool)))), .one (.int .i64), .one (.int .i64)], []⟩
abbrev rp_Busy_15 : List Pat := [⟨[.one (.int .i64), .one (.int .i64)], []⟩]
def lo_Busy_15 : List LSpec := [⟨7, [0, 1, 2, 9, 10, 11], ⟨[.one (.ro (.pair (.int .i64) (.pair (.int .i64) (.pair (.int .i64) .bool)))), .one (.int .i64), .one (.int .i64), .one (.full 0), .one (.full 1), .one (.int .i64)], [.row 3 (.int .i64), .row 3 (.int .i64)]⟩⟩, ⟨16, [0, 1, 2, 14, 15], ⟨[.one (.ro (.pair (.int .i64) (.pair (.int .i64) (.pair (.int .i64) .bool)))), .one (.int .i64), .one (.int .i64), .one (.int .i64), .one (.int .i64)], []⟩⟩]
def jo_Busy_15 : List LSpec := []
def Busy_15_L16 (N : Nat) (again16 : ((List (Int × (Int × (Int × Bool))) × (Int × (Int × (Int × (Int × Unit))))) × Unit) → Option ((Int × (Int × Unit)) × Unit)) (x : ((List (Int × (Int × (Int × Bool))) × (Int × (Int × (Int × (Int × Unit))))) × Unit)) : Option ((Int × (Int × Unit)) × Unit) := match x with
  | ((l22, block23, release24, n25, step26, ()), ()) =>
    byB (decide (step26 < 5000))
      ((comes_33 N ((l22, block23, release24, n25, ()), ())).bind fun y28 =>
        byB (y28.1.2.1 != 0)
          (some ((0, y28.1.2.1, ()), ()))
          (byB (decide (y28.1.1 ≤ n25))
              (some ((n25, 0, ()), ()))
              (again16 ((l22, block23, release24, y28.1.1, IntKind.wrap .i64 (step26 + 1), ()), ()))))
      (some ((0, 11, ()), ()))
def Busy_15_L7 (N : Nat) (again7 : ((List (Int × (Int × (Int × Bool))) × (Int × (Int × (Unit × (Unit × (Int × Unit)))))) × (List Int × (List Int × Unit))) → Option ((Int × (Int × Unit)) × Unit)) (x : ((List (Int × (Int × (Int × Bool))) × (Int × (Int × (Unit × (Unit × (Int × Unit)))))) × (List Int × (List Int × Unit)))) : Option ((Int × (Int × Unit)) × Unit) := match x with
  | ((l5, block6, release7, _, _, i8, ()), l9, l10, ()) =>
    byB (decide (i8 < (l5.length : Int)))
      (if (0 ≤ i8) ∧ (i8 < (l5.length : Int)) then
        (if (l9.length + 2) * 8 ≤ 140737488355328 then
        (if (0 ≤ i8) ∧ (i8 < (l5.length : Int)) then
        (if (0 ≤ i8) ∧ (i8 < (l5.length : Int)) then
        (if (l10.length + 2) * 8 ≤ 140737488355328 then
        again7 ((l5, block6, release7, (), (), IntKind.wrap .i64 (i8 + 1), ()), l9 ++ [(l5.getD i8.toNat (0, 0, 0, false)).1, release7], l10 ++ [(l5.getD i8.toNat (0, 0, 0, false)).2.1, (l5.getD i8.toNat (0, 0, 0, false)).2.1], ())
        else none)
        else none)
        else none)
        else none)
        else none)
      ((Load_32 N ((l9, l10, ()), ())).bind fun y19 =>
        byB (y19.1.2.1 != 0)
          (some ((0, 12, ()), ()))
          (byB (decide (y19.1.1 > 4294967296))
              (some ((0, 12, ()), ()))
              (loopN N (Busy_15_L16 N) ((l5, block6, release7, 1, 0, ()), ()))))
def Busy_15 (N : Nat) (x : ((List (Int × (Int × (Int × Bool))) × (Int × (Int × Unit))) × Unit)) : Option ((Int × (Int × Unit)) × Unit) := match x with
  | ((l0, block1, release2, ()), ()) =>
    (right_26 N ((l0, block1, release2, ()), ())).bind fun y3 =>
    byB (!y3.1.1)
      (some ((0, 1, ()), ()))
      (loopN N (Busy_15_L7 N) ((l0, block1, release2, (), (), 0, ()), [], [], ()))
theorem eq_Busy_15 (N : Nat) (x : (ap_Busy_15).den) : funX Try.prog (fs32 N) N lo_Busy_15 jo_Busy_15 Try.f15 ap_Busy_15 rp_Busy_15 x = Busy_15 N x := by kernel_rfl
noncomputable def sp_Busy_15 (N : Nat) : FSpec := specOf ap_Busy_15 rp_Busy_15 true (Busy_15 N)
theorem ok_Busy_15 (N : Nat) : FSound Try.prog 15 (sp_Busy_15 N) := funX_sound (N := N) (loops := lo_Busy_15) (joins := jo_Busy_15) (fsok32 N) Try.func15 (by kernel_rfl) (by kernel_rfl) fun x _ h => (eq_Busy_15 N x).trans h
noncomputable def fs33 (N : Nat) : FuncId → List V1 → List Blk → Option FSpec := fun g xs H => if g = 15 then some (sp_Busy_15 N) else fs32 N g xs H
theorem fsok33 (N : Nat) : ∀ g xs H sp, fs33 N g xs H = some sp → FSound Try.prog g sp := fun g xs H sp h => by
  unfold fs33 at h
  by_cases e : g = 15
  · rw [if_pos e] at h; subst e; cases h; exact ok_Busy_15 N
  · rw [if_neg e] at h; exact fsok32 N g xs H sp h
/-! Test_17 -/
abbrev ap_Test_17 : Pat := ⟨[.one (.ro (.pair (.int .i64) (.pair (.int .i64) (.pair (.int .i64) .bool)))), .one (.int .i64), .one (.int .i64)], []⟩
abbrev rp_Test_17 : List Pat := [⟨[.one (.int .i64)], []⟩]
def lo_Test_17 : List LSpec := [⟨6, [0, 1, 2, 8, 9], ⟨[.one (.ro (.pair (.int .i64) (.pair (.int .i64) (.pair (.int .i64) .bool)))), .one (.int .i64), .one (.int .i64), .one (.int .i64), .one (.int .i64)], []⟩⟩, ⟨16, [0, 1, 2, 8, 10, 12], ⟨[.one (.ro (.pair (.int .i64) (.pair (.int .i64) (.pair (.int .i64) .bool)))), .one (.int .i64), .one (.int .i64), .one (.int .i64), .one (.int .i64), .one (.int .i64)], []⟩⟩]
def jo_Test_17 : List LSpec := []
def Test_17_L16 (N : Nat) (again16 : ((List (Int × (Int × (Int × Bool))) × (Int × (Int × (Int × (Int × (Int × Unit)))))) × Unit) → Option ((Int × Unit) × Unit)) (x : ((List (Int × (Int × (Int × Bool))) × (Int × (Int × (Int × (Int × (Int × Unit)))))) × Unit)) : Option ((Int × Unit) × Unit) := match x with
  | ((l26, block27, release28, least29, t30, step31, ()), ()) =>
    byB (decide (step31 < 5000))
      (byB (decide (t30 < least29))
          (some ((0, ()), ()))
          ((Ask_12 N ((l26, block27, release28, t30, ()), ())).bind fun y34 =>
            byB (y34.1.2.1 != 0)
              (some ((y34.1.2.1, ()), ()))
              (byB (decide (y34.1.1 > t30))
                  (some ((12, ()), ()))
                  (byB (decide (y34.1.1 < t30))
                      (again16 ((l26, block27, release28, least29, y34.1.1, IntKind.wrap .i64 (step31 + 1), ()), ()))
                      (again16 ((l26, block27, release28, least29, IntKind.wrap .i64 (t30 - 1), IntKind.wrap .i64 (step31 + 1), ()), ()))))))
      (some ((11, ()), ()))
def Test_17_L6 (N : Nat) (again6 : ((List (Int × (Int × (Int × Bool))) × (Int × (Int × (Int × (Int × Unit))))) × Unit) → Option ((Int × Unit) × Unit)) (x : ((List (Int × (Int × (Int × Bool))) × (Int × (Int × (Int × (Int × Unit))))) × Unit)) : Option ((Int × Unit) × Unit) := match x with
  | ((l5, block6, release7, least8, i9, ()), ()) =>
    byB (decide (i9 < (l5.length : Int)))
      (if (0 ≤ i9) ∧ (i9 < (l5.length : Int)) then
        byB (!(l5.getD i9.toNat (0, 0, 0, false)).2.2.2)
          (byB (least8 == 0)
              (if (0 ≤ i9) ∧ (i9 < (l5.length : Int)) then
                again6 ((l5, block6, release7, (l5.getD i9.toNat (0, 0, 0, false)).2.2.1, IntKind.wrap .i64 (i9 + 1), ()), ())
                else none)
              (if (0 ≤ i9) ∧ (i9 < (l5.length : Int)) then
                byB (decide ((l5.getD i9.toNat (0, 0, 0, false)).2.2.1 < least8))
                  (if (0 ≤ i9) ∧ (i9 < (l5.length : Int)) then
                    again6 ((l5, block6, release7, (l5.getD i9.toNat (0, 0, 0, false)).2.2.1, IntKind.wrap .i64 (i9 + 1), ()), ())
                    else none)
                  (again6 ((l5, block6, release7, least8, IntKind.wrap .i64 (i9 + 1), ()), ()))
                else none))
          (again6 ((l5, block6, release7, least8, IntKind.wrap .i64 (i9 + 1), ()), ()))
        else none)
      (byB (least8 == 0)
          (some ((0, ()), ()))
          ((Busy_15 N ((l5, block6, release7, ()), ())).bind fun y24 =>
            byB (y24.1.2.1 != 0)
              (some ((y24.1.2.1, ()), ()))
              (loopN N (Test_17_L16 N) ((l5, block6, release7, least8, y24.1.1, 0, ()), ()))))
def Test_17 (N : Nat) (x : ((List (Int × (Int × (Int × Bool))) × (Int × (Int × Unit))) × Unit)) : Option ((Int × Unit) × Unit) := match x with
  | ((l0, block1, release2, ()), ()) =>
    (right_26 N ((l0, block1, release2, ()), ())).bind fun y3 =>
    byB (!y3.1.1)
      (some ((1, ()), ()))
      (loopN N (Test_17_L6 N) ((l0, block1, release2, 0, 0, ()), ()))
theorem eq_Test_17 (N : Nat) (x : (ap_Test_17).den) : funX Try.prog (fs33 N) N lo_Test_17 jo_Test_17 Try.f17 ap_Test_17 rp_Test_17 x = Test_17 N x := by kernel_rfl
noncomputable def sp_Test_17 (N : Nat) : FSpec := specOf ap_Test_17 rp_Test_17 true (Test_17 N)
theorem ok_Test_17 (N : Nat) : FSound Try.prog 17 (sp_Test_17 N) := funX_sound (N := N) (loops := lo_Test_17) (joins := jo_Test_17) (fsok33 N) Try.func17 (by kernel_rfl) (by kernel_rfl) fun x _ h => (eq_Test_17 N x).trans h
noncomputable def fs34 (N : Nat) : FuncId → List V1 → List Blk → Option FSpec := fun g xs H => if g = 17 then some (sp_Test_17 N) else fs33 N g xs H
theorem fsok34 (N : Nat) : ∀ g xs H sp, fs34 N g xs H = some sp → FSound Try.prog g sp := fun g xs H sp h => by
  unfold fs34 at h
  by_cases e : g = 17
  · rw [if_pos e] at h; subst e; cases h; exact ok_Test_17 N
  · rw [if_neg e] at h; exact fsok33 N g xs H sp h
/-! DemandTests_4 -/
abbrev ap_DemandTests_4 : Pat := ⟨[.one (.ro (.pair (.int .i64) (.pair (.int .i64) (.pair (.int .i64) .bool)))), .one (.int .i64), .one (.int .i64)], []⟩
abbrev rp_DemandTests_4 : List Pat := [⟨[.one (.bool)], []⟩]
def lo_DemandTests_4 : List LSpec := []
def jo_DemandTests_4 : List LSpec := []
def DemandTests_4 (N : Nat) (x : ((List (Int × (Int × (Int × Bool))) × (Int × (Int × Unit))) × Unit)) : Option ((Bool × Unit) × Unit) := match x with
  | ((l0, block1, release2, ()), ()) =>
    (examples_10 N ((), ())).bind fun y3 =>
    (Busy_14 N ((l0, block1, release2, ()), ())).bind fun y4 =>
    (works_13 N ((l0, ()), ())).bind fun y5 =>
    (Busy_15 N ((y5.2.1, block1, release2, ()), ())).bind fun y6 =>
    (Test_16 N ((l0, block1, release2, ()), ())).bind fun y7 =>
    (works_13 N ((l0, ()), ())).bind fun y8 =>
    (Test_17 N ((y8.2.1, block1, release2, ()), ())).bind fun y9 =>
    byB y3.1.1
      (byB (y4.1.1 == y6.1.1)
          (byB (y4.1.2.1 == y6.1.2.1)
              (some ((y7.1.1 == y9.1.1, ()), ()))
              (some ((false, ()), ())))
          (some ((false, ()), ())))
      (some ((false, ()), ()))
theorem eq_DemandTests_4 (N : Nat) (x : (ap_DemandTests_4).den) : funX Try.prog (fs34 N) N lo_DemandTests_4 jo_DemandTests_4 Try.f4 ap_DemandTests_4 rp_DemandTests_4 x = DemandTests_4 N x := by kernel_rfl
noncomputable def sp_DemandTests_4 (N : Nat) : FSpec := specOf ap_DemandTests_4 rp_DemandTests_4 true (DemandTests_4 N)
theorem ok_DemandTests_4 (N : Nat) : FSound Try.prog 4 (sp_DemandTests_4 N) := funX_sound (N := N) (loops := lo_DemandTests_4) (joins := jo_DemandTests_4) (fsok34 N) Try.func4 (by kernel_rfl) (by kernel_rfl) fun x _ h => (eq_DemandTests_4 N x).trans h
noncomputable def fs35 (N : Nat) : FuncId → List V1 → List Blk → Option FSpec := fun g xs H => if g = 4 then some (sp_DemandTests_4 N) else fs34 N g xs H
theorem fsok35 (N : Nat) : ∀ g xs H sp, fs35 N g xs H = some sp → FSound Try.prog g sp := fun g xs H sp h => by
  unfold fs35 at h
  by_cases e : g = 4
  · rw [if_pos e] at h; subst e; cases h; exact ok_DemandTests_4 N
  · rw [if_neg e] at h; exact fsok34 N g xs H sp h
/-! DemandMeets_5 -/
abbrev ap_DemandMeets_5 : Pat := ⟨[.one (.ro (.pair (.int .i64) (.pair (.int .i64) (.pair (.int .i64) .bool)))), .one (.int .i64), .one (.int .i64), .one (.int .i64)], []⟩
abbrev rp_DemandMeets_5 : List Pat := [⟨[.one (.bool)], []⟩]
def lo_DemandMeets_5 : List LSpec := [⟨6, [0, 1, 2, 3, 9, 10, 11], ⟨[.one (.ro (.pair (.int .i64) (.pair (.int .i64) (.pair (.int .i64) .bool)))), .one (.int .i64), .one (.int .i64), .one (.int .i64), .one (.bool), .one (.int .i64), .one (.int .i64)], []⟩⟩]
def jo_DemandMeets_5 : List LSpec := [⟨14, [0, 1, 2, 3, 9, 10, 12, 68], ⟨[.one (.ro (.pair (.int .i64) (.pair (.int .i64) (.pair (.int .i64) .bool)))), .one (.int .i64), .one (.int .i64), .one (.int .i64), .one (.bool), .one (.int .i64), .one (.int .i64), .one (.bool)], []⟩⟩]
def DemandMeets_5_J14 (N : Nat) (x : ((List (Int × (Int × (Int × Bool))) × (Int × (Int × (Int × (Bool × (Int × (Int × (Bool × Unit)))))))) × Unit)) : Option ((Bool × Unit) × Unit) := match x with
  | ((l31, block32, release33, t34, head35, least36, n37, t38, ()), ()) =>
    byB t38
      (some ((false, ()), ()))
      (byB (decide (t34 < 0))
          (if n37 = 0 then
              none
            else
            let t43 := IntKind.wrap .i64 (1 + (Int.tmod (IntKind.wrap .i64 (0 - (IntKind.wrap .i64 (t34 + 1)))) n37));
            (Ask_11 N ((l31, block32, release33, t43, ()), ())).bind fun y44 =>
            byB head35
              (byB (y44.1.2.1 == 0)
                  (byB (decide (t43 < least36))
                      (some ((true, ()), ()))
                      (some ((decide (y44.1.1 ≤ t43), ()), ())))
                  (some ((false, ()), ())))
              (some ((false, ()), ())))
          (if n37 = 0 then
              none
            else
            let t49 := IntKind.wrap .i64 (1 + (Int.tmod t34 n37));
            (Ask_11 N ((l31, block32, release33, t49, ()), ())).bind fun y50 =>
            byB head35
              (byB (y50.1.2.1 == 0)
                  (byB (decide (t49 < least36))
                      (some ((true, ()), ()))
                      (some ((decide (y50.1.1 ≤ t49), ()), ())))
                  (some ((false, ()), ())))
              (some ((false, ()), ()))))
def DemandMeets_5_L6 (N : Nat) (again6 : ((List (Int × (Int × (Int × Bool))) × (Int × (Int × (Int × (Bool × (Int × (Int × Unit))))))) × Unit) → Option ((Bool × Unit) × Unit)) (x : ((List (Int × (Int × (Int × Bool))) × (Int × (Int × (Int × (Bool × (Int × (Int × Unit))))))) × Unit)) : Option ((Bool × Unit) × Unit) := match x with
  | ((l7, block8, release9, t10, head11, least12, i13, ()), ()) =>
    byB (decide (i13 < (l7.length : Int)))
      (if (0 ≤ i13) ∧ (i13 < (l7.length : Int)) then
        byB (!(l7.getD i13.toNat (0, 0, 0, false)).2.2.2)
          (byB (least12 == 0)
              (if (0 ≤ i13) ∧ (i13 < (l7.length : Int)) then
                again6 ((l7, block8, release9, t10, head11, (l7.getD i13.toNat (0, 0, 0, false)).2.2.1, IntKind.wrap .i64 (i13 + 1), ()), ())
                else none)
              (if (0 ≤ i13) ∧ (i13 < (l7.length : Int)) then
                byB (decide ((l7.getD i13.toNat (0, 0, 0, false)).2.2.1 < least12))
                  (if (0 ≤ i13) ∧ (i13 < (l7.length : Int)) then
                    again6 ((l7, block8, release9, t10, head11, (l7.getD i13.toNat (0, 0, 0, false)).2.2.1, IntKind.wrap .i64 (i13 + 1), ()), ())
                    else none)
                  (again6 ((l7, block8, release9, t10, head11, least12, IntKind.wrap .i64 (i13 + 1), ()), ()))
                else none))
          (again6 ((l7, block8, release9, t10, head11, least12, IntKind.wrap .i64 (i13 + 1), ()), ()))
        else none)
      (byB (least12 == 0)
          (some ((head11, ()), ()))
          ((Busy_14 N ((l7, block8, release9, ()), ())).bind fun y28 =>
            withJoin (DemandMeets_5_J14 N) fun join14 =>
            byB (y28.1.2.1 != 0)
              (join14 ((l7, block8, release9, t10, head11, least12, y28.1.1, true, ()), ()))
              (join14 ((l7, block8, release9, t10, head11, least12, y28.1.1, decide (y28.1.1 < 1), ()), ()))))
def DemandMeets_5 (N : Nat) (x : ((List (Int × (Int × (Int × Bool))) × (Int × (Int × (Int × Unit)))) × Unit)) : Option ((Bool × Unit) × Unit) := match x with
  | ((l0, block1, release2, t3, ()), ()) =>
    (examples_10 N ((), ())).bind fun y4 =>
    (Test_16 N ((l0, block1, release2, ()), ())).bind fun y5 =>
    byB (y5.1.1 != 0)
      (some ((y4.1.1, ()), ()))
      (loopN N (DemandMeets_5_L6 N) ((l0, block1, release2, t3, y4.1.1, 0, 0, ()), ()))
theorem eq_DemandMeets_5 (N : Nat) (x : (ap_DemandMeets_5).den) : funX Try.prog (fs35 N) N lo_DemandMeets_5 jo_DemandMeets_5 Try.f5 ap_DemandMeets_5 rp_DemandMeets_5 x = DemandMeets_5 N x := by kernel_rfl
noncomputable def sp_DemandMeets_5 (N : Nat) : FSpec := specOf ap_DemandMeets_5 rp_DemandMeets_5 true (DemandMeets_5 N)
theorem ok_DemandMeets_5 (N : Nat) : FSound Try.prog 5 (sp_DemandMeets_5 N) := funX_sound (N := N) (loops := lo_DemandMeets_5) (joins := jo_DemandMeets_5) (fsok35 N) Try.func5 (by kernel_rfl) (by kernel_rfl) fun x _ h => (eq_DemandMeets_5 N x).trans h
noncomputable def fs36 (N : Nat) : FuncId → List V1 → List Blk → Option FSpec := fun g xs H => if g = 5 then some (sp_DemandMeets_5 N) else fs35 N g xs H
theorem fsok36 (N : Nat) : ∀ g xs H sp, fs36 N g xs H = some sp → FSound Try.prog g sp := fun g xs H sp h => by
  unfold fs36 at h
  by_cases e : g = 5
  · rw [if_pos e] at h; subst e; cases h; exact ok_DemandMeets_5 N
  · rw [if_neg e] at h; exact fsok35 N g xs H sp h
/-! fine_18 -/
abbrev ap_fine_18 : Pat := ⟨[.one (.int .i64)], []⟩
abbrev rp_fine_18 : List Pat := [⟨[.one (.bool)], []⟩]
def lo_fine_18 : List LSpec := []
def jo_fine_18 : List LSpec := []
def fine_18 (N : Nat) (x : ((Int × Unit) × Unit)) : Option ((Bool × Unit) × Unit) := match x with
  | ((e0, ()), ()) =>
    byB (e0 == 0)
      (some ((true, ()), ()))
      (some ((e0 == 11, ()), ()))
theorem eq_fine_18 (N : Nat) (x : (ap_fine_18).den) : funX Try.prog (fs36 N) N lo_fine_18 jo_fine_18 Try.f18 ap_fine_18 rp_fine_18 x = fine_18 N x := by kernel_rfl
noncomputable def sp_fine_18 (N : Nat) : FSpec := specOf ap_fine_18 rp_fine_18 true (fine_18 N)
theorem ok_fine_18 (N : Nat) : FSound Try.prog 18 (sp_fine_18 N) := funX_sound (N := N) (loops := lo_fine_18) (joins := jo_fine_18) (fsok36 N) Try.func18 (by kernel_rfl) (by kernel_rfl) fun x _ h => (eq_fine_18 N x).trans h
noncomputable def fs37 (N : Nat) : FuncId → List V1 → List Blk → Option FSpec := fun g xs H => if g = 18 then some (sp_fine_18 N) else fs36 N g xs H
theorem fsok37 (N : Nat) : ∀ g xs H sp, fs37 N g xs H = some sp → FSound Try.prog g sp := fun g xs H sp h => by
  unfold fs37 at h
  by_cases e : g = 18
  · rw [if_pos e] at h; subst e; cases h; exact ok_fine_18 N
  · rw [if_neg e] at h; exact fsok36 N g xs H sp h
/-! DemandLess_6 -/
abbrev ap_DemandLess_6 : Pat := ⟨[.one (.ro (.pair (.int .i64) (.pair (.int .i64) (.pair (.int .i64) .bool)))), .one (.int .i64), .one (.int .i64), .one (.int .i64), .one (.int .i64)], []⟩
abbrev rp_DemandLess_6 : List Pat := [⟨[.one (.bool)], []⟩]
def lo_DemandLess_6 : List LSpec := []
def jo_DemandLess_6 : List LSpec := [⟨10, [0, 1, 2, 4, 11, 12, 55], ⟨[.one (.ro (.pair (.int .i64) (.pair (.int .i64) (.pair (.int .i64) .bool)))), .one (.int .i64), .one (.int .i64), .one (.int .i64), .one (.bool), .one (.int .i64), .one (.bool)], []⟩⟩, ⟨8, [0, 1, 2, 3, 4, 11], ⟨[.one (.ro (.pair (.int .i64) (.pair (.int .i64) (.pair (.int .i64) .bool)))), .one (.int .i64), .one (.int .i64), .one (.int .i64), .one (.int .i64), .one (.bool)], []⟩⟩, ⟨3, [0, 1, 2, 3, 4, 11, 30], ⟨[.one (.ro (.pair (.int .i64) (.pair (.int .i64) (.pair (.int .i64) .bool)))), .one (.int .i64), .one (.int .i64), .one (.int .i64), .one (.int .i64), .one (.bool), .one (.bool)], []⟩⟩, ⟨6, [0, 1, 2, 3, 4, 11], ⟨[.one (.ro (.pair (.int .i64) (.pair (.int .i64) (.pair (.int .i64) .bool)))), .one (.int .i64), .one (.int .i64), .one (.int .i64), .one (.int .i64), .one (.bool)], []⟩⟩]
def DemandLess_6_J10 (N : Nat) (x : ((List (Int × (Int × (Int × Bool))) × (Int × (Int × (Int × (Bool × (Int × (Bool × Unit))))))) × Unit)) : Option ((Bool × Unit) × Unit) := match x with
  | ((l40, block41, release42, less43, head44, i45, t46, ()), ()) =>
    byB t46
      (some ((false, ()), ()))
      (if ((0 : Int) ≤ 0) ∧ (0 ≤ i45) ∧ (i45 ≤ (l40.length : Int)) then
        let t47 := l40.take i45.toNat;
        if (0 + t47.length) * 32 ≤ 140737488355328 then
        let t48 := IntKind.wrap .i64 (i45 + 1);
        if (0 ≤ t48) ∧ (t48 ≤ (l40.length : Int)) ∧ ((l40.length : Int) ≤ (l40.length : Int)) then
        let t49 := (l40.take l40.length).drop t48.toNat;
        if (t47.length + t49.length) * 32 ≤ 140737488355328 then
        (if (0 + l40.length) * 32 ≤ 140737488355328 then
        (if (0 ≤ i45) ∧ (i45 < (l40.length : Int)) then
        let t52 := IntKind.wrap .i64 ((l40.getD i45.toNat (0, 0, 0, false)).1 + 1);
        if t52 = 0 then
          none
        else
        if (0 ≤ i45) ∧ (i45 < (l40.length : Int)) then
        (if (0 + l40.length) * 32 ≤ 140737488355328 then
        (if (0 ≤ i45) ∧ (i45 < (l40.length : Int)) then
        (if (0 ≤ i45) ∧ (i45 < (l40.length : Int)) then
        (Test_16 N ((t47 ++ t49, block41, release42, ()), ())).bind fun y60 =>
        (Test_16 N ((l40.set i45.toNat (Int.tmod less43 t52, (l40.getD i45.toNat (0, 0, 0, false)).2), block41, release42, ()), ())).bind fun y61 =>
        (Test_16 N ((l40.set i45.toNat ((l40.getD i45.toNat (0, 0, 0, false)).1, (l40.getD i45.toNat (0, 0, 0, false)).2.1, if 1099511627776 < (IntKind.wrap .i64 ((l40.getD i45.toNat (0, 0, 0, false)).2.2.1 + (Int.tmod less43 1000))) then 1099511627776 else (IntKind.wrap .i64 ((l40.getD i45.toNat (0, 0, 0, false)).2.2.1 + (Int.tmod less43 1000))), (l40.getD i45.toNat (0, 0, 0, false)).2.2.2), block41, release42, ()), ())).bind fun y62 =>
        let t63 := IntKind.wrap .i64 (block41 + 1);
        if t63 = 0 then
          none
        else
        (Test_16 N ((l40, Int.tmod less43 t63, release42, ()), ())).bind fun y65 =>
        byB head44
          ((fine_18 N ((y60.1.1, ()), ())).bind fun y66 =>
            byB y66.1.1
              ((fine_18 N ((y61.1.1, ()), ())).bind fun y67 =>
                byB y67.1.1
                  ((fine_18 N ((y62.1.1, ()), ())).bind fun y68 =>
                    byB y68.1.1
                      ((fine_18 N ((y65.1.1, ()), ())).bind fun y69 =>
                        some ((y69.1.1, ()), ()))
                      (some ((false, ()), ())))
                  (some ((false, ()), ())))
              (some ((false, ()), ())))
          (some ((false, ()), ()))
        else none)
        else none)
        else none)
        else none
        else none)
        else none)
        else none
        else none
        else none
        else none)
def DemandLess_6_J8 (N : Nat) (x : ((List (Int × (Int × (Int × Bool))) × (Int × (Int × (Int × (Int × (Bool × Unit)))))) × Unit)) : Option ((Bool × Unit) × Unit) := match x with
  | ((l29, block30, release31, which32, less33, head34, ()), ()) =>
    let t35 := (l29.length : Int);
    if t35 = 0 then
      none
    else
    let t36 := Int.tmod which32 t35;
    withJoin (DemandLess_6_J10 N) fun join10 =>
    if (0 ≤ t36) ∧ (t36 < (l29.length : Int)) then
    byB (decide ((l29.getD t36.toNat (0, 0, 0, false)).1 < 0))
      (join10 ((l29, block30, release31, less33, head34, t36, true, ()), ()))
      (join10 ((l29, block30, release31, less33, head34, t36, decide (block30 < 0), ()), ()))
    else none
def DemandLess_6_J6 (N : Nat) (x : ((List (Int × (Int × (Int × Bool))) × (Int × (Int × (Int × (Int × (Bool × Unit)))))) × Unit)) : Option ((Bool × Unit) × Unit) := match x with
  | ((l20, block21, release22, which23, less24, head25, ()), ()) =>
    withJoin (DemandLess_6_J8 N) fun join8 =>
    byB (decide (less24 < 0))
      (join8 ((l20, block21, release22, which23, IntKind.wrap .i64 (0 - (IntKind.wrap .i64 (less24 + 1))), head25, ()), ()))
      (join8 ((l20, block21, release22, which23, less24, head25, ()), ()))
def DemandLess_6_J3 (N : Nat) (x : ((List (Int × (Int × (Int × Bool))) × (Int × (Int × (Int × (Int × (Bool × (Bool × Unit))))))) × Unit)) : Option ((Bool × Unit) × Unit) := match x with
  | ((l10, block11, release12, which13, less14, head15, t16, ()), ()) =>
    byB t16
      (some ((head15, ()), ()))
      (withJoin (DemandLess_6_J6 N) fun join6 =>
        byB (decide (which13 < 0))
          (join6 ((l10, block11, release12, IntKind.wrap .i64 (0 - (IntKind.wrap .i64 (which13 + 1))), less14, head15, ()), ()))
          (join6 ((l10, block11, release12, which13, less14, head15, ()), ())))
def DemandLess_6 (N : Nat) (x : ((List (Int × (Int × (Int × Bool))) × (Int × (Int × (Int × (Int × Unit))))) × Unit)) : Option ((Bool × Unit) × Unit) := match x with
  | ((l0, block1, release2, which3, less4, ()), ()) =>
    (examples_10 N ((), ())).bind fun y5 =>
    withJoin (DemandLess_6_J3 N) fun join3 =>
    (Test_16 N ((l0, block1, release2, ()), ())).bind fun y6 =>
    byB (y6.1.1 != 0)
      (join3 ((l0, block1, release2, which3, less4, y5.1.1, true, ()), ()))
      (join3 ((l0, block1, release2, which3, less4, y5.1.1, (l0.length : Int) == 0, ()), ()))
theorem eq_DemandLess_6 (N : Nat) (x : (ap_DemandLess_6).den) : funX Try.prog (fs37 N) N lo_DemandLess_6 jo_DemandLess_6 Try.f6 ap_DemandLess_6 rp_DemandLess_6 x = DemandLess_6 N x := by kernel_rfl
noncomputable def sp_DemandLess_6 (N : Nat) : FSpec := specOf ap_DemandLess_6 rp_DemandLess_6 true (DemandLess_6 N)
theorem ok_DemandLess_6 (N : Nat) : FSound Try.prog 6 (sp_DemandLess_6 N) := funX_sound (N := N) (loops := lo_DemandLess_6) (joins := jo_DemandLess_6) (fsok37 N) Try.func6 (by kernel_rfl) (by kernel_rfl) fun x _ h => (eq_DemandLess_6 N x).trans h
noncomputable def fs38 (N : Nat) : FuncId → List V1 → List Blk → Option FSpec := fun g xs H => if g = 6 then some (sp_DemandLess_6 N) else fs37 N g xs H
theorem fsok38 (N : Nat) : ∀ g xs H sp, fs38 N g xs H = some sp → FSound Try.prog g sp := fun g xs H sp h => by
  unfold fs38 at h
  by_cases e : g = 6
  · rw [if_pos e] at h; subst e; cases h; exact ok_DemandLess_6 N
  · rw [if_neg e] at h; exact fsok37 N g xs H sp h
/-! DemandRises_7 -/
abbrev ap_DemandRises_7 : Pat := ⟨[.one (.ro (.pair (.int .i64) (.pair (.int .i64) (.pair (.int .i64) .bool)))), .one (.int .i64), .one (.int .i64), .one (.int .i64), .one (.int .i64), .one (.int .i64)], []⟩
abbrev rp_DemandRises_7 : List Pat := [⟨[.one (.bool)], []⟩]
def lo_DemandRises_7 : List LSpec := []
def jo_DemandRises_7 : List LSpec := [⟨12, [0, 1, 2, 3, 5, 13, 14, 75], ⟨[.one (.ro (.pair (.int .i64) (.pair (.int .i64) (.pair (.int .i64) .bool)))), .one (.int .i64), .one (.int .i64), .one (.int .i64), .one (.int .i64), .one (.bool), .one (.int .i64), .one (.bool)], []⟩⟩, ⟨13, [0, 1, 2, 3, 5, 13, 14], ⟨[.one (.ro (.pair (.int .i64) (.pair (.int .i64) (.pair (.int .i64) .bool)))), .one (.int .i64), .one (.int .i64), .one (.int .i64), .one (.int .i64), .one (.bool), .one (.int .i64)], []⟩⟩, ⟨9, [0, 1, 2, 3, 4, 5, 13, 14], ⟨[.one (.ro (.pair (.int .i64) (.pair (.int .i64) (.pair (.int .i64) .bool)))), .one (.int .i64), .one (.int .i64), .one (.int .i64), .one (.int .i64), .one (.int .i64), .one (.bool), .one (.int .i64)], []⟩⟩, ⟨7, [0, 1, 2, 3, 4, 5, 13, 14], ⟨[.one (.ro (.pair (.int .i64) (.pair (.int .i64) (.pair (.int .i64) .bool)))), .one (.int .i64), .one (.int .i64), .one (.int .i64), .one (.int .i64), .one (.int .i64), .one (.bool), .one (.int .i64)], []⟩⟩]
def DemandRises_7_J12 (N : Nat) (join13 : ((List (Int × (Int × (Int × Bool))) × (Int × (Int × (Int × (Int × (Bool × (Int × Unit))))))) × Unit) → Option ((Bool × Unit) × Unit)) (x : ((List (Int × (Int × (Int × Bool))) × (Int × (Int × (Int × (Int × (Bool × (Int × (Bool × Unit)))))))) × Unit)) : Option ((Bool × Unit) × Unit) := match x with
  | ((l42, block43, release44, t45, at46, head47, a48, t49, ()), ()) =>
    byB t49
      (some ((false, ()), ()))
      (join13 ((l42, block43, release44, t45, at46, head47, a48, ()), ()))
def DemandRises_7_J13 (N : Nat) (x : ((List (Int × (Int × (Int × Bool))) × (Int × (Int × (Int × (Int × (Bool × (Int × Unit))))))) × Unit)) : Option ((Bool × Unit) × Unit) := match x with
  | ((l50, block51, release52, t53, at54, head55, a56, ()), ()) =>
    let t58 := IntKind.wrap .i64 ((l50.length : Int) + 1);
    if t58 = 0 then
      none
    else
    let t59 := Int.tmod at54 t58;
    if ((0 : Int) ≤ 0) ∧ (0 ≤ t59) ∧ (t59 ≤ (l50.length : Int)) then
    (Ask_11 N ((l50.take t59.toNat, block51, release52, t53, ()), ())).bind fun y61 =>
    if (0 ≤ t59) ∧ (t59 ≤ (l50.length : Int)) ∧ ((l50.length : Int) ≤ (l50.length : Int)) then
    (Ask_11 N (((l50.take l50.length).drop t59.toNat, 0, release52, t53, ()), ())).bind fun y63 =>
    byB head55
      (byB (y61.1.2.1 == 0)
          (byB (y63.1.2.1 == 0)
              (some (((IntKind.wrap .i64 (y61.1.1 + y63.1.1)) == a56, ()), ()))
              (some ((false, ()), ())))
          (some ((false, ()), ())))
      (some ((false, ()), ()))
    else none
    else none
def DemandRises_7_J9 (N : Nat) (x : ((List (Int × (Int × (Int × Bool))) × (Int × (Int × (Int × (Int × (Int × (Bool × (Int × Unit)))))))) × Unit)) : Option ((Bool × Unit) × Unit) := match x with
  | ((l24, block25, release26, t27, more28, at29, head30, a31, ()), ()) =>
    withJoin (DemandRises_7_J13 N) fun join13 =>
    byB (decide (t27 ≤ 1099511627776))
      ((Ask_11 N ((l24, block25, release26, IntKind.wrap .i64 (t27 + (Int.tmod more28 1000000)), ()), ())).bind fun y35 =>
        withJoin (DemandRises_7_J12 N join13) fun join12 =>
        byB (y35.1.2.1 == 0)
          (byB (decide (y35.1.1 < a31))
              (join12 ((l24, block25, release26, t27, at29, head30, a31, true, ()), ()))
              (byB (y35.1.2.1 != 0)
                  (join12 ((l24, block25, release26, t27, at29, head30, a31, y35.1.2.1 != 2, ()), ()))
                  (join12 ((l24, block25, release26, t27, at29, head30, a31, false, ()), ()))))
          (byB (y35.1.2.1 != 0)
              (join12 ((l24, block25, release26, t27, at29, head30, a31, y35.1.2.1 != 2, ()), ()))
              (join12 ((l24, block25, release26, t27, at29, head30, a31, false, ()), ()))))
      (join13 ((l24, block25, release26, t27, at29, head30, a31, ()), ()))
def DemandRises_7_J7 (N : Nat) (x : ((List (Int × (Int × (Int × Bool))) × (Int × (Int × (Int × (Int × (Int × (Bool × (Int × Unit)))))))) × Unit)) : Option ((Bool × Unit) × Unit) := match x with
  | ((l13, block14, release15, t16, more17, at18, head19, a20, ()), ()) =>
    withJoin (DemandRises_7_J9 N) fun join9 =>
    byB (decide (at18 < 0))
      (join9 ((l13, block14, release15, t16, more17, IntKind.wrap .i64 (0 - (IntKind.wrap .i64 (at18 + 1))), head19, a20, ()), ()))
      (join9 ((l13, block14, release15, t16, more17, at18, head19, a20, ()), ()))
def DemandRises_7 (N : Nat) (x : ((List (Int × (Int × (Int × Bool))) × (Int × (Int × (Int × (Int × (Int × Unit)))))) × Unit)) : Option ((Bool × Unit) × Unit) := match x with
  | ((l0, block1, release2, t3, more4, at5, ()), ()) =>
    (examples_10 N ((), ())).bind fun y6 =>
    (Ask_11 N ((l0, block1, release2, t3, ()), ())).bind fun y7 =>
    byB (y7.1.2.1 != 0)
      (byB y6.1.1
          (some ((y7.1.1 == 0, ()), ()))
          (some ((false, ()), ())))
      (withJoin (DemandRises_7_J7 N) fun join7 =>
        byB (decide (more4 < 0))
          (join7 ((l0, block1, release2, t3, IntKind.wrap .i64 (0 - (IntKind.wrap .i64 (more4 + 1))), at5, y6.1.1, y7.1.1, ()), ()))
          (join7 ((l0, block1, release2, t3, more4, at5, y6.1.1, y7.1.1, ()), ())))
theorem eq_DemandRises_7 (N : Nat) (x : (ap_DemandRises_7).den) : funX Try.prog (fs38 N) N lo_DemandRises_7 jo_DemandRises_7 Try.f7 ap_DemandRises_7 rp_DemandRises_7 x = DemandRises_7 N x := by kernel_rfl
noncomputable def sp_DemandRises_7 (N : Nat) : FSpec := specOf ap_DemandRises_7 rp_DemandRises_7 true (DemandRises_7 N)
theorem ok_DemandRises_7 (N : Nat) : FSound Try.prog 7 (sp_DemandRises_7 N) := funX_sound (N := N) (loops := lo_DemandRises_7) (joins := jo_DemandRises_7) (fsok38 N) Try.func7 (by kernel_rfl) (by kernel_rfl) fun x _ h => (eq_DemandRises_7 N x).trans h
noncomputable def fs39 (N : Nat) : FuncId → List V1 → List Blk → Option FSpec := fun g xs H => if g = 7 then some (sp_DemandRises_7 N) else fs38 N g xs H
theorem fsok39 (N : Nat) : ∀ g xs H sp, fs39 N g xs H = some sp → FSound Try.prog g sp := fun g xs H sp h => by
  unfold fs39 at h
  by_cases e : g = 7
  · rw [if_pos e] at h; subst e; cases h; exact ok_DemandRises_7 N
  · rw [if_neg e] at h; exact fsok38 N g xs H sp h
end Go.Proofs.YtabdnglgdbjbiaaX
