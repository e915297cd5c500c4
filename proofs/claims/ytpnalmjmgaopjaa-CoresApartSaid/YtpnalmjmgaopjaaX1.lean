/- Functions of the program as plain Lean, each with its equation (printed by a program of this seat's own). Conditions: none. -/
import Derived.Test.YtpnalmjmgaopjaaM6
import Derived.Test.YtpnalmjmgaopjaaProg
import Derived.KernelRfl
namespace Go.Proofs.YtpnalmjmgaopjaaX
open Go Go.Proofs.YtpnalmjmgaopjaaM
set_option maxRecDepth 100000
set_option linter.unusedVariables false
noncomputable def fs0 (_ : Nat) : FuncId → List V1 → List Blk → Option FSpec := fun _ _ _ => none
theorem fsok0 (N : Nat) : ∀ g xs H sp, fs0 N g xs H = some sp → FSound Try.prog g sp := fun _ _ _ _ h => by cases h
/-! New_12 -/
abbrev ap_New_12 : Pat := ⟨[.one (.int .i64), .agg [.int .i64, .int .i64, .int .i64]], []⟩
abbrev rp_New_12 : List Pat := [⟨[.one (.nilp), .one (.int .i64)], []⟩, ⟨[.one (.ptr 0 0), .one (.int .i64)], [.var 46 [.int .i64, .int .i64, .int .i64, .int .i64, .full 1], .row 48 (.pair (.int .i64) (.pair (.int .i64) (.int .i64)))]⟩]
def lo_New_12 : List LSpec := [⟨5, [6, 20, 21], ⟨[.one (.ptr 0 0), .agg [.int .i64, .int .i64, .int .i64], .one (.int .i64)], [.var 46 [.int .i64, .int .i64, .int .i64, .int .i64, .full 1], .row 48 (.pair (.int .i64) (.pair (.int .i64) (.int .i64)))]⟩⟩, ⟨12, [6, 43, 44], ⟨[.one (.ptr 0 0), .one (.int .i64), .one (.int .i64)], [.var 46 [.int .i64, .int .i64, .int .i64, .int .i64, .full 1], .row 48 (.pair (.int .i64) (.pair (.int .i64) (.int .i64)))]⟩⟩]
def jo_New_12 : List LSpec := []
def New_12_L12 (N : Nat) (again12 : ((Unit × (Int × (Int × Unit))) × ((Int × (Int × (Int × (Int × (Unit × Unit))))) × (List (Int × (Int × Int)) × Unit))) → Option (((Unit × (Int × Unit)) × Unit) ⊕ ((Unit × (Int × Unit)) × ((Int × (Int × (Int × (Int × (Unit × Unit))))) × (List (Int × (Int × Int)) × Unit))))) (x : ((Unit × (Int × (Int × Unit))) × ((Int × (Int × (Int × (Int × (Unit × Unit))))) × (List (Int × (Int × Int)) × Unit)))) : Option (((Unit × (Int × Unit)) × Unit) ⊕ ((Unit × (Int × Unit)) × ((Int × (Int × (Int × (Int × (Unit × Unit))))) × (List (Int × (Int × Int)) × Unit)))) := match x with
  | ((_, t22, t23, ()), (c24, c25, c26, c27, _, ()), l28, ()) =>
    byB (decide (t23 < t22))
      (if (0 ≤ t23) ∧ (t23 < (l28.length : Int)) then
        again12 (((), t22, IntKind.wrap .i64 (t23 + 1), ()), (c24, c25, c26, c27, (), ()), l28.set t23.toNat ((l28.getD t23.toNat (0, 0, 0)).1, -1, (l28.getD t23.toNat (0, 0, 0)).2.2), ())
        else none)
      (some (Sum.inr (((), 0, ()), (c24, c25, c26, c27, (), ()), l28, ())))
def New_12_L5 (N : Nat) (again5 : ((Unit × ((Int × (Int × (Int × Unit))) × (Int × Unit))) × ((Int × (Int × (Int × (Int × (Unit × Unit))))) × (List (Int × (Int × Int)) × Unit))) → Option (((Unit × (Int × Unit)) × Unit) ⊕ ((Unit × (Int × Unit)) × ((Int × (Int × (Int × (Int × (Unit × Unit))))) × (List (Int × (Int × Int)) × Unit))))) (x : ((Unit × ((Int × (Int × (Int × Unit))) × (Int × Unit))) × ((Int × (Int × (Int × (Int × (Unit × Unit))))) × (List (Int × (Int × Int)) × Unit)))) : Option (((Unit × (Int × Unit)) × Unit) ⊕ ((Unit × (Int × Unit)) × ((Int × (Int × (Int × (Int × (Unit × Unit))))) × (List (Int × (Int × Int)) × Unit)))) := match x with
  | ((_, (t6, t7, t8, ()), t9, ()), (c10, c11, c12, c13, _, ()), l14, ()) =>
    byB (decide (t9 < 3))
      (if (0 ≤ t9) ∧ (t9 < 3) ∧ (t9 < 3) then
        let t16 := [t6, t7, t8].getD t9.toNat 0;
        byB (decide (t16 < 0))
          (some (Sum.inl (((), 1, ()), ())))
          (byB (decide (t16 > 50))
              (some (Sum.inl (((), 1, ()), ())))
              (let t19 := IntKind.wrap .i64 (1 + t9);
                if (0 ≤ t19) ∧ (t19 < 4) then
                again5 (((), (t6, t7, t8, ()), IntKind.wrap .i64 (t9 + 1), ()), (([c10, c11, c12, c13].set t19.toNat t16).getD 0 0, ([c10, c11, c12, c13].set t19.toNat t16).getD 1 0, ([c10, c11, c12, c13].set t19.toNat t16).getD 2 0, ([c10, c11, c12, c13].set t19.toNat t16).getD 3 0, (), ()), l14, ())
                else none))
        else none)
      (loopN N (New_12_L12 N) (((), (l14.length : Int), 0, ()), (c10, c11, c12, c13, (), ()), l14, ()))
def New_12 (N : Nat) (x : ((Int × ((Int × (Int × (Int × Unit))) × Unit)) × Unit)) : Option (((Unit × (Int × Unit)) × Unit) ⊕ ((Unit × (Int × Unit)) × ((Int × (Int × (Int × (Int × (Unit × Unit))))) × (List (Int × (Int × Int)) × Unit)))) := match x with
  | ((n0, (costs1, costs2, costs3, ()), ()), ()) =>
    byB (decide (n0 < 1))
      (some (Sum.inl (((), 1, ()), ())))
      (byB (decide (n0 > 8))
          (some (Sum.inl (((), 1, ()), ())))
          (if (0 ≤ n0) ∧ (n0 ≤ n0) ∧ (24 * n0 ≤ 281474976710656) then
            loopN N (New_12_L5 N) (((), (costs1, costs2, costs3, ()), 0, ()), (0, 0, 0, 0, (), ()), List.replicate n0.toNat (0, 0, 0), ())
            else none))
theorem eq_New_12 (N : Nat) (x : (ap_New_12).den) : funX Try.prog (fs0 N) N lo_New_12 jo_New_12 Try.f12 ap_New_12 rp_New_12 x = New_12 N x := by kernel_rfl
noncomputable def sp_New_12 (N : Nat) : FSpec := specOf ap_New_12 rp_New_12 true (New_12 N)
theorem ok_New_12 (N : Nat) : FSound Try.prog 12 (sp_New_12 N) := funX_sound (N := N) (loops := lo_New_12) (joins := jo_New_12) (fsok0 N) Try.func12 (by kernel_rfl) (by kernel_rfl) fun x _ h => (eq_New_12 N x).trans h
noncomputable def fs1 (N : Nat) : FuncId → List V1 → List Blk → Option FSpec := fun g xs H => if g = 12 then some (sp_New_12 N) else fs0 N g xs H
theorem fsok1 (N : Nat) : ∀ g xs H sp, fs1 N g xs H = some sp → FSound Try.prog g sp := fun g xs H sp h => by
  unfold fs1 at h
  by_cases e : g = 12
  · rw [if_pos e] at h; subst e; cases h; exact ok_New_12 N
  · rw [if_neg e] at h; exact fsok0 N g xs H sp h
/-! at_21 -/
abbrev ap_at_21 : Pat := ⟨[.one (.ptr 0 0), .one (.int .i64)], [.var 46 [.int .i64, .int .i64, .int .i64, .int .i64, .full 1], .row 48 (.pair (.int .i64) (.pair (.int .i64) (.int .i64)))]⟩
abbrev rp_at_21 : List Pat := [⟨[.one (.ptr 2 0), .one (.bool)], [.var 46 [.int .i64, .int .i64, .int .i64, .int .i64, .full 1], .row 48 (.pair (.int .i64) (.pair (.int .i64) (.int .i64))), .var 48 [.int .i64, .int .i64, .int .i64]]⟩, ⟨[.one (.ptrI 1 0), .one (.bool)], [.var 46 [.int .i64, .int .i64, .int .i64, .int .i64, .full 1], .row 48 (.pair (.int .i64) (.pair (.int .i64) (.int .i64)))]⟩]
def lo_at_21 : List LSpec := []
def jo_at_21 : List LSpec := []
def at_21 (N : Nat) (x : ((Unit × (Int × Unit)) × ((Int × (Int × (Int × (Int × (Unit × Unit))))) × (List (Int × (Int × Int)) × Unit)))) : Option (((Unit × (Bool × Unit)) × ((Int × (Int × (Int × (Int × (Unit × Unit))))) × (List (Int × (Int × Int)) × ((Int × (Int × (Int × Unit))) × Unit)))) ⊕ ((Nat × (Bool × Unit)) × ((Int × (Int × (Int × (Int × (Unit × Unit))))) × (List (Int × (Int × Int)) × Unit)))) := match x with
  | ((_, i0, ()), (c1, c2, c3, c4, _, ()), l5, ()) =>
    byB (decide (i0 < 0))
      (some (Sum.inl (((), false, ()), (c1, c2, c3, c4, (), ()), l5, (0, -1, 0, ()), ())))
      (byB (decide (i0 ≥ (l5.length : Int)))
          (some (Sum.inl (((), false, ()), (c1, c2, c3, c4, (), ()), l5, (0, -1, 0, ()), ())))
          (if (0 ≤ i0) ∧ (i0 < (l5.length : Int)) then
            some (Sum.inr ((i0.toNat, true, ()), (c1, c2, c3, c4, (), ()), l5, ()))
            else none))
theorem eq_at_21 (N : Nat) (x : (ap_at_21).den) : funX Try.prog (fs1 N) N lo_at_21 jo_at_21 Try.f21 ap_at_21 rp_at_21 x = at_21 N x := by kernel_rfl
noncomputable def sp_at_21 (N : Nat) : FSpec := specOf ap_at_21 rp_at_21 true (at_21 N)
theorem ok_at_21 (N : Nat) : FSound Try.prog 21 (sp_at_21 N) := funX_sound (N := N) (loops := lo_at_21) (joins := jo_at_21) (fsok1 N) Try.func21 (by kernel_rfl) (by kernel_rfl) fun x _ h => (eq_at_21 N x).trans h
noncomputable def fs2 (N : Nat) : FuncId → List V1 → List Blk → Option FSpec := fun g xs H => if g = 21 then some (sp_at_21 N) else fs1 N g xs H
theorem fsok2 (N : Nat) : ∀ g xs H sp, fs2 N g xs H = some sp → FSound Try.prog g sp := fun g xs H sp h => by
  unfold fs2 at h
  by_cases e : g = 21
  · rw [if_pos e] at h; subst e; cases h; exact ok_at_21 N
  · rw [if_neg e] at h; exact fsok1 N g xs H sp h
/-! Charge_13 -/
abbrev ap_Charge_13 : Pat := ⟨[.one (.ptr 0 0), .one (.int .i64), .one (.int .i64)], [.var 46 [.int .i64, .int .i64, .int .i64, .int .i64, .full 1], .row 48 (.pair (.int .i64) (.pair (.int .i64) (.int .i64)))]⟩
abbrev rp_Charge_13 : List Pat := [⟨[.one (.bool)], [.var 46 [.int .i64, .int .i64, .int .i64, .int .i64, .full 1], .row 48 (.pair (.int .i64) (.pair (.int .i64) (.int .i64)))]⟩]
def lo_Charge_13 : List LSpec := []
def jo_Charge_13 : List LSpec := []
def Charge_13 (N : Nat) (x : ((Unit × (Int × (Int × Unit))) × ((Int × (Int × (Int × (Int × (Unit × Unit))))) × (List (Int × (Int × Int)) × Unit)))) : Option ((Bool × Unit) × ((Int × (Int × (Int × (Int × (Unit × Unit))))) × (List (Int × (Int × Int)) × Unit))) := match x with
  | ((_, core0, op1, ()), (c2, c3, c4, c5, _, ()), l6, ()) =>
    (at_21 N (((), core0, ()), (c2, c3, c4, c5, (), ()), l6, ())).bind fun y => match y with
    | .inl y7 =>
      byB (!y7.1.2.1)
        (some ((false, ()), (y7.2.1.1, y7.2.1.2.1, y7.2.1.2.2.1, y7.2.1.2.2.2.1, (), ()), y7.2.2.1, ()))
        (byB (decide (op1 < 1))
            (some ((false, ()), (y7.2.1.1, y7.2.1.2.1, y7.2.1.2.2.1, y7.2.1.2.2.2.1, (), ()), y7.2.2.1, ()))
            (byB (decide (op1 > 3))
                (some ((false, ()), (y7.2.1.1, y7.2.1.2.1, y7.2.1.2.2.1, y7.2.1.2.2.2.1, (), ()), y7.2.2.1, ()))
                (if (0 ≤ op1) ∧ (op1 < 4) then
                  some ((true, ()), (y7.2.1.1, y7.2.1.2.1, y7.2.1.2.2.1, y7.2.1.2.2.2.1, (), ()), y7.2.2.1, ())
                  else none)))
    | .inr y13 =>
      byB (!y13.1.2.1)
        (some ((false, ()), (y13.2.1.1, y13.2.1.2.1, y13.2.1.2.2.1, y13.2.1.2.2.2.1, (), ()), y13.2.2.1, ()))
        (byB (decide (op1 < 1))
            (some ((false, ()), (y13.2.1.1, y13.2.1.2.1, y13.2.1.2.2.1, y13.2.1.2.2.2.1, (), ()), y13.2.2.1, ()))
            (byB (decide (op1 > 3))
                (some ((false, ()), (y13.2.1.1, y13.2.1.2.1, y13.2.1.2.2.1, y13.2.1.2.2.2.1, (), ()), y13.2.2.1, ()))
                (if (0 ≤ op1) ∧ (op1 < 4) then
                  some ((true, ()), (y13.2.1.1, y13.2.1.2.1, y13.2.1.2.2.1, y13.2.1.2.2.2.1, (), ()), y13.2.2.1.set y13.1.1 (IntKind.wrap .i64 ((y13.2.2.1.getD y13.1.1 (0, 0, 0)).1 + ([y13.2.1.1, y13.2.1.2.1, y13.2.1.2.2.1, y13.2.1.2.2.2.1].getD op1.toNat 0)), (y13.2.2.1.getD y13.1.1 (0, 0, 0)).2), ())
                  else none)))
theorem eq_Charge_13 (N : Nat) (x : (ap_Charge_13).den) : funX Try.prog (fs2 N) N lo_Charge_13 jo_Charge_13 Try.f13 ap_Charge_13 rp_Charge_13 x = Charge_13 N x := by kernel_rfl
noncomputable def sp_Charge_13 (N : Nat) : FSpec := specOf ap_Charge_13 rp_Charge_13 true (Charge_13 N)
theorem ok_Charge_13 (N : Nat) : FSound Try.prog 13 (sp_Charge_13 N) := funX_sound (N := N) (loops := lo_Charge_13) (joins := jo_Charge_13) (fsok2 N) Try.func13 (by kernel_rfl) (by kernel_rfl) fun x _ h => (eq_Charge_13 N x).trans h
noncomputable def fs3 (N : Nat) : FuncId → List V1 → List Blk → Option FSpec := fun g xs H => if g = 13 then some (sp_Charge_13 N) else fs2 N g xs H
theorem fsok3 (N : Nat) : ∀ g xs H sp, fs3 N g xs H = some sp → FSound Try.prog g sp := fun g xs H sp h => by
  unfold fs3 at h
  by_cases e : g = 13
  · rw [if_pos e] at h; subst e; cases h; exact ok_Charge_13 N
  · rw [if_neg e] at h; exact fsok2 N g xs H sp h
/-! Load_14 -/
abbrev ap_Load_14 : Pat := ⟨[.one (.ptr 0 0), .one (.int .i64), .one (.int .i64)], [.var 46 [.int .i64, .int .i64, .int .i64, .int .i64, .full 1], .row 48 (.pair (.int .i64) (.pair (.int .i64) (.int .i64)))]⟩
abbrev rp_Load_14 : List Pat := [⟨[.one (.bool)], [.var 46 [.int .i64, .int .i64, .int .i64, .int .i64, .full 1], .row 48 (.pair (.int .i64) (.pair (.int .i64) (.int .i64)))]⟩]
def lo_Load_14 : List LSpec := []
def jo_Load_14 : List LSpec := []
def Load_14 (N : Nat) (x : ((Unit × (Int × (Int × Unit))) × ((Int × (Int × (Int × (Int × (Unit × Unit))))) × (List (Int × (Int × Int)) × Unit)))) : Option ((Bool × Unit) × ((Int × (Int × (Int × (Int × (Unit × Unit))))) × (List (Int × (Int × Int)) × Unit))) := match x with
  | ((_, core0, task1, ()), (c2, c3, c4, c5, _, ()), l6, ()) =>
    (at_21 N (((), core0, ()), (c2, c3, c4, c5, (), ()), l6, ())).bind fun y => match y with
    | .inl y7 =>
      byB (!y7.1.2.1)
        (some ((false, ()), (y7.2.1.1, y7.2.1.2.1, y7.2.1.2.2.1, y7.2.1.2.2.2.1, (), ()), y7.2.2.1, ()))
        (byB (y7.2.2.2.1.2.1 == task1)
            (some ((false, ()), (y7.2.1.1, y7.2.1.2.1, y7.2.1.2.2.1, y7.2.1.2.2.2.1, (), ()), y7.2.2.1, ()))
            ((Charge_13 N (((), core0, 2, ()), (y7.2.1.1, y7.2.1.2.1, y7.2.1.2.2.1, y7.2.1.2.2.2.1, (), ()), y7.2.2.1, ())).bind fun y10 =>
              some ((y10.1.1, ()), (y10.2.1.1, y10.2.1.2.1, y10.2.1.2.2.1, y10.2.1.2.2.2.1, (), ()), y10.2.2.1, ())))
    | .inr y11 =>
      byB (!y11.1.2.1)
        (some ((false, ()), (y11.2.1.1, y11.2.1.2.1, y11.2.1.2.2.1, y11.2.1.2.2.2.1, (), ()), y11.2.2.1, ()))
        (byB ((y11.2.2.1.getD y11.1.1 (0, 0, 0)).2.1 == task1)
            (some ((false, ()), (y11.2.1.1, y11.2.1.2.1, y11.2.1.2.2.1, y11.2.1.2.2.2.1, (), ()), y11.2.2.1, ()))
            ((Charge_13 N (((), core0, 2, ()), (y11.2.1.1, y11.2.1.2.1, y11.2.1.2.2.1, y11.2.1.2.2.2.1, (), ()), y11.2.2.1.set y11.1.1 ((y11.2.2.1.getD y11.1.1 (0, 0, 0)).1, task1, (y11.2.2.1.getD y11.1.1 (0, 0, 0)).2.2), ())).bind fun y16 =>
              some ((y16.1.1, ()), (y16.2.1.1, y16.2.1.2.1, y16.2.1.2.2.1, y16.2.1.2.2.2.1, (), ()), y16.2.2.1, ())))
theorem eq_Load_14 (N : Nat) (x : (ap_Load_14).den) : funX Try.prog (fs3 N) N lo_Load_14 jo_Load_14 Try.f14 ap_Load_14 rp_Load_14 x = Load_14 N x := by kernel_rfl
noncomputable def sp_Load_14 (N : Nat) : FSpec := specOf ap_Load_14 rp_Load_14 true (Load_14 N)
theorem ok_Load_14 (N : Nat) : FSound Try.prog 14 (sp_Load_14 N) := funX_sound (N := N) (loops := lo_Load_14) (joins := jo_Load_14) (fsok3 N) Try.func14 (by kernel_rfl) (by kernel_rfl) fun x _ h => (eq_Load_14 N x).trans h
noncomputable def fs4 (N : Nat) : FuncId → List V1 → List Blk → Option FSpec := fun g xs H => if g = 14 then some (sp_Load_14 N) else fs3 N g xs H
theorem fsok4 (N : Nat) : ∀ g xs H sp, fs4 N g xs H = some sp → FSound Try.prog g sp := fun g xs H sp h => by
  unfold fs4 at h
  by_cases e : g = 14
  · rw [if_pos e] at h; subst e; cases h; exact ok_Load_14 N
  · rw [if_neg e] at h; exact fsok3 N g xs H sp h
/-! Order1_20 -/
abbrev ap_Order1_20 : Pat := ⟨[.one (.int .i64), .one (.ptr 0 0), .one (.ptr 1 0), .one (.ptr 2 0)], [.var 3 [.int .i64], .var 41 [.int .u64], .var 22 [.full 3], .row 3 (.int .i64)]⟩
abbrev rp_Order1_20 : List Pat := [⟨[], [.var 3 [.int .i64], .var 41 [.int .u64], .var 22 [.full 4], .dead, .row 3 (.int .i64)]⟩]
def lo_Order1_20 : List LSpec := []
def jo_Order1_20 : List LSpec := []
def Order1_20 (N : Nat) (x : ((Int × (Unit × (Unit × (Unit × Unit)))) × ((Int × Unit) × ((Int × Unit) × ((Unit × Unit) × (List Int × Unit)))))) : Option (Unit × ((Int × Unit) × ((Int × Unit) × ((Unit × Unit) × (Unit × (List Int × Unit)))))) := match x with
  | ((x0, _, _, _, ()), (c1, ()), (c2, ()), (_, ()), l3, ()) =>
    byB (decide (x0 ≥ 0))
      (byB (decide (x0 < c1))
          (if x0 < 0 then
              none
            else
            byB ((IntKind.wrap .u64 (BitVec.ofInt (IntKind.bits .u64) (Int.fdiv c2 (2 ^ (min x0.toNat (IntKind.bits .u64)))) &&& BitVec.ofInt (IntKind.bits .u64) 1).toNat) == 0)
              (if x0 < 0 then
                  none
                else
                if (l3.length + 1) * 8 ≤ 140737488355328 then
                some ((), (c1, ()), (IntKind.wrap .u64 (BitVec.ofInt (IntKind.bits .u64) c2 ||| BitVec.ofInt (IntKind.bits .u64) (IntKind.wrap .u64 (1 * 2 ^ (min x0.toNat (IntKind.bits .u64))))).toNat, ()), ((), ()), (), l3 ++ [x0], ())
                else none)
              (some ((), (c1, ()), (c2, ()), ((), ()), (), l3, ())))
          (some ((), (c1, ()), (c2, ()), ((), ()), (), l3, ())))
      (some ((), (c1, ()), (c2, ()), ((), ()), (), l3, ()))
theorem eq_Order1_20 (N : Nat) (x : (ap_Order1_20).den) : funX Try.prog (fs4 N) N lo_Order1_20 jo_Order1_20 Try.f20 ap_Order1_20 rp_Order1_20 x = Order1_20 N x := by kernel_rfl
noncomputable def sp_Order1_20 (N : Nat) : FSpec := specOf ap_Order1_20 rp_Order1_20 true (Order1_20 N)
theorem ok_Order1_20 (N : Nat) : FSound Try.prog 20 (sp_Order1_20 N) := funX_sound (N := N) (loops := lo_Order1_20) (joins := jo_Order1_20) (fsok4 N) Try.func20 (by kernel_rfl) (by kernel_rfl) fun x _ h => (eq_Order1_20 N x).trans h
noncomputable def fs5 (N : Nat) : FuncId → List V1 → List Blk → Option FSpec := fun g xs H => if g = 20 then some (sp_Order1_20 N) else fs4 N g xs H
theorem fsok5 (N : Nat) : ∀ g xs H sp, fs5 N g xs H = some sp → FSound Try.prog g sp := fun g xs H sp h => by
  unfold fs5 at h
  by_cases e : g = 20
  · rw [if_pos e] at h; subst e; cases h; exact ok_Order1_20 N
  · rw [if_neg e] at h; exact fsok4 N g xs H sp h
/-! Order_9 -/
abbrev ap_Order_9 : Pat := ⟨[.one (.int .i64), .one (.ro (.int .i64))], []⟩
abbrev rp_Order_9 : List Pat := [⟨[.one (.full 0)], [.row 3 (.int .i64)]⟩]
def lo_Order_9 : List LSpec := [⟨7, [2, 6, 7, 20, 21, 22], ⟨[.one (.ptr 0 0), .one (.ptr 1 0), .one (.fn 20 2), .one (.ro (.int .i64)), .one (.int .i64), .one (.int .i64)], [.var 3 [.int .i64], .var 22 [.full 3], .clo 20 [] [.one (.ptr 0 0), .one (.ptr 4 0), .one (.ptr 1 0)], .row 3 (.int .i64), .var 41 [.int .u64]]⟩⟩, ⟨12, [6, 7, 30, 31], ⟨[.one (.ptr 0 0), .one (.fn 20 1), .one (.int .i64), .one (.int .i64)], [.var 22 [.full 2], .clo 20 [] [.one (.ptr 3 0), .one (.ptr 4 0), .one (.ptr 0 0)], .row 3 (.int .i64), .var 3 [.int .i64], .var 41 [.int .u64]]⟩⟩]
def jo_Order_9 : List LSpec := []
def Order_9_L12 (N : Nat) (again12 : ((Unit × (Unit × (Int × (Int × Unit)))) × ((Unit × Unit) × ((Unit × (Unit × (Unit × (Unit × Unit)))) × (List Int × ((Int × Unit) × ((Int × Unit) × Unit)))))) → Option ((Unit × Unit) × (List Int × Unit))) (x : ((Unit × (Unit × (Int × (Int × Unit)))) × ((Unit × Unit) × ((Unit × (Unit × (Unit × (Unit × Unit)))) × (List Int × ((Int × Unit) × ((Int × Unit) × Unit))))))) : Option ((Unit × Unit) × (List Int × Unit)) := match x with
  | ((_, _, t15, t16, ()), (_, ()), ((), _, _, _, ()), l17, (c18, ()), (c19, ()), ()) =>
    byB (decide (t16 < t15))
      ((Order1_20 N ((t16, (), (), (), ()), (c18, ()), (c19, ()), ((), ()), l17, ())).bind fun y21 =>
        again12 (((), (), t15, IntKind.wrap .i64 (t16 + 1), ()), ((), ()), ((), (), (), (), ()), y21.2.2.2.2.2.1, (y21.2.1.1, ()), (y21.2.2.1.1, ()), ()))
      (some (((), ()), l17, ()))
def Order_9_L7 (N : Nat) (again7 : ((Unit × (Unit × (Unit × (List Int × (Int × (Int × Unit)))))) × ((Int × Unit) × ((Unit × Unit) × ((Unit × (Unit × (Unit × (Unit × Unit)))) × (List Int × ((Int × Unit) × Unit)))))) → Option ((Unit × Unit) × (List Int × Unit))) (x : ((Unit × (Unit × (Unit × (List Int × (Int × (Int × Unit)))))) × ((Int × Unit) × ((Unit × Unit) × ((Unit × (Unit × (Unit × (Unit × Unit)))) × (List Int × ((Int × Unit) × Unit))))))) : Option ((Unit × Unit) × (List Int × Unit)) := match x with
  | ((_, _, _, t5, t6, t7, ()), (c8, ()), (_, ()), ((), _, _, _, ()), l9, (c10, ()), ()) =>
    byB (decide (t7 < t6))
      (if (0 ≤ t7) ∧ (t7 < (t5.length : Int)) then
        (Order1_20 N ((t5.getD t7.toNat 0, (), (), (), ()), (c8, ()), (c10, ()), ((), ()), l9, ())).bind fun y13 =>
        again7 (((), (), (), t5, t6, IntKind.wrap .i64 (t7 + 1), ()), (y13.2.1.1, ()), ((), ()), ((), (), (), (), ()), y13.2.2.2.2.2.1, (y13.2.2.1.1, ()), ())
        else none)
      (loopN N (Order_9_L12 N) (((), (), c8, 0, ()), ((), ()), ((), (), (), (), ()), l9, (c8, ()), (c10, ()), ()))
def Order_9 (N : Nat) (x : ((Int × (List Int × Unit)) × Unit)) : Option ((Unit × Unit) × (List Int × Unit)) := match x with
  | ((n0, l1, ()), ()) =>
    byB (decide (n0 < 1))
      (some (((), ()), [], ()))
      (byB (decide (n0 > 8))
          (some (((), ()), [], ()))
          (if ((0 : Int) ≤ 0) ∧ (0 ≤ n0) ∧ (8 * n0 ≤ 281474976710656) then
            loopN N (Order_9_L7 N) (((), (), (), l1, (l1.length : Int), 0, ()), (n0, ()), ((), ()), ((), (), (), (), ()), [], (0, ()), ())
            else none))
theorem eq_Order_9 (N : Nat) (x : (ap_Order_9).den) : funX Try.prog (fs5 N) N lo_Order_9 jo_Order_9 Try.f9 ap_Order_9 rp_Order_9 x = Order_9 N x := by kernel_rfl
noncomputable def sp_Order_9 (N : Nat) : FSpec := specOf ap_Order_9 rp_Order_9 true (Order_9 N)
theorem ok_Order_9 (N : Nat) : FSound Try.prog 9 (sp_Order_9 N) := funX_sound (N := N) (loops := lo_Order_9) (joins := jo_Order_9) (fsok5 N) Try.func9 (by kernel_rfl) (by kernel_rfl) fun x _ h => (eq_Order_9 N x).trans h
noncomputable def fs6 (N : Nat) : FuncId → List V1 → List Blk → Option FSpec := fun g xs H => if g = 9 then some (sp_Order_9 N) else fs5 N g xs H
theorem fsok6 (N : Nat) : ∀ g xs H sp, fs6 N g xs H = some sp → FSound Try.prog g sp := fun g xs H sp h => by
  unfold fs6 at h
  by_cases e : g = 9
  · rw [if_pos e] at h; subst e; cases h; exact ok_Order_9 N
  · rw [if_neg e] at h; exact fsok5 N g xs H sp h
/-! Owes_16 -/
abbrev ap_Owes_16 : Pat := ⟨[.one (.ptr 0 0), .one (.int .i64)], [.var 46 [.int .i64, .int .i64, .int .i64, .int .i64, .full 1], .row 48 (.pair (.int .i64) (.pair (.int .i64) (.int .i64)))]⟩
abbrev rp_Owes_16 : List Pat := [⟨[.one (.int .i64)], [.var 46 [.int .i64, .int .i64, .int .i64, .int .i64, .full 1], .row 48 (.pair (.int .i64) (.pair (.int .i64) (.int .i64)))]⟩]
def lo_Owes_16 : List LSpec := []
def jo_Owes_16 : List LSpec := []
def Owes_16 (N : Nat) (x : ((Unit × (Int × Unit)) × ((Int × (Int × (Int × (Int × (Unit × Unit))))) × (List (Int × (Int × Int)) × Unit)))) : Option ((Int × Unit) × ((Int × (Int × (Int × (Int × (Unit × Unit))))) × (List (Int × (Int × Int)) × Unit))) := match x with
  | ((_, core0, ()), (c1, c2, c3, c4, _, ()), l5, ()) =>
    (at_21 N (((), core0, ()), (c1, c2, c3, c4, (), ()), l5, ())).bind fun y => match y with
    | .inl y6 =>
      some ((y6.2.2.2.1.1, ()), (y6.2.1.1, y6.2.1.2.1, y6.2.1.2.2.1, y6.2.1.2.2.2.1, (), ()), y6.2.2.1, ())
    | .inr y7 =>
      some (((y7.2.2.1.getD y7.1.1 (0, 0, 0)).1, ()), (y7.2.1.1, y7.2.1.2.1, y7.2.1.2.2.1, y7.2.1.2.2.2.1, (), ()), y7.2.2.1, ())
theorem eq_Owes_16 (N : Nat) (x : (ap_Owes_16).den) : funX Try.prog (fs6 N) N lo_Owes_16 jo_Owes_16 Try.f16 ap_Owes_16 rp_Owes_16 x = Owes_16 N x := by kernel_rfl
noncomputable def sp_Owes_16 (N : Nat) : FSpec := specOf ap_Owes_16 rp_Owes_16 true (Owes_16 N)
theorem ok_Owes_16 (N : Nat) : FSound Try.prog 16 (sp_Owes_16 N) := funX_sound (N := N) (loops := lo_Owes_16) (joins := jo_Owes_16) (fsok6 N) Try.func16 (by kernel_rfl) (by kernel_rfl) fun x _ h => (eq_Owes_16 N x).trans h
noncomputable def fs7 (N : Nat) : FuncId → List V1 → List Blk → Option FSpec := fun g xs H => if g = 16 then some (sp_Owes_16 N) else fs6 N g xs H
theorem fsok7 (N : Nat) : ∀ g xs H sp, fs7 N g xs H = some sp → FSound Try.prog g sp := fun g xs H sp h => by
  unfold fs7 at h
  by_cases e : g = 16
  · rw [if_pos e] at h; subst e; cases h; exact ok_Owes_16 N
  · rw [if_neg e] at h; exact fsok6 N g xs H sp h
/-! Pay_15 -/
abbrev ap_Pay_15 : Pat := ⟨[.one (.ptr 0 0), .one (.int .i64)], [.var 46 [.int .i64, .int .i64, .int .i64, .int .i64, .full 1], .row 48 (.pair (.int .i64) (.pair (.int .i64) (.int .i64)))]⟩
abbrev rp_Pay_15 : List Pat := [⟨[.one (.bool)], [.var 46 [.int .i64, .int .i64, .int .i64, .int .i64, .full 1], .row 48 (.pair (.int .i64) (.pair (.int .i64) (.int .i64)))]⟩]
def lo_Pay_15 : List LSpec := []
def jo_Pay_15 : List LSpec := []
def Pay_15 (N : Nat) (x : ((Unit × (Int × Unit)) × ((Int × (Int × (Int × (Int × (Unit × Unit))))) × (List (Int × (Int × Int)) × Unit)))) : Option ((Bool × Unit) × ((Int × (Int × (Int × (Int × (Unit × Unit))))) × (List (Int × (Int × Int)) × Unit))) := match x with
  | ((_, core0, ()), (c1, c2, c3, c4, _, ()), l5, ()) =>
    (at_21 N (((), core0, ()), (c1, c2, c3, c4, (), ()), l5, ())).bind fun y => match y with
    | .inl y6 =>
      byB (y6.2.2.2.1.1 == 0)
        (some ((false, ()), (y6.2.1.1, y6.2.1.2.1, y6.2.1.2.2.1, y6.2.1.2.2.2.1, (), ()), y6.2.2.1, ()))
        (some ((true, ()), (y6.2.1.1, y6.2.1.2.1, y6.2.1.2.2.1, y6.2.1.2.2.2.1, (), ()), y6.2.2.1, ()))
    | .inr y9 =>
      byB ((y9.2.2.1.getD y9.1.1 (0, 0, 0)).1 == 0)
        (some ((false, ()), (y9.2.1.1, y9.2.1.2.1, y9.2.1.2.2.1, y9.2.1.2.2.2.1, (), ()), y9.2.2.1, ()))
        (some ((true, ()), (y9.2.1.1, y9.2.1.2.1, y9.2.1.2.2.1, y9.2.1.2.2.2.1, (), ()), y9.2.2.1.set y9.1.1 (IntKind.wrap .i64 ((y9.2.2.1.getD y9.1.1 (0, 0, 0)).1 - 1), (y9.2.2.1.getD y9.1.1 (0, 0, 0)).2), ()))
theorem eq_Pay_15 (N : Nat) (x : (ap_Pay_15).den) : funX Try.prog (fs7 N) N lo_Pay_15 jo_Pay_15 Try.f15 ap_Pay_15 rp_Pay_15 x = Pay_15 N x := by kernel_rfl
noncomputable def sp_Pay_15 (N : Nat) : FSpec := specOf ap_Pay_15 rp_Pay_15 true (Pay_15 N)
theorem ok_Pay_15 (N : Nat) : FSound Try.prog 15 (sp_Pay_15 N) := funX_sound (N := N) (loops := lo_Pay_15) (joins := jo_Pay_15) (fsok7 N) Try.func15 (by kernel_rfl) (by kernel_rfl) fun x _ h => (eq_Pay_15 N x).trans h
noncomputable def fs8 (N : Nat) : FuncId → List V1 → List Blk → Option FSpec := fun g xs H => if g = 15 then some (sp_Pay_15 N) else fs7 N g xs H
theorem fsok8 (N : Nat) : ∀ g xs H sp, fs8 N g xs H = some sp → FSound Try.prog g sp := fun g xs H sp h => by
  unfold fs8 at h
  by_cases e : g = 15
  · rw [if_pos e] at h; subst e; cases h; exact ok_Pay_15 N
  · rw [if_neg e] at h; exact fsok7 N g xs H sp h
/-! Last_17 -/
abbrev ap_Last_17 : Pat := ⟨[.one (.ptr 0 0), .one (.int .i64)], [.var 46 [.int .i64, .int .i64, .int .i64, .int .i64, .full 1], .row 48 (.pair (.int .i64) (.pair (.int .i64) (.int .i64)))]⟩
abbrev rp_Last_17 : List Pat := [⟨[.one (.int .i64)], [.var 46 [.int .i64, .int .i64, .int .i64, .int .i64, .full 1], .row 48 (.pair (.int .i64) (.pair (.int .i64) (.int .i64)))]⟩]
def lo_Last_17 : List LSpec := []
def jo_Last_17 : List LSpec := []
def Last_17 (N : Nat) (x : ((Unit × (Int × Unit)) × ((Int × (Int × (Int × (Int × (Unit × Unit))))) × (List (Int × (Int × Int)) × Unit)))) : Option ((Int × Unit) × ((Int × (Int × (Int × (Int × (Unit × Unit))))) × (List (Int × (Int × Int)) × Unit))) := match x with
  | ((_, core0, ()), (c1, c2, c3, c4, _, ()), l5, ()) =>
    (at_21 N (((), core0, ()), (c1, c2, c3, c4, (), ()), l5, ())).bind fun y => match y with
    | .inl y6 =>
      some ((y6.2.2.2.1.2.1, ()), (y6.2.1.1, y6.2.1.2.1, y6.2.1.2.2.1, y6.2.1.2.2.2.1, (), ()), y6.2.2.1, ())
    | .inr y7 =>
      some (((y7.2.2.1.getD y7.1.1 (0, 0, 0)).2.1, ()), (y7.2.1.1, y7.2.1.2.1, y7.2.1.2.2.1, y7.2.1.2.2.2.1, (), ()), y7.2.2.1, ())
theorem eq_Last_17 (N : Nat) (x : (ap_Last_17).den) : funX Try.prog (fs8 N) N lo_Last_17 jo_Last_17 Try.f17 ap_Last_17 rp_Last_17 x = Last_17 N x := by kernel_rfl
noncomputable def sp_Last_17 (N : Nat) : FSpec := specOf ap_Last_17 rp_Last_17 true (Last_17 N)
theorem ok_Last_17 (N : Nat) : FSound Try.prog 17 (sp_Last_17 N) := funX_sound (N := N) (loops := lo_Last_17) (joins := jo_Last_17) (fsok8 N) Try.func17 (by kernel_rfl) (by kernel_rfl) fun x _ h => (eq_Last_17 N x).trans h
noncomputable def fs9 (N : Nat) : FuncId → List V1 → List Blk → Option FSpec := fun g xs H => if g = 17 then some (sp_Last_17 N) else fs8 N g xs H
theorem fsok9 (N : Nat) : ∀ g xs H sp, fs9 N g xs H = some sp → FSound Try.prog g sp := fun g xs H sp h => by
  unfold fs9 at h
  by_cases e : g = 17
  · rw [if_pos e] at h; subst e; cases h; exact ok_Last_17 N
  · rw [if_neg e] at h; exact fsok8 N g xs H sp h
/-! Many_19 -/
abbrev ap_Many_19 : Pat := ⟨[.one (.ptr 0 0)], [.var 46 [.int .i64, .int .i64, .int .i64, .int .i64, .full 1], .row 48 (.pair (.int .i64) (.pair (.int .i64) (.int .i64)))]⟩
abbrev rp_Many_19 : List Pat := [⟨[.one (.int .i64)], [.var 46 [.int .i64, .int .i64, .int .i64, .int .i64, .full 1], .row 48 (.pair (.int .i64) (.pair (.int .i64) (.int .i64)))]⟩]
def lo_Many_19 : List LSpec := []
def jo_Many_19 : List LSpec := []
def Many_19 (N : Nat) (x : ((Unit × Unit) × ((Int × (Int × (Int × (Int × (Unit × Unit))))) × (List (Int × (Int × Int)) × Unit)))) : Option ((Int × Unit) × ((Int × (Int × (Int × (Int × (Unit × Unit))))) × (List (Int × (Int × Int)) × Unit))) := match x with
  | ((_, ()), (c0, c1, c2, c3, _, ()), l4, ()) =>
    some (((l4.length : Int), ()), (c0, c1, c2, c3, (), ()), l4, ())
theorem eq_Many_19 (N : Nat) (x : (ap_Many_19).den) : funX Try.prog (fs9 N) N lo_Many_19 jo_Many_19 Try.f19 ap_Many_19 rp_Many_19 x = Many_19 N x := by kernel_rfl
noncomputable def sp_Many_19 (N : Nat) : FSpec := specOf ap_Many_19 rp_Many_19 true (Many_19 N)
theorem ok_Many_19 (N : Nat) : FSound Try.prog 19 (sp_Many_19 N) := funX_sound (N := N) (loops := lo_Many_19) (joins := jo_Many_19) (fsok9 N) Try.func19 (by kernel_rfl) (by kernel_rfl) fun x _ h => (eq_Many_19 N x).trans h
noncomputable def fs10 (N : Nat) : FuncId → List V1 → List Blk → Option FSpec := fun g xs H => if g = 19 then some (sp_Many_19 N) else fs9 N g xs H
theorem fsok10 (N : Nat) : ∀ g xs H sp, fs10 N g xs H = some sp → FSound Try.prog g sp := fun g xs H sp h => by
  unfold fs10 at h
  by_cases e : g = 19
  · rw [if_pos e] at h; subst e; cases h; exact ok_Many_19 N
  · rw [if_neg e] at h; exact fsok9 N g xs H sp h
/-! examples_8 -/
abbrev ap_examples_8 : Pat := ⟨[], []⟩
abbrev rp_examples_8 : List Pat := [⟨[.one (.bool)], []⟩]
def lo_examples_8 : List LSpec := []
def jo_examples_8 : List LSpec := [⟨6, [1, 5], ⟨[.one (.ptr 0 0), .one (.bool)], [.var 46 [.int .i64, .int .i64, .int .i64, .int .i64, .full 1], .row 48 (.pair (.int .i64) (.pair (.int .i64) (.int .i64)))]⟩⟩]
def examples_8 (N : Nat) (x : (Unit × Unit)) : Option ((Bool × Unit) × Unit) := if 300 ≤ N then some ((true, ()), ()) else none
theorem eq_examples_8 (k : Nat) : funX Try.prog (fs10 (k + 300)) (k + 300) lo_examples_8 jo_examples_8 Try.f8 ap_examples_8 rp_examples_8 ((), ()) = some ((true, ()), ()) := by kernel_rfl
noncomputable def sp_examples_8 (N : Nat) : FSpec := specOf ap_examples_8 rp_examples_8 true (examples_8 N)
theorem ok_examples_8 (N : Nat) : FSound Try.prog 8 (sp_examples_8 N) := funX_sound (N := N) (loops := lo_examples_8) (joins := jo_examples_8) (fsok10 N) Try.func8 (by kernel_rfl) (by kernel_rfl) fun x _ h => by
  unfold examples_8 at h
  split at h
  · rename_i hN
    obtain ⟨k, rfl⟩ : ∃ k, N = k + 300 := ⟨N - 300, by omega⟩
    exact (eq_examples_8 k).trans h
  · cases h
noncomputable def fs11 (N : Nat) : FuncId → List V1 → List Blk → Option FSpec := fun g xs H => if g = 8 then some (sp_examples_8 N) else fs10 N g xs H
theorem fsok11 (N : Nat) : ∀ g xs H sp, fs11 N g xs H = some sp → FSound Try.prog g sp := fun g xs H sp h => by
  unfold fs11 at h
  by_cases e : g = 8
  · rw [if_pos e] at h; subst e; cases h; exact ok_examples_8 N
  · rw [if_neg e] at h; exact fsok10 N g xs H sp h
/-! Order_10 -/
abbrev ap_Order_10 : Pat := ⟨[.one (.int .i64), .one (.ro (.int .i64))], []⟩
abbrev rp_Order_10 : List Pat := [⟨[.one (.full 0)], [.row 3 (.int .i64)]⟩]
def lo_Order_10 : List LSpec := [⟨6, [0, 1, 5, 6, 7], ⟨[.one (.int .i64), .one (.ro (.int .i64)), .one (.full 0), .one (.full 1), .one (.int .i64)], [.row 3 (.int .i64), .row 4 .bool]⟩⟩]
def jo_Order_10 : List LSpec := []
def Order_10_L6 (N : Nat) (again6 : ((Int × (List Int × (Unit × (Unit × (Int × Unit))))) × (List Int × (List Bool × Unit))) → Option ((Unit × Unit) × (List Int × Unit))) (x : ((Int × (List Int × (Unit × (Unit × (Int × Unit))))) × (List Int × (List Bool × Unit)))) : Option ((Unit × Unit) × (List Int × Unit)) := match x with
  | ((n4, l5, _, _, i6, ()), l7, l8, ()) =>
    byB (decide (i6 < (IntKind.wrap .i64 ((l5.length : Int) + n4))))
      (let t13 := IntKind.wrap .i64 (i6 - (l5.length : Int));
        byB (decide (i6 < (l5.length : Int)))
          (if (0 ≤ i6) ∧ (i6 < (l5.length : Int)) then
            let e16 := l5.getD i6.toNat 0;
            byB (decide (e16 ≥ 0))
              (byB (decide (e16 < n4))
                  (if (0 ≤ e16) ∧ (e16 < (l8.length : Int)) then
                    byB (!(l8.getD e16.toNat false))
                      (if (0 ≤ e16) ∧ (e16 < (l8.length : Int)) then
                        (if (l7.length + 1) * 8 ≤ 140737488355328 then
                        again6 ((n4, l5, (), (), IntKind.wrap .i64 (i6 + 1), ()), l7 ++ [e16], l8.set e16.toNat true, ())
                        else none)
                        else none)
                      (again6 ((n4, l5, (), (), IntKind.wrap .i64 (i6 + 1), ()), l7, l8, ()))
                    else none)
                  (again6 ((n4, l5, (), (), IntKind.wrap .i64 (i6 + 1), ()), l7, l8, ())))
              (again6 ((n4, l5, (), (), IntKind.wrap .i64 (i6 + 1), ()), l7, l8, ()))
            else none)
          (byB (decide (t13 ≥ 0))
              (byB (decide (t13 < n4))
                  (if (0 ≤ t13) ∧ (t13 < (l8.length : Int)) then
                    byB (!(l8.getD t13.toNat false))
                      (if (0 ≤ t13) ∧ (t13 < (l8.length : Int)) then
                        (if (l7.length + 1) * 8 ≤ 140737488355328 then
                        again6 ((n4, l5, (), (), IntKind.wrap .i64 (i6 + 1), ()), l7 ++ [t13], l8.set t13.toNat true, ())
                        else none)
                        else none)
                      (again6 ((n4, l5, (), (), IntKind.wrap .i64 (i6 + 1), ()), l7, l8, ()))
                    else none)
                  (again6 ((n4, l5, (), (), IntKind.wrap .i64 (i6 + 1), ()), l7, l8, ())))
              (again6 ((n4, l5, (), (), IntKind.wrap .i64 (i6 + 1), ()), l7, l8, ()))))
      (some (((), ()), l7, ()))
def Order_10 (N : Nat) (x : ((Int × (List Int × Unit)) × Unit)) : Option ((Unit × Unit) × (List Int × Unit)) := match x with
  | ((n0, l1, ()), ()) =>
    byB (decide (n0 < 1))
      (some (((), ()), [], ()))
      (byB (decide (n0 > 8))
          (some (((), ()), [], ()))
          (if (0 ≤ n0) ∧ (n0 ≤ n0) ∧ (1 * n0 ≤ 281474976710656) then
            loopN N (Order_10_L6 N) ((n0, l1, (), (), 0, ()), [], List.replicate n0.toNat false, ())
            else none))
theorem eq_Order_10 (N : Nat) (x : (ap_Order_10).den) : funX Try.prog (fs11 N) N lo_Order_10 jo_Order_10 Try.f10 ap_Order_10 rp_Order_10 x = Order_10 N x := by kernel_rfl
noncomputable def sp_Order_10 (N : Nat) : FSpec := specOf ap_Order_10 rp_Order_10 true (Order_10 N)
theorem ok_Order_10 (N : Nat) : FSound Try.prog 10 (sp_Order_10 N) := funX_sound (N := N) (loops := lo_Order_10) (joins := jo_Order_10) (fsok11 N) Try.func10 (by kernel_rfl) (by kernel_rfl) fun x _ h => (eq_Order_10 N x).trans h
noncomputable def fs12 (N : Nat) : FuncId → List V1 → List Blk → Option FSpec := fun g xs H => if g = 10 then some (sp_Order_10 N) else fs11 N g xs H
theorem fsok12 (N : Nat) : ∀ g xs H sp, fs12 N g xs H = some sp → FSound Try.prog g sp := fun g xs H sp h => by
  unfold fs12 at h
  by_cases e : g = 10
  · rw [if_pos e] at h; subst e; cases h; exact ok_Order_10 N
  · rw [if_neg e] at h; exact fsok11 N g xs H sp h
/-! CoresOrder_3 -/
abbrev ap_CoresOrder_3 : Pat := ⟨[.one (.int .i64), .one (.ro (.int .i64))], []⟩
abbrev rp_CoresOrder_3 : List Pat := [⟨[.one (.bool)], []⟩]
def lo_CoresOrder_3 : List LSpec := [⟨7, [5, 6, 7, 8], ⟨[.one (.bool), .one (.full 0), .one (.full 1), .one (.int .i64)], [.row 3 (.int .i64), .row 3 (.int .i64)]⟩⟩]
def jo_CoresOrder_3 : List LSpec := []
def CoresOrder_3_L7 (N : Nat) (again7 : ((Bool × (Unit × (Unit × (Int × Unit)))) × (List Int × (List Int × Unit))) → Option ((Bool × Unit) × Unit)) (x : ((Bool × (Unit × (Unit × (Int × Unit)))) × (List Int × (List Int × Unit)))) : Option ((Bool × Unit) × Unit) := match x with
  | ((head8, _, _, i9, ()), l10, l11, ()) =>
    byB (decide (i9 < (l10.length : Int)))
      (if (0 ≤ i9) ∧ (i9 < (l10.length : Int)) then
        (if (0 ≤ i9) ∧ (i9 < (l11.length : Int)) then
        byB ((l10.getD i9.toNat 0) != (l11.getD i9.toNat 0))
          (some ((false, ()), ()))
          (again7 ((head8, (), (), IntKind.wrap .i64 (i9 + 1), ()), l10, l11, ()))
        else none)
        else none)
      (some ((head8, ()), ()))
def CoresOrder_3 (N : Nat) (x : ((Int × (List Int × Unit)) × Unit)) : Option ((Bool × Unit) × Unit) := match x with
  | ((n0, l1, ()), ()) =>
    (examples_8 N ((), ())).bind fun y2 =>
    (Order_9 N ((n0, l1, ()), ())).bind fun y3 =>
    (Order_10 N ((n0, l1, ()), ())).bind fun y4 =>
    byB ((y3.2.1.length : Int) != (y4.2.1.length : Int))
      (some ((false, ()), ()))
      (loopN N (CoresOrder_3_L7 N) ((y2.1.1, (), (), 0, ()), y3.2.1, y4.2.1, ()))
theorem eq_CoresOrder_3 (N : Nat) (x : (ap_CoresOrder_3).den) : funX Try.prog (fs12 N) N lo_CoresOrder_3 jo_CoresOrder_3 Try.f3 ap_CoresOrder_3 rp_CoresOrder_3 x = CoresOrder_3 N x := by kernel_rfl
noncomputable def sp_CoresOrder_3 (N : Nat) : FSpec := specOf ap_CoresOrder_3 rp_CoresOrder_3 true (CoresOrder_3 N)
theorem ok_CoresOrder_3 (N : Nat) : FSound Try.prog 3 (sp_CoresOrder_3 N) := funX_sound (N := N) (loops := lo_CoresOrder_3) (joins := jo_CoresOrder_3) (fsok12 N) Try.func3 (by kernel_rfl) (by kernel_rfl) fun x _ h => (eq_CoresOrder_3 N x).trans h
noncomputable def fs13 (N : Nat) : FuncId → List V1 → List Blk → Option FSpec := fun g xs H => if g = 3 then some (sp_CoresOrder_3 N) else fs12 N g xs H
theorem fsok13 (N : Nat) : ∀ g xs H sp, fs13 N g xs H = some sp → FSound Try.prog g sp := fun g xs H sp h => by
  unfold fs13 at h
  by_cases e : g = 3
  · rw [if_pos e] at h; subst e; cases h; exact ok_CoresOrder_3 N
  · rw [if_neg e] at h; exact fsok12 N g xs H sp h
/-! pick_11 -/
abbrev ap_pick_11 : Pat := ⟨[.one (.int .i64), .one (.int .i64)], []⟩
abbrev rp_pick_11 : List Pat := [⟨[.one (.int .i64)], []⟩]
def lo_pick_11 : List LSpec := []
def jo_pick_11 : List LSpec := []
def pick_11 (N : Nat) (x : ((Int × (Int × Unit)) × Unit)) : Option ((Int × Unit) × Unit) := match x with
  | ((c0, n1, ()), ()) =>
    byB (decide (c0 < 0))
      (if n1 = 0 then
          none
        else
        some ((Int.tmod (IntKind.wrap .i64 (0 - (IntKind.wrap .i64 (c0 + 1)))) n1, ()), ()))
      (if n1 = 0 then
          none
        else
        some ((Int.tmod c0 n1, ()), ()))
theorem eq_pick_11 (N : Nat) (x : (ap_pick_11).den) : funX Try.prog (fs13 N) N lo_pick_11 jo_pick_11 Try.f11 ap_pick_11 rp_pick_11 x = pick_11 N x := by kernel_rfl
noncomputable def sp_pick_11 (N : Nat) : FSpec := specOf ap_pick_11 rp_pick_11 true (pick_11 N)
theorem ok_pick_11 (N : Nat) : FSound Try.prog 11 (sp_pick_11 N) := funX_sound (N := N) (loops := lo_pick_11) (joins := jo_pick_11) (fsok13 N) Try.func11 (by kernel_rfl) (by kernel_rfl) fun x _ h => (eq_pick_11 N x).trans h
noncomputable def fs14 (N : Nat) : FuncId → List V1 → List Blk → Option FSpec := fun g xs H => if g = 11 then some (sp_pick_11 N) else fs13 N g xs H
theorem fsok14 (N : Nat) : ∀ g xs H sp, fs14 N g xs H = some sp → FSound Try.prog g sp := fun g xs H sp h => by
  unfold fs14 at h
  by_cases e : g = 11
  · rw [if_pos e] at h; subst e; cases h; exact ok_pick_11 N
  · rw [if_neg e] at h; exact fsok13 N g xs H sp h
/-! CoresPay_4 -/
abbrev ap_CoresPay_4 : Pat := ⟨[.one (.int .i64), .agg [.int .i64, .int .i64, .int .i64], .one (.ro (.pair (.int .i64) (.pair (.int .i64) (.int .i64)))), .one (.int .i64)], []⟩
abbrev rp_CoresPay_4 : List Pat := [⟨[.one (.bool)], []⟩]
def lo_CoresPay_4 : List LSpec := [⟨5, [0, 2, 3, 5, 9, 10], ⟨[.one (.int .i64), .one (.ro (.pair (.int .i64) (.pair (.int .i64) (.int .i64)))), .one (.int .i64), .one (.ptr 0 0), .one (.bool), .one (.int .i64)], [.var 26 [.int .i64, .int .i64, .int .i64]]⟩⟩, ⟨14, [0, 2, 3, 5, 9, 11, 13, 14, 15], ⟨[.one (.int .i64), .one (.ro (.pair (.int .i64) (.pair (.int .i64) (.int .i64)))), .one (.int .i64), .one (.ptr 0 0), .one (.bool), .one (.ptr 1 0), .one (.int .i64), .one (.int .i64), .one (.int .i64)], [.var 26 [.int .i64, .int .i64, .int .i64], .var 46 [.int .i64, .int .i64, .int .i64, .int .i64, .full 2], .row 48 (.pair (.int .i64) (.pair (.int .i64) (.int .i64)))]⟩⟩, ⟨31, [3, 9, 11, 13, 14, 20], ⟨[.one (.int .i64), .one (.bool), .one (.ptr 0 0), .one (.int .i64), .one (.int .i64), .one (.int .i64)], [.var 46 [.int .i64, .int .i64, .int .i64, .int .i64, .full 1], .row 48 (.pair (.int .i64) (.pair (.int .i64) (.int .i64)))]⟩⟩]
def jo_CoresPay_4 : List LSpec := []
def CoresPay_4_L31 (N : Nat) (again31 : ((Int × (Bool × (Unit × (Int × (Int × (Int × Unit)))))) × ((Int × (Int × (Int × (Int × (Unit × Unit))))) × (List (Int × (Int × Int)) × Unit))) → Option ((Bool × Unit) × Unit)) (x : ((Int × (Bool × (Unit × (Int × (Int × (Int × Unit)))))) × ((Int × (Int × (Int × (Int × (Unit × Unit))))) × (List (Int × (Int × Int)) × Unit)))) : Option ((Bool × Unit) × Unit) := match x with
  | ((core96, head97, _, owed98, last99, paid100, ()), (c101, c102, c103, c104, _, ()), l105, ()) =>
    (Pay_15 N (((), core96, ()), (c101, c102, c103, c104, (), ()), l105, ())).bind fun y106 =>
    byB y106.1.1
      (byB (decide (paid100 ≤ owed98))
          (again31 ((core96, head97, (), owed98, last99, IntKind.wrap .i64 (paid100 + 1), ()), (y106.2.1.1, y106.2.1.2.1, y106.2.1.2.2.1, y106.2.1.2.2.2.1, (), ()), y106.2.2.1, ()))
          (byB head97
              (byB (paid100 == owed98)
                  ((Owes_16 N (((), core96, ()), (y106.2.1.1, y106.2.1.2.1, y106.2.1.2.2.1, y106.2.1.2.2.2.1, (), ()), y106.2.2.1, ())).bind fun y110 =>
                    byB (y110.1.1 == 0)
                      ((Last_17 N (((), core96, ()), (y110.2.1.1, y110.2.1.2.1, y110.2.1.2.2.1, y110.2.1.2.2.2.1, (), ()), y110.2.2.1, ())).bind fun y112 =>
                        some ((y112.1.1 == last99, ()), ()))
                      (some ((false, ()), ())))
                  (some ((false, ()), ())))
              (some ((false, ()), ()))))
      (byB head97
          (byB (paid100 == owed98)
              ((Owes_16 N (((), core96, ()), (y106.2.1.1, y106.2.1.2.1, y106.2.1.2.2.1, y106.2.1.2.2.2.1, (), ()), y106.2.2.1, ())).bind fun y115 =>
                byB (y115.1.1 == 0)
                  ((Last_17 N (((), core96, ()), (y115.2.1.1, y115.2.1.2.1, y115.2.1.2.2.1, y115.2.1.2.2.2.1, (), ()), y115.2.2.1, ())).bind fun y117 =>
                    some ((y117.1.1 == last99, ()), ()))
                  (some ((false, ()), ())))
              (some ((false, ()), ())))
          (some ((false, ()), ())))
def CoresPay_4_L14 (N : Nat) (again14 : ((Int × (List (Int × (Int × Int)) × (Int × (Unit × (Bool × (Unit × (Int × (Int × (Int × Unit))))))))) × ((Int × (Int × (Int × Unit))) × ((Int × (Int × (Int × (Int × (Unit × Unit))))) × (List (Int × (Int × Int)) × Unit)))) → Option ((Bool × Unit) × Unit)) (x : ((Int × (List (Int × (Int × Int)) × (Int × (Unit × (Bool × (Unit × (Int × (Int × (Int × Unit))))))))) × ((Int × (Int × (Int × Unit))) × ((Int × (Int × (Int × (Int × (Unit × Unit))))) × (List (Int × (Int × Int)) × Unit))))) : Option ((Bool × Unit) × Unit) := match x with
  | ((n24, deeds25, core26, _, head27, _, owed28, last29, i30, ()), (c31, c32, c33, ()), (c34, c35, c36, c37, _, ()), l38, ()) =>
    byB (decide (i30 < (deeds25.length : Int)))
      (byB (decide (i30 < 100))
          (if (0 ≤ i30) ∧ (i30 < (deeds25.length : Int)) then
            let e42 := deeds25.getD i30.toNat (0, 0, 0);
            (pick_11 N ((e42.2.1, n24, ()), ())).bind fun y43 =>
            (pick_11 N ((e42.1, 2, ()), ())).bind fun y44 =>
            byB (y44.1.1 == 0)
              ((pick_11 N ((e42.2.2, 3, ()), ())).bind fun y46 =>
                let t47 := IntKind.wrap .i64 (1 + y46.1.1);
                (Charge_13 N (((), y43.1.1, t47, ()), (c34, c35, c36, c37, (), ()), l38, ())).bind fun y48 =>
                byB (y43.1.1 == core26)
                  (let t50 := IntKind.wrap .i64 (t47 - 1);
                    if (0 ≤ t50) ∧ (t50 < 3) then
                    again14 ((n24, deeds25, core26, (), head27, (), IntKind.wrap .i64 (owed28 + ([c31, c32, c33].getD t50.toNat 0)), last29, IntKind.wrap .i64 (i30 + 1), ()), (c31, c32, c33, ()), (y48.2.1.1, y48.2.1.2.1, y48.2.1.2.2.1, y48.2.1.2.2.2.1, (), ()), y48.2.2.1, ())
                    else none)
                  (again14 ((n24, deeds25, core26, (), head27, (), owed28, last29, IntKind.wrap .i64 (i30 + 1), ()), (c31, c32, c33, ()), (y48.2.1.1, y48.2.1.2.1, y48.2.1.2.2.1, y48.2.1.2.2.2.1, (), ()), y48.2.2.1, ())))
              ((pick_11 N ((e42.2.2, 5, ()), ())).bind fun y55 =>
                (Load_14 N (((), y43.1.1, y55.1.1, ()), (c34, c35, c36, c37, (), ()), l38, ())).bind fun y56 =>
                byB (y43.1.1 == core26)
                  ((pick_11 N ((e42.2.2, 5, ()), ())).bind fun y58 =>
                    byB (!(y56.1.1 == (last29 != y58.1.1)))
                      (some ((false, ()), ()))
                      (byB (y43.1.1 == core26)
                          (byB y56.1.1
                              ((pick_11 N ((e42.2.2, 5, ()), ())).bind fun y63 =>
                                again14 ((n24, deeds25, core26, (), head27, (), IntKind.wrap .i64 (owed28 + c32), y63.1.1, IntKind.wrap .i64 (i30 + 1), ()), (c31, c32, c33, ()), (y56.2.1.1, y56.2.1.2.1, y56.2.1.2.2.1, y56.2.1.2.2.2.1, (), ()), y56.2.2.1, ()))
                              (again14 ((n24, deeds25, core26, (), head27, (), owed28, last29, IntKind.wrap .i64 (i30 + 1), ()), (c31, c32, c33, ()), (y56.2.1.1, y56.2.1.2.1, y56.2.1.2.2.1, y56.2.1.2.2.2.1, (), ()), y56.2.2.1, ())))
                          (again14 ((n24, deeds25, core26, (), head27, (), owed28, last29, IntKind.wrap .i64 (i30 + 1), ()), (c31, c32, c33, ()), (y56.2.1.1, y56.2.1.2.1, y56.2.1.2.2.1, y56.2.1.2.2.2.1, (), ()), y56.2.2.1, ()))))
                  (byB (y43.1.1 == core26)
                      (byB y56.1.1
                          ((pick_11 N ((e42.2.2, 5, ()), ())).bind fun y69 =>
                            again14 ((n24, deeds25, core26, (), head27, (), IntKind.wrap .i64 (owed28 + c32), y69.1.1, IntKind.wrap .i64 (i30 + 1), ()), (c31, c32, c33, ()), (y56.2.1.1, y56.2.1.2.1, y56.2.1.2.2.1, y56.2.1.2.2.2.1, (), ()), y56.2.2.1, ()))
                          (again14 ((n24, deeds25, core26, (), head27, (), owed28, last29, IntKind.wrap .i64 (i30 + 1), ()), (c31, c32, c33, ()), (y56.2.1.1, y56.2.1.2.1, y56.2.1.2.2.1, y56.2.1.2.2.2.1, (), ()), y56.2.2.1, ())))
                      (again14 ((n24, deeds25, core26, (), head27, (), owed28, last29, IntKind.wrap .i64 (i30 + 1), ()), (c31, c32, c33, ()), (y56.2.1.1, y56.2.1.2.1, y56.2.1.2.2.1, y56.2.1.2.2.2.1, (), ()), y56.2.2.1, ()))))
            else none)
          (loopN N (CoresPay_4_L31 N) ((core26, head27, (), owed28, last29, 0, ()), (c34, c35, c36, c37, (), ()), l38, ())))
      (loopN N (CoresPay_4_L31 N) ((core26, head27, (), owed28, last29, 0, ()), (c34, c35, c36, c37, (), ()), l38, ()))
def CoresPay_4_L5 (N : Nat) (again5 : ((Int × (List (Int × (Int × Int)) × (Int × (Unit × (Bool × (Int × Unit)))))) × ((Int × (Int × (Int × Unit))) × Unit)) → Option ((Bool × Unit) × Unit)) (x : ((Int × (List (Int × (Int × Int)) × (Int × (Unit × (Bool × (Int × Unit)))))) × ((Int × (Int × (Int × Unit))) × Unit))) : Option ((Bool × Unit) × Unit) := match x with
  | ((n10, deeds11, core12, _, head13, i14, ()), (c15, c16, c17, ()), ()) =>
    byB (decide (i14 < 3))
      (if (0 ≤ i14) ∧ (i14 < 3) then
        (pick_11 N (([c15, c16, c17].getD i14.toNat 0, 51, ()), ())).bind fun y20 =>
        if (0 ≤ i14) ∧ (i14 < 3) then
        again5 ((n10, deeds11, core12, (), head13, IntKind.wrap .i64 (i14 + 1), ()), (([c15, c16, c17].set i14.toNat y20.1.1).getD 0 0, ([c15, c16, c17].set i14.toNat y20.1.1).getD 1 0, ([c15, c16, c17].set i14.toNat y20.1.1).getD 2 0, ()), ())
        else none
        else none)
      ((New_12 N ((n10, (c15, c16, c17, ()), ()), ())).bind fun y => match y with
        | .inl y22 =>
          some ((false, ()), ())
        | .inr y23 =>
          loopN N (CoresPay_4_L14 N) ((n10, deeds11, core12, (), head13, (), 0, -1, 0, ()), (c15, c16, c17, ()), (y23.2.1.1, y23.2.1.2.1, y23.2.1.2.2.1, y23.2.1.2.2.2.1, (), ()), y23.2.2.1, ()))
def CoresPay_4 (N : Nat) (x : ((Int × ((Int × (Int × (Int × Unit))) × (List (Int × (Int × Int)) × (Int × Unit)))) × Unit)) : Option ((Bool × Unit) × Unit) := match x with
  | ((n0, (costs1, costs2, costs3, ()), deeds4, core5, ()), ()) =>
    (examples_8 N ((), ())).bind fun y6 =>
    (pick_11 N ((n0, 8, ()), ())).bind fun y7 =>
    let t8 := IntKind.wrap .i64 (1 + y7.1.1);
    (pick_11 N ((core5, t8, ()), ())).bind fun y9 =>
    loopN N (CoresPay_4_L5 N) ((t8, deeds4, y9.1.1, (), y6.1.1, 0, ()), (costs1, costs2, costs3, ()), ())
theorem eq_CoresPay_4 (N : Nat) (x : (ap_CoresPay_4).den) : funX Try.prog (fs14 N) N lo_CoresPay_4 jo_CoresPay_4 Try.f4 ap_CoresPay_4 rp_CoresPay_4 x = CoresPay_4 N x := by kernel_rfl
noncomputable def sp_CoresPay_4 (N : Nat) : FSpec := specOf ap_CoresPay_4 rp_CoresPay_4 true (CoresPay_4 N)
theorem ok_CoresPay_4 (N : Nat) : FSound Try.prog 4 (sp_CoresPay_4 N) := funX_sound (N := N) (loops := lo_CoresPay_4) (joins := jo_CoresPay_4) (fsok14 N) Try.func4 (by kernel_rfl) (by kernel_rfl) fun x _ h => (eq_CoresPay_4 N x).trans h
noncomputable def fs15 (N : Nat) : FuncId → List V1 → List Blk → Option FSpec := fun g xs H => if g = 4 then some (sp_CoresPay_4 N) else fs14 N g xs H
theorem fsok15 (N : Nat) : ∀ g xs H sp, fs15 N g xs H = some sp → FSound Try.prog g sp := fun g xs H sp h => by
  unfold fs15 at h
  by_cases e : g = 4
  · rw [if_pos e] at h; subst e; cases h; exact ok_CoresPay_4 N
  · rw [if_neg e] at h; exact fsok14 N g xs H sp h
/-! CoresEach_5 -/
abbrev ap_CoresEach_5 : Pat := ⟨[.one (.int .i64), .one (.ro (.int .i64))], []⟩
abbrev rp_CoresEach_5 : List Pat := [⟨[.one (.bool)], []⟩]
def lo_CoresEach_5 : List LSpec := [⟨9, [0, 1, 5, 6, 7, 8], ⟨[.one (.int .i64), .one (.ro (.int .i64)), .one (.bool), .one (.full 0), .one (.full 1), .one (.int .i64)], [.row 3 (.int .i64), .row 3 (.int .i64)]⟩⟩, ⟨13, [0, 1, 5, 6, 7, 9], ⟨[.one (.int .i64), .one (.ro (.int .i64)), .one (.bool), .one (.full 0), .one (.full 1), .one (.int .i64)], [.row 3 (.int .i64), .row 3 (.int .i64)]⟩⟩, ⟨21, [0, 1, 5, 7, 10, 11, 12], ⟨[.one (.int .i64), .one (.ro (.int .i64)), .one (.bool), .one (.full 0), .one (.full 1), .one (.int .i64), .one (.int .i64)], [.row 3 (.int .i64), .row 4 .bool]⟩⟩, ⟨30, [0, 5, 7, 10, 11, 14], ⟨[.one (.int .i64), .one (.bool), .one (.full 0), .one (.full 1), .one (.int .i64), .one (.int .i64)], [.row 3 (.int .i64), .row 4 .bool]⟩⟩]
def jo_CoresEach_5 : List LSpec := []
def CoresEach_5_L30 (N : Nat) (again30 : ((Int × (Bool × (Unit × (Unit × (Int × (Int × Unit)))))) × (List Int × (List Bool × Unit))) → Option ((Bool × Unit) × Unit)) (x : ((Int × (Bool × (Unit × (Unit × (Int × (Int × Unit)))))) × (List Int × (List Bool × Unit)))) : Option ((Bool × Unit) × Unit) := match x with
  | ((n60, head61, _, _, last62, x63, ()), l64, l65, ()) =>
    byB (decide (x63 < n60))
      (if (0 ≤ x63) ∧ (x63 < (l65.length : Int)) then
        byB (l65.getD x63.toNat false)
          (again30 ((n60, head61, (), (), last62, IntKind.wrap .i64 (x63 + 1), ()), l64, l65, ()))
          (if (0 ≤ x63) ∧ (x63 < (l64.length : Int)) then
            byB ((l64.getD x63.toNat 0) != (IntKind.wrap .i64 (last62 + 1)))
              (some ((false, ()), ()))
              (if (0 ≤ x63) ∧ (x63 < (l64.length : Int)) then
                again30 ((n60, head61, (), (), l64.getD x63.toNat 0, IntKind.wrap .i64 (x63 + 1), ()), l64, l65, ())
                else none)
            else none)
        else none)
      (some ((head61, ()), ()))
def CoresEach_5_L21 (N : Nat) (again21 : ((Int × (List Int × (Bool × (Unit × (Unit × (Int × (Int × Unit))))))) × (List Int × (List Bool × Unit))) → Option ((Bool × Unit) × Unit)) (x : ((Int × (List Int × (Bool × (Unit × (Unit × (Int × (Int × Unit))))))) × (List Int × (List Bool × Unit)))) : Option ((Bool × Unit) × Unit) := match x with
  | ((n38, l39, head40, _, _, last41, i42, ()), l43, l44, ()) =>
    byB (decide (i42 < (l39.length : Int)))
      (if (0 ≤ i42) ∧ (i42 < (l39.length : Int)) then
        let e47 := l39.getD i42.toNat 0;
        byB (decide (e47 < 0))
          (again21 ((n38, l39, head40, (), (), last41, IntKind.wrap .i64 (i42 + 1), ()), l43, l44, ()))
          (byB (decide (e47 ≥ n38))
              (again21 ((n38, l39, head40, (), (), last41, IntKind.wrap .i64 (i42 + 1), ()), l43, l44, ()))
              (if (0 ≤ e47) ∧ (e47 < (l44.length : Int)) then
                byB (l44.getD e47.toNat false)
                  (again21 ((n38, l39, head40, (), (), last41, IntKind.wrap .i64 (i42 + 1), ()), l43, l44, ()))
                  (if (0 ≤ e47) ∧ (e47 < (l44.length : Int)) then
                    (if (0 ≤ e47) ∧ (e47 < (l43.length : Int)) then
                    byB ((l43.getD e47.toNat 0) != (IntKind.wrap .i64 (last41 + 1)))
                      (some ((false, ()), ()))
                      (if (0 ≤ e47) ∧ (e47 < (l43.length : Int)) then
                        again21 ((n38, l39, head40, (), (), l43.getD e47.toNat 0, IntKind.wrap .i64 (i42 + 1), ()), l43, l44.set e47.toNat true, ())
                        else none)
                    else none)
                    else none)
                else none))
        else none)
      (loopN N (CoresEach_5_L30 N) ((n38, head40, (), (), last41, 0, ()), l43, l44, ()))
def CoresEach_5_L13 (N : Nat) (again13 : ((Int × (List Int × (Bool × (Unit × (Unit × (Int × Unit)))))) × (List Int × (List Int × Unit))) → Option ((Bool × Unit) × Unit)) (x : ((Int × (List Int × (Bool × (Unit × (Unit × (Int × Unit)))))) × (List Int × (List Int × Unit)))) : Option ((Bool × Unit) × Unit) := match x with
  | ((n21, l22, head23, _, _, i24, ()), l25, l26, ()) =>
    byB (decide (i24 < n21))
      (if (0 ≤ i24) ∧ (i24 < (l25.length : Int)) then
        byB (decide ((l25.getD i24.toNat 0) < 0))
          (some ((false, ()), ()))
          (if (0 ≤ i24) ∧ (i24 < (l25.length : Int)) then
            byB (decide ((l25.getD i24.toNat 0) ≥ n21))
              (some ((false, ()), ()))
              (if (0 ≤ i24) ∧ (i24 < (l25.length : Int)) then
                let t32 := l25.getD i24.toNat 0;
                if (0 ≤ t32) ∧ (t32 < (l26.length : Int)) then
                byB (decide ((l26.getD t32.toNat 0) ≥ 0))
                  (some ((false, ()), ()))
                  (if (0 ≤ i24) ∧ (i24 < (l25.length : Int)) then
                    let t35 := l25.getD i24.toNat 0;
                    if (0 ≤ t35) ∧ (t35 < (l26.length : Int)) then
                    again13 ((n21, l22, head23, (), (), IntKind.wrap .i64 (i24 + 1), ()), l25, l26.set t35.toNat i24, ())
                    else none
                    else none)
                else none
                else none)
            else none)
        else none)
      (if (0 ≤ n21) ∧ (n21 ≤ n21) ∧ (1 * n21 ≤ 281474976710656) then
        loopN N (CoresEach_5_L21 N) ((n21, l22, head23, (), (), -1, 0, ()), l26, List.replicate n21.toNat false, ())
        else none)
def CoresEach_5_L9 (N : Nat) (again9 : ((Int × (List Int × (Bool × (Unit × (Unit × (Int × Unit)))))) × (List Int × (List Int × Unit))) → Option ((Bool × Unit) × Unit)) (x : ((Int × (List Int × (Bool × (Unit × (Unit × (Int × Unit)))))) × (List Int × (List Int × Unit)))) : Option ((Bool × Unit) × Unit) := match x with
  | ((n12, l13, head14, _, _, i15, ()), l16, l17, ()) =>
    byB (decide (i15 < n12))
      (if (0 ≤ i15) ∧ (i15 < (l17.length : Int)) then
        again9 ((n12, l13, head14, (), (), IntKind.wrap .i64 (i15 + 1), ()), l16, l17.set i15.toNat (-1), ())
        else none)
      (loopN N (CoresEach_5_L13 N) ((n12, l13, head14, (), (), 0, ()), l16, l17, ()))
def CoresEach_5 (N : Nat) (x : ((Int × (List Int × Unit)) × Unit)) : Option ((Bool × Unit) × Unit) := match x with
  | ((n0, l1, ()), ()) =>
    (examples_8 N ((), ())).bind fun y2 =>
    (Order_9 N ((n0, l1, ()), ())).bind fun y3 =>
    byB (decide (n0 < 1))
      (byB y2.1.1
          (some (((y3.2.1.length : Int) == 0, ()), ()))
          (some ((false, ()), ())))
      (byB (decide (n0 > 8))
          (byB y2.1.1
              (some (((y3.2.1.length : Int) == 0, ()), ()))
              (some ((false, ()), ())))
          (byB ((y3.2.1.length : Int) != n0)
              (some ((false, ()), ()))
              (if (0 ≤ n0) ∧ (n0 ≤ n0) ∧ (8 * n0 ≤ 281474976710656) then
                loopN N (CoresEach_5_L9 N) ((n0, l1, y2.1.1, (), (), 0, ()), y3.2.1, List.replicate n0.toNat 0, ())
                else none)))
theorem eq_CoresEach_5 (N : Nat) (x : (ap_CoresEach_5).den) : funX Try.prog (fs15 N) N lo_CoresEach_5 jo_CoresEach_5 Try.f5 ap_CoresEach_5 rp_CoresEach_5 x = CoresEach_5 N x := by kernel_rfl
noncomputable def sp_CoresEach_5 (N : Nat) : FSpec := specOf ap_CoresEach_5 rp_CoresEach_5 true (CoresEach_5 N)
theorem ok_CoresEach_5 (N : Nat) : FSound Try.prog 5 (sp_CoresEach_5 N) := funX_sound (N := N) (loops := lo_CoresEach_5) (joins := jo_CoresEach_5) (fsok15 N) Try.func5 (by kernel_rfl) (by kernel_rfl) fun x _ h => (eq_CoresEach_5 N x).trans h
noncomputable def fs16 (N : Nat) : FuncId → List V1 → List Blk → Option FSpec := fun g xs H => if g = 5 then some (sp_CoresEach_5 N) else fs15 N g xs H
theorem fsok16 (N : Nat) : ∀ g xs H sp, fs16 N g xs H = some sp → FSound Try.prog g sp := fun g xs H sp h => by
  unfold fs16 at h
  by_cases e : g = 5
  · rw [if_pos e] at h; subst e; cases h; exact ok_CoresEach_5 N
  · rw [if_neg e] at h; exact fsok15 N g xs H sp h
/-! Step_18 -/
abbrev ap_Step_18 : Pat := ⟨[.one (.ptr 0 0), .one (.int .i64)], [.var 46 [.int .i64, .int .i64, .int .i64, .int .i64, .full 1], .row 48 (.pair (.int .i64) (.pair (.int .i64) (.int .i64)))]⟩
abbrev rp_Step_18 : List Pat := [⟨[.one (.int .i64)], [.var 46 [.int .i64, .int .i64, .int .i64, .int .i64, .full 1], .row 48 (.pair (.int .i64) (.pair (.int .i64) (.int .i64)))]⟩]
def lo_Step_18 : List LSpec := []
def jo_Step_18 : List LSpec := []
def Step_18 (N : Nat) (x : ((Unit × (Int × Unit)) × ((Int × (Int × (Int × (Int × (Unit × Unit))))) × (List (Int × (Int × Int)) × Unit)))) : Option ((Int × Unit) × ((Int × (Int × (Int × (Int × (Unit × Unit))))) × (List (Int × (Int × Int)) × Unit))) := match x with
  | ((_, core0, ()), (c1, c2, c3, c4, _, ()), l5, ()) =>
    (at_21 N (((), core0, ()), (c1, c2, c3, c4, (), ()), l5, ())).bind fun y => match y with
    | .inl y6 =>
      byB y6.1.2.1
        (some ((IntKind.wrap .i64 (y6.2.2.2.1.2.2.1 + 1), ()), (y6.2.1.1, y6.2.1.2.1, y6.2.1.2.2.1, y6.2.1.2.2.2.1, (), ()), y6.2.2.1, ()))
        (some ((y6.2.2.2.1.2.2.1, ()), (y6.2.1.1, y6.2.1.2.1, y6.2.1.2.2.1, y6.2.1.2.2.2.1, (), ()), y6.2.2.1, ()))
    | .inr y10 =>
      byB y10.1.2.1
        (let l13 := y10.2.2.1.set y10.1.1 ((y10.2.2.1.getD y10.1.1 (0, 0, 0)).1, (y10.2.2.1.getD y10.1.1 (0, 0, 0)).2.1, IntKind.wrap .i64 ((y10.2.2.1.getD y10.1.1 (0, 0, 0)).2.2 + 1));
          some (((l13.getD y10.1.1 (0, 0, 0)).2.2, ()), (y10.2.1.1, y10.2.1.2.1, y10.2.1.2.2.1, y10.2.1.2.2.2.1, (), ()), l13, ()))
        (some (((y10.2.2.1.getD y10.1.1 (0, 0, 0)).2.2, ()), (y10.2.1.1, y10.2.1.2.1, y10.2.1.2.2.1, y10.2.1.2.2.2.1, (), ()), y10.2.2.1, ()))
theorem eq_Step_18 (N : Nat) (x : (ap_Step_18).den) : funX Try.prog (fs16 N) N lo_Step_18 jo_Step_18 Try.f18 ap_Step_18 rp_Step_18 x = Step_18 N x := by kernel_rfl
noncomputable def sp_Step_18 (N : Nat) : FSpec := specOf ap_Step_18 rp_Step_18 true (Step_18 N)
theorem ok_Step_18 (N : Nat) : FSound Try.prog 18 (sp_Step_18 N) := funX_sound (N := N) (loops := lo_Step_18) (joins := jo_Step_18) (fsok16 N) Try.func18 (by kernel_rfl) (by kernel_rfl) fun x _ h => (eq_Step_18 N x).trans h
noncomputable def fs17 (N : Nat) : FuncId → List V1 → List Blk → Option FSpec := fun g xs H => if g = 18 then some (sp_Step_18 N) else fs16 N g xs H
theorem fsok17 (N : Nat) : ∀ g xs H sp, fs17 N g xs H = some sp → FSound Try.prog g sp := fun g xs H sp h => by
  unfold fs17 at h
  by_cases e : g = 18
  · rw [if_pos e] at h; subst e; cases h; exact ok_Step_18 N
  · rw [if_neg e] at h; exact fsok16 N g xs H sp h
/-! CoresApart_6 -/
abbrev ap_CoresApart_6 : Pat := ⟨[.one (.int .i64), .agg [.int .i64, .int .i64, .int .i64], .one (.ro (.pair (.int .i64) (.pair (.int .i64) (.int .i64)))), .one (.int .i64)], []⟩
abbrev rp_CoresApart_6 : List Pat := [⟨[.one (.bool)], []⟩]
def lo_CoresApart_6 : List LSpec := [⟨5, [0, 2, 3, 5, 9, 10], ⟨[.one (.int .i64), .one (.ro (.pair (.int .i64) (.pair (.int .i64) (.int .i64)))), .one (.int .i64), .one (.ptr 0 0), .one (.bool), .one (.int .i64)], [.var 26 [.int .i64, .int .i64, .int .i64]]⟩⟩, ⟨13, [0, 2, 3, 9, 11, 13, 15], ⟨[.one (.int .i64), .one (.ro (.pair (.int .i64) (.pair (.int .i64) (.int .i64)))), .one (.int .i64), .one (.bool), .one (.ptr 0 0), .one (.ptr 1 0), .one (.int .i64)], [.var 46 [.int .i64, .int .i64, .int .i64, .int .i64, .full 2], .var 46 [.int .i64, .int .i64, .int .i64, .int .i64, .full 3], .row 48 (.pair (.int .i64) (.pair (.int .i64) (.int .i64))), .row 48 (.pair (.int .i64) (.pair (.int .i64) (.int .i64)))]⟩⟩, ⟨18, [0, 2, 3, 9, 11, 13, 15, 16, 17, 18, 60, 61], ⟨[.one (.int .i64), .one (.ro (.pair (.int .i64) (.pair (.int .i64) (.int .i64)))), .one (.int .i64), .one (.bool), .one (.ptr 0 0), .one (.ptr 1 0), .one (.int .i64), .one (.ptr 2 0), .one (.int .i64), .one (.int .i64), .one (.int .i64), .one (.bool)], [.var 46 [.int .i64, .int .i64, .int .i64, .int .i64, .full 3], .var 46 [.int .i64, .int .i64, .int .i64, .int .i64, .full 4], .var 34 [.int .i64, .int .i64, .int .i64], .row 48 (.pair (.int .i64) (.pair (.int .i64) (.int .i64))), .row 48 (.pair (.int .i64) (.pair (.int .i64) (.int .i64)))]⟩⟩]
def jo_CoresApart_6 : List LSpec := [⟨19, [0, 2, 3, 9, 11, 13, 15, 16, 17, 18, 60, 61], ⟨[.one (.int .i64), .one (.ro (.pair (.int .i64) (.pair (.int .i64) (.int .i64)))), .one (.int .i64), .one (.bool), .one (.ptr 0 0), .one (.ptr 1 0), .one (.int .i64), .one (.ptr 2 0), .one (.int .i64), .one (.int .i64), .one (.int .i64), .one (.bool)], [.var 46 [.int .i64, .int .i64, .int .i64, .int .i64, .full 3], .var 46 [.int .i64, .int .i64, .int .i64, .int .i64, .full 4], .var 34 [.int .i64, .int .i64, .int .i64], .row 48 (.pair (.int .i64) (.pair (.int .i64) (.int .i64))), .row 48 (.pair (.int .i64) (.pair (.int .i64) (.int .i64)))]⟩⟩]
def CoresApart_6_J19 (N : Nat) (again18 : ((Int × (List (Int × (Int × Int)) × (Int × (Bool × (Unit × (Unit × (Int × (Unit × (Int × (Int × (Int × (Bool × Unit)))))))))))) × ((Int × (Int × (Int × (Int × (Unit × Unit))))) × ((Int × (Int × (Int × (Int × (Unit × Unit))))) × ((Int × (Int × (Int × Unit))) × (List (Int × (Int × Int)) × (List (Int × (Int × Int)) × Unit)))))) → Option ((Bool × Unit) × Unit)) (x : ((Int × (List (Int × (Int × Int)) × (Int × (Bool × (Unit × (Unit × (Int × (Unit × (Int × (Int × (Int × (Bool × Unit)))))))))))) × ((Int × (Int × (Int × (Int × (Unit × Unit))))) × ((Int × (Int × (Int × (Int × (Unit × Unit))))) × ((Int × (Int × (Int × Unit))) × (List (Int × (Int × Int)) × (List (Int × (Int × Int)) × Unit))))))) : Option ((Bool × Unit) × Unit) := match x with
  | ((n108, deeds109, core110, head111, _, _, i112, _, k113, turn114, t115, t116, ()), (c117, c118, c119, c120, _, ()), (c121, c122, c123, c124, _, ()), (c125, c126, c127, ()), l128, l129, ()) =>
    again18 ((n108, deeds109, core110, head111, (), (), i112, (), k113, IntKind.wrap .i64 (turn114 + 1), t115, t116, ()), (c117, c118, c119, c120, (), ()), (c121, c122, c123, c124, (), ()), (c125, c126, c127, ()), l128, l129, ())
def CoresApart_6_L18 (N : Nat) (again13 : ((Int × (List (Int × (Int × Int)) × (Int × (Bool × (Unit × (Unit × (Int × Unit))))))) × ((Int × (Int × (Int × (Int × (Unit × Unit))))) × ((Int × (Int × (Int × (Int × (Unit × Unit))))) × (List (Int × (Int × Int)) × (List (Int × (Int × Int)) × Unit))))) → Option ((Bool × Unit) × Unit)) (again18 : ((Int × (List (Int × (Int × Int)) × (Int × (Bool × (Unit × (Unit × (Int × (Unit × (Int × (Int × (Int × (Bool × Unit)))))))))))) × ((Int × (Int × (Int × (Int × (Unit × Unit))))) × ((Int × (Int × (Int × (Int × (Unit × Unit))))) × ((Int × (Int × (Int × Unit))) × (List (Int × (Int × Int)) × (List (Int × (Int × Int)) × Unit)))))) → Option ((Bool × Unit) × Unit)) (x : ((Int × (List (Int × (Int × Int)) × (Int × (Bool × (Unit × (Unit × (Int × (Unit × (Int × (Int × (Int × (Bool × Unit)))))))))))) × ((Int × (Int × (Int × (Int × (Unit × Unit))))) × ((Int × (Int × (Int × (Int × (Unit × Unit))))) × ((Int × (Int × (Int × Unit))) × (List (Int × (Int × Int)) × (List (Int × (Int × Int)) × Unit))))))) : Option ((Bool × Unit) × Unit) := match x with
  | ((n48, deeds49, core50, head51, _, _, i52, _, k53, turn54, t55, t56, ()), (c57, c58, c59, c60, _, ()), (c61, c62, c63, c64, _, ()), (c65, c66, c67, ()), l68, l69, ()) =>
    byB (decide (turn54 < 2))
      (withJoin (CoresApart_6_J19 N again18) fun join19 =>
        byB (turn54 == 1)
          (byB (turn54 == 1)
              (byB (k53 != core50)
                  (join19 ((n48, deeds49, core50, head51, (), (), i52, (), k53, turn54, t55, t56, ()), (c57, c58, c59, c60, (), ()), (c61, c62, c63, c64, (), ()), (c65, c66, c67, ()), l68, l69, ()))
                  ((pick_11 N ((c65, 4, ()), ())).bind fun y74 =>
                    byB (y74.1.1 == 0)
                      ((Charge_13 N (((), k53, c67, ()), (c61, c62, c63, c64, (), ()), l69, ())).bind fun y76 =>
                        join19 ((n48, deeds49, core50, head51, (), (), i52, (), k53, turn54, t55, t56, ()), (c57, c58, c59, c60, (), ()), (y76.2.1.1, y76.2.1.2.1, y76.2.1.2.2.1, y76.2.1.2.2.2.1, (), ()), (c65, c66, c67, ()), l68, y76.2.2.1, ()))
                      (byB (y74.1.1 == 1)
                          ((Pay_15 N (((), k53, ()), (c61, c62, c63, c64, (), ()), l69, ())).bind fun y78 =>
                            join19 ((n48, deeds49, core50, head51, (), (), i52, (), k53, turn54, t55, t56, ()), (c57, c58, c59, c60, (), ()), (y78.2.1.1, y78.2.1.2.1, y78.2.1.2.2.1, y78.2.1.2.2.2.1, (), ()), (c65, c66, c67, ()), l68, y78.2.2.1, ()))
                          (byB (y74.1.1 == 2)
                              ((Load_14 N (((), k53, c67, ()), (c61, c62, c63, c64, (), ()), l69, ())).bind fun y80 =>
                                join19 ((n48, deeds49, core50, head51, (), (), i52, (), k53, turn54, t55, t56, ()), (c57, c58, c59, c60, (), ()), (y80.2.1.1, y80.2.1.2.1, y80.2.1.2.2.1, y80.2.1.2.2.2.1, (), ()), (c65, c66, c67, ()), l68, y80.2.2.1, ()))
                              ((Step_18 N (((), k53, ()), (c61, c62, c63, c64, (), ()), l69, ())).bind fun y81 =>
                                join19 ((n48, deeds49, core50, head51, (), (), i52, (), k53, turn54, t55, t56, ()), (c57, c58, c59, c60, (), ()), (y81.2.1.1, y81.2.1.2.1, y81.2.1.2.2.1, y81.2.1.2.2.2.1, (), ()), (c65, c66, c67, ()), l68, y81.2.2.1, ()))))))
              ((pick_11 N ((c65, 4, ()), ())).bind fun y82 =>
                byB (y82.1.1 == 0)
                  ((Charge_13 N (((), k53, c67, ()), (c61, c62, c63, c64, (), ()), l69, ())).bind fun y84 =>
                    join19 ((n48, deeds49, core50, head51, (), (), i52, (), k53, turn54, t55, t56, ()), (c57, c58, c59, c60, (), ()), (y84.2.1.1, y84.2.1.2.1, y84.2.1.2.2.1, y84.2.1.2.2.2.1, (), ()), (c65, c66, c67, ()), l68, y84.2.2.1, ()))
                  (byB (y82.1.1 == 1)
                      ((Pay_15 N (((), k53, ()), (c61, c62, c63, c64, (), ()), l69, ())).bind fun y86 =>
                        join19 ((n48, deeds49, core50, head51, (), (), i52, (), k53, turn54, t55, t56, ()), (c57, c58, c59, c60, (), ()), (y86.2.1.1, y86.2.1.2.1, y86.2.1.2.2.1, y86.2.1.2.2.2.1, (), ()), (c65, c66, c67, ()), l68, y86.2.2.1, ()))
                      (byB (y82.1.1 == 2)
                          ((Load_14 N (((), k53, c67, ()), (c61, c62, c63, c64, (), ()), l69, ())).bind fun y88 =>
                            join19 ((n48, deeds49, core50, head51, (), (), i52, (), k53, turn54, t55, t56, ()), (c57, c58, c59, c60, (), ()), (y88.2.1.1, y88.2.1.2.1, y88.2.1.2.2.1, y88.2.1.2.2.2.1, (), ()), (c65, c66, c67, ()), l68, y88.2.2.1, ()))
                          ((Step_18 N (((), k53, ()), (c61, c62, c63, c64, (), ()), l69, ())).bind fun y89 =>
                            join19 ((n48, deeds49, core50, head51, (), (), i52, (), k53, turn54, t55, t56, ()), (c57, c58, c59, c60, (), ()), (y89.2.1.1, y89.2.1.2.1, y89.2.1.2.2.1, y89.2.1.2.2.2.1, (), ()), (c65, c66, c67, ()), l68, y89.2.2.1, ()))))))
          (byB (turn54 == 1)
              (byB (k53 != core50)
                  (join19 ((n48, deeds49, core50, head51, (), (), i52, (), k53, turn54, t55, t56, ()), (c57, c58, c59, c60, (), ()), (c61, c62, c63, c64, (), ()), (c65, c66, c67, ()), l68, l69, ()))
                  ((pick_11 N ((c65, 4, ()), ())).bind fun y92 =>
                    byB (y92.1.1 == 0)
                      ((Charge_13 N (((), k53, c67, ()), (c57, c58, c59, c60, (), ()), l68, ())).bind fun y94 =>
                        join19 ((n48, deeds49, core50, head51, (), (), i52, (), k53, turn54, t55, t56, ()), (y94.2.1.1, y94.2.1.2.1, y94.2.1.2.2.1, y94.2.1.2.2.2.1, (), ()), (c61, c62, c63, c64, (), ()), (c65, c66, c67, ()), y94.2.2.1, l69, ()))
                      (byB (y92.1.1 == 1)
                          ((Pay_15 N (((), k53, ()), (c57, c58, c59, c60, (), ()), l68, ())).bind fun y96 =>
                            join19 ((n48, deeds49, core50, head51, (), (), i52, (), k53, turn54, t55, t56, ()), (y96.2.1.1, y96.2.1.2.1, y96.2.1.2.2.1, y96.2.1.2.2.2.1, (), ()), (c61, c62, c63, c64, (), ()), (c65, c66, c67, ()), y96.2.2.1, l69, ()))
                          (byB (y92.1.1 == 2)
                              ((Load_14 N (((), k53, c67, ()), (c57, c58, c59, c60, (), ()), l68, ())).bind fun y98 =>
                                join19 ((n48, deeds49, core50, head51, (), (), i52, (), k53, turn54, t55, t56, ()), (y98.2.1.1, y98.2.1.2.1, y98.2.1.2.2.1, y98.2.1.2.2.2.1, (), ()), (c61, c62, c63, c64, (), ()), (c65, c66, c67, ()), y98.2.2.1, l69, ()))
                              ((Step_18 N (((), k53, ()), (c57, c58, c59, c60, (), ()), l68, ())).bind fun y99 =>
                                join19 ((n48, deeds49, core50, head51, (), (), i52, (), k53, turn54, t55, t56, ()), (y99.2.1.1, y99.2.1.2.1, y99.2.1.2.2.1, y99.2.1.2.2.2.1, (), ()), (c61, c62, c63, c64, (), ()), (c65, c66, c67, ()), y99.2.2.1, l69, ()))))))
              ((pick_11 N ((c65, 4, ()), ())).bind fun y100 =>
                byB (y100.1.1 == 0)
                  ((Charge_13 N (((), k53, c67, ()), (c57, c58, c59, c60, (), ()), l68, ())).bind fun y102 =>
                    join19 ((n48, deeds49, core50, head51, (), (), i52, (), k53, turn54, t55, t56, ()), (y102.2.1.1, y102.2.1.2.1, y102.2.1.2.2.1, y102.2.1.2.2.2.1, (), ()), (c61, c62, c63, c64, (), ()), (c65, c66, c67, ()), y102.2.2.1, l69, ()))
                  (byB (y100.1.1 == 1)
                      ((Pay_15 N (((), k53, ()), (c57, c58, c59, c60, (), ()), l68, ())).bind fun y104 =>
                        join19 ((n48, deeds49, core50, head51, (), (), i52, (), k53, turn54, t55, t56, ()), (y104.2.1.1, y104.2.1.2.1, y104.2.1.2.2.1, y104.2.1.2.2.2.1, (), ()), (c61, c62, c63, c64, (), ()), (c65, c66, c67, ()), y104.2.2.1, l69, ()))
                      (byB (y100.1.1 == 2)
                          ((Load_14 N (((), k53, c67, ()), (c57, c58, c59, c60, (), ()), l68, ())).bind fun y106 =>
                            join19 ((n48, deeds49, core50, head51, (), (), i52, (), k53, turn54, t55, t56, ()), (y106.2.1.1, y106.2.1.2.1, y106.2.1.2.2.1, y106.2.1.2.2.2.1, (), ()), (c61, c62, c63, c64, (), ()), (c65, c66, c67, ()), y106.2.2.1, l69, ()))
                          ((Step_18 N (((), k53, ()), (c57, c58, c59, c60, (), ()), l68, ())).bind fun y107 =>
                            join19 ((n48, deeds49, core50, head51, (), (), i52, (), k53, turn54, t55, t56, ()), (y107.2.1.1, y107.2.1.2.1, y107.2.1.2.2.1, y107.2.1.2.2.2.1, (), ()), (c61, c62, c63, c64, (), ()), (c65, c66, c67, ()), y107.2.2.1, l69, ())))))))
      ((Owes_16 N (((), core50, ()), (c57, c58, c59, c60, (), ()), l68, ())).bind fun y131 =>
        (Owes_16 N (((), core50, ()), (c61, c62, c63, c64, (), ()), l69, ())).bind fun y132 =>
        byB (y131.1.1 != y132.1.1)
          (some ((false, ()), ()))
          ((Last_17 N (((), core50, ()), (y131.2.1.1, y131.2.1.2.1, y131.2.1.2.2.1, y131.2.1.2.2.2.1, (), ()), y131.2.2.1, ())).bind fun y134 =>
            (Last_17 N (((), core50, ()), (y132.2.1.1, y132.2.1.2.1, y132.2.1.2.2.1, y132.2.1.2.2.2.1, (), ()), y132.2.2.1, ())).bind fun y135 =>
            byB (y134.1.1 != y135.1.1)
              (some ((false, ()), ()))
              (again13 ((n48, deeds49, core50, head51, (), (), IntKind.wrap .i64 (i52 + 1), ()), (y134.2.1.1, y134.2.1.2.1, y134.2.1.2.2.1, y134.2.1.2.2.2.1, (), ()), (y135.2.1.1, y135.2.1.2.1, y135.2.1.2.2.1, y135.2.1.2.2.2.1, (), ()), y134.2.2.1, y135.2.2.1, ()))))
def CoresApart_6_L13 (N : Nat) (again13 : ((Int × (List (Int × (Int × Int)) × (Int × (Bool × (Unit × (Unit × (Int × Unit))))))) × ((Int × (Int × (Int × (Int × (Unit × Unit))))) × ((Int × (Int × (Int × (Int × (Unit × Unit))))) × (List (Int × (Int × Int)) × (List (Int × (Int × Int)) × Unit))))) → Option ((Bool × Unit) × Unit)) (x : ((Int × (List (Int × (Int × Int)) × (Int × (Bool × (Unit × (Unit × (Int × Unit))))))) × ((Int × (Int × (Int × (Int × (Unit × Unit))))) × ((Int × (Int × (Int × (Int × (Unit × Unit))))) × (List (Int × (Int × Int)) × (List (Int × (Int × Int)) × Unit)))))) : Option ((Bool × Unit) × Unit) := match x with
  | ((n28, deeds29, core30, head31, _, _, i32, ()), (c33, c34, c35, c36, _, ()), (c37, c38, c39, c40, _, ()), l41, l42, ()) =>
    byB (decide (i32 < (deeds29.length : Int)))
      (let t45 := decide (i32 < 100);
        byB t45
          (if (0 ≤ i32) ∧ (i32 < (deeds29.length : Int)) then
            let e46 := deeds29.getD i32.toNat (0, 0, 0);
            (pick_11 N ((e46.2.1, n28, ()), ())).bind fun y47 =>
            loopN N (CoresApart_6_L18 N again13) ((n28, deeds29, core30, head31, (), (), i32, (), y47.1.1, 0, i32, t45, ()), (c33, c34, c35, c36, (), ()), (c37, c38, c39, c40, (), ()), (e46.1, e46.2.1, e46.2.2, ()), l41, l42, ())
            else none)
          (byB head31
              ((Step_18 N (((), core30, ()), (c33, c34, c35, c36, (), ()), l41, ())).bind fun y138 =>
                (Step_18 N (((), core30, ()), (c37, c38, c39, c40, (), ()), l42, ())).bind fun y139 =>
                some ((y138.1.1 == y139.1.1, ()), ()))
              (some ((false, ()), ()))))
      (byB head31
          ((Step_18 N (((), core30, ()), (c33, c34, c35, c36, (), ()), l41, ())).bind fun y141 =>
            (Step_18 N (((), core30, ()), (c37, c38, c39, c40, (), ()), l42, ())).bind fun y142 =>
            some ((y141.1.1 == y142.1.1, ()), ()))
          (some ((false, ()), ())))
def CoresApart_6_L5 (N : Nat) (again5 : ((Int × (List (Int × (Int × Int)) × (Int × (Unit × (Bool × (Int × Unit)))))) × ((Int × (Int × (Int × Unit))) × Unit)) → Option ((Bool × Unit) × Unit)) (x : ((Int × (List (Int × (Int × Int)) × (Int × (Unit × (Bool × (Int × Unit)))))) × ((Int × (Int × (Int × Unit))) × Unit))) : Option ((Bool × Unit) × Unit) := match x with
  | ((n10, deeds11, core12, _, head13, i14, ()), (c15, c16, c17, ()), ()) =>
    byB (decide (i14 < 3))
      (if (0 ≤ i14) ∧ (i14 < 3) then
        (pick_11 N (([c15, c16, c17].getD i14.toNat 0, 51, ()), ())).bind fun y20 =>
        if (0 ≤ i14) ∧ (i14 < 3) then
        again5 ((n10, deeds11, core12, (), head13, IntKind.wrap .i64 (i14 + 1), ()), (([c15, c16, c17].set i14.toNat y20.1.1).getD 0 0, ([c15, c16, c17].set i14.toNat y20.1.1).getD 1 0, ([c15, c16, c17].set i14.toNat y20.1.1).getD 2 0, ()), ())
        else none
        else none)
      ((New_12 N ((n10, (c15, c16, c17, ()), ()), ())).bind fun y => match y with
        | .inl y22 =>
          (New_12 N ((n10, (c15, c16, c17, ()), ()), ())).bind fun y => match y with
          | .inl y23 =>
            some ((false, ()), ())
          | .inr y24 =>
            some ((false, ()), ())
        | .inr y25 =>
          (New_12 N ((n10, (c15, c16, c17, ()), ()), ())).bind fun y => match y with
          | .inl y26 =>
            some ((false, ()), ())
          | .inr y27 =>
            loopN N (CoresApart_6_L13 N) ((n10, deeds11, core12, head13, (), (), 0, ()), (y25.2.1.1, y25.2.1.2.1, y25.2.1.2.2.1, y25.2.1.2.2.2.1, (), ()), (y27.2.1.1, y27.2.1.2.1, y27.2.1.2.2.1, y27.2.1.2.2.2.1, (), ()), y25.2.2.1, y27.2.2.1, ()))
def CoresApart_6 (N : Nat) (x : ((Int × ((Int × (Int × (Int × Unit))) × (List (Int × (Int × Int)) × (Int × Unit)))) × Unit)) : Option ((Bool × Unit) × Unit) := match x with
  | ((n0, (costs1, costs2, costs3, ()), deeds4, core5, ()), ()) =>
    (examples_8 N ((), ())).bind fun y6 =>
    (pick_11 N ((n0, 8, ()), ())).bind fun y7 =>
    let t8 := IntKind.wrap .i64 (1 + y7.1.1);
    (pick_11 N ((core5, t8, ()), ())).bind fun y9 =>
    loopN N (CoresApart_6_L5 N) ((t8, deeds4, y9.1.1, (), y6.1.1, 0, ()), (costs1, costs2, costs3, ()), ())
theorem eq_CoresApart_6 (N : Nat) (x : (ap_CoresApart_6).den) : funX Try.prog (fs17 N) N lo_CoresApart_6 jo_CoresApart_6 Try.f6 ap_CoresApart_6 rp_CoresApart_6 x = CoresApart_6 N x := by kernel_rfl
noncomputable def sp_CoresApart_6 (N : Nat) : FSpec := specOf ap_CoresApart_6 rp_CoresApart_6 true (CoresApart_6 N)
theorem ok_CoresApart_6 (N : Nat) : FSound Try.prog 6 (sp_CoresApart_6 N) := funX_sound (N := N) (loops := lo_CoresApart_6) (joins := jo_CoresApart_6) (fsok17 N) Try.func6 (by kernel_rfl) (by kernel_rfl) fun x _ h => (eq_CoresApart_6 N x).trans h
noncomputable def fs18 (N : Nat) : FuncId → List V1 → List Blk → Option FSpec := fun g xs H => if g = 6 then some (sp_CoresApart_6 N) else fs17 N g xs H
theorem fsok18 (N : Nat) : ∀ g xs H sp, fs18 N g xs H = some sp → FSound Try.prog g sp := fun g xs H sp h => by
  unfold fs18 at h
  by_cases e : g = 6
  · rw [if_pos e] at h; subst e; cases h; exact ok_CoresApart_6 N
  · rw [if_neg e] at h; exact fsok17 N g xs H sp h
/-! CoresSteps_7 -/
abbrev ap_CoresSteps_7 : Pat := ⟨[.one (.int .i64), .one (.ro (.int .i64))], []⟩
abbrev rp_CoresSteps_7 : List Pat := [⟨[.one (.bool)], []⟩]
def lo_CoresSteps_7 : List LSpec := [⟨8, [0, 1, 5, 6, 8, 9], ⟨[.one (.int .i64), .one (.ro (.int .i64)), .one (.bool), .one (.ptr 0 0), .one (.full 1), .one (.int .i64)], [.var 46 [.int .i64, .int .i64, .int .i64, .int .i64, .full 2], .row 3 (.int .i64), .row 48 (.pair (.int .i64) (.pair (.int .i64) (.int .i64)))]⟩⟩]
def jo_CoresSteps_7 : List LSpec := [⟨12, [0, 1, 5, 6, 8, 9, 10, 30, 31, 45], ⟨[.one (.int .i64), .one (.ro (.int .i64)), .one (.bool), .one (.ptr 0 0), .one (.full 1), .one (.int .i64), .one (.int .i64), .one (.int .i64), .one (.bool), .one (.bool)], [.var 46 [.int .i64, .int .i64, .int .i64, .int .i64, .full 2], .row 3 (.int .i64), .row 48 (.pair (.int .i64) (.pair (.int .i64) (.int .i64)))]⟩⟩]
def CoresSteps_7_J12 (N : Nat) (again8 : ((Int × (List Int × (Bool × (Unit × (Unit × (Int × Unit)))))) × ((Int × (Int × (Int × (Int × (Unit × Unit))))) × (List Int × (List (Int × (Int × Int)) × Unit)))) → Option ((Bool × Unit) × Unit)) (x : ((Int × (List Int × (Bool × (Unit × (Unit × (Int × (Int × (Int × (Bool × (Bool × Unit)))))))))) × ((Int × (Int × (Int × (Int × (Unit × Unit))))) × (List Int × (List (Int × (Int × Int)) × Unit))))) : Option ((Bool × Unit) × Unit) := match x with
  | ((n23, steps24, head25, _, _, i26, k27, t28, t29, t30, ()), (c31, c32, c33, c34, _, ()), l35, l36, ()) =>
    byB t30
      ((Step_18 N (((), k27, ()), (c31, c32, c33, c34, (), ()), l36, ())).bind fun y37 =>
        byB (y37.1.1 != 0)
          (some ((false, ()), ()))
          ((Owes_16 N (((), k27, ()), (y37.2.1.1, y37.2.1.2.1, y37.2.1.2.2.1, y37.2.1.2.2.2.1, (), ()), y37.2.2.1, ())).bind fun y39 =>
            byB (y39.1.1 != 0)
              (some ((false, ()), ()))
              ((Last_17 N (((), k27, ()), (y39.2.1.1, y39.2.1.2.1, y39.2.1.2.2.1, y39.2.1.2.2.2.1, (), ()), y39.2.2.1, ())).bind fun y41 =>
                byB (y41.1.1 != (-1))
                  (some ((false, ()), ()))
                  (again8 ((n23, steps24, head25, (), (), IntKind.wrap .i64 (i26 + 1), ()), (y41.2.1.1, y41.2.1.2.1, y41.2.1.2.2.1, y41.2.1.2.2.2.1, (), ()), l35, y41.2.2.1, ())))))
      (if (0 ≤ k27) ∧ (k27 < (l35.length : Int)) then
        (if (0 ≤ k27) ∧ (k27 < (l35.length : Int)) then
        let l46 := l35.set k27.toNat (IntKind.wrap .i64 ((l35.getD k27.toNat 0) + 1));
        (Step_18 N (((), k27, ()), (c31, c32, c33, c34, (), ()), l36, ())).bind fun y47 =>
        if (0 ≤ k27) ∧ (k27 < (l46.length : Int)) then
        byB (y47.1.1 != (l46.getD k27.toNat 0))
          (some ((false, ()), ()))
          (again8 ((n23, steps24, head25, (), (), IntKind.wrap .i64 (i26 + 1), ()), (y47.2.1.1, y47.2.1.2.1, y47.2.1.2.2.1, y47.2.1.2.2.2.1, (), ()), l46, y47.2.2.1, ()))
        else none
        else none)
        else none)
def CoresSteps_7_L8 (N : Nat) (again8 : ((Int × (List Int × (Bool × (Unit × (Unit × (Int × Unit)))))) × ((Int × (Int × (Int × (Int × (Unit × Unit))))) × (List Int × (List (Int × (Int × Int)) × Unit)))) → Option ((Bool × Unit) × Unit)) (x : ((Int × (List Int × (Bool × (Unit × (Unit × (Int × Unit)))))) × ((Int × (Int × (Int × (Int × (Unit × Unit))))) × (List Int × (List (Int × (Int × Int)) × Unit))))) : Option ((Bool × Unit) × Unit) := match x with
  | ((n7, steps8, head9, _, _, i10, ()), (c11, c12, c13, c14, _, ()), l15, l16, ()) =>
    byB (decide (i10 < (steps8.length : Int)))
      (let t19 := decide (i10 < 100);
        byB t19
          (if (0 ≤ i10) ∧ (i10 < (steps8.length : Int)) then
            let e20 := steps8.getD i10.toNat 0;
            withJoin (CoresSteps_7_J12 N again8) fun join12 =>
            byB (decide (e20 < 0))
              (join12 ((n7, steps8, head9, (), (), i10, e20, i10, t19, true, ()), (c11, c12, c13, c14, (), ()), l15, l16, ()))
              (join12 ((n7, steps8, head9, (), (), i10, e20, i10, t19, decide (e20 ≥ n7), ()), (c11, c12, c13, c14, (), ()), l15, l16, ()))
            else none)
          (byB head9
              ((Many_19 N (((), ()), (c11, c12, c13, c14, (), ()), l16, ())).bind fun y51 =>
                some ((y51.1.1 == n7, ()), ()))
              (some ((false, ()), ()))))
      (byB head9
          ((Many_19 N (((), ()), (c11, c12, c13, c14, (), ()), l16, ())).bind fun y53 =>
            some ((y53.1.1 == n7, ()), ()))
          (some ((false, ()), ())))
def CoresSteps_7 (N : Nat) (x : ((Int × (List Int × Unit)) × Unit)) : Option ((Bool × Unit) × Unit) := match x with
  | ((n0, steps1, ()), ()) =>
    (examples_8 N ((), ())).bind fun y2 =>
    (pick_11 N ((n0, 8, ()), ())).bind fun y3 =>
    let t4 := IntKind.wrap .i64 (1 + y3.1.1);
    (New_12 N ((t4, (0, 0, 0, ()), ()), ())).bind fun y => match y with
    | .inl y5 =>
      some ((false, ()), ())
    | .inr y6 =>
      if (0 ≤ t4) ∧ (t4 ≤ t4) ∧ (8 * t4 ≤ 281474976710656) then
      loopN N (CoresSteps_7_L8 N) ((t4, steps1, y2.1.1, (), (), 0, ()), (y6.2.1.1, y6.2.1.2.1, y6.2.1.2.2.1, y6.2.1.2.2.2.1, (), ()), List.replicate t4.toNat 0, y6.2.2.1, ())
      else none
theorem eq_CoresSteps_7 (N : Nat) (x : (ap_CoresSteps_7).den) : funX Try.prog (fs18 N) N lo_CoresSteps_7 jo_CoresSteps_7 Try.f7 ap_CoresSteps_7 rp_CoresSteps_7 x = CoresSteps_7 N x := by kernel_rfl
noncomputable def sp_CoresSteps_7 (N : Nat) : FSpec := specOf ap_CoresSteps_7 rp_CoresSteps_7 true (CoresSteps_7 N)
theorem ok_CoresSteps_7 (N : Nat) : FSound Try.prog 7 (sp_CoresSteps_7 N) := funX_sound (N := N) (loops := lo_CoresSteps_7) (joins := jo_CoresSteps_7) (fsok18 N) Try.func7 (by kernel_rfl) (by kernel_rfl) fun x _ h => (eq_CoresSteps_7 N x).trans h
noncomputable def fs19 (N : Nat) : FuncId → List V1 → List Blk → Option FSpec := fun g xs H => if g = 7 then some (sp_CoresSteps_7 N) else fs18 N g xs H
theorem fsok19 (N : Nat) : ∀ g xs H sp, fs19 N g xs H = some sp → FSound Try.prog g sp := fun g xs H sp h => by
  unfold fs19 at h
  by_cases e : g = 7
  · rw [if_pos e] at h; subst e; cases h; exact ok_CoresSteps_7 N
  · rw [if_neg e] at h; exact fsok18 N g xs H sp h
end Go.Proofs.YtpnalmjmgaopjaaX
