/- Functions of the program as plain Lean, each with its equation (printed by a program of this seat's own). Conditions: none. -/
import Derived.Test.YtlheebdnplcmcaaM6
import Derived.Test.YtlheebdnplcmcaaProg
import Derived.KernelRfl
namespace Go.Proofs.YtlheebdnplcmcaaX
open Go Go.Proofs.YtlheebdnplcmcaaM
set_option maxRecDepth 100000
set_option linter.unusedVariables false
noncomputable def fs0 (_ : Nat) : FuncId → List V1 → List Blk → Option FSpec := fun _ _ _ => none
theorem fsok0 (N : Nat) : ∀ g xs H sp, fs0 N g xs H = some sp → FSound Try.prog g sp := fun _ _ _ _ h => by cases h
/-! one_19v1 -/
abbrev ap_one_19v1 : Pat := ⟨[], []⟩
abbrev rp_one_19v1 : List Pat := [⟨[.agg [.int .i64, .int .i64, .int .i64, .int .i64, .int .i64, .int .i64, .int .i64, .int .i64, .full 0]], [.row 40 (.pair (.int .i64) (.pair (.int .i64) (.pair (.int .i64) (.ro (.pair (.int .i64) (.pair (.int .i64) (.int .i64)))))))]⟩]
def lo_one_19v1 : List LSpec := []
def jo_one_19v1 : List LSpec := []
def one_19v1 (N : Nat) (x : (Unit × Unit)) : Option (((Int × (Int × (Int × (Int × (Int × (Int × (Int × (Int × (Unit × Unit))))))))) × Unit) × (List (Int × (Int × (Int × (List (Int × (Int × Int)))))) × Unit)) := match x with
  | ((), ()) =>
    some (((2, 1, 1, 0, 0, 0, 2, 0, (), ()), ()), [((10 : Int), (10 : Int), (3 : Int), [])], ())
theorem eq_one_19v1 (N : Nat) (x : (ap_one_19v1).den) : funX Try.prog (fs0 N) N 19 lo_one_19v1 jo_one_19v1 Try.f19 ap_one_19v1 rp_one_19v1 x = one_19v1 N x := by kernel_rfl
noncomputable def sp_one_19v1 (N : Nat) : FSpec := specOf ap_one_19v1 rp_one_19v1 false (one_19v1 N)
theorem ok_one_19v1 (N : Nat) : FSound Try.prog 19 (sp_one_19v1 N) := funX_sound (N := N) (loops := lo_one_19v1) (joins := jo_one_19v1) (fsok0 N) Try.func19 (by kernel_rfl) (by kernel_rfl) fun x _ h => (eq_one_19v1 N x).trans h
noncomputable def fs1 (N : Nat) : FuncId → List V1 → List Blk → Option FSpec := fun g xs H => if g = 19 then some (sp_one_19v1 N) else fs0 N g xs H
theorem fsok1 (N : Nat) : ∀ g xs H sp, fs1 N g xs H = some sp → FSound Try.prog g sp := fun g xs H sp h => by
  unfold fs1 at h
  by_cases e : g = 19
  · rw [if_pos e] at h; subst e; cases h; exact ok_one_19v1 N
  · rw [if_neg e] at h; exact fsok0 N g xs H sp h
/-! turnint_21v1 -/
abbrev ap_turnint_21v1 : Pat := ⟨[.one (.ro (.ro (.int .i64))), .one (.int .i64)], []⟩
abbrev rp_turnint_21v1 : List Pat := [⟨[.one (.ro (.int .i64)), .one (.bool)], []⟩]
def lo_turnint_21v1 : List LSpec := []
def jo_turnint_21v1 : List LSpec := []
def turnint_21v1 (N : Nat) (x : ((List (List Int) × (Int × Unit)) × Unit)) : Option ((List Int × (Bool × Unit)) × Unit) := match x with
  | ((l0, tick1, ()), ()) =>
    byB ((l0.length : Int) == 0)
      (some (([], false, ()), ()))
      (byB (decide (tick1 < 0))
          (some (([], false, ()), ()))
          (let t5 := (l0.length : Int);
            if t5 = 0 then
              none
            else
            let t6 := Int.tmod tick1 t5;
            if (0 ≤ t6) ∧ (t6 < (l0.length : Int)) then
            some ((l0.getD t6.toNat [], true, ()), ())
            else none))
theorem eq_turnint_21v1 (N : Nat) (x : (ap_turnint_21v1).den) : funX Try.prog (fs1 N) N 21 lo_turnint_21v1 jo_turnint_21v1 Try.f21 ap_turnint_21v1 rp_turnint_21v1 x = turnint_21v1 N x := by kernel_rfl
noncomputable def sp_turnint_21v1 (N : Nat) : FSpec := specOf ap_turnint_21v1 rp_turnint_21v1 false (turnint_21v1 N)
theorem ok_turnint_21v1 (N : Nat) : FSound Try.prog 21 (sp_turnint_21v1 N) := funX_sound (N := N) (loops := lo_turnint_21v1) (joins := jo_turnint_21v1) (fsok1 N) Try.func21 (by kernel_rfl) (by kernel_rfl) fun x _ h => (eq_turnint_21v1 N x).trans h
noncomputable def fs2 (N : Nat) : FuncId → List V1 → List Blk → Option FSpec := fun g xs H => if g = 21 then some (sp_turnint_21v1 N) else fs1 N g xs H
theorem fsok2 (N : Nat) : ∀ g xs H sp, fs2 N g xs H = some sp → FSound Try.prog g sp := fun g xs H sp h => by
  unfold fs2 at h
  by_cases e : g = 21
  · rw [if_pos e] at h; subst e; cases h; exact ok_turnint_21v1 N
  · rw [if_neg e] at h; exact fsok1 N g xs H sp h
/-! Order1_27 -/
abbrev ap_Order1_27 : Pat := ⟨[.one (.int .i64), .one (.ptr 0 0), .one (.ptr 1 0), .one (.ptr 2 0)], [.var 3 [.int .i64], .var 54 [.int .u64], .var 27 [.full 3], .row 3 (.int .i64)]⟩
abbrev rp_Order1_27 : List Pat := [⟨[], [.var 3 [.int .i64], .var 54 [.int .u64], .var 27 [.full 4], .dead, .row 3 (.int .i64)]⟩]
def lo_Order1_27 : List LSpec := []
def jo_Order1_27 : List LSpec := []
def Order1_27 (N : Nat) (x : ((Int × (Unit × (Unit × (Unit × Unit)))) × ((Int × Unit) × ((Int × Unit) × ((Unit × Unit) × (List Int × Unit)))))) : Option (Unit × ((Int × Unit) × ((Int × Unit) × ((Unit × Unit) × (Unit × (List Int × Unit)))))) := match x with
  | ((x0, _, _, _, ()), (c1, ()), (c2, ()), (_, ()), l3, ()) =>
    byB (decide (x0 ≥ 0))
      (byB (decide (x0 < c1))
          (if x0 < 0 then
              none
            else
            byB ((IntKind.wrap .u64 (BitVec.ofInt (IntKind.bits .u64) (Int.fdiv c2 (2 ^ (min x0.toNat (IntKind.bits .u64)))) &&& BitVec.ofInt (IntKind.bits .u64) 1).toNat) == 0)
              (if x0 < 0 then
                  none
                else
                if (l3.length + 1) * 8 ≤ 140737488355328 then
                some ((), (c1, ()), (IntKind.wrap .u64 (BitVec.ofInt (IntKind.bits .u64) c2 ||| BitVec.ofInt (IntKind.bits .u64) (IntKind.wrap .u64 (1 * 2 ^ (min x0.toNat (IntKind.bits .u64))))).toNat, ()), ((), ()), (), l3 ++ [x0], ())
                else none)
              (some ((), (c1, ()), (c2, ()), ((), ()), (), l3, ())))
          (some ((), (c1, ()), (c2, ()), ((), ()), (), l3, ())))
      (some ((), (c1, ()), (c2, ()), ((), ()), (), l3, ()))
theorem eq_Order1_27 (N : Nat) (x : (ap_Order1_27).den) : funX Try.prog (fs2 N) N 27 lo_Order1_27 jo_Order1_27 Try.f27 ap_Order1_27 rp_Order1_27 x = Order1_27 N x := by kernel_rfl
noncomputable def sp_Order1_27 (N : Nat) : FSpec := specOf ap_Order1_27 rp_Order1_27 true (Order1_27 N)
theorem ok_Order1_27 (N : Nat) : FSound Try.prog 27 (sp_Order1_27 N) := funX_sound (N := N) (loops := lo_Order1_27) (joins := jo_Order1_27) (fsok2 N) Try.func27 (by kernel_rfl) (by kernel_rfl) fun x _ h => (eq_Order1_27 N x).trans h
noncomputable def fs3 (N : Nat) : FuncId → List V1 → List Blk → Option FSpec := fun g xs H => if g = 27 then some (sp_Order1_27 N) else fs2 N g xs H
theorem fsok3 (N : Nat) : ∀ g xs H sp, fs3 N g xs H = some sp → FSound Try.prog g sp := fun g xs H sp h => by
  unfold fs3 at h
  by_cases e : g = 27
  · rw [if_pos e] at h; subst e; cases h; exact ok_Order1_27 N
  · rw [if_neg e] at h; exact fsok2 N g xs H sp h
/-! Order_22 -/
abbrev ap_Order_22 : Pat := ⟨[.one (.int .i64), .one (.ro (.int .i64))], []⟩
abbrev rp_Order_22 : List Pat := [⟨[.one (.full 0)], [.row 3 (.int .i64)]⟩]
def lo_Order_22 : List LSpec := [⟨7, [2, 6, 7, 20, 21, 22], ⟨[.one (.ptr 0 0), .one (.ptr 1 0), .one (.fn 27 2), .one (.ro (.int .i64)), .one (.int .i64), .one (.int .i64)], [.var 3 [.int .i64], .var 27 [.full 3], .clo 27 [] [.one (.ptr 0 0), .one (.ptr 4 0), .one (.ptr 1 0)], .row 3 (.int .i64), .var 54 [.int .u64]]⟩⟩, ⟨12, [6, 7, 30, 31], ⟨[.one (.ptr 0 0), .one (.fn 27 1), .one (.int .i64), .one (.int .i64)], [.var 27 [.full 2], .clo 27 [] [.one (.ptr 3 0), .one (.ptr 4 0), .one (.ptr 0 0)], .row 3 (.int .i64), .var 3 [.int .i64], .var 54 [.int .u64]]⟩⟩]
def jo_Order_22 : List LSpec := []
def Order_22_L12 (N : Nat) (again12 : ((Unit × (Unit × (Int × (Int × Unit)))) × ((Unit × Unit) × ((Unit × (Unit × (Unit × (Unit × Unit)))) × (List Int × ((Int × Unit) × ((Int × Unit) × Unit)))))) → Option ((Unit × Unit) × (List Int × Unit))) (x : ((Unit × (Unit × (Int × (Int × Unit)))) × ((Unit × Unit) × ((Unit × (Unit × (Unit × (Unit × Unit)))) × (List Int × ((Int × Unit) × ((Int × Unit) × Unit))))))) : Option ((Unit × Unit) × (List Int × Unit)) := match x with
  | ((_, _, t15, t16, ()), (_, ()), ((), _, _, _, ()), l17, (c18, ()), (c19, ()), ()) =>
    byB (decide (t16 < t15))
      ((Order1_27 N ((t16, (), (), (), ()), (c18, ()), (c19, ()), ((), ()), l17, ())).bind fun y21 =>
        again12 (((), (), t15, IntKind.wrap .i64 (t16 + 1), ()), ((), ()), ((), (), (), (), ()), y21.2.2.2.2.2.1, (y21.2.1.1, ()), (y21.2.2.1.1, ()), ()))
      (some (((), ()), l17, ()))
def Order_22_L7 (N : Nat) (again7 : ((Unit × (Unit × (Unit × (List Int × (Int × (Int × Unit)))))) × ((Int × Unit) × ((Unit × Unit) × ((Unit × (Unit × (Unit × (Unit × Unit)))) × (List Int × ((Int × Unit) × Unit)))))) → Option ((Unit × Unit) × (List Int × Unit))) (x : ((Unit × (Unit × (Unit × (List Int × (Int × (Int × Unit)))))) × ((Int × Unit) × ((Unit × Unit) × ((Unit × (Unit × (Unit × (Unit × Unit)))) × (List Int × ((Int × Unit) × Unit))))))) : Option ((Unit × Unit) × (List Int × Unit)) := match x with
  | ((_, _, _, t5, t6, t7, ()), (c8, ()), (_, ()), ((), _, _, _, ()), l9, (c10, ()), ()) =>
    byB (decide (t7 < t6))
      (if (0 ≤ t7) ∧ (t7 < (t5.length : Int)) then
        (Order1_27 N ((t5.getD t7.toNat 0, (), (), (), ()), (c8, ()), (c10, ()), ((), ()), l9, ())).bind fun y13 =>
        again7 (((), (), (), t5, t6, IntKind.wrap .i64 (t7 + 1), ()), (y13.2.1.1, ()), ((), ()), ((), (), (), (), ()), y13.2.2.2.2.2.1, (y13.2.2.1.1, ()), ())
        else none)
      (loopN N (Order_22_L12 N) (((), (), c8, 0, ()), ((), ()), ((), (), (), (), ()), l9, (c8, ()), (c10, ()), ()))
def Order_22 (N : Nat) (x : ((Int × (List Int × Unit)) × Unit)) : Option ((Unit × Unit) × (List Int × Unit)) := match x with
  | ((n0, l1, ()), ()) =>
    byB (decide (n0 < 1))
      (some (((), ()), [], ()))
      (byB (decide (n0 > 8))
          (some (((), ()), [], ()))
          (if ((0 : Int) ≤ 0) ∧ (0 ≤ n0) ∧ (8 * n0 ≤ 281474976710656) then
            loopN N (Order_22_L7 N) (((), (), (), l1, (l1.length : Int), 0, ()), (n0, ()), ((), ()), ((), (), (), (), ()), [], (0, ()), ())
            else none))
theorem eq_Order_22 (N : Nat) (x : (ap_Order_22).den) : funX Try.prog (fs3 N) N 22 lo_Order_22 jo_Order_22 Try.f22 ap_Order_22 rp_Order_22 x = Order_22 N x := by kernel_rfl
noncomputable def sp_Order_22 (N : Nat) : FSpec := specOf ap_Order_22 rp_Order_22 true (Order_22 N)
theorem ok_Order_22 (N : Nat) : FSound Try.prog 22 (sp_Order_22 N) := funX_sound (N := N) (loops := lo_Order_22) (joins := jo_Order_22) (fsok3 N) Try.func22 (by kernel_rfl) (by kernel_rfl) fun x _ h => (eq_Order_22 N x).trans h
noncomputable def fs4 (N : Nat) : FuncId → List V1 → List Blk → Option FSpec := fun g xs H => if g = 22 then some (sp_Order_22 N) else fs3 N g xs H
theorem fsok4 (N : Nat) : ∀ g xs H sp, fs4 N g xs H = some sp → FSound Try.prog g sp := fun g xs H sp h => by
  unfold fs4 at h
  by_cases e : g = 22
  · rw [if_pos e] at h; subst e; cases h; exact ok_Order_22 N
  · rw [if_neg e] at h; exact fsok3 N g xs H sp h
/-! Order_11 -/
abbrev ap_Order_11 : Pat := ⟨[.agg [.int .i64, .int .i64, .int .i64, .int .i64, .int .i64, .int .i64, .int .i64, .int .i64, .ro (.pair (.int .i64) (.pair (.int .i64) (.pair (.int .i64) (.ro (.pair (.int .i64) (.pair (.int .i64) (.int .i64)))))))], .agg [.int .i64, .ro (.pair (.int .i64) (.pair (.int .i64) (.int .i64))), .ro (.ro (.int .i64)), .ro (.int .i64)], .one (.int .i64)], []⟩
abbrev rp_Order_11 : List Pat := [⟨[.one (.full 0)], [.row 3 (.int .i64)]⟩]
def lo_Order_11 : List LSpec := []
def jo_Order_11 : List LSpec := []
def Order_11 (N : Nat) (x : (((Int × (Int × (Int × (Int × (Int × (Int × (Int × (Int × (List (Int × (Int × (Int × (List (Int × (Int × Int)))))) × Unit))))))))) × ((Int × (List (Int × (Int × Int)) × (List (List Int) × (List Int × Unit)))) × (Int × Unit))) × Unit)) : Option ((Unit × Unit) × (List Int × Unit)) := match x with
  | (((s0, s1, s2, s3, s4, s5, s6, s7, s8, ()), (x9, x10, x11, x12, ()), tick13, ()), ()) =>
    (turnint_21v1 N ((x11, tick13, ()), ())).bind fun y14 =>
    (Order_22 N ((s0, y14.1.1, ()), ())).bind fun y15 =>
    some (((), ()), y15.2.1, ())
theorem eq_Order_11 (N : Nat) (x : (ap_Order_11).den) : funX Try.prog (fs4 N) N 11 lo_Order_11 jo_Order_11 Try.f11 ap_Order_11 rp_Order_11 x = Order_11 N x := by kernel_rfl
noncomputable def sp_Order_11 (N : Nat) : FSpec := specOf ap_Order_11 rp_Order_11 true (Order_11 N)
theorem ok_Order_11 (N : Nat) : FSound Try.prog 11 (sp_Order_11 N) := funX_sound (N := N) (loops := lo_Order_11) (joins := jo_Order_11) (fsok4 N) Try.func11 (by kernel_rfl) (by kernel_rfl) fun x _ h => (eq_Order_11 N x).trans h
noncomputable def fs5 (N : Nat) : FuncId → List V1 → List Blk → Option FSpec := fun g xs H => if g = 11 then some (sp_Order_11 N) else fs4 N g xs H
theorem fsok5 (N : Nat) : ∀ g xs H sp, fs5 N g xs H = some sp → FSound Try.prog g sp := fun g xs H sp h => by
  unfold fs5 at h
  by_cases e : g = 11
  · rw [if_pos e] at h; subst e; cases h; exact ok_Order_11 N
  · rw [if_neg e] at h; exact fsok4 N g xs H sp h
/-! at_23v1 -/
abbrev ap_at_23v1 : Pat := ⟨[.agg [.int .i64, .ro (.pair (.int .i64) (.pair (.int .i64) (.int .i64))), .ro (.ro (.int .i64)), .ro (.int .i64)], .one (.int .i64)], []⟩
abbrev rp_at_23v1 : List Pat := [⟨[.one (.fn 28 0)], [.clo 28 [] [.one (.ptr 1 0), .one (.ptr 2 0)], .var 29 [.int .i64, .ro (.pair (.int .i64) (.pair (.int .i64) (.int .i64))), .ro (.ro (.int .i64)), .ro (.int .i64)], .var 3 [.int .i64]]⟩]
def lo_at_23v1 : List LSpec := []
def jo_at_23v1 : List LSpec := []
def at_23v1 (N : Nat) (x : (((Int × (List (Int × (Int × Int)) × (List (List Int) × (List Int × Unit)))) × (Int × Unit)) × Unit)) : Option ((Unit × Unit) × ((Unit × (Unit × (Unit × Unit))) × ((Int × (List (Int × (Int × Int)) × (List (List Int) × (List Int × Unit)))) × ((Int × Unit) × Unit)))) := match x with
  | (((x0, x1, x2, x3, ()), tick4, ()), ()) =>
    some (((), ()), ((), (), (), ()), (x0, x1, x2, x3, ()), (tick4, ()), ())
theorem eq_at_23v1 (N : Nat) (x : (ap_at_23v1).den) : funX Try.prog (fs5 N) N 23 lo_at_23v1 jo_at_23v1 Try.f23 ap_at_23v1 rp_at_23v1 x = at_23v1 N x := by kernel_rfl
noncomputable def sp_at_23v1 (N : Nat) : FSpec := specOf ap_at_23v1 rp_at_23v1 false (at_23v1 N)
theorem ok_at_23v1 (N : Nat) : FSound Try.prog 23 (sp_at_23v1 N) := funX_sound (N := N) (loops := lo_at_23v1) (joins := jo_at_23v1) (fsok5 N) Try.func23 (by kernel_rfl) (by kernel_rfl) fun x _ h => (eq_at_23v1 N x).trans h
noncomputable def fs6 (N : Nat) : FuncId → List V1 → List Blk → Option FSpec := fun g xs H => if g = 23 then some (sp_at_23v1 N) else fs5 N g xs H
theorem fsok6 (N : Nat) : ∀ g xs H sp, fs6 N g xs H = some sp → FSound Try.prog g sp := fun g xs H sp h => by
  unfold fs6 at h
  by_cases e : g = 23
  · rw [if_pos e] at h; subst e; cases h; exact ok_at_23v1 N
  · rw [if_neg e] at h; exact fsok5 N g xs H sp h
/-! At_12_R4 -/
abbrev ap_At_12_R4 : Pat := ⟨[.one (.ptr 0 0), .agg [.int .i64, .int .i64, .int .i64]], [.var 25 [.full 1], .row 34 (.pair (.int .i64) (.pair (.int .i64) (.int .i64)))]⟩
abbrev rp_At_12_R4 : List Pat := [⟨[.one (.bool)], [.var 25 [.full 2], .dead, .row 34 (.pair (.int .i64) (.pair (.int .i64) (.int .i64)))]⟩]
def lo_At_12_R4 : List LSpec := []
def jo_At_12_R4 : List LSpec := []
def At_12_R4 (N : Nat) (x : ((Unit × ((Int × (Int × (Int × Unit))) × Unit)) × ((Unit × Unit) × (List (Int × (Int × Int)) × Unit)))) : Option ((Bool × Unit) × ((Unit × Unit) × (Unit × (List (Int × (Int × Int)) × Unit)))) := match x with
  | ((_, (t0, t1, t2, ()), ()), (_, ()), l3, ()) =>
    if (l3.length + 1) * 24 ≤ 140737488355328 then
    some ((false, ()), ((), ()), (), l3 ++ [(t0, t1, t2)], ())
    else none
noncomputable def ri_At_12_R4 : Array Tmp × Code × Code := (rinfo Try.prog 13000004).getD default
theorem rt_At_12_R4 : rinfo Try.prog 13000004 = some ri_At_12_R4 := by kernel_rfl
theorem eq_At_12_R4 (N : Nat) (x : (ap_At_12_R4).den) : rndX Try.prog (fs6 N) N 0 lo_At_12_R4 jo_At_12_R4 (rnt Try.prog 13000004) ri_At_12_R4 ap_At_12_R4 rp_At_12_R4 x = At_12_R4 N x := by kernel_rfl
noncomputable def sp_At_12_R4 (N : Nat) : FSpec := rspecOf (ri_At_12_R4).1.size ap_At_12_R4 rp_At_12_R4 (At_12_R4 N)
theorem ok_At_12_R4 (N : Nat) : FSound Try.prog 13000004 (sp_At_12_R4 N) := rndX_sound (N := N) (gid := 0) (loops := lo_At_12_R4) (joins := jo_At_12_R4) (fsok6 N) rt_At_12_R4 rfl rfl fun x _ h => (eq_At_12_R4 N x).trans h
noncomputable def fs7 (N : Nat) : FuncId → List V1 → List Blk → Option FSpec := fun g xs H => if g = 13000004 then some (sp_At_12_R4 N) else fs6 N g xs H
theorem fsok7 (N : Nat) : ∀ g xs H sp, fs7 N g xs H = some sp → FSound Try.prog g sp := fun g xs H sp h => by
  unfold fs7 at h
  by_cases e : g = 13000004
  · rw [if_pos e] at h; subst e; cases h; exact ok_At_12_R4 N
  · rw [if_neg e] at h; exact fsok6 N g xs H sp h
/-! at1_28v1 -/
abbrev ap_at1_28v1 : Pat := ⟨[.one (.yl 0), .one (.ptr 1 0), .one (.ptr 2 0)], [.yld 13000004 [.one (.ptr 3 0)], .var 29 [.int .i64, .ro (.pair (.int .i64) (.pair (.int .i64) (.int .i64))), .ro (.ro (.int .i64)), .ro (.int .i64)], .var 3 [.int .i64], .var 25 [.full 4], .row 34 (.pair (.int .i64) (.pair (.int .i64) (.int .i64)))]⟩
abbrev rp_at1_28v1 : List Pat := [⟨[], [.yld 13000004 [.one (.ptr 3 0)], .var 29 [.int .i64, .ro (.pair (.int .i64) (.pair (.int .i64) (.int .i64))), .ro (.ro (.int .i64)), .ro (.int .i64)], .var 3 [.int .i64], .var 25 [.full 5], .dead, .row 34 (.pair (.int .i64) (.pair (.int .i64) (.int .i64)))]⟩]
def lo_at1_28v1 : List LSpec := [⟨1, [0, 2, 7, 8, 9], ⟨[.one (.yl 0), .one (.ptr 2 0), .one (.ro (.pair (.int .i64) (.pair (.int .i64) (.int .i64)))), .one (.int .i64), .one (.int .i64)], [.yld 13000004 [.one (.ptr 3 0)], .var 29 [.int .i64, .ro (.pair (.int .i64) (.pair (.int .i64) (.int .i64))), .ro (.ro (.int .i64)), .ro (.int .i64)], .var 3 [.int .i64], .var 25 [.full 5], .dead, .row 34 (.pair (.int .i64) (.pair (.int .i64) (.int .i64)))]⟩⟩]
def jo_at1_28v1 : List LSpec := []
def at1_28v1_L1 (N : Nat) (again1 : ((Unit × (Unit × (List (Int × (Int × Int)) × (Int × (Int × Unit))))) × (((Unit × Unit) × Bool) × ((Int × (List (Int × (Int × Int)) × (List (List Int) × (List Int × Unit)))) × ((Int × Unit) × ((Unit × Unit) × (Unit × (List (Int × (Int × Int)) × Unit))))))) → Option (Unit × (((Unit × Unit) × Bool) × ((Int × (List (Int × (Int × Int)) × (List (List Int) × (List Int × Unit)))) × ((Int × Unit) × ((Unit × Unit) × (Unit × (List (Int × (Int × Int)) × Unit)))))))) (x : ((Unit × (Unit × (List (Int × (Int × Int)) × (Int × (Int × Unit))))) × (((Unit × Unit) × Bool) × ((Int × (List (Int × (Int × Int)) × (List (List Int) × (List Int × Unit)))) × ((Int × Unit) × ((Unit × Unit) × (Unit × (List (Int × (Int × Int)) × Unit)))))))) : Option (Unit × (((Unit × Unit) × Bool) × ((Int × (List (Int × (Int × Int)) × (List (List Int) × (List Int × Unit)))) × ((Int × Unit) × ((Unit × Unit) × (Unit × (List (Int × (Int × Int)) × Unit))))))) := match x with
  | ((_, _, t8, t9, t10, ()), ((_, ()), d11), (c12, c13, c14, c15, ()), (c16, ()), (_, ()), _, l17, ()) =>
    byB (decide (t10 < t9))
      (if (0 ≤ t10) ∧ (t10 < (t8.length : Int)) then
        let e19 := t8.getD t10.toNat (0, 0, 0);
        byB (e19.2.1 == c16)
          (byB d11
              (none)
              ((At_12_R4 N (((), (e19.1, e19.2.1, e19.2.2, ()), ()), ((), ()), l17, ())).bind fun y21 =>
                byB y21.1.1
                  (some ((), (((), ()), true), (c12, c13, c14, c15, ()), (c16, ()), ((), ()), (), y21.2.2.2.1, ()))
                  (again1 (((), (), t8, t9, IntKind.wrap .i64 (t10 + 1), ()), (((), ()), false), (c12, c13, c14, c15, ()), (c16, ()), ((), ()), (), y21.2.2.2.1, ()))))
          (again1 (((), (), t8, t9, IntKind.wrap .i64 (t10 + 1), ()), (((), ()), d11), (c12, c13, c14, c15, ()), (c16, ()), ((), ()), (), l17, ()))
        else none)
      (some ((), (((), ()), d11), (c12, c13, c14, c15, ()), (c16, ()), ((), ()), (), l17, ()))
def at1_28v1 (N : Nat) (x : ((Unit × (Unit × (Unit × Unit))) × (((Unit × Unit) × Bool) × ((Int × (List (Int × (Int × Int)) × (List (List Int) × (List Int × Unit)))) × ((Int × Unit) × ((Unit × Unit) × (List (Int × (Int × Int)) × Unit))))))) : Option (Unit × (((Unit × Unit) × Bool) × ((Int × (List (Int × (Int × Int)) × (List (List Int) × (List Int × Unit)))) × ((Int × Unit) × ((Unit × Unit) × (Unit × (List (Int × (Int × Int)) × Unit))))))) := match x with
  | ((_, _, _, ()), ((_, ()), d0), (c1, c2, c3, c4, ()), (c5, ()), (_, ()), l6, ()) =>
    loopN N (at1_28v1_L1 N) (((), (), c2, (c2.length : Int), 0, ()), (((), ()), d0), (c1, c2, c3, c4, ()), (c5, ()), ((), ()), (), l6, ())
theorem eq_at1_28v1 (N : Nat) (x : (ap_at1_28v1).den) : funX Try.prog (fs7 N) N 28 lo_at1_28v1 jo_at1_28v1 Try.f28 ap_at1_28v1 rp_at1_28v1 x = at1_28v1 N x := by kernel_rfl
noncomputable def sp_at1_28v1 (N : Nat) : FSpec := specOf ap_at1_28v1 rp_at1_28v1 false (at1_28v1 N)
theorem ok_at1_28v1 (N : Nat) : FSound Try.prog 28 (sp_at1_28v1 N) := funX_sound (N := N) (loops := lo_at1_28v1) (joins := jo_at1_28v1) (fsok7 N) Try.func28 (by kernel_rfl) (by kernel_rfl) fun x _ h => (eq_at1_28v1 N x).trans h
noncomputable def fs8 (N : Nat) : FuncId → List V1 → List Blk → Option FSpec := fun g xs H => if g = 28 then some (sp_at1_28v1 N) else fs7 N g xs H
theorem fsok8 (N : Nat) : ∀ g xs H sp, fs8 N g xs H = some sp → FSound Try.prog g sp := fun g xs H sp h => by
  unfold fs8 at h
  by_cases e : g = 28
  · rw [if_pos e] at h; subst e; cases h; exact ok_at1_28v1 N
  · rw [if_neg e] at h; exact fsok7 N g xs H sp h
/-! At_12 -/
abbrev ap_At_12 : Pat := ⟨[.agg [.int .i64, .ro (.pair (.int .i64) (.pair (.int .i64) (.int .i64))), .ro (.ro (.int .i64)), .ro (.int .i64)], .one (.int .i64)], []⟩
abbrev rp_At_12 : List Pat := [⟨[.one (.full 0)], [.row 34 (.pair (.int .i64) (.pair (.int .i64) (.int .i64)))]⟩]
def lo_At_12 : List LSpec := []
def jo_At_12 : List LSpec := []
def At_12 (N : Nat) (x : (((Int × (List (Int × (Int × Int)) × (List (List Int) × (List Int × Unit)))) × (Int × Unit)) × Unit)) : Option ((Unit × Unit) × (List (Int × (Int × Int)) × Unit)) := match x with
  | (((x0, x1, x2, x3, ()), tick4, ()), ()) =>
    (at_23v1 N (((x0, x1, x2, x3, ()), tick4, ()), ())).bind fun y5 =>
    (at1_28v1 N (((), (), (), ()), (((), ()), false), (y5.2.2.1.1, y5.2.2.1.2.1, y5.2.2.1.2.2.1, y5.2.2.1.2.2.2.1, ()), (y5.2.2.2.1.1, ()), ((), ()), [], ())).bind fun y6 =>
    byB y6.2.1.2
      (some (((), ()), [], ()))
      (some (((), ()), y6.2.2.2.2.2.2.1, ()))
theorem eq_At_12 (N : Nat) (x : (ap_At_12).den) : funX Try.prog (fs8 N) N 12 lo_At_12 jo_At_12 Try.f12 ap_At_12 rp_At_12 x = At_12 N x := by kernel_rfl
noncomputable def sp_At_12 (N : Nat) : FSpec := specOf ap_At_12 rp_At_12 true (At_12 N)
theorem ok_At_12 (N : Nat) : FSound Try.prog 12 (sp_At_12 N) := funX_sound (N := N) (loops := lo_At_12) (joins := jo_At_12) (fsok8 N) Try.func12 (by kernel_rfl) (by kernel_rfl) fun x _ h => (eq_At_12 N x).trans h
noncomputable def fs9 (N : Nat) : FuncId → List V1 → List Blk → Option FSpec := fun g xs H => if g = 12 then some (sp_At_12 N) else fs8 N g xs H
theorem fsok9 (N : Nat) : ∀ g xs H sp, fs9 N g xs H = some sp → FSound Try.prog g sp := fun g xs H sp h => by
  unfold fs9 at h
  by_cases e : g = 12
  · rw [if_pos e] at h; subst e; cases h; exact ok_At_12 N
  · rw [if_neg e] at h; exact fsok8 N g xs H sp h
/-! between_32 -/
abbrev ap_between_32 : Pat := ⟨[.one (.int .i64), .one (.int .i64), .one (.int .i64)], []⟩
abbrev rp_between_32 : List Pat := [⟨[.one (.bool)], []⟩]
def lo_between_32 : List LSpec := []
def jo_between_32 : List LSpec := []
def between_32 (N : Nat) (x : ((Int × (Int × (Int × Unit))) × Unit)) : Option ((Bool × Unit) × Unit) := match x with
  | ((n0, a1, b2, ()), ()) =>
    byB (decide (n0 ≥ a1))
      (some ((decide (n0 ≤ b2), ()), ()))
      (some ((false, ()), ()))
theorem eq_between_32 (N : Nat) (x : (ap_between_32).den) : funX Try.prog (fs9 N) N 32 lo_between_32 jo_between_32 Try.f32 ap_between_32 rp_between_32 x = between_32 N x := by kernel_rfl
noncomputable def sp_between_32 (N : Nat) : FSpec := specOf ap_between_32 rp_between_32 true (between_32 N)
theorem ok_between_32 (N : Nat) : FSound Try.prog 32 (sp_between_32 N) := funX_sound (N := N) (loops := lo_between_32) (joins := jo_between_32) (fsok9 N) Try.func32 (by kernel_rfl) (by kernel_rfl) fun x _ h => (eq_between_32 N x).trans h
noncomputable def fs10 (N : Nat) : FuncId → List V1 → List Blk → Option FSpec := fun g xs H => if g = 32 then some (sp_between_32 N) else fs9 N g xs H
theorem fsok10 (N : Nat) : ∀ g xs H sp, fs10 N g xs H = some sp → FSound Try.prog g sp := fun g xs H sp h => by
  unfold fs10 at h
  by_cases e : g = 32
  · rw [if_pos e] at h; subst e; cases h; exact ok_between_32 N
  · rw [if_neg e] at h; exact fsok9 N g xs H sp h
/-! whole_31 -/
abbrev ap_whole_31 : Pat := ⟨[.agg [.int .i64, .int .i64, .int .i64, .int .i64, .int .i64, .int .i64, .int .i64, .int .i64, .ro (.pair (.int .i64) (.pair (.int .i64) (.pair (.int .i64) (.ro (.pair (.int .i64) (.pair (.int .i64) (.int .i64)))))))]], []⟩
abbrev rp_whole_31 : List Pat := [⟨[.one (.bool)], []⟩]
def lo_whole_31 : List LSpec := []
def jo_whole_31 : List LSpec := [⟨4, [1, 13], ⟨[.one (.ptr 0 0), .one (.bool)], [.var 24 [.int .i64, .int .i64, .int .i64, .int .i64, .int .i64, .int .i64, .int .i64, .int .i64, .ro (.pair (.int .i64) (.pair (.int .i64) (.pair (.int .i64) (.ro (.pair (.int .i64) (.pair (.int .i64) (.int .i64)))))))]]⟩⟩, ⟨2, [1, 4], ⟨[.one (.ptr 0 0), .one (.bool)], [.var 24 [.int .i64, .int .i64, .int .i64, .int .i64, .int .i64, .int .i64, .int .i64, .int .i64, .ro (.pair (.int .i64) (.pair (.int .i64) (.pair (.int .i64) (.ro (.pair (.int .i64) (.pair (.int .i64) (.int .i64)))))))]]⟩⟩, ⟨5, [1], ⟨[.one (.ptr 0 0)], [.var 24 [.int .i64, .int .i64, .int .i64, .int .i64, .int .i64, .int .i64, .int .i64, .int .i64, .ro (.pair (.int .i64) (.pair (.int .i64) (.pair (.int .i64) (.ro (.pair (.int .i64) (.pair (.int .i64) (.int .i64)))))))]]⟩⟩]
def whole_31_J4 (N : Nat) (join5 : ((Unit × Unit) × ((Int × (Int × (Int × (Int × (Int × (Int × (Int × (Int × (List (Int × (Int × (Int × (List (Int × (Int × Int)))))) × Unit))))))))) × Unit)) → Option ((Bool × Unit) × Unit)) (x : ((Unit × (Bool × Unit)) × ((Int × (Int × (Int × (Int × (Int × (Int × (Int × (Int × (List (Int × (Int × (Int × (List (Int × (Int × Int)))))) × Unit))))))))) × Unit))) : Option ((Bool × Unit) × Unit) := match x with
  | ((_, t24, ()), (c25, c26, c27, c28, c29, c30, c31, c32, c33, ()), ()) =>
    byB t24
      (some ((false, ()), ()))
      (join5 (((), ()), (c25, c26, c27, c28, c29, c30, c31, c32, c33, ()), ()))
def whole_31_J2 (N : Nat) (join5 : ((Unit × Unit) × ((Int × (Int × (Int × (Int × (Int × (Int × (Int × (Int × (List (Int × (Int × (Int × (List (Int × (Int × Int)))))) × Unit))))))))) × Unit)) → Option ((Bool × Unit) × Unit)) (x : ((Unit × (Bool × Unit)) × ((Int × (Int × (Int × (Int × (Int × (Int × (Int × (Int × (List (Int × (Int × (Int × (List (Int × (Int × Int)))))) × Unit))))))))) × Unit))) : Option ((Bool × Unit) × Unit) := match x with
  | ((_, t11, ()), (c12, c13, c14, c15, c16, c17, c18, c19, c20, ()), ()) =>
    byB t11
      (some ((false, ()), ()))
      (withJoin (whole_31_J4 N join5) fun join4 =>
        byB (c14 != 1)
          (byB (c14 != 2)
              (join4 (((), true, ()), (c12, c13, c14, c15, c16, c17, c18, c19, c20, ()), ()))
              (join4 (((), c13 != 1, ()), (c12, c13, c14, c15, c16, c17, c18, c19, c20, ()), ())))
          (join4 (((), false, ()), (c12, c13, c14, c15, c16, c17, c18, c19, c20, ()), ())))
def whole_31_J5 (N : Nat) (x : ((Unit × Unit) × ((Int × (Int × (Int × (Int × (Int × (Int × (Int × (Int × (List (Int × (Int × (Int × (List (Int × (Int × Int)))))) × Unit))))))))) × Unit))) : Option ((Bool × Unit) × Unit) := match x with
  | ((_, ()), (c34, c35, c36, c37, c38, c39, c40, c41, c42, ()), ()) =>
    (between_32 N ((c37, 0, 50, ()), ())).bind fun y43 =>
    byB y43.1.1
      ((between_32 N ((c38, 0, 50, ()), ())).bind fun y44 =>
        byB y44.1.1
          ((between_32 N ((c39, 0, 50, ()), ())).bind fun y45 =>
            byB y45.1.1
              ((between_32 N ((c34, 1, 8, ()), ())).bind fun y46 =>
                byB y46.1.1
                  ((between_32 N ((c40, 1, 50, ()), ())).bind fun y47 =>
                    byB y47.1.1
                      ((between_32 N ((c41, 0, 8, ()), ())).bind fun y48 =>
                        byB y48.1.1
                          ((between_32 N (((c42.length : Int), 1, 24, ()), ())).bind fun y50 =>
                            some ((y50.1.1, ()), ()))
                          (some ((false, ()), ())))
                      (some ((false, ()), ())))
                  (some ((false, ()), ())))
              (some ((false, ()), ())))
          (some ((false, ()), ())))
      (some ((false, ()), ()))
def whole_31 (N : Nat) (x : (((Int × (Int × (Int × (Int × (Int × (Int × (Int × (Int × (List (Int × (Int × (Int × (List (Int × (Int × Int)))))) × Unit))))))))) × Unit) × Unit)) : Option ((Bool × Unit) × Unit) := match x with
  | (((s0, s1, s2, s3, s4, s5, s6, s7, s8, ()), ()), ()) =>
    withJoin (whole_31_J5 N) fun join5 =>
    withJoin (whole_31_J2 N join5) fun join2 =>
    byB (s1 != 1)
      (join2 (((), s1 != 2, ()), (s0, s1, s2, s3, s4, s5, s6, s7, s8, ()), ()))
      (join2 (((), false, ()), (s0, s1, s2, s3, s4, s5, s6, s7, s8, ()), ()))
theorem eq_whole_31 (N : Nat) (x : (ap_whole_31).den) : funX Try.prog (fs10 N) N 31 lo_whole_31 jo_whole_31 Try.f31 ap_whole_31 rp_whole_31 x = whole_31 N x := by kernel_rfl
noncomputable def sp_whole_31 (N : Nat) : FSpec := specOf ap_whole_31 rp_whole_31 true (whole_31 N)
theorem ok_whole_31 (N : Nat) : FSound Try.prog 31 (sp_whole_31 N) := funX_sound (N := N) (loops := lo_whole_31) (joins := jo_whole_31) (fsok10 N) Try.func31 (by kernel_rfl) (by kernel_rfl) fun x _ h => (eq_whole_31 N x).trans h
noncomputable def fs11 (N : Nat) : FuncId → List V1 → List Blk → Option FSpec := fun g xs H => if g = 31 then some (sp_whole_31 N) else fs10 N g xs H
theorem fsok11 (N : Nat) : ∀ g xs H sp, fs11 N g xs H = some sp → FSound Try.prog g sp := fun g xs H sp h => by
  unfold fs11 at h
  by_cases e : g = 31
  · rw [if_pos e] at h; subst e; cases h; exact ok_whole_31 N
  · rw [if_neg e] at h; exact fsok10 N g xs H sp h
/-! Check_29 -/
abbrev ap_Check_29 : Pat := ⟨[.agg [.int .i64, .int .i64, .int .i64, .int .i64, .int .i64, .int .i64, .int .i64, .int .i64, .ro (.pair (.int .i64) (.pair (.int .i64) (.pair (.int .i64) (.ro (.pair (.int .i64) (.pair (.int .i64) (.int .i64)))))))]], []⟩
abbrev rp_Check_29 : List Pat := [⟨[.agg [.int .i64, .int .i64, .int .i64]], []⟩]
def lo_Check_29 : List LSpec := [⟨5, [1, 2, 3, 15, 16, 17], ⟨[.one (.ptr 0 0), .one (.ptr 1 0), .one (.ptr 2 0), .one (.ro (.pair (.int .i64) (.pair (.int .i64) (.pair (.int .i64) (.ro (.pair (.int .i64) (.pair (.int .i64) (.int .i64)))))))), .one (.int .i64), .one (.int .i64)], [.var 24 [.int .i64, .int .i64, .int .i64, .int .i64, .int .i64, .int .i64, .int .i64, .int .i64, .ro (.pair (.int .i64) (.pair (.int .i64) (.pair (.int .i64) (.ro (.pair (.int .i64) (.pair (.int .i64) (.int .i64)))))))], .var 59 [.int .i64, .int .i64, .int .i64], .var 59 [.int .i64, .int .i64, .int .i64]]⟩⟩, ⟨12, [1, 2, 3, 5, 6, 15, 16, 17, 30, 31, 32, 33, 34, 35, 38, 39, 40, 41, 42, 43, 46, 47, 48, 49, 53, 54, 55], ⟨[.one (.ptr 0 0), .one (.ptr 1 0), .one (.ptr 2 0), .one (.ptr 3 0), .one (.int .i64), .one (.ro (.pair (.int .i64) (.pair (.int .i64) (.pair (.int .i64) (.ro (.pair (.int .i64) (.pair (.int .i64) (.int .i64)))))))), .one (.int .i64), .one (.int .i64), .one (.ptr 3 1), .one (.int .i64), .one (.ptr 3 0), .one (.int .i64), .one (.bool), .one (.bool), .one (.ptr 3 2), .one (.int .i64), .one (.ptr 3 1), .one (.int .i64), .one (.bool), .one (.bool), .one (.ptr 3 3), .one (.ro (.pair (.int .i64) (.pair (.int .i64) (.int .i64)))), .one (.int .i64), .one (.bool), .one (.ro (.pair (.int .i64) (.pair (.int .i64) (.int .i64)))), .one (.int .i64), .one (.int .i64)], [.var 24 [.int .i64, .int .i64, .int .i64, .int .i64, .int .i64, .int .i64, .int .i64, .int .i64, .ro (.pair (.int .i64) (.pair (.int .i64) (.pair (.int .i64) (.ro (.pair (.int .i64) (.pair (.int .i64) (.int .i64)))))))], .var 59 [.int .i64, .int .i64, .int .i64], .var 59 [.int .i64, .int .i64, .int .i64], .var 40 [.int .i64, .int .i64, .int .i64, .ro (.pair (.int .i64) (.pair (.int .i64) (.int .i64)))]]⟩⟩]
def jo_Check_29 : List LSpec := []
def Check_29_L12 (N : Nat) (again5 : ((Unit × (Unit × (Unit × (List (Int × (Int × (Int × (List (Int × (Int × Int)))))) × (Int × (Int × Unit)))))) × ((Int × (Int × (Int × (Int × (Int × (Int × (Int × (Int × (List (Int × (Int × (Int × (List (Int × (Int × Int)))))) × Unit))))))))) × ((Int × (Int × (Int × Unit))) × ((Int × (Int × (Int × Unit))) × Unit)))) → Option (((Int × (Int × (Int × Unit))) × Unit) × Unit)) (again12 : ((Unit × (Unit × (Unit × (Unit × (Int × (List (Int × (Int × (Int × (List (Int × (Int × Int)))))) × (Int × (Int × (Unit × (Int × (Unit × (Int × (Bool × (Bool × (Unit × (Int × (Unit × (Int × (Bool × (Bool × (Unit × (List (Int × (Int × Int)) × (Int × (Bool × (List (Int × (Int × Int)) × (Int × (Int × Unit))))))))))))))))))))))))))) × ((Int × (Int × (Int × (Int × (Int × (Int × (Int × (Int × (List (Int × (Int × (Int × (List (Int × (Int × Int)))))) × Unit))))))))) × ((Int × (Int × (Int × Unit))) × ((Int × (Int × (Int × Unit))) × ((Int × (Int × (Int × (List (Int × (Int × Int)) × Unit)))) × Unit))))) → Option (((Int × (Int × (Int × Unit))) × Unit) × Unit)) (x : ((Unit × (Unit × (Unit × (Unit × (Int × (List (Int × (Int × (Int × (List (Int × (Int × Int)))))) × (Int × (Int × (Unit × (Int × (Unit × (Int × (Bool × (Bool × (Unit × (Int × (Unit × (Int × (Bool × (Bool × (Unit × (List (Int × (Int × Int)) × (Int × (Bool × (List (Int × (Int × Int)) × (Int × (Int × Unit))))))))))))))))))))))))))) × ((Int × (Int × (Int × (Int × (Int × (Int × (Int × (Int × (List (Int × (Int × (Int × (List (Int × (Int × Int)))))) × Unit))))))))) × ((Int × (Int × (Int × Unit))) × ((Int × (Int × (Int × Unit))) × ((Int × (Int × (Int × (List (Int × (Int × Int)) × Unit)))) × Unit)))))) : Option (((Int × (Int × (Int × Unit))) × Unit) × Unit) := match x with
  | ((_, _, _, _, end41, t42, t43, t44, _, t45, _, t46, t47, t48, _, t49, _, t50, t51, t52, _, t53, t54, t55, t56, t57, t58, ()), (c59, c60, c61, c62, c63, c64, c65, c66, c67, ()), (c68, c69, c70, ()), (c71, c72, c73, ()), (c74, c75, c76, c77, ()), ()) =>
    byB (decide (t58 < t57))
      (if (0 ≤ t58) ∧ (t58 < (t56.length : Int)) then
        let e79 := t56.getD t58.toNat (0, 0, 0);
        byB (decide (e79.1 < end41))
          (byB (decide (c72 ≥ 0))
              (some (((c71, c72, t58, ()), ()), ()))
              (some (((0, -1, -1, ()), ()), ())))
          (byB (decide (e79.1 > c76))
              (byB (decide (c72 ≥ 0))
                  (some (((c71, c72, t58, ()), ()), ()))
                  (some (((0, -1, -1, ()), ()), ())))
              (byB (decide (e79.2.1 < 0))
                  (byB (decide (c72 ≥ 0))
                      (some (((c71, c72, t58, ()), ()), ()))
                      (some (((0, -1, -1, ()), ()), ())))
                  (byB (decide (e79.2.1 ≥ c66))
                      (byB (decide (c72 ≥ 0))
                          (some (((c71, c72, t58, ()), ()), ()))
                          (some (((0, -1, -1, ()), ()), ())))
                      (byB (decide (e79.2.2 < 1))
                          (byB (decide (c72 ≥ 0))
                              (some (((c71, c72, t58, ()), ()), ()))
                              (some (((0, -1, -1, ()), ()), ())))
                          (byB (decide (e79.2.2 > (IntKind.wrap .i64 (c76 - e79.1))))
                              (byB (decide (c72 ≥ 0))
                                  (some (((c71, c72, t58, ()), ()), ()))
                                  (some (((0, -1, -1, ()), ()), ())))
                              (again12 (((), (), (), (), IntKind.wrap .i64 (e79.1 + e79.2.2), t42, t43, t44, (), t45, (), t46, t47, t48, (), t49, (), t50, t51, t52, (), t53, t54, t55, t56, t57, IntKind.wrap .i64 (t58 + 1), ()), (c59, c60, c61, c62, c63, c64, c65, c66, c67, ()), (c68, c69, c70, ()), (c71, c72, c73, ()), (c74, c75, c76, c77, ()), ())))))))
        else none)
      (again5 (((), (), (), t42, t43, IntKind.wrap .i64 (t44 + 1), ()), (c59, c60, c61, c62, c63, c64, c65, c66, c67, ()), (c68, c69, c70, ()), (c71, -1, c73, ()), ()))
def Check_29_L5 (N : Nat) (again5 : ((Unit × (Unit × (Unit × (List (Int × (Int × (Int × (List (Int × (Int × Int)))))) × (Int × (Int × Unit)))))) × ((Int × (Int × (Int × (Int × (Int × (Int × (Int × (Int × (List (Int × (Int × (Int × (List (Int × (Int × Int)))))) × Unit))))))))) × ((Int × (Int × (Int × Unit))) × ((Int × (Int × (Int × Unit))) × Unit)))) → Option (((Int × (Int × (Int × Unit))) × Unit) × Unit)) (x : ((Unit × (Unit × (Unit × (List (Int × (Int × (Int × (List (Int × (Int × Int)))))) × (Int × (Int × Unit)))))) × ((Int × (Int × (Int × (Int × (Int × (Int × (Int × (Int × (List (Int × (Int × (Int × (List (Int × (Int × Int)))))) × Unit))))))))) × ((Int × (Int × (Int × Unit))) × ((Int × (Int × (Int × Unit))) × Unit))))) : Option (((Int × (Int × (Int × Unit))) × Unit) × Unit) := match x with
  | ((_, _, _, t12, t13, t14, ()), (c15, c16, c17, c18, c19, c20, c21, c22, c23, ()), (c24, c25, c26, ()), (c27, c28, c29, ()), ()) =>
    byB (decide (t14 < t13))
      (if (0 ≤ t14) ∧ (t14 < (t12.length : Int)) then
        let e31 := t12.getD t14.toNat (0, 0, 0, []);
        (between_32 N ((e31.1, 1, 1099511627776, ()), ())).bind fun y32 =>
        byB (!y32.1.1)
          (some (((c27, t14, -1, ()), ()), ()))
          ((between_32 N ((e31.2.1, 1, e31.1, ()), ())).bind fun y34 =>
            byB (!y34.1.1)
              (some (((c27, t14, -1, ()), ()), ()))
              ((between_32 N ((e31.2.2.1, 1, e31.2.1, ()), ())).bind fun y36 =>
                byB (!y36.1.1)
                  (some (((c27, t14, -1, ()), ()), ()))
                  (let t38 := (e31.2.2.2.length : Int);
                    let t39 := decide (t38 > 4);
                    byB t39
                      (some (((c27, t14, -1, ()), ()), ()))
                      (loopN N (Check_29_L12 N again5) (((), (), (), (), 0, t12, t13, t14, (), e31.2.1, (), e31.1, y34.1.1, !y34.1.1, (), e31.2.2.1, (), e31.2.1, y36.1.1, !y36.1.1, (), e31.2.2.2, t38, t39, e31.2.2.2, (e31.2.2.2.length : Int), 0, ()), (c15, c16, c17, c18, c19, c20, c21, c22, c23, ()), (c24, c25, c26, ()), (c27, t14, -1, ()), (e31.1, e31.2.1, e31.2.2.1, e31.2.2.2, ()), ())))))
        else none)
      (byB (decide (c28 ≥ 0))
          (some (((c27, c28, c29, ()), ()), ()))
          (some (((0, -1, -1, ()), ()), ())))
def Check_29 (N : Nat) (x : (((Int × (Int × (Int × (Int × (Int × (Int × (Int × (Int × (List (Int × (Int × (Int × (List (Int × (Int × Int)))))) × Unit))))))))) × Unit) × Unit)) : Option (((Int × (Int × (Int × Unit))) × Unit) × Unit) := match x with
  | (((s0, s1, s2, s3, s4, s5, s6, s7, s8, ()), ()), ()) =>
    (whole_31 N (((s0, s1, s2, s3, s4, s5, s6, s7, s8, ()), ()), ())).bind fun y9 =>
    byB (!y9.1.1)
      (some (((10, -1, -1, ()), ()), ()))
      (loopN N (Check_29_L5 N) (((), (), (), s8, (s8.length : Int), 0, ()), (s0, s1, s2, s3, s4, s5, s6, s7, s8, ()), (0, 0, 0, ()), (10, -1, -1, ()), ()))
theorem eq_Check_29 (N : Nat) (x : (ap_Check_29).den) : funX Try.prog (fs11 N) N 29 lo_Check_29 jo_Check_29 Try.f29 ap_Check_29 rp_Check_29 x = Check_29 N x := by kernel_rfl
noncomputable def sp_Check_29 (N : Nat) : FSpec := specOf ap_Check_29 rp_Check_29 true (Check_29 N)
theorem ok_Check_29 (N : Nat) : FSound Try.prog 29 (sp_Check_29 N) := funX_sound (N := N) (loops := lo_Check_29) (joins := jo_Check_29) (fsok11 N) Try.func29 (by kernel_rfl) (by kernel_rfl) fun x _ h => (eq_Check_29 N x).trans h
noncomputable def fs12 (N : Nat) : FuncId → List V1 → List Blk → Option FSpec := fun g xs H => if g = 29 then some (sp_Check_29 N) else fs11 N g xs H
theorem fsok12 (N : Nat) : ∀ g xs H sp, fs12 N g xs H = some sp → FSound Try.prog g sp := fun g xs H sp h => by
  unfold fs12 at h
  by_cases e : g = 29
  · rw [if_pos e] at h; subst e; cases h; exact ok_Check_29 N
  · rw [if_neg e] at h; exact fsok11 N g xs H sp h
/-! Right_24 -/
abbrev ap_Right_24 : Pat := ⟨[.agg [.int .i64, .int .i64, .int .i64, .int .i64, .int .i64, .int .i64, .int .i64, .int .i64, .ro (.pair (.int .i64) (.pair (.int .i64) (.pair (.int .i64) (.ro (.pair (.int .i64) (.pair (.int .i64) (.int .i64)))))))]], []⟩
abbrev rp_Right_24 : List Pat := [⟨[.one (.bool)], []⟩]
def lo_Right_24 : List LSpec := []
def jo_Right_24 : List LSpec := []
def Right_24 (N : Nat) (x : (((Int × (Int × (Int × (Int × (Int × (Int × (Int × (Int × (List (Int × (Int × (Int × (List (Int × (Int × Int)))))) × Unit))))))))) × Unit) × Unit)) : Option ((Bool × Unit) × Unit) := match x with
  | (((s0, s1, s2, s3, s4, s5, s6, s7, s8, ()), ()), ()) =>
    (Check_29 N (((s0, s1, s2, s3, s4, s5, s6, s7, s8, ()), ()), ())).bind fun y9 =>
    some ((y9.1.1.1 == 0, ()), ())
theorem eq_Right_24 (N : Nat) (x : (ap_Right_24).den) : funX Try.prog (fs12 N) N 24 lo_Right_24 jo_Right_24 Try.f24 ap_Right_24 rp_Right_24 x = Right_24 N x := by kernel_rfl
noncomputable def sp_Right_24 (N : Nat) : FSpec := specOf ap_Right_24 rp_Right_24 true (Right_24 N)
theorem ok_Right_24 (N : Nat) : FSound Try.prog 24 (sp_Right_24 N) := funX_sound (N := N) (loops := lo_Right_24) (joins := jo_Right_24) (fsok12 N) Try.func24 (by kernel_rfl) (by kernel_rfl) fun x _ h => (eq_Right_24 N x).trans h
noncomputable def fs13 (N : Nat) : FuncId → List V1 → List Blk → Option FSpec := fun g xs H => if g = 24 then some (sp_Right_24 N) else fs12 N g xs H
theorem fsok13 (N : Nat) : ∀ g xs H sp, fs13 N g xs H = some sp → FSound Try.prog g sp := fun g xs H sp h => by
  unfold fs13 at h
  by_cases e : g = 24
  · rw [if_pos e] at h; subst e; cases h; exact ok_Right_24 N
  · rw [if_neg e] at h; exact fsok12 N g xs H sp h
/-! Right_13 -/
abbrev ap_Right_13 : Pat := ⟨[.agg [.int .i64, .int .i64, .int .i64, .int .i64, .int .i64, .int .i64, .int .i64, .int .i64, .ro (.pair (.int .i64) (.pair (.int .i64) (.pair (.int .i64) (.ro (.pair (.int .i64) (.pair (.int .i64) (.int .i64)))))))], .agg [.int .i64, .ro (.pair (.int .i64) (.pair (.int .i64) (.int .i64))), .ro (.ro (.int .i64)), .ro (.int .i64)]], []⟩
abbrev rp_Right_13 : List Pat := [⟨[.one (.bool)], []⟩]
def lo_Right_13 : List LSpec := [⟨5, [2, 5, 28, 29, 30], ⟨[.one (.ptr 0 0), .one (.int .i64), .one (.ro (.pair (.int .i64) (.pair (.int .i64) (.int .i64)))), .one (.int .i64), .one (.int .i64)], [.var 24 [.int .i64, .int .i64, .int .i64, .int .i64, .int .i64, .int .i64, .int .i64, .int .i64, .ro (.pair (.int .i64) (.pair (.int .i64) (.pair (.int .i64) (.ro (.pair (.int .i64) (.pair (.int .i64) (.int .i64)))))))]]⟩⟩]
def jo_Right_13 : List LSpec := []
def Right_13_L5 (N : Nat) (again5 : ((Unit × (Int × (List (Int × (Int × Int)) × (Int × (Int × Unit))))) × ((Int × (Int × (Int × (Int × (Int × (Int × (Int × (Int × (List (Int × (Int × (Int × (List (Int × (Int × Int)))))) × Unit))))))))) × Unit)) → Option ((Bool × Unit) × Unit)) (x : ((Unit × (Int × (List (Int × (Int × Int)) × (Int × (Int × Unit))))) × ((Int × (Int × (Int × (Int × (Int × (Int × (Int × (Int × (List (Int × (Int × (Int × (List (Int × (Int × Int)))))) × Unit))))))))) × Unit))) : Option ((Bool × Unit) × Unit) := match x with
  | ((_, last20, t21, t22, t23, ()), (c24, c25, c26, c27, c28, c29, c30, c31, c32, ()), ()) =>
    byB (decide (t23 < t22))
      (if (0 ≤ t23) ∧ (t23 < (t21.length : Int)) then
        let e34 := t21.getD t23.toNat (0, 0, 0);
        byB (decide (e34.2.1 < last20))
          (some ((false, ()), ()))
          (byB (decide (e34.1 < 0))
              (some ((false, ()), ()))
              (byB (decide (e34.1 ≥ (c32.length : Int)))
                  (some ((false, ()), ()))
                  (byB (decide (e34.2.2 < 1))
                      (some ((false, ()), ()))
                      (byB (decide (e34.2.2 > 1099511627776))
                          (some ((false, ()), ()))
                          (again5 (((), e34.2.1, t21, t22, IntKind.wrap .i64 (t23 + 1), ()), (c24, c25, c26, c27, c28, c29, c30, c31, c32, ()), ()))))))
        else none)
      (some ((true, ()), ()))
def Right_13 (N : Nat) (x : (((Int × (Int × (Int × (Int × (Int × (Int × (Int × (Int × (List (Int × (Int × (Int × (List (Int × (Int × Int)))))) × Unit))))))))) × ((Int × (List (Int × (Int × Int)) × (List (List Int) × (List Int × Unit)))) × Unit)) × Unit)) : Option ((Bool × Unit) × Unit) := match x with
  | (((s0, s1, s2, s3, s4, s5, s6, s7, s8, ()), (x9, x10, x11, x12, ()), ()), ()) =>
    (Right_24 N (((s0, s1, s2, s3, s4, s5, s6, s7, s8, ()), ()), ())).bind fun y13 =>
    byB (!y13.1.1)
      (some ((false, ()), ()))
      (byB (decide (x9 < 0))
          (some ((false, ()), ()))
          (byB (decide (x9 > 20000))
              (some ((false, ()), ()))
              (byB (decide ((x10.length : Int) > 2000))
                  (some ((false, ()), ()))
                  (loopN N (Right_13_L5 N) (((), 0, x10, (x10.length : Int), 0, ()), (s0, s1, s2, s3, s4, s5, s6, s7, s8, ()), ())))))
theorem eq_Right_13 (N : Nat) (x : (ap_Right_13).den) : funX Try.prog (fs13 N) N 13 lo_Right_13 jo_Right_13 Try.f13 ap_Right_13 rp_Right_13 x = Right_13 N x := by kernel_rfl
noncomputable def sp_Right_13 (N : Nat) : FSpec := specOf ap_Right_13 rp_Right_13 true (Right_13 N)
theorem ok_Right_13 (N : Nat) : FSound Try.prog 13 (sp_Right_13 N) := funX_sound (N := N) (loops := lo_Right_13) (joins := jo_Right_13) (fsok13 N) Try.func13 (by kernel_rfl) (by kernel_rfl) fun x _ h => (eq_Right_13 N x).trans h
noncomputable def fs14 (N : Nat) : FuncId → List V1 → List Blk → Option FSpec := fun g xs H => if g = 13 then some (sp_Right_13 N) else fs13 N g xs H
theorem fsok14 (N : Nat) : ∀ g xs H sp, fs14 N g xs H = some sp → FSound Try.prog g sp := fun g xs H sp h => by
  unfold fs14 at h
  by_cases e : g = 13
  · rw [if_pos e] at h; subst e; cases h; exact ok_Right_13 N
  · rw [if_neg e] at h; exact fsok13 N g xs H sp h
/-! Admissible_15 -/
abbrev ap_Admissible_15 : Pat := ⟨[.agg [.int .i64, .int .i64, .int .i64, .int .i64, .int .i64, .int .i64, .int .i64, .int .i64, .ro (.pair (.int .i64) (.pair (.int .i64) (.pair (.int .i64) (.ro (.pair (.int .i64) (.pair (.int .i64) (.int .i64)))))))], .agg [.int .i64, .ro (.pair (.int .i64) (.pair (.int .i64) (.int .i64))), .ro (.ro (.int .i64)), .ro (.int .i64)]], []⟩
abbrev rp_Admissible_15 : List Pat := [⟨[.one (.bool)], []⟩]
def lo_Admissible_15 : List LSpec := [⟨5, [2, 3, 5, 18, 19, 20], ⟨[.one (.ptr 0 0), .one (.ptr 1 0), .one (.map 2), .one (.ro (.pair (.int .i64) (.pair (.int .i64) (.int .i64)))), .one (.int .i64), .one (.int .i64)], [.var 24 [.int .i64, .int .i64, .int .i64, .int .i64, .int .i64, .int .i64, .int .i64, .int .i64, .ro (.pair (.int .i64) (.pair (.int .i64) (.pair (.int .i64) (.ro (.pair (.int .i64) (.pair (.int .i64) (.int .i64)))))))], .var 29 [.int .i64, .ro (.pair (.int .i64) (.pair (.int .i64) (.int .i64))), .ro (.ro (.int .i64)), .ro (.int .i64)], .map (.int .i64) (.int .i64)]⟩⟩, ⟨13, [2, 65, 66, 67], ⟨[.one (.ptr 0 0), .one (.ro (.int .i64)), .one (.int .i64), .one (.int .i64)], [.var 24 [.int .i64, .int .i64, .int .i64, .int .i64, .int .i64, .int .i64, .int .i64, .int .i64, .ro (.pair (.int .i64) (.pair (.int .i64) (.pair (.int .i64) (.ro (.pair (.int .i64) (.pair (.int .i64) (.int .i64)))))))]]⟩⟩]
def jo_Admissible_15 : List LSpec := []
def Admissible_15_L13 (N : Nat) (again13 : ((Unit × (List Int × (Int × (Int × Unit)))) × ((Int × (Int × (Int × (Int × (Int × (Int × (Int × (Int × (List (Int × (Int × (Int × (List (Int × (Int × Int)))))) × Unit))))))))) × Unit)) → Option ((Bool × Unit) × Unit)) (x : ((Unit × (List Int × (Int × (Int × Unit)))) × ((Int × (Int × (Int × (Int × (Int × (Int × (Int × (Int × (List (Int × (Int × (Int × (List (Int × (Int × Int)))))) × Unit))))))))) × Unit))) : Option ((Bool × Unit) × Unit) := match x with
  | ((_, t45, t46, t47, ()), (c48, c49, c50, c51, c52, c53, c54, c55, c56, ()), ()) =>
    byB (decide (t47 < t46))
      (if (0 ≤ t47) ∧ (t47 < (t45.length : Int)) then
        let e58 := t45.getD t47.toNat 0;
        byB (decide (e58 < 1))
          (some ((false, ()), ()))
          (byB (decide (e58 > c54))
              (some ((false, ()), ()))
              (again13 (((), t45, t46, IntKind.wrap .i64 (t47 + 1), ()), (c48, c49, c50, c51, c52, c53, c54, c55, c56, ()), ())))
        else none)
      (some ((true, ()), ()))
def Admissible_15_L5 (N : Nat) (again5 : ((Unit × (Unit × (Unit × (List (Int × (Int × Int)) × (Int × (Int × Unit)))))) × ((Int × (Int × (Int × (Int × (Int × (Int × (Int × (Int × (List (Int × (Int × (Int × (List (Int × (Int × Int)))))) × Unit))))))))) × ((Int × (List (Int × (Int × Int)) × (List (List Int) × (List Int × Unit)))) × (List (Int × Int) × Unit)))) → Option ((Bool × Unit) × Unit)) (x : ((Unit × (Unit × (Unit × (List (Int × (Int × Int)) × (Int × (Int × Unit)))))) × ((Int × (Int × (Int × (Int × (Int × (Int × (Int × (Int × (List (Int × (Int × (Int × (List (Int × (Int × Int)))))) × Unit))))))))) × ((Int × (List (Int × (Int × Int)) × (List (List Int) × (List Int × Unit)))) × (List (Int × Int) × Unit))))) : Option ((Bool × Unit) × Unit) := match x with
  | ((_, _, _, t16, t17, t18, ()), (c19, c20, c21, c22, c23, c24, c25, c26, c27, ()), (c28, c29, c30, c31, ()), m32, ()) =>
    byB (decide (t18 < t17))
      (if (0 ≤ t18) ∧ (t18 < (t16.length : Int)) then
        let e34 := t16.getD t18.toNat (0, 0, 0);
        if (0 ≤ e34.1) ∧ (e34.1 < (c27.length : Int)) then
        byB (decide (e34.2.2 > (c27.getD e34.1.toNat (0, 0, 0, [])).2.2.1))
          (some ((false, ()), ()))
          (byB ((mapGet (Ty.beqD (.int .i64)) e34.1 m32).isSome)
              (if (0 ≤ e34.1) ∧ (e34.1 < (c27.length : Int)) then
                byB (decide ((IntKind.wrap .i64 (e34.2.1 - ((mapGet (Ty.beqD (.int .i64)) e34.1 m32).getD 0))) < (c27.getD e34.1.toNat (0, 0, 0, [])).1))
                  (some ((false, ()), ()))
                  (again5 (((), (), (), t16, t17, IntKind.wrap .i64 (t18 + 1), ()), (c19, c20, c21, c22, c23, c24, c25, c26, c27, ()), (c28, c29, c30, c31, ()), mapPut (Ty.beqD (.int .i64)) e34.1 e34.2.1 m32, ()))
                else none)
              (again5 (((), (), (), t16, t17, IntKind.wrap .i64 (t18 + 1), ()), (c19, c20, c21, c22, c23, c24, c25, c26, c27, ()), (c28, c29, c30, c31, ()), mapPut (Ty.beqD (.int .i64)) e34.1 e34.2.1 m32, ())))
        else none
        else none)
      (loopN N (Admissible_15_L13 N) (((), c31, (c31.length : Int), 0, ()), (c19, c20, c21, c22, c23, c24, c25, c26, c27, ()), ()))
def Admissible_15 (N : Nat) (x : (((Int × (Int × (Int × (Int × (Int × (Int × (Int × (Int × (List (Int × (Int × (Int × (List (Int × (Int × Int)))))) × Unit))))))))) × ((Int × (List (Int × (Int × Int)) × (List (List Int) × (List Int × Unit)))) × Unit)) × Unit)) : Option ((Bool × Unit) × Unit) := match x with
  | (((s0, s1, s2, s3, s4, s5, s6, s7, s8, ()), (x9, x10, x11, x12, ()), ()), ()) =>
    (Right_13 N (((s0, s1, s2, s3, s4, s5, s6, s7, s8, ()), (x9, x10, x11, x12, ()), ()), ())).bind fun y13 =>
    byB (!y13.1.1)
      (some ((false, ()), ()))
      (loopN N (Admissible_15_L5 N) (((), (), (), x10, (x10.length : Int), 0, ()), (s0, s1, s2, s3, s4, s5, s6, s7, s8, ()), (x9, x10, x11, x12, ()), [], ()))
theorem eq_Admissible_15 (N : Nat) (x : (ap_Admissible_15).den) : funX Try.prog (fs14 N) N 15 lo_Admissible_15 jo_Admissible_15 Try.f15 ap_Admissible_15 rp_Admissible_15 x = Admissible_15 N x := by kernel_rfl
noncomputable def sp_Admissible_15 (N : Nat) : FSpec := specOf ap_Admissible_15 rp_Admissible_15 true (Admissible_15 N)
theorem ok_Admissible_15 (N : Nat) : FSound Try.prog 15 (sp_Admissible_15 N) := funX_sound (N := N) (loops := lo_Admissible_15) (joins := jo_Admissible_15) (fsok14 N) Try.func15 (by kernel_rfl) (by kernel_rfl) fun x _ h => (eq_Admissible_15 N x).trans h
noncomputable def fs15 (N : Nat) : FuncId → List V1 → List Blk → Option FSpec := fun g xs H => if g = 15 then some (sp_Admissible_15 N) else fs14 N g xs H
theorem fsok15 (N : Nat) : ∀ g xs H sp, fs15 N g xs H = some sp → FSound Try.prog g sp := fun g xs H sp h => by
  unfold fs15 at h
  by_cases e : g = 15
  · rw [if_pos e] at h; subst e; cases h; exact ok_Admissible_15 N
  · rw [if_neg e] at h; exact fsok14 N g xs H sp h
/-! turnint_26 -/
abbrev ap_turnint_26 : Pat := ⟨[.one (.ro (.int .i64)), .one (.int .i64)], []⟩
abbrev rp_turnint_26 : List Pat := [⟨[.one (.int .i64), .one (.bool)], []⟩]
def lo_turnint_26 : List LSpec := []
def jo_turnint_26 : List LSpec := []
def turnint_26 (N : Nat) (x : ((List Int × (Int × Unit)) × Unit)) : Option ((Int × (Bool × Unit)) × Unit) := match x with
  | ((l0, tick1, ()), ()) =>
    byB ((l0.length : Int) == 0)
      (some ((0, false, ()), ()))
      (byB (decide (tick1 < 0))
          (some ((0, false, ()), ()))
          (let t5 := (l0.length : Int);
            if t5 = 0 then
              none
            else
            let t6 := Int.tmod tick1 t5;
            if (0 ≤ t6) ∧ (t6 < (l0.length : Int)) then
            some ((l0.getD t6.toNat 0, true, ()), ())
            else none))
theorem eq_turnint_26 (N : Nat) (x : (ap_turnint_26).den) : funX Try.prog (fs15 N) N 26 lo_turnint_26 jo_turnint_26 Try.f26 ap_turnint_26 rp_turnint_26 x = turnint_26 N x := by kernel_rfl
noncomputable def sp_turnint_26 (N : Nat) : FSpec := specOf ap_turnint_26 rp_turnint_26 true (turnint_26 N)
theorem ok_turnint_26 (N : Nat) : FSound Try.prog 26 (sp_turnint_26 N) := funX_sound (N := N) (loops := lo_turnint_26) (joins := jo_turnint_26) (fsok15 N) Try.func26 (by kernel_rfl) (by kernel_rfl) fun x _ h => (eq_turnint_26 N x).trans h
noncomputable def fs16 (N : Nat) : FuncId → List V1 → List Blk → Option FSpec := fun g xs H => if g = 26 then some (sp_turnint_26 N) else fs15 N g xs H
theorem fsok16 (N : Nat) : ∀ g xs H sp, fs16 N g xs H = some sp → FSound Try.prog g sp := fun g xs H sp h => by
  unfold fs16 at h
  by_cases e : g = 26
  · rw [if_pos e] at h; subst e; cases h; exact ok_turnint_26 N
  · rw [if_neg e] at h; exact fsok15 N g xs H sp h
/-! Latency_17 -/
abbrev ap_Latency_17 : Pat := ⟨[.agg [.int .i64, .int .i64, .int .i64, .int .i64, .int .i64, .int .i64, .int .i64, .int .i64, .ro (.pair (.int .i64) (.pair (.int .i64) (.pair (.int .i64) (.ro (.pair (.int .i64) (.pair (.int .i64) (.int .i64)))))))], .agg [.int .i64, .ro (.pair (.int .i64) (.pair (.int .i64) (.int .i64))), .ro (.ro (.int .i64)), .ro (.int .i64)], .one (.int .i64)], []⟩
abbrev rp_Latency_17 : List Pat := [⟨[.one (.int .i64)], []⟩]
def lo_Latency_17 : List LSpec := []
def jo_Latency_17 : List LSpec := []
def Latency_17 (N : Nat) (x : (((Int × (Int × (Int × (Int × (Int × (Int × (Int × (Int × (List (Int × (Int × (Int × (List (Int × (Int × Int)))))) × Unit))))))))) × ((Int × (List (Int × (Int × Int)) × (List (List Int) × (List Int × Unit)))) × (Int × Unit))) × Unit)) : Option ((Int × Unit) × Unit) := match x with
  | (((s0, s1, s2, s3, s4, s5, s6, s7, s8, ()), (x9, x10, x11, x12, ()), tick13, ()), ()) =>
    (turnint_26 N ((x12, tick13, ()), ())).bind fun y14 =>
    some ((if 50 < (if 1 > y14.1.1 then 1 else y14.1.1) then 50 else (if 1 > y14.1.1 then 1 else y14.1.1), ()), ())
theorem eq_Latency_17 (N : Nat) (x : (ap_Latency_17).den) : funX Try.prog (fs16 N) N 17 lo_Latency_17 jo_Latency_17 Try.f17 ap_Latency_17 rp_Latency_17 x = Latency_17 N x := by kernel_rfl
noncomputable def sp_Latency_17 (N : Nat) : FSpec := specOf ap_Latency_17 rp_Latency_17 true (Latency_17 N)
theorem ok_Latency_17 (N : Nat) : FSound Try.prog 17 (sp_Latency_17 N) := funX_sound (N := N) (loops := lo_Latency_17) (joins := jo_Latency_17) (fsok16 N) Try.func17 (by kernel_rfl) (by kernel_rfl) fun x _ h => (eq_Latency_17 N x).trans h
noncomputable def fs17 (N : Nat) : FuncId → List V1 → List Blk → Option FSpec := fun g xs H => if g = 17 then some (sp_Latency_17 N) else fs16 N g xs H
theorem fsok17 (N : Nat) : ∀ g xs H sp, fs17 N g xs H = some sp → FSound Try.prog g sp := fun g xs H sp h => by
  unfold fs17 at h
  by_cases e : g = 17
  · rw [if_pos e] at h; subst e; cases h; exact ok_Latency_17 N
  · rw [if_neg e] at h; exact fsok16 N g xs H sp h
/-! examples_8 -/
abbrev ap_examples_8 : Pat := ⟨[], []⟩
abbrev rp_examples_8 : List Pat := [⟨[.one (.bool)], []⟩]
def lo_examples_8 : List LSpec := []
def jo_examples_8 : List LSpec := []
def examples_8 (N : Nat) (x : (Unit × Unit)) : Option ((Bool × Unit) × Unit) := if 300 ≤ N then some ((true, ()), ()) else none
theorem eq_examples_8 (k : Nat) : funX Try.prog (fs17 (k + 300)) (k + 300) 8 lo_examples_8 jo_examples_8 Try.f8 ap_examples_8 rp_examples_8 ((), ()) = some ((true, ()), ()) := by kernel_rfl
noncomputable def sp_examples_8 (N : Nat) : FSpec := specOf ap_examples_8 rp_examples_8 true (examples_8 N)
theorem ok_examples_8 (N : Nat) : FSound Try.prog 8 (sp_examples_8 N) := funX_sound (N := N) (loops := lo_examples_8) (joins := jo_examples_8) (fsok17 N) Try.func8 (by kernel_rfl) (by kernel_rfl) fun x _ h => by
  unfold examples_8 at h
  split at h
  · rename_i hN
    obtain ⟨k, rfl⟩ : ∃ k, N = k + 300 := ⟨N - 300, by omega⟩
    exact (eq_examples_8 k).trans h
  · cases h
noncomputable def fs18 (N : Nat) : FuncId → List V1 → List Blk → Option FSpec := fun g xs H => if g = 8 then some (sp_examples_8 N) else fs17 N g xs H
theorem fsok18 (N : Nat) : ∀ g xs H sp, fs18 N g xs H = some sp → FSound Try.prog g sp := fun g xs H sp h => by
  unfold fs18 at h
  by_cases e : g = 8
  · rw [if_pos e] at h; subst e; cases h; exact ok_examples_8 N
  · rw [if_neg e] at h; exact fsok17 N g xs H sp h
/-! Order_20 -/
abbrev ap_Order_20 : Pat := ⟨[.one (.int .i64), .one (.ro (.int .i64))], []⟩
abbrev rp_Order_20 : List Pat := [⟨[.one (.full 0)], [.row 3 (.int .i64)]⟩]
def lo_Order_20 : List LSpec := [⟨6, [0, 1, 5, 6, 7], ⟨[.one (.int .i64), .one (.ro (.int .i64)), .one (.full 0), .one (.full 1), .one (.int .i64)], [.row 3 (.int .i64), .row 4 .bool]⟩⟩]
def jo_Order_20 : List LSpec := []
def Order_20_L6 (N : Nat) (again6 : ((Int × (List Int × (Unit × (Unit × (Int × Unit))))) × (List Int × (List Bool × Unit))) → Option ((Unit × Unit) × (List Int × Unit))) (x : ((Int × (List Int × (Unit × (Unit × (Int × Unit))))) × (List Int × (List Bool × Unit)))) : Option ((Unit × Unit) × (List Int × Unit)) := match x with
  | ((n4, l5, _, _, i6, ()), l7, l8, ()) =>
    byB (decide (i6 < (IntKind.wrap .i64 ((l5.length : Int) + n4))))
      (let t13 := IntKind.wrap .i64 (i6 - (l5.length : Int));
        byB (decide (i6 < (l5.length : Int)))
          (if (0 ≤ i6) ∧ (i6 < (l5.length : Int)) then
            let e16 := l5.getD i6.toNat 0;
            byB (decide (e16 ≥ 0))
              (byB (decide (e16 < n4))
                  (if (0 ≤ e16) ∧ (e16 < (l8.length : Int)) then
                    byB (!(l8.getD e16.toNat false))
                      (if (0 ≤ e16) ∧ (e16 < (l8.length : Int)) then
                        (if (l7.length + 1) * 8 ≤ 140737488355328 then
                        again6 ((n4, l5, (), (), IntKind.wrap .i64 (i6 + 1), ()), l7 ++ [e16], l8.set e16.toNat true, ())
                        else none)
                        else none)
                      (again6 ((n4, l5, (), (), IntKind.wrap .i64 (i6 + 1), ()), l7, l8, ()))
                    else none)
                  (again6 ((n4, l5, (), (), IntKind.wrap .i64 (i6 + 1), ()), l7, l8, ())))
              (again6 ((n4, l5, (), (), IntKind.wrap .i64 (i6 + 1), ()), l7, l8, ()))
            else none)
          (byB (decide (t13 ≥ 0))
              (byB (decide (t13 < n4))
                  (if (0 ≤ t13) ∧ (t13 < (l8.length : Int)) then
                    byB (!(l8.getD t13.toNat false))
                      (if (0 ≤ t13) ∧ (t13 < (l8.length : Int)) then
                        (if (l7.length + 1) * 8 ≤ 140737488355328 then
                        again6 ((n4, l5, (), (), IntKind.wrap .i64 (i6 + 1), ()), l7 ++ [t13], l8.set t13.toNat true, ())
                        else none)
                        else none)
                      (again6 ((n4, l5, (), (), IntKind.wrap .i64 (i6 + 1), ()), l7, l8, ()))
                    else none)
                  (again6 ((n4, l5, (), (), IntKind.wrap .i64 (i6 + 1), ()), l7, l8, ())))
              (again6 ((n4, l5, (), (), IntKind.wrap .i64 (i6 + 1), ()), l7, l8, ()))))
      (some (((), ()), l7, ()))
def Order_20 (N : Nat) (x : ((Int × (List Int × Unit)) × Unit)) : Option ((Unit × Unit) × (List Int × Unit)) := match x with
  | ((n0, l1, ()), ()) =>
    byB (decide (n0 < 1))
      (some (((), ()), [], ()))
      (byB (decide (n0 > 8))
          (some (((), ()), [], ()))
          (if (0 ≤ n0) ∧ (n0 ≤ n0) ∧ (1 * n0 ≤ 281474976710656) then
            loopN N (Order_20_L6 N) ((n0, l1, (), (), 0, ()), [], List.replicate n0.toNat false, ())
            else none))
theorem eq_Order_20 (N : Nat) (x : (ap_Order_20).den) : funX Try.prog (fs18 N) N 20 lo_Order_20 jo_Order_20 Try.f20 ap_Order_20 rp_Order_20 x = Order_20 N x := by kernel_rfl
noncomputable def sp_Order_20 (N : Nat) : FSpec := specOf ap_Order_20 rp_Order_20 true (Order_20 N)
theorem ok_Order_20 (N : Nat) : FSound Try.prog 20 (sp_Order_20 N) := funX_sound (N := N) (loops := lo_Order_20) (joins := jo_Order_20) (fsok18 N) Try.func20 (by kernel_rfl) (by kernel_rfl) fun x _ h => (eq_Order_20 N x).trans h
noncomputable def fs19 (N : Nat) : FuncId → List V1 → List Blk → Option FSpec := fun g xs H => if g = 20 then some (sp_Order_20 N) else fs18 N g xs H
theorem fsok19 (N : Nat) : ∀ g xs H sp, fs19 N g xs H = some sp → FSound Try.prog g sp := fun g xs H sp h => by
  unfold fs19 at h
  by_cases e : g = 20
  · rw [if_pos e] at h; subst e; cases h; exact ok_Order_20 N
  · rw [if_neg e] at h; exact fsok18 N g xs H sp h
/-! Order_9 -/
abbrev ap_Order_9 : Pat := ⟨[.agg [.int .i64, .int .i64, .int .i64, .int .i64, .int .i64, .int .i64, .int .i64, .int .i64, .ro (.pair (.int .i64) (.pair (.int .i64) (.pair (.int .i64) (.ro (.pair (.int .i64) (.pair (.int .i64) (.int .i64)))))))], .agg [.int .i64, .ro (.pair (.int .i64) (.pair (.int .i64) (.int .i64))), .ro (.ro (.int .i64)), .ro (.int .i64)], .one (.int .i64)], []⟩
abbrev rp_Order_9 : List Pat := [⟨[.one (.full 0)], [.row 3 (.int .i64)]⟩]
def lo_Order_9 : List LSpec := []
def jo_Order_9 : List LSpec := []
def Order_9 (N : Nat) (x : (((Int × (Int × (Int × (Int × (Int × (Int × (Int × (Int × (List (Int × (Int × (Int × (List (Int × (Int × Int)))))) × Unit))))))))) × ((Int × (List (Int × (Int × Int)) × (List (List Int) × (List Int × Unit)))) × (Int × Unit))) × Unit)) : Option ((Unit × Unit) × (List Int × Unit)) := match x with
  | (((s0, s1, s2, s3, s4, s5, s6, s7, s8, ()), (x9, x10, x11, x12, ()), tick13, ()), ()) =>
    byB (decide (s0 < 1))
      (some (((), ()), [], ()))
      (byB (decide (s0 > 8))
          (some (((), ()), [], ()))
          (byB (decide ((x11.length : Int) > 0))
              (byB (decide (tick13 ≥ 0))
                  (let t19 := (x11.length : Int);
                    if t19 = 0 then
                      none
                    else
                    let t20 := Int.tmod tick13 t19;
                    if (0 ≤ t20) ∧ (t20 < (x11.length : Int)) then
                    (Order_20 N ((s0, x11.getD t20.toNat [], ()), ())).bind fun y22 =>
                    some (((), ()), y22.2.1, ())
                    else none)
                  ((Order_20 N ((s0, [], ()), ())).bind fun y23 =>
                    some (((), ()), y23.2.1, ())))
              ((Order_20 N ((s0, [], ()), ())).bind fun y24 =>
                some (((), ()), y24.2.1, ()))))
theorem eq_Order_9 (N : Nat) (x : (ap_Order_9).den) : funX Try.prog (fs19 N) N 9 lo_Order_9 jo_Order_9 Try.f9 ap_Order_9 rp_Order_9 x = Order_9 N x := by kernel_rfl
noncomputable def sp_Order_9 (N : Nat) : FSpec := specOf ap_Order_9 rp_Order_9 true (Order_9 N)
theorem ok_Order_9 (N : Nat) : FSound Try.prog 9 (sp_Order_9 N) := funX_sound (N := N) (loops := lo_Order_9) (joins := jo_Order_9) (fsok19 N) Try.func9 (by kernel_rfl) (by kernel_rfl) fun x _ h => (eq_Order_9 N x).trans h
noncomputable def fs20 (N : Nat) : FuncId → List V1 → List Blk → Option FSpec := fun g xs H => if g = 9 then some (sp_Order_9 N) else fs19 N g xs H
theorem fsok20 (N : Nat) : ∀ g xs H sp, fs20 N g xs H = some sp → FSound Try.prog g sp := fun g xs H sp h => by
  unfold fs20 at h
  by_cases e : g = 9
  · rw [if_pos e] at h; subst e; cases h; exact ok_Order_9 N
  · rw [if_neg e] at h; exact fsok19 N g xs H sp h
/-! At_10 -/
abbrev ap_At_10 : Pat := ⟨[.agg [.int .i64, .ro (.pair (.int .i64) (.pair (.int .i64) (.int .i64))), .ro (.ro (.int .i64)), .ro (.int .i64)], .one (.int .i64)], []⟩
abbrev rp_At_10 : List Pat := [⟨[.one (.full 0)], [.row 34 (.pair (.int .i64) (.pair (.int .i64) (.int .i64)))]⟩]
def lo_At_10 : List LSpec := [⟨3, [1, 2, 5, 6], ⟨[.one (.int .i64), .one (.ptr 0 0), .one (.full 1), .one (.int .i64)], [.var 29 [.int .i64, .ro (.pair (.int .i64) (.pair (.int .i64) (.int .i64))), .ro (.ro (.int .i64)), .ro (.int .i64)], .row 34 (.pair (.int .i64) (.pair (.int .i64) (.int .i64)))]⟩⟩]
def jo_At_10 : List LSpec := []
def At_10_L3 (N : Nat) (again3 : ((Int × (Unit × (Unit × (Int × Unit)))) × ((Int × (List (Int × (Int × Int)) × (List (List Int) × (List Int × Unit)))) × (List (Int × (Int × Int)) × Unit))) → Option ((Unit × Unit) × (List (Int × (Int × Int)) × Unit))) (x : ((Int × (Unit × (Unit × (Int × Unit)))) × ((Int × (List (Int × (Int × Int)) × (List (List Int) × (List Int × Unit)))) × (List (Int × (Int × Int)) × Unit)))) : Option ((Unit × Unit) × (List (Int × (Int × Int)) × Unit)) := match x with
  | ((tick5, _, _, i6, ()), (c7, c8, c9, c10, ()), l11, ()) =>
    byB (decide (i6 < (c8.length : Int)))
      (if (0 ≤ i6) ∧ (i6 < (c8.length : Int)) then
        byB ((c8.getD i6.toNat (0, 0, 0)).2.1 == tick5)
          (if (0 ≤ i6) ∧ (i6 < (c8.length : Int)) then
            (if (l11.length + 1) * 24 ≤ 140737488355328 then
            again3 ((tick5, (), (), IntKind.wrap .i64 (i6 + 1), ()), (c7, c8, c9, c10, ()), l11 ++ [c8.getD i6.toNat (0, 0, 0)], ())
            else none)
            else none)
          (again3 ((tick5, (), (), IntKind.wrap .i64 (i6 + 1), ()), (c7, c8, c9, c10, ()), l11, ()))
        else none)
      (some (((), ()), l11, ()))
def At_10 (N : Nat) (x : (((Int × (List (Int × (Int × Int)) × (List (List Int) × (List Int × Unit)))) × (Int × Unit)) × Unit)) : Option ((Unit × Unit) × (List (Int × (Int × Int)) × Unit)) := match x with
  | (((x0, x1, x2, x3, ()), tick4, ()), ()) =>
    loopN N (At_10_L3 N) ((tick4, (), (), 0, ()), (x0, x1, x2, x3, ()), [], ())
theorem eq_At_10 (N : Nat) (x : (ap_At_10).den) : funX Try.prog (fs20 N) N 10 lo_At_10 jo_At_10 Try.f10 ap_At_10 rp_At_10 x = At_10 N x := by kernel_rfl
noncomputable def sp_At_10 (N : Nat) : FSpec := specOf ap_At_10 rp_At_10 true (At_10 N)
theorem ok_At_10 (N : Nat) : FSound Try.prog 10 (sp_At_10 N) := funX_sound (N := N) (loops := lo_At_10) (joins := jo_At_10) (fsok20 N) Try.func10 (by kernel_rfl) (by kernel_rfl) fun x _ h => (eq_At_10 N x).trans h
noncomputable def fs21 (N : Nat) : FuncId → List V1 → List Blk → Option FSpec := fun g xs H => if g = 10 then some (sp_At_10 N) else fs20 N g xs H
theorem fsok21 (N : Nat) : ∀ g xs H sp, fs21 N g xs H = some sp → FSound Try.prog g sp := fun g xs H sp h => by
  unfold fs21 at h
  by_cases e : g = 10
  · rw [if_pos e] at h; subst e; cases h; exact ok_At_10 N
  · rw [if_neg e] at h; exact fsok20 N g xs H sp h
/-! within_34 -/
abbrev ap_within_34 : Pat := ⟨[.one (.int .i64), .one (.int .i64), .one (.int .i64)], []⟩
abbrev rp_within_34 : List Pat := [⟨[.one (.bool)], []⟩]
def lo_within_34 : List LSpec := []
def jo_within_34 : List LSpec := []
def within_34 (N : Nat) (x : ((Int × (Int × (Int × Unit))) × Unit)) : Option ((Bool × Unit) × Unit) := match x with
  | ((n0, a1, b2, ()), ()) =>
    byB (decide (n0 ≥ a1))
      (some ((decide (n0 ≤ b2), ()), ()))
      (some ((false, ()), ()))
theorem eq_within_34 (N : Nat) (x : (ap_within_34).den) : funX Try.prog (fs21 N) N 34 lo_within_34 jo_within_34 Try.f34 ap_within_34 rp_within_34 x = within_34 N x := by kernel_rfl
noncomputable def sp_within_34 (N : Nat) : FSpec := specOf ap_within_34 rp_within_34 true (within_34 N)
theorem ok_within_34 (N : Nat) : FSound Try.prog 34 (sp_within_34 N) := funX_sound (N := N) (loops := lo_within_34) (joins := jo_within_34) (fsok21 N) Try.func34 (by kernel_rfl) (by kernel_rfl) fun x _ h => (eq_within_34 N x).trans h
noncomputable def fs22 (N : Nat) : FuncId → List V1 → List Blk → Option FSpec := fun g xs H => if g = 34 then some (sp_within_34 N) else fs21 N g xs H
theorem fsok22 (N : Nat) : ∀ g xs H sp, fs22 N g xs H = some sp → FSound Try.prog g sp := fun g xs H sp h => by
  unfold fs22 at h
  by_cases e : g = 34
  · rw [if_pos e] at h; subst e; cases h; exact ok_within_34 N
  · rw [if_neg e] at h; exact fsok21 N g xs H sp h
/-! whole_33 -/
abbrev ap_whole_33 : Pat := ⟨[.agg [.int .i64, .int .i64, .int .i64, .int .i64, .int .i64, .int .i64, .int .i64, .int .i64, .ro (.pair (.int .i64) (.pair (.int .i64) (.pair (.int .i64) (.ro (.pair (.int .i64) (.pair (.int .i64) (.int .i64)))))))]], []⟩
abbrev rp_whole_33 : List Pat := [⟨[.one (.bool)], []⟩]
def lo_whole_33 : List LSpec := []
def jo_whole_33 : List LSpec := [⟨2, [1, 28], ⟨[.one (.ptr 0 0), .one (.bool)], [.var 24 [.int .i64, .int .i64, .int .i64, .int .i64, .int .i64, .int .i64, .int .i64, .int .i64, .ro (.pair (.int .i64) (.pair (.int .i64) (.pair (.int .i64) (.ro (.pair (.int .i64) (.pair (.int .i64) (.int .i64)))))))]]⟩⟩]
def whole_33_J2 (N : Nat) (x : ((Unit × (Bool × Unit)) × ((Int × (Int × (Int × (Int × (Int × (Int × (Int × (Int × (List (Int × (Int × (Int × (List (Int × (Int × Int)))))) × Unit))))))))) × Unit))) : Option ((Bool × Unit) × Unit) := match x with
  | ((_, t17, ()), (c18, c19, c20, c21, c22, c23, c24, c25, c26, ()), ()) =>
    byB t17
      (some ((false, ()), ()))
      ((within_34 N ((c21, 0, 50, ()), ())).bind fun y27 =>
        byB y27.1.1
          ((within_34 N ((c22, 0, 50, ()), ())).bind fun y28 =>
            byB y28.1.1
              ((within_34 N ((c23, 0, 50, ()), ())).bind fun y29 =>
                byB y29.1.1
                  ((within_34 N ((c24, 1, 50, ()), ())).bind fun y30 =>
                    byB y30.1.1
                      ((within_34 N ((c25, 0, 8, ()), ())).bind fun y31 =>
                        byB y31.1.1
                          ((within_34 N (((c26.length : Int), 1, 24, ()), ())).bind fun y33 =>
                            some ((y33.1.1, ()), ()))
                          (some ((false, ()), ())))
                      (some ((false, ()), ())))
                  (some ((false, ()), ())))
              (some ((false, ()), ())))
          (some ((false, ()), ())))
def whole_33 (N : Nat) (x : (((Int × (Int × (Int × (Int × (Int × (Int × (Int × (Int × (List (Int × (Int × (Int × (List (Int × (Int × Int)))))) × Unit))))))))) × Unit) × Unit)) : Option ((Bool × Unit) × Unit) := match x with
  | (((s0, s1, s2, s3, s4, s5, s6, s7, s8, ()), ()), ()) =>
    withJoin (whole_33_J2 N) fun join2 =>
    (within_34 N ((s0, 1, 8, ()), ())).bind fun y9 =>
    byB (!y9.1.1)
      (join2 (((), true, ()), (s0, s1, s2, s3, s4, s5, s6, s7, s8, ()), ()))
      ((within_34 N ((s1, 1, 2, ()), ())).bind fun y11 =>
        byB (!y11.1.1)
          (join2 (((), true, ()), (s0, s1, s2, s3, s4, s5, s6, s7, s8, ()), ()))
          ((within_34 N ((s2, 1, 2, ()), ())).bind fun y13 =>
            byB (!y13.1.1)
              (join2 (((), true, ()), (s0, s1, s2, s3, s4, s5, s6, s7, s8, ()), ()))
              (byB (s2 == 2)
                  (join2 (((), s1 != 1, ()), (s0, s1, s2, s3, s4, s5, s6, s7, s8, ()), ()))
                  (join2 (((), false, ()), (s0, s1, s2, s3, s4, s5, s6, s7, s8, ()), ())))))
theorem eq_whole_33 (N : Nat) (x : (ap_whole_33).den) : funX Try.prog (fs22 N) N 33 lo_whole_33 jo_whole_33 Try.f33 ap_whole_33 rp_whole_33 x = whole_33 N x := by kernel_rfl
noncomputable def sp_whole_33 (N : Nat) : FSpec := specOf ap_whole_33 rp_whole_33 true (whole_33 N)
theorem ok_whole_33 (N : Nat) : FSound Try.prog 33 (sp_whole_33 N) := funX_sound (N := N) (loops := lo_whole_33) (joins := jo_whole_33) (fsok22 N) Try.func33 (by kernel_rfl) (by kernel_rfl) fun x _ h => (eq_whole_33 N x).trans h
noncomputable def fs23 (N : Nat) : FuncId → List V1 → List Blk → Option FSpec := fun g xs H => if g = 33 then some (sp_whole_33 N) else fs22 N g xs H
theorem fsok23 (N : Nat) : ∀ g xs H sp, fs23 N g xs H = some sp → FSound Try.prog g sp := fun g xs H sp h => by
  unfold fs23 at h
  by_cases e : g = 33
  · rw [if_pos e] at h; subst e; cases h; exact ok_whole_33 N
  · rw [if_neg e] at h; exact fsok22 N g xs H sp h
/-! Check_30 -/
abbrev ap_Check_30 : Pat := ⟨[.agg [.int .i64, .int .i64, .int .i64, .int .i64, .int .i64, .int .i64, .int .i64, .int .i64, .ro (.pair (.int .i64) (.pair (.int .i64) (.pair (.int .i64) (.ro (.pair (.int .i64) (.pair (.int .i64) (.int .i64)))))))]], []⟩
abbrev rp_Check_30 : List Pat := [⟨[.one (.bool), .one (.int .i64), .one (.int .i64)], []⟩]
def lo_Check_30 : List LSpec := [⟨4, [1, 5], ⟨[.one (.ptr 0 0), .one (.int .i64)], [.var 24 [.int .i64, .int .i64, .int .i64, .int .i64, .int .i64, .int .i64, .int .i64, .int .i64, .ro (.pair (.int .i64) (.pair (.int .i64) (.pair (.int .i64) (.ro (.pair (.int .i64) (.pair (.int .i64) (.int .i64)))))))]]⟩⟩, ⟨11, [1, 5, 6, 7, 8, 30, 31, 32, 33, 34, 35, 38, 39, 40, 41, 42, 43, 46, 47, 48, 49], ⟨[.one (.ptr 0 0), .one (.int .i64), .one (.ptr 1 0), .one (.int .i64), .one (.int .i64), .one (.ptr 1 1), .one (.int .i64), .one (.ptr 1 0), .one (.int .i64), .one (.bool), .one (.bool), .one (.ptr 1 2), .one (.int .i64), .one (.ptr 1 1), .one (.int .i64), .one (.bool), .one (.bool), .one (.ptr 1 3), .one (.ro (.pair (.int .i64) (.pair (.int .i64) (.int .i64)))), .one (.int .i64), .one (.bool)], [.var 24 [.int .i64, .int .i64, .int .i64, .int .i64, .int .i64, .int .i64, .int .i64, .int .i64, .ro (.pair (.int .i64) (.pair (.int .i64) (.pair (.int .i64) (.ro (.pair (.int .i64) (.pair (.int .i64) (.int .i64)))))))], .var 40 [.int .i64, .int .i64, .int .i64, .ro (.pair (.int .i64) (.pair (.int .i64) (.int .i64)))]]⟩⟩]
def jo_Check_30 : List LSpec := []
def Check_30_L11 (N : Nat) (again4 : ((Unit × (Int × Unit)) × ((Int × (Int × (Int × (Int × (Int × (Int × (Int × (Int × (List (Int × (Int × (Int × (List (Int × (Int × Int)))))) × Unit))))))))) × Unit)) → Option ((Bool × (Int × (Int × Unit))) × Unit)) (again11 : ((Unit × (Int × (Unit × (Int × (Int × (Unit × (Int × (Unit × (Int × (Bool × (Bool × (Unit × (Int × (Unit × (Int × (Bool × (Bool × (Unit × (List (Int × (Int × Int)) × (Int × (Bool × Unit))))))))))))))))))))) × ((Int × (Int × (Int × (Int × (Int × (Int × (Int × (Int × (List (Int × (Int × (Int × (List (Int × (Int × Int)))))) × Unit))))))))) × ((Int × (Int × (Int × (List (Int × (Int × Int)) × Unit)))) × Unit))) → Option ((Bool × (Int × (Int × Unit))) × Unit)) (x : ((Unit × (Int × (Unit × (Int × (Int × (Unit × (Int × (Unit × (Int × (Bool × (Bool × (Unit × (Int × (Unit × (Int × (Bool × (Bool × (Unit × (List (Int × (Int × Int)) × (Int × (Bool × Unit))))))))))))))))))))) × ((Int × (Int × (Int × (Int × (Int × (Int × (Int × (Int × (List (Int × (Int × (Int × (List (Int × (Int × Int)))))) × Unit))))))))) × ((Int × (Int × (Int × (List (Int × (Int × Int)) × Unit)))) × Unit)))) : Option ((Bool × (Int × (Int × Unit))) × Unit) := match x with
  | ((_, i32, _, end33, k34, _, t35, _, t36, t37, t38, _, t39, _, t40, t41, t42, _, t43, t44, t45, ()), (c46, c47, c48, c49, c50, c51, c52, c53, c54, ()), (c55, c56, c57, c58, ()), ()) =>
    byB (decide (k34 < (c58.length : Int)))
      (if (0 ≤ k34) ∧ (k34 < (c58.length : Int)) then
        let e61 := c58.getD k34.toNat (0, 0, 0);
        (within_34 N ((e61.1, end33, c57, ()), ())).bind fun y62 =>
        byB (!y62.1.1)
          (some ((true, i32, k34, ()), ()))
          ((within_34 N ((e61.2.1, 0, IntKind.wrap .i64 (c53 - 1), ()), ())).bind fun y65 =>
            byB (!y65.1.1)
              (some ((true, i32, k34, ()), ()))
              ((within_34 N ((e61.2.2, 1, IntKind.wrap .i64 (c57 - e61.1), ()), ())).bind fun y68 =>
                byB (!y68.1.1)
                  (some ((true, i32, k34, ()), ()))
                  (again11 (((), i32, (), IntKind.wrap .i64 (e61.1 + e61.2.2), IntKind.wrap .i64 (k34 + 1), (), t35, (), t36, t37, t38, (), t39, (), t40, t41, t42, (), t43, t44, t45, ()), (c46, c47, c48, c49, c50, c51, c52, c53, c54, ()), (c55, c56, c57, c58, ()), ()))))
        else none)
      (again4 (((), IntKind.wrap .i64 (i32 + 1), ()), (c46, c47, c48, c49, c50, c51, c52, c53, c54, ()), ()))
def Check_30_L4 (N : Nat) (again4 : ((Unit × (Int × Unit)) × ((Int × (Int × (Int × (Int × (Int × (Int × (Int × (Int × (List (Int × (Int × (Int × (List (Int × (Int × Int)))))) × Unit))))))))) × Unit)) → Option ((Bool × (Int × (Int × Unit))) × Unit)) (x : ((Unit × (Int × Unit)) × ((Int × (Int × (Int × (Int × (Int × (Int × (Int × (Int × (List (Int × (Int × (Int × (List (Int × (Int × Int)))))) × Unit))))))))) × Unit))) : Option ((Bool × (Int × (Int × Unit))) × Unit) := match x with
  | ((_, i11, ()), (c12, c13, c14, c15, c16, c17, c18, c19, c20, ()), ()) =>
    byB (decide (i11 < (c20.length : Int)))
      (if (0 ≤ i11) ∧ (i11 < (c20.length : Int)) then
        let e23 := c20.getD i11.toNat (0, 0, 0, []);
        (within_34 N ((e23.1, 1, 1099511627776, ()), ())).bind fun y24 =>
        byB (!y24.1.1)
          (some ((true, i11, -1, ()), ()))
          ((within_34 N ((e23.2.1, 1, e23.1, ()), ())).bind fun y26 =>
            byB (!y26.1.1)
              (some ((true, i11, -1, ()), ()))
              ((within_34 N ((e23.2.2.1, 1, e23.2.1, ()), ())).bind fun y28 =>
                byB (!y28.1.1)
                  (some ((true, i11, -1, ()), ()))
                  (let t30 := (e23.2.2.2.length : Int);
                    let t31 := decide (t30 > 4);
                    byB t31
                      (some ((true, i11, -1, ()), ()))
                      (loopN N (Check_30_L11 N again4) (((), i11, (), 0, 0, (), e23.2.1, (), e23.1, y26.1.1, !y26.1.1, (), e23.2.2.1, (), e23.2.1, y28.1.1, !y28.1.1, (), e23.2.2.2, t30, t31, ()), (c12, c13, c14, c15, c16, c17, c18, c19, c20, ()), (e23.1, e23.2.1, e23.2.2.1, e23.2.2.2, ()), ())))))
        else none)
      (some ((false, -1, -1, ()), ()))
def Check_30 (N : Nat) (x : (((Int × (Int × (Int × (Int × (Int × (Int × (Int × (Int × (List (Int × (Int × (Int × (List (Int × (Int × Int)))))) × Unit))))))))) × Unit) × Unit)) : Option ((Bool × (Int × (Int × Unit))) × Unit) := match x with
  | (((s0, s1, s2, s3, s4, s5, s6, s7, s8, ()), ()), ()) =>
    (whole_33 N (((s0, s1, s2, s3, s4, s5, s6, s7, s8, ()), ()), ())).bind fun y9 =>
    byB (!y9.1.1)
      (some ((true, -1, -1, ()), ()))
      (loopN N (Check_30_L4 N) (((), 0, ()), (s0, s1, s2, s3, s4, s5, s6, s7, s8, ()), ()))
theorem eq_Check_30 (N : Nat) (x : (ap_Check_30).den) : funX Try.prog (fs23 N) N 30 lo_Check_30 jo_Check_30 Try.f30 ap_Check_30 rp_Check_30 x = Check_30 N x := by kernel_rfl
noncomputable def sp_Check_30 (N : Nat) : FSpec := specOf ap_Check_30 rp_Check_30 true (Check_30 N)
theorem ok_Check_30 (N : Nat) : FSound Try.prog 30 (sp_Check_30 N) := funX_sound (N := N) (loops := lo_Check_30) (joins := jo_Check_30) (fsok23 N) Try.func30 (by kernel_rfl) (by kernel_rfl) fun x _ h => (eq_Check_30 N x).trans h
noncomputable def fs24 (N : Nat) : FuncId → List V1 → List Blk → Option FSpec := fun g xs H => if g = 30 then some (sp_Check_30 N) else fs23 N g xs H
theorem fsok24 (N : Nat) : ∀ g xs H sp, fs24 N g xs H = some sp → FSound Try.prog g sp := fun g xs H sp h => by
  unfold fs24 at h
  by_cases e : g = 30
  · rw [if_pos e] at h; subst e; cases h; exact ok_Check_30 N
  · rw [if_neg e] at h; exact fsok23 N g xs H sp h
/-! Right_25 -/
abbrev ap_Right_25 : Pat := ⟨[.agg [.int .i64, .int .i64, .int .i64, .int .i64, .int .i64, .int .i64, .int .i64, .int .i64, .ro (.pair (.int .i64) (.pair (.int .i64) (.pair (.int .i64) (.ro (.pair (.int .i64) (.pair (.int .i64) (.int .i64)))))))]], []⟩
abbrev rp_Right_25 : List Pat := [⟨[.one (.bool)], []⟩]
def lo_Right_25 : List LSpec := []
def jo_Right_25 : List LSpec := []
def Right_25 (N : Nat) (x : (((Int × (Int × (Int × (Int × (Int × (Int × (Int × (Int × (List (Int × (Int × (Int × (List (Int × (Int × Int)))))) × Unit))))))))) × Unit) × Unit)) : Option ((Bool × Unit) × Unit) := match x with
  | (((s0, s1, s2, s3, s4, s5, s6, s7, s8, ()), ()), ()) =>
    (Check_30 N (((s0, s1, s2, s3, s4, s5, s6, s7, s8, ()), ()), ())).bind fun y9 =>
    some ((!y9.1.1, ()), ())
theorem eq_Right_25 (N : Nat) (x : (ap_Right_25).den) : funX Try.prog (fs24 N) N 25 lo_Right_25 jo_Right_25 Try.f25 ap_Right_25 rp_Right_25 x = Right_25 N x := by kernel_rfl
noncomputable def sp_Right_25 (N : Nat) : FSpec := specOf ap_Right_25 rp_Right_25 true (Right_25 N)
theorem ok_Right_25 (N : Nat) : FSound Try.prog 25 (sp_Right_25 N) := funX_sound (N := N) (loops := lo_Right_25) (joins := jo_Right_25) (fsok24 N) Try.func25 (by kernel_rfl) (by kernel_rfl) fun x _ h => (eq_Right_25 N x).trans h
noncomputable def fs25 (N : Nat) : FuncId → List V1 → List Blk → Option FSpec := fun g xs H => if g = 25 then some (sp_Right_25 N) else fs24 N g xs H
theorem fsok25 (N : Nat) : ∀ g xs H sp, fs25 N g xs H = some sp → FSound Try.prog g sp := fun g xs H sp h => by
  unfold fs25 at h
  by_cases e : g = 25
  · rw [if_pos e] at h; subst e; cases h; exact ok_Right_25 N
  · rw [if_neg e] at h; exact fsok24 N g xs H sp h
/-! Right_14 -/
abbrev ap_Right_14 : Pat := ⟨[.agg [.int .i64, .int .i64, .int .i64, .int .i64, .int .i64, .int .i64, .int .i64, .int .i64, .ro (.pair (.int .i64) (.pair (.int .i64) (.pair (.int .i64) (.ro (.pair (.int .i64) (.pair (.int .i64) (.int .i64)))))))], .agg [.int .i64, .ro (.pair (.int .i64) (.pair (.int .i64) (.int .i64))), .ro (.ro (.int .i64)), .ro (.int .i64)]], []⟩
abbrev rp_Right_14 : List Pat := [⟨[.one (.bool)], []⟩]
def lo_Right_14 : List LSpec := [⟨5, [2, 3, 6], ⟨[.one (.ptr 0 0), .one (.ptr 1 0), .one (.int .i64)], [.var 24 [.int .i64, .int .i64, .int .i64, .int .i64, .int .i64, .int .i64, .int .i64, .int .i64, .ro (.pair (.int .i64) (.pair (.int .i64) (.pair (.int .i64) (.ro (.pair (.int .i64) (.pair (.int .i64) (.int .i64)))))))], .var 29 [.int .i64, .ro (.pair (.int .i64) (.pair (.int .i64) (.int .i64))), .ro (.ro (.int .i64)), .ro (.int .i64)]]⟩⟩]
def jo_Right_14 : List LSpec := []
def Right_14_L5 (N : Nat) (again5 : ((Unit × (Unit × (Int × Unit))) × ((Int × (Int × (Int × (Int × (Int × (Int × (Int × (Int × (List (Int × (Int × (Int × (List (Int × (Int × Int)))))) × Unit))))))))) × ((Int × (List (Int × (Int × Int)) × (List (List Int) × (List Int × Unit)))) × Unit))) → Option ((Bool × Unit) × Unit)) (x : ((Unit × (Unit × (Int × Unit))) × ((Int × (Int × (Int × (Int × (Int × (Int × (Int × (Int × (List (Int × (Int × (Int × (List (Int × (Int × Int)))))) × Unit))))))))) × ((Int × (List (Int × (Int × Int)) × (List (List Int) × (List Int × Unit)))) × Unit)))) : Option ((Bool × Unit) × Unit) := match x with
  | ((_, _, i19, ()), (c20, c21, c22, c23, c24, c25, c26, c27, c28, ()), (c29, c30, c31, c32, ()), ()) =>
    byB (decide (i19 < (c30.length : Int)))
      (if (0 ≤ i19) ∧ (i19 < (c30.length : Int)) then
        let e35 := c30.getD i19.toNat (0, 0, 0);
        byB (decide (e35.2.1 < 0))
          (some ((false, ()), ()))
          (byB (decide (i19 > 0))
              (let t38 := IntKind.wrap .i64 (i19 - 1);
                if (0 ≤ t38) ∧ (t38 < (c30.length : Int)) then
                byB (decide (e35.2.1 < (c30.getD t38.toNat (0, 0, 0)).2.1))
                  (some ((false, ()), ()))
                  (byB (decide (e35.1 < 0))
                      (some ((false, ()), ()))
                      (byB (decide (e35.1 ≥ (c28.length : Int)))
                          (some ((false, ()), ()))
                          (byB (decide (e35.2.2 < 1))
                              (some ((false, ()), ()))
                              (byB (decide (e35.2.2 > 1099511627776))
                                  (some ((false, ()), ()))
                                  (again5 (((), (), IntKind.wrap .i64 (i19 + 1), ()), (c20, c21, c22, c23, c24, c25, c26, c27, c28, ()), (c29, c30, c31, c32, ()), ()))))))
                else none)
              (byB (decide (e35.1 < 0))
                  (some ((false, ()), ()))
                  (byB (decide (e35.1 ≥ (c28.length : Int)))
                      (some ((false, ()), ()))
                      (byB (decide (e35.2.2 < 1))
                          (some ((false, ()), ()))
                          (byB (decide (e35.2.2 > 1099511627776))
                              (some ((false, ()), ()))
                              (again5 (((), (), IntKind.wrap .i64 (i19 + 1), ()), (c20, c21, c22, c23, c24, c25, c26, c27, c28, ()), (c29, c30, c31, c32, ()), ())))))))
        else none)
      (some ((true, ()), ()))
def Right_14 (N : Nat) (x : (((Int × (Int × (Int × (Int × (Int × (Int × (Int × (Int × (List (Int × (Int × (Int × (List (Int × (Int × Int)))))) × Unit))))))))) × ((Int × (List (Int × (Int × Int)) × (List (List Int) × (List Int × Unit)))) × Unit)) × Unit)) : Option ((Bool × Unit) × Unit) := match x with
  | (((s0, s1, s2, s3, s4, s5, s6, s7, s8, ()), (x9, x10, x11, x12, ()), ()), ()) =>
    (Right_25 N (((s0, s1, s2, s3, s4, s5, s6, s7, s8, ()), ()), ())).bind fun y13 =>
    byB (!y13.1.1)
      (some ((false, ()), ()))
      (byB (decide (x9 < 0))
          (some ((false, ()), ()))
          (byB (decide (x9 > 20000))
              (some ((false, ()), ()))
              (byB (decide ((x10.length : Int) > 2000))
                  (some ((false, ()), ()))
                  (loopN N (Right_14_L5 N) (((), (), 0, ()), (s0, s1, s2, s3, s4, s5, s6, s7, s8, ()), (x9, x10, x11, x12, ()), ())))))
theorem eq_Right_14 (N : Nat) (x : (ap_Right_14).den) : funX Try.prog (fs25 N) N 14 lo_Right_14 jo_Right_14 Try.f14 ap_Right_14 rp_Right_14 x = Right_14 N x := by kernel_rfl
noncomputable def sp_Right_14 (N : Nat) : FSpec := specOf ap_Right_14 rp_Right_14 true (Right_14 N)
theorem ok_Right_14 (N : Nat) : FSound Try.prog 14 (sp_Right_14 N) := funX_sound (N := N) (loops := lo_Right_14) (joins := jo_Right_14) (fsok25 N) Try.func14 (by kernel_rfl) (by kernel_rfl) fun x _ h => (eq_Right_14 N x).trans h
noncomputable def fs26 (N : Nat) : FuncId → List V1 → List Blk → Option FSpec := fun g xs H => if g = 14 then some (sp_Right_14 N) else fs25 N g xs H
theorem fsok26 (N : Nat) : ∀ g xs H sp, fs26 N g xs H = some sp → FSound Try.prog g sp := fun g xs H sp h => by
  unfold fs26 at h
  by_cases e : g = 14
  · rw [if_pos e] at h; subst e; cases h; exact ok_Right_14 N
  · rw [if_neg e] at h; exact fsok25 N g xs H sp h
/-! Admissible_16 -/
abbrev ap_Admissible_16 : Pat := ⟨[.agg [.int .i64, .int .i64, .int .i64, .int .i64, .int .i64, .int .i64, .int .i64, .int .i64, .ro (.pair (.int .i64) (.pair (.int .i64) (.pair (.int .i64) (.ro (.pair (.int .i64) (.pair (.int .i64) (.int .i64)))))))], .agg [.int .i64, .ro (.pair (.int .i64) (.pair (.int .i64) (.int .i64))), .ro (.ro (.int .i64)), .ro (.int .i64)]], []⟩
abbrev rp_Admissible_16 : List Pat := [⟨[.one (.bool)], []⟩]
def lo_Admissible_16 : List LSpec := [⟨5, [2, 3, 6], ⟨[.one (.ptr 0 0), .one (.ptr 1 0), .one (.int .i64)], [.var 24 [.int .i64, .int .i64, .int .i64, .int .i64, .int .i64, .int .i64, .int .i64, .int .i64, .ro (.pair (.int .i64) (.pair (.int .i64) (.pair (.int .i64) (.ro (.pair (.int .i64) (.pair (.int .i64) (.int .i64)))))))], .var 29 [.int .i64, .ro (.pair (.int .i64) (.pair (.int .i64) (.int .i64))), .ro (.ro (.int .i64)), .ro (.int .i64)]]⟩⟩, ⟨11, [2, 3, 6, 7, 8, 27, 28, 29, 30, 31, 32, 35, 36], ⟨[.one (.ptr 0 0), .one (.ptr 1 0), .one (.int .i64), .one (.ptr 2 0), .one (.int .i64), .one (.ptr 2 2), .one (.int .i64), .one (.ptr 0 8), .one (.ro (.pair (.int .i64) (.pair (.int .i64) (.pair (.int .i64) (.ro (.pair (.int .i64) (.pair (.int .i64) (.int .i64)))))))), .one (.ptr 2 0), .one (.int .i64), .one (.int .i64), .one (.bool)], [.var 24 [.int .i64, .int .i64, .int .i64, .int .i64, .int .i64, .int .i64, .int .i64, .int .i64, .ro (.pair (.int .i64) (.pair (.int .i64) (.pair (.int .i64) (.ro (.pair (.int .i64) (.pair (.int .i64) (.int .i64)))))))], .var 29 [.int .i64, .ro (.pair (.int .i64) (.pair (.int .i64) (.int .i64))), .ro (.ro (.int .i64)), .ro (.int .i64)], .var 34 [.int .i64, .int .i64, .int .i64]]⟩⟩, ⟨16, [2, 3, 9], ⟨[.one (.ptr 0 0), .one (.ptr 1 0), .one (.int .i64)], [.var 24 [.int .i64, .int .i64, .int .i64, .int .i64, .int .i64, .int .i64, .int .i64, .int .i64, .ro (.pair (.int .i64) (.pair (.int .i64) (.pair (.int .i64) (.ro (.pair (.int .i64) (.pair (.int .i64) (.int .i64)))))))], .var 29 [.int .i64, .ro (.pair (.int .i64) (.pair (.int .i64) (.int .i64))), .ro (.ro (.int .i64)), .ro (.int .i64)]]⟩⟩]
def jo_Admissible_16 : List LSpec := []
def Admissible_16_L11 (N : Nat) (again5 : ((Unit × (Unit × (Int × Unit))) × ((Int × (Int × (Int × (Int × (Int × (Int × (Int × (Int × (List (Int × (Int × (Int × (List (Int × (Int × Int)))))) × Unit))))))))) × ((Int × (List (Int × (Int × Int)) × (List (List Int) × (List Int × Unit)))) × Unit))) → Option ((Bool × Unit) × Unit)) (again11 : ((Unit × (Unit × (Int × (Unit × (Int × (Unit × (Int × (Unit × (List (Int × (Int × (Int × (List (Int × (Int × Int)))))) × (Unit × (Int × (Int × (Bool × Unit))))))))))))) × ((Int × (Int × (Int × (Int × (Int × (Int × (Int × (Int × (List (Int × (Int × (Int × (List (Int × (Int × Int)))))) × Unit))))))))) × ((Int × (List (Int × (Int × Int)) × (List (List Int) × (List Int × Unit)))) × ((Int × (Int × (Int × Unit))) × Unit)))) → Option ((Bool × Unit) × Unit)) (x : ((Unit × (Unit × (Int × (Unit × (Int × (Unit × (Int × (Unit × (List (Int × (Int × (Int × (List (Int × (Int × Int)))))) × (Unit × (Int × (Int × (Bool × Unit))))))))))))) × ((Int × (Int × (Int × (Int × (Int × (Int × (Int × (Int × (List (Int × (Int × (Int × (List (Int × (Int × Int)))))) × Unit))))))))) × ((Int × (List (Int × (Int × Int)) × (List (List Int) × (List Int × Unit)))) × ((Int × (Int × (Int × Unit))) × Unit))))) : Option ((Bool × Unit) × Unit) := match x with
  | ((_, _, i34, _, k35, _, t36, _, t37, _, t38, t39, t40, ()), (c41, c42, c43, c44, c45, c46, c47, c48, c49, ()), (c50, c51, c52, c53, ()), (c54, c55, c56, ()), ()) =>
    byB (decide (k35 < i34))
      (if (0 ≤ k35) ∧ (k35 < (c51.length : Int)) then
        byB ((c51.getD k35.toNat (0, 0, 0)).1 == c54)
          (if (0 ≤ k35) ∧ (k35 < (c51.length : Int)) then
            (if (0 ≤ c54) ∧ (c54 < (c49.length : Int)) then
            byB (decide ((IntKind.wrap .i64 (c55 - (c51.getD k35.toNat (0, 0, 0)).2.1)) < (c49.getD c54.toNat (0, 0, 0, [])).1))
              (some ((false, ()), ()))
              (again11 (((), (), i34, (), IntKind.wrap .i64 (k35 + 1), (), t36, (), t37, (), t38, t39, t40, ()), (c41, c42, c43, c44, c45, c46, c47, c48, c49, ()), (c50, c51, c52, c53, ()), (c54, c55, c56, ()), ()))
            else none)
            else none)
          (again11 (((), (), i34, (), IntKind.wrap .i64 (k35 + 1), (), t36, (), t37, (), t38, t39, t40, ()), (c41, c42, c43, c44, c45, c46, c47, c48, c49, ()), (c50, c51, c52, c53, ()), (c54, c55, c56, ()), ()))
        else none)
      (again5 (((), (), IntKind.wrap .i64 (i34 + 1), ()), (c41, c42, c43, c44, c45, c46, c47, c48, c49, ()), (c50, c51, c52, c53, ()), ()))
def Admissible_16_L16 (N : Nat) (again16 : ((Unit × (Unit × (Int × Unit))) × ((Int × (Int × (Int × (Int × (Int × (Int × (Int × (Int × (List (Int × (Int × (Int × (List (Int × (Int × Int)))))) × Unit))))))))) × ((Int × (List (Int × (Int × Int)) × (List (List Int) × (List Int × Unit)))) × Unit))) → Option ((Bool × Unit) × Unit)) (x : ((Unit × (Unit × (Int × Unit))) × ((Int × (Int × (Int × (Int × (Int × (Int × (Int × (Int × (List (Int × (Int × (Int × (List (Int × (Int × Int)))))) × Unit))))))))) × ((Int × (List (Int × (Int × Int)) × (List (List Int) × (List Int × Unit)))) × Unit)))) : Option ((Bool × Unit) × Unit) := match x with
  | ((_, _, i67, ()), (c68, c69, c70, c71, c72, c73, c74, c75, c76, ()), (c77, c78, c79, c80, ()), ()) =>
    byB (decide (i67 < (c80.length : Int)))
      (if (0 ≤ i67) ∧ (i67 < (c80.length : Int)) then
        byB (decide ((c80.getD i67.toNat 0) < 1))
          (some ((false, ()), ()))
          (if (0 ≤ i67) ∧ (i67 < (c80.length : Int)) then
            byB (decide ((c80.getD i67.toNat 0) > c74))
              (some ((false, ()), ()))
              (again16 (((), (), IntKind.wrap .i64 (i67 + 1), ()), (c68, c69, c70, c71, c72, c73, c74, c75, c76, ()), (c77, c78, c79, c80, ()), ()))
            else none)
        else none)
      (some ((true, ()), ()))
def Admissible_16_L5 (N : Nat) (again5 : ((Unit × (Unit × (Int × Unit))) × ((Int × (Int × (Int × (Int × (Int × (Int × (Int × (Int × (List (Int × (Int × (Int × (List (Int × (Int × Int)))))) × Unit))))))))) × ((Int × (List (Int × (Int × Int)) × (List (List Int) × (List Int × Unit)))) × Unit))) → Option ((Bool × Unit) × Unit)) (x : ((Unit × (Unit × (Int × Unit))) × ((Int × (Int × (Int × (Int × (Int × (Int × (Int × (Int × (List (Int × (Int × (Int × (List (Int × (Int × Int)))))) × Unit))))))))) × ((Int × (List (Int × (Int × Int)) × (List (List Int) × (List Int × Unit)))) × Unit)))) : Option ((Bool × Unit) × Unit) := match x with
  | ((_, _, i15, ()), (c16, c17, c18, c19, c20, c21, c22, c23, c24, ()), (c25, c26, c27, c28, ()), ()) =>
    byB (decide (i15 < (c26.length : Int)))
      (if (0 ≤ i15) ∧ (i15 < (c26.length : Int)) then
        let e31 := c26.getD i15.toNat (0, 0, 0);
        if (0 ≤ e31.1) ∧ (e31.1 < (c24.length : Int)) then
        let e32 := c24.getD e31.1.toNat (0, 0, 0, []);
        let t33 := decide (e31.2.2 > e32.2.2.1);
        byB t33
          (some ((false, ()), ()))
          (loopN N (Admissible_16_L11 N again5) (((), (), i15, (), 0, (), e31.2.2, (), c24, (), e31.1, e32.2.2.1, t33, ()), (c16, c17, c18, c19, c20, c21, c22, c23, c24, ()), (c25, c26, c27, c28, ()), (e31.1, e31.2.1, e31.2.2, ()), ()))
        else none
        else none)
      (loopN N (Admissible_16_L16 N) (((), (), 0, ()), (c16, c17, c18, c19, c20, c21, c22, c23, c24, ()), (c25, c26, c27, c28, ()), ()))
def Admissible_16 (N : Nat) (x : (((Int × (Int × (Int × (Int × (Int × (Int × (Int × (Int × (List (Int × (Int × (Int × (List (Int × (Int × Int)))))) × Unit))))))))) × ((Int × (List (Int × (Int × Int)) × (List (List Int) × (List Int × Unit)))) × Unit)) × Unit)) : Option ((Bool × Unit) × Unit) := match x with
  | (((s0, s1, s2, s3, s4, s5, s6, s7, s8, ()), (x9, x10, x11, x12, ()), ()), ()) =>
    (Right_14 N (((s0, s1, s2, s3, s4, s5, s6, s7, s8, ()), (x9, x10, x11, x12, ()), ()), ())).bind fun y13 =>
    byB (!y13.1.1)
      (some ((false, ()), ()))
      (loopN N (Admissible_16_L5 N) (((), (), 0, ()), (s0, s1, s2, s3, s4, s5, s6, s7, s8, ()), (x9, x10, x11, x12, ()), ()))
theorem eq_Admissible_16 (N : Nat) (x : (ap_Admissible_16).den) : funX Try.prog (fs26 N) N 16 lo_Admissible_16 jo_Admissible_16 Try.f16 ap_Admissible_16 rp_Admissible_16 x = Admissible_16 N x := by kernel_rfl
noncomputable def sp_Admissible_16 (N : Nat) : FSpec := specOf ap_Admissible_16 rp_Admissible_16 true (Admissible_16 N)
theorem ok_Admissible_16 (N : Nat) : FSound Try.prog 16 (sp_Admissible_16 N) := funX_sound (N := N) (loops := lo_Admissible_16) (joins := jo_Admissible_16) (fsok26 N) Try.func16 (by kernel_rfl) (by kernel_rfl) fun x _ h => (eq_Admissible_16 N x).trans h
noncomputable def fs27 (N : Nat) : FuncId → List V1 → List Blk → Option FSpec := fun g xs H => if g = 16 then some (sp_Admissible_16 N) else fs26 N g xs H
theorem fsok27 (N : Nat) : ∀ g xs H sp, fs27 N g xs H = some sp → FSound Try.prog g sp := fun g xs H sp h => by
  unfold fs27 at h
  by_cases e : g = 16
  · rw [if_pos e] at h; subst e; cases h; exact ok_Admissible_16 N
  · rw [if_neg e] at h; exact fsok26 N g xs H sp h
/-! Latency_18 -/
abbrev ap_Latency_18 : Pat := ⟨[.agg [.int .i64, .int .i64, .int .i64, .int .i64, .int .i64, .int .i64, .int .i64, .int .i64, .ro (.pair (.int .i64) (.pair (.int .i64) (.pair (.int .i64) (.ro (.pair (.int .i64) (.pair (.int .i64) (.int .i64)))))))], .agg [.int .i64, .ro (.pair (.int .i64) (.pair (.int .i64) (.int .i64))), .ro (.ro (.int .i64)), .ro (.int .i64)], .one (.int .i64)], []⟩
abbrev rp_Latency_18 : List Pat := [⟨[.one (.int .i64)], []⟩]
def lo_Latency_18 : List LSpec := []
def jo_Latency_18 : List LSpec := []
def Latency_18 (N : Nat) (x : (((Int × (Int × (Int × (Int × (Int × (Int × (Int × (Int × (List (Int × (Int × (Int × (List (Int × (Int × Int)))))) × Unit))))))))) × ((Int × (List (Int × (Int × Int)) × (List (List Int) × (List Int × Unit)))) × (Int × Unit))) × Unit)) : Option ((Int × Unit) × Unit) := match x with
  | (((s0, s1, s2, s3, s4, s5, s6, s7, s8, ()), (x9, x10, x11, x12, ()), tick13, ()), ()) =>
    byB ((x12.length : Int) == 0)
      (some ((1, ()), ()))
      (byB (decide (tick13 < 0))
          (some ((1, ()), ()))
          (let t17 := (x12.length : Int);
            if t17 = 0 then
              none
            else
            let t18 := Int.tmod tick13 t17;
            if (0 ≤ t18) ∧ (t18 < (x12.length : Int)) then
            some ((if 50 < (if 1 > (x12.getD t18.toNat 0) then 1 else (x12.getD t18.toNat 0)) then 50 else (if 1 > (x12.getD t18.toNat 0) then 1 else (x12.getD t18.toNat 0)), ()), ())
            else none))
theorem eq_Latency_18 (N : Nat) (x : (ap_Latency_18).den) : funX Try.prog (fs27 N) N 18 lo_Latency_18 jo_Latency_18 Try.f18 ap_Latency_18 rp_Latency_18 x = Latency_18 N x := by kernel_rfl
noncomputable def sp_Latency_18 (N : Nat) : FSpec := specOf ap_Latency_18 rp_Latency_18 true (Latency_18 N)
theorem ok_Latency_18 (N : Nat) : FSound Try.prog 18 (sp_Latency_18 N) := funX_sound (N := N) (loops := lo_Latency_18) (joins := jo_Latency_18) (fsok27 N) Try.func18 (by kernel_rfl) (by kernel_rfl) fun x _ h => (eq_Latency_18 N x).trans h
noncomputable def fs28 (N : Nat) : FuncId → List V1 → List Blk → Option FSpec := fun g xs H => if g = 18 then some (sp_Latency_18 N) else fs27 N g xs H
theorem fsok28 (N : Nat) : ∀ g xs H sp, fs28 N g xs H = some sp → FSound Try.prog g sp := fun g xs H sp h => by
  unfold fs28 at h
  by_cases e : g = 18
  · rw [if_pos e] at h; subst e; cases h; exact ok_Latency_18 N
  · rw [if_neg e] at h; exact fsok27 N g xs H sp h
/-! ScriptTells_3 -/
abbrev ap_ScriptTells_3 : Pat := ⟨[.agg [.int .i64, .int .i64, .int .i64, .int .i64, .int .i64, .int .i64, .int .i64, .int .i64, .ro (.pair (.int .i64) (.pair (.int .i64) (.pair (.int .i64) (.ro (.pair (.int .i64) (.pair (.int .i64) (.int .i64)))))))], .agg [.int .i64, .ro (.pair (.int .i64) (.pair (.int .i64) (.int .i64))), .ro (.ro (.int .i64)), .ro (.int .i64)], .one (.int .i64)], []⟩
abbrev rp_ScriptTells_3 : List Pat := [⟨[.one (.bool)], []⟩]
def lo_ScriptTells_3 : List LSpec := [⟨5, [2, 3, 4, 6, 7, 8, 9, 10], ⟨[.one (.int .i64), .one (.ptr 0 0), .one (.ptr 1 0), .one (.bool), .one (.bool), .one (.full 2), .one (.full 3), .one (.int .i64)], [.var 24 [.int .i64, .int .i64, .int .i64, .int .i64, .int .i64, .int .i64, .int .i64, .int .i64, .ro (.pair (.int .i64) (.pair (.int .i64) (.pair (.int .i64) (.ro (.pair (.int .i64) (.pair (.int .i64) (.int .i64)))))))], .var 29 [.int .i64, .ro (.pair (.int .i64) (.pair (.int .i64) (.int .i64))), .ro (.ro (.int .i64)), .ro (.int .i64)], .row 3 (.int .i64), .row 34 (.pair (.int .i64) (.pair (.int .i64) (.int .i64)))]⟩⟩, ⟨12, [2, 3, 4, 6, 7, 8, 9, 10, 11, 12, 13, 40, 41, 42, 43, 44], ⟨[.one (.int .i64), .one (.ptr 0 0), .one (.ptr 1 0), .one (.bool), .one (.bool), .one (.full 2), .one (.full 3), .one (.int .i64), .one (.full 4), .one (.full 5), .one (.int .i64), .one (.full 5), .one (.int .i64), .one (.full 3), .one (.int .i64), .one (.bool)], [.var 24 [.int .i64, .int .i64, .int .i64, .int .i64, .int .i64, .int .i64, .int .i64, .int .i64, .ro (.pair (.int .i64) (.pair (.int .i64) (.pair (.int .i64) (.ro (.pair (.int .i64) (.pair (.int .i64) (.int .i64)))))))], .var 29 [.int .i64, .ro (.pair (.int .i64) (.pair (.int .i64) (.int .i64))), .ro (.ro (.int .i64)), .ro (.int .i64)], .row 3 (.int .i64), .row 34 (.pair (.int .i64) (.pair (.int .i64) (.int .i64))), .row 3 (.int .i64), .row 34 (.pair (.int .i64) (.pair (.int .i64) (.int .i64)))]⟩⟩, ⟨18, [2, 3, 4, 6, 7, 8, 9, 10, 12, 14, 40, 41, 42, 43, 44], ⟨[.one (.int .i64), .one (.ptr 0 0), .one (.ptr 1 0), .one (.bool), .one (.bool), .one (.full 2), .one (.full 3), .one (.int .i64), .one (.full 4), .one (.int .i64), .one (.full 4), .one (.int .i64), .one (.full 3), .one (.int .i64), .one (.bool)], [.var 24 [.int .i64, .int .i64, .int .i64, .int .i64, .int .i64, .int .i64, .int .i64, .int .i64, .ro (.pair (.int .i64) (.pair (.int .i64) (.pair (.int .i64) (.ro (.pair (.int .i64) (.pair (.int .i64) (.int .i64)))))))], .var 29 [.int .i64, .ro (.pair (.int .i64) (.pair (.int .i64) (.int .i64))), .ro (.ro (.int .i64)), .ro (.int .i64)], .row 3 (.int .i64), .row 34 (.pair (.int .i64) (.pair (.int .i64) (.int .i64))), .row 34 (.pair (.int .i64) (.pair (.int .i64) (.int .i64)))]⟩⟩]
def jo_ScriptTells_3 : List LSpec := []
def ScriptTells_3_L18 (N : Nat) (again5 : ((Int × (Unit × (Unit × (Bool × (Bool × (Unit × (Unit × (Int × Unit)))))))) × ((Int × (Int × (Int × (Int × (Int × (Int × (Int × (Int × (List (Int × (Int × (Int × (List (Int × (Int × Int)))))) × Unit))))))))) × ((Int × (List (Int × (Int × Int)) × (List (List Int) × (List Int × Unit)))) × (List Int × (List (Int × (Int × Int)) × Unit))))) → Option ((Bool × Unit) × Unit)) (again18 : ((Int × (Unit × (Unit × (Bool × (Bool × (Unit × (Unit × (Int × (Unit × (Int × (Unit × (Int × (Unit × (Int × (Bool × Unit))))))))))))))) × ((Int × (Int × (Int × (Int × (Int × (Int × (Int × (Int × (List (Int × (Int × (Int × (List (Int × (Int × Int)))))) × Unit))))))))) × ((Int × (List (Int × (Int × Int)) × (List (List Int) × (List Int × Unit)))) × (List Int × (List (Int × (Int × Int)) × (List (Int × (Int × Int)) × Unit)))))) → Option ((Bool × Unit) × Unit)) (x : ((Int × (Unit × (Unit × (Bool × (Bool × (Unit × (Unit × (Int × (Unit × (Int × (Unit × (Int × (Unit × (Int × (Bool × Unit))))))))))))))) × ((Int × (Int × (Int × (Int × (Int × (Int × (Int × (Int × (List (Int × (Int × (Int × (List (Int × (Int × Int)))))) × Unit))))))))) × ((Int × (List (Int × (Int × Int)) × (List (List Int) × (List Int × Unit)))) × (List Int × (List (Int × (Int × Int)) × (List (Int × (Int × Int)) × Unit))))))) : Option ((Bool × Unit) × Unit) := match x with
  | ((tick77, _, _, t78, head79, _, _, turn80, _, i81, _, t82, _, t83, t84, ()), (c85, c86, c87, c88, c89, c90, c91, c92, c93, ()), (c94, c95, c96, c97, ()), l98, l99, l100, ()) =>
    byB (decide (i81 < (l100.length : Int)))
      (if (0 ≤ i81) ∧ (i81 < (l100.length : Int)) then
        (if (0 ≤ i81) ∧ (i81 < (l99.length : Int)) then
        byB (!(((l100.getD i81.toNat (0, 0, 0)).1 == (l99.getD i81.toNat (0, 0, 0)).1) && (((l100.getD i81.toNat (0, 0, 0)).2.1 == (l99.getD i81.toNat (0, 0, 0)).2.1) && (((l100.getD i81.toNat (0, 0, 0)).2.2 == (l99.getD i81.toNat (0, 0, 0)).2.2) && true))))
          (some ((false, ()), ()))
          (if (0 ≤ i81) ∧ (i81 < (l100.length : Int)) then
            again18 ((tick77, (), (), t78, head79, (), (), turn80, (), IntKind.wrap .i64 (i81 + 1), (), t82, (), t83, t84, ()), (c85, c86, c87, c88, c89, c90, c91, c92, c93, ()), (c94, c95, c96, c97, ()), l98, l99, l100.set i81.toNat (0, 0, 0), ())
            else none)
        else none)
        else none)
      (again5 ((tick77, (), (), t78, head79, (), (), IntKind.wrap .i64 (turn80 + 1), ()), (c85, c86, c87, c88, c89, c90, c91, c92, c93, ()), (c94, c95, c96, c97, ()), l98, l99, ()))
def ScriptTells_3_L12 (N : Nat) (again5 : ((Int × (Unit × (Unit × (Bool × (Bool × (Unit × (Unit × (Int × Unit)))))))) × ((Int × (Int × (Int × (Int × (Int × (Int × (Int × (Int × (List (Int × (Int × (Int × (List (Int × (Int × Int)))))) × Unit))))))))) × ((Int × (List (Int × (Int × Int)) × (List (List Int) × (List Int × Unit)))) × (List Int × (List (Int × (Int × Int)) × Unit))))) → Option ((Bool × Unit) × Unit)) (again12 : ((Int × (Unit × (Unit × (Bool × (Bool × (Unit × (Unit × (Int × (Unit × (Unit × (Int × (Unit × (Int × (Unit × (Int × (Bool × Unit)))))))))))))))) × ((Int × (Int × (Int × (Int × (Int × (Int × (Int × (Int × (List (Int × (Int × (Int × (List (Int × (Int × Int)))))) × Unit))))))))) × ((Int × (List (Int × (Int × Int)) × (List (List Int) × (List Int × Unit)))) × (List Int × (List (Int × (Int × Int)) × (List Int × (List (Int × (Int × Int)) × Unit))))))) → Option ((Bool × Unit) × Unit)) (x : ((Int × (Unit × (Unit × (Bool × (Bool × (Unit × (Unit × (Int × (Unit × (Unit × (Int × (Unit × (Int × (Unit × (Int × (Bool × Unit)))))))))))))))) × ((Int × (Int × (Int × (Int × (Int × (Int × (Int × (Int × (List (Int × (Int × (Int × (List (Int × (Int × Int)))))) × Unit))))))))) × ((Int × (List (Int × (Int × Int)) × (List (List Int) × (List Int × Unit)))) × (List Int × (List (Int × (Int × Int)) × (List Int × (List (Int × (Int × Int)) × Unit)))))))) : Option ((Bool × Unit) × Unit) := match x with
  | ((tick45, _, _, t46, head47, _, _, turn48, _, _, i49, _, t50, _, t51, t52, ()), (c53, c54, c55, c56, c57, c58, c59, c60, c61, ()), (c62, c63, c64, c65, ()), l66, l67, l68, l69, ()) =>
    byB (decide (i49 < (l68.length : Int)))
      (if (0 ≤ i49) ∧ (i49 < (l68.length : Int)) then
        (if (0 ≤ i49) ∧ (i49 < (l66.length : Int)) then
        byB ((l68.getD i49.toNat 0) != (l66.getD i49.toNat 0))
          (some ((false, ()), ()))
          (if (0 ≤ i49) ∧ (i49 < (l68.length : Int)) then
            again12 ((tick45, (), (), t46, head47, (), (), turn48, (), (), IntKind.wrap .i64 (i49 + 1), (), t50, (), t51, t52, ()), (c53, c54, c55, c56, c57, c58, c59, c60, c61, ()), (c62, c63, c64, c65, ()), l66, l67, l68.set i49.toNat (-1), l69, ())
            else none)
        else none)
        else none)
      (loopN N (ScriptTells_3_L18 N again5) ((tick45, (), (), t46, head47, (), (), turn48, (), 0, (), t50, (), t51, t52, ()), (c53, c54, c55, c56, c57, c58, c59, c60, c61, ()), (c62, c63, c64, c65, ()), l66, l67, l69, ()))
def ScriptTells_3_L5 (N : Nat) (again5 : ((Int × (Unit × (Unit × (Bool × (Bool × (Unit × (Unit × (Int × Unit)))))))) × ((Int × (Int × (Int × (Int × (Int × (Int × (Int × (Int × (List (Int × (Int × (Int × (List (Int × (Int × Int)))))) × Unit))))))))) × ((Int × (List (Int × (Int × Int)) × (List (List Int) × (List Int × Unit)))) × (List Int × (List (Int × (Int × Int)) × Unit))))) → Option ((Bool × Unit) × Unit)) (x : ((Int × (Unit × (Unit × (Bool × (Bool × (Unit × (Unit × (Int × Unit)))))))) × ((Int × (Int × (Int × (Int × (Int × (Int × (Int × (Int × (List (Int × (Int × (Int × (List (Int × (Int × Int)))))) × Unit))))))))) × ((Int × (List (Int × (Int × Int)) × (List (List Int) × (List Int × Unit)))) × (List Int × (List (Int × (Int × Int)) × Unit)))))) : Option ((Bool × Unit) × Unit) := match x with
  | ((tick17, _, _, t18, head19, _, _, turn20, ()), (c21, c22, c23, c24, c25, c26, c27, c28, c29, ()), (c30, c31, c32, c33, ()), l34, l35, ()) =>
    byB (decide (turn20 < 2))
      ((Order_11 N (((c21, c22, c23, c24, c25, c26, c27, c28, c29, ()), (c30, c31, c32, c33, ()), tick17, ()), ())).bind fun y37 =>
        (At_12 N (((c30, c31, c32, c33, ()), tick17, ()), ())).bind fun y38 =>
        byB ((y37.2.1.length : Int) != (l34.length : Int))
          (some ((false, ()), ()))
          (let t42 := (y38.2.1.length : Int);
            let t43 := (l35.length : Int);
            let t44 := t42 != t43;
            byB t44
              (some ((false, ()), ()))
              (loopN N (ScriptTells_3_L12 N again5) ((tick17, (), (), t18, head19, (), (), turn20, (), (), 0, (), t42, (), t43, t44, ()), (c21, c22, c23, c24, c25, c26, c27, c28, c29, ()), (c30, c31, c32, c33, ()), l34, l35, y37.2.1, y38.2.1, ()))))
      (byB head19
          ((Right_13 N (((c21, c22, c23, c24, c25, c26, c27, c28, c29, ()), (c30, c31, c32, c33, ()), ()), ())).bind fun y107 =>
            (Right_14 N (((c21, c22, c23, c24, c25, c26, c27, c28, c29, ()), (c30, c31, c32, c33, ()), ()), ())).bind fun y108 =>
            byB (y107.1.1 == y108.1.1)
              ((Admissible_15 N (((c21, c22, c23, c24, c25, c26, c27, c28, c29, ()), (c30, c31, c32, c33, ()), ()), ())).bind fun y110 =>
                (Admissible_16 N (((c21, c22, c23, c24, c25, c26, c27, c28, c29, ()), (c30, c31, c32, c33, ()), ()), ())).bind fun y111 =>
                byB (y110.1.1 == y111.1.1)
                  ((Latency_17 N (((c21, c22, c23, c24, c25, c26, c27, c28, c29, ()), (c30, c31, c32, c33, ()), tick17, ()), ())).bind fun y113 =>
                    (Latency_18 N (((c21, c22, c23, c24, c25, c26, c27, c28, c29, ()), (c30, c31, c32, c33, ()), tick17, ()), ())).bind fun y114 =>
                    some ((y113.1.1 == y114.1.1, ()), ()))
                  (some ((false, ()), ())))
              (some ((false, ()), ())))
          (some ((false, ()), ())))
def ScriptTells_3 (N : Nat) (x : (((Int × (Int × (Int × (Int × (Int × (Int × (Int × (Int × (List (Int × (Int × (Int × (List (Int × (Int × Int)))))) × Unit))))))))) × ((Int × (List (Int × (Int × Int)) × (List (List Int) × (List Int × Unit)))) × (Int × Unit))) × Unit)) : Option ((Bool × Unit) × Unit) := match x with
  | (((s0, s1, s2, s3, s4, s5, s6, s7, s8, ()), (x9, x10, x11, x12, ()), tick13, ()), ()) =>
    (examples_8 N ((), ())).bind fun y14 =>
    (Order_9 N (((s0, s1, s2, s3, s4, s5, s6, s7, s8, ()), (x9, x10, x11, x12, ()), tick13, ()), ())).bind fun y15 =>
    (At_10 N (((x9, x10, x11, x12, ()), tick13, ()), ())).bind fun y16 =>
    loopN N (ScriptTells_3_L5 N) ((tick13, (), (), false, y14.1.1, (), (), 0, ()), (s0, s1, s2, s3, s4, s5, s6, s7, s8, ()), (x9, x10, x11, x12, ()), y15.2.1, y16.2.1, ())
theorem eq_ScriptTells_3 (N : Nat) (x : (ap_ScriptTells_3).den) : funX Try.prog (fs28 N) N 3 lo_ScriptTells_3 jo_ScriptTells_3 Try.f3 ap_ScriptTells_3 rp_ScriptTells_3 x = ScriptTells_3 N x := by kernel_rfl
noncomputable def sp_ScriptTells_3 (N : Nat) : FSpec := specOf ap_ScriptTells_3 rp_ScriptTells_3 true (ScriptTells_3 N)
theorem ok_ScriptTells_3 (N : Nat) : FSound Try.prog 3 (sp_ScriptTells_3 N) := funX_sound (N := N) (loops := lo_ScriptTells_3) (joins := jo_ScriptTells_3) (fsok28 N) Try.func3 (by kernel_rfl) (by kernel_rfl) fun x _ h => (eq_ScriptTells_3 N x).trans h
noncomputable def fs29 (N : Nat) : FuncId → List V1 → List Blk → Option FSpec := fun g xs H => if g = 3 then some (sp_ScriptTells_3 N) else fs28 N g xs H
theorem fsok29 (N : Nat) : ∀ g xs H sp, fs29 N g xs H = some sp → FSound Try.prog g sp := fun g xs H sp h => by
  unfold fs29 at h
  by_cases e : g = 3
  · rw [if_pos e] at h; subst e; cases h; exact ok_ScriptTells_3 N
  · rw [if_neg e] at h; exact fsok28 N g xs H sp h
end Go.Proofs.YtlheebdnplcmcaaX
