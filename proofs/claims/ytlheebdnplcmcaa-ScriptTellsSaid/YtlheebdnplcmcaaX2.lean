/- Functions of the program as plain Lean, each with its equation (printed by a program of this seat's own). Conditions: none. -/
import Derived.Test.YtlheebdnplcmcaaX1
namespace Go.Proofs.YtlheebdnplcmcaaX
open Go Go.Proofs.YtlheebdnplcmcaaM
set_option maxRecDepth 100000
set_option linter.unusedVariables false
/-! ScriptLess_4 -/
abbrev ap_ScriptLess_4 : Pat := ⟨[.agg [.int .i64, .int .i64, .int .i64, .int .i64, .int .i64, .int .i64, .int .i64, .int .i64, .ro (.pair (.int .i64) (.pair (.int .i64) (.pair (.int .i64) (.ro (.pair (.int .i64) (.pair (.int .i64) (.int .i64)))))))], .agg [.int .i64, .ro (.pair (.int .i64) (.pair (.int .i64) (.int .i64))), .ro (.ro (.int .i64)), .ro (.int .i64)], .one (.int .i64)], []⟩
abbrev rp_ScriptLess_4 : List Pat := [⟨[.one (.bool)], []⟩]
def lo_ScriptLess_4 : List LSpec := []
def jo_ScriptLess_4 : List LSpec := [⟨16, [3, 6, 7, 8, 9, 10, 11, 12, 85], ⟨[.one (.ptr 0 0), .one (.bool), .one (.bool), .one (.int .i64), .one (.ptr 1 0), .one (.ptr 2 0), .one (.ptr 3 0), .one (.ptr 4 0), .one (.bool)], [.var 24 [.int .i64, .int .i64, .int .i64, .int .i64, .int .i64, .int .i64, .int .i64, .int .i64, .ro (.pair (.int .i64) (.pair (.int .i64) (.pair (.int .i64) (.ro (.pair (.int .i64) (.pair (.int .i64) (.int .i64)))))))], .var 29 [.int .i64, .full 5, .ro (.ro (.int .i64)), .ro (.int .i64)], .var 29 [.int .i64, .full 6, .ro (.ro (.int .i64)), .ro (.int .i64)], .var 34 [.int .i64, .int .i64, .int .i64], .var 29 [.int .i64, .full 7, .ro (.ro (.int .i64)), .ro (.int .i64)], .row 34 (.pair (.int .i64) (.pair (.int .i64) (.int .i64))), .row 34 (.pair (.int .i64) (.pair (.int .i64) (.int .i64))), .row 34 (.pair (.int .i64) (.pair (.int .i64) (.int .i64)))]⟩⟩, ⟨17, [3, 6, 7, 8, 9, 10, 11, 12], ⟨[.one (.ptr 0 0), .one (.bool), .one (.bool), .one (.int .i64), .one (.ptr 1 0), .one (.ptr 2 0), .one (.ptr 3 0), .one (.ptr 4 0)], [.var 24 [.int .i64, .int .i64, .int .i64, .int .i64, .int .i64, .int .i64, .int .i64, .int .i64, .ro (.pair (.int .i64) (.pair (.int .i64) (.pair (.int .i64) (.ro (.pair (.int .i64) (.pair (.int .i64) (.int .i64)))))))], .var 29 [.int .i64, .full 5, .ro (.ro (.int .i64)), .ro (.int .i64)], .var 29 [.int .i64, .full 6, .ro (.ro (.int .i64)), .ro (.int .i64)], .var 34 [.int .i64, .int .i64, .int .i64], .var 29 [.int .i64, .full 7, .ro (.ro (.int .i64)), .ro (.int .i64)], .row 34 (.pair (.int .i64) (.pair (.int .i64) (.int .i64))), .row 34 (.pair (.int .i64) (.pair (.int .i64) (.int .i64))), .row 34 (.pair (.int .i64) (.pair (.int .i64) (.int .i64)))]⟩⟩, ⟨3, [2, 3, 4, 6, 7, 24], ⟨[.one (.int .i64), .one (.ptr 0 0), .one (.ptr 1 0), .one (.bool), .one (.bool), .one (.bool)], [.var 24 [.int .i64, .int .i64, .int .i64, .int .i64, .int .i64, .int .i64, .int .i64, .int .i64, .ro (.pair (.int .i64) (.pair (.int .i64) (.pair (.int .i64) (.ro (.pair (.int .i64) (.pair (.int .i64) (.int .i64)))))))], .var 29 [.int .i64, .ro (.pair (.int .i64) (.pair (.int .i64) (.int .i64))), .ro (.ro (.int .i64)), .ro (.int .i64)]]⟩⟩, ⟨6, [2, 3, 4, 6, 7], ⟨[.one (.int .i64), .one (.ptr 0 0), .one (.ptr 1 0), .one (.bool), .one (.bool)], [.var 24 [.int .i64, .int .i64, .int .i64, .int .i64, .int .i64, .int .i64, .int .i64, .int .i64, .ro (.pair (.int .i64) (.pair (.int .i64) (.pair (.int .i64) (.ro (.pair (.int .i64) (.pair (.int .i64) (.int .i64)))))))], .var 29 [.int .i64, .ro (.pair (.int .i64) (.pair (.int .i64) (.int .i64))), .ro (.ro (.int .i64)), .ro (.int .i64)]]⟩⟩]
def ScriptLess_4_J16 (N : Nat) (join17 : ((Unit × (Bool × (Bool × (Int × (Unit × (Unit × (Unit × (Unit × Unit)))))))) × ((Int × (Int × (Int × (Int × (Int × (Int × (Int × (Int × (List (Int × (Int × (Int × (List (Int × (Int × Int)))))) × Unit))))))))) × ((Int × (Unit × (List (List Int) × (List Int × Unit)))) × ((Int × (Unit × (List (List Int) × (List Int × Unit)))) × ((Int × (Int × (Int × Unit))) × ((Int × (Unit × (List (List Int) × (List Int × Unit)))) × (List (Int × (Int × Int)) × (List (Int × (Int × Int)) × (List (Int × (Int × Int)) × Unit))))))))) → Option ((Bool × Unit) × Unit)) (x : ((Unit × (Bool × (Bool × (Int × (Unit × (Unit × (Unit × (Unit × (Bool × Unit))))))))) × ((Int × (Int × (Int × (Int × (Int × (Int × (Int × (Int × (List (Int × (Int × (Int × (List (Int × (Int × Int)))))) × Unit))))))))) × ((Int × (Unit × (List (List Int) × (List Int × Unit)))) × ((Int × (Unit × (List (List Int) × (List Int × Unit)))) × ((Int × (Int × (Int × Unit))) × ((Int × (Unit × (List (List Int) × (List Int × Unit)))) × (List (Int × (Int × Int)) × (List (Int × (Int × Int)) × (List (Int × (Int × Int)) × Unit)))))))))) : Option ((Bool × Unit) × Unit) := match x with
  | ((_, t69, head70, i71, _, _, _, _, t72, ()), (c73, c74, c75, c76, c77, c78, c79, c80, c81, ()), (c82, _, c83, c84, ()), (c85, _, c86, c87, ()), (c88, c89, c90, ()), (c91, _, c92, c93, ()), l94, l95, l96, ()) =>
    byB t72
      (let t97 := IntKind.wrap .i64 (i71 + 1);
        if (0 ≤ c88) ∧ (c88 < (c81.length : Int)) then
        (if (0 ≤ t97) ∧ (t97 < (l96.length : Int)) then
        join17 (((), t69, head70, i71, (), (), (), (), ()), (c73, c74, c75, c76, c77, c78, c79, c80, c81, ()), (c82, (), c83, c84, ()), (c85, (), c86, c87, ()), (c88, c89, c90, ()), (c91, (), c92, c93, ()), l94, l95, l96.set t97.toNat ((l96.getD t97.toNat (0, 0, 0)).1, IntKind.wrap .i64 ((IntKind.wrap .i64 (c89 + (c81.getD c88.toNat (0, 0, 0, [])).1)) - 1), (l96.getD t97.toNat (0, 0, 0)).2.2), ())
        else none)
        else none)
      (join17 (((), t69, head70, i71, (), (), (), (), ()), (c73, c74, c75, c76, c77, c78, c79, c80, c81, ()), (c82, (), c83, c84, ()), (c85, (), c86, c87, ()), (c88, c89, c90, ()), (c91, (), c92, c93, ()), l94, l95, l96, ()))
def ScriptLess_4_J17 (N : Nat) (x : ((Unit × (Bool × (Bool × (Int × (Unit × (Unit × (Unit × (Unit × Unit)))))))) × ((Int × (Int × (Int × (Int × (Int × (Int × (Int × (Int × (List (Int × (Int × (Int × (List (Int × (Int × Int)))))) × Unit))))))))) × ((Int × (Unit × (List (List Int) × (List Int × Unit)))) × ((Int × (Unit × (List (List Int) × (List Int × Unit)))) × ((Int × (Int × (Int × Unit))) × ((Int × (Unit × (List (List Int) × (List Int × Unit)))) × (List (Int × (Int × Int)) × (List (Int × (Int × Int)) × (List (Int × (Int × Int)) × Unit)))))))))) : Option ((Bool × Unit) × Unit) := match x with
  | ((_, t102, head103, i104, _, _, _, _, ()), (c105, c106, c107, c108, c109, c110, c111, c112, c113, ()), (c114, _, c115, c116, ()), (c117, _, c118, c119, ()), (c120, c121, c122, ()), (c123, _, c124, c125, ()), l126, l127, l128, ()) =>
    (Right_13 N (((c105, c106, c107, c108, c109, c110, c111, c112, c113, ()), (c123, l128, c124, c125, ()), ()), ())).bind fun y129 =>
    byB head103
      ((Admissible_15 N (((c105, c106, c107, c108, c109, c110, c111, c112, c113, ()), (c114, l126, c115, c116, ()), ()), ())).bind fun y130 =>
        byB y130.1.1
          ((Admissible_15 N (((c105, c106, c107, c108, c109, c110, c111, c112, c113, ()), (c117, l127, c118, c119, ()), ()), ())).bind fun y131 =>
            byB y131.1.1
              ((Admissible_15 N (((c105, c106, c107, c108, c109, c110, c111, c112, c113, ()), (c123, l128, c124, c125, ()), ()), ())).bind fun y132 =>
                byB (!y132.1.1)
                  (byB y129.1.1
                      (some ((true, ()), ()))
                      (byB (decide ((l128.length : Int) > 2000))
                          (some ((true, ()), ()))
                          (let t136 := IntKind.wrap .i64 (i104 + 1);
                            if (0 ≤ t136) ∧ (t136 < (l128.length : Int)) then
                            some ((decide ((l128.getD t136.toNat (0, 0, 0)).2.1 < c121), ()), ())
                            else none)))
                  (some ((false, ()), ())))
              (some ((false, ()), ())))
          (some ((false, ()), ())))
      (some ((false, ()), ()))
def ScriptLess_4_J6 (N : Nat) (x : ((Int × (Unit × (Unit × (Bool × (Bool × Unit))))) × ((Int × (Int × (Int × (Int × (Int × (Int × (Int × (Int × (List (Int × (Int × (Int × (List (Int × (Int × Int)))))) × Unit))))))))) × ((Int × (List (Int × (Int × Int)) × (List (List Int) × (List Int × Unit)))) × Unit)))) : Option ((Bool × Unit) × Unit) := match x with
  | ((which39, _, _, t40, head41, ()), (c42, c43, c44, c45, c46, c47, c48, c49, c50, ()), (c51, c52, c53, c54, ()), ()) =>
    let t55 := (c52.length : Int);
    if t55 = 0 then
      none
    else
    let t56 := Int.tmod which39 t55;
    if ((0 : Int) ≤ 0) ∧ (0 ≤ t56) ∧ (t56 ≤ (c52.length : Int)) then
    let t57 := c52.take t56.toNat;
    if (0 + t57.length) * 24 ≤ 140737488355328 then
    let t58 := IntKind.wrap .i64 (t56 + 1);
    if (0 ≤ t58) ∧ (t58 ≤ (c52.length : Int)) ∧ ((c52.length : Int) ≤ (c52.length : Int)) then
    let t59 := (c52.take c52.length).drop t58.toNat;
    if (t57.length + t59.length) * 24 ≤ 140737488355328 then
    let t60 := t57 ++ t59;
    if (0 + c52.length) * 24 ≤ 140737488355328 then
    (if (0 ≤ t56) ∧ (t56 < (c52.length : Int)) then
    let l61 := c52.set t56.toNat ((c52.getD t56.toNat (0, 0, 0)).1, (c52.getD t56.toNat (0, 0, 0)).2.1, 1);
    if (0 ≤ t56) ∧ (t56 < (c52.length : Int)) then
    let e62 := c52.getD t56.toNat (0, 0, 0);
    let t63 := IntKind.wrap .i64 (t56 + 1);
    if ((0 : Int) ≤ 0) ∧ (0 ≤ t63) ∧ (t63 ≤ (c52.length : Int)) then
    let t64 := c52.take t63.toNat;
    if (0 + t64.length) * 24 ≤ 140737488355328 then
    (if (t64.length + 1) * 24 ≤ 140737488355328 then
    let t65 := t64 ++ [e62];
    withJoin (ScriptLess_4_J17 N) fun join17 =>
    withJoin (ScriptLess_4_J16 N join17) fun join16 =>
    byB (decide (e62.1 ≥ 0))
      (join16 (((), t40, head41, t56, (), (), (), (), decide (e62.1 < (c50.length : Int)), ()), (c42, c43, c44, c45, c46, c47, c48, c49, c50, ()), (c51, (), c53, c54, ()), (c51, (), c53, c54, ()), (e62.1, e62.2.1, e62.2.2, ()), (c51, (), c53, c54, ()), t60, l61, t65, ()))
      (join16 (((), t40, head41, t56, (), (), (), (), false, ()), (c42, c43, c44, c45, c46, c47, c48, c49, c50, ()), (c51, (), c53, c54, ()), (c51, (), c53, c54, ()), (e62.1, e62.2.1, e62.2.2, ()), (c51, (), c53, c54, ()), t60, l61, t65, ()))
    else none)
    else none
    else none
    else none
    else none)
    else none
    else none
    else none
    else none
    else none
def ScriptLess_4_J3 (N : Nat) (x : ((Int × (Unit × (Unit × (Bool × (Bool × (Bool × Unit)))))) × ((Int × (Int × (Int × (Int × (Int × (Int × (Int × (Int × (List (Int × (Int × (Int × (List (Int × (Int × Int)))))) × Unit))))))))) × ((Int × (List (Int × (Int × Int)) × (List (List Int) × (List Int × Unit)))) × Unit)))) : Option ((Bool × Unit) × Unit) := match x with
  | ((which19, _, _, t20, head21, t22, ()), (c23, c24, c25, c26, c27, c28, c29, c30, c31, ()), (c32, c33, c34, c35, ()), ()) =>
    byB t22
      (some ((head21, ()), ()))
      (withJoin (ScriptLess_4_J6 N) fun join6 =>
        byB (decide (which19 < 0))
          (join6 ((IntKind.wrap .i64 (0 - (IntKind.wrap .i64 (which19 + 1))), (), (), t20, head21, ()), (c23, c24, c25, c26, c27, c28, c29, c30, c31, ()), (c32, c33, c34, c35, ()), ()))
          (join6 ((which19, (), (), t20, head21, ()), (c23, c24, c25, c26, c27, c28, c29, c30, c31, ()), (c32, c33, c34, c35, ()), ())))
def ScriptLess_4 (N : Nat) (x : (((Int × (Int × (Int × (Int × (Int × (Int × (Int × (Int × (List (Int × (Int × (Int × (List (Int × (Int × Int)))))) × Unit))))))))) × ((Int × (List (Int × (Int × Int)) × (List (List Int) × (List Int × Unit)))) × (Int × Unit))) × Unit)) : Option ((Bool × Unit) × Unit) := match x with
  | (((s0, s1, s2, s3, s4, s5, s6, s7, s8, ()), (x9, x10, x11, x12, ()), which13, ()), ()) =>
    (examples_8 N ((), ())).bind fun y14 =>
    withJoin (ScriptLess_4_J3 N) fun join3 =>
    (Admissible_15 N (((s0, s1, s2, s3, s4, s5, s6, s7, s8, ()), (x9, x10, x11, x12, ()), ()), ())).bind fun y15 =>
    byB (!y15.1.1)
      (join3 ((which13, (), (), false, y14.1.1, true, ()), (s0, s1, s2, s3, s4, s5, s6, s7, s8, ()), (x9, x10, x11, x12, ()), ()))
      (join3 ((which13, (), (), false, y14.1.1, (x10.length : Int) == 0, ()), (s0, s1, s2, s3, s4, s5, s6, s7, s8, ()), (x9, x10, x11, x12, ()), ()))
theorem eq_ScriptLess_4 (N : Nat) (x : (ap_ScriptLess_4).den) : funX Try.prog (fs29 N) N 4 lo_ScriptLess_4 jo_ScriptLess_4 Try.f4 ap_ScriptLess_4 rp_ScriptLess_4 x = ScriptLess_4 N x := by kernel_rfl
noncomputable def sp_ScriptLess_4 (N : Nat) : FSpec := specOf ap_ScriptLess_4 rp_ScriptLess_4 true (ScriptLess_4 N)
theorem ok_ScriptLess_4 (N : Nat) : FSound Try.prog 4 (sp_ScriptLess_4 N) := funX_sound (N := N) (loops := lo_ScriptLess_4) (joins := jo_ScriptLess_4) (fsok29 N) Try.func4 (by kernel_rfl) (by kernel_rfl) fun x _ h => (eq_ScriptLess_4 N x).trans h
noncomputable def fs30 (N : Nat) : FuncId → List V1 → List Blk → Option FSpec := fun g xs H => if g = 4 then some (sp_ScriptLess_4 N) else fs29 N g xs H
theorem fsok30 (N : Nat) : ∀ g xs H sp, fs30 N g xs H = some sp → FSound Try.prog g sp := fun g xs H sp h => by
  unfold fs30 at h
  by_cases e : g = 4
  · rw [if_pos e] at h; subst e; cases h; exact ok_ScriptLess_4 N
  · rw [if_neg e] at h; exact fsok29 N g xs H sp h
/-! ScriptAll_5 -/
abbrev ap_ScriptAll_5 : Pat := ⟨[.agg [.int .i64, .int .i64, .int .i64, .int .i64, .int .i64, .int .i64, .int .i64, .int .i64, .ro (.pair (.int .i64) (.pair (.int .i64) (.pair (.int .i64) (.ro (.pair (.int .i64) (.pair (.int .i64) (.int .i64)))))))], .agg [.int .i64, .ro (.pair (.int .i64) (.pair (.int .i64) (.int .i64))), .ro (.ro (.int .i64)), .ro (.int .i64)]], []⟩
abbrev rp_ScriptAll_5 : List Pat := [⟨[.one (.bool)], []⟩]
def lo_ScriptAll_5 : List LSpec := [⟨5, [3, 5, 6], ⟨[.one (.ptr 0 0), .one (.bool), .one (.int .i64)], [.var 29 [.int .i64, .ro (.pair (.int .i64) (.pair (.int .i64) (.int .i64))), .ro (.ro (.int .i64)), .ro (.int .i64)]]⟩⟩, ⟨11, [3, 5, 7, 8], ⟨[.one (.ptr 0 0), .one (.bool), .one (.int .i64), .one (.int .i64)], [.var 29 [.int .i64, .ro (.pair (.int .i64) (.pair (.int .i64) (.int .i64))), .ro (.ro (.int .i64)), .ro (.int .i64)]]⟩⟩, ⟨15, [3, 5, 7, 8, 9, 10], ⟨[.one (.ptr 0 0), .one (.bool), .one (.int .i64), .one (.int .i64), .one (.full 1), .one (.int .i64)], [.var 29 [.int .i64, .ro (.pair (.int .i64) (.pair (.int .i64) (.int .i64))), .ro (.ro (.int .i64)), .ro (.int .i64)], .row 34 (.pair (.int .i64) (.pair (.int .i64) (.int .i64)))]⟩⟩]
def jo_ScriptAll_5 : List LSpec := []
def ScriptAll_5_L15 (N : Nat) (again11 : ((Unit × (Bool × (Int × (Int × Unit)))) × ((Int × (List (Int × (Int × Int)) × (List (List Int) × (List Int × Unit)))) × Unit)) → Option ((Bool × Unit) × Unit)) (again15 : ((Unit × (Bool × (Int × (Int × (Unit × (Int × Unit)))))) × ((Int × (List (Int × (Int × Int)) × (List (List Int) × (List Int × Unit)))) × (List (Int × (Int × Int)) × Unit))) → Option ((Bool × Unit) × Unit)) (x : ((Unit × (Bool × (Int × (Int × (Unit × (Int × Unit)))))) × ((Int × (List (Int × (Int × Int)) × (List (List Int) × (List Int × Unit)))) × (List (Int × (Int × Int)) × Unit)))) : Option ((Bool × Unit) × Unit) := match x with
  | ((_, head36, at37, tick38, _, i39, ()), (c40, c41, c42, c43, ()), l44, ()) =>
    byB (decide (i39 < (l44.length : Int)))
      (byB (decide (at37 ≥ (c41.length : Int)))
          (some ((false, ()), ()))
          (if (0 ≤ i39) ∧ (i39 < (l44.length : Int)) then
            (if (0 ≤ at37) ∧ (at37 < (c41.length : Int)) then
            let e49 := c41.getD at37.toNat (0, 0, 0);
            byB (!(((l44.getD i39.toNat (0, 0, 0)).1 == e49.1) && (((l44.getD i39.toNat (0, 0, 0)).2.1 == e49.2.1) && (((l44.getD i39.toNat (0, 0, 0)).2.2 == e49.2.2) && true))))
              (some ((false, ()), ()))
              (if (0 ≤ i39) ∧ (i39 < (l44.length : Int)) then
                byB ((l44.getD i39.toNat (0, 0, 0)).2.1 != tick38)
                  (some ((false, ()), ()))
                  (again15 (((), head36, IntKind.wrap .i64 (at37 + 1), tick38, (), IntKind.wrap .i64 (i39 + 1), ()), (c40, c41, c42, c43, ()), l44, ()))
                else none)
            else none)
            else none))
      (again11 (((), head36, at37, IntKind.wrap .i64 (tick38 + 1), ()), (c40, c41, c42, c43, ()), ()))
def ScriptAll_5_L11 (N : Nat) (again11 : ((Unit × (Bool × (Int × (Int × Unit)))) × ((Int × (List (Int × (Int × Int)) × (List (List Int) × (List Int × Unit)))) × Unit)) → Option ((Bool × Unit) × Unit)) (x : ((Unit × (Bool × (Int × (Int × Unit)))) × ((Int × (List (Int × (Int × Int)) × (List (List Int) × (List Int × Unit)))) × Unit))) : Option ((Bool × Unit) × Unit) := match x with
  | ((_, head27, at28, tick29, ()), (c30, c31, c32, c33, ()), ()) =>
    byB (decide (tick29 < 200))
      ((At_12 N (((c30, c31, c32, c33, ()), tick29, ()), ())).bind fun y35 =>
        loopN N (ScriptAll_5_L15 N again11) (((), head27, at28, tick29, (), 0, ()), (c30, c31, c32, c33, ()), y35.2.1, ()))
      (byB head27
          (some ((at28 == (c31.length : Int), ()), ()))
          (some ((false, ()), ())))
def ScriptAll_5_L5 (N : Nat) (again5 : ((Unit × (Bool × (Int × Unit))) × ((Int × (List (Int × (Int × Int)) × (List (List Int) × (List Int × Unit)))) × Unit)) → Option ((Bool × Unit) × Unit)) (x : ((Unit × (Bool × (Int × Unit))) × ((Int × (List (Int × (Int × Int)) × (List (List Int) × (List Int × Unit)))) × Unit))) : Option ((Bool × Unit) × Unit) := match x with
  | ((_, head16, i17, ()), (c18, c19, c20, c21, ()), ()) =>
    byB (decide (i17 < (c19.length : Int)))
      (if (0 ≤ i17) ∧ (i17 < (c19.length : Int)) then
        byB (decide ((c19.getD i17.toNat (0, 0, 0)).2.1 ≥ 200))
          (some ((head16, ()), ()))
          (again5 (((), head16, IntKind.wrap .i64 (i17 + 1), ()), (c18, c19, c20, c21, ()), ()))
        else none)
      (loopN N (ScriptAll_5_L11 N) (((), head16, 0, 0, ()), (c18, c19, c20, c21, ()), ()))
def ScriptAll_5 (N : Nat) (x : (((Int × (Int × (Int × (Int × (Int × (Int × (Int × (Int × (List (Int × (Int × (Int × (List (Int × (Int × Int)))))) × Unit))))))))) × ((Int × (List (Int × (Int × Int)) × (List (List Int) × (List Int × Unit)))) × Unit)) × Unit)) : Option ((Bool × Unit) × Unit) := match x with
  | (((s0, s1, s2, s3, s4, s5, s6, s7, s8, ()), (x9, x10, x11, x12, ()), ()), ()) =>
    (examples_8 N ((), ())).bind fun y13 =>
    (Right_13 N (((s0, s1, s2, s3, s4, s5, s6, s7, s8, ()), (x9, x10, x11, x12, ()), ()), ())).bind fun y14 =>
    byB (!y14.1.1)
      (some ((y13.1.1, ()), ()))
      (loopN N (ScriptAll_5_L5 N) (((), y13.1.1, 0, ()), (x9, x10, x11, x12, ()), ()))
theorem eq_ScriptAll_5 (N : Nat) (x : (ap_ScriptAll_5).den) : funX Try.prog (fs30 N) N 5 lo_ScriptAll_5 jo_ScriptAll_5 Try.f5 ap_ScriptAll_5 rp_ScriptAll_5 x = ScriptAll_5 N x := by kernel_rfl
noncomputable def sp_ScriptAll_5 (N : Nat) : FSpec := specOf ap_ScriptAll_5 rp_ScriptAll_5 true (ScriptAll_5 N)
theorem ok_ScriptAll_5 (N : Nat) : FSound Try.prog 5 (sp_ScriptAll_5 N) := funX_sound (N := N) (loops := lo_ScriptAll_5) (joins := jo_ScriptAll_5) (fsok30 N) Try.func5 (by kernel_rfl) (by kernel_rfl) fun x _ h => (eq_ScriptAll_5 N x).trans h
noncomputable def fs31 (N : Nat) : FuncId → List V1 → List Blk → Option FSpec := fun g xs H => if g = 5 then some (sp_ScriptAll_5 N) else fs30 N g xs H
theorem fsok31 (N : Nat) : ∀ g xs H sp, fs31 N g xs H = some sp → FSound Try.prog g sp := fun g xs H sp h => by
  unfold fs31 at h
  by_cases e : g = 5
  · rw [if_pos e] at h; subst e; cases h; exact ok_ScriptAll_5 N
  · rw [if_neg e] at h; exact fsok30 N g xs H sp h
/-! ScriptOrders_6 -/
abbrev ap_ScriptOrders_6 : Pat := ⟨[.one (.int .i64), .agg [.int .i64, .ro (.pair (.int .i64) (.pair (.int .i64) (.int .i64))), .ro (.ro (.int .i64)), .ro (.int .i64)], .one (.int .i64)], []⟩
abbrev rp_ScriptOrders_6 : List Pat := [⟨[.one (.bool)], []⟩]
def lo_ScriptOrders_6 : List LSpec := [⟨14, [2, 4, 7, 8, 9, 10, 11, 12], ⟨[.one (.int .i64), .one (.ptr 0 0), .one (.bool), .one (.ptr 1 0), .one (.full 2), .one (.full 3), .one (.full 4), .one (.int .i64)], [.var 29 [.int .i64, .ro (.pair (.int .i64) (.pair (.int .i64) (.int .i64))), .ro (.ro (.int .i64)), .ro (.int .i64)], .var 24 [.int .i64, .int .i64, .int .i64, .int .i64, .int .i64, .int .i64, .int .i64, .int .i64, .ro (.pair (.int .i64) (.pair (.int .i64) (.pair (.int .i64) (.ro (.pair (.int .i64) (.pair (.int .i64) (.int .i64)))))))], .row 3 (.int .i64), .row 3 (.int .i64), .row 4 .bool]⟩⟩]
def jo_ScriptOrders_6 : List LSpec := [⟨4, [0, 2, 4, 7], ⟨[.one (.int .i64), .one (.int .i64), .one (.ptr 0 0), .one (.bool)], [.var 29 [.int .i64, .ro (.pair (.int .i64) (.pair (.int .i64) (.int .i64))), .ro (.ro (.int .i64)), .ro (.int .i64)]]⟩⟩]
def ScriptOrders_6_L14 (N : Nat) (again14 : ((Int × (Unit × (Bool × (Unit × (Unit × (Unit × (Unit × (Int × Unit)))))))) × ((Int × (List (Int × (Int × Int)) × (List (List Int) × (List Int × Unit)))) × ((Int × (Int × (Int × (Int × (Int × (Int × (Int × (Int × (List (Int × (Int × (Int × (List (Int × (Int × Int)))))) × Unit))))))))) × (List Int × (List Int × (List Bool × Unit)))))) → Option ((Bool × Unit) × Unit)) (x : ((Int × (Unit × (Bool × (Unit × (Unit × (Unit × (Unit × (Int × Unit)))))))) × ((Int × (List (Int × (Int × Int)) × (List (List Int) × (List Int × Unit)))) × ((Int × (Int × (Int × (Int × (Int × (Int × (Int × (Int × (List (Int × (Int × (Int × (List (Int × (Int × Int)))))) × Unit))))))))) × (List Int × (List Int × (List Bool × Unit))))))) : Option ((Bool × Unit) × Unit) := match x with
  | ((tick82, _, head83, _, _, _, _, i84, ()), (c85, c86, c87, c88, ()), (c89, c90, c91, c92, c93, c94, c95, c96, c97, ()), l98, l99, l100, ()) =>
    byB (decide (i84 < (l98.length : Int)))
      (if (0 ≤ i84) ∧ (i84 < (l98.length : Int)) then
        byB (decide ((l98.getD i84.toNat 0) < 0))
          (some ((false, ()), ()))
          (if (0 ≤ i84) ∧ (i84 < (l98.length : Int)) then
            byB (decide ((l98.getD i84.toNat 0) ≥ c89))
              (some ((false, ()), ()))
              (if (0 ≤ i84) ∧ (i84 < (l98.length : Int)) then
                let t107 := l98.getD i84.toNat 0;
                if (0 ≤ t107) ∧ (t107 < (l100.length : Int)) then
                byB (l100.getD t107.toNat false)
                  (some ((false, ()), ()))
                  (if (0 ≤ i84) ∧ (i84 < (l99.length : Int)) then
                    (if (0 ≤ i84) ∧ (i84 < (l98.length : Int)) then
                    byB ((l99.getD i84.toNat 0) != (l98.getD i84.toNat 0))
                      (some ((false, ()), ()))
                      (if (0 ≤ i84) ∧ (i84 < (l98.length : Int)) then
                        let t112 := l98.getD i84.toNat 0;
                        if (0 ≤ t112) ∧ (t112 < (l100.length : Int)) then
                        again14 ((tick82, (), head83, (), (), (), (), IntKind.wrap .i64 (i84 + 1), ()), (c85, c86, c87, c88, ()), (c89, c90, c91, c92, c93, c94, c95, c96, c97, ()), l98, l99, l100.set t112.toNat true, ())
                        else none
                        else none)
                    else none)
                    else none)
                else none
                else none)
            else none)
        else none)
      ((Latency_17 N (((c89, c90, c91, c92, c93, c94, c95, c96, c97, ()), (c85, c86, c87, c88, ()), tick82, ()), ())).bind fun y115 =>
        byB head83
          (byB (decide (y115.1.1 ≥ 1))
              (byB (decide (y115.1.1 ≤ 50))
                  ((Latency_17 N (((c89, c90, c91, c92, c93, c94, c95, c96, c97, ()), (c85, c86, c87, c88, ()), IntKind.wrap .i64 (tick82 + (c88.length : Int)), ()), ())).bind fun y120 =>
                    some ((y120.1.1 == y115.1.1, ()), ()))
                  (some ((false, ()), ())))
              (some ((false, ()), ())))
          (some ((false, ()), ())))
def ScriptOrders_6_J4 (N : Nat) (x : ((Int × (Int × (Unit × (Bool × Unit)))) × ((Int × (List (Int × (Int × Int)) × (List (List Int) × (List Int × Unit)))) × Unit))) : Option ((Bool × Unit) × Unit) := match x with
  | ((cores10, tick11, _, head12, ()), (c13, c14, c15, c16, ()), ()) =>
    byB (decide (tick11 < 0))
      (let t20 := Int.tmod (IntKind.wrap .i64 (0 - (IntKind.wrap .i64 (tick11 + 1)))) 1099511627776;
        let t22 := IntKind.wrap .i64 (1 + (Int.tmod cores10 8));
        (Order_11 N (((t22, 0, 0, 0, 0, 0, 0, 0, [], ()), (c13, c14, c15, c16, ()), t20, ()), ())).bind fun y23 =>
        (Order_11 N (((t22, 0, 0, 0, 0, 0, 0, 0, [], ()), (c13, c14, c15, c16, ()), IntKind.wrap .i64 (t20 + (c15.length : Int)), ()), ())).bind fun y26 =>
        byB ((y23.2.1.length : Int) != t22)
          (some ((false, ()), ()))
          (byB ((y26.2.1.length : Int) != t22)
              (some ((false, ()), ()))
              (if (0 ≤ t22) ∧ (t22 ≤ t22) ∧ (1 * t22 ≤ 281474976710656) then
                loopN N (ScriptOrders_6_L14 N) ((t20, (), head12, (), (), (), (), 0, ()), (c13, c14, c15, c16, ()), (t22, 0, 0, 0, 0, 0, 0, 0, [], ()), y23.2.1, y26.2.1, List.replicate t22.toNat false, ())
                else none)))
      (let t71 := Int.tmod tick11 1099511627776;
        let t73 := IntKind.wrap .i64 (1 + (Int.tmod cores10 8));
        (Order_11 N (((t73, 0, 0, 0, 0, 0, 0, 0, [], ()), (c13, c14, c15, c16, ()), t71, ()), ())).bind fun y74 =>
        (Order_11 N (((t73, 0, 0, 0, 0, 0, 0, 0, [], ()), (c13, c14, c15, c16, ()), IntKind.wrap .i64 (t71 + (c15.length : Int)), ()), ())).bind fun y77 =>
        byB ((y74.2.1.length : Int) != t73)
          (some ((false, ()), ()))
          (byB ((y77.2.1.length : Int) != t73)
              (some ((false, ()), ()))
              (if (0 ≤ t73) ∧ (t73 ≤ t73) ∧ (1 * t73 ≤ 281474976710656) then
                loopN N (ScriptOrders_6_L14 N) ((t71, (), head12, (), (), (), (), 0, ()), (c13, c14, c15, c16, ()), (t73, 0, 0, 0, 0, 0, 0, 0, [], ()), y74.2.1, y77.2.1, List.replicate t73.toNat false, ())
                else none)))
def ScriptOrders_6 (N : Nat) (x : ((Int × ((Int × (List (Int × (Int × Int)) × (List (List Int) × (List Int × Unit)))) × (Int × Unit))) × Unit)) : Option ((Bool × Unit) × Unit) := match x with
  | ((cores0, (x1, x2, x3, x4, ()), tick5, ()), ()) =>
    (examples_8 N ((), ())).bind fun y6 =>
    withJoin (ScriptOrders_6_J4 N) fun join4 =>
    byB (decide (cores0 < 0))
      (join4 ((IntKind.wrap .i64 (0 - (IntKind.wrap .i64 (cores0 + 1))), tick5, (), y6.1.1, ()), (x1, x2, x3, x4, ()), ()))
      (join4 ((cores0, tick5, (), y6.1.1, ()), (x1, x2, x3, x4, ()), ()))
theorem eq_ScriptOrders_6 (N : Nat) (x : (ap_ScriptOrders_6).den) : funX Try.prog (fs31 N) N 6 lo_ScriptOrders_6 jo_ScriptOrders_6 Try.f6 ap_ScriptOrders_6 rp_ScriptOrders_6 x = ScriptOrders_6 N x := by kernel_rfl
noncomputable def sp_ScriptOrders_6 (N : Nat) : FSpec := specOf ap_ScriptOrders_6 rp_ScriptOrders_6 true (ScriptOrders_6 N)
theorem ok_ScriptOrders_6 (N : Nat) : FSound Try.prog 6 (sp_ScriptOrders_6 N) := funX_sound (N := N) (loops := lo_ScriptOrders_6) (joins := jo_ScriptOrders_6) (fsok31 N) Try.func6 (by kernel_rfl) (by kernel_rfl) fun x _ h => (eq_ScriptOrders_6 N x).trans h
noncomputable def fs32 (N : Nat) : FuncId → List V1 → List Blk → Option FSpec := fun g xs H => if g = 6 then some (sp_ScriptOrders_6 N) else fs31 N g xs H
theorem fsok32 (N : Nat) : ∀ g xs H sp, fs32 N g xs H = some sp → FSound Try.prog g sp := fun g xs H sp h => by
  unfold fs32 at h
  by_cases e : g = 6
  · rw [if_pos e] at h; subst e; cases h; exact ok_ScriptOrders_6 N
  · rw [if_neg e] at h; exact fsok31 N g xs H sp h
/-! ScriptLater_7 -/
abbrev ap_ScriptLater_7 : Pat := ⟨[.agg [.int .i64, .int .i64, .int .i64, .int .i64, .int .i64, .int .i64, .int .i64, .int .i64, .ro (.pair (.int .i64) (.pair (.int .i64) (.pair (.int .i64) (.ro (.pair (.int .i64) (.pair (.int .i64) (.int .i64)))))))], .agg [.int .i64, .ro (.pair (.int .i64) (.pair (.int .i64) (.int .i64))), .ro (.ro (.int .i64)), .ro (.int .i64)], .one (.int .i64)], []⟩
abbrev rp_ScriptLater_7 : List Pat := [⟨[.one (.bool)], []⟩]
def lo_ScriptLater_7 : List LSpec := [⟨9, [2, 3, 4, 7, 8, 9], ⟨[.one (.int .i64), .one (.ptr 0 0), .one (.ptr 1 0), .one (.bool), .one (.ptr 2 0), .one (.int .i64)], [.var 24 [.int .i64, .int .i64, .int .i64, .int .i64, .int .i64, .int .i64, .int .i64, .int .i64, .ro (.pair (.int .i64) (.pair (.int .i64) (.pair (.int .i64) (.ro (.pair (.int .i64) (.pair (.int .i64) (.int .i64)))))))], .var 29 [.int .i64, .ro (.pair (.int .i64) (.pair (.int .i64) (.int .i64))), .ro (.ro (.int .i64)), .ro (.int .i64)], .var 29 [.int .i64, .full 3, .ro (.ro (.int .i64)), .ro (.int .i64)], .row 34 (.pair (.int .i64) (.pair (.int .i64) (.int .i64)))]⟩⟩, ⟨17, [3, 4, 7, 8, 10, 11], ⟨[.one (.ptr 0 0), .one (.ptr 1 0), .one (.bool), .one (.ptr 2 0), .one (.ptr 3 0), .one (.int .i64)], [.var 24 [.int .i64, .int .i64, .int .i64, .int .i64, .int .i64, .int .i64, .int .i64, .int .i64, .ro (.pair (.int .i64) (.pair (.int .i64) (.pair (.int .i64) (.ro (.pair (.int .i64) (.pair (.int .i64) (.int .i64)))))))], .var 29 [.int .i64, .ro (.pair (.int .i64) (.pair (.int .i64) (.int .i64))), .ro (.ro (.int .i64)), .ro (.int .i64)], .var 29 [.int .i64, .full 4, .ro (.ro (.int .i64)), .ro (.int .i64)], .var 24 [.int .i64, .int .i64, .int .i64, .int .i64, .int .i64, .int .i64, .int .i64, .int .i64, .full 5], .row 34 (.pair (.int .i64) (.pair (.int .i64) (.int .i64))), .row 40 (.pair (.int .i64) (.pair (.int .i64) (.pair (.int .i64) (.ro (.pair (.int .i64) (.pair (.int .i64) (.int .i64)))))))]⟩⟩]
def jo_ScriptLater_7 : List LSpec := []
def ScriptLater_7_L17 (N : Nat) (again17 : ((Unit × (Unit × (Bool × (Unit × (Unit × (Int × Unit)))))) × ((Int × (Int × (Int × (Int × (Int × (Int × (Int × (Int × (List (Int × (Int × (Int × (List (Int × (Int × Int)))))) × Unit))))))))) × ((Int × (List (Int × (Int × Int)) × (List (List Int) × (List Int × Unit)))) × ((Int × (Unit × (List (List Int) × (List Int × Unit)))) × ((Int × (Int × (Int × (Int × (Int × (Int × (Int × (Int × (Unit × Unit))))))))) × (List (Int × (Int × Int)) × (List (Int × (Int × (Int × (List (Int × (Int × Int)))))) × Unit))))))) → Option ((Bool × Unit) × Unit)) (x : ((Unit × (Unit × (Bool × (Unit × (Unit × (Int × Unit)))))) × ((Int × (Int × (Int × (Int × (Int × (Int × (Int × (Int × (List (Int × (Int × (Int × (List (Int × (Int × Int)))))) × Unit))))))))) × ((Int × (List (Int × (Int × Int)) × (List (List Int) × (List Int × Unit)))) × ((Int × (Unit × (List (List Int) × (List Int × Unit)))) × ((Int × (Int × (Int × (Int × (Int × (Int × (Int × (Int × (Unit × Unit))))))))) × (List (Int × (Int × Int)) × (List (Int × (Int × (Int × (List (Int × (Int × Int)))))) × Unit)))))))) : Option ((Bool × Unit) × Unit) := match x with
  | ((_, _, head112, _, _, i113, ()), (c114, c115, c116, c117, c118, c119, c120, c121, c122, ()), (c123, c124, c125, c126, ()), (c127, _, c128, c129, ()), (c130, c131, c132, c133, c134, c135, c136, c137, _, ()), l138, l139, ()) =>
    byB (decide (i113 < (l139.length : Int)))
      (if (0 ≤ i113) ∧ (i113 < (l139.length : Int)) then
        again17 (((), (), head112, (), (), IntKind.wrap .i64 (i113 + 1), ()), (c114, c115, c116, c117, c118, c119, c120, c121, c122, ()), (c123, c124, c125, c126, ()), (c127, (), c128, c129, ()), (c130, c131, c132, c133, c134, c135, c136, c137, (), ()), l138, l139.set i113.toNat (1099511627776, (l139.getD i113.toNat (0, 0, 0, [])).2), ())
        else none)
      (byB head112
          ((Admissible_15 N (((c114, c115, c116, c117, c118, c119, c120, c121, c122, ()), (c127, l138, c128, c129, ()), ()), ())).bind fun y144 =>
            byB y144.1.1
              ((Right_13 N (((c130, c131, c132, c133, c134, c135, c136, c137, l139, ()), (c123, c124, c125, c126, ()), ()), ())).bind fun y145 =>
                some ((y145.1.1, ()), ()))
              (some ((false, ()), ())))
          (some ((false, ()), ())))
def ScriptLater_7_L9 (N : Nat) (again9 : ((Int × (Unit × (Unit × (Bool × (Unit × (Int × Unit)))))) × ((Int × (Int × (Int × (Int × (Int × (Int × (Int × (Int × (List (Int × (Int × (Int × (List (Int × (Int × Int)))))) × Unit))))))))) × ((Int × (List (Int × (Int × Int)) × (List (List Int) × (List Int × Unit)))) × ((Int × (Unit × (List (List Int) × (List Int × Unit)))) × (List (Int × (Int × Int)) × Unit))))) → Option ((Bool × Unit) × Unit)) (x : ((Int × (Unit × (Unit × (Bool × (Unit × (Int × Unit)))))) × ((Int × (Int × (Int × (Int × (Int × (Int × (Int × (Int × (List (Int × (Int × (Int × (List (Int × (Int × Int)))))) × Unit))))))))) × ((Int × (List (Int × (Int × Int)) × (List (List Int) × (List Int × Unit)))) × ((Int × (Unit × (List (List Int) × (List Int × Unit)))) × (List (Int × (Int × Int)) × Unit)))))) : Option ((Bool × Unit) × Unit) := match x with
  | ((by83, _, _, head84, _, i85, ()), (c86, c87, c88, c89, c90, c91, c92, c93, c94, ()), (c95, c96, c97, c98, ()), (c99, _, c100, c101, ()), l102, ()) =>
    byB (decide (i85 < (l102.length : Int)))
      (if (0 ≤ i85) ∧ (i85 < (l102.length : Int)) then
        byB (decide ((l102.getD i85.toNat (0, 0, 0)).2.1 > 1099511627776))
          (some ((head84, ()), ()))
          (if (0 ≤ i85) ∧ (i85 < (l102.length : Int)) then
            (if (0 ≤ i85) ∧ (i85 < (l102.length : Int)) then
            again9 ((by83, (), (), head84, (), IntKind.wrap .i64 (i85 + 1), ()), (c86, c87, c88, c89, c90, c91, c92, c93, c94, ()), (c95, c96, c97, c98, ()), (c99, (), c100, c101, ()), l102.set i85.toNat ((l102.getD i85.toNat (0, 0, 0)).1, IntKind.wrap .i64 ((l102.getD i85.toNat (0, 0, 0)).2.1 + (Int.tmod by83 1000)), (l102.getD i85.toNat (0, 0, 0)).2.2), ())
            else none)
            else none)
        else none)
      (if (0 + c94.length) * 48 ≤ 140737488355328 then
        loopN N (ScriptLater_7_L17 N) (((), (), head84, (), (), 0, ()), (c86, c87, c88, c89, c90, c91, c92, c93, c94, ()), (c95, c96, c97, c98, ()), (c99, (), c100, c101, ()), (c86, c87, c88, c89, c90, c91, c92, c93, (), ()), l102, c94, ())
        else none)
def ScriptLater_7 (N : Nat) (x : (((Int × (Int × (Int × (Int × (Int × (Int × (Int × (Int × (List (Int × (Int × (Int × (List (Int × (Int × Int)))))) × Unit))))))))) × ((Int × (List (Int × (Int × Int)) × (List (List Int) × (List Int × Unit)))) × (Int × Unit))) × Unit)) : Option ((Bool × Unit) × Unit) := match x with
  | (((s0, s1, s2, s3, s4, s5, s6, s7, s8, ()), (x9, x10, x11, x12, ()), by13, ()), ()) =>
    (examples_8 N ((), ())).bind fun y14 =>
    (Admissible_15 N (((s0, s1, s2, s3, s4, s5, s6, s7, s8, ()), (x9, x10, x11, x12, ()), ()), ())).bind fun y15 =>
    byB (!y15.1.1)
      (some ((y14.1.1, ()), ()))
      (byB (decide (by13 < 0))
          (if (0 + x10.length) * 24 ≤ 140737488355328 then
            loopN N (ScriptLater_7_L9 N) ((IntKind.wrap .i64 (0 - (IntKind.wrap .i64 (by13 + 1))), (), (), y14.1.1, (), 0, ()), (s0, s1, s2, s3, s4, s5, s6, s7, s8, ()), (x9, x10, x11, x12, ()), (x9, (), x11, x12, ()), x10, ())
            else none)
          (if (0 + x10.length) * 24 ≤ 140737488355328 then
            loopN N (ScriptLater_7_L9 N) ((by13, (), (), y14.1.1, (), 0, ()), (s0, s1, s2, s3, s4, s5, s6, s7, s8, ()), (x9, x10, x11, x12, ()), (x9, (), x11, x12, ()), x10, ())
            else none))
theorem eq_ScriptLater_7 (N : Nat) (x : (ap_ScriptLater_7).den) : funX Try.prog (fs32 N) N 7 lo_ScriptLater_7 jo_ScriptLater_7 Try.f7 ap_ScriptLater_7 rp_ScriptLater_7 x = ScriptLater_7 N x := by kernel_rfl
noncomputable def sp_ScriptLater_7 (N : Nat) : FSpec := specOf ap_ScriptLater_7 rp_ScriptLater_7 true (ScriptLater_7 N)
theorem ok_ScriptLater_7 (N : Nat) : FSound Try.prog 7 (sp_ScriptLater_7 N) := funX_sound (N := N) (loops := lo_ScriptLater_7) (joins := jo_ScriptLater_7) (fsok32 N) Try.func7 (by kernel_rfl) (by kernel_rfl) fun x _ h => (eq_ScriptLater_7 N x).trans h
noncomputable def fs33 (N : Nat) : FuncId → List V1 → List Blk → Option FSpec := fun g xs H => if g = 7 then some (sp_ScriptLater_7 N) else fs32 N g xs H
theorem fsok33 (N : Nat) : ∀ g xs H sp, fs33 N g xs H = some sp → FSound Try.prog g sp := fun g xs H sp h => by
  unfold fs33 at h
  by_cases e : g = 7
  · rw [if_pos e] at h; subst e; cases h; exact ok_ScriptLater_7 N
  · rw [if_neg e] at h; exact fsok32 N g xs H sp h
end Go.Proofs.YtlheebdnplcmcaaX
