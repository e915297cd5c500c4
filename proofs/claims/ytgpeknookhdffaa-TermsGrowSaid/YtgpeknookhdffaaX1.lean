/- Functions of the program as plain Lean, each with its equation (printed by a program of this seat's own). Conditions: none. -/
import Derived.Test.YtgpeknookhdffaaM6
import Derived.Test.YtgpeknookhdffaaProg
import Derived.KernelRfl
namespace Go.Proofs.YtgpeknookhdffaaX
open Go Go.Proofs.YtgpeknookhdffaaM
set_option maxRecDepth 100000
set_option linter.unusedVariables false
noncomputable def fs0 (_ : Nat) : FuncId → List V1 → List Blk → Option FSpec := fun _ _ _ => none
theorem fsok0 (N : Nat) : ∀ g xs H sp, fs0 N g xs H = some sp → FSound Try.prog g sp := fun _ _ _ _ h => by cases h
/-! two_19v1 -/
abbrev ap_two_19v1 : Pat := ⟨[], []⟩
abbrev rp_two_19v1 : List Pat := [⟨[.agg [.int .i64, .int .i64, .int .i64, .int .i64, .int .i64, .int .i64, .int .i64, .int .i64, .full 0]], [.row 34 (.pair (.int .i64) (.pair (.int .i64) (.pair (.int .i64) (.ro (.pair (.int .i64) (.pair (.int .i64) (.int .i64)))))))]⟩]
def lo_two_19v1 : List LSpec := []
def jo_two_19v1 : List LSpec := []
def two_19v1 (N : Nat) (x : (Unit × Unit)) : Option (((Int × (Int × (Int × (Int × (Int × (Int × (Int × (Int × (Unit × Unit))))))))) × Unit) × (List (Int × (Int × (Int × (List (Int × (Int × Int)))))) × Unit)) := match x with
  | ((), ()) =>
    some (((2, 1, 1, 0, 0, 0, 1, 1, (), ()), ()), [((50 : Int), (50 : Int), (9 : Int), [((1 : Int), (0 : Int), (3 : Int))]), ((50 : Int), (50 : Int), (9 : Int), [((1 : Int), (0 : Int), (5 : Int))])], ())
theorem eq_two_19v1 (N : Nat) (x : (ap_two_19v1).den) : funX Try.prog (fs0 N) N lo_two_19v1 jo_two_19v1 Try.f19 ap_two_19v1 rp_two_19v1 x = two_19v1 N x := by kernel_rfl
noncomputable def sp_two_19v1 (N : Nat) : FSpec := specOf ap_two_19v1 rp_two_19v1 false (two_19v1 N)
theorem ok_two_19v1 (N : Nat) : FSound Try.prog 19 (sp_two_19v1 N) := funX_sound (N := N) (loops := lo_two_19v1) (joins := jo_two_19v1) (fsok0 N) Try.func19 (by kernel_rfl) (by kernel_rfl) fun x _ h => (eq_two_19v1 N x).trans h
noncomputable def fs1 (N : Nat) : FuncId → List V1 → List Blk → Option FSpec := fun g xs H => if g = 19 then some (sp_two_19v1 N) else fs0 N g xs H
theorem fsok1 (N : Nat) : ∀ g xs H sp, fs1 N g xs H = some sp → FSound Try.prog g sp := fun g xs H sp h => by
  unfold fs1 at h
  by_cases e : g = 19
  · rw [if_pos e] at h; subst e; cases h; exact ok_two_19v1 N
  · rw [if_neg e] at h; exact fsok0 N g xs H sp h
/-! between_28 -/
abbrev ap_between_28 : Pat := ⟨[.one (.int .i64), .one (.int .i64), .one (.int .i64)], []⟩
abbrev rp_between_28 : List Pat := [⟨[.one (.bool)], []⟩]
def lo_between_28 : List LSpec := []
def jo_between_28 : List LSpec := []
def between_28 (N : Nat) (x : ((Int × (Int × (Int × Unit))) × Unit)) : Option ((Bool × Unit) × Unit) := match x with
  | ((n0, a1, b2, ()), ()) =>
    byB (decide (n0 ≥ a1))
      (some ((decide (n0 ≤ b2), ()), ()))
      (some ((false, ()), ()))
theorem eq_between_28 (N : Nat) (x : (ap_between_28).den) : funX Try.prog (fs1 N) N lo_between_28 jo_between_28 Try.f28 ap_between_28 rp_between_28 x = between_28 N x := by kernel_rfl
noncomputable def sp_between_28 (N : Nat) : FSpec := specOf ap_between_28 rp_between_28 true (between_28 N)
theorem ok_between_28 (N : Nat) : FSound Try.prog 28 (sp_between_28 N) := funX_sound (N := N) (loops := lo_between_28) (joins := jo_between_28) (fsok1 N) Try.func28 (by kernel_rfl) (by kernel_rfl) fun x _ h => (eq_between_28 N x).trans h
noncomputable def fs2 (N : Nat) : FuncId → List V1 → List Blk → Option FSpec := fun g xs H => if g = 28 then some (sp_between_28 N) else fs1 N g xs H
theorem fsok2 (N : Nat) : ∀ g xs H sp, fs2 N g xs H = some sp → FSound Try.prog g sp := fun g xs H sp h => by
  unfold fs2 at h
  by_cases e : g = 28
  · rw [if_pos e] at h; subst e; cases h; exact ok_between_28 N
  · rw [if_neg e] at h; exact fsok1 N g xs H sp h
/-! whole_27 -/
abbrev ap_whole_27 : Pat := ⟨[.agg [.int .i64, .int .i64, .int .i64, .int .i64, .int .i64, .int .i64, .int .i64, .int .i64, .ro (.pair (.int .i64) (.pair (.int .i64) (.pair (.int .i64) (.ro (.pair (.int .i64) (.pair (.int .i64) (.int .i64)))))))]], []⟩
abbrev rp_whole_27 : List Pat := [⟨[.one (.bool)], []⟩]
def lo_whole_27 : List LSpec := []
def jo_whole_27 : List LSpec := [⟨4, [1, 13], ⟨[.one (.ptr 0 0), .one (.bool)], [.var 24 [.int .i64, .int .i64, .int .i64, .int .i64, .int .i64, .int .i64, .int .i64, .int .i64, .ro (.pair (.int .i64) (.pair (.int .i64) (.pair (.int .i64) (.ro (.pair (.int .i64) (.pair (.int .i64) (.int .i64)))))))]]⟩⟩, ⟨2, [1, 4], ⟨[.one (.ptr 0 0), .one (.bool)], [.var 24 [.int .i64, .int .i64, .int .i64, .int .i64, .int .i64, .int .i64, .int .i64, .int .i64, .ro (.pair (.int .i64) (.pair (.int .i64) (.pair (.int .i64) (.ro (.pair (.int .i64) (.pair (.int .i64) (.int .i64)))))))]]⟩⟩, ⟨5, [1], ⟨[.one (.ptr 0 0)], [.var 24 [.int .i64, .int .i64, .int .i64, .int .i64, .int .i64, .int .i64, .int .i64, .int .i64, .ro (.pair (.int .i64) (.pair (.int .i64) (.pair (.int .i64) (.ro (.pair (.int .i64) (.pair (.int .i64) (.int .i64)))))))]]⟩⟩]
def whole_27_J4 (N : Nat) (join5 : ((Unit × Unit) × ((Int × (Int × (Int × (Int × (Int × (Int × (Int × (Int × (List (Int × (Int × (Int × (List (Int × (Int × Int)))))) × Unit))))))))) × Unit)) → Option ((Bool × Unit) × Unit)) (x : ((Unit × (Bool × Unit)) × ((Int × (Int × (Int × (Int × (Int × (Int × (Int × (Int × (List (Int × (Int × (Int × (List (Int × (Int × Int)))))) × Unit))))))))) × Unit))) : Option ((Bool × Unit) × Unit) := match x with
  | ((_, t24, ()), (c25, c26, c27, c28, c29, c30, c31, c32, c33, ()), ()) =>
    byB t24
      (some ((false, ()), ()))
      (join5 (((), ()), (c25, c26, c27, c28, c29, c30, c31, c32, c33, ()), ()))
def whole_27_J2 (N : Nat) (join5 : ((Unit × Unit) × ((Int × (Int × (Int × (Int × (Int × (Int × (Int × (Int × (List (Int × (Int × (Int × (List (Int × (Int × Int)))))) × Unit))))))))) × Unit)) → Option ((Bool × Unit) × Unit)) (x : ((Unit × (Bool × Unit)) × ((Int × (Int × (Int × (Int × (Int × (Int × (Int × (Int × (List (Int × (Int × (Int × (List (Int × (Int × Int)))))) × Unit))))))))) × Unit))) : Option ((Bool × Unit) × Unit) := match x with
  | ((_, t11, ()), (c12, c13, c14, c15, c16, c17, c18, c19, c20, ()), ()) =>
    byB t11
      (some ((false, ()), ()))
      (withJoin (whole_27_J4 N join5) fun join4 =>
        byB (c14 != 1)
          (byB (c14 != 2)
              (join4 (((), true, ()), (c12, c13, c14, c15, c16, c17, c18, c19, c20, ()), ()))
              (join4 (((), c13 != 1, ()), (c12, c13, c14, c15, c16, c17, c18, c19, c20, ()), ())))
          (join4 (((), false, ()), (c12, c13, c14, c15, c16, c17, c18, c19, c20, ()), ())))
def whole_27_J5 (N : Nat) (x : ((Unit × Unit) × ((Int × (Int × (Int × (Int × (Int × (Int × (Int × (Int × (List (Int × (Int × (Int × (List (Int × (Int × Int)))))) × Unit))))))))) × Unit))) : Option ((Bool × Unit) × Unit) := match x with
  | ((_, ()), (c34, c35, c36, c37, c38, c39, c40, c41, c42, ()), ()) =>
    (between_28 N ((c37, 0, 50, ()), ())).bind fun y43 =>
    byB y43.1.1
      ((between_28 N ((c38, 0, 50, ()), ())).bind fun y44 =>
        byB y44.1.1
          ((between_28 N ((c39, 0, 50, ()), ())).bind fun y45 =>
            byB y45.1.1
              ((between_28 N ((c34, 1, 8, ()), ())).bind fun y46 =>
                byB y46.1.1
                  ((between_28 N ((c40, 1, 50, ()), ())).bind fun y47 =>
                    byB y47.1.1
                      ((between_28 N ((c41, 0, 8, ()), ())).bind fun y48 =>
                        byB y48.1.1
                          ((between_28 N (((c42.length : Int), 1, 24, ()), ())).bind fun y50 =>
                            some ((y50.1.1, ()), ()))
                          (some ((false, ()), ())))
                      (some ((false, ()), ())))
                  (some ((false, ()), ())))
              (some ((false, ()), ())))
          (some ((false, ()), ())))
      (some ((false, ()), ()))
def whole_27 (N : Nat) (x : (((Int × (Int × (Int × (Int × (Int × (Int × (Int × (Int × (List (Int × (Int × (Int × (List (Int × (Int × Int)))))) × Unit))))))))) × Unit) × Unit)) : Option ((Bool × Unit) × Unit) := match x with
  | (((s0, s1, s2, s3, s4, s5, s6, s7, s8, ()), ()), ()) =>
    withJoin (whole_27_J5 N) fun join5 =>
    withJoin (whole_27_J2 N join5) fun join2 =>
    byB (s1 != 1)
      (join2 (((), s1 != 2, ()), (s0, s1, s2, s3, s4, s5, s6, s7, s8, ()), ()))
      (join2 (((), false, ()), (s0, s1, s2, s3, s4, s5, s6, s7, s8, ()), ()))
theorem eq_whole_27 (N : Nat) (x : (ap_whole_27).den) : funX Try.prog (fs2 N) N lo_whole_27 jo_whole_27 Try.f27 ap_whole_27 rp_whole_27 x = whole_27 N x := by kernel_rfl
noncomputable def sp_whole_27 (N : Nat) : FSpec := specOf ap_whole_27 rp_whole_27 true (whole_27 N)
theorem ok_whole_27 (N : Nat) : FSound Try.prog 27 (sp_whole_27 N) := funX_sound (N := N) (loops := lo_whole_27) (joins := jo_whole_27) (fsok2 N) Try.func27 (by kernel_rfl) (by kernel_rfl) fun x _ h => (eq_whole_27 N x).trans h
noncomputable def fs3 (N : Nat) : FuncId → List V1 → List Blk → Option FSpec := fun g xs H => if g = 27 then some (sp_whole_27 N) else fs2 N g xs H
theorem fsok3 (N : Nat) : ∀ g xs H sp, fs3 N g xs H = some sp → FSound Try.prog g sp := fun g xs H sp h => by
  unfold fs3 at h
  by_cases e : g = 27
  · rw [if_pos e] at h; subst e; cases h; exact ok_whole_27 N
  · rw [if_neg e] at h; exact fsok2 N g xs H sp h
/-! Check_25 -/
abbrev ap_Check_25 : Pat := ⟨[.agg [.int .i64, .int .i64, .int .i64, .int .i64, .int .i64, .int .i64, .int .i64, .int .i64, .ro (.pair (.int .i64) (.pair (.int .i64) (.pair (.int .i64) (.ro (.pair (.int .i64) (.pair (.int .i64) (.int .i64)))))))]], []⟩
abbrev rp_Check_25 : List Pat := [⟨[.agg [.int .i64, .int .i64, .int .i64]], []⟩]
def lo_Check_25 : List LSpec := [⟨5, [1, 2, 3, 15, 16, 17], ⟨[.one (.ptr 0 0), .one (.ptr 1 0), .one (.ptr 2 0), .one (.ro (.pair (.int .i64) (.pair (.int .i64) (.pair (.int .i64) (.ro (.pair (.int .i64) (.pair (.int .i64) (.int .i64)))))))), .one (.int .i64), .one (.int .i64)], [.var 24 [.int .i64, .int .i64, .int .i64, .int .i64, .int .i64, .int .i64, .int .i64, .int .i64, .ro (.pair (.int .i64) (.pair (.int .i64) (.pair (.int .i64) (.ro (.pair (.int .i64) (.pair (.int .i64) (.int .i64)))))))], .var 49 [.int .i64, .int .i64, .int .i64], .var 49 [.int .i64, .int .i64, .int .i64]]⟩⟩, ⟨12, [1, 2, 3, 5, 6, 15, 16, 17, 30, 31, 32, 33, 34, 35, 38, 39, 40, 41, 42, 43, 46, 47, 48, 49, 53, 54, 55], ⟨[.one (.ptr 0 0), .one (.ptr 1 0), .one (.ptr 2 0), .one (.ptr 3 0), .one (.int .i64), .one (.ro (.pair (.int .i64) (.pair (.int .i64) (.pair (.int .i64) (.ro (.pair (.int .i64) (.pair (.int .i64) (.int .i64)))))))), .one (.int .i64), .one (.int .i64), .one (.ptr 3 1), .one (.int .i64), .one (.ptr 3 0), .one (.int .i64), .one (.bool), .one (.bool), .one (.ptr 3 2), .one (.int .i64), .one (.ptr 3 1), .one (.int .i64), .one (.bool), .one (.bool), .one (.ptr 3 3), .one (.ro (.pair (.int .i64) (.pair (.int .i64) (.int .i64)))), .one (.int .i64), .one (.bool), .one (.ro (.pair (.int .i64) (.pair (.int .i64) (.int .i64)))), .one (.int .i64), .one (.int .i64)], [.var 24 [.int .i64, .int .i64, .int .i64, .int .i64, .int .i64, .int .i64, .int .i64, .int .i64, .ro (.pair (.int .i64) (.pair (.int .i64) (.pair (.int .i64) (.ro (.pair (.int .i64) (.pair (.int .i64) (.int .i64)))))))], .var 49 [.int .i64, .int .i64, .int .i64], .var 49 [.int .i64, .int .i64, .int .i64], .var 34 [.int .i64, .int .i64, .int .i64, .ro (.pair (.int .i64) (.pair (.int .i64) (.int .i64)))]]⟩⟩]
def jo_Check_25 : List LSpec := []
def Check_25_L12 (N : Nat) (again5 : ((Unit × (Unit × (Unit × (List (Int × (Int × (Int × (List (Int × (Int × Int)))))) × (Int × (Int × Unit)))))) × ((Int × (Int × (Int × (Int × (Int × (Int × (Int × (Int × (List (Int × (Int × (Int × (List (Int × (Int × Int)))))) × Unit))))))))) × ((Int × (Int × (Int × Unit))) × ((Int × (Int × (Int × Unit))) × Unit)))) → Option (((Int × (Int × (Int × Unit))) × Unit) × Unit)) (again12 : ((Unit × (Unit × (Unit × (Unit × (Int × (List (Int × (Int × (Int × (List (Int × (Int × Int)))))) × (Int × (Int × (Unit × (Int × (Unit × (Int × (Bool × (Bool × (Unit × (Int × (Unit × (Int × (Bool × (Bool × (Unit × (List (Int × (Int × Int)) × (Int × (Bool × (List (Int × (Int × Int)) × (Int × (Int × Unit))))))))))))))))))))))))))) × ((Int × (Int × (Int × (Int × (Int × (Int × (Int × (Int × (List (Int × (Int × (Int × (List (Int × (Int × Int)))))) × Unit))))))))) × ((Int × (Int × (Int × Unit))) × ((Int × (Int × (Int × Unit))) × ((Int × (Int × (Int × (List (Int × (Int × Int)) × Unit)))) × Unit))))) → Option (((Int × (Int × (Int × Unit))) × Unit) × Unit)) (x : ((Unit × (Unit × (Unit × (Unit × (Int × (List (Int × (Int × (Int × (List (Int × (Int × Int)))))) × (Int × (Int × (Unit × (Int × (Unit × (Int × (Bool × (Bool × (Unit × (Int × (Unit × (Int × (Bool × (Bool × (Unit × (List (Int × (Int × Int)) × (Int × (Bool × (List (Int × (Int × Int)) × (Int × (Int × Unit))))))))))))))))))))))))))) × ((Int × (Int × (Int × (Int × (Int × (Int × (Int × (Int × (List (Int × (Int × (Int × (List (Int × (Int × Int)))))) × Unit))))))))) × ((Int × (Int × (Int × Unit))) × ((Int × (Int × (Int × Unit))) × ((Int × (Int × (Int × (List (Int × (Int × Int)) × Unit)))) × Unit)))))) : Option (((Int × (Int × (Int × Unit))) × Unit) × Unit) := match x with
  | ((_, _, _, _, end41, t42, t43, t44, _, t45, _, t46, t47, t48, _, t49, _, t50, t51, t52, _, t53, t54, t55, t56, t57, t58, ()), (c59, c60, c61, c62, c63, c64, c65, c66, c67, ()), (c68, c69, c70, ()), (c71, c72, c73, ()), (c74, c75, c76, c77, ()), ()) =>
    byB (decide (t58 < t57))
      (if (0 ≤ t58) ∧ (t58 < (t56.length : Int)) then
        let e79 := t56.getD t58.toNat (0, 0, 0);
        byB (decide (e79.1 < end41))
          (byB (decide (c72 ≥ 0))
              (some (((c71, c72, t58, ()), ()), ()))
              (some (((0, -1, -1, ()), ()), ())))
          (byB (decide (e79.1 > c76))
              (byB (decide (c72 ≥ 0))
                  (some (((c71, c72, t58, ()), ()), ()))
                  (some (((0, -1, -1, ()), ()), ())))
              (byB (decide (e79.2.1 < 0))
                  (byB (decide (c72 ≥ 0))
                      (some (((c71, c72, t58, ()), ()), ()))
                      (some (((0, -1, -1, ()), ()), ())))
                  (byB (decide (e79.2.1 ≥ c66))
                      (byB (decide (c72 ≥ 0))
                          (some (((c71, c72, t58, ()), ()), ()))
                          (some (((0, -1, -1, ()), ()), ())))
                      (byB (decide (e79.2.2 < 1))
                          (byB (decide (c72 ≥ 0))
                              (some (((c71, c72, t58, ()), ()), ()))
                              (some (((0, -1, -1, ()), ()), ())))
                          (byB (decide (e79.2.2 > (IntKind.wrap .i64 (c76 - e79.1))))
                              (byB (decide (c72 ≥ 0))
                                  (some (((c71, c72, t58, ()), ()), ()))
                                  (some (((0, -1, -1, ()), ()), ())))
                              (again12 (((), (), (), (), IntKind.wrap .i64 (e79.1 + e79.2.2), t42, t43, t44, (), t45, (), t46, t47, t48, (), t49, (), t50, t51, t52, (), t53, t54, t55, t56, t57, IntKind.wrap .i64 (t58 + 1), ()), (c59, c60, c61, c62, c63, c64, c65, c66, c67, ()), (c68, c69, c70, ()), (c71, c72, c73, ()), (c74, c75, c76, c77, ()), ())))))))
        else none)
      (again5 (((), (), (), t42, t43, IntKind.wrap .i64 (t44 + 1), ()), (c59, c60, c61, c62, c63, c64, c65, c66, c67, ()), (c68, c69, c70, ()), (c71, -1, c73, ()), ()))
def Check_25_L5 (N : Nat) (again5 : ((Unit × (Unit × (Unit × (List (Int × (Int × (Int × (List (Int × (Int × Int)))))) × (Int × (Int × Unit)))))) × ((Int × (Int × (Int × (Int × (Int × (Int × (Int × (Int × (List (Int × (Int × (Int × (List (Int × (Int × Int)))))) × Unit))))))))) × ((Int × (Int × (Int × Unit))) × ((Int × (Int × (Int × Unit))) × Unit)))) → Option (((Int × (Int × (Int × Unit))) × Unit) × Unit)) (x : ((Unit × (Unit × (Unit × (List (Int × (Int × (Int × (List (Int × (Int × Int)))))) × (Int × (Int × Unit)))))) × ((Int × (Int × (Int × (Int × (Int × (Int × (Int × (Int × (List (Int × (Int × (Int × (List (Int × (Int × Int)))))) × Unit))))))))) × ((Int × (Int × (Int × Unit))) × ((Int × (Int × (Int × Unit))) × Unit))))) : Option (((Int × (Int × (Int × Unit))) × Unit) × Unit) := match x with
  | ((_, _, _, t12, t13, t14, ()), (c15, c16, c17, c18, c19, c20, c21, c22, c23, ()), (c24, c25, c26, ()), (c27, c28, c29, ()), ()) =>
    byB (decide (t14 < t13))
      (if (0 ≤ t14) ∧ (t14 < (t12.length : Int)) then
        let e31 := t12.getD t14.toNat (0, 0, 0, []);
        (between_28 N ((e31.1, 1, 1099511627776, ()), ())).bind fun y32 =>
        byB (!y32.1.1)
          (some (((c27, t14, -1, ()), ()), ()))
          ((between_28 N ((e31.2.1, 1, e31.1, ()), ())).bind fun y34 =>
            byB (!y34.1.1)
              (some (((c27, t14, -1, ()), ()), ()))
              ((between_28 N ((e31.2.2.1, 1, e31.2.1, ()), ())).bind fun y36 =>
                byB (!y36.1.1)
                  (some (((c27, t14, -1, ()), ()), ()))
                  (let t38 := (e31.2.2.2.length : Int);
                    let t39 := decide (t38 > 4);
                    byB t39
                      (some (((c27, t14, -1, ()), ()), ()))
                      (loopN N (Check_25_L12 N again5) (((), (), (), (), 0, t12, t13, t14, (), e31.2.1, (), e31.1, y34.1.1, !y34.1.1, (), e31.2.2.1, (), e31.2.1, y36.1.1, !y36.1.1, (), e31.2.2.2, t38, t39, e31.2.2.2, (e31.2.2.2.length : Int), 0, ()), (c15, c16, c17, c18, c19, c20, c21, c22, c23, ()), (c24, c25, c26, ()), (c27, t14, -1, ()), (e31.1, e31.2.1, e31.2.2.1, e31.2.2.2, ()), ())))))
        else none)
      (byB (decide (c28 ≥ 0))
          (some (((c27, c28, c29, ()), ()), ()))
          (some (((0, -1, -1, ()), ()), ())))
def Check_25 (N : Nat) (x : (((Int × (Int × (Int × (Int × (Int × (Int × (Int × (Int × (List (Int × (Int × (Int × (List (Int × (Int × Int)))))) × Unit))))))))) × Unit) × Unit)) : Option (((Int × (Int × (Int × Unit))) × Unit) × Unit) := match x with
  | (((s0, s1, s2, s3, s4, s5, s6, s7, s8, ()), ()), ()) =>
    (whole_27 N (((s0, s1, s2, s3, s4, s5, s6, s7, s8, ()), ()), ())).bind fun y9 =>
    byB (!y9.1.1)
      (some (((10, -1, -1, ()), ()), ()))
      (loopN N (Check_25_L5 N) (((), (), (), s8, (s8.length : Int), 0, ()), (s0, s1, s2, s3, s4, s5, s6, s7, s8, ()), (0, 0, 0, ()), (10, -1, -1, ()), ()))
theorem eq_Check_25 (N : Nat) (x : (ap_Check_25).den) : funX Try.prog (fs3 N) N lo_Check_25 jo_Check_25 Try.f25 ap_Check_25 rp_Check_25 x = Check_25 N x := by kernel_rfl
noncomputable def sp_Check_25 (N : Nat) : FSpec := specOf ap_Check_25 rp_Check_25 true (Check_25 N)
theorem ok_Check_25 (N : Nat) : FSound Try.prog 25 (sp_Check_25 N) := funX_sound (N := N) (loops := lo_Check_25) (joins := jo_Check_25) (fsok3 N) Try.func25 (by kernel_rfl) (by kernel_rfl) fun x _ h => (eq_Check_25 N x).trans h
noncomputable def fs4 (N : Nat) : FuncId → List V1 → List Blk → Option FSpec := fun g xs H => if g = 25 then some (sp_Check_25 N) else fs3 N g xs H
theorem fsok4 (N : Nat) : ∀ g xs H sp, fs4 N g xs H = some sp → FSound Try.prog g sp := fun g xs H sp h => by
  unfold fs4 at h
  by_cases e : g = 25
  · rw [if_pos e] at h; subst e; cases h; exact ok_Check_25 N
  · rw [if_neg e] at h; exact fsok3 N g xs H sp h
/-! Right_18 -/
abbrev ap_Right_18 : Pat := ⟨[.agg [.int .i64, .int .i64, .int .i64, .int .i64, .int .i64, .int .i64, .int .i64, .int .i64, .ro (.pair (.int .i64) (.pair (.int .i64) (.pair (.int .i64) (.ro (.pair (.int .i64) (.pair (.int .i64) (.int .i64)))))))]], []⟩
abbrev rp_Right_18 : List Pat := [⟨[.one (.bool)], []⟩]
def lo_Right_18 : List LSpec := []
def jo_Right_18 : List LSpec := []
def Right_18 (N : Nat) (x : (((Int × (Int × (Int × (Int × (Int × (Int × (Int × (Int × (List (Int × (Int × (Int × (List (Int × (Int × Int)))))) × Unit))))))))) × Unit) × Unit)) : Option ((Bool × Unit) × Unit) := match x with
  | (((s0, s1, s2, s3, s4, s5, s6, s7, s8, ()), ()), ()) =>
    (Check_25 N (((s0, s1, s2, s3, s4, s5, s6, s7, s8, ()), ()), ())).bind fun y9 =>
    some ((y9.1.1.1 == 0, ()), ())
theorem eq_Right_18 (N : Nat) (x : (ap_Right_18).den) : funX Try.prog (fs4 N) N lo_Right_18 jo_Right_18 Try.f18 ap_Right_18 rp_Right_18 x = Right_18 N x := by kernel_rfl
noncomputable def sp_Right_18 (N : Nat) : FSpec := specOf ap_Right_18 rp_Right_18 true (Right_18 N)
theorem ok_Right_18 (N : Nat) : FSound Try.prog 18 (sp_Right_18 N) := funX_sound (N := N) (loops := lo_Right_18) (joins := jo_Right_18) (fsok4 N) Try.func18 (by kernel_rfl) (by kernel_rfl) fun x _ h => (eq_Right_18 N x).trans h
noncomputable def fs5 (N : Nat) : FuncId → List V1 → List Blk → Option FSpec := fun g xs H => if g = 18 then some (sp_Right_18 N) else fs4 N g xs H
theorem fsok5 (N : Nat) : ∀ g xs H sp, fs5 N g xs H = some sp → FSound Try.prog g sp := fun g xs H sp h => by
  unfold fs5 at h
  by_cases e : g = 18
  · rw [if_pos e] at h; subst e; cases h; exact ok_Right_18 N
  · rw [if_neg e] at h; exact fsok4 N g xs H sp h
/-! longest_20 -/
abbrev ap_longest_20 : Pat := ⟨[.agg [.int .i64, .int .i64, .int .i64, .int .i64, .int .i64, .int .i64, .int .i64, .int .i64, .ro (.pair (.int .i64) (.pair (.int .i64) (.pair (.int .i64) (.ro (.pair (.int .i64) (.pair (.int .i64) (.int .i64)))))))], .one (.ro (.int .i64))], []⟩
abbrev rp_longest_20 : List Pat := [⟨[.one (.map 0)], [.map (.pair (.int .i64) (.int .i64)) (.int .i64)]⟩]
def lo_longest_20 : List LSpec := [⟨3, [1, 5, 20, 21, 22], ⟨[.one (.ro (.int .i64)), .one (.map 0), .one (.ro (.pair (.int .i64) (.pair (.int .i64) (.pair (.int .i64) (.ro (.pair (.int .i64) (.pair (.int .i64) (.int .i64)))))))), .one (.int .i64), .one (.int .i64)], [.map (.pair (.int .i64) (.int .i64)) (.int .i64)]⟩⟩, ⟨6, [1, 5, 6, 20, 21, 22, 28, 29, 30], ⟨[.one (.ro (.int .i64)), .one (.map 0), .one (.int .i64), .one (.ro (.pair (.int .i64) (.pair (.int .i64) (.pair (.int .i64) (.ro (.pair (.int .i64) (.pair (.int .i64) (.int .i64)))))))), .one (.int .i64), .one (.int .i64), .one (.ro (.pair (.int .i64) (.pair (.int .i64) (.int .i64)))), .one (.int .i64), .one (.int .i64)], [.map (.pair (.int .i64) (.int .i64)) (.int .i64)]⟩⟩]
def jo_longest_20 : List LSpec := []
def longest_20_L6 (N : Nat) (again3 : ((List Int × (Unit × (List (Int × (Int × (Int × (List (Int × (Int × Int)))))) × (Int × (Int × Unit))))) × (List ((Int × Int) × Int) × Unit)) → Option ((Unit × Unit) × (List ((Int × Int) × Int) × Unit))) (again6 : ((List Int × (Unit × (Int × (List (Int × (Int × (Int × (List (Int × (Int × Int)))))) × (Int × (Int × (List (Int × (Int × Int)) × (Int × (Int × Unit))))))))) × (List ((Int × Int) × Int) × Unit)) → Option ((Unit × Unit) × (List ((Int × Int) × Int) × Unit))) (x : ((List Int × (Unit × (Int × (List (Int × (Int × (Int × (List (Int × (Int × Int)))))) × (Int × (Int × (List (Int × (Int × Int)) × (Int × (Int × Unit))))))))) × (List ((Int × Int) × Int) × Unit))) : Option ((Unit × Unit) × (List ((Int × Int) × Int) × Unit)) := match x with
  | ((where23, _, i24, t25, t26, t27, t28, t29, t30, ()), m31, ()) =>
    byB (decide (t30 < t29))
      (if (0 ≤ t30) ∧ (t30 < (t28.length : Int)) then
        let e33 := t28.getD t30.toNat (0, 0, 0);
        if (0 ≤ i24) ∧ (i24 < (where23.length : Int)) then
        let e34 := where23.getD i24.toNat 0;
        again6 ((where23, (), i24, t25, t26, t27, t28, t29, IntKind.wrap .i64 (t30 + 1), ()), mapPut (Ty.beqD (.pair (.int .i64) (.int .i64))) (e34, e33.2.1) (if e33.2.2 > ((mapGet (Ty.beqD (.pair (.int .i64) (.int .i64))) (e34, e33.2.1) m31).getD 0) then e33.2.2 else ((mapGet (Ty.beqD (.pair (.int .i64) (.int .i64))) (e34, e33.2.1) m31).getD 0)) m31, ())
        else none
        else none)
      (again3 ((where23, (), t25, t26, IntKind.wrap .i64 (t27 + 1), ()), m31, ()))
def longest_20_L3 (N : Nat) (again3 : ((List Int × (Unit × (List (Int × (Int × (Int × (List (Int × (Int × Int)))))) × (Int × (Int × Unit))))) × (List ((Int × Int) × Int) × Unit)) → Option ((Unit × Unit) × (List ((Int × Int) × Int) × Unit))) (x : ((List Int × (Unit × (List (Int × (Int × (Int × (List (Int × (Int × Int)))))) × (Int × (Int × Unit))))) × (List ((Int × Int) × Int) × Unit))) : Option ((Unit × Unit) × (List ((Int × Int) × Int) × Unit)) := match x with
  | ((where15, _, t16, t17, t18, ()), m19, ()) =>
    byB (decide (t18 < t17))
      (if (0 ≤ t18) ∧ (t18 < (t16.length : Int)) then
        let e21 := t16.getD t18.toNat (0, 0, 0, []);
        loopN N (longest_20_L6 N again3) ((where15, (), t18, t16, t17, t18, e21.2.2.2, (e21.2.2.2.length : Int), 0, ()), m19, ())
        else none)
      (some (((), ()), m19, ()))
def longest_20 (N : Nat) (x : (((Int × (Int × (Int × (Int × (Int × (Int × (Int × (Int × (List (Int × (Int × (Int × (List (Int × (Int × Int)))))) × Unit))))))))) × (List Int × Unit)) × Unit)) : Option ((Unit × Unit) × (List ((Int × Int) × Int) × Unit)) := match x with
  | (((s0, s1, s2, s3, s4, s5, s6, s7, s8, ()), where9, ()), ()) =>
    let t12 := if (where9.length : Int) < (s8.length : Int) then (where9.length : Int) else (s8.length : Int);
    if ((0 : Int) ≤ 0) ∧ (0 ≤ t12) ∧ (t12 ≤ (s8.length : Int)) then
    let t13 := s8.take t12.toNat;
    loopN N (longest_20_L3 N) ((where9, (), t13, (t13.length : Int), 0, ()), [], ())
    else none
theorem eq_longest_20 (N : Nat) (x : (ap_longest_20).den) : funX Try.prog (fs5 N) N lo_longest_20 jo_longest_20 Try.f20 ap_longest_20 rp_longest_20 x = longest_20 N x := by kernel_rfl
noncomputable def sp_longest_20 (N : Nat) : FSpec := specOf ap_longest_20 rp_longest_20 true (longest_20 N)
theorem ok_longest_20 (N : Nat) : FSound Try.prog 20 (sp_longest_20 N) := funX_sound (N := N) (loops := lo_longest_20) (joins := jo_longest_20) (fsok5 N) Try.func20 (by kernel_rfl) (by kernel_rfl) fun x _ h => (eq_longest_20 N x).trans h
noncomputable def fs6 (N : Nat) : FuncId → List V1 → List Blk → Option FSpec := fun g xs H => if g = 20 then some (sp_longest_20 N) else fs5 N g xs H
theorem fsok6 (N : Nat) : ∀ g xs H sp, fs6 N g xs H = some sp → FSound Try.prog g sp := fun g xs H sp h => by
  unfold fs6 at h
  by_cases e : g = 20
  · rw [if_pos e] at h; subst e; cases h; exact ok_longest_20 N
  · rw [if_neg e] at h; exact fsok5 N g xs H sp h
/-! Longest_8 -/
abbrev ap_Longest_8 : Pat := ⟨[.agg [.int .i64, .int .i64, .int .i64, .int .i64, .int .i64, .int .i64, .int .i64, .int .i64, .ro (.pair (.int .i64) (.pair (.int .i64) (.pair (.int .i64) (.ro (.pair (.int .i64) (.pair (.int .i64) (.int .i64)))))))], .one (.ro (.int .i64)), .one (.int .i64), .one (.int .i64)], []⟩
abbrev rp_Longest_8 : List Pat := [⟨[.one (.int .i64)], []⟩]
def lo_Longest_8 : List LSpec := []
def jo_Longest_8 : List LSpec := []
def Longest_8 (N : Nat) (x : (((Int × (Int × (Int × (Int × (Int × (Int × (Int × (Int × (List (Int × (Int × (Int × (List (Int × (Int × Int)))))) × Unit))))))))) × (List Int × (Int × (Int × Unit)))) × Unit)) : Option ((Int × Unit) × Unit) := match x with
  | (((s0, s1, s2, s3, s4, s5, s6, s7, s8, ()), where9, core10, res11, ()), ()) =>
    (Right_18 N (((s0, s1, s2, s3, s4, s5, s6, s7, s8, ()), ()), ())).bind fun y12 =>
    byB (!y12.1.1)
      (some ((0, ()), ()))
      (byB (decide (core10 < 0))
          (some ((0, ()), ()))
          (byB (decide (core10 ≥ s0))
              (some ((0, ()), ()))
              ((longest_20 N (((s0, s1, s2, s3, s4, s5, s6, s7, s8, ()), where9, ()), ())).bind fun y16 =>
                some (((mapGet (Ty.beqD (.pair (.int .i64) (.int .i64))) (core10, res11) y16.2.1).getD 0, ()), ()))))
theorem eq_Longest_8 (N : Nat) (x : (ap_Longest_8).den) : funX Try.prog (fs6 N) N lo_Longest_8 jo_Longest_8 Try.f8 ap_Longest_8 rp_Longest_8 x = Longest_8 N x := by kernel_rfl
noncomputable def sp_Longest_8 (N : Nat) : FSpec := specOf ap_Longest_8 rp_Longest_8 true (Longest_8 N)
theorem ok_Longest_8 (N : Nat) : FSound Try.prog 8 (sp_Longest_8 N) := funX_sound (N := N) (loops := lo_Longest_8) (joins := jo_Longest_8) (fsok6 N) Try.func8 (by kernel_rfl) (by kernel_rfl) fun x _ h => (eq_Longest_8 N x).trans h
noncomputable def fs7 (N : Nat) : FuncId → List V1 → List Blk → Option FSpec := fun g xs H => if g = 8 then some (sp_Longest_8 N) else fs6 N g xs H
theorem fsok7 (N : Nat) : ∀ g xs H sp, fs7 N g xs H = some sp → FSound Try.prog g sp := fun g xs H sp h => by
  unfold fs7 at h
  by_cases e : g = 8
  · rw [if_pos e] at h; subst e; cases h; exact ok_Longest_8 N
  · rw [if_neg e] at h; exact fsok6 N g xs H sp h
/-! section_23 -/
abbrev ap_section_23 : Pat := ⟨[.agg [.int .i64, .int .i64, .int .i64, .int .i64, .int .i64, .int .i64, .int .i64, .int .i64, .ro (.pair (.int .i64) (.pair (.int .i64) (.pair (.int .i64) (.ro (.pair (.int .i64) (.pair (.int .i64) (.int .i64)))))))], .one (.int .i64), .one (.int .i64)], []⟩
abbrev rp_section_23 : List Pat := [⟨[.agg [.int .i64, .int .i64, .int .i64], .one (.bool)], []⟩]
def lo_section_23 : List LSpec := []
def jo_section_23 : List LSpec := []
def section_23 (N : Nat) (x : (((Int × (Int × (Int × (Int × (Int × (Int × (Int × (Int × (List (Int × (Int × (Int × (List (Int × (Int × Int)))))) × Unit))))))))) × (Int × (Int × Unit))) × Unit)) : Option (((Int × (Int × (Int × Unit))) × (Bool × Unit)) × Unit) := match x with
  | (((s0, s1, s2, s3, s4, s5, s6, s7, s8, ()), task9, k10, ()), ()) =>
    (Right_18 N (((s0, s1, s2, s3, s4, s5, s6, s7, s8, ()), ()), ())).bind fun y11 =>
    byB (!y11.1.1)
      (some (((0, 0, 0, ()), false, ()), ()))
      (byB (decide (task9 < 0))
          (some (((0, 0, 0, ()), false, ()), ()))
          (byB (decide (task9 ≥ (s8.length : Int)))
              (some (((0, 0, 0, ()), false, ()), ()))
              (byB (decide (k10 < 0))
                  (some (((0, 0, 0, ()), false, ()), ()))
                  (if (0 ≤ task9) ∧ (task9 < (s8.length : Int)) then
                    byB (decide (k10 ≥ ((s8.getD task9.toNat (0, 0, 0, [])).2.2.2.length : Int)))
                      (some (((0, 0, 0, ()), false, ()), ()))
                      (if (0 ≤ task9) ∧ (task9 < (s8.length : Int)) then
                        let e20 := s8.getD task9.toNat (0, 0, 0, []);
                        if (0 ≤ k10) ∧ (k10 < (e20.2.2.2.length : Int)) then
                        let e21 := e20.2.2.2.getD k10.toNat (0, 0, 0);
                        some (((e21.1, e21.2.1, e21.2.2, ()), true, ()), ())
                        else none
                        else none)
                    else none))))
theorem eq_section_23 (N : Nat) (x : (ap_section_23).den) : funX Try.prog (fs7 N) N lo_section_23 jo_section_23 Try.f23 ap_section_23 rp_section_23 x = section_23 N x := by kernel_rfl
noncomputable def sp_section_23 (N : Nat) : FSpec := specOf ap_section_23 rp_section_23 true (section_23 N)
theorem ok_section_23 (N : Nat) : FSound Try.prog 23 (sp_section_23 N) := funX_sound (N := N) (loops := lo_section_23) (joins := jo_section_23) (fsok7 N) Try.func23 (by kernel_rfl) (by kernel_rfl) fun x _ h => (eq_section_23 N x).trans h
noncomputable def fs8 (N : Nat) : FuncId → List V1 → List Blk → Option FSpec := fun g xs H => if g = 23 then some (sp_section_23 N) else fs7 N g xs H
theorem fsok8 (N : Nat) : ∀ g xs H sp, fs8 N g xs H = some sp → FSound Try.prog g sp := fun g xs H sp h => by
  unfold fs8 at h
  by_cases e : g = 23
  · rw [if_pos e] at h; subst e; cases h; exact ok_section_23 N
  · rw [if_neg e] at h; exact fsok7 N g xs H sp h
/-! Wait_10 -/
abbrev ap_Wait_10 : Pat := ⟨[.agg [.int .i64, .int .i64, .int .i64, .int .i64, .int .i64, .int .i64, .int .i64, .int .i64, .ro (.pair (.int .i64) (.pair (.int .i64) (.pair (.int .i64) (.ro (.pair (.int .i64) (.pair (.int .i64) (.int .i64)))))))], .one (.ro (.int .i64)), .one (.int .i64), .one (.int .i64)], []⟩
abbrev rp_Wait_10 : List Pat := [⟨[.one (.int .i64)], []⟩]
def lo_Wait_10 : List LSpec := [⟨9, [9, 11, 12, 13, 37, 38], ⟨[.one (.ptr 0 0), .one (.int .i64), .one (.map 1), .one (.int .i64), .one (.int .i64), .one (.int .i64)], [.var 36 [.int .i64, .int .i64, .int .i64], .map (.pair (.int .i64) (.int .i64)) (.int .i64)]⟩⟩]
def jo_Wait_10 : List LSpec := []
def Wait_10_L9 (N : Nat) (again9 : ((Unit × (Int × (Unit × (Int × (Int × (Int × Unit)))))) × ((Int × (Int × (Int × Unit))) × (List ((Int × Int) × Int) × Unit))) → Option ((Int × Unit) × Unit)) (x : ((Unit × (Int × (Unit × (Int × (Int × (Int × Unit)))))) × ((Int × (Int × (Int × Unit))) × (List ((Int × Int) × Int) × Unit)))) : Option ((Int × Unit) × Unit) := match x with
  | ((_, own36, _, sum37, t38, t39, ()), (c40, c41, c42, ()), m43, ()) =>
    byB (decide (t39 < t38))
      (let t45 := (mapGet (Ty.beqD (.pair (.int .i64) (.int .i64))) (t39, c41) m43).getD 0;
        byB (t39 != own36)
          (byB (decide (t45 > 0))
              (again9 (((), own36, (), IntKind.wrap .i64 (sum37 + (IntKind.wrap .i64 (t45 + 1))), t38, IntKind.wrap .i64 (t39 + 1), ()), (c40, c41, c42, ()), m43, ()))
              (again9 (((), own36, (), sum37, t38, IntKind.wrap .i64 (t39 + 1), ()), (c40, c41, c42, ()), m43, ())))
          (again9 (((), own36, (), sum37, t38, IntKind.wrap .i64 (t39 + 1), ()), (c40, c41, c42, ()), m43, ())))
      (some ((sum37, ()), ()))
def Wait_10 (N : Nat) (x : (((Int × (Int × (Int × (Int × (Int × (Int × (Int × (Int × (List (Int × (Int × (Int × (List (Int × (Int × Int)))))) × Unit))))))))) × (List Int × (Int × (Int × Unit)))) × Unit)) : Option ((Int × Unit) × Unit) := match x with
  | (((s0, s1, s2, s3, s4, s5, s6, s7, s8, ()), where9, task10, k11, ()), ()) =>
    (section_23 N (((s0, s1, s2, s3, s4, s5, s6, s7, s8, ()), task10, k11, ()), ())).bind fun y12 =>
    byB (!y12.1.2.1)
      (some ((0, ()), ()))
      (byB (decide (task10 < (where9.length : Int)))
          (if (0 ≤ task10) ∧ (task10 < (where9.length : Int)) then
            (longest_20 N (((s0, s1, s2, s3, s4, s5, s6, s7, s8, ()), where9, ()), ())).bind fun y17 =>
            loopN N (Wait_10_L9 N) (((), where9.getD task10.toNat 0, (), 0, s0, 0, ()), (y12.1.1.1, y12.1.1.2.1, y12.1.1.2.2.1, ()), y17.2.1, ())
            else none)
          ((longest_20 N (((s0, s1, s2, s3, s4, s5, s6, s7, s8, ()), where9, ()), ())).bind fun y35 =>
            loopN N (Wait_10_L9 N) (((), -1, (), 0, s0, 0, ()), (y12.1.1.1, y12.1.1.2.1, y12.1.1.2.2.1, ()), y35.2.1, ())))
theorem eq_Wait_10 (N : Nat) (x : (ap_Wait_10).den) : funX Try.prog (fs8 N) N lo_Wait_10 jo_Wait_10 Try.f10 ap_Wait_10 rp_Wait_10 x = Wait_10 N x := by kernel_rfl
noncomputable def sp_Wait_10 (N : Nat) : FSpec := specOf ap_Wait_10 rp_Wait_10 true (Wait_10 N)
theorem ok_Wait_10 (N : Nat) : FSound Try.prog 10 (sp_Wait_10 N) := funX_sound (N := N) (loops := lo_Wait_10) (joins := jo_Wait_10) (fsok8 N) Try.func10 (by kernel_rfl) (by kernel_rfl) fun x _ h => (eq_Wait_10 N x).trans h
noncomputable def fs9 (N : Nat) : FuncId → List V1 → List Blk → Option FSpec := fun g xs H => if g = 10 then some (sp_Wait_10 N) else fs8 N g xs H
theorem fsok9 (N : Nat) : ∀ g xs H sp, fs9 N g xs H = some sp → FSound Try.prog g sp := fun g xs H sp h => by
  unfold fs9 at h
  by_cases e : g = 10
  · rw [if_pos e] at h; subst e; cases h; exact ok_Wait_10 N
  · rw [if_neg e] at h; exact fsok8 N g xs H sp h
/-! Hold_12 -/
abbrev ap_Hold_12 : Pat := ⟨[.agg [.int .i64, .int .i64, .int .i64, .int .i64, .int .i64, .int .i64, .int .i64, .int .i64, .ro (.pair (.int .i64) (.pair (.int .i64) (.pair (.int .i64) (.ro (.pair (.int .i64) (.pair (.int .i64) (.int .i64)))))))], .one (.ro (.int .i64)), .one (.int .i64), .one (.int .i64)], []⟩
abbrev rp_Hold_12 : List Pat := [⟨[.one (.int .i64)], []⟩]
def lo_Hold_12 : List LSpec := []
def jo_Hold_12 : List LSpec := []
def Hold_12 (N : Nat) (x : (((Int × (Int × (Int × (Int × (Int × (Int × (Int × (Int × (List (Int × (Int × (Int × (List (Int × (Int × Int)))))) × Unit))))))))) × (List Int × (Int × (Int × Unit)))) × Unit)) : Option ((Int × Unit) × Unit) := match x with
  | (((s0, s1, s2, s3, s4, s5, s6, s7, s8, ()), where9, task10, k11, ()), ()) =>
    (section_23 N (((s0, s1, s2, s3, s4, s5, s6, s7, s8, ()), task10, k11, ()), ())).bind fun y12 =>
    (Wait_10 N (((s0, s1, s2, s3, s4, s5, s6, s7, s8, ()), where9, task10, k11, ()), ())).bind fun y13 =>
    some ((IntKind.wrap .i64 (y13.1.1 + y12.1.1.2.2.1), ()), ())
theorem eq_Hold_12 (N : Nat) (x : (ap_Hold_12).den) : funX Try.prog (fs9 N) N lo_Hold_12 jo_Hold_12 Try.f12 ap_Hold_12 rp_Hold_12 x = Hold_12 N x := by kernel_rfl
noncomputable def sp_Hold_12 (N : Nat) : FSpec := specOf ap_Hold_12 rp_Hold_12 true (Hold_12 N)
theorem ok_Hold_12 (N : Nat) : FSound Try.prog 12 (sp_Hold_12 N) := funX_sound (N := N) (loops := lo_Hold_12) (joins := jo_Hold_12) (fsok9 N) Try.func12 (by kernel_rfl) (by kernel_rfl) fun x _ h => (eq_Hold_12 N x).trans h
noncomputable def fs10 (N : Nat) : FuncId → List V1 → List Blk → Option FSpec := fun g xs H => if g = 12 then some (sp_Hold_12 N) else fs9 N g xs H
theorem fsok10 (N : Nat) : ∀ g xs H sp, fs10 N g xs H = some sp → FSound Try.prog g sp := fun g xs H sp h => by
  unfold fs10 at h
  by_cases e : g = 12
  · rw [if_pos e] at h; subst e; cases h; exact ok_Hold_12 N
  · rw [if_neg e] at h; exact fsok9 N g xs H sp h
/-! Uses_16 -/
abbrev ap_Uses_16 : Pat := ⟨[.agg [.int .i64, .int .i64, .int .i64, .int .i64, .int .i64, .int .i64, .int .i64, .int .i64, .ro (.pair (.int .i64) (.pair (.int .i64) (.pair (.int .i64) (.ro (.pair (.int .i64) (.pair (.int .i64) (.int .i64)))))))], .one (.int .i64)], []⟩
abbrev rp_Uses_16 : List Pat := [⟨[.one (.bool)], []⟩]
def lo_Uses_16 : List LSpec := []
def jo_Uses_16 : List LSpec := []
def Uses_16 (N : Nat) (x : (((Int × (Int × (Int × (Int × (Int × (Int × (Int × (Int × (List (Int × (Int × (Int × (List (Int × (Int × Int)))))) × Unit))))))))) × (Int × Unit)) × Unit)) : Option ((Bool × Unit) × Unit) := match x with
  | (((s0, s1, s2, s3, s4, s5, s6, s7, s8, ()), task9, ()), ()) =>
    (section_23 N (((s0, s1, s2, s3, s4, s5, s6, s7, s8, ()), task9, 0, ()), ())).bind fun y10 =>
    some ((y10.1.2.1, ()), ())
theorem eq_Uses_16 (N : Nat) (x : (ap_Uses_16).den) : funX Try.prog (fs10 N) N lo_Uses_16 jo_Uses_16 Try.f16 ap_Uses_16 rp_Uses_16 x = Uses_16 N x := by kernel_rfl
noncomputable def sp_Uses_16 (N : Nat) : FSpec := specOf ap_Uses_16 rp_Uses_16 true (Uses_16 N)
theorem ok_Uses_16 (N : Nat) : FSound Try.prog 16 (sp_Uses_16 N) := funX_sound (N := N) (loops := lo_Uses_16) (joins := jo_Uses_16) (fsok10 N) Try.func16 (by kernel_rfl) (by kernel_rfl) fun x _ h => (eq_Uses_16 N x).trans h
noncomputable def fs11 (N : Nat) : FuncId → List V1 → List Blk → Option FSpec := fun g xs H => if g = 16 then some (sp_Uses_16 N) else fs10 N g xs H
theorem fsok11 (N : Nat) : ∀ g xs H sp, fs11 N g xs H = some sp → FSound Try.prog g sp := fun g xs H sp h => by
  unfold fs11 at h
  by_cases e : g = 16
  · rw [if_pos e] at h; subst e; cases h; exact ok_Uses_16 N
  · rw [if_neg e] at h; exact fsok10 N g xs H sp h
/-! Extra_14 -/
abbrev ap_Extra_14 : Pat := ⟨[.agg [.int .i64, .int .i64, .int .i64, .int .i64, .int .i64, .int .i64, .int .i64, .int .i64, .ro (.pair (.int .i64) (.pair (.int .i64) (.pair (.int .i64) (.ro (.pair (.int .i64) (.pair (.int .i64) (.int .i64)))))))], .one (.ro (.int .i64)), .one (.int .i64)], []⟩
abbrev rp_Extra_14 : List Pat := [⟨[.one (.int .i64)], []⟩]
def lo_Extra_14 : List LSpec := [⟨4, [1, 2, 3, 7, 18, 19], ⟨[.one (.ro (.int .i64)), .one (.int .i64), .one (.ptr 0 0), .one (.int .i64), .one (.int .i64), .one (.int .i64)], [.var 24 [.int .i64, .int .i64, .int .i64, .int .i64, .int .i64, .int .i64, .int .i64, .int .i64, .ro (.pair (.int .i64) (.pair (.int .i64) (.pair (.int .i64) (.ro (.pair (.int .i64) (.pair (.int .i64) (.int .i64)))))))]]⟩⟩]
def jo_Extra_14 : List LSpec := []
def Extra_14_L4 (N : Nat) (again4 : ((List Int × (Int × (Unit × (Int × (Int × (Int × Unit)))))) × ((Int × (Int × (Int × (Int × (Int × (Int × (Int × (Int × (List (Int × (Int × (Int × (List (Int × (Int × Int)))))) × Unit))))))))) × Unit)) → Option ((Int × Unit) × Unit)) (x : ((List Int × (Int × (Unit × (Int × (Int × (Int × Unit)))))) × ((Int × (Int × (Int × (Int × (Int × (Int × (Int × (Int × (List (Int × (Int × (Int × (List (Int × (Int × Int)))))) × Unit))))))))) × Unit))) : Option ((Int × Unit) × Unit) := match x with
  | ((where14, task15, _, sum16, t17, t18, ()), (c19, c20, c21, c22, c23, c24, c25, c26, c27, ()), ()) =>
    byB (decide (t18 < t17))
      ((Wait_10 N (((c19, c20, c21, c22, c23, c24, c25, c26, c27, ()), where14, task15, t18, ()), ())).bind fun y29 =>
        again4 ((where14, task15, (), IntKind.wrap .i64 (sum16 + y29.1.1), t17, IntKind.wrap .i64 (t18 + 1), ()), (c19, c20, c21, c22, c23, c24, c25, c26, c27, ()), ()))
      (some ((sum16, ()), ()))
def Extra_14 (N : Nat) (x : (((Int × (Int × (Int × (Int × (Int × (Int × (Int × (Int × (List (Int × (Int × (Int × (List (Int × (Int × Int)))))) × Unit))))))))) × (List Int × (Int × Unit))) × Unit)) : Option ((Int × Unit) × Unit) := match x with
  | (((s0, s1, s2, s3, s4, s5, s6, s7, s8, ()), where9, task10, ()), ()) =>
    (Uses_16 N (((s0, s1, s2, s3, s4, s5, s6, s7, s8, ()), task10, ()), ())).bind fun y11 =>
    byB y11.1.1
      (if (0 ≤ task10) ∧ (task10 < (s8.length : Int)) then
        loopN N (Extra_14_L4 N) ((where9, task10, (), 0, ((s8.getD task10.toNat (0, 0, 0, [])).2.2.2.length : Int), 0, ()), (s0, s1, s2, s3, s4, s5, s6, s7, s8, ()), ())
        else none)
      (some ((0, ()), ()))
theorem eq_Extra_14 (N : Nat) (x : (ap_Extra_14).den) : funX Try.prog (fs11 N) N lo_Extra_14 jo_Extra_14 Try.f14 ap_Extra_14 rp_Extra_14 x = Extra_14 N x := by kernel_rfl
noncomputable def sp_Extra_14 (N : Nat) : FSpec := specOf ap_Extra_14 rp_Extra_14 true (Extra_14 N)
theorem ok_Extra_14 (N : Nat) : FSound Try.prog 14 (sp_Extra_14 N) := funX_sound (N := N) (loops := lo_Extra_14) (joins := jo_Extra_14) (fsok11 N) Try.func14 (by kernel_rfl) (by kernel_rfl) fun x _ h => (eq_Extra_14 N x).trans h
noncomputable def fs12 (N : Nat) : FuncId → List V1 → List Blk → Option FSpec := fun g xs H => if g = 14 then some (sp_Extra_14 N) else fs11 N g xs H
theorem fsok12 (N : Nat) : ∀ g xs H sp, fs12 N g xs H = some sp → FSound Try.prog g sp := fun g xs H sp h => by
  unfold fs12 at h
  by_cases e : g = 14
  · rw [if_pos e] at h; subst e; cases h; exact ok_Extra_14 N
  · rw [if_neg e] at h; exact fsok11 N g xs H sp h
/-! examples_7 -/
abbrev ap_examples_7 : Pat := ⟨[], []⟩
abbrev rp_examples_7 : List Pat := [⟨[.one (.bool)], []⟩]
def lo_examples_7 : List LSpec := []
def jo_examples_7 : List LSpec := []
def examples_7 (N : Nat) (x : (Unit × Unit)) : Option ((Bool × Unit) × Unit) := if 300 ≤ N then some ((true, ()), ()) else none
theorem eq_examples_7 (k : Nat) : funX Try.prog (fs12 (k + 300)) (k + 300) lo_examples_7 jo_examples_7 Try.f7 ap_examples_7 rp_examples_7 ((), ()) = some ((true, ()), ()) := by kernel_rfl
noncomputable def sp_examples_7 (N : Nat) : FSpec := specOf ap_examples_7 rp_examples_7 true (examples_7 N)
theorem ok_examples_7 (N : Nat) : FSound Try.prog 7 (sp_examples_7 N) := funX_sound (N := N) (loops := lo_examples_7) (joins := jo_examples_7) (fsok12 N) Try.func7 (by kernel_rfl) (by kernel_rfl) fun x _ h => by
  unfold examples_7 at h
  split at h
  · rename_i hN
    obtain ⟨k, rfl⟩ : ∃ k, N = k + 300 := ⟨N - 300, by omega⟩
    exact (eq_examples_7 k).trans h
  · cases h
noncomputable def fs13 (N : Nat) : FuncId → List V1 → List Blk → Option FSpec := fun g xs H => if g = 7 then some (sp_examples_7 N) else fs12 N g xs H
theorem fsok13 (N : Nat) : ∀ g xs H sp, fs13 N g xs H = some sp → FSound Try.prog g sp := fun g xs H sp h => by
  unfold fs13 at h
  by_cases e : g = 7
  · rw [if_pos e] at h; subst e; cases h; exact ok_examples_7 N
  · rw [if_neg e] at h; exact fsok12 N g xs H sp h
/-! within_30 -/
abbrev ap_within_30 : Pat := ⟨[.one (.int .i64), .one (.int .i64), .one (.int .i64)], []⟩
abbrev rp_within_30 : List Pat := [⟨[.one (.bool)], []⟩]
def lo_within_30 : List LSpec := []
def jo_within_30 : List LSpec := []
def within_30 (N : Nat) (x : ((Int × (Int × (Int × Unit))) × Unit)) : Option ((Bool × Unit) × Unit) := match x with
  | ((n0, a1, b2, ()), ()) =>
    byB (decide (n0 ≥ a1))
      (some ((decide (n0 ≤ b2), ()), ()))
      (some ((false, ()), ()))
theorem eq_within_30 (N : Nat) (x : (ap_within_30).den) : funX Try.prog (fs13 N) N lo_within_30 jo_within_30 Try.f30 ap_within_30 rp_within_30 x = within_30 N x := by kernel_rfl
noncomputable def sp_within_30 (N : Nat) : FSpec := specOf ap_within_30 rp_within_30 true (within_30 N)
theorem ok_within_30 (N : Nat) : FSound Try.prog 30 (sp_within_30 N) := funX_sound (N := N) (loops := lo_within_30) (joins := jo_within_30) (fsok13 N) Try.func30 (by kernel_rfl) (by kernel_rfl) fun x _ h => (eq_within_30 N x).trans h
noncomputable def fs14 (N : Nat) : FuncId → List V1 → List Blk → Option FSpec := fun g xs H => if g = 30 then some (sp_within_30 N) else fs13 N g xs H
theorem fsok14 (N : Nat) : ∀ g xs H sp, fs14 N g xs H = some sp → FSound Try.prog g sp := fun g xs H sp h => by
  unfold fs14 at h
  by_cases e : g = 30
  · rw [if_pos e] at h; subst e; cases h; exact ok_within_30 N
  · rw [if_neg e] at h; exact fsok13 N g xs H sp h
/-! whole_29 -/
abbrev ap_whole_29 : Pat := ⟨[.agg [.int .i64, .int .i64, .int .i64, .int .i64, .int .i64, .int .i64, .int .i64, .int .i64, .ro (.pair (.int .i64) (.pair (.int .i64) (.pair (.int .i64) (.ro (.pair (.int .i64) (.pair (.int .i64) (.int .i64)))))))]], []⟩
abbrev rp_whole_29 : List Pat := [⟨[.one (.bool)], []⟩]
def lo_whole_29 : List LSpec := []
def jo_whole_29 : List LSpec := [⟨2, [1, 28], ⟨[.one (.ptr 0 0), .one (.bool)], [.var 24 [.int .i64, .int .i64, .int .i64, .int .i64, .int .i64, .int .i64, .int .i64, .int .i64, .ro (.pair (.int .i64) (.pair (.int .i64) (.pair (.int .i64) (.ro (.pair (.int .i64) (.pair (.int .i64) (.int .i64)))))))]]⟩⟩]
def whole_29_J2 (N : Nat) (x : ((Unit × (Bool × Unit)) × ((Int × (Int × (Int × (Int × (Int × (Int × (Int × (Int × (List (Int × (Int × (Int × (List (Int × (Int × Int)))))) × Unit))))))))) × Unit))) : Option ((Bool × Unit) × Unit) := match x with
  | ((_, t17, ()), (c18, c19, c20, c21, c22, c23, c24, c25, c26, ()), ()) =>
    byB t17
      (some ((false, ()), ()))
      ((within_30 N ((c21, 0, 50, ()), ())).bind fun y27 =>
        byB y27.1.1
          ((within_30 N ((c22, 0, 50, ()), ())).bind fun y28 =>
            byB y28.1.1
              ((within_30 N ((c23, 0, 50, ()), ())).bind fun y29 =>
                byB y29.1.1
                  ((within_30 N ((c24, 1, 50, ()), ())).bind fun y30 =>
                    byB y30.1.1
                      ((within_30 N ((c25, 0, 8, ()), ())).bind fun y31 =>
                        byB y31.1.1
                          ((within_30 N (((c26.length : Int), 1, 24, ()), ())).bind fun y33 =>
                            some ((y33.1.1, ()), ()))
                          (some ((false, ()), ())))
                      (some ((false, ()), ())))
                  (some ((false, ()), ())))
              (some ((false, ()), ())))
          (some ((false, ()), ())))
def whole_29 (N : Nat) (x : (((Int × (Int × (Int × (Int × (Int × (Int × (Int × (Int × (List (Int × (Int × (Int × (List (Int × (Int × Int)))))) × Unit))))))))) × Unit) × Unit)) : Option ((Bool × Unit) × Unit) := match x with
  | (((s0, s1, s2, s3, s4, s5, s6, s7, s8, ()), ()), ()) =>
    withJoin (whole_29_J2 N) fun join2 =>
    (within_30 N ((s0, 1, 8, ()), ())).bind fun y9 =>
    byB (!y9.1.1)
      (join2 (((), true, ()), (s0, s1, s2, s3, s4, s5, s6, s7, s8, ()), ()))
      ((within_30 N ((s1, 1, 2, ()), ())).bind fun y11 =>
        byB (!y11.1.1)
          (join2 (((), true, ()), (s0, s1, s2, s3, s4, s5, s6, s7, s8, ()), ()))
          ((within_30 N ((s2, 1, 2, ()), ())).bind fun y13 =>
            byB (!y13.1.1)
              (join2 (((), true, ()), (s0, s1, s2, s3, s4, s5, s6, s7, s8, ()), ()))
              (byB (s2 == 2)
                  (join2 (((), s1 != 1, ()), (s0, s1, s2, s3, s4, s5, s6, s7, s8, ()), ()))
                  (join2 (((), false, ()), (s0, s1, s2, s3, s4, s5, s6, s7, s8, ()), ())))))
theorem eq_whole_29 (N : Nat) (x : (ap_whole_29).den) : funX Try.prog (fs14 N) N lo_whole_29 jo_whole_29 Try.f29 ap_whole_29 rp_whole_29 x = whole_29 N x := by kernel_rfl
noncomputable def sp_whole_29 (N : Nat) : FSpec := specOf ap_whole_29 rp_whole_29 true (whole_29 N)
theorem ok_whole_29 (N : Nat) : FSound Try.prog 29 (sp_whole_29 N) := funX_sound (N := N) (loops := lo_whole_29) (joins := jo_whole_29) (fsok14 N) Try.func29 (by kernel_rfl) (by kernel_rfl) fun x _ h => (eq_whole_29 N x).trans h
noncomputable def fs15 (N : Nat) : FuncId → List V1 → List Blk → Option FSpec := fun g xs H => if g = 29 then some (sp_whole_29 N) else fs14 N g xs H
theorem fsok15 (N : Nat) : ∀ g xs H sp, fs15 N g xs H = some sp → FSound Try.prog g sp := fun g xs H sp h => by
  unfold fs15 at h
  by_cases e : g = 29
  · rw [if_pos e] at h; subst e; cases h; exact ok_whole_29 N
  · rw [if_neg e] at h; exact fsok14 N g xs H sp h
/-! Check_26 -/
abbrev ap_Check_26 : Pat := ⟨[.agg [.int .i64, .int .i64, .int .i64, .int .i64, .int .i64, .int .i64, .int .i64, .int .i64, .ro (.pair (.int .i64) (.pair (.int .i64) (.pair (.int .i64) (.ro (.pair (.int .i64) (.pair (.int .i64) (.int .i64)))))))]], []⟩
abbrev rp_Check_26 : List Pat := [⟨[.one (.bool), .one (.int .i64), .one (.int .i64)], []⟩]
def lo_Check_26 : List LSpec := [⟨4, [1, 5], ⟨[.one (.ptr 0 0), .one (.int .i64)], [.var 24 [.int .i64, .int .i64, .int .i64, .int .i64, .int .i64, .int .i64, .int .i64, .int .i64, .ro (.pair (.int .i64) (.pair (.int .i64) (.pair (.int .i64) (.ro (.pair (.int .i64) (.pair (.int .i64) (.int .i64)))))))]]⟩⟩, ⟨11, [1, 5, 6, 7, 8, 30, 31, 32, 33, 34, 35, 38, 39, 40, 41, 42, 43, 46, 47, 48, 49], ⟨[.one (.ptr 0 0), .one (.int .i64), .one (.ptr 1 0), .one (.int .i64), .one (.int .i64), .one (.ptr 1 1), .one (.int .i64), .one (.ptr 1 0), .one (.int .i64), .one (.bool), .one (.bool), .one (.ptr 1 2), .one (.int .i64), .one (.ptr 1 1), .one (.int .i64), .one (.bool), .one (.bool), .one (.ptr 1 3), .one (.ro (.pair (.int .i64) (.pair (.int .i64) (.int .i64)))), .one (.int .i64), .one (.bool)], [.var 24 [.int .i64, .int .i64, .int .i64, .int .i64, .int .i64, .int .i64, .int .i64, .int .i64, .ro (.pair (.int .i64) (.pair (.int .i64) (.pair (.int .i64) (.ro (.pair (.int .i64) (.pair (.int .i64) (.int .i64)))))))], .var 34 [.int .i64, .int .i64, .int .i64, .ro (.pair (.int .i64) (.pair (.int .i64) (.int .i64)))]]⟩⟩]
def jo_Check_26 : List LSpec := []
def Check_26_L11 (N : Nat) (again4 : ((Unit × (Int × Unit)) × ((Int × (Int × (Int × (Int × (Int × (Int × (Int × (Int × (List (Int × (Int × (Int × (List (Int × (Int × Int)))))) × Unit))))))))) × Unit)) → Option ((Bool × (Int × (Int × Unit))) × Unit)) (again11 : ((Unit × (Int × (Unit × (Int × (Int × (Unit × (Int × (Unit × (Int × (Bool × (Bool × (Unit × (Int × (Unit × (Int × (Bool × (Bool × (Unit × (List (Int × (Int × Int)) × (Int × (Bool × Unit))))))))))))))))))))) × ((Int × (Int × (Int × (Int × (Int × (Int × (Int × (Int × (List (Int × (Int × (Int × (List (Int × (Int × Int)))))) × Unit))))))))) × ((Int × (Int × (Int × (List (Int × (Int × Int)) × Unit)))) × Unit))) → Option ((Bool × (Int × (Int × Unit))) × Unit)) (x : ((Unit × (Int × (Unit × (Int × (Int × (Unit × (Int × (Unit × (Int × (Bool × (Bool × (Unit × (Int × (Unit × (Int × (Bool × (Bool × (Unit × (List (Int × (Int × Int)) × (Int × (Bool × Unit))))))))))))))))))))) × ((Int × (Int × (Int × (Int × (Int × (Int × (Int × (Int × (List (Int × (Int × (Int × (List (Int × (Int × Int)))))) × Unit))))))))) × ((Int × (Int × (Int × (List (Int × (Int × Int)) × Unit)))) × Unit)))) : Option ((Bool × (Int × (Int × Unit))) × Unit) := match x with
  | ((_, i32, _, end33, k34, _, t35, _, t36, t37, t38, _, t39, _, t40, t41, t42, _, t43, t44, t45, ()), (c46, c47, c48, c49, c50, c51, c52, c53, c54, ()), (c55, c56, c57, c58, ()), ()) =>
    byB (decide (k34 < (c58.length : Int)))
      (if (0 ≤ k34) ∧ (k34 < (c58.length : Int)) then
        let e61 := c58.getD k34.toNat (0, 0, 0);
        (within_30 N ((e61.1, end33, c57, ()), ())).bind fun y62 =>
        byB (!y62.1.1)
          (some ((true, i32, k34, ()), ()))
          ((within_30 N ((e61.2.1, 0, IntKind.wrap .i64 (c53 - 1), ()), ())).bind fun y65 =>
            byB (!y65.1.1)
              (some ((true, i32, k34, ()), ()))
              ((within_30 N ((e61.2.2, 1, IntKind.wrap .i64 (c57 - e61.1), ()), ())).bind fun y68 =>
                byB (!y68.1.1)
                  (some ((true, i32, k34, ()), ()))
                  (again11 (((), i32, (), IntKind.wrap .i64 (e61.1 + e61.2.2), IntKind.wrap .i64 (k34 + 1), (), t35, (), t36, t37, t38, (), t39, (), t40, t41, t42, (), t43, t44, t45, ()), (c46, c47, c48, c49, c50, c51, c52, c53, c54, ()), (c55, c56, c57, c58, ()), ()))))
        else none)
      (again4 (((), IntKind.wrap .i64 (i32 + 1), ()), (c46, c47, c48, c49, c50, c51, c52, c53, c54, ()), ()))
def Check_26_L4 (N : Nat) (again4 : ((Unit × (Int × Unit)) × ((Int × (Int × (Int × (Int × (Int × (Int × (Int × (Int × (List (Int × (Int × (Int × (List (Int × (Int × Int)))))) × Unit))))))))) × Unit)) → Option ((Bool × (Int × (Int × Unit))) × Unit)) (x : ((Unit × (Int × Unit)) × ((Int × (Int × (Int × (Int × (Int × (Int × (Int × (Int × (List (Int × (Int × (Int × (List (Int × (Int × Int)))))) × Unit))))))))) × Unit))) : Option ((Bool × (Int × (Int × Unit))) × Unit) := match x with
  | ((_, i11, ()), (c12, c13, c14, c15, c16, c17, c18, c19, c20, ()), ()) =>
    byB (decide (i11 < (c20.length : Int)))
      (if (0 ≤ i11) ∧ (i11 < (c20.length : Int)) then
        let e23 := c20.getD i11.toNat (0, 0, 0, []);
        (within_30 N ((e23.1, 1, 1099511627776, ()), ())).bind fun y24 =>
        byB (!y24.1.1)
          (some ((true, i11, -1, ()), ()))
          ((within_30 N ((e23.2.1, 1, e23.1, ()), ())).bind fun y26 =>
            byB (!y26.1.1)
              (some ((true, i11, -1, ()), ()))
              ((within_30 N ((e23.2.2.1, 1, e23.2.1, ()), ())).bind fun y28 =>
                byB (!y28.1.1)
                  (some ((true, i11, -1, ()), ()))
                  (let t30 := (e23.2.2.2.length : Int);
                    let t31 := decide (t30 > 4);
                    byB t31
                      (some ((true, i11, -1, ()), ()))
                      (loopN N (Check_26_L11 N again4) (((), i11, (), 0, 0, (), e23.2.1, (), e23.1, y26.1.1, !y26.1.1, (), e23.2.2.1, (), e23.2.1, y28.1.1, !y28.1.1, (), e23.2.2.2, t30, t31, ()), (c12, c13, c14, c15, c16, c17, c18, c19, c20, ()), (e23.1, e23.2.1, e23.2.2.1, e23.2.2.2, ()), ())))))
        else none)
      (some ((false, -1, -1, ()), ()))
def Check_26 (N : Nat) (x : (((Int × (Int × (Int × (Int × (Int × (Int × (Int × (Int × (List (Int × (Int × (Int × (List (Int × (Int × Int)))))) × Unit))))))))) × Unit) × Unit)) : Option ((Bool × (Int × (Int × Unit))) × Unit) := match x with
  | (((s0, s1, s2, s3, s4, s5, s6, s7, s8, ()), ()), ()) =>
    (whole_29 N (((s0, s1, s2, s3, s4, s5, s6, s7, s8, ()), ()), ())).bind fun y9 =>
    byB (!y9.1.1)
      (some ((true, -1, -1, ()), ()))
      (loopN N (Check_26_L4 N) (((), 0, ()), (s0, s1, s2, s3, s4, s5, s6, s7, s8, ()), ()))
theorem eq_Check_26 (N : Nat) (x : (ap_Check_26).den) : funX Try.prog (fs15 N) N lo_Check_26 jo_Check_26 Try.f26 ap_Check_26 rp_Check_26 x = Check_26 N x := by kernel_rfl
noncomputable def sp_Check_26 (N : Nat) : FSpec := specOf ap_Check_26 rp_Check_26 true (Check_26 N)
theorem ok_Check_26 (N : Nat) : FSound Try.prog 26 (sp_Check_26 N) := funX_sound (N := N) (loops := lo_Check_26) (joins := jo_Check_26) (fsok15 N) Try.func26 (by kernel_rfl) (by kernel_rfl) fun x _ h => (eq_Check_26 N x).trans h
noncomputable def fs16 (N : Nat) : FuncId → List V1 → List Blk → Option FSpec := fun g xs H => if g = 26 then some (sp_Check_26 N) else fs15 N g xs H
theorem fsok16 (N : Nat) : ∀ g xs H sp, fs16 N g xs H = some sp → FSound Try.prog g sp := fun g xs H sp h => by
  unfold fs16 at h
  by_cases e : g = 26
  · rw [if_pos e] at h; subst e; cases h; exact ok_Check_26 N
  · rw [if_neg e] at h; exact fsok15 N g xs H sp h
/-! Right_21 -/
abbrev ap_Right_21 : Pat := ⟨[.agg [.int .i64, .int .i64, .int .i64, .int .i64, .int .i64, .int .i64, .int .i64, .int .i64, .ro (.pair (.int .i64) (.pair (.int .i64) (.pair (.int .i64) (.ro (.pair (.int .i64) (.pair (.int .i64) (.int .i64)))))))]], []⟩
abbrev rp_Right_21 : List Pat := [⟨[.one (.bool)], []⟩]
def lo_Right_21 : List LSpec := []
def jo_Right_21 : List LSpec := []
def Right_21 (N : Nat) (x : (((Int × (Int × (Int × (Int × (Int × (Int × (Int × (Int × (List (Int × (Int × (Int × (List (Int × (Int × Int)))))) × Unit))))))))) × Unit) × Unit)) : Option ((Bool × Unit) × Unit) := match x with
  | (((s0, s1, s2, s3, s4, s5, s6, s7, s8, ()), ()), ()) =>
    (Check_26 N (((s0, s1, s2, s3, s4, s5, s6, s7, s8, ()), ()), ())).bind fun y9 =>
    some ((!y9.1.1, ()), ())
theorem eq_Right_21 (N : Nat) (x : (ap_Right_21).den) : funX Try.prog (fs16 N) N lo_Right_21 jo_Right_21 Try.f21 ap_Right_21 rp_Right_21 x = Right_21 N x := by kernel_rfl
noncomputable def sp_Right_21 (N : Nat) : FSpec := specOf ap_Right_21 rp_Right_21 true (Right_21 N)
theorem ok_Right_21 (N : Nat) : FSound Try.prog 21 (sp_Right_21 N) := funX_sound (N := N) (loops := lo_Right_21) (joins := jo_Right_21) (fsok16 N) Try.func21 (by kernel_rfl) (by kernel_rfl) fun x _ h => (eq_Right_21 N x).trans h
noncomputable def fs17 (N : Nat) : FuncId → List V1 → List Blk → Option FSpec := fun g xs H => if g = 21 then some (sp_Right_21 N) else fs16 N g xs H
theorem fsok17 (N : Nat) : ∀ g xs H sp, fs17 N g xs H = some sp → FSound Try.prog g sp := fun g xs H sp h => by
  unfold fs17 at h
  by_cases e : g = 21
  · rw [if_pos e] at h; subst e; cases h; exact ok_Right_21 N
  · rw [if_neg e] at h; exact fsok16 N g xs H sp h
/-! core_22 -/
abbrev ap_core_22 : Pat := ⟨[.one (.ro (.int .i64)), .one (.int .i64)], []⟩
abbrev rp_core_22 : List Pat := [⟨[.one (.int .i64)], []⟩]
def lo_core_22 : List LSpec := []
def jo_core_22 : List LSpec := []
def core_22 (N : Nat) (x : ((List Int × (Int × Unit)) × Unit)) : Option ((Int × Unit) × Unit) := match x with
  | ((where0, task1, ()), ()) =>
    byB (decide (task1 < 0))
      (some ((-1, ()), ()))
      (byB (decide (task1 ≥ (where0.length : Int)))
          (some ((-1, ()), ()))
          (if (0 ≤ task1) ∧ (task1 < (where0.length : Int)) then
            some ((where0.getD task1.toNat 0, ()), ())
            else none))
theorem eq_core_22 (N : Nat) (x : (ap_core_22).den) : funX Try.prog (fs17 N) N lo_core_22 jo_core_22 Try.f22 ap_core_22 rp_core_22 x = core_22 N x := by kernel_rfl
noncomputable def sp_core_22 (N : Nat) : FSpec := specOf ap_core_22 rp_core_22 true (core_22 N)
theorem ok_core_22 (N : Nat) : FSound Try.prog 22 (sp_core_22 N) := funX_sound (N := N) (loops := lo_core_22) (joins := jo_core_22) (fsok17 N) Try.func22 (by kernel_rfl) (by kernel_rfl) fun x _ h => (eq_core_22 N x).trans h
noncomputable def fs18 (N : Nat) : FuncId → List V1 → List Blk → Option FSpec := fun g xs H => if g = 22 then some (sp_core_22 N) else fs17 N g xs H
theorem fsok18 (N : Nat) : ∀ g xs H sp, fs18 N g xs H = some sp → FSound Try.prog g sp := fun g xs H sp h => by
  unfold fs18 at h
  by_cases e : g = 22
  · rw [if_pos e] at h; subst e; cases h; exact ok_core_22 N
  · rw [if_neg e] at h; exact fsok17 N g xs H sp h
/-! Longest_9 -/
abbrev ap_Longest_9 : Pat := ⟨[.agg [.int .i64, .int .i64, .int .i64, .int .i64, .int .i64, .int .i64, .int .i64, .int .i64, .ro (.pair (.int .i64) (.pair (.int .i64) (.pair (.int .i64) (.ro (.pair (.int .i64) (.pair (.int .i64) (.int .i64)))))))], .one (.ro (.int .i64)), .one (.int .i64), .one (.int .i64)], []⟩
abbrev rp_Longest_9 : List Pat := [⟨[.one (.int .i64)], []⟩]
def lo_Longest_9 : List LSpec := [⟨6, [1, 2, 3, 4, 10, 11], ⟨[.one (.ro (.int .i64)), .one (.int .i64), .one (.int .i64), .one (.ptr 0 0), .one (.int .i64), .one (.int .i64)], [.var 24 [.int .i64, .int .i64, .int .i64, .int .i64, .int .i64, .int .i64, .int .i64, .int .i64, .ro (.pair (.int .i64) (.pair (.int .i64) (.pair (.int .i64) (.ro (.pair (.int .i64) (.pair (.int .i64) (.int .i64)))))))]]⟩⟩, ⟨9, [1, 2, 3, 4, 10, 11, 12], ⟨[.one (.ro (.int .i64)), .one (.int .i64), .one (.int .i64), .one (.ptr 0 0), .one (.int .i64), .one (.int .i64), .one (.int .i64)], [.var 24 [.int .i64, .int .i64, .int .i64, .int .i64, .int .i64, .int .i64, .int .i64, .int .i64, .ro (.pair (.int .i64) (.pair (.int .i64) (.pair (.int .i64) (.ro (.pair (.int .i64) (.pair (.int .i64) (.int .i64)))))))]]⟩⟩]
def jo_Longest_9 : List LSpec := []
def Longest_9_L9 (N : Nat) (again6 : ((List Int × (Int × (Int × (Unit × (Int × (Int × Unit)))))) × ((Int × (Int × (Int × (Int × (Int × (Int × (Int × (Int × (List (Int × (Int × (Int × (List (Int × (Int × Int)))))) × Unit))))))))) × Unit)) → Option ((Int × Unit) × Unit)) (again9 : ((List Int × (Int × (Int × (Unit × (Int × (Int × (Int × Unit))))))) × ((Int × (Int × (Int × (Int × (Int × (Int × (Int × (Int × (List (Int × (Int × (Int × (List (Int × (Int × Int)))))) × Unit))))))))) × Unit)) → Option ((Int × Unit) × Unit)) (x : ((List Int × (Int × (Int × (Unit × (Int × (Int × (Int × Unit))))))) × ((Int × (Int × (Int × (Int × (Int × (Int × (Int × (Int × (List (Int × (Int × (Int × (List (Int × (Int × Int)))))) × Unit))))))))) × Unit))) : Option ((Int × Unit) × Unit) := match x with
  | ((where32, c33, res34, _, most35, i36, k37, ()), (c38, c39, c40, c41, c42, c43, c44, c45, c46, ()), ()) =>
    if (0 ≤ i36) ∧ (i36 < (c46.length : Int)) then
    byB (decide (k37 < ((c46.getD i36.toNat (0, 0, 0, [])).2.2.2.length : Int)))
      (if (0 ≤ i36) ∧ (i36 < (c46.length : Int)) then
        let e50 := c46.getD i36.toNat (0, 0, 0, []);
        if (0 ≤ k37) ∧ (k37 < (e50.2.2.2.length : Int)) then
        let e51 := e50.2.2.2.getD k37.toNat (0, 0, 0);
        (core_22 N ((where32, i36, ()), ())).bind fun y52 =>
        byB (y52.1.1 == c33)
          (byB (e51.2.1 == res34)
              (again9 ((where32, c33, res34, (), if e51.2.2 > most35 then e51.2.2 else most35, i36, IntKind.wrap .i64 (k37 + 1), ()), (c38, c39, c40, c41, c42, c43, c44, c45, c46, ()), ()))
              (again9 ((where32, c33, res34, (), most35, i36, IntKind.wrap .i64 (k37 + 1), ()), (c38, c39, c40, c41, c42, c43, c44, c45, c46, ()), ())))
          (again9 ((where32, c33, res34, (), most35, i36, IntKind.wrap .i64 (k37 + 1), ()), (c38, c39, c40, c41, c42, c43, c44, c45, c46, ()), ()))
        else none
        else none)
      (again6 ((where32, c33, res34, (), most35, IntKind.wrap .i64 (i36 + 1), ()), (c38, c39, c40, c41, c42, c43, c44, c45, c46, ()), ()))
    else none
def Longest_9_L6 (N : Nat) (again6 : ((List Int × (Int × (Int × (Unit × (Int × (Int × Unit)))))) × ((Int × (Int × (Int × (Int × (Int × (Int × (Int × (Int × (List (Int × (Int × (Int × (List (Int × (Int × Int)))))) × Unit))))))))) × Unit)) → Option ((Int × Unit) × Unit)) (x : ((List Int × (Int × (Int × (Unit × (Int × (Int × Unit)))))) × ((Int × (Int × (Int × (Int × (Int × (Int × (Int × (Int × (List (Int × (Int × (Int × (List (Int × (Int × Int)))))) × Unit))))))))) × Unit))) : Option ((Int × Unit) × Unit) := match x with
  | ((where16, c17, res18, _, most19, i20, ()), (c21, c22, c23, c24, c25, c26, c27, c28, c29, ()), ()) =>
    byB (decide (i20 < (c29.length : Int)))
      (loopN N (Longest_9_L9 N again6) ((where16, c17, res18, (), most19, i20, 0, ()), (c21, c22, c23, c24, c25, c26, c27, c28, c29, ()), ()))
      (some ((most19, ()), ()))
def Longest_9 (N : Nat) (x : (((Int × (Int × (Int × (Int × (Int × (Int × (Int × (Int × (List (Int × (Int × (Int × (List (Int × (Int × Int)))))) × Unit))))))))) × (List Int × (Int × (Int × Unit)))) × Unit)) : Option ((Int × Unit) × Unit) := match x with
  | (((s0, s1, s2, s3, s4, s5, s6, s7, s8, ()), where9, c10, res11, ()), ()) =>
    (Right_21 N (((s0, s1, s2, s3, s4, s5, s6, s7, s8, ()), ()), ())).bind fun y12 =>
    byB (!y12.1.1)
      (some ((0, ()), ()))
      (byB (decide (c10 < 0))
          (some ((0, ()), ()))
          (byB (decide (c10 ≥ s0))
              (some ((0, ()), ()))
              (loopN N (Longest_9_L6 N) ((where9, c10, res11, (), 0, 0, ()), (s0, s1, s2, s3, s4, s5, s6, s7, s8, ()), ()))))
theorem eq_Longest_9 (N : Nat) (x : (ap_Longest_9).den) : funX Try.prog (fs18 N) N lo_Longest_9 jo_Longest_9 Try.f9 ap_Longest_9 rp_Longest_9 x = Longest_9 N x := by kernel_rfl
noncomputable def sp_Longest_9 (N : Nat) : FSpec := specOf ap_Longest_9 rp_Longest_9 true (Longest_9 N)
theorem ok_Longest_9 (N : Nat) : FSound Try.prog 9 (sp_Longest_9 N) := funX_sound (N := N) (loops := lo_Longest_9) (joins := jo_Longest_9) (fsok18 N) Try.func9 (by kernel_rfl) (by kernel_rfl) fun x _ h => (eq_Longest_9 N x).trans h
noncomputable def fs19 (N : Nat) : FuncId → List V1 → List Blk → Option FSpec := fun g xs H => if g = 9 then some (sp_Longest_9 N) else fs18 N g xs H
theorem fsok19 (N : Nat) : ∀ g xs H sp, fs19 N g xs H = some sp → FSound Try.prog g sp := fun g xs H sp h => by
  unfold fs19 at h
  by_cases e : g = 9
  · rw [if_pos e] at h; subst e; cases h; exact ok_Longest_9 N
  · rw [if_neg e] at h; exact fsok18 N g xs H sp h
/-! section_24 -/
abbrev ap_section_24 : Pat := ⟨[.agg [.int .i64, .int .i64, .int .i64, .int .i64, .int .i64, .int .i64, .int .i64, .int .i64, .ro (.pair (.int .i64) (.pair (.int .i64) (.pair (.int .i64) (.ro (.pair (.int .i64) (.pair (.int .i64) (.int .i64)))))))], .one (.int .i64), .one (.int .i64)], []⟩
abbrev rp_section_24 : List Pat := [⟨[.agg [.int .i64, .int .i64, .int .i64], .one (.bool)], []⟩]
def lo_section_24 : List LSpec := []
def jo_section_24 : List LSpec := []
def section_24 (N : Nat) (x : (((Int × (Int × (Int × (Int × (Int × (Int × (Int × (Int × (List (Int × (Int × (Int × (List (Int × (Int × Int)))))) × Unit))))))))) × (Int × (Int × Unit))) × Unit)) : Option (((Int × (Int × (Int × Unit))) × (Bool × Unit)) × Unit) := match x with
  | (((s0, s1, s2, s3, s4, s5, s6, s7, s8, ()), task9, k10, ()), ()) =>
    (Right_21 N (((s0, s1, s2, s3, s4, s5, s6, s7, s8, ()), ()), ())).bind fun y11 =>
    byB (!y11.1.1)
      (some (((0, 0, 0, ()), false, ()), ()))
      (byB (decide (task9 < 0))
          (some (((0, 0, 0, ()), false, ()), ()))
          (byB (decide (task9 ≥ (s8.length : Int)))
              (some (((0, 0, 0, ()), false, ()), ()))
              (byB (decide (k10 < 0))
                  (some (((0, 0, 0, ()), false, ()), ()))
                  (if (0 ≤ task9) ∧ (task9 < (s8.length : Int)) then
                    byB (decide (k10 ≥ ((s8.getD task9.toNat (0, 0, 0, [])).2.2.2.length : Int)))
                      (some (((0, 0, 0, ()), false, ()), ()))
                      (if (0 ≤ task9) ∧ (task9 < (s8.length : Int)) then
                        let e20 := s8.getD task9.toNat (0, 0, 0, []);
                        if (0 ≤ k10) ∧ (k10 < (e20.2.2.2.length : Int)) then
                        let e21 := e20.2.2.2.getD k10.toNat (0, 0, 0);
                        some (((e21.1, e21.2.1, e21.2.2, ()), true, ()), ())
                        else none
                        else none)
                    else none))))
theorem eq_section_24 (N : Nat) (x : (ap_section_24).den) : funX Try.prog (fs19 N) N lo_section_24 jo_section_24 Try.f24 ap_section_24 rp_section_24 x = section_24 N x := by kernel_rfl
noncomputable def sp_section_24 (N : Nat) : FSpec := specOf ap_section_24 rp_section_24 true (section_24 N)
theorem ok_section_24 (N : Nat) : FSound Try.prog 24 (sp_section_24 N) := funX_sound (N := N) (loops := lo_section_24) (joins := jo_section_24) (fsok19 N) Try.func24 (by kernel_rfl) (by kernel_rfl) fun x _ h => (eq_section_24 N x).trans h
noncomputable def fs20 (N : Nat) : FuncId → List V1 → List Blk → Option FSpec := fun g xs H => if g = 24 then some (sp_section_24 N) else fs19 N g xs H
theorem fsok20 (N : Nat) : ∀ g xs H sp, fs20 N g xs H = some sp → FSound Try.prog g sp := fun g xs H sp h => by
  unfold fs20 at h
  by_cases e : g = 24
  · rw [if_pos e] at h; subst e; cases h; exact ok_section_24 N
  · rw [if_neg e] at h; exact fsok19 N g xs H sp h
/-! Wait_11 -/
abbrev ap_Wait_11 : Pat := ⟨[.agg [.int .i64, .int .i64, .int .i64, .int .i64, .int .i64, .int .i64, .int .i64, .int .i64, .ro (.pair (.int .i64) (.pair (.int .i64) (.pair (.int .i64) (.ro (.pair (.int .i64) (.pair (.int .i64) (.int .i64)))))))], .one (.ro (.int .i64)), .one (.int .i64), .one (.int .i64)], []⟩
abbrev rp_Wait_11 : List Pat := [⟨[.one (.int .i64)], []⟩]
def lo_Wait_11 : List LSpec := [⟨6, [1, 2, 4, 9, 11, 12], ⟨[.one (.ro (.int .i64)), .one (.int .i64), .one (.ptr 0 0), .one (.ptr 1 0), .one (.int .i64), .one (.int .i64)], [.var 24 [.int .i64, .int .i64, .int .i64, .int .i64, .int .i64, .int .i64, .int .i64, .int .i64, .ro (.pair (.int .i64) (.pair (.int .i64) (.pair (.int .i64) (.ro (.pair (.int .i64) (.pair (.int .i64) (.int .i64)))))))], .var 36 [.int .i64, .int .i64, .int .i64]]⟩⟩]
def jo_Wait_11 : List LSpec := []
def Wait_11_L6 (N : Nat) (again6 : ((List Int × (Int × (Unit × (Unit × (Int × (Int × Unit)))))) × ((Int × (Int × (Int × (Int × (Int × (Int × (Int × (Int × (List (Int × (Int × (Int × (List (Int × (Int × Int)))))) × Unit))))))))) × ((Int × (Int × (Int × Unit))) × Unit))) → Option ((Int × Unit) × Unit)) (x : ((List Int × (Int × (Unit × (Unit × (Int × (Int × Unit)))))) × ((Int × (Int × (Int × (Int × (Int × (Int × (Int × (Int × (List (Int × (Int × (Int × (List (Int × (Int × Int)))))) × Unit))))))))) × ((Int × (Int × (Int × Unit))) × Unit)))) : Option ((Int × Unit) × Unit) := match x with
  | ((where14, task15, _, _, sum16, c17, ()), (c18, c19, c20, c21, c22, c23, c24, c25, c26, ()), (c27, c28, c29, ()), ()) =>
    byB (decide (c17 < c18))
      ((Longest_9 N (((c18, c19, c20, c21, c22, c23, c24, c25, c26, ()), where14, c17, c28, ()), ())).bind fun y31 =>
        (core_22 N ((where14, task15, ()), ())).bind fun y32 =>
        byB (c17 != y32.1.1)
          (byB (decide (y31.1.1 > 0))
              (again6 ((where14, task15, (), (), IntKind.wrap .i64 ((IntKind.wrap .i64 (sum16 + y31.1.1)) + 1), IntKind.wrap .i64 (c17 + 1), ()), (c18, c19, c20, c21, c22, c23, c24, c25, c26, ()), (c27, c28, c29, ()), ()))
              (again6 ((where14, task15, (), (), sum16, IntKind.wrap .i64 (c17 + 1), ()), (c18, c19, c20, c21, c22, c23, c24, c25, c26, ()), (c27, c28, c29, ()), ())))
          (again6 ((where14, task15, (), (), sum16, IntKind.wrap .i64 (c17 + 1), ()), (c18, c19, c20, c21, c22, c23, c24, c25, c26, ()), (c27, c28, c29, ()), ())))
      (some ((sum16, ()), ()))
def Wait_11 (N : Nat) (x : (((Int × (Int × (Int × (Int × (Int × (Int × (Int × (Int × (List (Int × (Int × (Int × (List (Int × (Int × Int)))))) × Unit))))))))) × (List Int × (Int × (Int × Unit)))) × Unit)) : Option ((Int × Unit) × Unit) := match x with
  | (((s0, s1, s2, s3, s4, s5, s6, s7, s8, ()), where9, task10, k11, ()), ()) =>
    (section_24 N (((s0, s1, s2, s3, s4, s5, s6, s7, s8, ()), task10, k11, ()), ())).bind fun y12 =>
    byB (!y12.1.2.1)
      (some ((0, ()), ()))
      (loopN N (Wait_11_L6 N) ((where9, task10, (), (), 0, 0, ()), (s0, s1, s2, s3, s4, s5, s6, s7, s8, ()), (y12.1.1.1, y12.1.1.2.1, y12.1.1.2.2.1, ()), ()))
theorem eq_Wait_11 (N : Nat) (x : (ap_Wait_11).den) : funX Try.prog (fs20 N) N lo_Wait_11 jo_Wait_11 Try.f11 ap_Wait_11 rp_Wait_11 x = Wait_11 N x := by kernel_rfl
noncomputable def sp_Wait_11 (N : Nat) : FSpec := specOf ap_Wait_11 rp_Wait_11 true (Wait_11 N)
theorem ok_Wait_11 (N : Nat) : FSound Try.prog 11 (sp_Wait_11 N) := funX_sound (N := N) (loops := lo_Wait_11) (joins := jo_Wait_11) (fsok20 N) Try.func11 (by kernel_rfl) (by kernel_rfl) fun x _ h => (eq_Wait_11 N x).trans h
noncomputable def fs21 (N : Nat) : FuncId → List V1 → List Blk → Option FSpec := fun g xs H => if g = 11 then some (sp_Wait_11 N) else fs20 N g xs H
theorem fsok21 (N : Nat) : ∀ g xs H sp, fs21 N g xs H = some sp → FSound Try.prog g sp := fun g xs H sp h => by
  unfold fs21 at h
  by_cases e : g = 11
  · rw [if_pos e] at h; subst e; cases h; exact ok_Wait_11 N
  · rw [if_neg e] at h; exact fsok20 N g xs H sp h
/-! Hold_13 -/
abbrev ap_Hold_13 : Pat := ⟨[.agg [.int .i64, .int .i64, .int .i64, .int .i64, .int .i64, .int .i64, .int .i64, .int .i64, .ro (.pair (.int .i64) (.pair (.int .i64) (.pair (.int .i64) (.ro (.pair (.int .i64) (.pair (.int .i64) (.int .i64)))))))], .one (.ro (.int .i64)), .one (.int .i64), .one (.int .i64)], []⟩
abbrev rp_Hold_13 : List Pat := [⟨[.one (.int .i64)], []⟩]
def lo_Hold_13 : List LSpec := []
def jo_Hold_13 : List LSpec := []
def Hold_13 (N : Nat) (x : (((Int × (Int × (Int × (Int × (Int × (Int × (Int × (Int × (List (Int × (Int × (Int × (List (Int × (Int × Int)))))) × Unit))))))))) × (List Int × (Int × (Int × Unit)))) × Unit)) : Option ((Int × Unit) × Unit) := match x with
  | (((s0, s1, s2, s3, s4, s5, s6, s7, s8, ()), where9, task10, k11, ()), ()) =>
    (section_24 N (((s0, s1, s2, s3, s4, s5, s6, s7, s8, ()), task10, k11, ()), ())).bind fun y12 =>
    byB (!y12.1.2.1)
      (some ((0, ()), ()))
      ((Wait_11 N (((s0, s1, s2, s3, s4, s5, s6, s7, s8, ()), where9, task10, k11, ()), ())).bind fun y14 =>
        some ((IntKind.wrap .i64 (y14.1.1 + y12.1.1.2.2.1), ()), ()))
theorem eq_Hold_13 (N : Nat) (x : (ap_Hold_13).den) : funX Try.prog (fs21 N) N lo_Hold_13 jo_Hold_13 Try.f13 ap_Hold_13 rp_Hold_13 x = Hold_13 N x := by kernel_rfl
noncomputable def sp_Hold_13 (N : Nat) : FSpec := specOf ap_Hold_13 rp_Hold_13 true (Hold_13 N)
theorem ok_Hold_13 (N : Nat) : FSound Try.prog 13 (sp_Hold_13 N) := funX_sound (N := N) (loops := lo_Hold_13) (joins := jo_Hold_13) (fsok21 N) Try.func13 (by kernel_rfl) (by kernel_rfl) fun x _ h => (eq_Hold_13 N x).trans h
noncomputable def fs22 (N : Nat) : FuncId → List V1 → List Blk → Option FSpec := fun g xs H => if g = 13 then some (sp_Hold_13 N) else fs21 N g xs H
theorem fsok22 (N : Nat) : ∀ g xs H sp, fs22 N g xs H = some sp → FSound Try.prog g sp := fun g xs H sp h => by
  unfold fs22 at h
  by_cases e : g = 13
  · rw [if_pos e] at h; subst e; cases h; exact ok_Hold_13 N
  · rw [if_neg e] at h; exact fsok21 N g xs H sp h
/-! Extra_15 -/
abbrev ap_Extra_15 : Pat := ⟨[.agg [.int .i64, .int .i64, .int .i64, .int .i64, .int .i64, .int .i64, .int .i64, .int .i64, .ro (.pair (.int .i64) (.pair (.int .i64) (.pair (.int .i64) (.ro (.pair (.int .i64) (.pair (.int .i64) (.int .i64)))))))], .one (.ro (.int .i64)), .one (.int .i64)], []⟩
abbrev rp_Extra_15 : List Pat := [⟨[.one (.int .i64)], []⟩]
def lo_Extra_15 : List LSpec := [⟨5, [1, 2, 3, 8, 9], ⟨[.one (.ro (.int .i64)), .one (.int .i64), .one (.ptr 0 0), .one (.int .i64), .one (.int .i64)], [.var 24 [.int .i64, .int .i64, .int .i64, .int .i64, .int .i64, .int .i64, .int .i64, .int .i64, .ro (.pair (.int .i64) (.pair (.int .i64) (.pair (.int .i64) (.ro (.pair (.int .i64) (.pair (.int .i64) (.int .i64)))))))]]⟩⟩]
def jo_Extra_15 : List LSpec := []
def Extra_15_L5 (N : Nat) (again5 : ((List Int × (Int × (Unit × (Int × (Int × Unit))))) × ((Int × (Int × (Int × (Int × (Int × (Int × (Int × (Int × (List (Int × (Int × (Int × (List (Int × (Int × Int)))))) × Unit))))))))) × Unit)) → Option ((Int × Unit) × Unit)) (x : ((List Int × (Int × (Unit × (Int × (Int × Unit))))) × ((Int × (Int × (Int × (Int × (Int × (Int × (Int × (Int × (List (Int × (Int × (Int × (List (Int × (Int × Int)))))) × Unit))))))))) × Unit))) : Option ((Int × Unit) × Unit) := match x with
  | ((where15, task16, _, sum17, k18, ()), (c19, c20, c21, c22, c23, c24, c25, c26, c27, ()), ()) =>
    if (0 ≤ task16) ∧ (task16 < (c27.length : Int)) then
    byB (decide (k18 < ((c27.getD task16.toNat (0, 0, 0, [])).2.2.2.length : Int)))
      ((Wait_11 N (((c19, c20, c21, c22, c23, c24, c25, c26, c27, ()), where15, task16, k18, ()), ())).bind fun y31 =>
        again5 ((where15, task16, (), IntKind.wrap .i64 (sum17 + y31.1.1), IntKind.wrap .i64 (k18 + 1), ()), (c19, c20, c21, c22, c23, c24, c25, c26, c27, ()), ()))
      (some ((sum17, ()), ()))
    else none
def Extra_15 (N : Nat) (x : (((Int × (Int × (Int × (Int × (Int × (Int × (Int × (Int × (List (Int × (Int × (Int × (List (Int × (Int × Int)))))) × Unit))))))))) × (List Int × (Int × Unit))) × Unit)) : Option ((Int × Unit) × Unit) := match x with
  | (((s0, s1, s2, s3, s4, s5, s6, s7, s8, ()), where9, task10, ()), ()) =>
    (Right_21 N (((s0, s1, s2, s3, s4, s5, s6, s7, s8, ()), ()), ())).bind fun y11 =>
    byB y11.1.1
      (byB (decide (task10 ≥ 0))
          (byB (decide (task10 < (s8.length : Int)))
              (loopN N (Extra_15_L5 N) ((where9, task10, (), 0, 0, ()), (s0, s1, s2, s3, s4, s5, s6, s7, s8, ()), ()))
              (some ((0, ()), ())))
          (some ((0, ()), ())))
      (some ((0, ()), ()))
theorem eq_Extra_15 (N : Nat) (x : (ap_Extra_15).den) : funX Try.prog (fs22 N) N lo_Extra_15 jo_Extra_15 Try.f15 ap_Extra_15 rp_Extra_15 x = Extra_15 N x := by kernel_rfl
noncomputable def sp_Extra_15 (N : Nat) : FSpec := specOf ap_Extra_15 rp_Extra_15 true (Extra_15 N)
theorem ok_Extra_15 (N : Nat) : FSound Try.prog 15 (sp_Extra_15 N) := funX_sound (N := N) (loops := lo_Extra_15) (joins := jo_Extra_15) (fsok22 N) Try.func15 (by kernel_rfl) (by kernel_rfl) fun x _ h => (eq_Extra_15 N x).trans h
noncomputable def fs23 (N : Nat) : FuncId → List V1 → List Blk → Option FSpec := fun g xs H => if g = 15 then some (sp_Extra_15 N) else fs22 N g xs H
theorem fsok23 (N : Nat) : ∀ g xs H sp, fs23 N g xs H = some sp → FSound Try.prog g sp := fun g xs H sp h => by
  unfold fs23 at h
  by_cases e : g = 15
  · rw [if_pos e] at h; subst e; cases h; exact ok_Extra_15 N
  · rw [if_neg e] at h; exact fsok22 N g xs H sp h
/-! Uses_17 -/
abbrev ap_Uses_17 : Pat := ⟨[.agg [.int .i64, .int .i64, .int .i64, .int .i64, .int .i64, .int .i64, .int .i64, .int .i64, .ro (.pair (.int .i64) (.pair (.int .i64) (.pair (.int .i64) (.ro (.pair (.int .i64) (.pair (.int .i64) (.int .i64)))))))], .one (.int .i64)], []⟩
abbrev rp_Uses_17 : List Pat := [⟨[.one (.bool)], []⟩]
def lo_Uses_17 : List LSpec := []
def jo_Uses_17 : List LSpec := []
def Uses_17 (N : Nat) (x : (((Int × (Int × (Int × (Int × (Int × (Int × (Int × (Int × (List (Int × (Int × (Int × (List (Int × (Int × Int)))))) × Unit))))))))) × (Int × Unit)) × Unit)) : Option ((Bool × Unit) × Unit) := match x with
  | (((s0, s1, s2, s3, s4, s5, s6, s7, s8, ()), task9, ()), ()) =>
    (Right_21 N (((s0, s1, s2, s3, s4, s5, s6, s7, s8, ()), ()), ())).bind fun y10 =>
    byB y10.1.1
      (byB (decide (task9 ≥ 0))
          (byB (decide (task9 < (s8.length : Int)))
              (if (0 ≤ task9) ∧ (task9 < (s8.length : Int)) then
                some ((decide (((s8.getD task9.toNat (0, 0, 0, [])).2.2.2.length : Int) > 0), ()), ())
                else none)
              (some ((false, ()), ())))
          (some ((false, ()), ())))
      (some ((false, ()), ()))
theorem eq_Uses_17 (N : Nat) (x : (ap_Uses_17).den) : funX Try.prog (fs23 N) N lo_Uses_17 jo_Uses_17 Try.f17 ap_Uses_17 rp_Uses_17 x = Uses_17 N x := by kernel_rfl
noncomputable def sp_Uses_17 (N : Nat) : FSpec := specOf ap_Uses_17 rp_Uses_17 true (Uses_17 N)
theorem ok_Uses_17 (N : Nat) : FSound Try.prog 17 (sp_Uses_17 N) := funX_sound (N := N) (loops := lo_Uses_17) (joins := jo_Uses_17) (fsok23 N) Try.func17 (by kernel_rfl) (by kernel_rfl) fun x _ h => (eq_Uses_17 N x).trans h
noncomputable def fs24 (N : Nat) : FuncId → List V1 → List Blk → Option FSpec := fun g xs H => if g = 17 then some (sp_Uses_17 N) else fs23 N g xs H
theorem fsok24 (N : Nat) : ∀ g xs H sp, fs24 N g xs H = some sp → FSound Try.prog g sp := fun g xs H sp h => by
  unfold fs24 at h
  by_cases e : g = 17
  · rw [if_pos e] at h; subst e; cases h; exact ok_Uses_17 N
  · rw [if_neg e] at h; exact fsok23 N g xs H sp h
/-! TermsTell_3 -/
abbrev ap_TermsTell_3 : Pat := ⟨[.agg [.int .i64, .int .i64, .int .i64, .int .i64, .int .i64, .int .i64, .int .i64, .int .i64, .ro (.pair (.int .i64) (.pair (.int .i64) (.pair (.int .i64) (.ro (.pair (.int .i64) (.pair (.int .i64) (.int .i64)))))))], .one (.ro (.int .i64)), .one (.int .i64), .one (.int .i64), .one (.int .i64), .one (.int .i64)], []⟩
abbrev rp_TermsTell_3 : List Pat := [⟨[.one (.bool)], []⟩]
def lo_TermsTell_3 : List LSpec := []
def jo_TermsTell_3 : List LSpec := []
def TermsTell_3 (N : Nat) (x : (((Int × (Int × (Int × (Int × (Int × (Int × (Int × (Int × (List (Int × (Int × (Int × (List (Int × (Int × Int)))))) × Unit))))))))) × (List Int × (Int × (Int × (Int × (Int × Unit)))))) × Unit)) : Option ((Bool × Unit) × Unit) := match x with
  | (((s0, s1, s2, s3, s4, s5, s6, s7, s8, ()), where9, task10, k11, core12, res13, ()), ()) =>
    (examples_7 N ((), ())).bind fun y14 =>
    (Longest_8 N (((s0, s1, s2, s3, s4, s5, s6, s7, s8, ()), where9, core12, res13, ()), ())).bind fun y15 =>
    (Longest_9 N (((s0, s1, s2, s3, s4, s5, s6, s7, s8, ()), where9, core12, res13, ()), ())).bind fun y16 =>
    (Wait_10 N (((s0, s1, s2, s3, s4, s5, s6, s7, s8, ()), where9, task10, k11, ()), ())).bind fun y18 =>
    (Wait_11 N (((s0, s1, s2, s3, s4, s5, s6, s7, s8, ()), where9, task10, k11, ()), ())).bind fun y19 =>
    (Hold_12 N (((s0, s1, s2, s3, s4, s5, s6, s7, s8, ()), where9, task10, k11, ()), ())).bind fun y21 =>
    (Hold_13 N (((s0, s1, s2, s3, s4, s5, s6, s7, s8, ()), where9, task10, k11, ()), ())).bind fun y22 =>
    (Extra_14 N (((s0, s1, s2, s3, s4, s5, s6, s7, s8, ()), where9, task10, ()), ())).bind fun y24 =>
    (Extra_15 N (((s0, s1, s2, s3, s4, s5, s6, s7, s8, ()), where9, task10, ()), ())).bind fun y25 =>
    (Uses_16 N (((s0, s1, s2, s3, s4, s5, s6, s7, s8, ()), task10, ()), ())).bind fun y27 =>
    (Uses_17 N (((s0, s1, s2, s3, s4, s5, s6, s7, s8, ()), task10, ()), ())).bind fun y28 =>
    byB y14.1.1
      (byB (y15.1.1 == y16.1.1)
          (byB (y18.1.1 == y19.1.1)
              (byB (y21.1.1 == y22.1.1)
                  (byB (y24.1.1 == y25.1.1)
                      (some ((y27.1.1 == y28.1.1, ()), ()))
                      (some ((false, ()), ())))
                  (some ((false, ()), ())))
              (some ((false, ()), ())))
          (some ((false, ()), ())))
      (some ((false, ()), ()))
theorem eq_TermsTell_3 (N : Nat) (x : (ap_TermsTell_3).den) : funX Try.prog (fs24 N) N lo_TermsTell_3 jo_TermsTell_3 Try.f3 ap_TermsTell_3 rp_TermsTell_3 x = TermsTell_3 N x := by kernel_rfl
noncomputable def sp_TermsTell_3 (N : Nat) : FSpec := specOf ap_TermsTell_3 rp_TermsTell_3 true (TermsTell_3 N)
theorem ok_TermsTell_3 (N : Nat) : FSound Try.prog 3 (sp_TermsTell_3 N) := funX_sound (N := N) (loops := lo_TermsTell_3) (joins := jo_TermsTell_3) (fsok24 N) Try.func3 (by kernel_rfl) (by kernel_rfl) fun x _ h => (eq_TermsTell_3 N x).trans h
noncomputable def fs25 (N : Nat) : FuncId → List V1 → List Blk → Option FSpec := fun g xs H => if g = 3 then some (sp_TermsTell_3 N) else fs24 N g xs H
theorem fsok25 (N : Nat) : ∀ g xs H sp, fs25 N g xs H = some sp → FSound Try.prog g sp := fun g xs H sp h => by
  unfold fs25 at h
  by_cases e : g = 3
  · rw [if_pos e] at h; subst e; cases h; exact ok_TermsTell_3 N
  · rw [if_neg e] at h; exact fsok24 N g xs H sp h
/-! TermsGrow_4 -/
abbrev ap_TermsGrow_4 : Pat := ⟨[.agg [.int .i64, .int .i64, .int .i64, .int .i64, .int .i64, .int .i64, .int .i64, .int .i64, .ro (.pair (.int .i64) (.pair (.int .i64) (.pair (.int .i64) (.ro (.pair (.int .i64) (.pair (.int .i64) (.int .i64)))))))], .one (.ro (.int .i64)), .one (.int .i64), .one (.int .i64), .one (.int .i64), .one (.int .i64)], []⟩
abbrev rp_TermsGrow_4 : List Pat := [⟨[.one (.bool)], []⟩]
def lo_TermsGrow_4 : List LSpec := [⟨14, [2, 3, 4, 5, 6, 12, 13, 15, 16, 17, 18, 19], ⟨[.one (.int .i64), .one (.int .i64), .one (.int .i64), .one (.int .i64), .one (.ptr 0 0), .one (.bool), .one (.bool), .one (.full 1), .one (.int .i64), .one (.int .i64), .one (.full 2), .one (.int .i64)], [.var 24 [.int .i64, .int .i64, .int .i64, .int .i64, .int .i64, .int .i64, .int .i64, .int .i64, .ro (.pair (.int .i64) (.pair (.int .i64) (.pair (.int .i64) (.ro (.pair (.int .i64) (.pair (.int .i64) (.int .i64)))))))], .row 3 (.int .i64), .row 3 (.int .i64)]⟩⟩]
def jo_TermsGrow_4 : List LSpec := []
def TermsGrow_4_L14 (N : Nat) (again14 : ((Int × (Int × (Int × (Int × (Unit × (Bool × (Bool × (Unit × (Int × (Int × (Unit × (Int × Unit)))))))))))) × ((Int × (Int × (Int × (Int × (Int × (Int × (Int × (Int × (List (Int × (Int × (Int × (List (Int × (Int × Int)))))) × Unit))))))))) × (List Int × (List Int × Unit)))) → Option ((Bool × Unit) × Unit)) (x : ((Int × (Int × (Int × (Int × (Unit × (Bool × (Bool × (Unit × (Int × (Int × (Unit × (Int × Unit)))))))))))) × ((Int × (Int × (Int × (Int × (Int × (Int × (Int × (Int × (List (Int × (Int × (Int × (List (Int × (Int × Int)))))) × Unit))))))))) × (List Int × (List Int × Unit))))) : Option ((Bool × Unit) × Unit) := match x with
  | ((task31, core32, other33, k34, _, t35, head36, _, a37, b38, _, i39, ()), (c40, c41, c42, c43, c44, c45, c46, c47, c48, ()), l49, l50, ()) =>
    byB (decide (i39 < (l50.length : Int)))
      (if (0 ≤ i39) ∧ (i39 < (l50.length : Int)) then
        again14 ((task31, core32, other33, k34, (), t35, head36, (), a37, b38, (), IntKind.wrap .i64 (i39 + 1), ()), (c40, c41, c42, c43, c44, c45, c46, c47, c48, ()), l49, l50.set i39.toNat (-1), ())
        else none)
      (byB (decide (task31 < (l50.length : Int)))
          (if (0 ≤ task31) ∧ (task31 < (l50.length : Int)) then
            (Extra_14 N (((c40, c41, c42, c43, c44, c45, c46, c47, c48, ()), l50.set task31.toNat core32, task31, ()), ())).bind fun y58 =>
            byB head36
              (byB (decide (b38 ≥ a37))
                  (byB (decide (a37 ≥ 0))
                      (byB (y58.1.1 == 0)
                          ((Hold_12 N (((c40, c41, c42, c43, c44, c45, c46, c47, c48, ()), l49, other33, k34, ()), ())).bind fun y62 =>
                            (Wait_10 N (((c40, c41, c42, c43, c44, c45, c46, c47, c48, ()), l49, other33, k34, ()), ())).bind fun y63 =>
                            some ((decide (y62.1.1 ≥ y63.1.1), ()), ()))
                          (some ((false, ()), ())))
                      (some ((false, ()), ())))
                  (some ((false, ()), ())))
              (some ((false, ()), ()))
            else none)
          ((Extra_14 N (((c40, c41, c42, c43, c44, c45, c46, c47, c48, ()), l50, task31, ()), ())).bind fun y65 =>
            byB head36
              (byB (decide (b38 ≥ a37))
                  (byB (decide (a37 ≥ 0))
                      (byB (y65.1.1 == 0)
                          ((Hold_12 N (((c40, c41, c42, c43, c44, c45, c46, c47, c48, ()), l49, other33, k34, ()), ())).bind fun y69 =>
                            (Wait_10 N (((c40, c41, c42, c43, c44, c45, c46, c47, c48, ()), l49, other33, k34, ()), ())).bind fun y70 =>
                            some ((decide (y69.1.1 ≥ y70.1.1), ()), ()))
                          (some ((false, ()), ())))
                      (some ((false, ()), ())))
                  (some ((false, ()), ())))
              (some ((false, ()), ()))))
def TermsGrow_4 (N : Nat) (x : (((Int × (Int × (Int × (Int × (Int × (Int × (Int × (Int × (List (Int × (Int × (Int × (List (Int × (Int × Int)))))) × Unit))))))))) × (List Int × (Int × (Int × (Int × (Int × Unit)))))) × Unit)) : Option ((Bool × Unit) × Unit) := match x with
  | (((s0, s1, s2, s3, s4, s5, s6, s7, s8, ()), where9, task10, core11, other12, k13, ()), ()) =>
    (examples_7 N ((), ())).bind fun y14 =>
    (Right_18 N (((s0, s1, s2, s3, s4, s5, s6, s7, s8, ()), ()), ())).bind fun y15 =>
    byB (!y15.1.1)
      (some ((y14.1.1, ()), ()))
      (byB (decide (task10 < 0))
          (some ((y14.1.1, ()), ()))
          (byB (decide (task10 ≥ (s8.length : Int)))
              (some ((y14.1.1, ()), ()))
              (byB (decide ((where9.length : Int) < (s8.length : Int)))
                  (some ((y14.1.1, ()), ()))
                  (byB (other12 == task10)
                      (some ((y14.1.1, ()), ()))
                      (if (0 + where9.length) * 8 ≤ 140737488355328 then
                        (if (0 ≤ task10) ∧ (task10 < (where9.length : Int)) then
                        (if (0 + where9.length) * 8 ≤ 140737488355328 then
                        (if (0 ≤ task10) ∧ (task10 < (where9.length : Int)) then
                        let l25 := where9.set task10.toNat core11;
                        byB (decide (core11 < 0))
                          (some ((y14.1.1, ()), ()))
                          (byB (decide (core11 ≥ s0))
                              (some ((y14.1.1, ()), ()))
                              ((Wait_10 N (((s0, s1, s2, s3, s4, s5, s6, s7, s8, ()), where9.set task10.toNat (-1), other12, k13, ()), ())).bind fun y28 =>
                                (Wait_10 N (((s0, s1, s2, s3, s4, s5, s6, s7, s8, ()), l25, other12, k13, ()), ())).bind fun y29 =>
                                let t30 := (s8.length : Int);
                                if (0 ≤ t30) ∧ (t30 ≤ t30) ∧ (8 * t30 ≤ 281474976710656) then
                                loopN N (TermsGrow_4_L14 N) ((task10, core11, other12, k13, (), false, y14.1.1, (), y28.1.1, y29.1.1, (), 0, ()), (s0, s1, s2, s3, s4, s5, s6, s7, s8, ()), l25, List.replicate t30.toNat 0, ())
                                else none))
                        else none)
                        else none)
                        else none)
                        else none)))))
theorem eq_TermsGrow_4 (N : Nat) (x : (ap_TermsGrow_4).den) : funX Try.prog (fs25 N) N lo_TermsGrow_4 jo_TermsGrow_4 Try.f4 ap_TermsGrow_4 rp_TermsGrow_4 x = TermsGrow_4 N x := by kernel_rfl
noncomputable def sp_TermsGrow_4 (N : Nat) : FSpec := specOf ap_TermsGrow_4 rp_TermsGrow_4 true (TermsGrow_4 N)
theorem ok_TermsGrow_4 (N : Nat) : FSound Try.prog 4 (sp_TermsGrow_4 N) := funX_sound (N := N) (loops := lo_TermsGrow_4) (joins := jo_TermsGrow_4) (fsok25 N) Try.func4 (by kernel_rfl) (by kernel_rfl) fun x _ h => (eq_TermsGrow_4 N x).trans h
noncomputable def fs26 (N : Nat) : FuncId → List V1 → List Blk → Option FSpec := fun g xs H => if g = 4 then some (sp_TermsGrow_4 N) else fs25 N g xs H
theorem fsok26 (N : Nat) : ∀ g xs H sp, fs26 N g xs H = some sp → FSound Try.prog g sp := fun g xs H sp h => by
  unfold fs26 at h
  by_cases e : g = 4
  · rw [if_pos e] at h; subst e; cases h; exact ok_TermsGrow_4 N
  · rw [if_neg e] at h; exact fsok25 N g xs H sp h
/-! TermsSum_5 -/
abbrev ap_TermsSum_5 : Pat := ⟨[.agg [.int .i64, .int .i64, .int .i64, .int .i64, .int .i64, .int .i64, .int .i64, .int .i64, .ro (.pair (.int .i64) (.pair (.int .i64) (.pair (.int .i64) (.ro (.pair (.int .i64) (.pair (.int .i64) (.int .i64)))))))], .one (.ro (.int .i64)), .one (.int .i64)], []⟩
abbrev rp_TermsSum_5 : List Pat := [⟨[.one (.bool)], []⟩]
def lo_TermsSum_5 : List LSpec := [⟨6, [1, 2, 3, 7, 8, 9], ⟨[.one (.ro (.int .i64)), .one (.int .i64), .one (.ptr 0 0), .one (.bool), .one (.int .i64), .one (.int .i64)], [.var 24 [.int .i64, .int .i64, .int .i64, .int .i64, .int .i64, .int .i64, .int .i64, .int .i64, .ro (.pair (.int .i64) (.pair (.int .i64) (.pair (.int .i64) (.ro (.pair (.int .i64) (.pair (.int .i64) (.int .i64)))))))]]⟩⟩, ⟨9, [1, 2, 3, 7, 8, 9, 10], ⟨[.one (.ro (.int .i64)), .one (.int .i64), .one (.ptr 0 0), .one (.bool), .one (.int .i64), .one (.int .i64), .one (.int .i64)], [.var 24 [.int .i64, .int .i64, .int .i64, .int .i64, .int .i64, .int .i64, .int .i64, .int .i64, .ro (.pair (.int .i64) (.pair (.int .i64) (.pair (.int .i64) (.ro (.pair (.int .i64) (.pair (.int .i64) (.int .i64)))))))]]⟩⟩, ⟨15, [1, 2, 3, 7, 8, 11, 12, 13], ⟨[.one (.ro (.int .i64)), .one (.int .i64), .one (.ptr 0 0), .one (.bool), .one (.int .i64), .one (.int .i64), .one (.ro (.pair (.int .i64) (.pair (.int .i64) (.int .i64)))), .one (.int .i64)], [.var 24 [.int .i64, .int .i64, .int .i64, .int .i64, .int .i64, .int .i64, .int .i64, .int .i64, .ro (.pair (.int .i64) (.pair (.int .i64) (.pair (.int .i64) (.ro (.pair (.int .i64) (.pair (.int .i64) (.int .i64)))))))]]⟩⟩]
def jo_TermsSum_5 : List LSpec := []
def TermsSum_5_L9 (N : Nat) (again6 : ((List Int × (Int × (Unit × (Bool × (Int × (Int × Unit)))))) × ((Int × (Int × (Int × (Int × (Int × (Int × (Int × (Int × (List (Int × (Int × (Int × (List (Int × (Int × Int)))))) × Unit))))))))) × Unit)) → Option ((Bool × Unit) × Unit)) (again9 : ((List Int × (Int × (Unit × (Bool × (Int × (Int × (Int × Unit))))))) × ((Int × (Int × (Int × (Int × (Int × (Int × (Int × (Int × (List (Int × (Int × (Int × (List (Int × (Int × Int)))))) × Unit))))))))) × Unit)) → Option ((Bool × Unit) × Unit)) (x : ((List Int × (Int × (Unit × (Bool × (Int × (Int × (Int × Unit))))))) × ((Int × (Int × (Int × (Int × (Int × (Int × (Int × (Int × (List (Int × (Int × (Int × (List (Int × (Int × Int)))))) × Unit))))))))) × Unit))) : Option ((Bool × Unit) × Unit) := match x with
  | ((where45, task46, _, head47, longest48, i49, k50, ()), (c51, c52, c53, c54, c55, c56, c57, c58, c59, ()), ()) =>
    if (0 ≤ i49) ∧ (i49 < (c59.length : Int)) then
    byB (decide (k50 < ((c59.getD i49.toNat (0, 0, 0, [])).2.2.2.length : Int)))
      (if (0 ≤ i49) ∧ (i49 < (c59.length : Int)) then
        let e63 := c59.getD i49.toNat (0, 0, 0, []);
        if (0 ≤ k50) ∧ (k50 < (e63.2.2.2.length : Int)) then
        again9 ((where45, task46, (), head47, if (e63.2.2.2.getD k50.toNat (0, 0, 0)).2.2 > longest48 then (e63.2.2.2.getD k50.toNat (0, 0, 0)).2.2 else longest48, i49, IntKind.wrap .i64 (k50 + 1), ()), (c51, c52, c53, c54, c55, c56, c57, c58, c59, ()), ())
        else none
        else none)
      (again6 ((where45, task46, (), head47, longest48, IntKind.wrap .i64 (i49 + 1), ()), (c51, c52, c53, c54, c55, c56, c57, c58, c59, ()), ()))
    else none
def TermsSum_5_L15 (N : Nat) (again15 : ((List Int × (Int × (Unit × (Bool × (Int × (Int × (List (Int × (Int × Int)) × (Int × Unit)))))))) × ((Int × (Int × (Int × (Int × (Int × (Int × (Int × (Int × (List (Int × (Int × (Int × (List (Int × (Int × Int)))))) × Unit))))))))) × Unit)) → Option ((Bool × Unit) × Unit)) (x : ((List Int × (Int × (Unit × (Bool × (Int × (Int × (List (Int × (Int × Int)) × (Int × Unit)))))))) × ((Int × (Int × (Int × (Int × (Int × (Int × (Int × (Int × (List (Int × (Int × (Int × (List (Int × (Int × Int)))))) × Unit))))))))) × Unit))) : Option ((Bool × Unit) × Unit) := match x with
  | ((where69, task70, _, head71, longest72, sum73, l74, k75, ()), (c76, c77, c78, c79, c80, c81, c82, c83, c84, ()), ()) =>
    byB (decide (k75 < (l74.length : Int)))
      ((Wait_10 N (((c76, c77, c78, c79, c80, c81, c82, c83, c84, ()), where69, task70, k75, ()), ())).bind fun y87 =>
        byB (decide (y87.1.1 < 0))
          (some ((false, ()), ()))
          (byB (decide (y87.1.1 > (IntKind.wrap .i64 (c76 * (IntKind.wrap .i64 (longest72 + 1))))))
              (some ((false, ()), ()))
              ((Hold_12 N (((c76, c77, c78, c79, c80, c81, c82, c83, c84, ()), where69, task70, k75, ()), ())).bind fun y92 =>
                if (0 ≤ k75) ∧ (k75 < (l74.length : Int)) then
                byB (y92.1.1 != (IntKind.wrap .i64 (y87.1.1 + (l74.getD k75.toNat (0, 0, 0)).2.2)))
                  (some ((false, ()), ()))
                  (again15 ((where69, task70, (), head71, longest72, IntKind.wrap .i64 (sum73 + y87.1.1), l74, IntKind.wrap .i64 (k75 + 1), ()), (c76, c77, c78, c79, c80, c81, c82, c83, c84, ()), ()))
                else none)))
      (byB head71
          ((Extra_14 N (((c76, c77, c78, c79, c80, c81, c82, c83, c84, ()), where69, task70, ()), ())).bind fun y98 =>
            byB (y98.1.1 == sum73)
              ((Uses_16 N (((c76, c77, c78, c79, c80, c81, c82, c83, c84, ()), task70, ()), ())).bind fun y100 =>
                some ((y100.1.1 == (decide ((l74.length : Int) > 0)), ()), ()))
              (some ((false, ()), ())))
          (some ((false, ()), ())))
def TermsSum_5_L6 (N : Nat) (again6 : ((List Int × (Int × (Unit × (Bool × (Int × (Int × Unit)))))) × ((Int × (Int × (Int × (Int × (Int × (Int × (Int × (Int × (List (Int × (Int × (Int × (List (Int × (Int × Int)))))) × Unit))))))))) × Unit)) → Option ((Bool × Unit) × Unit)) (x : ((List Int × (Int × (Unit × (Bool × (Int × (Int × Unit)))))) × ((Int × (Int × (Int × (Int × (Int × (Int × (Int × (Int × (List (Int × (Int × (Int × (List (Int × (Int × Int)))))) × Unit))))))))) × Unit))) : Option ((Bool × Unit) × Unit) := match x with
  | ((where29, task30, _, head31, longest32, i33, ()), (c34, c35, c36, c37, c38, c39, c40, c41, c42, ()), ()) =>
    byB (decide (i33 < (c42.length : Int)))
      (loopN N (TermsSum_5_L9 N again6) ((where29, task30, (), head31, longest32, i33, 0, ()), (c34, c35, c36, c37, c38, c39, c40, c41, c42, ()), ()))
      (if (0 ≤ task30) ∧ (task30 < (c42.length : Int)) then
        loopN N (TermsSum_5_L15 N) ((where29, task30, (), head31, longest32, 0, (c42.getD task30.toNat (0, 0, 0, [])).2.2.2, 0, ()), (c34, c35, c36, c37, c38, c39, c40, c41, c42, ()), ())
        else none)
def TermsSum_5 (N : Nat) (x : (((Int × (Int × (Int × (Int × (Int × (Int × (Int × (Int × (List (Int × (Int × (Int × (List (Int × (Int × Int)))))) × Unit))))))))) × (List Int × (Int × Unit))) × Unit)) : Option ((Bool × Unit) × Unit) := match x with
  | (((s0, s1, s2, s3, s4, s5, s6, s7, s8, ()), where9, task10, ()), ()) =>
    (examples_7 N ((), ())).bind fun y11 =>
    (Right_18 N (((s0, s1, s2, s3, s4, s5, s6, s7, s8, ()), ()), ())).bind fun y12 =>
    byB (!y12.1.1)
      (byB y11.1.1
          ((Extra_14 N (((s0, s1, s2, s3, s4, s5, s6, s7, s8, ()), where9, task10, ()), ())).bind fun y14 =>
            byB (y14.1.1 == 0)
              ((Uses_16 N (((s0, s1, s2, s3, s4, s5, s6, s7, s8, ()), task10, ()), ())).bind fun y16 =>
                some ((!y16.1.1, ()), ()))
              (some ((false, ()), ())))
          (some ((false, ()), ())))
      (byB (decide (task10 < 0))
          (byB y11.1.1
              ((Extra_14 N (((s0, s1, s2, s3, s4, s5, s6, s7, s8, ()), where9, task10, ()), ())).bind fun y19 =>
                byB (y19.1.1 == 0)
                  ((Uses_16 N (((s0, s1, s2, s3, s4, s5, s6, s7, s8, ()), task10, ()), ())).bind fun y21 =>
                    some ((!y21.1.1, ()), ()))
                  (some ((false, ()), ())))
              (some ((false, ()), ())))
          (byB (decide (task10 ≥ (s8.length : Int)))
              (byB y11.1.1
                  ((Extra_14 N (((s0, s1, s2, s3, s4, s5, s6, s7, s8, ()), where9, task10, ()), ())).bind fun y25 =>
                    byB (y25.1.1 == 0)
                      ((Uses_16 N (((s0, s1, s2, s3, s4, s5, s6, s7, s8, ()), task10, ()), ())).bind fun y27 =>
                        some ((!y27.1.1, ()), ()))
                      (some ((false, ()), ())))
                  (some ((false, ()), ())))
              (loopN N (TermsSum_5_L6 N) ((where9, task10, (), y11.1.1, 0, 0, ()), (s0, s1, s2, s3, s4, s5, s6, s7, s8, ()), ()))))
theorem eq_TermsSum_5 (N : Nat) (x : (ap_TermsSum_5).den) : funX Try.prog (fs26 N) N lo_TermsSum_5 jo_TermsSum_5 Try.f5 ap_TermsSum_5 rp_TermsSum_5 x = TermsSum_5 N x := by kernel_rfl
noncomputable def sp_TermsSum_5 (N : Nat) : FSpec := specOf ap_TermsSum_5 rp_TermsSum_5 true (TermsSum_5 N)
theorem ok_TermsSum_5 (N : Nat) : FSound Try.prog 5 (sp_TermsSum_5 N) := funX_sound (N := N) (loops := lo_TermsSum_5) (joins := jo_TermsSum_5) (fsok26 N) Try.func5 (by kernel_rfl) (by kernel_rfl) fun x _ h => (eq_TermsSum_5 N x).trans h
noncomputable def fs27 (N : Nat) : FuncId → List V1 → List Blk → Option FSpec := fun g xs H => if g = 5 then some (sp_TermsSum_5 N) else fs26 N g xs H
theorem fsok27 (N : Nat) : ∀ g xs H sp, fs27 N g xs H = some sp → FSound Try.prog g sp := fun g xs H sp h => by
  unfold fs27 at h
  by_cases e : g = 5
  · rw [if_pos e] at h; subst e; cases h; exact ok_TermsSum_5 N
  · rw [if_neg e] at h; exact fsok26 N g xs H sp h
/-! TermsLongest_6 -/
abbrev ap_TermsLongest_6 : Pat := ⟨[.agg [.int .i64, .int .i64, .int .i64, .int .i64, .int .i64, .int .i64, .int .i64, .int .i64, .ro (.pair (.int .i64) (.pair (.int .i64) (.pair (.int .i64) (.ro (.pair (.int .i64) (.pair (.int .i64) (.int .i64)))))))], .one (.ro (.int .i64)), .one (.int .i64), .one (.int .i64)], []⟩
abbrev rp_TermsLongest_6 : List Pat := [⟨[.one (.bool)], []⟩]
def lo_TermsLongest_6 : List LSpec := [⟨7, [1, 2, 3, 4, 9, 10, 11, 12], ⟨[.one (.ro (.int .i64)), .one (.int .i64), .one (.int .i64), .one (.ptr 0 0), .one (.bool), .one (.int .i64), .one (.bool), .one (.int .i64)], [.var 24 [.int .i64, .int .i64, .int .i64, .int .i64, .int .i64, .int .i64, .int .i64, .int .i64, .ro (.pair (.int .i64) (.pair (.int .i64) (.pair (.int .i64) (.ro (.pair (.int .i64) (.pair (.int .i64) (.int .i64)))))))]]⟩⟩, ⟨10, [1, 2, 3, 4, 9, 10, 11, 12, 13, 47, 48, 49, 50], ⟨[.one (.ro (.int .i64)), .one (.int .i64), .one (.int .i64), .one (.ptr 0 0), .one (.bool), .one (.int .i64), .one (.bool), .one (.int .i64), .one (.int .i64), .one (.int .i64), .one (.ro (.int .i64)), .one (.int .i64), .one (.bool)], [.var 24 [.int .i64, .int .i64, .int .i64, .int .i64, .int .i64, .int .i64, .int .i64, .int .i64, .ro (.pair (.int .i64) (.pair (.int .i64) (.pair (.int .i64) (.ro (.pair (.int .i64) (.pair (.int .i64) (.int .i64)))))))]]⟩⟩]
def jo_TermsLongest_6 : List LSpec := []
def TermsLongest_6_L10 (N : Nat) (again7 : ((List Int × (Int × (Int × (Unit × (Bool × (Int × (Bool × (Int × Unit)))))))) × ((Int × (Int × (Int × (Int × (Int × (Int × (Int × (Int × (List (Int × (Int × (Int × (List (Int × (Int × Int)))))) × Unit))))))))) × Unit)) → Option ((Bool × Unit) × Unit)) (again10 : ((List Int × (Int × (Int × (Unit × (Bool × (Int × (Bool × (Int × (Int × (Int × (List Int × (Int × (Bool × Unit))))))))))))) × ((Int × (Int × (Int × (Int × (Int × (Int × (Int × (Int × (List (Int × (Int × (Int × (List (Int × (Int × Int)))))) × Unit))))))))) × Unit)) → Option ((Bool × Unit) × Unit)) (x : ((List Int × (Int × (Int × (Unit × (Bool × (Int × (Bool × (Int × (Int × (Int × (List Int × (Int × (Bool × Unit))))))))))))) × ((Int × (Int × (Int × (Int × (Int × (Int × (Int × (Int × (List (Int × (Int × (Int × (List (Int × (Int × Int)))))) × Unit))))))))) × Unit))) : Option ((Bool × Unit) × Unit) := match x with
  | ((where42, core43, res44, _, head45, n46, met47, i48, k49, t50, t51, t52, t53, ()), (c54, c55, c56, c57, c58, c59, c60, c61, c62, ()), ()) =>
    if (0 ≤ i48) ∧ (i48 < (c62.length : Int)) then
    byB (decide (k49 < ((c62.getD i48.toNat (0, 0, 0, [])).2.2.2.length : Int)))
      (if (0 ≤ i48) ∧ (i48 < (where42.length : Int)) then
        byB ((where42.getD i48.toNat 0) == core43)
          (if (0 ≤ i48) ∧ (i48 < (c62.length : Int)) then
            let e68 := c62.getD i48.toNat (0, 0, 0, []);
            if (0 ≤ k49) ∧ (k49 < (e68.2.2.2.length : Int)) then
            let e69 := e68.2.2.2.getD k49.toNat (0, 0, 0);
            byB (e69.2.1 == res44)
              (byB (decide (e69.2.2 > n46))
                  (some ((false, ()), ()))
                  (byB met47
                      (again10 ((where42, core43, res44, (), head45, n46, true, i48, IntKind.wrap .i64 (k49 + 1), t50, t51, t52, t53, ()), (c54, c55, c56, c57, c58, c59, c60, c61, c62, ()), ()))
                      (byB (e69.2.1 == res44)
                          (again10 ((where42, core43, res44, (), head45, n46, e69.2.2 == n46, i48, IntKind.wrap .i64 (k49 + 1), t50, t51, t52, t53, ()), (c54, c55, c56, c57, c58, c59, c60, c61, c62, ()), ()))
                          (again10 ((where42, core43, res44, (), head45, n46, false, i48, IntKind.wrap .i64 (k49 + 1), t50, t51, t52, t53, ()), (c54, c55, c56, c57, c58, c59, c60, c61, c62, ()), ())))))
              (byB met47
                  (again10 ((where42, core43, res44, (), head45, n46, true, i48, IntKind.wrap .i64 (k49 + 1), t50, t51, t52, t53, ()), (c54, c55, c56, c57, c58, c59, c60, c61, c62, ()), ()))
                  (byB (e69.2.1 == res44)
                      (again10 ((where42, core43, res44, (), head45, n46, e69.2.2 == n46, i48, IntKind.wrap .i64 (k49 + 1), t50, t51, t52, t53, ()), (c54, c55, c56, c57, c58, c59, c60, c61, c62, ()), ()))
                      (again10 ((where42, core43, res44, (), head45, n46, false, i48, IntKind.wrap .i64 (k49 + 1), t50, t51, t52, t53, ()), (c54, c55, c56, c57, c58, c59, c60, c61, c62, ()), ()))))
            else none
            else none)
          (again7 ((where42, core43, res44, (), head45, n46, met47, IntKind.wrap .i64 (i48 + 1), ()), (c54, c55, c56, c57, c58, c59, c60, c61, c62, ()), ()))
        else none)
      (again7 ((where42, core43, res44, (), head45, n46, met47, IntKind.wrap .i64 (i48 + 1), ()), (c54, c55, c56, c57, c58, c59, c60, c61, c62, ()), ()))
    else none
def TermsLongest_6_L7 (N : Nat) (again7 : ((List Int × (Int × (Int × (Unit × (Bool × (Int × (Bool × (Int × Unit)))))))) × ((Int × (Int × (Int × (Int × (Int × (Int × (Int × (Int × (List (Int × (Int × (Int × (List (Int × (Int × Int)))))) × Unit))))))))) × Unit)) → Option ((Bool × Unit) × Unit)) (x : ((List Int × (Int × (Int × (Unit × (Bool × (Int × (Bool × (Int × Unit)))))))) × ((Int × (Int × (Int × (Int × (Int × (Int × (Int × (Int × (List (Int × (Int × (Int × (List (Int × (Int × Int)))))) × Unit))))))))) × Unit))) : Option ((Bool × Unit) × Unit) := match x with
  | ((where22, core23, res24, _, head25, n26, met27, i28, ()), (c29, c30, c31, c32, c33, c34, c35, c36, c37, ()), ()) =>
    byB (decide (i28 < (c37.length : Int)))
      (let t40 := (where22.length : Int);
        let t41 := decide (i28 < t40);
        byB t41
          (loopN N (TermsLongest_6_L10 N again7) ((where22, core23, res24, (), head25, n26, met27, i28, 0, i28, where22, t40, t41, ()), (c29, c30, c31, c32, c33, c34, c35, c36, c37, ()), ()))
          (byB head25
              (some ((met27, ()), ()))
              (some ((false, ()), ()))))
      (byB head25
          (some ((met27, ()), ()))
          (some ((false, ()), ())))
def TermsLongest_6 (N : Nat) (x : (((Int × (Int × (Int × (Int × (Int × (Int × (Int × (Int × (List (Int × (Int × (Int × (List (Int × (Int × Int)))))) × Unit))))))))) × (List Int × (Int × (Int × Unit)))) × Unit)) : Option ((Bool × Unit) × Unit) := match x with
  | (((s0, s1, s2, s3, s4, s5, s6, s7, s8, ()), where9, core10, res11, ()), ()) =>
    (examples_7 N ((), ())).bind fun y12 =>
    (Longest_8 N (((s0, s1, s2, s3, s4, s5, s6, s7, s8, ()), where9, core10, res11, ()), ())).bind fun y13 =>
    (Right_18 N (((s0, s1, s2, s3, s4, s5, s6, s7, s8, ()), ()), ())).bind fun y14 =>
    byB (!y14.1.1)
      (byB y12.1.1
          (some ((y13.1.1 == 0, ()), ()))
          (some ((false, ()), ())))
      (byB (decide (core10 < 0))
          (byB y12.1.1
              (some ((y13.1.1 == 0, ()), ()))
              (some ((false, ()), ())))
          (byB (decide (core10 ≥ s0))
              (byB y12.1.1
                  (some ((y13.1.1 == 0, ()), ()))
                  (some ((false, ()), ())))
              (loopN N (TermsLongest_6_L7 N) ((where9, core10, res11, (), y12.1.1, y13.1.1, y13.1.1 == 0, 0, ()), (s0, s1, s2, s3, s4, s5, s6, s7, s8, ()), ()))))
theorem eq_TermsLongest_6 (N : Nat) (x : (ap_TermsLongest_6).den) : funX Try.prog (fs27 N) N lo_TermsLongest_6 jo_TermsLongest_6 Try.f6 ap_TermsLongest_6 rp_TermsLongest_6 x = TermsLongest_6 N x := by kernel_rfl
noncomputable def sp_TermsLongest_6 (N : Nat) : FSpec := specOf ap_TermsLongest_6 rp_TermsLongest_6 true (TermsLongest_6 N)
theorem ok_TermsLongest_6 (N : Nat) : FSound Try.prog 6 (sp_TermsLongest_6 N) := funX_sound (N := N) (loops := lo_TermsLongest_6) (joins := jo_TermsLongest_6) (fsok27 N) Try.func6 (by kernel_rfl) (by kernel_rfl) fun x _ h => (eq_TermsLongest_6 N x).trans h
noncomputable def fs28 (N : Nat) : FuncId → List V1 → List Blk → Option FSpec := fun g xs H => if g = 6 then some (sp_TermsLongest_6 N) else fs27 N g xs H
theorem fsok28 (N : Nat) : ∀ g xs H sp, fs28 N g xs H = some sp → FSound Try.prog g sp := fun g xs H sp h => by
  unfold fs28 at h
  by_cases e : g = 6
  · rw [if_pos e] at h; subst e; cases h; exact ok_TermsLongest_6 N
  · rw [if_neg e] at h; exact fsok27 N g xs H sp h
end Go.Proofs.YtgpeknookhdffaaX
