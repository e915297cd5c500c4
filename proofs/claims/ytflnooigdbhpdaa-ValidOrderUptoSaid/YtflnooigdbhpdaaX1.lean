/- Functions of the program as plain Lean, each with its equation (printed by a program of this seat's own). Conditions: none. -/
import Derived.Test.YtflnooigdbhpdaaM6
import Derived.Test.YtflnooigdbhpdaaProg
import Derived.KernelRfl
namespace Go.Proofs.YtflnooigdbhpdaaX
open Go Go.Proofs.YtflnooigdbhpdaaM
set_option maxRecDepth 100000
set_option linter.unusedVariables false
noncomputable def fs0 (_ : Nat) : FuncId → List V1 → List Blk → Option FSpec := fun _ _ _ => none
theorem fsok0 (N : Nat) : ∀ g xs H sp, fs0 N g xs H = some sp → FSound Try.prog g sp := fun _ _ _ _ h => by cases h
/-! small_11v1 -/
abbrev ap_small_11v1 : Pat := ⟨[], []⟩
abbrev rp_small_11v1 : List Pat := [⟨[.agg [.int .i64, .int .i64, .int .i64, .int .i64, .int .i64, .int .i64, .int .i64, .int .i64, .full 0]], [.row 35 (.pair (.int .i64) (.pair (.int .i64) (.pair (.int .i64) (.ro (.pair (.int .i64) (.pair (.int .i64) (.int .i64)))))))]⟩]
def lo_small_11v1 : List LSpec := []
def jo_small_11v1 : List LSpec := []
def small_11v1 (N : Nat) (x : (Unit × Unit)) : Option (((Int × (Int × (Int × (Int × (Int × (Int × (Int × (Int × (Unit × Unit))))))))) × Unit) × (List (Int × (Int × (Int × (List (Int × (Int × Int)))))) × Unit)) := match x with
  | ((), ()) =>
    some (((1, 1, 1, 0, 0, 0, 1, 0, (), ()), ()), [((10 : Int), (10 : Int), (3 : Int), [])], ())
theorem eq_small_11v1 (N : Nat) (x : (ap_small_11v1).den) : funX Try.prog (fs0 N) N 11 lo_small_11v1 jo_small_11v1 Try.f11 ap_small_11v1 rp_small_11v1 x = small_11v1 N x := by kernel_rfl
noncomputable def sp_small_11v1 (N : Nat) : FSpec := specOf ap_small_11v1 rp_small_11v1 false (small_11v1 N)
theorem ok_small_11v1 (N : Nat) : FSound Try.prog 11 (sp_small_11v1 N) := funX_sound (N := N) (loops := lo_small_11v1) (joins := jo_small_11v1) (fsok0 N) Try.func11 (by kernel_rfl) (by kernel_rfl) fun x _ h => (eq_small_11v1 N x).trans h
noncomputable def fs1 (N : Nat) : FuncId → List V1 → List Blk → Option FSpec := fun g xs H => if g = 11 then some (sp_small_11v1 N) else fs0 N g xs H
theorem fsok1 (N : Nat) : ∀ g xs H sp, fs1 N g xs H = some sp → FSound Try.prog g sp := fun g xs H sp h => by
  unfold fs1 at h
  by_cases e : g = 11
  · rw [if_pos e] at h; subst e; cases h; exact ok_small_11v1 N
  · rw [if_neg e] at h; exact fsok0 N g xs H sp h
/-! between_13 -/
abbrev ap_between_13 : Pat := ⟨[.one (.int .i64), .one (.int .i64), .one (.int .i64)], []⟩
abbrev rp_between_13 : List Pat := [⟨[.one (.bool)], []⟩]
def lo_between_13 : List LSpec := []
def jo_between_13 : List LSpec := []
def between_13 (N : Nat) (x : ((Int × (Int × (Int × Unit))) × Unit)) : Option ((Bool × Unit) × Unit) := match x with
  | ((n0, a1, b2, ()), ()) =>
    byB (!decide (n0 < a1))
      (some ((decide (n0 ≤ b2), ()), ()))
      (some ((false, ()), ()))
theorem eq_between_13 (N : Nat) (x : (ap_between_13).den) : funX Try.prog (fs1 N) N 13 lo_between_13 jo_between_13 Try.f13 ap_between_13 rp_between_13 x = between_13 N x := by kernel_rfl
noncomputable def sp_between_13 (N : Nat) : FSpec := specOf ap_between_13 rp_between_13 true (between_13 N)
theorem ok_between_13 (N : Nat) : FSound Try.prog 13 (sp_between_13 N) := funX_sound (N := N) (loops := lo_between_13) (joins := jo_between_13) (fsok1 N) Try.func13 (by kernel_rfl) (by kernel_rfl) fun x _ h => (eq_between_13 N x).trans h
noncomputable def fs2 (N : Nat) : FuncId → List V1 → List Blk → Option FSpec := fun g xs H => if g = 13 then some (sp_between_13 N) else fs1 N g xs H
theorem fsok2 (N : Nat) : ∀ g xs H sp, fs2 N g xs H = some sp → FSound Try.prog g sp := fun g xs H sp h => by
  unfold fs2 at h
  by_cases e : g = 13
  · rw [if_pos e] at h; subst e; cases h; exact ok_between_13 N
  · rw [if_neg e] at h; exact fsok1 N g xs H sp h
/-! whole_12 -/
abbrev ap_whole_12 : Pat := ⟨[.agg [.int .i64, .int .i64, .int .i64, .int .i64, .int .i64, .int .i64, .int .i64, .int .i64, .ro (.pair (.int .i64) (.pair (.int .i64) (.pair (.int .i64) (.ro (.pair (.int .i64) (.pair (.int .i64) (.int .i64)))))))]], []⟩
abbrev rp_whole_12 : List Pat := [⟨[.one (.bool)], []⟩]
def lo_whole_12 : List LSpec := []
def jo_whole_12 : List LSpec := [⟨4, [1, 13], ⟨[.one (.ptr 0 0), .one (.bool)], [.var 24 [.int .i64, .int .i64, .int .i64, .int .i64, .int .i64, .int .i64, .int .i64, .int .i64, .ro (.pair (.int .i64) (.pair (.int .i64) (.pair (.int .i64) (.ro (.pair (.int .i64) (.pair (.int .i64) (.int .i64)))))))]]⟩⟩, ⟨2, [1, 4], ⟨[.one (.ptr 0 0), .one (.bool)], [.var 24 [.int .i64, .int .i64, .int .i64, .int .i64, .int .i64, .int .i64, .int .i64, .int .i64, .ro (.pair (.int .i64) (.pair (.int .i64) (.pair (.int .i64) (.ro (.pair (.int .i64) (.pair (.int .i64) (.int .i64)))))))]]⟩⟩, ⟨5, [1], ⟨[.one (.ptr 0 0)], [.var 24 [.int .i64, .int .i64, .int .i64, .int .i64, .int .i64, .int .i64, .int .i64, .int .i64, .ro (.pair (.int .i64) (.pair (.int .i64) (.pair (.int .i64) (.ro (.pair (.int .i64) (.pair (.int .i64) (.int .i64)))))))]]⟩⟩]
def whole_12_J4 (N : Nat) (join5 : ((Unit × Unit) × ((Int × (Int × (Int × (Int × (Int × (Int × (Int × (Int × (List (Int × (Int × (Int × (List (Int × (Int × Int)))))) × Unit))))))))) × Unit)) → Option ((Bool × Unit) × Unit)) (x : ((Unit × (Bool × Unit)) × ((Int × (Int × (Int × (Int × (Int × (Int × (Int × (Int × (List (Int × (Int × (Int × (List (Int × (Int × Int)))))) × Unit))))))))) × Unit))) : Option ((Bool × Unit) × Unit) := match x with
  | ((_, t24, ()), (c25, c26, c27, c28, c29, c30, c31, c32, c33, ()), ()) =>
    byB t24
      (some ((false, ()), ()))
      (join5 (((), ()), (c25, c26, c27, c28, c29, c30, c31, c32, c33, ()), ()))
def whole_12_J2 (N : Nat) (join5 : ((Unit × Unit) × ((Int × (Int × (Int × (Int × (Int × (Int × (Int × (Int × (List (Int × (Int × (Int × (List (Int × (Int × Int)))))) × Unit))))))))) × Unit)) → Option ((Bool × Unit) × Unit)) (x : ((Unit × (Bool × Unit)) × ((Int × (Int × (Int × (Int × (Int × (Int × (Int × (Int × (List (Int × (Int × (Int × (List (Int × (Int × Int)))))) × Unit))))))))) × Unit))) : Option ((Bool × Unit) × Unit) := match x with
  | ((_, t11, ()), (c12, c13, c14, c15, c16, c17, c18, c19, c20, ()), ()) =>
    byB t11
      (some ((false, ()), ()))
      (withJoin (whole_12_J4 N join5) fun join4 =>
        byB (c14 != 1)
          (byB (c14 != 2)
              (join4 (((), true, ()), (c12, c13, c14, c15, c16, c17, c18, c19, c20, ()), ()))
              (join4 (((), c13 != 1, ()), (c12, c13, c14, c15, c16, c17, c18, c19, c20, ()), ())))
          (join4 (((), false, ()), (c12, c13, c14, c15, c16, c17, c18, c19, c20, ()), ())))
def whole_12_J5 (N : Nat) (x : ((Unit × Unit) × ((Int × (Int × (Int × (Int × (Int × (Int × (Int × (Int × (List (Int × (Int × (Int × (List (Int × (Int × Int)))))) × Unit))))))))) × Unit))) : Option ((Bool × Unit) × Unit) := match x with
  | ((_, ()), (c34, c35, c36, c37, c38, c39, c40, c41, c42, ()), ()) =>
    (between_13 N ((c37, 0, 50, ()), ())).bind fun y43 =>
    byB y43.1.1
      ((between_13 N ((c38, 0, 50, ()), ())).bind fun y44 =>
        byB y44.1.1
          ((between_13 N ((c39, 0, 50, ()), ())).bind fun y45 =>
            byB y45.1.1
              ((between_13 N ((c34, 1, 8, ()), ())).bind fun y46 =>
                byB y46.1.1
                  ((between_13 N ((c40, 1, 50, ()), ())).bind fun y47 =>
                    byB y47.1.1
                      ((between_13 N ((c41, 0, 8, ()), ())).bind fun y48 =>
                        byB y48.1.1
                          ((between_13 N (((c42.length : Int), 1, 24, ()), ())).bind fun y50 =>
                            some ((y50.1.1, ()), ()))
                          (some ((false, ()), ())))
                      (some ((false, ()), ())))
                  (some ((false, ()), ())))
              (some ((false, ()), ())))
          (some ((false, ()), ())))
      (some ((false, ()), ()))
def whole_12 (N : Nat) (x : (((Int × (Int × (Int × (Int × (Int × (Int × (Int × (Int × (List (Int × (Int × (Int × (List (Int × (Int × Int)))))) × Unit))))))))) × Unit) × Unit)) : Option ((Bool × Unit) × Unit) := match x with
  | (((s0, s1, s2, s3, s4, s5, s6, s7, s8, ()), ()), ()) =>
    withJoin (whole_12_J5 N) fun join5 =>
    withJoin (whole_12_J2 N join5) fun join2 =>
    byB (s1 != 1)
      (join2 (((), s1 != 2, ()), (s0, s1, s2, s3, s4, s5, s6, s7, s8, ()), ()))
      (join2 (((), false, ()), (s0, s1, s2, s3, s4, s5, s6, s7, s8, ()), ()))
theorem eq_whole_12 (N : Nat) (x : (ap_whole_12).den) : funX Try.prog (fs2 N) N 12 lo_whole_12 jo_whole_12 Try.f12 ap_whole_12 rp_whole_12 x = whole_12 N x := by kernel_rfl
noncomputable def sp_whole_12 (N : Nat) : FSpec := specOf ap_whole_12 rp_whole_12 true (whole_12 N)
theorem ok_whole_12 (N : Nat) : FSound Try.prog 12 (sp_whole_12 N) := funX_sound (N := N) (loops := lo_whole_12) (joins := jo_whole_12) (fsok2 N) Try.func12 (by kernel_rfl) (by kernel_rfl) fun x _ h => (eq_whole_12 N x).trans h
noncomputable def fs3 (N : Nat) : FuncId → List V1 → List Blk → Option FSpec := fun g xs H => if g = 12 then some (sp_whole_12 N) else fs2 N g xs H
theorem fsok3 (N : Nat) : ∀ g xs H sp, fs3 N g xs H = some sp → FSound Try.prog g sp := fun g xs H sp h => by
  unfold fs3 at h
  by_cases e : g = 12
  · rw [if_pos e] at h; subst e; cases h; exact ok_whole_12 N
  · rw [if_neg e] at h; exact fsok2 N g xs H sp h
/-! Check_8 -/
abbrev ap_Check_8 : Pat := ⟨[.agg [.int .i64, .int .i64, .int .i64, .int .i64, .int .i64, .int .i64, .int .i64, .int .i64, .ro (.pair (.int .i64) (.pair (.int .i64) (.pair (.int .i64) (.ro (.pair (.int .i64) (.pair (.int .i64) (.int .i64)))))))]], []⟩
abbrev rp_Check_8 : List Pat := [⟨[.agg [.int .i64, .int .i64, .int .i64]], []⟩]
def lo_Check_8 : List LSpec := [⟨5, [1, 2, 3, 15, 16, 17], ⟨[.one (.ptr 0 0), .one (.ptr 1 0), .one (.ptr 2 0), .one (.ro (.pair (.int .i64) (.pair (.int .i64) (.pair (.int .i64) (.ro (.pair (.int .i64) (.pair (.int .i64) (.int .i64)))))))), .one (.int .i64), .one (.int .i64)], [.var 24 [.int .i64, .int .i64, .int .i64, .int .i64, .int .i64, .int .i64, .int .i64, .int .i64, .ro (.pair (.int .i64) (.pair (.int .i64) (.pair (.int .i64) (.ro (.pair (.int .i64) (.pair (.int .i64) (.int .i64)))))))], .var 28 [.int .i64, .int .i64, .int .i64], .var 28 [.int .i64, .int .i64, .int .i64]]⟩⟩, ⟨12, [1, 2, 3, 5, 6, 15, 16, 17, 30, 31, 32, 33, 34, 35, 38, 39, 40, 41, 42, 43, 46, 47, 48, 49, 53, 54, 55], ⟨[.one (.ptr 0 0), .one (.ptr 1 0), .one (.ptr 2 0), .one (.ptr 3 0), .one (.int .i64), .one (.ro (.pair (.int .i64) (.pair (.int .i64) (.pair (.int .i64) (.ro (.pair (.int .i64) (.pair (.int .i64) (.int .i64)))))))), .one (.int .i64), .one (.int .i64), .one (.ptr 3 1), .one (.int .i64), .one (.ptr 3 0), .one (.int .i64), .one (.bool), .one (.bool), .one (.ptr 3 2), .one (.int .i64), .one (.ptr 3 1), .one (.int .i64), .one (.bool), .one (.bool), .one (.ptr 3 3), .one (.ro (.pair (.int .i64) (.pair (.int .i64) (.int .i64)))), .one (.int .i64), .one (.bool), .one (.ro (.pair (.int .i64) (.pair (.int .i64) (.int .i64)))), .one (.int .i64), .one (.int .i64)], [.var 24 [.int .i64, .int .i64, .int .i64, .int .i64, .int .i64, .int .i64, .int .i64, .int .i64, .ro (.pair (.int .i64) (.pair (.int .i64) (.pair (.int .i64) (.ro (.pair (.int .i64) (.pair (.int .i64) (.int .i64)))))))], .var 28 [.int .i64, .int .i64, .int .i64], .var 28 [.int .i64, .int .i64, .int .i64], .var 35 [.int .i64, .int .i64, .int .i64, .ro (.pair (.int .i64) (.pair (.int .i64) (.int .i64)))]]⟩⟩]
def jo_Check_8 : List LSpec := []
def Check_8_L12 (N : Nat) (again5 : ((Unit × (Unit × (Unit × (List (Int × (Int × (Int × (List (Int × (Int × Int)))))) × (Int × (Int × Unit)))))) × ((Int × (Int × (Int × (Int × (Int × (Int × (Int × (Int × (List (Int × (Int × (Int × (List (Int × (Int × Int)))))) × Unit))))))))) × ((Int × (Int × (Int × Unit))) × ((Int × (Int × (Int × Unit))) × Unit)))) → Option (((Int × (Int × (Int × Unit))) × Unit) × Unit)) (again12 : ((Unit × (Unit × (Unit × (Unit × (Int × (List (Int × (Int × (Int × (List (Int × (Int × Int)))))) × (Int × (Int × (Unit × (Int × (Unit × (Int × (Bool × (Bool × (Unit × (Int × (Unit × (Int × (Bool × (Bool × (Unit × (List (Int × (Int × Int)) × (Int × (Bool × (List (Int × (Int × Int)) × (Int × (Int × Unit))))))))))))))))))))))))))) × ((Int × (Int × (Int × (Int × (Int × (Int × (Int × (Int × (List (Int × (Int × (Int × (List (Int × (Int × Int)))))) × Unit))))))))) × ((Int × (Int × (Int × Unit))) × ((Int × (Int × (Int × Unit))) × ((Int × (Int × (Int × (List (Int × (Int × Int)) × Unit)))) × Unit))))) → Option (((Int × (Int × (Int × Unit))) × Unit) × Unit)) (x : ((Unit × (Unit × (Unit × (Unit × (Int × (List (Int × (Int × (Int × (List (Int × (Int × Int)))))) × (Int × (Int × (Unit × (Int × (Unit × (Int × (Bool × (Bool × (Unit × (Int × (Unit × (Int × (Bool × (Bool × (Unit × (List (Int × (Int × Int)) × (Int × (Bool × (List (Int × (Int × Int)) × (Int × (Int × Unit))))))))))))))))))))))))))) × ((Int × (Int × (Int × (Int × (Int × (Int × (Int × (Int × (List (Int × (Int × (Int × (List (Int × (Int × Int)))))) × Unit))))))))) × ((Int × (Int × (Int × Unit))) × ((Int × (Int × (Int × Unit))) × ((Int × (Int × (Int × (List (Int × (Int × Int)) × Unit)))) × Unit)))))) : Option (((Int × (Int × (Int × Unit))) × Unit) × Unit) := match x with
  | ((_, _, _, _, end41, t42, t43, t44, _, t45, _, t46, t47, t48, _, t49, _, t50, t51, t52, _, t53, t54, t55, t56, t57, t58, ()), (c59, c60, c61, c62, c63, c64, c65, c66, c67, ()), (c68, c69, c70, ()), (c71, c72, c73, ()), (c74, c75, c76, c77, ()), ()) =>
    byB (decide (t58 < t57))
      (if (0 ≤ t58) ∧ (t58 < (t56.length : Int)) then
        let e79 := t56.getD t58.toNat (0, 0, 0);
        byB (decide (e79.1 < end41))
          (byB (!decide (c72 < 0))
              (some (((c71, c72, t58, ()), ()), ()))
              (some (((0, -1, -1, ()), ()), ())))
          (byB (!decide (e79.1 ≤ c76))
              (byB (!decide (c72 < 0))
                  (some (((c71, c72, t58, ()), ()), ()))
                  (some (((0, -1, -1, ()), ()), ())))
              (byB (decide (e79.2.1 < 0))
                  (byB (!decide (c72 < 0))
                      (some (((c71, c72, t58, ()), ()), ()))
                      (some (((0, -1, -1, ()), ()), ())))
                  (byB (!decide (e79.2.1 < c66))
                      (byB (!decide (c72 < 0))
                          (some (((c71, c72, t58, ()), ()), ()))
                          (some (((0, -1, -1, ()), ()), ())))
                      (byB (decide (e79.2.2 < 1))
                          (byB (!decide (c72 < 0))
                              (some (((c71, c72, t58, ()), ()), ()))
                              (some (((0, -1, -1, ()), ()), ())))
                          (byB (!decide (e79.2.2 ≤ (IntKind.wrap .i64 (c76 - e79.1))))
                              (byB (!decide (c72 < 0))
                                  (some (((c71, c72, t58, ()), ()), ()))
                                  (some (((0, -1, -1, ()), ()), ())))
                              (again12 (((), (), (), (), IntKind.wrap .i64 (e79.1 + e79.2.2), t42, t43, t44, (), t45, (), t46, t47, t48, (), t49, (), t50, t51, t52, (), t53, t54, t55, t56, t57, IntKind.wrap .i64 (t58 + 1), ()), (c59, c60, c61, c62, c63, c64, c65, c66, c67, ()), (c68, c69, c70, ()), (c71, c72, c73, ()), (c74, c75, c76, c77, ()), ())))))))
        else none)
      (again5 (((), (), (), t42, t43, IntKind.wrap .i64 (t44 + 1), ()), (c59, c60, c61, c62, c63, c64, c65, c66, c67, ()), (c68, c69, c70, ()), (c71, -1, c73, ()), ()))
def Check_8_L5 (N : Nat) (again5 : ((Unit × (Unit × (Unit × (List (Int × (Int × (Int × (List (Int × (Int × Int)))))) × (Int × (Int × Unit)))))) × ((Int × (Int × (Int × (Int × (Int × (Int × (Int × (Int × (List (Int × (Int × (Int × (List (Int × (Int × Int)))))) × Unit))))))))) × ((Int × (Int × (Int × Unit))) × ((Int × (Int × (Int × Unit))) × Unit)))) → Option (((Int × (Int × (Int × Unit))) × Unit) × Unit)) (x : ((Unit × (Unit × (Unit × (List (Int × (Int × (Int × (List (Int × (Int × Int)))))) × (Int × (Int × Unit)))))) × ((Int × (Int × (Int × (Int × (Int × (Int × (Int × (Int × (List (Int × (Int × (Int × (List (Int × (Int × Int)))))) × Unit))))))))) × ((Int × (Int × (Int × Unit))) × ((Int × (Int × (Int × Unit))) × Unit))))) : Option (((Int × (Int × (Int × Unit))) × Unit) × Unit) := match x with
  | ((_, _, _, t12, t13, t14, ()), (c15, c16, c17, c18, c19, c20, c21, c22, c23, ()), (c24, c25, c26, ()), (c27, c28, c29, ()), ()) =>
    byB (decide (t14 < t13))
      (if (0 ≤ t14) ∧ (t14 < (t12.length : Int)) then
        let e31 := t12.getD t14.toNat (0, 0, 0, []);
        (between_13 N ((e31.1, 1, 1099511627776, ()), ())).bind fun y32 =>
        byB (!y32.1.1)
          (some (((c27, t14, -1, ()), ()), ()))
          ((between_13 N ((e31.2.1, 1, e31.1, ()), ())).bind fun y34 =>
            byB (!y34.1.1)
              (some (((c27, t14, -1, ()), ()), ()))
              ((between_13 N ((e31.2.2.1, 1, e31.2.1, ()), ())).bind fun y36 =>
                byB (!y36.1.1)
                  (some (((c27, t14, -1, ()), ()), ()))
                  (let t38 := (e31.2.2.2.length : Int);
                    let t39 := !decide (t38 ≤ 4);
                    byB t39
                      (some (((c27, t14, -1, ()), ()), ()))
                      (loopN N (Check_8_L12 N again5) (((), (), (), (), 0, t12, t13, t14, (), e31.2.1, (), e31.1, y34.1.1, !y34.1.1, (), e31.2.2.1, (), e31.2.1, y36.1.1, !y36.1.1, (), e31.2.2.2, t38, t39, e31.2.2.2, (e31.2.2.2.length : Int), 0, ()), (c15, c16, c17, c18, c19, c20, c21, c22, c23, ()), (c24, c25, c26, ()), (c27, t14, -1, ()), (e31.1, e31.2.1, e31.2.2.1, e31.2.2.2, ()), ())))))
        else none)
      (byB (!decide (c28 < 0))
          (some (((c27, c28, c29, ()), ()), ()))
          (some (((0, -1, -1, ()), ()), ())))
def Check_8 (N : Nat) (x : (((Int × (Int × (Int × (Int × (Int × (Int × (Int × (Int × (List (Int × (Int × (Int × (List (Int × (Int × Int)))))) × Unit))))))))) × Unit) × Unit)) : Option (((Int × (Int × (Int × Unit))) × Unit) × Unit) := match x with
  | (((s0, s1, s2, s3, s4, s5, s6, s7, s8, ()), ()), ()) =>
    (whole_12 N (((s0, s1, s2, s3, s4, s5, s6, s7, s8, ()), ()), ())).bind fun y9 =>
    byB (!y9.1.1)
      (some (((10, -1, -1, ()), ()), ()))
      (loopN N (Check_8_L5 N) (((), (), (), s8, (s8.length : Int), 0, ()), (s0, s1, s2, s3, s4, s5, s6, s7, s8, ()), (0, 0, 0, ()), (10, -1, -1, ()), ()))
theorem eq_Check_8 (N : Nat) (x : (ap_Check_8).den) : funX Try.prog (fs3 N) N 8 lo_Check_8 jo_Check_8 Try.f8 ap_Check_8 rp_Check_8 x = Check_8 N x := by kernel_rfl
noncomputable def sp_Check_8 (N : Nat) : FSpec := specOf ap_Check_8 rp_Check_8 true (Check_8 N)
theorem ok_Check_8 (N : Nat) : FSound Try.prog 8 (sp_Check_8 N) := funX_sound (N := N) (loops := lo_Check_8) (joins := jo_Check_8) (fsok3 N) Try.func8 (by kernel_rfl) (by kernel_rfl) fun x _ h => (eq_Check_8 N x).trans h
noncomputable def fs4 (N : Nat) : FuncId → List V1 → List Blk → Option FSpec := fun g xs H => if g = 8 then some (sp_Check_8 N) else fs3 N g xs H
theorem fsok4 (N : Nat) : ∀ g xs H sp, fs4 N g xs H = some sp → FSound Try.prog g sp := fun g xs H sp h => by
  unfold fs4 at h
  by_cases e : g = 8
  · rw [if_pos e] at h; subst e; cases h; exact ok_Check_8 N
  · rw [if_neg e] at h; exact fsok3 N g xs H sp h
/-! Right_10 -/
abbrev ap_Right_10 : Pat := ⟨[.agg [.int .i64, .int .i64, .int .i64, .int .i64, .int .i64, .int .i64, .int .i64, .int .i64, .ro (.pair (.int .i64) (.pair (.int .i64) (.pair (.int .i64) (.ro (.pair (.int .i64) (.pair (.int .i64) (.int .i64)))))))]], []⟩
abbrev rp_Right_10 : List Pat := [⟨[.one (.bool)], []⟩]
def lo_Right_10 : List LSpec := []
def jo_Right_10 : List LSpec := []
def Right_10 (N : Nat) (x : (((Int × (Int × (Int × (Int × (Int × (Int × (Int × (Int × (List (Int × (Int × (Int × (List (Int × (Int × Int)))))) × Unit))))))))) × Unit) × Unit)) : Option ((Bool × Unit) × Unit) := match x with
  | (((s0, s1, s2, s3, s4, s5, s6, s7, s8, ()), ()), ()) =>
    (Check_8 N (((s0, s1, s2, s3, s4, s5, s6, s7, s8, ()), ()), ())).bind fun y9 =>
    some ((y9.1.1.1 == 0, ()), ())
theorem eq_Right_10 (N : Nat) (x : (ap_Right_10).den) : funX Try.prog (fs4 N) N 10 lo_Right_10 jo_Right_10 Try.f10 ap_Right_10 rp_Right_10 x = Right_10 N x := by kernel_rfl
noncomputable def sp_Right_10 (N : Nat) : FSpec := specOf ap_Right_10 rp_Right_10 true (Right_10 N)
theorem ok_Right_10 (N : Nat) : FSound Try.prog 10 (sp_Right_10 N) := funX_sound (N := N) (loops := lo_Right_10) (joins := jo_Right_10) (fsok4 N) Try.func10 (by kernel_rfl) (by kernel_rfl) fun x _ h => (eq_Right_10 N x).trans h
noncomputable def fs5 (N : Nat) : FuncId → List V1 → List Blk → Option FSpec := fun g xs H => if g = 10 then some (sp_Right_10 N) else fs4 N g xs H
theorem fsok5 (N : Nat) : ∀ g xs H sp, fs5 N g xs H = some sp → FSound Try.prog g sp := fun g xs H sp h => by
  unfold fs5 at h
  by_cases e : g = 10
  · rw [if_pos e] at h; subst e; cases h; exact ok_Right_10 N
  · rw [if_neg e] at h; exact fsok4 N g xs H sp h
/-! examples_7 -/
abbrev ap_examples_7 : Pat := ⟨[], []⟩
abbrev rp_examples_7 : List Pat := [⟨[.one (.bool)], []⟩]
def lo_examples_7 : List LSpec := []
def jo_examples_7 : List LSpec := []
def examples_7 (N : Nat) (x : (Unit × Unit)) : Option ((Bool × Unit) × Unit) := if 300 ≤ N then some ((true, ()), ()) else none
theorem eq_examples_7 (k : Nat) : funX Try.prog (fs5 (k + 300)) (k + 300) 7 lo_examples_7 jo_examples_7 Try.f7 ap_examples_7 rp_examples_7 ((), ()) = some ((true, ()), ()) := by kernel_rfl
noncomputable def sp_examples_7 (N : Nat) : FSpec := specOf ap_examples_7 rp_examples_7 true (examples_7 N)
theorem ok_examples_7 (N : Nat) : FSound Try.prog 7 (sp_examples_7 N) := funX_sound (N := N) (loops := lo_examples_7) (joins := jo_examples_7) (fsok5 N) Try.func7 (by kernel_rfl) (by kernel_rfl) fun x _ h => by
  unfold examples_7 at h
  split at h
  · rename_i hN
    obtain ⟨k, rfl⟩ : ∃ k, N = k + 300 := ⟨N - 300, by omega⟩
    exact (eq_examples_7 k).trans h
  · cases h
noncomputable def fs6 (N : Nat) : FuncId → List V1 → List Blk → Option FSpec := fun g xs H => if g = 7 then some (sp_examples_7 N) else fs5 N g xs H
theorem fsok6 (N : Nat) : ∀ g xs H sp, fs6 N g xs H = some sp → FSound Try.prog g sp := fun g xs H sp h => by
  unfold fs6 at h
  by_cases e : g = 7
  · rw [if_pos e] at h; subst e; cases h; exact ok_examples_7 N
  · rw [if_neg e] at h; exact fsok5 N g xs H sp h
/-! ValidOrder_6 -/
abbrev ap_ValidOrder_6 : Pat := ⟨[.agg [.int .i64, .int .i64, .int .i64, .int .i64, .int .i64, .int .i64, .int .i64, .int .i64, .ro (.pair (.int .i64) (.pair (.int .i64) (.pair (.int .i64) (.ro (.pair (.int .i64) (.pair (.int .i64) (.int .i64)))))))]], []⟩
abbrev rp_ValidOrder_6 : List Pat := [⟨[.one (.bool)], []⟩]
def lo_ValidOrder_6 : List LSpec := [⟨4, [1, 3, 4, 5], ⟨[.one (.ptr 0 0), .one (.bool), .one (.full 1), .one (.int .i64)], [.var 24 [.int .i64, .int .i64, .int .i64, .int .i64, .int .i64, .int .i64, .int .i64, .int .i64, .ro (.pair (.int .i64) (.pair (.int .i64) (.pair (.int .i64) (.ro (.pair (.int .i64) (.pair (.int .i64) (.int .i64)))))))], .row 35 (.pair (.int .i64) (.pair (.int .i64) (.pair (.int .i64) (.ro (.pair (.int .i64) (.pair (.int .i64) (.int .i64)))))))]⟩⟩]
def jo_ValidOrder_6 : List LSpec := [⟨1000000010, [], ⟨[], []⟩⟩]
def ValidOrder_6_L4 (N : Nat) (again4 : ((Unit × (Bool × (Unit × (Int × Unit)))) × ((Int × (Int × (Int × (Int × (Int × (Int × (Int × (Int × (List (Int × (Int × (Int × (List (Int × (Int × Int)))))) × Unit))))))))) × (List (Int × (Int × (Int × (List (Int × (Int × Int)))))) × Unit))) → Option ((Bool × Unit) × Unit)) (x : ((Unit × (Bool × (Unit × (Int × Unit)))) × ((Int × (Int × (Int × (Int × (Int × (Int × (Int × (Int × (List (Int × (Int × (Int × (List (Int × (Int × Int)))))) × Unit))))))))) × (List (Int × (Int × (Int × (List (Int × (Int × Int)))))) × Unit)))) : Option ((Bool × Unit) × Unit) := match x with
  | ((_, head12, _, i13, ()), (c14, c15, c16, c17, c18, c19, c20, c21, c22, ()), l23, ()) =>
    byB (!decide (i13 < 0))
      (if (0 ≤ i13) ∧ (i13 < (c22.length : Int)) then
        (if (l23.length + 1) * 48 ≤ 140737488355328 then
        again4 (((), head12, (), IntKind.wrap .i64 (i13 - 1), ()), (c14, c15, c16, c17, c18, c19, c20, c21, c22, ()), l23 ++ [c22.getD i13.toNat (0, 0, 0, [])], ())
        else none)
        else none)
      (if (l23.length + c22.length) * 48 ≤ 140737488355328 then
        let t28 := l23 ++ c22;
        (Right_10 N (((c14, c15, c16, c17, c18, c19, c20, c21, c22, ()), ()), ())).bind fun y29 =>
        byB head12
          ((Right_10 N (((c14, c15, c16, c17, c18, c19, c20, c21, l23, ()), ()), ())).bind fun y30 =>
            byB (y30.1.1 == y29.1.1)
              (byB (!decide ((t28.length : Int) ≤ 24))
                  (some ((true, ()), ()))
                  ((Right_10 N (((c14, c15, c16, c17, c18, c19, c20, c21, t28, ()), ()), ())).bind fun y34 =>
                    some ((y34.1.1 == y29.1.1, ()), ())))
              (some ((false, ()), ())))
          (some ((false, ()), ()))
        else none)
def ValidOrder_6 (N : Nat) (x : (((Int × (Int × (Int × (Int × (Int × (Int × (Int × (Int × (List (Int × (Int × (Int × (List (Int × (Int × Int)))))) × Unit))))))))) × Unit) × Unit)) : Option ((Bool × Unit) × Unit) := match x with
  | (((s0, s1, s2, s3, s4, s5, s6, s7, s8, ()), ()), ()) =>
    (examples_7 N ((), ())).bind fun y9 =>
    loopN N (ValidOrder_6_L4 N) (((), y9.1.1, (), IntKind.wrap .i64 ((s8.length : Int) - 1), ()), (s0, s1, s2, s3, s4, s5, s6, s7, s8, ()), [], ())
theorem eq_ValidOrder_6 (N : Nat) (x : (ap_ValidOrder_6).den) : funX Try.prog (fs6 N) N 6 lo_ValidOrder_6 jo_ValidOrder_6 Try.f6 ap_ValidOrder_6 rp_ValidOrder_6 x = ValidOrder_6 N x := by kernel_rfl
noncomputable def sp_ValidOrder_6 (N : Nat) : FSpec := specOf ap_ValidOrder_6 rp_ValidOrder_6 true (ValidOrder_6 N)
theorem ok_ValidOrder_6 (N : Nat) : FSound Try.prog 6 (sp_ValidOrder_6 N) := funX_sound (N := N) (loops := lo_ValidOrder_6) (joins := jo_ValidOrder_6) (fsok6 N) Try.func6 (by kernel_rfl) (by kernel_rfl) fun x _ h => (eq_ValidOrder_6 N x).trans h
noncomputable def fs7 (N : Nat) : FuncId → List V1 → List Blk → Option FSpec := fun g xs H => if g = 6 then some (sp_ValidOrder_6 N) else fs6 N g xs H
theorem fsok7 (N : Nat) : ∀ g xs H sp, fs7 N g xs H = some sp → FSound Try.prog g sp := fun g xs H sp h => by
  unfold fs7 at h
  by_cases e : g = 6
  · rw [if_pos e] at h; subst e; cases h; exact ok_ValidOrder_6 N
  · rw [if_neg e] at h; exact fsok6 N g xs H sp h
end Go.Proofs.YtflnooigdbhpdaaX
