/- Functions of the program as plain Lean, each with its equation (printed by a program of this seat's own). Conditions: none. -/
import Derived.Test.YtabdnglgdbjbiaaX1
namespace Go.Proofs.YtabdnglgdbjbiaaX
open Go Go.Proofs.YtabdnglgdbjbiaaM
set_option maxRecDepth 100000
set_option linter.unusedVariables false
/-! comes_19 -/
abbrev ap_comes_19 : Pat := ⟨[.one (.ro (.pair (.int .i64) (.pair (.int .i64) (.pair (.int .i64) .bool)))), .one (.int .i64), .one (.int .i64), .one (.int .i64)], []⟩
abbrev rp_comes_19 : List Pat := [⟨[.one (.int .i64)], []⟩]
def lo_comes_19 : List LSpec := [⟨3, [0, 2, 3, 9, 10], ⟨[.one (.ro (.pair (.int .i64) (.pair (.int .i64) (.pair (.int .i64) .bool)))), .one (.int .i64), .one (.int .i64), .one (.int .i64), .one (.int .i64)], []⟩⟩]
def jo_comes_19 : List LSpec := []
def comes_19_L3 (N : Nat) (again3 : ((List (Int × (Int × (Int × Bool))) × (Int × (Int × (Int × (Int × Unit))))) × Unit) → Option ((Int × Unit) × Unit)) (x : ((List (Int × (Int × (Int × Bool))) × (Int × (Int × (Int × (Int × Unit))))) × Unit)) : Option ((Int × Unit) × Unit) := match x with
  | ((l4, release5, n6, sum7, i8, ()), ()) =>
    byB (decide (i8 < (l4.length : Int)))
      (if (0 ≤ i8) ∧ (i8 < (l4.length : Int)) then
        byB (decide ((l4.getD i8.toNat (0, 0, 0, false)).2.1 < 1))
          (some ((IntKind.wrap .i64 (n6 + 1), ()), ()))
          (if (0 ≤ i8) ∧ (i8 < (l4.length : Int)) then
            let e15 := l4.getD i8.toNat (0, 0, 0, false);
            if e15.2.1 = 0 then
              none
            else
            let t17 := IntKind.wrap .i64 ((IntKind.wrap .i64 (Int.tdiv (IntKind.wrap .i64 (n6 - 1)) e15.2.1)) + 1);
            if (0 ≤ i8) ∧ (i8 < (l4.length : Int)) then
            again3 ((l4, release5, n6, IntKind.wrap .i64 ((IntKind.wrap .i64 (sum7 + (IntKind.wrap .i64 ((IntKind.wrap .i64 (t17 + 1)) * (l4.getD i8.toNat (0, 0, 0, false)).1)))) + (IntKind.wrap .i64 ((IntKind.wrap .i64 (t17 + 2)) * release5))), IntKind.wrap .i64 (i8 + 1), ()), ())
            else none
            else none)
        else none)
      (some ((sum7, ()), ()))
def comes_19 (N : Nat) (x : ((List (Int × (Int × (Int × Bool))) × (Int × (Int × (Int × Unit)))) × Unit)) : Option ((Int × Unit) × Unit) := match x with
  | ((l0, block1, release2, n3, ()), ()) =>
    loopN N (comes_19_L3 N) ((l0, release2, n3, block1, 0, ()), ())
theorem eq_comes_19 (N : Nat) (x : (ap_comes_19).den) : funX Try.prog (fs39 N) N lo_comes_19 jo_comes_19 Try.f19 ap_comes_19 rp_comes_19 x = comes_19 N x := by kernel_rfl
noncomputable def sp_comes_19 (N : Nat) : FSpec := specOf ap_comes_19 rp_comes_19 true (comes_19 N)
theorem ok_comes_19 (N : Nat) : FSound Try.prog 19 (sp_comes_19 N) := funX_sound (N := N) (loops := lo_comes_19) (joins := jo_comes_19) (fsok39 N) Try.func19 (by kernel_rfl) (by kernel_rfl) fun x _ h => (eq_comes_19 N x).trans h
noncomputable def fs40 (N : Nat) : FuncId → List V1 → List Blk → Option FSpec := fun g xs H => if g = 19 then some (sp_comes_19 N) else fs39 N g xs H
theorem fsok40 (N : Nat) : ∀ g xs H sp, fs40 N g xs H = some sp → FSound Try.prog g sp := fun g xs H sp h => by
  unfold fs40 at h
  by_cases e : g = 19
  · rw [if_pos e] at h; subst e; cases h; exact ok_comes_19 N
  · rw [if_neg e] at h; exact fsok39 N g xs H sp h
/-! DemandBusy_8 -/
abbrev ap_DemandBusy_8 : Pat := ⟨[.one (.ro (.pair (.int .i64) (.pair (.int .i64) (.pair (.int .i64) .bool)))), .one (.int .i64), .one (.int .i64)], []⟩
abbrev rp_DemandBusy_8 : List Pat := [⟨[.one (.bool)], []⟩]
def lo_DemandBusy_8 : List LSpec := []
def jo_DemandBusy_8 : List LSpec := []
def DemandBusy_8 (N : Nat) (x : ((List (Int × (Int × (Int × Bool))) × (Int × (Int × Unit))) × Unit)) : Option ((Bool × Unit) × Unit) := match x with
  | ((l0, block1, release2, ()), ()) =>
    (examples_10 N ((), ())).bind fun y3 =>
    (Busy_14 N ((l0, block1, release2, ()), ())).bind fun y4 =>
    byB (y4.1.2.1 != 0)
      (byB y3.1.1
          (some ((y4.1.1 == 0, ()), ()))
          (some ((false, ()), ())))
      (byB (decide (y4.1.1 < 1))
          (some ((false, ()), ()))
          ((comes_19 N ((l0, block1, release2, y4.1.1, ()), ())).bind fun y8 =>
            byB (decide (y8.1.1 > y4.1.1))
              (some ((false, ()), ()))
              (byB y3.1.1
                  (byB (y4.1.1 == 1)
                      (some ((true, ()), ()))
                      ((comes_19 N ((l0, block1, release2, IntKind.wrap .i64 (y4.1.1 - 1), ()), ())).bind fun y12 =>
                        some ((decide (y12.1.1 > (IntKind.wrap .i64 (y4.1.1 - 1))), ()), ())))
                  (some ((false, ()), ())))))
theorem eq_DemandBusy_8 (N : Nat) (x : (ap_DemandBusy_8).den) : funX Try.prog (fs40 N) N lo_DemandBusy_8 jo_DemandBusy_8 Try.f8 ap_DemandBusy_8 rp_DemandBusy_8 x = DemandBusy_8 N x := by kernel_rfl
noncomputable def sp_DemandBusy_8 (N : Nat) : FSpec := specOf ap_DemandBusy_8 rp_DemandBusy_8 true (DemandBusy_8 N)
theorem ok_DemandBusy_8 (N : Nat) : FSound Try.prog 8 (sp_DemandBusy_8 N) := funX_sound (N := N) (loops := lo_DemandBusy_8) (joins := jo_DemandBusy_8) (fsok40 N) Try.func8 (by kernel_rfl) (by kernel_rfl) fun x _ h => (eq_DemandBusy_8 N x).trans h
noncomputable def fs41 (N : Nat) : FuncId → List V1 → List Blk → Option FSpec := fun g xs H => if g = 8 then some (sp_DemandBusy_8 N) else fs40 N g xs H
theorem fsok41 (N : Nat) : ∀ g xs H sp, fs41 N g xs H = some sp → FSound Try.prog g sp := fun g xs H sp h => by
  unfold fs41 at h
  by_cases e : g = 8
  · rw [if_pos e] at h; subst e; cases h; exact ok_DemandBusy_8 N
  · rw [if_neg e] at h; exact fsok40 N g xs H sp h
/-! DemandTops_9 -/
abbrev ap_DemandTops_9 : Pat := ⟨[.one (.ro (.pair (.int .i64) (.pair (.int .i64) (.pair (.int .i64) .bool)))), .one (.int .i64), .one (.int .i64), .one (.int .i64)], []⟩
abbrev rp_DemandTops_9 : List Pat := [⟨[.one (.bool)], []⟩]
def lo_DemandTops_9 : List LSpec := [⟨4, [0, 1, 2, 3, 9, 10, 11], ⟨[.one (.ro (.pair (.int .i64) (.pair (.int .i64) (.pair (.int .i64) .bool)))), .one (.int .i64), .one (.int .i64), .one (.int .i64), .one (.bool), .one (.full 0), .one (.int .i64)], [.row 38 (.pair (.int .i64) (.pair (.int .i64) (.pair (.int .i64) .bool)))]⟩⟩]
def jo_DemandTops_9 : List LSpec := []
def DemandTops_9_L4 (N : Nat) (again4 : ((List (Int × (Int × (Int × Bool))) × (Int × (Int × (Int × (Bool × (Unit × (Int × Unit))))))) × (List (Int × (Int × (Int × Bool))) × Unit)) → Option ((Bool × Unit) × Unit)) (x : ((List (Int × (Int × (Int × Bool))) × (Int × (Int × (Int × (Bool × (Unit × (Int × Unit))))))) × (List (Int × (Int × (Int × Bool))) × Unit))) : Option ((Bool × Unit) × Unit) := match x with
  | ((l5, block6, release7, t8, head9, _, i10, ()), l11, ()) =>
    byB (decide (i10 < (l11.length : Int)))
      (if (0 ≤ i10) ∧ (i10 < (l11.length : Int)) then
        again4 ((l5, block6, release7, t8, head9, (), IntKind.wrap .i64 (i10 + 1), ()), l11.set i10.toNat ((l11.getD i10.toNat (0, 0, 0, false)).1, (l11.getD i10.toNat (0, 0, 0, false)).2.1, (l11.getD i10.toNat (0, 0, 0, false)).2.2.1, true), ())
        else none)
      ((Test_16 N ((l11, block6, release7, ()), ())).bind fun y16 =>
        (Ask_11 N ((l5, block6, release7, t8, ()), ())).bind fun y17 =>
        (Ask_11 N ((l11, block6, release7, t8, ()), ())).bind fun y18 =>
        byB (y16.1.1 == 1)
          (byB head9
              (byB (y17.1.2.1 == 1)
                  (some ((y18.1.2.1 == 1, ()), ()))
                  (some ((false, ()), ())))
              (some ((false, ()), ())))
          (byB head9
              (byB (y16.1.1 == 0)
                  (byB (y17.1.2.1 != 0)
                      (some ((true, ()), ()))
                      (byB (y18.1.2.1 != 0)
                          (some ((true, ()), ()))
                          (some ((decide (y18.1.1 ≥ y17.1.1), ()), ()))))
                  (some ((false, ()), ())))
              (some ((false, ()), ()))))
def DemandTops_9 (N : Nat) (x : ((List (Int × (Int × (Int × Bool))) × (Int × (Int × (Int × Unit)))) × Unit)) : Option ((Bool × Unit) × Unit) := match x with
  | ((l0, block1, release2, t3, ()), ()) =>
    (examples_10 N ((), ())).bind fun y4 =>
    if (0 + l0.length) * 32 ≤ 140737488355328 then
    loopN N (DemandTops_9_L4 N) ((l0, block1, release2, t3, y4.1.1, (), 0, ()), l0, ())
    else none
theorem eq_DemandTops_9 (N : Nat) (x : (ap_DemandTops_9).den) : funX Try.prog (fs41 N) N lo_DemandTops_9 jo_DemandTops_9 Try.f9 ap_DemandTops_9 rp_DemandTops_9 x = DemandTops_9 N x := by kernel_rfl
noncomputable def sp_DemandTops_9 (N : Nat) : FSpec := specOf ap_DemandTops_9 rp_DemandTops_9 true (DemandTops_9 N)
theorem ok_DemandTops_9 (N : Nat) : FSound Try.prog 9 (sp_DemandTops_9 N) := funX_sound (N := N) (loops := lo_DemandTops_9) (joins := jo_DemandTops_9) (fsok41 N) Try.func9 (by kernel_rfl) (by kernel_rfl) fun x _ h => (eq_DemandTops_9 N x).trans h
noncomputable def fs42 (N : Nat) : FuncId → List V1 → List Blk → Option FSpec := fun g xs H => if g = 9 then some (sp_DemandTops_9 N) else fs41 N g xs H
theorem fsok42 (N : Nat) : ∀ g xs H sp, fs42 N g xs H = some sp → FSound Try.prog g sp := fun g xs H sp h => by
  unfold fs42 at h
  by_cases e : g = 9
  · rw [if_pos e] at h; subst e; cases h; exact ok_DemandTops_9 N
  · rw [if_neg e] at h; exact fsok41 N g xs H sp h
end Go.Proofs.YtabdnglgdbjbiaaX
