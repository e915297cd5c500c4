/- Functions of the program as plain Lean, each with its equation (printed by a program of this seat's own). Conditions: none. -/
import Derived.Test.YtcaapoidmfkldaaM6
import Derived.Test.YtcaapoidmfkldaaProg
import Derived.KernelRfl
namespace Go.Proofs.YtcaapoidmfkldaaX
open Go Go.Proofs.YtcaapoidmfkldaaM
set_option maxRecDepth 100000
set_option linter.unusedVariables false
noncomputable def fs0 (_ : Nat) : FuncId → List V1 → List Blk → Option FSpec := fun _ _ _ => none
theorem fsok0 (N : Nat) : ∀ g xs H sp, fs0 N g xs H = some sp → FSound Try.prog g sp := fun _ _ _ _ h => by cases h
/-! New_8 -/
abbrev ap_New_8 : Pat := ⟨[.one (.int .i64)], []⟩
abbrev rp_New_8 : List Pat := [⟨[.one (.nilp), .one (.int .i64)], []⟩, ⟨[.one (.ptr 0 0), .one (.int .i64)], [.var 52 [.int .i64, .int .i64, .lnk 1], .chn 57 (.pair (.int .i64) (.int .i64))]⟩]
def lo_New_8 : List LSpec := []
def jo_New_8 : List LSpec := []
def New_8 (N : Nat) (x : ((Int × Unit) × Unit)) : Option (((Unit × (Int × Unit)) × Unit) ⊕ ((Unit × (Int × Unit)) × ((Int × (Int × (Unit × Unit))) × (List (Int × Int) × Unit)))) := match x with
  | ((room0, ()), ()) =>
    byB (decide (room0 < 0))
      (some (Sum.inl (((), 1, ()), ())))
      (byB (!decide (room0 ≤ 256))
          (some (Sum.inl (((), 1, ()), ())))
          (some (Sum.inr (((), 0, ()), (room0, 0, (), ()), [], ()))))
theorem eq_New_8 (N : Nat) (x : (ap_New_8).den) : funX Try.prog (fs0 N) N 8 lo_New_8 jo_New_8 Try.f8 ap_New_8 rp_New_8 x = New_8 N x := by kernel_rfl
noncomputable def sp_New_8 (N : Nat) : FSpec := specOf ap_New_8 rp_New_8 true (New_8 N)
theorem ok_New_8 (N : Nat) : FSound Try.prog 8 (sp_New_8 N) := funX_sound (N := N) (loops := lo_New_8) (joins := jo_New_8) (fsok0 N) Try.func8 (by kernel_rfl) (by kernel_rfl) fun x _ h => (eq_New_8 N x).trans h
noncomputable def fs1 (N : Nat) : FuncId → List V1 → List Blk → Option FSpec := fun g xs H => if g = 8 then some (sp_New_8 N) else fs0 N g xs H
theorem fsok1 (N : Nat) : ∀ g xs H sp, fs1 N g xs H = some sp → FSound Try.prog g sp := fun g xs H sp h => by
  unfold fs1 at h
  by_cases e : g = 8
  · rw [if_pos e] at h; subst e; cases h; exact ok_New_8 N
  · rw [if_neg e] at h; exact fsok0 N g xs H sp h
/-! find_23 -/
abbrev ap_find_23 : Pat := ⟨[.one (.ptr 0 0), .one (.int .i64)], [.var 52 [.int .i64, .int .i64, .lnk 1], .chn 57 (.pair (.int .i64) (.int .i64))]⟩
abbrev rp_find_23 : List Pat := [⟨[.one (.hole 0 2 1), .one (.int .i64)], [.var 52 [.int .i64, .int .i64, .lnk 1], .chn 57 (.pair (.int .i64) (.int .i64))]⟩, ⟨[.one (.nilp), .one (.int .i64)], [.var 52 [.int .i64, .int .i64, .lnk 1], .chn 57 (.pair (.int .i64) (.int .i64))]⟩]
def lo_find_23 : List LSpec := [⟨3, [1, 6, 7], ⟨[.one (.int .i64), .one (.int .i64), .one (.hole 0 2 1)], [.var 52 [.int .i64, .int .i64, .lnk 1], .chn 57 (.pair (.int .i64) (.int .i64))]⟩⟩]
def jo_find_23 : List LSpec := []
def find_23_L3 (N : Nat) (again3 : ((Int × (Int × (Nat × Unit))) × ((Int × (Int × (Unit × Unit))) × (List (Int × Int) × Unit))) → Option (((Nat × (Int × Unit)) × ((Int × (Int × (Unit × Unit))) × (List (Int × Int) × Unit))) ⊕ ((Unit × (Int × Unit)) × ((Int × (Int × (Unit × Unit))) × (List (Int × Int) × Unit))))) (x : ((Int × (Int × (Nat × Unit))) × ((Int × (Int × (Unit × Unit))) × (List (Int × Int) × Unit)))) : Option (((Nat × (Int × Unit)) × ((Int × (Int × (Unit × Unit))) × (List (Int × Int) × Unit))) ⊕ ((Unit × (Int × Unit)) × ((Int × (Int × (Unit × Unit))) × (List (Int × Int) × Unit)))) := match x with
  | ((id4, n5, p6, ()), (c7, c8, _, ()), l9, ()) =>
    byB (decide (p6 < l9.length))
      (if p6 < l9.length then
        let t12 := IntKind.wrap .i64 (n5 + (l9.getD p6 (0, 0)).2);
        if p6 < l9.length then
        byB ((l9.getD p6 (0, 0)).1 == id4)
          (some (Sum.inl ((p6, t12, ()), (c7, c8, (), ()), l9, ())))
          (if p6 < l9.length then
            again3 ((id4, t12, p6 + 1, ()), (c7, c8, (), ()), l9, ())
            else none)
        else none
        else none)
      (some (Sum.inr (((), 0, ()), (c7, c8, (), ()), l9, ())))
def find_23 (N : Nat) (x : ((Unit × (Int × Unit)) × ((Int × (Int × (Unit × Unit))) × (List (Int × Int) × Unit)))) : Option (((Nat × (Int × Unit)) × ((Int × (Int × (Unit × Unit))) × (List (Int × Int) × Unit))) ⊕ ((Unit × (Int × Unit)) × ((Int × (Int × (Unit × Unit))) × (List (Int × Int) × Unit)))) := match x with
  | ((_, id0, ()), (c1, c2, _, ()), l3, ()) =>
    loopN N (find_23_L3 N) ((id0, 0, 0, ()), (c1, c2, (), ()), l3, ())
theorem eq_find_23 (N : Nat) (x : (ap_find_23).den) : funX Try.prog (fs1 N) N 23 lo_find_23 jo_find_23 Try.f23 ap_find_23 rp_find_23 x = find_23 N x := by kernel_rfl
noncomputable def sp_find_23 (N : Nat) : FSpec := specOf ap_find_23 rp_find_23 true (find_23 N)
theorem ok_find_23 (N : Nat) : FSound Try.prog 23 (sp_find_23 N) := funX_sound (N := N) (loops := lo_find_23) (joins := jo_find_23) (fsok1 N) Try.func23 (by kernel_rfl) (by kernel_rfl) fun x _ h => (eq_find_23 N x).trans h
noncomputable def fs2 (N : Nat) : FuncId → List V1 → List Blk → Option FSpec := fun g xs H => if g = 23 then some (sp_find_23 N) else fs1 N g xs H
theorem fsok2 (N : Nat) : ∀ g xs H sp, fs2 N g xs H = some sp → FSound Try.prog g sp := fun g xs H sp h => by
  unfold fs2 at h
  by_cases e : g = 23
  · rw [if_pos e] at h; subst e; cases h; exact ok_find_23 N
  · rw [if_neg e] at h; exact fsok1 N g xs H sp h
/-! Add_10 -/
abbrev ap_Add_10 : Pat := ⟨[.one (.ptr 0 0), .one (.int .i64), .one (.int .i64)], [.var 52 [.int .i64, .int .i64, .lnk 1], .chn 57 (.pair (.int .i64) (.int .i64))]⟩
abbrev rp_Add_10 : List Pat := [⟨[.one (.int .i64)], [.var 52 [.int .i64, .int .i64, .lnk 2], .dead, .chn 57 (.pair (.int .i64) (.int .i64))]⟩]
def lo_Add_10 : List LSpec := [⟨9, [0, 1, 2, 7], ⟨[.one (.ptr 0 0), .one (.int .i64), .one (.int .i64), .one (.hole 0 2 1)], [.var 52 [.int .i64, .int .i64, .lnk 1], .chn 57 (.pair (.int .i64) (.int .i64))]⟩⟩]
def jo_Add_10 : List LSpec := []
def Add_10_L9 (N : Nat) (again9 : ((Unit × (Int × (Int × (Nat × Unit)))) × ((Int × (Int × (Unit × Unit))) × (List (Int × Int) × Unit))) → Option ((Int × Unit) × ((Int × (Int × (Unit × Unit))) × (Unit × (List (Int × Int) × Unit))))) (x : ((Unit × (Int × (Int × (Nat × Unit)))) × ((Int × (Int × (Unit × Unit))) × (List (Int × Int) × Unit)))) : Option ((Int × Unit) × ((Int × (Int × (Unit × Unit))) × (Unit × (List (Int × Int) × Unit)))) := match x with
  | ((_, id12, after13, p14, ()), (c15, c16, _, ()), l17, ()) =>
    byB (decide (p14 < l17.length))
      (if p14 < l17.length then
        byB (!decide ((l17.getD p14 (0, 0)).2 ≤ after13))
          (if p14 < l17.length then
            (if p14 < l17.length then
            (if p14 ≤ p14 then
            some ((0, ()), (c15, IntKind.wrap .i64 (c16 + 1), (), ()), (), (l17.set p14 ((l17.getD p14 (0, 0)).1, IntKind.wrap .i64 ((l17.getD p14 (0, 0)).2 - after13))).take p14 ++ (id12, after13) :: (l17.set p14 ((l17.getD p14 (0, 0)).1, IntKind.wrap .i64 ((l17.getD p14 (0, 0)).2 - after13))).drop p14, ())
            else none)
            else none)
            else none)
          (if p14 < l17.length then
            (if p14 < l17.length then
            again9 (((), id12, IntKind.wrap .i64 (after13 - (l17.getD p14 (0, 0)).2), p14 + 1, ()), (c15, c16, (), ()), l17, ())
            else none)
            else none)
        else none)
      (if p14 ≤ p14 then
        some ((0, ()), (c15, IntKind.wrap .i64 (c16 + 1), (), ()), (), l17.take p14 ++ (id12, after13) :: l17.drop p14, ())
        else none)
def Add_10 (N : Nat) (x : ((Unit × (Int × (Int × Unit))) × ((Int × (Int × (Unit × Unit))) × (List (Int × Int) × Unit)))) : Option ((Int × Unit) × ((Int × (Int × (Unit × Unit))) × (Unit × (List (Int × Int) × Unit)))) := match x with
  | ((_, id0, after1, ()), (c2, c3, _, ()), l4, ()) =>
    (find_23 N (((), id0, ()), (c2, c3, (), ()), l4, ())).bind fun y => match y with
    | .inl y5 =>
      byB (decide (after1 < 1))
        (some ((1, ()), (y5.2.1.1, y5.2.1.2.1, (), ()), (), y5.2.2.1, ()))
        (byB (!decide (after1 ≤ 9007199254740991))
            (some ((1, ()), (y5.2.1.1, y5.2.1.2.1, (), ()), (), y5.2.2.1, ()))
            (some ((4, ()), (y5.2.1.1, y5.2.1.2.1, (), ()), (), y5.2.2.1, ())))
    | .inr y8 =>
      byB (decide (after1 < 1))
        (some ((1, ()), (y8.2.1.1, y8.2.1.2.1, (), ()), (), y8.2.2.1, ()))
        (byB (!decide (after1 ≤ 9007199254740991))
            (some ((1, ()), (y8.2.1.1, y8.2.1.2.1, (), ()), (), y8.2.2.1, ()))
            (byB (!decide (y8.2.1.2.1 < y8.2.1.1))
                (some ((3, ()), (y8.2.1.1, y8.2.1.2.1, (), ()), (), y8.2.2.1, ()))
                (loopN N (Add_10_L9 N) (((), id0, after1, 0, ()), (y8.2.1.1, y8.2.1.2.1, (), ()), y8.2.2.1, ()))))
theorem eq_Add_10 (N : Nat) (x : (ap_Add_10).den) : funX Try.prog (fs2 N) N 10 lo_Add_10 jo_Add_10 Try.f10 ap_Add_10 rp_Add_10 x = Add_10 N x := by kernel_rfl
noncomputable def sp_Add_10 (N : Nat) : FSpec := specOf ap_Add_10 rp_Add_10 true (Add_10 N)
theorem ok_Add_10 (N : Nat) : FSound Try.prog 10 (sp_Add_10 N) := funX_sound (N := N) (loops := lo_Add_10) (joins := jo_Add_10) (fsok2 N) Try.func10 (by kernel_rfl) (by kernel_rfl) fun x _ h => (eq_Add_10 N x).trans h
noncomputable def fs3 (N : Nat) : FuncId → List V1 → List Blk → Option FSpec := fun g xs H => if g = 10 then some (sp_Add_10 N) else fs2 N g xs H
theorem fsok3 (N : Nat) : ∀ g xs H sp, fs3 N g xs H = some sp → FSound Try.prog g sp := fun g xs H sp h => by
  unfold fs3 at h
  by_cases e : g = 10
  · rw [if_pos e] at h; subst e; cases h; exact ok_Add_10 N
  · rw [if_neg e] at h; exact fsok2 N g xs H sp h
/-! due_24 -/
abbrev ap_due_24 : Pat := ⟨[.one (.ptr 0 0)], [.var 52 [.int .i64, .int .i64, .lnk 1], .chn 57 (.pair (.int .i64) (.int .i64))]⟩
abbrev rp_due_24 : List Pat := [⟨[.one (.full 3)], [.var 52 [.int .i64, .int .i64, .lnk 2], .dead, .chn 57 (.pair (.int .i64) (.int .i64)), .row 3 (.int .i64)]⟩]
def lo_due_24 : List LSpec := [⟨2, [0, 3], ⟨[.one (.ptr 0 0), .one (.full 3)], [.var 52 [.int .i64, .int .i64, .lnk 2], .dead, .chn 57 (.pair (.int .i64) (.int .i64)), .row 3 (.int .i64)]⟩⟩]
def jo_due_24 : List LSpec := []
def due_24_L2 (N : Nat) (again2 : ((Unit × (Unit × Unit)) × ((Int × (Int × (Unit × Unit))) × (Unit × (List (Int × Int) × (List Int × Unit))))) → Option ((Unit × Unit) × ((Int × (Int × (Unit × Unit))) × (Unit × (List (Int × Int) × (List Int × Unit)))))) (x : ((Unit × (Unit × Unit)) × ((Int × (Int × (Unit × Unit))) × (Unit × (List (Int × Int) × (List Int × Unit)))))) : Option ((Unit × Unit) × ((Int × (Int × (Unit × Unit))) × (Unit × (List (Int × Int) × (List Int × Unit))))) := match x with
  | ((_, _, ()), (c3, c4, _, ()), _, l5, l6, ()) =>
    byB (decide (0 < l5.length))
      (if 0 < l5.length then
        byB ((l5.getD 0 (0, 0)).2 == 0)
          (if 0 < l5.length then
            (if (l6.length + 1) * 8 ≤ 140737488355328 then
            (if 0 < l5.length then
            again2 (((), (), ()), (c3, IntKind.wrap .i64 (c4 - 1), (), ()), (), l5.take 0 ++ l5.drop 1, l6 ++ [(l5.getD 0 (0, 0)).1], ())
            else none)
            else none)
            else none)
          (some (((), ()), (c3, c4, (), ()), (), l5, l6, ()))
        else none)
      (some (((), ()), (c3, c4, (), ()), (), l5, l6, ()))
def due_24 (N : Nat) (x : ((Unit × Unit) × ((Int × (Int × (Unit × Unit))) × (List (Int × Int) × Unit)))) : Option ((Unit × Unit) × ((Int × (Int × (Unit × Unit))) × (Unit × (List (Int × Int) × (List Int × Unit))))) := match x with
  | ((_, ()), (c0, c1, _, ()), l2, ()) =>
    loopN N (due_24_L2 N) (((), (), ()), (c0, c1, (), ()), (), l2, [], ())
theorem eq_due_24 (N : Nat) (x : (ap_due_24).den) : funX Try.prog (fs3 N) N 24 lo_due_24 jo_due_24 Try.f24 ap_due_24 rp_due_24 x = due_24 N x := by kernel_rfl
noncomputable def sp_due_24 (N : Nat) : FSpec := specOf ap_due_24 rp_due_24 true (due_24 N)
theorem ok_due_24 (N : Nat) : FSound Try.prog 24 (sp_due_24 N) := funX_sound (N := N) (loops := lo_due_24) (joins := jo_due_24) (fsok3 N) Try.func24 (by kernel_rfl) (by kernel_rfl) fun x _ h => (eq_due_24 N x).trans h
noncomputable def fs4 (N : Nat) : FuncId → List V1 → List Blk → Option FSpec := fun g xs H => if g = 24 then some (sp_due_24 N) else fs3 N g xs H
theorem fsok4 (N : Nat) : ∀ g xs H sp, fs4 N g xs H = some sp → FSound Try.prog g sp := fun g xs H sp h => by
  unfold fs4 at h
  by_cases e : g = 24
  · rw [if_pos e] at h; subst e; cases h; exact ok_due_24 N
  · rw [if_neg e] at h; exact fsok3 N g xs H sp h
/-! Skip_11 -/
abbrev ap_Skip_11 : Pat := ⟨[.one (.ptr 0 0), .one (.int .i64)], [.var 52 [.int .i64, .int .i64, .lnk 1], .chn 57 (.pair (.int .i64) (.int .i64))]⟩
abbrev rp_Skip_11 : List Pat := [⟨[.one (.full 3), .one (.int .i64)], [.var 52 [.int .i64, .int .i64, .lnk 2], .dead, .chn 57 (.pair (.int .i64) (.int .i64)), .row 3 (.int .i64)]⟩]
def lo_Skip_11 : List LSpec := [⟨4, [0, 1, 6], ⟨[.one (.ptr 0 0), .one (.int .i64), .one (.full 3)], [.var 52 [.int .i64, .int .i64, .lnk 2], .dead, .chn 57 (.pair (.int .i64) (.int .i64)), .row 3 (.int .i64)]⟩⟩]
def jo_Skip_11 : List LSpec := []
def Skip_11_L4 (N : Nat) (again4 : ((Unit × (Int × (Unit × Unit))) × ((Int × (Int × (Unit × Unit))) × (Unit × (List (Int × Int) × (List Int × Unit))))) → Option ((Unit × (Int × Unit)) × ((Int × (Int × (Unit × Unit))) × (Unit × (List (Int × Int) × (List Int × Unit)))))) (x : ((Unit × (Int × (Unit × Unit))) × ((Int × (Int × (Unit × Unit))) × (Unit × (List (Int × Int) × (List Int × Unit)))))) : Option ((Unit × (Int × Unit)) × ((Int × (Int × (Unit × Unit))) × (Unit × (List (Int × Int) × (List Int × Unit))))) := match x with
  | ((_, n5, _, ()), (c6, c7, _, ()), _, l8, l9, ()) =>
    byB (!decide (n5 ≤ 0))
      (byB (decide (0 < l8.length))
          (if 0 < l8.length then
            let t13 := if (l8.getD 0 (0, 0)).2 < n5 then (l8.getD 0 (0, 0)).2 else n5;
            if 0 < l8.length then
            (if 0 < l8.length then
            (due_24 N (((), ()), (c6, c7, (), ()), l8.set 0 ((l8.getD 0 (0, 0)).1, IntKind.wrap .i64 ((l8.getD 0 (0, 0)).2 - t13)), ())).bind fun y18 =>
            if (l9.length + y18.2.2.2.2.1.length) * 8 ≤ 140737488355328 then
            again4 (((), IntKind.wrap .i64 (n5 - t13), (), ()), (y18.2.1.1, y18.2.1.2.1, (), ()), (), y18.2.2.2.1, l9 ++ y18.2.2.2.2.1, ())
            else none
            else none)
            else none
            else none)
          (some (((), 0, ()), (c6, c7, (), ()), (), l8, l9, ())))
      (some (((), 0, ()), (c6, c7, (), ()), (), l8, l9, ()))
def Skip_11 (N : Nat) (x : ((Unit × (Int × Unit)) × ((Int × (Int × (Unit × Unit))) × (List (Int × Int) × Unit)))) : Option ((Unit × (Int × Unit)) × ((Int × (Int × (Unit × Unit))) × (Unit × (List (Int × Int) × (List Int × Unit))))) := match x with
  | ((_, n0, ()), (c1, c2, _, ()), l3, ()) =>
    byB (decide (n0 < 0))
      (some (((), 1, ()), (c1, c2, (), ()), (), l3, [], ()))
      (loopN N (Skip_11_L4 N) (((), n0, (), ()), (c1, c2, (), ()), (), l3, [], ()))
theorem eq_Skip_11 (N : Nat) (x : (ap_Skip_11).den) : funX Try.prog (fs4 N) N 11 lo_Skip_11 jo_Skip_11 Try.f11 ap_Skip_11 rp_Skip_11 x = Skip_11 N x := by kernel_rfl
noncomputable def sp_Skip_11 (N : Nat) : FSpec := specOf ap_Skip_11 rp_Skip_11 true (Skip_11 N)
theorem ok_Skip_11 (N : Nat) : FSound Try.prog 11 (sp_Skip_11 N) := funX_sound (N := N) (loops := lo_Skip_11) (joins := jo_Skip_11) (fsok4 N) Try.func11 (by kernel_rfl) (by kernel_rfl) fun x _ h => (eq_Skip_11 N x).trans h
noncomputable def fs5 (N : Nat) : FuncId → List V1 → List Blk → Option FSpec := fun g xs H => if g = 11 then some (sp_Skip_11 N) else fs4 N g xs H
theorem fsok5 (N : Nat) : ∀ g xs H sp, fs5 N g xs H = some sp → FSound Try.prog g sp := fun g xs H sp h => by
  unfold fs5 at h
  by_cases e : g = 11
  · rw [if_pos e] at h; subst e; cases h; exact ok_Skip_11 N
  · rw [if_neg e] at h; exact fsok4 N g xs H sp h
/-! Tick_12 -/
abbrev ap_Tick_12 : Pat := ⟨[.one (.ptr 0 0)], [.var 52 [.int .i64, .int .i64, .lnk 1], .chn 57 (.pair (.int .i64) (.int .i64))]⟩
abbrev rp_Tick_12 : List Pat := [⟨[.one (.full 3)], [.var 52 [.int .i64, .int .i64, .lnk 2], .dead, .chn 57 (.pair (.int .i64) (.int .i64)), .row 3 (.int .i64)]⟩]
def lo_Tick_12 : List LSpec := []
def jo_Tick_12 : List LSpec := []
def Tick_12 (N : Nat) (x : ((Unit × Unit) × ((Int × (Int × (Unit × Unit))) × (List (Int × Int) × Unit)))) : Option ((Unit × Unit) × ((Int × (Int × (Unit × Unit))) × (Unit × (List (Int × Int) × (List Int × Unit))))) := match x with
  | ((_, ()), (c0, c1, _, ()), l2, ()) =>
    (Skip_11 N (((), 1, ()), (c0, c1, (), ()), l2, ())).bind fun y3 =>
    some (((), ()), (y3.2.1.1, y3.2.1.2.1, (), ()), (), y3.2.2.2.1, y3.2.2.2.2.1, ())
theorem eq_Tick_12 (N : Nat) (x : (ap_Tick_12).den) : funX Try.prog (fs5 N) N 12 lo_Tick_12 jo_Tick_12 Try.f12 ap_Tick_12 rp_Tick_12 x = Tick_12 N x := by kernel_rfl
noncomputable def sp_Tick_12 (N : Nat) : FSpec := specOf ap_Tick_12 rp_Tick_12 true (Tick_12 N)
theorem ok_Tick_12 (N : Nat) : FSound Try.prog 12 (sp_Tick_12 N) := funX_sound (N := N) (loops := lo_Tick_12) (joins := jo_Tick_12) (fsok5 N) Try.func12 (by kernel_rfl) (by kernel_rfl) fun x _ h => (eq_Tick_12 N x).trans h
noncomputable def fs6 (N : Nat) : FuncId → List V1 → List Blk → Option FSpec := fun g xs H => if g = 12 then some (sp_Tick_12 N) else fs5 N g xs H
theorem fsok6 (N : Nat) : ∀ g xs H sp, fs6 N g xs H = some sp → FSound Try.prog g sp := fun g xs H sp h => by
  unfold fs6 at h
  by_cases e : g = 12
  · rw [if_pos e] at h; subst e; cases h; exact ok_Tick_12 N
  · rw [if_neg e] at h; exact fsok5 N g xs H sp h
/-! Left_14 -/
abbrev ap_Left_14 : Pat := ⟨[.one (.ptr 0 0), .one (.int .i64)], [.var 52 [.int .i64, .int .i64, .lnk 1], .chn 57 (.pair (.int .i64) (.int .i64))]⟩
abbrev rp_Left_14 : List Pat := [⟨[.one (.int .i64)], [.var 52 [.int .i64, .int .i64, .lnk 1], .chn 57 (.pair (.int .i64) (.int .i64))]⟩]
def lo_Left_14 : List LSpec := []
def jo_Left_14 : List LSpec := []
def Left_14 (N : Nat) (x : ((Unit × (Int × Unit)) × ((Int × (Int × (Unit × Unit))) × (List (Int × Int) × Unit)))) : Option ((Int × Unit) × ((Int × (Int × (Unit × Unit))) × (List (Int × Int) × Unit))) := match x with
  | ((_, id0, ()), (c1, c2, _, ()), l3, ()) =>
    (find_23 N (((), id0, ()), (c1, c2, (), ()), l3, ())).bind fun y => match y with
    | .inl y4 =>
      some ((y4.1.2.1, ()), (y4.2.1.1, y4.2.1.2.1, (), ()), y4.2.2.1, ())
    | .inr y5 =>
      some ((y5.1.2.1, ()), (y5.2.1.1, y5.2.1.2.1, (), ()), y5.2.2.1, ())
theorem eq_Left_14 (N : Nat) (x : (ap_Left_14).den) : funX Try.prog (fs6 N) N 14 lo_Left_14 jo_Left_14 Try.f14 ap_Left_14 rp_Left_14 x = Left_14 N x := by kernel_rfl
noncomputable def sp_Left_14 (N : Nat) : FSpec := specOf ap_Left_14 rp_Left_14 true (Left_14 N)
theorem ok_Left_14 (N : Nat) : FSound Try.prog 14 (sp_Left_14 N) := funX_sound (N := N) (loops := lo_Left_14) (joins := jo_Left_14) (fsok6 N) Try.func14 (by kernel_rfl) (by kernel_rfl) fun x _ h => (eq_Left_14 N x).trans h
noncomputable def fs7 (N : Nat) : FuncId → List V1 → List Blk → Option FSpec := fun g xs H => if g = 14 then some (sp_Left_14 N) else fs6 N g xs H
theorem fsok7 (N : Nat) : ∀ g xs H sp, fs7 N g xs H = some sp → FSound Try.prog g sp := fun g xs H sp h => by
  unfold fs7 at h
  by_cases e : g = 14
  · rw [if_pos e] at h; subst e; cases h; exact ok_Left_14 N
  · rw [if_neg e] at h; exact fsok6 N g xs H sp h
/-! examples_7 -/
abbrev ap_examples_7 : Pat := ⟨[], []⟩
abbrev rp_examples_7 : List Pat := [⟨[.one (.bool)], []⟩]
def lo_examples_7 : List LSpec := []
def jo_examples_7 : List LSpec := []
def examples_7 (N : Nat) (x : (Unit × Unit)) : Option ((Bool × Unit) × Unit) := if 300 ≤ N then some ((true, ()), ()) else none
theorem eq_examples_7 (k : Nat) : funX Try.prog (fs7 (k + 300)) (k + 300) 7 lo_examples_7 jo_examples_7 Try.f7 ap_examples_7 rp_examples_7 ((), ()) = some ((true, ()), ()) := by kernel_rfl
noncomputable def sp_examples_7 (N : Nat) : FSpec := specOf ap_examples_7 rp_examples_7 true (examples_7 N)
theorem ok_examples_7 (N : Nat) : FSound Try.prog 7 (sp_examples_7 N) := funX_sound (N := N) (loops := lo_examples_7) (joins := jo_examples_7) (fsok7 N) Try.func7 (by kernel_rfl) (by kernel_rfl) fun x _ h => by
  unfold examples_7 at h
  split at h
  · rename_i hN
    obtain ⟨k, rfl⟩ : ∃ k, N = k + 300 := ⟨N - 300, by omega⟩
    exact (eq_examples_7 k).trans h
  · cases h
noncomputable def fs8 (N : Nat) : FuncId → List V1 → List Blk → Option FSpec := fun g xs H => if g = 7 then some (sp_examples_7 N) else fs7 N g xs H
theorem fsok8 (N : Nat) : ∀ g xs H sp, fs8 N g xs H = some sp → FSound Try.prog g sp := fun g xs H sp h => by
  unfold fs8 at h
  by_cases e : g = 7
  · rw [if_pos e] at h; subst e; cases h; exact ok_examples_7 N
  · rw [if_neg e] at h; exact fsok7 N g xs H sp h
/-! pick_9 -/
abbrev ap_pick_9 : Pat := ⟨[.one (.int .i64), .one (.int .i64)], []⟩
abbrev rp_pick_9 : List Pat := [⟨[.one (.int .i64)], []⟩]
def lo_pick_9 : List LSpec := []
def jo_pick_9 : List LSpec := []
def pick_9 (N : Nat) (x : ((Int × (Int × Unit)) × Unit)) : Option ((Int × Unit) × Unit) := match x with
  | ((c0, n1, ()), ()) =>
    byB (decide (c0 < 0))
      (if n1 = 0 then
          none
        else
        some ((Int.tmod (IntKind.wrap .i64 (0 - (IntKind.wrap .i64 (c0 + 1)))) n1, ()), ()))
      (if n1 = 0 then
          none
        else
        some ((Int.tmod c0 n1, ()), ()))
theorem eq_pick_9 (N : Nat) (x : (ap_pick_9).den) : funX Try.prog (fs8 N) N 9 lo_pick_9 jo_pick_9 Try.f9 ap_pick_9 rp_pick_9 x = pick_9 N x := by kernel_rfl
noncomputable def sp_pick_9 (N : Nat) : FSpec := specOf ap_pick_9 rp_pick_9 true (pick_9 N)
theorem ok_pick_9 (N : Nat) : FSound Try.prog 9 (sp_pick_9 N) := funX_sound (N := N) (loops := lo_pick_9) (joins := jo_pick_9) (fsok8 N) Try.func9 (by kernel_rfl) (by kernel_rfl) fun x _ h => (eq_pick_9 N x).trans h
noncomputable def fs9 (N : Nat) : FuncId → List V1 → List Blk → Option FSpec := fun g xs H => if g = 9 then some (sp_pick_9 N) else fs8 N g xs H
theorem fsok9 (N : Nat) : ∀ g xs H sp, fs9 N g xs H = some sp → FSound Try.prog g sp := fun g xs H sp h => by
  unfold fs9 at h
  by_cases e : g = 9
  · rw [if_pos e] at h; subst e; cases h; exact ok_pick_9 N
  · rw [if_neg e] at h; exact fsok8 N g xs H sp h
/-! numbers_13 -/
abbrev ap_numbers_13 : Pat := ⟨[.one (.ro (.int .i64)), .one (.ro (.int .i64))], []⟩
abbrev rp_numbers_13 : List Pat := [⟨[.one (.bool)], []⟩]
def lo_numbers_13 : List LSpec := [⟨4, [0, 1, 5], ⟨[.one (.ro (.int .i64)), .one (.ro (.int .i64)), .one (.int .i64)], []⟩⟩]
def jo_numbers_13 : List LSpec := []
def numbers_13_L4 (N : Nat) (again4 : ((List Int × (List Int × (Int × Unit))) × Unit) → Option ((Bool × Unit) × Unit)) (x : ((List Int × (List Int × (Int × Unit))) × Unit)) : Option ((Bool × Unit) × Unit) := match x with
  | ((a5, b6, i7, ()), ()) =>
    byB (decide (i7 < (a5.length : Int)))
      (if (0 ≤ i7) ∧ (i7 < (a5.length : Int)) then
        (if (0 ≤ i7) ∧ (i7 < (b6.length : Int)) then
        byB ((a5.getD i7.toNat 0) != (b6.getD i7.toNat 0))
          (some ((false, ()), ()))
          (again4 ((a5, b6, IntKind.wrap .i64 (i7 + 1), ()), ()))
        else none)
        else none)
      (some ((true, ()), ()))
def numbers_13 (N : Nat) (x : ((List Int × (List Int × Unit)) × Unit)) : Option ((Bool × Unit) × Unit) := match x with
  | ((a0, b1, ()), ()) =>
    byB ((a0.length : Int) != (b1.length : Int))
      (some ((false, ()), ()))
      (loopN N (numbers_13_L4 N) ((a0, b1, 0, ()), ()))
theorem eq_numbers_13 (N : Nat) (x : (ap_numbers_13).den) : funX Try.prog (fs9 N) N 13 lo_numbers_13 jo_numbers_13 Try.f13 ap_numbers_13 rp_numbers_13 x = numbers_13 N x := by kernel_rfl
noncomputable def sp_numbers_13 (N : Nat) : FSpec := specOf ap_numbers_13 rp_numbers_13 true (numbers_13 N)
theorem ok_numbers_13 (N : Nat) : FSound Try.prog 13 (sp_numbers_13 N) := funX_sound (N := N) (loops := lo_numbers_13) (joins := jo_numbers_13) (fsok9 N) Try.func13 (by kernel_rfl) (by kernel_rfl) fun x _ h => (eq_numbers_13 N x).trans h
noncomputable def fs10 (N : Nat) : FuncId → List V1 → List Blk → Option FSpec := fun g xs H => if g = 13 then some (sp_numbers_13 N) else fs9 N g xs H
theorem fsok10 (N : Nat) : ∀ g xs H sp, fs10 N g xs H = some sp → FSound Try.prog g sp := fun g xs H sp h => by
  unfold fs10 at h
  by_cases e : g = 13
  · rw [if_pos e] at h; subst e; cases h; exact ok_numbers_13 N
  · rw [if_neg e] at h; exact fsok9 N g xs H sp h
/-! Len_15 -/
abbrev ap_Len_15 : Pat := ⟨[.one (.ptr 0 0)], [.var 52 [.int .i64, .int .i64, .lnk 1], .chn 57 (.pair (.int .i64) (.int .i64))]⟩
abbrev rp_Len_15 : List Pat := [⟨[.one (.int .i64)], [.var 52 [.int .i64, .int .i64, .lnk 1], .chn 57 (.pair (.int .i64) (.int .i64))]⟩]
def lo_Len_15 : List LSpec := []
def jo_Len_15 : List LSpec := []
def Len_15 (N : Nat) (x : ((Unit × Unit) × ((Int × (Int × (Unit × Unit))) × (List (Int × Int) × Unit)))) : Option ((Int × Unit) × ((Int × (Int × (Unit × Unit))) × (List (Int × Int) × Unit))) := match x with
  | ((_, ()), (c0, c1, _, ()), l2, ()) =>
    some ((c1, ()), (c0, c1, (), ()), l2, ())
theorem eq_Len_15 (N : Nat) (x : (ap_Len_15).den) : funX Try.prog (fs10 N) N 15 lo_Len_15 jo_Len_15 Try.f15 ap_Len_15 rp_Len_15 x = Len_15 N x := by kernel_rfl
noncomputable def sp_Len_15 (N : Nat) : FSpec := specOf ap_Len_15 rp_Len_15 true (Len_15 N)
theorem ok_Len_15 (N : Nat) : FSound Try.prog 15 (sp_Len_15 N) := funX_sound (N := N) (loops := lo_Len_15) (joins := jo_Len_15) (fsok10 N) Try.func15 (by kernel_rfl) (by kernel_rfl) fun x _ h => (eq_Len_15 N x).trans h
noncomputable def fs11 (N : Nat) : FuncId → List V1 → List Blk → Option FSpec := fun g xs H => if g = 15 then some (sp_Len_15 N) else fs10 N g xs H
theorem fsok11 (N : Nat) : ∀ g xs H sp, fs11 N g xs H = some sp → FSound Try.prog g sp := fun g xs H sp h => by
  unfold fs11 at h
  by_cases e : g = 15
  · rw [if_pos e] at h; subst e; cases h; exact ok_Len_15 N
  · rw [if_neg e] at h; exact fsok10 N g xs H sp h
/-! DeltaSkips_3 -/
abbrev ap_DeltaSkips_3 : Pat := ⟨[.one (.ro (.int .i64)), .one (.ro (.int .i64)), .one (.int .i64)], []⟩
abbrev rp_DeltaSkips_3 : List Pat := [⟨[.one (.bool)], []⟩]
def lo_DeltaSkips_3 : List LSpec := [⟨7, [0, 1, 2, 7, 8, 10, 12], ⟨[.one (.ro (.int .i64)), .one (.ro (.int .i64)), .one (.int .i64), .one (.bool), .one (.ptr 0 0), .one (.ptr 1 0), .one (.int .i64)], [.var 52 [.int .i64, .int .i64, .lnk 2], .var 52 [.int .i64, .int .i64, .lnk 3], .chn 57 (.pair (.int .i64) (.int .i64)), .chn 57 (.pair (.int .i64) (.int .i64))]⟩⟩, ⟨16, [0, 2, 7, 8, 10, 14, 15, 16, 17], ⟨[.one (.ro (.int .i64)), .one (.int .i64), .one (.bool), .one (.ptr 0 0), .one (.ptr 1 0), .one (.full 2), .one (.int .i64), .one (.full 3), .one (.int .i64)], [.var 52 [.int .i64, .int .i64, .lnk 4], .var 52 [.int .i64, .int .i64, .lnk 5], .row 3 (.int .i64), .row 3 (.int .i64), .chn 57 (.pair (.int .i64) (.int .i64)), .chn 57 (.pair (.int .i64) (.int .i64))]⟩⟩, ⟨21, [0, 7, 8, 10, 15, 18, 19], ⟨[.one (.ro (.int .i64)), .one (.bool), .one (.ptr 0 0), .one (.ptr 1 0), .one (.int .i64), .one (.bool), .one (.int .i64)], [.var 52 [.int .i64, .int .i64, .lnk 2], .var 52 [.int .i64, .int .i64, .lnk 3], .chn 57 (.pair (.int .i64) (.int .i64)), .chn 57 (.pair (.int .i64) (.int .i64))]⟩⟩]
def jo_DeltaSkips_3 : List LSpec := []
def DeltaSkips_3_L21 (N : Nat) (again21 : ((List Int × (Bool × (Unit × (Unit × (Int × (Bool × (Int × Unit))))))) × ((Int × (Int × (Unit × Unit))) × ((Int × (Int × (Unit × Unit))) × (List (Int × Int) × (List (Int × Int) × Unit))))) → Option ((Bool × Unit) × Unit)) (x : ((List Int × (Bool × (Unit × (Unit × (Int × (Bool × (Int × Unit))))))) × ((Int × (Int × (Unit × Unit))) × ((Int × (Int × (Unit × Unit))) × (List (Int × Int) × (List (Int × Int) × Unit)))))) : Option ((Bool × Unit) × Unit) := match x with
  | ((ids151, head152, _, _, e153, same154, i155, ()), (c156, c157, _, ()), (c158, c159, _, ()), l160, l161, ()) =>
    byB (decide (i155 < (ids151.length : Int)))
      (byB (decide (i155 < 100))
          (if (0 ≤ i155) ∧ (i155 < (ids151.length : Int)) then
            (Left_14 N (((), ids151.getD i155.toNat 0, ()), (c156, c157, (), ()), l160, ())).bind fun y166 =>
            if (0 ≤ i155) ∧ (i155 < (ids151.length : Int)) then
            (Left_14 N (((), ids151.getD i155.toNat 0, ()), (c158, c159, (), ()), l161, ())).bind fun y168 =>
            byB (y166.1.1 != y168.1.1)
              (some ((false, ()), ()))
              (again21 ((ids151, head152, (), (), e153, same154, IntKind.wrap .i64 (i155 + 1), ()), (y166.2.1.1, y166.2.1.2.1, (), ()), (y168.2.1.1, y168.2.1.2.1, (), ()), y166.2.2.1, y168.2.2.1, ()))
            else none
            else none)
          (byB head152
              (byB same154
                  (byB (e153 == 0)
                      ((Len_15 N (((), ()), (c156, c157, (), ()), l160, ())).bind fun y172 =>
                        (Len_15 N (((), ()), (c158, c159, (), ()), l161, ())).bind fun y173 =>
                        some ((y172.1.1 == y173.1.1, ()), ()))
                      (some ((false, ()), ())))
                  (some ((false, ()), ())))
              (some ((false, ()), ()))))
      (byB head152
          (byB same154
              (byB (e153 == 0)
                  ((Len_15 N (((), ()), (c156, c157, (), ()), l160, ())).bind fun y176 =>
                    (Len_15 N (((), ()), (c158, c159, (), ()), l161, ())).bind fun y177 =>
                    some ((y176.1.1 == y177.1.1, ()), ()))
                  (some ((false, ()), ())))
              (some ((false, ()), ())))
          (some ((false, ()), ())))
def DeltaSkips_3_L16 (N : Nat) (again16 : ((List Int × (Int × (Bool × (Unit × (Unit × (Unit × (Int × (Unit × (Int × Unit))))))))) × ((Int × (Int × (Unit × Unit))) × ((Int × (Int × (Unit × Unit))) × (List Int × (List Int × (List (Int × Int) × (List (Int × Int) × Unit))))))) → Option ((Bool × Unit) × Unit)) (x : ((List Int × (Int × (Bool × (Unit × (Unit × (Unit × (Int × (Unit × (Int × Unit))))))))) × ((Int × (Int × (Unit × Unit))) × ((Int × (Int × (Unit × Unit))) × (List Int × (List Int × (List (Int × Int) × (List (Int × Int) × Unit)))))))) : Option ((Bool × Unit) × Unit) := match x with
  | ((ids133, n134, head135, _, _, _, e136, _, i137, ()), (c138, c139, _, ()), (c140, c141, _, ()), l142, l143, l144, l145, ()) =>
    byB (decide (i137 < n134))
      ((Tick_12 N (((), ()), (c140, c141, (), ()), l145, ())).bind fun y147 =>
        if (l143.length + y147.2.2.2.2.1.length) * 8 ≤ 140737488355328 then
        again16 ((ids133, n134, head135, (), (), (), e136, (), IntKind.wrap .i64 (i137 + 1), ()), (c138, c139, (), ()), (y147.2.1.1, y147.2.1.2.1, (), ()), l142, l143 ++ y147.2.2.2.2.1, l144, y147.2.2.2.1, ())
        else none)
      ((numbers_13 N ((l142, l143, ()), ())).bind fun y150 =>
        loopN N (DeltaSkips_3_L21 N) ((ids133, head135, (), (), e136, y150.1.1, 0, ()), (c138, c139, (), ()), (c140, c141, (), ()), l144, l145, ()))
def DeltaSkips_3_L7 (N : Nat) (again7 : ((List Int × (List Int × (Int × (Bool × (Unit × (Unit × (Int × Unit))))))) × ((Int × (Int × (Unit × Unit))) × ((Int × (Int × (Unit × Unit))) × (List (Int × Int) × (List (Int × Int) × Unit))))) → Option ((Bool × Unit) × Unit)) (x : ((List Int × (List Int × (Int × (Bool × (Unit × (Unit × (Int × Unit))))))) × ((Int × (Int × (Unit × Unit))) × ((Int × (Int × (Unit × Unit))) × (List (Int × Int) × (List (Int × Int) × Unit)))))) : Option ((Bool × Unit) × Unit) := match x with
  | ((ids10, after11, n12, head13, _, _, i14, ()), (c15, c16, _, ()), (c17, c18, _, ()), l19, l20, ()) =>
    byB (decide (i14 < (ids10.length : Int)))
      (byB (decide (i14 < (after11.length : Int)))
          (byB (decide (i14 < 100))
              (if (0 ≤ i14) ∧ (i14 < (after11.length : Int)) then
                (pick_9 N ((after11.getD i14.toNat 0, 1000, ()), ())).bind fun y27 =>
                let t28 := IntKind.wrap .i64 (1 + y27.1.1);
                if (0 ≤ i14) ∧ (i14 < (ids10.length : Int)) then
                (Add_10 N (((), ids10.getD i14.toNat 0, t28, ()), (c15, c16, (), ()), l19, ())).bind fun y30 =>
                if (0 ≤ i14) ∧ (i14 < (ids10.length : Int)) then
                (Add_10 N (((), ids10.getD i14.toNat 0, t28, ()), (c17, c18, (), ()), l20, ())).bind fun y32 =>
                byB (y30.1.1 != y32.1.1)
                  (some ((false, ()), ()))
                  (again7 ((ids10, after11, n12, head13, (), (), IntKind.wrap .i64 (i14 + 1), ()), (y30.2.1.1, y30.2.1.2.1, (), ()), (y32.2.1.1, y32.2.1.2.1, (), ()), y30.2.2.2.1, y32.2.2.2.1, ()))
                else none
                else none
                else none)
              ((pick_9 N ((n12, 501, ()), ())).bind fun y35 =>
                (Skip_11 N (((), y35.1.1, ()), (c15, c16, (), ()), l19, ())).bind fun y36 =>
                loopN N (DeltaSkips_3_L16 N) ((ids10, y35.1.1, head13, (), (), (), y36.1.2.1, (), 0, ()), (y36.2.1.1, y36.2.1.2.1, (), ()), (c17, c18, (), ()), y36.2.2.2.2.1, [], y36.2.2.2.1, l20, ())))
          ((pick_9 N ((n12, 501, ()), ())).bind fun y83 =>
            (Skip_11 N (((), y83.1.1, ()), (c15, c16, (), ()), l19, ())).bind fun y84 =>
            loopN N (DeltaSkips_3_L16 N) ((ids10, y83.1.1, head13, (), (), (), y84.1.2.1, (), 0, ()), (y84.2.1.1, y84.2.1.2.1, (), ()), (c17, c18, (), ()), y84.2.2.2.2.1, [], y84.2.2.2.1, l20, ())))
      ((pick_9 N ((n12, 501, ()), ())).bind fun y131 =>
        (Skip_11 N (((), y131.1.1, ()), (c15, c16, (), ()), l19, ())).bind fun y132 =>
        loopN N (DeltaSkips_3_L16 N) ((ids10, y131.1.1, head13, (), (), (), y132.1.2.1, (), 0, ()), (y132.2.1.1, y132.2.1.2.1, (), ()), (c17, c18, (), ()), y132.2.2.2.2.1, [], y132.2.2.2.1, l20, ()))
def DeltaSkips_3 (N : Nat) (x : ((List Int × (List Int × (Int × Unit))) × Unit)) : Option ((Bool × Unit) × Unit) := match x with
  | ((ids0, after1, n2, ()), ()) =>
    (examples_7 N ((), ())).bind fun y3 =>
    (New_8 N ((256, ()), ())).bind fun y => match y with
    | .inl y4 =>
      (New_8 N ((256, ()), ())).bind fun y => match y with
      | .inl y5 =>
        some ((false, ()), ())
      | .inr y6 =>
        some ((false, ()), ())
    | .inr y7 =>
      (New_8 N ((256, ()), ())).bind fun y => match y with
      | .inl y8 =>
        some ((false, ()), ())
      | .inr y9 =>
        loopN N (DeltaSkips_3_L7 N) ((ids0, after1, n2, y3.1.1, (), (), 0, ()), (y7.2.1.1, y7.2.1.2.1, (), ()), (y9.2.1.1, y9.2.1.2.1, (), ()), y7.2.2.1, y9.2.2.1, ())
theorem eq_DeltaSkips_3 (N : Nat) (x : (ap_DeltaSkips_3).den) : funX Try.prog (fs11 N) N 3 lo_DeltaSkips_3 jo_DeltaSkips_3 Try.f3 ap_DeltaSkips_3 rp_DeltaSkips_3 x = DeltaSkips_3 N x := by kernel_rfl
noncomputable def sp_DeltaSkips_3 (N : Nat) : FSpec := specOf ap_DeltaSkips_3 rp_DeltaSkips_3 true (DeltaSkips_3 N)
theorem ok_DeltaSkips_3 (N : Nat) : FSound Try.prog 3 (sp_DeltaSkips_3 N) := funX_sound (N := N) (loops := lo_DeltaSkips_3) (joins := jo_DeltaSkips_3) (fsok11 N) Try.func3 (by kernel_rfl) (by kernel_rfl) fun x _ h => (eq_DeltaSkips_3 N x).trans h
noncomputable def fs12 (N : Nat) : FuncId → List V1 → List Blk → Option FSpec := fun g xs H => if g = 3 then some (sp_DeltaSkips_3 N) else fs11 N g xs H
theorem fsok12 (N : Nat) : ∀ g xs H sp, fs12 N g xs H = some sp → FSound Try.prog g sp := fun g xs H sp h => by
  unfold fs12 at h
  by_cases e : g = 3
  · rw [if_pos e] at h; subst e; cases h; exact ok_DeltaSkips_3 N
  · rw [if_neg e] at h; exact fsok11 N g xs H sp h
/-! Cancel_16 -/
abbrev ap_Cancel_16 : Pat := ⟨[.one (.ptr 0 0), .one (.int .i64)], [.var 52 [.int .i64, .int .i64, .lnk 1], .chn 57 (.pair (.int .i64) (.int .i64))]⟩
abbrev rp_Cancel_16 : List Pat := [⟨[.one (.bool)], [.var 52 [.int .i64, .int .i64, .lnk 2], .dead, .chn 57 (.pair (.int .i64) (.int .i64))]⟩]
def lo_Cancel_16 : List LSpec := []
def jo_Cancel_16 : List LSpec := []
def Cancel_16 (N : Nat) (x : ((Unit × (Int × Unit)) × ((Int × (Int × (Unit × Unit))) × (List (Int × Int) × Unit)))) : Option ((Bool × Unit) × ((Int × (Int × (Unit × Unit))) × (Unit × (List (Int × Int) × Unit)))) := match x with
  | ((_, id0, ()), (c1, c2, _, ()), l3, ()) =>
    (find_23 N (((), id0, ()), (c1, c2, (), ()), l3, ())).bind fun y => match y with
    | .inl y4 =>
      if y4.1.1 < y4.2.2.1.length then
      byB (decide ((y4.1.1 + 1) < y4.2.2.1.length))
        (if y4.1.1 < y4.2.2.1.length then
          (if (y4.1.1 + 1) < y4.2.2.1.length then
          (if y4.1.1 < y4.2.2.1.length then
          (if (y4.1.1 + 1) < y4.2.2.1.length then
          let l9 := y4.2.2.1.set (y4.1.1 + 1) ((y4.2.2.1.getD (y4.1.1 + 1) (0, 0)).1, IntKind.wrap .i64 ((y4.2.2.1.getD (y4.1.1 + 1) (0, 0)).2 + (y4.2.2.1.getD y4.1.1 (0, 0)).2));
          if y4.1.1 < l9.length then
          (if y4.1.1 ≤ (y4.1.1 + 1) then
          some ((true, ()), (y4.2.1.1, IntKind.wrap .i64 (y4.2.1.2.1 - 1), (), ()), (), l9.take y4.1.1 ++ l9.drop (y4.1.1 + 1), ())
          else none)
          else none
          else none)
          else none)
          else none)
          else none)
        (if y4.1.1 < y4.2.2.1.length then
          (if y4.1.1 ≤ (y4.1.1 + 1) then
          some ((true, ()), (y4.2.1.1, IntKind.wrap .i64 (y4.2.1.2.1 - 1), (), ()), (), y4.2.2.1.take y4.1.1 ++ y4.2.2.1.drop (y4.1.1 + 1), ())
          else none)
          else none)
      else none
    | .inr y14 =>
      some ((false, ()), (y14.2.1.1, y14.2.1.2.1, (), ()), (), y14.2.2.1, ())
theorem eq_Cancel_16 (N : Nat) (x : (ap_Cancel_16).den) : funX Try.prog (fs12 N) N 16 lo_Cancel_16 jo_Cancel_16 Try.f16 ap_Cancel_16 rp_Cancel_16 x = Cancel_16 N x := by kernel_rfl
noncomputable def sp_Cancel_16 (N : Nat) : FSpec := specOf ap_Cancel_16 rp_Cancel_16 true (Cancel_16 N)
theorem ok_Cancel_16 (N : Nat) : FSound Try.prog 16 (sp_Cancel_16 N) := funX_sound (N := N) (loops := lo_Cancel_16) (joins := jo_Cancel_16) (fsok12 N) Try.func16 (by kernel_rfl) (by kernel_rfl) fun x _ h => (eq_Cancel_16 N x).trans h
noncomputable def fs13 (N : Nat) : FuncId → List V1 → List Blk → Option FSpec := fun g xs H => if g = 16 then some (sp_Cancel_16 N) else fs12 N g xs H
theorem fsok13 (N : Nat) : ∀ g xs H sp, fs13 N g xs H = some sp → FSound Try.prog g sp := fun g xs H sp h => by
  unfold fs13 at h
  by_cases e : g = 16
  · rw [if_pos e] at h; subst e; cases h; exact ok_Cancel_16 N
  · rw [if_neg e] at h; exact fsok12 N g xs H sp h
/-! DeltaLeft_4 -/
abbrev ap_DeltaLeft_4 : Pat := ⟨[.one (.ro (.int .i64)), .one (.int .i64), .one (.int .i64)], []⟩
abbrev rp_DeltaLeft_4 : List Pat := [⟨[.one (.bool)], []⟩]
def lo_DeltaLeft_4 : List LSpec := [⟨7, [0, 1, 2, 7, 8, 10, 11], ⟨[.one (.ro (.int .i64)), .one (.int .i64), .one (.int .i64), .one (.bool), .one (.ptr 0 0), .one (.int .i64), .one (.int .i64)], [.var 52 [.int .i64, .int .i64, .lnk 1], .chn 57 (.pair (.int .i64) (.int .i64))]⟩⟩, ⟨17, [0, 1, 7, 8, 10, 12, 13], ⟨[.one (.ro (.int .i64)), .one (.int .i64), .one (.bool), .one (.ptr 0 0), .one (.int .i64), .one (.int .i64), .one (.int .i64)], [.var 52 [.int .i64, .int .i64, .lnk 1], .chn 57 (.pair (.int .i64) (.int .i64))]⟩⟩, ⟨20, [0, 1, 7, 8, 10, 12, 13, 14], ⟨[.one (.ro (.int .i64)), .one (.int .i64), .one (.bool), .one (.ptr 0 0), .one (.int .i64), .one (.int .i64), .one (.int .i64), .one (.int .i64)], [.var 52 [.int .i64, .int .i64, .lnk 1], .chn 57 (.pair (.int .i64) (.int .i64))]⟩⟩]
def jo_DeltaLeft_4 : List LSpec := []
def DeltaLeft_4_L20 (N : Nat) (again17 : ((List Int × (Int × (Bool × (Unit × (Int × (Int × (Int × Unit))))))) × ((Int × (Int × (Unit × Unit))) × (List (Int × Int) × Unit))) → Option ((Bool × Unit) × Unit)) (again20 : ((List Int × (Int × (Bool × (Unit × (Int × (Int × (Int × (Int × Unit)))))))) × ((Int × (Int × (Unit × Unit))) × (List (Int × Int) × Unit))) → Option ((Bool × Unit) × Unit)) (x : ((List Int × (Int × (Bool × (Unit × (Int × (Int × (Int × (Int × Unit)))))))) × ((Int × (Int × (Unit × Unit))) × (List (Int × Int) × Unit)))) : Option ((Bool × Unit) × Unit) := match x with
  | ((after75, ticks76, head77, _, n78, x79, t80, i81, ()), (c82, c83, _, ()), l84, ()) =>
    byB (decide (i81 < n78))
      (if (0 ≤ i81) ∧ (i81 < (after75.length : Int)) then
        (pick_9 N ((after75.getD i81.toNat 0, 60, ()), ())).bind fun y87 =>
        byB (i81 == x79)
          ((Left_14 N (((), i81, ()), (c82, c83, (), ()), l84, ())).bind fun y92 =>
            byB (y92.1.1 != 0)
              (some ((false, ()), ()))
              (again20 ((after75, ticks76, head77, (), n78, x79, t80, IntKind.wrap .i64 (i81 + 1), ()), (y92.2.1.1, y92.2.1.2.1, (), ()), y92.2.2.1, ())))
          ((Left_14 N (((), i81, ()), (c82, c83, (), ()), l84, ())).bind fun y95 =>
            byB (y95.1.1 != (if (IntKind.wrap .i64 ((IntKind.wrap .i64 (1 + y87.1.1)) - t80)) > 0 then (IntKind.wrap .i64 ((IntKind.wrap .i64 (1 + y87.1.1)) - t80)) else 0))
              (some ((false, ()), ()))
              (again20 ((after75, ticks76, head77, (), n78, x79, t80, IntKind.wrap .i64 (i81 + 1), ()), (y95.2.1.1, y95.2.1.2.1, (), ()), y95.2.2.1, ())))
        else none)
      ((Tick_12 N (((), ()), (c82, c83, (), ()), l84, ())).bind fun y98 =>
        again17 ((after75, ticks76, head77, (), n78, x79, IntKind.wrap .i64 (t80 + 1), ()), (y98.2.1.1, y98.2.1.2.1, (), ()), y98.2.2.2.1, ()))
def DeltaLeft_4_L17 (N : Nat) (again17 : ((List Int × (Int × (Bool × (Unit × (Int × (Int × (Int × Unit))))))) × ((Int × (Int × (Unit × Unit))) × (List (Int × Int) × Unit))) → Option ((Bool × Unit) × Unit)) (x : ((List Int × (Int × (Bool × (Unit × (Int × (Int × (Int × Unit))))))) × ((Int × (Int × (Unit × Unit))) × (List (Int × Int) × Unit)))) : Option ((Bool × Unit) × Unit) := match x with
  | ((after64, ticks65, head66, _, n67, x68, t69, ()), (c70, c71, _, ()), l72, ()) =>
    (pick_9 N ((ticks65, 81, ()), ())).bind fun y73 =>
    byB (decide (t69 ≤ y73.1.1))
      (loopN N (DeltaLeft_4_L20 N again17) ((after64, ticks65, head66, (), n67, x68, t69, 0, ()), (c70, c71, (), ()), l72, ()))
      (some ((head66, ()), ()))
def DeltaLeft_4_L7 (N : Nat) (again7 : ((List Int × (Int × (Int × (Bool × (Unit × (Int × (Int × Unit))))))) × ((Int × (Int × (Unit × Unit))) × (List (Int × Int) × Unit))) → Option ((Bool × Unit) × Unit)) (x : ((List Int × (Int × (Int × (Bool × (Unit × (Int × (Int × Unit))))))) × ((Int × (Int × (Unit × Unit))) × (List (Int × Int) × Unit)))) : Option ((Bool × Unit) × Unit) := match x with
  | ((after8, ticks9, gone10, head11, _, n12, i13, ()), (c14, c15, _, ()), l16, ()) =>
    byB (decide (i13 < n12))
      (if (0 ≤ i13) ∧ (i13 < (after8.length : Int)) then
        (pick_9 N ((after8.getD i13.toNat 0, 60, ()), ())).bind fun y19 =>
        (Add_10 N (((), i13, IntKind.wrap .i64 (1 + y19.1.1), ()), (c14, c15, (), ()), l16, ())).bind fun y21 =>
        byB (y21.1.1 != 0)
          (some ((false, ()), ()))
          (again7 ((after8, ticks9, gone10, head11, (), n12, IntKind.wrap .i64 (i13 + 1), ()), (y21.2.1.1, y21.2.1.2.1, (), ()), y21.2.2.2.1, ()))
        else none)
      (byB (!decide (n12 ≤ 0))
          ((pick_9 N ((gone10, n12, ()), ())).bind fun y25 =>
            (Cancel_16 N (((), y25.1.1, ()), (c14, c15, (), ()), l16, ())).bind fun y26 =>
            byB (!y26.1.1)
              (some ((false, ()), ()))
              (loopN N (DeltaLeft_4_L17 N) ((after8, ticks9, head11, (), n12, y25.1.1, 0, ()), (y26.2.1.1, y26.2.1.2.1, (), ()), y26.2.2.2.1, ())))
          (loopN N (DeltaLeft_4_L17 N) ((after8, ticks9, head11, (), n12, -1, 0, ()), (c14, c15, (), ()), l16, ())))
def DeltaLeft_4 (N : Nat) (x : ((List Int × (Int × (Int × Unit))) × Unit)) : Option ((Bool × Unit) × Unit) := match x with
  | ((after0, ticks1, gone2, ()), ()) =>
    (examples_7 N ((), ())).bind fun y3 =>
    (New_8 N ((256, ()), ())).bind fun y => match y with
    | .inl y4 =>
      some ((false, ()), ())
    | .inr y5 =>
      loopN N (DeltaLeft_4_L7 N) ((after0, ticks1, gone2, y3.1.1, (), if 40 < (after0.length : Int) then 40 else (after0.length : Int), 0, ()), (y5.2.1.1, y5.2.1.2.1, (), ()), y5.2.2.1, ())
theorem eq_DeltaLeft_4 (N : Nat) (x : (ap_DeltaLeft_4).den) : funX Try.prog (fs13 N) N 4 lo_DeltaLeft_4 jo_DeltaLeft_4 Try.f4 ap_DeltaLeft_4 rp_DeltaLeft_4 x = DeltaLeft_4 N x := by kernel_rfl
noncomputable def sp_DeltaLeft_4 (N : Nat) : FSpec := specOf ap_DeltaLeft_4 rp_DeltaLeft_4 true (DeltaLeft_4 N)
theorem ok_DeltaLeft_4 (N : Nat) : FSound Try.prog 4 (sp_DeltaLeft_4 N) := funX_sound (N := N) (loops := lo_DeltaLeft_4) (joins := jo_DeltaLeft_4) (fsok13 N) Try.func4 (by kernel_rfl) (by kernel_rfl) fun x _ h => (eq_DeltaLeft_4 N x).trans h
noncomputable def fs14 (N : Nat) : FuncId → List V1 → List Blk → Option FSpec := fun g xs H => if g = 4 then some (sp_DeltaLeft_4 N) else fs13 N g xs H
theorem fsok14 (N : Nat) : ∀ g xs H sp, fs14 N g xs H = some sp → FSound Try.prog g sp := fun g xs H sp h => by
  unfold fs14 at h
  by_cases e : g = 4
  · rw [if_pos e] at h; subst e; cases h; exact ok_DeltaLeft_4 N
  · rw [if_neg e] at h; exact fsok13 N g xs H sp h
/-! New_17 -/
abbrev ap_New_17 : Pat := ⟨[.one (.int .i64)], []⟩
abbrev rp_New_17 : List Pat := [⟨[.one (.nilp)], []⟩, ⟨[.one (.ptr 0 0)], [.var 48 [.int .i64, .full 1], .row 59 (.pair (.int .i64) (.int .i64))]⟩]
def lo_New_17 : List LSpec := []
def jo_New_17 : List LSpec := []
def New_17 (N : Nat) (x : ((Int × Unit) × Unit)) : Option (((Unit × Unit) × Unit) ⊕ ((Unit × Unit) × ((Int × (Unit × Unit)) × (List (Int × Int) × Unit)))) := match x with
  | ((room0, ()), ()) =>
    byB (decide (room0 < 0))
      (some (Sum.inl (((), ()), ())))
      (byB (!decide (room0 ≤ 256))
          (some (Sum.inl (((), ()), ())))
          (some (Sum.inr (((), ()), (room0, (), ()), [], ()))))
theorem eq_New_17 (N : Nat) (x : (ap_New_17).den) : funX Try.prog (fs14 N) N 17 lo_New_17 jo_New_17 Try.f17 ap_New_17 rp_New_17 x = New_17 N x := by kernel_rfl
noncomputable def sp_New_17 (N : Nat) : FSpec := specOf ap_New_17 rp_New_17 true (New_17 N)
theorem ok_New_17 (N : Nat) : FSound Try.prog 17 (sp_New_17 N) := funX_sound (N := N) (loops := lo_New_17) (joins := jo_New_17) (fsok14 N) Try.func17 (by kernel_rfl) (by kernel_rfl) fun x _ h => (eq_New_17 N x).trans h
noncomputable def fs15 (N : Nat) : FuncId → List V1 → List Blk → Option FSpec := fun g xs H => if g = 17 then some (sp_New_17 N) else fs14 N g xs H
theorem fsok15 (N : Nat) : ∀ g xs H sp, fs15 N g xs H = some sp → FSound Try.prog g sp := fun g xs H sp h => by
  unfold fs15 at h
  by_cases e : g = 17
  · rw [if_pos e] at h; subst e; cases h; exact ok_New_17 N
  · rw [if_neg e] at h; exact fsok14 N g xs H sp h
/-! at_25 -/
abbrev ap_at_25 : Pat := ⟨[.one (.ptr 0 0), .one (.int .i64)], [.var 48 [.int .i64, .full 1], .row 59 (.pair (.int .i64) (.int .i64))]⟩
abbrev rp_at_25 : List Pat := [⟨[.one (.int .i64)], [.var 48 [.int .i64, .full 1], .row 59 (.pair (.int .i64) (.int .i64))]⟩]
def lo_at_25 : List LSpec := [⟨2, [0, 1, 5], ⟨[.one (.ptr 0 0), .one (.int .i64), .one (.int .i64)], [.var 48 [.int .i64, .full 1], .row 59 (.pair (.int .i64) (.int .i64))]⟩⟩]
def jo_at_25 : List LSpec := []
def at_25_L2 (N : Nat) (again2 : ((Unit × (Int × (Int × Unit))) × ((Int × (Unit × Unit)) × (List (Int × Int) × Unit))) → Option ((Int × Unit) × ((Int × (Unit × Unit)) × (List (Int × Int) × Unit)))) (x : ((Unit × (Int × (Int × Unit))) × ((Int × (Unit × Unit)) × (List (Int × Int) × Unit)))) : Option ((Int × Unit) × ((Int × (Unit × Unit)) × (List (Int × Int) × Unit))) := match x with
  | ((_, id3, i4, ()), (c5, _, ()), l6, ()) =>
    byB (decide (i4 < (l6.length : Int)))
      (if (0 ≤ i4) ∧ (i4 < (l6.length : Int)) then
        byB ((l6.getD i4.toNat (0, 0)).1 == id3)
          (some ((i4, ()), (c5, (), ()), l6, ()))
          (again2 (((), id3, IntKind.wrap .i64 (i4 + 1), ()), (c5, (), ()), l6, ()))
        else none)
      (some ((-1, ()), (c5, (), ()), l6, ()))
def at_25 (N : Nat) (x : ((Unit × (Int × Unit)) × ((Int × (Unit × Unit)) × (List (Int × Int) × Unit)))) : Option ((Int × Unit) × ((Int × (Unit × Unit)) × (List (Int × Int) × Unit))) := match x with
  | ((_, id0, ()), (c1, _, ()), l2, ()) =>
    loopN N (at_25_L2 N) (((), id0, 0, ()), (c1, (), ()), l2, ())
theorem eq_at_25 (N : Nat) (x : (ap_at_25).den) : funX Try.prog (fs15 N) N 25 lo_at_25 jo_at_25 Try.f25 ap_at_25 rp_at_25 x = at_25 N x := by kernel_rfl
noncomputable def sp_at_25 (N : Nat) : FSpec := specOf ap_at_25 rp_at_25 true (at_25 N)
theorem ok_at_25 (N : Nat) : FSound Try.prog 25 (sp_at_25 N) := funX_sound (N := N) (loops := lo_at_25) (joins := jo_at_25) (fsok15 N) Try.func25 (by kernel_rfl) (by kernel_rfl) fun x _ h => (eq_at_25 N x).trans h
noncomputable def fs16 (N : Nat) : FuncId → List V1 → List Blk → Option FSpec := fun g xs H => if g = 25 then some (sp_at_25 N) else fs15 N g xs H
theorem fsok16 (N : Nat) : ∀ g xs H sp, fs16 N g xs H = some sp → FSound Try.prog g sp := fun g xs H sp h => by
  unfold fs16 at h
  by_cases e : g = 25
  · rw [if_pos e] at h; subst e; cases h; exact ok_at_25 N
  · rw [if_neg e] at h; exact fsok15 N g xs H sp h
/-! Add_18 -/
abbrev ap_Add_18 : Pat := ⟨[.one (.ptr 0 0), .one (.int .i64), .one (.int .i64)], [.var 48 [.int .i64, .full 1], .row 59 (.pair (.int .i64) (.int .i64))]⟩
abbrev rp_Add_18 : List Pat := [⟨[.one (.int .i64)], [.var 48 [.int .i64, .full 2], .dead, .row 59 (.pair (.int .i64) (.int .i64))]⟩]
def lo_Add_18 : List LSpec := []
def jo_Add_18 : List LSpec := []
def Add_18 (N : Nat) (x : ((Unit × (Int × (Int × Unit))) × ((Int × (Unit × Unit)) × (List (Int × Int) × Unit)))) : Option ((Int × Unit) × ((Int × (Unit × Unit)) × (Unit × (List (Int × Int) × Unit)))) := match x with
  | ((_, id0, after1, ()), (c2, _, ()), l3, ()) =>
    byB (decide (after1 < 1))
      (some ((1, ()), (c2, (), ()), (), l3, ()))
      (byB (!decide (after1 ≤ 9007199254740991))
          (some ((1, ()), (c2, (), ()), (), l3, ()))
          ((at_25 N (((), id0, ()), (c2, (), ()), l3, ())).bind fun y6 =>
            byB (!decide (y6.1.1 < 0))
              (some ((4, ()), (y6.2.1.1, (), ()), (), y6.2.2.1, ()))
              (byB (!decide ((y6.2.2.1.length : Int) < y6.2.1.1))
                  (some ((3, ()), (y6.2.1.1, (), ()), (), y6.2.2.1, ()))
                  (if (y6.2.2.1.length + 1) * 16 ≤ 140737488355328 then
                    some ((0, ()), (y6.2.1.1, (), ()), (), y6.2.2.1 ++ [(id0, after1)], ())
                    else none))))
theorem eq_Add_18 (N : Nat) (x : (ap_Add_18).den) : funX Try.prog (fs16 N) N 18 lo_Add_18 jo_Add_18 Try.f18 ap_Add_18 rp_Add_18 x = Add_18 N x := by kernel_rfl
noncomputable def sp_Add_18 (N : Nat) : FSpec := specOf ap_Add_18 rp_Add_18 true (Add_18 N)
theorem ok_Add_18 (N : Nat) : FSound Try.prog 18 (sp_Add_18 N) := funX_sound (N := N) (loops := lo_Add_18) (joins := jo_Add_18) (fsok16 N) Try.func18 (by kernel_rfl) (by kernel_rfl) fun x _ h => (eq_Add_18 N x).trans h
noncomputable def fs17 (N : Nat) : FuncId → List V1 → List Blk → Option FSpec := fun g xs H => if g = 18 then some (sp_Add_18 N) else fs16 N g xs H
theorem fsok17 (N : Nat) : ∀ g xs H sp, fs17 N g xs H = some sp → FSound Try.prog g sp := fun g xs H sp h => by
  unfold fs17 at h
  by_cases e : g = 18
  · rw [if_pos e] at h; subst e; cases h; exact ok_Add_18 N
  · rw [if_neg e] at h; exact fsok16 N g xs H sp h
/-! Left_22 -/
abbrev ap_Left_22 : Pat := ⟨[.one (.ptr 0 0), .one (.int .i64)], [.var 48 [.int .i64, .full 1], .row 59 (.pair (.int .i64) (.int .i64))]⟩
abbrev rp_Left_22 : List Pat := [⟨[.one (.int .i64)], [.var 48 [.int .i64, .full 1], .row 59 (.pair (.int .i64) (.int .i64))]⟩]
def lo_Left_22 : List LSpec := []
def jo_Left_22 : List LSpec := []
def Left_22 (N : Nat) (x : ((Unit × (Int × Unit)) × ((Int × (Unit × Unit)) × (List (Int × Int) × Unit)))) : Option ((Int × Unit) × ((Int × (Unit × Unit)) × (List (Int × Int) × Unit))) := match x with
  | ((_, id0, ()), (c1, _, ()), l2, ()) =>
    (at_25 N (((), id0, ()), (c1, (), ()), l2, ())).bind fun y3 =>
    byB (decide (y3.1.1 < 0))
      (some ((0, ()), (y3.2.1.1, (), ()), y3.2.2.1, ()))
      (if (0 ≤ y3.1.1) ∧ (y3.1.1 < (y3.2.2.1.length : Int)) then
        some (((y3.2.2.1.getD y3.1.1.toNat (0, 0)).2, ()), (y3.2.1.1, (), ()), y3.2.2.1, ())
        else none)
theorem eq_Left_22 (N : Nat) (x : (ap_Left_22).den) : funX Try.prog (fs17 N) N 22 lo_Left_22 jo_Left_22 Try.f22 ap_Left_22 rp_Left_22 x = Left_22 N x := by kernel_rfl
noncomputable def sp_Left_22 (N : Nat) : FSpec := specOf ap_Left_22 rp_Left_22 true (Left_22 N)
theorem ok_Left_22 (N : Nat) : FSound Try.prog 22 (sp_Left_22 N) := funX_sound (N := N) (loops := lo_Left_22) (joins := jo_Left_22) (fsok17 N) Try.func22 (by kernel_rfl) (by kernel_rfl) fun x _ h => (eq_Left_22 N x).trans h
noncomputable def fs18 (N : Nat) : FuncId → List V1 → List Blk → Option FSpec := fun g xs H => if g = 22 then some (sp_Left_22 N) else fs17 N g xs H
theorem fsok18 (N : Nat) : ∀ g xs H sp, fs18 N g xs H = some sp → FSound Try.prog g sp := fun g xs H sp h => by
  unfold fs18 at h
  by_cases e : g = 22
  · rw [if_pos e] at h; subst e; cases h; exact ok_Left_22 N
  · rw [if_neg e] at h; exact fsok17 N g xs H sp h
/-! Tick_19 -/
abbrev ap_Tick_19 : Pat := ⟨[.one (.ptr 0 0)], [.var 48 [.int .i64, .full 1], .row 59 (.pair (.int .i64) (.int .i64))]⟩
abbrev rp_Tick_19 : List Pat := [⟨[.one (.full 3)], [.var 48 [.int .i64, .full 2], .dead, .row 59 (.pair (.int .i64) (.int .i64)), .row 3 (.int .i64)]⟩]
def lo_Tick_19 : List LSpec := [⟨4, [0, 3, 4, 5], ⟨[.one (.ptr 0 0), .one (.full 2), .one (.full 3), .one (.int .i64)], [.var 48 [.int .i64, .full 1], .row 59 (.pair (.int .i64) (.int .i64)), .row 3 (.int .i64), .row 59 (.pair (.int .i64) (.int .i64))]⟩⟩]
def jo_Tick_19 : List LSpec := []
def Tick_19_L4 (N : Nat) (again4 : ((Unit × (Unit × (Unit × (Int × Unit)))) × ((Int × (Unit × Unit)) × (List (Int × Int) × (List Int × (List (Int × Int) × Unit))))) → Option ((Unit × Unit) × ((Int × (Unit × Unit)) × (Unit × (List (Int × Int) × (List Int × Unit)))))) (x : ((Unit × (Unit × (Unit × (Int × Unit)))) × ((Int × (Unit × Unit)) × (List (Int × Int) × (List Int × (List (Int × Int) × Unit)))))) : Option ((Unit × Unit) × ((Int × (Unit × Unit)) × (Unit × (List (Int × Int) × (List Int × Unit))))) := match x with
  | ((_, _, _, i2, ()), (c3, _, ()), l4, l5, l6, ()) =>
    byB (decide (i2 < (l4.length : Int)))
      (if (0 ≤ i2) ∧ (i2 < (l4.length : Int)) then
        let t10 := IntKind.wrap .i64 ((l4.getD i2.toNat (0, 0)).2 - 1);
        byB (t10 == 0)
          (if (l5.length + 1) * 8 ≤ 140737488355328 then
            again4 (((), (), (), IntKind.wrap .i64 (i2 + 1), ()), (c3, (), ()), l4, l5 ++ [(l4.getD i2.toNat (0, 0)).1], l6, ())
            else none)
          (if (l6.length + 1) * 16 ≤ 140737488355328 then
            again4 (((), (), (), IntKind.wrap .i64 (i2 + 1), ()), (c3, (), ()), l4, l5, l6 ++ [((l4.getD i2.toNat (0, 0)).1, t10)], ())
            else none)
        else none)
      (some (((), ()), (c3, (), ()), (), l6, l5, ()))
def Tick_19 (N : Nat) (x : ((Unit × Unit) × ((Int × (Unit × Unit)) × (List (Int × Int) × Unit)))) : Option ((Unit × Unit) × ((Int × (Unit × Unit)) × (Unit × (List (Int × Int) × (List Int × Unit))))) := match x with
  | ((_, ()), (c0, _, ()), l1, ()) =>
    loopN N (Tick_19_L4 N) (((), (), (), 0, ()), (c0, (), ()), l1, [], [], ())
theorem eq_Tick_19 (N : Nat) (x : (ap_Tick_19).den) : funX Try.prog (fs18 N) N 19 lo_Tick_19 jo_Tick_19 Try.f19 ap_Tick_19 rp_Tick_19 x = Tick_19 N x := by kernel_rfl
noncomputable def sp_Tick_19 (N : Nat) : FSpec := specOf ap_Tick_19 rp_Tick_19 true (Tick_19 N)
theorem ok_Tick_19 (N : Nat) : FSound Try.prog 19 (sp_Tick_19 N) := funX_sound (N := N) (loops := lo_Tick_19) (joins := jo_Tick_19) (fsok18 N) Try.func19 (by kernel_rfl) (by kernel_rfl) fun x _ h => (eq_Tick_19 N x).trans h
noncomputable def fs19 (N : Nat) : FuncId → List V1 → List Blk → Option FSpec := fun g xs H => if g = 19 then some (sp_Tick_19 N) else fs18 N g xs H
theorem fsok19 (N : Nat) : ∀ g xs H sp, fs19 N g xs H = some sp → FSound Try.prog g sp := fun g xs H sp h => by
  unfold fs19 at h
  by_cases e : g = 19
  · rw [if_pos e] at h; subst e; cases h; exact ok_Tick_19 N
  · rw [if_neg e] at h; exact fsok18 N g xs H sp h
/-! Skip_20 -/
abbrev ap_Skip_20 : Pat := ⟨[.one (.ptr 0 0), .one (.int .i64)], [.var 48 [.int .i64, .full 1], .row 59 (.pair (.int .i64) (.int .i64))]⟩
abbrev rp_Skip_20 : List Pat := [⟨[.one (.full 3), .one (.bool)], [.var 48 [.int .i64, .full 2], .dead, .row 59 (.pair (.int .i64) (.int .i64)), .row 3 (.int .i64)]⟩]
def lo_Skip_20 : List LSpec := [⟨4, [0, 1, 6], ⟨[.one (.ptr 0 0), .one (.int .i64), .one (.full 3)], [.var 48 [.int .i64, .full 2], .dead, .row 59 (.pair (.int .i64) (.int .i64)), .row 3 (.int .i64)]⟩⟩, ⟨7, [0, 1, 6, 7, 8, 15, 16, 17, 18, 19, 20], ⟨[.one (.ptr 0 0), .one (.int .i64), .one (.full 3), .one (.int .i64), .one (.int .i64), .one (.ptr 0 0), .one (.ptr 0 0), .one (.ptr 0 1), .one (.full 2), .one (.int .i64), .one (.bool)], [.var 48 [.int .i64, .full 2], .dead, .row 59 (.pair (.int .i64) (.int .i64)), .row 3 (.int .i64)]⟩⟩, ⟨11, [0, 1, 6, 7, 9, 15, 16, 17, 18, 19, 20], ⟨[.one (.ptr 0 0), .one (.int .i64), .one (.full 3), .one (.int .i64), .one (.int .i64), .one (.ptr 0 0), .one (.ptr 0 0), .one (.ptr 0 1), .one (.full 2), .one (.int .i64), .one (.bool)], [.var 48 [.int .i64, .full 2], .dead, .row 59 (.pair (.int .i64) (.int .i64)), .row 3 (.int .i64)]⟩⟩]
def jo_Skip_20 : List LSpec := []
def Skip_20_L11 (N : Nat) (again4 : ((Unit × (Int × (Unit × Unit))) × ((Int × (Unit × Unit)) × (Unit × (List (Int × Int) × (List Int × Unit))))) → Option ((Unit × (Bool × Unit)) × ((Int × (Unit × Unit)) × (Unit × (List (Int × Int) × (List Int × Unit)))))) (again11 : ((Unit × (Int × (Unit × (Int × (Int × (Unit × (Unit × (Unit × (Unit × (Int × (Bool × Unit))))))))))) × ((Int × (Unit × Unit)) × (Unit × (List (Int × Int) × (List Int × Unit))))) → Option ((Unit × (Bool × Unit)) × ((Int × (Unit × Unit)) × (Unit × (List (Int × Int) × (List Int × Unit)))))) (x : ((Unit × (Int × (Unit × (Int × (Int × (Unit × (Unit × (Unit × (Unit × (Int × (Bool × Unit))))))))))) × ((Int × (Unit × Unit)) × (Unit × (List (Int × Int) × (List Int × Unit)))))) : Option ((Unit × (Bool × Unit)) × ((Int × (Unit × Unit)) × (Unit × (List (Int × Int) × (List Int × Unit))))) := match x with
  | ((_, n24, _, least25, i26, _, _, _, _, t27, t28, ()), (c29, _, ()), _, l30, l31, ()) =>
    byB (decide (i26 < (l30.length : Int)))
      (if (0 ≤ i26) ∧ (i26 < (l30.length : Int)) then
        (if (0 ≤ i26) ∧ (i26 < (l30.length : Int)) then
        again11 (((), n24, (), least25, IntKind.wrap .i64 (i26 + 1), (), (), (), (), t27, t28, ()), (c29, (), ()), (), l30.set i26.toNat ((l30.getD i26.toNat (0, 0)).1, IntKind.wrap .i64 ((IntKind.wrap .i64 ((l30.getD i26.toNat (0, 0)).2 - least25)) + 1)), l31, ())
        else none)
        else none)
      ((Tick_19 N (((), ()), (c29, (), ()), l30, ())).bind fun y39 =>
        if (l31.length + y39.2.2.2.2.1.length) * 8 ≤ 140737488355328 then
        again4 (((), IntKind.wrap .i64 (n24 - least25), (), ()), (y39.2.1.1, (), ()), (), y39.2.2.2.1, l31 ++ y39.2.2.2.2.1, ())
        else none)
def Skip_20_L7 (N : Nat) (again4 : ((Unit × (Int × (Unit × Unit))) × ((Int × (Unit × Unit)) × (Unit × (List (Int × Int) × (List Int × Unit))))) → Option ((Unit × (Bool × Unit)) × ((Int × (Unit × Unit)) × (Unit × (List (Int × Int) × (List Int × Unit)))))) (again7 : ((Unit × (Int × (Unit × (Int × (Int × (Unit × (Unit × (Unit × (Unit × (Int × (Bool × Unit))))))))))) × ((Int × (Unit × Unit)) × (Unit × (List (Int × Int) × (List Int × Unit))))) → Option ((Unit × (Bool × Unit)) × ((Int × (Unit × Unit)) × (Unit × (List (Int × Int) × (List Int × Unit)))))) (x : ((Unit × (Int × (Unit × (Int × (Int × (Unit × (Unit × (Unit × (Unit × (Int × (Bool × Unit))))))))))) × ((Int × (Unit × Unit)) × (Unit × (List (Int × Int) × (List Int × Unit)))))) : Option ((Unit × (Bool × Unit)) × ((Int × (Unit × Unit)) × (Unit × (List (Int × Int) × (List Int × Unit))))) := match x with
  | ((_, n11, _, least12, i13, _, _, _, _, t14, t15, ()), (c16, _, ()), _, l17, l18, ()) =>
    byB (decide (i13 < (l17.length : Int)))
      (if (0 ≤ i13) ∧ (i13 < (l17.length : Int)) then
        again7 (((), n11, (), if (l17.getD i13.toNat (0, 0)).2 < least12 then (l17.getD i13.toNat (0, 0)).2 else least12, IntKind.wrap .i64 (i13 + 1), (), (), (), (), t14, t15, ()), (c16, (), ()), (), l17, l18, ())
        else none)
      (loopN N (Skip_20_L11 N again4) (((), n11, (), least12, 0, (), (), (), (), t14, t15, ()), (c16, (), ()), (), l17, l18, ()))
def Skip_20_L4 (N : Nat) (again4 : ((Unit × (Int × (Unit × Unit))) × ((Int × (Unit × Unit)) × (Unit × (List (Int × Int) × (List Int × Unit))))) → Option ((Unit × (Bool × Unit)) × ((Int × (Unit × Unit)) × (Unit × (List (Int × Int) × (List Int × Unit)))))) (x : ((Unit × (Int × (Unit × Unit))) × ((Int × (Unit × Unit)) × (Unit × (List (Int × Int) × (List Int × Unit)))))) : Option ((Unit × (Bool × Unit)) × ((Int × (Unit × Unit)) × (Unit × (List (Int × Int) × (List Int × Unit))))) := match x with
  | ((_, n4, _, ()), (c5, _, ()), _, l6, l7, ()) =>
    byB (!decide (n4 ≤ 0))
      (let t9 := (l6.length : Int);
        let t10 := !decide (t9 ≤ 0);
        byB t10
          (loopN N (Skip_20_L7 N again4) (((), n4, (), n4, 0, (), (), (), (), t9, t10, ()), (c5, (), ()), (), l6, l7, ()))
          (some (((), true, ()), (c5, (), ()), (), l6, l7, ())))
      (some (((), true, ()), (c5, (), ()), (), l6, l7, ()))
def Skip_20 (N : Nat) (x : ((Unit × (Int × Unit)) × ((Int × (Unit × Unit)) × (List (Int × Int) × Unit)))) : Option ((Unit × (Bool × Unit)) × ((Int × (Unit × Unit)) × (Unit × (List (Int × Int) × (List Int × Unit))))) := match x with
  | ((_, n0, ()), (c1, _, ()), l2, ()) =>
    byB (decide (n0 < 0))
      (some (((), false, ()), (c1, (), ()), (), l2, [], ()))
      (loopN N (Skip_20_L4 N) (((), n0, (), ()), (c1, (), ()), (), l2, [], ()))
theorem eq_Skip_20 (N : Nat) (x : (ap_Skip_20).den) : funX Try.prog (fs19 N) N 20 lo_Skip_20 jo_Skip_20 Try.f20 ap_Skip_20 rp_Skip_20 x = Skip_20 N x := by kernel_rfl
noncomputable def sp_Skip_20 (N : Nat) : FSpec := specOf ap_Skip_20 rp_Skip_20 true (Skip_20 N)
theorem ok_Skip_20 (N : Nat) : FSound Try.prog 20 (sp_Skip_20 N) := funX_sound (N := N) (loops := lo_Skip_20) (joins := jo_Skip_20) (fsok19 N) Try.func20 (by kernel_rfl) (by kernel_rfl) fun x _ h => (eq_Skip_20 N x).trans h
noncomputable def fs20 (N : Nat) : FuncId → List V1 → List Blk → Option FSpec := fun g xs H => if g = 20 then some (sp_Skip_20 N) else fs19 N g xs H
theorem fsok20 (N : Nat) : ∀ g xs H sp, fs20 N g xs H = some sp → FSound Try.prog g sp := fun g xs H sp h => by
  unfold fs20 at h
  by_cases e : g = 20
  · rw [if_pos e] at h; subst e; cases h; exact ok_Skip_20 N
  · rw [if_neg e] at h; exact fsok19 N g xs H sp h
/-! Cancel_21 -/
abbrev ap_Cancel_21 : Pat := ⟨[.one (.ptr 0 0), .one (.int .i64)], [.var 48 [.int .i64, .full 1], .row 59 (.pair (.int .i64) (.int .i64))]⟩
abbrev rp_Cancel_21 : List Pat := [⟨[.one (.bool)], [.var 48 [.int .i64, .full 2], .dead, .row 59 (.pair (.int .i64) (.int .i64))]⟩]
def lo_Cancel_21 : List LSpec := [⟨6, [0, 5, 6, 7], ⟨[.one (.ptr 0 0), .one (.int .i64), .one (.full 2), .one (.int .i64)], [.var 48 [.int .i64, .full 1], .row 59 (.pair (.int .i64) (.int .i64)), .row 59 (.pair (.int .i64) (.int .i64))]⟩⟩]
def jo_Cancel_21 : List LSpec := []
def Cancel_21_L6 (N : Nat) (again6 : ((Unit × (Int × (Unit × (Int × Unit)))) × ((Int × (Unit × Unit)) × (List (Int × Int) × (List (Int × Int) × Unit)))) → Option ((Bool × Unit) × ((Int × (Unit × Unit)) × (Unit × (List (Int × Int) × Unit))))) (x : ((Unit × (Int × (Unit × (Int × Unit)))) × ((Int × (Unit × Unit)) × (List (Int × Int) × (List (Int × Int) × Unit))))) : Option ((Bool × Unit) × ((Int × (Unit × Unit)) × (Unit × (List (Int × Int) × Unit)))) := match x with
  | ((_, at5, _, i6, ()), (c7, _, ()), l8, l9, ()) =>
    byB (decide (i6 < (l8.length : Int)))
      (byB (i6 != at5)
          (if (0 ≤ i6) ∧ (i6 < (l8.length : Int)) then
            (if (l9.length + 1) * 16 ≤ 140737488355328 then
            again6 (((), at5, (), IntKind.wrap .i64 (i6 + 1), ()), (c7, (), ()), l8, l9 ++ [l8.getD i6.toNat (0, 0)], ())
            else none)
            else none)
          (again6 (((), at5, (), IntKind.wrap .i64 (i6 + 1), ()), (c7, (), ()), l8, l9, ())))
      (some ((true, ()), (c7, (), ()), (), l9, ()))
def Cancel_21 (N : Nat) (x : ((Unit × (Int × Unit)) × ((Int × (Unit × Unit)) × (List (Int × Int) × Unit)))) : Option ((Bool × Unit) × ((Int × (Unit × Unit)) × (Unit × (List (Int × Int) × Unit)))) := match x with
  | ((_, id0, ()), (c1, _, ()), l2, ()) =>
    (at_25 N (((), id0, ()), (c1, (), ()), l2, ())).bind fun y3 =>
    byB (decide (y3.1.1 < 0))
      (some ((false, ()), (y3.2.1.1, (), ()), (), y3.2.2.1, ()))
      (loopN N (Cancel_21_L6 N) (((), y3.1.1, (), 0, ()), (y3.2.1.1, (), ()), y3.2.2.1, [], ()))
theorem eq_Cancel_21 (N : Nat) (x : (ap_Cancel_21).den) : funX Try.prog (fs20 N) N 21 lo_Cancel_21 jo_Cancel_21 Try.f21 ap_Cancel_21 rp_Cancel_21 x = Cancel_21 N x := by kernel_rfl
noncomputable def sp_Cancel_21 (N : Nat) : FSpec := specOf ap_Cancel_21 rp_Cancel_21 true (Cancel_21 N)
theorem ok_Cancel_21 (N : Nat) : FSound Try.prog 21 (sp_Cancel_21 N) := funX_sound (N := N) (loops := lo_Cancel_21) (joins := jo_Cancel_21) (fsok20 N) Try.func21 (by kernel_rfl) (by kernel_rfl) fun x _ h => (eq_Cancel_21 N x).trans h
noncomputable def fs21 (N : Nat) : FuncId → List V1 → List Blk → Option FSpec := fun g xs H => if g = 21 then some (sp_Cancel_21 N) else fs20 N g xs H
theorem fsok21 (N : Nat) : ∀ g xs H sp, fs21 N g xs H = some sp → FSound Try.prog g sp := fun g xs H sp h => by
  unfold fs21 at h
  by_cases e : g = 21
  · rw [if_pos e] at h; subst e; cases h; exact ok_Cancel_21 N
  · rw [if_neg e] at h; exact fsok20 N g xs H sp h
/-! DeltaPlays_5 -/
abbrev ap_DeltaPlays_5 : Pat := ⟨[.one (.int .i64), .one (.ro (.pair (.int .i64) (.pair (.int .i64) (.int .i64))))], []⟩
abbrev rp_DeltaPlays_5 : List Pat := [⟨[.one (.bool)], []⟩]
def lo_DeltaPlays_5 : List LSpec := [⟨9, [1, 5, 6, 8, 9], ⟨[.one (.ro (.pair (.int .i64) (.pair (.int .i64) (.int .i64)))), .one (.bool), .one (.ptr 0 0), .one (.ptr 1 0), .one (.int .i64)], [.var 52 [.int .i64, .int .i64, .lnk 2], .var 48 [.int .i64, .full 3], .chn 57 (.pair (.int .i64) (.int .i64)), .row 59 (.pair (.int .i64) (.int .i64))]⟩⟩]
def jo_DeltaPlays_5 : List LSpec := [⟨23, [1, 5, 6, 8, 9, 10, 11, 46, 47], ⟨[.one (.ro (.pair (.int .i64) (.pair (.int .i64) (.int .i64)))), .one (.bool), .one (.ptr 0 0), .one (.ptr 1 0), .one (.int .i64), .one (.ptr 2 0), .one (.bool), .one (.int .i64), .one (.bool)], [.var 52 [.int .i64, .int .i64, .lnk 3], .var 48 [.int .i64, .full 4], .var 43 [.int .i64, .int .i64, .int .i64], .chn 57 (.pair (.int .i64) (.int .i64)), .row 59 (.pair (.int .i64) (.int .i64))]⟩⟩]
def DeltaPlays_5_J23 (N : Nat) (again9 : ((List (Int × (Int × Int)) × (Bool × (Unit × (Unit × (Int × Unit))))) × ((Int × (Int × (Unit × Unit))) × ((Int × (Unit × Unit)) × (List (Int × Int) × (List (Int × Int) × Unit))))) → Option ((Bool × Unit) × Unit)) (x : ((List (Int × (Int × Int)) × (Bool × (Unit × (Unit × (Int × (Unit × (Bool × (Int × (Bool × Unit))))))))) × ((Int × (Int × (Unit × Unit))) × ((Int × (Unit × Unit)) × ((Int × (Int × (Int × Unit))) × (List (Int × Int) × (List (Int × Int) × Unit))))))) : Option ((Bool × Unit) × Unit) := match x with
  | ((deeds42, head43, _, _, i44, _, good45, t46, t47, ()), (c48, c49, _, ()), (c50, _, ()), (c51, c52, c53, ()), l54, l55, ()) =>
    byB (!good45)
      (some ((false, ()), ()))
      ((Len_15 N (((), ()), (c48, c49, (), ()), l54, ())).bind fun y57 =>
        byB (y57.1.1 != (l55.length : Int))
          (some ((false, ()), ()))
          ((Left_14 N (((), c52, ()), (y57.2.1.1, y57.2.1.2.1, (), ()), y57.2.2.1, ())).bind fun y60 =>
            (Left_22 N (((), c52, ()), (c50, (), ()), l55, ())).bind fun y61 =>
            byB (y60.1.1 != y61.1.1)
              (some ((false, ()), ()))
              (again9 ((deeds42, head43, (), (), IntKind.wrap .i64 (i44 + 1), ()), (y60.2.1.1, y60.2.1.2.1, (), ()), (y61.2.1.1, (), ()), y60.2.2.1, y61.2.2.1, ()))))
def DeltaPlays_5_L9 (N : Nat) (again9 : ((List (Int × (Int × Int)) × (Bool × (Unit × (Unit × (Int × Unit))))) × ((Int × (Int × (Unit × Unit))) × ((Int × (Unit × Unit)) × (List (Int × Int) × (List (Int × Int) × Unit))))) → Option ((Bool × Unit) × Unit)) (x : ((List (Int × (Int × Int)) × (Bool × (Unit × (Unit × (Int × Unit))))) × ((Int × (Int × (Unit × Unit))) × ((Int × (Unit × Unit)) × (List (Int × Int) × (List (Int × Int) × Unit)))))) : Option ((Bool × Unit) × Unit) := match x with
  | ((deeds11, head12, _, _, i13, ()), (c14, c15, _, ()), (c16, _, ()), l17, l18, ()) =>
    byB (decide (i13 < (deeds11.length : Int)))
      (let t21 := decide (i13 < 300);
        byB t21
          (if (0 ≤ i13) ∧ (i13 < (deeds11.length : Int)) then
            let e22 := deeds11.getD i13.toNat (0, 0, 0);
            withJoin (DeltaPlays_5_J23 N again9) fun join23 =>
            (pick_9 N ((e22.1, 4, ()), ())).bind fun y23 =>
            byB (y23.1.1 == 0)
              ((Add_10 N (((), e22.2.1, e22.2.2, ()), (c14, c15, (), ()), l17, ())).bind fun y25 =>
                (Add_18 N (((), e22.2.1, e22.2.2, ()), (c16, (), ()), l18, ())).bind fun y26 =>
                join23 ((deeds11, head12, (), (), i13, (), y25.1.1 == y26.1.1, i13, t21, ()), (y25.2.1.1, y25.2.1.2.1, (), ()), (y26.2.1.1, (), ()), (e22.1, e22.2.1, e22.2.2, ()), y25.2.2.2.1, y26.2.2.2.1, ()))
              (byB (y23.1.1 == 1)
                  ((Tick_12 N (((), ()), (c14, c15, (), ()), l17, ())).bind fun y29 =>
                    (Tick_19 N (((), ()), (c16, (), ()), l18, ())).bind fun y30 =>
                    (numbers_13 N ((y29.2.2.2.2.1, y30.2.2.2.2.1, ()), ())).bind fun y31 =>
                    join23 ((deeds11, head12, (), (), i13, (), y31.1.1, i13, t21, ()), (y29.2.1.1, y29.2.1.2.1, (), ()), (y30.2.1.1, (), ()), (e22.1, e22.2.1, e22.2.2, ()), y29.2.2.2.1, y30.2.2.2.1, ()))
                  (byB (y23.1.1 == 2)
                      ((Skip_11 N (((), e22.2.2, ()), (c14, c15, (), ()), l17, ())).bind fun y33 =>
                        (Skip_20 N (((), e22.2.2, ()), (c16, (), ()), l18, ())).bind fun y34 =>
                        (numbers_13 N ((y33.2.2.2.2.1, y34.2.2.2.2.1, ()), ())).bind fun y35 =>
                        byB y35.1.1
                          (byB ((y33.1.2.1 == 0) == y34.1.2.1)
                              (byB y34.1.2.1
                                  (join23 ((deeds11, head12, (), (), i13, (), true, i13, t21, ()), (y33.2.1.1, y33.2.1.2.1, (), ()), (y34.2.1.1, (), ()), (e22.1, e22.2.1, e22.2.2, ()), y33.2.2.2.1, y34.2.2.2.1, ()))
                                  (join23 ((deeds11, head12, (), (), i13, (), y33.1.2.1 == 1, i13, t21, ()), (y33.2.1.1, y33.2.1.2.1, (), ()), (y34.2.1.1, (), ()), (e22.1, e22.2.1, e22.2.2, ()), y33.2.2.2.1, y34.2.2.2.1, ())))
                              (join23 ((deeds11, head12, (), (), i13, (), false, i13, t21, ()), (y33.2.1.1, y33.2.1.2.1, (), ()), (y34.2.1.1, (), ()), (e22.1, e22.2.1, e22.2.2, ()), y33.2.2.2.1, y34.2.2.2.1, ())))
                          (join23 ((deeds11, head12, (), (), i13, (), false, i13, t21, ()), (y33.2.1.1, y33.2.1.2.1, (), ()), (y34.2.1.1, (), ()), (e22.1, e22.2.1, e22.2.2, ()), y33.2.2.2.1, y34.2.2.2.1, ())))
                      ((Cancel_16 N (((), e22.2.1, ()), (c14, c15, (), ()), l17, ())).bind fun y39 =>
                        (Cancel_21 N (((), e22.2.1, ()), (c16, (), ()), l18, ())).bind fun y40 =>
                        join23 ((deeds11, head12, (), (), i13, (), y39.1.1 == y40.1.1, i13, t21, ()), (y39.2.1.1, y39.2.1.2.1, (), ()), (y40.2.1.1, (), ()), (e22.1, e22.2.1, e22.2.2, ()), y39.2.2.2.1, y40.2.2.2.1, ()))))
            else none)
          (some ((head12, ()), ())))
      (some ((head12, ()), ()))
def DeltaPlays_5 (N : Nat) (x : ((Int × (List (Int × (Int × Int)) × Unit)) × Unit)) : Option ((Bool × Unit) × Unit) := match x with
  | ((room0, deeds1, ()), ()) =>
    (examples_7 N ((), ())).bind fun y2 =>
    (New_8 N ((room0, ()), ())).bind fun y => match y with
    | .inl y3 =>
      (New_17 N ((room0, ()), ())).bind fun y => match y with
      | .inl y4 =>
        byB y2.1.1
          (some ((y3.1.2.1 == 1, ()), ()))
          (some ((false, ()), ()))
      | .inr y6 =>
        some ((false, ()), ())
    | .inr y7 =>
      (New_17 N ((room0, ()), ())).bind fun y => match y with
      | .inl y8 =>
        byB y2.1.1
          (some ((false, ()), ()))
          (some ((false, ()), ()))
      | .inr y9 =>
        byB (y7.1.2.1 != 0)
          (some ((false, ()), ()))
          (loopN N (DeltaPlays_5_L9 N) ((deeds1, y2.1.1, (), (), 0, ()), (y7.2.1.1, y7.2.1.2.1, (), ()), (y9.2.1.1, (), ()), y7.2.2.1, y9.2.2.1, ()))
theorem eq_DeltaPlays_5 (N : Nat) (x : (ap_DeltaPlays_5).den) : funX Try.prog (fs21 N) N 5 lo_DeltaPlays_5 jo_DeltaPlays_5 Try.f5 ap_DeltaPlays_5 rp_DeltaPlays_5 x = DeltaPlays_5 N x := by kernel_rfl
noncomputable def sp_DeltaPlays_5 (N : Nat) : FSpec := specOf ap_DeltaPlays_5 rp_DeltaPlays_5 true (DeltaPlays_5 N)
theorem ok_DeltaPlays_5 (N : Nat) : FSound Try.prog 5 (sp_DeltaPlays_5 N) := funX_sound (N := N) (loops := lo_DeltaPlays_5) (joins := jo_DeltaPlays_5) (fsok21 N) Try.func5 (by kernel_rfl) (by kernel_rfl) fun x _ h => (eq_DeltaPlays_5 N x).trans h
noncomputable def fs22 (N : Nat) : FuncId → List V1 → List Blk → Option FSpec := fun g xs H => if g = 5 then some (sp_DeltaPlays_5 N) else fs21 N g xs H
theorem fsok22 (N : Nat) : ∀ g xs H sp, fs22 N g xs H = some sp → FSound Try.prog g sp := fun g xs H sp h => by
  unfold fs22 at h
  by_cases e : g = 5
  · rw [if_pos e] at h; subst e; cases h; exact ok_DeltaPlays_5 N
  · rw [if_neg e] at h; exact fsok21 N g xs H sp h
/-! DeltaOnce_6 -/
abbrev ap_DeltaOnce_6 : Pat := ⟨[.one (.ro (.int .i64)), .one (.ro (.int .i64))], []⟩
abbrev rp_DeltaOnce_6 : List Pat := [⟨[.one (.bool)], []⟩]
def lo_DeltaOnce_6 : List LSpec := [⟨8, [0, 1, 5, 6, 8, 9, 10], ⟨[.one (.ro (.int .i64)), .one (.ro (.int .i64)), .one (.bool), .one (.ptr 0 0), .one (.int .i64), .one (.full 1), .one (.int .i64)], [.var 52 [.int .i64, .int .i64, .lnk 2], .row 3 (.int .i64), .chn 57 (.pair (.int .i64) (.int .i64))]⟩⟩, ⟨25, [0, 1, 5, 6, 8, 9, 10, 14, 15, 16], ⟨[.one (.ro (.int .i64)), .one (.ro (.int .i64)), .one (.bool), .one (.ptr 0 0), .one (.int .i64), .one (.full 1), .one (.int .i64), .one (.full 2), .one (.int .i64), .one (.int .i64)], [.var 52 [.int .i64, .int .i64, .lnk 3], .row 3 (.int .i64), .row 3 (.int .i64), .chn 57 (.pair (.int .i64) (.int .i64))]⟩⟩, ⟨32, [0, 1, 5, 6, 8, 9, 10, 14, 17], ⟨[.one (.ro (.int .i64)), .one (.ro (.int .i64)), .one (.bool), .one (.ptr 0 0), .one (.int .i64), .one (.full 1), .one (.int .i64), .one (.full 2), .one (.int .i64)], [.var 52 [.int .i64, .int .i64, .lnk 3], .row 3 (.int .i64), .row 3 (.int .i64), .chn 57 (.pair (.int .i64) (.int .i64))]⟩⟩]
def jo_DeltaOnce_6 : List LSpec := [⟨16, [0, 1, 5, 6, 8, 9, 10, 11, 66], ⟨[.one (.ro (.int .i64)), .one (.ro (.int .i64)), .one (.bool), .one (.ptr 0 0), .one (.int .i64), .one (.full 1), .one (.int .i64), .one (.int .i64), .one (.bool)], [.var 52 [.int .i64, .int .i64, .lnk 2], .row 3 (.int .i64), .chn 57 (.pair (.int .i64) (.int .i64))]⟩⟩, ⟨15, [0, 1, 5, 6, 8, 9, 10, 11], ⟨[.one (.ro (.int .i64)), .one (.ro (.int .i64)), .one (.bool), .one (.ptr 0 0), .one (.int .i64), .one (.full 1), .one (.int .i64), .one (.int .i64)], [.var 52 [.int .i64, .int .i64, .lnk 2], .row 3 (.int .i64), .chn 57 (.pair (.int .i64) (.int .i64))]⟩⟩]
def DeltaOnce_6_L32 (N : Nat) (again8 : ((List Int × (List Int × (Bool × (Unit × (Int × (Unit × (Int × Unit))))))) × ((Int × (Int × (Unit × Unit))) × (List Int × (List (Int × Int) × Unit)))) → Option ((Bool × Unit) × Unit)) (again32 : ((List Int × (List Int × (Bool × (Unit × (Int × (Unit × (Int × (Unit × (Int × Unit))))))))) × ((Int × (Int × (Unit × Unit))) × (List Int × (List Int × (List (Int × Int) × Unit))))) → Option ((Bool × Unit) × Unit)) (x : ((List Int × (List Int × (Bool × (Unit × (Int × (Unit × (Int × (Unit × (Int × Unit))))))))) × ((Int × (Int × (Unit × Unit))) × (List Int × (List Int × (List (Int × Int) × Unit)))))) : Option ((Bool × Unit) × Unit) := match x with
  | ((after230, gone231, head232, _, n233, _, tick234, _, i235, ()), (c236, c237, _, ()), l238, l239, l240, ()) =>
    byB (decide (i235 < (l239.length : Int)))
      (if (0 ≤ i235) ∧ (i235 < (l239.length : Int)) then
        byB (decide ((l239.getD i235.toNat 0) < 0))
          (some ((false, ()), ()))
          (if (0 ≤ i235) ∧ (i235 < (l239.length : Int)) then
            byB (!decide ((l239.getD i235.toNat 0) < n233))
              (some ((false, ()), ()))
              (if (0 ≤ i235) ∧ (i235 < (l239.length : Int)) then
                let t247 := l239.getD i235.toNat 0;
                if (0 ≤ t247) ∧ (t247 < (l238.length : Int)) then
                byB ((l238.getD t247.toNat 0) != tick234)
                  (some ((false, ()), ()))
                  (byB (!decide (i235 ≤ 0))
                      (if (0 ≤ i235) ∧ (i235 < (l239.length : Int)) then
                        let t252 := IntKind.wrap .i64 (i235 - 1);
                        if (0 ≤ t252) ∧ (t252 < (l239.length : Int)) then
                        byB (decide ((l239.getD i235.toNat 0) ≤ (l239.getD t252.toNat 0)))
                          (some ((false, ()), ()))
                          (again32 ((after230, gone231, head232, (), n233, (), tick234, (), IntKind.wrap .i64 (i235 + 1), ()), (c236, c237, (), ()), l238, l239, l240, ()))
                        else none
                        else none)
                      (again32 ((after230, gone231, head232, (), n233, (), tick234, (), IntKind.wrap .i64 (i235 + 1), ()), (c236, c237, (), ()), l238, l239, l240, ())))
                else none
                else none)
            else none)
        else none)
      (again8 ((after230, gone231, head232, (), n233, (), IntKind.wrap .i64 (tick234 + 1), ()), (c236, c237, (), ()), l238, l240, ()))
def DeltaOnce_6_L25 (N : Nat) (again8 : ((List Int × (List Int × (Bool × (Unit × (Int × (Unit × (Int × Unit))))))) × ((Int × (Int × (Unit × Unit))) × (List Int × (List (Int × Int) × Unit)))) → Option ((Bool × Unit) × Unit)) (again25 : ((List Int × (List Int × (Bool × (Unit × (Int × (Unit × (Int × (Unit × (Int × (Int × Unit)))))))))) × ((Int × (Int × (Unit × Unit))) × (List Int × (List Int × (List (Int × Int) × Unit))))) → Option ((Bool × Unit) × Unit)) (x : ((List Int × (List Int × (Bool × (Unit × (Int × (Unit × (Int × (Unit × (Int × (Int × Unit)))))))))) × ((Int × (Int × (Unit × Unit))) × (List Int × (List Int × (List (Int × Int) × Unit)))))) : Option ((Bool × Unit) × Unit) := match x with
  | ((after210, gone211, head212, _, n213, _, tick214, _, many215, i216, ()), (c217, c218, _, ()), l219, l220, l221, ()) =>
    byB (decide (i216 < n213))
      (if (0 ≤ i216) ∧ (i216 < (l219.length : Int)) then
        byB ((l219.getD i216.toNat 0) == tick214)
          (again25 ((after210, gone211, head212, (), n213, (), tick214, (), IntKind.wrap .i64 (many215 + 1), IntKind.wrap .i64 (i216 + 1), ()), (c217, c218, (), ()), l219, l220, l221, ()))
          (again25 ((after210, gone211, head212, (), n213, (), tick214, (), many215, IntKind.wrap .i64 (i216 + 1), ()), (c217, c218, (), ()), l219, l220, l221, ()))
        else none)
      (byB ((l220.length : Int) != many215)
          (some ((false, ()), ()))
          (loopN N (DeltaOnce_6_L32 N again8) ((after210, gone211, head212, (), n213, (), tick214, (), 0, ()), (c217, c218, (), ()), l219, l220, l221, ())))
def DeltaOnce_6_J16 (N : Nat) (again8 : ((List Int × (List Int × (Bool × (Unit × (Int × (Unit × (Int × Unit))))))) × ((Int × (Int × (Unit × Unit))) × (List Int × (List (Int × Int) × Unit)))) → Option ((Bool × Unit) × Unit)) (x : ((List Int × (List Int × (Bool × (Unit × (Int × (Unit × (Int × (Int × (Bool × Unit))))))))) × ((Int × (Int × (Unit × Unit))) × (List Int × (List (Int × Int) × Unit))))) : Option ((Bool × Unit) × Unit) := match x with
  | ((after41, gone42, head43, _, n44, _, tick45, k46, t47, ()), (c48, c49, _, ()), l50, l51, ()) =>
    byB t47
      (if (0 ≤ k46) ∧ (k46 < (gone42.length : Int)) then
        (pick_9 N ((gone42.getD k46.toNat 0, n44, ()), ())).bind fun y53 =>
        byB (decide (y53.1.1 < tick45))
          (if (0 ≤ y53.1.1) ∧ (y53.1.1 < (l50.length : Int)) then
            let t56 := !decide ((l50.getD y53.1.1.toNat 0) < tick45);
            (Cancel_16 N (((), y53.1.1, ()), (c48, c49, (), ()), l51, ())).bind fun y57 =>
            byB (!(y57.1.1 == t56))
              (some ((false, ()), ()))
              (byB t56
                  (if (0 ≤ y53.1.1) ∧ (y53.1.1 < (l50.length : Int)) then
                    (Tick_12 N (((), ()), (y57.2.1.1, y57.2.1.2.1, (), ()), y57.2.2.2.1, ())).bind fun y60 =>
                    loopN N (DeltaOnce_6_L25 N again8) ((after41, gone42, head43, (), n44, (), tick45, (), 0, 0, ()), (y60.2.1.1, y60.2.1.2.1, (), ()), l50.set y53.1.1.toNat 0, y60.2.2.2.2.1, y60.2.2.2.1, ())
                    else none)
                  ((Tick_12 N (((), ()), (y57.2.1.1, y57.2.1.2.1, (), ()), y57.2.2.2.1, ())).bind fun y109 =>
                    loopN N (DeltaOnce_6_L25 N again8) ((after41, gone42, head43, (), n44, (), tick45, (), 0, 0, ()), (y109.2.1.1, y109.2.1.2.1, (), ()), l50, y109.2.2.2.2.1, y109.2.2.2.1, ())))
            else none)
          ((Cancel_16 N (((), y53.1.1, ()), (c48, c49, (), ()), l51, ())).bind fun y158 =>
            byB (!(y158.1.1 == false))
              (some ((false, ()), ()))
              ((Tick_12 N (((), ()), (y158.2.1.1, y158.2.1.2.1, (), ()), y158.2.2.2.1, ())).bind fun y160 =>
                loopN N (DeltaOnce_6_L25 N again8) ((after41, gone42, head43, (), n44, (), tick45, (), 0, 0, ()), (y160.2.1.1, y160.2.1.2.1, (), ()), l50, y160.2.2.2.2.1, y160.2.2.2.1, ())))
        else none)
      ((Tick_12 N (((), ()), (c48, c49, (), ()), l51, ())).bind fun y209 =>
        loopN N (DeltaOnce_6_L25 N again8) ((after41, gone42, head43, (), n44, (), tick45, (), 0, 0, ()), (y209.2.1.1, y209.2.1.2.1, (), ()), l50, y209.2.2.2.2.1, y209.2.2.2.1, ()))
def DeltaOnce_6_J15 (N : Nat) (again8 : ((List Int × (List Int × (Bool × (Unit × (Int × (Unit × (Int × Unit))))))) × ((Int × (Int × (Unit × Unit))) × (List Int × (List (Int × Int) × Unit)))) → Option ((Bool × Unit) × Unit)) (x : ((List Int × (List Int × (Bool × (Unit × (Int × (Unit × (Int × (Int × Unit)))))))) × ((Int × (Int × (Unit × Unit))) × (List Int × (List (Int × Int) × Unit))))) : Option ((Bool × Unit) × Unit) := match x with
  | ((after28, gone29, head30, _, n31, _, tick32, k33, ()), (c34, c35, _, ()), l36, l37, ()) =>
    withJoin (DeltaOnce_6_J16 N again8) fun join16 =>
    byB (decide (k33 < (gone29.length : Int)))
      (join16 ((after28, gone29, head30, (), n31, (), tick32, k33, !decide (n31 ≤ 0), ()), (c34, c35, (), ()), l36, l37, ()))
      (join16 ((after28, gone29, head30, (), n31, (), tick32, k33, false, ()), (c34, c35, (), ()), l36, l37, ()))
def DeltaOnce_6_L8 (N : Nat) (again8 : ((List Int × (List Int × (Bool × (Unit × (Int × (Unit × (Int × Unit))))))) × ((Int × (Int × (Unit × Unit))) × (List Int × (List (Int × Int) × Unit)))) → Option ((Bool × Unit) × Unit)) (x : ((List Int × (List Int × (Bool × (Unit × (Int × (Unit × (Int × Unit))))))) × ((Int × (Int × (Unit × Unit))) × (List Int × (List (Int × Int) × Unit))))) : Option ((Bool × Unit) × Unit) := match x with
  | ((after7, gone8, head9, _, n10, _, tick11, ()), (c12, c13, _, ()), l14, l15, ()) =>
    byB (decide (tick11 ≤ 300))
      (let t17 := IntKind.wrap .i64 (tick11 - 1);
        withJoin (DeltaOnce_6_J15 N again8) fun join15 =>
        byB (decide (t17 < n10))
          (if (0 ≤ t17) ∧ (t17 < (after7.length : Int)) then
            (pick_9 N ((after7.getD t17.toNat 0, 200, ()), ())).bind fun y20 =>
            if (0 ≤ t17) ∧ (t17 < (l14.length : Int)) then
            (if (0 ≤ t17) ∧ (t17 < (after7.length : Int)) then
            (pick_9 N ((after7.getD t17.toNat 0, 200, ()), ())).bind fun y24 =>
            (Add_10 N (((), t17, IntKind.wrap .i64 (1 + y24.1.1), ()), (c12, c13, (), ()), l15, ())).bind fun y26 =>
            byB (y26.1.1 != 0)
              (some ((false, ()), ()))
              (join15 ((after7, gone8, head9, (), n10, (), tick11, t17, ()), (y26.2.1.1, y26.2.1.2.1, (), ()), l14.set t17.toNat (IntKind.wrap .i64 (tick11 + y20.1.1)), y26.2.2.2.1, ()))
            else none)
            else none
            else none)
          (join15 ((after7, gone8, head9, (), n10, (), tick11, t17, ()), (c12, c13, (), ()), l14, l15, ())))
      (byB head9
          ((Len_15 N (((), ()), (c12, c13, (), ()), l15, ())).bind fun y258 =>
            some ((y258.1.1 == 0, ()), ()))
          (some ((false, ()), ())))
def DeltaOnce_6 (N : Nat) (x : ((List Int × (List Int × Unit)) × Unit)) : Option ((Bool × Unit) × Unit) := match x with
  | ((after0, gone1, ()), ()) =>
    (examples_7 N ((), ())).bind fun y2 =>
    (New_8 N ((256, ()), ())).bind fun y => match y with
    | .inl y3 =>
      some ((false, ()), ())
    | .inr y4 =>
      let t6 := if 60 < (after0.length : Int) then 60 else (after0.length : Int);
      if (0 ≤ t6) ∧ (t6 ≤ t6) ∧ (8 * t6 ≤ 281474976710656) then
      loopN N (DeltaOnce_6_L8 N) ((after0, gone1, y2.1.1, (), t6, (), 1, ()), (y4.2.1.1, y4.2.1.2.1, (), ()), List.replicate t6.toNat 0, y4.2.2.1, ())
      else none
theorem eq_DeltaOnce_6 (N : Nat) (x : (ap_DeltaOnce_6).den) : funX Try.prog (fs22 N) N 6 lo_DeltaOnce_6 jo_DeltaOnce_6 Try.f6 ap_DeltaOnce_6 rp_DeltaOnce_6 x = DeltaOnce_6 N x := by kernel_rfl
noncomputable def sp_DeltaOnce_6 (N : Nat) : FSpec := specOf ap_DeltaOnce_6 rp_DeltaOnce_6 true (DeltaOnce_6 N)
theorem ok_DeltaOnce_6 (N : Nat) : FSound Try.prog 6 (sp_DeltaOnce_6 N) := funX_sound (N := N) (loops := lo_DeltaOnce_6) (joins := jo_DeltaOnce_6) (fsok22 N) Try.func6 (by kernel_rfl) (by kernel_rfl) fun x _ h => (eq_DeltaOnce_6 N x).trans h
noncomputable def fs23 (N : Nat) : FuncId → List V1 → List Blk → Option FSpec := fun g xs H => if g = 6 then some (sp_DeltaOnce_6 N) else fs22 N g xs H
theorem fsok23 (N : Nat) : ∀ g xs H sp, fs23 N g xs H = some sp → FSound Try.prog g sp := fun g xs H sp h => by
  unfold fs23 at h
  by_cases e : g = 6
  · rw [if_pos e] at h; subst e; cases h; exact ok_DeltaOnce_6 N
  · rw [if_neg e] at h; exact fsok22 N g xs H sp h
end Go.Proofs.YtcaapoidmfkldaaX
