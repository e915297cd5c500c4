/- Functions of the program as plain Lean, each with its equation (printed by a program of this seat's own). Conditions: none. -/
import Derived.Test.YtmpccpcalijnpaaM6
import Derived.Test.YtmpccpcalijnpaaProg
import Derived.KernelRfl
namespace Go.Proofs.YtmpccpcalijnpaaX
open Go Go.Proofs.YtmpccpcalijnpaaM
set_option maxRecDepth 100000
set_option linter.unusedVariables false
noncomputable def fs0 (_ : Nat) : FuncId → List V1 → List Blk → Option FSpec := fun _ _ _ => none
theorem fsok0 (N : Nat) : ∀ g xs H sp, fs0 N g xs H = some sp → FSound Try.prog g sp := fun _ _ _ _ h => by cases h
/-! time1_32 -/
abbrev ap_time1_32 : Pat := ⟨[.one (.int .i64)], []⟩
abbrev rp_time1_32 : List Pat := [⟨[.one (.bool)], []⟩]
def lo_time1_32 : List LSpec := []
def jo_time1_32 : List LSpec := []
def time1_32 (N : Nat) (x : ((Int × Unit) × Unit)) : Option ((Bool × Unit) × Unit) := match x with
  | ((n0, ()), ()) =>
    byB (decide (n0 < 0))
      (some ((true, ()), ()))
      (some ((decide (n0 > 1099511627776), ()), ()))
theorem eq_time1_32 (N : Nat) (x : (ap_time1_32).den) : funX Try.prog (fs0 N) N 32 lo_time1_32 jo_time1_32 Try.f32 ap_time1_32 rp_time1_32 x = time1_32 N x := by kernel_rfl
noncomputable def sp_time1_32 (N : Nat) : FSpec := specOf ap_time1_32 rp_time1_32 true (time1_32 N)
theorem ok_time1_32 (N : Nat) : FSound Try.prog 32 (sp_time1_32 N) := funX_sound (N := N) (loops := lo_time1_32) (joins := jo_time1_32) (fsok0 N) Try.func32 (by kernel_rfl) (by kernel_rfl) fun x _ h => (eq_time1_32 N x).trans h
noncomputable def fs1 (N : Nat) : FuncId → List V1 → List Blk → Option FSpec := fun g xs H => if g = 32 then some (sp_time1_32 N) else fs0 N g xs H
theorem fsok1 (N : Nat) : ∀ g xs H sp, fs1 N g xs H = some sp → FSound Try.prog g sp := fun g xs H sp h => by
  unfold fs1 at h
  by_cases e : g = 32
  · rw [if_pos e] at h; subst e; cases h; exact ok_time1_32 N
  · rw [if_neg e] at h; exact fsok0 N g xs H sp h
/-! IndexFuncintint_35 -/
abbrev ap_IndexFuncintint_35 : Pat := ⟨[.one (.ro (.int .i64)), .one (.sfn 32)], []⟩
abbrev rp_IndexFuncintint_35 : List Pat := [⟨[.one (.int .i64)], []⟩]
def lo_IndexFuncintint_35 : List LSpec := [⟨2, [0, 1, 7, 8], ⟨[.one (.ro (.int .i64)), .one (.sfn 32), .one (.int .i64), .one (.int .i64)], []⟩⟩]
def jo_IndexFuncintint_35 : List LSpec := []
def IndexFuncintint_35_L2 (N : Nat) (again2 : ((List Int × (Unit × (Int × (Int × Unit)))) × Unit) → Option ((Int × Unit) × Unit)) (x : ((List Int × (Unit × (Int × (Int × Unit)))) × Unit)) : Option ((Int × Unit) × Unit) := match x with
  | ((s2, _, t3, t4, ()), ()) =>
    byB (decide (t4 < t3))
      (if (0 ≤ t4) ∧ (t4 < (s2.length : Int)) then
        (time1_32 N ((s2.getD t4.toNat 0, ()), ())).bind fun y7 =>
        byB y7.1.1
          (some ((t4, ()), ()))
          (again2 ((s2, (), t3, IntKind.wrap .i64 (t4 + 1), ()), ()))
        else none)
      (some ((-1, ()), ()))
def IndexFuncintint_35 (N : Nat) (x : ((List Int × (Unit × Unit)) × Unit)) : Option ((Int × Unit) × Unit) := match x with
  | ((s0, _, ()), ()) =>
    loopN N (IndexFuncintint_35_L2 N) ((s0, (), (s0.length : Int), 0, ()), ())
theorem eq_IndexFuncintint_35 (N : Nat) (x : (ap_IndexFuncintint_35).den) : funX Try.prog (fs1 N) N 35 lo_IndexFuncintint_35 jo_IndexFuncintint_35 Try.f35 ap_IndexFuncintint_35 rp_IndexFuncintint_35 x = IndexFuncintint_35 N x := by kernel_rfl
noncomputable def sp_IndexFuncintint_35 (N : Nat) : FSpec := specOf ap_IndexFuncintint_35 rp_IndexFuncintint_35 true (IndexFuncintint_35 N)
theorem ok_IndexFuncintint_35 (N : Nat) : FSound Try.prog 35 (sp_IndexFuncintint_35 N) := funX_sound (N := N) (loops := lo_IndexFuncintint_35) (joins := jo_IndexFuncintint_35) (fsok1 N) Try.func35 (by kernel_rfl) (by kernel_rfl) fun x _ h => (eq_IndexFuncintint_35 N x).trans h
noncomputable def fs2 (N : Nat) : FuncId → List V1 → List Blk → Option FSpec := fun g xs H => if g = 35 then some (sp_IndexFuncintint_35 N) else fs1 N g xs H
theorem fsok2 (N : Nat) : ∀ g xs H sp, fs2 N g xs H = some sp → FSound Try.prog g sp := fun g xs H sp h => by
  unfold fs2 at h
  by_cases e : g = 35
  · rw [if_pos e] at h; subst e; cases h; exact ok_IndexFuncintint_35 N
  · rw [if_neg e] at h; exact fsok1 N g xs H sp h
/-! ContainsFuncintint_31 -/
abbrev ap_ContainsFuncintint_31 : Pat := ⟨[.one (.ro (.int .i64)), .one (.sfn 32)], []⟩
abbrev rp_ContainsFuncintint_31 : List Pat := [⟨[.one (.bool)], []⟩]
def lo_ContainsFuncintint_31 : List LSpec := []
def jo_ContainsFuncintint_31 : List LSpec := []
def ContainsFuncintint_31 (N : Nat) (x : ((List Int × (Unit × Unit)) × Unit)) : Option ((Bool × Unit) × Unit) := match x with
  | ((s0, _, ()), ()) =>
    (IndexFuncintint_35 N ((s0, (), ()), ())).bind fun y1 =>
    some ((decide (y1.1.1 ≥ 0), ()), ())
theorem eq_ContainsFuncintint_31 (N : Nat) (x : (ap_ContainsFuncintint_31).den) : funX Try.prog (fs2 N) N 31 lo_ContainsFuncintint_31 jo_ContainsFuncintint_31 Try.f31 ap_ContainsFuncintint_31 rp_ContainsFuncintint_31 x = ContainsFuncintint_31 N x := by kernel_rfl
noncomputable def sp_ContainsFuncintint_31 (N : Nat) : FSpec := specOf ap_ContainsFuncintint_31 rp_ContainsFuncintint_31 true (ContainsFuncintint_31 N)
theorem ok_ContainsFuncintint_31 (N : Nat) : FSound Try.prog 31 (sp_ContainsFuncintint_31 N) := funX_sound (N := N) (loops := lo_ContainsFuncintint_31) (joins := jo_ContainsFuncintint_31) (fsok2 N) Try.func31 (by kernel_rfl) (by kernel_rfl) fun x _ h => (eq_ContainsFuncintint_31 N x).trans h
noncomputable def fs3 (N : Nat) : FuncId → List V1 → List Blk → Option FSpec := fun g xs H => if g = 31 then some (sp_ContainsFuncintint_31 N) else fs2 N g xs H
theorem fsok3 (N : Nat) : ∀ g xs H sp, fs3 N g xs H = some sp → FSound Try.prog g sp := fun g xs H sp h => by
  unfold fs3 at h
  by_cases e : g = 31
  · rw [if_pos e] at h; subst e; cases h; exact ok_ContainsFuncintint_31 N
  · rw [if_neg e] at h; exact fsok2 N g xs H sp h
/-! time_22 -/
abbrev ap_time_22 : Pat := ⟨[.one (.ro (.int .i64))], []⟩
abbrev rp_time_22 : List Pat := [⟨[.one (.bool)], []⟩]
def lo_time_22 : List LSpec := []
def jo_time_22 : List LSpec := []
def time_22 (N : Nat) (x : ((List Int × Unit) × Unit)) : Option ((Bool × Unit) × Unit) := match x with
  | ((l0, ()), ()) =>
    (ContainsFuncintint_31 N ((l0, (), ()), ())).bind fun y1 =>
    some ((!y1.1.1, ()), ())
theorem eq_time_22 (N : Nat) (x : (ap_time_22).den) : funX Try.prog (fs3 N) N 22 lo_time_22 jo_time_22 Try.f22 ap_time_22 rp_time_22 x = time_22 N x := by kernel_rfl
noncomputable def sp_time_22 (N : Nat) : FSpec := specOf ap_time_22 rp_time_22 true (time_22 N)
theorem ok_time_22 (N : Nat) : FSound Try.prog 22 (sp_time_22 N) := funX_sound (N := N) (loops := lo_time_22) (joins := jo_time_22) (fsok3 N) Try.func22 (by kernel_rfl) (by kernel_rfl) fun x _ h => (eq_time_22 N x).trans h
noncomputable def fs4 (N : Nat) : FuncId → List V1 → List Blk → Option FSpec := fun g xs H => if g = 22 then some (sp_time_22 N) else fs3 N g xs H
theorem fsok4 (N : Nat) : ∀ g xs H sp, fs4 N g xs H = some sp → FSound Try.prog g sp := fun g xs H sp h => by
  unfold fs4 at h
  by_cases e : g = 22
  · rw [if_pos e] at h; subst e; cases h; exact ok_time_22 N
  · rw [if_neg e] at h; exact fsok3 N g xs H sp h
/-! loads1_34 -/
abbrev ap_loads1_34 : Pat := ⟨[.agg [.int .i64, .int .i64, .int .i64]], []⟩
abbrev rp_loads1_34 : List Pat := [⟨[.one (.bool)], []⟩]
def lo_loads1_34 : List LSpec := []
def jo_loads1_34 : List LSpec := []
def loads1_34 (N : Nat) (x : (((Int × (Int × (Int × Unit))) × Unit) × Unit)) : Option ((Bool × Unit) × Unit) := match x with
  | (((x0, x1, x2, ()), ()), ()) =>
    (time_22 N (([x0, x1, x2], ()), ())).bind fun y3 =>
    byB (!y3.1.1)
      (some ((true, ()), ()))
      (some ((x1 == 0, ()), ()))
theorem eq_loads1_34 (N : Nat) (x : (ap_loads1_34).den) : funX Try.prog (fs4 N) N 34 lo_loads1_34 jo_loads1_34 Try.f34 ap_loads1_34 rp_loads1_34 x = loads1_34 N x := by kernel_rfl
noncomputable def sp_loads1_34 (N : Nat) : FSpec := specOf ap_loads1_34 rp_loads1_34 true (loads1_34 N)
theorem ok_loads1_34 (N : Nat) : FSound Try.prog 34 (sp_loads1_34 N) := funX_sound (N := N) (loops := lo_loads1_34) (joins := jo_loads1_34) (fsok4 N) Try.func34 (by kernel_rfl) (by kernel_rfl) fun x _ h => (eq_loads1_34 N x).trans h
noncomputable def fs5 (N : Nat) : FuncId → List V1 → List Blk → Option FSpec := fun g xs H => if g = 34 then some (sp_loads1_34 N) else fs4 N g xs H
theorem fsok5 (N : Nat) : ∀ g xs H sp, fs5 N g xs H = some sp → FSound Try.prog g sp := fun g xs H sp h => by
  unfold fs5 at h
  by_cases e : g = 34
  · rw [if_pos e] at h; subst e; cases h; exact ok_loads1_34 N
  · rw [if_neg e] at h; exact fsok4 N g xs H sp h
/-! Load_36 -/
abbrev ap_Load_36 : Pat := ⟨[.one (.ro (.pair (.int .i64) (.pair (.int .i64) (.int .i64)))), .one (.sfn 34)], []⟩
abbrev rp_Load_36 : List Pat := [⟨[.one (.int .i64)], []⟩]
def lo_Load_36 : List LSpec := [⟨2, [0, 1, 7, 8], ⟨[.one (.ro (.pair (.int .i64) (.pair (.int .i64) (.int .i64)))), .one (.sfn 34), .one (.int .i64), .one (.int .i64)], []⟩⟩]
def jo_Load_36 : List LSpec := []
def Load_36_L2 (N : Nat) (again2 : ((List (Int × (Int × Int)) × (Unit × (Int × (Int × Unit)))) × Unit) → Option ((Int × Unit) × Unit)) (x : ((List (Int × (Int × Int)) × (Unit × (Int × (Int × Unit)))) × Unit)) : Option ((Int × Unit) × Unit) := match x with
  | ((s2, _, t3, t4, ()), ()) =>
    byB (decide (t4 < t3))
      (if (0 ≤ t4) ∧ (t4 < (s2.length : Int)) then
        let e6 := s2.getD t4.toNat (0, 0, 0);
        (loads1_34 N (((e6.1, e6.2.1, e6.2.2, ()), ()), ())).bind fun y7 =>
        byB y7.1.1
          (some ((t4, ()), ()))
          (again2 ((s2, (), t3, IntKind.wrap .i64 (t4 + 1), ()), ()))
        else none)
      (some ((-1, ()), ()))
def Load_36 (N : Nat) (x : ((List (Int × (Int × Int)) × (Unit × Unit)) × Unit)) : Option ((Int × Unit) × Unit) := match x with
  | ((s0, _, ()), ()) =>
    loopN N (Load_36_L2 N) ((s0, (), (s0.length : Int), 0, ()), ())
theorem eq_Load_36 (N : Nat) (x : (ap_Load_36).den) : funX Try.prog (fs5 N) N 36 lo_Load_36 jo_Load_36 Try.f36 ap_Load_36 rp_Load_36 x = Load_36 N x := by kernel_rfl
noncomputable def sp_Load_36 (N : Nat) : FSpec := specOf ap_Load_36 rp_Load_36 true (Load_36 N)
theorem ok_Load_36 (N : Nat) : FSound Try.prog 36 (sp_Load_36 N) := funX_sound (N := N) (loops := lo_Load_36) (joins := jo_Load_36) (fsok5 N) Try.func36 (by kernel_rfl) (by kernel_rfl) fun x _ h => (eq_Load_36 N x).trans h
noncomputable def fs6 (N : Nat) : FuncId → List V1 → List Blk → Option FSpec := fun g xs H => if g = 36 then some (sp_Load_36 N) else fs5 N g xs H
theorem fsok6 (N : Nat) : ∀ g xs H sp, fs6 N g xs H = some sp → FSound Try.prog g sp := fun g xs H sp h => by
  unfold fs6 at h
  by_cases e : g = 36
  · rw [if_pos e] at h; subst e; cases h; exact ok_Load_36 N
  · rw [if_neg e] at h; exact fsok5 N g xs H sp h
/-! Load_33 -/
abbrev ap_Load_33 : Pat := ⟨[.one (.ro (.pair (.int .i64) (.pair (.int .i64) (.int .i64)))), .one (.sfn 34)], []⟩
abbrev rp_Load_33 : List Pat := [⟨[.one (.bool)], []⟩]
def lo_Load_33 : List LSpec := []
def jo_Load_33 : List LSpec := []
def Load_33 (N : Nat) (x : ((List (Int × (Int × Int)) × (Unit × Unit)) × Unit)) : Option ((Bool × Unit) × Unit) := match x with
  | ((s0, _, ()), ()) =>
    (Load_36 N ((s0, (), ()), ())).bind fun y1 =>
    some ((decide (y1.1.1 ≥ 0), ()), ())
theorem eq_Load_33 (N : Nat) (x : (ap_Load_33).den) : funX Try.prog (fs6 N) N 33 lo_Load_33 jo_Load_33 Try.f33 ap_Load_33 rp_Load_33 x = Load_33 N x := by kernel_rfl
noncomputable def sp_Load_33 (N : Nat) : FSpec := specOf ap_Load_33 rp_Load_33 true (Load_33 N)
theorem ok_Load_33 (N : Nat) : FSound Try.prog 33 (sp_Load_33 N) := funX_sound (N := N) (loops := lo_Load_33) (joins := jo_Load_33) (fsok6 N) Try.func33 (by kernel_rfl) (by kernel_rfl) fun x _ h => (eq_Load_33 N x).trans h
noncomputable def fs7 (N : Nat) : FuncId → List V1 → List Blk → Option FSpec := fun g xs H => if g = 33 then some (sp_Load_33 N) else fs6 N g xs H
theorem fsok7 (N : Nat) : ∀ g xs H sp, fs7 N g xs H = some sp → FSound Try.prog g sp := fun g xs H sp h => by
  unfold fs7 at h
  by_cases e : g = 33
  · rw [if_pos e] at h; subst e; cases h; exact ok_Load_33 N
  · rw [if_neg e] at h; exact fsok6 N g xs H sp h
/-! loads_23 -/
abbrev ap_loads_23 : Pat := ⟨[.one (.ro (.pair (.int .i64) (.pair (.int .i64) (.int .i64))))], []⟩
abbrev rp_loads_23 : List Pat := [⟨[.one (.bool)], []⟩]
def lo_loads_23 : List LSpec := []
def jo_loads_23 : List LSpec := []
def loads_23 (N : Nat) (x : ((List (Int × (Int × Int)) × Unit) × Unit)) : Option ((Bool × Unit) × Unit) := match x with
  | ((l0, ()), ()) =>
    byB (decide ((l0.length : Int) ≤ 72))
      ((Load_33 N ((l0, (), ()), ())).bind fun y3 =>
        some ((!y3.1.1, ()), ()))
      (some ((false, ()), ()))
theorem eq_loads_23 (N : Nat) (x : (ap_loads_23).den) : funX Try.prog (fs7 N) N 23 lo_loads_23 jo_loads_23 Try.f23 ap_loads_23 rp_loads_23 x = loads_23 N x := by kernel_rfl
noncomputable def sp_loads_23 (N : Nat) : FSpec := specOf ap_loads_23 rp_loads_23 true (loads_23 N)
theorem ok_loads_23 (N : Nat) : FSound Try.prog 23 (sp_loads_23 N) := funX_sound (N := N) (loops := lo_loads_23) (joins := jo_loads_23) (fsok7 N) Try.func23 (by kernel_rfl) (by kernel_rfl) fun x _ h => (eq_loads_23 N x).trans h
noncomputable def fs8 (N : Nat) : FuncId → List V1 → List Blk → Option FSpec := fun g xs H => if g = 23 then some (sp_loads_23 N) else fs7 N g xs H
theorem fsok8 (N : Nat) : ∀ g xs H sp, fs8 N g xs H = some sp → FSound Try.prog g sp := fun g xs H sp h => by
  unfold fs8 at h
  by_cases e : g = 23
  · rw [if_pos e] at h; subst e; cases h; exact ok_loads_23 N
  · rw [if_neg e] at h; exact fsok7 N g xs H sp h
/-! right_15 -/
abbrev ap_right_15 : Pat := ⟨[.one (.int .i64), .one (.int .i64), .one (.int .i64), .one (.ro (.pair (.int .i64) (.pair (.int .i64) (.int .i64)))), .one (.ro (.pair (.int .i64) (.pair (.int .i64) (.int .i64))))], []⟩
abbrev rp_right_15 : List Pat := [⟨[.one (.bool)], []⟩]
def lo_right_15 : List LSpec := []
def jo_right_15 : List LSpec := []
def right_15 (N : Nat) (x : ((Int × (Int × (Int × (List (Int × (Int × Int)) × (List (Int × (Int × Int)) × Unit))))) × Unit)) : Option ((Bool × Unit) × Unit) := match x with
  | ((own0, block1, release2, above3, all4, ()), ()) =>
    (time_22 N (([own0, block1, release2], ()), ())).bind fun y5 =>
    byB y5.1.1
      ((loads_23 N ((above3, ()), ())).bind fun y6 =>
        byB y6.1.1
          ((loads_23 N ((all4, ()), ())).bind fun y7 =>
            some ((y7.1.1, ()), ()))
          (some ((false, ()), ())))
      (some ((false, ()), ()))
theorem eq_right_15 (N : Nat) (x : (ap_right_15).den) : funX Try.prog (fs8 N) N 15 lo_right_15 jo_right_15 Try.f15 ap_right_15 rp_right_15 x = right_15 N x := by kernel_rfl
noncomputable def sp_right_15 (N : Nat) : FSpec := specOf ap_right_15 rp_right_15 true (right_15 N)
theorem ok_right_15 (N : Nat) : FSound Try.prog 15 (sp_right_15 N) := funX_sound (N := N) (loops := lo_right_15) (joins := jo_right_15) (fsok8 N) Try.func15 (by kernel_rfl) (by kernel_rfl) fun x _ h => (eq_right_15 N x).trans h
noncomputable def fs9 (N : Nat) : FuncId → List V1 → List Blk → Option FSpec := fun g xs H => if g = 15 then some (sp_right_15 N) else fs8 N g xs H
theorem fsok9 (N : Nat) : ∀ g xs H sp, fs9 N g xs H = some sp → FSound Try.prog g sp := fun g xs H sp h => by
  unfold fs9 at h
  by_cases e : g = 15
  · rw [if_pos e] at h; subst e; cases h; exact ok_right_15 N
  · rw [if_neg e] at h; exact fsok8 N g xs H sp h
/-! parts_16v1 -/
abbrev ap_parts_16v1 : Pat := ⟨[.one (.int .i64), .one (.ro (.pair (.int .i64) (.pair (.int .i64) (.int .i64)))), .one (.ro (.pair (.int .i64) (.pair (.int .i64) (.int .i64)))), .one (.int .i64)], []⟩
abbrev rp_parts_16v1 : List Pat := [⟨[.one (.fn 25 0)], [.clo 25 [] [.one (.ptr 1 0), .one (.ptr 2 0), .one (.ptr 3 0), .one (.ptr 4 0)], .var 22 [.ro (.pair (.int .i64) (.pair (.int .i64) (.int .i64)))], .var 49 [.fn 24 5], .var 22 [.ro (.pair (.int .i64) (.pair (.int .i64) (.int .i64)))], .var 3 [.int .i64], .clo 24 [] [.one (.ptr 6 0)], .var 3 [.int .i64]]⟩]
def lo_parts_16v1 : List LSpec := []
def jo_parts_16v1 : List LSpec := []
def parts_16v1 (N : Nat) (x : ((Int × (List (Int × (Int × Int)) × (List (Int × (Int × Int)) × (Int × Unit)))) × Unit)) : Option ((Unit × Unit) × ((Unit × (Unit × (Unit × (Unit × (Unit × Unit))))) × ((List (Int × (Int × Int)) × Unit) × ((Unit × Unit) × ((List (Int × (Int × Int)) × Unit) × ((Int × Unit) × ((Unit × (Unit × Unit)) × ((Int × Unit) × Unit)))))))) := match x with
  | ((release0, above1, all2, n3, ()), ()) =>
    some (((), ()), ((), (), (), (), (), ()), (above1, ()), ((), ()), (all2, ()), (release0, ()), ((), (), ()), (n3, ()), ())
theorem eq_parts_16v1 (N : Nat) (x : (ap_parts_16v1).den) : funX Try.prog (fs9 N) N 16 lo_parts_16v1 jo_parts_16v1 Try.f16 ap_parts_16v1 rp_parts_16v1 x = parts_16v1 N x := by kernel_rfl
noncomputable def sp_parts_16v1 (N : Nat) : FSpec := specOf ap_parts_16v1 rp_parts_16v1 false (parts_16v1 N)
theorem ok_parts_16v1 (N : Nat) : FSound Try.prog 16 (sp_parts_16v1 N) := funX_sound (N := N) (loops := lo_parts_16v1) (joins := jo_parts_16v1) (fsok9 N) Try.func16 (by kernel_rfl) (by kernel_rfl) fun x _ h => (eq_parts_16v1 N x).trans h
noncomputable def fs10 (N : Nat) : FuncId → List V1 → List Blk → Option FSpec := fun g xs H => if g = 16 then some (sp_parts_16v1 N) else fs9 N g xs H
theorem fsok10 (N : Nat) : ∀ g xs H sp, fs10 N g xs H = some sp → FSound Try.prog g sp := fun g xs H sp h => by
  unfold fs10 at h
  by_cases e : g = 16
  · rw [if_pos e] at h; subst e; cases h; exact ok_parts_16v1 N
  · rw [if_neg e] at h; exact fsok9 N g xs H sp h
/-! parts1_24 -/
abbrev ap_parts1_24 : Pat := ⟨[.agg [.int .i64, .int .i64, .int .i64], .one (.ptr 0 0)], [.var 3 [.int .i64]]⟩
abbrev rp_parts1_24 : List Pat := [⟨[.one (.int .i64)], [.var 3 [.int .i64]]⟩]
def lo_parts1_24 : List LSpec := []
def jo_parts1_24 : List LSpec := []
def parts1_24 (N : Nat) (x : (((Int × (Int × (Int × Unit))) × (Unit × Unit)) × ((Int × Unit) × Unit))) : Option ((Int × Unit) × ((Int × Unit) × Unit)) := match x with
  | (((x0, x1, x2, ()), _, ()), (c3, ()), ()) =>
    if x1 = 0 then
      none
    else
    some ((IntKind.wrap .i64 (Int.tdiv (IntKind.wrap .i64 ((IntKind.wrap .i64 ((IntKind.wrap .i64 (c3 + x2)) + x1)) - 1)) x1), ()), (c3, ()), ())
theorem eq_parts1_24 (N : Nat) (x : (ap_parts1_24).den) : funX Try.prog (fs10 N) N 24 lo_parts1_24 jo_parts1_24 Try.f24 ap_parts1_24 rp_parts1_24 x = parts1_24 N x := by kernel_rfl
noncomputable def sp_parts1_24 (N : Nat) : FSpec := specOf ap_parts1_24 rp_parts1_24 true (parts1_24 N)
theorem ok_parts1_24 (N : Nat) : FSound Try.prog 24 (sp_parts1_24 N) := funX_sound (N := N) (loops := lo_parts1_24) (joins := jo_parts1_24) (fsok10 N) Try.func24 (by kernel_rfl) (by kernel_rfl) fun x _ h => (eq_parts1_24 N x).trans h
noncomputable def fs11 (N : Nat) : FuncId → List V1 → List Blk → Option FSpec := fun g xs H => if g = 24 then some (sp_parts1_24 N) else fs10 N g xs H
theorem fsok11 (N : Nat) : ∀ g xs H sp, fs11 N g xs H = some sp → FSound Try.prog g sp := fun g xs H sp h => by
  unfold fs11 at h
  by_cases e : g = 24
  · rw [if_pos e] at h; subst e; cases h; exact ok_parts1_24 N
  · rw [if_neg e] at h; exact fsok10 N g xs H sp h
/-! size_27 -/
abbrev ap_size_27 : Pat := ⟨[.one (.int .i64)], []⟩
abbrev rp_size_27 : List Pat := [⟨[.one (.int .u64)], []⟩]
def lo_size_27 : List LSpec := []
def jo_size_27 : List LSpec := []
def size_27 (N : Nat) (x : ((Int × Unit) × Unit)) : Option ((Int × Unit) × Unit) := match x with
  | ((a0, ()), ()) =>
    byB (decide (a0 < 0))
      (some ((IntKind.wrap .u64 (0 - (IntKind.wrap .u64 a0)), ()), ()))
      (some ((IntKind.wrap .u64 a0, ()), ()))
theorem eq_size_27 (N : Nat) (x : (ap_size_27).den) : funX Try.prog (fs11 N) N 27 lo_size_27 jo_size_27 Try.f27 ap_size_27 rp_size_27 x = size_27 N x := by kernel_rfl
noncomputable def sp_size_27 (N : Nat) : FSpec := specOf ap_size_27 rp_size_27 true (size_27 N)
theorem ok_size_27 (N : Nat) : FSound Try.prog 27 (sp_size_27 N) := funX_sound (N := N) (loops := lo_size_27) (joins := jo_size_27) (fsok11 N) Try.func27 (by kernel_rfl) (by kernel_rfl) fun x _ h => (eq_size_27 N x).trans h
noncomputable def fs12 (N : Nat) : FuncId → List V1 → List Blk → Option FSpec := fun g xs H => if g = 27 then some (sp_size_27 N) else fs11 N g xs H
theorem fsok12 (N : Nat) : ∀ g xs H sp, fs12 N g xs H = some sp → FSound Try.prog g sp := fun g xs H sp h => by
  unfold fs12 at h
  by_cases e : g = 27
  · rw [if_pos e] at h; subst e; cases h; exact ok_size_27 N
  · rw [if_neg e] at h; exact fsok11 N g xs H sp h
/-! times_26 -/
abbrev ap_times_26 : Pat := ⟨[.one (.int .u64), .one (.int .u64)], []⟩
abbrev rp_times_26 : List Pat := [⟨[.agg [.int .u64, .int .u64]], []⟩]
def lo_times_26 : List LSpec := []
def jo_times_26 : List LSpec := []
def times_26 (N : Nat) (x : ((Int × (Int × Unit)) × Unit)) : Option (((Int × (Int × Unit)) × Unit) × Unit) := match x with
  | ((a0, b1, ()), ()) =>
    let t4 := IntKind.wrap .u64 ((IntKind.wrap .u64 (BitVec.ofInt (IntKind.bits .u64) a0 &&& BitVec.ofInt (IntKind.bits .u64) 4294967295).toNat) * (IntKind.wrap .u64 (BitVec.ofInt (IntKind.bits .u64) b1 &&& BitVec.ofInt (IntKind.bits .u64) 4294967295).toNat));
    let t9 := IntKind.wrap .u64 ((IntKind.wrap .u64 ((Int.fdiv a0 (2 ^ 32)) * (IntKind.wrap .u64 (BitVec.ofInt (IntKind.bits .u64) b1 &&& BitVec.ofInt (IntKind.bits .u64) 4294967295).toNat))) + (Int.fdiv t4 (2 ^ 32)));
    let t14 := IntKind.wrap .u64 ((IntKind.wrap .u64 ((IntKind.wrap .u64 (BitVec.ofInt (IntKind.bits .u64) a0 &&& BitVec.ofInt (IntKind.bits .u64) 4294967295).toNat) * (Int.fdiv b1 (2 ^ 32)))) + (IntKind.wrap .u64 (BitVec.ofInt (IntKind.bits .u64) t9 &&& BitVec.ofInt (IntKind.bits .u64) 4294967295).toNat));
    some (((IntKind.wrap .u64 ((IntKind.wrap .u64 ((IntKind.wrap .u64 ((Int.fdiv a0 (2 ^ 32)) * (Int.fdiv b1 (2 ^ 32)))) + (Int.fdiv t9 (2 ^ 32)))) + (Int.fdiv t14 (2 ^ 32))), IntKind.wrap .u64 (BitVec.ofInt (IntKind.bits .u64) (IntKind.wrap .u64 (t14 * 2 ^ 32)) ||| BitVec.ofInt (IntKind.bits .u64) (IntKind.wrap .u64 (BitVec.ofInt (IntKind.bits .u64) t4 &&& BitVec.ofInt (IntKind.bits .u64) 4294967295).toNat)).toNat, ()), ()), ())
theorem eq_times_26 (N : Nat) (x : (ap_times_26).den) : funX Try.prog (fs12 N) N 26 lo_times_26 jo_times_26 Try.f26 ap_times_26 rp_times_26 x = times_26 N x := by kernel_rfl
noncomputable def sp_times_26 (N : Nat) : FSpec := specOf ap_times_26 rp_times_26 true (times_26 N)
theorem ok_times_26 (N : Nat) : FSound Try.prog 26 (sp_times_26 N) := funX_sound (N := N) (loops := lo_times_26) (joins := jo_times_26) (fsok12 N) Try.func26 (by kernel_rfl) (by kernel_rfl) fun x _ h => (eq_times_26 N x).trans h
noncomputable def fs13 (N : Nat) : FuncId → List V1 → List Blk → Option FSpec := fun g xs H => if g = 26 then some (sp_times_26 N) else fs12 N g xs H
theorem fsok13 (N : Nat) : ∀ g xs H sp, fs13 N g xs H = some sp → FSound Try.prog g sp := fun g xs H sp h => by
  unfold fs13 at h
  by_cases e : g = 26
  · rw [if_pos e] at h; subst e; cases h; exact ok_times_26 N
  · rw [if_neg e] at h; exact fsok12 N g xs H sp h
/-! Mul_17 -/
abbrev ap_Mul_17 : Pat := ⟨[.one (.int .i64), .one (.int .i64)], []⟩
abbrev rp_Mul_17 : List Pat := [⟨[.one (.int .i64), .one (.int .i64)], []⟩]
def lo_Mul_17 : List LSpec := []
def jo_Mul_17 : List LSpec := []
def Mul_17 (N : Nat) (x : ((Int × (Int × Unit)) × Unit)) : Option ((Int × (Int × Unit)) × Unit) := match x with
  | ((a0, b1, ()), ()) =>
    (size_27 N ((a0, ()), ())).bind fun y2 =>
    (size_27 N ((b1, ()), ())).bind fun y3 =>
    (times_26 N ((y2.1.1, y3.1.1, ()), ())).bind fun y4 =>
    let t7 := !((decide (a0 < 0)) == (decide (b1 < 0)));
    byB (y4.1.1.1 == 0)
      (byB (decide (y4.1.1.2.1 ≤ 9223372036854775807))
          (byB (!t7)
              (some ((IntKind.wrap .i64 y4.1.1.2.1, 0, ()), ()))
              (byB (y4.1.1.1 == 0)
                  (byB (decide (y4.1.1.2.1 ≤ 9223372036854775808))
                      (byB t7
                          (some ((IntKind.wrap .i64 (IntKind.wrap .u64 (0 - y4.1.1.2.1)), 0, ()), ()))
                          (some ((0, 2, ()), ())))
                      (some ((0, 2, ()), ())))
                  (some ((0, 2, ()), ()))))
          (byB (y4.1.1.1 == 0)
              (byB (decide (y4.1.1.2.1 ≤ 9223372036854775808))
                  (byB t7
                      (some ((IntKind.wrap .i64 (IntKind.wrap .u64 (0 - y4.1.1.2.1)), 0, ()), ()))
                      (some ((0, 2, ()), ())))
                  (some ((0, 2, ()), ())))
              (some ((0, 2, ()), ()))))
      (byB (y4.1.1.1 == 0)
          (byB (decide (y4.1.1.2.1 ≤ 9223372036854775808))
              (byB t7
                  (some ((IntKind.wrap .i64 (IntKind.wrap .u64 (0 - y4.1.1.2.1)), 0, ()), ()))
                  (some ((0, 2, ()), ())))
              (some ((0, 2, ()), ())))
          (some ((0, 2, ()), ())))
theorem eq_Mul_17 (N : Nat) (x : (ap_Mul_17).den) : funX Try.prog (fs13 N) N 17 lo_Mul_17 jo_Mul_17 Try.f17 ap_Mul_17 rp_Mul_17 x = Mul_17 N x := by kernel_rfl
noncomputable def sp_Mul_17 (N : Nat) : FSpec := specOf ap_Mul_17 rp_Mul_17 true (Mul_17 N)
theorem ok_Mul_17 (N : Nat) : FSound Try.prog 17 (sp_Mul_17 N) := funX_sound (N := N) (loops := lo_Mul_17) (joins := jo_Mul_17) (fsok13 N) Try.func17 (by kernel_rfl) (by kernel_rfl) fun x _ h => (eq_Mul_17 N x).trans h
noncomputable def fs14 (N : Nat) : FuncId → List V1 → List Blk → Option FSpec := fun g xs H => if g = 17 then some (sp_Mul_17 N) else fs13 N g xs H
theorem fsok14 (N : Nat) : ∀ g xs H sp, fs14 N g xs H = some sp → FSound Try.prog g sp := fun g xs H sp h => by
  unfold fs14 at h
  by_cases e : g = 17
  · rw [if_pos e] at h; subst e; cases h; exact ok_Mul_17 N
  · rw [if_neg e] at h; exact fsok13 N g xs H sp h
/-! Add_18 -/
abbrev ap_Add_18 : Pat := ⟨[.one (.int .i64), .one (.int .i64)], []⟩
abbrev rp_Add_18 : List Pat := [⟨[.one (.int .i64), .one (.int .i64)], []⟩]
def lo_Add_18 : List LSpec := []
def jo_Add_18 : List LSpec := []
def Add_18 (N : Nat) (x : ((Int × (Int × Unit)) × Unit)) : Option ((Int × (Int × Unit)) × Unit) := match x with
  | ((a0, b1, ()), ()) =>
    let t2 := IntKind.wrap .i64 (a0 + b1);
    byB (decide ((IntKind.wrap .i64 (BitVec.ofInt (IntKind.bits .i64) (IntKind.wrap .i64 (BitVec.ofInt (IntKind.bits .i64) a0 ^^^ BitVec.ofInt (IntKind.bits .i64) t2).toNat) &&& BitVec.ofInt (IntKind.bits .i64) (IntKind.wrap .i64 (BitVec.ofInt (IntKind.bits .i64) b1 ^^^ BitVec.ofInt (IntKind.bits .i64) t2).toNat)).toNat) < 0))
      (some ((0, 2, ()), ()))
      (some ((t2, 0, ()), ()))
theorem eq_Add_18 (N : Nat) (x : (ap_Add_18).den) : funX Try.prog (fs14 N) N 18 lo_Add_18 jo_Add_18 Try.f18 ap_Add_18 rp_Add_18 x = Add_18 N x := by kernel_rfl
noncomputable def sp_Add_18 (N : Nat) : FSpec := specOf ap_Add_18 rp_Add_18 true (Add_18 N)
theorem ok_Add_18 (N : Nat) : FSound Try.prog 18 (sp_Add_18 N) := funX_sound (N := N) (loops := lo_Add_18) (joins := jo_Add_18) (fsok14 N) Try.func18 (by kernel_rfl) (by kernel_rfl) fun x _ h => (eq_Add_18 N x).trans h
noncomputable def fs15 (N : Nat) : FuncId → List V1 → List Blk → Option FSpec := fun g xs H => if g = 18 then some (sp_Add_18 N) else fs14 N g xs H
theorem fsok15 (N : Nat) : ∀ g xs H sp, fs15 N g xs H = some sp → FSound Try.prog g sp := fun g xs H sp h => by
  unfold fs15 at h
  by_cases e : g = 18
  · rw [if_pos e] at h; subst e; cases h; exact ok_Add_18 N
  · rw [if_neg e] at h; exact fsok14 N g xs H sp h
/-! Within_10_R7 -/
abbrev ap_Within_10_R7 : Pat := ⟨[.one (.ptr 0 0), .one (.ptr 1 0), .one (.ptr 2 0), .one (.int .i64), .one (.int .i64)], [.var 3 [.int .i64], .var 3 [.int .i64], .var 24 [.int .i64]]⟩
abbrev rp_Within_10_R7 : List Pat := [⟨[.one (.bool)], [.var 3 [.int .i64], .var 3 [.int .i64], .var 24 [.int .i64]]⟩]
def lo_Within_10_R7 : List LSpec := []
def jo_Within_10_R7 : List LSpec := []
def Within_10_R7 (N : Nat) (x : ((Unit × (Unit × (Unit × (Int × (Int × Unit))))) × ((Int × Unit) × ((Int × Unit) × ((Int × Unit) × Unit))))) : Option ((Bool × Unit) × ((Int × Unit) × ((Int × Unit) × ((Int × Unit) × Unit)))) := match x with
  | ((_, _, _, t0, t1, ()), (c2, ()), (c3, ()), (c4, ()), ()) =>
    (Mul_17 N ((t0, t1, ()), ())).bind fun y5 =>
    byB (y5.1.2.1 == 0)
      ((Add_18 N ((c2, y5.1.1, ()), ())).bind fun y7 =>
        byB (y7.1.2.1 != 0)
          (some ((true, ()), (y7.1.1, ()), (0, ()), (2, ()), ()))
          (byB (decide (y7.1.1 > 4611686018427387904))
              (some ((true, ()), (y7.1.1, ()), (0, ()), (2, ()), ()))
              (some ((false, ()), (y7.1.1, ()), (c3, ()), (c4, ()), ()))))
      (byB (y5.1.2.1 != 0)
          (some ((true, ()), (c2, ()), (0, ()), (2, ()), ()))
          (byB (decide (c2 > 4611686018427387904))
              (some ((true, ()), (c2, ()), (0, ()), (2, ()), ()))
              (some ((false, ()), (c2, ()), (c3, ()), (c4, ()), ()))))
noncomputable def ri_Within_10_R7 : Array Tmp × Code × Code := (rinfo Try.prog 11000007).getD default
theorem rt_Within_10_R7 : rinfo Try.prog 11000007 = some ri_Within_10_R7 := by kernel_rfl
theorem eq_Within_10_R7 (N : Nat) (x : (ap_Within_10_R7).den) : rndX Try.prog (fs15 N) N 0 lo_Within_10_R7 jo_Within_10_R7 (rnt Try.prog 11000007) ri_Within_10_R7 ap_Within_10_R7 rp_Within_10_R7 x = Within_10_R7 N x := by kernel_rfl
noncomputable def sp_Within_10_R7 (N : Nat) : FSpec := rspecOf (ri_Within_10_R7).1.size ap_Within_10_R7 rp_Within_10_R7 (Within_10_R7 N)
theorem ok_Within_10_R7 (N : Nat) : FSound Try.prog 11000007 (sp_Within_10_R7 N) := rndX_sound (N := N) (gid := 0) (loops := lo_Within_10_R7) (joins := jo_Within_10_R7) (fsok15 N) rt_Within_10_R7 rfl rfl fun x _ h => (eq_Within_10_R7 N x).trans h
noncomputable def fs16 (N : Nat) : FuncId → List V1 → List Blk → Option FSpec := fun g xs H => if g = 11000007 then some (sp_Within_10_R7 N) else fs15 N g xs H
theorem fsok16 (N : Nat) : ∀ g xs H sp, fs16 N g xs H = some sp → FSound Try.prog g sp := fun g xs H sp h => by
  unfold fs16 at h
  by_cases e : g = 11000007
  · rw [if_pos e] at h; subst e; cases h; exact ok_Within_10_R7 N
  · rw [if_neg e] at h; exact fsok15 N g xs H sp h
/-! parts2_25v1 -/
abbrev ap_parts2_25v1 : Pat := ⟨[.one (.yl 0), .one (.ptr 1 0), .one (.ptr 2 0), .one (.ptr 3 0), .one (.ptr 4 0)], [.yld 11000007 [.one (.ptr 5 0), .one (.ptr 6 0), .one (.ptr 7 0)], .var 22 [.ro (.pair (.int .i64) (.pair (.int .i64) (.int .i64)))], .var 49 [.fn 24 8], .var 22 [.ro (.pair (.int .i64) (.pair (.int .i64) (.int .i64)))], .var 3 [.int .i64], .var 3 [.int .i64], .var 3 [.int .i64], .var 24 [.int .i64], .clo 24 [] [.one (.ptr 9 0)], .var 3 [.int .i64]]⟩
abbrev rp_parts2_25v1 : List Pat := [⟨[], [.yld 11000007 [.one (.ptr 5 0), .one (.ptr 6 0), .one (.ptr 7 0)], .var 22 [.ro (.pair (.int .i64) (.pair (.int .i64) (.int .i64)))], .var 49 [.fn 24 8], .var 22 [.ro (.pair (.int .i64) (.pair (.int .i64) (.int .i64)))], .var 3 [.int .i64], .var 3 [.int .i64], .var 3 [.int .i64], .var 24 [.int .i64], .clo 24 [] [.one (.ptr 9 0)], .var 3 [.int .i64]]⟩]
def lo_parts2_25v1 : List LSpec := [⟨1, [0, 2, 3, 4, 10, 11, 12], ⟨[.one (.yl 0), .one (.ptr 2 0), .one (.ptr 3 0), .one (.ptr 4 0), .one (.ro (.pair (.int .i64) (.pair (.int .i64) (.int .i64)))), .one (.int .i64), .one (.int .i64)], [.yld 11000007 [.one (.ptr 5 0), .one (.ptr 6 0), .one (.ptr 7 0)], .var 22 [.ro (.pair (.int .i64) (.pair (.int .i64) (.int .i64)))], .var 49 [.fn 24 8], .var 22 [.ro (.pair (.int .i64) (.pair (.int .i64) (.int .i64)))], .var 3 [.int .i64], .var 3 [.int .i64], .var 3 [.int .i64], .var 24 [.int .i64], .clo 24 [] [.one (.ptr 9 0)], .var 3 [.int .i64]]⟩⟩, ⟨6, [0, 2, 4, 25, 26, 27], ⟨[.one (.yl 0), .one (.ptr 2 0), .one (.ptr 4 0), .one (.ro (.pair (.int .i64) (.pair (.int .i64) (.int .i64)))), .one (.int .i64), .one (.int .i64)], [.yld 11000007 [.one (.ptr 5 0), .one (.ptr 6 0), .one (.ptr 7 0)], .var 22 [.ro (.pair (.int .i64) (.pair (.int .i64) (.int .i64)))], .var 49 [.fn 24 8], .var 22 [.ro (.pair (.int .i64) (.pair (.int .i64) (.int .i64)))], .var 3 [.int .i64], .var 3 [.int .i64], .var 3 [.int .i64], .var 24 [.int .i64], .clo 24 [] [.one (.ptr 9 0)], .var 3 [.int .i64]]⟩⟩]
def jo_parts2_25v1 : List LSpec := []
def parts2_25v1_L6 (N : Nat) (again6 : ((Unit × (Unit × (Unit × (List (Int × (Int × Int)) × (Int × (Int × Unit)))))) × (((Unit × (Unit × (Unit × Unit))) × Bool) × ((List (Int × (Int × Int)) × Unit) × ((Unit × Unit) × ((List (Int × (Int × Int)) × Unit) × ((Int × Unit) × ((Int × Unit) × ((Int × Unit) × ((Int × Unit) × ((Unit × (Unit × Unit)) × ((Int × Unit) × Unit))))))))))) → Option (Unit × (((Unit × (Unit × (Unit × Unit))) × Bool) × ((List (Int × (Int × Int)) × Unit) × ((Unit × Unit) × ((List (Int × (Int × Int)) × Unit) × ((Int × Unit) × ((Int × Unit) × ((Int × Unit) × ((Int × Unit) × ((Unit × (Unit × Unit)) × ((Int × Unit) × Unit)))))))))))) (x : ((Unit × (Unit × (Unit × (List (Int × (Int × Int)) × (Int × (Int × Unit)))))) × (((Unit × (Unit × (Unit × Unit))) × Bool) × ((List (Int × (Int × Int)) × Unit) × ((Unit × Unit) × ((List (Int × (Int × Int)) × Unit) × ((Int × Unit) × ((Int × Unit) × ((Int × Unit) × ((Int × Unit) × ((Unit × (Unit × Unit)) × ((Int × Unit) × Unit)))))))))))) : Option (Unit × (((Unit × (Unit × (Unit × Unit))) × Bool) × ((List (Int × (Int × Int)) × Unit) × ((Unit × Unit) × ((List (Int × (Int × Int)) × Unit) × ((Int × Unit) × ((Int × Unit) × ((Int × Unit) × ((Int × Unit) × ((Unit × (Unit × Unit)) × ((Int × Unit) × Unit))))))))))) := match x with
  | ((_, _, _, t26, t27, t28, ()), ((_, _, _, ()), d29), (c30, ()), (_, ()), (c31, ()), (c32, ()), (c33, ()), (c34, ()), (c35, ()), ((), _, ()), (c36, ()), ()) =>
    byB (decide (t28 < t27))
      (if (0 ≤ t28) ∧ (t28 < (t26.length : Int)) then
        let e38 := t26.getD t28.toNat (0, 0, 0);
        (parts1_24 N (((e38.1, e38.2.1, e38.2.2, ()), (), ()), (c36, ()), ())).bind fun y39 =>
        byB d29
          (none)
          ((Within_10_R7 N (((), (), (), IntKind.wrap .i64 (y39.1.1 + 1), c32, ()), (c33, ()), (c34, ()), (c35, ()), ())).bind fun y41 =>
            byB y41.1.1
              (some ((), (((), (), (), ()), true), (c30, ()), ((), ()), (c31, ()), (c32, ()), (y41.2.1.1, ()), (y41.2.2.1.1, ()), (y41.2.2.2.1.1, ()), ((), (), ()), (y39.2.1.1, ()), ()))
              (again6 (((), (), (), t26, t27, IntKind.wrap .i64 (t28 + 1), ()), (((), (), (), ()), false), (c30, ()), ((), ()), (c31, ()), (c32, ()), (y41.2.1.1, ()), (y41.2.2.1.1, ()), (y41.2.2.2.1.1, ()), ((), (), ()), (y39.2.1.1, ()), ())))
        else none)
      (some ((), (((), (), (), ()), d29), (c30, ()), ((), ()), (c31, ()), (c32, ()), (c33, ()), (c34, ()), (c35, ()), ((), (), ()), (c36, ()), ()))
def parts2_25v1_L1 (N : Nat) (again1 : ((Unit × (Unit × (Unit × (Unit × (List (Int × (Int × Int)) × (Int × (Int × Unit))))))) × (((Unit × (Unit × (Unit × Unit))) × Bool) × ((List (Int × (Int × Int)) × Unit) × ((Unit × Unit) × ((List (Int × (Int × Int)) × Unit) × ((Int × Unit) × ((Int × Unit) × ((Int × Unit) × ((Int × Unit) × ((Unit × (Unit × Unit)) × ((Int × Unit) × Unit))))))))))) → Option (Unit × (((Unit × (Unit × (Unit × Unit))) × Bool) × ((List (Int × (Int × Int)) × Unit) × ((Unit × Unit) × ((List (Int × (Int × Int)) × Unit) × ((Int × Unit) × ((Int × Unit) × ((Int × Unit) × ((Int × Unit) × ((Unit × (Unit × Unit)) × ((Int × Unit) × Unit)))))))))))) (x : ((Unit × (Unit × (Unit × (Unit × (List (Int × (Int × Int)) × (Int × (Int × Unit))))))) × (((Unit × (Unit × (Unit × Unit))) × Bool) × ((List (Int × (Int × Int)) × Unit) × ((Unit × Unit) × ((List (Int × (Int × Int)) × Unit) × ((Int × Unit) × ((Int × Unit) × ((Int × Unit) × ((Int × Unit) × ((Unit × (Unit × Unit)) × ((Int × Unit) × Unit)))))))))))) : Option (Unit × (((Unit × (Unit × (Unit × Unit))) × Bool) × ((List (Int × (Int × Int)) × Unit) × ((Unit × Unit) × ((List (Int × (Int × Int)) × Unit) × ((Int × Unit) × ((Int × Unit) × ((Int × Unit) × ((Int × Unit) × ((Unit × (Unit × Unit)) × ((Int × Unit) × Unit))))))))))) := match x with
  | ((_, _, _, _, t9, t10, t11, ()), ((_, _, _, ()), d12), (c13, ()), (_, ()), (c14, ()), (c15, ()), (c16, ()), (c17, ()), (c18, ()), ((), _, ()), (c19, ()), ()) =>
    byB (decide (t11 < t10))
      (if (0 ≤ t11) ∧ (t11 < (t9.length : Int)) then
        let e21 := t9.getD t11.toNat (0, 0, 0);
        (parts1_24 N (((e21.1, e21.2.1, e21.2.2, ()), (), ()), (c19, ()), ())).bind fun y22 =>
        byB d12
          (none)
          ((Within_10_R7 N (((), (), (), y22.1.1, e21.1, ()), (c16, ()), (c17, ()), (c18, ()), ())).bind fun y23 =>
            byB y23.1.1
              (some ((), (((), (), (), ()), true), (c13, ()), ((), ()), (c14, ()), (c15, ()), (y23.2.1.1, ()), (y23.2.2.1.1, ()), (y23.2.2.2.1.1, ()), ((), (), ()), (y22.2.1.1, ()), ()))
              (again1 (((), (), (), (), t9, t10, IntKind.wrap .i64 (t11 + 1), ()), (((), (), (), ()), false), (c13, ()), ((), ()), (c14, ()), (c15, ()), (y23.2.1.1, ()), (y23.2.2.1.1, ()), (y23.2.2.2.1.1, ()), ((), (), ()), (y22.2.1.1, ()), ())))
        else none)
      (loopN N (parts2_25v1_L6 N) (((), (), (), c14, (c14.length : Int), 0, ()), (((), (), (), ()), d12), (c13, ()), ((), ()), (c14, ()), (c15, ()), (c16, ()), (c17, ()), (c18, ()), ((), (), ()), (c19, ()), ()))
def parts2_25v1 (N : Nat) (x : ((Unit × (Unit × (Unit × (Unit × (Unit × Unit))))) × (((Unit × (Unit × (Unit × Unit))) × Bool) × ((List (Int × (Int × Int)) × Unit) × ((Unit × Unit) × ((List (Int × (Int × Int)) × Unit) × ((Int × Unit) × ((Int × Unit) × ((Int × Unit) × ((Int × Unit) × ((Unit × (Unit × Unit)) × ((Int × Unit) × Unit)))))))))))) : Option (Unit × (((Unit × (Unit × (Unit × Unit))) × Bool) × ((List (Int × (Int × Int)) × Unit) × ((Unit × Unit) × ((List (Int × (Int × Int)) × Unit) × ((Int × Unit) × ((Int × Unit) × ((Int × Unit) × ((Int × Unit) × ((Unit × (Unit × Unit)) × ((Int × Unit) × Unit))))))))))) := match x with
  | ((_, _, _, _, _, ()), ((_, _, _, ()), d0), (c1, ()), (_, ()), (c2, ()), (c3, ()), (c4, ()), (c5, ()), (c6, ()), ((), _, ()), (c7, ()), ()) =>
    loopN N (parts2_25v1_L1 N) (((), (), (), (), c1, (c1.length : Int), 0, ()), (((), (), (), ()), d0), (c1, ()), ((), ()), (c2, ()), (c3, ()), (c4, ()), (c5, ()), (c6, ()), ((), (), ()), (c7, ()), ())
theorem eq_parts2_25v1 (N : Nat) (x : (ap_parts2_25v1).den) : funX Try.prog (fs16 N) N 25 lo_parts2_25v1 jo_parts2_25v1 Try.f25 ap_parts2_25v1 rp_parts2_25v1 x = parts2_25v1 N x := by kernel_rfl
noncomputable def sp_parts2_25v1 (N : Nat) : FSpec := specOf ap_parts2_25v1 rp_parts2_25v1 false (parts2_25v1 N)
theorem ok_parts2_25v1 (N : Nat) : FSound Try.prog 25 (sp_parts2_25v1 N) := funX_sound (N := N) (loops := lo_parts2_25v1) (joins := jo_parts2_25v1) (fsok16 N) Try.func25 (by kernel_rfl) (by kernel_rfl) fun x _ h => (eq_parts2_25v1 N x).trans h
noncomputable def fs17 (N : Nat) : FuncId → List V1 → List Blk → Option FSpec := fun g xs H => if g = 25 then some (sp_parts2_25v1 N) else fs16 N g xs H
theorem fsok17 (N : Nat) : ∀ g xs H sp, fs17 N g xs H = some sp → FSound Try.prog g sp := fun g xs H sp h => by
  unfold fs17 at h
  by_cases e : g = 25
  · rw [if_pos e] at h; subst e; cases h; exact ok_parts2_25v1 N
  · rw [if_neg e] at h; exact fsok16 N g xs H sp h
/-! Within_10 -/
abbrev ap_Within_10 : Pat := ⟨[.one (.int .i64), .one (.int .i64), .one (.int .i64), .one (.ro (.pair (.int .i64) (.pair (.int .i64) (.int .i64)))), .one (.ro (.pair (.int .i64) (.pair (.int .i64) (.int .i64)))), .one (.int .i64)], []⟩
abbrev rp_Within_10 : List Pat := [⟨[.one (.int .i64), .one (.int .i64)], []⟩]
def lo_Within_10 : List LSpec := []
def jo_Within_10 : List LSpec := []
def Within_10 (N : Nat) (x : ((Int × (Int × (Int × (List (Int × (Int × Int)) × (List (Int × (Int × Int)) × (Int × Unit)))))) × Unit)) : Option ((Int × (Int × Unit)) × Unit) := match x with
  | ((own0, block1, release2, above3, all4, n5, ()), ()) =>
    (right_15 N ((own0, block1, release2, above3, all4, ()), ())).bind fun y6 =>
    byB (!y6.1.1)
      (some ((0, 1, ()), ()))
      (byB (decide (n5 < 0))
          (some ((0, 1, ()), ()))
          (byB (decide (n5 > 4611686018427387904))
              (some ((0, 1, ()), ()))
              ((parts_16v1 N ((release2, above3, all4, n5, ()), ())).bind fun y11 =>
                (parts2_25v1 N (((), (), (), (), (), ()), (((), (), (), ()), false), (y11.2.2.1.1, ()), ((), ()), (y11.2.2.2.2.1.1, ()), (y11.2.2.2.2.2.1.1, ()), (IntKind.wrap .i64 (own0 + block1), ()), (0, ()), (0, ()), ((), (), ()), (y11.2.2.2.2.2.2.2.1.1, ()), ())).bind fun y12 =>
                byB y12.2.1.2
                  (some ((y12.2.2.2.2.2.2.2.1.1, y12.2.2.2.2.2.2.2.2.1.1, ()), ()))
                  (some ((y12.2.2.2.2.2.2.1.1, 0, ()), ())))))
theorem eq_Within_10 (N : Nat) (x : (ap_Within_10).den) : funX Try.prog (fs17 N) N 10 lo_Within_10 jo_Within_10 Try.f10 ap_Within_10 rp_Within_10 x = Within_10 N x := by kernel_rfl
noncomputable def sp_Within_10 (N : Nat) : FSpec := specOf ap_Within_10 rp_Within_10 true (Within_10 N)
theorem ok_Within_10 (N : Nat) : FSound Try.prog 10 (sp_Within_10 N) := funX_sound (N := N) (loops := lo_Within_10) (joins := jo_Within_10) (fsok17 N) Try.func10 (by kernel_rfl) (by kernel_rfl) fun x _ h => (eq_Within_10 N x).trans h
noncomputable def fs18 (N : Nat) : FuncId → List V1 → List Blk → Option FSpec := fun g xs H => if g = 10 then some (sp_Within_10 N) else fs17 N g xs H
theorem fsok18 (N : Nat) : ∀ g xs H sp, fs18 N g xs H = some sp → FSound Try.prog g sp := fun g xs H sp h => by
  unfold fs18 at h
  by_cases e : g = 10
  · rw [if_pos e] at h; subst e; cases h; exact ok_Within_10 N
  · rw [if_neg e] at h; exact fsok17 N g xs H sp h
/-! Bound_13 -/
abbrev ap_Bound_13 : Pat := ⟨[.one (.int .i64), .one (.int .i64), .one (.int .i64), .one (.ro (.pair (.int .i64) (.pair (.int .i64) (.int .i64)))), .one (.ro (.pair (.int .i64) (.pair (.int .i64) (.int .i64)))), .one (.int .i64)], []⟩
abbrev rp_Bound_13 : List Pat := [⟨[.one (.int .i64), .one (.int .i64)], []⟩]
def lo_Bound_13 : List LSpec := [⟨5, [0, 1, 2, 3, 4, 5, 14, 32], ⟨[.one (.int .i64), .one (.int .i64), .one (.int .i64), .one (.ro (.pair (.int .i64) (.pair (.int .i64) (.int .i64)))), .one (.ro (.pair (.int .i64) (.pair (.int .i64) (.int .i64)))), .one (.int .i64), .one (.int .i64), .one (.int .i64)], []⟩⟩]
def jo_Bound_13 : List LSpec := []
def Bound_13_L5 (N : Nat) (again5 : ((Int × (Int × (Int × (List (Int × (Int × Int)) × (List (Int × (Int × Int)) × (Int × (Int × (Int × Unit)))))))) × Unit) → Option ((Int × (Int × Unit)) × Unit)) (x : ((Int × (Int × (Int × (List (Int × (Int × Int)) × (List (Int × (Int × Int)) × (Int × (Int × (Int × Unit)))))))) × Unit)) : Option ((Int × (Int × Unit)) × Unit) := match x with
  | ((own10, block11, release12, above13, all14, limit15, n16, t17, ()), ()) =>
    byB (decide (t17 < 5000))
      ((Within_10 N ((own10, block11, release12, above13, all14, n16, ()), ())).bind fun y19 =>
        byB (y19.1.2.1 != 0)
          (some ((0, y19.1.2.1, ()), ()))
          (byB (decide (y19.1.1 ≤ n16))
              (some ((n16, 0, ()), ()))
              (byB (decide (y19.1.1 > limit15))
                  (some ((0, 12, ()), ()))
                  (again5 ((own10, block11, release12, above13, all14, limit15, y19.1.1, IntKind.wrap .i64 (t17 + 1), ()), ())))))
      (some ((0, 11, ()), ()))
def Bound_13 (N : Nat) (x : ((Int × (Int × (Int × (List (Int × (Int × Int)) × (List (Int × (Int × Int)) × (Int × Unit)))))) × Unit)) : Option ((Int × (Int × Unit)) × Unit) := match x with
  | ((own0, block1, release2, above3, all4, limit5, ()), ()) =>
    (right_15 N ((own0, block1, release2, above3, all4, ()), ())).bind fun y6 =>
    byB (!y6.1.1)
      (some ((0, 1, ()), ()))
      (byB (decide (limit5 < 1))
          (some ((0, 1, ()), ()))
          (byB (decide (limit5 > 1099511627776))
              (some ((0, 1, ()), ()))
              (loopN N (Bound_13_L5 N) ((own0, block1, release2, above3, all4, limit5, 1, 0, ()), ()))))
theorem eq_Bound_13 (N : Nat) (x : (ap_Bound_13).den) : funX Try.prog (fs18 N) N 13 lo_Bound_13 jo_Bound_13 Try.f13 ap_Bound_13 rp_Bound_13 x = Bound_13 N x := by kernel_rfl
noncomputable def sp_Bound_13 (N : Nat) : FSpec := specOf ap_Bound_13 rp_Bound_13 true (Bound_13 N)
theorem ok_Bound_13 (N : Nat) : FSound Try.prog 13 (sp_Bound_13 N) := funX_sound (N := N) (loops := lo_Bound_13) (joins := jo_Bound_13) (fsok18 N) Try.func13 (by kernel_rfl) (by kernel_rfl) fun x _ h => (eq_Bound_13 N x).trans h
noncomputable def fs19 (N : Nat) : FuncId → List V1 → List Blk → Option FSpec := fun g xs H => if g = 13 then some (sp_Bound_13 N) else fs18 N g xs H
theorem fsok19 (N : Nat) : ∀ g xs H sp, fs19 N g xs H = some sp → FSound Try.prog g sp := fun g xs H sp h => by
  unfold fs19 at h
  by_cases e : g = 13
  · rw [if_pos e] at h; subst e; cases h; exact ok_Bound_13 N
  · rw [if_neg e] at h; exact fsok18 N g xs H sp h
/-! examples_9 -/
abbrev ap_examples_9 : Pat := ⟨[], []⟩
abbrev rp_examples_9 : List Pat := [⟨[.one (.bool)], []⟩]
def lo_examples_9 : List LSpec := []
def jo_examples_9 : List LSpec := []
def examples_9 (N : Nat) (x : (Unit × Unit)) : Option ((Bool × Unit) × Unit) := if 300 ≤ N then some ((true, ()), ()) else none
theorem eq_examples_9 (k : Nat) : funX Try.prog (fs19 (k + 300)) (k + 300) 9 lo_examples_9 jo_examples_9 Try.f9 ap_examples_9 rp_examples_9 ((), ()) = some ((true, ()), ()) := by kernel_rfl
noncomputable def sp_examples_9 (N : Nat) : FSpec := specOf ap_examples_9 rp_examples_9 true (examples_9 N)
theorem ok_examples_9 (N : Nat) : FSound Try.prog 9 (sp_examples_9 N) := funX_sound (N := N) (loops := lo_examples_9) (joins := jo_examples_9) (fsok19 N) Try.func9 (by kernel_rfl) (by kernel_rfl) fun x _ h => by
  unfold examples_9 at h
  split at h
  · rename_i hN
    obtain ⟨k, rfl⟩ : ∃ k, N = k + 300 := ⟨N - 300, by omega⟩
    exact (eq_examples_9 k).trans h
  · cases h
noncomputable def fs20 (N : Nat) : FuncId → List V1 → List Blk → Option FSpec := fun g xs H => if g = 9 then some (sp_examples_9 N) else fs19 N g xs H
theorem fsok20 (N : Nat) : ∀ g xs H sp, fs20 N g xs H = some sp → FSound Try.prog g sp := fun g xs H sp h => by
  unfold fs20 at h
  by_cases e : g = 9
  · rw [if_pos e] at h; subst e; cases h; exact ok_examples_9 N
  · rw [if_neg e] at h; exact fsok19 N g xs H sp h
/-! loads_12 -/
abbrev ap_loads_12 : Pat := ⟨[.one (.ro (.pair (.int .i64) (.pair (.int .i64) (.int .i64))))], []⟩
abbrev rp_loads_12 : List Pat := [⟨[.one (.full 0)], [.row 46 (.pair (.int .i64) (.pair (.int .i64) (.int .i64)))]⟩]
def lo_loads_12 : List LSpec := [⟨3, [0, 3, 4], ⟨[.one (.ro (.pair (.int .i64) (.pair (.int .i64) (.int .i64)))), .one (.full 0), .one (.int .i64)], [.row 46 (.pair (.int .i64) (.pair (.int .i64) (.int .i64)))]⟩⟩]
def jo_loads_12 : List LSpec := []
def loads_12_L3 (N : Nat) (again3 : ((List (Int × (Int × Int)) × (Unit × (Int × Unit))) × (List (Int × (Int × Int)) × Unit)) → Option ((Unit × Unit) × (List (Int × (Int × Int)) × Unit))) (x : ((List (Int × (Int × Int)) × (Unit × (Int × Unit))) × (List (Int × (Int × Int)) × Unit))) : Option ((Unit × Unit) × (List (Int × (Int × Int)) × Unit)) := match x with
  | ((l1, _, i2, ()), l3, ()) =>
    byB (decide (i2 < (l1.length : Int)))
      (if (0 ≤ i2) ∧ (i2 < (l1.length : Int)) then
        (if (0 ≤ i2) ∧ (i2 < (l1.length : Int)) then
        (if (0 ≤ i2) ∧ (i2 < (l1.length : Int)) then
        (if (l3.length + 1) * 24 ≤ 140737488355328 then
        again3 ((l1, (), IntKind.wrap .i64 (i2 + 1), ()), l3 ++ [l1.getD i2.toNat (0, 0, 0)], ())
        else none)
        else none)
        else none)
        else none)
      (some (((), ()), l3, ()))
def loads_12 (N : Nat) (x : ((List (Int × (Int × Int)) × Unit) × Unit)) : Option ((Unit × Unit) × (List (Int × (Int × Int)) × Unit)) := match x with
  | ((l0, ()), ()) =>
    loopN N (loads_12_L3 N) ((l0, (), 0, ()), [], ())
theorem eq_loads_12 (N : Nat) (x : (ap_loads_12).den) : funX Try.prog (fs20 N) N 12 lo_loads_12 jo_loads_12 Try.f12 ap_loads_12 rp_loads_12 x = loads_12 N x := by kernel_rfl
noncomputable def sp_loads_12 (N : Nat) : FSpec := specOf ap_loads_12 rp_loads_12 true (loads_12 N)
theorem ok_loads_12 (N : Nat) : FSound Try.prog 12 (sp_loads_12 N) := funX_sound (N := N) (loops := lo_loads_12) (joins := jo_loads_12) (fsok20 N) Try.func12 (by kernel_rfl) (by kernel_rfl) fun x _ h => (eq_loads_12 N x).trans h
noncomputable def fs21 (N : Nat) : FuncId → List V1 → List Blk → Option FSpec := fun g xs H => if g = 12 then some (sp_loads_12 N) else fs20 N g xs H
theorem fsok21 (N : Nat) : ∀ g xs H sp, fs21 N g xs H = some sp → FSound Try.prog g sp := fun g xs H sp h => by
  unfold fs21 at h
  by_cases e : g = 12
  · rw [if_pos e] at h; subst e; cases h; exact ok_loads_12 N
  · rw [if_neg e] at h; exact fsok20 N g xs H sp h
/-! loads_28 -/
abbrev ap_loads_28 : Pat := ⟨[.one (.ro (.pair (.int .i64) (.pair (.int .i64) (.int .i64))))], []⟩
abbrev rp_loads_28 : List Pat := [⟨[.one (.bool)], []⟩]
def lo_loads_28 : List LSpec := [⟨2, [0, 3], ⟨[.one (.ro (.pair (.int .i64) (.pair (.int .i64) (.int .i64)))), .one (.int .i64)], []⟩⟩]
def jo_loads_28 : List LSpec := []
def loads_28_L2 (N : Nat) (again2 : ((List (Int × (Int × Int)) × (Int × Unit)) × Unit) → Option ((Bool × Unit) × Unit)) (x : ((List (Int × (Int × Int)) × (Int × Unit)) × Unit)) : Option ((Bool × Unit) × Unit) := match x with
  | ((l1, i2, ()), ()) =>
    byB (decide (i2 < (l1.length : Int)))
      (if (0 ≤ i2) ∧ (i2 < (l1.length : Int)) then
        let e5 := l1.getD i2.toNat (0, 0, 0);
        byB (decide (e5.1 < 0))
          (some ((false, ()), ()))
          (byB (decide (e5.1 > 1099511627776))
              (some ((false, ()), ()))
              (byB (decide (e5.2.1 < 1))
                  (some ((false, ()), ()))
                  (byB (decide (e5.2.1 > 1099511627776))
                      (some ((false, ()), ()))
                      (byB (decide (e5.2.2 < 0))
                          (some ((false, ()), ()))
                          (byB (decide (e5.2.2 > 1099511627776))
                              (some ((false, ()), ()))
                              (again2 ((l1, IntKind.wrap .i64 (i2 + 1), ()), ())))))))
        else none)
      (some ((decide ((l1.length : Int) ≤ 72), ()), ()))
def loads_28 (N : Nat) (x : ((List (Int × (Int × Int)) × Unit) × Unit)) : Option ((Bool × Unit) × Unit) := match x with
  | ((l0, ()), ()) =>
    loopN N (loads_28_L2 N) ((l0, 0, ()), ())
theorem eq_loads_28 (N : Nat) (x : (ap_loads_28).den) : funX Try.prog (fs21 N) N 28 lo_loads_28 jo_loads_28 Try.f28 ap_loads_28 rp_loads_28 x = loads_28 N x := by kernel_rfl
noncomputable def sp_loads_28 (N : Nat) : FSpec := specOf ap_loads_28 rp_loads_28 true (loads_28 N)
theorem ok_loads_28 (N : Nat) : FSound Try.prog 28 (sp_loads_28 N) := funX_sound (N := N) (loops := lo_loads_28) (joins := jo_loads_28) (fsok21 N) Try.func28 (by kernel_rfl) (by kernel_rfl) fun x _ h => (eq_loads_28 N x).trans h
noncomputable def fs22 (N : Nat) : FuncId → List V1 → List Blk → Option FSpec := fun g xs H => if g = 28 then some (sp_loads_28 N) else fs21 N g xs H
theorem fsok22 (N : Nat) : ∀ g xs H sp, fs22 N g xs H = some sp → FSound Try.prog g sp := fun g xs H sp h => by
  unfold fs22 at h
  by_cases e : g = 28
  · rw [if_pos e] at h; subst e; cases h; exact ok_loads_28 N
  · rw [if_neg e] at h; exact fsok21 N g xs H sp h
/-! right_19 -/
abbrev ap_right_19 : Pat := ⟨[.one (.int .i64), .one (.int .i64), .one (.int .i64), .one (.ro (.pair (.int .i64) (.pair (.int .i64) (.int .i64)))), .one (.ro (.pair (.int .i64) (.pair (.int .i64) (.int .i64))))], []⟩
abbrev rp_right_19 : List Pat := [⟨[.one (.bool)], []⟩]
def lo_right_19 : List LSpec := []
def jo_right_19 : List LSpec := []
def right_19 (N : Nat) (x : ((Int × (Int × (Int × (List (Int × (Int × Int)) × (List (Int × (Int × Int)) × Unit))))) × Unit)) : Option ((Bool × Unit) × Unit) := match x with
  | ((own0, block1, release2, above3, all4, ()), ()) =>
    (loads_28 N ((above3, ()), ())).bind fun y5 =>
    (loads_28 N ((all4, ()), ())).bind fun y6 =>
    byB y5.1.1
      (byB y6.1.1
          (byB (decide (own0 ≥ 0))
              (byB (decide (own0 ≤ 1099511627776))
                  (byB (decide (block1 ≥ 0))
                      (byB (decide (block1 ≤ 1099511627776))
                          (byB (decide (release2 ≥ 0))
                              (some ((decide (release2 ≤ 1099511627776), ()), ()))
                              (some ((false, ()), ())))
                          (some ((false, ()), ())))
                      (some ((false, ()), ())))
                  (some ((false, ()), ())))
              (some ((false, ()), ())))
          (some ((false, ()), ())))
      (some ((false, ()), ()))
theorem eq_right_19 (N : Nat) (x : (ap_right_19).den) : funX Try.prog (fs22 N) N 19 lo_right_19 jo_right_19 Try.f19 ap_right_19 rp_right_19 x = right_19 N x := by kernel_rfl
noncomputable def sp_right_19 (N : Nat) : FSpec := specOf ap_right_19 rp_right_19 true (right_19 N)
theorem ok_right_19 (N : Nat) : FSound Try.prog 19 (sp_right_19 N) := funX_sound (N := N) (loops := lo_right_19) (joins := jo_right_19) (fsok22 N) Try.func19 (by kernel_rfl) (by kernel_rfl) fun x _ h => (eq_right_19 N x).trans h
noncomputable def fs23 (N : Nat) : FuncId → List V1 → List Blk → Option FSpec := fun g xs H => if g = 19 then some (sp_right_19 N) else fs22 N g xs H
theorem fsok23 (N : Nat) : ∀ g xs H sp, fs23 N g xs H = some sp → FSound Try.prog g sp := fun g xs H sp h => by
  unfold fs23 at h
  by_cases e : g = 19
  · rw [if_pos e] at h; subst e; cases h; exact ok_right_19 N
  · rw [if_neg e] at h; exact fsok22 N g xs H sp h
/-! up_21 -/
abbrev ap_up_21 : Pat := ⟨[.one (.int .i64), .one (.int .i64)], []⟩
abbrev rp_up_21 : List Pat := [⟨[.one (.int .i64)], []⟩]
def lo_up_21 : List LSpec := []
def jo_up_21 : List LSpec := []
def up_21 (N : Nat) (x : ((Int × (Int × Unit)) × Unit)) : Option ((Int × Unit) × Unit) := match x with
  | ((n0, d1, ()), ()) =>
    if d1 = 0 then
      none
    else
    byB (decide ((Int.tmod n0 d1) > 0))
      (if d1 = 0 then
          none
        else
        some ((IntKind.wrap .i64 ((IntKind.wrap .i64 (Int.tdiv n0 d1)) + 1), ()), ()))
      (if d1 = 0 then
          none
        else
        some ((IntKind.wrap .i64 (Int.tdiv n0 d1), ()), ()))
theorem eq_up_21 (N : Nat) (x : (ap_up_21).den) : funX Try.prog (fs23 N) N 21 lo_up_21 jo_up_21 Try.f21 ap_up_21 rp_up_21 x = up_21 N x := by kernel_rfl
noncomputable def sp_up_21 (N : Nat) : FSpec := specOf ap_up_21 rp_up_21 true (up_21 N)
theorem ok_up_21 (N : Nat) : FSound Try.prog 21 (sp_up_21 N) := funX_sound (N := N) (loops := lo_up_21) (joins := jo_up_21) (fsok23 N) Try.func21 (by kernel_rfl) (by kernel_rfl) fun x _ h => (eq_up_21 N x).trans h
noncomputable def fs24 (N : Nat) : FuncId → List V1 → List Blk → Option FSpec := fun g xs H => if g = 21 then some (sp_up_21 N) else fs23 N g xs H
theorem fsok24 (N : Nat) : ∀ g xs H sp, fs24 N g xs H = some sp → FSound Try.prog g sp := fun g xs H sp h => by
  unfold fs24 at h
  by_cases e : g = 21
  · rw [if_pos e] at h; subst e; cases h; exact ok_up_21 N
  · rw [if_neg e] at h; exact fsok23 N g xs H sp h
/-! Mul_29 -/
abbrev ap_Mul_29 : Pat := ⟨[.one (.int .i64), .one (.int .i64)], []⟩
abbrev rp_Mul_29 : List Pat := [⟨[.one (.int .i64), .one (.int .i64)], []⟩]
def lo_Mul_29 : List LSpec := []
def jo_Mul_29 : List LSpec := [⟨2, [0, 1, 12], ⟨[.one (.int .i64), .one (.int .i64), .one (.bool)], []⟩⟩, ⟨4, [0, 1, 26], ⟨[.one (.int .i64), .one (.int .i64), .one (.bool)], []⟩⟩, ⟨5, [0, 1], ⟨[.one (.int .i64), .one (.int .i64)], []⟩⟩]
def Mul_29_J4 (N : Nat) (join5 : ((Int × (Int × Unit)) × Unit) → Option ((Int × (Int × Unit)) × Unit)) (x : ((Int × (Int × (Bool × Unit))) × Unit)) : Option ((Int × (Int × Unit)) × Unit) := match x with
  | ((a13, b14, t15, ()), ()) =>
    byB t15
      (some ((0, 2, ()), ()))
      (join5 ((a13, b14, ()), ()))
def Mul_29_J5 (N : Nat) (x : ((Int × (Int × Unit)) × Unit)) : Option ((Int × (Int × Unit)) × Unit) := match x with
  | ((a16, b17, ()), ()) =>
    let t18 := IntKind.wrap .i64 (a16 * b17);
    if b17 = 0 then
      none
    else
    byB ((IntKind.wrap .i64 (Int.tdiv t18 b17)) != a16)
      (some ((0, 2, ()), ()))
      (if a16 = 0 then
          none
        else
        byB ((IntKind.wrap .i64 (Int.tdiv t18 a16)) != b17)
          (some ((0, 2, ()), ()))
          (some ((t18, 0, ()), ())))
def Mul_29_J2 (N : Nat) (x : ((Int × (Int × (Bool × Unit))) × Unit)) : Option ((Int × (Int × Unit)) × Unit) := match x with
  | ((a4, b5, t6, ()), ()) =>
    byB t6
      (some ((0, 0, ()), ()))
      (withJoin (Mul_29_J5 N) fun join5 =>
        withJoin (Mul_29_J4 N join5) fun join4 =>
        byB (a4 == (-1))
          (byB (b5 == (-9223372036854775808))
              (join4 ((a4, b5, true, ()), ()))
              (byB (b5 == (-1))
                  (join4 ((a4, b5, a4 == (-9223372036854775808), ()), ()))
                  (join4 ((a4, b5, false, ()), ()))))
          (byB (b5 == (-1))
              (join4 ((a4, b5, a4 == (-9223372036854775808), ()), ()))
              (join4 ((a4, b5, false, ()), ()))))
def Mul_29 (N : Nat) (x : ((Int × (Int × Unit)) × Unit)) : Option ((Int × (Int × Unit)) × Unit) := match x with
  | ((a0, b1, ()), ()) =>
    withJoin (Mul_29_J2 N) fun join2 =>
    byB (a0 == 0)
      (join2 ((a0, b1, true, ()), ()))
      (join2 ((a0, b1, b1 == 0, ()), ()))
theorem eq_Mul_29 (N : Nat) (x : (ap_Mul_29).den) : funX Try.prog (fs24 N) N 29 lo_Mul_29 jo_Mul_29 Try.f29 ap_Mul_29 rp_Mul_29 x = Mul_29 N x := by kernel_rfl
noncomputable def sp_Mul_29 (N : Nat) : FSpec := specOf ap_Mul_29 rp_Mul_29 true (Mul_29 N)
theorem ok_Mul_29 (N : Nat) : FSound Try.prog 29 (sp_Mul_29 N) := funX_sound (N := N) (loops := lo_Mul_29) (joins := jo_Mul_29) (fsok24 N) Try.func29 (by kernel_rfl) (by kernel_rfl) fun x _ h => (eq_Mul_29 N x).trans h
noncomputable def fs25 (N : Nat) : FuncId → List V1 → List Blk → Option FSpec := fun g xs H => if g = 29 then some (sp_Mul_29 N) else fs24 N g xs H
theorem fsok25 (N : Nat) : ∀ g xs H sp, fs25 N g xs H = some sp → FSound Try.prog g sp := fun g xs H sp h => by
  unfold fs25 at h
  by_cases e : g = 29
  · rw [if_pos e] at h; subst e; cases h; exact ok_Mul_29 N
  · rw [if_neg e] at h; exact fsok24 N g xs H sp h
/-! Add_30 -/
abbrev ap_Add_30 : Pat := ⟨[.one (.int .i64), .one (.int .i64)], []⟩
abbrev rp_Add_30 : List Pat := [⟨[.one (.int .i64), .one (.int .i64)], []⟩]
def lo_Add_30 : List LSpec := []
def jo_Add_30 : List LSpec := []
def Add_30 (N : Nat) (x : ((Int × (Int × Unit)) × Unit)) : Option ((Int × (Int × Unit)) × Unit) := match x with
  | ((a0, b1, ()), ()) =>
    byB (decide (b1 > 0))
      (byB (decide (a0 > (IntKind.wrap .i64 (9223372036854775807 - b1))))
          (some ((0, 2, ()), ()))
          (byB (decide (b1 < 0))
              (byB (decide (a0 < (IntKind.wrap .i64 ((-9223372036854775808) - b1))))
                  (some ((0, 2, ()), ()))
                  (some ((IntKind.wrap .i64 (a0 + b1), 0, ()), ())))
              (some ((IntKind.wrap .i64 (a0 + b1), 0, ()), ()))))
      (byB (decide (b1 < 0))
          (byB (decide (a0 < (IntKind.wrap .i64 ((-9223372036854775808) - b1))))
              (some ((0, 2, ()), ()))
              (some ((IntKind.wrap .i64 (a0 + b1), 0, ()), ())))
          (some ((IntKind.wrap .i64 (a0 + b1), 0, ()), ())))
theorem eq_Add_30 (N : Nat) (x : (ap_Add_30).den) : funX Try.prog (fs25 N) N 30 lo_Add_30 jo_Add_30 Try.f30 ap_Add_30 rp_Add_30 x = Add_30 N x := by kernel_rfl
noncomputable def sp_Add_30 (N : Nat) : FSpec := specOf ap_Add_30 rp_Add_30 true (Add_30 N)
theorem ok_Add_30 (N : Nat) : FSound Try.prog 30 (sp_Add_30 N) := funX_sound (N := N) (loops := lo_Add_30) (joins := jo_Add_30) (fsok25 N) Try.func30 (by kernel_rfl) (by kernel_rfl) fun x _ h => (eq_Add_30 N x).trans h
noncomputable def fs26 (N : Nat) : FuncId → List V1 → List Blk → Option FSpec := fun g xs H => if g = 30 then some (sp_Add_30 N) else fs25 N g xs H
theorem fsok26 (N : Nat) : ∀ g xs H sp, fs26 N g xs H = some sp → FSound Try.prog g sp := fun g xs H sp h => by
  unfold fs26 at h
  by_cases e : g = 30
  · rw [if_pos e] at h; subst e; cases h; exact ok_Add_30 N
  · rw [if_neg e] at h; exact fsok25 N g xs H sp h
/-! more_20 -/
abbrev ap_more_20 : Pat := ⟨[.one (.int .i64), .one (.int .i64), .one (.int .i64)], []⟩
abbrev rp_more_20 : List Pat := [⟨[.one (.int .i64), .one (.bool)], []⟩]
def lo_more_20 : List LSpec := []
def jo_more_20 : List LSpec := []
def more_20 (N : Nat) (x : ((Int × (Int × (Int × Unit))) × Unit)) : Option ((Int × (Bool × Unit)) × Unit) := match x with
  | ((sum0, many1, work2, ()), ()) =>
    (Mul_29 N ((many1, work2, ()), ())).bind fun y3 =>
    byB (y3.1.2.1 == 0)
      ((Add_30 N ((sum0, y3.1.1, ()), ())).bind fun y5 =>
        byB (y5.1.2.1 == 0)
          (some ((y5.1.1, decide (y5.1.1 ≤ 4611686018427387904), ()), ()))
          (some ((y5.1.1, false, ()), ())))
      (byB (y3.1.2.1 == 0)
          (some ((y3.1.1, decide (y3.1.1 ≤ 4611686018427387904), ()), ()))
          (some ((y3.1.1, false, ()), ())))
theorem eq_more_20 (N : Nat) (x : (ap_more_20).den) : funX Try.prog (fs26 N) N 20 lo_more_20 jo_more_20 Try.f20 ap_more_20 rp_more_20 x = more_20 N x := by kernel_rfl
noncomputable def sp_more_20 (N : Nat) : FSpec := specOf ap_more_20 rp_more_20 true (more_20 N)
theorem ok_more_20 (N : Nat) : FSound Try.prog 20 (sp_more_20 N) := funX_sound (N := N) (loops := lo_more_20) (joins := jo_more_20) (fsok26 N) Try.func20 (by kernel_rfl) (by kernel_rfl) fun x _ h => (eq_more_20 N x).trans h
noncomputable def fs27 (N : Nat) : FuncId → List V1 → List Blk → Option FSpec := fun g xs H => if g = 20 then some (sp_more_20 N) else fs26 N g xs H
theorem fsok27 (N : Nat) : ∀ g xs H sp, fs27 N g xs H = some sp → FSound Try.prog g sp := fun g xs H sp h => by
  unfold fs27 at h
  by_cases e : g = 20
  · rw [if_pos e] at h; subst e; cases h; exact ok_more_20 N
  · rw [if_neg e] at h; exact fsok26 N g xs H sp h
/-! Within_11 -/
abbrev ap_Within_11 : Pat := ⟨[.one (.int .i64), .one (.int .i64), .one (.int .i64), .one (.ro (.pair (.int .i64) (.pair (.int .i64) (.int .i64)))), .one (.ro (.pair (.int .i64) (.pair (.int .i64) (.int .i64)))), .one (.int .i64)], []⟩
abbrev rp_Within_11 : List Pat := [⟨[.one (.int .i64), .one (.int .i64)], []⟩]
def lo_Within_11 : List LSpec := [⟨7, [2, 3, 4, 5, 15, 16, 17], ⟨[.one (.int .i64), .one (.ro (.pair (.int .i64) (.pair (.int .i64) (.int .i64)))), .one (.ro (.pair (.int .i64) (.pair (.int .i64) (.int .i64)))), .one (.int .i64), .one (.int .i64), .one (.bool), .one (.int .i64)], []⟩⟩, ⟨11, [2, 4, 5, 15, 16, 18], ⟨[.one (.int .i64), .one (.ro (.pair (.int .i64) (.pair (.int .i64) (.int .i64)))), .one (.int .i64), .one (.int .i64), .one (.bool), .one (.int .i64)], []⟩⟩]
def jo_Within_11 : List LSpec := []
def Within_11_L11 (N : Nat) (again11 : ((Int × (List (Int × (Int × Int)) × (Int × (Int × (Bool × (Int × Unit)))))) × Unit) → Option ((Int × (Int × Unit)) × Unit)) (x : ((Int × (List (Int × (Int × Int)) × (Int × (Int × (Bool × (Int × Unit)))))) × Unit)) : Option ((Int × (Int × Unit)) × Unit) := match x with
  | ((release44, all45, n46, sum47, fits48, i49, ()), ()) =>
    byB (decide (i49 < (all45.length : Int)))
      (byB fits48
          (if (0 ≤ i49) ∧ (i49 < (all45.length : Int)) then
            (if (0 ≤ i49) ∧ (i49 < (all45.length : Int)) then
            (up_21 N ((IntKind.wrap .i64 (n46 + (all45.getD i49.toNat (0, 0, 0)).2.2), (all45.getD i49.toNat (0, 0, 0)).2.1, ()), ())).bind fun y55 =>
            (more_20 N ((sum47, IntKind.wrap .i64 (y55.1.1 + 1), release44, ()), ())).bind fun y57 =>
            again11 ((release44, all45, n46, y57.1.1, y57.1.2.1, IntKind.wrap .i64 (i49 + 1), ()), ())
            else none)
            else none)
          (byB (!fits48)
              (some ((0, 2, ()), ()))
              (some ((sum47, 0, ()), ()))))
      (byB (!fits48)
          (some ((0, 2, ()), ()))
          (some ((sum47, 0, ()), ())))
def Within_11_L7 (N : Nat) (again7 : ((Int × (List (Int × (Int × Int)) × (List (Int × (Int × Int)) × (Int × (Int × (Bool × (Int × Unit))))))) × Unit) → Option ((Int × (Int × Unit)) × Unit)) (x : ((Int × (List (Int × (Int × Int)) × (List (Int × (Int × Int)) × (Int × (Int × (Bool × (Int × Unit))))))) × Unit)) : Option ((Int × (Int × Unit)) × Unit) := match x with
  | ((release11, above12, all13, n14, sum15, fits16, i17, ()), ()) =>
    byB (decide (i17 < (above12.length : Int)))
      (byB fits16
          (if (0 ≤ i17) ∧ (i17 < (above12.length : Int)) then
            (if (0 ≤ i17) ∧ (i17 < (above12.length : Int)) then
            (up_21 N ((IntKind.wrap .i64 (n14 + (above12.getD i17.toNat (0, 0, 0)).2.2), (above12.getD i17.toNat (0, 0, 0)).2.1, ()), ())).bind fun y23 =>
            if (0 ≤ i17) ∧ (i17 < (above12.length : Int)) then
            (more_20 N ((sum15, y23.1.1, (above12.getD i17.toNat (0, 0, 0)).1, ()), ())).bind fun y25 =>
            again7 ((release11, above12, all13, n14, y25.1.1, y25.1.2.1, IntKind.wrap .i64 (i17 + 1), ()), ())
            else none
            else none)
            else none)
          (loopN N (Within_11_L11 N) ((release11, all13, n14, sum15, fits16, 0, ()), ())))
      (loopN N (Within_11_L11 N) ((release11, all13, n14, sum15, fits16, 0, ()), ()))
def Within_11 (N : Nat) (x : ((Int × (Int × (Int × (List (Int × (Int × Int)) × (List (Int × (Int × Int)) × (Int × Unit)))))) × Unit)) : Option ((Int × (Int × Unit)) × Unit) := match x with
  | ((own0, block1, release2, above3, all4, n5, ()), ()) =>
    (right_19 N ((own0, block1, release2, above3, all4, ()), ())).bind fun y6 =>
    byB (!y6.1.1)
      (some ((0, 1, ()), ()))
      (byB (decide (n5 < 0))
          (some ((0, 1, ()), ()))
          (byB (decide (n5 > 4611686018427387904))
              (some ((0, 1, ()), ()))
              (loopN N (Within_11_L7 N) ((release2, above3, all4, n5, IntKind.wrap .i64 (own0 + block1), true, 0, ()), ()))))
theorem eq_Within_11 (N : Nat) (x : (ap_Within_11).den) : funX Try.prog (fs27 N) N 11 lo_Within_11 jo_Within_11 Try.f11 ap_Within_11 rp_Within_11 x = Within_11 N x := by kernel_rfl
noncomputable def sp_Within_11 (N : Nat) : FSpec := specOf ap_Within_11 rp_Within_11 true (Within_11 N)
theorem ok_Within_11 (N : Nat) : FSound Try.prog 11 (sp_Within_11 N) := funX_sound (N := N) (loops := lo_Within_11) (joins := jo_Within_11) (fsok27 N) Try.func11 (by kernel_rfl) (by kernel_rfl) fun x _ h => (eq_Within_11 N x).trans h
noncomputable def fs28 (N : Nat) : FuncId → List V1 → List Blk → Option FSpec := fun g xs H => if g = 11 then some (sp_Within_11 N) else fs27 N g xs H
theorem fsok28 (N : Nat) : ∀ g xs H sp, fs28 N g xs H = some sp → FSound Try.prog g sp := fun g xs H sp h => by
  unfold fs28 at h
  by_cases e : g = 11
  · rw [if_pos e] at h; subst e; cases h; exact ok_Within_11 N
  · rw [if_neg e] at h; exact fsok27 N g xs H sp h
/-! Bound_14 -/
abbrev ap_Bound_14 : Pat := ⟨[.one (.int .i64), .one (.int .i64), .one (.int .i64), .one (.ro (.pair (.int .i64) (.pair (.int .i64) (.int .i64)))), .one (.ro (.pair (.int .i64) (.pair (.int .i64) (.int .i64)))), .one (.int .i64)], []⟩
abbrev rp_Bound_14 : List Pat := [⟨[.one (.int .i64), .one (.int .i64)], []⟩]
def lo_Bound_14 : List LSpec := [⟨6, [0, 1, 2, 3, 4, 5, 15, 16], ⟨[.one (.int .i64), .one (.int .i64), .one (.int .i64), .one (.ro (.pair (.int .i64) (.pair (.int .i64) (.int .i64)))), .one (.ro (.pair (.int .i64) (.pair (.int .i64) (.int .i64)))), .one (.int .i64), .one (.int .i64), .one (.int .i64)], []⟩⟩]
def jo_Bound_14 : List LSpec := []
def Bound_14_L6 (N : Nat) (again6 : ((Int × (Int × (Int × (List (Int × (Int × Int)) × (List (Int × (Int × Int)) × (Int × (Int × (Int × Unit)))))))) × Unit) → Option ((Int × (Int × Unit)) × Unit)) (x : ((Int × (Int × (Int × (List (Int × (Int × Int)) × (List (Int × (Int × Int)) × (Int × (Int × (Int × Unit)))))))) × Unit)) : Option ((Int × (Int × Unit)) × Unit) := match x with
  | ((own10, block11, release12, above13, all14, limit15, n16, step17, ()), ()) =>
    byB (decide (step17 < 5000))
      ((Within_11 N ((own10, block11, release12, above13, all14, n16, ()), ())).bind fun y19 =>
        byB (y19.1.2.1 != 0)
          (some ((0, y19.1.2.1, ()), ()))
          (byB (decide (y19.1.1 ≤ n16))
              (some ((n16, 0, ()), ()))
              (byB (decide (y19.1.1 > limit15))
                  (some ((0, 12, ()), ()))
                  (again6 ((own10, block11, release12, above13, all14, limit15, y19.1.1, IntKind.wrap .i64 (step17 + 1), ()), ())))))
      (some ((0, 11, ()), ()))
def Bound_14 (N : Nat) (x : ((Int × (Int × (Int × (List (Int × (Int × Int)) × (List (Int × (Int × Int)) × (Int × Unit)))))) × Unit)) : Option ((Int × (Int × Unit)) × Unit) := match x with
  | ((own0, block1, release2, above3, all4, limit5, ()), ()) =>
    (right_19 N ((own0, block1, release2, above3, all4, ()), ())).bind fun y6 =>
    byB (!y6.1.1)
      (some ((0, 1, ()), ()))
      (byB (decide (limit5 < 1))
          (some ((0, 1, ()), ()))
          (byB (decide (limit5 > 1099511627776))
              (some ((0, 1, ()), ()))
              (loopN N (Bound_14_L6 N) ((own0, block1, release2, above3, all4, limit5, 1, 0, ()), ()))))
theorem eq_Bound_14 (N : Nat) (x : (ap_Bound_14).den) : funX Try.prog (fs28 N) N 14 lo_Bound_14 jo_Bound_14 Try.f14 ap_Bound_14 rp_Bound_14 x = Bound_14 N x := by kernel_rfl
noncomputable def sp_Bound_14 (N : Nat) : FSpec := specOf ap_Bound_14 rp_Bound_14 true (Bound_14 N)
theorem ok_Bound_14 (N : Nat) : FSound Try.prog 14 (sp_Bound_14 N) := funX_sound (N := N) (loops := lo_Bound_14) (joins := jo_Bound_14) (fsok28 N) Try.func14 (by kernel_rfl) (by kernel_rfl) fun x _ h => (eq_Bound_14 N x).trans h
noncomputable def fs29 (N : Nat) : FuncId → List V1 → List Blk → Option FSpec := fun g xs H => if g = 14 then some (sp_Bound_14 N) else fs28 N g xs H
theorem fsok29 (N : Nat) : ∀ g xs H sp, fs29 N g xs H = some sp → FSound Try.prog g sp := fun g xs H sp h => by
  unfold fs29 at h
  by_cases e : g = 14
  · rw [if_pos e] at h; subst e; cases h; exact ok_Bound_14 N
  · rw [if_neg e] at h; exact fsok28 N g xs H sp h
/-! ResponseTells_3 -/
abbrev ap_ResponseTells_3 : Pat := ⟨[.one (.int .i64), .one (.int .i64), .one (.int .i64), .one (.ro (.pair (.int .i64) (.pair (.int .i64) (.int .i64)))), .one (.ro (.pair (.int .i64) (.pair (.int .i64) (.int .i64)))), .one (.int .i64), .one (.int .i64)], []⟩
abbrev rp_ResponseTells_3 : List Pat := [⟨[.one (.bool)], []⟩]
def lo_ResponseTells_3 : List LSpec := []
def jo_ResponseTells_3 : List LSpec := []
def ResponseTells_3 (N : Nat) (x : ((Int × (Int × (Int × (List (Int × (Int × Int)) × (List (Int × (Int × Int)) × (Int × (Int × Unit))))))) × Unit)) : Option ((Bool × Unit) × Unit) := match x with
  | ((own0, block1, release2, above3, all4, n5, limit6, ()), ()) =>
    (examples_9 N ((), ())).bind fun y7 =>
    (Within_10 N ((own0, block1, release2, above3, all4, n5, ()), ())).bind fun y8 =>
    (loads_12 N ((above3, ()), ())).bind fun y9 =>
    (loads_12 N ((all4, ()), ())).bind fun y10 =>
    (Within_11 N ((own0, block1, release2, y9.2.1, y10.2.1, n5, ()), ())).bind fun y11 =>
    (Bound_13 N ((own0, block1, release2, above3, all4, limit6, ()), ())).bind fun y12 =>
    (loads_12 N ((above3, ()), ())).bind fun y13 =>
    (loads_12 N ((all4, ()), ())).bind fun y14 =>
    (Bound_14 N ((own0, block1, release2, y13.2.1, y14.2.1, limit6, ()), ())).bind fun y15 =>
    byB y7.1.1
      (byB (y8.1.1 == y11.1.1)
          (byB (y8.1.2.1 == y11.1.2.1)
              (byB (y12.1.1 == y15.1.1)
                  (some ((y12.1.2.1 == y15.1.2.1, ()), ()))
                  (some ((false, ()), ())))
              (some ((false, ()), ())))
          (some ((false, ()), ())))
      (some ((false, ()), ()))
theorem eq_ResponseTells_3 (N : Nat) (x : (ap_ResponseTells_3).den) : funX Try.prog (fs29 N) N 3 lo_ResponseTells_3 jo_ResponseTells_3 Try.f3 ap_ResponseTells_3 rp_ResponseTells_3 x = ResponseTells_3 N x := by kernel_rfl
noncomputable def sp_ResponseTells_3 (N : Nat) : FSpec := specOf ap_ResponseTells_3 rp_ResponseTells_3 true (ResponseTells_3 N)
theorem ok_ResponseTells_3 (N : Nat) : FSound Try.prog 3 (sp_ResponseTells_3 N) := funX_sound (N := N) (loops := lo_ResponseTells_3) (joins := jo_ResponseTells_3) (fsok29 N) Try.func3 (by kernel_rfl) (by kernel_rfl) fun x _ h => (eq_ResponseTells_3 N x).trans h
noncomputable def fs30 (N : Nat) : FuncId → List V1 → List Blk → Option FSpec := fun g xs H => if g = 3 then some (sp_ResponseTells_3 N) else fs29 N g xs H
theorem fsok30 (N : Nat) : ∀ g xs H sp, fs30 N g xs H = some sp → FSound Try.prog g sp := fun g xs H sp h => by
  unfold fs30 at h
  by_cases e : g = 3
  · rw [if_pos e] at h; subst e; cases h; exact ok_ResponseTells_3 N
  · rw [if_neg e] at h; exact fsok29 N g xs H sp h
/-! ResponseLeast_4 -/
abbrev ap_ResponseLeast_4 : Pat := ⟨[.one (.int .i64), .one (.int .i64), .one (.int .i64), .one (.ro (.pair (.int .i64) (.pair (.int .i64) (.int .i64)))), .one (.ro (.pair (.int .i64) (.pair (.int .i64) (.int .i64)))), .one (.int .i64), .one (.int .i64)], []⟩
abbrev rp_ResponseLeast_4 : List Pat := [⟨[.one (.bool)], []⟩]
def lo_ResponseLeast_4 : List LSpec := []
def jo_ResponseLeast_4 : List LSpec := [⟨7, [0, 1, 2, 3, 4, 6, 15, 16, 60], ⟨[.one (.int .i64), .one (.int .i64), .one (.int .i64), .one (.ro (.pair (.int .i64) (.pair (.int .i64) (.int .i64)))), .one (.ro (.pair (.int .i64) (.pair (.int .i64) (.int .i64)))), .one (.int .i64), .one (.bool), .one (.int .i64), .one (.bool)], []⟩⟩]
def ResponseLeast_4_J7 (N : Nat) (x : ((Int × (Int × (Int × (List (Int × (Int × Int)) × (List (Int × (Int × Int)) × (Int × (Bool × (Int × (Bool × Unit))))))))) × Unit)) : Option ((Bool × Unit) × Unit) := match x with
  | ((own15, block16, release17, above18, all19, n20, head21, b22, t23, ()), ()) =>
    byB t23
      (some ((false, ()), ()))
      (byB (decide (n20 < 0))
          (if b22 = 0 then
              none
            else
            let t28 := IntKind.wrap .i64 (1 + (Int.tmod (IntKind.wrap .i64 (0 - (IntKind.wrap .i64 (n20 + 1)))) b22));
            (Within_10 N ((own15, block16, release17, above18, all19, t28, ()), ())).bind fun y29 =>
            byB head21
              (byB (y29.1.2.1 == 0)
                  (byB (t28 == b22)
                      (some ((true, ()), ()))
                      (some ((decide (y29.1.1 > t28), ()), ())))
                  (some ((false, ()), ())))
              (some ((false, ()), ())))
          (if b22 = 0 then
              none
            else
            let t34 := IntKind.wrap .i64 (1 + (Int.tmod n20 b22));
            (Within_10 N ((own15, block16, release17, above18, all19, t34, ()), ())).bind fun y35 =>
            byB head21
              (byB (y35.1.2.1 == 0)
                  (byB (t34 == b22)
                      (some ((true, ()), ()))
                      (some ((decide (y35.1.1 > t34), ()), ())))
                  (some ((false, ()), ())))
              (some ((false, ()), ()))))
def ResponseLeast_4 (N : Nat) (x : ((Int × (Int × (Int × (List (Int × (Int × Int)) × (List (Int × (Int × Int)) × (Int × (Int × Unit))))))) × Unit)) : Option ((Bool × Unit) × Unit) := match x with
  | ((own0, block1, release2, above3, all4, limit5, n6, ()), ()) =>
    (examples_9 N ((), ())).bind fun y7 =>
    (Bound_13 N ((own0, block1, release2, above3, all4, limit5, ()), ())).bind fun y8 =>
    byB (y8.1.2.1 != 0)
      (byB y7.1.1
          (some ((y8.1.1 == 0, ()), ()))
          (some ((false, ()), ())))
      ((Within_10 N ((own0, block1, release2, above3, all4, y8.1.1, ()), ())).bind fun y11 =>
        withJoin (ResponseLeast_4_J7 N) fun join7 =>
        byB (y11.1.2.1 != 0)
          (join7 ((own0, block1, release2, above3, all4, n6, y7.1.1, y8.1.1, true, ()), ()))
          (byB (decide (y11.1.1 > y8.1.1))
              (join7 ((own0, block1, release2, above3, all4, n6, y7.1.1, y8.1.1, true, ()), ()))
              (join7 ((own0, block1, release2, above3, all4, n6, y7.1.1, y8.1.1, decide (y8.1.1 < 1), ()), ()))))
theorem eq_ResponseLeast_4 (N : Nat) (x : (ap_ResponseLeast_4).den) : funX Try.prog (fs30 N) N 4 lo_ResponseLeast_4 jo_ResponseLeast_4 Try.f4 ap_ResponseLeast_4 rp_ResponseLeast_4 x = ResponseLeast_4 N x := by kernel_rfl
noncomputable def sp_ResponseLeast_4 (N : Nat) : FSpec := specOf ap_ResponseLeast_4 rp_ResponseLeast_4 true (ResponseLeast_4 N)
theorem ok_ResponseLeast_4 (N : Nat) : FSound Try.prog 4 (sp_ResponseLeast_4 N) := funX_sound (N := N) (loops := lo_ResponseLeast_4) (joins := jo_ResponseLeast_4) (fsok30 N) Try.func4 (by kernel_rfl) (by kernel_rfl) fun x _ h => (eq_ResponseLeast_4 N x).trans h
noncomputable def fs31 (N : Nat) : FuncId → List V1 → List Blk → Option FSpec := fun g xs H => if g = 4 then some (sp_ResponseLeast_4 N) else fs30 N g xs H
theorem fsok31 (N : Nat) : ∀ g xs H sp, fs31 N g xs H = some sp → FSound Try.prog g sp := fun g xs H sp h => by
  unfold fs31 at h
  by_cases e : g = 4
  · rw [if_pos e] at h; subst e; cases h; exact ok_ResponseLeast_4 N
  · rw [if_neg e] at h; exact fsok30 N g xs H sp h
/-! ResponseMore_5 -/
abbrev ap_ResponseMore_5 : Pat := ⟨[.one (.int .i64), .one (.int .i64), .one (.int .i64), .one (.ro (.pair (.int .i64) (.pair (.int .i64) (.int .i64)))), .agg [.int .i64, .int .i64, .int .i64], .one (.int .i64), .one (.int .i64)], []⟩
abbrev rp_ResponseMore_5 : List Pat := [⟨[.one (.bool)], []⟩]
def lo_ResponseMore_5 : List LSpec := []
def jo_ResponseMore_5 : List LSpec := []
def ResponseMore_5 (N : Nat) (x : ((Int × (Int × (Int × (List (Int × (Int × Int)) × ((Int × (Int × (Int × Unit))) × (Int × (Int × Unit))))))) × Unit)) : Option ((Bool × Unit) × Unit) := match x with
  | ((own0, block1, release2, above3, (x4, x5, x6, ()), less7, limit8, ()), ()) =>
    (examples_9 N ((), ())).bind fun y9 =>
    (Bound_13 N ((own0, block1, release2, above3, [], limit8, ()), ())).bind fun y10 =>
    if (0 + above3.length) * 24 ≤ 140737488355328 then
    (if (above3.length + 1) * 24 ≤ 140737488355328 then
    (Bound_13 N ((own0, block1, release2, above3 ++ [(x4, x5, x6)], [], limit8, ()), ())).bind fun y12 =>
    byB (y10.1.2.1 != 0)
      (byB y9.1.1
          (byB (y12.1.2.1 != 0)
              (some ((true, ()), ()))
              (some ((y10.1.2.1 == 11, ()), ())))
          (some ((false, ()), ())))
      (byB (decide (own0 < 0))
          (some ((false, ()), ()))
          (byB (decide (less7 < 0))
              (let t20 := IntKind.wrap .i64 (own0 + 1);
                if t20 = 0 then
                  none
                else
                (Bound_13 N ((Int.tmod (IntKind.wrap .i64 (0 - (IntKind.wrap .i64 (less7 + 1)))) t20, block1, release2, above3, [], limit8, ()), ())).bind fun y22 =>
                byB y9.1.1
                  (byB (y12.1.2.1 != 0)
                      (byB (y22.1.2.1 == 11)
                          (some ((true, ()), ()))
                          (byB (y22.1.2.1 == 0)
                              (some ((decide (y22.1.1 ≤ y10.1.1), ()), ()))
                              (some ((false, ()), ()))))
                      (byB (decide (y12.1.1 ≥ y10.1.1))
                          (byB (y22.1.2.1 == 11)
                              (some ((true, ()), ()))
                              (byB (y22.1.2.1 == 0)
                                  (some ((decide (y22.1.1 ≤ y10.1.1), ()), ()))
                                  (some ((false, ()), ()))))
                          (some ((false, ()), ()))))
                  (some ((false, ()), ())))
              (let t31 := IntKind.wrap .i64 (own0 + 1);
                if t31 = 0 then
                  none
                else
                (Bound_13 N ((Int.tmod less7 t31, block1, release2, above3, [], limit8, ()), ())).bind fun y33 =>
                byB y9.1.1
                  (byB (y12.1.2.1 != 0)
                      (byB (y33.1.2.1 == 11)
                          (some ((true, ()), ()))
                          (byB (y33.1.2.1 == 0)
                              (some ((decide (y33.1.1 ≤ y10.1.1), ()), ()))
                              (some ((false, ()), ()))))
                      (byB (decide (y12.1.1 ≥ y10.1.1))
                          (byB (y33.1.2.1 == 11)
                              (some ((true, ()), ()))
                              (byB (y33.1.2.1 == 0)
                                  (some ((decide (y33.1.1 ≤ y10.1.1), ()), ()))
                                  (some ((false, ()), ()))))
                          (some ((false, ()), ()))))
                  (some ((false, ()), ())))))
    else none)
    else none
theorem eq_ResponseMore_5 (N : Nat) (x : (ap_ResponseMore_5).den) : funX Try.prog (fs31 N) N 5 lo_ResponseMore_5 jo_ResponseMore_5 Try.f5 ap_ResponseMore_5 rp_ResponseMore_5 x = ResponseMore_5 N x := by kernel_rfl
noncomputable def sp_ResponseMore_5 (N : Nat) : FSpec := specOf ap_ResponseMore_5 rp_ResponseMore_5 true (ResponseMore_5 N)
theorem ok_ResponseMore_5 (N : Nat) : FSound Try.prog 5 (sp_ResponseMore_5 N) := funX_sound (N := N) (loops := lo_ResponseMore_5) (joins := jo_ResponseMore_5) (fsok31 N) Try.func5 (by kernel_rfl) (by kernel_rfl) fun x _ h => (eq_ResponseMore_5 N x).trans h
noncomputable def fs32 (N : Nat) : FuncId → List V1 → List Blk → Option FSpec := fun g xs H => if g = 5 then some (sp_ResponseMore_5 N) else fs31 N g xs H
theorem fsok32 (N : Nat) : ∀ g xs H sp, fs32 N g xs H = some sp → FSound Try.prog g sp := fun g xs H sp h => by
  unfold fs32 at h
  by_cases e : g = 5
  · rw [if_pos e] at h; subst e; cases h; exact ok_ResponseMore_5 N
  · rw [if_neg e] at h; exact fsok31 N g xs H sp h
/-! ResponseRises_6 -/
abbrev ap_ResponseRises_6 : Pat := ⟨[.one (.int .i64), .one (.int .i64), .one (.int .i64), .one (.ro (.pair (.int .i64) (.pair (.int .i64) (.int .i64)))), .one (.ro (.pair (.int .i64) (.pair (.int .i64) (.int .i64)))), .one (.int .i64), .one (.int .i64)], []⟩
abbrev rp_ResponseRises_6 : List Pat := [⟨[.one (.bool)], []⟩]
def lo_ResponseRises_6 : List LSpec := []
def jo_ResponseRises_6 : List LSpec := [⟨10, [0, 1, 2, 3, 4, 5, 15, 16, 74], ⟨[.one (.int .i64), .one (.int .i64), .one (.int .i64), .one (.ro (.pair (.int .i64) (.pair (.int .i64) (.int .i64)))), .one (.ro (.pair (.int .i64) (.pair (.int .i64) (.int .i64)))), .one (.int .i64), .one (.bool), .one (.int .i64), .one (.bool)], []⟩⟩, ⟨11, [0, 1, 2, 3, 4, 5, 15, 16], ⟨[.one (.int .i64), .one (.int .i64), .one (.int .i64), .one (.ro (.pair (.int .i64) (.pair (.int .i64) (.int .i64)))), .one (.ro (.pair (.int .i64) (.pair (.int .i64) (.int .i64)))), .one (.int .i64), .one (.bool), .one (.int .i64)], []⟩⟩, ⟨7, [0, 1, 2, 3, 4, 5, 6, 15, 16], ⟨[.one (.int .i64), .one (.int .i64), .one (.int .i64), .one (.ro (.pair (.int .i64) (.pair (.int .i64) (.int .i64)))), .one (.ro (.pair (.int .i64) (.pair (.int .i64) (.int .i64)))), .one (.int .i64), .one (.int .i64), .one (.bool), .one (.int .i64)], []⟩⟩]
def ResponseRises_6_J10 (N : Nat) (join11 : ((Int × (Int × (Int × (List (Int × (Int × Int)) × (List (Int × (Int × Int)) × (Int × (Bool × (Int × Unit)))))))) × Unit) → Option ((Bool × Unit) × Unit)) (x : ((Int × (Int × (Int × (List (Int × (Int × Int)) × (List (Int × (Int × Int)) × (Int × (Bool × (Int × (Bool × Unit))))))))) × Unit)) : Option ((Bool × Unit) × Unit) := match x with
  | ((own33, block34, release35, above36, all37, n38, head39, a40, t41, ()), ()) =>
    byB t41
      (some ((false, ()), ()))
      (join11 ((own33, block34, release35, above36, all37, n38, head39, a40, ()), ()))
def ResponseRises_6_J11 (N : Nat) (x : ((Int × (Int × (Int × (List (Int × (Int × Int)) × (List (Int × (Int × Int)) × (Int × (Bool × (Int × Unit)))))))) × Unit)) : Option ((Bool × Unit) × Unit) := match x with
  | ((own42, block43, release44, above45, all46, n47, head48, a49, ()), ()) =>
    (Within_10 N ((IntKind.wrap .i64 (own42 + 1), block43, release44, above45, all46, n47, ()), ())).bind fun y51 =>
    byB head48
      (byB (y51.1.2.1 == 0)
          (byB (y51.1.1 == (IntKind.wrap .i64 (a49 + 1)))
              (some ((true, ()), ()))
              (byB (own42 == 1099511627776)
                  (byB (y51.1.2.1 == 1)
                      (some ((true, ()), ()))
                      (byB (a49 == 4611686018427387904)
                          (some ((y51.1.2.1 == 2, ()), ()))
                          (some ((false, ()), ()))))
                  (byB (a49 == 4611686018427387904)
                      (some ((y51.1.2.1 == 2, ()), ()))
                      (some ((false, ()), ())))))
          (byB (own42 == 1099511627776)
              (byB (y51.1.2.1 == 1)
                  (some ((true, ()), ()))
                  (byB (a49 == 4611686018427387904)
                      (some ((y51.1.2.1 == 2, ()), ()))
                      (some ((false, ()), ()))))
              (byB (a49 == 4611686018427387904)
                  (some ((y51.1.2.1 == 2, ()), ()))
                  (some ((false, ()), ())))))
      (some ((false, ()), ()))
def ResponseRises_6_J7 (N : Nat) (x : ((Int × (Int × (Int × (List (Int × (Int × Int)) × (List (Int × (Int × Int)) × (Int × (Int × (Bool × (Int × Unit))))))))) × Unit)) : Option ((Bool × Unit) × Unit) := match x with
  | ((own14, block15, release16, above17, all18, n19, more20, head21, a22, ()), ()) =>
    withJoin (ResponseRises_6_J11 N) fun join11 =>
    byB (decide (n19 ≤ 1099511627776))
      ((Within_10 N ((own14, block15, release16, above17, all18, IntKind.wrap .i64 (n19 + (Int.tmod more20 1000000)), ()), ())).bind fun y26 =>
        withJoin (ResponseRises_6_J10 N join11) fun join10 =>
        byB (y26.1.2.1 == 0)
          (byB (decide (y26.1.1 < a22))
              (join10 ((own14, block15, release16, above17, all18, n19, head21, a22, true, ()), ()))
              (byB (y26.1.2.1 != 0)
                  (join10 ((own14, block15, release16, above17, all18, n19, head21, a22, y26.1.2.1 != 2, ()), ()))
                  (join10 ((own14, block15, release16, above17, all18, n19, head21, a22, false, ()), ()))))
          (byB (y26.1.2.1 != 0)
              (join10 ((own14, block15, release16, above17, all18, n19, head21, a22, y26.1.2.1 != 2, ()), ()))
              (join10 ((own14, block15, release16, above17, all18, n19, head21, a22, false, ()), ()))))
      (join11 ((own14, block15, release16, above17, all18, n19, head21, a22, ()), ()))
def ResponseRises_6 (N : Nat) (x : ((Int × (Int × (Int × (List (Int × (Int × Int)) × (List (Int × (Int × Int)) × (Int × (Int × Unit))))))) × Unit)) : Option ((Bool × Unit) × Unit) := match x with
  | ((own0, block1, release2, above3, all4, n5, more6, ()), ()) =>
    (examples_9 N ((), ())).bind fun y7 =>
    (Within_10 N ((own0, block1, release2, above3, all4, n5, ()), ())).bind fun y8 =>
    byB (y8.1.2.1 != 0)
      (byB y7.1.1
          (some ((y8.1.1 == 0, ()), ()))
          (some ((false, ()), ())))
      (withJoin (ResponseRises_6_J7 N) fun join7 =>
        byB (decide (more6 < 0))
          (join7 ((own0, block1, release2, above3, all4, n5, IntKind.wrap .i64 (0 - (IntKind.wrap .i64 (more6 + 1))), y7.1.1, y8.1.1, ()), ()))
          (join7 ((own0, block1, release2, above3, all4, n5, more6, y7.1.1, y8.1.1, ()), ())))
theorem eq_ResponseRises_6 (N : Nat) (x : (ap_ResponseRises_6).den) : funX Try.prog (fs32 N) N 6 lo_ResponseRises_6 jo_ResponseRises_6 Try.f6 ap_ResponseRises_6 rp_ResponseRises_6 x = ResponseRises_6 N x := by kernel_rfl
noncomputable def sp_ResponseRises_6 (N : Nat) : FSpec := specOf ap_ResponseRises_6 rp_ResponseRises_6 true (ResponseRises_6 N)
theorem ok_ResponseRises_6 (N : Nat) : FSound Try.prog 6 (sp_ResponseRises_6 N) := funX_sound (N := N) (loops := lo_ResponseRises_6) (joins := jo_ResponseRises_6) (fsok32 N) Try.func6 (by kernel_rfl) (by kernel_rfl) fun x _ h => (eq_ResponseRises_6 N x).trans h
noncomputable def fs33 (N : Nat) : FuncId → List V1 → List Blk → Option FSpec := fun g xs H => if g = 6 then some (sp_ResponseRises_6 N) else fs32 N g xs H
theorem fsok33 (N : Nat) : ∀ g xs H sp, fs33 N g xs H = some sp → FSound Try.prog g sp := fun g xs H sp h => by
  unfold fs33 at h
  by_cases e : g = 6
  · rw [if_pos e] at h; subst e; cases h; exact ok_ResponseRises_6 N
  · rw [if_neg e] at h; exact fsok32 N g xs H sp h
/-! ResponseAlone_7 -/
abbrev ap_ResponseAlone_7 : Pat := ⟨[.one (.int .i64), .one (.int .i64)], []⟩
abbrev rp_ResponseAlone_7 : List Pat := [⟨[.one (.bool)], []⟩]
def lo_ResponseAlone_7 : List LSpec := []
def jo_ResponseAlone_7 : List LSpec := []
def ResponseAlone_7 (N : Nat) (x : ((Int × (Int × Unit)) × Unit)) : Option ((Bool × Unit) × Unit) := match x with
  | ((own0, block1, ()), ()) =>
    (examples_9 N ((), ())).bind fun y2 =>
    (Bound_13 N ((own0, block1, 0, [], [], 1099511627776, ()), ())).bind fun y3 =>
    byB (decide (own0 < 0))
      (byB y2.1.1
          (some ((y3.1.2.1 == 1, ()), ()))
          (some ((false, ()), ())))
      (byB (decide (own0 > 1099511627776))
          (byB y2.1.1
              (some ((y3.1.2.1 == 1, ()), ()))
              (some ((false, ()), ())))
          (byB (decide (block1 < 0))
              (byB y2.1.1
                  (some ((y3.1.2.1 == 1, ()), ()))
                  (some ((false, ()), ())))
              (byB (decide (block1 > 1099511627776))
                  (byB y2.1.1
                      (some ((y3.1.2.1 == 1, ()), ()))
                      (some ((false, ()), ())))
                  (byB (decide ((IntKind.wrap .i64 (own0 + block1)) > 1099511627776))
                      (byB y2.1.1
                          (some ((y3.1.2.1 == 12, ()), ()))
                          (some ((false, ()), ())))
                      (byB y2.1.1
                          (byB (y3.1.2.1 == 0)
                              (some ((y3.1.1 == (if (IntKind.wrap .i64 (own0 + block1)) > 1 then (IntKind.wrap .i64 (own0 + block1)) else 1), ()), ()))
                              (some ((false, ()), ())))
                          (some ((false, ()), ())))))))
theorem eq_ResponseAlone_7 (N : Nat) (x : (ap_ResponseAlone_7).den) : funX Try.prog (fs33 N) N 7 lo_ResponseAlone_7 jo_ResponseAlone_7 Try.f7 ap_ResponseAlone_7 rp_ResponseAlone_7 x = ResponseAlone_7 N x := by kernel_rfl
noncomputable def sp_ResponseAlone_7 (N : Nat) : FSpec := specOf ap_ResponseAlone_7 rp_ResponseAlone_7 true (ResponseAlone_7 N)
theorem ok_ResponseAlone_7 (N : Nat) : FSound Try.prog 7 (sp_ResponseAlone_7 N) := funX_sound (N := N) (loops := lo_ResponseAlone_7) (joins := jo_ResponseAlone_7) (fsok33 N) Try.func7 (by kernel_rfl) (by kernel_rfl) fun x _ h => (eq_ResponseAlone_7 N x).trans h
noncomputable def fs34 (N : Nat) : FuncId → List V1 → List Blk → Option FSpec := fun g xs H => if g = 7 then some (sp_ResponseAlone_7 N) else fs33 N g xs H
theorem fsok34 (N : Nat) : ∀ g xs H sp, fs34 N g xs H = some sp → FSound Try.prog g sp := fun g xs H sp h => by
  unfold fs34 at h
  by_cases e : g = 7
  · rw [if_pos e] at h; subst e; cases h; exact ok_ResponseAlone_7 N
  · rw [if_neg e] at h; exact fsok33 N g xs H sp h
/-! ResponseNothing_8 -/
abbrev ap_ResponseNothing_8 : Pat := ⟨[.one (.int .i64), .one (.int .i64), .one (.ro (.pair (.int .i64) (.pair (.int .i64) (.int .i64)))), .one (.ro (.pair (.int .i64) (.pair (.int .i64) (.int .i64)))), .one (.int .i64), .one (.int .i64)], []⟩
abbrev rp_ResponseNothing_8 : List Pat := [⟨[.one (.bool)], []⟩]
def lo_ResponseNothing_8 : List LSpec := [⟨6, [0, 1, 2, 3, 4, 5, 13, 14, 15], ⟨[.one (.int .i64), .one (.int .i64), .one (.ro (.pair (.int .i64) (.pair (.int .i64) (.int .i64)))), .one (.ro (.pair (.int .i64) (.pair (.int .i64) (.int .i64)))), .one (.int .i64), .one (.int .i64), .one (.bool), .one (.full 0), .one (.int .i64)], [.row 33 (.pair (.int .i64) (.pair (.int .i64) (.int .i64)))]⟩⟩]
def jo_ResponseNothing_8 : List LSpec := []
def ResponseNothing_8_L6 (N : Nat) (again6 : ((Int × (Int × (List (Int × (Int × Int)) × (List (Int × (Int × Int)) × (Int × (Int × (Bool × (Unit × (Int × Unit))))))))) × (List (Int × (Int × Int)) × Unit)) → Option ((Bool × Unit) × Unit)) (x : ((Int × (Int × (List (Int × (Int × Int)) × (List (Int × (Int × Int)) × (Int × (Int × (Bool × (Unit × (Int × Unit))))))))) × (List (Int × (Int × Int)) × Unit))) : Option ((Bool × Unit) × Unit) := match x with
  | ((own13, block14, above15, all16, n17, limit18, head19, _, i20, ()), l21, ()) =>
    byB (decide (i20 < (above15.length : Int)))
      (if (0 ≤ i20) ∧ (i20 < (above15.length : Int)) then
        (if (l21.length + 1) * 24 ≤ 140737488355328 then
        again6 ((own13, block14, above15, all16, n17, limit18, head19, (), IntKind.wrap .i64 (i20 + 1), ()), l21 ++ [((0 : Int), (above15.getD i20.toNat (0, 0, 0)).2)], ())
        else none)
        else none)
      ((Within_10 N ((own13, block14, 0, above15, [], n17, ()), ())).bind fun y27 =>
        (Within_10 N ((own13, block14, 0, l21, all16, n17, ()), ())).bind fun y28 =>
        (Bound_13 N ((own13, block14, 0, above15, [], limit18, ()), ())).bind fun y29 =>
        (Bound_13 N ((own13, block14, 0, l21, all16, limit18, ()), ())).bind fun y30 =>
        byB (y28.1.2.1 == 1)
          (byB (y30.1.2.1 == 1)
              (some ((head19, ()), ()))
              (byB head19
                  (byB (y27.1.1 == y28.1.1)
                      (byB (y27.1.2.1 == y28.1.2.1)
                          (byB (y29.1.1 == y30.1.1)
                              (some ((y29.1.2.1 == y30.1.2.1, ()), ()))
                              (some ((false, ()), ())))
                          (some ((false, ()), ())))
                      (some ((false, ()), ())))
                  (some ((false, ()), ()))))
          (byB head19
              (byB (y27.1.1 == y28.1.1)
                  (byB (y27.1.2.1 == y28.1.2.1)
                      (byB (y29.1.1 == y30.1.1)
                          (some ((y29.1.2.1 == y30.1.2.1, ()), ()))
                          (some ((false, ()), ())))
                      (some ((false, ()), ())))
                  (some ((false, ()), ())))
              (some ((false, ()), ()))))
def ResponseNothing_8 (N : Nat) (x : ((Int × (Int × (List (Int × (Int × Int)) × (List (Int × (Int × Int)) × (Int × (Int × Unit)))))) × Unit)) : Option ((Bool × Unit) × Unit) := match x with
  | ((own0, block1, above2, all3, n4, limit5, ()), ()) =>
    (examples_9 N ((), ())).bind fun y6 =>
    let t8 := if 20 < (above2.length : Int) then 20 else (above2.length : Int);
    if ((0 : Int) ≤ 0) ∧ (0 ≤ t8) ∧ (t8 ≤ (above2.length : Int)) then
    let t9 := above2.take t8.toNat;
    let t11 := if 20 < (all3.length : Int) then 20 else (all3.length : Int);
    if ((0 : Int) ≤ 0) ∧ (0 ≤ t11) ∧ (t11 ≤ (all3.length : Int)) then
    (if (0 + t9.length) * 24 ≤ 140737488355328 then
    loopN N (ResponseNothing_8_L6 N) ((own0, block1, t9, all3.take t11.toNat, n4, limit5, y6.1.1, (), 0, ()), t9, ())
    else none)
    else none
    else none
theorem eq_ResponseNothing_8 (N : Nat) (x : (ap_ResponseNothing_8).den) : funX Try.prog (fs34 N) N 8 lo_ResponseNothing_8 jo_ResponseNothing_8 Try.f8 ap_ResponseNothing_8 rp_ResponseNothing_8 x = ResponseNothing_8 N x := by kernel_rfl
noncomputable def sp_ResponseNothing_8 (N : Nat) : FSpec := specOf ap_ResponseNothing_8 rp_ResponseNothing_8 true (ResponseNothing_8 N)
theorem ok_ResponseNothing_8 (N : Nat) : FSound Try.prog 8 (sp_ResponseNothing_8 N) := funX_sound (N := N) (loops := lo_ResponseNothing_8) (joins := jo_ResponseNothing_8) (fsok34 N) Try.func8 (by kernel_rfl) (by kernel_rfl) fun x _ h => (eq_ResponseNothing_8 N x).trans h
noncomputable def fs35 (N : Nat) : FuncId → List V1 → List Blk → Option FSpec := fun g xs H => if g = 8 then some (sp_ResponseNothing_8 N) else fs34 N g xs H
theorem fsok35 (N : Nat) : ∀ g xs H sp, fs35 N g xs H = some sp → FSound Try.prog g sp := fun g xs H sp h => by
  unfold fs35 at h
  by_cases e : g = 8
  · rw [if_pos e] at h; subst e; cases h; exact ok_ResponseNothing_8 N
  · rw [if_neg e] at h; exact fsok34 N g xs H sp h
end Go.Proofs.YtmpccpcalijnpaaX
