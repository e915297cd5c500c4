/- Functions of the program as plain Lean, each with its equation (printed by a program of this seat's own). Conditions: none. -/
import Derived.Test.YtcdnofemnpafhaaM6
import Derived.Test.YtcdnofemnpafhaaProg
import Derived.KernelRfl
namespace Go.Proofs.YtcdnofemnpafhaaX
open Go Go.Proofs.YtcdnofemnpafhaaM
set_option maxRecDepth 100000
set_option linter.unusedVariables false
noncomputable def fs0 (_ : Nat) : FuncId → List V1 → List Blk → Option FSpec := fun _ _ _ => none
theorem fsok0 (N : Nat) : ∀ g xs H sp, fs0 N g xs H = some sp → FSound Try.prog g sp := fun _ _ _ _ h => by cases h
/-! Encode1_19 -/
abbrev ap_Encode1_19 : Pat := ⟨[.agg [.int .i64, .int .i64, .int .i64, .ro (.pair (.int .i64) (.pair (.int .i64) (.int .i64)))]], []⟩
abbrev rp_Encode1_19 : List Pat := [⟨[.one (.bool)], []⟩]
def lo_Encode1_19 : List LSpec := []
def jo_Encode1_19 : List LSpec := []
def Encode1_19 (N : Nat) (x : (((Int × (Int × (Int × (List (Int × (Int × Int)) × Unit)))) × Unit) × Unit)) : Option ((Bool × Unit) × Unit) := match x with
  | (((t0, t1, t2, t3, ()), ()), ()) =>
    some ((!decide ((t3.length : Int) ≤ 4), ()), ())
theorem eq_Encode1_19 (N : Nat) (x : (ap_Encode1_19).den) : funX Try.prog (fs0 N) N 19 lo_Encode1_19 jo_Encode1_19 Try.f19 ap_Encode1_19 rp_Encode1_19 x = Encode1_19 N x := by kernel_rfl
noncomputable def sp_Encode1_19 (N : Nat) : FSpec := specOf ap_Encode1_19 rp_Encode1_19 true (Encode1_19 N)
theorem ok_Encode1_19 (N : Nat) : FSound Try.prog 19 (sp_Encode1_19 N) := funX_sound (N := N) (loops := lo_Encode1_19) (joins := jo_Encode1_19) (fsok0 N) Try.func19 (by kernel_rfl) (by kernel_rfl) fun x _ h => (eq_Encode1_19 N x).trans h
noncomputable def fs1 (N : Nat) : FuncId → List V1 → List Blk → Option FSpec := fun g xs H => if g = 19 then some (sp_Encode1_19 N) else fs0 N g xs H
theorem fsok1 (N : Nat) : ∀ g xs H sp, fs1 N g xs H = some sp → FSound Try.prog g sp := fun g xs H sp h => by
  unfold fs1 at h
  by_cases e : g = 19
  · rw [if_pos e] at h; subst e; cases h; exact ok_Encode1_19 N
  · rw [if_neg e] at h; exact fsok0 N g xs H sp h
/-! Task_34 -/
abbrev ap_Task_34 : Pat := ⟨[.one (.ro (.pair (.int .i64) (.pair (.int .i64) (.pair (.int .i64) (.ro (.pair (.int .i64) (.pair (.int .i64) (.int .i64)))))))), .one (.sfn 19)], []⟩
abbrev rp_Task_34 : List Pat := [⟨[.one (.int .i64)], []⟩]
def lo_Task_34 : List LSpec := [⟨2, [0, 1, 7, 8], ⟨[.one (.ro (.pair (.int .i64) (.pair (.int .i64) (.pair (.int .i64) (.ro (.pair (.int .i64) (.pair (.int .i64) (.int .i64)))))))), .one (.sfn 19), .one (.int .i64), .one (.int .i64)], []⟩⟩]
def jo_Task_34 : List LSpec := []
def Task_34_L2 (N : Nat) (again2 : ((List (Int × (Int × (Int × (List (Int × (Int × Int)))))) × (Unit × (Int × (Int × Unit)))) × Unit) → Option ((Int × Unit) × Unit)) (x : ((List (Int × (Int × (Int × (List (Int × (Int × Int)))))) × (Unit × (Int × (Int × Unit)))) × Unit)) : Option ((Int × Unit) × Unit) := match x with
  | ((s2, _, t3, t4, ()), ()) =>
    byB (decide (t4 < t3))
      (if (0 ≤ t4) ∧ (t4 < (s2.length : Int)) then
        let e6 := s2.getD t4.toNat (0, 0, 0, []);
        (Encode1_19 N (((e6.1, e6.2.1, e6.2.2.1, e6.2.2.2, ()), ()), ())).bind fun y7 =>
        byB y7.1.1
          (some ((t4, ()), ()))
          (again2 ((s2, (), t3, IntKind.wrap .i64 (t4 + 1), ()), ()))
        else none)
      (some ((-1, ()), ()))
def Task_34 (N : Nat) (x : ((List (Int × (Int × (Int × (List (Int × (Int × Int)))))) × (Unit × Unit)) × Unit)) : Option ((Int × Unit) × Unit) := match x with
  | ((s0, _, ()), ()) =>
    loopN N (Task_34_L2 N) ((s0, (), (s0.length : Int), 0, ()), ())
theorem eq_Task_34 (N : Nat) (x : (ap_Task_34).den) : funX Try.prog (fs1 N) N 34 lo_Task_34 jo_Task_34 Try.f34 ap_Task_34 rp_Task_34 x = Task_34 N x := by kernel_rfl
noncomputable def sp_Task_34 (N : Nat) : FSpec := specOf ap_Task_34 rp_Task_34 true (Task_34 N)
theorem ok_Task_34 (N : Nat) : FSound Try.prog 34 (sp_Task_34 N) := funX_sound (N := N) (loops := lo_Task_34) (joins := jo_Task_34) (fsok1 N) Try.func34 (by kernel_rfl) (by kernel_rfl) fun x _ h => (eq_Task_34 N x).trans h
noncomputable def fs2 (N : Nat) : FuncId → List V1 → List Blk → Option FSpec := fun g xs H => if g = 34 then some (sp_Task_34 N) else fs1 N g xs H
theorem fsok2 (N : Nat) : ∀ g xs H sp, fs2 N g xs H = some sp → FSound Try.prog g sp := fun g xs H sp h => by
  unfold fs2 at h
  by_cases e : g = 34
  · rw [if_pos e] at h; subst e; cases h; exact ok_Task_34 N
  · rw [if_neg e] at h; exact fsok1 N g xs H sp h
/-! Task_20 -/
abbrev ap_Task_20 : Pat := ⟨[.one (.ro (.pair (.int .i64) (.pair (.int .i64) (.pair (.int .i64) (.ro (.pair (.int .i64) (.pair (.int .i64) (.int .i64)))))))), .one (.sfn 19)], []⟩
abbrev rp_Task_20 : List Pat := [⟨[.one (.bool)], []⟩]
def lo_Task_20 : List LSpec := []
def jo_Task_20 : List LSpec := []
def Task_20 (N : Nat) (x : ((List (Int × (Int × (Int × (List (Int × (Int × Int)))))) × (Unit × Unit)) × Unit)) : Option ((Bool × Unit) × Unit) := match x with
  | ((s0, _, ()), ()) =>
    (Task_34 N ((s0, (), ()), ())).bind fun y1 =>
    some ((!decide (y1.1.1 < 0), ()), ())
theorem eq_Task_20 (N : Nat) (x : (ap_Task_20).den) : funX Try.prog (fs2 N) N 20 lo_Task_20 jo_Task_20 Try.f20 ap_Task_20 rp_Task_20 x = Task_20 N x := by kernel_rfl
noncomputable def sp_Task_20 (N : Nat) : FSpec := specOf ap_Task_20 rp_Task_20 true (Task_20 N)
theorem ok_Task_20 (N : Nat) : FSound Try.prog 20 (sp_Task_20 N) := funX_sound (N := N) (loops := lo_Task_20) (joins := jo_Task_20) (fsok2 N) Try.func20 (by kernel_rfl) (by kernel_rfl) fun x _ h => (eq_Task_20 N x).trans h
noncomputable def fs3 (N : Nat) : FuncId → List V1 → List Blk → Option FSpec := fun g xs H => if g = 20 then some (sp_Task_20 N) else fs2 N g xs H
theorem fsok3 (N : Nat) : ∀ g xs H sp, fs3 N g xs H = some sp → FSound Try.prog g sp := fun g xs H sp h => by
  unfold fs3 at h
  by_cases e : g = 20
  · rw [if_pos e] at h; subst e; cases h; exact ok_Task_20 N
  · rw [if_neg e] at h; exact fsok2 N g xs H sp h
/-! numbers_21 -/
abbrev ap_numbers_21 : Pat := ⟨[.agg [.int .i64, .int .i64, .int .i64, .int .i64, .int .i64, .int .i64, .int .i64, .int .i64, .ro (.pair (.int .i64) (.pair (.int .i64) (.pair (.int .i64) (.ro (.pair (.int .i64) (.pair (.int .i64) (.int .i64)))))))]], []⟩
abbrev rp_numbers_21 : List Pat := [⟨[.one (.full 0)], [.row 3 (.int .i64)]⟩]
def lo_numbers_21 : List LSpec := [⟨3, [3, 29, 30, 31], ⟨[.one (.full 0), .one (.ro (.pair (.int .i64) (.pair (.int .i64) (.pair (.int .i64) (.ro (.pair (.int .i64) (.pair (.int .i64) (.int .i64)))))))), .one (.int .i64), .one (.int .i64)], [.row 3 (.int .i64)]⟩⟩, ⟨7, [3, 29, 30, 31, 48, 49, 50], ⟨[.one (.full 0), .one (.ro (.pair (.int .i64) (.pair (.int .i64) (.pair (.int .i64) (.ro (.pair (.int .i64) (.pair (.int .i64) (.int .i64)))))))), .one (.int .i64), .one (.int .i64), .one (.ro (.pair (.int .i64) (.pair (.int .i64) (.int .i64)))), .one (.int .i64), .one (.int .i64)], [.row 3 (.int .i64)]⟩⟩]
def jo_numbers_21 : List LSpec := []
def numbers_21_L7 (N : Nat) (again3 : ((Unit × (List (Int × (Int × (Int × (List (Int × (Int × Int)))))) × (Int × (Int × Unit)))) × (List Int × Unit)) → Option ((Unit × Unit) × (List Int × Unit))) (again7 : ((Unit × (List (Int × (Int × (Int × (List (Int × (Int × Int)))))) × (Int × (Int × (List (Int × (Int × Int)) × (Int × (Int × Unit))))))) × (List Int × Unit)) → Option ((Unit × Unit) × (List Int × Unit))) (x : ((Unit × (List (Int × (Int × (Int × (List (Int × (Int × Int)))))) × (Int × (Int × (List (Int × (Int × Int)) × (Int × (Int × Unit))))))) × (List Int × Unit))) : Option ((Unit × Unit) × (List Int × Unit)) := match x with
  | ((_, t20, t21, t22, t23, t24, t25, ()), l26, ()) =>
    byB (decide (t25 < t24))
      (if (0 ≤ t25) ∧ (t25 < (t23.length : Int)) then
        let e28 := t23.getD t25.toNat (0, 0, 0);
        if (l26.length + 3) * 8 ≤ 140737488355328 then
        again7 (((), t20, t21, t22, t23, t24, IntKind.wrap .i64 (t25 + 1), ()), l26 ++ [e28.1, e28.2.1, e28.2.2], ())
        else none
        else none)
      (again3 (((), t20, t21, IntKind.wrap .i64 (t22 + 1), ()), l26, ()))
def numbers_21_L3 (N : Nat) (again3 : ((Unit × (List (Int × (Int × (Int × (List (Int × (Int × Int)))))) × (Int × (Int × Unit)))) × (List Int × Unit)) → Option ((Unit × Unit) × (List Int × Unit))) (x : ((Unit × (List (Int × (Int × (Int × (List (Int × (Int × Int)))))) × (Int × (Int × Unit)))) × (List Int × Unit))) : Option ((Unit × Unit) × (List Int × Unit)) := match x with
  | ((_, t11, t12, t13, ()), l14, ()) =>
    byB (decide (t13 < t12))
      (if (0 ≤ t13) ∧ (t13 < (t11.length : Int)) then
        let e16 := t11.getD t13.toNat (0, 0, 0, []);
        if (l14.length + 4) * 8 ≤ 140737488355328 then
        loopN N (numbers_21_L7 N again3) (((), t11, t12, t13, e16.2.2.2, (e16.2.2.2.length : Int), 0, ()), l14 ++ [e16.1, e16.2.1, e16.2.2.1, (e16.2.2.2.length : Int)], ())
        else none
        else none)
      (some (((), ()), l14, ()))
def numbers_21 (N : Nat) (x : (((Int × (Int × (Int × (Int × (Int × (Int × (Int × (Int × (List (Int × (Int × (Int × (List (Int × (Int × Int)))))) × Unit))))))))) × Unit) × Unit)) : Option ((Unit × Unit) × (List Int × Unit)) := match x with
  | (((s0, s1, s2, s3, s4, s5, s6, s7, s8, ()), ()), ()) =>
    loopN N (numbers_21_L3 N) (((), s8, (s8.length : Int), 0, ()), [(1 : Int), s0, s1, s2, s3, s4, s5, s6, s7, (s8.length : Int)], ())
theorem eq_numbers_21 (N : Nat) (x : (ap_numbers_21).den) : funX Try.prog (fs3 N) N 21 lo_numbers_21 jo_numbers_21 Try.f21 ap_numbers_21 rp_numbers_21 x = numbers_21 N x := by kernel_rfl
noncomputable def sp_numbers_21 (N : Nat) : FSpec := specOf ap_numbers_21 rp_numbers_21 true (numbers_21 N)
theorem ok_numbers_21 (N : Nat) : FSound Try.prog 21 (sp_numbers_21 N) := funX_sound (N := N) (loops := lo_numbers_21) (joins := jo_numbers_21) (fsok3 N) Try.func21 (by kernel_rfl) (by kernel_rfl) fun x _ h => (eq_numbers_21 N x).trans h
noncomputable def fs4 (N : Nat) : FuncId → List V1 → List Blk → Option FSpec := fun g xs H => if g = 21 then some (sp_numbers_21 N) else fs3 N g xs H
theorem fsok4 (N : Nat) : ∀ g xs H sp, fs4 N g xs H = some sp → FSound Try.prog g sp := fun g xs H sp h => by
  unfold fs4 at h
  by_cases e : g = 21
  · rw [if_pos e] at h; subst e; cases h; exact ok_numbers_21 N
  · rw [if_neg e] at h; exact fsok3 N g xs H sp h
/-! Write_17 -/
abbrev ap_Write_17 : Pat := ⟨[.one (.ro (.int .i64))], []⟩
abbrev rp_Write_17 : List Pat := [⟨[.one (.str), .one (.int .i64)], []⟩]
def lo_Write_17 : List LSpec := [⟨5, [4, 12, 13, 14], ⟨[.one (.full 0), .one (.ro (.int .i64)), .one (.int .i64), .one (.int .i64)], [.row 5 (.int .u8)]⟩⟩, ⟨10, [4, 7, 12, 13, 14, 21, 22], ⟨[.one (.full 0), .one (.int .u64), .one (.ro (.int .i64)), .one (.int .i64), .one (.int .i64), .one (.int .i64), .one (.bool)], [.row 5 (.int .u8)]⟩⟩]
def jo_Write_17 : List LSpec := []
def Write_17_L10 (N : Nat) (again5 : ((Unit × (List Int × (Int × (Int × Unit)))) × (List Int × Unit)) → Option ((ByteArray × (Int × Unit)) × Unit)) (again10 : ((Unit × (Int × (List Int × (Int × (Int × (Int × (Bool × Unit))))))) × (List Int × Unit)) → Option ((ByteArray × (Int × Unit)) × Unit)) (x : ((Unit × (Int × (List Int × (Int × (Int × (Int × (Bool × Unit))))))) × (List Int × Unit))) : Option ((ByteArray × (Int × Unit)) × Unit) := match x with
  | ((_, u13, t14, t15, t16, t17, t18, ()), l19, ()) =>
    let t20 := IntKind.wrap .u64 (BitVec.ofInt (IntKind.bits .u64) u13 &&& BitVec.ofInt (IntKind.bits .u64) 127).toNat;
    byB ((Int.fdiv u13 (2 ^ 7)) == 0)
      (if (l19.length + 1) * 1 ≤ 140737488355328 then
        again5 (((), t14, t15, IntKind.wrap .i64 (t16 + 1), ()), l19 ++ [IntKind.wrap .u8 t20], ())
        else none)
      (if (l19.length + 1) * 1 ≤ 140737488355328 then
        again10 (((), Int.fdiv u13 (2 ^ 7), t14, t15, t16, t17, t18, ()), l19 ++ [IntKind.wrap .u8 (BitVec.ofInt (IntKind.bits .u8) (IntKind.wrap .u8 t20) ||| BitVec.ofInt (IntKind.bits .u8) 128).toNat], ())
        else none)
def Write_17_L5 (N : Nat) (again5 : ((Unit × (List Int × (Int × (Int × Unit)))) × (List Int × Unit)) → Option ((ByteArray × (Int × Unit)) × Unit)) (x : ((Unit × (List Int × (Int × (Int × Unit)))) × (List Int × Unit))) : Option ((ByteArray × (Int × Unit)) × Unit) := match x with
  | ((_, t4, t5, t6, ()), l7, ()) =>
    byB (decide (t6 < t5))
      (if (0 ≤ t6) ∧ (t6 < (t4.length : Int)) then
        let e9 := t4.getD t6.toNat 0;
        byB (decide (e9 < 0))
          (some (((⟨#[]⟩ : ByteArray), 1, ()), ()))
          (let t11 := !decide (e9 ≤ 4611686018427387904);
            byB t11
              (some (((⟨#[]⟩ : ByteArray), 1, ()), ()))
              (loopN N (Write_17_L10 N again5) (((), IntKind.wrap .u64 e9, t4, t5, t6, e9, t11, ()), l7, ())))
        else none)
      (some ((bytesOf l7, 0, ()), ()))
def Write_17 (N : Nat) (x : ((List Int × Unit) × Unit)) : Option ((ByteArray × (Int × Unit)) × Unit) := match x with
  | ((l0, ()), ()) =>
    byB (!decide ((l0.length : Int) ≤ 2000))
      (some (((⟨#[]⟩ : ByteArray), 7, ()), ()))
      (loopN N (Write_17_L5 N) (((), l0, (l0.length : Int), 0, ()), [], ()))
theorem eq_Write_17 (N : Nat) (x : (ap_Write_17).den) : funX Try.prog (fs4 N) N 17 lo_Write_17 jo_Write_17 Try.f17 ap_Write_17 rp_Write_17 x = Write_17 N x := by kernel_rfl
noncomputable def sp_Write_17 (N : Nat) : FSpec := specOf ap_Write_17 rp_Write_17 true (Write_17 N)
theorem ok_Write_17 (N : Nat) : FSound Try.prog 17 (sp_Write_17 N) := funX_sound (N := N) (loops := lo_Write_17) (joins := jo_Write_17) (fsok4 N) Try.func17 (by kernel_rfl) (by kernel_rfl) fun x _ h => (eq_Write_17 N x).trans h
noncomputable def fs5 (N : Nat) : FuncId → List V1 → List Blk → Option FSpec := fun g xs H => if g = 17 then some (sp_Write_17 N) else fs4 N g xs H
theorem fsok5 (N : Nat) : ∀ g xs H sp, fs5 N g xs H = some sp → FSound Try.prog g sp := fun g xs H sp h => by
  unfold fs5 at h
  by_cases e : g = 17
  · rw [if_pos e] at h; subst e; cases h; exact ok_Write_17 N
  · rw [if_neg e] at h; exact fsok4 N g xs H sp h
/-! Sum_32 -/
abbrev ap_Sum_32 : Pat := ⟨[.one (.str)], []⟩
abbrev rp_Sum_32 : List Pat := [⟨[.one (.int .u16)], []⟩]
def lo_Sum_32 : List LSpec := [⟨3, [3, 7, 8, 9], ⟨[.one (.int .u16), .one (.full 0), .one (.int .i64), .one (.int .i64)], [.row 1000005 (.int .u8)]⟩⟩, ⟨7, [3, 7, 8, 9, 18], ⟨[.one (.int .u16), .one (.full 0), .one (.int .i64), .one (.int .i64), .one (.int .i64)], [.row 1000005 (.int .u8)]⟩⟩]
def jo_Sum_32 : List LSpec := []
def Sum_32_L7 (N : Nat) (again3 : ((Int × (Unit × (Int × (Int × Unit)))) × (List Int × Unit)) → Option ((Int × Unit) × Unit)) (again7 : ((Int × (Unit × (Int × (Int × (Int × Unit))))) × (List Int × Unit)) → Option ((Int × Unit) × Unit)) (x : ((Int × (Unit × (Int × (Int × (Int × Unit))))) × (List Int × Unit))) : Option ((Int × Unit) × Unit) := match x with
  | ((v11, _, t12, t13, t14, ()), l15, ()) =>
    byB (decide (t14 < 8))
      (again7 ((IntKind.wrap .u16 (BitVec.ofInt (IntKind.bits .u16) (IntKind.wrap .u16 (v11 * 2 ^ 1)) ^^^ BitVec.ofInt (IntKind.bits .u16) (IntKind.wrap .u16 (BitVec.ofInt (IntKind.bits .u16) 4129 &&& BitVec.ofInt (IntKind.bits .u16) (IntKind.wrap .u16 (0 - (Int.fdiv v11 (2 ^ 15))))).toNat)).toNat, (), t12, t13, IntKind.wrap .i64 (t14 + 1), ()), l15, ()))
      (again3 ((v11, (), t12, IntKind.wrap .i64 (t13 + 1), ()), l15, ()))
def Sum_32_L3 (N : Nat) (again3 : ((Int × (Unit × (Int × (Int × Unit)))) × (List Int × Unit)) → Option ((Int × Unit) × Unit)) (x : ((Int × (Unit × (Int × (Int × Unit)))) × (List Int × Unit))) : Option ((Int × Unit) × Unit) := match x with
  | ((v2, _, t3, t4, ()), l5, ()) =>
    byB (decide (t4 < t3))
      (if (0 ≤ t4) ∧ (t4 < (l5.length : Int)) then
        loopN N (Sum_32_L7 N again3) ((IntKind.wrap .u16 (BitVec.ofInt (IntKind.bits .u16) v2 ^^^ BitVec.ofInt (IntKind.bits .u16) (IntKind.wrap .u16 ((IntKind.wrap .u16 (l5.getD t4.toNat 0)) * 2 ^ 8))).toNat, (), t3, t4, 0, ()), l5, ())
        else none)
      (some ((v2, ()), ()))
def Sum_32 (N : Nat) (x : ((ByteArray × Unit) × Unit)) : Option ((Int × Unit) × Unit) := match x with
  | ((s0, ()), ()) =>
    if s0.size ≤ 4611686018427387904 then
    loopN N (Sum_32_L3 N) ((65535, (), ((ofBytes s0).length : Int), 0, ()), ofBytes s0, ())
    else none
theorem eq_Sum_32 (N : Nat) (x : (ap_Sum_32).den) : funX Try.prog (fs5 N) N 32 lo_Sum_32 jo_Sum_32 Try.f32 ap_Sum_32 rp_Sum_32 x = Sum_32 N x := by kernel_rfl
noncomputable def sp_Sum_32 (N : Nat) : FSpec := specOf ap_Sum_32 rp_Sum_32 true (Sum_32 N)
theorem ok_Sum_32 (N : Nat) : FSound Try.prog 32 (sp_Sum_32 N) := funX_sound (N := N) (loops := lo_Sum_32) (joins := jo_Sum_32) (fsok5 N) Try.func32 (by kernel_rfl) (by kernel_rfl) fun x _ h => (eq_Sum_32 N x).trans h
noncomputable def fs6 (N : Nat) : FuncId → List V1 → List Blk → Option FSpec := fun g xs H => if g = 32 then some (sp_Sum_32 N) else fs5 N g xs H
theorem fsok6 (N : Nat) : ∀ g xs H sp, fs6 N g xs H = some sp → FSound Try.prog g sp := fun g xs H sp h => by
  unfold fs6 at h
  by_cases e : g = 32
  · rw [if_pos e] at h; subst e; cases h; exact ok_Sum_32 N
  · rw [if_neg e] at h; exact fsok5 N g xs H sp h
/-! Seal_18 -/
abbrev ap_Seal_18 : Pat := ⟨[.one (.str)], []⟩
abbrev rp_Seal_18 : List Pat := [⟨[.one (.str), .one (.int .i64)], []⟩]
def lo_Seal_18 : List LSpec := []
def jo_Seal_18 : List LSpec := []
def Seal_18 (N : Nat) (x : ((ByteArray × Unit) × Unit)) : Option ((ByteArray × (Int × Unit)) × Unit) := match x with
  | ((s0, ()), ()) =>
    byB (!decide (((s0.size) : Int) ≤ 100000))
      (some (((⟨#[]⟩ : ByteArray), 7, ()), ()))
      ((Sum_32 N ((s0, ()), ())).bind fun y3 =>
        let t7 := bytesOf [IntKind.wrap .u8 (Int.fdiv y3.1.1 (2 ^ 8)), IntKind.wrap .u8 y3.1.1];
        if s0.size + t7.size ≤ 9223372036854775807 then
        some ((s0 ++ t7, 0, ()), ())
        else none)
theorem eq_Seal_18 (N : Nat) (x : (ap_Seal_18).den) : funX Try.prog (fs6 N) N 18 lo_Seal_18 jo_Seal_18 Try.f18 ap_Seal_18 rp_Seal_18 x = Seal_18 N x := by kernel_rfl
noncomputable def sp_Seal_18 (N : Nat) : FSpec := specOf ap_Seal_18 rp_Seal_18 true (Seal_18 N)
theorem ok_Seal_18 (N : Nat) : FSound Try.prog 18 (sp_Seal_18 N) := funX_sound (N := N) (loops := lo_Seal_18) (joins := jo_Seal_18) (fsok6 N) Try.func18 (by kernel_rfl) (by kernel_rfl) fun x _ h => (eq_Seal_18 N x).trans h
noncomputable def fs7 (N : Nat) : FuncId → List V1 → List Blk → Option FSpec := fun g xs H => if g = 18 then some (sp_Seal_18 N) else fs6 N g xs H
theorem fsok7 (N : Nat) : ∀ g xs H sp, fs7 N g xs H = some sp → FSound Try.prog g sp := fun g xs H sp h => by
  unfold fs7 at h
  by_cases e : g = 18
  · rw [if_pos e] at h; subst e; cases h; exact ok_Seal_18 N
  · rw [if_neg e] at h; exact fsok6 N g xs H sp h
/-! Encode_9 -/
abbrev ap_Encode_9 : Pat := ⟨[.agg [.int .i64, .int .i64, .int .i64, .int .i64, .int .i64, .int .i64, .int .i64, .int .i64, .ro (.pair (.int .i64) (.pair (.int .i64) (.pair (.int .i64) (.ro (.pair (.int .i64) (.pair (.int .i64) (.int .i64)))))))]], []⟩
abbrev rp_Encode_9 : List Pat := [⟨[.one (.str), .one (.int .i64)], []⟩]
def lo_Encode_9 : List LSpec := []
def jo_Encode_9 : List LSpec := []
def Encode_9 (N : Nat) (x : (((Int × (Int × (Int × (Int × (Int × (Int × (Int × (Int × (List (Int × (Int × (Int × (List (Int × (Int × Int)))))) × Unit))))))))) × Unit) × Unit)) : Option ((ByteArray × (Int × Unit)) × Unit) := match x with
  | (((s0, s1, s2, s3, s4, s5, s6, s7, s8, ()), ()), ()) =>
    byB (!decide ((s8.length : Int) ≤ 24))
      (some (((⟨#[]⟩ : ByteArray), 7, ()), ()))
      ((Task_20 N ((s8, (), ()), ())).bind fun y11 =>
        byB y11.1.1
          (some (((⟨#[]⟩ : ByteArray), 7, ()), ()))
          ((numbers_21 N (((s0, s1, s2, s3, s4, s5, s6, s7, s8, ()), ()), ())).bind fun y12 =>
            (Write_17 N ((y12.2.1, ()), ())).bind fun y13 =>
            byB (y13.1.2.1 != 0)
              (some (((⟨#[]⟩ : ByteArray), y13.1.2.1, ()), ()))
              ((Seal_18 N ((y13.1.1, ()), ())).bind fun y15 =>
                some ((y15.1.1, y15.1.2.1, ()), ()))))
theorem eq_Encode_9 (N : Nat) (x : (ap_Encode_9).den) : funX Try.prog (fs7 N) N 9 lo_Encode_9 jo_Encode_9 Try.f9 ap_Encode_9 rp_Encode_9 x = Encode_9 N x := by kernel_rfl
noncomputable def sp_Encode_9 (N : Nat) : FSpec := specOf ap_Encode_9 rp_Encode_9 true (Encode_9 N)
theorem ok_Encode_9 (N : Nat) : FSound Try.prog 9 (sp_Encode_9 N) := funX_sound (N := N) (loops := lo_Encode_9) (joins := jo_Encode_9) (fsok7 N) Try.func9 (by kernel_rfl) (by kernel_rfl) fun x _ h => (eq_Encode_9 N x).trans h
noncomputable def fs8 (N : Nat) : FuncId → List V1 → List Blk → Option FSpec := fun g xs H => if g = 9 then some (sp_Encode_9 N) else fs7 N g xs H
theorem fsok8 (N : Nat) : ∀ g xs H sp, fs8 N g xs H = some sp → FSound Try.prog g sp := fun g xs H sp h => by
  unfold fs8 at h
  by_cases e : g = 9
  · rw [if_pos e] at h; subst e; cases h; exact ok_Encode_9 N
  · rw [if_neg e] at h; exact fsok7 N g xs H sp h
/-! Open_15 -/
abbrev ap_Open_15 : Pat := ⟨[.one (.str)], []⟩
abbrev rp_Open_15 : List Pat := [⟨[.one (.str), .one (.int .i64)], []⟩]
def lo_Open_15 : List LSpec := []
def jo_Open_15 : List LSpec := []
def Open_15 (N : Nat) (x : ((ByteArray × Unit) × Unit)) : Option ((ByteArray × (Int × Unit)) × Unit) := match x with
  | ((s0, ()), ()) =>
    let t2 := IntKind.wrap .i64 (((s0.size) : Int) - 2);
    byB (decide (t2 < 0))
      (some (((⟨#[]⟩ : ByteArray), 6, ()), ()))
      (byB (!decide (t2 ≤ 100000))
          (some (((⟨#[]⟩ : ByteArray), 7, ()), ()))
          ((Sum_32 N ((s0, ()), ())).bind fun y5 =>
            byB (y5.1.1 != 0)
              (some (((⟨#[]⟩ : ByteArray), 9, ()), ()))
              (if ((0 : Int) ≤ 0) ∧ (0 ≤ t2) ∧ (t2 ≤ ((s0.size) : Int)) then
                some ((s0.extract 0 t2.toNat, 0, ()), ())
                else none)))
theorem eq_Open_15 (N : Nat) (x : (ap_Open_15).den) : funX Try.prog (fs8 N) N 15 lo_Open_15 jo_Open_15 Try.f15 ap_Open_15 rp_Open_15 x = Open_15 N x := by kernel_rfl
noncomputable def sp_Open_15 (N : Nat) : FSpec := specOf ap_Open_15 rp_Open_15 true (Open_15 N)
theorem ok_Open_15 (N : Nat) : FSound Try.prog 15 (sp_Open_15 N) := funX_sound (N := N) (loops := lo_Open_15) (joins := jo_Open_15) (fsok8 N) Try.func15 (by kernel_rfl) (by kernel_rfl) fun x _ h => (eq_Open_15 N x).trans h
noncomputable def fs9 (N : Nat) : FuncId → List V1 → List Blk → Option FSpec := fun g xs H => if g = 15 then some (sp_Open_15 N) else fs8 N g xs H
theorem fsok9 (N : Nat) : ∀ g xs H sp, fs9 N g xs H = some sp → FSound Try.prog g sp := fun g xs H sp h => by
  unfold fs9 at h
  by_cases e : g = 15
  · rw [if_pos e] at h; subst e; cases h; exact ok_Open_15 N
  · rw [if_neg e] at h; exact fsok8 N g xs H sp h
/-! reader_33 -/
abbrev ap_reader_33 : Pat := ⟨[.one (.str)], []⟩
abbrev rp_reader_33 : List Pat := [⟨[.one (.fn 37 0)], [.clo 37 [] [.one (.ptr 1 0), .one (.ptr 2 0)], .var 3 [.int .i64], .var 9 [.str]]⟩]
def lo_reader_33 : List LSpec := []
def jo_reader_33 : List LSpec := []
def reader_33 (N : Nat) (x : ((ByteArray × Unit) × Unit)) : Option ((Unit × Unit) × ((Unit × (Unit × (Unit × Unit))) × ((Int × Unit) × ((ByteArray × Unit) × Unit)))) := match x with
  | ((s0, ()), ()) =>
    some (((), ()), ((), (), (), ()), (0, ()), (s0, ()), ())
theorem eq_reader_33 (N : Nat) (x : (ap_reader_33).den) : funX Try.prog (fs9 N) N 33 lo_reader_33 jo_reader_33 Try.f33 ap_reader_33 rp_reader_33 x = reader_33 N x := by kernel_rfl
noncomputable def sp_reader_33 (N : Nat) : FSpec := specOf ap_reader_33 rp_reader_33 true (reader_33 N)
theorem ok_reader_33 (N : Nat) : FSound Try.prog 33 (sp_reader_33 N) := funX_sound (N := N) (loops := lo_reader_33) (joins := jo_reader_33) (fsok9 N) Try.func33 (by kernel_rfl) (by kernel_rfl) fun x _ h => (eq_reader_33 N x).trans h
noncomputable def fs10 (N : Nat) : FuncId → List V1 → List Blk → Option FSpec := fun g xs H => if g = 33 then some (sp_reader_33 N) else fs9 N g xs H
theorem fsok10 (N : Nat) : ∀ g xs H sp, fs10 N g xs H = some sp → FSound Try.prog g sp := fun g xs H sp h => by
  unfold fs10 at h
  by_cases e : g = 33
  · rw [if_pos e] at h; subst e; cases h; exact ok_reader_33 N
  · rw [if_neg e] at h; exact fsok9 N g xs H sp h
/-! reader1_37 -/
abbrev ap_reader1_37 : Pat := ⟨[.one (.ptr 0 0), .one (.ptr 1 0)], [.var 3 [.int .i64], .var 9 [.str]]⟩
abbrev rp_reader1_37 : List Pat := [⟨[.one (.int .i64), .one (.bool), .one (.int .i64)], [.var 3 [.int .i64], .var 9 [.str]]⟩]
def lo_reader1_37 : List LSpec := [⟨6, [0, 1, 5, 6, 7], ⟨[.one (.ptr 0 0), .one (.ptr 1 0), .one (.int .u64), .one (.int .u64), .one (.int .i64)], [.var 3 [.int .i64], .var 9 [.str]]⟩⟩]
def jo_reader1_37 : List LSpec := []
def reader1_37_L6 (N : Nat) (again6 : ((Unit × (Unit × (Int × (Int × (Int × Unit))))) × ((Int × Unit) × ((ByteArray × Unit) × Unit))) → Option ((Int × (Bool × (Int × Unit))) × ((Int × Unit) × ((ByteArray × Unit) × Unit)))) (x : ((Unit × (Unit × (Int × (Int × (Int × Unit))))) × ((Int × Unit) × ((ByteArray × Unit) × Unit)))) : Option ((Int × (Bool × (Int × Unit))) × ((Int × Unit) × ((ByteArray × Unit) × Unit))) := match x with
  | ((_, _, u4, shift5, from6, ()), (c7, ()), (c8, ()), ()) =>
    byB (c7 == ((c8.size) : Int))
      (some ((0, false, 6, ()), (c7, ()), (c8, ()), ()))
      (if h11 : 0 ≤ c7 ∧ c7.toNat < c8.size then
        let t12 := ((c8[c7.toNat]'h11.2).toNat : Int);
        let t13 := IntKind.wrap .i64 (c7 + 1);
        byB (decide (shift5 < 63))
          (if shift5 < 0 then
              none
            else
            let t18 := IntKind.wrap .u64 (BitVec.ofInt (IntKind.bits .u64) u4 ||| BitVec.ofInt (IntKind.bits .u64) (IntKind.wrap .u64 ((IntKind.wrap .u64 (IntKind.wrap .u8 (BitVec.ofInt (IntKind.bits .u8) t12 &&& BitVec.ofInt (IntKind.bits .u8) 127).toNat)) * 2 ^ (min shift5.toNat (IntKind.bits .u64))))).toNat;
            byB (decide (t12 < 128))
              (byB (t12 == 0)
                  (byB (!decide ((IntKind.wrap .i64 (t13 - from6)) ≤ 1))
                      (some ((0, false, 8, ()), (t13, ()), (c8, ()), ()))
                      (byB (!decide (shift5 < 63))
                          (some ((0, false, 7, ()), (t13, ()), (c8, ()), ()))
                          (byB (!decide (t18 ≤ 4611686018427387904))
                              (some ((0, false, 7, ()), (t13, ()), (c8, ()), ()))
                              (some ((IntKind.wrap .i64 t18, true, 0, ()), (t13, ()), (c8, ()), ())))))
                  (byB (!decide (shift5 < 63))
                      (some ((0, false, 7, ()), (t13, ()), (c8, ()), ()))
                      (byB (!decide (t18 ≤ 4611686018427387904))
                          (some ((0, false, 7, ()), (t13, ()), (c8, ()), ()))
                          (some ((IntKind.wrap .i64 t18, true, 0, ()), (t13, ()), (c8, ()), ())))))
              (again6 (((), (), t18, IntKind.wrap .u64 (shift5 + 7), from6, ()), (t13, ()), (c8, ()), ())))
          (byB (decide (t12 < 128))
              (byB (t12 == 0)
                  (byB (!decide ((IntKind.wrap .i64 (t13 - from6)) ≤ 1))
                      (some ((0, false, 8, ()), (t13, ()), (c8, ()), ()))
                      (byB (!decide (shift5 < 63))
                          (some ((0, false, 7, ()), (t13, ()), (c8, ()), ()))
                          (byB (!decide (u4 ≤ 4611686018427387904))
                              (some ((0, false, 7, ()), (t13, ()), (c8, ()), ()))
                              (some ((IntKind.wrap .i64 u4, true, 0, ()), (t13, ()), (c8, ()), ())))))
                  (byB (!decide (shift5 < 63))
                      (some ((0, false, 7, ()), (t13, ()), (c8, ()), ()))
                      (byB (!decide (u4 ≤ 4611686018427387904))
                          (some ((0, false, 7, ()), (t13, ()), (c8, ()), ()))
                          (some ((IntKind.wrap .i64 u4, true, 0, ()), (t13, ()), (c8, ()), ())))))
              (again6 (((), (), u4, IntKind.wrap .u64 (shift5 + 7), from6, ()), (t13, ()), (c8, ()), ())))
        else none)
def reader1_37 (N : Nat) (x : ((Unit × (Unit × Unit)) × ((Int × Unit) × ((ByteArray × Unit) × Unit)))) : Option ((Int × (Bool × (Int × Unit))) × ((Int × Unit) × ((ByteArray × Unit) × Unit))) := match x with
  | ((_, _, ()), (c0, ()), (c1, ()), ()) =>
    byB (c0 == ((c1.size) : Int))
      (some ((0, false, 0, ()), (c0, ()), (c1, ()), ()))
      (loopN N (reader1_37_L6 N) (((), (), 0, 0, c0, ()), (c0, ()), (c1, ()), ()))
theorem eq_reader1_37 (N : Nat) (x : (ap_reader1_37).den) : funX Try.prog (fs10 N) N 37 lo_reader1_37 jo_reader1_37 Try.f37 ap_reader1_37 rp_reader1_37 x = reader1_37 N x := by kernel_rfl
noncomputable def sp_reader1_37 (N : Nat) : FSpec := specOf ap_reader1_37 rp_reader1_37 true (reader1_37 N)
theorem ok_reader1_37 (N : Nat) : FSound Try.prog 37 (sp_reader1_37 N) := funX_sound (N := N) (loops := lo_reader1_37) (joins := jo_reader1_37) (fsok10 N) Try.func37 (by kernel_rfl) (by kernel_rfl) fun x _ h => (eq_reader1_37 N x).trans h
noncomputable def fs11 (N : Nat) : FuncId → List V1 → List Blk → Option FSpec := fun g xs H => if g = 37 then some (sp_reader1_37 N) else fs10 N g xs H
theorem fsok11 (N : Nat) : ∀ g xs H sp, fs11 N g xs H = some sp → FSound Try.prog g sp := fun g xs H sp h => by
  unfold fs11 at h
  by_cases e : g = 37
  · rw [if_pos e] at h; subst e; cases h; exact ok_reader1_37 N
  · rw [if_neg e] at h; exact fsok10 N g xs H sp h
/-! Read_16v1 -/
abbrev ap_Read_16v1 : Pat := ⟨[.one (.str)], []⟩
abbrev rp_Read_16v1 : List Pat := [⟨[.one (.ro (.int .i64)), .one (.int .i64)], []⟩]
def lo_Read_16v1 : List LSpec := [⟨3, [4, 5], ⟨[.one (.fn 37 0), .one (.full 1)], [.clo 37 [] [.one (.ptr 2 0), .one (.ptr 3 0)], .row 3 (.int .i64), .var 3 [.int .i64], .var 9 [.str]]⟩⟩]
def jo_Read_16v1 : List LSpec := []
def Read_16v1_L3 (N : Nat) (again3 : ((Unit × (Unit × Unit)) × ((Unit × (Unit × (Unit × Unit))) × (List Int × ((Int × Unit) × ((ByteArray × Unit) × Unit))))) → Option ((List Int × (Int × Unit)) × Unit)) (x : ((Unit × (Unit × Unit)) × ((Unit × (Unit × (Unit × Unit))) × (List Int × ((Int × Unit) × ((ByteArray × Unit) × Unit)))))) : Option ((List Int × (Int × Unit)) × Unit) := match x with
  | ((_, _, ()), ((), _, _, ()), l2, (c3, ()), (c4, ()), ()) =>
    (reader1_37 N (((), (), ()), (c3, ()), (c4, ()), ())).bind fun y5 =>
    byB (y5.1.2.2.1 == 0)
      (byB y5.1.2.1
          (byB ((l2.length : Int) == 2000)
              (some (([], 7, ()), ()))
              (byB (y5.1.2.2.1 != 0)
                  (some (([], y5.1.2.2.1, ()), ()))
                  (byB (!y5.1.2.1)
                      (some ((l2, 0, ()), ()))
                      (if (l2.length + 1) * 8 ≤ 140737488355328 then
                        again3 (((), (), ()), ((), (), (), ()), l2 ++ [y5.1.1], (y5.2.1.1, ()), (y5.2.2.1.1, ()), ())
                        else none))))
          (byB (y5.1.2.2.1 != 0)
              (some (([], y5.1.2.2.1, ()), ()))
              (byB (!y5.1.2.1)
                  (some ((l2, 0, ()), ()))
                  (if (l2.length + 1) * 8 ≤ 140737488355328 then
                    again3 (((), (), ()), ((), (), (), ()), l2 ++ [y5.1.1], (y5.2.1.1, ()), (y5.2.2.1.1, ()), ())
                    else none))))
      (byB (y5.1.2.2.1 != 0)
          (some (([], y5.1.2.2.1, ()), ()))
          (byB (!y5.1.2.1)
              (some ((l2, 0, ()), ()))
              (if (l2.length + 1) * 8 ≤ 140737488355328 then
                again3 (((), (), ()), ((), (), (), ()), l2 ++ [y5.1.1], (y5.2.1.1, ()), (y5.2.2.1.1, ()), ())
                else none)))
def Read_16v1 (N : Nat) (x : ((ByteArray × Unit) × Unit)) : Option ((List Int × (Int × Unit)) × Unit) := match x with
  | ((s0, ()), ()) =>
    (reader_33 N ((s0, ()), ())).bind fun y1 =>
    loopN N (Read_16v1_L3 N) (((), (), ()), ((), (), (), ()), [], (y1.2.2.1.1, ()), (y1.2.2.2.1.1, ()), ())
theorem eq_Read_16v1 (N : Nat) (x : (ap_Read_16v1).den) : funX Try.prog (fs11 N) N 16 lo_Read_16v1 jo_Read_16v1 Try.f16 ap_Read_16v1 rp_Read_16v1 x = Read_16v1 N x := by kernel_rfl
noncomputable def sp_Read_16v1 (N : Nat) : FSpec := specOf ap_Read_16v1 rp_Read_16v1 false (Read_16v1 N)
theorem ok_Read_16v1 (N : Nat) : FSound Try.prog 16 (sp_Read_16v1 N) := funX_sound (N := N) (loops := lo_Read_16v1) (joins := jo_Read_16v1) (fsok11 N) Try.func16 (by kernel_rfl) (by kernel_rfl) fun x _ h => (eq_Read_16v1 N x).trans h
noncomputable def fs12 (N : Nat) : FuncId → List V1 → List Blk → Option FSpec := fun g xs H => if g = 16 then some (sp_Read_16v1 N) else fs11 N g xs H
theorem fsok12 (N : Nat) : ∀ g xs H sp, fs12 N g xs H = some sp → FSound Try.prog g sp := fun g xs H sp h => by
  unfold fs12 at h
  by_cases e : g = 16
  · rw [if_pos e] at h; subst e; cases h; exact ok_Read_16v1 N
  · rw [if_neg e] at h; exact fsok11 N g xs H sp h
/-! fault_30v1 -/
abbrev ap_fault_30v1 : Pat := ⟨[.one (.ptr 0 0), .one (.int .i64)], [.var 63 [.ro (.int .i64), .int .i64]]⟩
abbrev rp_fault_30v1 : List Pat := [⟨[.one (.int .i64)], [.var 63 [.ro (.int .i64), .int .i64]]⟩]
def lo_fault_30v1 : List LSpec := []
def jo_fault_30v1 : List LSpec := []
def fault_30v1 (N : Nat) (x : ((Unit × (Int × Unit)) × ((List Int × (Int × Unit)) × Unit))) : Option ((Int × Unit) × ((List Int × (Int × Unit)) × Unit)) := match x with
  | ((_, e0, ()), (c1, c2, ()), ()) =>
    byB (c2 == 0)
      (some ((0, ()), (c1, e0, ()), ()))
      (some ((0, ()), (c1, c2, ()), ()))
theorem eq_fault_30v1 (N : Nat) (x : (ap_fault_30v1).den) : funX Try.prog (fs12 N) N 30 lo_fault_30v1 jo_fault_30v1 Try.f30 ap_fault_30v1 rp_fault_30v1 x = fault_30v1 N x := by kernel_rfl
noncomputable def sp_fault_30v1 (N : Nat) : FSpec := specOf ap_fault_30v1 rp_fault_30v1 false (fault_30v1 N)
theorem ok_fault_30v1 (N : Nat) : FSound Try.prog 30 (sp_fault_30v1 N) := funX_sound (N := N) (loops := lo_fault_30v1) (joins := jo_fault_30v1) (fsok12 N) Try.func30 (by kernel_rfl) (by kernel_rfl) fun x _ h => (eq_fault_30v1 N x).trans h
noncomputable def fs13 (N : Nat) : FuncId → List V1 → List Blk → Option FSpec := fun g xs H => if g = 30 then some (sp_fault_30v1 N) else fs12 N g xs H
theorem fsok13 (N : Nat) : ∀ g xs H sp, fs13 N g xs H = some sp → FSound Try.prog g sp := fun g xs H sp h => by
  unfold fs13 at h
  by_cases e : g = 30
  · rw [if_pos e] at h; subst e; cases h; exact ok_fault_30v1 N
  · rw [if_neg e] at h; exact fsok12 N g xs H sp h
/-! next_28v1 -/
abbrev ap_next_28v1 : Pat := ⟨[.one (.ptr 0 0)], [.var 63 [.ro (.int .i64), .int .i64]]⟩
abbrev rp_next_28v1 : List Pat := [⟨[.one (.int .i64)], [.var 63 [.ro (.int .i64), .int .i64]]⟩]
def lo_next_28v1 : List LSpec := []
def jo_next_28v1 : List LSpec := []
def next_28v1 (N : Nat) (x : ((Unit × Unit) × ((List Int × (Int × Unit)) × Unit))) : Option ((Int × Unit) × ((List Int × (Int × Unit)) × Unit)) := match x with
  | ((_, ()), (c0, c1, ()), ()) =>
    byB ((c0.length : Int) == 0)
      ((fault_30v1 N (((), 8, ()), (c0, c1, ()), ())).bind fun y4 =>
        some ((y4.1.1, ()), (y4.2.1.1, y4.2.1.2.1, ()), ()))
      (byB (c1 != 0)
          ((fault_30v1 N (((), 8, ()), (c0, c1, ()), ())).bind fun y6 =>
            some ((y6.1.1, ()), (y6.2.1.1, y6.2.1.2.1, ()), ()))
          (if ((0 : Int) ≤ 0) ∧ (0 < (c0.length : Int)) then
            (if ((0 : Int) ≤ 1) ∧ (1 ≤ (c0.length : Int)) ∧ ((c0.length : Int) ≤ (c0.length : Int)) then
            some ((c0.getD 0 0, ()), ((c0.take c0.length).drop 1, c1, ()), ())
            else none)
            else none))
theorem eq_next_28v1 (N : Nat) (x : (ap_next_28v1).den) : funX Try.prog (fs13 N) N 28 lo_next_28v1 jo_next_28v1 Try.f28 ap_next_28v1 rp_next_28v1 x = next_28v1 N x := by kernel_rfl
noncomputable def sp_next_28v1 (N : Nat) : FSpec := specOf ap_next_28v1 rp_next_28v1 false (next_28v1 N)
theorem ok_next_28v1 (N : Nat) : FSound Try.prog 28 (sp_next_28v1 N) := funX_sound (N := N) (loops := lo_next_28v1) (joins := jo_next_28v1) (fsok13 N) Try.func28 (by kernel_rfl) (by kernel_rfl) fun x _ h => (eq_next_28v1 N x).trans h
noncomputable def fs14 (N : Nat) : FuncId → List V1 → List Blk → Option FSpec := fun g xs H => if g = 28 then some (sp_next_28v1 N) else fs13 N g xs H
theorem fsok14 (N : Nat) : ∀ g xs H sp, fs14 N g xs H = some sp → FSound Try.prog g sp := fun g xs H sp h => by
  unfold fs14 at h
  by_cases e : g = 28
  · rw [if_pos e] at h; subst e; cases h; exact ok_next_28v1 N
  · rw [if_neg e] at h; exact fsok13 N g xs H sp h
/-! many_29v1 -/
abbrev ap_many_29v1 : Pat := ⟨[.one (.ptr 0 0), .one (.int .i64)], [.var 63 [.ro (.int .i64), .int .i64]]⟩
abbrev rp_many_29v1 : List Pat := [⟨[.one (.int .i64)], [.var 63 [.ro (.int .i64), .int .i64]]⟩]
def lo_many_29v1 : List LSpec := []
def jo_many_29v1 : List LSpec := []
def many_29v1 (N : Nat) (x : ((Unit × (Int × Unit)) × ((List Int × (Int × Unit)) × Unit))) : Option ((Int × Unit) × ((List Int × (Int × Unit)) × Unit)) := match x with
  | ((_, most0, ()), (c1, c2, ()), ()) =>
    (next_28v1 N (((), ()), (c1, c2, ()), ())).bind fun y3 =>
    byB (!decide (y3.1.1 ≤ most0))
      ((fault_30v1 N (((), 7, ()), (y3.2.1.1, y3.2.1.2.1, ()), ())).bind fun y5 =>
        some ((y5.1.1, ()), (y5.2.1.1, y5.2.1.2.1, ()), ()))
      (some ((y3.1.1, ()), (y3.2.1.1, y3.2.1.2.1, ()), ()))
theorem eq_many_29v1 (N : Nat) (x : (ap_many_29v1).den) : funX Try.prog (fs14 N) N 29 lo_many_29v1 jo_many_29v1 Try.f29 ap_many_29v1 rp_many_29v1 x = many_29v1 N x := by kernel_rfl
noncomputable def sp_many_29v1 (N : Nat) : FSpec := specOf ap_many_29v1 rp_many_29v1 false (many_29v1 N)
theorem ok_many_29v1 (N : Nat) : FSound Try.prog 29 (sp_many_29v1 N) := funX_sound (N := N) (loops := lo_many_29v1) (joins := jo_many_29v1) (fsok14 N) Try.func29 (by kernel_rfl) (by kernel_rfl) fun x _ h => (eq_many_29v1 N x).trans h
noncomputable def fs15 (N : Nat) : FuncId → List V1 → List Blk → Option FSpec := fun g xs H => if g = 29 then some (sp_many_29v1 N) else fs14 N g xs H
theorem fsok15 (N : Nat) : ∀ g xs H sp, fs15 N g xs H = some sp → FSound Try.prog g sp := fun g xs H sp h => by
  unfold fs15 at h
  by_cases e : g = 29
  · rw [if_pos e] at h; subst e; cases h; exact ok_many_29v1 N
  · rw [if_neg e] at h; exact fsok14 N g xs H sp h
/-! Decode_12 -/
abbrev ap_Decode_12 : Pat := ⟨[.one (.str)], []⟩
abbrev rp_Decode_12 : List Pat := [⟨[.agg [.int .i64, .int .i64, .int .i64, .int .i64, .int .i64, .int .i64, .int .i64, .int .i64, .ofull 0], .one (.int .i64)], [.own 39 (.pair (.int .i64) (.pair (.int .i64) (.pair (.int .i64) (.ro (.pair (.int .i64) (.pair (.int .i64) (.int .i64)))))))]⟩]
def lo_Decode_12 : List LSpec := [⟨18, [2, 3, 7, 8, 9, 60, 61], ⟨[.one (.ptr 0 0), .one (.int .i64), .one (.ptr 1 0), .one (.fn 28 2), .one (.ptr 3 0), .one (.int .i64), .one (.int .i64)], [.var 24 [.int .i64, .int .i64, .int .i64, .int .i64, .int .i64, .int .i64, .int .i64, .int .i64, .ro (.pair (.int .i64) (.pair (.int .i64) (.pair (.int .i64) (.ro (.pair (.int .i64) (.pair (.int .i64) (.int .i64)))))))], .var 63 [.ro (.int .i64), .int .i64], .clo 28 [.one (.ptr 1 0)] [], .var 24 [.int .i64, .int .i64, .int .i64, .int .i64, .int .i64, .int .i64, .int .i64, .int .i64, .ofull 4], .own 39 (.pair (.int .i64) (.pair (.int .i64) (.pair (.int .i64) (.ro (.pair (.int .i64) (.pair (.int .i64) (.int .i64)))))))]⟩⟩, ⟨21, [2, 3, 7, 8, 9, 12, 60, 61, 71, 72], ⟨[.one (.ptr 0 0), .one (.int .i64), .one (.ptr 1 0), .one (.fn 28 2), .one (.ptr 3 0), .one (.ptr 4 0), .one (.int .i64), .one (.int .i64), .one (.int .i64), .one (.int .i64)], [.var 24 [.int .i64, .int .i64, .int .i64, .int .i64, .int .i64, .int .i64, .int .i64, .int .i64, .ro (.pair (.int .i64) (.pair (.int .i64) (.pair (.int .i64) (.ro (.pair (.int .i64) (.pair (.int .i64) (.int .i64)))))))], .var 63 [.ro (.int .i64), .int .i64], .clo 28 [.one (.ptr 1 0)] [], .var 24 [.int .i64, .int .i64, .int .i64, .int .i64, .int .i64, .int .i64, .int .i64, .int .i64, .ofull 5], .var 39 [.int .i64, .int .i64, .int .i64, .full 6], .own 39 (.pair (.int .i64) (.pair (.int .i64) (.pair (.int .i64) (.ro (.pair (.int .i64) (.pair (.int .i64) (.int .i64))))))), .row 41 (.pair (.int .i64) (.pair (.int .i64) (.int .i64)))]⟩⟩]
def jo_Decode_12 : List LSpec := [⟨1000000024, [], ⟨[], []⟩⟩]
def Decode_12_L21 (N : Nat) (again18 : ((Unit × (Int × (Unit × (Unit × (Unit × (Int × (Int × Unit))))))) × ((Int × (Int × (Int × (Int × (Int × (Int × (Int × (Int × (List (Int × (Int × (Int × (List (Int × (Int × Int)))))) × Unit))))))))) × ((List Int × (Int × Unit)) × (((Unit × Unit) × Unit) × ((Int × (Int × (Int × (Int × (Int × (Int × (Int × (Int × (Unit × Unit))))))))) × (List (Int × (Int × (Int × (List (Int × (Int × Int)))))) × Unit)))))) → Option (((Int × (Int × (Int × (Int × (Int × (Int × (Int × (Int × (Unit × Unit))))))))) × (Int × Unit)) × (List (Int × (Int × (Int × (List (Int × (Int × Int)))))) × Unit))) (again21 : ((Unit × (Int × (Unit × (Unit × (Unit × (Unit × (Int × (Int × (Int × (Int × Unit)))))))))) × ((Int × (Int × (Int × (Int × (Int × (Int × (Int × (Int × (List (Int × (Int × (Int × (List (Int × (Int × Int)))))) × Unit))))))))) × ((List Int × (Int × Unit)) × (((Unit × Unit) × Unit) × ((Int × (Int × (Int × (Int × (Int × (Int × (Int × (Int × (Unit × Unit))))))))) × ((Int × (Int × (Int × (Unit × Unit)))) × (List (Int × (Int × (Int × (List (Int × (Int × Int)))))) × (List (Int × (Int × Int)) × Unit)))))))) → Option (((Int × (Int × (Int × (Int × (Int × (Int × (Int × (Int × (Unit × Unit))))))))) × (Int × Unit)) × (List (Int × (Int × (Int × (List (Int × (Int × Int)))))) × Unit))) (x : ((Unit × (Int × (Unit × (Unit × (Unit × (Unit × (Int × (Int × (Int × (Int × Unit)))))))))) × ((Int × (Int × (Int × (Int × (Int × (Int × (Int × (Int × (List (Int × (Int × (Int × (List (Int × (Int × Int)))))) × Unit))))))))) × ((List Int × (Int × Unit)) × (((Unit × Unit) × Unit) × ((Int × (Int × (Int × (Int × (Int × (Int × (Int × (Int × (Unit × Unit))))))))) × ((Int × (Int × (Int × (Unit × Unit)))) × (List (Int × (Int × (Int × (List (Int × (Int × Int)))))) × (List (Int × (Int × Int)) × Unit))))))))) : Option (((Int × (Int × (Int × (Int × (Int × (Int × (Int × (Int × (Unit × Unit))))))))) × (Int × Unit)) × (List (Int × (Int × (Int × (List (Int × (Int × Int)))))) × Unit)) := match x with
  | ((_, t44, _, _, _, _, t45, t46, t47, t48, ()), (c49, c50, c51, c52, c53, c54, c55, c56, c57, ()), (c58, c59, ()), ((_, ()), ()), (c60, c61, c62, c63, c64, c65, c66, c67, _, ()), (c68, c69, c70, _, ()), l71, l72, ()) =>
    byB (decide (t48 < t47))
      ((next_28v1 N (((), ()), (c58, c59, ()), ())).bind fun y74 =>
        (next_28v1 N (((), ()), (y74.2.1.1, y74.2.1.2.1, ()), ())).bind fun y75 =>
        (next_28v1 N (((), ()), (y75.2.1.1, y75.2.1.2.1, ()), ())).bind fun y76 =>
        if (l72.length + 1) * 24 ≤ 140737488355328 then
        again21 (((), t44, (), (), (), (), t45, t46, t47, IntKind.wrap .i64 (t48 + 1), ()), (c49, c50, c51, c52, c53, c54, c55, c56, c57, ()), (y76.2.1.1, y76.2.1.2.1, ()), (((), ()), ()), (c60, c61, c62, c63, c64, c65, c66, c67, (), ()), (c68, c69, c70, (), ()), l71, l72 ++ [(y74.1.1, y75.1.1, y76.1.1)], ())
        else none)
      (if (l71.length + 1) * 48 ≤ 140737488355328 then
        again18 (((), t44, (), (), (), t45, IntKind.wrap .i64 (t46 + 1), ()), (c49, c50, c51, c52, c53, c54, c55, c56, c57, ()), (c58, c59, ()), (((), ()), ()), (c60, c61, c62, c63, c64, c65, c66, c67, (), ()), l71 ++ [(c68, c69, c70, l72)], ())
        else none)
def Decode_12_L18 (N : Nat) (again18 : ((Unit × (Int × (Unit × (Unit × (Unit × (Int × (Int × Unit))))))) × ((Int × (Int × (Int × (Int × (Int × (Int × (Int × (Int × (List (Int × (Int × (Int × (List (Int × (Int × Int)))))) × Unit))))))))) × ((List Int × (Int × Unit)) × (((Unit × Unit) × Unit) × ((Int × (Int × (Int × (Int × (Int × (Int × (Int × (Int × (Unit × Unit))))))))) × (List (Int × (Int × (Int × (List (Int × (Int × Int)))))) × Unit)))))) → Option (((Int × (Int × (Int × (Int × (Int × (Int × (Int × (Int × (Unit × Unit))))))))) × (Int × Unit)) × (List (Int × (Int × (Int × (List (Int × (Int × Int)))))) × Unit))) (x : ((Unit × (Int × (Unit × (Unit × (Unit × (Int × (Int × Unit))))))) × ((Int × (Int × (Int × (Int × (Int × (Int × (Int × (Int × (List (Int × (Int × (Int × (List (Int × (Int × Int)))))) × Unit))))))))) × ((List Int × (Int × Unit)) × (((Unit × Unit) × Unit) × ((Int × (Int × (Int × (Int × (Int × (Int × (Int × (Int × (Unit × Unit))))))))) × (List (Int × (Int × (Int × (List (Int × (Int × Int)))))) × Unit))))))) : Option (((Int × (Int × (Int × (Int × (Int × (Int × (Int × (Int × (Unit × Unit))))))))) × (Int × Unit)) × (List (Int × (Int × (Int × (List (Int × (Int × Int)))))) × Unit)) := match x with
  | ((_, t16, _, _, _, t17, t18, ()), (c19, c20, c21, c22, c23, c24, c25, c26, c27, ()), (c28, c29, ()), ((_, ()), ()), (c30, c31, c32, c33, c34, c35, c36, c37, _, ()), l38, ()) =>
    byB (decide (t18 < t17))
      ((next_28v1 N (((), ()), (c28, c29, ()), ())).bind fun y40 =>
        (next_28v1 N (((), ()), (y40.2.1.1, y40.2.1.2.1, ()), ())).bind fun y41 =>
        (next_28v1 N (((), ()), (y41.2.1.1, y41.2.1.2.1, ()), ())).bind fun y42 =>
        (many_29v1 N (((), 4, ()), (y42.2.1.1, y42.2.1.2.1, ()), ())).bind fun y43 =>
        loopN N (Decode_12_L21 N again18) (((), t16, (), (), (), (), t17, t18, y43.1.1, 0, ()), (c19, c20, c21, c22, c23, c24, c25, c26, c27, ()), (y43.2.1.1, y43.2.1.2.1, ()), (((), ()), ()), (c30, c31, c32, c33, c34, c35, c36, c37, (), ()), (y40.1.1, y41.1.1, y42.1.1, (), ()), l38, [], ()))
      (byB (!decide ((c28.length : Int) ≤ 0))
          ((fault_30v1 N (((), 8, ()), (c28, c29, ()), ())).bind fun y83 =>
            byB (y83.2.1.2.1 != 0)
              (some (((0, 0, 0, 0, 0, 0, 0, 0, (), ()), y83.2.1.2.1, ()), [], ()))
              (some (((c30, c31, c32, c33, c34, c35, c36, c37, (), ()), 0, ()), l38, ())))
          (byB (c29 != 0)
              (some (((0, 0, 0, 0, 0, 0, 0, 0, (), ()), c29, ()), [], ()))
              (some (((c30, c31, c32, c33, c34, c35, c36, c37, (), ()), 0, ()), l38, ()))))
def Decode_12 (N : Nat) (x : ((ByteArray × Unit) × Unit)) : Option (((Int × (Int × (Int × (Int × (Int × (Int × (Int × (Int × (Unit × Unit))))))))) × (Int × Unit)) × (List (Int × (Int × (Int × (List (Int × (Int × Int)))))) × Unit)) := match x with
  | ((b0, ()), ()) =>
    (Open_15 N ((b0, ()), ())).bind fun y1 =>
    byB (y1.1.2.1 != 0)
      (some (((0, 0, 0, 0, 0, 0, 0, 0, (), ()), y1.1.2.1, ()), [], ()))
      ((Read_16v1 N ((y1.1.1, ()), ())).bind fun y3 =>
        byB (y3.1.2.1 != 0)
          (some (((0, 0, 0, 0, 0, 0, 0, 0, (), ()), y3.1.2.1, ()), [], ()))
          ((next_28v1 N (((), ()), (y3.1.1, 0, ()), ())).bind fun y5 =>
            byB (y5.1.1 != 1)
              (some (((0, 0, 0, 0, 0, 0, 0, 0, (), ()), 8, ()), [], ()))
              ((next_28v1 N (((), ()), (y5.2.1.1, y5.2.1.2.1, ()), ())).bind fun y7 =>
                (next_28v1 N (((), ()), (y7.2.1.1, y7.2.1.2.1, ()), ())).bind fun y8 =>
                (next_28v1 N (((), ()), (y8.2.1.1, y8.2.1.2.1, ()), ())).bind fun y9 =>
                (next_28v1 N (((), ()), (y9.2.1.1, y9.2.1.2.1, ()), ())).bind fun y10 =>
                (next_28v1 N (((), ()), (y10.2.1.1, y10.2.1.2.1, ()), ())).bind fun y11 =>
                (next_28v1 N (((), ()), (y11.2.1.1, y11.2.1.2.1, ()), ())).bind fun y12 =>
                (next_28v1 N (((), ()), (y12.2.1.1, y12.2.1.2.1, ()), ())).bind fun y13 =>
                (next_28v1 N (((), ()), (y13.2.1.1, y13.2.1.2.1, ()), ())).bind fun y14 =>
                (many_29v1 N (((), 24, ()), (y14.2.1.1, y14.2.1.2.1, ()), ())).bind fun y15 =>
                loopN N (Decode_12_L18 N) (((), 0, (), (), (), y15.1.1, 0, ()), (0, 0, 0, 0, 0, 0, 0, 0, [], ()), (y15.2.1.1, y15.2.1.2.1, ()), (((), ()), ()), (y7.1.1, y8.1.1, y9.1.1, y10.1.1, y11.1.1, y12.1.1, y13.1.1, y14.1.1, (), ()), [], ()))))
theorem eq_Decode_12 (N : Nat) (x : (ap_Decode_12).den) : funX Try.prog (fs15 N) N 12 lo_Decode_12 jo_Decode_12 Try.f12 ap_Decode_12 rp_Decode_12 x = Decode_12 N x := by kernel_rfl
noncomputable def sp_Decode_12 (N : Nat) : FSpec := specOf ap_Decode_12 rp_Decode_12 true (Decode_12 N)
theorem ok_Decode_12 (N : Nat) : FSound Try.prog 12 (sp_Decode_12 N) := funX_sound (N := N) (loops := lo_Decode_12) (joins := jo_Decode_12) (fsok15 N) Try.func12 (by kernel_rfl) (by kernel_rfl) fun x _ h => (eq_Decode_12 N x).trans h
noncomputable def fs16 (N : Nat) : FuncId → List V1 → List Blk → Option FSpec := fun g xs H => if g = 12 then some (sp_Decode_12 N) else fs15 N g xs H
theorem fsok16 (N : Nat) : ∀ g xs H sp, fs16 N g xs H = some sp → FSound Try.prog g sp := fun g xs H sp h => by
  unfold fs16 at h
  by_cases e : g = 12
  · rw [if_pos e] at h; subst e; cases h; exact ok_Decode_12 N
  · rw [if_neg e] at h; exact fsok15 N g xs H sp h
/-! Equalintint_31 -/
abbrev ap_Equalintint_31 : Pat := ⟨[.one (.ro (.int .i64)), .one (.ro (.int .i64))], []⟩
abbrev rp_Equalintint_31 : List Pat := [⟨[.one (.bool)], []⟩]
def lo_Equalintint_31 : List LSpec := [⟨4, [0, 1, 12, 13], ⟨[.one (.ro (.int .i64)), .one (.ro (.int .i64)), .one (.int .i64), .one (.int .i64)], []⟩⟩]
def jo_Equalintint_31 : List LSpec := []
def Equalintint_31_L4 (N : Nat) (again4 : ((List Int × (List Int × (Int × (Int × Unit)))) × Unit) → Option ((Bool × Unit) × Unit)) (x : ((List Int × (List Int × (Int × (Int × Unit)))) × Unit)) : Option ((Bool × Unit) × Unit) := match x with
  | ((s16, s27, t8, t9, ()), ()) =>
    byB (decide (t9 < t8))
      (if (0 ≤ t9) ∧ (t9 < (s16.length : Int)) then
        (if (0 ≤ t9) ∧ (t9 < (s27.length : Int)) then
        byB ((s16.getD t9.toNat 0) != (s27.getD t9.toNat 0))
          (some ((false, ()), ()))
          (again4 ((s16, s27, t8, IntKind.wrap .i64 (t9 + 1), ()), ()))
        else none)
        else none)
      (some ((true, ()), ()))
def Equalintint_31 (N : Nat) (x : ((List Int × (List Int × Unit)) × Unit)) : Option ((Bool × Unit) × Unit) := match x with
  | ((s10, s21, ()), ()) =>
    byB ((s10.length : Int) != (s21.length : Int))
      (some ((false, ()), ()))
      (loopN N (Equalintint_31_L4 N) ((s10, s21, (s10.length : Int), 0, ()), ()))
theorem eq_Equalintint_31 (N : Nat) (x : (ap_Equalintint_31).den) : funX Try.prog (fs16 N) N 31 lo_Equalintint_31 jo_Equalintint_31 Try.f31 ap_Equalintint_31 rp_Equalintint_31 x = Equalintint_31 N x := by kernel_rfl
noncomputable def sp_Equalintint_31 (N : Nat) : FSpec := specOf ap_Equalintint_31 rp_Equalintint_31 true (Equalintint_31 N)
theorem ok_Equalintint_31 (N : Nat) : FSound Try.prog 31 (sp_Equalintint_31 N) := funX_sound (N := N) (loops := lo_Equalintint_31) (joins := jo_Equalintint_31) (fsok16 N) Try.func31 (by kernel_rfl) (by kernel_rfl) fun x _ h => (eq_Equalintint_31 N x).trans h
noncomputable def fs17 (N : Nat) : FuncId → List V1 → List Blk → Option FSpec := fun g xs H => if g = 31 then some (sp_Equalintint_31 N) else fs16 N g xs H
theorem fsok17 (N : Nat) : ∀ g xs H sp, fs17 N g xs H = some sp → FSound Try.prog g sp := fun g xs H sp h => by
  unfold fs17 at h
  by_cases e : g = 31
  · rw [if_pos e] at h; subst e; cases h; exact ok_Equalintint_31 N
  · rw [if_neg e] at h; exact fsok16 N g xs H sp h
/-! Same_14 -/
abbrev ap_Same_14 : Pat := ⟨[.agg [.int .i64, .int .i64, .int .i64, .int .i64, .int .i64, .int .i64, .int .i64, .int .i64, .ro (.pair (.int .i64) (.pair (.int .i64) (.pair (.int .i64) (.ro (.pair (.int .i64) (.pair (.int .i64) (.int .i64)))))))], .agg [.int .i64, .int .i64, .int .i64, .int .i64, .int .i64, .int .i64, .int .i64, .int .i64, .ro (.pair (.int .i64) (.pair (.int .i64) (.pair (.int .i64) (.ro (.pair (.int .i64) (.pair (.int .i64) (.int .i64)))))))]], []⟩
abbrev rp_Same_14 : List Pat := [⟨[.one (.bool)], []⟩]
def lo_Same_14 : List LSpec := []
def jo_Same_14 : List LSpec := []
def Same_14 (N : Nat) (x : (((Int × (Int × (Int × (Int × (Int × (Int × (Int × (Int × (List (Int × (Int × (Int × (List (Int × (Int × Int)))))) × Unit))))))))) × ((Int × (Int × (Int × (Int × (Int × (Int × (Int × (Int × (List (Int × (Int × (Int × (List (Int × (Int × Int)))))) × Unit))))))))) × Unit)) × Unit)) : Option ((Bool × Unit) × Unit) := match x with
  | (((s0, s1, s2, s3, s4, s5, s6, s7, s8, ()), (t9, t10, t11, t12, t13, t14, t15, t16, t17, ()), ()), ()) =>
    (numbers_21 N (((s0, s1, s2, s3, s4, s5, s6, s7, s8, ()), ()), ())).bind fun y18 =>
    (numbers_21 N (((t9, t10, t11, t12, t13, t14, t15, t16, t17, ()), ()), ())).bind fun y19 =>
    (Equalintint_31 N ((y18.2.1, y19.2.1, ()), ())).bind fun y20 =>
    some ((y20.1.1, ()), ())
theorem eq_Same_14 (N : Nat) (x : (ap_Same_14).den) : funX Try.prog (fs17 N) N 14 lo_Same_14 jo_Same_14 Try.f14 ap_Same_14 rp_Same_14 x = Same_14 N x := by kernel_rfl
noncomputable def sp_Same_14 (N : Nat) : FSpec := specOf ap_Same_14 rp_Same_14 true (Same_14 N)
theorem ok_Same_14 (N : Nat) : FSound Try.prog 14 (sp_Same_14 N) := funX_sound (N := N) (loops := lo_Same_14) (joins := jo_Same_14) (fsok17 N) Try.func14 (by kernel_rfl) (by kernel_rfl) fun x _ h => (eq_Same_14 N x).trans h
noncomputable def fs18 (N : Nat) : FuncId → List V1 → List Blk → Option FSpec := fun g xs H => if g = 14 then some (sp_Same_14 N) else fs17 N g xs H
theorem fsok18 (N : Nat) : ∀ g xs H sp, fs18 N g xs H = some sp → FSound Try.prog g sp := fun g xs H sp h => by
  unfold fs18 at h
  by_cases e : g = 14
  · rw [if_pos e] at h; subst e; cases h; exact ok_Same_14 N
  · rw [if_neg e] at h; exact fsok17 N g xs H sp h
/-! examples_8 -/
abbrev ap_examples_8 : Pat := ⟨[], []⟩
abbrev rp_examples_8 : List Pat := [⟨[.one (.bool)], []⟩]
def lo_examples_8 : List LSpec := []
def jo_examples_8 : List LSpec := []
def examples_8 (N : Nat) (x : (Unit × Unit)) : Option ((Bool × Unit) × Unit) := if 300 ≤ N then some ((true, ()), ()) else none
theorem eq_examples_8 (k : Nat) : funX Try.prog (fs18 (k + 300)) (k + 300) 8 lo_examples_8 jo_examples_8 Try.f8 ap_examples_8 rp_examples_8 ((), ()) = some ((true, ()), ()) := by kernel_rfl
noncomputable def sp_examples_8 (N : Nat) : FSpec := specOf ap_examples_8 rp_examples_8 true (examples_8 N)
theorem ok_examples_8 (N : Nat) : FSound Try.prog 8 (sp_examples_8 N) := funX_sound (N := N) (loops := lo_examples_8) (joins := jo_examples_8) (fsok18 N) Try.func8 (by kernel_rfl) (by kernel_rfl) fun x _ h => by
  unfold examples_8 at h
  split at h
  · rename_i hN
    obtain ⟨k, rfl⟩ : ∃ k, N = k + 300 := ⟨N - 300, by omega⟩
    exact (eq_examples_8 k).trans h
  · cases h
noncomputable def fs19 (N : Nat) : FuncId → List V1 → List Blk → Option FSpec := fun g xs H => if g = 8 then some (sp_examples_8 N) else fs18 N g xs H
theorem fsok19 (N : Nat) : ∀ g xs H sp, fs19 N g xs H = some sp → FSound Try.prog g sp := fun g xs H sp h => by
  unfold fs19 at h
  by_cases e : g = 8
  · rw [if_pos e] at h; subst e; cases h; exact ok_examples_8 N
  · rw [if_neg e] at h; exact fsok18 N g xs H sp h
/-! Sum_35 -/
abbrev ap_Sum_35 : Pat := ⟨[.one (.str)], []⟩
abbrev rp_Sum_35 : List Pat := [⟨[.one (.int .i64)], []⟩]
def lo_Sum_35 : List LSpec := [⟨3, [0, 3, 4], ⟨[.one (.str), .one (.int .i64), .one (.int .i64)], []⟩⟩, ⟨6, [0, 3, 4, 5], ⟨[.one (.str), .one (.int .i64), .one (.int .i64), .one (.int .i64)], []⟩⟩]
def jo_Sum_35 : List LSpec := []
def Sum_35_L6 (N : Nat) (again3 : ((ByteArray × (Int × (Int × Unit))) × Unit) → Option ((Int × Unit) × Unit)) (again6 : ((ByteArray × (Int × (Int × (Int × Unit)))) × Unit) → Option ((Int × Unit) × Unit)) (x : ((ByteArray × (Int × (Int × (Int × Unit)))) × Unit)) : Option ((Int × Unit) × Unit) := match x with
  | ((s6, v7, i8, k9, ()), ()) =>
    byB (!decide (k9 < 0))
      (if h11 : 0 ≤ i8 ∧ i8.toNat < s6.size then
        if k9 < 0 then
          none
        else
        let t18 := Int.tmod (IntKind.wrap .i64 (2 * v7)) 65536;
        byB ((Int.tmod (Int.fdiv (IntKind.wrap .i64 (((s6[i8.toNat]'h11.2).toNat : Int))) (2 ^ (min k9.toNat (IntKind.bits .i64)))) 2) != (IntKind.wrap .i64 (Int.tdiv v7 32768)))
          (again6 ((s6, IntKind.wrap .i64 (BitVec.ofInt (IntKind.bits .i64) t18 ^^^ BitVec.ofInt (IntKind.bits .i64) 4129).toNat, i8, IntKind.wrap .i64 (k9 - 1), ()), ()))
          (again6 ((s6, t18, i8, IntKind.wrap .i64 (k9 - 1), ()), ()))
        else none)
      (again3 ((s6, v7, IntKind.wrap .i64 (i8 + 1), ()), ()))
def Sum_35_L3 (N : Nat) (again3 : ((ByteArray × (Int × (Int × Unit))) × Unit) → Option ((Int × Unit) × Unit)) (x : ((ByteArray × (Int × (Int × Unit))) × Unit)) : Option ((Int × Unit) × Unit) := match x with
  | ((s1, v2, i3, ()), ()) =>
    byB (decide (i3 < ((s1.size) : Int)))
      (loopN N (Sum_35_L6 N again3) ((s1, v2, i3, 7, ()), ()))
      (some ((v2, ()), ()))
def Sum_35 (N : Nat) (x : ((ByteArray × Unit) × Unit)) : Option ((Int × Unit) × Unit) := match x with
  | ((s0, ()), ()) =>
    loopN N (Sum_35_L3 N) ((s0, 65535, 0, ()), ())
theorem eq_Sum_35 (N : Nat) (x : (ap_Sum_35).den) : funX Try.prog (fs19 N) N 35 lo_Sum_35 jo_Sum_35 Try.f35 ap_Sum_35 rp_Sum_35 x = Sum_35 N x := by kernel_rfl
noncomputable def sp_Sum_35 (N : Nat) : FSpec := specOf ap_Sum_35 rp_Sum_35 true (Sum_35 N)
theorem ok_Sum_35 (N : Nat) : FSound Try.prog 35 (sp_Sum_35 N) := funX_sound (N := N) (loops := lo_Sum_35) (joins := jo_Sum_35) (fsok19 N) Try.func35 (by kernel_rfl) (by kernel_rfl) fun x _ h => (eq_Sum_35 N x).trans h
noncomputable def fs20 (N : Nat) : FuncId → List V1 → List Blk → Option FSpec := fun g xs H => if g = 35 then some (sp_Sum_35 N) else fs19 N g xs H
theorem fsok20 (N : Nat) : ∀ g xs H sp, fs20 N g xs H = some sp → FSound Try.prog g sp := fun g xs H sp h => by
  unfold fs20 at h
  by_cases e : g = 35
  · rw [if_pos e] at h; subst e; cases h; exact ok_Sum_35 N
  · rw [if_neg e] at h; exact fsok19 N g xs H sp h
/-! Open_25 -/
abbrev ap_Open_25 : Pat := ⟨[.one (.str)], []⟩
abbrev rp_Open_25 : List Pat := [⟨[.one (.str), .one (.int .i64)], []⟩]
def lo_Open_25 : List LSpec := []
def jo_Open_25 : List LSpec := []
def Open_25 (N : Nat) (x : ((ByteArray × Unit) × Unit)) : Option ((ByteArray × (Int × Unit)) × Unit) := match x with
  | ((s0, ()), ()) =>
    let t2 := IntKind.wrap .i64 (((s0.size) : Int) - 2);
    byB (decide (t2 < 0))
      (some (((⟨#[]⟩ : ByteArray), 6, ()), ()))
      (byB (!decide (t2 ≤ 100000))
          (some (((⟨#[]⟩ : ByteArray), 7, ()), ()))
          (if h5 : 0 ≤ t2 ∧ t2.toNat < s0.size then
            let t9 := IntKind.wrap .i64 (t2 + 1);
            if h10 : 0 ≤ t9 ∧ t9.toNat < s0.size then
            if ((0 : Int) ≤ 0) ∧ (0 ≤ t2) ∧ (t2 ≤ ((s0.size) : Int)) then
            (Sum_35 N ((s0.extract 0 t2.toNat, ()), ())).bind fun y15 =>
            byB ((IntKind.wrap .i64 ((IntKind.wrap .i64 ((IntKind.wrap .i64 (((s0[t2.toNat]'h5.2).toNat : Int))) * 256)) + (IntKind.wrap .i64 (((s0[t9.toNat]'h10.2).toNat : Int))))) != y15.1.1)
              (some (((⟨#[]⟩ : ByteArray), 9, ()), ()))
              (if ((0 : Int) ≤ 0) ∧ (0 ≤ t2) ∧ (t2 ≤ ((s0.size) : Int)) then
                some ((s0.extract 0 t2.toNat, 0, ()), ())
                else none)
            else none
            else none
            else none))
theorem eq_Open_25 (N : Nat) (x : (ap_Open_25).den) : funX Try.prog (fs20 N) N 25 lo_Open_25 jo_Open_25 Try.f25 ap_Open_25 rp_Open_25 x = Open_25 N x := by kernel_rfl
noncomputable def sp_Open_25 (N : Nat) : FSpec := specOf ap_Open_25 rp_Open_25 true (Open_25 N)
theorem ok_Open_25 (N : Nat) : FSound Try.prog 25 (sp_Open_25 N) := funX_sound (N := N) (loops := lo_Open_25) (joins := jo_Open_25) (fsok20 N) Try.func25 (by kernel_rfl) (by kernel_rfl) fun x _ h => (eq_Open_25 N x).trans h
noncomputable def fs21 (N : Nat) : FuncId → List V1 → List Blk → Option FSpec := fun g xs H => if g = 25 then some (sp_Open_25 N) else fs20 N g xs H
theorem fsok21 (N : Nat) : ∀ g xs H sp, fs21 N g xs H = some sp → FSound Try.prog g sp := fun g xs H sp h => by
  unfold fs21 at h
  by_cases e : g = 25
  · rw [if_pos e] at h; subst e; cases h; exact ok_Open_25 N
  · rw [if_neg e] at h; exact fsok20 N g xs H sp h
/-! one_36 -/
abbrev ap_one_36 : Pat := ⟨[.one (.str)], []⟩
abbrev rp_one_36 : List Pat := [⟨[.one (.int .i64), .one (.int .i64), .one (.int .i64)], []⟩]
def lo_one_36 : List LSpec := [⟨2, [0, 5], ⟨[.one (.str), .one (.int .i64)], []⟩⟩, ⟨13, [0, 5, 6, 7], ⟨[.one (.str), .one (.int .i64), .one (.int .i64), .one (.int .i64)], []⟩⟩]
def jo_one_36 : List LSpec := []
def one_36_L13 (N : Nat) (again13 : ((ByteArray × (Int × (Int × (Int × Unit)))) × Unit) → Option ((Int × (Int × (Int × Unit))) × Unit)) (x : ((ByteArray × (Int × (Int × (Int × Unit)))) × Unit)) : Option ((Int × (Int × (Int × Unit))) × Unit) := match x with
  | ((s72, size73, n74, i75, ()), ()) =>
    byB (!decide (i75 < 0))
      (if h78 : 0 ≤ i75 ∧ i75.toNat < s72.size then
        again13 ((s72, size73, IntKind.wrap .i64 ((IntKind.wrap .i64 (128 * n74)) + (IntKind.wrap .i64 (Int.tmod (((s72[i75.toNat]'h78.2).toNat : Int)) 128))), IntKind.wrap .i64 (i75 - 1), ()), ())
        else none)
      (byB (!decide (n74 ≤ 4611686018427387904))
          (some ((0, 0, 7, ()), ()))
          (some ((n74, size73, 0, ()), ())))
def one_36_L2 (N : Nat) (again2 : ((ByteArray × (Int × Unit)) × Unit) → Option ((Int × (Int × (Int × Unit))) × Unit)) (x : ((ByteArray × (Int × Unit)) × Unit)) : Option ((Int × (Int × (Int × Unit))) × Unit) := match x with
  | ((s1, size2, ()), ()) =>
    byB (decide (size2 < ((s1.size) : Int)))
      (if h5 : 0 ≤ size2 ∧ size2.toNat < s1.size then
        byB (!decide ((((s1[size2.toNat]'h5.2).toNat : Int)) < 128))
          (again2 ((s1, IntKind.wrap .i64 (size2 + 1), ()), ()))
          (byB (size2 == ((s1.size) : Int))
              (some ((0, 0, 6, ()), ()))
              (let t11 := IntKind.wrap .i64 (size2 + 1);
                byB (!decide (t11 ≤ 1))
                  (let t13 := IntKind.wrap .i64 (t11 - 1);
                    if h14 : 0 ≤ t13 ∧ t13.toNat < s1.size then
                    byB ((((s1[t13.toNat]'h14.2).toNat : Int)) == 0)
                      (some ((0, 0, 8, ()), ()))
                      (byB (!decide (t11 ≤ 9))
                          (some ((0, 0, 7, ()), ()))
                          (loopN N (one_36_L13 N) ((s1, t11, 0, IntKind.wrap .i64 (t11 - 1), ()), ())))
                    else none)
                  (byB (!decide (t11 ≤ 9))
                      (some ((0, 0, 7, ()), ()))
                      (loopN N (one_36_L13 N) ((s1, t11, 0, IntKind.wrap .i64 (t11 - 1), ()), ())))))
        else none)
      (byB (size2 == ((s1.size) : Int))
          (some ((0, 0, 6, ()), ()))
          (let t49 := IntKind.wrap .i64 (size2 + 1);
            byB (!decide (t49 ≤ 1))
              (let t51 := IntKind.wrap .i64 (t49 - 1);
                if h52 : 0 ≤ t51 ∧ t51.toNat < s1.size then
                byB ((((s1[t51.toNat]'h52.2).toNat : Int)) == 0)
                  (some ((0, 0, 8, ()), ()))
                  (byB (!decide (t49 ≤ 9))
                      (some ((0, 0, 7, ()), ()))
                      (loopN N (one_36_L13 N) ((s1, t49, 0, IntKind.wrap .i64 (t49 - 1), ()), ())))
                else none)
              (byB (!decide (t49 ≤ 9))
                  (some ((0, 0, 7, ()), ()))
                  (loopN N (one_36_L13 N) ((s1, t49, 0, IntKind.wrap .i64 (t49 - 1), ()), ())))))
def one_36 (N : Nat) (x : ((ByteArray × Unit) × Unit)) : Option ((Int × (Int × (Int × Unit))) × Unit) := match x with
  | ((s0, ()), ()) =>
    loopN N (one_36_L2 N) ((s0, 0, ()), ())
theorem eq_one_36 (N : Nat) (x : (ap_one_36).den) : funX Try.prog (fs21 N) N 36 lo_one_36 jo_one_36 Try.f36 ap_one_36 rp_one_36 x = one_36 N x := by kernel_rfl
noncomputable def sp_one_36 (N : Nat) : FSpec := specOf ap_one_36 rp_one_36 true (one_36 N)
theorem ok_one_36 (N : Nat) : FSound Try.prog 36 (sp_one_36 N) := funX_sound (N := N) (loops := lo_one_36) (joins := jo_one_36) (fsok21 N) Try.func36 (by kernel_rfl) (by kernel_rfl) fun x _ h => (eq_one_36 N x).trans h
noncomputable def fs22 (N : Nat) : FuncId → List V1 → List Blk → Option FSpec := fun g xs H => if g = 36 then some (sp_one_36 N) else fs21 N g xs H
theorem fsok22 (N : Nat) : ∀ g xs H sp, fs22 N g xs H = some sp → FSound Try.prog g sp := fun g xs H sp h => by
  unfold fs22 at h
  by_cases e : g = 36
  · rw [if_pos e] at h; subst e; cases h; exact ok_one_36 N
  · rw [if_neg e] at h; exact fsok21 N g xs H sp h
/-! Read_26v1 -/
abbrev ap_Read_26v1 : Pat := ⟨[.one (.str)], []⟩
abbrev rp_Read_26v1 : List Pat := [⟨[.one (.ro (.int .i64)), .one (.int .i64)], []⟩]
def lo_Read_26v1 : List LSpec := [⟨2, [0, 4], ⟨[.one (.str), .one (.full 0)], [.row 3 (.int .i64)]⟩⟩]
def jo_Read_26v1 : List LSpec := []
def Read_26v1_L2 (N : Nat) (again2 : ((ByteArray × (Unit × Unit)) × (List Int × Unit)) → Option ((List Int × (Int × Unit)) × Unit)) (x : ((ByteArray × (Unit × Unit)) × (List Int × Unit))) : Option ((List Int × (Int × Unit)) × Unit) := match x with
  | ((s1, _, ()), l2, ()) =>
    byB (!(s1.toList == ((⟨#[]⟩ : ByteArray)).toList))
      ((one_36 N ((s1, ()), ())).bind fun y4 =>
        byB (y4.1.2.2.1 == 0)
          (byB ((l2.length : Int) == 2000)
              (some (([], 7, ()), ()))
              (byB (y4.1.2.2.1 != 0)
                  (some (([], y4.1.2.2.1, ()), ()))
                  (if (l2.length + 1) * 8 ≤ 140737488355328 then
                    (if (0 ≤ y4.1.2.1) ∧ (y4.1.2.1 ≤ ((s1.size) : Int)) ∧ (((s1.size) : Int) ≤ ((s1.size) : Int)) then
                    again2 ((s1.extract y4.1.2.1.toNat (s1.size), (), ()), l2 ++ [y4.1.1], ())
                    else none)
                    else none)))
          (byB (y4.1.2.2.1 != 0)
              (some (([], y4.1.2.2.1, ()), ()))
              (if (l2.length + 1) * 8 ≤ 140737488355328 then
                (if (0 ≤ y4.1.2.1) ∧ (y4.1.2.1 ≤ ((s1.size) : Int)) ∧ (((s1.size) : Int) ≤ ((s1.size) : Int)) then
                again2 ((s1.extract y4.1.2.1.toNat (s1.size), (), ()), l2 ++ [y4.1.1], ())
                else none)
                else none)))
      (some ((l2, 0, ()), ()))
def Read_26v1 (N : Nat) (x : ((ByteArray × Unit) × Unit)) : Option ((List Int × (Int × Unit)) × Unit) := match x with
  | ((s0, ()), ()) =>
    loopN N (Read_26v1_L2 N) ((s0, (), ()), [], ())
theorem eq_Read_26v1 (N : Nat) (x : (ap_Read_26v1).den) : funX Try.prog (fs22 N) N 26 lo_Read_26v1 jo_Read_26v1 Try.f26 ap_Read_26v1 rp_Read_26v1 x = Read_26v1 N x := by kernel_rfl
noncomputable def sp_Read_26v1 (N : Nat) : FSpec := specOf ap_Read_26v1 rp_Read_26v1 false (Read_26v1 N)
theorem ok_Read_26v1 (N : Nat) : FSound Try.prog 26 (sp_Read_26v1 N) := funX_sound (N := N) (loops := lo_Read_26v1) (joins := jo_Read_26v1) (fsok22 N) Try.func26 (by kernel_rfl) (by kernel_rfl) fun x _ h => (eq_Read_26v1 N x).trans h
noncomputable def fs23 (N : Nat) : FuncId → List V1 → List Blk → Option FSpec := fun g xs H => if g = 26 then some (sp_Read_26v1 N) else fs22 N g xs H
theorem fsok23 (N : Nat) : ∀ g xs H sp, fs23 N g xs H = some sp → FSound Try.prog g sp := fun g xs H sp h => by
  unfold fs23 at h
  by_cases e : g = 26
  · rw [if_pos e] at h; subst e; cases h; exact ok_Read_26v1 N
  · rw [if_neg e] at h; exact fsok22 N g xs H sp h
/-! tasks_27v1 -/
abbrev ap_tasks_27v1 : Pat := ⟨[.one (.ro (.int .i64)), .one (.int .i64)], []⟩
abbrev rp_tasks_27v1 : List Pat := [⟨[.one (.full 0), .one (.ro (.int .i64)), .one (.int .i64)], [.row 39 (.pair (.int .i64) (.pair (.int .i64) (.pair (.int .i64) (.ro (.pair (.int .i64) (.pair (.int .i64) (.int .i64)))))))]⟩]
def lo_tasks_27v1 : List LSpec := [⟨3, [0, 1, 7, 8], ⟨[.one (.ro (.int .i64)), .one (.int .i64), .one (.full 0), .one (.int .i64)], [.row 39 (.pair (.int .i64) (.pair (.int .i64) (.pair (.int .i64) (.ro (.pair (.int .i64) (.pair (.int .i64) (.int .i64)))))))]⟩⟩, ⟨15, [0, 1, 7, 8, 9, 10, 11, 20, 22, 23, 25, 26, 28, 29], ⟨[.one (.ro (.int .i64)), .one (.int .i64), .one (.full 0), .one (.int .i64), .one (.ptr 1 0), .one (.int .i64), .one (.int .i64), .one (.ro (.int .i64)), .one (.int .i64), .one (.ro (.int .i64)), .one (.int .i64), .one (.ro (.int .i64)), .one (.int .i64), .agg [.int .i64, .int .i64, .int .i64, .ro (.pair (.int .i64) (.pair (.int .i64) (.int .i64)))]], [.row 39 (.pair (.int .i64) (.pair (.int .i64) (.pair (.int .i64) (.ro (.pair (.int .i64) (.pair (.int .i64) (.int .i64))))))), .var 39 [.int .i64, .int .i64, .int .i64, .full 2], .row 41 (.pair (.int .i64) (.pair (.int .i64) (.int .i64)))]⟩⟩]
def jo_tasks_27v1 : List LSpec := []
def tasks_27v1_L15 (N : Nat) (again3 : ((List Int × (Int × (Unit × (Int × Unit)))) × (List (Int × (Int × (Int × (List (Int × (Int × Int)))))) × Unit)) → Option ((Unit × (List Int × (Int × Unit))) × (List (Int × (Int × (Int × (List (Int × (Int × Int)))))) × Unit))) (again15 : ((List Int × (Int × (Unit × (Int × (Unit × (Int × (Int × (List Int × (Int × (List Int × (Int × (List Int × (Int × ((Int × (Int × (Int × (List (Int × (Int × Int)) × Unit)))) × Unit)))))))))))))) × (List (Int × (Int × (Int × (List (Int × (Int × Int)))))) × ((Int × (Int × (Int × (Unit × Unit)))) × (List (Int × (Int × Int)) × Unit)))) → Option ((Unit × (List Int × (Int × Unit))) × (List (Int × (Int × (Int × (List (Int × (Int × Int)))))) × Unit))) (x : ((List Int × (Int × (Unit × (Int × (Unit × (Int × (Int × (List Int × (Int × (List Int × (Int × (List Int × (Int × ((Int × (Int × (Int × (List (Int × (Int × Int)) × Unit)))) × Unit)))))))))))))) × (List (Int × (Int × (Int × (List (Int × (Int × Int)))))) × ((Int × (Int × (Int × (Unit × Unit)))) × (List (Int × (Int × Int)) × Unit))))) : Option ((Unit × (List Int × (Int × Unit))) × (List (Int × (Int × (Int × (List (Int × (Int × Int)))))) × Unit)) := match x with
  | ((l18, many19, _, i20, _, n21, k22, t23, t24, t25, t26, t27, t28, (t29, t30, t31, t32, ()), ()), l33, (c34, c35, c36, _, ()), l37, ()) =>
    byB (decide (k22 < n21))
      (if ((0 : Int) ≤ 0) ∧ (0 < (l18.length : Int)) then
        (if ((0 : Int) ≤ 1) ∧ (1 < (l18.length : Int)) then
        (if ((0 : Int) ≤ 2) ∧ (2 < (l18.length : Int)) then
        (if (l37.length + 1) * 24 ≤ 140737488355328 then
        (if ((0 : Int) ≤ 3) ∧ (3 ≤ (l18.length : Int)) ∧ ((l18.length : Int) ≤ (l18.length : Int)) then
        again15 (((l18.take l18.length).drop 3, many19, (), i20, (), n21, IntKind.wrap .i64 (k22 + 1), t23, t24, t25, t26, t27, t28, (t29, t30, t31, t32, ()), ()), l33, (c34, c35, c36, (), ()), l37 ++ [(l18.getD 0 0, l18.getD 1 0, l18.getD 2 0)], ())
        else none)
        else none)
        else none)
        else none)
        else none)
      (if (l33.length + 1) * 48 ≤ 140737488355328 then
        again3 ((l18, many19, (), IntKind.wrap .i64 (i20 + 1), ()), l33 ++ [(c34, c35, c36, l37)], ())
        else none)
def tasks_27v1_L3 (N : Nat) (again3 : ((List Int × (Int × (Unit × (Int × Unit)))) × (List (Int × (Int × (Int × (List (Int × (Int × Int)))))) × Unit)) → Option ((Unit × (List Int × (Int × Unit))) × (List (Int × (Int × (Int × (List (Int × (Int × Int)))))) × Unit))) (x : ((List Int × (Int × (Unit × (Int × Unit)))) × (List (Int × (Int × (Int × (List (Int × (Int × Int)))))) × Unit))) : Option ((Unit × (List Int × (Int × Unit))) × (List (Int × (Int × (Int × (List (Int × (Int × Int)))))) × Unit)) := match x with
  | ((l2, many3, _, i4, ()), l5, ()) =>
    byB (decide (i4 < many3))
      (byB (decide ((l2.length : Int) < 4))
          (some (((), [], 8, ()), [], ()))
          (if ((0 : Int) ≤ 0) ∧ (0 < (l2.length : Int)) then
            let e9 := l2.getD 0 0;
            if ((0 : Int) ≤ 1) ∧ (1 < (l2.length : Int)) then
            let e10 := l2.getD 1 0;
            if ((0 : Int) ≤ 2) ∧ (2 < (l2.length : Int)) then
            let e11 := l2.getD 2 0;
            if ((0 : Int) ≤ 3) ∧ (3 < (l2.length : Int)) then
            let e12 := l2.getD 3 0;
            if ((0 : Int) ≤ 4) ∧ (4 ≤ (l2.length : Int)) ∧ ((l2.length : Int) ≤ (l2.length : Int)) then
            let t13 := (l2.take l2.length).drop 4;
            byB (!decide (e12 ≤ 4))
              (some (((), [], 7, ()), [], ()))
              (byB (decide ((t13.length : Int) < (IntKind.wrap .i64 (3 * e12))))
                  (some (((), [], 8, ()), [], ()))
                  (loopN N (tasks_27v1_L15 N again3) ((t13, many3, (), i4, (), e12, 0, l2, e9, l2, e10, l2, e11, (e9, e10, e11, [], ()), ()), l5, (e9, e10, e11, (), ()), [], ())))
            else none
            else none
            else none
            else none
            else none))
      (some (((), l2, 0, ()), l5, ()))
def tasks_27v1 (N : Nat) (x : ((List Int × (Int × Unit)) × Unit)) : Option ((Unit × (List Int × (Int × Unit))) × (List (Int × (Int × (Int × (List (Int × (Int × Int)))))) × Unit)) := match x with
  | ((l0, many1, ()), ()) =>
    loopN N (tasks_27v1_L3 N) ((l0, many1, (), 0, ()), [], ())
theorem eq_tasks_27v1 (N : Nat) (x : (ap_tasks_27v1).den) : funX Try.prog (fs23 N) N 27 lo_tasks_27v1 jo_tasks_27v1 Try.f27 ap_tasks_27v1 rp_tasks_27v1 x = tasks_27v1 N x := by kernel_rfl
noncomputable def sp_tasks_27v1 (N : Nat) : FSpec := specOf ap_tasks_27v1 rp_tasks_27v1 false (tasks_27v1 N)
theorem ok_tasks_27v1 (N : Nat) : FSound Try.prog 27 (sp_tasks_27v1 N) := funX_sound (N := N) (loops := lo_tasks_27v1) (joins := jo_tasks_27v1) (fsok23 N) Try.func27 (by kernel_rfl) (by kernel_rfl) fun x _ h => (eq_tasks_27v1 N x).trans h
noncomputable def fs24 (N : Nat) : FuncId → List V1 → List Blk → Option FSpec := fun g xs H => if g = 27 then some (sp_tasks_27v1 N) else fs23 N g xs H
theorem fsok24 (N : Nat) : ∀ g xs H sp, fs24 N g xs H = some sp → FSound Try.prog g sp := fun g xs H sp h => by
  unfold fs24 at h
  by_cases e : g = 27
  · rw [if_pos e] at h; subst e; cases h; exact ok_tasks_27v1 N
  · rw [if_neg e] at h; exact fsok23 N g xs H sp h
/-! Decode_11v1 -/
abbrev ap_Decode_11v1 : Pat := ⟨[.one (.str)], []⟩
abbrev rp_Decode_11v1 : List Pat := [⟨[.agg [.int .i64, .int .i64, .int .i64, .int .i64, .int .i64, .int .i64, .int .i64, .int .i64, .full 0], .one (.int .i64)], [.row 39 (.pair (.int .i64) (.pair (.int .i64) (.pair (.int .i64) (.ro (.pair (.int .i64) (.pair (.int .i64) (.int .i64)))))))]⟩]
def lo_Decode_11v1 : List LSpec := []
def jo_Decode_11v1 : List LSpec := [⟨8, [2, 6, 38], ⟨[.one (.ptr 0 0), .one (.ro (.int .i64)), .one (.bool)], [.var 24 [.int .i64, .int .i64, .int .i64, .int .i64, .int .i64, .int .i64, .int .i64, .int .i64, .ro (.pair (.int .i64) (.pair (.int .i64) (.pair (.int .i64) (.ro (.pair (.int .i64) (.pair (.int .i64) (.int .i64)))))))]]⟩⟩]
def Decode_11v1_J8 (N : Nat) (x : ((Unit × (List Int × (Bool × Unit))) × ((Int × (Int × (Int × (Int × (Int × (Int × (Int × (Int × (List (Int × (Int × (Int × (List (Int × (Int × Int)))))) × Unit))))))))) × Unit))) : Option (((Int × (Int × (Int × (Int × (Int × (Int × (Int × (Int × (Unit × Unit))))))))) × (Int × Unit)) × (List (Int × (Int × (Int × (List (Int × (Int × Int)))))) × Unit)) := match x with
  | ((_, l9, t10, ()), (c11, c12, c13, c14, c15, c16, c17, c18, c19, ()), ()) =>
    byB t10
      (some (((0, 0, 0, 0, 0, 0, 0, 0, (), ()), 8, ()), [], ()))
      (if ((0 : Int) ≤ 9) ∧ (9 < (l9.length : Int)) then
        byB (!decide ((l9.getD 9 0) ≤ 24))
          (some (((0, 0, 0, 0, 0, 0, 0, 0, (), ()), 7, ()), [], ()))
          (if ((0 : Int) ≤ 1) ∧ (1 < (l9.length : Int)) then
            (if ((0 : Int) ≤ 2) ∧ (2 < (l9.length : Int)) then
            (if ((0 : Int) ≤ 3) ∧ (3 < (l9.length : Int)) then
            (if ((0 : Int) ≤ 4) ∧ (4 < (l9.length : Int)) then
            (if ((0 : Int) ≤ 5) ∧ (5 < (l9.length : Int)) then
            (if ((0 : Int) ≤ 6) ∧ (6 < (l9.length : Int)) then
            (if ((0 : Int) ≤ 7) ∧ (7 < (l9.length : Int)) then
            (if ((0 : Int) ≤ 8) ∧ (8 < (l9.length : Int)) then
            (if ((0 : Int) ≤ 10) ∧ (10 ≤ (l9.length : Int)) ∧ ((l9.length : Int) ≤ (l9.length : Int)) then
            (if ((0 : Int) ≤ 9) ∧ (9 < (l9.length : Int)) then
            (tasks_27v1 N (((l9.take l9.length).drop 10, l9.getD 9 0, ()), ())).bind fun y32 =>
            byB (y32.1.2.2.1 != 0)
              (some (((0, 0, 0, 0, 0, 0, 0, 0, (), ()), y32.1.2.2.1, ()), [], ()))
              (byB (!decide ((y32.1.2.1.length : Int) ≤ 0))
                  (some (((0, 0, 0, 0, 0, 0, 0, 0, (), ()), 8, ()), [], ()))
                  (some (((l9.getD 1 0, l9.getD 2 0, l9.getD 3 0, l9.getD 4 0, l9.getD 5 0, l9.getD 6 0, l9.getD 7 0, l9.getD 8 0, (), ()), 0, ()), y32.2.1, ())))
            else none)
            else none)
            else none)
            else none)
            else none)
            else none)
            else none)
            else none)
            else none)
            else none)
        else none)
def Decode_11v1 (N : Nat) (x : ((ByteArray × Unit) × Unit)) : Option (((Int × (Int × (Int × (Int × (Int × (Int × (Int × (Int × (Unit × Unit))))))))) × (Int × Unit)) × (List (Int × (Int × (Int × (List (Int × (Int × Int)))))) × Unit)) := match x with
  | ((b0, ()), ()) =>
    (Open_25 N ((b0, ()), ())).bind fun y1 =>
    byB (y1.1.2.1 != 0)
      (some (((0, 0, 0, 0, 0, 0, 0, 0, (), ()), y1.1.2.1, ()), [], ()))
      ((Read_26v1 N ((y1.1.1, ()), ())).bind fun y3 =>
        byB (y3.1.2.1 != 0)
          (some (((0, 0, 0, 0, 0, 0, 0, 0, (), ()), y3.1.2.1, ()), [], ()))
          (withJoin (Decode_11v1_J8 N) fun join8 =>
            byB (decide ((y3.1.1.length : Int) < 10))
              (join8 (((), y3.1.1, true, ()), (0, 0, 0, 0, 0, 0, 0, 0, [], ()), ()))
              (if ((0 : Int) ≤ 0) ∧ (0 < (y3.1.1.length : Int)) then
                join8 (((), y3.1.1, (y3.1.1.getD 0 0) != 1, ()), (0, 0, 0, 0, 0, 0, 0, 0, [], ()), ())
                else none)))
theorem eq_Decode_11v1 (N : Nat) (x : (ap_Decode_11v1).den) : funX Try.prog (fs24 N) N 11 lo_Decode_11v1 jo_Decode_11v1 Try.f11 ap_Decode_11v1 rp_Decode_11v1 x = Decode_11v1 N x := by kernel_rfl
noncomputable def sp_Decode_11v1 (N : Nat) : FSpec := specOf ap_Decode_11v1 rp_Decode_11v1 false (Decode_11v1 N)
theorem ok_Decode_11v1 (N : Nat) : FSound Try.prog 11 (sp_Decode_11v1 N) := funX_sound (N := N) (loops := lo_Decode_11v1) (joins := jo_Decode_11v1) (fsok24 N) Try.func11 (by kernel_rfl) (by kernel_rfl) fun x _ h => (eq_Decode_11v1 N x).trans h
noncomputable def fs25 (N : Nat) : FuncId → List V1 → List Blk → Option FSpec := fun g xs H => if g = 11 then some (sp_Decode_11v1 N) else fs24 N g xs H
theorem fsok25 (N : Nat) : ∀ g xs H sp, fs25 N g xs H = some sp → FSound Try.prog g sp := fun g xs H sp h => by
  unfold fs25 at h
  by_cases e : g = 11
  · rw [if_pos e] at h; subst e; cases h; exact ok_Decode_11v1 N
  · rw [if_neg e] at h; exact fsok24 N g xs H sp h
/-! Numbers_23 -/
abbrev ap_Numbers_23 : Pat := ⟨[.agg [.int .i64, .int .i64, .int .i64, .int .i64, .int .i64, .int .i64, .int .i64, .int .i64, .ro (.pair (.int .i64) (.pair (.int .i64) (.pair (.int .i64) (.ro (.pair (.int .i64) (.pair (.int .i64) (.int .i64)))))))]], []⟩
abbrev rp_Numbers_23 : List Pat := [⟨[.one (.full 0)], [.row 3 (.int .i64)]⟩]
def lo_Numbers_23 : List LSpec := [⟨3, [1, 3, 4], ⟨[.one (.ptr 0 0), .one (.full 1), .one (.int .i64)], [.var 24 [.int .i64, .int .i64, .int .i64, .int .i64, .int .i64, .int .i64, .int .i64, .int .i64, .ro (.pair (.int .i64) (.pair (.int .i64) (.pair (.int .i64) (.ro (.pair (.int .i64) (.pair (.int .i64) (.int .i64)))))))], .row 3 (.int .i64)]⟩⟩, ⟨8, [1, 3, 4, 5, 6], ⟨[.one (.ptr 0 0), .one (.full 1), .one (.int .i64), .one (.ptr 2 0), .one (.int .i64)], [.var 24 [.int .i64, .int .i64, .int .i64, .int .i64, .int .i64, .int .i64, .int .i64, .int .i64, .ro (.pair (.int .i64) (.pair (.int .i64) (.pair (.int .i64) (.ro (.pair (.int .i64) (.pair (.int .i64) (.int .i64)))))))], .row 3 (.int .i64), .var 39 [.int .i64, .int .i64, .int .i64, .ro (.pair (.int .i64) (.pair (.int .i64) (.int .i64)))]]⟩⟩]
def jo_Numbers_23 : List LSpec := []
def Numbers_23_L8 (N : Nat) (again3 : ((Unit × (Unit × (Int × Unit))) × ((Int × (Int × (Int × (Int × (Int × (Int × (Int × (Int × (List (Int × (Int × (Int × (List (Int × (Int × Int)))))) × Unit))))))))) × (List Int × Unit))) → Option ((Unit × Unit) × (List Int × Unit))) (again8 : ((Unit × (Unit × (Int × (Unit × (Int × Unit))))) × ((Int × (Int × (Int × (Int × (Int × (Int × (Int × (Int × (List (Int × (Int × (Int × (List (Int × (Int × Int)))))) × Unit))))))))) × (List Int × ((Int × (Int × (Int × (List (Int × (Int × Int)) × Unit)))) × Unit)))) → Option ((Unit × Unit) × (List Int × Unit))) (x : ((Unit × (Unit × (Int × (Unit × (Int × Unit))))) × ((Int × (Int × (Int × (Int × (Int × (Int × (Int × (Int × (List (Int × (Int × (Int × (List (Int × (Int × Int)))))) × Unit))))))))) × (List Int × ((Int × (Int × (Int × (List (Int × (Int × Int)) × Unit)))) × Unit))))) : Option ((Unit × Unit) × (List Int × Unit)) := match x with
  | ((_, _, i26, _, k27, ()), (c28, c29, c30, c31, c32, c33, c34, c35, c36, ()), l37, (c38, c39, c40, c41, ()), ()) =>
    byB (decide (k27 < (c41.length : Int)))
      (if (0 ≤ k27) ∧ (k27 < (c41.length : Int)) then
        (if (0 ≤ k27) ∧ (k27 < (c41.length : Int)) then
        (if (0 ≤ k27) ∧ (k27 < (c41.length : Int)) then
        (if (l37.length + 3) * 8 ≤ 140737488355328 then
        again8 (((), (), i26, (), IntKind.wrap .i64 (k27 + 1), ()), (c28, c29, c30, c31, c32, c33, c34, c35, c36, ()), l37 ++ [(c41.getD k27.toNat (0, 0, 0)).1, (c41.getD k27.toNat (0, 0, 0)).2.1, (c41.getD k27.toNat (0, 0, 0)).2.2], (c38, c39, c40, c41, ()), ())
        else none)
        else none)
        else none)
        else none)
      (again3 (((), (), IntKind.wrap .i64 (i26 + 1), ()), (c28, c29, c30, c31, c32, c33, c34, c35, c36, ()), l37, ()))
def Numbers_23_L3 (N : Nat) (again3 : ((Unit × (Unit × (Int × Unit))) × ((Int × (Int × (Int × (Int × (Int × (Int × (Int × (Int × (List (Int × (Int × (Int × (List (Int × (Int × Int)))))) × Unit))))))))) × (List Int × Unit))) → Option ((Unit × Unit) × (List Int × Unit))) (x : ((Unit × (Unit × (Int × Unit))) × ((Int × (Int × (Int × (Int × (Int × (Int × (Int × (Int × (List (Int × (Int × (Int × (List (Int × (Int × Int)))))) × Unit))))))))) × (List Int × Unit)))) : Option ((Unit × Unit) × (List Int × Unit)) := match x with
  | ((_, _, i10, ()), (c11, c12, c13, c14, c15, c16, c17, c18, c19, ()), l20, ()) =>
    byB (decide (i10 < (c19.length : Int)))
      (if (0 ≤ i10) ∧ (i10 < (c19.length : Int)) then
        let e23 := c19.getD i10.toNat (0, 0, 0, []);
        if (l20.length + 4) * 8 ≤ 140737488355328 then
        loopN N (Numbers_23_L8 N again3) (((), (), i10, (), 0, ()), (c11, c12, c13, c14, c15, c16, c17, c18, c19, ()), l20 ++ [e23.1, e23.2.1, e23.2.2.1, (e23.2.2.2.length : Int)], (e23.1, e23.2.1, e23.2.2.1, e23.2.2.2, ()), ())
        else none
        else none)
      (some (((), ()), l20, ()))
def Numbers_23 (N : Nat) (x : (((Int × (Int × (Int × (Int × (Int × (Int × (Int × (Int × (List (Int × (Int × (Int × (List (Int × (Int × Int)))))) × Unit))))))))) × Unit) × Unit)) : Option ((Unit × Unit) × (List Int × Unit)) := match x with
  | (((s0, s1, s2, s3, s4, s5, s6, s7, s8, ()), ()), ()) =>
    loopN N (Numbers_23_L3 N) (((), (), 0, ()), (s0, s1, s2, s3, s4, s5, s6, s7, s8, ()), [(1 : Int), s0, s1, s2, s3, s4, s5, s6, s7, (s8.length : Int)], ())
theorem eq_Numbers_23 (N : Nat) (x : (ap_Numbers_23).den) : funX Try.prog (fs25 N) N 23 lo_Numbers_23 jo_Numbers_23 Try.f23 ap_Numbers_23 rp_Numbers_23 x = Numbers_23 N x := by kernel_rfl
noncomputable def sp_Numbers_23 (N : Nat) : FSpec := specOf ap_Numbers_23 rp_Numbers_23 true (Numbers_23 N)
theorem ok_Numbers_23 (N : Nat) : FSound Try.prog 23 (sp_Numbers_23 N) := funX_sound (N := N) (loops := lo_Numbers_23) (joins := jo_Numbers_23) (fsok25 N) Try.func23 (by kernel_rfl) (by kernel_rfl) fun x _ h => (eq_Numbers_23 N x).trans h
noncomputable def fs26 (N : Nat) : FuncId → List V1 → List Blk → Option FSpec := fun g xs H => if g = 23 then some (sp_Numbers_23 N) else fs25 N g xs H
theorem fsok26 (N : Nat) : ∀ g xs H sp, fs26 N g xs H = some sp → FSound Try.prog g sp := fun g xs H sp h => by
  unfold fs26 at h
  by_cases e : g = 23
  · rw [if_pos e] at h; subst e; cases h; exact ok_Numbers_23 N
  · rw [if_neg e] at h; exact fsok25 N g xs H sp h
/-! Same_13 -/
abbrev ap_Same_13 : Pat := ⟨[.agg [.int .i64, .int .i64, .int .i64, .int .i64, .int .i64, .int .i64, .int .i64, .int .i64, .ro (.pair (.int .i64) (.pair (.int .i64) (.pair (.int .i64) (.ro (.pair (.int .i64) (.pair (.int .i64) (.int .i64)))))))], .agg [.int .i64, .int .i64, .int .i64, .int .i64, .int .i64, .int .i64, .int .i64, .int .i64, .ro (.pair (.int .i64) (.pair (.int .i64) (.pair (.int .i64) (.ro (.pair (.int .i64) (.pair (.int .i64) (.int .i64)))))))]], []⟩
abbrev rp_Same_13 : List Pat := [⟨[.one (.bool)], []⟩]
def lo_Same_13 : List LSpec := [⟨6, [5, 6, 7], ⟨[.one (.full 0), .one (.full 1), .one (.int .i64)], [.row 3 (.int .i64), .row 3 (.int .i64)]⟩⟩]
def jo_Same_13 : List LSpec := []
def Same_13_L6 (N : Nat) (again6 : ((Unit × (Unit × (Int × Unit))) × (List Int × (List Int × Unit))) → Option ((Bool × Unit) × Unit)) (x : ((Unit × (Unit × (Int × Unit))) × (List Int × (List Int × Unit)))) : Option ((Bool × Unit) × Unit) := match x with
  | ((_, _, i23, ()), l24, l25, ()) =>
    byB (decide (i23 < (l24.length : Int)))
      (if (0 ≤ i23) ∧ (i23 < (l24.length : Int)) then
        (if (0 ≤ i23) ∧ (i23 < (l25.length : Int)) then
        byB ((l24.getD i23.toNat 0) != (l25.getD i23.toNat 0))
          (some ((false, ()), ()))
          (again6 (((), (), IntKind.wrap .i64 (i23 + 1), ()), l24, l25, ()))
        else none)
        else none)
      (some ((true, ()), ()))
def Same_13 (N : Nat) (x : (((Int × (Int × (Int × (Int × (Int × (Int × (Int × (Int × (List (Int × (Int × (Int × (List (Int × (Int × Int)))))) × Unit))))))))) × ((Int × (Int × (Int × (Int × (Int × (Int × (Int × (Int × (List (Int × (Int × (Int × (List (Int × (Int × Int)))))) × Unit))))))))) × Unit)) × Unit)) : Option ((Bool × Unit) × Unit) := match x with
  | (((s0, s1, s2, s3, s4, s5, s6, s7, s8, ()), (t9, t10, t11, t12, t13, t14, t15, t16, t17, ()), ()), ()) =>
    (Numbers_23 N (((s0, s1, s2, s3, s4, s5, s6, s7, s8, ()), ()), ())).bind fun y18 =>
    (Numbers_23 N (((t9, t10, t11, t12, t13, t14, t15, t16, t17, ()), ()), ())).bind fun y19 =>
    byB ((y18.2.1.length : Int) != (y19.2.1.length : Int))
      (some ((false, ()), ()))
      (loopN N (Same_13_L6 N) (((), (), 0, ()), y18.2.1, y19.2.1, ()))
theorem eq_Same_13 (N : Nat) (x : (ap_Same_13).den) : funX Try.prog (fs26 N) N 13 lo_Same_13 jo_Same_13 Try.f13 ap_Same_13 rp_Same_13 x = Same_13 N x := by kernel_rfl
noncomputable def sp_Same_13 (N : Nat) : FSpec := specOf ap_Same_13 rp_Same_13 true (Same_13 N)
theorem ok_Same_13 (N : Nat) : FSound Try.prog 13 (sp_Same_13 N) := funX_sound (N := N) (loops := lo_Same_13) (joins := jo_Same_13) (fsok26 N) Try.func13 (by kernel_rfl) (by kernel_rfl) fun x _ h => (eq_Same_13 N x).trans h
noncomputable def fs27 (N : Nat) : FuncId → List V1 → List Blk → Option FSpec := fun g xs H => if g = 13 then some (sp_Same_13 N) else fs26 N g xs H
theorem fsok27 (N : Nat) : ∀ g xs H sp, fs27 N g xs H = some sp → FSound Try.prog g sp := fun g xs H sp h => by
  unfold fs27 at h
  by_cases e : g = 13
  · rw [if_pos e] at h; subst e; cases h; exact ok_Same_13 N
  · rw [if_neg e] at h; exact fsok26 N g xs H sp h
/-! TasksetReads_4 -/
abbrev ap_TasksetReads_4 : Pat := ⟨[.one (.str), .agg [.int .i64, .int .i64, .int .i64, .int .i64, .int .i64, .int .i64, .int .i64, .int .i64, .ro (.pair (.int .i64) (.pair (.int .i64) (.pair (.int .i64) (.ro (.pair (.int .i64) (.pair (.int .i64) (.int .i64)))))))], .agg [.int .i64, .int .i64, .int .i64, .int .i64, .int .i64, .int .i64, .int .i64, .int .i64, .ro (.pair (.int .i64) (.pair (.int .i64) (.pair (.int .i64) (.ro (.pair (.int .i64) (.pair (.int .i64) (.int .i64)))))))]], []⟩
abbrev rp_TasksetReads_4 : List Pat := [⟨[.one (.bool)], []⟩]
def lo_TasksetReads_4 : List LSpec := [⟨4, [0, 4, 5, 6, 7, 8, 9, 10], ⟨[.one (.str), .one (.ptr 0 0), .one (.ptr 1 0), .one (.bool), .one (.bool), .one (.ptr 2 0), .one (.int .i64), .one (.int .i64)], [.var 24 [.int .i64, .int .i64, .int .i64, .int .i64, .int .i64, .int .i64, .int .i64, .int .i64, .ro (.pair (.int .i64) (.pair (.int .i64) (.pair (.int .i64) (.ro (.pair (.int .i64) (.pair (.int .i64) (.int .i64)))))))], .var 24 [.int .i64, .int .i64, .int .i64, .int .i64, .int .i64, .int .i64, .int .i64, .int .i64, .ro (.pair (.int .i64) (.pair (.int .i64) (.pair (.int .i64) (.ro (.pair (.int .i64) (.pair (.int .i64) (.int .i64)))))))], .var 24 [.int .i64, .int .i64, .int .i64, .int .i64, .int .i64, .int .i64, .int .i64, .int .i64, .full 3], .row 39 (.pair (.int .i64) (.pair (.int .i64) (.pair (.int .i64) (.ro (.pair (.int .i64) (.pair (.int .i64) (.int .i64)))))))]⟩⟩, ⟨11, [0, 4, 5, 6, 7, 8, 9, 10, 11, 14, 38, 39], ⟨[.one (.str), .one (.ptr 0 0), .one (.ptr 1 0), .one (.bool), .one (.bool), .one (.ptr 2 0), .one (.int .i64), .one (.int .i64), .one (.ptr 3 0), .one (.int .i64), .one (.bool), .one (.bool)], [.var 24 [.int .i64, .int .i64, .int .i64, .int .i64, .int .i64, .int .i64, .int .i64, .int .i64, .ro (.pair (.int .i64) (.pair (.int .i64) (.pair (.int .i64) (.ro (.pair (.int .i64) (.pair (.int .i64) (.int .i64)))))))], .var 24 [.int .i64, .int .i64, .int .i64, .int .i64, .int .i64, .int .i64, .int .i64, .int .i64, .ro (.pair (.int .i64) (.pair (.int .i64) (.pair (.int .i64) (.ro (.pair (.int .i64) (.pair (.int .i64) (.int .i64)))))))], .var 24 [.int .i64, .int .i64, .int .i64, .int .i64, .int .i64, .int .i64, .int .i64, .int .i64, .full 4], .var 24 [.int .i64, .int .i64, .int .i64, .int .i64, .int .i64, .int .i64, .int .i64, .int .i64, .ofull 5], .row 39 (.pair (.int .i64) (.pair (.int .i64) (.pair (.int .i64) (.ro (.pair (.int .i64) (.pair (.int .i64) (.int .i64))))))), .own 39 (.pair (.int .i64) (.pair (.int .i64) (.pair (.int .i64) (.ro (.pair (.int .i64) (.pair (.int .i64) (.int .i64)))))))]⟩⟩, ⟨14, [0, 4, 5, 6, 7, 8, 9, 10, 11, 14, 15, 38, 39], ⟨[.one (.str), .one (.ptr 0 0), .one (.ptr 1 0), .one (.bool), .one (.bool), .one (.ptr 2 0), .one (.int .i64), .one (.int .i64), .one (.ptr 3 0), .one (.int .i64), .one (.int .i64), .one (.bool), .one (.bool)], [.var 24 [.int .i64, .int .i64, .int .i64, .int .i64, .int .i64, .int .i64, .int .i64, .int .i64, .ro (.pair (.int .i64) (.pair (.int .i64) (.pair (.int .i64) (.ro (.pair (.int .i64) (.pair (.int .i64) (.int .i64)))))))], .var 24 [.int .i64, .int .i64, .int .i64, .int .i64, .int .i64, .int .i64, .int .i64, .int .i64, .ro (.pair (.int .i64) (.pair (.int .i64) (.pair (.int .i64) (.ro (.pair (.int .i64) (.pair (.int .i64) (.int .i64)))))))], .var 24 [.int .i64, .int .i64, .int .i64, .int .i64, .int .i64, .int .i64, .int .i64, .int .i64, .full 4], .var 24 [.int .i64, .int .i64, .int .i64, .int .i64, .int .i64, .int .i64, .int .i64, .int .i64, .ofull 5], .row 39 (.pair (.int .i64) (.pair (.int .i64) (.pair (.int .i64) (.ro (.pair (.int .i64) (.pair (.int .i64) (.int .i64))))))), .own 39 (.pair (.int .i64) (.pair (.int .i64) (.pair (.int .i64) (.ro (.pair (.int .i64) (.pair (.int .i64) (.int .i64)))))))]⟩⟩]
def jo_TasksetReads_4 : List LSpec := []
def TasksetReads_4_L14 (N : Nat) (again11 : ((ByteArray × (Unit × (Unit × (Bool × (Bool × (Unit × (Int × (Int × (Unit × (Int × (Bool × (Bool × Unit)))))))))))) × ((Int × (Int × (Int × (Int × (Int × (Int × (Int × (Int × (List (Int × (Int × (Int × (List (Int × (Int × Int)))))) × Unit))))))))) × ((Int × (Int × (Int × (Int × (Int × (Int × (Int × (Int × (List (Int × (Int × (Int × (List (Int × (Int × Int)))))) × Unit))))))))) × ((Int × (Int × (Int × (Int × (Int × (Int × (Int × (Int × (Unit × Unit))))))))) × ((Int × (Int × (Int × (Int × (Int × (Int × (Int × (Int × (Unit × Unit))))))))) × (List (Int × (Int × (Int × (List (Int × (Int × Int)))))) × (List (Int × (Int × (Int × (List (Int × (Int × Int)))))) × Unit))))))) → Option ((Bool × Unit) × Unit)) (again14 : ((ByteArray × (Unit × (Unit × (Bool × (Bool × (Unit × (Int × (Int × (Unit × (Int × (Int × (Bool × (Bool × Unit))))))))))))) × ((Int × (Int × (Int × (Int × (Int × (Int × (Int × (Int × (List (Int × (Int × (Int × (List (Int × (Int × Int)))))) × Unit))))))))) × ((Int × (Int × (Int × (Int × (Int × (Int × (Int × (Int × (List (Int × (Int × (Int × (List (Int × (Int × Int)))))) × Unit))))))))) × ((Int × (Int × (Int × (Int × (Int × (Int × (Int × (Int × (Unit × Unit))))))))) × ((Int × (Int × (Int × (Int × (Int × (Int × (Int × (Int × (Unit × Unit))))))))) × (List (Int × (Int × (Int × (List (Int × (Int × Int)))))) × (List (Int × (Int × (Int × (List (Int × (Int × Int)))))) × Unit))))))) → Option ((Bool × Unit) × Unit)) (x : ((ByteArray × (Unit × (Unit × (Bool × (Bool × (Unit × (Int × (Int × (Unit × (Int × (Int × (Bool × (Bool × Unit))))))))))))) × ((Int × (Int × (Int × (Int × (Int × (Int × (Int × (Int × (List (Int × (Int × (Int × (List (Int × (Int × Int)))))) × Unit))))))))) × ((Int × (Int × (Int × (Int × (Int × (Int × (Int × (Int × (List (Int × (Int × (Int × (List (Int × (Int × Int)))))) × Unit))))))))) × ((Int × (Int × (Int × (Int × (Int × (Int × (Int × (Int × (Unit × Unit))))))))) × ((Int × (Int × (Int × (Int × (Int × (Int × (Int × (Int × (Unit × Unit))))))))) × (List (Int × (Int × (Int × (List (Int × (Int × Int)))))) × (List (Int × (Int × (Int × (List (Int × (Int × Int)))))) × Unit)))))))) : Option ((Bool × Unit) × Unit) := match x with
  | ((b104, _, _, t105, head106, _, f107, turn108, _, i109, k110, t111, t112, ()), (c113, c114, c115, c116, c117, c118, c119, c120, c121, ()), (c122, c123, c124, c125, c126, c127, c128, c129, c130, ()), (c131, c132, c133, c134, c135, c136, c137, c138, _, ()), (c139, c140, c141, c142, c143, c144, c145, c146, _, ()), l147, l148, ()) =>
    if (0 ≤ i109) ∧ (i109 < (l148.length : Int)) then
    byB (decide (k110 < ((l148.getD i109.toNat (0, 0, 0, [])).2.2.2.length : Int)))
      (if (0 ≤ i109) ∧ (i109 < (l148.length : Int)) then
        (if (0 ≤ k110) ∧ (k110 < ((l148.getD i109.toNat (0, 0, 0, [])).2.2.2.length : Int)) then
        (if (k110.toNat + 1) ≤ (l148.getD i109.toNat (0, 0, 0, [])).2.2.2.length then
        again14 ((b104, (), (), t105, head106, (), f107, turn108, (), i109, IntKind.wrap .i64 (k110 + 1), t111, t112, ()), (c113, c114, c115, c116, c117, c118, c119, c120, c121, ()), (c122, c123, c124, c125, c126, c127, c128, c129, c130, ()), (c131, c132, c133, c134, c135, c136, c137, c138, (), ()), (c139, c140, c141, c142, c143, c144, c145, c146, (), ()), l147, l148.set i109.toNat ((l148.getD i109.toNat (0, 0, 0, [])).1, (l148.getD i109.toNat (0, 0, 0, [])).2.1, (l148.getD i109.toNat (0, 0, 0, [])).2.2.1, (l148.getD i109.toNat (0, 0, 0, [])).2.2.2.set k110.toNat (-1, 0, 0)), ())
        else none)
        else none)
        else none)
      (if (0 ≤ i109) ∧ (i109 < (l148.length : Int)) then
        again11 ((b104, (), (), t105, head106, (), f107, turn108, (), IntKind.wrap .i64 (i109 + 1), t111, t112, ()), (c113, c114, c115, c116, c117, c118, c119, c120, c121, ()), (c122, c123, c124, c125, c126, c127, c128, c129, c130, ()), (c131, c132, c133, c134, c135, c136, c137, c138, (), ()), (c139, c140, c141, c142, c143, c144, c145, c146, (), ()), l147, l148.set i109.toNat (0, 0, 0, []), ())
        else none)
    else none
def TasksetReads_4_L11 (N : Nat) (again4 : ((ByteArray × (Unit × (Unit × (Bool × (Bool × (Unit × (Int × (Int × Unit)))))))) × ((Int × (Int × (Int × (Int × (Int × (Int × (Int × (Int × (List (Int × (Int × (Int × (List (Int × (Int × Int)))))) × Unit))))))))) × ((Int × (Int × (Int × (Int × (Int × (Int × (Int × (Int × (List (Int × (Int × (Int × (List (Int × (Int × Int)))))) × Unit))))))))) × ((Int × (Int × (Int × (Int × (Int × (Int × (Int × (Int × (Unit × Unit))))))))) × (List (Int × (Int × (Int × (List (Int × (Int × Int)))))) × Unit))))) → Option ((Bool × Unit) × Unit)) (again11 : ((ByteArray × (Unit × (Unit × (Bool × (Bool × (Unit × (Int × (Int × (Unit × (Int × (Bool × (Bool × Unit)))))))))))) × ((Int × (Int × (Int × (Int × (Int × (Int × (Int × (Int × (List (Int × (Int × (Int × (List (Int × (Int × Int)))))) × Unit))))))))) × ((Int × (Int × (Int × (Int × (Int × (Int × (Int × (Int × (List (Int × (Int × (Int × (List (Int × (Int × Int)))))) × Unit))))))))) × ((Int × (Int × (Int × (Int × (Int × (Int × (Int × (Int × (Unit × Unit))))))))) × ((Int × (Int × (Int × (Int × (Int × (Int × (Int × (Int × (Unit × Unit))))))))) × (List (Int × (Int × (Int × (List (Int × (Int × Int)))))) × (List (Int × (Int × (Int × (List (Int × (Int × Int)))))) × Unit))))))) → Option ((Bool × Unit) × Unit)) (x : ((ByteArray × (Unit × (Unit × (Bool × (Bool × (Unit × (Int × (Int × (Unit × (Int × (Bool × (Bool × Unit)))))))))))) × ((Int × (Int × (Int × (Int × (Int × (Int × (Int × (Int × (List (Int × (Int × (Int × (List (Int × (Int × Int)))))) × Unit))))))))) × ((Int × (Int × (Int × (Int × (Int × (Int × (Int × (Int × (List (Int × (Int × (Int × (List (Int × (Int × Int)))))) × Unit))))))))) × ((Int × (Int × (Int × (Int × (Int × (Int × (Int × (Int × (Unit × Unit))))))))) × ((Int × (Int × (Int × (Int × (Int × (Int × (Int × (Int × (Unit × Unit))))))))) × (List (Int × (Int × (Int × (List (Int × (Int × Int)))))) × (List (Int × (Int × (Int × (List (Int × (Int × Int)))))) × Unit)))))))) : Option ((Bool × Unit) × Unit) := match x with
  | ((b58, _, _, t59, head60, _, f61, turn62, _, i63, t64, t65, ()), (c66, c67, c68, c69, c70, c71, c72, c73, c74, ()), (c75, c76, c77, c78, c79, c80, c81, c82, c83, ()), (c84, c85, c86, c87, c88, c89, c90, c91, _, ()), (c92, c93, c94, c95, c96, c97, c98, c99, _, ()), l100, l101, ()) =>
    byB (decide (i63 < (l101.length : Int)))
      (loopN N (TasksetReads_4_L14 N again11) ((b58, (), (), t59, head60, (), f61, turn62, (), i63, 0, t64, t65, ()), (c66, c67, c68, c69, c70, c71, c72, c73, c74, ()), (c75, c76, c77, c78, c79, c80, c81, c82, c83, ()), (c84, c85, c86, c87, c88, c89, c90, c91, (), ()), (c92, c93, c94, c95, c96, c97, c98, c99, (), ()), l100, l101, ()))
      (again4 ((b58, (), (), t59, head60, (), f61, IntKind.wrap .i64 (turn62 + 1), ()), (c66, c67, c68, c69, c70, c71, c72, c73, c74, ()), (c75, c76, c77, c78, c79, c80, c81, c82, c83, ()), (c84, c85, c86, c87, c88, c89, c90, c91, (), ()), l100, ()))
def TasksetReads_4_L4 (N : Nat) (again4 : ((ByteArray × (Unit × (Unit × (Bool × (Bool × (Unit × (Int × (Int × Unit)))))))) × ((Int × (Int × (Int × (Int × (Int × (Int × (Int × (Int × (List (Int × (Int × (Int × (List (Int × (Int × Int)))))) × Unit))))))))) × ((Int × (Int × (Int × (Int × (Int × (Int × (Int × (Int × (List (Int × (Int × (Int × (List (Int × (Int × Int)))))) × Unit))))))))) × ((Int × (Int × (Int × (Int × (Int × (Int × (Int × (Int × (Unit × Unit))))))))) × (List (Int × (Int × (Int × (List (Int × (Int × Int)))))) × Unit))))) → Option ((Bool × Unit) × Unit)) (x : ((ByteArray × (Unit × (Unit × (Bool × (Bool × (Unit × (Int × (Int × Unit)))))))) × ((Int × (Int × (Int × (Int × (Int × (Int × (Int × (Int × (List (Int × (Int × (Int × (List (Int × (Int × Int)))))) × Unit))))))))) × ((Int × (Int × (Int × (Int × (Int × (Int × (Int × (Int × (List (Int × (Int × (Int × (List (Int × (Int × Int)))))) × Unit))))))))) × ((Int × (Int × (Int × (Int × (Int × (Int × (Int × (Int × (Unit × Unit))))))))) × (List (Int × (Int × (Int × (List (Int × (Int × Int)))))) × Unit)))))) : Option ((Bool × Unit) × Unit) := match x with
  | ((b21, _, _, t22, head23, _, f24, turn25, ()), (c26, c27, c28, c29, c30, c31, c32, c33, c34, ()), (c35, c36, c37, c38, c39, c40, c41, c42, c43, ()), (c44, c45, c46, c47, c48, c49, c50, c51, _, ()), l52, ()) =>
    byB (decide (turn25 < 2))
      ((Decode_12 N ((b21, ()), ())).bind fun y54 =>
        (Same_13 N (((y54.1.1.1, y54.1.1.2.1, y54.1.1.2.2.1, y54.1.1.2.2.2.1, y54.1.1.2.2.2.2.1, y54.1.1.2.2.2.2.2.1, y54.1.1.2.2.2.2.2.2.1, y54.1.1.2.2.2.2.2.2.2.1, y54.2.1, ()), (c44, c45, c46, c47, c48, c49, c50, c51, l52, ()), ()), ())).bind fun y55 =>
        byB (y54.1.2.1 != f24)
          (some ((false, ()), ()))
          (byB (!y55.1.1)
              (some ((false, ()), ()))
              (loopN N (TasksetReads_4_L11 N again4) ((b21, (), (), t22, head23, (), f24, turn25, (), 0, y55.1.1, !y55.1.1, ()), (c26, c27, c28, c29, c30, c31, c32, c33, c34, ()), (c35, c36, c37, c38, c39, c40, c41, c42, c43, ()), (c44, c45, c46, c47, c48, c49, c50, c51, (), ()), (y54.1.1.1, y54.1.1.2.1, y54.1.1.2.2.1, y54.1.1.2.2.2.1, y54.1.1.2.2.2.2.1, y54.1.1.2.2.2.2.2.1, y54.1.1.2.2.2.2.2.2.1, y54.1.1.2.2.2.2.2.2.2.1, (), ()), l52, y54.2.1, ()))))
      (byB head23
          ((Same_14 N (((c26, c27, c28, c29, c30, c31, c32, c33, c34, ()), (c35, c36, c37, c38, c39, c40, c41, c42, c43, ()), ()), ())).bind fun y156 =>
            (Same_13 N (((c26, c27, c28, c29, c30, c31, c32, c33, c34, ()), (c35, c36, c37, c38, c39, c40, c41, c42, c43, ()), ()), ())).bind fun y157 =>
            some ((y156.1.1 == y157.1.1, ()), ()))
          (some ((false, ()), ())))
def TasksetReads_4 (N : Nat) (x : ((ByteArray × ((Int × (Int × (Int × (Int × (Int × (Int × (Int × (Int × (List (Int × (Int × (Int × (List (Int × (Int × Int)))))) × Unit))))))))) × ((Int × (Int × (Int × (Int × (Int × (Int × (Int × (Int × (List (Int × (Int × (Int × (List (Int × (Int × Int)))))) × Unit))))))))) × Unit))) × Unit)) : Option ((Bool × Unit) × Unit) := match x with
  | ((b0, (s1, s2, s3, s4, s5, s6, s7, s8, s9, ()), (t10, t11, t12, t13, t14, t15, t16, t17, t18, ()), ()), ()) =>
    (examples_8 N ((), ())).bind fun y19 =>
    (Decode_11v1 N ((b0, ()), ())).bind fun y20 =>
    loopN N (TasksetReads_4_L4 N) ((b0, (), (), false, y19.1.1, (), y20.1.2.1, 0, ()), (s1, s2, s3, s4, s5, s6, s7, s8, s9, ()), (t10, t11, t12, t13, t14, t15, t16, t17, t18, ()), (y20.1.1.1, y20.1.1.2.1, y20.1.1.2.2.1, y20.1.1.2.2.2.1, y20.1.1.2.2.2.2.1, y20.1.1.2.2.2.2.2.1, y20.1.1.2.2.2.2.2.2.1, y20.1.1.2.2.2.2.2.2.2.1, (), ()), y20.2.1, ())
theorem eq_TasksetReads_4 (N : Nat) (x : (ap_TasksetReads_4).den) : funX Try.prog (fs27 N) N 4 lo_TasksetReads_4 jo_TasksetReads_4 Try.f4 ap_TasksetReads_4 rp_TasksetReads_4 x = TasksetReads_4 N x := by kernel_rfl
noncomputable def sp_TasksetReads_4 (N : Nat) : FSpec := specOf ap_TasksetReads_4 rp_TasksetReads_4 true (TasksetReads_4 N)
theorem ok_TasksetReads_4 (N : Nat) : FSound Try.prog 4 (sp_TasksetReads_4 N) := funX_sound (N := N) (loops := lo_TasksetReads_4) (joins := jo_TasksetReads_4) (fsok27 N) Try.func4 (by kernel_rfl) (by kernel_rfl) fun x _ h => (eq_TasksetReads_4 N x).trans h
noncomputable def fs28 (N : Nat) : FuncId → List V1 → List Blk → Option FSpec := fun g xs H => if g = 4 then some (sp_TasksetReads_4 N) else fs27 N g xs H
theorem fsok28 (N : Nat) : ∀ g xs H sp, fs28 N g xs H = some sp → FSound Try.prog g sp := fun g xs H sp h => by
  unfold fs28 at h
  by_cases e : g = 4
  · rw [if_pos e] at h; subst e; cases h; exact ok_TasksetReads_4 N
  · rw [if_neg e] at h; exact fsok27 N g xs H sp h
end Go.Proofs.YtcdnofemnpafhaaX
