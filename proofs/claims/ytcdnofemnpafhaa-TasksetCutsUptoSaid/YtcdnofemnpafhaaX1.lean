/- Functions of the program as plain Lean, each with its equation (printed by a program of this seat's own). Conditions: none. -/
import Derived.Test.YtcdnofemnpafhaaM6
import Derived.Test.YtcdnofemnpafhaaProg
import Derived.KernelRfl
namespace Go.Proofs.YtcdnofemnpafhaaX
open Go Go.Proofs.YtcdnofemnpafhaaM
set_option maxRecDepth 100000
set_option linter.unusedVariables false
noncomputable def fs0 (_ : Nat) : FuncId → List V1 → List Blk → Option FSpec := fun _ _ _ => none
theorem fsok0 (N : Nat) : ∀ g xs H sp, fs0 N g xs H = some sp → FSound Try.prog g sp := fun _ _ _ _ h => by cases h
/-! Encode1_19 -/
abbrev ap_Encode1_19 : Pat := ⟨[.agg [.int .i64, .int .i64, .int .i64, .ro (.pair (.int .i64) (.pair (.int .i64) (.int .i64)))]], []⟩
abbrev rp_Encode1_19 : List Pat := [⟨[.one (.bool)], []⟩]
def lo_Encode1_19 : List LSpec := []
def jo_Encode1_19 : List LSpec := []
def Encode1_19 (N : Nat) (x : (((Int × (Int × (Int × (List (Int × (Int × Int)) × Unit)))) × Unit) × Unit)) : Option ((Bool × Unit) × Unit) := match x with
  | (((t0, t1, t2, t3, ()), ()), ()) =>
    some ((!decide ((t3.length : Int) ≤ 4), ()), ())
theorem eq_Encode1_19 (N : Nat) (x : (ap_Encode1_19).den) : funX Try.prog (fs0 N) N 19 lo_Encode1_19 jo_Encode1_19 Try.f19 ap_Encode1_19 rp_Encode1_19 x = Encode1_19 N x := by kernel_rfl
noncomputable def sp_Encode1_19 (N : Nat) : FSpec := specOf ap_Encode1_19 rp_Encode1_19 true (Encode1_19 N)
theorem ok_Encode1_19 (N : Nat) : FSound Try.prog 19 (sp_Encode1_19 N) := funX_sound (N := N) (loops := lo_Encode1_19) (joins := jo_Encode1_19) (fsok0 N) Try.func19 (by kernel_rfl) (by kernel_rfl) fun x _ h => (eq_Encode1_19 N x).trans h
noncomputable def fs1 (N : Nat) : FuncId → List V1 → List Blk → Option FSpec := fun g xs H => if g = 19 then some (sp_Encode1_19 N) else fs0 N g xs H
theorem fsok1 (N : Nat) : ∀ g xs H sp, fs1 N g xs H = some sp → FSound Try.prog g sp := fun g xs H sp h => by
  unfold fs1 at h
  by_cases e : g = 19
  · rw [if_pos e] at h; subst e; cases h; exact ok_Encode1_19 N
  · rw [if_neg e] at h; exact fsok0 N g xs H sp h
/-! Task_34 -/
abbrev ap_Task_34 : Pat := ⟨[.one (.ro (.pair (.int .i64) (.pair (.int .i64) (.pair (.int .i64) (.ro (.pair (.int .i64) (.pair (.int .i64) (.int .i64)))))))), .one (.sfn 19)], []⟩
abbrev rp_Task_34 : List Pat := [⟨[.one (.int .i64)], []⟩]
def lo_Task_34 : List LSpec := [⟨2, [0, 1, 7, 8], ⟨[.one (.ro (.pair (.int .i64) (.pair (.int .i64) (.pair (.int .i64) (.ro (.pair (.int .i64) (.pair (.int .i64) (.int .i64)))))))), .one (.sfn 19), .one (.int .i64), .one (.int .i64)], []⟩⟩]
def jo_Task_34 : List LSpec := []
def Task_34_L2 (N : Nat) (again2 : ((List (Int × (Int × (Int × (List (Int × (Int × Int)))))) × (Unit × (Int × (Int × Unit)))) × Unit) → Option ((Int × Unit) × Unit)) (x : ((List (Int × (Int × (Int × (List (Int × (Int × Int)))))) × (Unit × (Int × (Int × Unit)))) × Unit)) : Option ((Int × Unit) × Unit) := match x with
  | ((s2, _, t3, t4, ()), ()) =>
    byB (decide (t4 < t3))
      (if (0 ≤ t4) ∧ (t4 < (s2.length : Int)) then
        let e6 := s2.getD t4.toNat (0, 0, 0, []);
        (Encode1_19 N (((e6.1, e6.2.1, e6.2.2.1, e6.2.2.2, ()), ()), ())).bind fun y7 =>
        byB y7.1.1
          (some ((t4, ()), ()))
          (again2 ((s2, (), t3, IntKind.wrap .i64 (t4 + 1), ()), ()))
        else none)
      (some ((-1, ()), ()))
def Task_34 (N : Nat) (x : ((List (Int × (Int × (Int × (List (Int × (Int × Int)))))) × (Unit × Unit)) × Unit)) : Option ((Int × Unit) × Unit) := match x with
  | ((s0, _, ()), ()) =>
    loopN N (Task_34_L2 N) ((s0, (), (s0.length : Int), 0, ()), ())
theorem eq_Task_34 (N : Nat) (x : (ap_Task_34).den) : funX Try.prog (fs1 N) N 34 lo_Task_34 jo_Task_34 Try.f34 ap_Task_34 rp_Task_34 x = Task_34 N x := by kernel_rfl
noncomputable def sp_Task_34 (N : Nat) : FSpec := specOf ap_Task_34 rp_Task_34 true (Task_34 N)
theorem ok_Task_34 (N : Nat) : FSound Try.prog 34 (sp_Task_34 N) := funX_sound (N := N) (loops := lo_Task_34) (joins := jo_Task_34) (fsok1 N) Try.func34 (by kernel_rfl) (by kernel_rfl) fun x _ h => (eq_Task_34 N x).trans h
noncomputable def fs2 (N : Nat) : FuncId → List V1 → List Blk → Option FSpec := fun g xs H => if g = 34 then some (sp_Task_34 N) else fs1 N g xs H
theorem fsok2 (N : Nat) : ∀ g xs H sp, fs2 N g xs H = some sp → FSound Try.prog g sp := fun g xs H sp h => by
  unfold fs2 at h
  by_cases e : g = 34
  · rw [if_pos e] at h; subst e; cases h; exact ok_Task_34 N
  · rw [if_neg e] at h; exact fsok1 N g xs H sp h
/-! Task_20 -/
abbrev ap_Task_20 : Pat := ⟨[.one (.ro (.pair (.int .i64) (.pair (.int .i64) (.pair (.int .i64) (.ro (.pair (.int .i64) (.pair (.int .i64) (.int .i64)))))))), .one (.sfn 19)], []⟩
abbrev rp_Task_20 : List Pat := [⟨[.one (.bool)], []⟩]
def lo_Task_20 : List LSpec := []
def jo_Task_20 : List LSpec := []
def Task_20 (N : Nat) (x : ((List (Int × (Int × (Int × (List (Int × (Int × Int)))))) × (Unit × Unit)) × Unit)) : Option ((Bool × Unit) × Unit) := match x with
  | ((s0, _, ()), ()) =>
    (Task_34 N ((s0, (), ()), ())).bind fun y1 =>
    some ((!decide (y1.1.1 < 0), ()), ())
theorem eq_Task_20 (N : Nat) (x : (ap_Task_20).den) : funX Try.prog (fs2 N) N 20 lo_Task_20 jo_Task_20 Try.f20 ap_Task_20 rp_Task_20 x = Task_20 N x := by kernel_rfl
noncomputable def sp_Task_20 (N : Nat) : FSpec := specOf ap_Task_20 rp_Task_20 true (Task_20 N)
theorem ok_Task_20 (N : Nat) : FSound Try.prog 20 (sp_Task_20 N) := funX_sound (N := N) (loops := lo_Task_20) (joins := jo_Task_20) (fsok2 N) Try.func20 (by kernel_rfl) (by kernel_rfl) fun x _ h => (eq_Task_20 N x).trans h
noncomputable def fs3 (N : Nat) : FuncId → List V1 → List Blk → Option FSpec := fun g xs H => if g = 20 then some (sp_Task_20 N) else fs2 N g xs H
theorem fsok3 (N : Nat) : ∀ g xs H sp, fs3 N g xs H = some sp → FSound Try.prog g sp := fun g xs H sp h => by
  unfold fs3 at h
  by_cases e : g = 20
  · rw [if_pos e] at h; subst e; cases h; exact ok_Task_20 N
  · rw [if_neg e] at h; exact fsok2 N g xs H sp h
/-! numbers_21 -/
abbrev ap_numbers_21 : Pat := ⟨[.agg [.int .i64, .int .i64, .int .i64, .int .i64, .int .i64, .int .i64, .int .i64, .int .i64, .ro (.pair (.int .i64) (.pair (.int .i64) (.pair (.int .i64) (.ro (.pair (.int .i64) (.pair (.int .i64) (.int .i64)))))))]], []⟩
abbrev rp_numbers_21 : List Pat := [⟨[.one (.full 0)], [.row 3 (.int .i64)]⟩]
def lo_numbers_21 : List LSpec := [⟨3, [3, 29, 30, 31], ⟨[.one (.full 0), .one (.ro (.pair (.int .i64) (.pair (.int .i64) (.pair (.int .i64) (.ro (.pair (.int .i64) (.pair (.int .i64) (.int .i64)))))))), .one (.int .i64), .one (.int .i64)], [.row 3 (.int .i64)]⟩⟩, ⟨7, [3, 29, 30, 31, 48, 49, 50], ⟨[.one (.full 0), .one (.ro (.pair (.int .i64) (.pair (.int .i64) (.pair (.int .i64) (.ro (.pair (.int .i64) (.pair (.int .i64) (.int .i64)))))))), .one (.int .i64), .one (.int .i64), .one (.ro (.pair (.int .i64) (.pair (.int .i64) (.int .i64)))), .one (.int .i64), .one (.int .i64)], [.row 3 (.int .i64)]⟩⟩]
def jo_numbers_21 : List LSpec := []
def numbers_21_L7 (N : Nat) (again3 : ((Unit × (List (Int × (Int × (Int × (List (Int × (Int × Int)))))) × (Int × (Int × Unit)))) × (List Int × Unit)) → Option ((Unit × Unit) × (List Int × Unit))) (again7 : ((Unit × (List (Int × (Int × (Int × (List (Int × (Int × Int)))))) × (Int × (Int × (List (Int × (Int × Int)) × (Int × (Int × Unit))))))) × (List Int × Unit)) → Option ((Unit × Unit) × (List Int × Unit))) (x : ((Unit × (List (Int × (Int × (Int × (List (Int × (Int × Int)))))) × (Int × (Int × (List (Int × (Int × Int)) × (Int × (Int × Unit))))))) × (List Int × Unit))) : Option ((Unit × Unit) × (List Int × Unit)) := match x with
  | ((_, t20, t21, t22, t23, t24, t25, ()), l26, ()) =>
    byB (decide (t25 < t24))
      (if (0 ≤ t25) ∧ (t25 < (t23.length : Int)) then
        let e28 := t23.getD t25.toNat (0, 0, 0);
        if (l26.length + 3) * 8 ≤ 140737488355328 then
        again7 (((), t20, t21, t22, t23, t24, IntKind.wrap .i64 (t25 + 1), ()), l26 ++ [e28.1, e28.2.1, e28.2.2], ())
        else none
        else none)
      (again3 (((), t20, t21, IntKind.wrap .i64 (t22 + 1), ()), l26, ()))
def numbers_21_L3 (N : Nat) (again3 : ((Unit × (List (Int × (Int × (Int × (List (Int × (Int × Int)))))) × (Int × (Int × Unit)))) × (List Int × Unit)) → Option ((Unit × Unit) × (List Int × Unit))) (x : ((Unit × (List (Int × (Int × (Int × (List (Int × (Int × Int)))))) × (Int × (Int × Unit)))) × (List Int × Unit))) : Option ((Unit × Unit) × (List Int × Unit)) := match x with
  | ((_, t11, t12, t13, ()), l14, ()) =>
    byB (decide (t13 < t12))
      (if (0 ≤ t13) ∧ (t13 < (t11.length : Int)) then
        let e16 := t11.getD t13.toNat (0, 0, 0, []);
        if (l14.length + 4) * 8 ≤ 140737488355328 then
        loopN N (numbers_21_L7 N again3) (((), t11, t12, t13, e16.2.2.2, (e16.2.2.2.length : Int), 0, ()), l14 ++ [e16.1, e16.2.1, e16.2.2.1, (e16.2.2.2.length : Int)], ())
        else none
        else none)
      (some (((), ()), l14, ()))
def numbers_21 (N : Nat) (x : (((Int × (Int × (Int × (Int × (Int × (Int × (Int × (Int × (List (Int × (Int × (Int × (List (Int × (Int × Int)))))) × Unit))))))))) × Unit) × Unit)) : Option ((Unit × Unit) × (List Int × Unit)) := match x with
  | (((s0, s1, s2, s3, s4, s5, s6, s7, s8, ()), ()), ()) =>
    loopN N (numbers_21_L3 N) (((), s8, (s8.length : Int), 0, ()), [(1 : Int), s0, s1, s2, s3, s4, s5, s6, s7, (s8.length : Int)], ())
theorem eq_numbers_21 (N : Nat) (x : (ap_numbers_21).den) : funX Try.prog (fs3 N) N 21 lo_numbers_21 jo_numbers_21 Try.f21 ap_numbers_21 rp_numbers_21 x = numbers_21 N x := by kernel_rfl
noncomputable def sp_numbers_21 (N : Nat) : FSpec := specOf ap_numbers_21 rp_numbers_21 true (numbers_21 N)
theorem ok_numbers_21 (N : Nat) : FSound Try.prog 21 (sp_numbers_21 N) := funX_sound (N := N) (loops := lo_numbers_21) (joins := jo_numbers_21) (fsok3 N) Try.func21 (by kernel_rfl) (by kernel_rfl) fun x _ h => (eq_numbers_21 N x).trans h
noncomputable def fs4 (N : Nat) : FuncId → List V1 → List Blk → Option FSpec := fun g xs H => if g = 21 then some (sp_numbers_21 N) else fs3 N g xs H
theorem fsok4 (N : Nat) : ∀ g xs H sp, fs4 N g xs H = some sp → FSound Try.prog g sp := fun g xs H sp h => by
  unfold fs4 at h
  by_cases e : g = 21
  · rw [if_pos e] at h; subst e; cases h; exact ok_numbers_21 N
  · rw [if_neg e] at h; exact fsok3 N g xs H sp h
/-! Write_17 -/
abbrev ap_Write_17 : Pat := ⟨[.one (.ro (.int .i64))], []⟩
abbrev rp_Write_17 : List Pat := [⟨[.one (.str), .one (.int .i64)], []⟩]
def lo_Write_17 : List LSpec := [⟨5, [4, 12, 13, 14], ⟨[.one (.full 0), .one (.ro (.int .i64)), .one (.int .i64), .one (.int .i64)], [.row 5 (.int .u8)]⟩⟩, ⟨10, [4, 7, 12, 13, 14, 21, 22], ⟨[.one (.full 0), .one (.int .u64), .one (.ro (.int .i64)), .one (.int .i64), .one (.int .i64), .one (.int .i64), .one (.bool)], [.row 5 (.int .u8)]⟩⟩]
def jo_Write_17 : List LSpec := []
def Write_17_L10 (N : Nat) (again5 : ((Unit × (List Int × (Int × (Int × Unit)))) × (List Int × Unit)) → Option ((ByteArray × (Int × Unit)) × Unit)) (again10 : ((Unit × (Int × (List Int × (Int × (Int × (Int × (Bool × Unit))))))) × (List Int × Unit)) → Option ((ByteArray × (Int × Unit)) × Unit)) (x : ((Unit × (Int × (List Int × (Int × (Int × (Int × (Bool × Unit))))))) × (List Int × Unit))) : Option ((ByteArray × (Int × Unit)) × Unit) := match x with
  | ((_, u13, t14, t15, t16, t17, t18, ()), l19, ()) =>
    let t20 := IntKind.wrap .u64 (BitVec.ofInt (IntKind.bits .u64) u13 &&& BitVec.ofInt (IntKind.bits .u64) 127).toNat;
    byB ((Int.fdiv u13 (2 ^ 7)) == 0)
      (if (l19.length + 1) * 1 ≤ 140737488355328 then
        again5 (((), t14, t15, IntKind.wrap .i64 (t16 + 1), ()), l19 ++ [IntKind.wrap .u8 t20], ())
        else none)
      (if (l19.length + 1) * 1 ≤ 140737488355328 then
        again10 (((), Int.fdiv u13 (2 ^ 7), t14, t15, t16, t17, t18, ()), l19 ++ [IntKind.wrap .u8 (BitVec.ofInt (IntKind.bits .u8) (IntKind.wrap .u8 t20) ||| BitVec.ofInt (IntKind.bits .u8) 128).toNat], ())
        else none)
def Write_17_L5 (N : Nat) (again5 : ((Unit × (List Int × (Int × (Int × Unit)))) × (List Int × Unit)) → Option ((ByteArray × (Int × Unit)) × Unit)) (x : ((Unit × (List Int × (Int × (Int × Unit)))) × (List Int × Unit))) : Option ((ByteArray × (Int × Unit)) × Unit) := match x with
  | ((_, t4, t5, t6, ()), l7, ()) =>
    byB (decide (t6 < t5))
      (if (0 ≤ t6) ∧ (t6 < (t4.length : Int)) then
        let e9 := t4.getD t6.toNat 0;
        byB (decide (e9 < 0))
          (some (((⟨#[]⟩ : ByteArray), 1, ()), ()))
          (let t11 := !decide (e9 ≤ 4611686018427387904);
            byB t11
              (some (((⟨#[]⟩ : ByteArray), 1, ()), ()))
              (loopN N (Write_17_L10 N again5) (((), IntKind.wrap .u64 e9, t4, t5, t6, e9, t11, ()), l7, ())))
        else none)
      (some ((bytesOf l7, 0, ()), ()))
def Write_17 (N : Nat) (x : ((List Int × Unit) × Unit)) : Option ((ByteArray × (Int × Unit)) × Unit) := match x with
  | ((l0, ()), ()) =>
    byB (!decide ((l0.length : Int) ≤ 2000))
      (some (((⟨#[]⟩ : ByteArray), 7, ()), ()))
      (loopN N (Write_17_L5 N) (((), l0, (l0.length : Int), 0, ()), [], ()))
theorem eq_Write_17 (N : Nat) (x : (ap_Write_17).den) : funX Try.prog (fs4 N) N 17 lo_Write_17 jo_Write_17 Try.f17 ap_Write_17 rp_Write_17 x = Write_17 N x := by kernel_rfl
noncomputable def sp_Write_17 (N : Nat) : FSpec := specOf ap_Write_17 rp_Write_17 true (Write_17 N)
theorem ok_Write_17 (N : Nat) : FSound Try.prog 17 (sp_Write_17 N) := funX_sound (N := N) (loops := lo_Write_17) (joins := jo_Write_17) (fsok4 N) Try.func17 (by kernel_rfl) (by kernel_rfl) fun x _ h => (eq_Write_17 N x).trans h
noncomputable def fs5 (N : Nat) : FuncId → List V1 → List Blk → Option FSpec := fun g xs H => if g = 17 then some (sp_Write_17 N) else fs4 N g xs H
theorem fsok5 (N : Nat) : ∀ g xs H sp, fs5 N g xs H = some sp → FSound Try.prog g sp := fun g xs H sp h => by
  unfold fs5 at h
  by_cases e : g = 17
  · rw [if_pos e] at h; subst e; cases h; exact ok_Write_17 N
  · rw [if_neg e] at h; exact fsok4 N g xs H sp h
/-! Sum_32 -/
abbrev ap_Sum_32 : Pat := ⟨[.one (.str)], []⟩
abbrev rp_Sum_32 : List Pat := [⟨[.one (.int .u16)], []⟩]
def lo_Sum_32 : List LSpec := [⟨3, [3, 7, 8, 9], ⟨[.one (.int .u16), .one (.ro (.int .u8)), .one (.int .i64), .one (.int .i64)], []⟩⟩, ⟨7, [3, 7, 8, 9, 18], ⟨[.one (.int .u16), .one (.ro (.int .u8)), .one (.int .i64), .one (.int .i64), .one (.int .i64)], []⟩⟩]
def jo_Sum_32 : List LSpec := []
def Sum_32_L7 (N : Nat) (again3 : ((Int × (List Int × (Int × (Int × Unit)))) × Unit) → Option ((Int × Unit) × Unit)) (again7 : ((Int × (List Int × (Int × (Int × (Int × Unit))))) × Unit) → Option ((Int × Unit) × Unit)) (x : ((Int × (List Int × (Int × (Int × (Int × Unit))))) × Unit)) : Option ((Int × Unit) × Unit) := match x with
  | ((v12, t13, t14, t15, t16, ()), ()) =>
    byB (decide (t16 < 8))
      (again7 ((IntKind.wrap .u16 (BitVec.ofInt (IntKind.bits .u16) (IntKind.wrap .u16 (v12 * 2 ^ 1)) ^^^ BitVec.ofInt (IntKind.bits .u16) (IntKind.wrap .u16 (BitVec.ofInt (IntKind.bits .u16) 4129 &&& BitVec.ofInt (IntKind.bits .u16) (IntKind.wrap .u16 (0 - (Int.fdiv v12 (2 ^ 15))))).toNat)).toNat, t13, t14, t15, IntKind.wrap .i64 (t16 + 1), ()), ()))
      (again3 ((v12, t13, t14, IntKind.wrap .i64 (t15 + 1), ()), ()))
def Sum_32_L3 (N : Nat) (again3 : ((Int × (List Int × (Int × (Int × Unit)))) × Unit) → Option ((Int × Unit) × Unit)) (x : ((Int × (List Int × (Int × (Int × Unit)))) × Unit)) : Option ((Int × Unit) × Unit) := match x with
  | ((v3, t4, t5, t6, ()), ()) =>
    byB (decide (t6 < t5))
      (if (0 ≤ t6) ∧ (t6 < (t4.length : Int)) then
        loopN N (Sum_32_L7 N again3) ((IntKind.wrap .u16 (BitVec.ofInt (IntKind.bits .u16) v3 ^^^ BitVec.ofInt (IntKind.bits .u16) (IntKind.wrap .u16 ((IntKind.wrap .u16 (t4.getD t6.toNat 0)) * 2 ^ 8))).toNat, t4, t5, t6, 0, ()), ())
        else none)
      (some ((v3, ()), ()))
def Sum_32 (N : Nat) (x : ((ByteArray × Unit) × Unit)) : Option ((Int × Unit) × Unit) := match x with
  | ((s0, ()), ()) =>
    loopN N (Sum_32_L3 N) ((65535, ofBytes s0, ((ofBytes s0).length : Int), 0, ()), ())
theorem eq_Sum_32 (N : Nat) (x : (ap_Sum_32).den) : funX Try.prog (fs5 N) N 32 lo_Sum_32 jo_Sum_32 Try.f32 ap_Sum_32 rp_Sum_32 x = Sum_32 N x := by kernel_rfl
noncomputable def sp_Sum_32 (N : Nat) : FSpec := specOf ap_Sum_32 rp_Sum_32 true (Sum_32 N)
theorem ok_Sum_32 (N : Nat) : FSound Try.prog 32 (sp_Sum_32 N) := funX_sound (N := N) (loops := lo_Sum_32) (joins := jo_Sum_32) (fsok5 N) Try.func32 (by kernel_rfl) (by kernel_rfl) fun x _ h => (eq_Sum_32 N x).trans h
noncomputable def fs6 (N : Nat) : FuncId → List V1 → List Blk → Option FSpec := fun g xs H => if g = 32 then some (sp_Sum_32 N) else fs5 N g xs H
theorem fsok6 (N : Nat) : ∀ g xs H sp, fs6 N g xs H = some sp → FSound Try.prog g sp := fun g xs H sp h => by
  unfold fs6 at h
  by_cases e : g = 32
  · rw [if_pos e] at h; subst e; cases h; exact ok_Sum_32 N
  · rw [if_neg e] at h; exact fsok5 N g xs H sp h
/-! Seal_18 -/
abbrev ap_Seal_18 : Pat := ⟨[.one (.str)], []⟩
abbrev rp_Seal_18 : List Pat := [⟨[.one (.str), .one (.int .i64)], []⟩]
def lo_Seal_18 : List LSpec := []
def jo_Seal_18 : List LSpec := []
def Seal_18 (N : Nat) (x : ((ByteArray × Unit) × Unit)) : Option ((ByteArray × (Int × Unit)) × Unit) := match x with
  | ((s0, ()), ()) =>
    byB (!decide (((s0.size) : Int) ≤ 100000))
      (some (((⟨#[]⟩ : ByteArray), 7, ()), ()))
      ((Sum_32 N ((s0, ()), ())).bind fun y3 =>
        let t7 := bytesOf [IntKind.wrap .u8 (Int.fdiv y3.1.1 (2 ^ 8)), IntKind.wrap .u8 y3.1.1];
        if s0.size + t7.size ≤ 9223372036854775807 then
        some ((s0 ++ t7, 0, ()), ())
        else none)
theorem eq_Seal_18 (N : Nat) (x : (ap_Seal_18).den) : funX Try.prog (fs6 N) N 18 lo_Seal_18 jo_Seal_18 Try.f18 ap_Seal_18 rp_Seal_18 x = Seal_18 N x := by kernel_rfl
noncomputable def sp_Seal_18 (N : Nat) : FSpec := specOf ap_Seal_18 rp_Seal_18 true (Seal_18 N)
theorem ok_Seal_18 (N : Nat) : FSound Try.prog 18 (sp_Seal_18 N) := funX_sound (N := N) (loops := lo_Seal_18) (joins := jo_Seal_18) (fsok6 N) Try.func18 (by kernel_rfl) (by kernel_rfl) fun x _ h => (eq_Seal_18 N x).trans h
noncomputable def fs7 (N : Nat) : FuncId → List V1 → List Blk → Option FSpec := fun g xs H => if g = 18 then some (sp_Seal_18 N) else fs6 N g xs H
theorem fsok7 (N : Nat) : ∀ g xs H sp, fs7 N g xs H = some sp → FSound Try.prog g sp := fun g xs H sp h => by
  unfold fs7 at h
  by_cases e : g = 18
  · rw [if_pos e] at h; subst e; cases h; exact ok_Seal_18 N
  · rw [if_neg e] at h; exact fsok6 N g xs H sp h
/-! Encode_9 -/
abbrev ap_Encode_9 : Pat := ⟨[.agg [.int .i64, .int .i64, .int .i64, .int .i64, .int .i64, .int .i64, .int .i64, .int .i64, .ro (.pair (.int .i64) (.pair (.int .i64) (.pair (.int .i64) (.ro (.pair (.int .i64) (.pair (.int .i64) (.int .i64)))))))]], []⟩
abbrev rp_Encode_9 : List Pat := [⟨[.one (.str), .one (.int .i64)], []⟩]
def lo_Encode_9 : List LSpec := []
def jo_Encode_9 : List LSpec := []
def Encode_9 (N : Nat) (x : (((Int × (Int × (Int × (Int × (Int × (Int × (Int × (Int × (List (Int × (Int × (Int × (List (Int × (Int × Int)))))) × Unit))))))))) × Unit) × Unit)) : Option ((ByteArray × (Int × Unit)) × Unit) := match x with
  | (((s0, s1, s2, s3, s4, s5, s6, s7, s8, ()), ()), ()) =>
    byB (!decide ((s8.length : Int) ≤ 24))
      (some (((⟨#[]⟩ : ByteArray), 7, ()), ()))
      ((Task_20 N ((s8, (), ()), ())).bind fun y11 =>
        byB y11.1.1
          (some (((⟨#[]⟩ : ByteArray), 7, ()), ()))
          ((numbers_21 N (((s0, s1, s2, s3, s4, s5, s6, s7, s8, ()), ()), ())).bind fun y12 =>
            (Write_17 N ((y12.2.1, ()), ())).bind fun y13 =>
            byB (y13.1.2.1 != 0)
              (some (((⟨#[]⟩ : ByteArray), y13.1.2.1, ()), ()))
              ((Seal_18 N ((y13.1.1, ()), ())).bind fun y15 =>
                some ((y15.1.1, y15.1.2.1, ()), ()))))
theorem eq_Encode_9 (N : Nat) (x : (ap_Encode_9).den) : funX Try.prog (fs7 N) N 9 lo_Encode_9 jo_Encode_9 Try.f9 ap_Encode_9 rp_Encode_9 x = Encode_9 N x := by kernel_rfl
noncomputable def sp_Encode_9 (N : Nat) : FSpec := specOf ap_Encode_9 rp_Encode_9 true (Encode_9 N)
theorem ok_Encode_9 (N : Nat) : FSound Try.prog 9 (sp_Encode_9 N) := funX_sound (N := N) (loops := lo_Encode_9) (joins := jo_Encode_9) (fsok7 N) Try.func9 (by kernel_rfl) (by kernel_rfl) fun x _ h => (eq_Encode_9 N x).trans h
noncomputable def fs8 (N : Nat) : FuncId → List V1 → List Blk → Option FSpec := fun g xs H => if g = 9 then some (sp_Encode_9 N) else fs7 N g xs H
theorem fsok8 (N : Nat) : ∀ g xs H sp, fs8 N g xs H = some sp → FSound Try.prog g sp := fun g xs H sp h => by
  unfold fs8 at h
  by_cases e : g = 9
  · rw [if_pos e] at h; subst e; cases h; exact ok_Encode_9 N
  · rw [if_neg e] at h; exact fsok7 N g xs H sp h
/-! Open_15 -/
abbrev ap_Open_15 : Pat := ⟨[.one (.str)], []⟩
abbrev rp_Open_15 : List Pat := [⟨[.one (.str), .one (.int .i64)], []⟩]
def lo_Open_15 : List LSpec := []
def jo_Open_15 : List LSpec := []
def Open_15 (N : Nat) (x : ((ByteArray × Unit) × Unit)) : Option ((ByteArray × (Int × Unit)) × Unit) := match x with
  | ((s0, ()), ()) =>
    let t2 := IntKind.wrap .i64 (((s0.size) : Int) - 2);
    byB (decide (t2 < 0))
      (some (((⟨#[]⟩ : ByteArray), 6, ()), ()))
      (byB (!decide (t2 ≤ 100000))
          (some (((⟨#[]⟩ : ByteArray), 7, ()), ()))
          ((Sum_32 N ((s0, ()), ())).bind fun y5 =>
            byB (y5.1.1 != 0)
              (some (((⟨#[]⟩ : ByteArray), 9, ()), ()))
              (if ((0 : Int) ≤ 0) ∧ (0 ≤ t2) ∧ (t2 ≤ ((s0.size) : Int)) then
                some ((s0.extract 0 t2.toNat, 0, ()), ())
                else none)))
theorem eq_Open_15 (N : Nat) (x : (ap_Open_15).den) : funX Try.prog (fs8 N) N 15 lo_Open_15 jo_Open_15 Try.f15 ap_Open_15 rp_Open_15 x = Open_15 N x := by kernel_rfl
noncomputable def sp_Open_15 (N : Nat) : FSpec := specOf ap_Open_15 rp_Open_15 true (Open_15 N)
theorem ok_Open_15 (N : Nat) : FSound Try.prog 15 (sp_Open_15 N) := funX_sound (N := N) (loops := lo_Open_15) (joins := jo_Open_15) (fsok8 N) Try.func15 (by kernel_rfl) (by kernel_rfl) fun x _ h => (eq_Open_15 N x).trans h
noncomputable def fs9 (N : Nat) : FuncId → List V1 → List Blk → Option FSpec := fun g xs H => if g = 15 then some (sp_Open_15 N) else fs8 N g xs H
theorem fsok9 (N : Nat) : ∀ g xs H sp, fs9 N g xs H = some sp → FSound Try.prog g sp := fun g xs H sp h => by
  unfold fs9 at h
  by_cases e : g = 15
  · rw [if_pos e] at h; subst e; cases h; exact ok_Open_15 N
  · rw [if_neg e] at h; exact fsok8 N g xs H sp h
/-! reader_33 -/
abbrev ap_reader_33 : Pat := ⟨[.one (.str)], []⟩
abbrev rp_reader_33 : List Pat := [⟨[.one (.fn 37 0)], [.clo 37 [] [.one (.ptr 1 0), .one (.ptr 2 0)], .var 3 [.int .i64], .var 9 [.str]]⟩]
def lo_reader_33 : List LSpec := []
def jo_reader_33 : List LSpec := []
def reader_33 (N : Nat) (x : ((ByteArray × Unit) × Unit)) : Option ((Unit × Unit) × ((Unit × (Unit × (Unit × Unit))) × ((Int × Unit) × ((ByteArray × Unit) × Unit)))) := match x with
  | ((s0, ()), ()) =>
    some (((), ()), ((), (), (), ()), (0, ()), (s0, ()), ())
theorem eq_reader_33 (N : Nat) (x : (ap_reader_33).den) : funX Try.prog (fs9 N) N 33 lo_reader_33 jo_reader_33 Try.f33 ap_reader_33 rp_reader_33 x = reader_33 N x := by kernel_rfl
noncomputable def sp_reader_33 (N : Nat) : FSpec := specOf ap_reader_33 rp_reader_33 true (reader_33 N)
theorem ok_reader_33 (N : Nat) : FSound Try.prog 33 (sp_reader_33 N) := funX_sound (N := N) (loops := lo_reader_33) (joins := jo_reader_33) (fsok9 N) Try.func33 (by kernel_rfl) (by kernel_rfl) fun x _ h => (eq_reader_33 N x).trans h
noncomputable def fs10 (N : Nat) : FuncId → List V1 → List Blk → Option FSpec := fun g xs H => if g = 33 then some (sp_reader_33 N) else fs9 N g xs H
theorem fsok10 (N : Nat) : ∀ g xs H sp, fs10 N g xs H = some sp → FSound Try.prog g sp := fun g xs H sp h => by
  unfold fs10 at h
  by_cases e : g = 33
  · rw [if_pos e] at h; subst e; cases h; exact ok_reader_33 N
  · rw [if_neg e] at h; exact fsok9 N g xs H sp h
/-! reader1_37 -/
abbrev ap_reader1_37 : Pat := ⟨[.one (.ptr 0 0), .one (.ptr 1 0)], [.var 3 [.int .i64], .var 9 [.str]]⟩
abbrev rp_reader1_37 : List Pat := [⟨[.one (.int .i64), .one (.bool), .one (.int .i64)], [.var 3 [.int .i64], .var 9 [.str]]⟩]
def lo_reader1_37 : List LSpec := [⟨6, [0, 1, 5, 6, 7], ⟨[.one (.ptr 0 0), .one (.ptr 1 0), .one (.int .u64), .one (.int .u64), .one (.int .i64)], [.var 3 [.int .i64], .var 9 [.str]]⟩⟩]
def jo_reader1_37 : List LSpec := []
def reader1_37_L6 (N : Nat) (again6 : ((Unit × (Unit × (Int × (Int × (Int × Unit))))) × ((Int × Unit) × ((ByteArray × Unit) × Unit))) → Option ((Int × (Bool × (Int × Unit))) × ((Int × Unit) × ((ByteArray × Unit) × Unit)))) (x : ((Unit × (Unit × (Int × (Int × (Int × Unit))))) × ((Int × Unit) × ((ByteArray × Unit) × Unit)))) : Option ((Int × (Bool × (Int × Unit))) × ((Int × Unit) × ((ByteArray × Unit) × Unit))) := match x with
  | ((_, _, u4, shift5, from6, ()), (c7, ()), (c8, ()), ()) =>
    byB (c7 == ((c8.size) : Int))
      (some ((0, false, 6, ()), (c7, ()), (c8, ()), ()))
      (if h11 : 0 ≤ c7 ∧ c7.toNat < c8.size then
        let t12 := ((c8[c7.toNat]'h11.2).toNat : Int);
        let t13 := IntKind.wrap .i64 (c7 + 1);
        byB (decide (shift5 < 63))
          (if shift5 < 0 then
              none
            else
            let t18 := IntKind.wrap .u64 (BitVec.ofInt (IntKind.bits .u64) u4 ||| BitVec.ofInt (IntKind.bits .u64) (IntKind.wrap .u64 ((IntKind.wrap .u64 (IntKind.wrap .u8 (BitVec.ofInt (IntKind.bits .u8) t12 &&& BitVec.ofInt (IntKind.bits .u8) 127).toNat)) * 2 ^ (min shift5.toNat (IntKind.bits .u64))))).toNat;
            byB (decide (t12 < 128))
              (byB (t12 == 0)
                  (byB (!decide ((IntKind.wrap .i64 (t13 - from6)) ≤ 1))
                      (some ((0, false, 8, ()), (t13, ()), (c8, ()), ()))
                      (byB (!decide (shift5 < 63))
                          (some ((0, false, 7, ()), (t13, ()), (c8, ()), ()))
                          (byB (!decide (t18 ≤ 4611686018427387904))
                              (some ((0, false, 7, ()), (t13, ()), (c8, ()), ()))
                              (some ((IntKind.wrap .i64 t18, true, 0, ()), (t13, ()), (c8, ()), ())))))
                  (byB (!decide (shift5 < 63))
                      (some ((0, false, 7, ()), (t13, ()), (c8, ()), ()))
                      (byB (!decide (t18 ≤ 4611686018427387904))
                          (some ((0, false, 7, ()), (t13, ()), (c8, ()), ()))
                          (some ((IntKind.wrap .i64 t18, true, 0, ()), (t13, ()), (c8, ()), ())))))
              (again6 (((), (), t18, IntKind.wrap .u64 (shift5 + 7), from6, ()), (t13, ()), (c8, ()), ())))
          (byB (decide (t12 < 128))
              (byB (t12 == 0)
                  (byB (!decide ((IntKind.wrap .i64 (t13 - from6)) ≤ 1))
                      (some ((0, false, 8, ()), (t13, ()), (c8, ()), ()))
                      (byB (!decide (shift5 < 63))
                          (some ((0, false, 7, ()), (t13, ()), (c8, ()), ()))
                          (byB (!decide (u4 ≤ 4611686018427387904))
                              (some ((0, false, 7, ()), (t13, ()), (c8, ()), ()))
                              (some ((IntKind.wrap .i64 u4, true, 0, ()), (t13, ()), (c8, ()), ())))))
                  (byB (!decide (shift5 < 63))
                      (some ((0, false, 7, ()), (t13, ()), (c8, ()), ()))
                      (byB (!decide (u4 ≤ 4611686018427387904))
                          (some ((0, false, 7, ()), (t13, ()), (c8, ()), ()))
                          (some ((IntKind.wrap .i64 u4, true, 0, ()), (t13, ()), (c8, ()), ())))))
              (again6 (((), (), u4, IntKind.wrap .u64 (shift5 + 7), from6, ()), (t13, ()), (c8, ()), ())))
        else none)
def reader1_37 (N : Nat) (x : ((Unit × (Unit × Unit)) × ((Int × Unit) × ((ByteArray × Unit) × Unit)))) : Option ((Int × (Bool × (Int × Unit))) × ((Int × Unit) × ((ByteArray × Unit) × Unit))) := match x with
  | ((_, _, ()), (c0, ()), (c1, ()), ()) =>
    byB (c0 == ((c1.size) : Int))
      (some ((0, false, 0, ()), (c0, ()), (c1, ()), ()))
      (loopN N (reader1_37_L6 N) (((), (), 0, 0, c0, ()), (c0, ()), (c1, ()), ()))
theorem eq_reader1_37 (N : Nat) (x : (ap_reader1_37).den) : funX Try.prog (fs10 N) N 37 lo_reader1_37 jo_reader1_37 Try.f37 ap_reader1_37 rp_reader1_37 x = reader1_37 N x := by kernel_rfl
noncomputable def sp_reader1_37 (N : Nat) : FSpec := specOf ap_reader1_37 rp_reader1_37 true (reader1_37 N)
theorem ok_reader1_37 (N : Nat) : FSound Try.prog 37 (sp_reader1_37 N) := funX_sound (N := N) (loops := lo_reader1_37) (joins := jo_reader1_37) (fsok10 N) Try.func37 (by kernel_rfl) (by kernel_rfl) fun x _ h => (eq_reader1_37 N x).trans h
noncomputable def fs11 (N : Nat) : FuncId → List V1 → List Blk → Option FSpec := fun g xs H => if g = 37 then some (sp_reader1_37 N) else fs10 N g xs H
theorem fsok11 (N : Nat) : ∀ g xs H sp, fs11 N g xs H = some sp → FSound Try.prog g sp := fun g xs H sp h => by
  unfold fs11 at h
  by_cases e : g = 37
  · rw [if_pos e] at h; subst e; cases h; exact ok_reader1_37 N
  · rw [if_neg e] at h; exact fsok10 N g xs H sp h
/-! Read_16v1 -/
abbrev ap_Read_16v1 : Pat := ⟨[.one (.str)], []⟩
abbrev rp_Read_16v1 : List Pat := [⟨[.one (.ro (.int .i64)), .one (.int .i64)], []⟩]
def lo_Read_16v1 : List LSpec := [⟨3, [4, 5], ⟨[.one (.fn 37 0), .one (.full 1)], [.clo 37 [] [.one (.ptr 2 0), .one (.ptr 3 0)], .row 3 (.int .i64), .var 3 [.int .i64], .var 9 [.str]]⟩⟩]
def jo_Read_16v1 : List LSpec := []
def Read_16v1_L3 (N : Nat) (again3 : ((Unit × (Unit × Unit)) × ((Unit × (Unit × (Unit × Unit))) × (List Int × ((Int × Unit) × ((ByteArray × Unit) × Unit))))) → Option ((List Int × (Int × Unit)) × Unit)) (x : ((Unit × (Unit × Unit)) × ((Unit × (Unit × (Unit × Unit))) × (List Int × ((Int × Unit) × ((ByteArray × Unit) × Unit)))))) : Option ((List Int × (Int × Unit)) × Unit) := match x with
  | ((_, _, ()), ((), _, _, ()), l2, (c3, ()), (c4, ()), ()) =>
    (reader1_37 N (((), (), ()), (c3, ()), (c4, ()), ())).bind fun y5 =>
    byB (y5.1.2.2.1 == 0)
      (byB y5.1.2.1
          (byB ((l2.length : Int) == 2000)
              (some (([], 7, ()), ()))
              (byB (y5.1.2.2.1 != 0)
                  (some (([], y5.1.2.2.1, ()), ()))
                  (byB (!y5.1.2.1)
                      (some ((l2, 0, ()), ()))
                      (if (l2.length + 1) * 8 ≤ 140737488355328 then
                        again3 (((), (), ()), ((), (), (), ()), l2 ++ [y5.1.1], (y5.2.1.1, ()), (y5.2.2.1.1, ()), ())
                        else none))))
          (byB (y5.1.2.2.1 != 0)
              (some (([], y5.1.2.2.1, ()), ()))
              (byB (!y5.1.2.1)
                  (some ((l2, 0, ()), ()))
                  (if (l2.length + 1) * 8 ≤ 140737488355328 then
                    again3 (((), (), ()), ((), (), (), ()), l2 ++ [y5.1.1], (y5.2.1.1, ()), (y5.2.2.1.1, ()), ())
                    else none))))
      (byB (y5.1.2.2.1 != 0)
          (some (([], y5.1.2.2.1, ()), ()))
          (byB (!y5.1.2.1)
              (some ((l2, 0, ()), ()))
              (if (l2.length + 1) * 8 ≤ 140737488355328 then
                again3 (((), (), ()), ((), (), (), ()), l2 ++ [y5.1.1], (y5.2.1.1, ()), (y5.2.2.1.1, ()), ())
                else none)))
def Read_16v1 (N : Nat) (x : ((ByteArray × Unit) × Unit)) : Option ((List Int × (Int × Unit)) × Unit) := match x with
  | ((s0, ()), ()) =>
    (reader_33 N ((s0, ()), ())).bind fun y1 =>
    loopN N (Read_16v1_L3 N) (((), (), ()), ((), (), (), ()), [], (y1.2.2.1.1, ()), (y1.2.2.2.1.1, ()), ())
theorem eq_Read_16v1 (N : Nat) (x : (ap_Read_16v1).den) : funX Try.prog (fs11 N) N 16 lo_Read_16v1 jo_Read_16v1 Try.f16 ap_Read_16v1 rp_Read_16v1 x = Read_16v1 N x := by kernel_rfl
noncomputable def sp_Read_16v1 (N : Nat) : FSpec := specOf ap_Read_16v1 rp_Read_16v1 false (Read_16v1 N)
theorem ok_Read_16v1 (N : Nat) : FSound Try.prog 16 (sp_Read_16v1 N) := funX_sound (N := N) (loops := lo_Read_16v1) (joins := jo_Read_16v1) (fsok11 N) Try.func16 (by kernel_rfl) (by kernel_rfl) fun x _ h => (eq_Read_16v1 N x).trans h
noncomputable def fs12 (N : Nat) : FuncId → List V1 → List Blk → Option FSpec := fun g xs H => if g = 16 then some (sp_Read_16v1 N) else fs11 N g xs H
theorem fsok12 (N : Nat) : ∀ g xs H sp, fs12 N g xs H = some sp → FSound Try.prog g sp := fun g xs H sp h => by
  unfold fs12 at h
  by_cases e : g = 16
  · rw [if_pos e] at h; subst e; cases h; exact ok_Read_16v1 N
  · rw [if_neg e] at h; exact fsok11 N g xs H sp h
/-! fault_30v1 -/
abbrev ap_fault_30v1 : Pat := ⟨[.one (.ptr 0 0), .one (.int .i64)], [.var 63 [.ro (.int .i64), .int .i64]]⟩
abbrev rp_fault_30v1 : List Pat := [⟨[.one (.int .i64)], [.var 63 [.ro (.int .i64), .int .i64]]⟩]
def lo_fault_30v1 : List LSpec := []
def jo_fault_30v1 : List LSpec := []
def fault_30v1 (N : Nat) (x : ((Unit × (Int × Unit)) × ((List Int × (Int × Unit)) × Unit))) : Option ((Int × Unit) × ((List Int × (Int × Unit)) × Unit)) := match x with
  | ((_, e0, ()), (c1, c2, ()), ()) =>
    byB (c2 == 0)
      (some ((0, ()), (c1, e0, ()), ()))
      (some ((0, ()), (c1, c2, ()), ()))
theorem eq_fault_30v1 (N : Nat) (x : (ap_fault_30v1).den) : funX Try.prog (fs12 N) N 30 lo_fault_30v1 jo_fault_30v1 Try.f30 ap_fault_30v1 rp_fault_30v1 x = fault_30v1 N x := by kernel_rfl
noncomputable def sp_fault_30v1 (N : Nat) : FSpec := specOf ap_fault_30v1 rp_fault_30v1 false (fault_30v1 N)
theorem ok_fault_30v1 (N : Nat) : FSound Try.prog 30 (sp_fault_30v1 N) := funX_sound (N := N) (loops := lo_fault_30v1) (joins := jo_fault_30v1) (fsok12 N) Try.func30 (by kernel_rfl) (by kernel_rfl) fun x _ h => (eq_fault_30v1 N x).trans h
noncomputable def fs13 (N : Nat) : FuncId → List V1 → List Blk → Option FSpec := fun g xs H => if g = 30 then some (sp_fault_30v1 N) else fs12 N g xs H
theorem fsok13 (N : Nat) : ∀ g xs H sp, fs13 N g xs H = some sp → FSound Try.prog g sp := fun g xs H sp h => by
  unfold fs13 at h
  by_cases e : g = 30
  · rw [if_pos e] at h; subst e; cases h; exact ok_fault_30v1 N
  · rw [if_neg e] at h; exact fsok12 N g xs H sp h
/-! next_28v1 -/
abbrev ap_next_28v1 : Pat := ⟨[.one (.ptr 0 0)], [.var 63 [.ro (.int .i64), .int .i64]]⟩
abbrev rp_next_28v1 : List Pat := [⟨[.one (.int .i64)], [.var 63 [.ro (.int .i64), .int .i64]]⟩]
def lo_next_28v1 : List LSpec := []
def jo_next_28v1 : List LSpec := []
def next_28v1 (N : Nat) (x : ((Unit × Unit) × ((List Int × (Int × Unit)) × Unit))) : Option ((Int × Unit) × ((List Int × (Int × Unit)) × Unit)) := match x with
  | ((_, ()), (c0, c1, ()), ()) =>
    byB ((c0.length : Int) == 0)
      ((fault_30v1 N (((), 8, ()), (c0, c1, ()), ())).bind fun y4 =>
        some ((y4.1.1, ()), (y4.2.1.1, y4.2.1.2.1, ()), ()))
      (byB (c1 != 0)
          ((fault_30v1 N (((), 8, ()), (c0, c1, ()), ())).bind fun y6 =>
            some ((y6.1.1, ()), (y6.2.1.1, y6.2.1.2.1, ()), ()))
          (if ((0 : Int) ≤ 0) ∧ (0 < (c0.length : Int)) then
            (if ((0 : Int) ≤ 1) ∧ (1 ≤ (c0.length : Int)) ∧ ((c0.length : Int) ≤ (c0.length : Int)) then
            some ((c0.getD 0 0, ()), ((c0.take c0.length).drop 1, c1, ()), ())
            else none)
            else none))
theorem eq_next_28v1 (N : Nat) (x : (ap_next_28v1).den) : funX Try.prog (fs13 N) N 28 lo_next_28v1 jo_next_28v1 Try.f28 ap_next_28v1 rp_next_28v1 x = next_28v1 N x := by kernel_rfl
noncomputable def sp_next_28v1 (N : Nat) : FSpec := specOf ap_next_28v1 rp_next_28v1 false (next_28v1 N)
theorem ok_next_28v1 (N : Nat) : FSound Try.prog 28 (sp_next_28v1 N) := funX_sound (N := N) (loops := lo_next_28v1) (joins := jo_next_28v1) (fsok13 N) Try.func28 (by kernel_rfl) (by kernel_rfl) fun x _ h => (eq_next_28v1 N x).trans h
noncomputable def fs14 (N : Nat) : FuncId → List V1 → List Blk → Option FSpec := fun g xs H => if g = 28 then some (sp_next_28v1 N) else fs13 N g xs H
theorem fsok14 (N : Nat) : ∀ g xs H sp, fs14 N g xs H = some sp → FSound Try.prog g sp := fun g xs H sp h => by
  unfold fs14 at h
  by_cases e : g = 28
  · rw [if_pos e] at h; subst e; cases h; exact ok_next_28v1 N
  · rw [if_neg e] at h; exact fsok13 N g xs H sp h
/-! many_29v1 -/
abbrev ap_many_29v1 : Pat := ⟨[.one (.ptr 0 0), .one (.int .i64)], [.var 63 [.ro (.int .i64), .int .i64]]⟩
abbrev rp_many_29v1 : List Pat := [⟨[.one (.int .i64)], [.var 63 [.ro (.int .i64), .int .i64]]⟩]
def lo_many_29v1 : List LSpec := []
def jo_many_29v1 : List LSpec := []
def many_29v1 (N : Nat) (x : ((Unit × (Int × Unit)) × ((List Int × (Int × Unit)) × Unit))) : Option ((Int × Unit) × ((List Int × (Int × Unit)) × Unit)) := match x with
  | ((_, most0, ()), (c1, c2, ()), ()) =>
    (next_28v1 N (((), ()), (c1, c2, ()), ())).bind fun y3 =>
    byB (!decide (y3.1.1 ≤ most0))
      ((fault_30v1 N (((), 7, ()), (y3.2.1.1, y3.2.1.2.1, ()), ())).bind fun y5 =>
        some ((y5.1.1, ()), (y5.2.1.1, y5.2.1.2.1, ()), ()))
      (some ((y3.1.1, ()), (y3.2.1.1, y3.2.1.2.1, ()), ()))
theorem eq_many_29v1 (N : Nat) (x : (ap_many_29v1).den) : funX Try.prog (fs14 N) N 29 lo_many_29v1 jo_many_29v1 Try.f29 ap_many_29v1 rp_many_29v1 x = many_29v1 N x := by kernel_rfl
noncomputable def sp_many_29v1 (N : Nat) : FSpec := specOf ap_many_29v1 rp_many_29v1 false (many_29v1 N)
theorem ok_many_29v1 (N : Nat) : FSound Try.prog 29 (sp_many_29v1 N) := funX_sound (N := N) (loops := lo_many_29v1) (joins := jo_many_29v1) (fsok14 N) Try.func29 (by kernel_rfl) (by kernel_rfl) fun x _ h => (eq_many_29v1 N x).trans h
noncomputable def fs15 (N : Nat) : FuncId → List V1 → List Blk → Option FSpec := fun g xs H => if g = 29 then some (sp_many_29v1 N) else fs14 N g xs H
theorem fsok15 (N : Nat) : ∀ g xs H sp, fs15 N g xs H = some sp → FSound Try.prog g sp := fun g xs H sp h => by
  unfold fs15 at h
  by_cases e : g = 29
  · rw [if_pos e] at h; subst e; cases h; exact ok_many_29v1 N
  · rw [if_neg e] at h; exact fsok14 N g xs H sp h
/-! Decode_12v1 -/
abbrev ap_Decode_12v1 : Pat := ⟨[.one (.str)], []⟩
abbrev rp_Decode_12v1 : List Pat := [⟨[.agg [.int .i64, .int .i64, .int .i64, .int .i64, .int .i64, .int .i64, .int .i64, .int .i64, .full 0], .one (.int .i64)], [.row 39 (.pair (.int .i64) (.pair (.int .i64) (.pair (.int .i64) (.ro (.pair (.int .i64) (.pair (.int .i64) (.int .i64)))))))]⟩]
def lo_Decode_12v1 : List LSpec := [⟨18, [2, 3, 7, 8, 9, 60, 61], ⟨[.one (.ptr 0 0), .one (.int .i64), .one (.ptr 1 0), .one (.fn 28 2), .one (.ptr 3 0), .one (.int .i64), .one (.int .i64)], [.var 24 [.int .i64, .int .i64, .int .i64, .int .i64, .int .i64, .int .i64, .int .i64, .int .i64, .ro (.pair (.int .i64) (.pair (.int .i64) (.pair (.int .i64) (.ro (.pair (.int .i64) (.pair (.int .i64) (.int .i64)))))))], .var 63 [.ro (.int .i64), .int .i64], .clo 28 [.one (.ptr 1 0)] [], .var 24 [.int .i64, .int .i64, .int .i64, .int .i64, .int .i64, .int .i64, .int .i64, .int .i64, .full 4], .row 39 (.pair (.int .i64) (.pair (.int .i64) (.pair (.int .i64) (.ro (.pair (.int .i64) (.pair (.int .i64) (.int .i64)))))))]⟩⟩, ⟨21, [2, 3, 7, 8, 9, 12, 60, 61, 71, 72], ⟨[.one (.ptr 0 0), .one (.int .i64), .one (.ptr 1 0), .one (.fn 28 2), .one (.ptr 3 0), .one (.ptr 4 0), .one (.int .i64), .one (.int .i64), .one (.int .i64), .one (.int .i64)], [.var 24 [.int .i64, .int .i64, .int .i64, .int .i64, .int .i64, .int .i64, .int .i64, .int .i64, .ro (.pair (.int .i64) (.pair (.int .i64) (.pair (.int .i64) (.ro (.pair (.int .i64) (.pair (.int .i64) (.int .i64)))))))], .var 63 [.ro (.int .i64), .int .i64], .clo 28 [.one (.ptr 1 0)] [], .var 24 [.int .i64, .int .i64, .int .i64, .int .i64, .int .i64, .int .i64, .int .i64, .int .i64, .full 5], .var 39 [.int .i64, .int .i64, .int .i64, .full 6], .row 39 (.pair (.int .i64) (.pair (.int .i64) (.pair (.int .i64) (.ro (.pair (.int .i64) (.pair (.int .i64) (.int .i64))))))), .row 41 (.pair (.int .i64) (.pair (.int .i64) (.int .i64)))]⟩⟩]
def jo_Decode_12v1 : List LSpec := []
def Decode_12v1_L21 (N : Nat) (again18 : ((Unit × (Int × (Unit × (Unit × (Unit × (Int × (Int × Unit))))))) × ((Int × (Int × (Int × (Int × (Int × (Int × (Int × (Int × (List (Int × (Int × (Int × (List (Int × (Int × Int)))))) × Unit))))))))) × ((List Int × (Int × Unit)) × (((Unit × Unit) × Unit) × ((Int × (Int × (Int × (Int × (Int × (Int × (Int × (Int × (Unit × Unit))))))))) × (List (Int × (Int × (Int × (List (Int × (Int × Int)))))) × Unit)))))) → Option (((Int × (Int × (Int × (Int × (Int × (Int × (Int × (Int × (Unit × Unit))))))))) × (Int × Unit)) × (List (Int × (Int × (Int × (List (Int × (Int × Int)))))) × Unit))) (again21 : ((Unit × (Int × (Unit × (Unit × (Unit × (Unit × (Int × (Int × (Int × (Int × Unit)))))))))) × ((Int × (Int × (Int × (Int × (Int × (Int × (Int × (Int × (List (Int × (Int × (Int × (List (Int × (Int × Int)))))) × Unit))))))))) × ((List Int × (Int × Unit)) × (((Unit × Unit) × Unit) × ((Int × (Int × (Int × (Int × (Int × (Int × (Int × (Int × (Unit × Unit))))))))) × ((Int × (Int × (Int × (Unit × Unit)))) × (List (Int × (Int × (Int × (List (Int × (Int × Int)))))) × (List (Int × (Int × Int)) × Unit)))))))) → Option (((Int × (Int × (Int × (Int × (Int × (Int × (Int × (Int × (Unit × Unit))))))))) × (Int × Unit)) × (List (Int × (Int × (Int × (List (Int × (Int × Int)))))) × Unit))) (x : ((Unit × (Int × (Unit × (Unit × (Unit × (Unit × (Int × (Int × (Int × (Int × Unit)))))))))) × ((Int × (Int × (Int × (Int × (Int × (Int × (Int × (Int × (List (Int × (Int × (Int × (List (Int × (Int × Int)))))) × Unit))))))))) × ((List Int × (Int × Unit)) × (((Unit × Unit) × Unit) × ((Int × (Int × (Int × (Int × (Int × (Int × (Int × (Int × (Unit × Unit))))))))) × ((Int × (Int × (Int × (Unit × Unit)))) × (List (Int × (Int × (Int × (List (Int × (Int × Int)))))) × (List (Int × (Int × Int)) × Unit))))))))) : Option (((Int × (Int × (Int × (Int × (Int × (Int × (Int × (Int × (Unit × Unit))))))))) × (Int × Unit)) × (List (Int × (Int × (Int × (List (Int × (Int × Int)))))) × Unit)) := match x with
  | ((_, t44, _, _, _, _, t45, t46, t47, t48, ()), (c49, c50, c51, c52, c53, c54, c55, c56, c57, ()), (c58, c59, ()), ((_, ()), ()), (c60, c61, c62, c63, c64, c65, c66, c67, _, ()), (c68, c69, c70, _, ()), l71, l72, ()) =>
    byB (decide (t48 < t47))
      ((next_28v1 N (((), ()), (c58, c59, ()), ())).bind fun y74 =>
        (next_28v1 N (((), ()), (y74.2.1.1, y74.2.1.2.1, ()), ())).bind fun y75 =>
        (next_28v1 N (((), ()), (y75.2.1.1, y75.2.1.2.1, ()), ())).bind fun y76 =>
        if (l72.length + 1) * 24 ≤ 140737488355328 then
        again21 (((), t44, (), (), (), (), t45, t46, t47, IntKind.wrap .i64 (t48 + 1), ()), (c49, c50, c51, c52, c53, c54, c55, c56, c57, ()), (y76.2.1.1, y76.2.1.2.1, ()), (((), ()), ()), (c60, c61, c62, c63, c64, c65, c66, c67, (), ()), (c68, c69, c70, (), ()), l71, l72 ++ [(y74.1.1, y75.1.1, y76.1.1)], ())
        else none)
      (if (l71.length + 1) * 48 ≤ 140737488355328 then
        again18 (((), t44, (), (), (), t45, IntKind.wrap .i64 (t46 + 1), ()), (c49, c50, c51, c52, c53, c54, c55, c56, c57, ()), (c58, c59, ()), (((), ()), ()), (c60, c61, c62, c63, c64, c65, c66, c67, (), ()), l71 ++ [(c68, c69, c70, l72)], ())
        else none)
def Decode_12v1_L18 (N : Nat) (again18 : ((Unit × (Int × (Unit × (Unit × (Unit × (Int × (Int × Unit))))))) × ((Int × (Int × (Int × (Int × (Int × (Int × (Int × (Int × (List (Int × (Int × (Int × (List (Int × (Int × Int)))))) × Unit))))))))) × ((List Int × (Int × Unit)) × (((Unit × Unit) × Unit) × ((Int × (Int × (Int × (Int × (Int × (Int × (Int × (Int × (Unit × Unit))))))))) × (List (Int × (Int × (Int × (List (Int × (Int × Int)))))) × Unit)))))) → Option (((Int × (Int × (Int × (Int × (Int × (Int × (Int × (Int × (Unit × Unit))))))))) × (Int × Unit)) × (List (Int × (Int × (Int × (List (Int × (Int × Int)))))) × Unit))) (x : ((Unit × (Int × (Unit × (Unit × (Unit × (Int × (Int × Unit))))))) × ((Int × (Int × (Int × (Int × (Int × (Int × (Int × (Int × (List (Int × (Int × (Int × (List (Int × (Int × Int)))))) × Unit))))))))) × ((List Int × (Int × Unit)) × (((Unit × Unit) × Unit) × ((Int × (Int × (Int × (Int × (Int × (Int × (Int × (Int × (Unit × Unit))))))))) × (List (Int × (Int × (Int × (List (Int × (Int × Int)))))) × Unit))))))) : Option (((Int × (Int × (Int × (Int × (Int × (Int × (Int × (Int × (Unit × Unit))))))))) × (Int × Unit)) × (List (Int × (Int × (Int × (List (Int × (Int × Int)))))) × Unit)) := match x with
  | ((_, t16, _, _, _, t17, t18, ()), (c19, c20, c21, c22, c23, c24, c25, c26, c27, ()), (c28, c29, ()), ((_, ()), ()), (c30, c31, c32, c33, c34, c35, c36, c37, _, ()), l38, ()) =>
    byB (decide (t18 < t17))
      ((next_28v1 N (((), ()), (c28, c29, ()), ())).bind fun y40 =>
        (next_28v1 N (((), ()), (y40.2.1.1, y40.2.1.2.1, ()), ())).bind fun y41 =>
        (next_28v1 N (((), ()), (y41.2.1.1, y41.2.1.2.1, ()), ())).bind fun y42 =>
        (many_29v1 N (((), 4, ()), (y42.2.1.1, y42.2.1.2.1, ()), ())).bind fun y43 =>
        loopN N (Decode_12v1_L21 N again18) (((), t16, (), (), (), (), t17, t18, y43.1.1, 0, ()), (c19, c20, c21, c22, c23, c24, c25, c26, c27, ()), (y43.2.1.1, y43.2.1.2.1, ()), (((), ()), ()), (c30, c31, c32, c33, c34, c35, c36, c37, (), ()), (y40.1.1, y41.1.1, y42.1.1, (), ()), l38, [], ()))
      (byB (!decide ((c28.length : Int) ≤ 0))
          ((fault_30v1 N (((), 8, ()), (c28, c29, ()), ())).bind fun y83 =>
            byB (y83.2.1.2.1 != 0)
              (some (((0, 0, 0, 0, 0, 0, 0, 0, (), ()), y83.2.1.2.1, ()), [], ()))
              (some (((c30, c31, c32, c33, c34, c35, c36, c37, (), ()), 0, ()), l38, ())))
          (byB (c29 != 0)
              (some (((0, 0, 0, 0, 0, 0, 0, 0, (), ()), c29, ()), [], ()))
              (some (((c30, c31, c32, c33, c34, c35, c36, c37, (), ()), 0, ()), l38, ()))))
def Decode_12v1 (N : Nat) (x : ((ByteArray × Unit) × Unit)) : Option (((Int × (Int × (Int × (Int × (Int × (Int × (Int × (Int × (Unit × Unit))))))))) × (Int × Unit)) × (List (Int × (Int × (Int × (List (Int × (Int × Int)))))) × Unit)) := match x with
  | ((b0, ()), ()) =>
    (Open_15 N ((b0, ()), ())).bind fun y1 =>
    byB (y1.1.2.1 != 0)
      (some (((0, 0, 0, 0, 0, 0, 0, 0, (), ()), y1.1.2.1, ()), [], ()))
      ((Read_16v1 N ((y1.1.1, ()), ())).bind fun y3 =>
        byB (y3.1.2.1 != 0)
          (some (((0, 0, 0, 0, 0, 0, 0, 0, (), ()), y3.1.2.1, ()), [], ()))
          ((next_28v1 N (((), ()), (y3.1.1, 0, ()), ())).bind fun y5 =>
            byB (y5.1.1 != 1)
              (some (((0, 0, 0, 0, 0, 0, 0, 0, (), ()), 8, ()), [], ()))
              ((next_28v1 N (((), ()), (y5.2.1.1, y5.2.1.2.1, ()), ())).bind fun y7 =>
                (next_28v1 N (((), ()), (y7.2.1.1, y7.2.1.2.1, ()), ())).bind fun y8 =>
                (next_28v1 N (((), ()), (y8.2.1.1, y8.2.1.2.1, ()), ())).bind fun y9 =>
                (next_28v1 N (((), ()), (y9.2.1.1, y9.2.1.2.1, ()), ())).bind fun y10 =>
                (next_28v1 N (((), ()), (y10.2.1.1, y10.2.1.2.1, ()), ())).bind fun y11 =>
                (next_28v1 N (((), ()), (y11.2.1.1, y11.2.1.2.1, ()), ())).bind fun y12 =>
                (next_28v1 N (((), ()), (y12.2.1.1, y12.2.1.2.1, ()), ())).bind fun y13 =>
                (next_28v1 N (((), ()), (y13.2.1.1, y13.2.1.2.1, ()), ())).bind fun y14 =>
                (many_29v1 N (((), 24, ()), (y14.2.1.1, y14.2.1.2.1, ()), ())).bind fun y15 =>
                loopN N (Decode_12v1_L18 N) (((), 0, (), (), (), y15.1.1, 0, ()), (0, 0, 0, 0, 0, 0, 0, 0, [], ()), (y15.2.1.1, y15.2.1.2.1, ()), (((), ()), ()), (y7.1.1, y8.1.1, y9.1.1, y10.1.1, y11.1.1, y12.1.1, y13.1.1, y14.1.1, (), ()), [], ()))))
theorem eq_Decode_12v1 (N : Nat) (x : (ap_Decode_12v1).den) : funX Try.prog (fs15 N) N 12 lo_Decode_12v1 jo_Decode_12v1 Try.f12 ap_Decode_12v1 rp_Decode_12v1 x = Decode_12v1 N x := by kernel_rfl
noncomputable def sp_Decode_12v1 (N : Nat) : FSpec := specOf ap_Decode_12v1 rp_Decode_12v1 false (Decode_12v1 N)
theorem ok_Decode_12v1 (N : Nat) : FSound Try.prog 12 (sp_Decode_12v1 N) := funX_sound (N := N) (loops := lo_Decode_12v1) (joins := jo_Decode_12v1) (fsok15 N) Try.func12 (by kernel_rfl) (by kernel_rfl) fun x _ h => (eq_Decode_12v1 N x).trans h
noncomputable def fs16 (N : Nat) : FuncId → List V1 → List Blk → Option FSpec := fun g xs H => if g = 12 then some (sp_Decode_12v1 N) else fs15 N g xs H
theorem fsok16 (N : Nat) : ∀ g xs H sp, fs16 N g xs H = some sp → FSound Try.prog g sp := fun g xs H sp h => by
  unfold fs16 at h
  by_cases e : g = 12
  · rw [if_pos e] at h; subst e; cases h; exact ok_Decode_12v1 N
  · rw [if_neg e] at h; exact fsok15 N g xs H sp h
/-! Equalintint_31 -/
abbrev ap_Equalintint_31 : Pat := ⟨[.one (.ro (.int .i64)), .one (.ro (.int .i64))], []⟩
abbrev rp_Equalintint_31 : List Pat := [⟨[.one (.bool)], []⟩]
def lo_Equalintint_31 : List LSpec := [⟨4, [0, 1, 12, 13], ⟨[.one (.ro (.int .i64)), .one (.ro (.int .i64)), .one (.int .i64), .one (.int .i64)], []⟩⟩]
def jo_Equalintint_31 : List LSpec := []
def Equalintint_31_L4 (N : Nat) (again4 : ((List Int × (List Int × (Int × (Int × Unit)))) × Unit) → Option ((Bool × Unit) × Unit)) (x : ((List Int × (List Int × (Int × (Int × Unit)))) × Unit)) : Option ((Bool × Unit) × Unit) := match x with
  | ((s16, s27, t8, t9, ()), ()) =>
    byB (decide (t9 < t8))
      (if (0 ≤ t9) ∧ (t9 < (s16.length : Int)) then
        (if (0 ≤ t9) ∧ (t9 < (s27.length : Int)) then
        byB ((s16.getD t9.toNat 0) != (s27.getD t9.toNat 0))
          (some ((false, ()), ()))
          (again4 ((s16, s27, t8, IntKind.wrap .i64 (t9 + 1), ()), ()))
        else none)
        else none)
      (some ((true, ()), ()))
def Equalintint_31 (N : Nat) (x : ((List Int × (List Int × Unit)) × Unit)) : Option ((Bool × Unit) × Unit) := match x with
  | ((s10, s21, ()), ()) =>
    byB ((s10.length : Int) != (s21.length : Int))
      (some ((false, ()), ()))
      (loopN N (Equalintint_31_L4 N) ((s10, s21, (s10.length : Int), 0, ()), ()))
theorem eq_Equalintint_31 (N : Nat) (x : (ap_Equalintint_31).den) : funX Try.prog (fs16 N) N 31 lo_Equalintint_31 jo_Equalintint_31 Try.f31 ap_Equalintint_31 rp_Equalintint_31 x = Equalintint_31 N x := by kernel_rfl
noncomputable def sp_Equalintint_31 (N : Nat) : FSpec := specOf ap_Equalintint_31 rp_Equalintint_31 true (Equalintint_31 N)
theorem ok_Equalintint_31 (N : Nat) : FSound Try.prog 31 (sp_Equalintint_31 N) := funX_sound (N := N) (loops := lo_Equalintint_31) (joins := jo_Equalintint_31) (fsok16 N) Try.func31 (by kernel_rfl) (by kernel_rfl) fun x _ h => (eq_Equalintint_31 N x).trans h
noncomputable def fs17 (N : Nat) : FuncId → List V1 → List Blk → Option FSpec := fun g xs H => if g = 31 then some (sp_Equalintint_31 N) else fs16 N g xs H
theorem fsok17 (N : Nat) : ∀ g xs H sp, fs17 N g xs H = some sp → FSound Try.prog g sp := fun g xs H sp h => by
  unfold fs17 at h
  by_cases e : g = 31
  · rw [if_pos e] at h; subst e; cases h; exact ok_Equalintint_31 N
  · rw [if_neg e] at h; exact fsok16 N g xs H sp h
/-! Same_14 -/
abbrev ap_Same_14 : Pat := ⟨[.agg [.int .i64, .int .i64, .int .i64, .int .i64, .int .i64, .int .i64, .int .i64, .int .i64, .ro (.pair (.int .i64) (.pair (.int .i64) (.pair (.int .i64) (.ro (.pair (.int .i64) (.pair (.int .i64) (.int .i64)))))))], .agg [.int .i64, .int .i64, .int .i64, .int .i64, .int .i64, .int .i64, .int .i64, .int .i64, .ro (.pair (.int .i64) (.pair (.int .i64) (.pair (.int .i64) (.ro (.pair (.int .i64) (.pair (.int .i64) (.int .i64)))))))]], []⟩
abbrev rp_Same_14 : List Pat := [⟨[.one (.bool)], []⟩]
def lo_Same_14 : List LSpec := []
def jo_Same_14 : List LSpec := []
def Same_14 (N : Nat) (x : (((Int × (Int × (Int × (Int × (Int × (Int × (Int × (Int × (List (Int × (Int × (Int × (List (Int × (Int × Int)))))) × Unit))))))))) × ((Int × (Int × (Int × (Int × (Int × (Int × (Int × (Int × (List (Int × (Int × (Int × (List (Int × (Int × Int)))))) × Unit))))))))) × Unit)) × Unit)) : Option ((Bool × Unit) × Unit) := match x with
  | (((s0, s1, s2, s3, s4, s5, s6, s7, s8, ()), (t9, t10, t11, t12, t13, t14, t15, t16, t17, ()), ()), ()) =>
    (numbers_21 N (((s0, s1, s2, s3, s4, s5, s6, s7, s8, ()), ()), ())).bind fun y18 =>
    (numbers_21 N (((t9, t10, t11, t12, t13, t14, t15, t16, t17, ()), ()), ())).bind fun y19 =>
    (Equalintint_31 N ((y18.2.1, y19.2.1, ()), ())).bind fun y20 =>
    some ((y20.1.1, ()), ())
theorem eq_Same_14 (N : Nat) (x : (ap_Same_14).den) : funX Try.prog (fs17 N) N 14 lo_Same_14 jo_Same_14 Try.f14 ap_Same_14 rp_Same_14 x = Same_14 N x := by kernel_rfl
noncomputable def sp_Same_14 (N : Nat) : FSpec := specOf ap_Same_14 rp_Same_14 true (Same_14 N)
theorem ok_Same_14 (N : Nat) : FSound Try.prog 14 (sp_Same_14 N) := funX_sound (N := N) (loops := lo_Same_14) (joins := jo_Same_14) (fsok17 N) Try.func14 (by kernel_rfl) (by kernel_rfl) fun x _ h => (eq_Same_14 N x).trans h
noncomputable def fs18 (N : Nat) : FuncId → List V1 → List Blk → Option FSpec := fun g xs H => if g = 14 then some (sp_Same_14 N) else fs17 N g xs H
theorem fsok18 (N : Nat) : ∀ g xs H sp, fs18 N g xs H = some sp → FSound Try.prog g sp := fun g xs H sp h => by
  unfold fs18 at h
  by_cases e : g = 14
  · rw [if_pos e] at h; subst e; cases h; exact ok_Same_14 N
  · rw [if_neg e] at h; exact fsok17 N g xs H sp h
/-! examples_8 -/
abbrev ap_examples_8 : Pat := ⟨[], []⟩
abbrev rp_examples_8 : List Pat := [⟨[.one (.bool)], []⟩]
def lo_examples_8 : List LSpec := []
def jo_examples_8 : List LSpec := []
def examples_8 (N : Nat) (x : (Unit × Unit)) : Option ((Bool × Unit) × Unit) := if 300 ≤ N then some ((true, ()), ()) else none
theorem eq_examples_8 (k : Nat) : funX Try.prog (fs18 (k + 300)) (k + 300) 8 lo_examples_8 jo_examples_8 Try.f8 ap_examples_8 rp_examples_8 ((), ()) = some ((true, ()), ()) := by kernel_rfl
noncomputable def sp_examples_8 (N : Nat) : FSpec := specOf ap_examples_8 rp_examples_8 true (examples_8 N)
theorem ok_examples_8 (N : Nat) : FSound Try.prog 8 (sp_examples_8 N) := funX_sound (N := N) (loops := lo_examples_8) (joins := jo_examples_8) (fsok18 N) Try.func8 (by kernel_rfl) (by kernel_rfl) fun x _ h => by
  unfold examples_8 at h
  split at h
  · rename_i hN
    obtain ⟨k, rfl⟩ : ∃ k, N = k + 300 := ⟨N - 300, by omega⟩
    exact (eq_examples_8 k).trans h
  · cases h
noncomputable def fs19 (N : Nat) : FuncId → List V1 → List Blk → Option FSpec := fun g xs H => if g = 8 then some (sp_examples_8 N) else fs18 N g xs H
theorem fsok19 (N : Nat) : ∀ g xs H sp, fs19 N g xs H = some sp → FSound Try.prog g sp := fun g xs H sp h => by
  unfold fs19 at h
  by_cases e : g = 8
  · rw [if_pos e] at h; subst e; cases h; exact ok_examples_8 N
  · rw [if_neg e] at h; exact fsok18 N g xs H sp h
/-! Numbers_23 -/
abbrev ap_Numbers_23 : Pat := ⟨[.agg [.int .i64, .int .i64, .int .i64, .int .i64, .int .i64, .int .i64, .int .i64, .int .i64, .ro (.pair (.int .i64) (.pair (.int .i64) (.pair (.int .i64) (.ro (.pair (.int .i64) (.pair (.int .i64) (.int .i64)))))))]], []⟩
abbrev rp_Numbers_23 : List Pat := [⟨[.one (.full 0)], [.row 3 (.int .i64)]⟩]
def lo_Numbers_23 : List LSpec := [⟨3, [1, 3, 4], ⟨[.one (.ptr 0 0), .one (.full 1), .one (.int .i64)], [.var 24 [.int .i64, .int .i64, .int .i64, .int .i64, .int .i64, .int .i64, .int .i64, .int .i64, .ro (.pair (.int .i64) (.pair (.int .i64) (.pair (.int .i64) (.ro (.pair (.int .i64) (.pair (.int .i64) (.int .i64)))))))], .row 3 (.int .i64)]⟩⟩, ⟨8, [1, 3, 4, 5, 6], ⟨[.one (.ptr 0 0), .one (.full 1), .one (.int .i64), .one (.ptr 2 0), .one (.int .i64)], [.var 24 [.int .i64, .int .i64, .int .i64, .int .i64, .int .i64, .int .i64, .int .i64, .int .i64, .ro (.pair (.int .i64) (.pair (.int .i64) (.pair (.int .i64) (.ro (.pair (.int .i64) (.pair (.int .i64) (.int .i64)))))))], .row 3 (.int .i64), .var 39 [.int .i64, .int .i64, .int .i64, .ro (.pair (.int .i64) (.pair (.int .i64) (.int .i64)))]]⟩⟩]
def jo_Numbers_23 : List LSpec := []
def Numbers_23_L8 (N : Nat) (again3 : ((Unit × (Unit × (Int × Unit))) × ((Int × (Int × (Int × (Int × (Int × (Int × (Int × (Int × (List (Int × (Int × (Int × (List (Int × (Int × Int)))))) × Unit))))))))) × (List Int × Unit))) → Option ((Unit × Unit) × (List Int × Unit))) (again8 : ((Unit × (Unit × (Int × (Unit × (Int × Unit))))) × ((Int × (Int × (Int × (Int × (Int × (Int × (Int × (Int × (List (Int × (Int × (Int × (List (Int × (Int × Int)))))) × Unit))))))))) × (List Int × ((Int × (Int × (Int × (List (Int × (Int × Int)) × Unit)))) × Unit)))) → Option ((Unit × Unit) × (List Int × Unit))) (x : ((Unit × (Unit × (Int × (Unit × (Int × Unit))))) × ((Int × (Int × (Int × (Int × (Int × (Int × (Int × (Int × (List (Int × (Int × (Int × (List (Int × (Int × Int)))))) × Unit))))))))) × (List Int × ((Int × (Int × (Int × (List (Int × (Int × Int)) × Unit)))) × Unit))))) : Option ((Unit × Unit) × (List Int × Unit)) := match x with
  | ((_, _, i26, _, k27, ()), (c28, c29, c30, c31, c32, c33, c34, c35, c36, ()), l37, (c38, c39, c40, c41, ()), ()) =>
    byB (decide (k27 < (c41.length : Int)))
      (if (0 ≤ k27) ∧ (k27 < (c41.length : Int)) then
        (if (0 ≤ k27) ∧ (k27 < (c41.length : Int)) then
        (if (0 ≤ k27) ∧ (k27 < (c41.length : Int)) then
        (if (l37.length + 3) * 8 ≤ 140737488355328 then
        again8 (((), (), i26, (), IntKind.wrap .i64 (k27 + 1), ()), (c28, c29, c30, c31, c32, c33, c34, c35, c36, ()), l37 ++ [(c41.getD k27.toNat (0, 0, 0)).1, (c41.getD k27.toNat (0, 0, 0)).2.1, (c41.getD k27.toNat (0, 0, 0)).2.2], (c38, c39, c40, c41, ()), ())
        else none)
        else none)
        else none)
        else none)
      (again3 (((), (), IntKind.wrap .i64 (i26 + 1), ()), (c28, c29, c30, c31, c32, c33, c34, c35, c36, ()), l37, ()))
def Numbers_23_L3 (N : Nat) (again3 : ((Unit × (Unit × (Int × Unit))) × ((Int × (Int × (Int × (Int × (Int × (Int × (Int × (Int × (List (Int × (Int × (Int × (List (Int × (Int × Int)))))) × Unit))))))))) × (List Int × Unit))) → Option ((Unit × Unit) × (List Int × Unit))) (x : ((Unit × (Unit × (Int × Unit))) × ((Int × (Int × (Int × (Int × (Int × (Int × (Int × (Int × (List (Int × (Int × (Int × (List (Int × (Int × Int)))))) × Unit))))))))) × (List Int × Unit)))) : Option ((Unit × Unit) × (List Int × Unit)) := match x with
  | ((_, _, i10, ()), (c11, c12, c13, c14, c15, c16, c17, c18, c19, ()), l20, ()) =>
    byB (decide (i10 < (c19.length : Int)))
      (if (0 ≤ i10) ∧ (i10 < (c19.length : Int)) then
        let e23 := c19.getD i10.toNat (0, 0, 0, []);
        if (l20.length + 4) * 8 ≤ 140737488355328 then
        loopN N (Numbers_23_L8 N again3) (((), (), i10, (), 0, ()), (c11, c12, c13, c14, c15, c16, c17, c18, c19, ()), l20 ++ [e23.1, e23.2.1, e23.2.2.1, (e23.2.2.2.length : Int)], (e23.1, e23.2.1, e23.2.2.1, e23.2.2.2, ()), ())
        else none
        else none)
      (some (((), ()), l20, ()))
def Numbers_23 (N : Nat) (x : (((Int × (Int × (Int × (Int × (Int × (Int × (Int × (Int × (List (Int × (Int × (Int × (List (Int × (Int × Int)))))) × Unit))))))))) × Unit) × Unit)) : Option ((Unit × Unit) × (List Int × Unit)) := match x with
  | (((s0, s1, s2, s3, s4, s5, s6, s7, s8, ()), ()), ()) =>
    loopN N (Numbers_23_L3 N) (((), (), 0, ()), (s0, s1, s2, s3, s4, s5, s6, s7, s8, ()), [(1 : Int), s0, s1, s2, s3, s4, s5, s6, s7, (s8.length : Int)], ())
theorem eq_Numbers_23 (N : Nat) (x : (ap_Numbers_23).den) : funX Try.prog (fs19 N) N 23 lo_Numbers_23 jo_Numbers_23 Try.f23 ap_Numbers_23 rp_Numbers_23 x = Numbers_23 N x := by kernel_rfl
noncomputable def sp_Numbers_23 (N : Nat) : FSpec := specOf ap_Numbers_23 rp_Numbers_23 true (Numbers_23 N)
theorem ok_Numbers_23 (N : Nat) : FSound Try.prog 23 (sp_Numbers_23 N) := funX_sound (N := N) (loops := lo_Numbers_23) (joins := jo_Numbers_23) (fsok19 N) Try.func23 (by kernel_rfl) (by kernel_rfl) fun x _ h => (eq_Numbers_23 N x).trans h
noncomputable def fs20 (N : Nat) : FuncId → List V1 → List Blk → Option FSpec := fun g xs H => if g = 23 then some (sp_Numbers_23 N) else fs19 N g xs H
theorem fsok20 (N : Nat) : ∀ g xs H sp, fs20 N g xs H = some sp → FSound Try.prog g sp := fun g xs H sp h => by
  unfold fs20 at h
  by_cases e : g = 23
  · rw [if_pos e] at h; subst e; cases h; exact ok_Numbers_23 N
  · rw [if_neg e] at h; exact fsok19 N g xs H sp h
/-! Write_22 -/
abbrev ap_Write_22 : Pat := ⟨[.one (.ro (.int .i64))], []⟩
abbrev rp_Write_22 : List Pat := [⟨[.one (.str), .one (.int .i64)], []⟩]
def lo_Write_22 : List LSpec := [⟨5, [0, 4, 5], ⟨[.one (.ro (.int .i64)), .one (.full 0), .one (.int .i64)], [.row 5 (.int .u8)]⟩⟩, ⟨10, [0, 4, 5, 6, 23, 24], ⟨[.one (.ro (.int .i64)), .one (.full 0), .one (.int .i64), .one (.int .i64), .one (.int .i64), .one (.bool)], [.row 5 (.int .u8)]⟩⟩]
def jo_Write_22 : List LSpec := []
def Write_22_L10 (N : Nat) (again5 : ((List Int × (Unit × (Int × Unit))) × (List Int × Unit)) → Option ((ByteArray × (Int × Unit)) × Unit)) (again10 : ((List Int × (Unit × (Int × (Int × (Int × (Bool × Unit)))))) × (List Int × Unit)) → Option ((ByteArray × (Int × Unit)) × Unit)) (x : ((List Int × (Unit × (Int × (Int × (Int × (Bool × Unit)))))) × (List Int × Unit))) : Option ((ByteArray × (Int × Unit)) × Unit) := match x with
  | ((l11, _, i12, n13, t14, t15, ()), l16, ()) =>
    byB (!decide (n13 < 128))
      (if (l16.length + 1) * 1 ≤ 140737488355328 then
        again10 ((l11, (), i12, IntKind.wrap .i64 (Int.tdiv n13 128), t14, t15, ()), l16 ++ [IntKind.wrap .u8 (IntKind.wrap .i64 (128 + (Int.tmod n13 128)))], ())
        else none)
      (if (l16.length + 1) * 1 ≤ 140737488355328 then
        again5 ((l11, (), IntKind.wrap .i64 (i12 + 1), ()), l16 ++ [IntKind.wrap .u8 n13], ())
        else none)
def Write_22_L5 (N : Nat) (again5 : ((List Int × (Unit × (Int × Unit))) × (List Int × Unit)) → Option ((ByteArray × (Int × Unit)) × Unit)) (x : ((List Int × (Unit × (Int × Unit))) × (List Int × Unit))) : Option ((ByteArray × (Int × Unit)) × Unit) := match x with
  | ((l3, _, i4, ()), l5, ()) =>
    byB (decide (i4 < (l3.length : Int)))
      (if (0 ≤ i4) ∧ (i4 < (l3.length : Int)) then
        let e8 := l3.getD i4.toNat 0;
        byB (decide (e8 < 0))
          (some (((⟨#[]⟩ : ByteArray), 1, ()), ()))
          (let t10 := !decide (e8 ≤ 4611686018427387904);
            byB t10
              (some (((⟨#[]⟩ : ByteArray), 1, ()), ()))
              (loopN N (Write_22_L10 N again5) ((l3, (), i4, e8, e8, t10, ()), l5, ())))
        else none)
      (some ((bytesOf l5, 0, ()), ()))
def Write_22 (N : Nat) (x : ((List Int × Unit) × Unit)) : Option ((ByteArray × (Int × Unit)) × Unit) := match x with
  | ((l0, ()), ()) =>
    byB (!decide ((l0.length : Int) ≤ 2000))
      (some (((⟨#[]⟩ : ByteArray), 7, ()), ()))
      (loopN N (Write_22_L5 N) ((l0, (), 0, ()), [], ()))
theorem eq_Write_22 (N : Nat) (x : (ap_Write_22).den) : funX Try.prog (fs20 N) N 22 lo_Write_22 jo_Write_22 Try.f22 ap_Write_22 rp_Write_22 x = Write_22 N x := by kernel_rfl
noncomputable def sp_Write_22 (N : Nat) : FSpec := specOf ap_Write_22 rp_Write_22 true (Write_22 N)
theorem ok_Write_22 (N : Nat) : FSound Try.prog 22 (sp_Write_22 N) := funX_sound (N := N) (loops := lo_Write_22) (joins := jo_Write_22) (fsok20 N) Try.func22 (by kernel_rfl) (by kernel_rfl) fun x _ h => (eq_Write_22 N x).trans h
noncomputable def fs21 (N : Nat) : FuncId → List V1 → List Blk → Option FSpec := fun g xs H => if g = 22 then some (sp_Write_22 N) else fs20 N g xs H
theorem fsok21 (N : Nat) : ∀ g xs H sp, fs21 N g xs H = some sp → FSound Try.prog g sp := fun g xs H sp h => by
  unfold fs21 at h
  by_cases e : g = 22
  · rw [if_pos e] at h; subst e; cases h; exact ok_Write_22 N
  · rw [if_neg e] at h; exact fsok20 N g xs H sp h
/-! Sum_35 -/
abbrev ap_Sum_35 : Pat := ⟨[.one (.str)], []⟩
abbrev rp_Sum_35 : List Pat := [⟨[.one (.int .i64)], []⟩]
def lo_Sum_35 : List LSpec := [⟨3, [0, 3, 4], ⟨[.one (.str), .one (.int .i64), .one (.int .i64)], []⟩⟩, ⟨6, [0, 3, 4, 5], ⟨[.one (.str), .one (.int .i64), .one (.int .i64), .one (.int .i64)], []⟩⟩]
def jo_Sum_35 : List LSpec := []
def Sum_35_L6 (N : Nat) (again3 : ((ByteArray × (Int × (Int × Unit))) × Unit) → Option ((Int × Unit) × Unit)) (again6 : ((ByteArray × (Int × (Int × (Int × Unit)))) × Unit) → Option ((Int × Unit) × Unit)) (x : ((ByteArray × (Int × (Int × (Int × Unit)))) × Unit)) : Option ((Int × Unit) × Unit) := match x with
  | ((s6, v7, i8, k9, ()), ()) =>
    byB (!decide (k9 < 0))
      (if h11 : 0 ≤ i8 ∧ i8.toNat < s6.size then
        if k9 < 0 then
          none
        else
        let t18 := Int.tmod (IntKind.wrap .i64 (2 * v7)) 65536;
        byB ((Int.tmod (Int.fdiv (IntKind.wrap .i64 (((s6[i8.toNat]'h11.2).toNat : Int))) (2 ^ (min k9.toNat (IntKind.bits .i64)))) 2) != (IntKind.wrap .i64 (Int.tdiv v7 32768)))
          (again6 ((s6, IntKind.wrap .i64 (BitVec.ofInt (IntKind.bits .i64) t18 ^^^ BitVec.ofInt (IntKind.bits .i64) 4129).toNat, i8, IntKind.wrap .i64 (k9 - 1), ()), ()))
          (again6 ((s6, t18, i8, IntKind.wrap .i64 (k9 - 1), ()), ()))
        else none)
      (again3 ((s6, v7, IntKind.wrap .i64 (i8 + 1), ()), ()))
def Sum_35_L3 (N : Nat) (again3 : ((ByteArray × (Int × (Int × Unit))) × Unit) → Option ((Int × Unit) × Unit)) (x : ((ByteArray × (Int × (Int × Unit))) × Unit)) : Option ((Int × Unit) × Unit) := match x with
  | ((s1, v2, i3, ()), ()) =>
    byB (decide (i3 < ((s1.size) : Int)))
      (loopN N (Sum_35_L6 N again3) ((s1, v2, i3, 7, ()), ()))
      (some ((v2, ()), ()))
def Sum_35 (N : Nat) (x : ((ByteArray × Unit) × Unit)) : Option ((Int × Unit) × Unit) := match x with
  | ((s0, ()), ()) =>
    loopN N (Sum_35_L3 N) ((s0, 65535, 0, ()), ())
theorem eq_Sum_35 (N : Nat) (x : (ap_Sum_35).den) : funX Try.prog (fs21 N) N 35 lo_Sum_35 jo_Sum_35 Try.f35 ap_Sum_35 rp_Sum_35 x = Sum_35 N x := by kernel_rfl
noncomputable def sp_Sum_35 (N : Nat) : FSpec := specOf ap_Sum_35 rp_Sum_35 true (Sum_35 N)
theorem ok_Sum_35 (N : Nat) : FSound Try.prog 35 (sp_Sum_35 N) := funX_sound (N := N) (loops := lo_Sum_35) (joins := jo_Sum_35) (fsok21 N) Try.func35 (by kernel_rfl) (by kernel_rfl) fun x _ h => (eq_Sum_35 N x).trans h
noncomputable def fs22 (N : Nat) : FuncId → List V1 → List Blk → Option FSpec := fun g xs H => if g = 35 then some (sp_Sum_35 N) else fs21 N g xs H
theorem fsok22 (N : Nat) : ∀ g xs H sp, fs22 N g xs H = some sp → FSound Try.prog g sp := fun g xs H sp h => by
  unfold fs22 at h
  by_cases e : g = 35
  · rw [if_pos e] at h; subst e; cases h; exact ok_Sum_35 N
  · rw [if_neg e] at h; exact fsok21 N g xs H sp h
/-! Seal_24 -/
abbrev ap_Seal_24 : Pat := ⟨[.one (.str)], []⟩
abbrev rp_Seal_24 : List Pat := [⟨[.one (.str), .one (.bool)], []⟩]
def lo_Seal_24 : List LSpec := []
def jo_Seal_24 : List LSpec := []
def Seal_24 (N : Nat) (x : ((ByteArray × Unit) × Unit)) : Option ((ByteArray × (Bool × Unit)) × Unit) := match x with
  | ((s0, ()), ()) =>
    byB (!decide (((s0.size) : Int) ≤ 100000))
      (some (((⟨#[]⟩ : ByteArray), false, ()), ()))
      ((Sum_35 N ((s0, ()), ())).bind fun y3 =>
        let t8 := bytesOf [IntKind.wrap .u8 (IntKind.wrap .i64 (Int.tdiv y3.1.1 256)), IntKind.wrap .u8 (Int.tmod y3.1.1 256)];
        if s0.size + t8.size ≤ 9223372036854775807 then
        some ((s0 ++ t8, true, ()), ())
        else none)
theorem eq_Seal_24 (N : Nat) (x : (ap_Seal_24).den) : funX Try.prog (fs22 N) N 24 lo_Seal_24 jo_Seal_24 Try.f24 ap_Seal_24 rp_Seal_24 x = Seal_24 N x := by kernel_rfl
noncomputable def sp_Seal_24 (N : Nat) : FSpec := specOf ap_Seal_24 rp_Seal_24 true (Seal_24 N)
theorem ok_Seal_24 (N : Nat) : FSound Try.prog 24 (sp_Seal_24 N) := funX_sound (N := N) (loops := lo_Seal_24) (joins := jo_Seal_24) (fsok22 N) Try.func24 (by kernel_rfl) (by kernel_rfl) fun x _ h => (eq_Seal_24 N x).trans h
noncomputable def fs23 (N : Nat) : FuncId → List V1 → List Blk → Option FSpec := fun g xs H => if g = 24 then some (sp_Seal_24 N) else fs22 N g xs H
theorem fsok23 (N : Nat) : ∀ g xs H sp, fs23 N g xs H = some sp → FSound Try.prog g sp := fun g xs H sp h => by
  unfold fs23 at h
  by_cases e : g = 24
  · rw [if_pos e] at h; subst e; cases h; exact ok_Seal_24 N
  · rw [if_neg e] at h; exact fsok22 N g xs H sp h
/-! Encode_10 -/
abbrev ap_Encode_10 : Pat := ⟨[.agg [.int .i64, .int .i64, .int .i64, .int .i64, .int .i64, .int .i64, .int .i64, .int .i64, .ro (.pair (.int .i64) (.pair (.int .i64) (.pair (.int .i64) (.ro (.pair (.int .i64) (.pair (.int .i64) (.int .i64)))))))]], []⟩
abbrev rp_Encode_10 : List Pat := [⟨[.one (.str), .one (.int .i64)], []⟩]
def lo_Encode_10 : List LSpec := [⟨4, [1, 4], ⟨[.one (.ptr 0 0), .one (.int .i64)], [.var 24 [.int .i64, .int .i64, .int .i64, .int .i64, .int .i64, .int .i64, .int .i64, .int .i64, .ro (.pair (.int .i64) (.pair (.int .i64) (.pair (.int .i64) (.ro (.pair (.int .i64) (.pair (.int .i64) (.int .i64)))))))]]⟩⟩]
def jo_Encode_10 : List LSpec := []
def Encode_10_L4 (N : Nat) (again4 : ((Unit × (Int × Unit)) × ((Int × (Int × (Int × (Int × (Int × (Int × (Int × (Int × (List (Int × (Int × (Int × (List (Int × (Int × Int)))))) × Unit))))))))) × Unit)) → Option ((ByteArray × (Int × Unit)) × Unit)) (x : ((Unit × (Int × Unit)) × ((Int × (Int × (Int × (Int × (Int × (Int × (Int × (Int × (List (Int × (Int × (Int × (List (Int × (Int × Int)))))) × Unit))))))))) × Unit))) : Option ((ByteArray × (Int × Unit)) × Unit) := match x with
  | ((_, i11, ()), (c12, c13, c14, c15, c16, c17, c18, c19, c20, ()), ()) =>
    byB (decide (i11 < (c20.length : Int)))
      (if (0 ≤ i11) ∧ (i11 < (c20.length : Int)) then
        byB (!decide (((c20.getD i11.toNat (0, 0, 0, [])).2.2.2.length : Int) ≤ 4))
          (some (((⟨#[]⟩ : ByteArray), 7, ()), ()))
          (again4 (((), IntKind.wrap .i64 (i11 + 1), ()), (c12, c13, c14, c15, c16, c17, c18, c19, c20, ()), ()))
        else none)
      ((Numbers_23 N (((c12, c13, c14, c15, c16, c17, c18, c19, c20, ()), ()), ())).bind fun y27 =>
        (Write_22 N ((y27.2.1, ()), ())).bind fun y28 =>
        byB (y28.1.2.1 != 0)
          (some (((⟨#[]⟩ : ByteArray), y28.1.2.1, ()), ()))
          ((Seal_24 N ((y28.1.1, ()), ())).bind fun y30 =>
            some ((y30.1.1, 0, ()), ())))
def Encode_10 (N : Nat) (x : (((Int × (Int × (Int × (Int × (Int × (Int × (Int × (Int × (List (Int × (Int × (Int × (List (Int × (Int × Int)))))) × Unit))))))))) × Unit) × Unit)) : Option ((ByteArray × (Int × Unit)) × Unit) := match x with
  | (((s0, s1, s2, s3, s4, s5, s6, s7, s8, ()), ()), ()) =>
    byB (!decide ((s8.length : Int) ≤ 24))
      (some (((⟨#[]⟩ : ByteArray), 7, ()), ()))
      (loopN N (Encode_10_L4 N) (((), 0, ()), (s0, s1, s2, s3, s4, s5, s6, s7, s8, ()), ()))
theorem eq_Encode_10 (N : Nat) (x : (ap_Encode_10).den) : funX Try.prog (fs23 N) N 10 lo_Encode_10 jo_Encode_10 Try.f10 ap_Encode_10 rp_Encode_10 x = Encode_10 N x := by kernel_rfl
noncomputable def sp_Encode_10 (N : Nat) : FSpec := specOf ap_Encode_10 rp_Encode_10 true (Encode_10 N)
theorem ok_Encode_10 (N : Nat) : FSound Try.prog 10 (sp_Encode_10 N) := funX_sound (N := N) (loops := lo_Encode_10) (joins := jo_Encode_10) (fsok23 N) Try.func10 (by kernel_rfl) (by kernel_rfl) fun x _ h => (eq_Encode_10 N x).trans h
noncomputable def fs24 (N : Nat) : FuncId → List V1 → List Blk → Option FSpec := fun g xs H => if g = 10 then some (sp_Encode_10 N) else fs23 N g xs H
theorem fsok24 (N : Nat) : ∀ g xs H sp, fs24 N g xs H = some sp → FSound Try.prog g sp := fun g xs H sp h => by
  unfold fs24 at h
  by_cases e : g = 10
  · rw [if_pos e] at h; subst e; cases h; exact ok_Encode_10 N
  · rw [if_neg e] at h; exact fsok23 N g xs H sp h
/-! TasksetWrites_3 -/
abbrev ap_TasksetWrites_3 : Pat := ⟨[.agg [.int .i64, .int .i64, .int .i64, .int .i64, .int .i64, .int .i64, .int .i64, .int .i64, .ro (.pair (.int .i64) (.pair (.int .i64) (.pair (.int .i64) (.ro (.pair (.int .i64) (.pair (.int .i64) (.int .i64)))))))]], []⟩
abbrev rp_TasksetWrites_3 : List Pat := [⟨[.one (.bool)], []⟩]
def lo_TasksetWrites_3 : List LSpec := []
def jo_TasksetWrites_3 : List LSpec := []
def TasksetWrites_3 (N : Nat) (x : (((Int × (Int × (Int × (Int × (Int × (Int × (Int × (Int × (List (Int × (Int × (Int × (List (Int × (Int × Int)))))) × Unit))))))))) × Unit) × Unit)) : Option ((Bool × Unit) × Unit) := match x with
  | (((s0, s1, s2, s3, s4, s5, s6, s7, s8, ()), ()), ()) =>
    (examples_8 N ((), ())).bind fun y9 =>
    (Encode_9 N (((s0, s1, s2, s3, s4, s5, s6, s7, s8, ()), ()), ())).bind fun y10 =>
    (Encode_10 N (((s0, s1, s2, s3, s4, s5, s6, s7, s8, ()), ()), ())).bind fun y11 =>
    byB y9.1.1
      (byB (y10.1.1.toList == y11.1.1.toList)
          (some ((y10.1.2.1 == y11.1.2.1, ()), ()))
          (some ((false, ()), ())))
      (some ((false, ()), ()))
theorem eq_TasksetWrites_3 (N : Nat) (x : (ap_TasksetWrites_3).den) : funX Try.prog (fs24 N) N 3 lo_TasksetWrites_3 jo_TasksetWrites_3 Try.f3 ap_TasksetWrites_3 rp_TasksetWrites_3 x = TasksetWrites_3 N x := by kernel_rfl
noncomputable def sp_TasksetWrites_3 (N : Nat) : FSpec := specOf ap_TasksetWrites_3 rp_TasksetWrites_3 true (TasksetWrites_3 N)
theorem ok_TasksetWrites_3 (N : Nat) : FSound Try.prog 3 (sp_TasksetWrites_3 N) := funX_sound (N := N) (loops := lo_TasksetWrites_3) (joins := jo_TasksetWrites_3) (fsok24 N) Try.func3 (by kernel_rfl) (by kernel_rfl) fun x _ h => (eq_TasksetWrites_3 N x).trans h
noncomputable def fs25 (N : Nat) : FuncId → List V1 → List Blk → Option FSpec := fun g xs H => if g = 3 then some (sp_TasksetWrites_3 N) else fs24 N g xs H
theorem fsok25 (N : Nat) : ∀ g xs H sp, fs25 N g xs H = some sp → FSound Try.prog g sp := fun g xs H sp h => by
  unfold fs25 at h
  by_cases e : g = 3
  · rw [if_pos e] at h; subst e; cases h; exact ok_TasksetWrites_3 N
  · rw [if_neg e] at h; exact fsok24 N g xs H sp h
/-! TasksetBack_5 -/
abbrev ap_TasksetBack_5 : Pat := ⟨[.agg [.int .i64, .int .i64, .int .i64, .int .i64, .int .i64, .int .i64, .int .i64, .int .i64, .ro (.pair (.int .i64) (.pair (.int .i64) (.pair (.int .i64) (.ro (.pair (.int .i64) (.pair (.int .i64) (.int .i64)))))))], .one (.str)], []⟩
abbrev rp_TasksetBack_5 : List Pat := [⟨[.one (.bool)], []⟩]
def lo_TasksetBack_5 : List LSpec := []
def jo_TasksetBack_5 : List LSpec := []
def TasksetBack_5 (N : Nat) (x : (((Int × (Int × (Int × (Int × (Int × (Int × (Int × (Int × (List (Int × (Int × (Int × (List (Int × (Int × Int)))))) × Unit))))))))) × (ByteArray × Unit)) × Unit)) : Option ((Bool × Unit) × Unit) := match x with
  | (((s0, s1, s2, s3, s4, s5, s6, s7, s8, ()), b9, ()), ()) =>
    (examples_8 N ((), ())).bind fun y10 =>
    (Encode_9 N (((s0, s1, s2, s3, s4, s5, s6, s7, s8, ()), ()), ())).bind fun y11 =>
    byB (y11.1.2.1 == 0)
      ((Decode_12v1 N ((y11.1.1, ()), ())).bind fun y13 =>
        (Same_14 N (((y13.1.1.1, y13.1.1.2.1, y13.1.1.2.2.1, y13.1.1.2.2.2.1, y13.1.1.2.2.2.2.1, y13.1.1.2.2.2.2.2.1, y13.1.1.2.2.2.2.2.2.1, y13.1.1.2.2.2.2.2.2.2.1, y13.2.1, ()), (s0, s1, s2, s3, s4, s5, s6, s7, s8, ()), ()), ())).bind fun y14 =>
        byB (!y14.1.1)
          (some ((false, ()), ()))
          (byB (y13.1.2.1 != 0)
              (some ((false, ()), ()))
              ((Decode_12v1 N ((b9, ()), ())).bind fun y17 =>
                byB (y17.1.2.1 != 0)
                  (byB y10.1.1
                      (byB (y17.1.1.1 == 0)
                          (some (((y17.2.1.length : Int) == 0, ()), ()))
                          (some ((false, ()), ())))
                      (some ((false, ()), ())))
                  ((Encode_9 N (((y17.1.1.1, y17.1.1.2.1, y17.1.1.2.2.1, y17.1.1.2.2.2.1, y17.1.1.2.2.2.2.1, y17.1.1.2.2.2.2.2.1, y17.1.1.2.2.2.2.2.2.1, y17.1.1.2.2.2.2.2.2.2.1, y17.2.1, ()), ()), ())).bind fun y22 =>
                    byB y10.1.1
                      (byB (y22.1.2.1 == 0)
                          (some ((y22.1.1.toList == b9.toList, ()), ()))
                          (some ((false, ()), ())))
                      (some ((false, ()), ()))))))
      ((Decode_12v1 N ((b9, ()), ())).bind fun y25 =>
        byB (y25.1.2.1 != 0)
          (byB y10.1.1
              (byB (y25.1.1.1 == 0)
                  (some (((y25.2.1.length : Int) == 0, ()), ()))
                  (some ((false, ()), ())))
              (some ((false, ()), ())))
          ((Encode_9 N (((y25.1.1.1, y25.1.1.2.1, y25.1.1.2.2.1, y25.1.1.2.2.2.1, y25.1.1.2.2.2.2.1, y25.1.1.2.2.2.2.2.1, y25.1.1.2.2.2.2.2.2.1, y25.1.1.2.2.2.2.2.2.2.1, y25.2.1, ()), ()), ())).bind fun y30 =>
            byB y10.1.1
              (byB (y30.1.2.1 == 0)
                  (some ((y30.1.1.toList == b9.toList, ()), ()))
                  (some ((false, ()), ())))
              (some ((false, ()), ()))))
theorem eq_TasksetBack_5 (N : Nat) (x : (ap_TasksetBack_5).den) : funX Try.prog (fs25 N) N 5 lo_TasksetBack_5 jo_TasksetBack_5 Try.f5 ap_TasksetBack_5 rp_TasksetBack_5 x = TasksetBack_5 N x := by kernel_rfl
noncomputable def sp_TasksetBack_5 (N : Nat) : FSpec := specOf ap_TasksetBack_5 rp_TasksetBack_5 true (TasksetBack_5 N)
theorem ok_TasksetBack_5 (N : Nat) : FSound Try.prog 5 (sp_TasksetBack_5 N) := funX_sound (N := N) (loops := lo_TasksetBack_5) (joins := jo_TasksetBack_5) (fsok25 N) Try.func5 (by kernel_rfl) (by kernel_rfl) fun x _ h => (eq_TasksetBack_5 N x).trans h
noncomputable def fs26 (N : Nat) : FuncId → List V1 → List Blk → Option FSpec := fun g xs H => if g = 5 then some (sp_TasksetBack_5 N) else fs25 N g xs H
theorem fsok26 (N : Nat) : ∀ g xs H sp, fs26 N g xs H = some sp → FSound Try.prog g sp := fun g xs H sp h => by
  unfold fs26 at h
  by_cases e : g = 5
  · rw [if_pos e] at h; subst e; cases h; exact ok_TasksetBack_5 N
  · rw [if_neg e] at h; exact fsok25 N g xs H sp h
/-! TasksetTells_6 -/
abbrev ap_TasksetTells_6 : Pat := ⟨[.agg [.int .i64, .int .i64, .int .i64, .int .i64, .int .i64, .int .i64, .int .i64, .int .i64, .ro (.pair (.int .i64) (.pair (.int .i64) (.pair (.int .i64) (.ro (.pair (.int .i64) (.pair (.int .i64) (.int .i64)))))))], .agg [.int .i64, .int .i64, .int .i64, .int .i64, .int .i64, .int .i64, .int .i64, .int .i64, .ro (.pair (.int .i64) (.pair (.int .i64) (.pair (.int .i64) (.ro (.pair (.int .i64) (.pair (.int .i64) (.int .i64)))))))]], []⟩
abbrev rp_TasksetTells_6 : List Pat := [⟨[.one (.bool)], []⟩]
def lo_TasksetTells_6 : List LSpec := []
def jo_TasksetTells_6 : List LSpec := []
def TasksetTells_6 (N : Nat) (x : (((Int × (Int × (Int × (Int × (Int × (Int × (Int × (Int × (List (Int × (Int × (Int × (List (Int × (Int × Int)))))) × Unit))))))))) × ((Int × (Int × (Int × (Int × (Int × (Int × (Int × (Int × (List (Int × (Int × (Int × (List (Int × (Int × Int)))))) × Unit))))))))) × Unit)) × Unit)) : Option ((Bool × Unit) × Unit) := match x with
  | (((s0, s1, s2, s3, s4, s5, s6, s7, s8, ()), (t9, t10, t11, t12, t13, t14, t15, t16, t17, ()), ()), ()) =>
    (examples_8 N ((), ())).bind fun y18 =>
    (Encode_9 N (((s0, s1, s2, s3, s4, s5, s6, s7, s8, ()), ()), ())).bind fun y19 =>
    (Encode_9 N (((t9, t10, t11, t12, t13, t14, t15, t16, t17, ()), ()), ())).bind fun y20 =>
    byB (y19.1.2.1 != 0)
      (byB y18.1.1
          (byB (y19.1.2.1 == 1)
              (some ((true, ()), ()))
              (byB (y19.1.2.1 == 7)
                  (some ((true, ()), ()))
                  (byB (y20.1.2.1 == 1)
                      (some ((true, ()), ()))
                      (some ((y20.1.2.1 == 7, ()), ())))))
          (some ((false, ()), ())))
      (byB (y20.1.2.1 != 0)
          (byB y18.1.1
              (byB (y19.1.2.1 == 1)
                  (some ((true, ()), ()))
                  (byB (y19.1.2.1 == 7)
                      (some ((true, ()), ()))
                      (byB (y20.1.2.1 == 1)
                          (some ((true, ()), ()))
                          (some ((y20.1.2.1 == 7, ()), ())))))
              (some ((false, ()), ())))
          (byB y18.1.1
              ((Same_14 N (((s0, s1, s2, s3, s4, s5, s6, s7, s8, ()), (t9, t10, t11, t12, t13, t14, t15, t16, t17, ()), ()), ())).bind fun y32 =>
                byB ((y19.1.1.toList == y20.1.1.toList) == y32.1.1)
                  ((Same_14 N (((s0, s1, s2, s3, s4, s5, s6, s7, s8, ()), (s0, s1, s2, s3, s4, s5, s6, s7, s8, ()), ()), ())).bind fun y34 =>
                    some ((y34.1.1, ()), ()))
                  (some ((false, ()), ())))
              (some ((false, ()), ()))))
theorem eq_TasksetTells_6 (N : Nat) (x : (ap_TasksetTells_6).den) : funX Try.prog (fs26 N) N 6 lo_TasksetTells_6 jo_TasksetTells_6 Try.f6 ap_TasksetTells_6 rp_TasksetTells_6 x = TasksetTells_6 N x := by kernel_rfl
noncomputable def sp_TasksetTells_6 (N : Nat) : FSpec := specOf ap_TasksetTells_6 rp_TasksetTells_6 true (TasksetTells_6 N)
theorem ok_TasksetTells_6 (N : Nat) : FSound Try.prog 6 (sp_TasksetTells_6 N) := funX_sound (N := N) (loops := lo_TasksetTells_6) (joins := jo_TasksetTells_6) (fsok26 N) Try.func6 (by kernel_rfl) (by kernel_rfl) fun x _ h => (eq_TasksetTells_6 N x).trans h
noncomputable def fs27 (N : Nat) : FuncId → List V1 → List Blk → Option FSpec := fun g xs H => if g = 6 then some (sp_TasksetTells_6 N) else fs26 N g xs H
theorem fsok27 (N : Nat) : ∀ g xs H sp, fs27 N g xs H = some sp → FSound Try.prog g sp := fun g xs H sp h => by
  unfold fs27 at h
  by_cases e : g = 6
  · rw [if_pos e] at h; subst e; cases h; exact ok_TasksetTells_6 N
  · rw [if_neg e] at h; exact fsok26 N g xs H sp h
/-! TasksetCuts_7 -/
abbrev ap_TasksetCuts_7 : Pat := ⟨[.agg [.int .i64, .int .i64, .int .i64, .int .i64, .int .i64, .int .i64, .int .i64, .int .i64, .ro (.pair (.int .i64) (.pair (.int .i64) (.pair (.int .i64) (.ro (.pair (.int .i64) (.pair (.int .i64) (.int .i64)))))))], .one (.int .i64), .one (.ro (.int .i64))], []⟩
abbrev rp_TasksetCuts_7 : List Pat := [⟨[.one (.bool)], []⟩]
def lo_TasksetCuts_7 : List LSpec := []
def jo_TasksetCuts_7 : List LSpec := [⟨8, [1, 2, 7, 12, 59], ⟨[.one (.int .i64), .one (.ro (.int .i64)), .one (.bool), .one (.ro (.int .i64)), .one (.bool)], []⟩⟩, ⟨11, [1, 2, 7, 12], ⟨[.one (.int .i64), .one (.ro (.int .i64)), .one (.bool), .one (.ro (.int .i64))], []⟩⟩]
def TasksetCuts_7_J11 (N : Nat) (x : ((Int × (List Int × (Bool × (List Int × Unit)))) × Unit)) : Option ((Bool × Unit) × Unit) := match x with
  | ((cut30, more31, head32, l33, ()), ()) =>
    let t34 := (l33.length : Int);
    if t34 = 0 then
      none
    else
    let t35 := Int.tmod cut30 t34;
    if ((0 : Int) ≤ 0) ∧ (0 ≤ t35) ∧ (t35 ≤ (l33.length : Int)) then
    (Write_17 N ((l33.take t35.toNat, ()), ())).bind fun y37 =>
    (Seal_18 N ((y37.1.1, ()), ())).bind fun y38 =>
    (Decode_12v1 N ((y38.1.1, ()), ())).bind fun y39 =>
    if (0 + l33.length) * 8 ≤ 140737488355328 then
    (if (l33.length + more31.length) * 8 ≤ 140737488355328 then
    (Write_17 N ((l33 ++ more31, ()), ())).bind fun y41 =>
    (Seal_18 N ((y41.1.1, ()), ())).bind fun y42 =>
    (Decode_12v1 N ((y42.1.1, ()), ())).bind fun y43 =>
    byB head32
      (byB (y39.1.2.1 == 8)
          (byB ((more31.length : Int) == 0)
              (some ((true, ()), ()))
              (byB (y41.1.2.1 != 0)
                  (some ((true, ()), ()))
                  (some ((y43.1.2.1 == 8, ()), ()))))
          (some ((false, ()), ())))
      (some ((false, ()), ()))
    else none)
    else none
    else none
def TasksetCuts_7_J8 (N : Nat) (x : ((Int × (List Int × (Bool × (List Int × (Bool × Unit))))) × Unit)) : Option ((Bool × Unit) × Unit) := match x with
  | ((cut22, more23, head24, l25, t26, ()), ()) =>
    byB t26
      (some ((false, ()), ()))
      (withJoin (TasksetCuts_7_J11 N) fun join11 =>
        byB (decide (cut22 < 0))
          (join11 ((IntKind.wrap .i64 (0 - (IntKind.wrap .i64 (cut22 + 1))), more23, head24, l25, ()), ()))
          (join11 ((cut22, more23, head24, l25, ()), ())))
def TasksetCuts_7 (N : Nat) (x : (((Int × (Int × (Int × (Int × (Int × (Int × (Int × (Int × (List (Int × (Int × (Int × (List (Int × (Int × Int)))))) × Unit))))))))) × (Int × (List Int × Unit))) × Unit)) : Option ((Bool × Unit) × Unit) := match x with
  | (((s0, s1, s2, s3, s4, s5, s6, s7, s8, ()), cut9, more10, ()), ()) =>
    (examples_8 N ((), ())).bind fun y11 =>
    (Encode_9 N (((s0, s1, s2, s3, s4, s5, s6, s7, s8, ()), ()), ())).bind fun y12 =>
    byB (y12.1.2.1 != 0)
      (byB y11.1.1
          (byB (y12.1.2.1 == 1)
              (some ((true, ()), ()))
              (some ((y12.1.2.1 == 7, ()), ())))
          (some ((false, ()), ())))
      ((Open_15 N ((y12.1.1, ()), ())).bind fun y16 =>
        (Read_16v1 N ((y16.1.1, ()), ())).bind fun y17 =>
        withJoin (TasksetCuts_7_J8 N) fun join8 =>
        byB (y16.1.2.1 != 0)
          (join8 ((cut9, more10, y11.1.1, y17.1.1, true, ()), ()))
          (byB (y17.1.2.1 != 0)
              (join8 ((cut9, more10, y11.1.1, y17.1.1, true, ()), ()))
              (join8 ((cut9, more10, y11.1.1, y17.1.1, decide ((y17.1.1.length : Int) < 10), ()), ()))))
theorem eq_TasksetCuts_7 (N : Nat) (x : (ap_TasksetCuts_7).den) : funX Try.prog (fs27 N) N 7 lo_TasksetCuts_7 jo_TasksetCuts_7 Try.f7 ap_TasksetCuts_7 rp_TasksetCuts_7 x = TasksetCuts_7 N x := by kernel_rfl
noncomputable def sp_TasksetCuts_7 (N : Nat) : FSpec := specOf ap_TasksetCuts_7 rp_TasksetCuts_7 true (TasksetCuts_7 N)
theorem ok_TasksetCuts_7 (N : Nat) : FSound Try.prog 7 (sp_TasksetCuts_7 N) := funX_sound (N := N) (loops := lo_TasksetCuts_7) (joins := jo_TasksetCuts_7) (fsok27 N) Try.func7 (by kernel_rfl) (by kernel_rfl) fun x _ h => (eq_TasksetCuts_7 N x).trans h
noncomputable def fs28 (N : Nat) : FuncId → List V1 → List Blk → Option FSpec := fun g xs H => if g = 7 then some (sp_TasksetCuts_7 N) else fs27 N g xs H
theorem fsok28 (N : Nat) : ∀ g xs H sp, fs28 N g xs H = some sp → FSound Try.prog g sp := fun g xs H sp h => by
  unfold fs28 at h
  by_cases e : g = 7
  · rw [if_pos e] at h; subst e; cases h; exact ok_TasksetCuts_7 N
  · rw [if_neg e] at h; exact fsok27 N g xs H sp h
end Go.Proofs.YtcdnofemnpafhaaX
