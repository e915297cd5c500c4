/- Functions of the program as plain Lean, each with its equation (printed by a program of this seat's own). Conditions: none. -/
import Derived.Test.YtecefkenfpbfkaaM6
import Derived.Test.YtecefkenfpbfkaaProg
import Derived.KernelRfl
namespace Go.Proofs.YtecefkenfpbfkaaX
open Go Go.Proofs.YtecefkenfpbfkaaM
set_option maxRecDepth 100000
set_option linter.unusedVariables false
noncomputable def fs0 (_ : Nat) : FuncId → List V1 → List Blk → Option FSpec := fun _ _ _ => none
theorem fsok0 (N : Nat) : ∀ g xs H sp, fs0 N g xs H = some sp → FSound Try.prog g sp := fun _ _ _ _ h => by cases h
/-! Write_11 -/
abbrev ap_Write_11 : Pat := ⟨[.one (.ro (.int .i64))], []⟩
abbrev rp_Write_11 : List Pat := [⟨[.one (.str), .one (.int .i64)], []⟩]
def lo_Write_11 : List LSpec := [⟨5, [4, 12, 13, 14], ⟨[.one (.full 0), .one (.ro (.int .i64)), .one (.int .i64), .one (.int .i64)], [.row 5 (.int .u8)]⟩⟩, ⟨10, [4, 7, 12, 13, 14, 21, 22], ⟨[.one (.full 0), .one (.int .u64), .one (.ro (.int .i64)), .one (.int .i64), .one (.int .i64), .one (.int .i64), .one (.bool)], [.row 5 (.int .u8)]⟩⟩]
def jo_Write_11 : List LSpec := []
def Write_11_L10 (N : Nat) (again5 : ((Unit × (List Int × (Int × (Int × Unit)))) × (List Int × Unit)) → Option ((ByteArray × (Int × Unit)) × Unit)) (again10 : ((Unit × (Int × (List Int × (Int × (Int × (Int × (Bool × Unit))))))) × (List Int × Unit)) → Option ((ByteArray × (Int × Unit)) × Unit)) (x : ((Unit × (Int × (List Int × (Int × (Int × (Int × (Bool × Unit))))))) × (List Int × Unit))) : Option ((ByteArray × (Int × Unit)) × Unit) := match x with
  | ((_, u13, t14, t15, t16, t17, t18, ()), l19, ()) =>
    let t20 := IntKind.wrap .u64 (BitVec.ofInt (IntKind.bits .u64) u13 &&& BitVec.ofInt (IntKind.bits .u64) 127).toNat;
    byB ((Int.fdiv u13 (2 ^ 7)) == 0)
      (if (l19.length + 1) * 1 ≤ 140737488355328 then
        again5 (((), t14, t15, IntKind.wrap .i64 (t16 + 1), ()), l19 ++ [IntKind.wrap .u8 t20], ())
        else none)
      (if (l19.length + 1) * 1 ≤ 140737488355328 then
        again10 (((), Int.fdiv u13 (2 ^ 7), t14, t15, t16, t17, t18, ()), l19 ++ [IntKind.wrap .u8 (BitVec.ofInt (IntKind.bits .u8) (IntKind.wrap .u8 t20) ||| BitVec.ofInt (IntKind.bits .u8) 128).toNat], ())
        else none)
def Write_11_L5 (N : Nat) (again5 : ((Unit × (List Int × (Int × (Int × Unit)))) × (List Int × Unit)) → Option ((ByteArray × (Int × Unit)) × Unit)) (x : ((Unit × (List Int × (Int × (Int × Unit)))) × (List Int × Unit))) : Option ((ByteArray × (Int × Unit)) × Unit) := match x with
  | ((_, t4, t5, t6, ()), l7, ()) =>
    byB (decide (t6 < t5))
      (if (0 ≤ t6) ∧ (t6 < (t4.length : Int)) then
        let e9 := t4.getD t6.toNat 0;
        byB (decide (e9 < 0))
          (some (((⟨#[]⟩ : ByteArray), 1, ()), ()))
          (let t11 := !decide (e9 ≤ 4611686018427387904);
            byB t11
              (some (((⟨#[]⟩ : ByteArray), 1, ()), ()))
              (loopN N (Write_11_L10 N again5) (((), IntKind.wrap .u64 e9, t4, t5, t6, e9, t11, ()), l7, ())))
        else none)
      (some ((bytesOf l7, 0, ()), ()))
def Write_11 (N : Nat) (x : ((List Int × Unit) × Unit)) : Option ((ByteArray × (Int × Unit)) × Unit) := match x with
  | ((l0, ()), ()) =>
    byB (!decide ((l0.length : Int) ≤ 2000))
      (some (((⟨#[]⟩ : ByteArray), 7, ()), ()))
      (loopN N (Write_11_L5 N) (((), l0, (l0.length : Int), 0, ()), [], ()))
theorem eq_Write_11 (N : Nat) (x : (ap_Write_11).den) : funX Try.prog (fs0 N) N 11 lo_Write_11 jo_Write_11 Try.f11 ap_Write_11 rp_Write_11 x = Write_11 N x := by kernel_rfl
noncomputable def sp_Write_11 (N : Nat) : FSpec := specOf ap_Write_11 rp_Write_11 true (Write_11 N)
theorem ok_Write_11 (N : Nat) : FSound Try.prog 11 (sp_Write_11 N) := funX_sound (N := N) (loops := lo_Write_11) (joins := jo_Write_11) (fsok0 N) Try.func11 (by kernel_rfl) (by kernel_rfl) fun x _ h => (eq_Write_11 N x).trans h
noncomputable def fs1 (N : Nat) : FuncId → List V1 → List Blk → Option FSpec := fun g xs H => if g = 11 then some (sp_Write_11 N) else fs0 N g xs H
theorem fsok1 (N : Nat) : ∀ g xs H sp, fs1 N g xs H = some sp → FSound Try.prog g sp := fun g xs H sp h => by
  unfold fs1 at h
  by_cases e : g = 11
  · rw [if_pos e] at h; subst e; cases h; exact ok_Write_11 N
  · rw [if_neg e] at h; exact fsok0 N g xs H sp h
/-! reader_23 -/
abbrev ap_reader_23 : Pat := ⟨[.one (.str)], []⟩
abbrev rp_reader_23 : List Pat := [⟨[.one (.fn 24 0)], [.clo 24 [] [.one (.ptr 1 0), .one (.ptr 2 0)], .var 3 [.int .i64], .var 9 [.str]]⟩]
def lo_reader_23 : List LSpec := []
def jo_reader_23 : List LSpec := []
def reader_23 (N : Nat) (x : ((ByteArray × Unit) × Unit)) : Option ((Unit × Unit) × ((Unit × (Unit × (Unit × Unit))) × ((Int × Unit) × ((ByteArray × Unit) × Unit)))) := match x with
  | ((s0, ()), ()) =>
    some (((), ()), ((), (), (), ()), (0, ()), (s0, ()), ())
theorem eq_reader_23 (N : Nat) (x : (ap_reader_23).den) : funX Try.prog (fs1 N) N 23 lo_reader_23 jo_reader_23 Try.f23 ap_reader_23 rp_reader_23 x = reader_23 N x := by kernel_rfl
noncomputable def sp_reader_23 (N : Nat) : FSpec := specOf ap_reader_23 rp_reader_23 true (reader_23 N)
theorem ok_reader_23 (N : Nat) : FSound Try.prog 23 (sp_reader_23 N) := funX_sound (N := N) (loops := lo_reader_23) (joins := jo_reader_23) (fsok1 N) Try.func23 (by kernel_rfl) (by kernel_rfl) fun x _ h => (eq_reader_23 N x).trans h
noncomputable def fs2 (N : Nat) : FuncId → List V1 → List Blk → Option FSpec := fun g xs H => if g = 23 then some (sp_reader_23 N) else fs1 N g xs H
theorem fsok2 (N : Nat) : ∀ g xs H sp, fs2 N g xs H = some sp → FSound Try.prog g sp := fun g xs H sp h => by
  unfold fs2 at h
  by_cases e : g = 23
  · rw [if_pos e] at h; subst e; cases h; exact ok_reader_23 N
  · rw [if_neg e] at h; exact fsok1 N g xs H sp h
/-! reader1_24 -/
abbrev ap_reader1_24 : Pat := ⟨[.one (.ptr 0 0), .one (.ptr 1 0)], [.var 3 [.int .i64], .var 9 [.str]]⟩
abbrev rp_reader1_24 : List Pat := [⟨[.one (.int .i64), .one (.bool), .one (.int .i64)], [.var 3 [.int .i64], .var 9 [.str]]⟩]
def lo_reader1_24 : List LSpec := [⟨6, [0, 1, 5, 6, 7], ⟨[.one (.ptr 0 0), .one (.ptr 1 0), .one (.int .u64), .one (.int .u64), .one (.int .i64)], [.var 3 [.int .i64], .var 9 [.str]]⟩⟩]
def jo_reader1_24 : List LSpec := []
def reader1_24_L6 (N : Nat) (again6 : ((Unit × (Unit × (Int × (Int × (Int × Unit))))) × ((Int × Unit) × ((ByteArray × Unit) × Unit))) → Option ((Int × (Bool × (Int × Unit))) × ((Int × Unit) × ((ByteArray × Unit) × Unit)))) (x : ((Unit × (Unit × (Int × (Int × (Int × Unit))))) × ((Int × Unit) × ((ByteArray × Unit) × Unit)))) : Option ((Int × (Bool × (Int × Unit))) × ((Int × Unit) × ((ByteArray × Unit) × Unit))) := match x with
  | ((_, _, u4, shift5, from6, ()), (c7, ()), (c8, ()), ()) =>
    byB (c7 == ((c8.size) : Int))
      (some ((0, false, 6, ()), (c7, ()), (c8, ()), ()))
      (if h11 : 0 ≤ c7 ∧ c7.toNat < c8.size then
        let t12 := ((c8[c7.toNat]'h11.2).toNat : Int);
        let t13 := IntKind.wrap .i64 (c7 + 1);
        byB (decide (shift5 < 63))
          (if shift5 < 0 then
              none
            else
            let t18 := IntKind.wrap .u64 (BitVec.ofInt (IntKind.bits .u64) u4 ||| BitVec.ofInt (IntKind.bits .u64) (IntKind.wrap .u64 ((IntKind.wrap .u64 (IntKind.wrap .u8 (BitVec.ofInt (IntKind.bits .u8) t12 &&& BitVec.ofInt (IntKind.bits .u8) 127).toNat)) * 2 ^ (min shift5.toNat (IntKind.bits .u64))))).toNat;
            byB (decide (t12 < 128))
              (byB (t12 == 0)
                  (byB (!decide ((IntKind.wrap .i64 (t13 - from6)) ≤ 1))
                      (some ((0, false, 8, ()), (t13, ()), (c8, ()), ()))
                      (byB (!decide (shift5 < 63))
                          (some ((0, false, 7, ()), (t13, ()), (c8, ()), ()))
                          (byB (!decide (t18 ≤ 4611686018427387904))
                              (some ((0, false, 7, ()), (t13, ()), (c8, ()), ()))
                              (some ((IntKind.wrap .i64 t18, true, 0, ()), (t13, ()), (c8, ()), ())))))
                  (byB (!decide (shift5 < 63))
                      (some ((0, false, 7, ()), (t13, ()), (c8, ()), ()))
                      (byB (!decide (t18 ≤ 4611686018427387904))
                          (some ((0, false, 7, ()), (t13, ()), (c8, ()), ()))
                          (some ((IntKind.wrap .i64 t18, true, 0, ()), (t13, ()), (c8, ()), ())))))
              (again6 (((), (), t18, IntKind.wrap .u64 (shift5 + 7), from6, ()), (t13, ()), (c8, ()), ())))
          (byB (decide (t12 < 128))
              (byB (t12 == 0)
                  (byB (!decide ((IntKind.wrap .i64 (t13 - from6)) ≤ 1))
                      (some ((0, false, 8, ()), (t13, ()), (c8, ()), ()))
                      (byB (!decide (shift5 < 63))
                          (some ((0, false, 7, ()), (t13, ()), (c8, ()), ()))
                          (byB (!decide (u4 ≤ 4611686018427387904))
                              (some ((0, false, 7, ()), (t13, ()), (c8, ()), ()))
                              (some ((IntKind.wrap .i64 u4, true, 0, ()), (t13, ()), (c8, ()), ())))))
                  (byB (!decide (shift5 < 63))
                      (some ((0, false, 7, ()), (t13, ()), (c8, ()), ()))
                      (byB (!decide (u4 ≤ 4611686018427387904))
                          (some ((0, false, 7, ()), (t13, ()), (c8, ()), ()))
                          (some ((IntKind.wrap .i64 u4, true, 0, ()), (t13, ()), (c8, ()), ())))))
              (again6 (((), (), u4, IntKind.wrap .u64 (shift5 + 7), from6, ()), (t13, ()), (c8, ()), ())))
        else none)
def reader1_24 (N : Nat) (x : ((Unit × (Unit × Unit)) × ((Int × Unit) × ((ByteArray × Unit) × Unit)))) : Option ((Int × (Bool × (Int × Unit))) × ((Int × Unit) × ((ByteArray × Unit) × Unit))) := match x with
  | ((_, _, ()), (c0, ()), (c1, ()), ()) =>
    byB (c0 == ((c1.size) : Int))
      (some ((0, false, 0, ()), (c0, ()), (c1, ()), ()))
      (loopN N (reader1_24_L6 N) (((), (), 0, 0, c0, ()), (c0, ()), (c1, ()), ()))
theorem eq_reader1_24 (N : Nat) (x : (ap_reader1_24).den) : funX Try.prog (fs2 N) N 24 lo_reader1_24 jo_reader1_24 Try.f24 ap_reader1_24 rp_reader1_24 x = reader1_24 N x := by kernel_rfl
noncomputable def sp_reader1_24 (N : Nat) : FSpec := specOf ap_reader1_24 rp_reader1_24 true (reader1_24 N)
theorem ok_reader1_24 (N : Nat) : FSound Try.prog 24 (sp_reader1_24 N) := funX_sound (N := N) (loops := lo_reader1_24) (joins := jo_reader1_24) (fsok2 N) Try.func24 (by kernel_rfl) (by kernel_rfl) fun x _ h => (eq_reader1_24 N x).trans h
noncomputable def fs3 (N : Nat) : FuncId → List V1 → List Blk → Option FSpec := fun g xs H => if g = 24 then some (sp_reader1_24 N) else fs2 N g xs H
theorem fsok3 (N : Nat) : ∀ g xs H sp, fs3 N g xs H = some sp → FSound Try.prog g sp := fun g xs H sp h => by
  unfold fs3 at h
  by_cases e : g = 24
  · rw [if_pos e] at h; subst e; cases h; exact ok_reader1_24 N
  · rw [if_neg e] at h; exact fsok2 N g xs H sp h
/-! Read_14 -/
abbrev ap_Read_14 : Pat := ⟨[.one (.str)], []⟩
abbrev rp_Read_14 : List Pat := [⟨[.one (.full 0), .one (.int .i64)], [.row 3 (.int .i64)]⟩]
def lo_Read_14 : List LSpec := [⟨3, [4, 5], ⟨[.one (.fn 24 0), .one (.full 1)], [.clo 24 [] [.one (.ptr 2 0), .one (.ptr 3 0)], .row 3 (.int .i64), .var 3 [.int .i64], .var 9 [.str]]⟩⟩]
def jo_Read_14 : List LSpec := []
def Read_14_L3 (N : Nat) (again3 : ((Unit × (Unit × Unit)) × ((Unit × (Unit × (Unit × Unit))) × (List Int × ((Int × Unit) × ((ByteArray × Unit) × Unit))))) → Option ((Unit × (Int × Unit)) × (List Int × Unit))) (x : ((Unit × (Unit × Unit)) × ((Unit × (Unit × (Unit × Unit))) × (List Int × ((Int × Unit) × ((ByteArray × Unit) × Unit)))))) : Option ((Unit × (Int × Unit)) × (List Int × Unit)) := match x with
  | ((_, _, ()), ((), _, _, ()), l2, (c3, ()), (c4, ()), ()) =>
    (reader1_24 N (((), (), ()), (c3, ()), (c4, ()), ())).bind fun y5 =>
    byB (y5.1.2.2.1 == 0)
      (byB y5.1.2.1
          (byB ((l2.length : Int) == 2000)
              (some (((), 7, ()), [], ()))
              (byB (y5.1.2.2.1 != 0)
                  (some (((), y5.1.2.2.1, ()), [], ()))
                  (byB (!y5.1.2.1)
                      (some (((), 0, ()), l2, ()))
                      (if (l2.length + 1) * 8 ≤ 140737488355328 then
                        again3 (((), (), ()), ((), (), (), ()), l2 ++ [y5.1.1], (y5.2.1.1, ()), (y5.2.2.1.1, ()), ())
                        else none))))
          (byB (y5.1.2.2.1 != 0)
              (some (((), y5.1.2.2.1, ()), [], ()))
              (byB (!y5.1.2.1)
                  (some (((), 0, ()), l2, ()))
                  (if (l2.length + 1) * 8 ≤ 140737488355328 then
                    again3 (((), (), ()), ((), (), (), ()), l2 ++ [y5.1.1], (y5.2.1.1, ()), (y5.2.2.1.1, ()), ())
                    else none))))
      (byB (y5.1.2.2.1 != 0)
          (some (((), y5.1.2.2.1, ()), [], ()))
          (byB (!y5.1.2.1)
              (some (((), 0, ()), l2, ()))
              (if (l2.length + 1) * 8 ≤ 140737488355328 then
                again3 (((), (), ()), ((), (), (), ()), l2 ++ [y5.1.1], (y5.2.1.1, ()), (y5.2.2.1.1, ()), ())
                else none)))
def Read_14 (N : Nat) (x : ((ByteArray × Unit) × Unit)) : Option ((Unit × (Int × Unit)) × (List Int × Unit)) := match x with
  | ((s0, ()), ()) =>
    (reader_23 N ((s0, ()), ())).bind fun y1 =>
    loopN N (Read_14_L3 N) (((), (), ()), ((), (), (), ()), [], (y1.2.2.1.1, ()), (y1.2.2.2.1.1, ()), ())
theorem eq_Read_14 (N : Nat) (x : (ap_Read_14).den) : funX Try.prog (fs3 N) N 14 lo_Read_14 jo_Read_14 Try.f14 ap_Read_14 rp_Read_14 x = Read_14 N x := by kernel_rfl
noncomputable def sp_Read_14 (N : Nat) : FSpec := specOf ap_Read_14 rp_Read_14 true (Read_14 N)
theorem ok_Read_14 (N : Nat) : FSound Try.prog 14 (sp_Read_14 N) := funX_sound (N := N) (loops := lo_Read_14) (joins := jo_Read_14) (fsok3 N) Try.func14 (by kernel_rfl) (by kernel_rfl) fun x _ h => (eq_Read_14 N x).trans h
noncomputable def fs4 (N : Nat) : FuncId → List V1 → List Blk → Option FSpec := fun g xs H => if g = 14 then some (sp_Read_14 N) else fs3 N g xs H
theorem fsok4 (N : Nat) : ∀ g xs H sp, fs4 N g xs H = some sp → FSound Try.prog g sp := fun g xs H sp h => by
  unfold fs4 at h
  by_cases e : g = 14
  · rw [if_pos e] at h; subst e; cases h; exact ok_Read_14 N
  · rw [if_neg e] at h; exact fsok3 N g xs H sp h
/-! Sum_16 -/
abbrev ap_Sum_16 : Pat := ⟨[.one (.str)], []⟩
abbrev rp_Sum_16 : List Pat := [⟨[.one (.int .u16)], []⟩]
def lo_Sum_16 : List LSpec := [⟨3, [3, 7, 8, 9], ⟨[.one (.int .u16), .one (.full 0), .one (.int .i64), .one (.int .i64)], [.row 1000005 (.int .u8)]⟩⟩, ⟨7, [3, 7, 8, 9, 18], ⟨[.one (.int .u16), .one (.full 0), .one (.int .i64), .one (.int .i64), .one (.int .i64)], [.row 1000005 (.int .u8)]⟩⟩]
def jo_Sum_16 : List LSpec := []
def Sum_16_L7 (N : Nat) (again3 : ((Int × (Unit × (Int × (Int × Unit)))) × (List Int × Unit)) → Option ((Int × Unit) × Unit)) (again7 : ((Int × (Unit × (Int × (Int × (Int × Unit))))) × (List Int × Unit)) → Option ((Int × Unit) × Unit)) (x : ((Int × (Unit × (Int × (Int × (Int × Unit))))) × (List Int × Unit))) : Option ((Int × Unit) × Unit) := match x with
  | ((v11, _, t12, t13, t14, ()), l15, ()) =>
    byB (decide (t14 < 8))
      (again7 ((IntKind.wrap .u16 (BitVec.ofInt (IntKind.bits .u16) (IntKind.wrap .u16 (v11 * 2 ^ 1)) ^^^ BitVec.ofInt (IntKind.bits .u16) (IntKind.wrap .u16 (BitVec.ofInt (IntKind.bits .u16) 4129 &&& BitVec.ofInt (IntKind.bits .u16) (IntKind.wrap .u16 (0 - (Int.fdiv v11 (2 ^ 15))))).toNat)).toNat, (), t12, t13, IntKind.wrap .i64 (t14 + 1), ()), l15, ()))
      (again3 ((v11, (), t12, IntKind.wrap .i64 (t13 + 1), ()), l15, ()))
def Sum_16_L3 (N : Nat) (again3 : ((Int × (Unit × (Int × (Int × Unit)))) × (List Int × Unit)) → Option ((Int × Unit) × Unit)) (x : ((Int × (Unit × (Int × (Int × Unit)))) × (List Int × Unit))) : Option ((Int × Unit) × Unit) := match x with
  | ((v2, _, t3, t4, ()), l5, ()) =>
    byB (decide (t4 < t3))
      (if (0 ≤ t4) ∧ (t4 < (l5.length : Int)) then
        loopN N (Sum_16_L7 N again3) ((IntKind.wrap .u16 (BitVec.ofInt (IntKind.bits .u16) v2 ^^^ BitVec.ofInt (IntKind.bits .u16) (IntKind.wrap .u16 ((IntKind.wrap .u16 (l5.getD t4.toNat 0)) * 2 ^ 8))).toNat, (), t3, t4, 0, ()), l5, ())
        else none)
      (some ((v2, ()), ()))
def Sum_16 (N : Nat) (x : ((ByteArray × Unit) × Unit)) : Option ((Int × Unit) × Unit) := match x with
  | ((s0, ()), ()) =>
    if s0.size ≤ 4611686018427387904 then
    loopN N (Sum_16_L3 N) ((65535, (), ((ofBytes s0).length : Int), 0, ()), ofBytes s0, ())
    else none
theorem eq_Sum_16 (N : Nat) (x : (ap_Sum_16).den) : funX Try.prog (fs4 N) N 16 lo_Sum_16 jo_Sum_16 Try.f16 ap_Sum_16 rp_Sum_16 x = Sum_16 N x := by kernel_rfl
noncomputable def sp_Sum_16 (N : Nat) : FSpec := specOf ap_Sum_16 rp_Sum_16 true (Sum_16 N)
theorem ok_Sum_16 (N : Nat) : FSound Try.prog 16 (sp_Sum_16 N) := funX_sound (N := N) (loops := lo_Sum_16) (joins := jo_Sum_16) (fsok4 N) Try.func16 (by kernel_rfl) (by kernel_rfl) fun x _ h => (eq_Sum_16 N x).trans h
noncomputable def fs5 (N : Nat) : FuncId → List V1 → List Blk → Option FSpec := fun g xs H => if g = 16 then some (sp_Sum_16 N) else fs4 N g xs H
theorem fsok5 (N : Nat) : ∀ g xs H sp, fs5 N g xs H = some sp → FSound Try.prog g sp := fun g xs H sp h => by
  unfold fs5 at h
  by_cases e : g = 16
  · rw [if_pos e] at h; subst e; cases h; exact ok_Sum_16 N
  · rw [if_neg e] at h; exact fsok4 N g xs H sp h
/-! Seal_17 -/
abbrev ap_Seal_17 : Pat := ⟨[.one (.str)], []⟩
abbrev rp_Seal_17 : List Pat := [⟨[.one (.str), .one (.int .i64)], []⟩]
def lo_Seal_17 : List LSpec := []
def jo_Seal_17 : List LSpec := []
def Seal_17 (N : Nat) (x : ((ByteArray × Unit) × Unit)) : Option ((ByteArray × (Int × Unit)) × Unit) := match x with
  | ((s0, ()), ()) =>
    byB (!decide (((s0.size) : Int) ≤ 100000))
      (some (((⟨#[]⟩ : ByteArray), 7, ()), ()))
      ((Sum_16 N ((s0, ()), ())).bind fun y3 =>
        let t7 := bytesOf [IntKind.wrap .u8 (Int.fdiv y3.1.1 (2 ^ 8)), IntKind.wrap .u8 y3.1.1];
        if s0.size + t7.size ≤ 9223372036854775807 then
        some ((s0 ++ t7, 0, ()), ())
        else none)
theorem eq_Seal_17 (N : Nat) (x : (ap_Seal_17).den) : funX Try.prog (fs5 N) N 17 lo_Seal_17 jo_Seal_17 Try.f17 ap_Seal_17 rp_Seal_17 x = Seal_17 N x := by kernel_rfl
noncomputable def sp_Seal_17 (N : Nat) : FSpec := specOf ap_Seal_17 rp_Seal_17 true (Seal_17 N)
theorem ok_Seal_17 (N : Nat) : FSound Try.prog 17 (sp_Seal_17 N) := funX_sound (N := N) (loops := lo_Seal_17) (joins := jo_Seal_17) (fsok5 N) Try.func17 (by kernel_rfl) (by kernel_rfl) fun x _ h => (eq_Seal_17 N x).trans h
noncomputable def fs6 (N : Nat) : FuncId → List V1 → List Blk → Option FSpec := fun g xs H => if g = 17 then some (sp_Seal_17 N) else fs5 N g xs H
theorem fsok6 (N : Nat) : ∀ g xs H sp, fs6 N g xs H = some sp → FSound Try.prog g sp := fun g xs H sp h => by
  unfold fs6 at h
  by_cases e : g = 17
  · rw [if_pos e] at h; subst e; cases h; exact ok_Seal_17 N
  · rw [if_neg e] at h; exact fsok5 N g xs H sp h
/-! examples_10 -/
abbrev ap_examples_10 : Pat := ⟨[], []⟩
abbrev rp_examples_10 : List Pat := [⟨[.one (.bool)], []⟩]
def lo_examples_10 : List LSpec := []
def jo_examples_10 : List LSpec := []
def examples_10 (N : Nat) (x : (Unit × Unit)) : Option ((Bool × Unit) × Unit) := if 300 ≤ N then some ((true, ()), ()) else none
theorem eq_examples_10 (k : Nat) : funX Try.prog (fs6 (k + 300)) (k + 300) 10 lo_examples_10 jo_examples_10 Try.f10 ap_examples_10 rp_examples_10 ((), ()) = some ((true, ()), ()) := by kernel_rfl
noncomputable def sp_examples_10 (N : Nat) : FSpec := specOf ap_examples_10 rp_examples_10 true (examples_10 N)
theorem ok_examples_10 (N : Nat) : FSound Try.prog 10 (sp_examples_10 N) := funX_sound (N := N) (loops := lo_examples_10) (joins := jo_examples_10) (fsok6 N) Try.func10 (by kernel_rfl) (by kernel_rfl) fun x _ h => by
  unfold examples_10 at h
  split at h
  · rename_i hN
    obtain ⟨k, rfl⟩ : ∃ k, N = k + 300 := ⟨N - 300, by omega⟩
    exact (eq_examples_10 k).trans h
  · cases h
noncomputable def fs7 (N : Nat) : FuncId → List V1 → List Blk → Option FSpec := fun g xs H => if g = 10 then some (sp_examples_10 N) else fs6 N g xs H
theorem fsok7 (N : Nat) : ∀ g xs H sp, fs7 N g xs H = some sp → FSound Try.prog g sp := fun g xs H sp h => by
  unfold fs7 at h
  by_cases e : g = 10
  · rw [if_pos e] at h; subst e; cases h; exact ok_examples_10 N
  · rw [if_neg e] at h; exact fsok6 N g xs H sp h
/-! Open_19 -/
abbrev ap_Open_19 : Pat := ⟨[.one (.str)], []⟩
abbrev rp_Open_19 : List Pat := [⟨[.one (.str), .one (.int .i64)], []⟩]
def lo_Open_19 : List LSpec := []
def jo_Open_19 : List LSpec := []
def Open_19 (N : Nat) (x : ((ByteArray × Unit) × Unit)) : Option ((ByteArray × (Int × Unit)) × Unit) := match x with
  | ((s0, ()), ()) =>
    let t2 := IntKind.wrap .i64 (((s0.size) : Int) - 2);
    byB (decide (t2 < 0))
      (some (((⟨#[]⟩ : ByteArray), 6, ()), ()))
      (byB (!decide (t2 ≤ 100000))
          (some (((⟨#[]⟩ : ByteArray), 7, ()), ()))
          ((Sum_16 N ((s0, ()), ())).bind fun y5 =>
            byB (y5.1.1 != 0)
              (some (((⟨#[]⟩ : ByteArray), 9, ()), ()))
              (if ((0 : Int) ≤ 0) ∧ (0 ≤ t2) ∧ (t2 ≤ ((s0.size) : Int)) then
                some ((s0.extract 0 t2.toNat, 0, ()), ())
                else none)))
theorem eq_Open_19 (N : Nat) (x : (ap_Open_19).den) : funX Try.prog (fs7 N) N 19 lo_Open_19 jo_Open_19 Try.f19 ap_Open_19 rp_Open_19 x = Open_19 N x := by kernel_rfl
noncomputable def sp_Open_19 (N : Nat) : FSpec := specOf ap_Open_19 rp_Open_19 true (Open_19 N)
theorem ok_Open_19 (N : Nat) : FSound Try.prog 19 (sp_Open_19 N) := funX_sound (N := N) (loops := lo_Open_19) (joins := jo_Open_19) (fsok7 N) Try.func19 (by kernel_rfl) (by kernel_rfl) fun x _ h => (eq_Open_19 N x).trans h
noncomputable def fs8 (N : Nat) : FuncId → List V1 → List Blk → Option FSpec := fun g xs H => if g = 19 then some (sp_Open_19 N) else fs7 N g xs H
theorem fsok8 (N : Nat) : ∀ g xs H sp, fs8 N g xs H = some sp → FSound Try.prog g sp := fun g xs H sp h => by
  unfold fs8 at h
  by_cases e : g = 19
  · rw [if_pos e] at h; subst e; cases h; exact ok_Open_19 N
  · rw [if_neg e] at h; exact fsok7 N g xs H sp h
/-! PackBit_9 -/
abbrev ap_PackBit_9 : Pat := ⟨[.one (.str), .one (.int .i64)], []⟩
abbrev rp_PackBit_9 : List Pat := [⟨[.one (.bool)], []⟩]
def lo_PackBit_9 : List LSpec := []
def jo_PackBit_9 : List LSpec := [⟨5, [1, 5, 6, 31], ⟨[.one (.int .i64), .one (.bool), .one (.str), .one (.bool)], []⟩⟩]
def PackBit_9_J5 (N : Nat) (x : ((Int × (Bool × (ByteArray × (Bool × Unit)))) × Unit)) : Option ((Bool × Unit) × Unit) := match x with
  | ((bit12, head13, t14, t15, ()), ()) =>
    byB t15
      (some ((false, ()), ()))
      (byB (decide (bit12 < 0))
          (let t20 := IntKind.wrap .i64 (8 * ((t14.size) : Int));
            if t20 = 0 then
              none
            else
            let t21 := Int.tmod (IntKind.wrap .i64 (0 - (IntKind.wrap .i64 (bit12 + 1)))) t20;
            if t14.size ≤ 4611686018427387904 then
            let t22 := IntKind.wrap .i64 (Int.tdiv t21 8);
            let t23 := IntKind.wrap .i64 (Int.tdiv t21 8);
            if (0 ≤ t23) ∧ (t23 < ((ofBytes t14).length : Int)) then
            let t25 := Int.tmod t21 8;
            if t25 < 0 then
              none
            else
            if (0 ≤ t22) ∧ (t22 < ((ofBytes t14).length : Int)) then
            (Open_19 N ((bytesOf ((ofBytes t14).set t22.toNat (IntKind.wrap .u8 (BitVec.ofInt (IntKind.bits .u8) ((ofBytes t14).getD t23.toNat 0) ^^^ BitVec.ofInt (IntKind.bits .u8) (IntKind.wrap .u8 (1 * 2 ^ (min t25.toNat (IntKind.bits .u8))))).toNat)), ()), ())).bind fun y30 =>
            byB head13
              (byB (y30.1.1.toList == ((⟨#[]⟩ : ByteArray)).toList)
                  (some ((y30.1.2.1 == 9, ()), ()))
                  (some ((false, ()), ())))
              (some ((false, ()), ()))
            else none
            else none
            else none)
          (let t34 := IntKind.wrap .i64 (8 * ((t14.size) : Int));
            if t34 = 0 then
              none
            else
            let t35 := Int.tmod bit12 t34;
            if t14.size ≤ 4611686018427387904 then
            let t36 := IntKind.wrap .i64 (Int.tdiv t35 8);
            let t37 := IntKind.wrap .i64 (Int.tdiv t35 8);
            if (0 ≤ t37) ∧ (t37 < ((ofBytes t14).length : Int)) then
            let t39 := Int.tmod t35 8;
            if t39 < 0 then
              none
            else
            if (0 ≤ t36) ∧ (t36 < ((ofBytes t14).length : Int)) then
            (Open_19 N ((bytesOf ((ofBytes t14).set t36.toNat (IntKind.wrap .u8 (BitVec.ofInt (IntKind.bits .u8) ((ofBytes t14).getD t37.toNat 0) ^^^ BitVec.ofInt (IntKind.bits .u8) (IntKind.wrap .u8 (1 * 2 ^ (min t39.toNat (IntKind.bits .u8))))).toNat)), ()), ())).bind fun y44 =>
            byB head13
              (byB (y44.1.1.toList == ((⟨#[]⟩ : ByteArray)).toList)
                  (some ((y44.1.2.1 == 9, ()), ()))
                  (some ((false, ()), ())))
              (some ((false, ()), ()))
            else none
            else none
            else none))
def PackBit_9 (N : Nat) (x : ((ByteArray × (Int × Unit)) × Unit)) : Option ((Bool × Unit) × Unit) := match x with
  | ((s0, bit1, ()), ()) =>
    (examples_10 N ((), ())).bind fun y2 =>
    let t4 := if 4000 < ((s0.size) : Int) then 4000 else ((s0.size) : Int);
    if ((0 : Int) ≤ 0) ∧ (0 ≤ t4) ∧ (t4 ≤ ((s0.size) : Int)) then
    let t5 := s0.extract 0 t4.toNat;
    (Seal_17 N ((t5, ()), ())).bind fun y6 =>
    withJoin (PackBit_9_J5 N) fun join5 =>
    byB (y6.1.2.1 != 0)
      (join5 ((bit1, y2.1.1, y6.1.1, true, ()), ()))
      (join5 ((bit1, y2.1.1, y6.1.1, ((y6.1.1.size) : Int) != (IntKind.wrap .i64 (((t5.size) : Int) + 2)), ()), ()))
    else none
theorem eq_PackBit_9 (N : Nat) (x : (ap_PackBit_9).den) : funX Try.prog (fs8 N) N 9 lo_PackBit_9 jo_PackBit_9 Try.f9 ap_PackBit_9 rp_PackBit_9 x = PackBit_9 N x := by kernel_rfl
noncomputable def sp_PackBit_9 (N : Nat) : FSpec := specOf ap_PackBit_9 rp_PackBit_9 true (PackBit_9 N)
theorem ok_PackBit_9 (N : Nat) : FSound Try.prog 9 (sp_PackBit_9 N) := funX_sound (N := N) (loops := lo_PackBit_9) (joins := jo_PackBit_9) (fsok8 N) Try.func9 (by kernel_rfl) (by kernel_rfl) fun x _ h => (eq_PackBit_9 N x).trans h
noncomputable def fs9 (N : Nat) : FuncId → List V1 → List Blk → Option FSpec := fun g xs H => if g = 9 then some (sp_PackBit_9 N) else fs8 N g xs H
theorem fsok9 (N : Nat) : ∀ g xs H sp, fs9 N g xs H = some sp → FSound Try.prog g sp := fun g xs H sp h => by
  unfold fs9 at h
  by_cases e : g = 9
  · rw [if_pos e] at h; subst e; cases h; exact ok_PackBit_9 N
  · rw [if_neg e] at h; exact fsok8 N g xs H sp h
end Go.Proofs.YtecefkenfpbfkaaX
