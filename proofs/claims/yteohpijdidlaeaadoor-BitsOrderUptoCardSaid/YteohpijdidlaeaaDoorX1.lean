/- Functions of the program as plain Lean, each with its equation (printed by a program of this seat's own). Conditions: none. -/
import Derived.Test.YteohpijdidlaeaaDoorTz
import Derived.Test.YteohpijdidlaeaaDoorProg
import Derived.KernelRfl
namespace Go.Proofs.YteohpijdidlaeaaDoorX
open Go Go.Proofs.YteohpijdidlaeaaDoorM
set_option maxRecDepth 100000
set_option linter.unusedVariables false
noncomputable def fs0 (_ : Nat) : FuncId → List V1 → List Blk → Option FSpec := fun _ _ _ => none
theorem fsok0 (N : Nat) : ∀ g xs H sp, fs0 N g xs H = some sp → FSound Tryd.prog g sp := fun _ _ _ _ h => by cases h
/-! level_23 -/
abbrev ap_level_23 : Pat := ⟨[.one (.int .i64)], []⟩
abbrev rp_level_23 : List Pat := [⟨[.one (.bool)], []⟩]
def lo_level_23 : List LSpec := []
def jo_level_23 : List LSpec := []
def level_23 (N : Nat) (x : ((Int × Unit) × Unit)) : Option ((Bool × Unit) × Unit) := match x with
  | ((i0, ()), ()) =>
    byB (decide (i0 ≥ 0))
      (some ((decide (i0 < 256), ()), ()))
      (some ((false, ()), ()))
theorem eq_level_23 (N : Nat) (x : (ap_level_23).den) : funX Tryd.prog (fs0 N) N 23 lo_level_23 jo_level_23 Tryd.f23 ap_level_23 rp_level_23 x = level_23 N x := by kernel_rfl
noncomputable def sp_level_23 (N : Nat) : FSpec := specOf ap_level_23 rp_level_23 true (level_23 N)
theorem ok_level_23 (N : Nat) : FSound Tryd.prog 23 (sp_level_23 N) := funX_sound (N := N) (loops := lo_level_23) (joins := jo_level_23) (fsok0 N) Tryd.func23 (by kernel_rfl) (by kernel_rfl) fun x _ h => (eq_level_23 N x).trans h
noncomputable def fs1 (N : Nat) : FuncId → List V1 → List Blk → Option FSpec := fun g xs H => if g = 23 then some (sp_level_23 N) else fs0 N g xs H
theorem fsok1 (N : Nat) : ∀ g xs H sp, fs1 N g xs H = some sp → FSound Tryd.prog g sp := fun g xs H sp h => by
  unfold fs1 at h
  by_cases e : g = 23
  · rw [if_pos e] at h; subst e; cases h; exact ok_level_23 N
  · rw [if_neg e] at h; exact fsok0 N g xs H sp h
/-! bit_25 -/
abbrev ap_bit_25 : Pat := ⟨[.one (.int .i64)], []⟩
abbrev rp_bit_25 : List Pat := [⟨[.one (.int .u64)], []⟩]
def lo_bit_25 : List LSpec := []
def jo_bit_25 : List LSpec := []
def bit_25 (N : Nat) (x : ((Int × Unit) × Unit)) : Option ((Int × Unit) × Unit) := match x with
  | ((i0, ()), ()) =>
    let t2 := IntKind.wrap .u64 (BitVec.ofInt (IntKind.bits .u64) (IntKind.wrap .u64 i0) &&& BitVec.ofInt (IntKind.bits .u64) 63).toNat;
    if t2 < 0 then
      none
    else
    some ((IntKind.wrap .u64 (1 * 2 ^ (min t2.toNat (IntKind.bits .u64))), ()), ())
theorem eq_bit_25 (N : Nat) (x : (ap_bit_25).den) : funX Tryd.prog (fs1 N) N 25 lo_bit_25 jo_bit_25 Tryd.f25 ap_bit_25 rp_bit_25 x = bit_25 N x := by kernel_rfl
noncomputable def sp_bit_25 (N : Nat) : FSpec := specOf ap_bit_25 rp_bit_25 true (bit_25 N)
theorem ok_bit_25 (N : Nat) : FSound Tryd.prog 25 (sp_bit_25 N) := funX_sound (N := N) (loops := lo_bit_25) (joins := jo_bit_25) (fsok1 N) Tryd.func25 (by kernel_rfl) (by kernel_rfl) fun x _ h => (eq_bit_25 N x).trans h
noncomputable def fs2 (N : Nat) : FuncId → List V1 → List Blk → Option FSpec := fun g xs H => if g = 25 then some (sp_bit_25 N) else fs1 N g xs H
theorem fsok2 (N : Nat) : ∀ g xs H sp, fs2 N g xs H = some sp → FSound Tryd.prog g sp := fun g xs H sp h => by
  unfold fs2 at h
  by_cases e : g = 25
  · rw [if_pos e] at h; subst e; cases h; exact ok_bit_25 N
  · rw [if_neg e] at h; exact fsok1 N g xs H sp h
/-! With_18 -/
abbrev ap_With_18 : Pat := ⟨[.agg [.int .u64, .int .u64, .int .u64, .int .u64], .one (.int .i64)], []⟩
abbrev rp_With_18 : List Pat := [⟨[.agg [.int .u64, .int .u64, .int .u64, .int .u64]], []⟩]
def lo_With_18 : List LSpec := []
def jo_With_18 : List LSpec := []
def With_18 (N : Nat) (x : (((Int × (Int × (Int × (Int × Unit)))) × (Int × Unit)) × Unit)) : Option (((Int × (Int × (Int × (Int × Unit)))) × Unit) × Unit) := match x with
  | (((s0, s1, s2, s3, ()), i4, ()), ()) =>
    (level_23 N ((i4, ()), ())).bind fun y5 =>
    byB y5.1.1
      (if (0 ≤ (Int.fdiv i4 (2 ^ 6))) ∧ ((Int.fdiv i4 (2 ^ 6)) < 4) then
        (bit_25 N ((i4, ()), ())).bind fun y8 =>
        let t9 := IntKind.wrap .u64 (BitVec.ofInt (IntKind.bits .u64) ([s0, s1, s2, s3].getD (Int.fdiv i4 (2 ^ 6)).toNat 0) ||| BitVec.ofInt (IntKind.bits .u64) y8.1.1).toNat;
        if (0 ≤ (Int.fdiv i4 (2 ^ 6))) ∧ ((Int.fdiv i4 (2 ^ 6)) < 4) then
        some (((([s0, s1, s2, s3].set (Int.fdiv i4 (2 ^ 6)).toNat t9).getD 0 0, ([s0, s1, s2, s3].set (Int.fdiv i4 (2 ^ 6)).toNat t9).getD 1 0, ([s0, s1, s2, s3].set (Int.fdiv i4 (2 ^ 6)).toNat t9).getD 2 0, ([s0, s1, s2, s3].set (Int.fdiv i4 (2 ^ 6)).toNat t9).getD 3 0, ()), ()), ())
        else none
        else none)
      (some (((s0, s1, s2, s3, ()), ()), ()))
theorem eq_With_18 (N : Nat) (x : (ap_With_18).den) : funX Tryd.prog (fs2 N) N 18 lo_With_18 jo_With_18 Tryd.f18 ap_With_18 rp_With_18 x = With_18 N x := by kernel_rfl
noncomputable def sp_With_18 (N : Nat) : FSpec := specOf ap_With_18 rp_With_18 true (With_18 N)
theorem ok_With_18 (N : Nat) : FSound Tryd.prog 18 (sp_With_18 N) := funX_sound (N := N) (loops := lo_With_18) (joins := jo_With_18) (fsok2 N) Tryd.func18 (by kernel_rfl) (by kernel_rfl) fun x _ h => (eq_With_18 N x).trans h
noncomputable def fs3 (N : Nat) : FuncId → List V1 → List Blk → Option FSpec := fun g xs H => if g = 18 then some (sp_With_18 N) else fs2 N g xs H
theorem fsok3 (N : Nat) : ∀ g xs H sp, fs3 N g xs H = some sp → FSound Tryd.prog g sp := fun g xs H sp h => by
  unfold fs3 at h
  by_cases e : g = 18
  · rw [if_pos e] at h; subst e; cases h; exact ok_With_18 N
  · rw [if_neg e] at h; exact fsok2 N g xs H sp h
/-! Of_11 -/
abbrev ap_Of_11 : Pat := ⟨[.one (.ro (.int .i64))], []⟩
abbrev rp_Of_11 : List Pat := [⟨[.agg [.int .u64, .int .u64, .int .u64, .int .u64], .one (.int .i64)], []⟩]
def lo_Of_11 : List LSpec := [⟨3, [2, 4, 7, 8, 9], ⟨[.one (.ptr 0 0), .one (.ptr 1 0), .one (.ro (.int .i64)), .one (.int .i64), .one (.int .i64)], [.var 27 [.int .u64, .int .u64, .int .u64, .int .u64], .var 27 [.int .u64, .int .u64, .int .u64, .int .u64]]⟩⟩]
def jo_Of_11 : List LSpec := []
def Of_11_L3 (N : Nat) (again3 : ((Unit × (Unit × (List Int × (Int × (Int × Unit))))) × ((Int × (Int × (Int × (Int × Unit)))) × ((Int × (Int × (Int × (Int × Unit)))) × Unit))) → Option (((Int × (Int × (Int × (Int × Unit)))) × (Int × Unit)) × Unit)) (x : ((Unit × (Unit × (List Int × (Int × (Int × Unit))))) × ((Int × (Int × (Int × (Int × Unit)))) × ((Int × (Int × (Int × (Int × Unit)))) × Unit)))) : Option (((Int × (Int × (Int × (Int × Unit)))) × (Int × Unit)) × Unit) := match x with
  | ((_, _, t2, t3, t4, ()), (c5, c6, c7, c8, ()), (c9, c10, c11, c12, ()), ()) =>
    byB (decide (t4 < t3))
      (if (0 ≤ t4) ∧ (t4 < (t2.length : Int)) then
        let e14 := t2.getD t4.toNat 0;
        (level_23 N ((e14, ()), ())).bind fun y15 =>
        byB (!y15.1.1)
          (some (((0, 0, 0, 0, ()), 1, ()), ()))
          ((With_18 N (((c9, c10, c11, c12, ()), e14, ()), ())).bind fun y17 =>
            again3 (((), (), t2, t3, IntKind.wrap .i64 (t4 + 1), ()), (c5, c6, c7, c8, ()), (y17.1.1.1, y17.1.1.2.1, y17.1.1.2.2.1, y17.1.1.2.2.2.1, ()), ()))
        else none)
      (some (((c9, c10, c11, c12, ()), 0, ()), ()))
def Of_11 (N : Nat) (x : ((List Int × Unit) × Unit)) : Option (((Int × (Int × (Int × (Int × Unit)))) × (Int × Unit)) × Unit) := match x with
  | ((l0, ()), ()) =>
    loopN N (Of_11_L3 N) (((), (), l0, (l0.length : Int), 0, ()), (0, 0, 0, 0, ()), (0, 0, 0, 0, ()), ())
theorem eq_Of_11 (N : Nat) (x : (ap_Of_11).den) : funX Tryd.prog (fs3 N) N 11 lo_Of_11 jo_Of_11 Tryd.f11 ap_Of_11 rp_Of_11 x = Of_11 N x := by kernel_rfl
noncomputable def sp_Of_11 (N : Nat) : FSpec := specOf ap_Of_11 rp_Of_11 true (Of_11 N)
theorem ok_Of_11 (N : Nat) : FSound Tryd.prog 11 (sp_Of_11 N) := funX_sound (N := N) (loops := lo_Of_11) (joins := jo_Of_11) (fsok3 N) Tryd.func11 (by kernel_rfl) (by kernel_rfl) fun x _ h => (eq_Of_11 N x).trans h
noncomputable def fs4 (N : Nat) : FuncId → List V1 → List Blk → Option FSpec := fun g xs H => if g = 11 then some (sp_Of_11 N) else fs3 N g xs H
theorem fsok4 (N : Nat) : ∀ g xs H sp, fs4 N g xs H = some sp → FSound Tryd.prog g sp := fun g xs H sp h => by
  unfold fs4 at h
  by_cases e : g = 11
  · rw [if_pos e] at h; subst e; cases h; exact ok_Of_11 N
  · rw [if_neg e] at h; exact fsok3 N g xs H sp h
/-! TrailingZeros64_24 -/
def TrailingZeros64_24 (N : Nat) (x : (Int × Unit) × Unit) : Option ((Int × Unit) × Unit) := tz64 x
noncomputable def sp_TrailingZeros64_24 (N : Nat) : FSpec := specOf tzap tzrp true (TrailingZeros64_24 N)
theorem ok_TrailingZeros64_24 (N : Nat) : FSound Tryd.prog 24 (sp_TrailingZeros64_24 N) := tz64_sound tzL
noncomputable def fs5 (N : Nat) : FuncId → List V1 → List Blk → Option FSpec := fun g xs H => if g = 24 then some (sp_TrailingZeros64_24 N) else fs4 N g xs H
theorem fsok5 (N : Nat) : ∀ g xs H sp, fs5 N g xs H = some sp → FSound Tryd.prog g sp := fun g xs H sp h => by
  unfold fs5 at h
  by_cases e : g = 24
  · rw [if_pos e] at h; subst e; cases h; exact ok_TrailingZeros64_24 N
  · rw [if_neg e] at h; exact fsok4 N g xs H sp h
/-! Next_15 -/
abbrev ap_Next_15 : Pat := ⟨[.agg [.int .u64, .int .u64, .int .u64, .int .u64], .one (.int .i64)], []⟩
abbrev rp_Next_15 : List Pat := [⟨[.one (.int .i64)], []⟩]
def lo_Next_15 : List LSpec := [⟨7, [2, 5, 6], ⟨[.one (.ptr 0 0), .one (.int .u64), .one (.int .i64)], [.var 27 [.int .u64, .int .u64, .int .u64, .int .u64]]⟩⟩]
def jo_Next_15 : List LSpec := []
def Next_15_L7 (N : Nat) (again7 : ((Unit × (Int × (Int × Unit))) × ((Int × (Int × (Int × (Int × Unit)))) × Unit)) → Option ((Int × Unit) × Unit)) (x : ((Unit × (Int × (Int × Unit))) × ((Int × (Int × (Int × (Int × Unit)))) × Unit))) : Option ((Int × Unit) × Unit) := match x with
  | ((_, w15, k16, ()), (c17, c18, c19, c20, ()), ()) =>
    byB (w15 != 0)
      ((TrailingZeros64_24 N ((w15, ()), ())).bind fun y23 =>
        some ((IntKind.wrap .i64 ((IntKind.wrap .i64 (k16 * 2 ^ 6)) + y23.1.1), ()), ()))
      (let t25 := IntKind.wrap .i64 (k16 + 1);
        byB (t25 == 4)
          (some ((-1, ()), ()))
          (if (0 ≤ t25) ∧ (t25 < 4) then
            again7 (((), [c17, c18, c19, c20].getD t25.toNat 0, t25, ()), (c17, c18, c19, c20, ()), ())
            else none))
def Next_15 (N : Nat) (x : (((Int × (Int × (Int × (Int × Unit)))) × (Int × Unit)) × Unit)) : Option ((Int × Unit) × Unit) := match x with
  | (((s0, s1, s2, s3, ()), i4, ()), ()) =>
    byB (decide (i4 ≥ 255))
      (some ((-1, ()), ()))
      (let t7 := if 0 > (IntKind.wrap .i64 (i4 + 1)) then 0 else (IntKind.wrap .i64 (i4 + 1));
        if (0 ≤ (Int.fdiv t7 (2 ^ 6))) ∧ ((Int.fdiv t7 (2 ^ 6)) < 4) then
        let t10 := IntKind.wrap .i64 (BitVec.ofInt (IntKind.bits .i64) t7 &&& BitVec.ofInt (IntKind.bits .i64) 63).toNat;
        if t10 < 0 then
          none
        else
        let t12 := IntKind.wrap .i64 (BitVec.ofInt (IntKind.bits .i64) t7 &&& BitVec.ofInt (IntKind.bits .i64) 63).toNat;
        if t12 < 0 then
          none
        else
        loopN N (Next_15_L7 N) (((), IntKind.wrap .u64 ((Int.fdiv ([s0, s1, s2, s3].getD (Int.fdiv t7 (2 ^ 6)).toNat 0) (2 ^ (min t10.toNat (IntKind.bits .u64)))) * 2 ^ (min t12.toNat (IntKind.bits .u64))), Int.fdiv t7 (2 ^ 6), ()), (s0, s1, s2, s3, ()), ())
        else none)
theorem eq_Next_15 (N : Nat) (x : (ap_Next_15).den) : funX Tryd.prog (fs5 N) N 15 lo_Next_15 jo_Next_15 Tryd.f15 ap_Next_15 rp_Next_15 x = Next_15 N x := by kernel_rfl
noncomputable def sp_Next_15 (N : Nat) : FSpec := specOf ap_Next_15 rp_Next_15 true (Next_15 N)
theorem ok_Next_15 (N : Nat) : FSound Tryd.prog 15 (sp_Next_15 N) := funX_sound (N := N) (loops := lo_Next_15) (joins := jo_Next_15) (fsok5 N) Tryd.func15 (by kernel_rfl) (by kernel_rfl) fun x _ h => (eq_Next_15 N x).trans h
noncomputable def fs6 (N : Nat) : FuncId → List V1 → List Blk → Option FSpec := fun g xs H => if g = 15 then some (sp_Next_15 N) else fs5 N g xs H
theorem fsok6 (N : Nat) : ∀ g xs H sp, fs6 N g xs H = some sp → FSound Tryd.prog g sp := fun g xs H sp h => by
  unfold fs6 at h
  by_cases e : g = 15
  · rw [if_pos e] at h; subst e; cases h; exact ok_Next_15 N
  · rw [if_neg e] at h; exact fsok5 N g xs H sp h
/-! First_14 -/
abbrev ap_First_14 : Pat := ⟨[.agg [.int .u64, .int .u64, .int .u64, .int .u64]], []⟩
abbrev rp_First_14 : List Pat := [⟨[.one (.int .i64)], []⟩]
def lo_First_14 : List LSpec := []
def jo_First_14 : List LSpec := []
def First_14 (N : Nat) (x : (((Int × (Int × (Int × (Int × Unit)))) × Unit) × Unit)) : Option ((Int × Unit) × Unit) := match x with
  | (((s0, s1, s2, s3, ()), ()), ()) =>
    (Next_15 N (((s0, s1, s2, s3, ()), -1, ()), ())).bind fun y4 =>
    some ((y4.1.1, ()), ())
theorem eq_First_14 (N : Nat) (x : (ap_First_14).den) : funX Tryd.prog (fs6 N) N 14 lo_First_14 jo_First_14 Tryd.f14 ap_First_14 rp_First_14 x = First_14 N x := by kernel_rfl
noncomputable def sp_First_14 (N : Nat) : FSpec := specOf ap_First_14 rp_First_14 true (First_14 N)
theorem ok_First_14 (N : Nat) : FSound Tryd.prog 14 (sp_First_14 N) := funX_sound (N := N) (loops := lo_First_14) (joins := jo_First_14) (fsok6 N) Tryd.func14 (by kernel_rfl) (by kernel_rfl) fun x _ h => (eq_First_14 N x).trans h
noncomputable def fs7 (N : Nat) : FuncId → List V1 → List Blk → Option FSpec := fun g xs H => if g = 14 then some (sp_First_14 N) else fs6 N g xs H
theorem fsok7 (N : Nat) : ∀ g xs H sp, fs7 N g xs H = some sp → FSound Tryd.prog g sp := fun g xs H sp h => by
  unfold fs7 at h
  by_cases e : g = 14
  · rw [if_pos e] at h; subst e; cases h; exact ok_First_14 N
  · rw [if_neg e] at h; exact fsok6 N g xs H sp h
/-! OnesCount64_26 -/
abbrev ap_OnesCount64_26 : Pat := ⟨[.one (.int .u64)], []⟩
abbrev rp_OnesCount64_26 : List Pat := [⟨[.one (.int .i64)], []⟩]
def lo_OnesCount64_26 : List LSpec := []
def jo_OnesCount64_26 : List LSpec := []
def OnesCount64_26 (N : Nat) (x : ((Int × Unit) × Unit)) : Option ((Int × Unit) × Unit) := match x with
  | ((x0, ()), ()) =>
    let t4 := IntKind.wrap .u64 ((IntKind.wrap .u64 (BitVec.ofInt (IntKind.bits .u64) (Int.fdiv x0 (2 ^ 1)) &&& BitVec.ofInt (IntKind.bits .u64) 6148914691236517205).toNat) + (IntKind.wrap .u64 (BitVec.ofInt (IntKind.bits .u64) x0 &&& BitVec.ofInt (IntKind.bits .u64) 6148914691236517205).toNat));
    let t8 := IntKind.wrap .u64 ((IntKind.wrap .u64 (BitVec.ofInt (IntKind.bits .u64) (Int.fdiv t4 (2 ^ 2)) &&& BitVec.ofInt (IntKind.bits .u64) 3689348814741910323).toNat) + (IntKind.wrap .u64 (BitVec.ofInt (IntKind.bits .u64) t4 &&& BitVec.ofInt (IntKind.bits .u64) 3689348814741910323).toNat));
    let t11 := IntKind.wrap .u64 (BitVec.ofInt (IntKind.bits .u64) (IntKind.wrap .u64 ((Int.fdiv t8 (2 ^ 4)) + t8)) &&& BitVec.ofInt (IntKind.bits .u64) 1085102592571150095).toNat;
    let t13 := IntKind.wrap .u64 (t11 + (Int.fdiv t11 (2 ^ 8)));
    let t15 := IntKind.wrap .u64 (t13 + (Int.fdiv t13 (2 ^ 16)));
    some ((IntKind.wrap .i64 (BitVec.ofInt (IntKind.bits .i64) (IntKind.wrap .i64 (IntKind.wrap .u64 (t15 + (Int.fdiv t15 (2 ^ 32))))) &&& BitVec.ofInt (IntKind.bits .i64) 127).toNat, ()), ())
theorem eq_OnesCount64_26 (N : Nat) (x : (ap_OnesCount64_26).den) : funX Tryd.prog (fs7 N) N 26 lo_OnesCount64_26 jo_OnesCount64_26 Tryd.f26 ap_OnesCount64_26 rp_OnesCount64_26 x = OnesCount64_26 N x := by kernel_rfl
noncomputable def sp_OnesCount64_26 (N : Nat) : FSpec := specOf ap_OnesCount64_26 rp_OnesCount64_26 true (OnesCount64_26 N)
theorem ok_OnesCount64_26 (N : Nat) : FSound Tryd.prog 26 (sp_OnesCount64_26 N) := funX_sound (N := N) (loops := lo_OnesCount64_26) (joins := jo_OnesCount64_26) (fsok7 N) Tryd.func26 (by kernel_rfl) (by kernel_rfl) fun x _ h => (eq_OnesCount64_26 N x).trans h
noncomputable def fs8 (N : Nat) : FuncId → List V1 → List Blk → Option FSpec := fun g xs H => if g = 26 then some (sp_OnesCount64_26 N) else fs7 N g xs H
theorem fsok8 (N : Nat) : ∀ g xs H sp, fs8 N g xs H = some sp → FSound Tryd.prog g sp := fun g xs H sp h => by
  unfold fs8 at h
  by_cases e : g = 26
  · rw [if_pos e] at h; subst e; cases h; exact ok_OnesCount64_26 N
  · rw [if_neg e] at h; exact fsok7 N g xs H sp h
/-! Count_17 -/
abbrev ap_Count_17 : Pat := ⟨[.agg [.int .u64, .int .u64, .int .u64, .int .u64]], []⟩
abbrev rp_Count_17 : List Pat := [⟨[.one (.int .i64)], []⟩]
def lo_Count_17 : List LSpec := [⟨5, [3, 11, 12], ⟨[.one (.int .i64), .agg [.int .u64, .int .u64, .int .u64, .int .u64], .one (.int .i64)], []⟩⟩]
def jo_Count_17 : List LSpec := []
def Count_17_L5 (N : Nat) (again5 : ((Int × ((Int × (Int × (Int × (Int × Unit)))) × (Int × Unit))) × Unit) → Option ((Int × Unit) × Unit)) (x : ((Int × ((Int × (Int × (Int × (Int × Unit)))) × (Int × Unit))) × Unit)) : Option ((Int × Unit) × Unit) := match x with
  | ((n5, (t6, t7, t8, t9, ()), t10, ()), ()) =>
    byB (decide (t10 < 4))
      (if (0 ≤ t10) ∧ (t10 < 4) ∧ (t10 < 4) then
        (OnesCount64_26 N (([t6, t7, t8, t9].getD t10.toNat 0, ()), ())).bind fun y13 =>
        again5 ((IntKind.wrap .i64 (n5 + y13.1.1), (t6, t7, t8, t9, ()), IntKind.wrap .i64 (t10 + 1), ()), ())
        else none)
      (some ((n5, ()), ()))
def Count_17 (N : Nat) (x : (((Int × (Int × (Int × (Int × Unit)))) × Unit) × Unit)) : Option ((Int × Unit) × Unit) := match x with
  | (((s0, s1, s2, s3, ()), ()), ()) =>
    byB ((s0 == 0) && ((s1 == 0) && ((s2 == 0) && ((s3 == 0) && true))))
      (some ((0, ()), ()))
      (loopN N (Count_17_L5 N) ((0, (s0, s1, s2, s3, ()), 0, ()), ()))
theorem eq_Count_17 (N : Nat) (x : (ap_Count_17).den) : funX Tryd.prog (fs8 N) N 17 lo_Count_17 jo_Count_17 Tryd.f17 ap_Count_17 rp_Count_17 x = Count_17 N x := by kernel_rfl
noncomputable def sp_Count_17 (N : Nat) : FSpec := specOf ap_Count_17 rp_Count_17 true (Count_17 N)
theorem ok_Count_17 (N : Nat) : FSound Tryd.prog 17 (sp_Count_17 N) := funX_sound (N := N) (loops := lo_Count_17) (joins := jo_Count_17) (fsok8 N) Tryd.func17 (by kernel_rfl) (by kernel_rfl) fun x _ h => (eq_Count_17 N x).trans h
noncomputable def fs9 (N : Nat) : FuncId → List V1 → List Blk → Option FSpec := fun g xs H => if g = 17 then some (sp_Count_17 N) else fs8 N g xs H
theorem fsok9 (N : Nat) : ∀ g xs H sp, fs9 N g xs H = some sp → FSound Tryd.prog g sp := fun g xs H sp h => by
  unfold fs9 at h
  by_cases e : g = 17
  · rw [if_pos e] at h; subst e; cases h; exact ok_Count_17 N
  · rw [if_neg e] at h; exact fsok8 N g xs H sp h
/-! examples_10 -/
abbrev ap_examples_10 : Pat := ⟨[], []⟩
abbrev rp_examples_10 : List Pat := [⟨[.one (.bool)], []⟩]
def lo_examples_10 : List LSpec := []
def jo_examples_10 : List LSpec := []
def examples_10 (N : Nat) (x : (Unit × Unit)) : Option ((Bool × Unit) × Unit) := if 300 ≤ N then some ((true, ()), ()) else none
theorem eq_examples_10 (k : Nat) : funX Tryd.prog (fs9 (k + 300)) (k + 300) 10 lo_examples_10 jo_examples_10 Tryd.f10 ap_examples_10 rp_examples_10 ((), ()) = some ((true, ()), ()) := by kernel_rfl
noncomputable def sp_examples_10 (N : Nat) : FSpec := specOf ap_examples_10 rp_examples_10 true (examples_10 N)
theorem ok_examples_10 (N : Nat) : FSound Tryd.prog 10 (sp_examples_10 N) := funX_sound (N := N) (loops := lo_examples_10) (joins := jo_examples_10) (fsok9 N) Tryd.func10 (by kernel_rfl) (by kernel_rfl) fun x _ h => by
  unfold examples_10 at h
  split at h
  · rename_i hN
    obtain ⟨k, rfl⟩ : ∃ k, N = k + 300 := ⟨N - 300, by omega⟩
    exact (eq_examples_10 k).trans h
  · cases h
noncomputable def fs10 (N : Nat) : FuncId → List V1 → List Blk → Option FSpec := fun g xs H => if g = 10 then some (sp_examples_10 N) else fs9 N g xs H
theorem fsok10 (N : Nat) : ∀ g xs H sp, fs10 N g xs H = some sp → FSound Tryd.prog g sp := fun g xs H sp h => by
  unfold fs10 at h
  by_cases e : g = 10
  · rw [if_pos e] at h; subst e; cases h; exact ok_examples_10 N
  · rw [if_neg e] at h; exact fsok9 N g xs H sp h
/-! Of_12 -/
abbrev ap_Of_12 : Pat := ⟨[.one (.ro (.int .i64))], []⟩
abbrev rp_Of_12 : List Pat := [⟨[.one (.full 0), .one (.bool)], [.row 4 .bool]⟩]
def lo_Of_12 : List LSpec := [⟨3, [0, 4, 5], ⟨[.one (.ro (.int .i64)), .one (.full 0), .one (.int .i64)], [.row 4 .bool]⟩⟩]
def jo_Of_12 : List LSpec := []
def Of_12_L3 (N : Nat) (again3 : ((List Int × (Unit × (Int × Unit))) × (List Bool × Unit)) → Option ((Unit × (Bool × Unit)) × (List Bool × Unit))) (x : ((List Int × (Unit × (Int × Unit))) × (List Bool × Unit))) : Option ((Unit × (Bool × Unit)) × (List Bool × Unit)) := match x with
  | ((l1, _, i2, ()), l3, ()) =>
    byB (decide (i2 < (l1.length : Int)))
      (if (0 ≤ i2) ∧ (i2 < (l1.length : Int)) then
        byB (decide ((l1.getD i2.toNat 0) < 0))
          (some (((), false, ()), [], ()))
          (if (0 ≤ i2) ∧ (i2 < (l1.length : Int)) then
            byB (decide ((l1.getD i2.toNat 0) > 255))
              (some (((), false, ()), [], ()))
              (if (0 ≤ i2) ∧ (i2 < (l1.length : Int)) then
                let e10 := l1.getD i2.toNat 0;
                if (0 ≤ e10) ∧ (e10 < (l3.length : Int)) then
                again3 ((l1, (), IntKind.wrap .i64 (i2 + 1), ()), l3.set e10.toNat true, ())
                else none
                else none)
            else none)
        else none)
      (some (((), true, ()), l3, ()))
def Of_12 (N : Nat) (x : ((List Int × Unit) × Unit)) : Option ((Unit × (Bool × Unit)) × (List Bool × Unit)) := match x with
  | ((l0, ()), ()) =>
    loopN N (Of_12_L3 N) ((l0, (), 0, ()), List.replicate 256 false, ())
theorem eq_Of_12 (N : Nat) (x : (ap_Of_12).den) : funX Tryd.prog (fs10 N) N 12 lo_Of_12 jo_Of_12 Tryd.f12 ap_Of_12 rp_Of_12 x = Of_12 N x := by kernel_rfl
noncomputable def sp_Of_12 (N : Nat) : FSpec := specOf ap_Of_12 rp_Of_12 true (Of_12 N)
theorem ok_Of_12 (N : Nat) : FSound Tryd.prog 12 (sp_Of_12 N) := funX_sound (N := N) (loops := lo_Of_12) (joins := jo_Of_12) (fsok10 N) Tryd.func12 (by kernel_rfl) (by kernel_rfl) fun x _ h => (eq_Of_12 N x).trans h
noncomputable def fs11 (N : Nat) : FuncId → List V1 → List Blk → Option FSpec := fun g xs H => if g = 12 then some (sp_Of_12 N) else fs10 N g xs H
theorem fsok11 (N : Nat) : ∀ g xs H sp, fs11 N g xs H = some sp → FSound Tryd.prog g sp := fun g xs H sp h => by
  unfold fs11 at h
  by_cases e : g = 12
  · rw [if_pos e] at h; subst e; cases h; exact ok_Of_12 N
  · rw [if_neg e] at h; exact fsok10 N g xs H sp h
/-! Words_13 -/
abbrev ap_Words_13 : Pat := ⟨[.one (.ro .bool)], []⟩
abbrev rp_Words_13 : List Pat := [⟨[.agg [.int .u64, .int .u64, .int .u64, .int .u64]], []⟩]
def lo_Words_13 : List LSpec := [⟨3, [0, 2, 3, 4], ⟨[.one (.ro .bool), .one (.ptr 0 0), .one (.ptr 1 0), .one (.int .i64)], [.var 25 [.int .u64, .int .u64, .int .u64, .int .u64], .var 25 [.int .u64, .int .u64, .int .u64, .int .u64]]⟩⟩]
def jo_Words_13 : List LSpec := []
def Words_13_L3 (N : Nat) (again3 : ((List Bool × (Unit × (Unit × (Int × Unit)))) × ((Int × (Int × (Int × (Int × Unit)))) × ((Int × (Int × (Int × (Int × Unit)))) × Unit))) → Option (((Int × (Int × (Int × (Int × Unit)))) × Unit) × Unit)) (x : ((List Bool × (Unit × (Unit × (Int × Unit)))) × ((Int × (Int × (Int × (Int × Unit)))) × ((Int × (Int × (Int × (Int × Unit)))) × Unit)))) : Option (((Int × (Int × (Int × (Int × Unit)))) × Unit) × Unit) := match x with
  | ((l1, _, _, i2, ()), (c3, c4, c5, c6, ()), (c7, c8, c9, c10, ()), ()) =>
    byB (decide (i2 < 256))
      (if (0 ≤ i2) ∧ (i2 < (l1.length : Int)) then
        byB (l1.getD i2.toNat false)
          (let t13 := IntKind.wrap .i64 (Int.tdiv i2 64);
            let t14 := IntKind.wrap .i64 (Int.tdiv i2 64);
            if (0 ≤ t14) ∧ (t14 < 4) then
            let t16 := Int.tmod i2 64;
            if t16 < 0 then
              none
            else
            let t18 := IntKind.wrap .u64 (([c7, c8, c9, c10].getD t14.toNat 0) + (IntKind.wrap .u64 (1 * 2 ^ (min t16.toNat (IntKind.bits .u64)))));
            if (0 ≤ t13) ∧ (t13 < 4) then
            again3 ((l1, (), (), IntKind.wrap .i64 (i2 + 1), ()), (c3, c4, c5, c6, ()), (([c7, c8, c9, c10].set t13.toNat t18).getD 0 0, ([c7, c8, c9, c10].set t13.toNat t18).getD 1 0, ([c7, c8, c9, c10].set t13.toNat t18).getD 2 0, ([c7, c8, c9, c10].set t13.toNat t18).getD 3 0, ()), ())
            else none
            else none)
          (again3 ((l1, (), (), IntKind.wrap .i64 (i2 + 1), ()), (c3, c4, c5, c6, ()), (c7, c8, c9, c10, ()), ()))
        else none)
      (some (((c7, c8, c9, c10, ()), ()), ()))
def Words_13 (N : Nat) (x : ((List Bool × Unit) × Unit)) : Option (((Int × (Int × (Int × (Int × Unit)))) × Unit) × Unit) := match x with
  | ((l0, ()), ()) =>
    loopN N (Words_13_L3 N) ((l0, (), (), 0, ()), (0, 0, 0, 0, ()), (0, 0, 0, 0, ()), ())
theorem eq_Words_13 (N : Nat) (x : (ap_Words_13).den) : funX Tryd.prog (fs11 N) N 13 lo_Words_13 jo_Words_13 Tryd.f13 ap_Words_13 rp_Words_13 x = Words_13 N x := by kernel_rfl
noncomputable def sp_Words_13 (N : Nat) : FSpec := specOf ap_Words_13 rp_Words_13 true (Words_13 N)
theorem ok_Words_13 (N : Nat) : FSound Tryd.prog 13 (sp_Words_13 N) := funX_sound (N := N) (loops := lo_Words_13) (joins := jo_Words_13) (fsok11 N) Tryd.func13 (by kernel_rfl) (by kernel_rfl) fun x _ h => (eq_Words_13 N x).trans h
noncomputable def fs12 (N : Nat) : FuncId → List V1 → List Blk → Option FSpec := fun g xs H => if g = 13 then some (sp_Words_13 N) else fs11 N g xs H
theorem fsok12 (N : Nat) : ∀ g xs H sp, fs12 N g xs H = some sp → FSound Tryd.prog g sp := fun g xs H sp h => by
  unfold fs12 at h
  by_cases e : g = 13
  · rw [if_pos e] at h; subst e; cases h; exact ok_Words_13 N
  · rw [if_neg e] at h; exact fsok11 N g xs H sp h
/-! BitsMakes_3 -/
abbrev ap_BitsMakes_3 : Pat := ⟨[.one (.ro (.int .i64))], []⟩
abbrev rp_BitsMakes_3 : List Pat := [⟨[.one (.bool)], []⟩]
def lo_BitsMakes_3 : List LSpec := []
def jo_BitsMakes_3 : List LSpec := []
def BitsMakes_3 (N : Nat) (x : ((List Int × Unit) × Unit)) : Option ((Bool × Unit) × Unit) := match x with
  | ((l0, ()), ()) =>
    (examples_10 N ((), ())).bind fun y1 =>
    (Of_11 N ((l0, ()), ())).bind fun y2 =>
    (Of_12 N ((l0, ()), ())).bind fun y3 =>
    byB (!y3.1.2.1)
      (byB y1.1.1
          (byB (y2.1.2.1 == 1)
              (some ((((y2.1.1.1 == 0) && ((y2.1.1.2.1 == 0) && ((y2.1.1.2.2.1 == 0) && ((y2.1.1.2.2.2.1 == 0) && true)))) && true, ()), ()))
              (some ((false, ()), ())))
          (some ((false, ()), ())))
      (byB y1.1.1
          (byB (y2.1.2.1 == 0)
              ((Words_13 N ((y3.2.1, ()), ())).bind fun y8 =>
                some (((y2.1.1.1 == y8.1.1.1) && ((y2.1.1.2.1 == y8.1.1.2.1) && ((y2.1.1.2.2.1 == y8.1.1.2.2.1) && ((y2.1.1.2.2.2.1 == y8.1.1.2.2.2.1) && true))), ()), ()))
              (some ((false, ()), ())))
          (some ((false, ()), ())))
theorem eq_BitsMakes_3 (N : Nat) (x : (ap_BitsMakes_3).den) : funX Tryd.prog (fs12 N) N 3 lo_BitsMakes_3 jo_BitsMakes_3 Tryd.f3 ap_BitsMakes_3 rp_BitsMakes_3 x = BitsMakes_3 N x := by kernel_rfl
noncomputable def sp_BitsMakes_3 (N : Nat) : FSpec := specOf ap_BitsMakes_3 rp_BitsMakes_3 true (BitsMakes_3 N)
theorem ok_BitsMakes_3 (N : Nat) : FSound Tryd.prog 3 (sp_BitsMakes_3 N) := funX_sound (N := N) (loops := lo_BitsMakes_3) (joins := jo_BitsMakes_3) (fsok12 N) Tryd.func3 (by kernel_rfl) (by kernel_rfl) fun x _ h => (eq_BitsMakes_3 N x).trans h
noncomputable def fs13 (N : Nat) : FuncId → List V1 → List Blk → Option FSpec := fun g xs H => if g = 3 then some (sp_BitsMakes_3 N) else fs12 N g xs H
theorem fsok13 (N : Nat) : ∀ g xs H sp, fs13 N g xs H = some sp → FSound Tryd.prog g sp := fun g xs H sp h => by
  unfold fs13 at h
  by_cases e : g = 3
  · rw [if_pos e] at h; subst e; cases h; exact ok_BitsMakes_3 N
  · rw [if_neg e] at h; exact fsok12 N g xs H sp h
/-! BitsOrder_4 -/
abbrev ap_BitsOrder_4 : Pat := ⟨[.one (.ro (.int .i64))], []⟩
abbrev rp_BitsOrder_4 : List Pat := [⟨[.one (.bool)], []⟩]
def lo_BitsOrder_4 : List LSpec := [⟨5, [0, 3, 4, 5, 6, 7], ⟨[.one (.ro (.int .i64)), .one (.bool), .one (.ptr 0 0), .one (.int .i64), .one (.full 1), .one (.int .i64)], [.var 27 [.int .u64, .int .u64, .int .u64, .int .u64], .row 3 (.int .i64)]⟩⟩]
def jo_BitsOrder_4 : List LSpec := []
def BitsOrder_4_L5 (N : Nat) (again5 : ((List Int × (Bool × (Unit × (Int × (Unit × (Int × Unit)))))) × ((Int × (Int × (Int × (Int × Unit)))) × (List Int × Unit))) → Option ((Bool × Unit) × Unit)) (x : ((List Int × (Bool × (Unit × (Int × (Unit × (Int × Unit)))))) × ((Int × (Int × (Int × (Int × Unit)))) × (List Int × Unit)))) : Option ((Bool × Unit) × Unit) := match x with
  | ((l5, head6, _, e7, _, i8, ()), (c9, c10, c11, c12, ()), l13, ()) =>
    byB (decide (i8 ≥ 0))
      (if (0 ≤ i8) ∧ (i8 < (l5.length : Int)) then
        (if (l13.length + 1) * 8 ≤ 140737488355328 then
        again5 ((l5, head6, (), e7, (), IntKind.wrap .i64 (i8 - 1), ()), (c9, c10, c11, c12, ()), l13 ++ [l5.getD i8.toNat 0], ())
        else none)
        else none)
      (if (l13.length + l5.length) * 8 ≤ 140737488355328 then
        (Of_11 N ((l13 ++ l5, ()), ())).bind fun y19 =>
        byB head6
          (byB (((c9 == y19.1.1.1) && ((c10 == y19.1.1.2.1) && ((c11 == y19.1.1.2.2.1) && ((c12 == y19.1.1.2.2.2.1) && true)))) && true)
              (some ((e7 == y19.1.2.1, ()), ()))
              (some ((false, ()), ())))
          (some ((false, ()), ()))
        else none)
def BitsOrder_4 (N : Nat) (x : ((List Int × Unit) × Unit)) : Option ((Bool × Unit) × Unit) := match x with
  | ((l0, ()), ()) =>
    (examples_10 N ((), ())).bind fun y1 =>
    (Of_11 N ((l0, ()), ())).bind fun y2 =>
    loopN N (BitsOrder_4_L5 N) ((l0, y1.1.1, (), y2.1.2.1, (), IntKind.wrap .i64 ((l0.length : Int) - 1), ()), (y2.1.1.1, y2.1.1.2.1, y2.1.1.2.2.1, y2.1.1.2.2.2.1, ()), [], ())
theorem eq_BitsOrder_4 (N : Nat) (x : (ap_BitsOrder_4).den) : funX Tryd.prog (fs13 N) N 4 lo_BitsOrder_4 jo_BitsOrder_4 Tryd.f4 ap_BitsOrder_4 rp_BitsOrder_4 x = BitsOrder_4 N x := by kernel_rfl
noncomputable def sp_BitsOrder_4 (N : Nat) : FSpec := specOf ap_BitsOrder_4 rp_BitsOrder_4 true (BitsOrder_4 N)
theorem ok_BitsOrder_4 (N : Nat) : FSound Tryd.prog 4 (sp_BitsOrder_4 N) := funX_sound (N := N) (loops := lo_BitsOrder_4) (joins := jo_BitsOrder_4) (fsok13 N) Tryd.func4 (by kernel_rfl) (by kernel_rfl) fun x _ h => (eq_BitsOrder_4 N x).trans h
noncomputable def fs14 (N : Nat) : FuncId → List V1 → List Blk → Option FSpec := fun g xs H => if g = 4 then some (sp_BitsOrder_4 N) else fs13 N g xs H
theorem fsok14 (N : Nat) : ∀ g xs H sp, fs14 N g xs H = some sp → FSound Tryd.prog g sp := fun g xs H sp h => by
  unfold fs14 at h
  by_cases e : g = 4
  · rw [if_pos e] at h; subst e; cases h; exact ok_BitsOrder_4 N
  · rw [if_neg e] at h; exact fsok13 N g xs H sp h
/-! Has_16 -/
abbrev ap_Has_16 : Pat := ⟨[.agg [.int .u64, .int .u64, .int .u64, .int .u64], .one (.int .i64)], []⟩
abbrev rp_Has_16 : List Pat := [⟨[.one (.bool)], []⟩]
def lo_Has_16 : List LSpec := []
def jo_Has_16 : List LSpec := []
def Has_16 (N : Nat) (x : (((Int × (Int × (Int × (Int × Unit)))) × (Int × Unit)) × Unit)) : Option ((Bool × Unit) × Unit) := match x with
  | (((s0, s1, s2, s3, ()), i4, ()), ()) =>
    (level_23 N ((i4, ()), ())).bind fun y5 =>
    byB y5.1.1
      (if (0 ≤ (Int.fdiv i4 (2 ^ 6))) ∧ ((Int.fdiv i4 (2 ^ 6)) < 4) then
        (bit_25 N ((i4, ()), ())).bind fun y8 =>
        some (((IntKind.wrap .u64 (BitVec.ofInt (IntKind.bits .u64) ([s0, s1, s2, s3].getD (Int.fdiv i4 (2 ^ 6)).toNat 0) &&& BitVec.ofInt (IntKind.bits .u64) y8.1.1).toNat) != 0, ()), ())
        else none)
      (some ((false, ()), ()))
theorem eq_Has_16 (N : Nat) (x : (ap_Has_16).den) : funX Tryd.prog (fs14 N) N 16 lo_Has_16 jo_Has_16 Tryd.f16 ap_Has_16 rp_Has_16 x = Has_16 N x := by kernel_rfl
noncomputable def sp_Has_16 (N : Nat) : FSpec := specOf ap_Has_16 rp_Has_16 true (Has_16 N)
theorem ok_Has_16 (N : Nat) : FSound Tryd.prog 16 (sp_Has_16 N) := funX_sound (N := N) (loops := lo_Has_16) (joins := jo_Has_16) (fsok14 N) Tryd.func16 (by kernel_rfl) (by kernel_rfl) fun x _ h => (eq_Has_16 N x).trans h
noncomputable def fs15 (N : Nat) : FuncId → List V1 → List Blk → Option FSpec := fun g xs H => if g = 16 then some (sp_Has_16 N) else fs14 N g xs H
theorem fsok15 (N : Nat) : ∀ g xs H sp, fs15 N g xs H = some sp → FSound Tryd.prog g sp := fun g xs H sp h => by
  unfold fs15 at h
  by_cases e : g = 16
  · rw [if_pos e] at h; subst e; cases h; exact ok_Has_16 N
  · rw [if_neg e] at h; exact fsok14 N g xs H sp h
/-! BitsWalk_5 -/
abbrev ap_BitsWalk_5 : Pat := ⟨[.agg [.int .u64, .int .u64, .int .u64, .int .u64]], []⟩
abbrev rp_BitsWalk_5 : List Pat := [⟨[.one (.bool)], []⟩]
def lo_BitsWalk_5 : List LSpec := [⟨6, [3, 4, 5, 6, 7], ⟨[.one (.bool), .one (.ptr 0 0), .one (.int .i64), .one (.int .i64), .one (.int .i64)], [.var 27 [.int .u64, .int .u64, .int .u64, .int .u64]]⟩⟩, ⟨11, [3, 4, 6, 7, 8, 23, 24, 27, 28, 29, 30, 33, 34], ⟨[.one (.bool), .one (.ptr 0 0), .one (.int .i64), .one (.int .i64), .one (.int .i64), .one (.int .i64), .one (.bool), .agg [.int .u64, .int .u64, .int .u64, .int .u64], .one (.int .i64), .one (.bool), .one (.bool), .one (.int .i64), .one (.bool)], [.var 27 [.int .u64, .int .u64, .int .u64, .int .u64]]⟩⟩]
def jo_BitsWalk_5 : List LSpec := []
def BitsWalk_5_L11 (N : Nat) (again6 : ((Bool × (Unit × (Int × (Int × (Int × Unit))))) × ((Int × (Int × (Int × (Int × Unit)))) × Unit)) → Option ((Bool × Unit) × Unit)) (again11 : ((Bool × (Unit × (Int × (Int × (Int × (Int × (Bool × ((Int × (Int × (Int × (Int × Unit)))) × (Int × (Bool × (Bool × (Int × (Bool × Unit))))))))))))) × ((Int × (Int × (Int × (Int × Unit)))) × Unit)) → Option ((Bool × Unit) × Unit)) (x : ((Bool × (Unit × (Int × (Int × (Int × (Int × (Bool × ((Int × (Int × (Int × (Int × Unit)))) × (Int × (Bool × (Bool × (Int × (Bool × Unit))))))))))))) × ((Int × (Int × (Int × (Int × Unit)))) × Unit))) : Option ((Bool × Unit) × Unit) := match x with
  | ((head21, _, many22, i23, k24, t25, t26, (t27, t28, t29, t30, ()), t31, t32, t33, t34, t35, ()), (c36, c37, c38, c39, ()), ()) =>
    byB (decide (k24 < i23))
      ((Has_16 N (((c36, c37, c38, c39, ()), k24, ()), ())).bind fun y41 =>
        byB y41.1.1
          (some ((false, ()), ()))
          (again11 ((head21, (), many22, i23, IntKind.wrap .i64 (k24 + 1), t25, t26, (t27, t28, t29, t30, ()), t31, t32, t33, t34, t35, ()), (c36, c37, c38, c39, ()), ())))
      ((Next_15 N (((c36, c37, c38, c39, ()), i23, ()), ())).bind fun y44 =>
        again6 ((head21, (), i23, IntKind.wrap .i64 (many22 + 1), y44.1.1, ()), (c36, c37, c38, c39, ()), ()))
def BitsWalk_5_L6 (N : Nat) (again6 : ((Bool × (Unit × (Int × (Int × (Int × Unit))))) × ((Int × (Int × (Int × (Int × Unit)))) × Unit)) → Option ((Bool × Unit) × Unit)) (x : ((Bool × (Unit × (Int × (Int × (Int × Unit))))) × ((Int × (Int × (Int × (Int × Unit)))) × Unit))) : Option ((Bool × Unit) × Unit) := match x with
  | ((head6, _, last7, many8, i9, ()), (c10, c11, c12, c13, ()), ()) =>
    byB (decide (i9 ≥ 0))
      (byB (decide (i9 ≤ last7))
          (some ((false, ()), ()))
          (let t16 := decide (i9 > 255);
            byB t16
              (some ((false, ()), ()))
              ((Has_16 N (((c10, c11, c12, c13, ()), i9, ()), ())).bind fun y17 =>
                byB (!y17.1.1)
                  (some ((false, ()), ()))
                  (let t19 := decide (many8 > 256);
                    byB t19
                      (some ((false, ()), ()))
                      (loopN N (BitsWalk_5_L11 N again6) ((head6, (), many8, i9, IntKind.wrap .i64 (last7 + 1), i9, t16, (c10, c11, c12, c13, ()), i9, y17.1.1, !y17.1.1, many8, t19, ()), (c10, c11, c12, c13, ()), ()))))))
      (byB head6
          ((Count_17 N (((c10, c11, c12, c13, ()), ()), ())).bind fun y45 =>
            some ((many8 == y45.1.1, ()), ()))
          (some ((false, ()), ())))
def BitsWalk_5 (N : Nat) (x : (((Int × (Int × (Int × (Int × Unit)))) × Unit) × Unit)) : Option ((Bool × Unit) × Unit) := match x with
  | (((w0, w1, w2, w3, ()), ()), ()) =>
    (examples_10 N ((), ())).bind fun y4 =>
    (First_14 N (((w0, w1, w2, w3, ()), ()), ())).bind fun y5 =>
    loopN N (BitsWalk_5_L6 N) ((y4.1.1, (), -1, 0, y5.1.1, ()), (w0, w1, w2, w3, ()), ())
theorem eq_BitsWalk_5 (N : Nat) (x : (ap_BitsWalk_5).den) : funX Tryd.prog (fs15 N) N 5 lo_BitsWalk_5 jo_BitsWalk_5 Tryd.f5 ap_BitsWalk_5 rp_BitsWalk_5 x = BitsWalk_5 N x := by kernel_rfl
noncomputable def sp_BitsWalk_5 (N : Nat) : FSpec := specOf ap_BitsWalk_5 rp_BitsWalk_5 true (BitsWalk_5 N)
theorem ok_BitsWalk_5 (N : Nat) : FSound Tryd.prog 5 (sp_BitsWalk_5 N) := funX_sound (N := N) (loops := lo_BitsWalk_5) (joins := jo_BitsWalk_5) (fsok15 N) Tryd.func5 (by kernel_rfl) (by kernel_rfl) fun x _ h => (eq_BitsWalk_5 N x).trans h
noncomputable def fs16 (N : Nat) : FuncId → List V1 → List Blk → Option FSpec := fun g xs H => if g = 5 then some (sp_BitsWalk_5 N) else fs15 N g xs H
theorem fsok16 (N : Nat) : ∀ g xs H sp, fs16 N g xs H = some sp → FSound Tryd.prog g sp := fun g xs H sp h => by
  unfold fs16 at h
  by_cases e : g = 5
  · rw [if_pos e] at h; subst e; cases h; exact ok_BitsWalk_5 N
  · rw [if_neg e] at h; exact fsok15 N g xs H sp h
/-! Without_19 -/
abbrev ap_Without_19 : Pat := ⟨[.agg [.int .u64, .int .u64, .int .u64, .int .u64], .one (.int .i64)], []⟩
abbrev rp_Without_19 : List Pat := [⟨[.agg [.int .u64, .int .u64, .int .u64, .int .u64]], []⟩]
def lo_Without_19 : List LSpec := []
def jo_Without_19 : List LSpec := []
def Without_19 (N : Nat) (x : (((Int × (Int × (Int × (Int × Unit)))) × (Int × Unit)) × Unit)) : Option (((Int × (Int × (Int × (Int × Unit)))) × Unit) × Unit) := match x with
  | (((s0, s1, s2, s3, ()), i4, ()), ()) =>
    (level_23 N ((i4, ()), ())).bind fun y5 =>
    byB y5.1.1
      (if (0 ≤ (Int.fdiv i4 (2 ^ 6))) ∧ ((Int.fdiv i4 (2 ^ 6)) < 4) then
        (bit_25 N ((i4, ()), ())).bind fun y8 =>
        let t9 := IntKind.wrap .u64 (BitVec.ofInt (IntKind.bits .u64) ([s0, s1, s2, s3].getD (Int.fdiv i4 (2 ^ 6)).toNat 0) &&& ~~~ BitVec.ofInt (IntKind.bits .u64) y8.1.1).toNat;
        if (0 ≤ (Int.fdiv i4 (2 ^ 6))) ∧ ((Int.fdiv i4 (2 ^ 6)) < 4) then
        some (((([s0, s1, s2, s3].set (Int.fdiv i4 (2 ^ 6)).toNat t9).getD 0 0, ([s0, s1, s2, s3].set (Int.fdiv i4 (2 ^ 6)).toNat t9).getD 1 0, ([s0, s1, s2, s3].set (Int.fdiv i4 (2 ^ 6)).toNat t9).getD 2 0, ([s0, s1, s2, s3].set (Int.fdiv i4 (2 ^ 6)).toNat t9).getD 3 0, ()), ()), ())
        else none
        else none)
      (some (((s0, s1, s2, s3, ()), ()), ()))
theorem eq_Without_19 (N : Nat) (x : (ap_Without_19).den) : funX Tryd.prog (fs16 N) N 19 lo_Without_19 jo_Without_19 Tryd.f19 ap_Without_19 rp_Without_19 x = Without_19 N x := by kernel_rfl
noncomputable def sp_Without_19 (N : Nat) : FSpec := specOf ap_Without_19 rp_Without_19 true (Without_19 N)
theorem ok_Without_19 (N : Nat) : FSound Tryd.prog 19 (sp_Without_19 N) := funX_sound (N := N) (loops := lo_Without_19) (joins := jo_Without_19) (fsok16 N) Tryd.func19 (by kernel_rfl) (by kernel_rfl) fun x _ h => (eq_Without_19 N x).trans h
noncomputable def fs17 (N : Nat) : FuncId → List V1 → List Blk → Option FSpec := fun g xs H => if g = 19 then some (sp_Without_19 N) else fs16 N g xs H
theorem fsok17 (N : Nat) : ∀ g xs H sp, fs17 N g xs H = some sp → FSound Tryd.prog g sp := fun g xs H sp h => by
  unfold fs17 at h
  by_cases e : g = 19
  · rw [if_pos e] at h; subst e; cases h; exact ok_Without_19 N
  · rw [if_neg e] at h; exact fsok16 N g xs H sp h
/-! Levels_20 -/
abbrev ap_Levels_20 : Pat := ⟨[.agg [.int .u64, .int .u64, .int .u64, .int .u64]], []⟩
abbrev rp_Levels_20 : List Pat := [⟨[.one (.full 0)], [.row 4 .bool]⟩]
def lo_Levels_20 : List LSpec := [⟨3, [1, 3, 4], ⟨[.one (.ptr 0 0), .one (.full 1), .one (.int .i64)], [.var 25 [.int .u64, .int .u64, .int .u64, .int .u64], .row 4 .bool]⟩⟩]
def jo_Levels_20 : List LSpec := []
def Levels_20_L3 (N : Nat) (again3 : ((Unit × (Unit × (Int × Unit))) × ((Int × (Int × (Int × (Int × Unit)))) × (List Bool × Unit))) → Option ((Unit × Unit) × (List Bool × Unit))) (x : ((Unit × (Unit × (Int × Unit))) × ((Int × (Int × (Int × (Int × Unit)))) × (List Bool × Unit)))) : Option ((Unit × Unit) × (List Bool × Unit)) := match x with
  | ((_, _, i4, ()), (c5, c6, c7, c8, ()), l9, ()) =>
    byB (decide (i4 < 256))
      (let t11 := IntKind.wrap .i64 (Int.tdiv i4 64);
        if (0 ≤ t11) ∧ (t11 < 4) then
        let t13 := Int.tmod i4 64;
        if t13 < 0 then
          none
        else
        if (0 ≤ i4) ∧ (i4 < (l9.length : Int)) then
        again3 (((), (), IntKind.wrap .i64 (i4 + 1), ()), (c5, c6, c7, c8, ()), l9.set i4.toNat ((Int.tmod (Int.fdiv ([c5, c6, c7, c8].getD t11.toNat 0) (2 ^ (min t13.toNat (IntKind.bits .u64)))) 2) == 1), ())
        else none
        else none)
      (some (((), ()), l9, ()))
def Levels_20 (N : Nat) (x : (((Int × (Int × (Int × (Int × Unit)))) × Unit) × Unit)) : Option ((Unit × Unit) × (List Bool × Unit)) := match x with
  | (((w0, w1, w2, w3, ()), ()), ()) =>
    loopN N (Levels_20_L3 N) (((), (), 0, ()), (w0, w1, w2, w3, ()), List.replicate 256 false, ())
theorem eq_Levels_20 (N : Nat) (x : (ap_Levels_20).den) : funX Tryd.prog (fs17 N) N 20 lo_Levels_20 jo_Levels_20 Tryd.f20 ap_Levels_20 rp_Levels_20 x = Levels_20 N x := by kernel_rfl
noncomputable def sp_Levels_20 (N : Nat) : FSpec := specOf ap_Levels_20 rp_Levels_20 true (Levels_20 N)
theorem ok_Levels_20 (N : Nat) : FSound Tryd.prog 20 (sp_Levels_20 N) := funX_sound (N := N) (loops := lo_Levels_20) (joins := jo_Levels_20) (fsok17 N) Tryd.func20 (by kernel_rfl) (by kernel_rfl) fun x _ h => (eq_Levels_20 N x).trans h
noncomputable def fs18 (N : Nat) : FuncId → List V1 → List Blk → Option FSpec := fun g xs H => if g = 20 then some (sp_Levels_20 N) else fs17 N g xs H
theorem fsok18 (N : Nat) : ∀ g xs H sp, fs18 N g xs H = some sp → FSound Tryd.prog g sp := fun g xs H sp h => by
  unfold fs18 at h
  by_cases e : g = 20
  · rw [if_pos e] at h; subst e; cases h; exact ok_Levels_20 N
  · rw [if_neg e] at h; exact fsok17 N g xs H sp h
/-! BitsTurns_6 -/
abbrev ap_BitsTurns_6 : Pat := ⟨[.agg [.int .u64, .int .u64, .int .u64, .int .u64], .one (.int .i64)], []⟩
abbrev rp_BitsTurns_6 : List Pat := [⟨[.one (.bool)], []⟩]
def lo_BitsTurns_6 : List LSpec := []
def jo_BitsTurns_6 : List LSpec := []
def BitsTurns_6 (N : Nat) (x : (((Int × (Int × (Int × (Int × Unit)))) × (Int × Unit)) × Unit)) : Option ((Bool × Unit) × Unit) := match x with
  | (((w0, w1, w2, w3, ()), i4, ()), ()) =>
    (examples_10 N ((), ())).bind fun y5 =>
    (With_18 N (((w0, w1, w2, w3, ()), i4, ()), ())).bind fun y6 =>
    (Without_19 N (((w0, w1, w2, w3, ()), i4, ()), ())).bind fun y7 =>
    byB (decide (i4 < 0))
      (byB y5.1.1
          (byB (((y6.1.1.1 == w0) && ((y6.1.1.2.1 == w1) && ((y6.1.1.2.2.1 == w2) && ((y6.1.1.2.2.2.1 == w3) && true)))) && true)
              (some ((((y7.1.1.1 == w0) && ((y7.1.1.2.1 == w1) && ((y7.1.1.2.2.1 == w2) && ((y7.1.1.2.2.2.1 == w3) && true)))) && true, ()), ()))
              (some ((false, ()), ())))
          (some ((false, ()), ())))
      (byB (decide (i4 > 255))
          (byB y5.1.1
              (byB (((y6.1.1.1 == w0) && ((y6.1.1.2.1 == w1) && ((y6.1.1.2.2.1 == w2) && ((y6.1.1.2.2.2.1 == w3) && true)))) && true)
                  (some ((((y7.1.1.1 == w0) && ((y7.1.1.2.1 == w1) && ((y7.1.1.2.2.1 == w2) && ((y7.1.1.2.2.2.1 == w3) && true)))) && true, ()), ()))
                  (some ((false, ()), ())))
              (some ((false, ()), ())))
          ((Levels_20 N (((w0, w1, w2, w3, ()), ()), ())).bind fun y14 =>
            if (0 ≤ i4) ∧ (i4 < (y14.2.1.length : Int)) then
            let l15 := y14.2.1.set i4.toNat true;
            (Words_13 N ((l15, ()), ())).bind fun y16 =>
            if (0 ≤ i4) ∧ (i4 < (l15.length : Int)) then
            (Words_13 N ((l15.set i4.toNat false, ()), ())).bind fun y18 =>
            byB y5.1.1
              (byB ((y6.1.1.1 == y16.1.1.1) && ((y6.1.1.2.1 == y16.1.1.2.1) && ((y6.1.1.2.2.1 == y16.1.1.2.2.1) && ((y6.1.1.2.2.2.1 == y16.1.1.2.2.2.1) && true))))
                  (byB ((y7.1.1.1 == y18.1.1.1) && ((y7.1.1.2.1 == y18.1.1.2.1) && ((y7.1.1.2.2.1 == y18.1.1.2.2.1) && ((y7.1.1.2.2.2.1 == y18.1.1.2.2.2.1) && true))))
                      (some (((w0 == w0) && ((w1 == w1) && ((w2 == w2) && ((w3 == w3) && true))), ()), ()))
                      (some ((false, ()), ())))
                  (some ((false, ()), ())))
              (some ((false, ()), ()))
            else none
            else none))
theorem eq_BitsTurns_6 (N : Nat) (x : (ap_BitsTurns_6).den) : funX Tryd.prog (fs18 N) N 6 lo_BitsTurns_6 jo_BitsTurns_6 Tryd.f6 ap_BitsTurns_6 rp_BitsTurns_6 x = BitsTurns_6 N x := by kernel_rfl
noncomputable def sp_BitsTurns_6 (N : Nat) : FSpec := specOf ap_BitsTurns_6 rp_BitsTurns_6 true (BitsTurns_6 N)
theorem ok_BitsTurns_6 (N : Nat) : FSound Tryd.prog 6 (sp_BitsTurns_6 N) := funX_sound (N := N) (loops := lo_BitsTurns_6) (joins := jo_BitsTurns_6) (fsok18 N) Tryd.func6 (by kernel_rfl) (by kernel_rfl) fun x _ h => (eq_BitsTurns_6 N x).trans h
noncomputable def fs19 (N : Nat) : FuncId → List V1 → List Blk → Option FSpec := fun g xs H => if g = 6 then some (sp_BitsTurns_6 N) else fs18 N g xs H
theorem fsok19 (N : Nat) : ∀ g xs H sp, fs19 N g xs H = some sp → FSound Tryd.prog g sp := fun g xs H sp h => by
  unfold fs19 at h
  by_cases e : g = 6
  · rw [if_pos e] at h; subst e; cases h; exact ok_BitsTurns_6 N
  · rw [if_neg e] at h; exact fsok18 N g xs H sp h
/-! BitsCounts_7 -/
abbrev ap_BitsCounts_7 : Pat := ⟨[.agg [.int .u64, .int .u64, .int .u64, .int .u64], .one (.int .i64)], []⟩
abbrev rp_BitsCounts_7 : List Pat := [⟨[.one (.bool)], []⟩]
def lo_BitsCounts_7 : List LSpec := []
def jo_BitsCounts_7 : List LSpec := [⟨5, [1, 4, 5, 6, 7, 20], ⟨[.one (.int .i64), .one (.bool), .one (.bool), .one (.ptr 0 0), .one (.ptr 1 0), .one (.bool)], [.var 27 [.int .u64, .int .u64, .int .u64, .int .u64], .var 27 [.int .u64, .int .u64, .int .u64, .int .u64]]⟩⟩, ⟨9, [1, 4, 5, 6, 7, 8], ⟨[.one (.int .i64), .one (.bool), .one (.bool), .one (.ptr 0 0), .one (.ptr 1 0), .one (.int .i64)], [.var 27 [.int .u64, .int .u64, .int .u64, .int .u64], .var 27 [.int .u64, .int .u64, .int .u64, .int .u64]]⟩⟩]
def BitsCounts_7_J9 (N : Nat) (x : ((Int × (Bool × (Bool × (Unit × (Unit × (Int × Unit)))))) × ((Int × (Int × (Int × (Int × Unit)))) × ((Int × (Int × (Int × (Int × Unit)))) × Unit)))) : Option ((Bool × Unit) × Unit) := match x with
  | ((i26, t27, head28, _, _, n29, ()), (c30, c31, c32, c33, ()), (c34, c35, c36, c37, ()), ()) =>
    byB head28
      ((Count_17 N (((c34, c35, c36, c37, ()), ()), ())).bind fun y38 =>
        byB (y38.1.1 == n29)
          ((Has_16 N (((c34, c35, c36, c37, ()), i26, ()), ())).bind fun y40 =>
            byB y40.1.1
              ((First_14 N (((c34, c35, c36, c37, ()), ()), ())).bind fun y41 =>
                byB (decide (y41.1.1 ≤ i26))
                  ((First_14 N (((c30, c31, c32, c33, ()), ()), ())).bind fun y43 =>
                    byB (y43.1.1 == (-1))
                      ((Without_19 N (((c30, c31, c32, c33, ()), i26, ()), ())).bind fun y45 =>
                        (Count_17 N (((y45.1.1.1, y45.1.1.2.1, y45.1.1.2.2.1, y45.1.1.2.2.2.1, ()), ()), ())).bind fun y46 =>
                        some ((y46.1.1 == (IntKind.wrap .i64 (n29 - 1)), ()), ()))
                      ((First_14 N (((c34, c35, c36, c37, ()), ()), ())).bind fun y49 =>
                        (First_14 N (((c30, c31, c32, c33, ()), ()), ())).bind fun y50 =>
                        byB (decide (y49.1.1 ≤ y50.1.1))
                          ((Without_19 N (((c30, c31, c32, c33, ()), i26, ()), ())).bind fun y52 =>
                            (Count_17 N (((y52.1.1.1, y52.1.1.2.1, y52.1.1.2.2.1, y52.1.1.2.2.2.1, ()), ()), ())).bind fun y53 =>
                            some ((y53.1.1 == (IntKind.wrap .i64 (n29 - 1)), ()), ()))
                          (some ((false, ()), ()))))
                  (some ((false, ()), ())))
              (some ((false, ()), ())))
          (some ((false, ()), ())))
      (some ((false, ()), ()))
def BitsCounts_7_J5 (N : Nat) (x : ((Int × (Bool × (Bool × (Unit × (Unit × (Bool × Unit)))))) × ((Int × (Int × (Int × (Int × Unit)))) × ((Int × (Int × (Int × (Int × Unit)))) × Unit)))) : Option ((Bool × Unit) × Unit) := match x with
  | ((i9, t10, head11, _, _, t12, ()), (c13, c14, c15, c16, ()), (c17, c18, c19, c20, ()), ()) =>
    byB t12
      (byB head11
          (some ((((c17 == c13) && ((c18 == c14) && ((c19 == c15) && ((c20 == c16) && true)))) && true, ()), ()))
          (some ((false, ()), ())))
      ((Count_17 N (((c13, c14, c15, c16, ()), ()), ())).bind fun y22 =>
        withJoin (BitsCounts_7_J9 N) fun join9 =>
        (Has_16 N (((c13, c14, c15, c16, ()), i9, ()), ())).bind fun y23 =>
        byB (!y23.1.1)
          (join9 ((i9, t10, head11, (), (), IntKind.wrap .i64 (y22.1.1 + 1), ()), (c13, c14, c15, c16, ()), (c17, c18, c19, c20, ()), ()))
          (join9 ((i9, t10, head11, (), (), y22.1.1, ()), (c13, c14, c15, c16, ()), (c17, c18, c19, c20, ()), ())))
def BitsCounts_7 (N : Nat) (x : (((Int × (Int × (Int × (Int × Unit)))) × (Int × Unit)) × Unit)) : Option ((Bool × Unit) × Unit) := match x with
  | (((w0, w1, w2, w3, ()), i4, ()), ()) =>
    (examples_10 N ((), ())).bind fun y5 =>
    (With_18 N (((w0, w1, w2, w3, ()), i4, ()), ())).bind fun y6 =>
    withJoin (BitsCounts_7_J5 N) fun join5 =>
    byB (decide (i4 < 0))
      (join5 ((i4, false, y5.1.1, (), (), true, ()), (w0, w1, w2, w3, ()), (y6.1.1.1, y6.1.1.2.1, y6.1.1.2.2.1, y6.1.1.2.2.2.1, ()), ()))
      (join5 ((i4, false, y5.1.1, (), (), decide (i4 > 255), ()), (w0, w1, w2, w3, ()), (y6.1.1.1, y6.1.1.2.1, y6.1.1.2.2.1, y6.1.1.2.2.2.1, ()), ()))
theorem eq_BitsCounts_7 (N : Nat) (x : (ap_BitsCounts_7).den) : funX Tryd.prog (fs19 N) N 7 lo_BitsCounts_7 jo_BitsCounts_7 Tryd.f7 ap_BitsCounts_7 rp_BitsCounts_7 x = BitsCounts_7 N x := by kernel_rfl
noncomputable def sp_BitsCounts_7 (N : Nat) : FSpec := specOf ap_BitsCounts_7 rp_BitsCounts_7 true (BitsCounts_7 N)
theorem ok_BitsCounts_7 (N : Nat) : FSound Tryd.prog 7 (sp_BitsCounts_7 N) := funX_sound (N := N) (loops := lo_BitsCounts_7) (joins := jo_BitsCounts_7) (fsok19 N) Tryd.func7 (by kernel_rfl) (by kernel_rfl) fun x _ h => (eq_BitsCounts_7 N x).trans h
noncomputable def fs20 (N : Nat) : FuncId → List V1 → List Blk → Option FSpec := fun g xs H => if g = 7 then some (sp_BitsCounts_7 N) else fs19 N g xs H
theorem fsok20 (N : Nat) : ∀ g xs H sp, fs20 N g xs H = some sp → FSound Tryd.prog g sp := fun g xs H sp h => by
  unfold fs20 at h
  by_cases e : g = 7
  · rw [if_pos e] at h; subst e; cases h; exact ok_BitsCounts_7 N
  · rw [if_neg e] at h; exact fsok19 N g xs H sp h
/-! List_21 -/
abbrev ap_List_21 : Pat := ⟨[.agg [.int .u64, .int .u64, .int .u64, .int .u64]], []⟩
abbrev rp_List_21 : List Pat := [⟨[.one (.full 0)], [.row 3 (.int .i64)]⟩]
def lo_List_21 : List LSpec := [⟨3, [1, 3, 4], ⟨[.one (.ptr 0 0), .one (.full 1), .one (.int .i64)], [.var 27 [.int .u64, .int .u64, .int .u64, .int .u64], .row 3 (.int .i64)]⟩⟩]
def jo_List_21 : List LSpec := []
def List_21_L3 (N : Nat) (again3 : ((Unit × (Unit × (Int × Unit))) × ((Int × (Int × (Int × (Int × Unit)))) × (List Int × Unit))) → Option ((Unit × Unit) × (List Int × Unit))) (x : ((Unit × (Unit × (Int × Unit))) × ((Int × (Int × (Int × (Int × Unit)))) × (List Int × Unit)))) : Option ((Unit × Unit) × (List Int × Unit)) := match x with
  | ((_, _, i5, ()), (c6, c7, c8, c9, ()), l10, ()) =>
    byB (decide (i5 ≥ 0))
      (if (l10.length + 1) * 8 ≤ 140737488355328 then
        (Next_15 N (((c6, c7, c8, c9, ()), i5, ()), ())).bind fun y13 =>
        again3 (((), (), y13.1.1, ()), (c6, c7, c8, c9, ()), l10 ++ [i5], ())
        else none)
      (some (((), ()), l10, ()))
def List_21 (N : Nat) (x : (((Int × (Int × (Int × (Int × Unit)))) × Unit) × Unit)) : Option ((Unit × Unit) × (List Int × Unit)) := match x with
  | (((s0, s1, s2, s3, ()), ()), ()) =>
    (First_14 N (((s0, s1, s2, s3, ()), ()), ())).bind fun y4 =>
    loopN N (List_21_L3 N) (((), (), y4.1.1, ()), (s0, s1, s2, s3, ()), [], ())
theorem eq_List_21 (N : Nat) (x : (ap_List_21).den) : funX Tryd.prog (fs20 N) N 21 lo_List_21 jo_List_21 Tryd.f21 ap_List_21 rp_List_21 x = List_21 N x := by kernel_rfl
noncomputable def sp_List_21 (N : Nat) : FSpec := specOf ap_List_21 rp_List_21 true (List_21 N)
theorem ok_List_21 (N : Nat) : FSound Tryd.prog 21 (sp_List_21 N) := funX_sound (N := N) (loops := lo_List_21) (joins := jo_List_21) (fsok20 N) Tryd.func21 (by kernel_rfl) (by kernel_rfl) fun x _ h => (eq_List_21 N x).trans h
noncomputable def fs21 (N : Nat) : FuncId → List V1 → List Blk → Option FSpec := fun g xs H => if g = 21 then some (sp_List_21 N) else fs20 N g xs H
theorem fsok21 (N : Nat) : ∀ g xs H sp, fs21 N g xs H = some sp → FSound Tryd.prog g sp := fun g xs H sp h => by
  unfold fs21 at h
  by_cases e : g = 21
  · rw [if_pos e] at h; subst e; cases h; exact ok_List_21 N
  · rw [if_neg e] at h; exact fsok20 N g xs H sp h
/-! Next_22 -/
abbrev ap_Next_22 : Pat := ⟨[.one (.ro .bool), .one (.int .i64)], []⟩
abbrev rp_Next_22 : List Pat := [⟨[.one (.int .i64)], []⟩]
def lo_Next_22 : List LSpec := [⟨4, [0, 5], ⟨[.one (.ro .bool), .one (.int .i64)], []⟩⟩]
def jo_Next_22 : List LSpec := []
def Next_22_L4 (N : Nat) (again4 : ((List Bool × (Int × Unit)) × Unit) → Option ((Int × Unit) × Unit)) (x : ((List Bool × (Int × Unit)) × Unit)) : Option ((Int × Unit) × Unit) := match x with
  | ((l5, k6, ()), ()) =>
    byB (decide (k6 < 256))
      (if (0 ≤ k6) ∧ (k6 < (l5.length : Int)) then
        byB (l5.getD k6.toNat false)
          (some ((k6, ()), ()))
          (again4 ((l5, IntKind.wrap .i64 (k6 + 1), ()), ()))
        else none)
      (some ((-1, ()), ()))
def Next_22 (N : Nat) (x : ((List Bool × (Int × Unit)) × Unit)) : Option ((Int × Unit) × Unit) := match x with
  | ((l0, i1, ()), ()) =>
    byB (decide (i1 > 255))
      (some ((-1, ()), ()))
      (loopN N (Next_22_L4 N) ((l0, IntKind.wrap .i64 ((if (-1) > i1 then (-1) else i1) + 1), ()), ()))
theorem eq_Next_22 (N : Nat) (x : (ap_Next_22).den) : funX Tryd.prog (fs21 N) N 22 lo_Next_22 jo_Next_22 Tryd.f22 ap_Next_22 rp_Next_22 x = Next_22 N x := by kernel_rfl
noncomputable def sp_Next_22 (N : Nat) : FSpec := specOf ap_Next_22 rp_Next_22 true (Next_22 N)
theorem ok_Next_22 (N : Nat) : FSound Tryd.prog 22 (sp_Next_22 N) := funX_sound (N := N) (loops := lo_Next_22) (joins := jo_Next_22) (fsok21 N) Tryd.func22 (by kernel_rfl) (by kernel_rfl) fun x _ h => (eq_Next_22 N x).trans h
noncomputable def fs22 (N : Nat) : FuncId → List V1 → List Blk → Option FSpec := fun g xs H => if g = 22 then some (sp_Next_22 N) else fs21 N g xs H
theorem fsok22 (N : Nat) : ∀ g xs H sp, fs22 N g xs H = some sp → FSound Tryd.prog g sp := fun g xs H sp h => by
  unfold fs22 at h
  by_cases e : g = 22
  · rw [if_pos e] at h; subst e; cases h; exact ok_Next_22 N
  · rw [if_neg e] at h; exact fsok21 N g xs H sp h
/-! BitsTells_8 -/
abbrev ap_BitsTells_8 : Pat := ⟨[.agg [.int .u64, .int .u64, .int .u64, .int .u64], .one (.int .i64)], []⟩
abbrev rp_BitsTells_8 : List Pat := [⟨[.one (.bool)], []⟩]
def lo_BitsTells_8 : List LSpec := [⟨7, [1, 5, 6, 7, 8, 9, 10], ⟨[.one (.int .i64), .one (.bool), .one (.ptr 0 0), .one (.full 1), .one (.int .i64), .one (.full 2), .one (.int .i64)], [.var 27 [.int .u64, .int .u64, .int .u64, .int .u64], .row 4 .bool, .row 3 (.int .i64)]⟩⟩]
def jo_BitsTells_8 : List LSpec := [⟨16, [1, 5, 6, 7, 8, 9, 11], ⟨[.one (.int .i64), .one (.bool), .one (.ptr 0 0), .one (.full 1), .one (.int .i64), .one (.full 2), .one (.bool)], [.var 27 [.int .u64, .int .u64, .int .u64, .int .u64], .row 4 .bool, .row 3 (.int .i64)]⟩⟩]
def BitsTells_8_J16 (N : Nat) (x : ((Int × (Bool × (Unit × (Unit × (Int × (Unit × (Bool × Unit))))))) × ((Int × (Int × (Int × (Int × Unit)))) × (List Bool × (List Int × Unit))))) : Option ((Bool × Unit) × Unit) := match x with
  | ((i35, head36, _, _, many37, _, has38, ()), (c39, c40, c41, c42, ()), l43, l44, ()) =>
    byB head36
      ((Has_16 N (((c39, c40, c41, c42, ()), i35, ()), ())).bind fun y45 =>
        byB (y45.1.1 == has38)
          ((First_14 N (((c39, c40, c41, c42, ()), ()), ())).bind fun y47 =>
            (Next_22 N ((l43, -1, ()), ())).bind fun y48 =>
            byB (y47.1.1 == y48.1.1)
              ((Next_15 N (((c39, c40, c41, c42, ()), i35, ()), ())).bind fun y50 =>
                (Next_22 N ((l43, i35, ()), ())).bind fun y51 =>
                byB (y50.1.1 == y51.1.1)
                  ((Count_17 N (((c39, c40, c41, c42, ()), ()), ())).bind fun y53 =>
                    byB (y53.1.1 == many37)
                      (some (((l44.length : Int) == many37, ()), ()))
                      (some ((false, ()), ())))
                  (some ((false, ()), ())))
              (some ((false, ()), ())))
          (some ((false, ()), ())))
      (some ((false, ()), ()))
def BitsTells_8_L7 (N : Nat) (again7 : ((Int × (Bool × (Unit × (Unit × (Int × (Unit × (Int × Unit))))))) × ((Int × (Int × (Int × (Int × Unit)))) × (List Bool × (List Int × Unit)))) → Option ((Bool × Unit) × Unit)) (x : ((Int × (Bool × (Unit × (Unit × (Int × (Unit × (Int × Unit))))))) × ((Int × (Int × (Int × (Int × Unit)))) × (List Bool × (List Int × Unit))))) : Option ((Bool × Unit) × Unit) := match x with
  | ((i8, head9, _, _, many10, _, k11, ()), (c12, c13, c14, c15, ()), l16, l17, ()) =>
    byB (decide (k11 < 256))
      ((Has_16 N (((c12, c13, c14, c15, ()), k11, ()), ())).bind fun y19 =>
        if (0 ≤ k11) ∧ (k11 < (l16.length : Int)) then
        byB (!(y19.1.1 == (l16.getD k11.toNat false)))
          (some ((false, ()), ()))
          (if (0 ≤ k11) ∧ (k11 < (l16.length : Int)) then
            byB (l16.getD k11.toNat false)
              (byB (decide (many10 ≥ (l17.length : Int)))
                  (some ((false, ()), ()))
                  (if (0 ≤ many10) ∧ (many10 < (l17.length : Int)) then
                    byB ((l17.getD many10.toNat 0) != k11)
                      (some ((false, ()), ()))
                      (again7 ((i8, head9, (), (), IntKind.wrap .i64 (many10 + 1), (), IntKind.wrap .i64 (k11 + 1), ()), (c12, c13, c14, c15, ()), l16, l17, ()))
                    else none))
              (again7 ((i8, head9, (), (), many10, (), IntKind.wrap .i64 (k11 + 1), ()), (c12, c13, c14, c15, ()), l16, l17, ()))
            else none)
        else none)
      (withJoin (BitsTells_8_J16 N) fun join16 =>
        byB (decide (i8 ≥ 0))
          (byB (decide (i8 < 256))
              (let t33 := if 0 > (if 255 < i8 then 255 else i8) then 0 else (if 255 < i8 then 255 else i8);
                if (0 ≤ t33) ∧ (t33 < (l16.length : Int)) then
                join16 ((i8, head9, (), (), many10, (), l16.getD t33.toNat false, ()), (c12, c13, c14, c15, ()), l16, l17, ())
                else none)
              (join16 ((i8, head9, (), (), many10, (), false, ()), (c12, c13, c14, c15, ()), l16, l17, ())))
          (join16 ((i8, head9, (), (), many10, (), false, ()), (c12, c13, c14, c15, ()), l16, l17, ())))
def BitsTells_8 (N : Nat) (x : (((Int × (Int × (Int × (Int × Unit)))) × (Int × Unit)) × Unit)) : Option ((Bool × Unit) × Unit) := match x with
  | (((w0, w1, w2, w3, ()), i4, ()), ()) =>
    (examples_10 N ((), ())).bind fun y5 =>
    (Levels_20 N (((w0, w1, w2, w3, ()), ()), ())).bind fun y6 =>
    (List_21 N (((w0, w1, w2, w3, ()), ()), ())).bind fun y7 =>
    loopN N (BitsTells_8_L7 N) ((i4, y5.1.1, (), (), 0, (), 0, ()), (w0, w1, w2, w3, ()), y6.2.1, y7.2.1, ())
theorem eq_BitsTells_8 (N : Nat) (x : (ap_BitsTells_8).den) : funX Tryd.prog (fs22 N) N 8 lo_BitsTells_8 jo_BitsTells_8 Tryd.f8 ap_BitsTells_8 rp_BitsTells_8 x = BitsTells_8 N x := by kernel_rfl
noncomputable def sp_BitsTells_8 (N : Nat) : FSpec := specOf ap_BitsTells_8 rp_BitsTells_8 true (BitsTells_8 N)
theorem ok_BitsTells_8 (N : Nat) : FSound Tryd.prog 8 (sp_BitsTells_8 N) := funX_sound (N := N) (loops := lo_BitsTells_8) (joins := jo_BitsTells_8) (fsok22 N) Tryd.func8 (by kernel_rfl) (by kernel_rfl) fun x _ h => (eq_BitsTells_8 N x).trans h
noncomputable def fs23 (N : Nat) : FuncId → List V1 → List Blk → Option FSpec := fun g xs H => if g = 8 then some (sp_BitsTells_8 N) else fs22 N g xs H
theorem fsok23 (N : Nat) : ∀ g xs H sp, fs23 N g xs H = some sp → FSound Tryd.prog g sp := fun g xs H sp h => by
  unfold fs23 at h
  by_cases e : g = 8
  · rw [if_pos e] at h; subst e; cases h; exact ok_BitsTells_8 N
  · rw [if_neg e] at h; exact fsok22 N g xs H sp h
/-! BitsBack_9 -/
abbrev ap_BitsBack_9 : Pat := ⟨[.agg [.int .u64, .int .u64, .int .u64, .int .u64], .one (.int .i64)], []⟩
abbrev rp_BitsBack_9 : List Pat := [⟨[.one (.bool)], []⟩]
def lo_BitsBack_9 : List LSpec := []
def jo_BitsBack_9 : List LSpec := []
def BitsBack_9 (N : Nat) (x : (((Int × (Int × (Int × (Int × Unit)))) × (Int × Unit)) × Unit)) : Option ((Bool × Unit) × Unit) := match x with
  | (((w0, w1, w2, w3, ()), i4, ()), ()) =>
    (examples_10 N ((), ())).bind fun y5 =>
    (List_21 N (((w0, w1, w2, w3, ()), ()), ())).bind fun y6 =>
    (Of_11 N ((y6.2.1, ()), ())).bind fun y7 =>
    (With_18 N (((w0, w1, w2, w3, ()), i4, ()), ())).bind fun y8 =>
    (Without_19 N (((y8.1.1.1, y8.1.1.2.1, y8.1.1.2.2.1, y8.1.1.2.2.2.1, ()), i4, ()), ())).bind fun y9 =>
    (Without_19 N (((w0, w1, w2, w3, ()), i4, ()), ())).bind fun y10 =>
    (With_18 N (((y10.1.1.1, y10.1.1.2.1, y10.1.1.2.2.1, y10.1.1.2.2.2.1, ()), i4, ()), ())).bind fun y11 =>
    byB y5.1.1
      (byB (((y7.1.1.1 == w0) && ((y7.1.1.2.1 == w1) && ((y7.1.1.2.2.1 == w2) && ((y7.1.1.2.2.2.1 == w3) && true)))) && true)
          (byB (y7.1.2.1 == 0)
              ((Without_19 N (((w0, w1, w2, w3, ()), i4, ()), ())).bind fun y14 =>
                byB (((y9.1.1.1 == y14.1.1.1) && ((y9.1.1.2.1 == y14.1.1.2.1) && ((y9.1.1.2.2.1 == y14.1.1.2.2.1) && ((y9.1.1.2.2.2.1 == y14.1.1.2.2.2.1) && true)))) && true)
                  ((With_18 N (((w0, w1, w2, w3, ()), i4, ()), ())).bind fun y16 =>
                    byB (((y11.1.1.1 == y16.1.1.1) && ((y11.1.1.2.1 == y16.1.1.2.1) && ((y11.1.1.2.2.1 == y16.1.1.2.2.1) && ((y11.1.1.2.2.2.1 == y16.1.1.2.2.2.1) && true)))) && true)
                      ((With_18 N (((w0, w1, w2, w3, ()), i4, ()), ())).bind fun y18 =>
                        (With_18 N (((y18.1.1.1, y18.1.1.2.1, y18.1.1.2.2.1, y18.1.1.2.2.2.1, ()), i4, ()), ())).bind fun y19 =>
                        (With_18 N (((w0, w1, w2, w3, ()), i4, ()), ())).bind fun y20 =>
                        some ((((y19.1.1.1 == y20.1.1.1) && ((y19.1.1.2.1 == y20.1.1.2.1) && ((y19.1.1.2.2.1 == y20.1.1.2.2.1) && ((y19.1.1.2.2.2.1 == y20.1.1.2.2.2.1) && true)))) && true, ()), ()))
                      (some ((false, ()), ())))
                  (some ((false, ()), ())))
              (some ((false, ()), ())))
          (some ((false, ()), ())))
      (some ((false, ()), ()))
theorem eq_BitsBack_9 (N : Nat) (x : (ap_BitsBack_9).den) : funX Tryd.prog (fs23 N) N 9 lo_BitsBack_9 jo_BitsBack_9 Tryd.f9 ap_BitsBack_9 rp_BitsBack_9 x = BitsBack_9 N x := by kernel_rfl
noncomputable def sp_BitsBack_9 (N : Nat) : FSpec := specOf ap_BitsBack_9 rp_BitsBack_9 true (BitsBack_9 N)
theorem ok_BitsBack_9 (N : Nat) : FSound Tryd.prog 9 (sp_BitsBack_9 N) := funX_sound (N := N) (loops := lo_BitsBack_9) (joins := jo_BitsBack_9) (fsok23 N) Tryd.func9 (by kernel_rfl) (by kernel_rfl) fun x _ h => (eq_BitsBack_9 N x).trans h
noncomputable def fs24 (N : Nat) : FuncId → List V1 → List Blk → Option FSpec := fun g xs H => if g = 9 then some (sp_BitsBack_9 N) else fs23 N g xs H
theorem fsok24 (N : Nat) : ∀ g xs H sp, fs24 N g xs H = some sp → FSound Tryd.prog g sp := fun g xs H sp h => by
  unfold fs24 at h
  by_cases e : g = 9
  · rw [if_pos e] at h; subst e; cases h; exact ok_BitsBack_9 N
  · rw [if_neg e] at h; exact fsok23 N g xs H sp h
end Go.Proofs.YteohpijdidlaeaaDoorX
