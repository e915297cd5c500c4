/- Chapter 8: the examples ahead of each law, told by what their code comes to. Conditions: none. -/
import Derived.Test.YtflnooigdbhpdaaM5
import Derived.Test.YtflnooigdbhpdaaChecked
import Derived.KernelRfl
namespace Go.Proofs.YtflnooigdbhpdaaMEx
open Go Go.RowKit Go.Proofs.YtflnooigdbhpdaaM
abbrev i64 : CS := .int .i64
abbrev v64 : VS := .one (.int .i64)
abbrev tSec : Ty := .pair (.int .i64) (.pair (.int .i64) (.int .i64))
abbrev tTask : Ty := .pair (.int .i64) (.pair (.int .i64) (.pair (.int .i64) (.ro tSec)))
abbrev lSys : List CS := [i64, i64, i64, i64, i64, i64, i64, i64, .ro tTask]
abbrev lFin : List CS := [i64, i64, i64]
abbrev pSys : Pat := ⟨[.agg lSys], []⟩
abbrev pFin : Pat := ⟨[.agg lFin], []⟩
abbrev pBool : Pat := ⟨[.one .bool], []⟩
abbrev p3 : Pat := ⟨[v64, v64, v64], []⟩
abbrev p0 : Pat := ⟨[], []⟩
abbrev pSmall : Pat := ⟨[.agg [i64, i64, i64, i64, i64, i64, i64, i64, .full 0]], [.row 35 tTask]⟩
noncomputable def fs0 : FuncId → Option FSpec := fun _ => none
noncomputable def s13 : FSpec := specOf p3 pBool true (funX Try.prog fs0 10 [] [] Try.f13 p3 pBool)
noncomputable def fs1 : FuncId → Option FSpec := fun g => if g = 13 then some s13 else none
noncomputable def s12 : FSpec := specOf pSys pBool true (funX Try.prog fs1 10 [] [] Try.f12 pSys pBool)
noncomputable def fs2 : FuncId → Option FSpec := fun g => if g = 12 then some s12 else fs1 g
def lo8 : LSpec := ⟨5, [1, 2, 3, 15, 16, 17], ⟨[.one (.ptr 0 0), .one (.ptr 1 0), .one (.ptr 2 0), .one (.ro tTask), v64, v64], [.var 24 lSys, .var 28 lFin, .var 28 lFin]⟩⟩
def li8 : LSpec := ⟨12, [1, 2, 3, 15, 16, 17, 4, 5, 6, 53, 54, 55], ⟨[.one (.ptr 0 0), .one (.ptr 1 0), .one (.ptr 2 0), .one (.ro tTask), v64, v64, v64, .one (.ptr 3 0), v64, .one (.ro tSec), v64, v64], [.var 24 lSys, .var 28 lFin, .var 28 lFin, .var 35 [i64, i64, i64, .ro tSec]]⟩⟩
noncomputable def s8 : FSpec := specOf pSys pFin true (funX Try.prog fs2 10 [lo8, li8] [] Try.f8 pSys pFin)
noncomputable def fs3 : FuncId → Option FSpec := fun g => if g = 8 then some s8 else fs2 g
noncomputable def s10 : FSpec := specOf pSys pBool true (funX Try.prog fs3 10 [] [] Try.f10 pSys pBool)
noncomputable def s11 : FSpec := specOf p0 pSmall false (funX Try.prog fs0 10 [] [] Try.f11 p0 pSmall)
noncomputable def fs4 : FuncId → Option FSpec := fun g => if g = 10 then some s10 else if g = 11 then some s11 else fs3 g
noncomputable def s7 : FSpec := specOf p0 pBool true (funX Try.prog fs4 10 [] [] Try.f7 p0 pBool)

theorem h0 : ∀ g sp, fs0 g = some sp → FSound Try.prog g sp := fun _ _ h => by cases h
theorem h13 : FSound Try.prog 13 s13 := funX_sound h0 Try.func13 (by kernel_rfl) (by kernel_rfl) fun _ _ h => h
theorem h1 : ∀ g sp, fs1 g = some sp → FSound Try.prog g sp := fun g sp h => by
  unfold fs1 at h
  split at h
  · rename_i e; subst e; cases h; exact h13
  · cases h
theorem h12 : FSound Try.prog 12 s12 := funX_sound h1 Try.func12 (by kernel_rfl) (by kernel_rfl) fun _ _ h => h
theorem h2 : ∀ g sp, fs2 g = some sp → FSound Try.prog g sp := fun g sp h => by
  unfold fs2 at h
  split at h
  · rename_i e; subst e; cases h; exact h12
  · exact h1 g sp h
theorem h8 : FSound Try.prog 8 s8 := funX_sound h2 Try.func8 (by kernel_rfl) (by kernel_rfl) fun _ _ h => h
theorem h3 : ∀ g sp, fs3 g = some sp → FSound Try.prog g sp := fun g sp h => by
  unfold fs3 at h
  split at h
  · rename_i e; subst e; cases h; exact h8
  · exact h2 g sp h
theorem h10 : FSound Try.prog 10 s10 := funX_sound h3 Try.func10 (by kernel_rfl) (by kernel_rfl) fun _ _ h => h
theorem h11 : FSound Try.prog 11 s11 := funX_sound h0 Try.func11 (by kernel_rfl) (by kernel_rfl) fun _ _ h => h
theorem h4 : ∀ g sp, fs4 g = some sp → FSound Try.prog g sp := fun g sp h => by
  unfold fs4 at h
  split at h
  · rename_i e; subst e; cases h; exact h10
  · split at h
    · rename_i e; subst e; cases h; exact h11
    · exact h3 g sp h
theorem h7 : FSound Try.prog 7 s7 := funX_sound h4 Try.func7 (by kernel_rfl) (by kernel_rfl) fun _ _ h => h
set_option maxRecDepth 100000 in
theorem ex7 : funX Try.prog fs4 10 [] [] Try.f7 p0 pBool ((), ()) = some ((true, ()), ()) := by kernel_rfl
theorem examples_calls (w : World) : Calls Try.prog 7 #[] w fun e w' => e = .returned (.bool true) ∧ Below w.heap.size w w' := by
  refine (h7.calls (A := fun _ => False) (fun _ h => h.elim) (args := []) (x := ((true, ()), ())) ?_ fun _ => All2.nil).mono fun e w' h => ?_
  · exact specOf_imp (x := ((), ())) rfl ex7
  · obtain ⟨V, j', N, rfl, hb, hr⟩ := h
    refine ⟨?_, hb⟩
    have : V = .bool true := by
      rcases hr with h | h
      · cases h
      · exact h.2
    rw [this]
end Go.Proofs.YtflnooigdbhpdaaMEx
