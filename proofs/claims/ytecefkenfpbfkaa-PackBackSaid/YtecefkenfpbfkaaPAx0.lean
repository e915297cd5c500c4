/- Go functions of the program told as plain functions, and that the code comes to what they tell; written by xprint.py, a program of this session. Conditions: as each theorem states them. -/
import Derived.Test.YtecefkenfpbfkaaProg
import Derived.Below
import Derived.Deep.Draws
import Derived.Deep.AppendLies
import Derived.Maps.AppendAt
import Derived.OwnWalk
import Derived.Laws.BytesArg
import Derived.Laws.MakeOwn
import Derived.Laws.OwnMore
import Derived.Deep.OwnRows
import Derived.Tactics
import Derived.Lib.ConvBytes
import Derived.Laws.Slices
import Derived.WalkKit
import Derived.KernelRfl
import Derived.RowKit3
import Derived.Deep.LoopGhost
import Derived.Deep.QuietTactic
import Derived.BigQuiet
import Derived.WideLaws
import Derived.Deep.DeepCutAuto
import Derived.Deep.CutBlock
import Derived.Deep.RegionHeld3
import Derived.Laws.Rows
import Derived.Lib.AppendStr
import Derived.ArgAppend
import Derived.Laws.IdiomCopy
import Derived.OrdersHeld
import Derived.Laws.BitsLemmas
import Derived.RowKit
import Derived.WalkMore
import Derived.LoopTactic
import Derived.Lib.Hide
import Derived.Lib.ConvBytes
import Derived.Lib.UnsafeStr
import Derived.Test.YtecefkenfpbfkaaWWords
import Derived.Test.YtecefkenfpbfkaaWLast
import Derived.Test.YtecefkenfpbfkaaWTab
import Derived.Test.YtecefkenfpbfkaaWFour
import Derived.Test.YtecefkenfpbfkaaWQPut
import Derived.Test.YtecefkenfpbfkaaWApart
import Derived.Test.YtecefkenfpbfkaaWArr
import Derived.Test.YtecefkenfpbfkaaWZeros
import Derived.Test.YtecefkenfpbfkaaWFoot
import Derived.Test.YtecefkenfpbfkaaWKept
import Derived.Test.YtecefkenfpbfkaaWShare
import Derived.Test.YtecefkenfpbfkaaWN
import Derived.Test.YtecefkenfpbfkaaWFootNe
import Derived.Test.YtecefkenfpbfkaaWAt
import Derived.Test.YtecefkenfpbfkaaWEqStruct
import Derived.Test.YtecefkenfpbfkaaWRepsOne
import Derived.Test.YtecefkenfpbfkaaWInv
import Derived.Test.YtecefkenfpbfkaaWInvWords
import Derived.Test.YtecefkenfpbfkaaWGuard
import Derived.Test.YtecefkenfpbfkaaWNEv
import Derived.Test.YtecefkenfpbfkaaWMore
namespace Go.Proofs.Ytecefkenfpbfkaa.PA
open Go.RowKit Go.Proofs.YtecefkenfpbfkaaW.PrintWords Go.Proofs.YtecefkenfpbfkaaW.PrintLast Go.Proofs.YtecefkenfpbfkaaW.PrintMore
attribute [local go_sem] max2_int min2_int max_two min_two max_three min_three max_four min_four   -- for this text's walks alone
set_option linter.unusedVariables false
set_option linter.unusedSimpArgs false



def errW : Option Int → Value
  | none => .nilIface
  | some c => .iface 0 (.int .i64 c)
theorem errW_none : errW none = .nilIface := rfl
theorem errW_some (c : Int) : errW (some c) = .iface 0 (.int .i64 c) := rfl

theorem xkonst {α : Type} {g : Nat → Option α} (hm : ∀ k, LeO (g k) (g (k + 1))) (N : Nat) {a b : α} {k : Nat} (hN : g N = some a) (hb : g k = some b) : b = a := by
  have h1 := at_rounds hm (Nat.le_max_left N k) hN
  have h2 := at_rounds hm (Nat.le_max_right N k) hb
  exact Option.some.inj (h2.symm.trans h1)
theorem xkonst0 {α : Type} {x : Option α} {a b : α} (hN : x = some a) (hb : x = some b) : b = a := Option.some.inj (hb.symm.trans hN)
theorem info3 : (Try.prog.info? 3).map (fun i => (i.zero, i.size, i.bytes)) = some (some (.int .i64 0), 1, 8) := by kernel_rfl
theorem info5 : (Try.prog.info? 5).map (fun i => (i.zero, i.size, i.bytes)) = some (some (.int .u8 0), 1, 1) := by kernel_rfl
-- the values' own types

end Go.Proofs.Ytecefkenfpbfkaa.PA
