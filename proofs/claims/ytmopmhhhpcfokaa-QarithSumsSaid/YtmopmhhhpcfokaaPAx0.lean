/- Go functions of the program told as plain functions, and that the code comes to what they tell; written by xprint.py, a program of this session. Conditions: as each theorem states them. -/
import Derived.Test.YtmopmhhhpcfokaaProg
import Derived.Below
import Derived.Deep.Draws
import Derived.Deep.AppendLies
import Derived.Maps.AppendAt
import Derived.OwnWalk
import Derived.Laws.BytesArg
import Derived.Laws.MakeOwn
import Derived.Laws.OwnMore
import Derived.Deep.OwnRows
import Derived.Tactics
import Derived.Lib.ConvBytes
import Derived.Laws.Slices
import Derived.WalkKit
import Derived.KernelRfl
import Derived.RowKit3
import Derived.Deep.LoopGhost
import Derived.Deep.QuietTactic
import Derived.BigQuiet
import Derived.WideLaws
import Derived.Deep.DeepCutAuto
import Derived.Deep.CutBlock
import Derived.Deep.RegionHeld3
import Derived.Laws.Rows
import Derived.Lib.AppendStr
import Derived.ArgAppend
import Derived.Laws.IdiomCopy
import Derived.OrdersHeld
import Derived.Laws.BitsLemmas
import Derived.RowKit
import Derived.WalkMore
import Derived.Test.YtmopmhhhpcfokaaWWords
import Derived.Test.YtmopmhhhpcfokaaWLast
import Derived.Test.YtmopmhhhpcfokaaWTab
import Derived.Test.YtmopmhhhpcfokaaWFour
import Derived.Test.YtmopmhhhpcfokaaWQPut
import Derived.Test.YtmopmhhhpcfokaaWApart
import Derived.Test.YtmopmhhhpcfokaaWArr
import Derived.Test.YtmopmhhhpcfokaaWZeros
import Derived.Test.YtmopmhhhpcfokaaWFoot
import Derived.Test.YtmopmhhhpcfokaaWKept
import Derived.Test.YtmopmhhhpcfokaaWShare
import Derived.Test.YtmopmhhhpcfokaaWN
import Derived.Test.YtmopmhhhpcfokaaWFootNe
import Derived.Test.YtmopmhhhpcfokaaWAt
import Derived.Test.YtmopmhhhpcfokaaWEqStruct
import Derived.Test.YtmopmhhhpcfokaaWRepsOne
import Derived.Test.YtmopmhhhpcfokaaWInv
import Derived.Test.YtmopmhhhpcfokaaWInvWords
import Derived.Test.YtmopmhhhpcfokaaWGuard
import Derived.Test.YtmopmhhhpcfokaaWNEv
import Derived.Test.YtmopmhhhpcfokaaWMore
namespace Go.Proofs.Ytmopmhhhpcfokaa.PA
open Go.RowKit Go.Proofs.YtmopmhhhpcfokaaW.PrintWords Go.Proofs.YtmopmhhhpcfokaaW.PrintLast Go.Proofs.YtmopmhhhpcfokaaW.PrintMore
attribute [local go_sem] max2_int min2_int max_two min_two max_three min_three max_four min_four   -- for this text's walks alone
set_option linter.unusedVariables false
set_option linter.unusedSimpArgs false



def errW : Option Int → Value
  | none => .nilIface
  | some c => .iface 0 (.int .i64 c)
theorem errW_none : errW none = .nilIface := rfl
theorem errW_some (c : Int) : errW (some c) = .iface 0 (.int .i64 c) := rfl

theorem xkonst {α : Type} {g : Nat → Option α} (hm : ∀ k, LeO (g k) (g (k + 1))) (N : Nat) {a b : α} {k : Nat} (hN : g N = some a) (hb : g k = some b) : b = a := by
  have h1 := at_rounds hm (Nat.le_max_left N k) hN
  have h2 := at_rounds hm (Nat.le_max_right N k) hb
  exact Option.some.inj (h2.symm.trans h1)
theorem xkonst0 {α : Type} {x : Option α} {a b : α} (hN : x = some a) (hb : x = some b) : b = a := Option.some.inj (hb.symm.trans hN)
theorem info3 : (Try.prog.info? 3).map (fun i => (i.zero, i.size, i.bytes)) = some (some (.int .i64 0), 1, 8) := by kernel_rfl
-- the values' own types

end Go.Proofs.Ytmopmhhhpcfokaa.PA
