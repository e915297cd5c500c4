/-
  No cell of these rows narrows 'for every input' (looked for: loops, veiled, ifaces, maps, wideKeys, modest, calm, conditions, laid).
  DERIVED. THE GIVEN ROWS OF THIS SEAT. 4 by the template 'for every input the law returns true; each argument reads behind the call as it read before'; 0 by the template 'total and deterministic' (their statements: YtcaapoidmfkldaaTotals.lean).
  GIVEN WITH THE SEED: the statements are not yours to turn. If you find one false, say at which input.
  Laid BY PROGRAM, IN A SANDBOX (cutbox-rows.mjs): the forced cells as the released guide's own fill.sh prints them over the translation b1b142ecf211d760… (all of the seat's roots in one cut). By AI agents, Wed Nov 11 2026. No macro, syntax, notation, axiom, sorry.
-/
import Derived.Test.YtcaapoidmfkldaaChecked
import GoSem.Claim
import GoSem.ClaimJoined
import GoSem.ClaimMapViews
import Derived.JoinedTies
import Derived.KernelRfl
namespace Go.Proofs.Ytcaapoidmfkldaa
/- THE CELL 'sum', in the pinned program and in every row, IS THE sha256 OF THE DUMP (.gsa) THAT YtcaapoidmfkldaaProg.lean LOADS. Nothing in Lean hashes anything: it is a label: what it is worth is what the hold of that sum in a sandbox is worth. -/
noncomputable def Try.pinned : Pinned := { name := "ytcaapoidmfkldaa", sum := "b1b142ecf211d760c7471cc3f5aae01171e03a7edb91ed9b57895d641d677dff", checked := Try.checked }
namespace Rows
def none {H : Type} : Left H := { results := [], args := [] }

/-- 'tourbillonlaw05.DeltaSkips': WHATEVER THE INPUT: true; the input reads as it did. -/
def deltaSkipsSpec : ChangeSpec := { name := "deltaSkips", fn := fun _ => fun
  | [d1, d2, d3] => { results := [.lit (.bool true)], args := [d1, d2, d3] }
  | _ => none }
def deltaSkipsRow : OpenClaim := { program := "ytcaapoidmfkldaa", sum := "b1b142ecf211d760c7471cc3f5aae01171e03a7edb91ed9b57895d641d677dff", func := "tourbillon/tourbillonlaw05.DeltaSkips", spec := "deltaSkips", apart := false }
def DeltaSkipsSaid : Prop := deltaSkipsRow.holds Try.pinned (OpenSpec.ofChange deltaSkipsSpec)

/-- ITS FALSE NEIGHBOUR: 'it returns false'. Refute it at one input. -/
def deltaSkipsWrong : ChangeSpec := { name := "deltaSkips", fn := fun _ => fun
  | [d1, d2, d3] => { results := [.lit (.bool false)], args := [d1, d2, d3] }
  | _ => none }
def DeltaSkipsWrongFalsely : Prop := deltaSkipsRow.holds Try.pinned (OpenSpec.ofChange deltaSkipsWrong)

/-- 'tourbillonlaw05.DeltaLeft': WHATEVER THE INPUT: true; the input reads as it did. -/
def deltaLeftSpec : ChangeSpec := { name := "deltaLeft", fn := fun _ => fun
  | [d1, d2, d3] => { results := [.lit (.bool true)], args := [d1, d2, d3] }
  | _ => none }
def deltaLeftRow : OpenClaim := { program := "ytcaapoidmfkldaa", sum := "b1b142ecf211d760c7471cc3f5aae01171e03a7edb91ed9b57895d641d677dff", func := "tourbillon/tourbillonlaw05.DeltaLeft", spec := "deltaLeft", apart := false }
def DeltaLeftSaid : Prop := deltaLeftRow.holds Try.pinned (OpenSpec.ofChange deltaLeftSpec)

/-- ITS FALSE NEIGHBOUR: 'it returns false'. Refute it at one input. -/
def deltaLeftWrong : ChangeSpec := { name := "deltaLeft", fn := fun _ => fun
  | [d1, d2, d3] => { results := [.lit (.bool false)], args := [d1, d2, d3] }
  | _ => none }
def DeltaLeftWrongFalsely : Prop := deltaLeftRow.holds Try.pinned (OpenSpec.ofChange deltaLeftWrong)

/-- 'tourbillonlaw05.DeltaPlays': WHATEVER THE INPUT: true; the input reads as it did. -/
def deltaPlaysSpec : ChangeSpec := { name := "deltaPlays", fn := fun _ => fun
  | [d1, d2] => { results := [.lit (.bool true)], args := [d1, d2] }
  | _ => none }
def deltaPlaysRow : OpenClaim := { program := "ytcaapoidmfkldaa", sum := "b1b142ecf211d760c7471cc3f5aae01171e03a7edb91ed9b57895d641d677dff", func := "tourbillon/tourbillonlaw05.DeltaPlays", spec := "deltaPlays", apart := false }
def DeltaPlaysSaid : Prop := deltaPlaysRow.holds Try.pinned (OpenSpec.ofChange deltaPlaysSpec)

/-- ITS FALSE NEIGHBOUR: 'it returns false'. Refute it at one input. -/
def deltaPlaysWrong : ChangeSpec := { name := "deltaPlays", fn := fun _ => fun
  | [d1, d2] => { results := [.lit (.bool false)], args := [d1, d2] }
  | _ => none }
def DeltaPlaysWrongFalsely : Prop := deltaPlaysRow.holds Try.pinned (OpenSpec.ofChange deltaPlaysWrong)

/-- 'tourbillonlaw05.DeltaOnce': WHATEVER THE INPUT: true; the input reads as it did. -/
def deltaOnceSpec : ChangeSpec := { name := "deltaOnce", fn := fun _ => fun
  | [d1, d2] => { results := [.lit (.bool true)], args := [d1, d2] }
  | _ => none }
def deltaOnceRow : OpenClaim := { program := "ytcaapoidmfkldaa", sum := "b1b142ecf211d760c7471cc3f5aae01171e03a7edb91ed9b57895d641d677dff", func := "tourbillon/tourbillonlaw05.DeltaOnce", spec := "deltaOnce", apart := false }
def DeltaOnceSaid : Prop := deltaOnceRow.holds Try.pinned (OpenSpec.ofChange deltaOnceSpec)

/-- ITS FALSE NEIGHBOUR: 'it returns false'. Refute it at one input. -/
def deltaOnceWrong : ChangeSpec := { name := "deltaOnce", fn := fun _ => fun
  | [d1, d2] => { results := [.lit (.bool false)], args := [d1, d2] }
  | _ => none }
def DeltaOnceWrongFalsely : Prop := deltaOnceRow.holds Try.pinned (OpenSpec.ofChange deltaOnceWrong)

/- THE SECOND FORM. 'bulk': how many values and letters a reading holds, each counted each time it is reached (what is shared counts as often as it is met; a slice's spare places count too). A statement '..UptoSaid' is the law's where the arguments, and the package variables that the reading takes, are together of bulk at most 1048576: NARROWER than '..Said'. Prove '..Said' where nothing that the law and all that it calls make is longer than what came in: it says more and counts as full. Else prove '..UptoSaid'. A law counts once. -/
mutual
def uptoBulk {H : Type} : DataW H → Nat
  | .lit (.string bytes) => bytes.length + 1
  | .lit _ => 1
  | .nil => 1
  | .ptr d => uptoBulk d + 1
  | .slice elems spare => uptoBulkAll elems + uptoBulkAll spare + 1
  | .agg parts => uptoBulkAll parts + 1
  | .iface _ d => uptoBulk d + 1
  | .map entries => uptoBulkEntries entries + 1
  | .held _ => 1
def uptoBulkAll {H : Type} : List (DataW H) → Nat
  | [] => 0
  | d :: r => uptoBulk d + uptoBulkAll r
def uptoBulkEntries {H : Type} : List (Lit × DataW H) → Nat
  | [] => 0
  | x :: r => uptoBulkEntry x + uptoBulkEntries r
def uptoBulkEntry {H : Type} : Lit × DataW H → Nat
  | (.string bytes, d) => bytes.length + uptoBulk d + 1
  | (_, d) => uptoBulk d + 1
 end
def uptoSmall : (H : Type) → List (DataW H) → Bool := fun _ ds => decide (uptoBulkAll ds ≤ 1048576)
def OpenSpec.upto (s : _root_.Go.ChangeSpec) : _root_.Go.OpenSpec := { _root_.Go.OpenSpec.ofChange s with cond := some uptoSmall }

/-- 'tourbillonlaw05.DeltaSkips', WHERE WHAT IT READS IS OF BULK AT MOST 1048576: true; the input reads as it did. -/
def deltaSkipsUptoRow : OpenClaim := { program := "ytcaapoidmfkldaa", sum := "b1b142ecf211d760c7471cc3f5aae01171e03a7edb91ed9b57895d641d677dff", func := "tourbillon/tourbillonlaw05.DeltaSkips", spec := "deltaSkips", apart := false, narrowed := true }
def DeltaSkipsUptoSaid : Prop := deltaSkipsUptoRow.holds Try.pinned (OpenSpec.upto deltaSkipsSpec)

/-- 'tourbillonlaw05.DeltaLeft', WHERE WHAT IT READS IS OF BULK AT MOST 1048576: true; the input reads as it did. -/
def deltaLeftUptoRow : OpenClaim := { program := "ytcaapoidmfkldaa", sum := "b1b142ecf211d760c7471cc3f5aae01171e03a7edb91ed9b57895d641d677dff", func := "tourbillon/tourbillonlaw05.DeltaLeft", spec := "deltaLeft", apart := false, narrowed := true }
def DeltaLeftUptoSaid : Prop := deltaLeftUptoRow.holds Try.pinned (OpenSpec.upto deltaLeftSpec)

/-- 'tourbillonlaw05.DeltaPlays', WHERE WHAT IT READS IS OF BULK AT MOST 1048576: true; the input reads as it did. -/
def deltaPlaysUptoRow : OpenClaim := { program := "ytcaapoidmfkldaa", sum := "b1b142ecf211d760c7471cc3f5aae01171e03a7edb91ed9b57895d641d677dff", func := "tourbillon/tourbillonlaw05.DeltaPlays", spec := "deltaPlays", apart := false, narrowed := true }
def DeltaPlaysUptoSaid : Prop := deltaPlaysUptoRow.holds Try.pinned (OpenSpec.upto deltaPlaysSpec)

/-- 'tourbillonlaw05.DeltaOnce', WHERE WHAT IT READS IS OF BULK AT MOST 1048576: true; the input reads as it did. -/
def deltaOnceUptoRow : OpenClaim := { program := "ytcaapoidmfkldaa", sum := "b1b142ecf211d760c7471cc3f5aae01171e03a7edb91ed9b57895d641d677dff", func := "tourbillon/tourbillonlaw05.DeltaOnce", spec := "deltaOnce", apart := false, narrowed := true }
def DeltaOnceUptoSaid : Prop := deltaOnceUptoRow.holds Try.pinned (OpenSpec.upto deltaOnceSpec)

end Rows
end Go.Proofs.Ytcaapoidmfkldaa
