/-
  No cell of these rows narrows 'for every input' (looked for: loops, veiled, ifaces, maps, wideKeys, modest, calm, conditions, laid).
  DERIVED. THE GIVEN ROWS OF THIS SEAT. 5 by the template 'for every input the law returns true; each argument reads behind the call as it read before'; 0 by the template 'total and deterministic' (their statements: YtcdnofemnpafhaaTotals.lean).
  GIVEN WITH THE SEED: the statements are not yours to turn. If you find one false, say at which input.
  Laid BY PROGRAM, IN A SANDBOX (cutbox-rows.mjs): the forced cells as the released guide's own fill.sh prints them over the translation 85a9dbbf93636dc1… (all of the seat's roots in one cut). By AI agents, Wed Nov 11 2026. No macro, syntax, notation, axiom, sorry.
-/
import Derived.Test.YtcdnofemnpafhaaChecked
import GoSem.Claim
import GoSem.ClaimJoined
import GoSem.ClaimMapViews
import Derived.JoinedTies
import Derived.KernelRfl
namespace Go.Proofs.Ytcdnofemnpafhaa
/- THE CELL 'sum', in the pinned program and in every row, IS THE sha256 OF THE DUMP (.gsa) THAT YtcdnofemnpafhaaProg.lean LOADS. Nothing in Lean hashes anything: it is a label: what it is worth is what the hold of that sum in a sandbox is worth. -/
noncomputable def Try.pinned : Pinned := { name := "ytcdnofemnpafhaa", sum := "85a9dbbf93636dc1facedf7d95d64b39e563af5f4d60b092cf4b4d7a271c4004", checked := Try.checked }
namespace Rows
def none {H : Type} : Left H := { results := [], args := [] }

/-- 'tourbillonlaw07.TasksetWrites': WHATEVER THE INPUT: true; the input reads as it did. -/
def tasksetWritesSpec : ChangeSpec := { name := "tasksetWrites", fn := fun _ => fun
  | [d] => { results := [.lit (.bool true)], args := [d] }
  | _ => none }
def tasksetWritesRow : OpenClaim := { program := "ytcdnofemnpafhaa", sum := "85a9dbbf93636dc1facedf7d95d64b39e563af5f4d60b092cf4b4d7a271c4004", func := "tourbillon/tourbillonlaw07.TasksetWrites", spec := "tasksetWrites", unfollowed := true, recurses := true, apart := false }
def TasksetWritesSaid : Prop := tasksetWritesRow.holds Try.pinned (OpenSpec.ofChange tasksetWritesSpec)

/-- ITS FALSE NEIGHBOUR: 'it returns false'. Refute it at one input. -/
def tasksetWritesWrong : ChangeSpec := { name := "tasksetWrites", fn := fun _ => fun
  | [d] => { results := [.lit (.bool false)], args := [d] }
  | _ => none }
def TasksetWritesWrongFalsely : Prop := tasksetWritesRow.holds Try.pinned (OpenSpec.ofChange tasksetWritesWrong)

/-- 'tourbillonlaw07.TasksetReads': WHATEVER THE INPUT: true; the input reads as it did. -/
def tasksetReadsSpec : ChangeSpec := { name := "tasksetReads", fn := fun _ => fun
  | [d1, d2, d3] => { results := [.lit (.bool true)], args := [d1, d2, d3] }
  | _ => none }
def tasksetReadsRow : OpenClaim := { program := "ytcdnofemnpafhaa", sum := "85a9dbbf93636dc1facedf7d95d64b39e563af5f4d60b092cf4b4d7a271c4004", func := "tourbillon/tourbillonlaw07.TasksetReads", spec := "tasksetReads", unfollowed := true, recurses := true, apart := false }
def TasksetReadsSaid : Prop := tasksetReadsRow.holds Try.pinned (OpenSpec.ofChange tasksetReadsSpec)

/-- ITS FALSE NEIGHBOUR: 'it returns false'. Refute it at one input. -/
def tasksetReadsWrong : ChangeSpec := { name := "tasksetReads", fn := fun _ => fun
  | [d1, d2, d3] => { results := [.lit (.bool false)], args := [d1, d2, d3] }
  | _ => none }
def TasksetReadsWrongFalsely : Prop := tasksetReadsRow.holds Try.pinned (OpenSpec.ofChange tasksetReadsWrong)

/-- 'tourbillonlaw07.TasksetBack': WHATEVER THE INPUT: true; the input reads as it did. -/
def tasksetBackSpec : ChangeSpec := { name := "tasksetBack", fn := fun _ => fun
  | [d1, d2] => { results := [.lit (.bool true)], args := [d1, d2] }
  | _ => none }
def tasksetBackRow : OpenClaim := { program := "ytcdnofemnpafhaa", sum := "85a9dbbf93636dc1facedf7d95d64b39e563af5f4d60b092cf4b4d7a271c4004", func := "tourbillon/tourbillonlaw07.TasksetBack", spec := "tasksetBack", unfollowed := true, recurses := true, apart := false }
def TasksetBackSaid : Prop := tasksetBackRow.holds Try.pinned (OpenSpec.ofChange tasksetBackSpec)

/-- ITS FALSE NEIGHBOUR: 'it returns false'. Refute it at one input. -/
def tasksetBackWrong : ChangeSpec := { name := "tasksetBack", fn := fun _ => fun
  | [d1, d2] => { results := [.lit (.bool false)], args := [d1, d2] }
  | _ => none }
def TasksetBackWrongFalsely : Prop := tasksetBackRow.holds Try.pinned (OpenSpec.ofChange tasksetBackWrong)

/-- 'tourbillonlaw07.TasksetTells': WHATEVER THE INPUT: true; the input reads as it did. -/
def tasksetTellsSpec : ChangeSpec := { name := "tasksetTells", fn := fun _ => fun
  | [d1, d2] => { results := [.lit (.bool true)], args := [d1, d2] }
  | _ => none }
def tasksetTellsRow : OpenClaim := { program := "ytcdnofemnpafhaa", sum := "85a9dbbf93636dc1facedf7d95d64b39e563af5f4d60b092cf4b4d7a271c4004", func := "tourbillon/tourbillonlaw07.TasksetTells", spec := "tasksetTells", unfollowed := true, recurses := true, apart := false }
def TasksetTellsSaid : Prop := tasksetTellsRow.holds Try.pinned (OpenSpec.ofChange tasksetTellsSpec)

/-- ITS FALSE NEIGHBOUR: 'it returns false'. Refute it at one input. -/
def tasksetTellsWrong : ChangeSpec := { name := "tasksetTells", fn := fun _ => fun
  | [d1, d2] => { results := [.lit (.bool false)], args := [d1, d2] }
  | _ => none }
def TasksetTellsWrongFalsely : Prop := tasksetTellsRow.holds Try.pinned (OpenSpec.ofChange tasksetTellsWrong)

/-- 'tourbillonlaw07.TasksetCuts': WHATEVER THE INPUT: true; the input reads as it did. -/
def tasksetCutsSpec : ChangeSpec := { name := "tasksetCuts", fn := fun _ => fun
  | [d1, d2, d3] => { results := [.lit (.bool true)], args := [d1, d2, d3] }
  | _ => none }
def tasksetCutsRow : OpenClaim := { program := "ytcdnofemnpafhaa", sum := "85a9dbbf93636dc1facedf7d95d64b39e563af5f4d60b092cf4b4d7a271c4004", func := "tourbillon/tourbillonlaw07.TasksetCuts", spec := "tasksetCuts", unfollowed := true, recurses := true, apart := false }
def TasksetCutsSaid : Prop := tasksetCutsRow.holds Try.pinned (OpenSpec.ofChange tasksetCutsSpec)

/-- ITS FALSE NEIGHBOUR: 'it returns false'. Refute it at one input. -/
def tasksetCutsWrong : ChangeSpec := { name := "tasksetCuts", fn := fun _ => fun
  | [d1, d2, d3] => { results := [.lit (.bool false)], args := [d1, d2, d3] }
  | _ => none }
def TasksetCutsWrongFalsely : Prop := tasksetCutsRow.holds Try.pinned (OpenSpec.ofChange tasksetCutsWrong)

/- THE SECOND FORM. 'bulk': how many values and letters a reading holds, each counted each time it is reached (what is shared counts as often as it is met; a slice's spare places count too). A statement '..UptoSaid' is the law's where the arguments, and the package variables that the reading takes, are together of bulk at most 1048576: NARROWER than '..Said'. Prove '..Said' where nothing that the law and all that it calls make is longer than what came in: it says more and counts as full. Else prove '..UptoSaid'. A law counts once. -/
mutual
def uptoBulk {H : Type} : DataW H → Nat
  | .lit (.string bytes) => bytes.length + 1
  | .lit _ => 1
  | .nil => 1
  | .ptr d => uptoBulk d + 1
  | .slice elems spare => uptoBulkAll elems + uptoBulkAll spare + 1
  | .agg parts => uptoBulkAll parts + 1
  | .iface _ d => uptoBulk d + 1
  | .map entries => uptoBulkEntries entries + 1
  | .held _ => 1
def uptoBulkAll {H : Type} : List (DataW H) → Nat
  | [] => 0
  | d :: r => uptoBulk d + uptoBulkAll r
def uptoBulkEntries {H : Type} : List (Lit × DataW H) → Nat
  | [] => 0
  | x :: r => uptoBulkEntry x + uptoBulkEntries r
def uptoBulkEntry {H : Type} : Lit × DataW H → Nat
  | (.string bytes, d) => bytes.length + uptoBulk d + 1
  | (_, d) => uptoBulk d + 1
 end
def uptoSmall : (H : Type) → List (DataW H) → Bool := fun _ ds => decide (uptoBulkAll ds ≤ 1048576)
def OpenSpec.upto (s : _root_.Go.ChangeSpec) : _root_.Go.OpenSpec := { _root_.Go.OpenSpec.ofChange s with cond := some uptoSmall }

/-- 'tourbillonlaw07.TasksetWrites', WHERE WHAT IT READS IS OF BULK AT MOST 1048576: true; the input reads as it did. -/
def tasksetWritesUptoRow : OpenClaim := { program := "ytcdnofemnpafhaa", sum := "85a9dbbf93636dc1facedf7d95d64b39e563af5f4d60b092cf4b4d7a271c4004", func := "tourbillon/tourbillonlaw07.TasksetWrites", spec := "tasksetWrites", unfollowed := true, recurses := true, apart := false, narrowed := true }
def TasksetWritesUptoSaid : Prop := tasksetWritesUptoRow.holds Try.pinned (OpenSpec.upto tasksetWritesSpec)

/-- 'tourbillonlaw07.TasksetReads', WHERE WHAT IT READS IS OF BULK AT MOST 1048576: true; the input reads as it did. -/
def tasksetReadsUptoRow : OpenClaim := { program := "ytcdnofemnpafhaa", sum := "85a9dbbf93636dc1facedf7d95d64b39e563af5f4d60b092cf4b4d7a271c4004", func := "tourbillon/tourbillonlaw07.TasksetReads", spec := "tasksetReads", unfollowed := true, recurses := true, apart := false, narrowed := true }
def TasksetReadsUptoSaid : Prop := tasksetReadsUptoRow.holds Try.pinned (OpenSpec.upto tasksetReadsSpec)

/-- 'tourbillonlaw07.TasksetBack', WHERE WHAT IT READS IS OF BULK AT MOST 1048576: true; the input reads as it did. -/
def tasksetBackUptoRow : OpenClaim := { program := "ytcdnofemnpafhaa", sum := "85a9dbbf93636dc1facedf7d95d64b39e563af5f4d60b092cf4b4d7a271c4004", func := "tourbillon/tourbillonlaw07.TasksetBack", spec := "tasksetBack", unfollowed := true, recurses := true, apart := false, narrowed := true }
def TasksetBackUptoSaid : Prop := tasksetBackUptoRow.holds Try.pinned (OpenSpec.upto tasksetBackSpec)

/-- 'tourbillonlaw07.TasksetTells', WHERE WHAT IT READS IS OF BULK AT MOST 1048576: true; the input reads as it did. -/
def tasksetTellsUptoRow : OpenClaim := { program := "ytcdnofemnpafhaa", sum := "85a9dbbf93636dc1facedf7d95d64b39e563af5f4d60b092cf4b4d7a271c4004", func := "tourbillon/tourbillonlaw07.TasksetTells", spec := "tasksetTells", unfollowed := true, recurses := true, apart := false, narrowed := true }
def TasksetTellsUptoSaid : Prop := tasksetTellsUptoRow.holds Try.pinned (OpenSpec.upto tasksetTellsSpec)

/-- 'tourbillonlaw07.TasksetCuts', WHERE WHAT IT READS IS OF BULK AT MOST 1048576: true; the input reads as it did. -/
def tasksetCutsUptoRow : OpenClaim := { program := "ytcdnofemnpafhaa", sum := "85a9dbbf93636dc1facedf7d95d64b39e563af5f4d60b092cf4b4d7a271c4004", func := "tourbillon/tourbillonlaw07.TasksetCuts", spec := "tasksetCuts", unfollowed := true, recurses := true, apart := false, narrowed := true }
def TasksetCutsUptoSaid : Prop := tasksetCutsUptoRow.holds Try.pinned (OpenSpec.upto tasksetCutsSpec)

end Rows
end Go.Proofs.Ytcdnofemnpafhaa
