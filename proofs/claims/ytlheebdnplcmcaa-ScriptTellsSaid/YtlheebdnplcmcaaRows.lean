/-
  No cell of these rows narrows 'for every input' (looked for: loops, veiled, ifaces, maps, wideKeys, modest, calm, conditions, laid).
  DERIVED. THE GIVEN ROWS OF THIS SEAT. 5 by the template 'for every input the law returns true; each argument reads behind the call as it read before'; 0 by the template 'total and deterministic' (their statements: YtlheebdnplcmcaaTotals.lean).
  GIVEN WITH THE SEED: the statements are not yours to turn. If you find one false, say at which input.
  Laid BY PROGRAM, IN A SANDBOX (cutbox-rows.mjs): the forced cells as the released guide's own fill.sh prints them over the translation 4318acb18a777392… (all of the seat's roots in one cut). By AI agents, Wed Nov 11 2026. No macro, syntax, notation, axiom, sorry.
-/
import Derived.Test.YtlheebdnplcmcaaChecked
import GoSem.Claim
import GoSem.ClaimJoined
import GoSem.ClaimMapViews
import Derived.JoinedTies
import Derived.KernelRfl
namespace Go.Proofs.Ytlheebdnplcmcaa
/- THE CELL 'sum', in the pinned program and in every row, IS THE sha256 OF THE DUMP (.gsa) THAT YtlheebdnplcmcaaProg.lean LOADS. Nothing in Lean hashes anything: it is a label: what it is worth is what the hold of that sum in a sandbox is worth. -/
noncomputable def Try.pinned : Pinned := { name := "ytlheebdnplcmcaa", sum := "4318acb18a777392581cebd7a94f6013cec4d3a0a7fd57970a3d34de4be73bd8", checked := Try.checked }
namespace Rows
def none {H : Type} : Left H := { results := [], args := [] }

/-- 'tourbillonlaw20.ScriptTells': WHATEVER THE INPUT: true; the input reads as it did. -/
def scriptTellsSpec : ChangeSpec := { name := "scriptTells", fn := fun _ => fun
  | [d1, d2, d3] => { results := [.lit (.bool true)], args := [d1, d2, d3] }
  | _ => none }
def scriptTellsRow : OpenClaim := { program := "ytlheebdnplcmcaa", sum := "4318acb18a777392581cebd7a94f6013cec4d3a0a7fd57970a3d34de4be73bd8", func := "tourbillon/tourbillonlaw20.ScriptTells", spec := "scriptTells", unfollowed := true, recurses := true, apart := false }
def ScriptTellsSaid : Prop := scriptTellsRow.holds Try.pinned (OpenSpec.ofChange scriptTellsSpec)

/-- ITS FALSE NEIGHBOUR: 'it returns false'. Refute it at one input. -/
def scriptTellsWrong : ChangeSpec := { name := "scriptTells", fn := fun _ => fun
  | [d1, d2, d3] => { results := [.lit (.bool false)], args := [d1, d2, d3] }
  | _ => none }
def ScriptTellsWrongFalsely : Prop := scriptTellsRow.holds Try.pinned (OpenSpec.ofChange scriptTellsWrong)

/-- 'tourbillonlaw20.ScriptLess': WHATEVER THE INPUT: true; the input reads as it did. -/
def scriptLessSpec : ChangeSpec := { name := "scriptLess", fn := fun _ => fun
  | [d1, d2, d3] => { results := [.lit (.bool true)], args := [d1, d2, d3] }
  | _ => none }
def scriptLessRow : OpenClaim := { program := "ytlheebdnplcmcaa", sum := "4318acb18a777392581cebd7a94f6013cec4d3a0a7fd57970a3d34de4be73bd8", func := "tourbillon/tourbillonlaw20.ScriptLess", spec := "scriptLess", unfollowed := true, recurses := true, apart := false }
def ScriptLessSaid : Prop := scriptLessRow.holds Try.pinned (OpenSpec.ofChange scriptLessSpec)

/-- ITS FALSE NEIGHBOUR: 'it returns false'. Refute it at one input. -/
def scriptLessWrong : ChangeSpec := { name := "scriptLess", fn := fun _ => fun
  | [d1, d2, d3] => { results := [.lit (.bool false)], args := [d1, d2, d3] }
  | _ => none }
def ScriptLessWrongFalsely : Prop := scriptLessRow.holds Try.pinned (OpenSpec.ofChange scriptLessWrong)

/-- 'tourbillonlaw20.ScriptAll': WHATEVER THE INPUT: true; the input reads as it did. -/
def scriptAllSpec : ChangeSpec := { name := "scriptAll", fn := fun _ => fun
  | [d1, d2] => { results := [.lit (.bool true)], args := [d1, d2] }
  | _ => none }
def scriptAllRow : OpenClaim := { program := "ytlheebdnplcmcaa", sum := "4318acb18a777392581cebd7a94f6013cec4d3a0a7fd57970a3d34de4be73bd8", func := "tourbillon/tourbillonlaw20.ScriptAll", spec := "scriptAll", unfollowed := true, recurses := true, apart := false }
def ScriptAllSaid : Prop := scriptAllRow.holds Try.pinned (OpenSpec.ofChange scriptAllSpec)

/-- ITS FALSE NEIGHBOUR: 'it returns false'. Refute it at one input. -/
def scriptAllWrong : ChangeSpec := { name := "scriptAll", fn := fun _ => fun
  | [d1, d2] => { results := [.lit (.bool false)], args := [d1, d2] }
  | _ => none }
def ScriptAllWrongFalsely : Prop := scriptAllRow.holds Try.pinned (OpenSpec.ofChange scriptAllWrong)

/-- 'tourbillonlaw20.ScriptOrders': WHATEVER THE INPUT: true; the input reads as it did. -/
def scriptOrdersSpec : ChangeSpec := { name := "scriptOrders", fn := fun _ => fun
  | [d1, d2, d3] => { results := [.lit (.bool true)], args := [d1, d2, d3] }
  | _ => none }
def scriptOrdersRow : OpenClaim := { program := "ytlheebdnplcmcaa", sum := "4318acb18a777392581cebd7a94f6013cec4d3a0a7fd57970a3d34de4be73bd8", func := "tourbillon/tourbillonlaw20.ScriptOrders", spec := "scriptOrders", unfollowed := true, recurses := true, apart := false }
def ScriptOrdersSaid : Prop := scriptOrdersRow.holds Try.pinned (OpenSpec.ofChange scriptOrdersSpec)

/-- ITS FALSE NEIGHBOUR: 'it returns false'. Refute it at one input. -/
def scriptOrdersWrong : ChangeSpec := { name := "scriptOrders", fn := fun _ => fun
  | [d1, d2, d3] => { results := [.lit (.bool false)], args := [d1, d2, d3] }
  | _ => none }
def ScriptOrdersWrongFalsely : Prop := scriptOrdersRow.holds Try.pinned (OpenSpec.ofChange scriptOrdersWrong)

/-- 'tourbillonlaw20.ScriptLater': WHATEVER THE INPUT: true; the input reads as it did. -/
def scriptLaterSpec : ChangeSpec := { name := "scriptLater", fn := fun _ => fun
  | [d1, d2, d3] => { results := [.lit (.bool true)], args := [d1, d2, d3] }
  | _ => none }
def scriptLaterRow : OpenClaim := { program := "ytlheebdnplcmcaa", sum := "4318acb18a777392581cebd7a94f6013cec4d3a0a7fd57970a3d34de4be73bd8", func := "tourbillon/tourbillonlaw20.ScriptLater", spec := "scriptLater", unfollowed := true, recurses := true, apart := false }
def ScriptLaterSaid : Prop := scriptLaterRow.holds Try.pinned (OpenSpec.ofChange scriptLaterSpec)

/-- ITS FALSE NEIGHBOUR: 'it returns false'. Refute it at one input. -/
def scriptLaterWrong : ChangeSpec := { name := "scriptLater", fn := fun _ => fun
  | [d1, d2, d3] => { results := [.lit (.bool false)], args := [d1, d2, d3] }
  | _ => none }
def ScriptLaterWrongFalsely : Prop := scriptLaterRow.holds Try.pinned (OpenSpec.ofChange scriptLaterWrong)

/- THE SECOND FORM. 'bulk': how many values and letters a reading holds, each counted each time it is reached (what is shared counts as often as it is met; a slice's spare places count too). A statement '..UptoSaid' is the law's where the arguments, and the package variables that the reading takes, are together of bulk at most 1048576: NARROWER than '..Said'. Prove '..Said' where nothing that the law and all that it calls make is longer than what came in: it says more and counts as full. Else prove '..UptoSaid'. A law counts once. -/
mutual
def uptoBulk {H : Type} : DataW H → Nat
  | .lit (.string bytes) => bytes.length + 1
  | .lit _ => 1
  | .nil => 1
  | .ptr d => uptoBulk d + 1
  | .slice elems spare => uptoBulkAll elems + uptoBulkAll spare + 1
  | .agg parts => uptoBulkAll parts + 1
  | .iface _ d => uptoBulk d + 1
  | .map entries => uptoBulkEntries entries + 1
  | .held _ => 1
def uptoBulkAll {H : Type} : List (DataW H) → Nat
  | [] => 0
  | d :: r => uptoBulk d + uptoBulkAll r
def uptoBulkEntries {H : Type} : List (Lit × DataW H) → Nat
  | [] => 0
  | x :: r => uptoBulkEntry x + uptoBulkEntries r
def uptoBulkEntry {H : Type} : Lit × DataW H → Nat
  | (.string bytes, d) => bytes.length + uptoBulk d + 1
  | (_, d) => uptoBulk d + 1
 end
def uptoSmall : (H : Type) → List (DataW H) → Bool := fun _ ds => decide (uptoBulkAll ds ≤ 1048576)
def OpenSpec.upto (s : _root_.Go.ChangeSpec) : _root_.Go.OpenSpec := { _root_.Go.OpenSpec.ofChange s with cond := some uptoSmall }

/-- 'tourbillonlaw20.ScriptTells', WHERE WHAT IT READS IS OF BULK AT MOST 1048576: true; the input reads as it did. -/
def scriptTellsUptoRow : OpenClaim := { program := "ytlheebdnplcmcaa", sum := "4318acb18a777392581cebd7a94f6013cec4d3a0a7fd57970a3d34de4be73bd8", func := "tourbillon/tourbillonlaw20.ScriptTells", spec := "scriptTells", unfollowed := true, recurses := true, apart := false, narrowed := true }
def ScriptTellsUptoSaid : Prop := scriptTellsUptoRow.holds Try.pinned (OpenSpec.upto scriptTellsSpec)

/-- 'tourbillonlaw20.ScriptLess', WHERE WHAT IT READS IS OF BULK AT MOST 1048576: true; the input reads as it did. -/
def scriptLessUptoRow : OpenClaim := { program := "ytlheebdnplcmcaa", sum := "4318acb18a777392581cebd7a94f6013cec4d3a0a7fd57970a3d34de4be73bd8", func := "tourbillon/tourbillonlaw20.ScriptLess", spec := "scriptLess", unfollowed := true, recurses := true, apart := false, narrowed := true }
def ScriptLessUptoSaid : Prop := scriptLessUptoRow.holds Try.pinned (OpenSpec.upto scriptLessSpec)

/-- 'tourbillonlaw20.ScriptAll', WHERE WHAT IT READS IS OF BULK AT MOST 1048576: true; the input reads as it did. -/
def scriptAllUptoRow : OpenClaim := { program := "ytlheebdnplcmcaa", sum := "4318acb18a777392581cebd7a94f6013cec4d3a0a7fd57970a3d34de4be73bd8", func := "tourbillon/tourbillonlaw20.ScriptAll", spec := "scriptAll", unfollowed := true, recurses := true, apart := false, narrowed := true }
def ScriptAllUptoSaid : Prop := scriptAllUptoRow.holds Try.pinned (OpenSpec.upto scriptAllSpec)

/-- 'tourbillonlaw20.ScriptOrders', WHERE WHAT IT READS IS OF BULK AT MOST 1048576: true; the input reads as it did. -/
def scriptOrdersUptoRow : OpenClaim := { program := "ytlheebdnplcmcaa", sum := "4318acb18a777392581cebd7a94f6013cec4d3a0a7fd57970a3d34de4be73bd8", func := "tourbillon/tourbillonlaw20.ScriptOrders", spec := "scriptOrders", unfollowed := true, recurses := true, apart := false, narrowed := true }
def ScriptOrdersUptoSaid : Prop := scriptOrdersUptoRow.holds Try.pinned (OpenSpec.upto scriptOrdersSpec)

/-- 'tourbillonlaw20.ScriptLater', WHERE WHAT IT READS IS OF BULK AT MOST 1048576: true; the input reads as it did. -/
def scriptLaterUptoRow : OpenClaim := { program := "ytlheebdnplcmcaa", sum := "4318acb18a777392581cebd7a94f6013cec4d3a0a7fd57970a3d34de4be73bd8", func := "tourbillon/tourbillonlaw20.ScriptLater", spec := "scriptLater", unfollowed := true, recurses := true, apart := false, narrowed := true }
def ScriptLaterUptoSaid : Prop := scriptLaterUptoRow.holds Try.pinned (OpenSpec.upto scriptLaterSpec)

end Rows
end Go.Proofs.Ytlheebdnplcmcaa
