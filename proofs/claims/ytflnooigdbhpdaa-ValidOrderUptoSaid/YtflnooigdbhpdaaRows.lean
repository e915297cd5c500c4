/-
  No cell of these rows narrows 'for every input' (looked for: loops, veiled, ifaces, maps, wideKeys, modest, calm, conditions, laid).
  DERIVED. THE GIVEN ROWS OF THIS SEAT. 4 by the template 'for every input the law returns true; each argument reads behind the call as it read before'; 0 by the template 'total and deterministic' (their statements: YtflnooigdbhpdaaTotals.lean).
  GIVEN WITH THE SEED: the statements are not yours to turn. If you find one false, say at which input.
  Laid BY PROGRAM, IN A SANDBOX (cutbox-rows.mjs): the forced cells as the released guide's own fill.sh prints them over the translation 0c75ba2155bd2b6f… (all of the seat's roots in one cut). By AI agents, Wed Nov 11 2026. No macro, syntax, notation, axiom, sorry.
-/
import Derived.Test.YtflnooigdbhpdaaChecked
import GoSem.Claim
import GoSem.ClaimJoined
import GoSem.ClaimMapViews
import Derived.JoinedTies
import Derived.KernelRfl
namespace Go.Proofs.Ytflnooigdbhpdaa
/- THE CELL 'sum', in the pinned program and in every row, IS THE sha256 OF THE DUMP (.gsa) THAT YtflnooigdbhpdaaProg.lean LOADS. Nothing in Lean hashes anything: it is a label: what it is worth is what the hold of that sum in a sandbox is worth. -/
noncomputable def Try.pinned : Pinned := { name := "ytflnooigdbhpdaa", sum := "0c75ba2155bd2b6fcb39ec53f0caffbad2b8173247dc72e002b806663181d099", checked := Try.checked }
namespace Rows
def none {H : Type} : Left H := { results := [], args := [] }

/-- 'tourbillonlaw08.ValidFinds': WHATEVER THE INPUT: true; the input reads as it did. -/
def validFindsSpec : ChangeSpec := { name := "validFinds", fn := fun _ => fun
  | [d] => { results := [.lit (.bool true)], args := [d] }
  | _ => none }
def validFindsRow : OpenClaim := { program := "ytflnooigdbhpdaa", sum := "0c75ba2155bd2b6fcb39ec53f0caffbad2b8173247dc72e002b806663181d099", func := "tourbillon/tourbillonlaw08.ValidFinds", spec := "validFinds", apart := false }
def ValidFindsSaid : Prop := validFindsRow.holds Try.pinned (OpenSpec.ofChange validFindsSpec)

/-- ITS FALSE NEIGHBOUR: 'it returns false'. Refute it at one input. -/
def validFindsWrong : ChangeSpec := { name := "validFinds", fn := fun _ => fun
  | [d] => { results := [.lit (.bool false)], args := [d] }
  | _ => none }
def ValidFindsWrongFalsely : Prop := validFindsRow.holds Try.pinned (OpenSpec.ofChange validFindsWrong)

/-- 'tourbillonlaw08.ValidSpoils': WHATEVER THE INPUT: true; the input reads as it did. -/
def validSpoilsSpec : ChangeSpec := { name := "validSpoils", fn := fun _ => fun
  | [d1, d2, d3] => { results := [.lit (.bool true)], args := [d1, d2, d3] }
  | _ => none }
def validSpoilsRow : OpenClaim := { program := "ytflnooigdbhpdaa", sum := "0c75ba2155bd2b6fcb39ec53f0caffbad2b8173247dc72e002b806663181d099", func := "tourbillon/tourbillonlaw08.ValidSpoils", spec := "validSpoils", apart := false }
def ValidSpoilsSaid : Prop := validSpoilsRow.holds Try.pinned (OpenSpec.ofChange validSpoilsSpec)

/-- ITS FALSE NEIGHBOUR: 'it returns false'. Refute it at one input. -/
def validSpoilsWrong : ChangeSpec := { name := "validSpoils", fn := fun _ => fun
  | [d1, d2, d3] => { results := [.lit (.bool false)], args := [d1, d2, d3] }
  | _ => none }
def ValidSpoilsWrongFalsely : Prop := validSpoilsRow.holds Try.pinned (OpenSpec.ofChange validSpoilsWrong)

/-- 'tourbillonlaw08.ValidSums': WHATEVER THE INPUT: true; the input reads as it did. -/
def validSumsSpec : ChangeSpec := { name := "validSums", fn := fun _ => fun
  | [d] => { results := [.lit (.bool true)], args := [d] }
  | _ => none }
def validSumsRow : OpenClaim := { program := "ytflnooigdbhpdaa", sum := "0c75ba2155bd2b6fcb39ec53f0caffbad2b8173247dc72e002b806663181d099", func := "tourbillon/tourbillonlaw08.ValidSums", spec := "validSums", apart := false }
def ValidSumsSaid : Prop := validSumsRow.holds Try.pinned (OpenSpec.ofChange validSumsSpec)

/-- ITS FALSE NEIGHBOUR: 'it returns false'. Refute it at one input. -/
def validSumsWrong : ChangeSpec := { name := "validSums", fn := fun _ => fun
  | [d] => { results := [.lit (.bool false)], args := [d] }
  | _ => none }
def ValidSumsWrongFalsely : Prop := validSumsRow.holds Try.pinned (OpenSpec.ofChange validSumsWrong)

/-- 'tourbillonlaw08.ValidOrder': WHATEVER THE INPUT: true; the input reads as it did. -/
def validOrderSpec : ChangeSpec := { name := "validOrder", fn := fun _ => fun
  | [d] => { results := [.lit (.bool true)], args := [d] }
  | _ => none }
def validOrderRow : OpenClaim := { program := "ytflnooigdbhpdaa", sum := "0c75ba2155bd2b6fcb39ec53f0caffbad2b8173247dc72e002b806663181d099", func := "tourbillon/tourbillonlaw08.ValidOrder", spec := "validOrder", apart := false }
def ValidOrderSaid : Prop := validOrderRow.holds Try.pinned (OpenSpec.ofChange validOrderSpec)

/-- ITS FALSE NEIGHBOUR: 'it returns false'. Refute it at one input. -/
def validOrderWrong : ChangeSpec := { name := "validOrder", fn := fun _ => fun
  | [d] => { results := [.lit (.bool false)], args := [d] }
  | _ => none }
def ValidOrderWrongFalsely : Prop := validOrderRow.holds Try.pinned (OpenSpec.ofChange validOrderWrong)

/- THE SECOND FORM. 'bulk': how many values and letters a reading holds, each counted each time it is reached (what is shared counts as often as it is met; a slice's spare places count too). A statement '..UptoSaid' is the law's where the arguments, and the package variables that the reading takes, are together of bulk at most 1048576: NARROWER than '..Said'. Prove '..Said' where nothing that the law and all that it calls make is longer than what came in: it says more and counts as full. Else prove '..UptoSaid'. A law counts once. -/
mutual
def uptoBulk {H : Type} : DataW H → Nat
  | .lit (.string bytes) => bytes.length + 1
  | .lit _ => 1
  | .nil => 1
  | .ptr d => uptoBulk d + 1
  | .slice elems spare => uptoBulkAll elems + uptoBulkAll spare + 1
  | .agg parts => uptoBulkAll parts + 1
  | .iface _ d => uptoBulk d + 1
  | .map entries => uptoBulkEntries entries + 1
  | .held _ => 1
def uptoBulkAll {H : Type} : List (DataW H) → Nat
  | [] => 0
  | d :: r => uptoBulk d + uptoBulkAll r
def uptoBulkEntries {H : Type} : List (Lit × DataW H) → Nat
  | [] => 0
  | x :: r => uptoBulkEntry x + uptoBulkEntries r
def uptoBulkEntry {H : Type} : Lit × DataW H → Nat
  | (.string bytes, d) => bytes.length + uptoBulk d + 1
  | (_, d) => uptoBulk d + 1
 end
def uptoSmall : (H : Type) → List (DataW H) → Bool := fun _ ds => decide (uptoBulkAll ds ≤ 1048576)
def OpenSpec.upto (s : _root_.Go.ChangeSpec) : _root_.Go.OpenSpec := { _root_.Go.OpenSpec.ofChange s with cond := some uptoSmall }

/-- 'tourbillonlaw08.ValidFinds', WHERE WHAT IT READS IS OF BULK AT MOST 1048576: true; the input reads as it did. -/
def validFindsUptoRow : OpenClaim := { program := "ytflnooigdbhpdaa", sum := "0c75ba2155bd2b6fcb39ec53f0caffbad2b8173247dc72e002b806663181d099", func := "tourbillon/tourbillonlaw08.ValidFinds", spec := "validFinds", apart := false, narrowed := true }
def ValidFindsUptoSaid : Prop := validFindsUptoRow.holds Try.pinned (OpenSpec.upto validFindsSpec)

/-- 'tourbillonlaw08.ValidSpoils', WHERE WHAT IT READS IS OF BULK AT MOST 1048576: true; the input reads as it did. -/
def validSpoilsUptoRow : OpenClaim := { program := "ytflnooigdbhpdaa", sum := "0c75ba2155bd2b6fcb39ec53f0caffbad2b8173247dc72e002b806663181d099", func := "tourbillon/tourbillonlaw08.ValidSpoils", spec := "validSpoils", apart := false, narrowed := true }
def ValidSpoilsUptoSaid : Prop := validSpoilsUptoRow.holds Try.pinned (OpenSpec.upto validSpoilsSpec)

/-- 'tourbillonlaw08.ValidSums', WHERE WHAT IT READS IS OF BULK AT MOST 1048576: true; the input reads as it did. -/
def validSumsUptoRow : OpenClaim := { program := "ytflnooigdbhpdaa", sum := "0c75ba2155bd2b6fcb39ec53f0caffbad2b8173247dc72e002b806663181d099", func := "tourbillon/tourbillonlaw08.ValidSums", spec := "validSums", apart := false, narrowed := true }
def ValidSumsUptoSaid : Prop := validSumsUptoRow.holds Try.pinned (OpenSpec.upto validSumsSpec)

/-- 'tourbillonlaw08.ValidOrder', WHERE WHAT IT READS IS OF BULK AT MOST 1048576: true; the input reads as it did. -/
def validOrderUptoRow : OpenClaim := { program := "ytflnooigdbhpdaa", sum := "0c75ba2155bd2b6fcb39ec53f0caffbad2b8173247dc72e002b806663181d099", func := "tourbillon/tourbillonlaw08.ValidOrder", spec := "validOrder", apart := false, narrowed := true }
def ValidOrderUptoSaid : Prop := validOrderUptoRow.holds Try.pinned (OpenSpec.upto validOrderSpec)

end Rows
end Go.Proofs.Ytflnooigdbhpdaa
