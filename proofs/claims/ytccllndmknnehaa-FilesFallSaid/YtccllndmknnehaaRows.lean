/-
  No cell of these rows narrows 'for every input' (looked for: loops, veiled, ifaces, maps, wideKeys, modest, calm, conditions, laid).
  DERIVED. THE GIVEN ROWS OF THIS SEAT. 3 by the template 'for every input the law returns true; each argument reads behind the call as it read before'; 0 by the template 'total and deterministic' (their statements: YtccllndmknnehaaTotals.lean).
  GIVEN WITH THE SEED: the statements are not yours to turn. If you find one false, say at which input.
  Laid BY PROGRAM, IN A SANDBOX (cutbox-rows.mjs): the forced cells as the released guide's own fill.sh prints them over the translation 0b18b42bd3442573… (all of the seat's roots in one cut). By AI agents, Wed Nov 11 2026. No macro, syntax, notation, axiom, sorry.
-/
import Derived.Test.YtccllndmknnehaaChecked
import GoSem.Claim
import GoSem.ClaimJoined
import GoSem.ClaimMapViews
import Derived.JoinedTies
import Derived.KernelRfl
namespace Go.Proofs.Ytccllndmknnehaa
/- THE CELL 'sum', in the pinned program and in every row, IS THE sha256 OF THE DUMP (.gsa) THAT YtccllndmknnehaaProg.lean LOADS. Nothing in Lean hashes anything: it is a label: what it is worth is what the hold of that sum in a sandbox is worth. -/
noncomputable def Try.pinned : Pinned := { name := "ytccllndmknnehaa", sum := "0b18b42bd3442573e86e16a20abda147a18cbe41a91be5b50488fe86a1d55c06", checked := Try.checked }
namespace Rows
def none {H : Type} : Left H := { results := [], args := [] }

/-- 'tollhouselaw10.FilesNames': WHATEVER THE INPUT: true; the input reads as it did. -/
def filesNamesSpec : ChangeSpec := { name := "filesNames", fn := fun _ => fun
  | [d1, d2] => { results := [.lit (.bool true)], args := [d1, d2] }
  | _ => none }
def filesNamesRow : OpenClaim := { program := "ytccllndmknnehaa", sum := "0b18b42bd3442573e86e16a20abda147a18cbe41a91be5b50488fe86a1d55c06", func := "tollhouse/tollhouselaw10.FilesNames", spec := "filesNames", inPlace := ["maps.clone"], unfollowed := true, recurses := true, apart := false }
def FilesNamesSaid : Prop := filesNamesRow.holds Try.pinned (OpenSpec.ofChange filesNamesSpec)

/-- ITS FALSE NEIGHBOUR: 'it returns false'. Refute it at one input. -/
def filesNamesWrong : ChangeSpec := { name := "filesNames", fn := fun _ => fun
  | [d1, d2] => { results := [.lit (.bool false)], args := [d1, d2] }
  | _ => none }
def FilesNamesWrongFalsely : Prop := filesNamesRow.holds Try.pinned (OpenSpec.ofChange filesNamesWrong)

/-- 'tollhouselaw10.FilesFall': WHATEVER THE INPUT: true; the input reads as it did. -/
def filesFallSpec : ChangeSpec := { name := "filesFall", fn := fun _ => fun
  | [d1, d2, d3, d4] => { results := [.lit (.bool true)], args := [d1, d2, d3, d4] }
  | _ => none }
def filesFallRow : OpenClaim := { program := "ytccllndmknnehaa", sum := "0b18b42bd3442573e86e16a20abda147a18cbe41a91be5b50488fe86a1d55c06", func := "tollhouse/tollhouselaw10.FilesFall", spec := "filesFall", inPlace := ["maps.clone"], unfollowed := true, recurses := true, apart := false }
def FilesFallSaid : Prop := filesFallRow.holds Try.pinned (OpenSpec.ofChange filesFallSpec)

/-- ITS FALSE NEIGHBOUR: 'it returns false'. Refute it at one input. -/
def filesFallWrong : ChangeSpec := { name := "filesFall", fn := fun _ => fun
  | [d1, d2, d3, d4] => { results := [.lit (.bool false)], args := [d1, d2, d3, d4] }
  | _ => none }
def FilesFallWrongFalsely : Prop := filesFallRow.holds Try.pinned (OpenSpec.ofChange filesFallWrong)

/-- 'tollhouselaw10.FilesNobody': WHATEVER THE INPUT: true; the input reads as it did. -/
def filesNobodySpec : ChangeSpec := { name := "filesNobody", fn := fun _ => fun
  | [d] => { results := [.lit (.bool true)], args := [d] }
  | _ => none }
def filesNobodyRow : OpenClaim := { program := "ytccllndmknnehaa", sum := "0b18b42bd3442573e86e16a20abda147a18cbe41a91be5b50488fe86a1d55c06", func := "tollhouse/tollhouselaw10.FilesNobody", spec := "filesNobody", inPlace := ["maps.clone"], unfollowed := true, recurses := true, apart := false }
def FilesNobodySaid : Prop := filesNobodyRow.holds Try.pinned (OpenSpec.ofChange filesNobodySpec)

/-- ITS FALSE NEIGHBOUR: 'it returns false'. Refute it at one input. -/
def filesNobodyWrong : ChangeSpec := { name := "filesNobody", fn := fun _ => fun
  | [d] => { results := [.lit (.bool false)], args := [d] }
  | _ => none }
def FilesNobodyWrongFalsely : Prop := filesNobodyRow.holds Try.pinned (OpenSpec.ofChange filesNobodyWrong)

/- THE SECOND FORM. 'bulk': how many values and letters a reading holds, each counted each time it is reached (what is shared counts as often as it is met; a slice's spare places count too). A statement '..UptoSaid' is the law's where the arguments, and the package variables that the reading takes, are together of bulk at most 1048576: NARROWER than '..Said'. Prove '..Said' where nothing that the law and all that it calls make is longer than what came in: it says more and counts as full. Else prove '..UptoSaid'. A law counts once. -/
mutual
def uptoBulk {H : Type} : DataW H → Nat
  | .lit (.string bytes) => bytes.length + 1
  | .lit _ => 1
  | .nil => 1
  | .ptr d => uptoBulk d + 1
  | .slice elems spare => uptoBulkAll elems + uptoBulkAll spare + 1
  | .agg parts => uptoBulkAll parts + 1
  | .iface _ d => uptoBulk d + 1
  | .map entries => uptoBulkEntries entries + 1
  | .held _ => 1
def uptoBulkAll {H : Type} : List (DataW H) → Nat
  | [] => 0
  | d :: r => uptoBulk d + uptoBulkAll r
def uptoBulkEntries {H : Type} : List (Lit × DataW H) → Nat
  | [] => 0
  | x :: r => uptoBulkEntry x + uptoBulkEntries r
def uptoBulkEntry {H : Type} : Lit × DataW H → Nat
  | (.string bytes, d) => bytes.length + uptoBulk d + 1
  | (_, d) => uptoBulk d + 1
 end
def uptoSmall : (H : Type) → List (DataW H) → Bool := fun _ ds => decide (uptoBulkAll ds ≤ 1048576)
def OpenSpec.upto (s : _root_.Go.ChangeSpec) : _root_.Go.OpenSpec := { _root_.Go.OpenSpec.ofChange s with cond := some uptoSmall }

/-- 'tollhouselaw10.FilesNames', WHERE WHAT IT READS IS OF BULK AT MOST 1048576: true; the input reads as it did. -/
def filesNamesUptoRow : OpenClaim := { program := "ytccllndmknnehaa", sum := "0b18b42bd3442573e86e16a20abda147a18cbe41a91be5b50488fe86a1d55c06", func := "tollhouse/tollhouselaw10.FilesNames", spec := "filesNames", inPlace := ["maps.clone"], unfollowed := true, recurses := true, apart := false, narrowed := true }
def FilesNamesUptoSaid : Prop := filesNamesUptoRow.holds Try.pinned (OpenSpec.upto filesNamesSpec)

/-- 'tollhouselaw10.FilesFall', WHERE WHAT IT READS IS OF BULK AT MOST 1048576: true; the input reads as it did. -/
def filesFallUptoRow : OpenClaim := { program := "ytccllndmknnehaa", sum := "0b18b42bd3442573e86e16a20abda147a18cbe41a91be5b50488fe86a1d55c06", func := "tollhouse/tollhouselaw10.FilesFall", spec := "filesFall", inPlace := ["maps.clone"], unfollowed := true, recurses := true, apart := false, narrowed := true }
def FilesFallUptoSaid : Prop := filesFallUptoRow.holds Try.pinned (OpenSpec.upto filesFallSpec)

/-- 'tollhouselaw10.FilesNobody', WHERE WHAT IT READS IS OF BULK AT MOST 1048576: true; the input reads as it did. -/
def filesNobodyUptoRow : OpenClaim := { program := "ytccllndmknnehaa", sum := "0b18b42bd3442573e86e16a20abda147a18cbe41a91be5b50488fe86a1d55c06", func := "tollhouse/tollhouselaw10.FilesNobody", spec := "filesNobody", inPlace := ["maps.clone"], unfollowed := true, recurses := true, apart := false, narrowed := true }
def FilesNobodyUptoSaid : Prop := filesNobodyUptoRow.holds Try.pinned (OpenSpec.upto filesNobodySpec)

end Rows
end Go.Proofs.Ytccllndmknnehaa
