/-
  No cell of these rows narrows 'for every input' (looked for: loops, veiled, ifaces, maps, wideKeys, modest, calm, conditions, laid).
  DERIVED. THE GIVEN ROWS OF THIS SEAT. 3 by the template 'for every input the law returns true; each argument reads behind the call as it read before'; 0 by the template 'total and deterministic' (their statements: YtipbmacpenmgoaaTotals.lean).
  GIVEN WITH THE SEED: the statements are not yours to turn. If you find one false, say at which input.
  Laid BY PROGRAM, IN A SANDBOX (cutbox-rows.mjs): the forced cells as the released guide's own fill.sh prints them over the translation b740317809e349c8… (all of the seat's roots in one cut). By AI agents, Wed Nov 11 2026. No macro, syntax, notation, axiom, sorry.
-/
import Derived.Test.YtipbmacpenmgoaaChecked
import GoSem.Claim
import GoSem.ClaimJoined
import GoSem.ClaimMapViews
import Derived.JoinedTies
import Derived.KernelRfl
namespace Go.Proofs.Ytipbmacpenmgoaa
/- THE CELL 'sum', in the pinned program and in every row, IS THE sha256 OF THE DUMP (.gsa) THAT YtipbmacpenmgoaaProg.lean LOADS. Nothing in Lean hashes anything: it is a label: what it is worth is what the hold of that sum in a sandbox is worth. -/
noncomputable def Try.pinned : Pinned := { name := "ytipbmacpenmgoaa", sum := "b740317809e349c8e5932277cb6c57d2f6d25829304e7b1f223fbf094952be52", checked := Try.checked }
namespace Rows
def none {H : Type} : Left H := { results := [], args := [] }

/-- 'tollhouselaw11.LogRecords': WHATEVER THE INPUT: true; the input reads as it did. -/
def logRecordsSpec : ChangeSpec := { name := "logRecords", fn := fun _ => fun
  | [d1, d2, d3] => { results := [.lit (.bool true)], args := [d1, d2, d3] }
  | _ => none }
def logRecordsRow : OpenClaim := { program := "ytipbmacpenmgoaa", sum := "b740317809e349c8e5932277cb6c57d2f6d25829304e7b1f223fbf094952be52", func := "tollhouse/tollhouselaw11.LogRecords", spec := "logRecords", inPlace := ["maps.clone"], unfollowed := true, recurses := true, apart := false }
def LogRecordsSaid : Prop := logRecordsRow.holds Try.pinned (OpenSpec.ofChange logRecordsSpec)

/-- ITS FALSE NEIGHBOUR: 'it returns false'. Refute it at one input. -/
def logRecordsWrong : ChangeSpec := { name := "logRecords", fn := fun _ => fun
  | [d1, d2, d3] => { results := [.lit (.bool false)], args := [d1, d2, d3] }
  | _ => none }
def LogRecordsWrongFalsely : Prop := logRecordsRow.holds Try.pinned (OpenSpec.ofChange logRecordsWrong)

/-- 'tollhouselaw11.LogTorn': WHATEVER THE INPUT: true; the input reads as it did. -/
def logTornSpec : ChangeSpec := { name := "logTorn", fn := fun _ => fun
  | [d1, d2] => { results := [.lit (.bool true)], args := [d1, d2] }
  | _ => none }
def logTornRow : OpenClaim := { program := "ytipbmacpenmgoaa", sum := "b740317809e349c8e5932277cb6c57d2f6d25829304e7b1f223fbf094952be52", func := "tollhouse/tollhouselaw11.LogTorn", spec := "logTorn", inPlace := ["maps.clone"], unfollowed := true, recurses := true, apart := false }
def LogTornSaid : Prop := logTornRow.holds Try.pinned (OpenSpec.ofChange logTornSpec)

/-- ITS FALSE NEIGHBOUR: 'it returns false'. Refute it at one input. -/
def logTornWrong : ChangeSpec := { name := "logTorn", fn := fun _ => fun
  | [d1, d2] => { results := [.lit (.bool false)], args := [d1, d2] }
  | _ => none }
def LogTornWrongFalsely : Prop := logTornRow.holds Try.pinned (OpenSpec.ofChange logTornWrong)

/-- 'tollhouselaw11.LogNobody': WHATEVER THE INPUT: true; the input reads as it did. -/
def logNobodySpec : ChangeSpec := { name := "logNobody", fn := fun _ => fun
  | [d] => { results := [.lit (.bool true)], args := [d] }
  | _ => none }
def logNobodyRow : OpenClaim := { program := "ytipbmacpenmgoaa", sum := "b740317809e349c8e5932277cb6c57d2f6d25829304e7b1f223fbf094952be52", func := "tollhouse/tollhouselaw11.LogNobody", spec := "logNobody", inPlace := ["maps.clone"], unfollowed := true, recurses := true, apart := false }
def LogNobodySaid : Prop := logNobodyRow.holds Try.pinned (OpenSpec.ofChange logNobodySpec)

/-- ITS FALSE NEIGHBOUR: 'it returns false'. Refute it at one input. -/
def logNobodyWrong : ChangeSpec := { name := "logNobody", fn := fun _ => fun
  | [d] => { results := [.lit (.bool false)], args := [d] }
  | _ => none }
def LogNobodyWrongFalsely : Prop := logNobodyRow.holds Try.pinned (OpenSpec.ofChange logNobodyWrong)

/- THE SECOND FORM. 'bulk': how many values and letters a reading holds, each counted each time it is reached (what is shared counts as often as it is met; a slice's spare places count too). A statement '..UptoSaid' is the law's where the arguments, and the package variables that the reading takes, are together of bulk at most 1048576: NARROWER than '..Said'. Prove '..Said' where nothing that the law and all that it calls make is longer than what came in: it says more and counts as full. Else prove '..UptoSaid'. A law counts once. -/
mutual
def uptoBulk {H : Type} : DataW H → Nat
  | .lit (.string bytes) => bytes.length + 1
  | .lit _ => 1
  | .nil => 1
  | .ptr d => uptoBulk d + 1
  | .slice elems spare => uptoBulkAll elems + uptoBulkAll spare + 1
  | .agg parts => uptoBulkAll parts + 1
  | .iface _ d => uptoBulk d + 1
  | .map entries => uptoBulkEntries entries + 1
  | .held _ => 1
def uptoBulkAll {H : Type} : List (DataW H) → Nat
  | [] => 0
  | d :: r => uptoBulk d + uptoBulkAll r
def uptoBulkEntries {H : Type} : List (Lit × DataW H) → Nat
  | [] => 0
  | x :: r => uptoBulkEntry x + uptoBulkEntries r
def uptoBulkEntry {H : Type} : Lit × DataW H → Nat
  | (.string bytes, d) => bytes.length + uptoBulk d + 1
  | (_, d) => uptoBulk d + 1
 end
def uptoSmall : (H : Type) → List (DataW H) → Bool := fun _ ds => decide (uptoBulkAll ds ≤ 1048576)
def OpenSpec.upto (s : _root_.Go.ChangeSpec) : _root_.Go.OpenSpec := { _root_.Go.OpenSpec.ofChange s with cond := some uptoSmall }

/-- 'tollhouselaw11.LogRecords', WHERE WHAT IT READS IS OF BULK AT MOST 1048576: true; the input reads as it did. -/
def logRecordsUptoRow : OpenClaim := { program := "ytipbmacpenmgoaa", sum := "b740317809e349c8e5932277cb6c57d2f6d25829304e7b1f223fbf094952be52", func := "tollhouse/tollhouselaw11.LogRecords", spec := "logRecords", inPlace := ["maps.clone"], unfollowed := true, recurses := true, apart := false, narrowed := true }
def LogRecordsUptoSaid : Prop := logRecordsUptoRow.holds Try.pinned (OpenSpec.upto logRecordsSpec)

/-- 'tollhouselaw11.LogTorn', WHERE WHAT IT READS IS OF BULK AT MOST 1048576: true; the input reads as it did. -/
def logTornUptoRow : OpenClaim := { program := "ytipbmacpenmgoaa", sum := "b740317809e349c8e5932277cb6c57d2f6d25829304e7b1f223fbf094952be52", func := "tollhouse/tollhouselaw11.LogTorn", spec := "logTorn", inPlace := ["maps.clone"], unfollowed := true, recurses := true, apart := false, narrowed := true }
def LogTornUptoSaid : Prop := logTornUptoRow.holds Try.pinned (OpenSpec.upto logTornSpec)

/-- 'tollhouselaw11.LogNobody', WHERE WHAT IT READS IS OF BULK AT MOST 1048576: true; the input reads as it did. -/
def logNobodyUptoRow : OpenClaim := { program := "ytipbmacpenmgoaa", sum := "b740317809e349c8e5932277cb6c57d2f6d25829304e7b1f223fbf094952be52", func := "tollhouse/tollhouselaw11.LogNobody", spec := "logNobody", inPlace := ["maps.clone"], unfollowed := true, recurses := true, apart := false, narrowed := true }
def LogNobodyUptoSaid : Prop := logNobodyUptoRow.holds Try.pinned (OpenSpec.upto logNobodySpec)

end Rows
end Go.Proofs.Ytipbmacpenmgoaa
