/-
  No cell of these rows narrows 'for every input' (looked for: loops, veiled, ifaces, maps, wideKeys, modest, calm, conditions, laid).
  DERIVED. THE GIVEN ROWS OF THIS SEAT. 8 by the template 'for every input the law returns true; each argument reads behind the call as it read before'; 0 by the template 'total and deterministic' (their statements: YtpnkldjbiinnpaaTotals.lean).
  GIVEN WITH THE SEED: the statements are not yours to turn. If you find one false, say at which input.
  Laid BY PROGRAM, IN A SANDBOX (cutbox-rows.mjs): the forced cells as the released guide's own fill.sh prints them over the translation fc025a532ec64f9e… (all of the seat's roots in one cut). By AI agents, Wed Nov 11 2026. No macro, syntax, notation, axiom, sorry.
-/
import Derived.Test.YtpnkldjbiinnpaaChecked
import GoSem.Claim
import GoSem.ClaimJoined
import GoSem.ClaimMapViews
import Derived.JoinedTies
import Derived.KernelRfl
namespace Go.Proofs.Ytpnkldjbiinnpaa
/- THE CELL 'sum', in the pinned program and in every row, IS THE sha256 OF THE DUMP (.gsa) THAT YtpnkldjbiinnpaaProg.lean LOADS. Nothing in Lean hashes anything: it is a label: what it is worth is what the hold of that sum in a sandbox is worth. -/
noncomputable def Try.pinned : Pinned := { name := "ytpnkldjbiinnpaa", sum := "fc025a532ec64f9e18e41bc14dc7defbda9db2c728d132928c2815df39c7efd2", checked := Try.checked }
namespace Rows
def none {H : Type} : Left H := { results := [], args := [] }

/-- 'tollhouselaw01.BigsizeNumbers': WHATEVER THE INPUT: true; the input reads as it did. -/
def bigsizeNumbersSpec : ChangeSpec := { name := "bigsizeNumbers", fn := fun _ => fun
  | [d1, d2, d3] => { results := [.lit (.bool true)], args := [d1, d2, d3] }
  | _ => none }
def bigsizeNumbersRow : OpenClaim := { program := "ytpnkldjbiinnpaa", sum := "fc025a532ec64f9e18e41bc14dc7defbda9db2c728d132928c2815df39c7efd2", func := "tollhouse/tollhouselaw01.BigsizeNumbers", spec := "bigsizeNumbers", apart := false }
def BigsizeNumbersSaid : Prop := bigsizeNumbersRow.holds Try.pinned (OpenSpec.ofChange bigsizeNumbersSpec)

/-- ITS FALSE NEIGHBOUR: 'it returns false'. Refute it at one input. -/
def bigsizeNumbersWrong : ChangeSpec := { name := "bigsizeNumbers", fn := fun _ => fun
  | [d1, d2, d3] => { results := [.lit (.bool false)], args := [d1, d2, d3] }
  | _ => none }
def BigsizeNumbersWrongFalsely : Prop := bigsizeNumbersRow.holds Try.pinned (OpenSpec.ofChange bigsizeNumbersWrong)

/-- 'tollhouselaw01.BigsizeReads': WHATEVER THE INPUT: true; the input reads as it did. -/
def bigsizeReadsSpec : ChangeSpec := { name := "bigsizeReads", fn := fun _ => fun
  | [d] => { results := [.lit (.bool true)], args := [d] }
  | _ => none }
def bigsizeReadsRow : OpenClaim := { program := "ytpnkldjbiinnpaa", sum := "fc025a532ec64f9e18e41bc14dc7defbda9db2c728d132928c2815df39c7efd2", func := "tollhouse/tollhouselaw01.BigsizeReads", spec := "bigsizeReads", apart := false }
def BigsizeReadsSaid : Prop := bigsizeReadsRow.holds Try.pinned (OpenSpec.ofChange bigsizeReadsSpec)

/-- ITS FALSE NEIGHBOUR: 'it returns false'. Refute it at one input. -/
def bigsizeReadsWrong : ChangeSpec := { name := "bigsizeReads", fn := fun _ => fun
  | [d] => { results := [.lit (.bool false)], args := [d] }
  | _ => none }
def BigsizeReadsWrongFalsely : Prop := bigsizeReadsRow.holds Try.pinned (OpenSpec.ofChange bigsizeReadsWrong)

/-- 'tollhouselaw01.BigsizeOrders': WHATEVER THE INPUT: true; the input reads as it did. -/
def bigsizeOrdersSpec : ChangeSpec := { name := "bigsizeOrders", fn := fun _ => fun
  | [d1, d2] => { results := [.lit (.bool true)], args := [d1, d2] }
  | _ => none }
def bigsizeOrdersRow : OpenClaim := { program := "ytpnkldjbiinnpaa", sum := "fc025a532ec64f9e18e41bc14dc7defbda9db2c728d132928c2815df39c7efd2", func := "tollhouse/tollhouselaw01.BigsizeOrders", spec := "bigsizeOrders", apart := false }
def BigsizeOrdersSaid : Prop := bigsizeOrdersRow.holds Try.pinned (OpenSpec.ofChange bigsizeOrdersSpec)

/-- ITS FALSE NEIGHBOUR: 'it returns false'. Refute it at one input. -/
def bigsizeOrdersWrong : ChangeSpec := { name := "bigsizeOrders", fn := fun _ => fun
  | [d1, d2] => { results := [.lit (.bool false)], args := [d1, d2] }
  | _ => none }
def BigsizeOrdersWrongFalsely : Prop := bigsizeOrdersRow.holds Try.pinned (OpenSpec.ofChange bigsizeOrdersWrong)

/-- 'tollhouselaw01.BigsizeFinds': WHATEVER THE INPUT: true; the input reads as it did. -/
def bigsizeFindsSpec : ChangeSpec := { name := "bigsizeFinds", fn := fun _ => fun
  | [d1, d2] => { results := [.lit (.bool true)], args := [d1, d2] }
  | _ => none }
def bigsizeFindsRow : OpenClaim := { program := "ytpnkldjbiinnpaa", sum := "fc025a532ec64f9e18e41bc14dc7defbda9db2c728d132928c2815df39c7efd2", func := "tollhouse/tollhouselaw01.BigsizeFinds", spec := "bigsizeFinds", unfollowed := true, recurses := true, apart := false }
def BigsizeFindsSaid : Prop := bigsizeFindsRow.holds Try.pinned (OpenSpec.ofChange bigsizeFindsSpec)

/-- ITS FALSE NEIGHBOUR: 'it returns false'. Refute it at one input. -/
def bigsizeFindsWrong : ChangeSpec := { name := "bigsizeFinds", fn := fun _ => fun
  | [d1, d2] => { results := [.lit (.bool false)], args := [d1, d2] }
  | _ => none }
def BigsizeFindsWrongFalsely : Prop := bigsizeFindsRow.holds Try.pinned (OpenSpec.ofChange bigsizeFindsWrong)

/-- 'tollhouselaw01.BigsizeJoins': WHATEVER THE INPUT: true; the input reads as it did. -/
def bigsizeJoinsSpec : ChangeSpec := { name := "bigsizeJoins", fn := fun _ => fun
  | [d1, d2] => { results := [.lit (.bool true)], args := [d1, d2] }
  | _ => none }
def bigsizeJoinsRow : OpenClaim := { program := "ytpnkldjbiinnpaa", sum := "fc025a532ec64f9e18e41bc14dc7defbda9db2c728d132928c2815df39c7efd2", func := "tollhouse/tollhouselaw01.BigsizeJoins", spec := "bigsizeJoins", apart := false }
def BigsizeJoinsSaid : Prop := bigsizeJoinsRow.holds Try.pinned (OpenSpec.ofChange bigsizeJoinsSpec)

/-- ITS FALSE NEIGHBOUR: 'it returns false'. Refute it at one input. -/
def bigsizeJoinsWrong : ChangeSpec := { name := "bigsizeJoins", fn := fun _ => fun
  | [d1, d2] => { results := [.lit (.bool false)], args := [d1, d2] }
  | _ => none }
def BigsizeJoinsWrongFalsely : Prop := bigsizeJoinsRow.holds Try.pinned (OpenSpec.ofChange bigsizeJoinsWrong)

/-- 'tollhouselaw01.BigsizeStreams': WHATEVER THE INPUT: true; the input reads as it did. -/
def bigsizeStreamsSpec : ChangeSpec := { name := "bigsizeStreams", fn := fun _ => fun
  | [d] => { results := [.lit (.bool true)], args := [d] }
  | _ => none }
def bigsizeStreamsRow : OpenClaim := { program := "ytpnkldjbiinnpaa", sum := "fc025a532ec64f9e18e41bc14dc7defbda9db2c728d132928c2815df39c7efd2", func := "tollhouse/tollhouselaw01.BigsizeStreams", spec := "bigsizeStreams", apart := false }
def BigsizeStreamsSaid : Prop := bigsizeStreamsRow.holds Try.pinned (OpenSpec.ofChange bigsizeStreamsSpec)

/-- ITS FALSE NEIGHBOUR: 'it returns false'. Refute it at one input. -/
def bigsizeStreamsWrong : ChangeSpec := { name := "bigsizeStreams", fn := fun _ => fun
  | [d] => { results := [.lit (.bool false)], args := [d] }
  | _ => none }
def BigsizeStreamsWrongFalsely : Prop := bigsizeStreamsRow.holds Try.pinned (OpenSpec.ofChange bigsizeStreamsWrong)

/-- 'tollhouselaw01.BigsizeDecodes': WHATEVER THE INPUT: true; the input reads as it did. -/
def bigsizeDecodesSpec : ChangeSpec := { name := "bigsizeDecodes", fn := fun _ => fun
  | [d1, d2] => { results := [.lit (.bool true)], args := [d1, d2] }
  | _ => none }
def bigsizeDecodesRow : OpenClaim := { program := "ytpnkldjbiinnpaa", sum := "fc025a532ec64f9e18e41bc14dc7defbda9db2c728d132928c2815df39c7efd2", func := "tollhouse/tollhouselaw01.BigsizeDecodes", spec := "bigsizeDecodes", apart := false }
def BigsizeDecodesSaid : Prop := bigsizeDecodesRow.holds Try.pinned (OpenSpec.ofChange bigsizeDecodesSpec)

/-- ITS FALSE NEIGHBOUR: 'it returns false'. Refute it at one input. -/
def bigsizeDecodesWrong : ChangeSpec := { name := "bigsizeDecodes", fn := fun _ => fun
  | [d1, d2] => { results := [.lit (.bool false)], args := [d1, d2] }
  | _ => none }
def BigsizeDecodesWrongFalsely : Prop := bigsizeDecodesRow.holds Try.pinned (OpenSpec.ofChange bigsizeDecodesWrong)

/-- 'tollhouselaw01.BigsizeOdd': WHATEVER THE INPUT: true; the input reads as it did. -/
def bigsizeOddSpec : ChangeSpec := { name := "bigsizeOdd", fn := fun _ => fun
  | [d1, d2, d3] => { results := [.lit (.bool true)], args := [d1, d2, d3] }
  | _ => none }
def bigsizeOddRow : OpenClaim := { program := "ytpnkldjbiinnpaa", sum := "fc025a532ec64f9e18e41bc14dc7defbda9db2c728d132928c2815df39c7efd2", func := "tollhouse/tollhouselaw01.BigsizeOdd", spec := "bigsizeOdd", unfollowed := true, recurses := true, apart := false }
def BigsizeOddSaid : Prop := bigsizeOddRow.holds Try.pinned (OpenSpec.ofChange bigsizeOddSpec)

/-- ITS FALSE NEIGHBOUR: 'it returns false'. Refute it at one input. -/
def bigsizeOddWrong : ChangeSpec := { name := "bigsizeOdd", fn := fun _ => fun
  | [d1, d2, d3] => { results := [.lit (.bool false)], args := [d1, d2, d3] }
  | _ => none }
def BigsizeOddWrongFalsely : Prop := bigsizeOddRow.holds Try.pinned (OpenSpec.ofChange bigsizeOddWrong)

/- THE SECOND FORM. 'bulk': how many values and letters a reading holds, each counted each time it is reached (what is shared counts as often as it is met; a slice's spare places count too). A statement '..UptoSaid' is the law's where the arguments, and the package variables that the reading takes, are together of bulk at most 1048576: NARROWER than '..Said'. Prove '..Said' where nothing that the law and all that it calls make is longer than what came in: it says more and counts as full. Else prove '..UptoSaid'. A law counts once. -/
mutual
def uptoBulk {H : Type} : DataW H → Nat
  | .lit (.string bytes) => bytes.length + 1
  | .lit _ => 1
  | .nil => 1
  | .ptr d => uptoBulk d + 1
  | .slice elems spare => uptoBulkAll elems + uptoBulkAll spare + 1
  | .agg parts => uptoBulkAll parts + 1
  | .iface _ d => uptoBulk d + 1
  | .map entries => uptoBulkEntries entries + 1
  | .held _ => 1
def uptoBulkAll {H : Type} : List (DataW H) → Nat
  | [] => 0
  | d :: r => uptoBulk d + uptoBulkAll r
def uptoBulkEntries {H : Type} : List (Lit × DataW H) → Nat
  | [] => 0
  | x :: r => uptoBulkEntry x + uptoBulkEntries r
def uptoBulkEntry {H : Type} : Lit × DataW H → Nat
  | (.string bytes, d) => bytes.length + uptoBulk d + 1
  | (_, d) => uptoBulk d + 1
 end
def uptoSmall : (H : Type) → List (DataW H) → Bool := fun _ ds => decide (uptoBulkAll ds ≤ 1048576)
def OpenSpec.upto (s : _root_.Go.ChangeSpec) : _root_.Go.OpenSpec := { _root_.Go.OpenSpec.ofChange s with cond := some uptoSmall }

/-- 'tollhouselaw01.BigsizeNumbers', WHERE WHAT IT READS IS OF BULK AT MOST 1048576: true; the input reads as it did. -/
def bigsizeNumbersUptoRow : OpenClaim := { program := "ytpnkldjbiinnpaa", sum := "fc025a532ec64f9e18e41bc14dc7defbda9db2c728d132928c2815df39c7efd2", func := "tollhouse/tollhouselaw01.BigsizeNumbers", spec := "bigsizeNumbers", apart := false, narrowed := true }
def BigsizeNumbersUptoSaid : Prop := bigsizeNumbersUptoRow.holds Try.pinned (OpenSpec.upto bigsizeNumbersSpec)

/-- 'tollhouselaw01.BigsizeReads', WHERE WHAT IT READS IS OF BULK AT MOST 1048576: true; the input reads as it did. -/
def bigsizeReadsUptoRow : OpenClaim := { program := "ytpnkldjbiinnpaa", sum := "fc025a532ec64f9e18e41bc14dc7defbda9db2c728d132928c2815df39c7efd2", func := "tollhouse/tollhouselaw01.BigsizeReads", spec := "bigsizeReads", apart := false, narrowed := true }
def BigsizeReadsUptoSaid : Prop := bigsizeReadsUptoRow.holds Try.pinned (OpenSpec.upto bigsizeReadsSpec)

/-- 'tollhouselaw01.BigsizeOrders', WHERE WHAT IT READS IS OF BULK AT MOST 1048576: true; the input reads as it did. -/
def bigsizeOrdersUptoRow : OpenClaim := { program := "ytpnkldjbiinnpaa", sum := "fc025a532ec64f9e18e41bc14dc7defbda9db2c728d132928c2815df39c7efd2", func := "tollhouse/tollhouselaw01.BigsizeOrders", spec := "bigsizeOrders", apart := false, narrowed := true }
def BigsizeOrdersUptoSaid : Prop := bigsizeOrdersUptoRow.holds Try.pinned (OpenSpec.upto bigsizeOrdersSpec)

/-- 'tollhouselaw01.BigsizeFinds', WHERE WHAT IT READS IS OF BULK AT MOST 1048576: true; the input reads as it did. -/
def bigsizeFindsUptoRow : OpenClaim := { program := "ytpnkldjbiinnpaa", sum := "fc025a532ec64f9e18e41bc14dc7defbda9db2c728d132928c2815df39c7efd2", func := "tollhouse/tollhouselaw01.BigsizeFinds", spec := "bigsizeFinds", unfollowed := true, recurses := true, apart := false, narrowed := true }
def BigsizeFindsUptoSaid : Prop := bigsizeFindsUptoRow.holds Try.pinned (OpenSpec.upto bigsizeFindsSpec)

/-- 'tollhouselaw01.BigsizeJoins', WHERE WHAT IT READS IS OF BULK AT MOST 1048576: true; the input reads as it did. -/
def bigsizeJoinsUptoRow : OpenClaim := { program := "ytpnkldjbiinnpaa", sum := "fc025a532ec64f9e18e41bc14dc7defbda9db2c728d132928c2815df39c7efd2", func := "tollhouse/tollhouselaw01.BigsizeJoins", spec := "bigsizeJoins", apart := false, narrowed := true }
def BigsizeJoinsUptoSaid : Prop := bigsizeJoinsUptoRow.holds Try.pinned (OpenSpec.upto bigsizeJoinsSpec)

/-- 'tollhouselaw01.BigsizeStreams', WHERE WHAT IT READS IS OF BULK AT MOST 1048576: true; the input reads as it did. -/
def bigsizeStreamsUptoRow : OpenClaim := { program := "ytpnkldjbiinnpaa", sum := "fc025a532ec64f9e18e41bc14dc7defbda9db2c728d132928c2815df39c7efd2", func := "tollhouse/tollhouselaw01.BigsizeStreams", spec := "bigsizeStreams", apart := false, narrowed := true }
def BigsizeStreamsUptoSaid : Prop := bigsizeStreamsUptoRow.holds Try.pinned (OpenSpec.upto bigsizeStreamsSpec)

/-- 'tollhouselaw01.BigsizeDecodes', WHERE WHAT IT READS IS OF BULK AT MOST 1048576: true; the input reads as it did. -/
def bigsizeDecodesUptoRow : OpenClaim := { program := "ytpnkldjbiinnpaa", sum := "fc025a532ec64f9e18e41bc14dc7defbda9db2c728d132928c2815df39c7efd2", func := "tollhouse/tollhouselaw01.BigsizeDecodes", spec := "bigsizeDecodes", apart := false, narrowed := true }
def BigsizeDecodesUptoSaid : Prop := bigsizeDecodesUptoRow.holds Try.pinned (OpenSpec.upto bigsizeDecodesSpec)

/-- 'tollhouselaw01.BigsizeOdd', WHERE WHAT IT READS IS OF BULK AT MOST 1048576: true; the input reads as it did. -/
def bigsizeOddUptoRow : OpenClaim := { program := "ytpnkldjbiinnpaa", sum := "fc025a532ec64f9e18e41bc14dc7defbda9db2c728d132928c2815df39c7efd2", func := "tollhouse/tollhouselaw01.BigsizeOdd", spec := "bigsizeOdd", unfollowed := true, recurses := true, apart := false, narrowed := true }
def BigsizeOddUptoSaid : Prop := bigsizeOddUptoRow.holds Try.pinned (OpenSpec.upto bigsizeOddSpec)

end Rows
end Go.Proofs.Ytpnkldjbiinnpaa
