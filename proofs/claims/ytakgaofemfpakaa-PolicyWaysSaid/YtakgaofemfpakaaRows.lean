/-
  No cell of these rows narrows 'for every input' (looked for: loops, veiled, ifaces, maps, wideKeys, modest, calm, conditions, laid).
  DERIVED. THE GIVEN ROWS OF THIS SEAT. 5 by the template 'for every input the law returns true; each argument reads behind the call as it read before'; 0 by the template 'total and deterministic' (their statements: YtakgaofemfpakaaTotals.lean).
  GIVEN WITH THE SEED: the statements are not yours to turn. If you find one false, say at which input.
  Laid BY PROGRAM, IN A SANDBOX (cutbox-rows.mjs): the forced cells as the released guide's own fill.sh prints them over the translation dab23bf5a30a9ce9… (all of the seat's roots in one cut). By AI agents, Wed Nov 11 2026. No macro, syntax, notation, axiom, sorry.
-/
import Derived.Test.YtakgaofemfpakaaChecked
import GoSem.Claim
import GoSem.ClaimJoined
import GoSem.ClaimMapViews
import Derived.JoinedTies
import Derived.KernelRfl
namespace Go.Proofs.Ytakgaofemfpakaa
/- THE CELL 'sum', in the pinned program and in every row, IS THE sha256 OF THE DUMP (.gsa) THAT YtakgaofemfpakaaProg.lean LOADS. Nothing in Lean hashes anything: it is a label: what it is worth is what the hold of that sum in a sandbox is worth. -/
noncomputable def Try.pinned : Pinned := { name := "ytakgaofemfpakaa", sum := "dab23bf5a30a9ce94ffa24da9292c7d332b58b76b6fd0a7c224e5b66156035ae", checked := Try.checked }
namespace Rows
def none {H : Type} : Left H := { results := [], args := [] }

/-- 'tollhouselaw19.PolicyForwards': WHATEVER THE INPUT: true; the input reads as it did. -/
def policyForwardsSpec : ChangeSpec := { name := "policyForwards", fn := fun _ => fun
  | [d1, d2, d3, d4, d5] => { results := [.lit (.bool true)], args := [d1, d2, d3, d4, d5] }
  | _ => none }
def policyForwardsRow : OpenClaim := { program := "ytakgaofemfpakaa", sum := "dab23bf5a30a9ce94ffa24da9292c7d332b58b76b6fd0a7c224e5b66156035ae", func := "tollhouse/tollhouselaw19.PolicyForwards", spec := "policyForwards", unfollowed := true, recurses := true, named := ["math/bits.divideError", "math/bits.overflowError"], apart := false }
def PolicyForwardsSaid : Prop := policyForwardsRow.holds Try.pinned (OpenSpec.ofChange policyForwardsSpec)

/-- ITS FALSE NEIGHBOUR: 'it returns false'. Refute it at one input. -/
def policyForwardsWrong : ChangeSpec := { name := "policyForwards", fn := fun _ => fun
  | [d1, d2, d3, d4, d5] => { results := [.lit (.bool false)], args := [d1, d2, d3, d4, d5] }
  | _ => none }
def PolicyForwardsWrongFalsely : Prop := policyForwardsRow.holds Try.pinned (OpenSpec.ofChange policyForwardsWrong)

/-- 'tollhouselaw19.PolicyRises': WHATEVER THE INPUT: true; the input reads as it did. -/
def policyRisesSpec : ChangeSpec := { name := "policyRises", fn := fun _ => fun
  | [d1, d2, d3, d4, d5, d6, d7] => { results := [.lit (.bool true)], args := [d1, d2, d3, d4, d5, d6, d7] }
  | _ => none }
def policyRisesRow : OpenClaim := { program := "ytakgaofemfpakaa", sum := "dab23bf5a30a9ce94ffa24da9292c7d332b58b76b6fd0a7c224e5b66156035ae", func := "tollhouse/tollhouselaw19.PolicyRises", spec := "policyRises", unfollowed := true, recurses := true, named := ["math/bits.divideError", "math/bits.overflowError"], apart := false }
def PolicyRisesSaid : Prop := policyRisesRow.holds Try.pinned (OpenSpec.ofChange policyRisesSpec)

/-- ITS FALSE NEIGHBOUR: 'it returns false'. Refute it at one input. -/
def policyRisesWrong : ChangeSpec := { name := "policyRises", fn := fun _ => fun
  | [d1, d2, d3, d4, d5, d6, d7] => { results := [.lit (.bool false)], args := [d1, d2, d3, d4, d5, d6, d7] }
  | _ => none }
def PolicyRisesWrongFalsely : Prop := policyRisesRow.holds Try.pinned (OpenSpec.ofChange policyRisesWrong)

/-- 'tollhouselaw19.PolicyFinals': WHATEVER THE INPUT: true; the input reads as it did. -/
def policyFinalsSpec : ChangeSpec := { name := "policyFinals", fn := fun _ => fun
  | [d1, d2, d3, d4, d5] => { results := [.lit (.bool true)], args := [d1, d2, d3, d4, d5] }
  | _ => none }
def policyFinalsRow : OpenClaim := { program := "ytakgaofemfpakaa", sum := "dab23bf5a30a9ce94ffa24da9292c7d332b58b76b6fd0a7c224e5b66156035ae", func := "tollhouse/tollhouselaw19.PolicyFinals", spec := "policyFinals", unfollowed := true, recurses := true, named := ["math/bits.divideError", "math/bits.overflowError"], apart := false }
def PolicyFinalsSaid : Prop := policyFinalsRow.holds Try.pinned (OpenSpec.ofChange policyFinalsSpec)

/-- ITS FALSE NEIGHBOUR: 'it returns false'. Refute it at one input. -/
def policyFinalsWrong : ChangeSpec := { name := "policyFinals", fn := fun _ => fun
  | [d1, d2, d3, d4, d5] => { results := [.lit (.bool false)], args := [d1, d2, d3, d4, d5] }
  | _ => none }
def PolicyFinalsWrongFalsely : Prop := policyFinalsRow.holds Try.pinned (OpenSpec.ofChange policyFinalsWrong)

/-- 'tollhouselaw19.PolicyExpiries': WHATEVER THE INPUT: true; the input reads as it did. -/
def policyExpiriesSpec : ChangeSpec := { name := "policyExpiries", fn := fun _ => fun
  | [d1, d2] => { results := [.lit (.bool true)], args := [d1, d2] }
  | _ => none }
def policyExpiriesRow : OpenClaim := { program := "ytakgaofemfpakaa", sum := "dab23bf5a30a9ce94ffa24da9292c7d332b58b76b6fd0a7c224e5b66156035ae", func := "tollhouse/tollhouselaw19.PolicyExpiries", spec := "policyExpiries", unfollowed := true, recurses := true, named := ["math/bits.divideError", "math/bits.overflowError"], apart := false }
def PolicyExpiriesSaid : Prop := policyExpiriesRow.holds Try.pinned (OpenSpec.ofChange policyExpiriesSpec)

/-- ITS FALSE NEIGHBOUR: 'it returns false'. Refute it at one input. -/
def policyExpiriesWrong : ChangeSpec := { name := "policyExpiries", fn := fun _ => fun
  | [d1, d2] => { results := [.lit (.bool false)], args := [d1, d2] }
  | _ => none }
def PolicyExpiriesWrongFalsely : Prop := policyExpiriesRow.holds Try.pinned (OpenSpec.ofChange policyExpiriesWrong)

/-- 'tollhouselaw19.PolicyWays': WHATEVER THE INPUT: true; the input reads as it did. -/
def policyWaysSpec : ChangeSpec := { name := "policyWays", fn := fun _ => fun
  | [d1, d2, d3, d4] => { results := [.lit (.bool true)], args := [d1, d2, d3, d4] }
  | _ => none }
def policyWaysRow : OpenClaim := { program := "ytakgaofemfpakaa", sum := "dab23bf5a30a9ce94ffa24da9292c7d332b58b76b6fd0a7c224e5b66156035ae", func := "tollhouse/tollhouselaw19.PolicyWays", spec := "policyWays", unfollowed := true, recurses := true, named := ["math/bits.divideError", "math/bits.overflowError"], apart := false }
def PolicyWaysSaid : Prop := policyWaysRow.holds Try.pinned (OpenSpec.ofChange policyWaysSpec)

/-- ITS FALSE NEIGHBOUR: 'it returns false'. Refute it at one input. -/
def policyWaysWrong : ChangeSpec := { name := "policyWays", fn := fun _ => fun
  | [d1, d2, d3, d4] => { results := [.lit (.bool false)], args := [d1, d2, d3, d4] }
  | _ => none }
def PolicyWaysWrongFalsely : Prop := policyWaysRow.holds Try.pinned (OpenSpec.ofChange policyWaysWrong)

/- THE SECOND FORM. 'bulk': how many values and letters a reading holds, each counted each time it is reached (what is shared counts as often as it is met; a slice's spare places count too). A statement '..UptoSaid' is the law's where the arguments, and the package variables that the reading takes, are together of bulk at most 1048576: NARROWER than '..Said'. Prove '..Said' where nothing that the law and all that it calls make is longer than what came in: it says more and counts as full. Else prove '..UptoSaid'. A law counts once. -/
mutual
def uptoBulk {H : Type} : DataW H → Nat
  | .lit (.string bytes) => bytes.length + 1
  | .lit _ => 1
  | .nil => 1
  | .ptr d => uptoBulk d + 1
  | .slice elems spare => uptoBulkAll elems + uptoBulkAll spare + 1
  | .agg parts => uptoBulkAll parts + 1
  | .iface _ d => uptoBulk d + 1
  | .map entries => uptoBulkEntries entries + 1
  | .held _ => 1
def uptoBulkAll {H : Type} : List (DataW H) → Nat
  | [] => 0
  | d :: r => uptoBulk d + uptoBulkAll r
def uptoBulkEntries {H : Type} : List (Lit × DataW H) → Nat
  | [] => 0
  | x :: r => uptoBulkEntry x + uptoBulkEntries r
def uptoBulkEntry {H : Type} : Lit × DataW H → Nat
  | (.string bytes, d) => bytes.length + uptoBulk d + 1
  | (_, d) => uptoBulk d + 1
 end
def uptoSmall : (H : Type) → List (DataW H) → Bool := fun _ ds => decide (uptoBulkAll ds ≤ 1048576)
def OpenSpec.upto (s : _root_.Go.ChangeSpec) : _root_.Go.OpenSpec := { _root_.Go.OpenSpec.ofChange s with cond := some uptoSmall }

/-- 'tollhouselaw19.PolicyForwards', WHERE WHAT IT READS IS OF BULK AT MOST 1048576: true; the input reads as it did. -/
def policyForwardsUptoRow : OpenClaim := { program := "ytakgaofemfpakaa", sum := "dab23bf5a30a9ce94ffa24da9292c7d332b58b76b6fd0a7c224e5b66156035ae", func := "tollhouse/tollhouselaw19.PolicyForwards", spec := "policyForwards", unfollowed := true, recurses := true, named := ["math/bits.divideError", "math/bits.overflowError"], apart := false, narrowed := true }
def PolicyForwardsUptoSaid : Prop := policyForwardsUptoRow.holds Try.pinned (OpenSpec.upto policyForwardsSpec)

/-- 'tollhouselaw19.PolicyRises', WHERE WHAT IT READS IS OF BULK AT MOST 1048576: true; the input reads as it did. -/
def policyRisesUptoRow : OpenClaim := { program := "ytakgaofemfpakaa", sum := "dab23bf5a30a9ce94ffa24da9292c7d332b58b76b6fd0a7c224e5b66156035ae", func := "tollhouse/tollhouselaw19.PolicyRises", spec := "policyRises", unfollowed := true, recurses := true, named := ["math/bits.divideError", "math/bits.overflowError"], apart := false, narrowed := true }
def PolicyRisesUptoSaid : Prop := policyRisesUptoRow.holds Try.pinned (OpenSpec.upto policyRisesSpec)

/-- 'tollhouselaw19.PolicyFinals', WHERE WHAT IT READS IS OF BULK AT MOST 1048576: true; the input reads as it did. -/
def policyFinalsUptoRow : OpenClaim := { program := "ytakgaofemfpakaa", sum := "dab23bf5a30a9ce94ffa24da9292c7d332b58b76b6fd0a7c224e5b66156035ae", func := "tollhouse/tollhouselaw19.PolicyFinals", spec := "policyFinals", unfollowed := true, recurses := true, named := ["math/bits.divideError", "math/bits.overflowError"], apart := false, narrowed := true }
def PolicyFinalsUptoSaid : Prop := policyFinalsUptoRow.holds Try.pinned (OpenSpec.upto policyFinalsSpec)

/-- 'tollhouselaw19.PolicyExpiries', WHERE WHAT IT READS IS OF BULK AT MOST 1048576: true; the input reads as it did. -/
def policyExpiriesUptoRow : OpenClaim := { program := "ytakgaofemfpakaa", sum := "dab23bf5a30a9ce94ffa24da9292c7d332b58b76b6fd0a7c224e5b66156035ae", func := "tollhouse/tollhouselaw19.PolicyExpiries", spec := "policyExpiries", unfollowed := true, recurses := true, named := ["math/bits.divideError", "math/bits.overflowError"], apart := false, narrowed := true }
def PolicyExpiriesUptoSaid : Prop := policyExpiriesUptoRow.holds Try.pinned (OpenSpec.upto policyExpiriesSpec)

/-- 'tollhouselaw19.PolicyWays', WHERE WHAT IT READS IS OF BULK AT MOST 1048576: true; the input reads as it did. -/
def policyWaysUptoRow : OpenClaim := { program := "ytakgaofemfpakaa", sum := "dab23bf5a30a9ce94ffa24da9292c7d332b58b76b6fd0a7c224e5b66156035ae", func := "tollhouse/tollhouselaw19.PolicyWays", spec := "policyWays", unfollowed := true, recurses := true, named := ["math/bits.divideError", "math/bits.overflowError"], apart := false, narrowed := true }
def PolicyWaysUptoSaid : Prop := policyWaysUptoRow.holds Try.pinned (OpenSpec.upto policyWaysSpec)

end Rows
end Go.Proofs.Ytakgaofemfpakaa
