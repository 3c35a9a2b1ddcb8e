/-
  No cell of these rows narrows 'for every input' (looked for: loops, veiled, ifaces, maps, wideKeys, modest, calm, conditions, laid).
  DERIVED. THE GIVEN ROWS OF THIS SEAT. 8 by the template 'for every input the law returns true; each argument reads behind the call as it read before'; 0 by the template 'total and deterministic' (their statements: YtlhafpkkgocpnaaTotals.lean).
  GIVEN WITH THE SEED: the statements are not yours to turn. If you find one false, say at which input.
  Laid BY PROGRAM, IN A SANDBOX (cutbox-rows.mjs): the forced cells as the released guide's own fill.sh prints them over the translation 2e46a1b4e13f989c… (all of the seat's roots in one cut). By AI agents, Wed Nov 11 2026. No macro, syntax, notation, axiom, sorry.
-/
import Derived.Test.YtlhafpkkgocpnaaChecked
import GoSem.Claim
import GoSem.ClaimJoined
import GoSem.ClaimMapViews
import Derived.JoinedTies
import Derived.KernelRfl
namespace Go.Proofs.Ytlhafpkkgocpnaa
/- THE CELL 'sum', in the pinned program and in every row, IS THE sha256 OF THE DUMP (.gsa) THAT YtlhafpkkgocpnaaProg.lean LOADS. Nothing in Lean hashes anything: it is a label: what it is worth is what the hold of that sum in a sandbox is worth. -/
noncomputable def Try.pinned : Pinned := { name := "ytlhafpkkgocpnaa", sum := "2e46a1b4e13f989c1152063d21b426a1f702df8a1abf8c8b6cf20511aad2c867", checked := Try.checked }
namespace Rows
def none {H : Type} : Left H := { results := [], args := [] }

/-- 'tollhouselaw02.AmountFees': WHATEVER THE INPUT: true; the input reads as it did. -/
def amountFeesSpec : ChangeSpec := { name := "amountFees", fn := fun _ => fun
  | [d1, d2] => { results := [.lit (.bool true)], args := [d1, d2] }
  | _ => none }
def amountFeesRow : OpenClaim := { program := "ytlhafpkkgocpnaa", sum := "2e46a1b4e13f989c1152063d21b426a1f702df8a1abf8c8b6cf20511aad2c867", func := "tollhouse/tollhouselaw02.AmountFees", spec := "amountFees", named := ["math/bits.divideError", "math/bits.overflowError"], apart := false }
def AmountFeesSaid : Prop := amountFeesRow.holds Try.pinned (OpenSpec.ofChange amountFeesSpec)

/-- ITS FALSE NEIGHBOUR: 'it returns false'. Refute it at one input. -/
def amountFeesWrong : ChangeSpec := { name := "amountFees", fn := fun _ => fun
  | [d1, d2] => { results := [.lit (.bool false)], args := [d1, d2] }
  | _ => none }
def AmountFeesWrongFalsely : Prop := amountFeesRow.holds Try.pinned (OpenSpec.ofChange amountFeesWrong)

/-- 'tollhouselaw02.AmountShares': WHATEVER THE INPUT: true; the input reads as it did. -/
def amountSharesSpec : ChangeSpec := { name := "amountShares", fn := fun _ => fun
  | [d1, d2, d3] => { results := [.lit (.bool true)], args := [d1, d2, d3] }
  | _ => none }
def amountSharesRow : OpenClaim := { program := "ytlhafpkkgocpnaa", sum := "2e46a1b4e13f989c1152063d21b426a1f702df8a1abf8c8b6cf20511aad2c867", func := "tollhouse/tollhouselaw02.AmountShares", spec := "amountShares", named := ["math/bits.divideError", "math/bits.overflowError"], apart := false }
def AmountSharesSaid : Prop := amountSharesRow.holds Try.pinned (OpenSpec.ofChange amountSharesSpec)

/-- ITS FALSE NEIGHBOUR: 'it returns false'. Refute it at one input. -/
def amountSharesWrong : ChangeSpec := { name := "amountShares", fn := fun _ => fun
  | [d1, d2, d3] => { results := [.lit (.bool false)], args := [d1, d2, d3] }
  | _ => none }
def AmountSharesWrongFalsely : Prop := amountSharesRow.holds Try.pinned (OpenSpec.ofChange amountSharesWrong)

/-- 'tollhouselaw02.AmountRises': WHATEVER THE INPUT: true; the input reads as it did. -/
def amountRisesSpec : ChangeSpec := { name := "amountRises", fn := fun _ => fun
  | [d1, d2, d3] => { results := [.lit (.bool true)], args := [d1, d2, d3] }
  | _ => none }
def amountRisesRow : OpenClaim := { program := "ytlhafpkkgocpnaa", sum := "2e46a1b4e13f989c1152063d21b426a1f702df8a1abf8c8b6cf20511aad2c867", func := "tollhouse/tollhouselaw02.AmountRises", spec := "amountRises", named := ["math/bits.divideError", "math/bits.overflowError"], apart := false }
def AmountRisesSaid : Prop := amountRisesRow.holds Try.pinned (OpenSpec.ofChange amountRisesSpec)

/-- ITS FALSE NEIGHBOUR: 'it returns false'. Refute it at one input. -/
def amountRisesWrong : ChangeSpec := { name := "amountRises", fn := fun _ => fun
  | [d1, d2, d3] => { results := [.lit (.bool false)], args := [d1, d2, d3] }
  | _ => none }
def AmountRisesWrongFalsely : Prop := amountRisesRow.holds Try.pinned (OpenSpec.ofChange amountRisesWrong)

/-- 'tollhouselaw02.AmountWay': WHATEVER THE INPUT: true; the input reads as it did. -/
def amountWaySpec : ChangeSpec := { name := "amountWay", fn := fun _ => fun
  | [d1, d2] => { results := [.lit (.bool true)], args := [d1, d2] }
  | _ => none }
def amountWayRow : OpenClaim := { program := "ytlhafpkkgocpnaa", sum := "2e46a1b4e13f989c1152063d21b426a1f702df8a1abf8c8b6cf20511aad2c867", func := "tollhouse/tollhouselaw02.AmountWay", spec := "amountWay", named := ["math/bits.divideError", "math/bits.overflowError"], apart := false }
def AmountWaySaid : Prop := amountWayRow.holds Try.pinned (OpenSpec.ofChange amountWaySpec)

/-- ITS FALSE NEIGHBOUR: 'it returns false'. Refute it at one input. -/
def amountWayWrong : ChangeSpec := { name := "amountWay", fn := fun _ => fun
  | [d1, d2] => { results := [.lit (.bool false)], args := [d1, d2] }
  | _ => none }
def AmountWayWrongFalsely : Prop := amountWayRow.holds Try.pinned (OpenSpec.ofChange amountWayWrong)

/-- 'tollhouselaw02.AmountSums': WHATEVER THE INPUT: true; the input reads as it did. -/
def amountSumsSpec : ChangeSpec := { name := "amountSums", fn := fun _ => fun
  | [d1, d2, d3] => { results := [.lit (.bool true)], args := [d1, d2, d3] }
  | _ => none }
def amountSumsRow : OpenClaim := { program := "ytlhafpkkgocpnaa", sum := "2e46a1b4e13f989c1152063d21b426a1f702df8a1abf8c8b6cf20511aad2c867", func := "tollhouse/tollhouselaw02.AmountSums", spec := "amountSums", named := ["math/bits.divideError", "math/bits.overflowError"], apart := false }
def AmountSumsSaid : Prop := amountSumsRow.holds Try.pinned (OpenSpec.ofChange amountSumsSpec)

/-- ITS FALSE NEIGHBOUR: 'it returns false'. Refute it at one input. -/
def amountSumsWrong : ChangeSpec := { name := "amountSums", fn := fun _ => fun
  | [d1, d2, d3] => { results := [.lit (.bool false)], args := [d1, d2, d3] }
  | _ => none }
def AmountSumsWrongFalsely : Prop := amountSumsRow.holds Try.pinned (OpenSpec.ofChange amountSumsWrong)

/-- 'tollhouselaw02.AmountLaws': WHATEVER THE INPUT: true; the input reads as it did. -/
def amountLawsSpec : ChangeSpec := { name := "amountLaws", fn := fun _ => fun
  | [d1, d2, d3] => { results := [.lit (.bool true)], args := [d1, d2, d3] }
  | _ => none }
def amountLawsRow : OpenClaim := { program := "ytlhafpkkgocpnaa", sum := "2e46a1b4e13f989c1152063d21b426a1f702df8a1abf8c8b6cf20511aad2c867", func := "tollhouse/tollhouselaw02.AmountLaws", spec := "amountLaws", named := ["math/bits.divideError", "math/bits.overflowError"], apart := false }
def AmountLawsSaid : Prop := amountLawsRow.holds Try.pinned (OpenSpec.ofChange amountLawsSpec)

/-- ITS FALSE NEIGHBOUR: 'it returns false'. Refute it at one input. -/
def amountLawsWrong : ChangeSpec := { name := "amountLaws", fn := fun _ => fun
  | [d1, d2, d3] => { results := [.lit (.bool false)], args := [d1, d2, d3] }
  | _ => none }
def AmountLawsWrongFalsely : Prop := amountLawsRow.holds Try.pinned (OpenSpec.ofChange amountLawsWrong)

/-- 'tollhouselaw02.AmountOut': WHATEVER THE INPUT: true; the input reads as it did. -/
def amountOutSpec : ChangeSpec := { name := "amountOut", fn := fun _ => fun
  | [d1, d2] => { results := [.lit (.bool true)], args := [d1, d2] }
  | _ => none }
def amountOutRow : OpenClaim := { program := "ytlhafpkkgocpnaa", sum := "2e46a1b4e13f989c1152063d21b426a1f702df8a1abf8c8b6cf20511aad2c867", func := "tollhouse/tollhouselaw02.AmountOut", spec := "amountOut", unfollowed := true, recurses := true, named := ["math/bits.divideError", "math/bits.overflowError"], apart := false }
def AmountOutSaid : Prop := amountOutRow.holds Try.pinned (OpenSpec.ofChange amountOutSpec)

/-- ITS FALSE NEIGHBOUR: 'it returns false'. Refute it at one input. -/
def amountOutWrong : ChangeSpec := { name := "amountOut", fn := fun _ => fun
  | [d1, d2] => { results := [.lit (.bool false)], args := [d1, d2] }
  | _ => none }
def AmountOutWrongFalsely : Prop := amountOutRow.holds Try.pinned (OpenSpec.ofChange amountOutWrong)

/-- 'tollhouselaw02.AmountBack': WHATEVER THE INPUT: true; the input reads as it did. -/
def amountBackSpec : ChangeSpec := { name := "amountBack", fn := fun _ => fun
  | [d1, d2] => { results := [.lit (.bool true)], args := [d1, d2] }
  | _ => none }
def amountBackRow : OpenClaim := { program := "ytlhafpkkgocpnaa", sum := "2e46a1b4e13f989c1152063d21b426a1f702df8a1abf8c8b6cf20511aad2c867", func := "tollhouse/tollhouselaw02.AmountBack", spec := "amountBack", unfollowed := true, recurses := true, named := ["math/bits.divideError", "math/bits.overflowError"], apart := false }
def AmountBackSaid : Prop := amountBackRow.holds Try.pinned (OpenSpec.ofChange amountBackSpec)

/-- ITS FALSE NEIGHBOUR: 'it returns false'. Refute it at one input. -/
def amountBackWrong : ChangeSpec := { name := "amountBack", fn := fun _ => fun
  | [d1, d2] => { results := [.lit (.bool false)], args := [d1, d2] }
  | _ => none }
def AmountBackWrongFalsely : Prop := amountBackRow.holds Try.pinned (OpenSpec.ofChange amountBackWrong)

/- THE SECOND FORM. 'bulk': how many values and letters a reading holds, each counted each time it is reached (what is shared counts as often as it is met; a slice's spare places count too). A statement '..UptoSaid' is the law's where the arguments, and the package variables that the reading takes, are together of bulk at most 1048576: NARROWER than '..Said'. Prove '..Said' where nothing that the law and all that it calls make is longer than what came in: it says more and counts as full. Else prove '..UptoSaid'. A law counts once. -/
mutual
def uptoBulk {H : Type} : DataW H → Nat
  | .lit (.string bytes) => bytes.length + 1
  | .lit _ => 1
  | .nil => 1
  | .ptr d => uptoBulk d + 1
  | .slice elems spare => uptoBulkAll elems + uptoBulkAll spare + 1
  | .agg parts => uptoBulkAll parts + 1
  | .iface _ d => uptoBulk d + 1
  | .map entries => uptoBulkEntries entries + 1
  | .held _ => 1
def uptoBulkAll {H : Type} : List (DataW H) → Nat
  | [] => 0
  | d :: r => uptoBulk d + uptoBulkAll r
def uptoBulkEntries {H : Type} : List (Lit × DataW H) → Nat
  | [] => 0
  | x :: r => uptoBulkEntry x + uptoBulkEntries r
def uptoBulkEntry {H : Type} : Lit × DataW H → Nat
  | (.string bytes, d) => bytes.length + uptoBulk d + 1
  | (_, d) => uptoBulk d + 1
 end
def uptoSmall : (H : Type) → List (DataW H) → Bool := fun _ ds => decide (uptoBulkAll ds ≤ 1048576)
def OpenSpec.upto (s : _root_.Go.ChangeSpec) : _root_.Go.OpenSpec := { _root_.Go.OpenSpec.ofChange s with cond := some uptoSmall }

/-- 'tollhouselaw02.AmountFees', WHERE WHAT IT READS IS OF BULK AT MOST 1048576: true; the input reads as it did. -/
def amountFeesUptoRow : OpenClaim := { program := "ytlhafpkkgocpnaa", sum := "2e46a1b4e13f989c1152063d21b426a1f702df8a1abf8c8b6cf20511aad2c867", func := "tollhouse/tollhouselaw02.AmountFees", spec := "amountFees", named := ["math/bits.divideError", "math/bits.overflowError"], apart := false, narrowed := true }
def AmountFeesUptoSaid : Prop := amountFeesUptoRow.holds Try.pinned (OpenSpec.upto amountFeesSpec)

/-- 'tollhouselaw02.AmountShares', WHERE WHAT IT READS IS OF BULK AT MOST 1048576: true; the input reads as it did. -/
def amountSharesUptoRow : OpenClaim := { program := "ytlhafpkkgocpnaa", sum := "2e46a1b4e13f989c1152063d21b426a1f702df8a1abf8c8b6cf20511aad2c867", func := "tollhouse/tollhouselaw02.AmountShares", spec := "amountShares", named := ["math/bits.divideError", "math/bits.overflowError"], apart := false, narrowed := true }
def AmountSharesUptoSaid : Prop := amountSharesUptoRow.holds Try.pinned (OpenSpec.upto amountSharesSpec)

/-- 'tollhouselaw02.AmountRises', WHERE WHAT IT READS IS OF BULK AT MOST 1048576: true; the input reads as it did. -/
def amountRisesUptoRow : OpenClaim := { program := "ytlhafpkkgocpnaa", sum := "2e46a1b4e13f989c1152063d21b426a1f702df8a1abf8c8b6cf20511aad2c867", func := "tollhouse/tollhouselaw02.AmountRises", spec := "amountRises", named := ["math/bits.divideError", "math/bits.overflowError"], apart := false, narrowed := true }
def AmountRisesUptoSaid : Prop := amountRisesUptoRow.holds Try.pinned (OpenSpec.upto amountRisesSpec)

/-- 'tollhouselaw02.AmountWay', WHERE WHAT IT READS IS OF BULK AT MOST 1048576: true; the input reads as it did. -/
def amountWayUptoRow : OpenClaim := { program := "ytlhafpkkgocpnaa", sum := "2e46a1b4e13f989c1152063d21b426a1f702df8a1abf8c8b6cf20511aad2c867", func := "tollhouse/tollhouselaw02.AmountWay", spec := "amountWay", named := ["math/bits.divideError", "math/bits.overflowError"], apart := false, narrowed := true }
def AmountWayUptoSaid : Prop := amountWayUptoRow.holds Try.pinned (OpenSpec.upto amountWaySpec)

/-- 'tollhouselaw02.AmountSums', WHERE WHAT IT READS IS OF BULK AT MOST 1048576: true; the input reads as it did. -/
def amountSumsUptoRow : OpenClaim := { program := "ytlhafpkkgocpnaa", sum := "2e46a1b4e13f989c1152063d21b426a1f702df8a1abf8c8b6cf20511aad2c867", func := "tollhouse/tollhouselaw02.AmountSums", spec := "amountSums", named := ["math/bits.divideError", "math/bits.overflowError"], apart := false, narrowed := true }
def AmountSumsUptoSaid : Prop := amountSumsUptoRow.holds Try.pinned (OpenSpec.upto amountSumsSpec)

/-- 'tollhouselaw02.AmountLaws', WHERE WHAT IT READS IS OF BULK AT MOST 1048576: true; the input reads as it did. -/
def amountLawsUptoRow : OpenClaim := { program := "ytlhafpkkgocpnaa", sum := "2e46a1b4e13f989c1152063d21b426a1f702df8a1abf8c8b6cf20511aad2c867", func := "tollhouse/tollhouselaw02.AmountLaws", spec := "amountLaws", named := ["math/bits.divideError", "math/bits.overflowError"], apart := false, narrowed := true }
def AmountLawsUptoSaid : Prop := amountLawsUptoRow.holds Try.pinned (OpenSpec.upto amountLawsSpec)

/-- 'tollhouselaw02.AmountOut', WHERE WHAT IT READS IS OF BULK AT MOST 1048576: true; the input reads as it did. -/
def amountOutUptoRow : OpenClaim := { program := "ytlhafpkkgocpnaa", sum := "2e46a1b4e13f989c1152063d21b426a1f702df8a1abf8c8b6cf20511aad2c867", func := "tollhouse/tollhouselaw02.AmountOut", spec := "amountOut", unfollowed := true, recurses := true, named := ["math/bits.divideError", "math/bits.overflowError"], apart := false, narrowed := true }
def AmountOutUptoSaid : Prop := amountOutUptoRow.holds Try.pinned (OpenSpec.upto amountOutSpec)

/-- 'tollhouselaw02.AmountBack', WHERE WHAT IT READS IS OF BULK AT MOST 1048576: true; the input reads as it did. -/
def amountBackUptoRow : OpenClaim := { program := "ytlhafpkkgocpnaa", sum := "2e46a1b4e13f989c1152063d21b426a1f702df8a1abf8c8b6cf20511aad2c867", func := "tollhouse/tollhouselaw02.AmountBack", spec := "amountBack", unfollowed := true, recurses := true, named := ["math/bits.divideError", "math/bits.overflowError"], apart := false, narrowed := true }
def AmountBackUptoSaid : Prop := amountBackUptoRow.holds Try.pinned (OpenSpec.upto amountBackSpec)

end Rows
end Go.Proofs.Ytlhafpkkgocpnaa
