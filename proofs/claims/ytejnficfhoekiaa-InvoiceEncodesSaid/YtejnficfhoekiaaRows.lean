/-
  No cell of these rows narrows 'for every input' (looked for: loops, veiled, ifaces, maps, wideKeys, modest, calm, conditions, laid).
  DERIVED. THE GIVEN ROWS OF THIS SEAT. 3 by the template 'for every input the law returns true; each argument reads behind the call as it read before'; 0 by the template 'total and deterministic' (their statements: YtejnficfhoekiaaTotals.lean).
  GIVEN WITH THE SEED: the statements are not yours to turn. If you find one false, say at which input.
  Laid BY PROGRAM, IN A SANDBOX (cutbox-rows.mjs): the forced cells as the released guide's own fill.sh prints them over the translation 0b7f912e6728e298… (all of the seat's roots in one cut). By AI agents, Wed Nov 11 2026. No macro, syntax, notation, axiom, sorry.
-/
import Derived.Test.YtejnficfhoekiaaChecked
import GoSem.Claim
import GoSem.ClaimJoined
import GoSem.ClaimMapViews
import Derived.JoinedTies
import Derived.KernelRfl
namespace Go.Proofs.Ytejnficfhoekiaa
/- THE CELL 'sum', in the pinned program and in every row, IS THE sha256 OF THE DUMP (.gsa) THAT YtejnficfhoekiaaProg.lean LOADS. Nothing in Lean hashes anything: it is a label: what it is worth is what the hold of that sum in a sandbox is worth. -/
noncomputable def Try.pinned : Pinned := { name := "ytejnficfhoekiaa", sum := "0b7f912e6728e298fdc0e22ab2fdde194180a5b0428947c535eebef21cdb5c14", checked := Try.checked }
namespace Rows
def none {H : Type} : Left H := { results := [], args := [] }

/-- 'tollhouselaw09.InvoiceEncodes': WHATEVER THE INPUT: true; the input reads as it did. -/
def invoiceEncodesSpec : ChangeSpec := { name := "invoiceEncodes", fn := fun _ => fun
  | [d] => { results := [.lit (.bool true)], args := [d] }
  | _ => none }
def invoiceEncodesRow : OpenClaim := { program := "ytejnficfhoekiaa", sum := "0b7f912e6728e298fdc0e22ab2fdde194180a5b0428947c535eebef21cdb5c14", func := "tollhouse/tollhouselaw09.InvoiceEncodes", spec := "invoiceEncodes", inPlace := ["internal/bytealg.IndexByteString"], unfollowed := true, recurses := true, apart := false }
def InvoiceEncodesSaid : Prop := invoiceEncodesRow.holds Try.pinned (OpenSpec.ofChange invoiceEncodesSpec)

/-- ITS FALSE NEIGHBOUR: 'it returns false'. Refute it at one input. -/
def invoiceEncodesWrong : ChangeSpec := { name := "invoiceEncodes", fn := fun _ => fun
  | [d] => { results := [.lit (.bool false)], args := [d] }
  | _ => none }
def InvoiceEncodesWrongFalsely : Prop := invoiceEncodesRow.holds Try.pinned (OpenSpec.ofChange invoiceEncodesWrong)

/-- 'tollhouselaw09.InvoiceDigits': WHATEVER THE INPUT: true; the input reads as it did. -/
def invoiceDigitsSpec : ChangeSpec := { name := "invoiceDigits", fn := fun _ => fun
  | [d1, d2] => { results := [.lit (.bool true)], args := [d1, d2] }
  | _ => none }
def invoiceDigitsRow : OpenClaim := { program := "ytejnficfhoekiaa", sum := "0b7f912e6728e298fdc0e22ab2fdde194180a5b0428947c535eebef21cdb5c14", func := "tollhouse/tollhouselaw09.InvoiceDigits", spec := "invoiceDigits", inPlace := ["internal/bytealg.IndexByteString"], unfollowed := true, recurses := true, apart := false }
def InvoiceDigitsSaid : Prop := invoiceDigitsRow.holds Try.pinned (OpenSpec.ofChange invoiceDigitsSpec)

/-- ITS FALSE NEIGHBOUR: 'it returns false'. Refute it at one input. -/
def invoiceDigitsWrong : ChangeSpec := { name := "invoiceDigits", fn := fun _ => fun
  | [d1, d2] => { results := [.lit (.bool false)], args := [d1, d2] }
  | _ => none }
def InvoiceDigitsWrongFalsely : Prop := invoiceDigitsRow.holds Try.pinned (OpenSpec.ofChange invoiceDigitsWrong)

/-- 'tollhouselaw09.InvoiceTurned': WHATEVER THE INPUT: true; the input reads as it did. -/
def invoiceTurnedSpec : ChangeSpec := { name := "invoiceTurned", fn := fun _ => fun
  | [d1, d2, d3] => { results := [.lit (.bool true)], args := [d1, d2, d3] }
  | _ => none }
def invoiceTurnedRow : OpenClaim := { program := "ytejnficfhoekiaa", sum := "0b7f912e6728e298fdc0e22ab2fdde194180a5b0428947c535eebef21cdb5c14", func := "tollhouse/tollhouselaw09.InvoiceTurned", spec := "invoiceTurned", inPlace := ["internal/bytealg.IndexByteString"], unfollowed := true, recurses := true, apart := false }
def InvoiceTurnedSaid : Prop := invoiceTurnedRow.holds Try.pinned (OpenSpec.ofChange invoiceTurnedSpec)

/-- ITS FALSE NEIGHBOUR: 'it returns false'. Refute it at one input. -/
def invoiceTurnedWrong : ChangeSpec := { name := "invoiceTurned", fn := fun _ => fun
  | [d1, d2, d3] => { results := [.lit (.bool false)], args := [d1, d2, d3] }
  | _ => none }
def InvoiceTurnedWrongFalsely : Prop := invoiceTurnedRow.holds Try.pinned (OpenSpec.ofChange invoiceTurnedWrong)

/- THE SECOND FORM. 'bulk': how many values and letters a reading holds, each counted each time it is reached (what is shared counts as often as it is met; a slice's spare places count too). A statement '..UptoSaid' is the law's where the arguments, and the package variables that the reading takes, are together of bulk at most 1048576: NARROWER than '..Said'. Prove '..Said' where nothing that the law and all that it calls make is longer than what came in: it says more and counts as full. Else prove '..UptoSaid'. A law counts once. -/
mutual
def uptoBulk {H : Type} : DataW H → Nat
  | .lit (.string bytes) => bytes.length + 1
  | .lit _ => 1
  | .nil => 1
  | .ptr d => uptoBulk d + 1
  | .slice elems spare => uptoBulkAll elems + uptoBulkAll spare + 1
  | .agg parts => uptoBulkAll parts + 1
  | .iface _ d => uptoBulk d + 1
  | .map entries => uptoBulkEntries entries + 1
  | .held _ => 1
def uptoBulkAll {H : Type} : List (DataW H) → Nat
  | [] => 0
  | d :: r => uptoBulk d + uptoBulkAll r
def uptoBulkEntries {H : Type} : List (Lit × DataW H) → Nat
  | [] => 0
  | x :: r => uptoBulkEntry x + uptoBulkEntries r
def uptoBulkEntry {H : Type} : Lit × DataW H → Nat
  | (.string bytes, d) => bytes.length + uptoBulk d + 1
  | (_, d) => uptoBulk d + 1
 end
def uptoSmall : (H : Type) → List (DataW H) → Bool := fun _ ds => decide (uptoBulkAll ds ≤ 1048576)
def OpenSpec.upto (s : _root_.Go.ChangeSpec) : _root_.Go.OpenSpec := { _root_.Go.OpenSpec.ofChange s with cond := some uptoSmall }

/-- 'tollhouselaw09.InvoiceEncodes', WHERE WHAT IT READS IS OF BULK AT MOST 1048576: true; the input reads as it did. -/
def invoiceEncodesUptoRow : OpenClaim := { program := "ytejnficfhoekiaa", sum := "0b7f912e6728e298fdc0e22ab2fdde194180a5b0428947c535eebef21cdb5c14", func := "tollhouse/tollhouselaw09.InvoiceEncodes", spec := "invoiceEncodes", inPlace := ["internal/bytealg.IndexByteString"], unfollowed := true, recurses := true, apart := false, narrowed := true }
def InvoiceEncodesUptoSaid : Prop := invoiceEncodesUptoRow.holds Try.pinned (OpenSpec.upto invoiceEncodesSpec)

/-- 'tollhouselaw09.InvoiceDigits', WHERE WHAT IT READS IS OF BULK AT MOST 1048576: true; the input reads as it did. -/
def invoiceDigitsUptoRow : OpenClaim := { program := "ytejnficfhoekiaa", sum := "0b7f912e6728e298fdc0e22ab2fdde194180a5b0428947c535eebef21cdb5c14", func := "tollhouse/tollhouselaw09.InvoiceDigits", spec := "invoiceDigits", inPlace := ["internal/bytealg.IndexByteString"], unfollowed := true, recurses := true, apart := false, narrowed := true }
def InvoiceDigitsUptoSaid : Prop := invoiceDigitsUptoRow.holds Try.pinned (OpenSpec.upto invoiceDigitsSpec)

/-- 'tollhouselaw09.InvoiceTurned', WHERE WHAT IT READS IS OF BULK AT MOST 1048576: true; the input reads as it did. -/
def invoiceTurnedUptoRow : OpenClaim := { program := "ytejnficfhoekiaa", sum := "0b7f912e6728e298fdc0e22ab2fdde194180a5b0428947c535eebef21cdb5c14", func := "tollhouse/tollhouselaw09.InvoiceTurned", spec := "invoiceTurned", inPlace := ["internal/bytealg.IndexByteString"], unfollowed := true, recurses := true, apart := false, narrowed := true }
def InvoiceTurnedUptoSaid : Prop := invoiceTurnedUptoRow.holds Try.pinned (OpenSpec.upto invoiceTurnedSpec)

end Rows
end Go.Proofs.Ytejnficfhoekiaa
