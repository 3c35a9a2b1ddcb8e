/-
  DERIVED. GIVEN WITH THE SEED: THE CARDS: each row of YtkihcmlmcgokhaaDoorRows.lean that lists a variable, with what it lists TIED to the program's text (the seventh form; the later family's looks); each row that meets fmt, with fmt's text TOLD by the authors' own Lean function (tested against real Go, not proved from fmt's source: count such statements apart). THE CARD IS WHAT COUNTS. Prove the row's statement (the work); the ties are given (YtkihcmlmcgokhaaDoorTie.lean); close each card by the builder's one call (the guide's Derived/Test/ToyasCard.lean, 'card_holds'). Laid BY PROGRAM, IN A SANDBOX (cutbox-door.mjs). By AI agents, Wed Nov 11 2026. No macro, syntax, notation, axiom, sorry.
-/
import Derived.Test.YtkihcmlmcgokhaaDoorRows
import GoSem.ClaimSeven
namespace Go.Proofs.YtkihcmlmcgokhaaDoor
namespace Rows

/-- THE TIED CARD OF 'tollhouselaw05.SecretsMakes'. -/
def secretsMakesCard : Claim7 := { stood := { row := secretsMakesRow, standIns := [], harness := (true, "c99191d1ba619c2d3d73ca961e4d48148544762c0701c28df24f951b355b7a6d"), looks := false }, kinds := [], alts := [], laidByText := true, laidKinds := [.data, .data], laidTests := true, laidLooks := .later }
def SecretsMakesCardSaid : Prop := Claim7.holds Tryd.pinned (.plain (OpenSpec.ofChange secretsMakesSpec)) secretsMakesCard

/-- THE TIED CARD OF 'tollhouselaw05.SecretsTold'. -/
def secretsToldCard : Claim7 := { stood := { row := secretsToldRow, standIns := [], harness := (true, "c99191d1ba619c2d3d73ca961e4d48148544762c0701c28df24f951b355b7a6d"), looks := false }, kinds := [], alts := [], laidByText := true, laidKinds := [.data, .data], laidTests := true, laidLooks := .later }
def SecretsToldCardSaid : Prop := Claim7.holds Tryd.pinned (.plain (OpenSpec.ofChange secretsToldSpec)) secretsToldCard

/-- THE TIED CARD OF 'tollhouselaw05.SecretsAt'. -/
def secretsAtCard : Claim7 := { stood := { row := secretsAtRow, standIns := [], harness := (true, "c99191d1ba619c2d3d73ca961e4d48148544762c0701c28df24f951b355b7a6d"), looks := false }, kinds := [], alts := [], laidByText := true, laidKinds := [.data, .data], laidTests := true, laidLooks := .later }
def SecretsAtCardSaid : Prop := Claim7.holds Tryd.pinned (.plain (OpenSpec.ofChange secretsAtSpec)) secretsAtCard

/-- THE TIED CARD OF 'tollhouselaw05.SecretsShelf'. -/
def secretsShelfCard : Claim7 := { stood := { row := secretsShelfRow, standIns := [], harness := (true, "c99191d1ba619c2d3d73ca961e4d48148544762c0701c28df24f951b355b7a6d"), looks := false }, kinds := [], alts := [], laidByText := true, laidKinds := [.data, .data], laidTests := true, laidLooks := .later }
def SecretsShelfCardSaid : Prop := Claim7.holds Tryd.pinned (.plain (OpenSpec.ofChange secretsShelfSpec)) secretsShelfCard

/-- THE TIED CARD OF 'tollhouselaw05.SecretsNobody'. -/
def secretsNobodyCard : Claim7 := { stood := { row := secretsNobodyRow, standIns := [], harness := (true, "c99191d1ba619c2d3d73ca961e4d48148544762c0701c28df24f951b355b7a6d"), looks := false }, kinds := [], alts := [], laidByText := true, laidKinds := [.data, .data], laidTests := true, laidLooks := .later }
def SecretsNobodyCardSaid : Prop := Claim7.holds Tryd.pinned (.plain (OpenSpec.ofChange secretsNobodySpec)) secretsNobodyCard

/-- THE TIED CARD OF 'tollhouselaw05.SecretsBits'. -/
def secretsBitsCard : Claim7 := { stood := { row := secretsBitsRow, standIns := [], harness := (true, "c99191d1ba619c2d3d73ca961e4d48148544762c0701c28df24f951b355b7a6d"), looks := false }, kinds := [], alts := [], laidByText := true, laidKinds := [.data, .data], laidTests := true, laidLooks := .later }
def SecretsBitsCardSaid : Prop := Claim7.holds Tryd.pinned (.plain (OpenSpec.ofChange secretsBitsSpec)) secretsBitsCard

/-- THE SECOND FORM's CARD OF 'tollhouselaw05.SecretsMakes'. -/
def secretsMakesUptoCard : Claim7 := { stood := { row := secretsMakesUptoRow, standIns := [], harness := (true, "c99191d1ba619c2d3d73ca961e4d48148544762c0701c28df24f951b355b7a6d"), looks := false }, kinds := [], alts := [], laidByText := true, laidKinds := [.data, .data], laidTests := true, laidLooks := .later }
def SecretsMakesUptoCardSaid : Prop := Claim7.holds Tryd.pinned (.plain (OpenSpec.upto secretsMakesSpec)) secretsMakesUptoCard

/-- THE SECOND FORM's CARD OF 'tollhouselaw05.SecretsTold'. -/
def secretsToldUptoCard : Claim7 := { stood := { row := secretsToldUptoRow, standIns := [], harness := (true, "c99191d1ba619c2d3d73ca961e4d48148544762c0701c28df24f951b355b7a6d"), looks := false }, kinds := [], alts := [], laidByText := true, laidKinds := [.data, .data], laidTests := true, laidLooks := .later }
def SecretsToldUptoCardSaid : Prop := Claim7.holds Tryd.pinned (.plain (OpenSpec.upto secretsToldSpec)) secretsToldUptoCard

/-- THE SECOND FORM's CARD OF 'tollhouselaw05.SecretsAt'. -/
def secretsAtUptoCard : Claim7 := { stood := { row := secretsAtUptoRow, standIns := [], harness := (true, "c99191d1ba619c2d3d73ca961e4d48148544762c0701c28df24f951b355b7a6d"), looks := false }, kinds := [], alts := [], laidByText := true, laidKinds := [.data, .data], laidTests := true, laidLooks := .later }
def SecretsAtUptoCardSaid : Prop := Claim7.holds Tryd.pinned (.plain (OpenSpec.upto secretsAtSpec)) secretsAtUptoCard

/-- THE SECOND FORM's CARD OF 'tollhouselaw05.SecretsShelf'. -/
def secretsShelfUptoCard : Claim7 := { stood := { row := secretsShelfUptoRow, standIns := [], harness := (true, "c99191d1ba619c2d3d73ca961e4d48148544762c0701c28df24f951b355b7a6d"), looks := false }, kinds := [], alts := [], laidByText := true, laidKinds := [.data, .data], laidTests := true, laidLooks := .later }
def SecretsShelfUptoCardSaid : Prop := Claim7.holds Tryd.pinned (.plain (OpenSpec.upto secretsShelfSpec)) secretsShelfUptoCard

/-- THE SECOND FORM's CARD OF 'tollhouselaw05.SecretsNobody'. -/
def secretsNobodyUptoCard : Claim7 := { stood := { row := secretsNobodyUptoRow, standIns := [], harness := (true, "c99191d1ba619c2d3d73ca961e4d48148544762c0701c28df24f951b355b7a6d"), looks := false }, kinds := [], alts := [], laidByText := true, laidKinds := [.data, .data], laidTests := true, laidLooks := .later }
def SecretsNobodyUptoCardSaid : Prop := Claim7.holds Tryd.pinned (.plain (OpenSpec.upto secretsNobodySpec)) secretsNobodyUptoCard

/-- THE SECOND FORM's CARD OF 'tollhouselaw05.SecretsBits'. -/
def secretsBitsUptoCard : Claim7 := { stood := { row := secretsBitsUptoRow, standIns := [], harness := (true, "c99191d1ba619c2d3d73ca961e4d48148544762c0701c28df24f951b355b7a6d"), looks := false }, kinds := [], alts := [], laidByText := true, laidKinds := [.data, .data], laidTests := true, laidLooks := .later }
def SecretsBitsUptoCardSaid : Prop := Claim7.holds Tryd.pinned (.plain (OpenSpec.upto secretsBitsSpec)) secretsBitsUptoCard
end Rows
end Go.Proofs.YtkihcmlmcgokhaaDoor
