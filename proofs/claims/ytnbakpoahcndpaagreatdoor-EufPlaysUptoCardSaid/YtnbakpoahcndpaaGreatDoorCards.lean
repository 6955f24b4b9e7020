/-
  DERIVED. GIVEN WITH THE SEED: THE CARDS: each row of YtnbakpoahcndpaaGreatDoorRows.lean that lists a variable, with what it lists TIED to the program's text (the seventh form; the later family's looks); each row that meets fmt, with fmt's text TOLD by the authors' own Lean function (tested against real Go, not proved from fmt's source: count such statements apart). THE CARD IS WHAT COUNTS. Prove the row's statement (the work); the ties are given (YtnbakpoahcndpaaGreatDoorTie.lean); close each card by the builder's one call (the guide's Derived/Test/ToyasCard.lean, 'card_holds'). Laid BY PROGRAM, IN A SANDBOX (cutbox-door.mjs). By AI agents, Wed Nov 11 2026. No macro, syntax, notation, axiom, sorry.
-/
import Derived.Test.YtnbakpoahcndpaaGreatDoorRows
import GoSem.ClaimSeven
namespace Go.Proofs.YtnbakpoahcndpaaGreatDoor
namespace Rows

/-- THE TIED CARD OF 'arbiterlaw13.EufTells'. -/
def eufTellsCard : Claim7 := { stood := { row := eufTellsRow, standIns := [], harness := (true, "ba4bf5395a08d10d665ad24f2e17525cb29c645bde7faa74b4f5c0d2ec85b906"), looks := false }, kinds := [], alts := [], laidByText := true, laidKinds := [.data, .data, .data], laidTests := true, laidLooks := .later }
def EufTellsCardSaid : Prop := Claim7.holds Tryz.pinned (.plain (OpenSpec.ofChange eufTellsSpec)) eufTellsCard

/-- THE TIED CARD OF 'arbiterlaw13.EufWhys'. -/
def eufWhysCard : Claim7 := { stood := { row := eufWhysRow, standIns := [], harness := (true, "ba4bf5395a08d10d665ad24f2e17525cb29c645bde7faa74b4f5c0d2ec85b906"), looks := false }, kinds := [], alts := [], laidByText := true, laidKinds := [.data, .data, .data], laidTests := true, laidLooks := .later }
def EufWhysCardSaid : Prop := Claim7.holds Tryz.pinned (.plain (OpenSpec.ofChange eufWhysSpec)) eufWhysCard

/-- THE TIED CARD OF 'arbiterlaw13.EufProves'. -/
def eufProvesCard : Claim7 := { stood := { row := eufProvesRow, standIns := [], harness := (true, "ba4bf5395a08d10d665ad24f2e17525cb29c645bde7faa74b4f5c0d2ec85b906"), looks := false }, kinds := [], alts := [], laidByText := true, laidKinds := [.data, .data, .data], laidTests := true, laidLooks := .later }
def EufProvesCardSaid : Prop := Claim7.holds Tryz.pinned (.plain (OpenSpec.ofChange eufProvesSpec)) eufProvesCard

/-- THE TIED CARD OF 'arbiterlaw13.EufPlays'. -/
def eufPlaysCard : Claim7 := { stood := { row := eufPlaysRow, standIns := [], harness := (true, "ba4bf5395a08d10d665ad24f2e17525cb29c645bde7faa74b4f5c0d2ec85b906"), looks := false }, kinds := [], alts := [], laidByText := true, laidKinds := [.data, .data, .data], laidTests := true, laidLooks := .later }
def EufPlaysCardSaid : Prop := Claim7.holds Tryz.pinned (.plain (OpenSpec.ofChange eufPlaysSpec)) eufPlaysCard

/-- THE SECOND FORM's CARD OF 'arbiterlaw13.EufTells'. -/
def eufTellsUptoCard : Claim7 := { stood := { row := eufTellsUptoRow, standIns := [], harness := (true, "ba4bf5395a08d10d665ad24f2e17525cb29c645bde7faa74b4f5c0d2ec85b906"), looks := false }, kinds := [], alts := [], laidByText := true, laidKinds := [.data, .data, .data], laidTests := true, laidLooks := .later }
def EufTellsUptoCardSaid : Prop := Claim7.holds Tryz.pinned (.plain (OpenSpec.upto eufTellsSpec)) eufTellsUptoCard

/-- THE SECOND FORM's CARD OF 'arbiterlaw13.EufWhys'. -/
def eufWhysUptoCard : Claim7 := { stood := { row := eufWhysUptoRow, standIns := [], harness := (true, "ba4bf5395a08d10d665ad24f2e17525cb29c645bde7faa74b4f5c0d2ec85b906"), looks := false }, kinds := [], alts := [], laidByText := true, laidKinds := [.data, .data, .data], laidTests := true, laidLooks := .later }
def EufWhysUptoCardSaid : Prop := Claim7.holds Tryz.pinned (.plain (OpenSpec.upto eufWhysSpec)) eufWhysUptoCard

/-- THE SECOND FORM's CARD OF 'arbiterlaw13.EufProves'. -/
def eufProvesUptoCard : Claim7 := { stood := { row := eufProvesUptoRow, standIns := [], harness := (true, "ba4bf5395a08d10d665ad24f2e17525cb29c645bde7faa74b4f5c0d2ec85b906"), looks := false }, kinds := [], alts := [], laidByText := true, laidKinds := [.data, .data, .data], laidTests := true, laidLooks := .later }
def EufProvesUptoCardSaid : Prop := Claim7.holds Tryz.pinned (.plain (OpenSpec.upto eufProvesSpec)) eufProvesUptoCard

/-- THE SECOND FORM's CARD OF 'arbiterlaw13.EufPlays'. -/
def eufPlaysUptoCard : Claim7 := { stood := { row := eufPlaysUptoRow, standIns := [], harness := (true, "ba4bf5395a08d10d665ad24f2e17525cb29c645bde7faa74b4f5c0d2ec85b906"), looks := false }, kinds := [], alts := [], laidByText := true, laidKinds := [.data, .data, .data], laidTests := true, laidLooks := .later }
def EufPlaysUptoCardSaid : Prop := Claim7.holds Tryz.pinned (.plain (OpenSpec.upto eufPlaysSpec)) eufPlaysUptoCard
end Rows
end Go.Proofs.YtnbakpoahcndpaaGreatDoor
