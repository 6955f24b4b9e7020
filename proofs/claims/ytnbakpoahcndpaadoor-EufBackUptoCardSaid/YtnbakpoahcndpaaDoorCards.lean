/-
  DERIVED. GIVEN WITH THE SEED: THE CARDS: each row of YtnbakpoahcndpaaDoorRows.lean that lists a variable, with what it lists TIED to the program's text (the seventh form; the later family's looks); each row that meets fmt, with fmt's text TOLD by the authors' own Lean function (tested against real Go, not proved from fmt's source: count such statements apart). THE CARD IS WHAT COUNTS. Prove the row's statement (the work); the ties are given (YtnbakpoahcndpaaDoorTie.lean); close each card by the builder's one call (the guide's Derived/Test/ToyasCard.lean, 'card_holds'). Laid BY PROGRAM, IN A SANDBOX (cutbox-door.mjs). By AI agents, Wed Nov 11 2026. No macro, syntax, notation, axiom, sorry.
-/
import Derived.Test.YtnbakpoahcndpaaDoorRows
import GoSem.ClaimSeven
namespace Go.Proofs.YtnbakpoahcndpaaDoor
namespace Rows

/-- THE TIED CARD OF 'arbiterlaw13.EufModel'. -/
def eufModelCard : Claim7 := { stood := { row := eufModelRow, standIns := [], harness := (true, "8ee58902e91383d29922060b28356f6021da699c622987ca226bb845fb7e774b"), looks := false }, kinds := [], alts := [], laidByText := true, laidKinds := [.data, .data, .data], laidTests := true, laidLooks := .later }
def EufModelCardSaid : Prop := Claim7.holds Tryd.pinned (.plain (OpenSpec.ofChange eufModelSpec)) eufModelCard

/-- THE TIED CARD OF 'arbiterlaw13.EufBack'. -/
def eufBackCard : Claim7 := { stood := { row := eufBackRow, standIns := [], harness := (true, "8ee58902e91383d29922060b28356f6021da699c622987ca226bb845fb7e774b"), looks := false }, kinds := [], alts := [], laidByText := true, laidKinds := [.data, .data, .data], laidTests := true, laidLooks := .later }
def EufBackCardSaid : Prop := Claim7.holds Tryd.pinned (.plain (OpenSpec.ofChange eufBackSpec)) eufBackCard

/-- THE TIED CARD OF 'arbiterlaw13.EufFresh'. -/
def eufFreshCard : Claim7 := { stood := { row := eufFreshRow, standIns := [], harness := (true, "8ee58902e91383d29922060b28356f6021da699c622987ca226bb845fb7e774b"), looks := false }, kinds := [], alts := [], laidByText := true, laidKinds := [.data, .data, .data], laidTests := true, laidLooks := .later }
def EufFreshCardSaid : Prop := Claim7.holds Tryd.pinned (.plain (OpenSpec.ofChange eufFreshSpec)) eufFreshCard

/-- THE SECOND FORM's CARD OF 'arbiterlaw13.EufModel'. -/
def eufModelUptoCard : Claim7 := { stood := { row := eufModelUptoRow, standIns := [], harness := (true, "8ee58902e91383d29922060b28356f6021da699c622987ca226bb845fb7e774b"), looks := false }, kinds := [], alts := [], laidByText := true, laidKinds := [.data, .data, .data], laidTests := true, laidLooks := .later }
def EufModelUptoCardSaid : Prop := Claim7.holds Tryd.pinned (.plain (OpenSpec.upto eufModelSpec)) eufModelUptoCard

/-- THE SECOND FORM's CARD OF 'arbiterlaw13.EufBack'. -/
def eufBackUptoCard : Claim7 := { stood := { row := eufBackUptoRow, standIns := [], harness := (true, "8ee58902e91383d29922060b28356f6021da699c622987ca226bb845fb7e774b"), looks := false }, kinds := [], alts := [], laidByText := true, laidKinds := [.data, .data, .data], laidTests := true, laidLooks := .later }
def EufBackUptoCardSaid : Prop := Claim7.holds Tryd.pinned (.plain (OpenSpec.upto eufBackSpec)) eufBackUptoCard

/-- THE SECOND FORM's CARD OF 'arbiterlaw13.EufFresh'. -/
def eufFreshUptoCard : Claim7 := { stood := { row := eufFreshUptoRow, standIns := [], harness := (true, "8ee58902e91383d29922060b28356f6021da699c622987ca226bb845fb7e774b"), looks := false }, kinds := [], alts := [], laidByText := true, laidKinds := [.data, .data, .data], laidTests := true, laidLooks := .later }
def EufFreshUptoCardSaid : Prop := Claim7.holds Tryd.pinned (.plain (OpenSpec.upto eufFreshSpec)) eufFreshUptoCard
end Rows
end Go.Proofs.YtnbakpoahcndpaaDoor
