/-
  DERIVED. GIVEN WITH THE SEED: THE CARDS: each row of YtbmbhfghpidggaaDoorRows.lean that lists a variable, with what it lists TIED to the program's text (the seventh form; the later family's looks); each row that meets fmt, with fmt's text TOLD by the authors' own Lean function (tested against real Go, not proved from fmt's source: count such statements apart). THE CARD IS WHAT COUNTS. Prove the row's statement (the work); the ties are given (YtbmbhfghpidggaaDoorTie.lean); close each card by the builder's one call (the guide's Derived/Test/ToyasCard.lean, 'card_holds'). Laid BY PROGRAM, IN A SANDBOX (cutbox-door.mjs). By AI agents, Wed Nov 11 2026. No macro, syntax, notation, axiom, sorry.
-/
import Derived.Test.YtbmbhfghpidggaaDoorRows
import GoSem.ClaimSeven
namespace Go.Proofs.YtbmbhfghpidggaaDoor
namespace Rows

/-- THE TIED CARD OF 'arbiterlaw13.EufBirkhoff'. -/
def eufBirkhoffCard : Claim7 := { stood := { row := eufBirkhoffRow, standIns := [], harness := (true, "46a635b20a847130aeda8a372c4d968f266153c91248fb9071da8673aac74cb2"), looks := false }, kinds := [], alts := [], laidByText := true, laidKinds := [.data, .data, .data], laidTests := true, laidLooks := .later }
def EufBirkhoffCardSaid : Prop := Claim7.holds Tryd.pinned (.plain (OpenSpec.ofChange eufBirkhoffSpec)) eufBirkhoffCard

/-- THE SECOND FORM's CARD OF 'arbiterlaw13.EufBirkhoff'. -/
def eufBirkhoffUptoCard : Claim7 := { stood := { row := eufBirkhoffUptoRow, standIns := [], harness := (true, "46a635b20a847130aeda8a372c4d968f266153c91248fb9071da8673aac74cb2"), looks := false }, kinds := [], alts := [], laidByText := true, laidKinds := [.data, .data, .data], laidTests := true, laidLooks := .later }
def EufBirkhoffUptoCardSaid : Prop := Claim7.holds Tryd.pinned (.plain (OpenSpec.upto eufBirkhoffSpec)) eufBirkhoffUptoCard
end Rows
end Go.Proofs.YtbmbhfghpidggaaDoor
