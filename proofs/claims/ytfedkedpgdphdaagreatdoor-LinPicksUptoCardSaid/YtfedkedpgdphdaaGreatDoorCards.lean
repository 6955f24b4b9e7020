/-
  DERIVED. GIVEN WITH THE SEED: THE CARDS: each row of YtfedkedpgdphdaaGreatDoorRows.lean that lists a variable, with what it lists TIED to the program's text (the seventh form; the later family's looks); each row that meets fmt, with fmt's text TOLD by the authors' own Lean function (tested against real Go, not proved from fmt's source: count such statements apart). THE CARD IS WHAT COUNTS. Prove the row's statement (the work); the ties are given (YtfedkedpgdphdaaGreatDoorTie.lean); close each card by the builder's one call (the guide's Derived/Test/ToyasCard.lean, 'card_holds'). Laid BY PROGRAM, IN A SANDBOX (cutbox-door.mjs). By AI agents, Wed Nov 11 2026. No macro, syntax, notation, axiom, sorry.
-/
import Derived.Test.YtfedkedpgdphdaaGreatDoorRows
import GoSem.ClaimSeven
namespace Go.Proofs.YtfedkedpgdphdaaGreatDoor
namespace Rows

/-- THE TIED CARD OF 'arbiterlaw2.LinPicks'. -/
def linPicksCard : Claim7 := { stood := { row := linPicksRow, standIns := [], harness := (true, "a1a7273733bdcec198970ab80ac4a93b31f7091e661240b059ef1448f65b8efb"), looks := false }, kinds := [], alts := [], laidByText := true, laidKinds := [.data, .pinned], laidTests := true, laidLooks := .later }
def LinPicksCardSaid : Prop := Claim7.holds Tryz.pinned (.plain (OpenSpec.ofChange linPicksSpec)) linPicksCard

/-- THE TIED CARD OF 'arbiterlaw2.LinValues'. -/
def linValuesCard : Claim7 := { stood := { row := linValuesRow, standIns := [], harness := (true, "a1a7273733bdcec198970ab80ac4a93b31f7091e661240b059ef1448f65b8efb"), looks := false }, kinds := [], alts := [], laidByText := true, laidKinds := [.data, .pinned], laidTests := true, laidLooks := .later }
def LinValuesCardSaid : Prop := Claim7.holds Tryz.pinned (.plain (OpenSpec.ofChange linValuesSpec)) linValuesCard

/-- THE TIED CARD OF 'arbiterlaw2.LinDeltas'. -/
def linDeltasCard : Claim7 := { stood := { row := linDeltasRow, standIns := [], harness := (true, "a1a7273733bdcec198970ab80ac4a93b31f7091e661240b059ef1448f65b8efb"), looks := false }, kinds := [], alts := [], laidByText := true, laidKinds := [.data, .pinned], laidTests := true, laidLooks := .later }
def LinDeltasCardSaid : Prop := Claim7.holds Tryz.pinned (.plain (OpenSpec.ofChange linDeltasSpec)) linDeltasCard

/-- THE TIED CARD OF 'arbiterlaw2.LinForms'. -/
def linFormsCard : Claim7 := { stood := { row := linFormsRow, standIns := [], harness := (true, "a1a7273733bdcec198970ab80ac4a93b31f7091e661240b059ef1448f65b8efb"), looks := false }, kinds := [], alts := [], laidByText := true, laidKinds := [.data, .pinned], laidTests := true, laidLooks := .later }
def LinFormsCardSaid : Prop := Claim7.holds Tryz.pinned (.plain (OpenSpec.ofChange linFormsSpec)) linFormsCard

/-- THE TIED CARD OF 'arbiterlaw2.LinAdds'. -/
def linAddsCard : Claim7 := { stood := { row := linAddsRow, standIns := [], harness := (true, "a1a7273733bdcec198970ab80ac4a93b31f7091e661240b059ef1448f65b8efb"), looks := false }, kinds := [], alts := [], laidByText := true, laidKinds := [.data, .pinned], laidTests := true, laidLooks := .later }
def LinAddsCardSaid : Prop := Claim7.holds Tryz.pinned (.plain (OpenSpec.ofChange linAddsSpec)) linAddsCard

/-- THE TIED CARD OF 'arbiterlaw2.LinTidies'. -/
def linTidiesCard : Claim7 := { stood := { row := linTidiesRow, standIns := [], harness := (true, "a1a7273733bdcec198970ab80ac4a93b31f7091e661240b059ef1448f65b8efb"), looks := false }, kinds := [], alts := [], laidByText := true, laidKinds := [.data, .pinned], laidTests := true, laidLooks := .later }
def LinTidiesCardSaid : Prop := Claim7.holds Tryz.pinned (.plain (OpenSpec.ofChange linTidiesSpec)) linTidiesCard

/-- THE TIED CARD OF 'arbiterlaw2.LinCombines'. -/
def linCombinesCard : Claim7 := { stood := { row := linCombinesRow, standIns := [], harness := (true, "a1a7273733bdcec198970ab80ac4a93b31f7091e661240b059ef1448f65b8efb"), looks := false }, kinds := [], alts := [], laidByText := true, laidKinds := [.data, .pinned], laidTests := true, laidLooks := .later }
def LinCombinesCardSaid : Prop := Claim7.holds Tryz.pinned (.plain (OpenSpec.ofChange linCombinesSpec)) linCombinesCard

/-- THE TIED CARD OF 'arbiterlaw2.LinSubsts'. -/
def linSubstsCard : Claim7 := { stood := { row := linSubstsRow, standIns := [], harness := (true, "a1a7273733bdcec198970ab80ac4a93b31f7091e661240b059ef1448f65b8efb"), looks := false }, kinds := [], alts := [], laidByText := true, laidKinds := [.data, .pinned], laidTests := true, laidLooks := .later }
def LinSubstsCardSaid : Prop := Claim7.holds Tryz.pinned (.plain (OpenSpec.ofChange linSubstsSpec)) linSubstsCard

/-- THE TIED CARD OF 'arbiterlaw2.LinMeans'. -/
def linMeansCard : Claim7 := { stood := { row := linMeansRow, standIns := [], harness := (true, "a1a7273733bdcec198970ab80ac4a93b31f7091e661240b059ef1448f65b8efb"), looks := false }, kinds := [], alts := [], laidByText := true, laidKinds := [.data, .pinned], laidTests := true, laidLooks := .later }
def LinMeansCardSaid : Prop := Claim7.holds Tryz.pinned (.plain (OpenSpec.ofChange linMeansSpec)) linMeansCard

/-- THE TIED CARD OF 'arbiterlaw2.LinSides'. -/
def linSidesCard : Claim7 := { stood := { row := linSidesRow, standIns := [], harness := (true, "a1a7273733bdcec198970ab80ac4a93b31f7091e661240b059ef1448f65b8efb"), looks := false }, kinds := [], alts := [], laidByText := true, laidKinds := [.data, .pinned], laidTests := true, laidLooks := .later }
def LinSidesCardSaid : Prop := Claim7.holds Tryz.pinned (.plain (OpenSpec.ofChange linSidesSpec)) linSidesCard

/-- THE TIED CARD OF 'arbiterlaw2.LinFresh'. -/
def linFreshCard : Claim7 := { stood := { row := linFreshRow, standIns := [], harness := (true, "a1a7273733bdcec198970ab80ac4a93b31f7091e661240b059ef1448f65b8efb"), looks := false }, kinds := [], alts := [], laidByText := true, laidKinds := [.data, .pinned], laidTests := true, laidLooks := .later }
def LinFreshCardSaid : Prop := Claim7.holds Tryz.pinned (.plain (OpenSpec.ofChange linFreshSpec)) linFreshCard

/-- THE SECOND FORM's CARD OF 'arbiterlaw2.LinPicks'. -/
def linPicksUptoCard : Claim7 := { stood := { row := linPicksUptoRow, standIns := [], harness := (true, "a1a7273733bdcec198970ab80ac4a93b31f7091e661240b059ef1448f65b8efb"), looks := false }, kinds := [], alts := [], laidByText := true, laidKinds := [.data, .pinned], laidTests := true, laidLooks := .later }
def LinPicksUptoCardSaid : Prop := Claim7.holds Tryz.pinned (.plain (OpenSpec.upto linPicksSpec)) linPicksUptoCard

/-- THE SECOND FORM's CARD OF 'arbiterlaw2.LinValues'. -/
def linValuesUptoCard : Claim7 := { stood := { row := linValuesUptoRow, standIns := [], harness := (true, "a1a7273733bdcec198970ab80ac4a93b31f7091e661240b059ef1448f65b8efb"), looks := false }, kinds := [], alts := [], laidByText := true, laidKinds := [.data, .pinned], laidTests := true, laidLooks := .later }
def LinValuesUptoCardSaid : Prop := Claim7.holds Tryz.pinned (.plain (OpenSpec.upto linValuesSpec)) linValuesUptoCard

/-- THE SECOND FORM's CARD OF 'arbiterlaw2.LinDeltas'. -/
def linDeltasUptoCard : Claim7 := { stood := { row := linDeltasUptoRow, standIns := [], harness := (true, "a1a7273733bdcec198970ab80ac4a93b31f7091e661240b059ef1448f65b8efb"), looks := false }, kinds := [], alts := [], laidByText := true, laidKinds := [.data, .pinned], laidTests := true, laidLooks := .later }
def LinDeltasUptoCardSaid : Prop := Claim7.holds Tryz.pinned (.plain (OpenSpec.upto linDeltasSpec)) linDeltasUptoCard

/-- THE SECOND FORM's CARD OF 'arbiterlaw2.LinForms'. -/
def linFormsUptoCard : Claim7 := { stood := { row := linFormsUptoRow, standIns := [], harness := (true, "a1a7273733bdcec198970ab80ac4a93b31f7091e661240b059ef1448f65b8efb"), looks := false }, kinds := [], alts := [], laidByText := true, laidKinds := [.data, .pinned], laidTests := true, laidLooks := .later }
def LinFormsUptoCardSaid : Prop := Claim7.holds Tryz.pinned (.plain (OpenSpec.upto linFormsSpec)) linFormsUptoCard

/-- THE SECOND FORM's CARD OF 'arbiterlaw2.LinAdds'. -/
def linAddsUptoCard : Claim7 := { stood := { row := linAddsUptoRow, standIns := [], harness := (true, "a1a7273733bdcec198970ab80ac4a93b31f7091e661240b059ef1448f65b8efb"), looks := false }, kinds := [], alts := [], laidByText := true, laidKinds := [.data, .pinned], laidTests := true, laidLooks := .later }
def LinAddsUptoCardSaid : Prop := Claim7.holds Tryz.pinned (.plain (OpenSpec.upto linAddsSpec)) linAddsUptoCard

/-- THE SECOND FORM's CARD OF 'arbiterlaw2.LinTidies'. -/
def linTidiesUptoCard : Claim7 := { stood := { row := linTidiesUptoRow, standIns := [], harness := (true, "a1a7273733bdcec198970ab80ac4a93b31f7091e661240b059ef1448f65b8efb"), looks := false }, kinds := [], alts := [], laidByText := true, laidKinds := [.data, .pinned], laidTests := true, laidLooks := .later }
def LinTidiesUptoCardSaid : Prop := Claim7.holds Tryz.pinned (.plain (OpenSpec.upto linTidiesSpec)) linTidiesUptoCard

/-- THE SECOND FORM's CARD OF 'arbiterlaw2.LinCombines'. -/
def linCombinesUptoCard : Claim7 := { stood := { row := linCombinesUptoRow, standIns := [], harness := (true, "a1a7273733bdcec198970ab80ac4a93b31f7091e661240b059ef1448f65b8efb"), looks := false }, kinds := [], alts := [], laidByText := true, laidKinds := [.data, .pinned], laidTests := true, laidLooks := .later }
def LinCombinesUptoCardSaid : Prop := Claim7.holds Tryz.pinned (.plain (OpenSpec.upto linCombinesSpec)) linCombinesUptoCard

/-- THE SECOND FORM's CARD OF 'arbiterlaw2.LinSubsts'. -/
def linSubstsUptoCard : Claim7 := { stood := { row := linSubstsUptoRow, standIns := [], harness := (true, "a1a7273733bdcec198970ab80ac4a93b31f7091e661240b059ef1448f65b8efb"), looks := false }, kinds := [], alts := [], laidByText := true, laidKinds := [.data, .pinned], laidTests := true, laidLooks := .later }
def LinSubstsUptoCardSaid : Prop := Claim7.holds Tryz.pinned (.plain (OpenSpec.upto linSubstsSpec)) linSubstsUptoCard

/-- THE SECOND FORM's CARD OF 'arbiterlaw2.LinMeans'. -/
def linMeansUptoCard : Claim7 := { stood := { row := linMeansUptoRow, standIns := [], harness := (true, "a1a7273733bdcec198970ab80ac4a93b31f7091e661240b059ef1448f65b8efb"), looks := false }, kinds := [], alts := [], laidByText := true, laidKinds := [.data, .pinned], laidTests := true, laidLooks := .later }
def LinMeansUptoCardSaid : Prop := Claim7.holds Tryz.pinned (.plain (OpenSpec.upto linMeansSpec)) linMeansUptoCard

/-- THE SECOND FORM's CARD OF 'arbiterlaw2.LinSides'. -/
def linSidesUptoCard : Claim7 := { stood := { row := linSidesUptoRow, standIns := [], harness := (true, "a1a7273733bdcec198970ab80ac4a93b31f7091e661240b059ef1448f65b8efb"), looks := false }, kinds := [], alts := [], laidByText := true, laidKinds := [.data, .pinned], laidTests := true, laidLooks := .later }
def LinSidesUptoCardSaid : Prop := Claim7.holds Tryz.pinned (.plain (OpenSpec.upto linSidesSpec)) linSidesUptoCard

/-- THE SECOND FORM's CARD OF 'arbiterlaw2.LinFresh'. -/
def linFreshUptoCard : Claim7 := { stood := { row := linFreshUptoRow, standIns := [], harness := (true, "a1a7273733bdcec198970ab80ac4a93b31f7091e661240b059ef1448f65b8efb"), looks := false }, kinds := [], alts := [], laidByText := true, laidKinds := [.data, .pinned], laidTests := true, laidLooks := .later }
def LinFreshUptoCardSaid : Prop := Claim7.holds Tryz.pinned (.plain (OpenSpec.upto linFreshSpec)) linFreshUptoCard
end Rows
end Go.Proofs.YtfedkedpgdphdaaGreatDoor
