/-
  NARROWER THAN 'FOR EVERY INPUT', by the rows' own cells (each row's printed sentence says how): LinPicks: laid · LinValues: laid · LinDeltas: laid · LinForms: laid · LinAdds: laid · LinTidies: laid · LinCombines: laid · LinSubsts: laid · LinMeans: laid · LinSides: laid · LinFresh: laid.
  DERIVED. THE GIVEN ROWS OF THIS SEAT. 11 by the template 'for every input the law returns true; each argument reads behind the call as it read before'; 0 by the template 'total and deterministic' (their statements: YtfedkedpgdphdaaGreatDoorTotals.lean).
  GIVEN WITH THE SEED: the statements are not yours to turn. If you find one false, say at which input.
  Laid BY PROGRAM, IN A SANDBOX (cutbox-rows.mjs): the forced cells as the released guide's own fill.sh prints them over the translation f86e7600fc06a7fa… (all of the seat's roots in one cut). By AI agents, Wed Nov 11 2026. No macro, syntax, notation, axiom, sorry.
-/
import Derived.Test.YtfedkedpgdphdaaGreatDoorChecked
import GoSem.PinnedTables
import GoSem.Claim
import GoSem.ClaimJoined
import GoSem.ClaimMapViews
import Derived.JoinedTies
import Derived.KernelRfl
namespace Go.Proofs.YtfedkedpgdphdaaGreatDoor
/- THE CELL 'sum', in the pinned program and in every row, IS THE sha256 OF THE DUMP (.gsa) THAT YtfedkedpgdphdaaGreatDoorProg.lean LOADS. Nothing in Lean hashes anything: it is a label: what it is worth is what the hold of that sum in a sandbox is worth. -/
noncomputable def Tryz.pinned : Pinned := { name := "ytfedkedpgdphdaagreatdoor", sum := "f86e7600fc06a7faaa0cdb7ca0f315b20e3231b448bb98a9fad9694587b2f95e", checked := Tryz.checked }
namespace Rows
def none {H : Type} : Left H := { results := [], args := [] }

/- WHAT THE LISTED PACKAGE-LEVEL VARIABLES READ AS WHEN THE CALL BEGINS. Each datum BY PROGRAM (the guide's laid-datum.mjs) off the statement by which the dump's own 'gosem.cut.vars' lays the variable. In a bare row this is a premise. The card (YtfedkedpgdphdaaGreatDoorCards.lean) ties it to the program's text. -/
def laid_unicode_utf8_acceptRanges {H : Type} : DataW H := .agg [.agg [.lit (.int .u8 128), .lit (.int .u8 191)], .agg [.lit (.int .u8 160), .lit (.int .u8 191)], .agg [.lit (.int .u8 128), .lit (.int .u8 159)], .agg [.lit (.int .u8 144), .lit (.int .u8 191)], .agg [.lit (.int .u8 128), .lit (.int .u8 143)], .agg [.lit (.int .u8 0), .lit (.int .u8 0)], .agg [.lit (.int .u8 0), .lit (.int .u8 0)], .agg [.lit (.int .u8 0), .lit (.int .u8 0)], .agg [.lit (.int .u8 0), .lit (.int .u8 0)], .agg [.lit (.int .u8 0), .lit (.int .u8 0)], .agg [.lit (.int .u8 0), .lit (.int .u8 0)], .agg [.lit (.int .u8 0), .lit (.int .u8 0)], .agg [.lit (.int .u8 0), .lit (.int .u8 0)], .agg [.lit (.int .u8 0), .lit (.int .u8 0)], .agg [.lit (.int .u8 0), .lit (.int .u8 0)], .agg [.lit (.int .u8 0), .lit (.int .u8 0)]]
/-- One of Go's own tables, pinned by name: the form's constant. -/
def laid_unicode_utf8_first : DataW Unit := Go.Pinned.utf8First

/-- 'arbiterlaw2.LinPicks': WHATEVER THE INPUT: true; the input reads as it did. -/
def linPicksSpec : ChangeSpec := { name := "linPicks", fn := fun _ => fun
  | [d] => { results := [.lit (.bool true)], args := [d] }
  | _ => none }
def linPicksRow : OpenClaim := { program := "ytfedkedpgdphdaagreatdoor", sum := "f86e7600fc06a7faaa0cdb7ca0f315b20e3231b448bb98a9fad9694587b2f95e", func := "arbiter/arbiterlaw2.LinPicks", spec := "linPicks", inPlace := ["internal/bytealg.IndexByteString", "internal/bytealg.IndexString"], unfollowed := true, recurses := true, named := ["internal/bytealg.MaxLen", "unicode/utf8.first", "unicode/utf8.acceptRanges"], apart := false, laid := [("unicode/utf8.acceptRanges", laid_unicode_utf8_acceptRanges), ("unicode/utf8.first", laid_unicode_utf8_first)] }
def LinPicksSaid : Prop := linPicksRow.holds Tryz.pinned (OpenSpec.ofChange linPicksSpec)

/-- ITS FALSE NEIGHBOUR: 'it returns false'. Refute it at one input. -/
def linPicksWrong : ChangeSpec := { name := "linPicks", fn := fun _ => fun
  | [d] => { results := [.lit (.bool false)], args := [d] }
  | _ => none }
def LinPicksWrongFalsely : Prop := linPicksRow.holds Tryz.pinned (OpenSpec.ofChange linPicksWrong)

/-- 'arbiterlaw2.LinValues': WHATEVER THE INPUT: true; the input reads as it did. -/
def linValuesSpec : ChangeSpec := { name := "linValues", fn := fun _ => fun
  | [d1, d2, d3] => { results := [.lit (.bool true)], args := [d1, d2, d3] }
  | _ => none }
def linValuesRow : OpenClaim := { program := "ytfedkedpgdphdaagreatdoor", sum := "f86e7600fc06a7faaa0cdb7ca0f315b20e3231b448bb98a9fad9694587b2f95e", func := "arbiter/arbiterlaw2.LinValues", spec := "linValues", inPlace := ["internal/bytealg.IndexByteString", "internal/bytealg.IndexString"], unfollowed := true, recurses := true, named := ["internal/bytealg.MaxLen", "unicode/utf8.first", "unicode/utf8.acceptRanges"], apart := false, laid := [("unicode/utf8.acceptRanges", laid_unicode_utf8_acceptRanges), ("unicode/utf8.first", laid_unicode_utf8_first)] }
def LinValuesSaid : Prop := linValuesRow.holds Tryz.pinned (OpenSpec.ofChange linValuesSpec)

/-- ITS FALSE NEIGHBOUR: 'it returns false'. Refute it at one input. -/
def linValuesWrong : ChangeSpec := { name := "linValues", fn := fun _ => fun
  | [d1, d2, d3] => { results := [.lit (.bool false)], args := [d1, d2, d3] }
  | _ => none }
def LinValuesWrongFalsely : Prop := linValuesRow.holds Tryz.pinned (OpenSpec.ofChange linValuesWrong)

/-- 'arbiterlaw2.LinDeltas': WHATEVER THE INPUT: true; the input reads as it did. -/
def linDeltasSpec : ChangeSpec := { name := "linDeltas", fn := fun _ => fun
  | [d1, d2, d3, d4, d5] => { results := [.lit (.bool true)], args := [d1, d2, d3, d4, d5] }
  | _ => none }
def linDeltasRow : OpenClaim := { program := "ytfedkedpgdphdaagreatdoor", sum := "f86e7600fc06a7faaa0cdb7ca0f315b20e3231b448bb98a9fad9694587b2f95e", func := "arbiter/arbiterlaw2.LinDeltas", spec := "linDeltas", inPlace := ["internal/bytealg.IndexByteString", "internal/bytealg.IndexString"], unfollowed := true, recurses := true, named := ["internal/bytealg.MaxLen", "unicode/utf8.first", "unicode/utf8.acceptRanges"], apart := false, laid := [("unicode/utf8.acceptRanges", laid_unicode_utf8_acceptRanges), ("unicode/utf8.first", laid_unicode_utf8_first)] }
def LinDeltasSaid : Prop := linDeltasRow.holds Tryz.pinned (OpenSpec.ofChange linDeltasSpec)

/-- ITS FALSE NEIGHBOUR: 'it returns false'. Refute it at one input. -/
def linDeltasWrong : ChangeSpec := { name := "linDeltas", fn := fun _ => fun
  | [d1, d2, d3, d4, d5] => { results := [.lit (.bool false)], args := [d1, d2, d3, d4, d5] }
  | _ => none }
def LinDeltasWrongFalsely : Prop := linDeltasRow.holds Tryz.pinned (OpenSpec.ofChange linDeltasWrong)

/-- 'arbiterlaw2.LinForms': WHATEVER THE INPUT: true; the input reads as it did. -/
def linFormsSpec : ChangeSpec := { name := "linForms", fn := fun _ => fun
  | [d1, d2] => { results := [.lit (.bool true)], args := [d1, d2] }
  | _ => none }
def linFormsRow : OpenClaim := { program := "ytfedkedpgdphdaagreatdoor", sum := "f86e7600fc06a7faaa0cdb7ca0f315b20e3231b448bb98a9fad9694587b2f95e", func := "arbiter/arbiterlaw2.LinForms", spec := "linForms", inPlace := ["internal/bytealg.IndexByteString", "internal/bytealg.IndexString"], unfollowed := true, recurses := true, named := ["internal/bytealg.MaxLen", "unicode/utf8.first", "unicode/utf8.acceptRanges"], apart := false, laid := [("unicode/utf8.acceptRanges", laid_unicode_utf8_acceptRanges), ("unicode/utf8.first", laid_unicode_utf8_first)] }
def LinFormsSaid : Prop := linFormsRow.holds Tryz.pinned (OpenSpec.ofChange linFormsSpec)

/-- ITS FALSE NEIGHBOUR: 'it returns false'. Refute it at one input. -/
def linFormsWrong : ChangeSpec := { name := "linForms", fn := fun _ => fun
  | [d1, d2] => { results := [.lit (.bool false)], args := [d1, d2] }
  | _ => none }
def LinFormsWrongFalsely : Prop := linFormsRow.holds Tryz.pinned (OpenSpec.ofChange linFormsWrong)

/-- 'arbiterlaw2.LinAdds': WHATEVER THE INPUT: true; the input reads as it did. -/
def linAddsSpec : ChangeSpec := { name := "linAdds", fn := fun _ => fun
  | [d1, d2, d3] => { results := [.lit (.bool true)], args := [d1, d2, d3] }
  | _ => none }
def linAddsRow : OpenClaim := { program := "ytfedkedpgdphdaagreatdoor", sum := "f86e7600fc06a7faaa0cdb7ca0f315b20e3231b448bb98a9fad9694587b2f95e", func := "arbiter/arbiterlaw2.LinAdds", spec := "linAdds", inPlace := ["internal/bytealg.IndexByteString", "internal/bytealg.IndexString"], unfollowed := true, recurses := true, named := ["internal/bytealg.MaxLen", "unicode/utf8.first", "unicode/utf8.acceptRanges"], apart := false, laid := [("unicode/utf8.acceptRanges", laid_unicode_utf8_acceptRanges), ("unicode/utf8.first", laid_unicode_utf8_first)] }
def LinAddsSaid : Prop := linAddsRow.holds Tryz.pinned (OpenSpec.ofChange linAddsSpec)

/-- ITS FALSE NEIGHBOUR: 'it returns false'. Refute it at one input. -/
def linAddsWrong : ChangeSpec := { name := "linAdds", fn := fun _ => fun
  | [d1, d2, d3] => { results := [.lit (.bool false)], args := [d1, d2, d3] }
  | _ => none }
def LinAddsWrongFalsely : Prop := linAddsRow.holds Tryz.pinned (OpenSpec.ofChange linAddsWrong)

/-- 'arbiterlaw2.LinTidies': WHATEVER THE INPUT: true; the input reads as it did. -/
def linTidiesSpec : ChangeSpec := { name := "linTidies", fn := fun _ => fun
  | [d] => { results := [.lit (.bool true)], args := [d] }
  | _ => none }
def linTidiesRow : OpenClaim := { program := "ytfedkedpgdphdaagreatdoor", sum := "f86e7600fc06a7faaa0cdb7ca0f315b20e3231b448bb98a9fad9694587b2f95e", func := "arbiter/arbiterlaw2.LinTidies", spec := "linTidies", inPlace := ["internal/bytealg.IndexByteString", "internal/bytealg.IndexString"], unfollowed := true, recurses := true, named := ["internal/bytealg.MaxLen", "unicode/utf8.first", "unicode/utf8.acceptRanges"], apart := false, laid := [("unicode/utf8.acceptRanges", laid_unicode_utf8_acceptRanges), ("unicode/utf8.first", laid_unicode_utf8_first)] }
def LinTidiesSaid : Prop := linTidiesRow.holds Tryz.pinned (OpenSpec.ofChange linTidiesSpec)

/-- ITS FALSE NEIGHBOUR: 'it returns false'. Refute it at one input. -/
def linTidiesWrong : ChangeSpec := { name := "linTidies", fn := fun _ => fun
  | [d] => { results := [.lit (.bool false)], args := [d] }
  | _ => none }
def LinTidiesWrongFalsely : Prop := linTidiesRow.holds Tryz.pinned (OpenSpec.ofChange linTidiesWrong)

/-- 'arbiterlaw2.LinCombines': WHATEVER THE INPUT: true; the input reads as it did. -/
def linCombinesSpec : ChangeSpec := { name := "linCombines", fn := fun _ => fun
  | [d1, d2] => { results := [.lit (.bool true)], args := [d1, d2] }
  | _ => none }
def linCombinesRow : OpenClaim := { program := "ytfedkedpgdphdaagreatdoor", sum := "f86e7600fc06a7faaa0cdb7ca0f315b20e3231b448bb98a9fad9694587b2f95e", func := "arbiter/arbiterlaw2.LinCombines", spec := "linCombines", inPlace := ["internal/bytealg.IndexByteString", "internal/bytealg.IndexString"], unfollowed := true, recurses := true, named := ["internal/bytealg.MaxLen", "unicode/utf8.first", "unicode/utf8.acceptRanges"], apart := false, laid := [("unicode/utf8.acceptRanges", laid_unicode_utf8_acceptRanges), ("unicode/utf8.first", laid_unicode_utf8_first)] }
def LinCombinesSaid : Prop := linCombinesRow.holds Tryz.pinned (OpenSpec.ofChange linCombinesSpec)

/-- ITS FALSE NEIGHBOUR: 'it returns false'. Refute it at one input. -/
def linCombinesWrong : ChangeSpec := { name := "linCombines", fn := fun _ => fun
  | [d1, d2] => { results := [.lit (.bool false)], args := [d1, d2] }
  | _ => none }
def LinCombinesWrongFalsely : Prop := linCombinesRow.holds Tryz.pinned (OpenSpec.ofChange linCombinesWrong)

/-- 'arbiterlaw2.LinSubsts': WHATEVER THE INPUT: true; the input reads as it did. -/
def linSubstsSpec : ChangeSpec := { name := "linSubsts", fn := fun _ => fun
  | [d1, d2, d3] => { results := [.lit (.bool true)], args := [d1, d2, d3] }
  | _ => none }
def linSubstsRow : OpenClaim := { program := "ytfedkedpgdphdaagreatdoor", sum := "f86e7600fc06a7faaa0cdb7ca0f315b20e3231b448bb98a9fad9694587b2f95e", func := "arbiter/arbiterlaw2.LinSubsts", spec := "linSubsts", inPlace := ["internal/bytealg.IndexByteString", "internal/bytealg.IndexString"], unfollowed := true, recurses := true, named := ["internal/bytealg.MaxLen", "unicode/utf8.first", "unicode/utf8.acceptRanges"], apart := false, laid := [("unicode/utf8.acceptRanges", laid_unicode_utf8_acceptRanges), ("unicode/utf8.first", laid_unicode_utf8_first)] }
def LinSubstsSaid : Prop := linSubstsRow.holds Tryz.pinned (OpenSpec.ofChange linSubstsSpec)

/-- ITS FALSE NEIGHBOUR: 'it returns false'. Refute it at one input. -/
def linSubstsWrong : ChangeSpec := { name := "linSubsts", fn := fun _ => fun
  | [d1, d2, d3] => { results := [.lit (.bool false)], args := [d1, d2, d3] }
  | _ => none }
def LinSubstsWrongFalsely : Prop := linSubstsRow.holds Tryz.pinned (OpenSpec.ofChange linSubstsWrong)

/-- 'arbiterlaw2.LinMeans': WHATEVER THE INPUT: true; the input reads as it did. -/
def linMeansSpec : ChangeSpec := { name := "linMeans", fn := fun _ => fun
  | [d1, d2, d3, d4, d5] => { results := [.lit (.bool true)], args := [d1, d2, d3, d4, d5] }
  | _ => none }
def linMeansRow : OpenClaim := { program := "ytfedkedpgdphdaagreatdoor", sum := "f86e7600fc06a7faaa0cdb7ca0f315b20e3231b448bb98a9fad9694587b2f95e", func := "arbiter/arbiterlaw2.LinMeans", spec := "linMeans", inPlace := ["internal/bytealg.IndexByteString", "internal/bytealg.IndexString"], unfollowed := true, recurses := true, named := ["internal/bytealg.MaxLen", "unicode/utf8.first", "unicode/utf8.acceptRanges"], apart := false, laid := [("unicode/utf8.acceptRanges", laid_unicode_utf8_acceptRanges), ("unicode/utf8.first", laid_unicode_utf8_first)] }
def LinMeansSaid : Prop := linMeansRow.holds Tryz.pinned (OpenSpec.ofChange linMeansSpec)

/-- ITS FALSE NEIGHBOUR: 'it returns false'. Refute it at one input. -/
def linMeansWrong : ChangeSpec := { name := "linMeans", fn := fun _ => fun
  | [d1, d2, d3, d4, d5] => { results := [.lit (.bool false)], args := [d1, d2, d3, d4, d5] }
  | _ => none }
def LinMeansWrongFalsely : Prop := linMeansRow.holds Tryz.pinned (OpenSpec.ofChange linMeansWrong)

/-- 'arbiterlaw2.LinSides': WHATEVER THE INPUT: true; the input reads as it did. -/
def linSidesSpec : ChangeSpec := { name := "linSides", fn := fun _ => fun
  | [d1, d2, d3] => { results := [.lit (.bool true)], args := [d1, d2, d3] }
  | _ => none }
def linSidesRow : OpenClaim := { program := "ytfedkedpgdphdaagreatdoor", sum := "f86e7600fc06a7faaa0cdb7ca0f315b20e3231b448bb98a9fad9694587b2f95e", func := "arbiter/arbiterlaw2.LinSides", spec := "linSides", inPlace := ["internal/bytealg.IndexByteString", "internal/bytealg.IndexString"], unfollowed := true, recurses := true, named := ["internal/bytealg.MaxLen", "unicode/utf8.first", "unicode/utf8.acceptRanges"], apart := false, laid := [("unicode/utf8.acceptRanges", laid_unicode_utf8_acceptRanges), ("unicode/utf8.first", laid_unicode_utf8_first)] }
def LinSidesSaid : Prop := linSidesRow.holds Tryz.pinned (OpenSpec.ofChange linSidesSpec)

/-- ITS FALSE NEIGHBOUR: 'it returns false'. Refute it at one input. -/
def linSidesWrong : ChangeSpec := { name := "linSides", fn := fun _ => fun
  | [d1, d2, d3] => { results := [.lit (.bool false)], args := [d1, d2, d3] }
  | _ => none }
def LinSidesWrongFalsely : Prop := linSidesRow.holds Tryz.pinned (OpenSpec.ofChange linSidesWrong)

/-- 'arbiterlaw2.LinFresh': WHATEVER THE INPUT: true; the input reads as it did. -/
def linFreshSpec : ChangeSpec := { name := "linFresh", fn := fun _ => fun
  | [d1, d2, d3] => { results := [.lit (.bool true)], args := [d1, d2, d3] }
  | _ => none }
def linFreshRow : OpenClaim := { program := "ytfedkedpgdphdaagreatdoor", sum := "f86e7600fc06a7faaa0cdb7ca0f315b20e3231b448bb98a9fad9694587b2f95e", func := "arbiter/arbiterlaw2.LinFresh", spec := "linFresh", inPlace := ["internal/bytealg.IndexByteString", "internal/bytealg.IndexString"], unfollowed := true, recurses := true, named := ["internal/bytealg.MaxLen", "unicode/utf8.first", "unicode/utf8.acceptRanges"], apart := false, laid := [("unicode/utf8.acceptRanges", laid_unicode_utf8_acceptRanges), ("unicode/utf8.first", laid_unicode_utf8_first)] }
def LinFreshSaid : Prop := linFreshRow.holds Tryz.pinned (OpenSpec.ofChange linFreshSpec)

/-- ITS FALSE NEIGHBOUR: 'it returns false'. Refute it at one input. -/
def linFreshWrong : ChangeSpec := { name := "linFresh", fn := fun _ => fun
  | [d1, d2, d3] => { results := [.lit (.bool false)], args := [d1, d2, d3] }
  | _ => none }
def LinFreshWrongFalsely : Prop := linFreshRow.holds Tryz.pinned (OpenSpec.ofChange linFreshWrong)

/- THE SECOND FORM. 'bulk': how many values and letters a reading holds, each counted each time it is reached (what is shared counts as often as it is met; a slice's spare places count too). A statement '..UptoSaid' is the law's where the arguments, and the package variables that the reading takes, are together of bulk at most 1048576: NARROWER than '..Said'. Prove '..Said' where nothing that the law and all that it calls make is longer than what came in: it says more and counts as full. Else prove '..UptoSaid'. A law counts once. -/
mutual
def uptoBulk {H : Type} : DataW H → Nat
  | .lit (.string bytes) => bytes.length + 1
  | .lit _ => 1
  | .nil => 1
  | .ptr d => uptoBulk d + 1
  | .slice elems spare => uptoBulkAll elems + uptoBulkAll spare + 1
  | .agg parts => uptoBulkAll parts + 1
  | .iface _ d => uptoBulk d + 1
  | .map entries => uptoBulkEntries entries + 1
  | .held _ => 1
def uptoBulkAll {H : Type} : List (DataW H) → Nat
  | [] => 0
  | d :: r => uptoBulk d + uptoBulkAll r
def uptoBulkEntries {H : Type} : List (Lit × DataW H) → Nat
  | [] => 0
  | x :: r => uptoBulkEntry x + uptoBulkEntries r
def uptoBulkEntry {H : Type} : Lit × DataW H → Nat
  | (.string bytes, d) => bytes.length + uptoBulk d + 1
  | (_, d) => uptoBulk d + 1
 end
def uptoSmall : (H : Type) → List (DataW H) → Bool := fun _ ds => decide (uptoBulkAll ds ≤ 1048576)
def OpenSpec.upto (s : _root_.Go.ChangeSpec) : _root_.Go.OpenSpec := { _root_.Go.OpenSpec.ofChange s with cond := some uptoSmall }

/-- 'arbiterlaw2.LinPicks', WHERE WHAT IT READS IS OF BULK AT MOST 1048576: true; the input reads as it did. -/
def linPicksUptoRow : OpenClaim := { program := "ytfedkedpgdphdaagreatdoor", sum := "f86e7600fc06a7faaa0cdb7ca0f315b20e3231b448bb98a9fad9694587b2f95e", func := "arbiter/arbiterlaw2.LinPicks", spec := "linPicks", inPlace := ["internal/bytealg.IndexByteString", "internal/bytealg.IndexString"], unfollowed := true, recurses := true, named := ["internal/bytealg.MaxLen", "unicode/utf8.first", "unicode/utf8.acceptRanges"], apart := false, laid := [("unicode/utf8.acceptRanges", laid_unicode_utf8_acceptRanges), ("unicode/utf8.first", laid_unicode_utf8_first)], narrowed := true }
def LinPicksUptoSaid : Prop := linPicksUptoRow.holds Tryz.pinned (OpenSpec.upto linPicksSpec)

/-- 'arbiterlaw2.LinValues', WHERE WHAT IT READS IS OF BULK AT MOST 1048576: true; the input reads as it did. -/
def linValuesUptoRow : OpenClaim := { program := "ytfedkedpgdphdaagreatdoor", sum := "f86e7600fc06a7faaa0cdb7ca0f315b20e3231b448bb98a9fad9694587b2f95e", func := "arbiter/arbiterlaw2.LinValues", spec := "linValues", inPlace := ["internal/bytealg.IndexByteString", "internal/bytealg.IndexString"], unfollowed := true, recurses := true, named := ["internal/bytealg.MaxLen", "unicode/utf8.first", "unicode/utf8.acceptRanges"], apart := false, laid := [("unicode/utf8.acceptRanges", laid_unicode_utf8_acceptRanges), ("unicode/utf8.first", laid_unicode_utf8_first)], narrowed := true }
def LinValuesUptoSaid : Prop := linValuesUptoRow.holds Tryz.pinned (OpenSpec.upto linValuesSpec)

/-- 'arbiterlaw2.LinDeltas', WHERE WHAT IT READS IS OF BULK AT MOST 1048576: true; the input reads as it did. -/
def linDeltasUptoRow : OpenClaim := { program := "ytfedkedpgdphdaagreatdoor", sum := "f86e7600fc06a7faaa0cdb7ca0f315b20e3231b448bb98a9fad9694587b2f95e", func := "arbiter/arbiterlaw2.LinDeltas", spec := "linDeltas", inPlace := ["internal/bytealg.IndexByteString", "internal/bytealg.IndexString"], unfollowed := true, recurses := true, named := ["internal/bytealg.MaxLen", "unicode/utf8.first", "unicode/utf8.acceptRanges"], apart := false, laid := [("unicode/utf8.acceptRanges", laid_unicode_utf8_acceptRanges), ("unicode/utf8.first", laid_unicode_utf8_first)], narrowed := true }
def LinDeltasUptoSaid : Prop := linDeltasUptoRow.holds Tryz.pinned (OpenSpec.upto linDeltasSpec)

/-- 'arbiterlaw2.LinForms', WHERE WHAT IT READS IS OF BULK AT MOST 1048576: true; the input reads as it did. -/
def linFormsUptoRow : OpenClaim := { program := "ytfedkedpgdphdaagreatdoor", sum := "f86e7600fc06a7faaa0cdb7ca0f315b20e3231b448bb98a9fad9694587b2f95e", func := "arbiter/arbiterlaw2.LinForms", spec := "linForms", inPlace := ["internal/bytealg.IndexByteString", "internal/bytealg.IndexString"], unfollowed := true, recurses := true, named := ["internal/bytealg.MaxLen", "unicode/utf8.first", "unicode/utf8.acceptRanges"], apart := false, laid := [("unicode/utf8.acceptRanges", laid_unicode_utf8_acceptRanges), ("unicode/utf8.first", laid_unicode_utf8_first)], narrowed := true }
def LinFormsUptoSaid : Prop := linFormsUptoRow.holds Tryz.pinned (OpenSpec.upto linFormsSpec)

/-- 'arbiterlaw2.LinAdds', WHERE WHAT IT READS IS OF BULK AT MOST 1048576: true; the input reads as it did. -/
def linAddsUptoRow : OpenClaim := { program := "ytfedkedpgdphdaagreatdoor", sum := "f86e7600fc06a7faaa0cdb7ca0f315b20e3231b448bb98a9fad9694587b2f95e", func := "arbiter/arbiterlaw2.LinAdds", spec := "linAdds", inPlace := ["internal/bytealg.IndexByteString", "internal/bytealg.IndexString"], unfollowed := true, recurses := true, named := ["internal/bytealg.MaxLen", "unicode/utf8.first", "unicode/utf8.acceptRanges"], apart := false, laid := [("unicode/utf8.acceptRanges", laid_unicode_utf8_acceptRanges), ("unicode/utf8.first", laid_unicode_utf8_first)], narrowed := true }
def LinAddsUptoSaid : Prop := linAddsUptoRow.holds Tryz.pinned (OpenSpec.upto linAddsSpec)

/-- 'arbiterlaw2.LinTidies', WHERE WHAT IT READS IS OF BULK AT MOST 1048576: true; the input reads as it did. -/
def linTidiesUptoRow : OpenClaim := { program := "ytfedkedpgdphdaagreatdoor", sum := "f86e7600fc06a7faaa0cdb7ca0f315b20e3231b448bb98a9fad9694587b2f95e", func := "arbiter/arbiterlaw2.LinTidies", spec := "linTidies", inPlace := ["internal/bytealg.IndexByteString", "internal/bytealg.IndexString"], unfollowed := true, recurses := true, named := ["internal/bytealg.MaxLen", "unicode/utf8.first", "unicode/utf8.acceptRanges"], apart := false, laid := [("unicode/utf8.acceptRanges", laid_unicode_utf8_acceptRanges), ("unicode/utf8.first", laid_unicode_utf8_first)], narrowed := true }
def LinTidiesUptoSaid : Prop := linTidiesUptoRow.holds Tryz.pinned (OpenSpec.upto linTidiesSpec)

/-- 'arbiterlaw2.LinCombines', WHERE WHAT IT READS IS OF BULK AT MOST 1048576: true; the input reads as it did. -/
def linCombinesUptoRow : OpenClaim := { program := "ytfedkedpgdphdaagreatdoor", sum := "f86e7600fc06a7faaa0cdb7ca0f315b20e3231b448bb98a9fad9694587b2f95e", func := "arbiter/arbiterlaw2.LinCombines", spec := "linCombines", inPlace := ["internal/bytealg.IndexByteString", "internal/bytealg.IndexString"], unfollowed := true, recurses := true, named := ["internal/bytealg.MaxLen", "unicode/utf8.first", "unicode/utf8.acceptRanges"], apart := false, laid := [("unicode/utf8.acceptRanges", laid_unicode_utf8_acceptRanges), ("unicode/utf8.first", laid_unicode_utf8_first)], narrowed := true }
def LinCombinesUptoSaid : Prop := linCombinesUptoRow.holds Tryz.pinned (OpenSpec.upto linCombinesSpec)

/-- 'arbiterlaw2.LinSubsts', WHERE WHAT IT READS IS OF BULK AT MOST 1048576: true; the input reads as it did. -/
def linSubstsUptoRow : OpenClaim := { program := "ytfedkedpgdphdaagreatdoor", sum := "f86e7600fc06a7faaa0cdb7ca0f315b20e3231b448bb98a9fad9694587b2f95e", func := "arbiter/arbiterlaw2.LinSubsts", spec := "linSubsts", inPlace := ["internal/bytealg.IndexByteString", "internal/bytealg.IndexString"], unfollowed := true, recurses := true, named := ["internal/bytealg.MaxLen", "unicode/utf8.first", "unicode/utf8.acceptRanges"], apart := false, laid := [("unicode/utf8.acceptRanges", laid_unicode_utf8_acceptRanges), ("unicode/utf8.first", laid_unicode_utf8_first)], narrowed := true }
def LinSubstsUptoSaid : Prop := linSubstsUptoRow.holds Tryz.pinned (OpenSpec.upto linSubstsSpec)

/-- 'arbiterlaw2.LinMeans', WHERE WHAT IT READS IS OF BULK AT MOST 1048576: true; the input reads as it did. -/
def linMeansUptoRow : OpenClaim := { program := "ytfedkedpgdphdaagreatdoor", sum := "f86e7600fc06a7faaa0cdb7ca0f315b20e3231b448bb98a9fad9694587b2f95e", func := "arbiter/arbiterlaw2.LinMeans", spec := "linMeans", inPlace := ["internal/bytealg.IndexByteString", "internal/bytealg.IndexString"], unfollowed := true, recurses := true, named := ["internal/bytealg.MaxLen", "unicode/utf8.first", "unicode/utf8.acceptRanges"], apart := false, laid := [("unicode/utf8.acceptRanges", laid_unicode_utf8_acceptRanges), ("unicode/utf8.first", laid_unicode_utf8_first)], narrowed := true }
def LinMeansUptoSaid : Prop := linMeansUptoRow.holds Tryz.pinned (OpenSpec.upto linMeansSpec)

/-- 'arbiterlaw2.LinSides', WHERE WHAT IT READS IS OF BULK AT MOST 1048576: true; the input reads as it did. -/
def linSidesUptoRow : OpenClaim := { program := "ytfedkedpgdphdaagreatdoor", sum := "f86e7600fc06a7faaa0cdb7ca0f315b20e3231b448bb98a9fad9694587b2f95e", func := "arbiter/arbiterlaw2.LinSides", spec := "linSides", inPlace := ["internal/bytealg.IndexByteString", "internal/bytealg.IndexString"], unfollowed := true, recurses := true, named := ["internal/bytealg.MaxLen", "unicode/utf8.first", "unicode/utf8.acceptRanges"], apart := false, laid := [("unicode/utf8.acceptRanges", laid_unicode_utf8_acceptRanges), ("unicode/utf8.first", laid_unicode_utf8_first)], narrowed := true }
def LinSidesUptoSaid : Prop := linSidesUptoRow.holds Tryz.pinned (OpenSpec.upto linSidesSpec)

/-- 'arbiterlaw2.LinFresh', WHERE WHAT IT READS IS OF BULK AT MOST 1048576: true; the input reads as it did. -/
def linFreshUptoRow : OpenClaim := { program := "ytfedkedpgdphdaagreatdoor", sum := "f86e7600fc06a7faaa0cdb7ca0f315b20e3231b448bb98a9fad9694587b2f95e", func := "arbiter/arbiterlaw2.LinFresh", spec := "linFresh", inPlace := ["internal/bytealg.IndexByteString", "internal/bytealg.IndexString"], unfollowed := true, recurses := true, named := ["internal/bytealg.MaxLen", "unicode/utf8.first", "unicode/utf8.acceptRanges"], apart := false, laid := [("unicode/utf8.acceptRanges", laid_unicode_utf8_acceptRanges), ("unicode/utf8.first", laid_unicode_utf8_first)], narrowed := true }
def LinFreshUptoSaid : Prop := linFreshUptoRow.holds Tryz.pinned (OpenSpec.upto linFreshSpec)

end Rows
end Go.Proofs.YtfedkedpgdphdaaGreatDoor
