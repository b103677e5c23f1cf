/-
  DERIVED. GIVEN WITH THE SEED: THE CARDS: each row of YtgoeoekdlcbmpaaGreatDoorRows.lean that lists a variable, with what it lists TIED to the program's text (the seventh form; the later family's looks); each row that meets fmt, with fmt's text TOLD by the authors' own Lean function (tested against real Go, not proved from fmt's source: count such statements apart). THE CARD IS WHAT COUNTS. Prove the row's statement (the work); the ties are given (YtgoeoekdlcbmpaaGreatDoorTie.lean); close each card by the builder's one call (the guide's Derived/Test/ToyasCard.lean, 'card_holds'). Laid BY PROGRAM, IN A SANDBOX (cutbox-door.mjs). By AI agents, Wed Nov 11 2026. No macro, syntax, notation, axiom, sorry.
-/
import Derived.Test.YtgoeoekdlcbmpaaGreatDoorRows
import GoSem.ClaimSeven
namespace Go.Proofs.YtgoeoekdlcbmpaaGreatDoor
namespace Rows

/-- THE TIED CARD OF 'kilnfieldlaw2.BuildOnce'. -/
def buildOnceCard : Claim7 := { stood := { row := buildOnceRow, standIns := [], harness := (true, "c8ef41ba7d9c61e016f7f7f73f96b5de750d59facd120e8f776e079b60ee45f1"), looks := true }, kinds := [], alts := [], laidByText := true, laidKinds := [.data, .data, .data, .data, .sentinel, .sentinel, .sentinel, .sentinel, .sentinel, .sentinel, .sentinel, .sentinel, .sentinel, .sentinel, .sentinel, .sentinel, .sentinel, .pinned], laidTests := true, laidLooks := .later }
def BuildOnceCardSaid : Prop := Claim7.holds Tryz.pinned (.plain (OpenSpec.ofChange buildOnceSpec)) buildOnceCard

/-- THE TIED CARD OF 'kilnfieldlaw2.BuildSame'. -/
def buildSameCard : Claim7 := { stood := { row := buildSameRow, standIns := [], harness := (true, "c8ef41ba7d9c61e016f7f7f73f96b5de750d59facd120e8f776e079b60ee45f1"), looks := true }, kinds := [], alts := [], laidByText := true, laidKinds := [.data, .data, .data, .data, .sentinel, .sentinel, .sentinel, .sentinel, .sentinel, .sentinel, .sentinel, .sentinel, .sentinel, .sentinel, .sentinel, .sentinel, .sentinel, .pinned], laidTests := true, laidLooks := .later }
def BuildSameCardSaid : Prop := Claim7.holds Tryz.pinned (.plain (OpenSpec.ofChange buildSameSpec)) buildSameCard

/-- THE TIED CARD OF 'kilnfieldlaw3.PickSame'. -/
def pickSameCard : Claim7 := { stood := { row := pickSameRow, standIns := [], harness := (true, "c8ef41ba7d9c61e016f7f7f73f96b5de750d59facd120e8f776e079b60ee45f1"), looks := true }, kinds := [], alts := [], laidByText := true, laidKinds := [.data, .data, .data, .data, .sentinel, .sentinel, .sentinel, .sentinel, .sentinel, .sentinel, .sentinel, .sentinel, .sentinel, .sentinel, .sentinel, .sentinel, .sentinel, .pinned], laidTests := true, laidLooks := .later }
def PickSameCardSaid : Prop := Claim7.holds Tryz.pinned (.plain (OpenSpec.ofChange pickSameSpec)) pickSameCard

/-- THE TIED CARD OF 'kilnfieldlaw3.PickLevels'. -/
def pickLevelsCard : Claim7 := { stood := { row := pickLevelsRow, standIns := [], harness := (true, "c8ef41ba7d9c61e016f7f7f73f96b5de750d59facd120e8f776e079b60ee45f1"), looks := true }, kinds := [], alts := [], laidByText := true, laidKinds := [.data, .data, .data, .data, .handle, .sentinel, .sentinel, .sentinel, .sentinel, .sentinel, .sentinel, .sentinel, .sentinel, .sentinel, .sentinel, .sentinel, .sentinel, .sentinel, .sentinel, .pinned], laidTests := true, laidLooks := .later }
def PickLevelsCardSaid : Prop := Claim7.holds Tryz.pinned (.plain (OpenSpec.ofChange pickLevelsSpec)) pickLevelsCard

/-- THE TIED CARD OF 'kilnfieldlaw2.BuildRuns'. -/
def buildRunsCard : Claim7 := { stood := { row := buildRunsRow, standIns := [], harness := (true, "c8ef41ba7d9c61e016f7f7f73f96b5de750d59facd120e8f776e079b60ee45f1"), looks := true }, kinds := [], alts := [], laidByText := true, laidKinds := [.data, .data, .data, .data, .handle, .sentinel, .sentinel, .sentinel, .sentinel, .sentinel, .sentinel, .sentinel, .sentinel, .sentinel, .sentinel, .sentinel, .sentinel, .sentinel, .sentinel, .pinned], laidTests := true, laidLooks := .later }
def BuildRunsCardSaid : Prop := Claim7.holds Tryz.pinned (.plain (OpenSpec.ofChange buildRunsSpec)) buildRunsCard

/-- THE TIED CARD OF 'kilnfieldlaw3.PickRuns'. -/
def pickRunsCard : Claim7 := { stood := { row := pickRunsRow, standIns := [], harness := (true, "c8ef41ba7d9c61e016f7f7f73f96b5de750d59facd120e8f776e079b60ee45f1"), looks := true }, kinds := [], alts := [], laidByText := true, laidKinds := [.data, .data, .data, .data, .handle, .sentinel, .sentinel, .sentinel, .sentinel, .sentinel, .sentinel, .sentinel, .sentinel, .sentinel, .sentinel, .sentinel, .sentinel, .sentinel, .sentinel, .pinned], laidTests := true, laidLooks := .later }
def PickRunsCardSaid : Prop := Claim7.holds Tryz.pinned (.plain (OpenSpec.ofChange pickRunsSpec)) pickRunsCard

/-- THE SECOND FORM's CARD OF 'kilnfieldlaw2.BuildOnce'. -/
def buildOnceUptoCard : Claim7 := { stood := { row := buildOnceUptoRow, standIns := [], harness := (true, "c8ef41ba7d9c61e016f7f7f73f96b5de750d59facd120e8f776e079b60ee45f1"), looks := true }, kinds := [], alts := [], laidByText := true, laidKinds := [.data, .data, .data, .data, .sentinel, .sentinel, .sentinel, .sentinel, .sentinel, .sentinel, .sentinel, .sentinel, .sentinel, .sentinel, .sentinel, .sentinel, .sentinel, .pinned], laidTests := true, laidLooks := .later }
def BuildOnceUptoCardSaid : Prop := Claim7.holds Tryz.pinned (.plain (OpenSpec.upto buildOnceSpec)) buildOnceUptoCard

/-- THE SECOND FORM's CARD OF 'kilnfieldlaw2.BuildSame'. -/
def buildSameUptoCard : Claim7 := { stood := { row := buildSameUptoRow, standIns := [], harness := (true, "c8ef41ba7d9c61e016f7f7f73f96b5de750d59facd120e8f776e079b60ee45f1"), looks := true }, kinds := [], alts := [], laidByText := true, laidKinds := [.data, .data, .data, .data, .sentinel, .sentinel, .sentinel, .sentinel, .sentinel, .sentinel, .sentinel, .sentinel, .sentinel, .sentinel, .sentinel, .sentinel, .sentinel, .pinned], laidTests := true, laidLooks := .later }
def BuildSameUptoCardSaid : Prop := Claim7.holds Tryz.pinned (.plain (OpenSpec.upto buildSameSpec)) buildSameUptoCard

/-- THE SECOND FORM's CARD OF 'kilnfieldlaw3.PickSame'. -/
def pickSameUptoCard : Claim7 := { stood := { row := pickSameUptoRow, standIns := [], harness := (true, "c8ef41ba7d9c61e016f7f7f73f96b5de750d59facd120e8f776e079b60ee45f1"), looks := true }, kinds := [], alts := [], laidByText := true, laidKinds := [.data, .data, .data, .data, .sentinel, .sentinel, .sentinel, .sentinel, .sentinel, .sentinel, .sentinel, .sentinel, .sentinel, .sentinel, .sentinel, .sentinel, .sentinel, .pinned], laidTests := true, laidLooks := .later }
def PickSameUptoCardSaid : Prop := Claim7.holds Tryz.pinned (.plain (OpenSpec.upto pickSameSpec)) pickSameUptoCard

/-- THE SECOND FORM's CARD OF 'kilnfieldlaw3.PickLevels'. -/
def pickLevelsUptoCard : Claim7 := { stood := { row := pickLevelsUptoRow, standIns := [], harness := (true, "c8ef41ba7d9c61e016f7f7f73f96b5de750d59facd120e8f776e079b60ee45f1"), looks := true }, kinds := [], alts := [], laidByText := true, laidKinds := [.data, .data, .data, .data, .handle, .sentinel, .sentinel, .sentinel, .sentinel, .sentinel, .sentinel, .sentinel, .sentinel, .sentinel, .sentinel, .sentinel, .sentinel, .sentinel, .sentinel, .pinned], laidTests := true, laidLooks := .later }
def PickLevelsUptoCardSaid : Prop := Claim7.holds Tryz.pinned (.plain (OpenSpec.upto pickLevelsSpec)) pickLevelsUptoCard

/-- THE SECOND FORM's CARD OF 'kilnfieldlaw2.BuildRuns'. -/
def buildRunsUptoCard : Claim7 := { stood := { row := buildRunsUptoRow, standIns := [], harness := (true, "c8ef41ba7d9c61e016f7f7f73f96b5de750d59facd120e8f776e079b60ee45f1"), looks := true }, kinds := [], alts := [], laidByText := true, laidKinds := [.data, .data, .data, .data, .handle, .sentinel, .sentinel, .sentinel, .sentinel, .sentinel, .sentinel, .sentinel, .sentinel, .sentinel, .sentinel, .sentinel, .sentinel, .sentinel, .sentinel, .pinned], laidTests := true, laidLooks := .later }
def BuildRunsUptoCardSaid : Prop := Claim7.holds Tryz.pinned (.plain (OpenSpec.upto buildRunsSpec)) buildRunsUptoCard

/-- THE SECOND FORM's CARD OF 'kilnfieldlaw3.PickRuns'. -/
def pickRunsUptoCard : Claim7 := { stood := { row := pickRunsUptoRow, standIns := [], harness := (true, "c8ef41ba7d9c61e016f7f7f73f96b5de750d59facd120e8f776e079b60ee45f1"), looks := true }, kinds := [], alts := [], laidByText := true, laidKinds := [.data, .data, .data, .data, .handle, .sentinel, .sentinel, .sentinel, .sentinel, .sentinel, .sentinel, .sentinel, .sentinel, .sentinel, .sentinel, .sentinel, .sentinel, .sentinel, .sentinel, .pinned], laidTests := true, laidLooks := .later }
def PickRunsUptoCardSaid : Prop := Claim7.holds Tryz.pinned (.plain (OpenSpec.upto pickRunsSpec)) pickRunsUptoCard
end Rows
end Go.Proofs.YtgoeoekdlcbmpaaGreatDoor
