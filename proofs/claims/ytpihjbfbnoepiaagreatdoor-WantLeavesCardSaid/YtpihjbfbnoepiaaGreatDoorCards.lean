/-
  DERIVED. GIVEN WITH THE SEED: THE CARDS: each row of YtpihjbfbnoepiaaGreatDoorRows.lean that lists a variable, with what it lists TIED to the program's text (the seventh form; the later family's looks); each row that meets fmt, with fmt's text TOLD by the authors' own Lean function (tested against real Go, not proved from fmt's source: count such statements apart). THE CARD IS WHAT COUNTS. Prove the row's statement (the work); the ties are given (YtpihjbfbnoepiaaGreatDoorTie.lean); close each card by the builder's one call (the guide's Derived/Test/ToyasCard.lean, 'card_holds'). Laid BY PROGRAM, IN A SANDBOX (cutbox-door.mjs). By AI agents, Wed Nov 11 2026. No macro, syntax, notation, axiom, sorry.
-/
import Derived.Test.YtpihjbfbnoepiaaGreatDoorRows
import GoSem.ClaimSeven
namespace Go.Proofs.YtpihjbfbnoepiaaGreatDoor
namespace Rows

/-- THE TIED CARD OF 'kilnfieldlaw2.WantLeaves'. -/
def wantLeavesCard : Claim7 := { stood := { row := wantLeavesRow, standIns := [], harness := (true, "18304b9699a375b9f1d77ca12e3a00a9c5eb5a5eaf1c29a0228a1cff493621b0"), looks := true }, kinds := [], alts := [], laidByText := true, laidKinds := [.data, .data, .data, .data, .sentinel, .sentinel, .sentinel, .sentinel, .sentinel, .sentinel, .sentinel, .sentinel, .sentinel, .sentinel, .sentinel, .pinned], laidTests := true, laidLooks := .later }
def WantLeavesCardSaid : Prop := Claim7.holds Tryz.pinned (.plain (OpenSpec.ofChange wantLeavesSpec)) wantLeavesCard

/-- THE TIED CARD OF 'kilnfieldlaw2.BuildOnce'. -/
def buildOnceCard : Claim7 := { stood := { row := buildOnceRow, standIns := [], harness := (true, "18304b9699a375b9f1d77ca12e3a00a9c5eb5a5eaf1c29a0228a1cff493621b0"), looks := true }, kinds := [], alts := [], laidByText := true, laidKinds := [.data, .data, .data, .data, .sentinel, .sentinel, .sentinel, .sentinel, .sentinel, .sentinel, .sentinel, .sentinel, .sentinel, .sentinel, .sentinel, .sentinel, .sentinel, .pinned], laidTests := true, laidLooks := .later }
def BuildOnceCardSaid : Prop := Claim7.holds Tryz.pinned (.plain (OpenSpec.ofChange buildOnceSpec)) buildOnceCard

/-- THE TIED CARD OF 'kilnfieldlaw2.BuildSame'. -/
def buildSameCard : Claim7 := { stood := { row := buildSameRow, standIns := [], harness := (true, "18304b9699a375b9f1d77ca12e3a00a9c5eb5a5eaf1c29a0228a1cff493621b0"), looks := true }, kinds := [], alts := [], laidByText := true, laidKinds := [.data, .data, .data, .data, .sentinel, .sentinel, .sentinel, .sentinel, .sentinel, .sentinel, .sentinel, .sentinel, .sentinel, .sentinel, .sentinel, .sentinel, .sentinel, .pinned], laidTests := true, laidLooks := .later }
def BuildSameCardSaid : Prop := Claim7.holds Tryz.pinned (.plain (OpenSpec.ofChange buildSameSpec)) buildSameCard

/-- THE TIED CARD OF 'kilnfieldlaw3.PickSame'. -/
def pickSameCard : Claim7 := { stood := { row := pickSameRow, standIns := [], harness := (true, "18304b9699a375b9f1d77ca12e3a00a9c5eb5a5eaf1c29a0228a1cff493621b0"), looks := true }, kinds := [], alts := [], laidByText := true, laidKinds := [.data, .data, .data, .data, .sentinel, .sentinel, .sentinel, .sentinel, .sentinel, .sentinel, .sentinel, .sentinel, .sentinel, .sentinel, .sentinel, .sentinel, .sentinel, .pinned], laidTests := true, laidLooks := .later }
def PickSameCardSaid : Prop := Claim7.holds Tryz.pinned (.plain (OpenSpec.ofChange pickSameSpec)) pickSameCard

/-- THE TIED CARD OF 'kilnfieldlaw2.WantTells'. -/
def wantTellsCard : Claim7 := { stood := { row := wantTellsRow, standIns := [], harness := (true, "18304b9699a375b9f1d77ca12e3a00a9c5eb5a5eaf1c29a0228a1cff493621b0"), looks := true }, kinds := [], alts := [], laidByText := true, laidKinds := [.data, .data, .data, .data, .handle, .sentinel, .sentinel, .sentinel, .sentinel, .sentinel, .sentinel, .sentinel, .sentinel, .sentinel, .sentinel, .sentinel, .sentinel, .sentinel, .sentinel, .pinned], laidTests := true, laidLooks := .later }
def WantTellsCardSaid : Prop := Claim7.holds Tryz.pinned (.plain (OpenSpec.ofChange wantTellsSpec)) wantTellsCard

/-- THE TIED CARD OF 'kilnfieldlaw2.YardFresh'. -/
def yardFreshCard : Claim7 := { stood := { row := yardFreshRow, standIns := [], harness := (true, "18304b9699a375b9f1d77ca12e3a00a9c5eb5a5eaf1c29a0228a1cff493621b0"), looks := true }, kinds := [], alts := [], laidByText := true, laidKinds := [.data, .data, .data, .data, .sentinel, .sentinel, .sentinel, .sentinel, .sentinel, .sentinel, .sentinel, .sentinel, .sentinel, .sentinel, .sentinel, .sentinel, .sentinel, .pinned], laidTests := true, laidLooks := .later }
def YardFreshCardSaid : Prop := Claim7.holds Tryz.pinned (.plain (OpenSpec.ofChange yardFreshSpec)) yardFreshCard

/-- THE TIED CARD OF 'kilnfieldlaw3.PickLevels'. -/
def pickLevelsCard : Claim7 := { stood := { row := pickLevelsRow, standIns := [], harness := (true, "18304b9699a375b9f1d77ca12e3a00a9c5eb5a5eaf1c29a0228a1cff493621b0"), looks := true }, kinds := [], alts := [], laidByText := true, laidKinds := [.data, .data, .data, .data, .handle, .sentinel, .sentinel, .sentinel, .sentinel, .sentinel, .sentinel, .sentinel, .sentinel, .sentinel, .sentinel, .sentinel, .sentinel, .sentinel, .sentinel, .pinned], laidTests := true, laidLooks := .later }
def PickLevelsCardSaid : Prop := Claim7.holds Tryz.pinned (.plain (OpenSpec.ofChange pickLevelsSpec)) pickLevelsCard

/-- THE TIED CARD OF 'kilnfieldlaw2.BuildRuns'. -/
def buildRunsCard : Claim7 := { stood := { row := buildRunsRow, standIns := [], harness := (true, "18304b9699a375b9f1d77ca12e3a00a9c5eb5a5eaf1c29a0228a1cff493621b0"), looks := true }, kinds := [], alts := [], laidByText := true, laidKinds := [.data, .data, .data, .data, .handle, .sentinel, .sentinel, .sentinel, .sentinel, .sentinel, .sentinel, .sentinel, .sentinel, .sentinel, .sentinel, .sentinel, .sentinel, .sentinel, .sentinel, .pinned], laidTests := true, laidLooks := .later }
def BuildRunsCardSaid : Prop := Claim7.holds Tryz.pinned (.plain (OpenSpec.ofChange buildRunsSpec)) buildRunsCard

/-- THE TIED CARD OF 'kilnfieldlaw3.PickRuns'. -/
def pickRunsCard : Claim7 := { stood := { row := pickRunsRow, standIns := [], harness := (true, "18304b9699a375b9f1d77ca12e3a00a9c5eb5a5eaf1c29a0228a1cff493621b0"), looks := true }, kinds := [], alts := [], laidByText := true, laidKinds := [.data, .data, .data, .data, .handle, .sentinel, .sentinel, .sentinel, .sentinel, .sentinel, .sentinel, .sentinel, .sentinel, .sentinel, .sentinel, .sentinel, .sentinel, .sentinel, .sentinel, .pinned], laidTests := true, laidLooks := .later }
def PickRunsCardSaid : Prop := Claim7.holds Tryz.pinned (.plain (OpenSpec.ofChange pickRunsSpec)) pickRunsCard

/-- THE TIED CARD OF 'kilnfieldlaw2.YardActs'. -/
def yardActsCard : Claim7 := { stood := { row := yardActsRow, standIns := [], harness := (true, "18304b9699a375b9f1d77ca12e3a00a9c5eb5a5eaf1c29a0228a1cff493621b0"), looks := true }, kinds := [], alts := [], laidByText := true, laidKinds := [.data, .data, .data, .data, .handle, .sentinel, .sentinel, .sentinel, .sentinel, .sentinel, .sentinel, .sentinel, .sentinel, .sentinel, .sentinel, .sentinel, .sentinel, .sentinel, .sentinel, .pinned], laidTests := true, laidLooks := .later }
def YardActsCardSaid : Prop := Claim7.holds Tryz.pinned (.plain (OpenSpec.ofChange yardActsSpec)) yardActsCard

/-- THE TIED CARD OF 'kilnfieldlaw3.PlayAgain'. -/
def playAgainCard : Claim7 := { stood := { row := playAgainRow, standIns := [], harness := (true, "18304b9699a375b9f1d77ca12e3a00a9c5eb5a5eaf1c29a0228a1cff493621b0"), looks := true }, kinds := [], alts := [], laidByText := true, laidKinds := [.data, .data, .data, .data, .handle, .sentinel, .sentinel, .sentinel, .sentinel, .sentinel, .sentinel, .sentinel, .sentinel, .sentinel, .sentinel, .sentinel, .sentinel, .sentinel, .sentinel, .pinned], laidTests := true, laidLooks := .later }
def PlayAgainCardSaid : Prop := Claim7.holds Tryz.pinned (.plain (OpenSpec.ofChange playAgainSpec)) playAgainCard

/-- THE TIED CARD OF 'kilnfieldlaw3.PlayRuns'. -/
def playRunsCard : Claim7 := { stood := { row := playRunsRow, standIns := [], harness := (true, "18304b9699a375b9f1d77ca12e3a00a9c5eb5a5eaf1c29a0228a1cff493621b0"), looks := true }, kinds := [], alts := [], laidByText := true, laidKinds := [.data, .data, .data, .data, .handle, .sentinel, .sentinel, .sentinel, .sentinel, .sentinel, .sentinel, .sentinel, .sentinel, .sentinel, .sentinel, .sentinel, .sentinel, .sentinel, .sentinel, .pinned], laidTests := true, laidLooks := .later }
def PlayRunsCardSaid : Prop := Claim7.holds Tryz.pinned (.plain (OpenSpec.ofChange playRunsSpec)) playRunsCard

/-- THE SECOND FORM's CARD OF 'kilnfieldlaw2.WantLeaves'. -/
def wantLeavesUptoCard : Claim7 := { stood := { row := wantLeavesUptoRow, standIns := [], harness := (true, "18304b9699a375b9f1d77ca12e3a00a9c5eb5a5eaf1c29a0228a1cff493621b0"), looks := true }, kinds := [], alts := [], laidByText := true, laidKinds := [.data, .data, .data, .data, .sentinel, .sentinel, .sentinel, .sentinel, .sentinel, .sentinel, .sentinel, .sentinel, .sentinel, .sentinel, .sentinel, .pinned], laidTests := true, laidLooks := .later }
def WantLeavesUptoCardSaid : Prop := Claim7.holds Tryz.pinned (.plain (OpenSpec.upto wantLeavesSpec)) wantLeavesUptoCard

/-- THE SECOND FORM's CARD OF 'kilnfieldlaw2.BuildOnce'. -/
def buildOnceUptoCard : Claim7 := { stood := { row := buildOnceUptoRow, standIns := [], harness := (true, "18304b9699a375b9f1d77ca12e3a00a9c5eb5a5eaf1c29a0228a1cff493621b0"), looks := true }, kinds := [], alts := [], laidByText := true, laidKinds := [.data, .data, .data, .data, .sentinel, .sentinel, .sentinel, .sentinel, .sentinel, .sentinel, .sentinel, .sentinel, .sentinel, .sentinel, .sentinel, .sentinel, .sentinel, .pinned], laidTests := true, laidLooks := .later }
def BuildOnceUptoCardSaid : Prop := Claim7.holds Tryz.pinned (.plain (OpenSpec.upto buildOnceSpec)) buildOnceUptoCard

/-- THE SECOND FORM's CARD OF 'kilnfieldlaw2.BuildSame'. -/
def buildSameUptoCard : Claim7 := { stood := { row := buildSameUptoRow, standIns := [], harness := (true, "18304b9699a375b9f1d77ca12e3a00a9c5eb5a5eaf1c29a0228a1cff493621b0"), looks := true }, kinds := [], alts := [], laidByText := true, laidKinds := [.data, .data, .data, .data, .sentinel, .sentinel, .sentinel, .sentinel, .sentinel, .sentinel, .sentinel, .sentinel, .sentinel, .sentinel, .sentinel, .sentinel, .sentinel, .pinned], laidTests := true, laidLooks := .later }
def BuildSameUptoCardSaid : Prop := Claim7.holds Tryz.pinned (.plain (OpenSpec.upto buildSameSpec)) buildSameUptoCard

/-- THE SECOND FORM's CARD OF 'kilnfieldlaw3.PickSame'. -/
def pickSameUptoCard : Claim7 := { stood := { row := pickSameUptoRow, standIns := [], harness := (true, "18304b9699a375b9f1d77ca12e3a00a9c5eb5a5eaf1c29a0228a1cff493621b0"), looks := true }, kinds := [], alts := [], laidByText := true, laidKinds := [.data, .data, .data, .data, .sentinel, .sentinel, .sentinel, .sentinel, .sentinel, .sentinel, .sentinel, .sentinel, .sentinel, .sentinel, .sentinel, .sentinel, .sentinel, .pinned], laidTests := true, laidLooks := .later }
def PickSameUptoCardSaid : Prop := Claim7.holds Tryz.pinned (.plain (OpenSpec.upto pickSameSpec)) pickSameUptoCard

/-- THE SECOND FORM's CARD OF 'kilnfieldlaw2.WantTells'. -/
def wantTellsUptoCard : Claim7 := { stood := { row := wantTellsUptoRow, standIns := [], harness := (true, "18304b9699a375b9f1d77ca12e3a00a9c5eb5a5eaf1c29a0228a1cff493621b0"), looks := true }, kinds := [], alts := [], laidByText := true, laidKinds := [.data, .data, .data, .data, .handle, .sentinel, .sentinel, .sentinel, .sentinel, .sentinel, .sentinel, .sentinel, .sentinel, .sentinel, .sentinel, .sentinel, .sentinel, .sentinel, .sentinel, .pinned], laidTests := true, laidLooks := .later }
def WantTellsUptoCardSaid : Prop := Claim7.holds Tryz.pinned (.plain (OpenSpec.upto wantTellsSpec)) wantTellsUptoCard

/-- THE SECOND FORM's CARD OF 'kilnfieldlaw2.YardFresh'. -/
def yardFreshUptoCard : Claim7 := { stood := { row := yardFreshUptoRow, standIns := [], harness := (true, "18304b9699a375b9f1d77ca12e3a00a9c5eb5a5eaf1c29a0228a1cff493621b0"), looks := true }, kinds := [], alts := [], laidByText := true, laidKinds := [.data, .data, .data, .data, .sentinel, .sentinel, .sentinel, .sentinel, .sentinel, .sentinel, .sentinel, .sentinel, .sentinel, .sentinel, .sentinel, .sentinel, .sentinel, .pinned], laidTests := true, laidLooks := .later }
def YardFreshUptoCardSaid : Prop := Claim7.holds Tryz.pinned (.plain (OpenSpec.upto yardFreshSpec)) yardFreshUptoCard

/-- THE SECOND FORM's CARD OF 'kilnfieldlaw3.PickLevels'. -/
def pickLevelsUptoCard : Claim7 := { stood := { row := pickLevelsUptoRow, standIns := [], harness := (true, "18304b9699a375b9f1d77ca12e3a00a9c5eb5a5eaf1c29a0228a1cff493621b0"), looks := true }, kinds := [], alts := [], laidByText := true, laidKinds := [.data, .data, .data, .data, .handle, .sentinel, .sentinel, .sentinel, .sentinel, .sentinel, .sentinel, .sentinel, .sentinel, .sentinel, .sentinel, .sentinel, .sentinel, .sentinel, .sentinel, .pinned], laidTests := true, laidLooks := .later }
def PickLevelsUptoCardSaid : Prop := Claim7.holds Tryz.pinned (.plain (OpenSpec.upto pickLevelsSpec)) pickLevelsUptoCard

/-- THE SECOND FORM's CARD OF 'kilnfieldlaw2.BuildRuns'. -/
def buildRunsUptoCard : Claim7 := { stood := { row := buildRunsUptoRow, standIns := [], harness := (true, "18304b9699a375b9f1d77ca12e3a00a9c5eb5a5eaf1c29a0228a1cff493621b0"), looks := true }, kinds := [], alts := [], laidByText := true, laidKinds := [.data, .data, .data, .data, .handle, .sentinel, .sentinel, .sentinel, .sentinel, .sentinel, .sentinel, .sentinel, .sentinel, .sentinel, .sentinel, .sentinel, .sentinel, .sentinel, .sentinel, .pinned], laidTests := true, laidLooks := .later }
def BuildRunsUptoCardSaid : Prop := Claim7.holds Tryz.pinned (.plain (OpenSpec.upto buildRunsSpec)) buildRunsUptoCard

/-- THE SECOND FORM's CARD OF 'kilnfieldlaw3.PickRuns'. -/
def pickRunsUptoCard : Claim7 := { stood := { row := pickRunsUptoRow, standIns := [], harness := (true, "18304b9699a375b9f1d77ca12e3a00a9c5eb5a5eaf1c29a0228a1cff493621b0"), looks := true }, kinds := [], alts := [], laidByText := true, laidKinds := [.data, .data, .data, .data, .handle, .sentinel, .sentinel, .sentinel, .sentinel, .sentinel, .sentinel, .sentinel, .sentinel, .sentinel, .sentinel, .sentinel, .sentinel, .sentinel, .sentinel, .pinned], laidTests := true, laidLooks := .later }
def PickRunsUptoCardSaid : Prop := Claim7.holds Tryz.pinned (.plain (OpenSpec.upto pickRunsSpec)) pickRunsUptoCard

/-- THE SECOND FORM's CARD OF 'kilnfieldlaw2.YardActs'. -/
def yardActsUptoCard : Claim7 := { stood := { row := yardActsUptoRow, standIns := [], harness := (true, "18304b9699a375b9f1d77ca12e3a00a9c5eb5a5eaf1c29a0228a1cff493621b0"), looks := true }, kinds := [], alts := [], laidByText := true, laidKinds := [.data, .data, .data, .data, .handle, .sentinel, .sentinel, .sentinel, .sentinel, .sentinel, .sentinel, .sentinel, .sentinel, .sentinel, .sentinel, .sentinel, .sentinel, .sentinel, .sentinel, .pinned], laidTests := true, laidLooks := .later }
def YardActsUptoCardSaid : Prop := Claim7.holds Tryz.pinned (.plain (OpenSpec.upto yardActsSpec)) yardActsUptoCard

/-- THE SECOND FORM's CARD OF 'kilnfieldlaw3.PlayAgain'. -/
def playAgainUptoCard : Claim7 := { stood := { row := playAgainUptoRow, standIns := [], harness := (true, "18304b9699a375b9f1d77ca12e3a00a9c5eb5a5eaf1c29a0228a1cff493621b0"), looks := true }, kinds := [], alts := [], laidByText := true, laidKinds := [.data, .data, .data, .data, .handle, .sentinel, .sentinel, .sentinel, .sentinel, .sentinel, .sentinel, .sentinel, .sentinel, .sentinel, .sentinel, .sentinel, .sentinel, .sentinel, .sentinel, .pinned], laidTests := true, laidLooks := .later }
def PlayAgainUptoCardSaid : Prop := Claim7.holds Tryz.pinned (.plain (OpenSpec.upto playAgainSpec)) playAgainUptoCard

/-- THE SECOND FORM's CARD OF 'kilnfieldlaw3.PlayRuns'. -/
def playRunsUptoCard : Claim7 := { stood := { row := playRunsUptoRow, standIns := [], harness := (true, "18304b9699a375b9f1d77ca12e3a00a9c5eb5a5eaf1c29a0228a1cff493621b0"), looks := true }, kinds := [], alts := [], laidByText := true, laidKinds := [.data, .data, .data, .data, .handle, .sentinel, .sentinel, .sentinel, .sentinel, .sentinel, .sentinel, .sentinel, .sentinel, .sentinel, .sentinel, .sentinel, .sentinel, .sentinel, .sentinel, .pinned], laidTests := true, laidLooks := .later }
def PlayRunsUptoCardSaid : Prop := Claim7.holds Tryz.pinned (.plain (OpenSpec.upto playRunsSpec)) playRunsUptoCard
end Rows
end Go.Proofs.YtpihjbfbnoepiaaGreatDoor
