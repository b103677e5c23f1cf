/-
  DERIVED. GIVEN WITH THE SEED: THE CARDS: each row of YtmkpeopebddnjaaGreatDoorRows.lean that lists a variable, with what it lists TIED to the program's text (the seventh form; the later family's looks); each row that meets fmt, with fmt's text TOLD by the authors' own Lean function (tested against real Go, not proved from fmt's source: count such statements apart). THE CARD IS WHAT COUNTS. Prove the row's statement (the work); the ties are given (YtmkpeopebddnjaaGreatDoorTie.lean); close each card by the builder's one call (the guide's Derived/Test/ToyasCard.lean, 'card_holds'). Laid BY PROGRAM, IN A SANDBOX (cutbox-door.mjs). By AI agents, Wed Nov 11 2026. No macro, syntax, notation, axiom, sorry.
-/
import Derived.Test.YtmkpeopebddnjaaGreatDoorRows
import GoSem.ClaimSeven
namespace Go.Proofs.YtmkpeopebddnjaaGreatDoor
namespace Rows

/-- THE TIED CARD OF 'kilnfieldlaw1.TreeActs'. -/
def treeActsCard : Claim7 := { stood := { row := treeActsRow, standIns := [], harness := (true, "9602ff3837df58a9d3afb863ec972adc1bb873071a6fafb3ae885b639a1cbd2d"), looks := true }, kinds := [], alts := [], laidByText := true, laidKinds := [.data, .data, .data, .data, .handle, .sentinel, .sentinel, .sentinel, .sentinel, .sentinel, .sentinel, .sentinel, .sentinel, .sentinel, .sentinel, .sentinel, .sentinel, .pinned], laidTests := true, laidLooks := .later }
def TreeActsCardSaid : Prop := Claim7.holds Tryz.pinned (.plain (OpenSpec.ofChange treeActsSpec)) treeActsCard

/-- THE TIED CARD OF 'kilnfieldlaw1.TreeBack'. -/
def treeBackCard : Claim7 := { stood := { row := treeBackRow, standIns := [], harness := (true, "9602ff3837df58a9d3afb863ec972adc1bb873071a6fafb3ae885b639a1cbd2d"), looks := true }, kinds := [], alts := [], laidByText := true, laidKinds := [.data, .data, .data, .data, .sentinel, .sentinel, .sentinel, .sentinel, .sentinel, .sentinel, .sentinel, .sentinel, .sentinel, .pinned], laidTests := true, laidLooks := .later }
def TreeBackCardSaid : Prop := Claim7.holds Tryz.pinned (.plain (OpenSpec.ofChange treeBackSpec)) treeBackCard

/-- THE TIED CARD OF 'kilnfieldlaw1.ActSorts'. -/
def actSortsCard : Claim7 := { stood := { row := actSortsRow, standIns := [], harness := (true, "9602ff3837df58a9d3afb863ec972adc1bb873071a6fafb3ae885b639a1cbd2d"), looks := true }, kinds := [], alts := [], laidByText := true, laidKinds := [.data, .data, .data, .data, .sentinel, .sentinel, .sentinel, .sentinel, .sentinel, .pinned], laidTests := true, laidLooks := .later }
def ActSortsCardSaid : Prop := Claim7.holds Tryz.pinned (.plain (OpenSpec.ofChange actSortsSpec)) actSortsCard

/-- THE TIED CARD OF 'kilnfieldlaw1.ActHeads'. -/
def actHeadsCard : Claim7 := { stood := { row := actHeadsRow, standIns := [], harness := (true, "9602ff3837df58a9d3afb863ec972adc1bb873071a6fafb3ae885b639a1cbd2d"), looks := true }, kinds := [], alts := [], laidByText := true, laidKinds := [.data, .data, .data, .data, .sentinel, .sentinel, .sentinel, .sentinel, .sentinel, .pinned], laidTests := true, laidLooks := .later }
def ActHeadsCardSaid : Prop := Claim7.holds Tryz.pinned (.plain (OpenSpec.ofChange actHeadsSpec)) actHeadsCard

/-- THE TIED CARD OF 'kilnfieldlaw1.TreeReads'. -/
def treeReadsCard : Claim7 := { stood := { row := treeReadsRow, standIns := [], harness := (true, "9602ff3837df58a9d3afb863ec972adc1bb873071a6fafb3ae885b639a1cbd2d"), looks := true }, kinds := [], alts := [], laidByText := true, laidKinds := [.data, .data, .data, .data, .handle, .sentinel, .sentinel, .sentinel, .sentinel, .sentinel, .sentinel, .sentinel, .sentinel, .sentinel, .sentinel, .sentinel, .sentinel, .sentinel, .sentinel, .pinned], laidTests := true, laidLooks := .later }
def TreeReadsCardSaid : Prop := Claim7.holds Tryz.pinned (.plain (OpenSpec.ofChange treeReadsSpec)) treeReadsCard

/-- THE TIED CARD OF 'kilnfieldlaw1.ActRuns'. -/
def actRunsCard : Claim7 := { stood := { row := actRunsRow, standIns := [], harness := (true, "9602ff3837df58a9d3afb863ec972adc1bb873071a6fafb3ae885b639a1cbd2d"), looks := true }, kinds := [], alts := [], laidByText := true, laidKinds := [.data, .data, .data, .data, .handle, .sentinel, .sentinel, .sentinel, .sentinel, .sentinel, .sentinel, .sentinel, .sentinel, .sentinel, .sentinel, .sentinel, .sentinel, .sentinel, .sentinel, .pinned], laidTests := true, laidLooks := .later }
def ActRunsCardSaid : Prop := Claim7.holds Tryz.pinned (.plain (OpenSpec.ofChange actRunsSpec)) actRunsCard

/-- THE SECOND FORM's CARD OF 'kilnfieldlaw1.TreeActs'. -/
def treeActsUptoCard : Claim7 := { stood := { row := treeActsUptoRow, standIns := [], harness := (true, "9602ff3837df58a9d3afb863ec972adc1bb873071a6fafb3ae885b639a1cbd2d"), looks := true }, kinds := [], alts := [], laidByText := true, laidKinds := [.data, .data, .data, .data, .handle, .sentinel, .sentinel, .sentinel, .sentinel, .sentinel, .sentinel, .sentinel, .sentinel, .sentinel, .sentinel, .sentinel, .sentinel, .pinned], laidTests := true, laidLooks := .later }
def TreeActsUptoCardSaid : Prop := Claim7.holds Tryz.pinned (.plain (OpenSpec.upto treeActsSpec)) treeActsUptoCard

/-- THE SECOND FORM's CARD OF 'kilnfieldlaw1.TreeBack'. -/
def treeBackUptoCard : Claim7 := { stood := { row := treeBackUptoRow, standIns := [], harness := (true, "9602ff3837df58a9d3afb863ec972adc1bb873071a6fafb3ae885b639a1cbd2d"), looks := true }, kinds := [], alts := [], laidByText := true, laidKinds := [.data, .data, .data, .data, .sentinel, .sentinel, .sentinel, .sentinel, .sentinel, .sentinel, .sentinel, .sentinel, .sentinel, .pinned], laidTests := true, laidLooks := .later }
def TreeBackUptoCardSaid : Prop := Claim7.holds Tryz.pinned (.plain (OpenSpec.upto treeBackSpec)) treeBackUptoCard

/-- THE SECOND FORM's CARD OF 'kilnfieldlaw1.ActSorts'. -/
def actSortsUptoCard : Claim7 := { stood := { row := actSortsUptoRow, standIns := [], harness := (true, "9602ff3837df58a9d3afb863ec972adc1bb873071a6fafb3ae885b639a1cbd2d"), looks := true }, kinds := [], alts := [], laidByText := true, laidKinds := [.data, .data, .data, .data, .sentinel, .sentinel, .sentinel, .sentinel, .sentinel, .pinned], laidTests := true, laidLooks := .later }
def ActSortsUptoCardSaid : Prop := Claim7.holds Tryz.pinned (.plain (OpenSpec.upto actSortsSpec)) actSortsUptoCard

/-- THE SECOND FORM's CARD OF 'kilnfieldlaw1.ActHeads'. -/
def actHeadsUptoCard : Claim7 := { stood := { row := actHeadsUptoRow, standIns := [], harness := (true, "9602ff3837df58a9d3afb863ec972adc1bb873071a6fafb3ae885b639a1cbd2d"), looks := true }, kinds := [], alts := [], laidByText := true, laidKinds := [.data, .data, .data, .data, .sentinel, .sentinel, .sentinel, .sentinel, .sentinel, .pinned], laidTests := true, laidLooks := .later }
def ActHeadsUptoCardSaid : Prop := Claim7.holds Tryz.pinned (.plain (OpenSpec.upto actHeadsSpec)) actHeadsUptoCard

/-- THE SECOND FORM's CARD OF 'kilnfieldlaw1.TreeReads'. -/
def treeReadsUptoCard : Claim7 := { stood := { row := treeReadsUptoRow, standIns := [], harness := (true, "9602ff3837df58a9d3afb863ec972adc1bb873071a6fafb3ae885b639a1cbd2d"), looks := true }, kinds := [], alts := [], laidByText := true, laidKinds := [.data, .data, .data, .data, .handle, .sentinel, .sentinel, .sentinel, .sentinel, .sentinel, .sentinel, .sentinel, .sentinel, .sentinel, .sentinel, .sentinel, .sentinel, .sentinel, .sentinel, .pinned], laidTests := true, laidLooks := .later }
def TreeReadsUptoCardSaid : Prop := Claim7.holds Tryz.pinned (.plain (OpenSpec.upto treeReadsSpec)) treeReadsUptoCard

/-- THE SECOND FORM's CARD OF 'kilnfieldlaw1.ActRuns'. -/
def actRunsUptoCard : Claim7 := { stood := { row := actRunsUptoRow, standIns := [], harness := (true, "9602ff3837df58a9d3afb863ec972adc1bb873071a6fafb3ae885b639a1cbd2d"), looks := true }, kinds := [], alts := [], laidByText := true, laidKinds := [.data, .data, .data, .data, .handle, .sentinel, .sentinel, .sentinel, .sentinel, .sentinel, .sentinel, .sentinel, .sentinel, .sentinel, .sentinel, .sentinel, .sentinel, .sentinel, .sentinel, .pinned], laidTests := true, laidLooks := .later }
def ActRunsUptoCardSaid : Prop := Claim7.holds Tryz.pinned (.plain (OpenSpec.upto actRunsSpec)) actRunsUptoCard
end Rows
end Go.Proofs.YtmkpeopebddnjaaGreatDoor
