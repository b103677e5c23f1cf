/-
  DERIVED. GIVEN WITH THE SEED: THE CARDS: each row of YtmlmogllgnfklaaGreatDoorRows.lean that lists a variable, with what it lists TIED to the program's text (the seventh form; the later family's looks); each row that meets fmt, with fmt's text TOLD by the authors' own Lean function (tested against real Go, not proved from fmt's source: count such statements apart). THE CARD IS WHAT COUNTS. Prove the row's statement (the work); the ties are given (YtmlmogllgnfklaaGreatDoorTie.lean); close each card by the builder's one call (the guide's Derived/Test/ToyasCard.lean, 'card_holds'). Laid BY PROGRAM, IN A SANDBOX (cutbox-door.mjs). By AI agents, Wed Nov 11 2026. No macro, syntax, notation, axiom, sorry.
-/
import Derived.Test.YtmlmogllgnfklaaGreatDoorRows
import GoSem.ClaimSeven
namespace Go.Proofs.YtmlmogllgnfklaaGreatDoor
namespace Rows

/-- THE TIED CARD OF 'kilnfieldlaw1.GraphWhole'. -/
def graphWholeCard : Claim7 := { stood := { row := graphWholeRow, standIns := [], harness := (true, "780889a1c65d1652fea36b644e329eceed0a99c0e7f2b5f0f30885c277945df6"), looks := true }, kinds := [], alts := [], laidByText := true, laidKinds := [.data, .data, .data, .data, .sentinel, .sentinel, .sentinel, .sentinel, .sentinel, .sentinel, .sentinel, .sentinel, .sentinel, .sentinel, .pinned], laidTests := true, laidLooks := .later }
def GraphWholeCardSaid : Prop := Claim7.holds Tryz.pinned (.plain (OpenSpec.ofChange graphWholeSpec)) graphWholeCard

/-- THE TIED CARD OF 'kilnfieldlaw1.GraphEither'. -/
def graphEitherCard : Claim7 := { stood := { row := graphEitherRow, standIns := [], harness := (true, "780889a1c65d1652fea36b644e329eceed0a99c0e7f2b5f0f30885c277945df6"), looks := true }, kinds := [], alts := [], laidByText := true, laidKinds := [.data, .data, .data, .data, .sentinel, .sentinel, .sentinel, .sentinel, .sentinel, .sentinel, .sentinel, .sentinel, .sentinel, .pinned], laidTests := true, laidLooks := .later }
def GraphEitherCardSaid : Prop := Claim7.holds Tryz.pinned (.plain (OpenSpec.ofChange graphEitherSpec)) graphEitherCard

/-- THE TIED CARD OF 'kilnfieldlaw1.RuleSheets'. -/
def ruleSheetsCard : Claim7 := { stood := { row := ruleSheetsRow, standIns := [], harness := (true, "780889a1c65d1652fea36b644e329eceed0a99c0e7f2b5f0f30885c277945df6"), looks := true }, kinds := [], alts := [], laidByText := true, laidKinds := [.data, .data, .data, .data, .handle, .sentinel, .sentinel, .sentinel, .sentinel, .sentinel, .sentinel, .sentinel, .sentinel, .sentinel, .sentinel, .sentinel, .sentinel, .sentinel, .sentinel, .pinned], laidTests := true, laidLooks := .later }
def RuleSheetsCardSaid : Prop := Claim7.holds Tryz.pinned (.plain (OpenSpec.ofChange ruleSheetsSpec)) ruleSheetsCard

/-- THE TIED CARD OF 'kilnfieldlaw1.GraphTells'. -/
def graphTellsCard : Claim7 := { stood := { row := graphTellsRow, standIns := [], harness := (true, "780889a1c65d1652fea36b644e329eceed0a99c0e7f2b5f0f30885c277945df6"), looks := true }, kinds := [], alts := [], laidByText := true, laidKinds := [.data, .data, .data, .data, .handle, .sentinel, .sentinel, .sentinel, .sentinel, .sentinel, .sentinel, .sentinel, .sentinel, .sentinel, .sentinel, .sentinel, .sentinel, .sentinel, .sentinel, .pinned], laidTests := true, laidLooks := .later }
def GraphTellsCardSaid : Prop := Claim7.holds Tryz.pinned (.plain (OpenSpec.ofChange graphTellsSpec)) graphTellsCard

/-- THE SECOND FORM's CARD OF 'kilnfieldlaw1.GraphWhole'. -/
def graphWholeUptoCard : Claim7 := { stood := { row := graphWholeUptoRow, standIns := [], harness := (true, "780889a1c65d1652fea36b644e329eceed0a99c0e7f2b5f0f30885c277945df6"), looks := true }, kinds := [], alts := [], laidByText := true, laidKinds := [.data, .data, .data, .data, .sentinel, .sentinel, .sentinel, .sentinel, .sentinel, .sentinel, .sentinel, .sentinel, .sentinel, .sentinel, .pinned], laidTests := true, laidLooks := .later }
def GraphWholeUptoCardSaid : Prop := Claim7.holds Tryz.pinned (.plain (OpenSpec.upto graphWholeSpec)) graphWholeUptoCard

/-- THE SECOND FORM's CARD OF 'kilnfieldlaw1.GraphEither'. -/
def graphEitherUptoCard : Claim7 := { stood := { row := graphEitherUptoRow, standIns := [], harness := (true, "780889a1c65d1652fea36b644e329eceed0a99c0e7f2b5f0f30885c277945df6"), looks := true }, kinds := [], alts := [], laidByText := true, laidKinds := [.data, .data, .data, .data, .sentinel, .sentinel, .sentinel, .sentinel, .sentinel, .sentinel, .sentinel, .sentinel, .sentinel, .pinned], laidTests := true, laidLooks := .later }
def GraphEitherUptoCardSaid : Prop := Claim7.holds Tryz.pinned (.plain (OpenSpec.upto graphEitherSpec)) graphEitherUptoCard

/-- THE SECOND FORM's CARD OF 'kilnfieldlaw1.RuleSheets'. -/
def ruleSheetsUptoCard : Claim7 := { stood := { row := ruleSheetsUptoRow, standIns := [], harness := (true, "780889a1c65d1652fea36b644e329eceed0a99c0e7f2b5f0f30885c277945df6"), looks := true }, kinds := [], alts := [], laidByText := true, laidKinds := [.data, .data, .data, .data, .handle, .sentinel, .sentinel, .sentinel, .sentinel, .sentinel, .sentinel, .sentinel, .sentinel, .sentinel, .sentinel, .sentinel, .sentinel, .sentinel, .sentinel, .pinned], laidTests := true, laidLooks := .later }
def RuleSheetsUptoCardSaid : Prop := Claim7.holds Tryz.pinned (.plain (OpenSpec.upto ruleSheetsSpec)) ruleSheetsUptoCard

/-- THE SECOND FORM's CARD OF 'kilnfieldlaw1.GraphTells'. -/
def graphTellsUptoCard : Claim7 := { stood := { row := graphTellsUptoRow, standIns := [], harness := (true, "780889a1c65d1652fea36b644e329eceed0a99c0e7f2b5f0f30885c277945df6"), looks := true }, kinds := [], alts := [], laidByText := true, laidKinds := [.data, .data, .data, .data, .handle, .sentinel, .sentinel, .sentinel, .sentinel, .sentinel, .sentinel, .sentinel, .sentinel, .sentinel, .sentinel, .sentinel, .sentinel, .sentinel, .sentinel, .pinned], laidTests := true, laidLooks := .later }
def GraphTellsUptoCardSaid : Prop := Claim7.holds Tryz.pinned (.plain (OpenSpec.upto graphTellsSpec)) graphTellsUptoCard
end Rows
end Go.Proofs.YtmlmogllgnfklaaGreatDoor
