/-
  DERIVED. GIVEN WITH THE SEED: THE CARDS: each row of YtegjnjmimfgijaaGreatDoorRows.lean that lists a variable, with what it lists TIED to the program's text (the seventh form; the later family's looks); each row that meets fmt, with fmt's text TOLD by the authors' own Lean function (tested against real Go, not proved from fmt's source: count such statements apart). THE CARD IS WHAT COUNTS. Prove the row's statement (the work); the ties are given (YtegjnjmimfgijaaGreatDoorTie.lean); close each card by the builder's one call (the guide's Derived/Test/ToyasCard.lean, 'card_holds'). Laid BY PROGRAM, IN A SANDBOX (cutbox-door.mjs). By AI agents, Wed Nov 11 2026. No macro, syntax, notation, axiom, sorry.
-/
import Derived.Test.YtegjnjmimfgijaaGreatDoorRows
import GoSem.ClaimSeven
namespace Go.Proofs.YtegjnjmimfgijaaGreatDoor
namespace Rows

/-- THE TIED CARD OF 'shipyardlaw59.EventChecks'. -/
def eventChecksCard : Claim7 := { stood := { row := eventChecksRow, standIns := [], harness := (true, "61c2aeeaed41041ecf9b7032beaff85e7cb102cd8271415d4235a5f23bd902a9"), looks := true }, kinds := [], alts := [], laidByText := true, laidKinds := [.data, .data, .pinned], laidTests := true, laidLooks := .later }
def EventChecksCardSaid : Prop := Claim7.holds Tryz.pinned (.plain (OpenSpec.ofChange eventChecksSpec)) eventChecksCard

/-- THE TIED CARD OF 'shipyardlaw59.EventCodes'. -/
def eventCodesCard : Claim7 := { stood := { row := eventCodesRow, standIns := [], harness := (true, "61c2aeeaed41041ecf9b7032beaff85e7cb102cd8271415d4235a5f23bd902a9"), looks := true }, kinds := [], alts := [], laidByText := true, laidKinds := [.data, .data, .pinned], laidTests := true, laidLooks := .later }
def EventCodesCardSaid : Prop := Claim7.holds Tryz.pinned (.plain (OpenSpec.ofChange eventCodesSpec)) eventCodesCard

/-- THE TIED CARD OF 'shipyardlaw59.EventDecodes'. -/
def eventDecodesCard : Claim7 := { stood := { row := eventDecodesRow, standIns := [], harness := (true, "61c2aeeaed41041ecf9b7032beaff85e7cb102cd8271415d4235a5f23bd902a9"), looks := true }, kinds := [], alts := [], laidByText := true, laidKinds := [.data, .data, .pinned], laidTests := true, laidLooks := .later }
def EventDecodesCardSaid : Prop := Claim7.holds Tryz.pinned (.plain (OpenSpec.ofChange eventDecodesSpec)) eventDecodesCard

/-- THE TIED CARD OF 'shipyardlaw59.EventCuts'. -/
def eventCutsCard : Claim7 := { stood := { row := eventCutsRow, standIns := [], harness := (true, "61c2aeeaed41041ecf9b7032beaff85e7cb102cd8271415d4235a5f23bd902a9"), looks := true }, kinds := [], alts := [], laidByText := true, laidKinds := [.data, .data, .pinned], laidTests := true, laidLooks := .later }
def EventCutsCardSaid : Prop := Claim7.holds Tryz.pinned (.plain (OpenSpec.ofChange eventCutsSpec)) eventCutsCard

/-- THE TIED CARD OF 'shipyardlaw59.EventSames'. -/
def eventSamesCard : Claim7 := { stood := { row := eventSamesRow, standIns := [], harness := (true, "61c2aeeaed41041ecf9b7032beaff85e7cb102cd8271415d4235a5f23bd902a9"), looks := true }, kinds := [], alts := [], laidByText := true, laidKinds := [.data, .data, .pinned], laidTests := true, laidLooks := .later }
def EventSamesCardSaid : Prop := Claim7.holds Tryz.pinned (.plain (OpenSpec.ofChange eventSamesSpec)) eventSamesCard

/-- THE SECOND FORM's CARD OF 'shipyardlaw59.EventChecks'. -/
def eventChecksUptoCard : Claim7 := { stood := { row := eventChecksUptoRow, standIns := [], harness := (true, "61c2aeeaed41041ecf9b7032beaff85e7cb102cd8271415d4235a5f23bd902a9"), looks := true }, kinds := [], alts := [], laidByText := true, laidKinds := [.data, .data, .pinned], laidTests := true, laidLooks := .later }
def EventChecksUptoCardSaid : Prop := Claim7.holds Tryz.pinned (.plain (OpenSpec.upto eventChecksSpec)) eventChecksUptoCard

/-- THE SECOND FORM's CARD OF 'shipyardlaw59.EventCodes'. -/
def eventCodesUptoCard : Claim7 := { stood := { row := eventCodesUptoRow, standIns := [], harness := (true, "61c2aeeaed41041ecf9b7032beaff85e7cb102cd8271415d4235a5f23bd902a9"), looks := true }, kinds := [], alts := [], laidByText := true, laidKinds := [.data, .data, .pinned], laidTests := true, laidLooks := .later }
def EventCodesUptoCardSaid : Prop := Claim7.holds Tryz.pinned (.plain (OpenSpec.upto eventCodesSpec)) eventCodesUptoCard

/-- THE SECOND FORM's CARD OF 'shipyardlaw59.EventDecodes'. -/
def eventDecodesUptoCard : Claim7 := { stood := { row := eventDecodesUptoRow, standIns := [], harness := (true, "61c2aeeaed41041ecf9b7032beaff85e7cb102cd8271415d4235a5f23bd902a9"), looks := true }, kinds := [], alts := [], laidByText := true, laidKinds := [.data, .data, .pinned], laidTests := true, laidLooks := .later }
def EventDecodesUptoCardSaid : Prop := Claim7.holds Tryz.pinned (.plain (OpenSpec.upto eventDecodesSpec)) eventDecodesUptoCard

/-- THE SECOND FORM's CARD OF 'shipyardlaw59.EventCuts'. -/
def eventCutsUptoCard : Claim7 := { stood := { row := eventCutsUptoRow, standIns := [], harness := (true, "61c2aeeaed41041ecf9b7032beaff85e7cb102cd8271415d4235a5f23bd902a9"), looks := true }, kinds := [], alts := [], laidByText := true, laidKinds := [.data, .data, .pinned], laidTests := true, laidLooks := .later }
def EventCutsUptoCardSaid : Prop := Claim7.holds Tryz.pinned (.plain (OpenSpec.upto eventCutsSpec)) eventCutsUptoCard

/-- THE SECOND FORM's CARD OF 'shipyardlaw59.EventSames'. -/
def eventSamesUptoCard : Claim7 := { stood := { row := eventSamesUptoRow, standIns := [], harness := (true, "61c2aeeaed41041ecf9b7032beaff85e7cb102cd8271415d4235a5f23bd902a9"), looks := true }, kinds := [], alts := [], laidByText := true, laidKinds := [.data, .data, .pinned], laidTests := true, laidLooks := .later }
def EventSamesUptoCardSaid : Prop := Claim7.holds Tryz.pinned (.plain (OpenSpec.upto eventSamesSpec)) eventSamesUptoCard
end Rows
end Go.Proofs.YtegjnjmimfgijaaGreatDoor
