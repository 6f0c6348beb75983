/-
  DERIVED. GIVEN WITH THE SEED: THE CARDS: each row of YtngginofamlkkaaGreatDoorRows.lean that lists a variable, with what it lists TIED to the program's text (the seventh form; the later family's looks); each row that meets fmt, with fmt's text TOLD by the authors' own Lean function (tested against real Go, not proved from fmt's source: count such statements apart). THE CARD IS WHAT COUNTS. Prove the row's statement (the work); the ties are given (YtngginofamlkkaaGreatDoorTie.lean); close each card by the builder's one call (the guide's Derived/Test/ToyasCard.lean, 'card_holds'). Laid BY PROGRAM, IN A SANDBOX (cutbox-door.mjs). By AI agents, Wed Nov 11 2026. No macro, syntax, notation, axiom, sorry.
-/
import Derived.Test.YtngginofamlkkaaGreatDoorRows
import GoSem.ClaimSeven
namespace Go.Proofs.YtngginofamlkkaaGreatDoor
namespace Rows

/-- THE TIED CARD OF 'shipyardlaw16.PartChecks'. -/
def partChecksCard : Claim7 := { stood := { row := partChecksRow, standIns := [], harness := (true, "bd0ef68524fa47194d88910243925a7b5adb6ed86f56d796293fbfe12128994f"), looks := false }, kinds := [], alts := [], laidByText := true, laidKinds := [.data, .pinned], laidTests := true, laidLooks := .later }
def PartChecksCardSaid : Prop := Claim7.holds Tryz.pinned (.plain (OpenSpec.ofChange partChecksSpec)) partChecksCard

/-- THE TIED CARD OF 'shipyardlaw16.PartWeighs'. -/
def partWeighsCard : Claim7 := { stood := { row := partWeighsRow, standIns := [], harness := (true, "bd0ef68524fa47194d88910243925a7b5adb6ed86f56d796293fbfe12128994f"), looks := false }, kinds := [], alts := [], laidByText := true, laidKinds := [.data, .pinned], laidTests := true, laidLooks := .later }
def PartWeighsCardSaid : Prop := Claim7.holds Tryz.pinned (.plain (OpenSpec.ofChange partWeighsSpec)) partWeighsCard

/-- THE TIED CARD OF 'shipyardlaw16.PartEncodes'. -/
def partEncodesCard : Claim7 := { stood := { row := partEncodesRow, standIns := [], harness := (true, "bd0ef68524fa47194d88910243925a7b5adb6ed86f56d796293fbfe12128994f"), looks := false }, kinds := [], alts := [], laidByText := true, laidKinds := [.data, .pinned], laidTests := true, laidLooks := .later }
def PartEncodesCardSaid : Prop := Claim7.holds Tryz.pinned (.plain (OpenSpec.ofChange partEncodesSpec)) partEncodesCard

/-- THE TIED CARD OF 'shipyardlaw16.PartSame'. -/
def partSameCard : Claim7 := { stood := { row := partSameRow, standIns := [], harness := (true, "bd0ef68524fa47194d88910243925a7b5adb6ed86f56d796293fbfe12128994f"), looks := false }, kinds := [], alts := [], laidByText := true, laidKinds := [.data, .pinned], laidTests := true, laidLooks := .later }
def PartSameCardSaid : Prop := Claim7.holds Tryz.pinned (.plain (OpenSpec.ofChange partSameSpec)) partSameCard

/-- THE TIED CARD OF 'shipyardlaw16.PartMoves'. -/
def partMovesCard : Claim7 := { stood := { row := partMovesRow, standIns := [], harness := (true, "bd0ef68524fa47194d88910243925a7b5adb6ed86f56d796293fbfe12128994f"), looks := false }, kinds := [], alts := [], laidByText := true, laidKinds := [.data, .pinned], laidTests := true, laidLooks := .later }
def PartMovesCardSaid : Prop := Claim7.holds Tryz.pinned (.plain (OpenSpec.ofChange partMovesSpec)) partMovesCard

/-- THE TIED CARD OF 'shipyardlaw16.PartHoles'. -/
def partHolesCard : Claim7 := { stood := { row := partHolesRow, standIns := [], harness := (true, "bd0ef68524fa47194d88910243925a7b5adb6ed86f56d796293fbfe12128994f"), looks := false }, kinds := [], alts := [], laidByText := true, laidKinds := [.data, .pinned], laidTests := true, laidLooks := .later }
def PartHolesCardSaid : Prop := Claim7.holds Tryz.pinned (.plain (OpenSpec.ofChange partHolesSpec)) partHolesCard

/-- THE TIED CARD OF 'shipyardlaw16.PartReads'. -/
def partReadsCard : Claim7 := { stood := { row := partReadsRow, standIns := [], harness := (true, "bd0ef68524fa47194d88910243925a7b5adb6ed86f56d796293fbfe12128994f"), looks := false }, kinds := [], alts := [], laidByText := true, laidKinds := [.data, .pinned], laidTests := true, laidLooks := .later }
def PartReadsCardSaid : Prop := Claim7.holds Tryz.pinned (.plain (OpenSpec.ofChange partReadsSpec)) partReadsCard

/-- THE TIED CARD OF 'shipyardlaw16.PartBack'. -/
def partBackCard : Claim7 := { stood := { row := partBackRow, standIns := [], harness := (true, "bd0ef68524fa47194d88910243925a7b5adb6ed86f56d796293fbfe12128994f"), looks := false }, kinds := [], alts := [], laidByText := true, laidKinds := [.data, .pinned], laidTests := true, laidLooks := .later }
def PartBackCardSaid : Prop := Claim7.holds Tryz.pinned (.plain (OpenSpec.ofChange partBackSpec)) partBackCard

/-- THE TIED CARD OF 'shipyardlaw49.WeightParts'. -/
def weightPartsCard : Claim7 := { stood := { row := weightPartsRow, standIns := [], harness := (true, "bd0ef68524fa47194d88910243925a7b5adb6ed86f56d796293fbfe12128994f"), looks := false }, kinds := [], alts := [], laidByText := true, laidKinds := [.data, .data, .pinned], laidTests := true, laidLooks := .later }
def WeightPartsCardSaid : Prop := Claim7.holds Tryz.pinned (.plain (OpenSpec.ofChange weightPartsSpec)) weightPartsCard

/-- THE TIED CARD OF 'shipyardlaw49.WeightDisjoint'. -/
def weightDisjointCard : Claim7 := { stood := { row := weightDisjointRow, standIns := [], harness := (true, "bd0ef68524fa47194d88910243925a7b5adb6ed86f56d796293fbfe12128994f"), looks := false }, kinds := [], alts := [], laidByText := true, laidKinds := [.data, .data, .pinned], laidTests := true, laidLooks := .later }
def WeightDisjointCardSaid : Prop := Claim7.holds Tryz.pinned (.plain (OpenSpec.ofChange weightDisjointSpec)) weightDisjointCard

/-- THE TIED CARD OF 'shipyardlaw49.WeightMoves'. -/
def weightMovesCard : Claim7 := { stood := { row := weightMovesRow, standIns := [], harness := (true, "bd0ef68524fa47194d88910243925a7b5adb6ed86f56d796293fbfe12128994f"), looks := false }, kinds := [], alts := [], laidByText := true, laidKinds := [.data, .data, .pinned], laidTests := true, laidLooks := .later }
def WeightMovesCardSaid : Prop := Claim7.holds Tryz.pinned (.plain (OpenSpec.ofChange weightMovesSpec)) weightMovesCard

/-- THE SECOND FORM's CARD OF 'shipyardlaw16.PartChecks'. -/
def partChecksUptoCard : Claim7 := { stood := { row := partChecksUptoRow, standIns := [], harness := (true, "bd0ef68524fa47194d88910243925a7b5adb6ed86f56d796293fbfe12128994f"), looks := false }, kinds := [], alts := [], laidByText := true, laidKinds := [.data, .pinned], laidTests := true, laidLooks := .later }
def PartChecksUptoCardSaid : Prop := Claim7.holds Tryz.pinned (.plain (OpenSpec.upto partChecksSpec)) partChecksUptoCard

/-- THE SECOND FORM's CARD OF 'shipyardlaw16.PartWeighs'. -/
def partWeighsUptoCard : Claim7 := { stood := { row := partWeighsUptoRow, standIns := [], harness := (true, "bd0ef68524fa47194d88910243925a7b5adb6ed86f56d796293fbfe12128994f"), looks := false }, kinds := [], alts := [], laidByText := true, laidKinds := [.data, .pinned], laidTests := true, laidLooks := .later }
def PartWeighsUptoCardSaid : Prop := Claim7.holds Tryz.pinned (.plain (OpenSpec.upto partWeighsSpec)) partWeighsUptoCard

/-- THE SECOND FORM's CARD OF 'shipyardlaw16.PartEncodes'. -/
def partEncodesUptoCard : Claim7 := { stood := { row := partEncodesUptoRow, standIns := [], harness := (true, "bd0ef68524fa47194d88910243925a7b5adb6ed86f56d796293fbfe12128994f"), looks := false }, kinds := [], alts := [], laidByText := true, laidKinds := [.data, .pinned], laidTests := true, laidLooks := .later }
def PartEncodesUptoCardSaid : Prop := Claim7.holds Tryz.pinned (.plain (OpenSpec.upto partEncodesSpec)) partEncodesUptoCard

/-- THE SECOND FORM's CARD OF 'shipyardlaw16.PartSame'. -/
def partSameUptoCard : Claim7 := { stood := { row := partSameUptoRow, standIns := [], harness := (true, "bd0ef68524fa47194d88910243925a7b5adb6ed86f56d796293fbfe12128994f"), looks := false }, kinds := [], alts := [], laidByText := true, laidKinds := [.data, .pinned], laidTests := true, laidLooks := .later }
def PartSameUptoCardSaid : Prop := Claim7.holds Tryz.pinned (.plain (OpenSpec.upto partSameSpec)) partSameUptoCard

/-- THE SECOND FORM's CARD OF 'shipyardlaw16.PartMoves'. -/
def partMovesUptoCard : Claim7 := { stood := { row := partMovesUptoRow, standIns := [], harness := (true, "bd0ef68524fa47194d88910243925a7b5adb6ed86f56d796293fbfe12128994f"), looks := false }, kinds := [], alts := [], laidByText := true, laidKinds := [.data, .pinned], laidTests := true, laidLooks := .later }
def PartMovesUptoCardSaid : Prop := Claim7.holds Tryz.pinned (.plain (OpenSpec.upto partMovesSpec)) partMovesUptoCard

/-- THE SECOND FORM's CARD OF 'shipyardlaw16.PartHoles'. -/
def partHolesUptoCard : Claim7 := { stood := { row := partHolesUptoRow, standIns := [], harness := (true, "bd0ef68524fa47194d88910243925a7b5adb6ed86f56d796293fbfe12128994f"), looks := false }, kinds := [], alts := [], laidByText := true, laidKinds := [.data, .pinned], laidTests := true, laidLooks := .later }
def PartHolesUptoCardSaid : Prop := Claim7.holds Tryz.pinned (.plain (OpenSpec.upto partHolesSpec)) partHolesUptoCard

/-- THE SECOND FORM's CARD OF 'shipyardlaw16.PartReads'. -/
def partReadsUptoCard : Claim7 := { stood := { row := partReadsUptoRow, standIns := [], harness := (true, "bd0ef68524fa47194d88910243925a7b5adb6ed86f56d796293fbfe12128994f"), looks := false }, kinds := [], alts := [], laidByText := true, laidKinds := [.data, .pinned], laidTests := true, laidLooks := .later }
def PartReadsUptoCardSaid : Prop := Claim7.holds Tryz.pinned (.plain (OpenSpec.upto partReadsSpec)) partReadsUptoCard

/-- THE SECOND FORM's CARD OF 'shipyardlaw16.PartBack'. -/
def partBackUptoCard : Claim7 := { stood := { row := partBackUptoRow, standIns := [], harness := (true, "bd0ef68524fa47194d88910243925a7b5adb6ed86f56d796293fbfe12128994f"), looks := false }, kinds := [], alts := [], laidByText := true, laidKinds := [.data, .pinned], laidTests := true, laidLooks := .later }
def PartBackUptoCardSaid : Prop := Claim7.holds Tryz.pinned (.plain (OpenSpec.upto partBackSpec)) partBackUptoCard

/-- THE SECOND FORM's CARD OF 'shipyardlaw49.WeightParts'. -/
def weightPartsUptoCard : Claim7 := { stood := { row := weightPartsUptoRow, standIns := [], harness := (true, "bd0ef68524fa47194d88910243925a7b5adb6ed86f56d796293fbfe12128994f"), looks := false }, kinds := [], alts := [], laidByText := true, laidKinds := [.data, .data, .pinned], laidTests := true, laidLooks := .later }
def WeightPartsUptoCardSaid : Prop := Claim7.holds Tryz.pinned (.plain (OpenSpec.upto weightPartsSpec)) weightPartsUptoCard

/-- THE SECOND FORM's CARD OF 'shipyardlaw49.WeightDisjoint'. -/
def weightDisjointUptoCard : Claim7 := { stood := { row := weightDisjointUptoRow, standIns := [], harness := (true, "bd0ef68524fa47194d88910243925a7b5adb6ed86f56d796293fbfe12128994f"), looks := false }, kinds := [], alts := [], laidByText := true, laidKinds := [.data, .data, .pinned], laidTests := true, laidLooks := .later }
def WeightDisjointUptoCardSaid : Prop := Claim7.holds Tryz.pinned (.plain (OpenSpec.upto weightDisjointSpec)) weightDisjointUptoCard

/-- THE SECOND FORM's CARD OF 'shipyardlaw49.WeightMoves'. -/
def weightMovesUptoCard : Claim7 := { stood := { row := weightMovesUptoRow, standIns := [], harness := (true, "bd0ef68524fa47194d88910243925a7b5adb6ed86f56d796293fbfe12128994f"), looks := false }, kinds := [], alts := [], laidByText := true, laidKinds := [.data, .data, .pinned], laidTests := true, laidLooks := .later }
def WeightMovesUptoCardSaid : Prop := Claim7.holds Tryz.pinned (.plain (OpenSpec.upto weightMovesSpec)) weightMovesUptoCard
end Rows
end Go.Proofs.YtngginofamlkkaaGreatDoor
