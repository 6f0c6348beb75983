/-
  DERIVED. GIVEN WITH THE SEED: THE CARDS: each row of YtojlhapbngcjkaaGreatDoorRows.lean that lists a variable, with what it lists TIED to the program's text (the seventh form; the later family's looks); each row that meets fmt, with fmt's text TOLD by the authors' own Lean function (tested against real Go, not proved from fmt's source: count such statements apart). THE CARD IS WHAT COUNTS. Prove the row's statement (the work); the ties are given (YtojlhapbngcjkaaGreatDoorTie.lean); close each card by the builder's one call (the guide's Derived/Test/ToyasCard.lean, 'card_holds'). Laid BY PROGRAM, IN A SANDBOX (cutbox-door.mjs). By AI agents, Wed Nov 11 2026. No macro, syntax, notation, axiom, sorry.
-/
import Derived.Test.YtojlhapbngcjkaaGreatDoorRows
import GoSem.ClaimSeven
namespace Go.Proofs.YtojlhapbngcjkaaGreatDoor
namespace Rows

/-- THE TIED CARD OF 'shipyardlaw62.DeliveryLists'. -/
def deliveryListsCard : Claim7 := { stood := { row := deliveryListsRow, standIns := [], harness := (true, "f1394dafce0cb5f20993d8741278fce25b5cf8be5e3234bc098bfa067da0d96b"), looks := false }, kinds := [], alts := [], laidByText := true, laidKinds := [.data, .data, .data, .data, .data, .widerDeep, .data, .pinned], laidTests := true, laidLooks := .later }
def DeliveryListsCardSaid : Prop := Claim7.holds Tryz.pinned (.plain (OpenSpec.ofChange deliveryListsSpec)) deliveryListsCard

/-- THE TIED CARD OF 'shipyardlaw62.DeliveryChecks'. -/
def deliveryChecksCard : Claim7 := { stood := { row := deliveryChecksRow, standIns := [], harness := (true, "f1394dafce0cb5f20993d8741278fce25b5cf8be5e3234bc098bfa067da0d96b"), looks := false }, kinds := [], alts := [], laidByText := true, laidKinds := [.data, .data, .data, .data, .data, .widerDeep, .data, .pinned], laidTests := true, laidLooks := .later }
def DeliveryChecksCardSaid : Prop := Claim7.holds Tryz.pinned (.plain (OpenSpec.ofChange deliveryChecksSpec)) deliveryChecksCard

/-- THE SECOND FORM's CARD OF 'shipyardlaw62.DeliveryLists'. -/
def deliveryListsUptoCard : Claim7 := { stood := { row := deliveryListsUptoRow, standIns := [], harness := (true, "f1394dafce0cb5f20993d8741278fce25b5cf8be5e3234bc098bfa067da0d96b"), looks := false }, kinds := [], alts := [], laidByText := true, laidKinds := [.data, .data, .data, .data, .data, .widerDeep, .data, .pinned], laidTests := true, laidLooks := .later }
def DeliveryListsUptoCardSaid : Prop := Claim7.holds Tryz.pinned (.plain (OpenSpec.upto deliveryListsSpec)) deliveryListsUptoCard

/-- THE SECOND FORM's CARD OF 'shipyardlaw62.DeliveryChecks'. -/
def deliveryChecksUptoCard : Claim7 := { stood := { row := deliveryChecksUptoRow, standIns := [], harness := (true, "f1394dafce0cb5f20993d8741278fce25b5cf8be5e3234bc098bfa067da0d96b"), looks := false }, kinds := [], alts := [], laidByText := true, laidKinds := [.data, .data, .data, .data, .data, .widerDeep, .data, .pinned], laidTests := true, laidLooks := .later }
def DeliveryChecksUptoCardSaid : Prop := Claim7.holds Tryz.pinned (.plain (OpenSpec.upto deliveryChecksSpec)) deliveryChecksUptoCard
end Rows
end Go.Proofs.YtojlhapbngcjkaaGreatDoor
