/-
  DERIVED. GIVEN WITH THE SEED: THE CARDS: each row of YtfgeocpooimojaaDoorRows.lean that lists a variable, with what it lists TIED to the program's text (the seventh form; the later family's looks); each row that meets fmt, with fmt's text TOLD by the authors' own Lean function (tested against real Go, not proved from fmt's source: count such statements apart). THE CARD IS WHAT COUNTS. Prove the row's statement (the work); the ties are given (YtfgeocpooimojaaDoorTie.lean); close each card by the builder's one call (the guide's Derived/Test/ToyasCard.lean, 'card_holds'). Laid BY PROGRAM, IN A SANDBOX (cutbox-door.mjs). By AI agents, Wed Nov 11 2026. No macro, syntax, notation, axiom, sorry.
-/
import Derived.Test.YtfgeocpooimojaaDoorRows
import GoSem.ClaimSeven
namespace Go.Proofs.YtfgeocpooimojaaDoor
namespace Rows

/-- THE TIED CARD OF 'shipyardlaw49.WeightSums'. -/
def weightSumsCard : Claim7 := { stood := { row := weightSumsRow, standIns := [], harness := (true, "2015edfc797d3bf1d940b20cca239dd94fff3f0900d405148e54d0ee6fd194ca"), looks := false }, kinds := [], alts := [], laidByText := true, laidKinds := [.data], laidTests := true, laidLooks := .later }
def WeightSumsCardSaid : Prop := Claim7.holds Tryd.pinned (.plain (OpenSpec.ofChange weightSumsSpec)) weightSumsCard

/-- THE TIED CARD OF 'shipyardlaw49.WeightCentres'. -/
def weightCentresCard : Claim7 := { stood := { row := weightCentresRow, standIns := [], harness := (true, "2015edfc797d3bf1d940b20cca239dd94fff3f0900d405148e54d0ee6fd194ca"), looks := false }, kinds := [], alts := [], laidByText := true, laidKinds := [.data], laidTests := true, laidLooks := .later }
def WeightCentresCardSaid : Prop := Claim7.holds Tryd.pinned (.plain (OpenSpec.ofChange weightCentresSpec)) weightCentresCard

/-- THE TIED CARD OF 'shipyardlaw49.WeightScales'. -/
def weightScalesCard : Claim7 := { stood := { row := weightScalesRow, standIns := [], harness := (true, "2015edfc797d3bf1d940b20cca239dd94fff3f0900d405148e54d0ee6fd194ca"), looks := false }, kinds := [], alts := [], laidByText := true, laidKinds := [.data], laidTests := true, laidLooks := .later }
def WeightScalesCardSaid : Prop := Claim7.holds Tryd.pinned (.plain (OpenSpec.ofChange weightScalesSpec)) weightScalesCard

/-- THE TIED CARD OF 'shipyardlaw49.WeightOrder'. -/
def weightOrderCard : Claim7 := { stood := { row := weightOrderRow, standIns := [], harness := (true, "2015edfc797d3bf1d940b20cca239dd94fff3f0900d405148e54d0ee6fd194ca"), looks := false }, kinds := [], alts := [], laidByText := true, laidKinds := [.data], laidTests := true, laidLooks := .later }
def WeightOrderCardSaid : Prop := Claim7.holds Tryd.pinned (.plain (OpenSpec.ofChange weightOrderSpec)) weightOrderCard

/-- THE TIED CARD OF 'shipyardlaw49.WeightBetween'. -/
def weightBetweenCard : Claim7 := { stood := { row := weightBetweenRow, standIns := [], harness := (true, "2015edfc797d3bf1d940b20cca239dd94fff3f0900d405148e54d0ee6fd194ca"), looks := false }, kinds := [], alts := [], laidByText := true, laidKinds := [.data], laidTests := true, laidLooks := .later }
def WeightBetweenCardSaid : Prop := Claim7.holds Tryd.pinned (.plain (OpenSpec.ofChange weightBetweenSpec)) weightBetweenCard

/-- THE SECOND FORM's CARD OF 'shipyardlaw49.WeightSums'. -/
def weightSumsUptoCard : Claim7 := { stood := { row := weightSumsUptoRow, standIns := [], harness := (true, "2015edfc797d3bf1d940b20cca239dd94fff3f0900d405148e54d0ee6fd194ca"), looks := false }, kinds := [], alts := [], laidByText := true, laidKinds := [.data], laidTests := true, laidLooks := .later }
def WeightSumsUptoCardSaid : Prop := Claim7.holds Tryd.pinned (.plain (OpenSpec.upto weightSumsSpec)) weightSumsUptoCard

/-- THE SECOND FORM's CARD OF 'shipyardlaw49.WeightCentres'. -/
def weightCentresUptoCard : Claim7 := { stood := { row := weightCentresUptoRow, standIns := [], harness := (true, "2015edfc797d3bf1d940b20cca239dd94fff3f0900d405148e54d0ee6fd194ca"), looks := false }, kinds := [], alts := [], laidByText := true, laidKinds := [.data], laidTests := true, laidLooks := .later }
def WeightCentresUptoCardSaid : Prop := Claim7.holds Tryd.pinned (.plain (OpenSpec.upto weightCentresSpec)) weightCentresUptoCard

/-- THE SECOND FORM's CARD OF 'shipyardlaw49.WeightScales'. -/
def weightScalesUptoCard : Claim7 := { stood := { row := weightScalesUptoRow, standIns := [], harness := (true, "2015edfc797d3bf1d940b20cca239dd94fff3f0900d405148e54d0ee6fd194ca"), looks := false }, kinds := [], alts := [], laidByText := true, laidKinds := [.data], laidTests := true, laidLooks := .later }
def WeightScalesUptoCardSaid : Prop := Claim7.holds Tryd.pinned (.plain (OpenSpec.upto weightScalesSpec)) weightScalesUptoCard

/-- THE SECOND FORM's CARD OF 'shipyardlaw49.WeightOrder'. -/
def weightOrderUptoCard : Claim7 := { stood := { row := weightOrderUptoRow, standIns := [], harness := (true, "2015edfc797d3bf1d940b20cca239dd94fff3f0900d405148e54d0ee6fd194ca"), looks := false }, kinds := [], alts := [], laidByText := true, laidKinds := [.data], laidTests := true, laidLooks := .later }
def WeightOrderUptoCardSaid : Prop := Claim7.holds Tryd.pinned (.plain (OpenSpec.upto weightOrderSpec)) weightOrderUptoCard

/-- THE SECOND FORM's CARD OF 'shipyardlaw49.WeightBetween'. -/
def weightBetweenUptoCard : Claim7 := { stood := { row := weightBetweenUptoRow, standIns := [], harness := (true, "2015edfc797d3bf1d940b20cca239dd94fff3f0900d405148e54d0ee6fd194ca"), looks := false }, kinds := [], alts := [], laidByText := true, laidKinds := [.data], laidTests := true, laidLooks := .later }
def WeightBetweenUptoCardSaid : Prop := Claim7.holds Tryd.pinned (.plain (OpenSpec.upto weightBetweenSpec)) weightBetweenUptoCard
end Rows
end Go.Proofs.YtfgeocpooimojaaDoor
