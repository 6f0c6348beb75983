/-
  slices.Equal at points: what must be shown. Conditions: none.
-/
import Derived.Test.YtegjnjmimfgijaaGreatDoorLa
noncomputable section
namespace Go.Proofs.YtegjnjmimfgijaaGreatDoor
open Go Go.RowKit
set_option maxRecDepth 100000
def c_eqPts (args : List Value) (Post : Value → Prop) : Prop := ∃ l m : List Pt, args = [trPt l, trPt m] ∧ Short l ∧ Post (.bool (decide (l = m)))
end Go.Proofs.YtegjnjmimfgijaaGreatDoor
