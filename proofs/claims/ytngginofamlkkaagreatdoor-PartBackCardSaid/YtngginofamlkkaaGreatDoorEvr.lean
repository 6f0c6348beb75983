/-
  Closed runs by evaluation, part 18: a closed call that returns true. Conditions: as each theorem states them.
-/
import Derived.Test.YtngginofamlkkaaGreatDoorEvq
noncomputable section
namespace Go.Proofs.YtngginofamlkkaaGreatDoor
open Go Go.RowKit
def yields (P : Program) (k f : Nat) : Bool :=
  match acall P k f [] .e 0 with
  | some (.bool b, _) => b
  | _ => false
theorem yields_call {P : Program} (hm : P.follows .mixedOrders = true) {k f : Nat} (h : yields P k f = true) (w : World) : Calls P f #[] w fun e w' => e = .returned (.bool true) ∧ Below w.heap.size w w' := by
  unfold yields at h
  split at h
  · rename_i b st hc
    subst h
    exact closed_call hm (args := []) rfl rfl hc w
  · cases h
end Go.Proofs.YtngginofamlkkaaGreatDoor
