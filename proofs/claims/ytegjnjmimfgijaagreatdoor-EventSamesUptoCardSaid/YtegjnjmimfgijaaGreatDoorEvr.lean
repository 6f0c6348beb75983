/-
  Closed runs by evaluation, part 18: a closed call that returns true. Conditions: as each theorem states them.
-/
import Derived.Test.YtegjnjmimfgijaaGreatDoorEvq
noncomputable section
namespace Go.Proofs.YtegjnjmimfgijaaGreatDoor
open Go Go.RowKit
def yields (P : Program) (k f : Nat) : Bool :=
  match acall P k f [] .e 0 with
  | some (.bool b, _) => b
  | _ => false
theorem yields_call {P : Program} (hm : P.follows .mixedOrders = true) {k f : Nat} (h : yields P k f = true) (w : World) (hg : ∀ g cs, glob g = some cs → ∃ t fz, w.heap[g]? = some (.cells cs t fz)) : Calls P f #[] w fun e w' => e = .returned (.bool true) ∧ Below w.heap.size w w' := by
  unfold yields at h
  split at h
  · rename_i b st hc
    subst h
    exact closed_call hm (args := []) rfl rfl hc w hg
  · cases h
end Go.Proofs.YtegjnjmimfgijaaGreatDoor
