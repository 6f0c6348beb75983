/-
  The examples of chapter 16, by evaluation. Conditions: none.
-/
import Derived.Test.YtngginofamlkkaaGreatDoorSk
namespace Go.Proofs.YtngginofamlkkaaGreatDoor
open Go Go.RowKit
theorem alive_yields : yields Tryz.prog 1000 17 = true := by kernel_rfl
def c_true (args : List Value) (Post : Value → Prop) : Prop := args = [] ∧ Post (.bool true)
theorem ok_alive : EntOk Tryz.prog ⟨17, c_true⟩ := pure_yields mixed alive_yields
end Go.Proofs.YtngginofamlkkaaGreatDoor
