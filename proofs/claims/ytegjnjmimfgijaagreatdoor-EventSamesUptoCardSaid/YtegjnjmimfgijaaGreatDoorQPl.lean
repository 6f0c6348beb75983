/-
  Few: whether the lists are short, by the document. Conditions: none. Arguments opened, with how much they hold. Conditions: as each theorem states them. Events and change orders among the arguments, opened, with how much they hold. Conditions: as each theorem states them. Events that the bound lets in: what the contracts want of them. Conditions: none. Plain contracts, called with slices that are nil. Conditions: as each theorem states them. strings.Builder inside a struct of one field (package event's writer): what copyCheck, WriteString and String do. Conditions: as each theorem states them. A writer's bytes, hidden beside a symbolic run. Conditions: as each theorem states them. A run that makes a writer and goes on beside its hidden bytes. Conditions: as each theorem states them. A function that is handed a struct's address and a writer: as a call beside the writer's hidden bytes. Conditions: as each theorem states them. strings.Count and IndexByte at a dot. Conditions: as each theorem states them.
-/
import Derived.Test.YtegjnjmimfgijaaGreatDoorQOg
import Derived.Test.YtegjnjmimfgijaaGreatDoorMa
import Derived.Test.YtegjnjmimfgijaaGreatDoorRows
import Derived.Test.YtegjnjmimfgijaaGreatDoorQLd
import Derived.Test.YtegjnjmimfgijaaGreatDoorMb
import Derived.Test.YtegjnjmimfgijaaGreatDoorProg
import Derived.Test.YtegjnjmimfgijaaGreatDoorBase
import Derived.WalkSpells
import Derived.WalkLawsBesides
import Derived.Deep.QuietTactic
import Derived.BigQuiet
import Derived.Shelf.Strings.Builder1
import Derived.Test.YtegjnjmimfgijaaGreatDoorQSr
import Derived.Test.YtegjnjmimfgijaaGreatDoorSj
import Derived.Lib.Bytealg
noncomputable section
namespace Go.Proofs.YtegjnjmimfgijaaGreatDoor
open Go Go.RowKit
set_option maxRecDepth 100000
def fewX (x : Edit) : Prop := x.pack.parts.length ≤ 40 ∧ x.pack.after.length ≤ 40 ∧ x.part.outer.length ≤ 100 ∧ x.part.holes.length ≤ 20 ∧ ∀ h ∈ x.part.holes, h.length ≤ 100
instance (x : Edit) : Decidable (fewX x) := by unfold fewX; infer_instance
def few20 (o : Order2) (m : Int) : Prop := o.id.size ≤ 100 ∧ (o.edits.length : Int) ≤ m ∧ ∀ x ∈ o.edits, fewX x
instance (o : Order2) (m : Int) : Decidable (few20 o m) := by unfold few20; infer_instance
def few59 (x : Event) (m : Int) : Prop := few20 x.order m ∧ (x.nest.spots.length : Int) ≤ m ∧ (x.saw.parts.length : Int) ≤ m ∧ (x.lift.hooks.length : Int) ≤ m ∧ (x.weig.parts.length : Int) ≤ m
instance (x : Event) (m : Int) : Decidable (few59 x m) := by unfold few59; infer_instance
theorem e_few20 (o : Order2) (m : Int) (H : Code → List Fr → AS → Prop) (Post : Value → Prop) : vcP Tryz.prog noCall 19 [(4, [1, 2, 5]), (10, [1, 2, 5, 6, 7])] [order2V o, .int .i64 m] H Post = (True ∧ True ∧ True ∧ True ∧ True ∧ True ∧ pIf (decide ((↑(ByteArray.size (Order2.id o)) : Int) > 100)) (True ∧ True ∧ True ∧ True ∧ Post (Value.bool false)) (True ∧ True ∧ True ∧ True ∧ True ∧ True ∧ pIf (decide ((↑(List.length (Order2.edits o)) : Int) > m)) (True ∧ True ∧ True ∧ Post (Value.bool false)) (True ∧ True ∧ True ∧ (True ∧ True) ∧ H (lpC Tryz.prog 19 4) (lpK Tryz.prog 19 4) (stV [(1, some (Value.int IntKind.i64 m)), (2, some (Value.pointer (some (Addr.mk 0 0 none)))), (5, some (Value.int IntKind.i64 0))] [(0, some (AObj.cells [Value.string (Order2.id o), tree 38 (List.length (Order2.edits o)) (encL (Order2.edits o))] true))] 1)))) := by kernel_rfl
theorem l_few20 (o : Order2) (m k : Int) (H : Code → List Fr → AS → Prop) (Post : Value → Prop) : vcLP Tryz.prog noCall 19 [order2V o, .int .i64 m] [(4, [1, 2, 5]), (10, [1, 2, 5, 6, 7])] 4 (stV [(1, some (.int .i64 m)), (2, some (.pointer (some ⟨0, 0, none⟩))), (5, some (.int .i64 k))] [(0, some (.cells (order2C o) true))] 1) H Post = (True ∧ True ∧ True ∧ True ∧ True ∧ pIf (decide (k < (↑(List.length (Order2.edits o)) : Int))) (True ∧ True ∧ True ∧ (0 ≤ k ∧ k < (↑(List.length (Order2.edits o)) : Int)) ∧ (cellAt (encL (Order2.edits o)) (Int.toNat k) 0 = Value.int IntKind.i64 (toI (cellAt (encL (Order2.edits o)) (Int.toNat k) 0)) ∧ cellAt (encL (Order2.edits o)) (Int.toNat k) 1 = Value.string (toS (cellAt (encL (Order2.edits o)) (Int.toNat k) 1)) ∧ cellAt (encL (Order2.edits o)) (Int.toNat k) 2 = Value.string (toS (cellAt (encL (Order2.edits o)) (Int.toNat k) 2)) ∧ cellAt (encL (Order2.edits o)) (Int.toNat k) 3 = Value.string (toS (cellAt (encL (Order2.edits o)) (Int.toNat k) 3)) ∧ cellAt (encL (Order2.edits o)) (Int.toNat k) 4 = Value.int IntKind.i64 (toI (cellAt (encL (Order2.edits o)) (Int.toNat k) 4)) ∧ cellAt (encL (Order2.edits o)) (Int.toNat k) 5 = Value.string (toS (cellAt (encL (Order2.edits o)) (Int.toNat k) 5)) ∧ cellAt (encL (Order2.edits o)) (Int.toNat k) 6 = Value.string (toS (cellAt (encL (Order2.edits o)) (Int.toNat k) 6)) ∧ cellAt (encL (Order2.edits o)) (Int.toNat k) 7 = Value.int IntKind.i64 (toI (cellAt (encL (Order2.edits o)) (Int.toNat k) 7)) ∧ cellAt (encL (Order2.edits o)) (Int.toNat k) 8 = Value.int IntKind.i64 (toI (cellAt (encL (Order2.edits o)) (Int.toNat k) 8)) ∧ cellAt (encL (Order2.edits o)) (Int.toNat k) 9 = Value.string (toS (cellAt (encL (Order2.edits o)) (Int.toNat k) 9)) ∧ cellAt (encL (Order2.edits o)) (Int.toNat k) 10 = Value.string (toS (cellAt (encL (Order2.edits o)) (Int.toNat k) 10)) ∧ cellAt (encL (Order2.edits o)) (Int.toNat k) 11 = Value.int IntKind.i64 (toI (cellAt (encL (Order2.edits o)) (Int.toNat k) 11)) ∧ cellAt (encL (Order2.edits o)) (Int.toNat k) 12 = tree 2 (toN (cellAt (encL (Order2.edits o)) (Int.toNat k) 12)) (toE (cellAt (encL (Order2.edits o)) (Int.toNat k) 12)) ∧ cellAt (encL (Order2.edits o)) (Int.toNat k) 13 = tree 1 (toN (cellAt (encL (Order2.edits o)) (Int.toNat k) 13)) (toE (cellAt (encL (Order2.edits o)) (Int.toNat k) 13)) ∧ cellAt (encL (Order2.edits o)) (Int.toNat k) 14 = Value.string (toS (cellAt (encL (Order2.edits o)) (Int.toNat k) 14)) ∧ cellAt (encL (Order2.edits o)) (Int.toNat k) 15 = Value.int IntKind.i64 (toI (cellAt (encL (Order2.edits o)) (Int.toNat k) 15)) ∧ cellAt (encL (Order2.edits o)) (Int.toNat k) 16 = Value.int IntKind.i64 (toI (cellAt (encL (Order2.edits o)) (Int.toNat k) 16)) ∧ cellAt (encL (Order2.edits o)) (Int.toNat k) 17 = Value.int IntKind.i64 (toI (cellAt (encL (Order2.edits o)) (Int.toNat k) 17)) ∧ cellAt (encL (Order2.edits o)) (Int.toNat k) 18 = Value.int IntKind.i64 (toI (cellAt (encL (Order2.edits o)) (Int.toNat k) 18)) ∧ cellAt (encL (Order2.edits o)) (Int.toNat k) 19 = Value.int IntKind.i64 (toI (cellAt (encL (Order2.edits o)) (Int.toNat k) 19)) ∧ cellAt (encL (Order2.edits o)) (Int.toNat k) 20 = Value.int IntKind.i64 (toI (cellAt (encL (Order2.edits o)) (Int.toNat k) 20)) ∧ cellAt (encL (Order2.edits o)) (Int.toNat k) 21 = Value.int IntKind.i64 (toI (cellAt (encL (Order2.edits o)) (Int.toNat k) 21)) ∧ cellAt (encL (Order2.edits o)) (Int.toNat k) 22 = Value.int IntKind.i64 (toI (cellAt (encL (Order2.edits o)) (Int.toNat k) 22)) ∧ cellAt (encL (Order2.edits o)) (Int.toNat k) 23 = Value.int IntKind.i64 (toI (cellAt (encL (Order2.edits o)) (Int.toNat k) 23)) ∧ cellAt (encL (Order2.edits o)) (Int.toNat k) 24 = Value.string (toS (cellAt (encL (Order2.edits o)) (Int.toNat k) 24)) ∧ cellAt (encL (Order2.edits o)) (Int.toNat k) 25 = Value.string (toS (cellAt (encL (Order2.edits o)) (Int.toNat k) 25)) ∧ cellAt (encL (Order2.edits o)) (Int.toNat k) 26 = Value.string (toS (cellAt (encL (Order2.edits o)) (Int.toNat k) 26)) ∧ cellAt (encL (Order2.edits o)) (Int.toNat k) 27 = Value.int IntKind.i64 (toI (cellAt (encL (Order2.edits o)) (Int.toNat k) 27)) ∧ cellAt (encL (Order2.edits o)) (Int.toNat k) 28 = Value.int IntKind.i64 (toI (cellAt (encL (Order2.edits o)) (Int.toNat k) 28)) ∧ cellAt (encL (Order2.edits o)) (Int.toNat k) 29 = Value.int IntKind.i64 (toI (cellAt (encL (Order2.edits o)) (Int.toNat k) 29)) ∧ cellAt (encL (Order2.edits o)) (Int.toNat k) 30 = Value.string (toS (cellAt (encL (Order2.edits o)) (Int.toNat k) 30)) ∧ cellAt (encL (Order2.edits o)) (Int.toNat k) 31 = Value.string (toS (cellAt (encL (Order2.edits o)) (Int.toNat k) 31)) ∧ cellAt (encL (Order2.edits o)) (Int.toNat k) 32 = tree 1 (toN (cellAt (encL (Order2.edits o)) (Int.toNat k) 32)) (toE (cellAt (encL (Order2.edits o)) (Int.toNat k) 32)) ∧ cellAt (encL (Order2.edits o)) (Int.toNat k) 33 = Value.int IntKind.i64 (toI (cellAt (encL (Order2.edits o)) (Int.toNat k) 33)) ∧ cellAt (encL (Order2.edits o)) (Int.toNat k) 34 = tree 1 (toN (cellAt (encL (Order2.edits o)) (Int.toNat k) 34)) (toE (cellAt (encL (Order2.edits o)) (Int.toNat k) 34)) ∧ cellAt (encL (Order2.edits o)) (Int.toNat k) 35 = Value.int IntKind.i64 (toI (cellAt (encL (Order2.edits o)) (Int.toNat k) 35)) ∧ cellAt (encL (Order2.edits o)) (Int.toNat k) 36 = Value.string (toS (cellAt (encL (Order2.edits o)) (Int.toNat k) 36)) ∧ cellAt (encL (Order2.edits o)) (Int.toNat k) 37 = Value.string (toS (cellAt (encL (Order2.edits o)) (Int.toNat k) 37)) ∧ True) ∧ True ∧ 38 ≤ 38 ∧ True ∧ True ∧ True ∧ True ∧ True ∧ pIf (decide ((↑(toN (cellAt (encL (Order2.edits o)) (Int.toNat k) 32)) : Int) > 40)) (True ∧ True ∧ True ∧ True ∧ True ∧ True ∧ True ∧ True ∧ Post (Value.bool false)) (True ∧ True ∧ True ∧ True ∧ True ∧ True ∧ pIf (decide ((↑(toN (cellAt (encL (Order2.edits o)) (Int.toNat k) 34)) : Int) > 40)) (True ∧ True ∧ True ∧ True ∧ True ∧ True ∧ True ∧ Post (Value.bool false)) (True ∧ True ∧ True ∧ True ∧ True ∧ True ∧ True ∧ True ∧ pIf (decide ((↑(toN (cellAt (encL (Order2.edits o)) (Int.toNat k) 12)) : Int) > 100)) (True ∧ True ∧ True ∧ True ∧ True ∧ Post (Value.bool false)) (True ∧ True ∧ True ∧ True ∧ True ∧ True ∧ True ∧ True ∧ pIf (decide ((↑(toN (cellAt (encL (Order2.edits o)) (Int.toNat k) 13)) : Int) > 20)) (True ∧ True ∧ True ∧ Post (Value.bool false)) (True ∧ True ∧ True ∧ (True ∧ True ∧ True) ∧ H (lpC Tryz.prog 19 10) (lpK Tryz.prog 19 10) (stV [(1, some (Value.int IntKind.i64 m)), (2, some (Value.pointer (some (Addr.mk 0 0 none)))), (5, some (Value.int IntKind.i64 k)), (6, some (Value.pointer (some (Addr.mk 1 0 none)))), (7, some (Value.int IntKind.i64 0))] [(0, some (AObj.cells [Value.string (Order2.id o), tree 38 (List.length (Order2.edits o)) (encL (Order2.edits o))] true)), (1, some (AObj.cells [Value.int IntKind.i64 (toI (cellAt (encL (Order2.edits o)) (Int.toNat k) 0)), Value.string (toS (cellAt (encL (Order2.edits o)) (Int.toNat k) 1)), Value.string (toS (cellAt (encL (Order2.edits o)) (Int.toNat k) 2)), Value.string (toS (cellAt (encL (Order2.edits o)) (Int.toNat k) 3)), Value.int IntKind.i64 (toI (cellAt (encL (Order2.edits o)) (Int.toNat k) 4)), Value.string (toS (cellAt (encL (Order2.edits o)) (Int.toNat k) 5)), Value.string (toS (cellAt (encL (Order2.edits o)) (Int.toNat k) 6)), Value.int IntKind.i64 (toI (cellAt (encL (Order2.edits o)) (Int.toNat k) 7)), Value.int IntKind.i64 (toI (cellAt (encL (Order2.edits o)) (Int.toNat k) 8)), Value.string (toS (cellAt (encL (Order2.edits o)) (Int.toNat k) 9)), Value.string (toS (cellAt (encL (Order2.edits o)) (Int.toNat k) 10)), Value.int IntKind.i64 (toI (cellAt (encL (Order2.edits o)) (Int.toNat k) 11)), tree 2 (toN (cellAt (encL (Order2.edits o)) (Int.toNat k) 12)) (toE (cellAt (encL (Order2.edits o)) (Int.toNat k) 12)), tree 1 (toN (cellAt (encL (Order2.edits o)) (Int.toNat k) 13)) (toE (cellAt (encL (Order2.edits o)) (Int.toNat k) 13)), Value.string (toS (cellAt (encL (Order2.edits o)) (Int.toNat k) 14)), Value.int IntKind.i64 (toI (cellAt (encL (Order2.edits o)) (Int.toNat k) 15)), Value.int IntKind.i64 (toI (cellAt (encL (Order2.edits o)) (Int.toNat k) 16)), Value.int IntKind.i64 (toI (cellAt (encL (Order2.edits o)) (Int.toNat k) 17)), Value.int IntKind.i64 (toI (cellAt (encL (Order2.edits o)) (Int.toNat k) 18)), Value.int IntKind.i64 (toI (cellAt (encL (Order2.edits o)) (Int.toNat k) 19)), Value.int IntKind.i64 (toI (cellAt (encL (Order2.edits o)) (Int.toNat k) 20)), Value.int IntKind.i64 (toI (cellAt (encL (Order2.edits o)) (Int.toNat k) 21)), Value.int IntKind.i64 (toI (cellAt (encL (Order2.edits o)) (Int.toNat k) 22)), Value.int IntKind.i64 (toI (cellAt (encL (Order2.edits o)) (Int.toNat k) 23)), Value.string (toS (cellAt (encL (Order2.edits o)) (Int.toNat k) 24)), Value.string (toS (cellAt (encL (Order2.edits o)) (Int.toNat k) 25)), Value.string (toS (cellAt (encL (Order2.edits o)) (Int.toNat k) 26)), Value.int IntKind.i64 (toI (cellAt (encL (Order2.edits o)) (Int.toNat k) 27)), Value.int IntKind.i64 (toI (cellAt (encL (Order2.edits o)) (Int.toNat k) 28)), Value.int IntKind.i64 (toI (cellAt (encL (Order2.edits o)) (Int.toNat k) 29)), Value.string (toS (cellAt (encL (Order2.edits o)) (Int.toNat k) 30)), Value.string (toS (cellAt (encL (Order2.edits o)) (Int.toNat k) 31)), tree 1 (toN (cellAt (encL (Order2.edits o)) (Int.toNat k) 32)) (toE (cellAt (encL (Order2.edits o)) (Int.toNat k) 32)), Value.int IntKind.i64 (toI (cellAt (encL (Order2.edits o)) (Int.toNat k) 33)), tree 1 (toN (cellAt (encL (Order2.edits o)) (Int.toNat k) 34)) (toE (cellAt (encL (Order2.edits o)) (Int.toNat k) 34)), Value.int IntKind.i64 (toI (cellAt (encL (Order2.edits o)) (Int.toNat k) 35)), Value.string (toS (cellAt (encL (Order2.edits o)) (Int.toNat k) 36)), Value.string (toS (cellAt (encL (Order2.edits o)) (Int.toNat k) 37))] true))] 2)))))) (True ∧ True ∧ Post (Value.bool true))) := by kernel_rfl
theorem l_few20i (o : Order2) (m k i : Int) (x : Edit) (H : Code → List Fr → AS → Prop) (Post : Value → Prop) : vcLP Tryz.prog noCall 19 [order2V o, .int .i64 m] [(4, [1, 2, 5]), (10, [1, 2, 5, 6, 7])] 10 (stV [(1, some (.int .i64 m)), (2, some (.pointer (some ⟨0, 0, none⟩))), (5, some (.int .i64 k)), (6, some (.pointer (some ⟨1, 0, none⟩))), (7, some (.int .i64 i))] [(0, some (.cells (order2C o) true)), (1, some (.cells (editC x) true))] 2) H Post = (True ∧ True ∧ True ∧ True ∧ True ∧ True ∧ True ∧ pIf (decide (i < (↑(List.length (Part.holes (Edit.part x))) : Int))) (True ∧ True ∧ True ∧ True ∧ True ∧ (0 ≤ i ∧ i < (↑(List.length (Part.holes (Edit.part x))) : Int)) ∧ cellAt (encL (Part.holes (Edit.part x))) (Int.toNat i) 0 = tree 2 (toN (cellAt (encL (Part.holes (Edit.part x))) (Int.toNat i) 0)) (toE (cellAt (encL (Part.holes (Edit.part x))) (Int.toNat i) 0)) ∧ True ∧ True ∧ pIf (decide ((↑(toN (cellAt (encL (Part.holes (Edit.part x))) (Int.toNat i) 0)) : Int) > 100)) (True ∧ True ∧ Post (Value.bool false)) (True ∧ True ∧ True ∧ True ∧ (True ∧ True ∧ True) ∧ H (lpC Tryz.prog 19 10) (lpK Tryz.prog 19 10) (stV [(1, some (Value.int IntKind.i64 m)), (2, some (Value.pointer (some (Addr.mk 0 0 none)))), (5, some (Value.int IntKind.i64 k)), (6, some (Value.pointer (some (Addr.mk 1 0 none)))), (7, some (Value.int IntKind.i64 (IntKind.wrap IntKind.i64 (i + 1))))] [(0, some (AObj.cells [Value.string (Order2.id o), tree 38 (List.length (Order2.edits o)) (encL (Order2.edits o))] true)), (1, some (AObj.cells [Value.int IntKind.i64 (Edit.kind x), Value.string (Edit.id x), Value.string (Edit.to x), Value.string (Node3.id (Edit.node x)), Value.int IntKind.i64 (Node3.kind (Edit.node x)), Value.string (Node3.parent (Edit.node x)), Value.string (Part.id (Edit.part x)), Value.int IntKind.i64 (Part.rev (Edit.part x)), Value.int IntKind.i64 (Part.kind (Edit.part x)), Value.string (Part.node (Edit.part x)), Value.string (Part.grade (Edit.part x)), Value.int IntKind.i64 (Part.thick (Edit.part x)), tree 2 (List.length (Part.outer (Edit.part x))) (encL (Part.outer (Edit.part x))), tree 1 (List.length (Part.holes (Edit.part x))) (encL (Part.holes (Edit.part x))), Value.string (Part.sect (Edit.part x)), Value.int IntKind.i64 (Part.long (Edit.part x)), Value.int IntKind.i64 (Part.mass (Edit.part x)), Value.int IntKind.i64 (Vec3.x (Part.centre (Edit.part x))), Value.int IntKind.i64 (Vec3.y (Part.centre (Edit.part x))), Value.int IntKind.i64 (Vec3.z (Part.centre (Edit.part x))), Value.int IntKind.i64 (Vec3.x (Part.at_ (Edit.part x))), Value.int IntKind.i64 (Vec3.y (Part.at_ (Edit.part x))), Value.int IntKind.i64 (Vec3.z (Part.at_ (Edit.part x))), Value.int IntKind.i64 (Part.turn (Edit.part x)), Value.string (Seam6.id (Edit.seam x)), Value.string (Seam6.a (Edit.seam x)), Value.string (Seam6.b (Edit.seam x)), Value.int IntKind.i64 (Seam6.kind (Edit.seam x)), Value.int IntKind.i64 (Seam6.long (Edit.seam x)), Value.int IntKind.i64 (Seam6.cls (Edit.seam x)), Value.string (Pack5.id (Edit.pack x)), Value.string (Pack5.block (Edit.pack x)), tree 1 (List.length (Pack5.parts (Edit.pack x))) (encL (Pack5.parts (Edit.pack x))), Value.int IntKind.i64 (Pack5.hours (Edit.pack x)), tree 1 (List.length (Pack5.after (Edit.pack x))) (encL (Pack5.after (Edit.pack x))), Value.int IntKind.i64 (Need3.kind (Edit.need x)), Value.string (Need3.block (Edit.need x)), Value.string (Need3.on (Edit.need x))] true))] 2))) (True ∧ True ∧ True ∧ True ∧ (True ∧ True) ∧ H (lpC Tryz.prog 19 4) (lpK Tryz.prog 19 4) (stV [(1, some (Value.int IntKind.i64 m)), (2, some (Value.pointer (some (Addr.mk 0 0 none)))), (5, some (Value.int IntKind.i64 (IntKind.wrap IntKind.i64 (k + 1))))] [(0, some (AObj.cells [Value.string (Order2.id o), tree 38 (List.length (Order2.edits o)) (encL (Order2.edits o))] true))] 1))) := by kernel_rfl
/-- Along a list, as long as all is well. -/
theorem all_down {α : Type} {l : List α} {P : α → Prop} {G : Nat → Prop} (hend : (∀ a ∈ l, P a) → G l.length) (h : ∀ (k : Nat) (h1 : k < l.length), (P l[k] → G (k + 1)) → G k) : G 0 := by
  refine down (n := l.length) (p := fun k => (∀ (i : Nat) (hi : i < l.length), i < k → P l[i]) → G k) (fun hall => hend fun a ha => ?_) (fun k h1 ih hall => h k h1 fun hp => ih fun i hi hik => ?_) (fun i hi h0 => by omega)
  · obtain ⟨i, hi, rfl⟩ := List.mem_iff_getElem.1 ha
    exact hall i hi hi
  · rcases Nat.lt_or_ge i k with h' | h'
    · exact hall i hi h'
    · have : i = k := by omega
      subst this
      exact hp
def c_Few20 (args : List Value) (Post : Value → Prop) : Prop := ∃ (o : Order2) (m : Int), args = [order2V o, .int .i64 m] ∧ m ≤ 1000 ∧ Post (.bool (decide (few20 o m)))
theorem ok_few20 : EntOk Tryz.prog ⟨19, c_Few20⟩ := by
  rintro args Post ⟨o, m, rfl, hm, hP⟩
  refine pure_P (vc := noCall) noCall_ok mixed (by kernel_rfl) (by kernel_rfl) _ (e_few20 o m _ _) ?_
  simp only [true_and, pIf_iff, decide_eq_false_iff_not, decide_eq_true_eq]
  have no : ¬ few20 o m → Post (.bool false) := fun hn => of_b hP (decide_eq_false hn)
  refine ⟨fun h => no fun f => ?_, fun h1 => ⟨fun h => no fun f => ?_, fun h2 => ?_⟩⟩
  · have := f.1; omega
  · have := f.2.1; omega
  refine all_down (l := o.edits) (P := fewX) (G := fun k => OkP 19 [order2V o, .int .i64 m] 4 Post (stV [(1, some (.int .i64 m)), (2, some (.pointer (some ⟨0, 0, none⟩))), (5, some (.int .i64 k))] [(0, some (.cells (order2C o) true))] 1)) (fun hall => ?_) (fun k hk ih => ?_)
  · refine ok_P (vc := noCall) noCall_ok mixed _ (l_few20 o m _ _ _) ?_
    simp only [true_and, and_true, pIf_iff, decide_eq_true_eq, decide_eq_false_iff_not]
    exact ⟨fun h' => by omega, fun _ => of_b hP (decide_eq_true ⟨by omega, by omega, hall⟩)⟩
  · have bad : ¬ fewX o.edits[k] → Post (.bool false) := fun hn => no fun f => hn (f.2.2 _ (List.getElem_mem hk))
    refine ok_P (vc := noCall) noCall_ok mixed _ (l_few20 o m _ _ _) ?_
    simp only [true_and, and_true, pIf_iff, decide_eq_true_eq, decide_eq_false_iff_not, Int.toNat_natCast, cell_edit hk, editC, List.getElem?_cons_succ, List.getElem?_cons_zero, Option.getD_some, toI, toS, toB, toN_tree, toE_tree]
    refine ⟨fun _ => ⟨by omega, by decide, fun h => bad fun f => ?_, fun g1 => ⟨fun h => bad fun f => ?_, fun g2 => ⟨fun h => bad fun f => ?_, fun g3 => ⟨fun h => bad fun f => ?_, fun g4 => ?_⟩⟩⟩⟩, fun h' => by omega⟩
    · have := f.1; omega
    · have := f.2.1; omega
    · have := f.2.2.1; omega
    · have := f.2.2.2.1; omega
    refine all_down (l := o.edits[k].part.holes) (P := fun h => h.length ≤ 100) (G := fun i => OkP 19 [order2V o, .int .i64 m] 10 Post (stV [(1, some (.int .i64 m)), (2, some (.pointer (some ⟨0, 0, none⟩))), (5, some (.int .i64 k)), (6, some (.pointer (some ⟨1, 0, none⟩))), (7, some (.int .i64 i))] [(0, some (.cells (order2C o) true)), (1, some (.cells (editC o.edits[k]) true))] 2)) (fun hall => ?_) (fun i hi ihi => ?_)
    · refine ok_P (vc := noCall) noCall_ok mixed _ (l_few20i o m _ _ _ _ _) ?_
      simp only [true_and, and_true, pIf_iff, decide_eq_true_eq, decide_eq_false_iff_not]
      refine ⟨fun h' => by omega, fun _ => ?_⟩
      rw [wrapSucc (by omega)]
      exact ih ⟨by omega, by omega, by omega, by omega, hall⟩
    · refine ok_P (vc := noCall) noCall_ok mixed _ (l_few20i o m _ _ _ _ _) ?_
      simp only [true_and, and_true, pIf_iff, decide_eq_true_eq, decide_eq_false_iff_not, Int.toNat_natCast, cell_pts hi, toN_tree, toE_tree]
      refine ⟨fun _ => ⟨by omega, fun h => bad fun f => ?_, fun h => ?_⟩, fun h' => by omega⟩
      · have := f.2.2.2.2 _ (List.getElem_mem hi); omega
      · rw [wrapSucc (by omega)]
        exact ihi (by omega)
def tabF20 : List Ent := [⟨19, c_Few20⟩]
theorem tabF20_ok : VCallOk Tryz.prog (tabCall tabF20 noCall) := tabCall_ok (by
  intro e he
  simp only [tabF20, List.mem_cons, List.not_mem_nil, or_false] at he
  subst he
  exact ok_few20) noCall_ok
theorem e_few59 (x : Event) (m : Int) (H : Code → List Fr → AS → Prop) (Post : Value → Prop) : vcP Tryz.prog (tabCall tabF20 noCall) 8 [] [eventV x, .int .i64 m] H Post = (True ∧ True ∧ True ∧ True ∧ True ∧ ∃ (o : Order2), ∃ (m_1 : Int), eqL [Value.agg #[Value.string (Order2.id (Event.order x)), tree 38 (List.length (Order2.edits (Event.order x))) (encL (Order2.edits (Event.order x)))], Value.int IntKind.i64 m] [order2V o, Value.int IntKind.i64 m_1] ∧ m_1 ≤ 1000 ∧ pIf (decide (few20 o m_1)) (True ∧ True ∧ True ∧ True ∧ True ∧ True ∧ True ∧ pIf (decide ((↑(List.length (Nest3.spots (Event.nest x))) : Int) ≤ m)) (True ∧ True ∧ True ∧ True ∧ True ∧ True ∧ True ∧ True ∧ pIf (decide ((↑(List.length (Saw3.parts (Event.saw x))) : Int) ≤ m)) (True ∧ True ∧ True ∧ True ∧ True ∧ True ∧ True ∧ True ∧ pIf (decide ((↑(List.length (Lift2.hooks (Event.lift x))) : Int) ≤ m)) (True ∧ True ∧ True ∧ True ∧ True ∧ True ∧ True ∧ True ∧ pIf (decide ((↑(List.length (Weig.parts (Event.weig x))) : Int) ≤ m)) (True ∧ True ∧ True ∧ Post (Value.bool true)) (True ∧ True ∧ True ∧ Post (Value.bool false))) (True ∧ True ∧ True ∧ True ∧ True ∧ Post (Value.bool false))) (True ∧ True ∧ True ∧ True ∧ True ∧ True ∧ True ∧ Post (Value.bool false))) (True ∧ True ∧ True ∧ True ∧ True ∧ True ∧ True ∧ True ∧ True ∧ Post (Value.bool false))) (True ∧ True ∧ True ∧ True ∧ True ∧ True ∧ True ∧ True ∧ True ∧ True ∧ Post (Value.bool false))) := by kernel_rfl
def c_Few59 (args : List Value) (Post : Value → Prop) : Prop := ∃ (x : Event) (m : Int), args = [eventV x, .int .i64 m] ∧ m ≤ 1000 ∧ Post (.bool (decide (few59 x m)))
theorem ok_few59 : EntOk Tryz.prog ⟨8, c_Few59⟩ := by
  rintro args Post ⟨x, m, rfl, hm, hP⟩
  refine pure_P (vc := tabCall tabF20 noCall) tabF20_ok mixed (by kernel_rfl) (by kernel_rfl) _ (e_few59 x m _ _) ?_
  simp only [true_and, and_true, pIf_iff, decide_eq_false_iff_not, decide_eq_true_eq]
  have no : ¬ few59 x m → Post (.bool false) := fun hn => of_b hP (decide_eq_false hn)
  refine ⟨x.order, m, rfl, hm, fun h1 => ⟨fun h2 => ⟨fun h3 => ⟨fun h4 => ⟨fun h5 => of_b hP (decide_eq_true ⟨h1, h2, h3, h4, h5⟩), fun h => no fun f => h f.2.2.2.2⟩, fun h => no fun f => h f.2.2.2.1⟩, fun h => no fun f => h f.2.2.1⟩, fun h => no fun f => h f.2.1⟩, fun h => no fun f => h f.1⟩
end Go.Proofs.YtegjnjmimfgijaaGreatDoor
noncomputable section
namespace Go.Proofs.YtegjnjmimfgijaaGreatDoor
open Go Go.RowKit Go.ChangeShapes Go.WideShapes Go.ChangeAt Go.Deep Go.Joins
/-- How many values and letters data hold. -/
class Vol (α : Type) where
  vol : α → Nat
  pos : ∀ a, 1 ≤ vol a
instance : Vol Int := ⟨fun _ => 1, fun _ => Nat.le_refl _⟩
instance : Vol Bool := ⟨fun _ => 1, fun _ => Nat.le_refl _⟩
instance : Vol ByteArray := ⟨fun s => 1 + s.size, fun s => Nat.le_add_right _ _⟩
instance {α : Type} [Vol α] : Vol (List α) := ⟨fun l => 1 + (l.map Vol.vol).sum, fun s => Nat.le_add_right _ _⟩
instance {α β : Type} [Vol α] [Vol β] : Vol (α × β) := ⟨fun p => 1 + (Vol.vol p.1 + (Vol.vol p.2 + 0)), fun s => Nat.le_add_right _ _⟩
theorem vol_len {α : Type} [Vol α] (l : List α) : l.length + 1 ≤ Vol.vol l := by
  show _ ≤ 1 + (l.map Vol.vol).sum
  induction l with
  | nil => simp
  | cons a l ih =>
    have := Vol.pos a
    simp only [List.length_cons, List.map_cons, List.sum_cons]
    omega
theorem bulk_pos {H : Type} (d : DataW H) : 1 ≤ Rows.uptoBulk d := by
  cases d with
  | lit l => cases l <;> simp [Rows.uptoBulk]
  | nil => simp [Rows.uptoBulk]
  | ptr d => simp [Rows.uptoBulk]
  | slice elems spare => simp [Rows.uptoBulk]
  | agg parts => simp [Rows.uptoBulk]
  | iface t d => simp [Rows.uptoBulk]
  | map entries => simp [Rows.uptoBulk]
  | held h => simp [Rows.uptoBulk]
theorem bulk_append {H : Type} (l r : List (DataW H)) : Rows.uptoBulkAll (l ++ r) = Rows.uptoBulkAll l + Rows.uptoBulkAll r := by
  induction l with
  | nil => simp [Rows.uptoBulkAll]
  | cons x l ih => simp only [List.cons_append, Rows.uptoBulkAll, ih]; omega
def BK {H : Type} (xs : List (DataW H × List MemPlace)) (k s : Nat) : Prop := s ≤ Rows.uptoBulkAll ((xs.drop k).map (·.1))
def BK1 {H : Type} (xs : List (DataW H × List MemPlace)) (k v : Nat) : Prop := ∃ y, xs[k]? = some y ∧ v ≤ Rows.uptoBulk y.1
theorem BK1.next {H : Type} {xs : List (DataW H × List MemPlace)} {k v s : Nat} (h : BK1 xs k v) (r : BK xs (k + 1) s) : BK xs k (v + s) := by
  obtain ⟨y, h1, h2⟩ := h
  unfold BK at r ⊢
  have hk : k < xs.length := by
    rcases Nat.lt_or_ge k xs.length with h | h
    · exact h
    · rw [List.getElem?_eq_none h] at h1; cases h1
  rw [List.drop_eq_getElem_cons hk, List.map_cons]
  rw [List.getElem?_eq_getElem hk] at h1
  cases h1
  simp only [Rows.uptoBulkAll]
  omega
theorem BK.done {H : Type} {xs : List (DataW H × List MemPlace)} {k : Nat} : BK xs k 0 := Nat.zero_le _
theorem BK.agg {H : Type} {xs : List (DataW H × List MemPlace)} {s : Nat} (h : BK xs 0 s) : 1 + s ≤ Rows.uptoBulk (.agg (xs.map (·.1))) := by
  unfold BK at h
  simp only [List.drop_zero] at h
  simp only [Rows.uptoBulk]
  omega
/-- What reads as data of a type is such an element, and no greater. -/
def OpensB (P : Program) (w : World) (t : TypeId) (α : Type) [Enc α] [Vol α] (Ok : α → Prop) : Prop :=
  ∀ (H : Type) (enc : TypeId × Value → H) (base : Nat) (spare : Nat → Bool) (held : Bool) (fuel : Nat) (cs : List Value) (x : DataW H × List MemPlace), DataW.trod enc P w base spare held fuel t cs = some x → ∃ a : α, Ok a ∧ Vol.vol a ≤ Rows.uptoBulk x.1 ∧ VRC (frW w) (Enc.cells a) cs
section
variable {P : Program} {w : World}
theorem opensB_int {t : TypeId} (ht : P.underlying t = some (.int .i64)) : OpensB P w t Int In64 := fun H enc base spare held fuel cs x h => by
  obtain ⟨n, rfl, rfl, hw⟩ := DataW.trod_int ht h
  simp [Lit.wf, IntKind.min, IntKind.max, IntKind.signed, IntKind.bits] at hw
  exact ⟨n, ⟨by omega, by omega⟩, bulk_pos _, .one (.int _ _)⟩
theorem opensB_string {t : TypeId} (ht : P.underlying t = some .string) : OpensB P w t ByteArray fun s => s.size ≤ maxLen := fun H enc base spare held fuel cs x h => by
  obtain ⟨s, rfl, rfl, hs⟩ := DataW.trod_string ht h
  refine ⟨s, hs, ?_, .one (.string _)⟩
  show 1 + s.size ≤ _
  have e : s.data.toList.length = s.size := by rw [Array.length_toList]; rfl
  simp only [Rows.uptoBulk, e]
  omega
theorem opensB_bool {t : TypeId} (ht : P.underlying t = some .bool) : OpensB P w t Bool fun _ => True := fun H enc base spare held fuel cs x h => by
  obtain ⟨b, rfl, rfl⟩ := DataW.trod_bool ht h
  exact ⟨b, trivial, bulk_pos _, .one (.bool _)⟩
/-- Elements that lie side by side are a tree. -/
theorem tree_open {α : Type} [Enc α] (hz : 0 < Enc.sz α) {a : Addr} {len cap : Nat} {l : List α} (hlen : l.length = len) (hl : len ≤ cap) (h0 : 0 < len)
    (hcl : ∀ (i : Nat) (b : α), l[i]? = some b → ∀ (j : Nat) (v : Value), (Enc.cells b)[j]? = some v → ∃ v', w.cell? ((a.add (i * Enc.sz α)).add j) = some v' ∧ VR0 (frW w) v v') :
    VR0 (frW w) (tree (Enc.sz α) l.length (encL l)) (.slice (some a) len cap) := by
  have cell : ∀ (i j : Nat), i < len → j < Enc.sz α → ∃ v v', (∃ b, l[i]? = some b ∧ (Enc.cells b)[j]? = some v) ∧ w.cell? (a.add (i * Enc.sz α + j)) = some v' ∧ VR0 (frW w) v v' := fun i j hi hj => by
    have hb : l[i]? = some (l[i]'(by omega)) := List.getElem?_eq_getElem (by omega)
    have hv : (Enc.cells (l[i]'(by omega)))[j]? = some ((Enc.cells (l[i]'(by omega)))[j]'(by rw [Enc.len]; exact hj)) := List.getElem?_eq_getElem _
    obtain ⟨v', h1, h2⟩ := hcl i _ hb j _ hv
    rw [Go.Deep.add_add] at h1
    exact ⟨_, v', ⟨_, hb, hv⟩, h1, h2⟩
  obtain ⟨_, v0, _, hv0, _⟩ := cell 0 0 h0 hz
  obtain ⟨cs, ct, fz, hheap, _, hsp⟩ := cell_at hv0
  have hsp := hsp (by omega)
  have at_ : ∀ i j, i < len → j < Enc.sz α → ∃ v v', (∃ b, l[i]? = some b ∧ (Enc.cells b)[j]? = some v) ∧ cs[a.off + (i * Enc.sz α + j)]? = some v' ∧ VR0 (frW w) v v' := fun i j hi hj => by
    obtain ⟨v, v', h1, h2, h3⟩ := cell i j hi hj
    obtain ⟨cs', ct', fz', g1, g2, _⟩ := cell_at h2
    rw [hheap] at g1
    cases g1
    exact ⟨v, v', h1, g2, h3⟩
  obtain ⟨blk, off, spot⟩ := a
  simp only at hsp
  subst hsp
  have hsz : off + len * Enc.sz α ≤ cs.size := by
    obtain ⟨_, v', _, h2, _⟩ := at_ (len - 1) (Enc.sz α - 1) (by omega) (by omega)
    have hlt : off + ((len - 1) * Enc.sz α + (Enc.sz α - 1)) < cs.size := (Array.getElem?_eq_some_iff.1 h2).1
    have : len * Enc.sz α = (len - 1) * Enc.sz α + Enc.sz α := by
      obtain ⟨k, rfl⟩ : ∃ k, len = k + 1 := ⟨len - 1, by omega⟩
      rw [Nat.succ_mul]
      simp
    omega
  have hget : ∀ (i : Nat) (u : Value), (encL l)[i]? = some u → ∃ b, l[i]? = some b ∧ u = elt (Enc.cells b) := fun i u hu => by
    unfold encL at hu
    simp only [List.getElem?_toArray, List.getElem?_map, Option.map_eq_some_iff] at hu
    obtain ⟨b, h1, h2⟩ := hu
    exact ⟨b, h1, h2.symm⟩
  rw [hlen]
  refine VR0.tree (c := blk) (o := off) (cs := cs) (t := ct) (fz := fz) hheap (by simp [encL, hlen]) hl hsz (fun i u hu => ?_) (fun i j u v v' hu hv hv' => ?_)
  · obtain ⟨b, _, rfl⟩ := hget i u hu
    simp [elt_cells (Enc.nl b), Enc.len]
  · obtain ⟨b, hb, rfl⟩ := hget i u hu
    have hv2 : (Enc.cells b)[j]? = some v := by simpa [elt_cells (Enc.nl b)] using hv
    have hil : i < len := by
      rcases Nat.lt_or_ge i len with h' | h'
      · exact h'
      · rw [List.getElem?_eq_none (by omega)] at hb; cases hb
    have hjl : j < Enc.sz α := by
      rw [← Enc.len b]
      rcases Nat.lt_or_ge j (Enc.cells b).length with h' | h'
      · exact h'
      · rw [List.getElem?_eq_none h'] at hv2; cases hv2
    obtain ⟨v1, v1', ⟨b1, e1, e2⟩, e3, e4⟩ := at_ i j hil hjl
    rw [hb] at e1
    cases e1
    rw [hv2] at e2
    cases e2
    rw [show off + i * Enc.sz α + j = off + (i * Enc.sz α + j) by omega] at hv'
    have : v1' = v' := by
      have e3' : cs[off + (i * Enc.sz α + j)]? = some v1' := e3
      rw [hv'] at e3'
      cases e3'
      rfl
    subst this
    exact e4
theorem opensB_slice {t e : TypeId} {α : Type} [Enc α] [Vol α] {Ok : α → Prop} (ht : P.underlying t = some (.slice e)) (he : OpensB P w e α Ok) (hc : P.cellsOf e = Enc.sz α) (hz : 0 < Enc.sz α) :
    OpensB P w t (List α) fun l => l.length ≤ maxLen ∧ ∀ a ∈ l, Ok a := fun H enc base spare held fuel cs x h => by
  rcases open_slice ht h with ⟨rfl, rfl⟩ | ⟨a, len, cap, m, n, D, Pl, rfl, _, hl, hm, hmm, rfl, hi⟩
  · exact ⟨[], ⟨Nat.zero_le _, fun a ha => by cases ha⟩, bulk_pos _, .one (.treeNil _ _ _)⟩
  rw [hc] at hi
  have hlm : len ≤ m := by rw [hmm]; split <;> omega
  have key : ∀ i, i < len → ∃ b : α, Ok b ∧ Vol.vol b ≤ Rows.uptoBulk (D i) ∧ ∀ (j : Nat) (v : Value), (Enc.cells b)[j]? = some v → ∃ v', w.cell? ((a.add (i * Enc.sz α)).add j) = some v' ∧ VR0 (frW w) v v' := by
    intro i hil
    obtain ⟨cs', h1, h2⟩ := hi i (by omega)
    obtain ⟨_, h3, h4⟩ := World.cells?_some h1
    obtain ⟨b, hb, hbv, hv⟩ := he H enc _ _ _ _ _ _ h2
    refine ⟨b, hb, hbv, fun j v hj => ?_⟩
    have hjl : j < Enc.sz α := by
      rw [← Enc.len b]
      rcases Nat.lt_or_ge j (Enc.cells b).length with h' | h'
      · exact h'
      · rw [List.getElem?_eq_none h'] at hj; cases hj
    have hj' : cs'[j]? = some (cs'[j]'(by omega)) := List.getElem?_eq_getElem (by omega)
    exact ⟨_, (h4 j hjl).trans hj', hv.2 j v _ hj hj'⟩
  have build : ∀ k, k ≤ len → ∃ l : List α, l.length = k ∧ (∀ b ∈ l, Ok b) ∧ (l.map Vol.vol).sum ≤ Rows.uptoBulkAll ((List.range k).map D) ∧ ∀ (i : Nat) (b : α), l[i]? = some b → ∀ (j : Nat) (v : Value), (Enc.cells b)[j]? = some v → ∃ v', w.cell? ((a.add (i * Enc.sz α)).add j) = some v' ∧ VR0 (frW w) v v' := by
    intro k
    induction k with
    | zero => exact fun _ => ⟨[], rfl, by simp, by simp, by simp⟩
    | succ k ih =>
      intro hk
      obtain ⟨l, e1, hin, hbu, hcl⟩ := ih (by omega)
      obtain ⟨b, hb, hbv, hbc⟩ := key k (by omega)
      refine ⟨l ++ [b], by simp [e1], fun x hx => ?_, ?_, fun i x hx => ?_⟩
      · rcases List.mem_append.1 hx with hx | hx
        · exact hin x hx
        · simp at hx; subst hx; exact hb
      · simp only [List.range_succ, List.map_append, bulk_append, List.sum_append, List.map_cons, List.map_nil, List.sum_cons, List.sum_nil, Rows.uptoBulkAll]
        omega
      · rcases Nat.lt_or_ge i k with hik | hik
        · rw [List.getElem?_append_left (by omega)] at hx
          exact hcl i x hx
        · rw [List.getElem?_append_right (by omega), e1] at hx
          have : i = k := by
            rcases Nat.lt_or_ge k i with h' | h'
            · rw [List.getElem?_eq_none (by simp; omega)] at hx; cases hx
            · omega
          subst this
          simp at hx
          subst hx
          exact hbc
  obtain ⟨l, hlen, hok, hbu, hcl⟩ := build len (Nat.le_refl _)
  refine ⟨l, ⟨by omega, hok⟩, ?_, .one ?_⟩
  · show 1 + (l.map Vol.vol).sum ≤ _
    simp only [Rows.uptoBulk]
    omega
  rcases Nat.eq_zero_or_pos len with h0 | h0
  · subst h0
    have : l = [] := List.eq_nil_of_length_eq_zero hlen
    subst this
    exact .treeNil _ _ _
  exact tree_open hz hlen hl h0 hcl
theorem fieldB {t : TypeId} {α : Type} [Enc α] [Vol α] {Ok : α → Prop} (ho : OpensB P w t α Ok) {H : Type} {enc : TypeId × Value → H} {base : Nat} {spare : Nat → Bool} {held : Bool} {fuel : Nat} {cs : List Value} {xs : List (DataW H × List MemPlace)} {i : Nat}
    (h : DataW.trod enc P w base spare held fuel t cs = xs[i]?) (hi : i < xs.length) : ∃ a : α, Ok a ∧ BK1 xs i (Vol.vol a) ∧ VRC (frW w) (Enc.cells a) cs := by
  have hg := List.getElem?_eq_getElem hi
  obtain ⟨a, h1, h2, h3⟩ := ho H enc _ _ _ _ _ _ (h.trans hg)
  exact ⟨a, h1, ⟨_, hg, h2⟩, h3⟩
/-- An argument, opened. -/
theorem open_argB {t : TypeId} {α : Type} [Enc α] [Vol α] {Ok : α → Prop} (ho : OpensB P w t α Ok) {H : Type} {enc : TypeId × Value → H} {base : Nat} {spare : Nat → Bool} {held : Bool} {v : Value} {d : DataW H} {p : List MemPlace} (h : DataW.Trod enc P w base spare held t v d p) :
    ∃ a : α, Ok a ∧ Vol.vol a ≤ Rows.uptoBulk d ∧ VRC (frW w) (Enc.cells a) v.cells.toList := by
  obtain ⟨fuel, hf⟩ := h
  exact ho H enc _ _ _ _ _ _ hf
end
end Go.Proofs.YtegjnjmimfgijaaGreatDoor
noncomputable section
namespace Go.Proofs.YtegjnjmimfgijaaGreatDoor
open Go Go.RowKit Go.ChangeShapes Go.WideShapes Go.ChangeAt Go.Deep Go.Joins
set_option maxRecDepth 100000
instance : Vol Pt := ⟨fun p => 1 + (Vol.vol p.x + (Vol.vol p.y + (0))), fun _ => Nat.le_add_right _ _⟩
def okPt (p : Pt) : Prop := In64 p.x ∧ In64 p.y
theorem opensB_Pt {w : World} : OpensB Tryz.prog w 132 Pt okPt := fun H enc base spare held fuel cs x h => by
  obtain ⟨xs, n, _, rfl, hlen, hxs, hf⟩ := DataW.trod_struct Tryz.underlying132 h
  have hc : Tryz.prog.cellsOf 132 = 2 := by kernel_rfl
  obtain ⟨b0, k0, u0, v0⟩ := fieldB (opensB_int Tryz.underlying3) (hf 0 _ rfl) (by rw [hxs]; decide)
  obtain ⟨b1, k1, u1, v1⟩ := fieldB (opensB_int Tryz.underlying3) (hf 1 _ rfl) (by rw [hxs]; decide)
  have hb := BK.agg (u0.next (u1.next (BK.done)))
  refine ⟨⟨b0, b1⟩, ⟨k0, k1⟩, hb, v0.next (v1.next (VRC.done (n := 2) (hlen.trans hc)))⟩
theorem opensB_Pts {w : World} : OpensB Tryz.prog w 102 (List Pt) fun l => l.length ≤ maxLen ∧ ∀ a ∈ l, okPt a := opensB_slice Tryz.underlying102 opensB_Pt (by kernel_rfl) (by decide)
instance : Vol Vec3 := ⟨fun p => 1 + (Vol.vol p.x + (Vol.vol p.y + (Vol.vol p.z + (0)))), fun _ => Nat.le_add_right _ _⟩
def okVec3 (p : Vec3) : Prop := In64 p.x ∧ In64 p.y ∧ In64 p.z
theorem opensB_Vec3 {w : World} : OpensB Tryz.prog w 36 Vec3 okVec3 := fun H enc base spare held fuel cs x h => by
  obtain ⟨xs, n, _, rfl, hlen, hxs, hf⟩ := DataW.trod_struct Tryz.underlying36 h
  have hc : Tryz.prog.cellsOf 36 = 3 := by kernel_rfl
  obtain ⟨b0, k0, u0, v0⟩ := fieldB (opensB_int Tryz.underlying3) (hf 0 _ rfl) (by rw [hxs]; decide)
  obtain ⟨b1, k1, u1, v1⟩ := fieldB (opensB_int Tryz.underlying3) (hf 1 _ rfl) (by rw [hxs]; decide)
  obtain ⟨b2, k2, u2, v2⟩ := fieldB (opensB_int Tryz.underlying3) (hf 2 _ rfl) (by rw [hxs]; decide)
  have hb := BK.agg (u0.next (u1.next (u2.next (BK.done))))
  refine ⟨⟨b0, b1, b2⟩, ⟨k0, k1, k2⟩, hb, v0.next (v1.next (v2.next (VRC.done (n := 3) (hlen.trans hc))))⟩
theorem opensB_shape {w : World} : OpensB Tryz.prog w 105 (List Pt × List (List Pt)) fun p => (p.1.length ≤ maxLen ∧ ∀ a ∈ p.1, okPt a) ∧ (p.2.length ≤ maxLen ∧ ∀ l ∈ p.2, l.length ≤ maxLen ∧ ∀ a ∈ l, okPt a) := fun H enc base spare held fuel cs x h => by
  obtain ⟨xs, n, _, rfl, hlen, hxs, hf⟩ := DataW.trod_struct Tryz.underlying105 h
  have hc : Tryz.prog.cellsOf 105 = 2 := by kernel_rfl
  obtain ⟨b0, k0, u0, v0⟩ := fieldB opensB_Pts (hf 0 _ rfl) (by rw [hxs]; decide)
  obtain ⟨b1, k1, u1, v1⟩ := fieldB (opensB_slice Tryz.underlying103 opensB_Pts (by kernel_rfl) (by decide)) (hf 1 _ rfl) (by rw [hxs]; decide)
  have hb := BK.agg (u0.next (u1.next BK.done))
  exact ⟨⟨b0, b1⟩, ⟨k0, k1⟩, hb, v0.next (v1.next (VRC.done (n := 2) (hlen.trans hc)))⟩
theorem opensB_place {w : World} : OpensB Tryz.prog w 107 (Vec3 × Int) fun p => okVec3 p.1 ∧ In64 p.2 := fun H enc base spare held fuel cs x h => by
  obtain ⟨xs, n, _, rfl, hlen, hxs, hf⟩ := DataW.trod_struct Tryz.underlying107 h
  have hc : Tryz.prog.cellsOf 107 = 4 := by kernel_rfl
  obtain ⟨b0, k0, u0, v0⟩ := fieldB opensB_Vec3 (hf 0 _ rfl) (by rw [hxs]; decide)
  obtain ⟨b1, k1, u1, v1⟩ := fieldB (opensB_int Tryz.underlying3) (hf 1 _ rfl) (by rw [hxs]; decide)
  have hb := BK.agg (u0.next (u1.next BK.done))
  exact ⟨⟨b0, b1⟩, ⟨k0, k1⟩, hb, v0.next (v1.next (VRC.done (n := 4) (hlen.trans hc)))⟩
instance : Vol Part := ⟨fun p => 1 + (Vol.vol p.id + (Vol.vol p.rev + (Vol.vol p.kind + (Vol.vol p.node + (Vol.vol p.grade + (Vol.vol p.thick + (Vol.vol p.outer + (Vol.vol p.holes + (Vol.vol p.sect + (Vol.vol p.long + (Vol.vol p.mass + (Vol.vol p.centre + (Vol.vol p.at_ + (Vol.vol p.turn + (0))))))))))))))), fun _ => Nat.le_add_right _ _⟩
abbrev okPart (p : Part) : Prop := InPart p
set_option maxHeartbeats 2000000 in
theorem opensB_Part {w : World} : OpensB Tryz.prog w 109 Part okPart := fun H enc base spare held fuel cs x h => by
  obtain ⟨xs, n, _, rfl, hlen, hxs, hf⟩ := DataW.trod_struct Tryz.underlying109 h
  have hc : Tryz.prog.cellsOf 109 = 18 := by kernel_rfl
  obtain ⟨b0, k0, u0, v0⟩ := fieldB (opensB_string Tryz.underlying9) (hf 0 _ rfl) (by rw [hxs]; decide)
  obtain ⟨b1, k1, u1, v1⟩ := fieldB (opensB_int Tryz.underlying3) (hf 1 _ rfl) (by rw [hxs]; decide)
  obtain ⟨b2, k2, u2, v2⟩ := fieldB (opensB_int Tryz.underlying3) (hf 2 _ rfl) (by rw [hxs]; decide)
  obtain ⟨b3, k3, u3, v3⟩ := fieldB (opensB_string Tryz.underlying9) (hf 3 _ rfl) (by rw [hxs]; decide)
  obtain ⟨b4, k4, u4, v4⟩ := fieldB (opensB_string Tryz.underlying9) (hf 4 _ rfl) (by rw [hxs]; decide)
  obtain ⟨b5, k5, u5, v5⟩ := fieldB (opensB_int Tryz.underlying3) (hf 5 _ rfl) (by rw [hxs]; decide)
  obtain ⟨b6, k6, u6, v6⟩ := fieldB opensB_shape (hf 6 _ rfl) (by rw [hxs]; decide)
  obtain ⟨b7, k7, u7, v7⟩ := fieldB (opensB_string Tryz.underlying9) (hf 7 _ rfl) (by rw [hxs]; decide)
  obtain ⟨b8, k8, u8, v8⟩ := fieldB (opensB_int Tryz.underlying3) (hf 8 _ rfl) (by rw [hxs]; decide)
  obtain ⟨b9, k9, u9, v9⟩ := fieldB (opensB_int Tryz.underlying3) (hf 9 _ rfl) (by rw [hxs]; decide)
  obtain ⟨b10, k10, u10, v10⟩ := fieldB opensB_Vec3 (hf 10 _ rfl) (by rw [hxs]; decide)
  obtain ⟨b11, k11, u11, v11⟩ := fieldB opensB_place (hf 11 _ rfl) (by rw [hxs]; decide)
  have hb := BK.agg (u0.next (u1.next (u2.next (u3.next (u4.next (u5.next (u6.next (u7.next (u8.next (u9.next (u10.next (u11.next (BK.done)))))))))))))
  refine ⟨⟨b0, b1, b2, b3, b4, b5, b6.1, b6.2, b7, b8, b9, b10, b11.1, b11.2⟩, ⟨k1, k2, k5, k6.1.2, fun l hl => (k6.2.2 l hl).2, k8, k9, k10, k11.1, k11.2, k0, k3, k4, k7⟩, ?_, ?_⟩
  · refine Nat.le_trans ?_ hb
    clear hb u0 u1 u2 u3 u4 u5 u6 u7 u8 u9 u10 u11 v0 v1 v2 v3 v4 v5 v6 v7 v8 v9 v10 v11
    have e6 : Vol.vol b6 = 1 + (Vol.vol b6.1 + (Vol.vol b6.2 + 0)) := rfl
    have e11 : Vol.vol b11 = 1 + (Vol.vol b11.1 + (Vol.vol b11.2 + 0)) := rfl
    show 1 + (Vol.vol b0 + (Vol.vol b1 + (Vol.vol b2 + (Vol.vol b3 + (Vol.vol b4 + (Vol.vol b5 + (Vol.vol b6.1 + (Vol.vol b6.2 + (Vol.vol b7 + (Vol.vol b8 + (Vol.vol b9 + (Vol.vol b10 + (Vol.vol b11.1 + (Vol.vol b11.2 + (0))))))))))))))) ≤ _
    rw [e6, e11]
    clear e6 e11
    generalize Vol.vol b0 = a0
    generalize Vol.vol b1 = a1
    generalize Vol.vol b2 = a2
    generalize Vol.vol b3 = a3
    generalize Vol.vol b4 = a4
    generalize Vol.vol b5 = a5
    generalize Vol.vol b6.1 = a6
    generalize Vol.vol b6.2 = a7
    generalize Vol.vol b7 = a8
    generalize Vol.vol b8 = a9
    generalize Vol.vol b9 = a10
    generalize Vol.vol b10 = a11
    generalize Vol.vol b11.1 = a12
    generalize Vol.vol b11.2 = a13
    omega
  · exact v0.next (v1.next (v2.next (v3.next (v4.next (v5.next (v6.next (v7.next (v8.next (v9.next (v10.next (v11.next (VRC.done (n := 18) (hlen.trans hc)))))))))))))
instance : Vol Node3 := ⟨fun p => 1 + (Vol.vol p.id + (Vol.vol p.kind + (Vol.vol p.parent + (0)))), fun _ => Nat.le_add_right _ _⟩
def okNode3 (p : Node3) : Prop := p.id.size ≤ maxLen ∧ In64 p.kind ∧ p.parent.size ≤ maxLen
theorem opensB_Node3 {w : World} : OpensB Tryz.prog w 101 Node3 okNode3 := fun H enc base spare held fuel cs x h => by
  obtain ⟨xs, n, _, rfl, hlen, hxs, hf⟩ := DataW.trod_struct Tryz.underlying101 h
  have hc : Tryz.prog.cellsOf 101 = 3 := by kernel_rfl
  obtain ⟨b0, k0, u0, v0⟩ := fieldB (opensB_string Tryz.underlying9) (hf 0 _ rfl) (by rw [hxs]; decide)
  obtain ⟨b1, k1, u1, v1⟩ := fieldB (opensB_int Tryz.underlying3) (hf 1 _ rfl) (by rw [hxs]; decide)
  obtain ⟨b2, k2, u2, v2⟩ := fieldB (opensB_string Tryz.underlying9) (hf 2 _ rfl) (by rw [hxs]; decide)
  have hb := BK.agg (u0.next (u1.next (u2.next (BK.done))))
  refine ⟨⟨b0, b1, b2⟩, ⟨k0, k1, k2⟩, hb, v0.next (v1.next (v2.next (VRC.done (n := 3) (hlen.trans hc))))⟩
instance : Vol Seam6 := ⟨fun p => 1 + (Vol.vol p.id + (Vol.vol p.a + (Vol.vol p.b + (Vol.vol p.kind + (Vol.vol p.long + (Vol.vol p.cls + (0))))))), fun _ => Nat.le_add_right _ _⟩
def okSeam6 (p : Seam6) : Prop := p.id.size ≤ maxLen ∧ p.a.size ≤ maxLen ∧ p.b.size ≤ maxLen ∧ In64 p.kind ∧ In64 p.long ∧ In64 p.cls
theorem opensB_Seam6 {w : World} : OpensB Tryz.prog w 111 Seam6 okSeam6 := fun H enc base spare held fuel cs x h => by
  obtain ⟨xs, n, _, rfl, hlen, hxs, hf⟩ := DataW.trod_struct Tryz.underlying111 h
  have hc : Tryz.prog.cellsOf 111 = 6 := by kernel_rfl
  obtain ⟨b0, k0, u0, v0⟩ := fieldB (opensB_string Tryz.underlying9) (hf 0 _ rfl) (by rw [hxs]; decide)
  obtain ⟨b1, k1, u1, v1⟩ := fieldB (opensB_string Tryz.underlying9) (hf 1 _ rfl) (by rw [hxs]; decide)
  obtain ⟨b2, k2, u2, v2⟩ := fieldB (opensB_string Tryz.underlying9) (hf 2 _ rfl) (by rw [hxs]; decide)
  obtain ⟨b3, k3, u3, v3⟩ := fieldB (opensB_int Tryz.underlying3) (hf 3 _ rfl) (by rw [hxs]; decide)
  obtain ⟨b4, k4, u4, v4⟩ := fieldB (opensB_int Tryz.underlying3) (hf 4 _ rfl) (by rw [hxs]; decide)
  obtain ⟨b5, k5, u5, v5⟩ := fieldB (opensB_int Tryz.underlying3) (hf 5 _ rfl) (by rw [hxs]; decide)
  have hb := BK.agg (u0.next (u1.next (u2.next (u3.next (u4.next (u5.next (BK.done)))))))
  refine ⟨⟨b0, b1, b2, b3, b4, b5⟩, ⟨k0, k1, k2, k3, k4, k5⟩, hb, v0.next (v1.next (v2.next (v3.next (v4.next (v5.next (VRC.done (n := 6) (hlen.trans hc)))))))⟩
instance : Vol Pack5 := ⟨fun p => 1 + (Vol.vol p.id + (Vol.vol p.block + (Vol.vol p.parts + (Vol.vol p.hours + (Vol.vol p.after + (0)))))), fun _ => Nat.le_add_right _ _⟩
def okPack5 (p : Pack5) : Prop := p.id.size ≤ maxLen ∧ p.block.size ≤ maxLen ∧ (p.parts.length ≤ maxLen ∧ ∀ a ∈ p.parts, a.size ≤ maxLen) ∧ In64 p.hours ∧ (p.after.length ≤ maxLen ∧ ∀ a ∈ p.after, a.size ≤ maxLen)
theorem opensB_Pack5 {w : World} : OpensB Tryz.prog w 113 Pack5 okPack5 := fun H enc base spare held fuel cs x h => by
  obtain ⟨xs, n, _, rfl, hlen, hxs, hf⟩ := DataW.trod_struct Tryz.underlying113 h
  have hc : Tryz.prog.cellsOf 113 = 5 := by kernel_rfl
  obtain ⟨b0, k0, u0, v0⟩ := fieldB (opensB_string Tryz.underlying9) (hf 0 _ rfl) (by rw [hxs]; decide)
  obtain ⟨b1, k1, u1, v1⟩ := fieldB (opensB_string Tryz.underlying9) (hf 1 _ rfl) (by rw [hxs]; decide)
  obtain ⟨b2, k2, u2, v2⟩ := fieldB (opensB_slice Tryz.underlying32 (opensB_string Tryz.underlying9) (by kernel_rfl) (by decide)) (hf 2 _ rfl) (by rw [hxs]; decide)
  obtain ⟨b3, k3, u3, v3⟩ := fieldB (opensB_int Tryz.underlying3) (hf 3 _ rfl) (by rw [hxs]; decide)
  obtain ⟨b4, k4, u4, v4⟩ := fieldB (opensB_slice Tryz.underlying32 (opensB_string Tryz.underlying9) (by kernel_rfl) (by decide)) (hf 4 _ rfl) (by rw [hxs]; decide)
  have hb := BK.agg (u0.next (u1.next (u2.next (u3.next (u4.next (BK.done))))))
  refine ⟨⟨b0, b1, b2, b3, b4⟩, ⟨k0, k1, k2, k3, k4⟩, hb, v0.next (v1.next (v2.next (v3.next (v4.next (VRC.done (n := 5) (hlen.trans hc))))))⟩
instance : Vol Need3 := ⟨fun p => 1 + (Vol.vol p.kind + (Vol.vol p.block + (Vol.vol p.on + (0)))), fun _ => Nat.le_add_right _ _⟩
def okNeed3 (p : Need3) : Prop := In64 p.kind ∧ p.block.size ≤ maxLen ∧ p.on.size ≤ maxLen
theorem opensB_Need3 {w : World} : OpensB Tryz.prog w 115 Need3 okNeed3 := fun H enc base spare held fuel cs x h => by
  obtain ⟨xs, n, _, rfl, hlen, hxs, hf⟩ := DataW.trod_struct Tryz.underlying115 h
  have hc : Tryz.prog.cellsOf 115 = 3 := by kernel_rfl
  obtain ⟨b0, k0, u0, v0⟩ := fieldB (opensB_int Tryz.underlying3) (hf 0 _ rfl) (by rw [hxs]; decide)
  obtain ⟨b1, k1, u1, v1⟩ := fieldB (opensB_string Tryz.underlying9) (hf 1 _ rfl) (by rw [hxs]; decide)
  obtain ⟨b2, k2, u2, v2⟩ := fieldB (opensB_string Tryz.underlying9) (hf 2 _ rfl) (by rw [hxs]; decide)
  have hb := BK.agg (u0.next (u1.next (u2.next (BK.done))))
  refine ⟨⟨b0, b1, b2⟩, ⟨k0, k1, k2⟩, hb, v0.next (v1.next (v2.next (VRC.done (n := 3) (hlen.trans hc))))⟩
instance : Vol Edit := ⟨fun p => 1 + (Vol.vol p.kind + (Vol.vol p.id + (Vol.vol p.to + (Vol.vol p.node + (Vol.vol p.part + (Vol.vol p.seam + (Vol.vol p.pack + (Vol.vol p.need + (0))))))))), fun _ => Nat.le_add_right _ _⟩
def okEdit (p : Edit) : Prop := In64 p.kind ∧ p.id.size ≤ maxLen ∧ p.to.size ≤ maxLen ∧ okNode3 p.node ∧ okPart p.part ∧ okSeam6 p.seam ∧ okPack5 p.pack ∧ okNeed3 p.need
theorem opensB_Edit {w : World} : OpensB Tryz.prog w 117 Edit okEdit := fun H enc base spare held fuel cs x h => by
  obtain ⟨xs, n, _, rfl, hlen, hxs, hf⟩ := DataW.trod_struct Tryz.underlying117 h
  have hc : Tryz.prog.cellsOf 117 = 38 := by kernel_rfl
  obtain ⟨b0, k0, u0, v0⟩ := fieldB (opensB_int Tryz.underlying3) (hf 0 _ rfl) (by rw [hxs]; decide)
  obtain ⟨b1, k1, u1, v1⟩ := fieldB (opensB_string Tryz.underlying9) (hf 1 _ rfl) (by rw [hxs]; decide)
  obtain ⟨b2, k2, u2, v2⟩ := fieldB (opensB_string Tryz.underlying9) (hf 2 _ rfl) (by rw [hxs]; decide)
  obtain ⟨b3, k3, u3, v3⟩ := fieldB opensB_Node3 (hf 3 _ rfl) (by rw [hxs]; decide)
  obtain ⟨b4, k4, u4, v4⟩ := fieldB opensB_Part (hf 4 _ rfl) (by rw [hxs]; decide)
  obtain ⟨b5, k5, u5, v5⟩ := fieldB opensB_Seam6 (hf 5 _ rfl) (by rw [hxs]; decide)
  obtain ⟨b6, k6, u6, v6⟩ := fieldB opensB_Pack5 (hf 6 _ rfl) (by rw [hxs]; decide)
  obtain ⟨b7, k7, u7, v7⟩ := fieldB opensB_Need3 (hf 7 _ rfl) (by rw [hxs]; decide)
  have hb := BK.agg (u0.next (u1.next (u2.next (u3.next (u4.next (u5.next (u6.next (u7.next (BK.done)))))))))
  refine ⟨⟨b0, b1, b2, b3, b4, b5, b6, b7⟩, ⟨k0, k1, k2, k3, k4, k5, k6, k7⟩, hb, v0.next (v1.next (v2.next (v3.next (v4.next (v5.next (v6.next (v7.next (VRC.done (n := 38) (hlen.trans hc)))))))))⟩
theorem opensB_Edits {w : World} : OpensB Tryz.prog w 22 (List Edit) fun l => l.length ≤ maxLen ∧ ∀ a ∈ l, okEdit a := opensB_slice Tryz.underlying22 opensB_Edit (by kernel_rfl) (by decide)
instance : Vol Order2 := ⟨fun p => 1 + (Vol.vol p.id + (Vol.vol p.edits + (0))), fun _ => Nat.le_add_right _ _⟩
def okOrder2 (p : Order2) : Prop := p.id.size ≤ maxLen ∧ (p.edits.length ≤ maxLen ∧ ∀ a ∈ p.edits, okEdit a)
theorem opensB_Order2 {w : World} : OpensB Tryz.prog w 24 Order2 okOrder2 := fun H enc base spare held fuel cs x h => by
  obtain ⟨xs, n, _, rfl, hlen, hxs, hf⟩ := DataW.trod_struct Tryz.underlying24 h
  have hc : Tryz.prog.cellsOf 24 = 2 := by kernel_rfl
  obtain ⟨b0, k0, u0, v0⟩ := fieldB (opensB_string Tryz.underlying9) (hf 0 _ rfl) (by rw [hxs]; decide)
  obtain ⟨b1, k1, u1, v1⟩ := fieldB opensB_Edits (hf 1 _ rfl) (by rw [hxs]; decide)
  have hb := BK.agg (u0.next (u1.next (BK.done)))
  refine ⟨⟨b0, b1⟩, ⟨k0, k1⟩, hb, v0.next (v1.next (VRC.done (n := 2) (hlen.trans hc)))⟩
instance : Vol Sheet6 := ⟨fun p => 1 + (Vol.vol p.id + (Vol.vol p.grade + (Vol.vol p.thick + (Vol.vol p.long + (Vol.vol p.width + (Vol.vol p.heat + (0))))))), fun _ => Nat.le_add_right _ _⟩
def okSheet6 (p : Sheet6) : Prop := p.id.size ≤ maxLen ∧ p.grade.size ≤ maxLen ∧ In64 p.thick ∧ In64 p.long ∧ In64 p.width ∧ p.heat.size ≤ maxLen
theorem opensB_Sheet6 {w : World} : OpensB Tryz.prog w 26 Sheet6 okSheet6 := fun H enc base spare held fuel cs x h => by
  obtain ⟨xs, n, _, rfl, hlen, hxs, hf⟩ := DataW.trod_struct Tryz.underlying26 h
  have hc : Tryz.prog.cellsOf 26 = 6 := by kernel_rfl
  obtain ⟨b0, k0, u0, v0⟩ := fieldB (opensB_string Tryz.underlying9) (hf 0 _ rfl) (by rw [hxs]; decide)
  obtain ⟨b1, k1, u1, v1⟩ := fieldB (opensB_string Tryz.underlying9) (hf 1 _ rfl) (by rw [hxs]; decide)
  obtain ⟨b2, k2, u2, v2⟩ := fieldB (opensB_int Tryz.underlying3) (hf 2 _ rfl) (by rw [hxs]; decide)
  obtain ⟨b3, k3, u3, v3⟩ := fieldB (opensB_int Tryz.underlying3) (hf 3 _ rfl) (by rw [hxs]; decide)
  obtain ⟨b4, k4, u4, v4⟩ := fieldB (opensB_int Tryz.underlying3) (hf 4 _ rfl) (by rw [hxs]; decide)
  obtain ⟨b5, k5, u5, v5⟩ := fieldB (opensB_string Tryz.underlying9) (hf 5 _ rfl) (by rw [hxs]; decide)
  have hb := BK.agg (u0.next (u1.next (u2.next (u3.next (u4.next (u5.next (BK.done)))))))
  refine ⟨⟨b0, b1, b2, b3, b4, b5⟩, ⟨k0, k1, k2, k3, k4, k5⟩, hb, v0.next (v1.next (v2.next (v3.next (v4.next (v5.next (VRC.done (n := 6) (hlen.trans hc)))))))⟩
instance : Vol Bar5 := ⟨fun p => 1 + (Vol.vol p.id + (Vol.vol p.sect + (Vol.vol p.grade + (Vol.vol p.long + (Vol.vol p.heat + (0)))))), fun _ => Nat.le_add_right _ _⟩
def okBar5 (p : Bar5) : Prop := p.id.size ≤ maxLen ∧ p.sect.size ≤ maxLen ∧ p.grade.size ≤ maxLen ∧ In64 p.long ∧ p.heat.size ≤ maxLen
theorem opensB_Bar5 {w : World} : OpensB Tryz.prog w 28 Bar5 okBar5 := fun H enc base spare held fuel cs x h => by
  obtain ⟨xs, n, _, rfl, hlen, hxs, hf⟩ := DataW.trod_struct Tryz.underlying28 h
  have hc : Tryz.prog.cellsOf 28 = 5 := by kernel_rfl
  obtain ⟨b0, k0, u0, v0⟩ := fieldB (opensB_string Tryz.underlying9) (hf 0 _ rfl) (by rw [hxs]; decide)
  obtain ⟨b1, k1, u1, v1⟩ := fieldB (opensB_string Tryz.underlying9) (hf 1 _ rfl) (by rw [hxs]; decide)
  obtain ⟨b2, k2, u2, v2⟩ := fieldB (opensB_string Tryz.underlying9) (hf 2 _ rfl) (by rw [hxs]; decide)
  obtain ⟨b3, k3, u3, v3⟩ := fieldB (opensB_int Tryz.underlying3) (hf 3 _ rfl) (by rw [hxs]; decide)
  obtain ⟨b4, k4, u4, v4⟩ := fieldB (opensB_string Tryz.underlying9) (hf 4 _ rfl) (by rw [hxs]; decide)
  have hb := BK.agg (u0.next (u1.next (u2.next (u3.next (u4.next (BK.done))))))
  refine ⟨⟨b0, b1, b2, b3, b4⟩, ⟨k0, k1, k2, k3, k4⟩, hb, v0.next (v1.next (v2.next (v3.next (v4.next (VRC.done (n := 5) (hlen.trans hc))))))⟩
instance : Vol Spot := ⟨fun p => 1 + (Vol.vol p.part + (Vol.vol p.at_ + (Vol.vol p.turn + (Vol.vol p.flip + (0))))), fun _ => Nat.le_add_right _ _⟩
def okSpot (p : Spot) : Prop := p.part.size ≤ maxLen ∧ okPt p.at_ ∧ In64 p.turn ∧ True
theorem opensB_Spot {w : World} : OpensB Tryz.prog w 134 Spot okSpot := fun H enc base spare held fuel cs x h => by
  obtain ⟨xs, n, _, rfl, hlen, hxs, hf⟩ := DataW.trod_struct Tryz.underlying134 h
  have hc : Tryz.prog.cellsOf 134 = 5 := by kernel_rfl
  obtain ⟨b0, k0, u0, v0⟩ := fieldB (opensB_string Tryz.underlying9) (hf 0 _ rfl) (by rw [hxs]; decide)
  obtain ⟨b1, k1, u1, v1⟩ := fieldB opensB_Pt (hf 1 _ rfl) (by rw [hxs]; decide)
  obtain ⟨b2, k2, u2, v2⟩ := fieldB (opensB_int Tryz.underlying3) (hf 2 _ rfl) (by rw [hxs]; decide)
  obtain ⟨b3, k3, u3, v3⟩ := fieldB (opensB_bool Tryz.underlying4) (hf 3 _ rfl) (by rw [hxs]; decide)
  have hb := BK.agg (u0.next (u1.next (u2.next (u3.next (BK.done)))))
  refine ⟨⟨b0, b1, b2, b3⟩, ⟨k0, k1, k2, k3⟩, hb, v0.next (v1.next (v2.next (v3.next (VRC.done (n := 5) (hlen.trans hc)))))⟩
theorem opensB_Spots {w : World} : OpensB Tryz.prog w 29 (List Spot) fun l => l.length ≤ maxLen ∧ ∀ a ∈ l, okSpot a := opensB_slice Tryz.underlying29 opensB_Spot (by kernel_rfl) (by decide)
instance : Vol Nest3 := ⟨fun p => 1 + (Vol.vol p.sheet + (Vol.vol p.gap + (Vol.vol p.spots + (0)))), fun _ => Nat.le_add_right _ _⟩
def okNest3 (p : Nest3) : Prop := p.sheet.size ≤ maxLen ∧ In64 p.gap ∧ (p.spots.length ≤ maxLen ∧ ∀ a ∈ p.spots, okSpot a)
theorem opensB_Nest3 {w : World} : OpensB Tryz.prog w 31 Nest3 okNest3 := fun H enc base spare held fuel cs x h => by
  obtain ⟨xs, n, _, rfl, hlen, hxs, hf⟩ := DataW.trod_struct Tryz.underlying31 h
  have hc : Tryz.prog.cellsOf 31 = 3 := by kernel_rfl
  obtain ⟨b0, k0, u0, v0⟩ := fieldB (opensB_string Tryz.underlying9) (hf 0 _ rfl) (by rw [hxs]; decide)
  obtain ⟨b1, k1, u1, v1⟩ := fieldB (opensB_int Tryz.underlying3) (hf 1 _ rfl) (by rw [hxs]; decide)
  obtain ⟨b2, k2, u2, v2⟩ := fieldB opensB_Spots (hf 2 _ rfl) (by rw [hxs]; decide)
  have hb := BK.agg (u0.next (u1.next (u2.next (BK.done))))
  refine ⟨⟨b0, b1, b2⟩, ⟨k0, k1, k2⟩, hb, v0.next (v1.next (v2.next (VRC.done (n := 3) (hlen.trans hc))))⟩
instance : Vol Saw3 := ⟨fun p => 1 + (Vol.vol p.bar + (Vol.vol p.kerf + (Vol.vol p.parts + (0)))), fun _ => Nat.le_add_right _ _⟩
def okSaw3 (p : Saw3) : Prop := p.bar.size ≤ maxLen ∧ In64 p.kerf ∧ (p.parts.length ≤ maxLen ∧ ∀ a ∈ p.parts, a.size ≤ maxLen)
theorem opensB_Saw3 {w : World} : OpensB Tryz.prog w 34 Saw3 okSaw3 := fun H enc base spare held fuel cs x h => by
  obtain ⟨xs, n, _, rfl, hlen, hxs, hf⟩ := DataW.trod_struct Tryz.underlying34 h
  have hc : Tryz.prog.cellsOf 34 = 3 := by kernel_rfl
  obtain ⟨b0, k0, u0, v0⟩ := fieldB (opensB_string Tryz.underlying9) (hf 0 _ rfl) (by rw [hxs]; decide)
  obtain ⟨b1, k1, u1, v1⟩ := fieldB (opensB_int Tryz.underlying3) (hf 1 _ rfl) (by rw [hxs]; decide)
  obtain ⟨b2, k2, u2, v2⟩ := fieldB (opensB_slice Tryz.underlying32 (opensB_string Tryz.underlying9) (by kernel_rfl) (by decide)) (hf 2 _ rfl) (by rw [hxs]; decide)
  have hb := BK.agg (u0.next (u1.next (u2.next (BK.done))))
  refine ⟨⟨b0, b1, b2⟩, ⟨k0, k1, k2⟩, hb, v0.next (v1.next (v2.next (VRC.done (n := 3) (hlen.trans hc))))⟩
instance : Vol Weig := ⟨fun p => 1 + (Vol.vol p.block + (Vol.vol p.at_ + (Vol.vol p.mass + (Vol.vol p.centre + (Vol.vol p.sigma + (Vol.vol p.parts + (0))))))), fun _ => Nat.le_add_right _ _⟩
def okWeig (p : Weig) : Prop := p.block.size ≤ maxLen ∧ In64 p.at_ ∧ In64 p.mass ∧ okVec3 p.centre ∧ In64 p.sigma ∧ (p.parts.length ≤ maxLen ∧ ∀ a ∈ p.parts, a.size ≤ maxLen)
theorem opensB_Weig {w : World} : OpensB Tryz.prog w 38 Weig okWeig := fun H enc base spare held fuel cs x h => by
  obtain ⟨xs, n, _, rfl, hlen, hxs, hf⟩ := DataW.trod_struct Tryz.underlying38 h
  have hc : Tryz.prog.cellsOf 38 = 8 := by kernel_rfl
  obtain ⟨b0, k0, u0, v0⟩ := fieldB (opensB_string Tryz.underlying9) (hf 0 _ rfl) (by rw [hxs]; decide)
  obtain ⟨b1, k1, u1, v1⟩ := fieldB (opensB_int Tryz.underlying3) (hf 1 _ rfl) (by rw [hxs]; decide)
  obtain ⟨b2, k2, u2, v2⟩ := fieldB (opensB_int Tryz.underlying3) (hf 2 _ rfl) (by rw [hxs]; decide)
  obtain ⟨b3, k3, u3, v3⟩ := fieldB opensB_Vec3 (hf 3 _ rfl) (by rw [hxs]; decide)
  obtain ⟨b4, k4, u4, v4⟩ := fieldB (opensB_int Tryz.underlying3) (hf 4 _ rfl) (by rw [hxs]; decide)
  obtain ⟨b5, k5, u5, v5⟩ := fieldB (opensB_slice Tryz.underlying32 (opensB_string Tryz.underlying9) (by kernel_rfl) (by decide)) (hf 5 _ rfl) (by rw [hxs]; decide)
  have hb := BK.agg (u0.next (u1.next (u2.next (u3.next (u4.next (u5.next (BK.done)))))))
  refine ⟨⟨b0, b1, b2, b3, b4, b5⟩, ⟨k0, k1, k2, k3, k4, k5⟩, hb, v0.next (v1.next (v2.next (v3.next (v4.next (v5.next (VRC.done (n := 8) (hlen.trans hc)))))))⟩
instance : Vol Hook4 := ⟨fun p => 1 + (Vol.vol p.crane + (Vol.vol p.at_ + (Vol.vol p.radius + (0)))), fun _ => Nat.le_add_right _ _⟩
def okHook4 (p : Hook4) : Prop := p.crane.size ≤ maxLen ∧ okPt p.at_ ∧ In64 p.radius
theorem opensB_Hook4 {w : World} : OpensB Tryz.prog w 145 Hook4 okHook4 := fun H enc base spare held fuel cs x h => by
  obtain ⟨xs, n, _, rfl, hlen, hxs, hf⟩ := DataW.trod_struct Tryz.underlying145 h
  have hc : Tryz.prog.cellsOf 145 = 4 := by kernel_rfl
  obtain ⟨b0, k0, u0, v0⟩ := fieldB (opensB_string Tryz.underlying9) (hf 0 _ rfl) (by rw [hxs]; decide)
  obtain ⟨b1, k1, u1, v1⟩ := fieldB opensB_Pt (hf 1 _ rfl) (by rw [hxs]; decide)
  obtain ⟨b2, k2, u2, v2⟩ := fieldB (opensB_int Tryz.underlying3) (hf 2 _ rfl) (by rw [hxs]; decide)
  have hb := BK.agg (u0.next (u1.next (u2.next (BK.done))))
  refine ⟨⟨b0, b1, b2⟩, ⟨k0, k1, k2⟩, hb, v0.next (v1.next (v2.next (VRC.done (n := 4) (hlen.trans hc))))⟩
theorem opensB_Hook4s {w : World} : OpensB Tryz.prog w 39 (List Hook4) fun l => l.length ≤ maxLen ∧ ∀ a ∈ l, okHook4 a := opensB_slice Tryz.underlying39 opensB_Hook4 (by kernel_rfl) (by decide)
instance : Vol Lift2 := ⟨fun p => 1 + (Vol.vol p.block + (Vol.vol p.hooks + (0))), fun _ => Nat.le_add_right _ _⟩
def okLift2 (p : Lift2) : Prop := p.block.size ≤ maxLen ∧ (p.hooks.length ≤ maxLen ∧ ∀ a ∈ p.hooks, okHook4 a)
theorem opensB_Lift2 {w : World} : OpensB Tryz.prog w 41 Lift2 okLift2 := fun H enc base spare held fuel cs x h => by
  obtain ⟨xs, n, _, rfl, hlen, hxs, hf⟩ := DataW.trod_struct Tryz.underlying41 h
  have hc : Tryz.prog.cellsOf 41 = 2 := by kernel_rfl
  obtain ⟨b0, k0, u0, v0⟩ := fieldB (opensB_string Tryz.underlying9) (hf 0 _ rfl) (by rw [hxs]; decide)
  obtain ⟨b1, k1, u1, v1⟩ := fieldB opensB_Hook4s (hf 1 _ rfl) (by rw [hxs]; decide)
  have hb := BK.agg (u0.next (u1.next (BK.done)))
  refine ⟨⟨b0, b1⟩, ⟨k0, k1⟩, hb, v0.next (v1.next (VRC.done (n := 2) (hlen.trans hc)))⟩
instance : Vol Span2 := ⟨fun p => 1 + (Vol.vol p.a + (Vol.vol p.b + (0))), fun _ => Nat.le_add_right _ _⟩
def okSpan2 (p : Span2) : Prop := In64 p.a ∧ In64 p.b
theorem opensB_Span2 {w : World} : OpensB Tryz.prog w 43 Span2 okSpan2 := fun H enc base spare held fuel cs x h => by
  obtain ⟨xs, n, _, rfl, hlen, hxs, hf⟩ := DataW.trod_struct Tryz.underlying43 h
  have hc : Tryz.prog.cellsOf 43 = 2 := by kernel_rfl
  obtain ⟨b0, k0, u0, v0⟩ := fieldB (opensB_int Tryz.underlying3) (hf 0 _ rfl) (by rw [hxs]; decide)
  obtain ⟨b1, k1, u1, v1⟩ := fieldB (opensB_int Tryz.underlying3) (hf 1 _ rfl) (by rw [hxs]; decide)
  have hb := BK.agg (u0.next (u1.next (BK.done)))
  refine ⟨⟨b0, b1⟩, ⟨k0, k1⟩, hb, v0.next (v1.next (VRC.done (n := 2) (hlen.trans hc)))⟩
instance : Vol Permit3 := ⟨fun p => 1 + (Vol.vol p.id + (Vol.vol p.kind + (Vol.vol p.time + (0)))), fun _ => Nat.le_add_right _ _⟩
def okPermit3 (p : Permit3) : Prop := p.id.size ≤ maxLen ∧ In64 p.kind ∧ okSpan2 p.time
theorem opensB_Permit3 {w : World} : OpensB Tryz.prog w 45 Permit3 okPermit3 := fun H enc base spare held fuel cs x h => by
  obtain ⟨xs, n, _, rfl, hlen, hxs, hf⟩ := DataW.trod_struct Tryz.underlying45 h
  have hc : Tryz.prog.cellsOf 45 = 4 := by kernel_rfl
  obtain ⟨b0, k0, u0, v0⟩ := fieldB (opensB_string Tryz.underlying9) (hf 0 _ rfl) (by rw [hxs]; decide)
  obtain ⟨b1, k1, u1, v1⟩ := fieldB (opensB_int Tryz.underlying3) (hf 1 _ rfl) (by rw [hxs]; decide)
  obtain ⟨b2, k2, u2, v2⟩ := fieldB opensB_Span2 (hf 2 _ rfl) (by rw [hxs]; decide)
  have hb := BK.agg (u0.next (u1.next (u2.next (BK.done))))
  refine ⟨⟨b0, b1, b2⟩, ⟨k0, k1, k2⟩, hb, v0.next (v1.next (v2.next (VRC.done (n := 4) (hlen.trans hc))))⟩
instance : Vol Event := ⟨fun p => 1 + (Vol.vol p.kind + (Vol.vol p.at_ + (Vol.vol p.item + (Vol.vol p.of_ + (Vol.vol p.by_ + (Vol.vol p.n + (Vol.vol p.pass + (Vol.vol p.order + (Vol.vol p.sheet + (Vol.vol p.bar + (Vol.vol p.nest + (Vol.vol p.saw + (Vol.vol p.weig + (Vol.vol p.lift + (Vol.vol p.permit + (0)))))))))))))))), fun _ => Nat.le_add_right _ _⟩
def okEvent (p : Event) : Prop := In64 p.kind ∧ In64 p.at_ ∧ p.item.size ≤ maxLen ∧ p.of_.size ≤ maxLen ∧ p.by_.size ≤ maxLen ∧ In64 p.n ∧ True ∧ okOrder2 p.order ∧ okSheet6 p.sheet ∧ okBar5 p.bar ∧ okNest3 p.nest ∧ okSaw3 p.saw ∧ okWeig p.weig ∧ okLift2 p.lift ∧ okPermit3 p.permit
set_option maxHeartbeats 2000000 in
theorem opensB_Event {w : World} : OpensB Tryz.prog w 47 Event okEvent := fun H enc base spare held fuel cs x h => by
  obtain ⟨xs, n, _, rfl, hlen, hxs, hf⟩ := DataW.trod_struct Tryz.underlying47 h
  have hc : Tryz.prog.cellsOf 47 = 40 := by kernel_rfl
  obtain ⟨b0, k0, u0, v0⟩ := fieldB (opensB_int Tryz.underlying3) (hf 0 _ rfl) (by rw [hxs]; decide)
  obtain ⟨b1, k1, u1, v1⟩ := fieldB (opensB_int Tryz.underlying3) (hf 1 _ rfl) (by rw [hxs]; decide)
  obtain ⟨b2, k2, u2, v2⟩ := fieldB (opensB_string Tryz.underlying9) (hf 2 _ rfl) (by rw [hxs]; decide)
  obtain ⟨b3, k3, u3, v3⟩ := fieldB (opensB_string Tryz.underlying9) (hf 3 _ rfl) (by rw [hxs]; decide)
  obtain ⟨b4, k4, u4, v4⟩ := fieldB (opensB_string Tryz.underlying9) (hf 4 _ rfl) (by rw [hxs]; decide)
  obtain ⟨b5, k5, u5, v5⟩ := fieldB (opensB_int Tryz.underlying3) (hf 5 _ rfl) (by rw [hxs]; decide)
  obtain ⟨b6, k6, u6, v6⟩ := fieldB (opensB_bool Tryz.underlying4) (hf 6 _ rfl) (by rw [hxs]; decide)
  obtain ⟨b7, k7, u7, v7⟩ := fieldB opensB_Order2 (hf 7 _ rfl) (by rw [hxs]; decide)
  obtain ⟨b8, k8, u8, v8⟩ := fieldB opensB_Sheet6 (hf 8 _ rfl) (by rw [hxs]; decide)
  obtain ⟨b9, k9, u9, v9⟩ := fieldB opensB_Bar5 (hf 9 _ rfl) (by rw [hxs]; decide)
  obtain ⟨b10, k10, u10, v10⟩ := fieldB opensB_Nest3 (hf 10 _ rfl) (by rw [hxs]; decide)
  obtain ⟨b11, k11, u11, v11⟩ := fieldB opensB_Saw3 (hf 11 _ rfl) (by rw [hxs]; decide)
  obtain ⟨b12, k12, u12, v12⟩ := fieldB opensB_Weig (hf 12 _ rfl) (by rw [hxs]; decide)
  obtain ⟨b13, k13, u13, v13⟩ := fieldB opensB_Lift2 (hf 13 _ rfl) (by rw [hxs]; decide)
  obtain ⟨b14, k14, u14, v14⟩ := fieldB opensB_Permit3 (hf 14 _ rfl) (by rw [hxs]; decide)
  have hb := BK.agg (u0.next (u1.next (u2.next (u3.next (u4.next (u5.next (u6.next (u7.next (u8.next (u9.next (u10.next (u11.next (u12.next (u13.next (u14.next (BK.done))))))))))))))))
  refine ⟨⟨b0, b1, b2, b3, b4, b5, b6, b7, b8, b9, b10, b11, b12, b13, b14⟩, ⟨k0, k1, k2, k3, k4, k5, k6, k7, k8, k9, k10, k11, k12, k13, k14⟩, hb, v0.next (v1.next (v2.next (v3.next (v4.next (v5.next (v6.next (v7.next (v8.next (v9.next (v10.next (v11.next (v12.next (v13.next (v14.next (VRC.done (n := 40) (hlen.trans hc))))))))))))))))⟩
end Go.Proofs.YtegjnjmimfgijaaGreatDoor
noncomputable section
namespace Go.Proofs.YtegjnjmimfgijaaGreatDoor
open Go Go.RowKit
set_option maxRecDepth 100000
theorem volL_le (l : List ByteArray) : volL l + 1 ≤ Vol.vol l := by
  show _ ≤ 1 + (l.map Vol.vol).sum
  unfold volL
  induction l with
  | nil => simp
  | cons a l ih =>
    have : Vol.vol a = 1 + a.size := rfl
    simp only [List.map_cons, List.sum_cons]
    omega
theorem volE_le (x : Edit) : volE x ≤ Vol.vol x := by
  have h1 := volL_le x.pack.parts
  have h2 := volL_le x.pack.after
  have v : ∀ s : ByteArray, Vol.vol s = 1 + s.size := fun _ => rfl
  have e : Vol.vol x = 1 + (Vol.vol x.kind + (Vol.vol x.id + (Vol.vol x.to + (Vol.vol x.node + (Vol.vol x.part + (Vol.vol x.seam + (Vol.vol x.pack + (Vol.vol x.need + 0)))))))) := rfl
  have e1 : Vol.vol x.node = 1 + (Vol.vol x.node.id + (Vol.vol x.node.kind + (Vol.vol x.node.parent + 0))) := rfl
  have e2 : Vol.vol x.seam = 1 + (Vol.vol x.seam.id + (Vol.vol x.seam.a + (Vol.vol x.seam.b + (Vol.vol x.seam.kind + (Vol.vol x.seam.long + (Vol.vol x.seam.cls + 0)))))) := rfl
  have e3 : Vol.vol x.pack = 1 + (Vol.vol x.pack.id + (Vol.vol x.pack.block + (Vol.vol x.pack.parts + (Vol.vol x.pack.hours + (Vol.vol x.pack.after + 0))))) := rfl
  have e4 : Vol.vol x.need = 1 + (Vol.vol x.need.kind + (Vol.vol x.need.block + (Vol.vol x.need.on + 0))) := rfl
  have e5 : volP x.part ≤ Vol.vol x.part := by
    have f : Vol.vol x.part = 1 + (Vol.vol x.part.id + (Vol.vol x.part.rev + (Vol.vol x.part.kind + (Vol.vol x.part.node + (Vol.vol x.part.grade + (Vol.vol x.part.thick + (Vol.vol x.part.outer + (Vol.vol x.part.holes + (Vol.vol x.part.sect + (Vol.vol x.part.long + (Vol.vol x.part.mass + (Vol.vol x.part.centre + (Vol.vol x.part.at_ + (Vol.vol x.part.turn + 0)))))))))))))) := rfl
    have := v x.part.id; have := v x.part.node; have := v x.part.grade; have := v x.part.sect
    unfold volP
    omega
  have := v x.id; have := v x.to; have := v x.node.id; have := v x.node.parent; have := v x.seam.id; have := v x.seam.a; have := v x.seam.b; have := v x.pack.id; have := v x.pack.block; have := v x.need.block; have := v x.need.on
  unfold volE
  omega
theorem volO_le (o : Order2) : volO o ≤ Vol.vol o := by
  have e : Vol.vol o = 1 + (Vol.vol o.id + (Vol.vol o.edits + 0)) := rfl
  have v : Vol.vol o.id = 1 + o.id.size := rfl
  have h : vol2 o.edits ≤ Vol.vol o.edits := by
    show _ ≤ 1 + (o.edits.map Vol.vol).sum
    unfold vol2
    generalize o.edits = l
    induction l with
    | nil => simp
    | cons a l ih =>
      have := volE_le a
      simp only [List.map_cons, List.sum_cons]
      omega
  unfold volO
  omega
theorem vol_order (x : Event) : Vol.vol x.order ≤ Vol.vol x := by
  have e : Vol.vol x = 1 + (Vol.vol x.kind + (Vol.vol x.at_ + (Vol.vol x.item + (Vol.vol x.of_ + (Vol.vol x.by_ + (Vol.vol x.n + (Vol.vol x.pass + (Vol.vol x.order + (Vol.vol x.sheet + (Vol.vol x.bar + (Vol.vol x.nest + (Vol.vol x.saw + (Vol.vol x.weig + (Vol.vol x.lift + (Vol.vol x.permit + 0))))))))))))))) := rfl
  omega
theorem in_order {o : Order2} (h : okOrder2 o) : InOrder o := ⟨fun x hx => by
  obtain ⟨h1, _, _, h4, h5, h6, h7, h8⟩ := h.2.2 x hx
  exact ⟨h1, h4.2.1, h5, h6.2.2.2.1, h6.2.2.2.2.1, h6.2.2.2.2.2, h7.2.2.2.1, h8.1⟩⟩
/-- An event that the bound lets in. -/
structure GoodEv (x : Event) : Prop where
  ok : okEvent x
  vol : Vol.vol x ≤ 1048576
theorem GoodEv.inO {x : Event} (h : GoodEv x) : InOrder x.order := in_order h.ok.2.2.2.2.2.2.2.1
theorem few_fewO {x : Event} {m : Int} (h : GoodEv x) (f : few59 x m) (hm : m ≤ 1000) : FewO x.order := by
  obtain ⟨⟨_, f2, f3⟩, _⟩ := f
  refine ⟨?_, by omega, fun e he => ?_⟩
  · exact Nat.le_trans (volO_le x.order) (Nat.le_trans (vol_order x) (Nat.le_trans h.vol (by decide)))
  · obtain ⟨g1, g2, g3, g4, g5⟩ := f3 e he
    exact ⟨by omega, by omega, by omega, by omega, fun l hl => by have := g5 l hl; omega⟩
theorem few_shortEv {x : Event} {m : Int} (f : few59 x m) (hm : m ≤ 1000) : ShortEv x := by
  obtain ⟨⟨_, f2, f3⟩, f4, f5, f6, f7⟩ := f
  refine ⟨⟨by omega, fun e he => ?_⟩, ?_, ?_, ?_, ?_⟩
  · obtain ⟨g1, g2, g3, g4, g5⟩ := f3 e he
    exact ⟨⟨by show _ < _; omega, by show _ < _; omega, fun l hl => by have := g5 l hl; show _ < _; omega⟩, by show _ < _; omega, by show _ < _; omega⟩
  all_goals show _ < _; omega
end Go.Proofs.YtegjnjmimfgijaaGreatDoor
noncomputable section
namespace Go.Proofs.YtegjnjmimfgijaaGreatDoor
open Go Go.RowKit
def tabNil (P : Program) (tab : List Ent) (next : PCall) : PCall := fun f args hp nx K =>
  match entOf f tab with
  | some e => match frzTs P nx (fnAt P f).params.toList args hp with
    | some (us, hp', ob) => bif us.all nl then ob ∧ e.c us fun v => K (.ret v) hp' nx else False
    | none => False
  | none => next f args hp nx K
theorem tabNil_ok {P : Program} {tab : List Ent} {next : PCall} (ht : ∀ e ∈ tab, EntOk P e) (hn : PCallOk P next) : PCallOk P (tabNil P tab next) := by
  intro f args hp nx K h W ρ w args' hrel hargs
  unfold tabNil at h
  split at h
  · rename_i e he
    obtain ⟨h1, rfl⟩ := entOf_mem he
    split at h
    case h_2 => exact h.elim
    rename_i us hp' ob hf
    cases ha : us.all nl with
    | false => rw [ha] at h; exact h.elim
    | true =>
      rw [ha, cond_true] at h
      obtain ⟨ρ1, hr1, hs1, hlen, hvr⟩ := frzTs_sound hrel hargs hf h.1
      refine ((ht e h1 us _ h.2).call ha hr1 (.of hlen fun i v v' a b => VR0.lift (ρ := ρ1) (hvr i v v' a b))).mono ?_
      rintro e' w' ⟨v, v', ρ', hK, rfl, g1, _, g2, g3, _⟩
      exact ⟨.ret v, hp', nx, ρ', hK, ⟨v', rfl, g1⟩, g2, hs1.trans g3⟩
  · exact hn f args hp nx K h W ρ w args' hrel hargs
end Go.Proofs.YtegjnjmimfgijaaGreatDoor
namespace Go.Proofs.YtegjnjmimfgijaaGreatDoor
open Go Go.RowKit

/-- The block c is a writer that holds these bytes. -/
def Bld (c : Nat) (p : Value) (bs : List Value) (w : World) : Prop := Lib.BuilderAt 79 5 0 c p bs w
theorem info_byte : ∃ i0, Tryz.prog.info? 5 = some i0 ∧ i0.zero = some (.int .u8 0) ∧ i0.size = 1 ∧ i0.bytes = 1 := info_parts (by kernel_rfl)
theorem info_bld : ∃ j, Tryz.prog.info? 77 = some j ∧ j.size = 2 := by
  have h : (Tryz.prog.info? 77).map (·.size) = some 2 := by kernel_rfl
  obtain ⟨j, hj, h2⟩ := Option.map_eq_some_iff.1 h
  exact ⟨j, hj, h2⟩
theorem lies_bld : liesAt Tryz.prog Tryz.prog.depth 79 (2 / Tryz.prog.cellsOf 79) 0 77 1 = true := by kernel_rfl
set_option maxHeartbeats 1000000 in
set_option maxRecDepth 100000 in
theorem copyCheck_used (c : Nat) (w : World) (h0 : w.cell? ⟨c, 0, none⟩ = some (.pointer (some ⟨c, 0, none⟩))) :
    Calls Tryz.prog 55 #[.pointer (some ⟨c, 0, none⟩)] w fun e w' => e = .returned (.tuple #[]) ∧ w' = w := by
  obtain ⟨j, hj, _⟩ := info_bld
  go_enter Tryz.func55, Tryz.ntmps55
  go_wp2
  rw [Lib.run_neq_ptr_same w _ Tryz.underlying74 hj]
  go_wp2
  go_end0
  exact ⟨rfl, rfl⟩
set_option maxHeartbeats 1000000 in
set_option maxRecDepth 100000 in
theorem copyCheck_fresh (c : Nat) (w : World) (h0 : w.cell? ⟨c, 0, none⟩ = some (.pointer none)) (hsh : w.shape? c = some (79, 2)) (hfz : w.frozen? ⟨c, 0, none⟩ = false) :
    Calls Tryz.prog 55 #[.pointer (some ⟨c, 0, none⟩)] w fun e w' => e = .returned (.tuple #[]) ∧ w' = w.setCell ⟨c, 0, none⟩ (.pointer (some ⟨c, 0, none⟩)) := by
  obtain ⟨j, hj, hjs⟩ := info_bld
  go_enter Tryz.func55, Tryz.ntmps55
  go_wp2
  rw [Lib.run_to_unsafe w ⟨c, 0, none⟩ Tryz.underlying74 Tryz.underlying168 hj (by rw [hjs]; decide) hsh (Nat.zero_lt_succ 1)]
  simp only [Result.andThen]
  rw [Oper.upon_value]
  go_wp2
  rw [run_callFunc_extern Tryz.func74 (by kernel_rfl) (by kernel_rfl) (by kernel_rfl) (e := Extern.AbiNoEscape.same) (by kernel_rfl)]
  rw [Lib.run_noEscape]
  simp only [Result.andThen]
  rw [Oper.upon_value]
  go_wp2
  rw [Lib.run_from_unsafe w ⟨c, 0, none⟩ Tryz.underlying168 Tryz.underlying74 hj hsh lies_bld]
  simp only [Result.andThen]
  rw [Oper.upon_value]
  go_wp2
  go_end0
  exact ⟨rfl, rfl⟩
/-- The row in which a writer's bytes lie. -/
def bufOf (c : Nat) (w : World) : Option Nat := match w.heap[c]? with
  | some (.cells cs _ _) => match cs[1]? with
    | some v => v.ownBlock
    | none => none
  | _ => none
theorem copyCheck_any (c : Nat) (bs : List Value) (w : World) (h : Bld c (.pointer none) bs w ∨ Bld c (.pointer (some ⟨c, 0, none⟩)) bs w) :
    Calls Tryz.prog 55 #[.pointer (some ⟨c, 0, none⟩)] w fun e w' => e = .returned (.tuple #[]) ∧ Bld c (.pointer (some ⟨c, 0, none⟩)) bs w' ∧ w.grownBy w' (some c) ∧ bufOf c w' = bufOf c w := by
  rcases h with h | h
  · refine (copyCheck_fresh c w h.cell0 h.shape h.frozen0).mono ?_
    rintro e w' ⟨rfl, rfl⟩
    refine ⟨rfl, h.used _, ⟨rfl, rfl, rfl, by simp [World.setCell], fun k _ hk => Below.heap_setCell _ _ _ _ (fun e => hk (by simp [e]))⟩, ?_⟩
    obtain ⟨_, v, hb, _⟩ := h
    simp [bufOf, World.setCell, Array.getElem?_modify, hb]
  · refine (copyCheck_used c w h.cell0).mono ?_
    rintro e w' ⟨rfl, rfl⟩
    exact ⟨rfl, h, ⟨rfl, rfl, rfl, Nat.le_refl _, fun _ _ _ => rfl⟩, rfl⟩
theorem append_row {P : Program} (w : World) (t u ty e : TypeId) (i : TypeInfo) (ht : P.underlying t = some (.slice e)) (hu : P.underlying u = some .string) (hi : P.info? e = some i) (hz : i.zero = some (.int .u8 0)) (hsize : i.size = 1) (hby : i.bytes = 1)
    (v : Value) (n : Nat) (xs : List Value) (hown : w.ownsRow 0 e 1 v n xs) (s : ByteArray) (hlen : n + s.size ≤ 140737488355328) :
    ∃ v' w', (Builtin.append_ #[t, u] ty #[v, .string s]).run P w = .ok v' w' ∧ w'.ownsRow 0 e 1 v' (n + s.size) (xs ++ Lib.strCells s) ∧ w.grownBy w' v.ownBlock ∧ (∀ g, v'.ownBlock = some g → v.ownBlock = some g ∨ w.heap.size ≤ g) := by
  have h63 : n + s.size ≤ maxLen := by unfold maxLen; omega
  have hxl : xs.length = n := by simpa using hown.1
  rcases hown.2 with ⟨rfl, rfl⟩ | ⟨g, cap, cur, rfl, hbg, hg, hnc, hcm, hcs, htake⟩
  · have hx : xs = [] := List.eq_nil_of_length_eq_zero hxl
    subst hx
    obtain ⟨v', w', h1, h2, h3, _⟩ := Lib.run_append_own_string (P := P) w w.heap.size t u ty e i ht hu hi hz hsize hby _ _ _ (World.ownsRow_nil w w.heap.size e 1) s h63 hlen (Nat.le_refl _)
    refine ⟨v', w', h1, ⟨h2.1, ?_⟩, h3, fun g hg => ?_⟩
    · rcases h2.2 with h | ⟨g, cap, cur, a1, a2, a3⟩
      · exact .inl h
      · exact .inr ⟨g, cap, cur, a1, Nat.zero_le _, a3⟩
    · rcases h2.2 with ⟨rfl, _⟩ | ⟨g', cap, cur, rfl, a2, _⟩
      · cases hg
      · cases hg; exact .inr a2
  · obtain ⟨v', w', h1, h2, h3, _⟩ := Lib.run_append_own_string (P := P) w 0 t u ty e i ht hu hi hz hsize hby _ _ _ hown s h63 hlen (Nat.zero_le _)
    refine ⟨v', w', h1, h2, h3, fun g' hg' => ?_⟩
    have hcs' : cur.size = cap := by simpa using hcs
    by_cases hroom : n + s.size ≤ cap
    · have hr := Lib.run_append_room_string (P := P) w t u ty e i ht hu hi hsize g n cap cur hg s hroom (by omega)
      rw [hr] at h1
      cases h1
      cases hg'
      exact .inl rfl
    · have holds : ∀ j u, xs[j]? = some u → w.cell? ((⟨g, 0, none⟩ : Addr).add j) = some u := hown.cells (g := g) rfl
      have hr := Lib.run_append_grow_string (P := P) w t u ty e i (.int .u8 0) ht hu hi hz ⟨g, 0, none⟩ n cap xs (by rw [hsize]; simpa using hxl) holds s (by omega) (by unfold maxLen at h63; omega) (by rw [hby]; exact growslice_fits (by omega) (by omega))
      rw [hr] at h1
      cases h1
      cases hg'
      exact .inr (Nat.le_refl _)
theorem wpList_append_row {P : Program} {ops : Array Oper} {rest : List Oper} {o : Oper} {a : Act} {w : World} {Q : Exit → Act → World → Prop} (hgd : o.guard = none) (sl x : Operand) (t u : TypeId)
    (ho : o.op = .call { callee := .builtin .append, args := #[sl, x], argTypes := #[t, u] }) (e : TypeId) (i : TypeInfo) (ht : P.underlying t = some (.slice e)) (hu : P.underlying u = some .string) (hi : P.info? e = some i) (hz : i.zero = some (.int .u8 0)) (hsize : i.size = 1) (hby : i.bytes = 1)
    (v : Value) (n : Nat) (xs : List Value) (hs : a.eval sl = v) (hown : w.ownsRow 0 e 1 v n xs) (s : ByteArray) (hx : a.eval x = .string s) (hlen : n + s.size ≤ 140737488355328)
    (h : ∀ v' w', w'.ownsRow 0 e 1 v' (n + s.size) (xs ++ Lib.strCells s) → w.grownBy w' v.ownBlock → (∀ g, v'.ownBlock = some g → v.ownBlock = some g ∨ w.heap.size ≤ g) → wpList P ops Q rest (a.put o.dst v') w') : wpList P ops Q (o :: rest) a w := by
  refine wpList_plain hgd fun K hK => ?_
  obtain ⟨v', w', hr, h2, h3, h4⟩ := append_row (P := P) w t u o.type e i ht hu hi hz hsize hby v n xs hown s hlen
  unfold Oper.wp execOp
  simp only [ho, resolve, invoke, builtin, Sem.run_bind, Sem.run_pure, Result.andThen_ok, List.map_toArray, List.map_cons, List.map_nil, hs, hx, hr]
  exact hK _ _ (h v' w' h2 h3 h4)
set_option maxHeartbeats 2000000 in
set_option maxRecDepth 100000 in
theorem writeString (c : Nat) (bs : List Value) (s : ByteArray) (w : World) (h : Bld c (.pointer none) bs w ∨ Bld c (.pointer (some ⟨c, 0, none⟩)) bs w) (hlen : bs.length + s.size ≤ 140737488355328) :
    Calls Tryz.prog 31 #[.pointer (some ⟨c, 0, none⟩), .string s] w fun e w' => e = .returned (.tuple #[.int .i64 s.size, .nilIface]) ∧ Bld c (.pointer (some ⟨c, 0, none⟩)) (bs ++ Lib.strCells s) w' ∧
      (w'.os = w.os ∧ w'.tape = w.tape ∧ w'.output = w.output ∧ w.heap.size ≤ w'.heap.size) ∧ (∀ k, k < w.heap.size → k ≠ c → some k ≠ bufOf c w → w'.heap[k]? = w.heap[k]?) ∧ (∀ k, bufOf c w' = some k → bufOf c w = some k ∨ w.heap.size ≤ k) := by
  obtain ⟨i0, hi, hz0, hz1, hz2⟩ := info_byte
  go_enter Tryz.func31, Tryz.ntmps31
  go_wp2_with (go_at_call 55; refine (copyCheck_any c bs _ h).mono ?_)
  rintro e w1 ⟨rfl, h1, hb1, hr1⟩
  obtain ⟨hB, v, hbk, hown, hne⟩ := h1
  have c0 : w1.cell? ⟨c, 0, none⟩ = some (.pointer (some ⟨c, 0, none⟩)) := by rw [Lib.cell_of_heap hbk]; rfl
  have c1 : w1.cell? ⟨c, 1, none⟩ = some v := by rw [Lib.cell_of_heap hbk]; rfl
  go_wp2_with (at_builtin; refine wpList_append_row rfl _ _ 75 9 rfl 5 i0 Tryz.underlying75 Tryz.underlying9 hi hz0 hz1 hz2 _ _ _ rfl hown s rfl hlen ?_)
  intro v' w2 hown' hgrow hrow
  have hlt : c < w1.heap.size := by
    rcases Nat.lt_or_ge c w1.heap.size with h' | h'
    · exact h'
    · simp [Array.getElem?_eq_none h'] at hbk
  have hb2 : w2.heap[c]? = some (.cells #[.pointer (some ⟨c, 0, none⟩), v] 79 (0, 0)) := by
    rw [hgrow.block c hlt (fun e => hne e.symm)]
    exact hbk
  have d0 : w2.cell? ⟨c, 0, none⟩ = some (.pointer (some ⟨c, 0, none⟩)) := by rw [Lib.cell_of_heap hb2]; rfl
  have d1 : w2.cell? ⟨c, 1, none⟩ = some v := by rw [Lib.cell_of_heap hb2]; rfl
  have f1 : w2.frozen? ⟨c, 1, none⟩ = false := Lib.frozen_of_heap hb2 1
  obtain ⟨ao, n', cap, rfl⟩ : ∃ ao n' cap, v' = .slice ao n' cap := by
    rcases hown'.2 with ⟨hv, _⟩ | ⟨g, cap, cur, hv, _⟩
    · exact ⟨_, _, _, hv⟩
    · exact ⟨_, _, _, hv⟩
  go_wp2
  go_ret2
  have hr2 : bufOf c w1 = v.ownBlock := by simp [bufOf, hbk]
  have hcell : ∀ k, k ≠ c → (w2.setCell ⟨c, 1, none⟩ (.slice ao n' cap)).heap[k]? = w2.heap[k]? := fun k hk => Below.heap_setCell _ _ _ _ hk
  refine ⟨rfl, ?_, ⟨?_, ?_, ?_, ?_⟩, ?_, ?_⟩
  · exact Lib.BuilderAt.put (T := 79) (e := 5) hB hb2 (bs' := bs ++ Lib.strCells s) (by simpa [Lib.strCells_length] using hown') (by decide)
  · exact hgrow.os.trans hb1.os
  · exact hgrow.tape.trans hb1.tape
  · exact hgrow.output.trans hb1.output
  · have := hgrow.size
    have := hb1.size
    simp [World.setCell]
    omega
  · intro k hk hkc hkr
    rw [hcell k hkc, hgrow.block k (Nat.lt_of_lt_of_le hk hb1.size) (by rw [← hr2, hr1]; exact hkr), hb1.block k hk (by simpa using hkc)]
  · intro k hk
    have hk' : Value.ownBlock (.slice ao n' cap) = some k := by
      rw [← hk]
      simp [bufOf, World.setCell, Array.getElem?_modify, hb2]
    rcases hrow k hk' with h' | h'
    · exact .inl (by rw [← hr1, hr2]; exact h')
    · exact .inr (Nat.le_trans hb1.size h')
theorem grown_freeze (w : World) (g n : Nat) : w.grownBy (w.drew.freeze ⟨g, 0, none⟩ n) (some g) := by
  unfold World.freeze
  split
  · exact ⟨rfl, rfl, rfl, Nat.le_refl _, fun _ _ _ => rfl⟩
  · refine ⟨rfl, rfl, rfl, by simp, fun k _ hk => ?_⟩
    simp only [Array.getElem?_modify]
    rw [if_neg (fun e => hk (by simp [e]))]
    rfl
set_option maxHeartbeats 2000000 in
set_option maxRecDepth 100000 in
/-- String, where there is a byte at least: these are frozen in their row. -/
theorem stringOf (c : Nat) (l : List UInt8) (w : World) (h : Bld c (.pointer none) (Lib.byteCells l) w ∨ Bld c (.pointer (some ⟨c, 0, none⟩)) (Lib.byteCells l) w) (h0 : l ≠ []) :
    Calls Tryz.prog 33 #[.pointer (some ⟨c, 0, none⟩)] w fun e w' => e = .returned (.string ⟨l.toArray⟩) ∧ w.grownBy w' (bufOf c w) := by
  obtain ⟨p, hB, v, hbk, hown, hne⟩ : ∃ p, Bld c p (Lib.byteCells l) w := by
    rcases h with h | h
    · exact ⟨_, h⟩
    · exact ⟨_, h⟩
  have hl0 : l.length ≠ 0 := by simpa using h0
  rw [Lib.byteCells_length] at hown
  obtain ⟨g, cap, cur, rfl, hbg, hg, hnc, hcm, hcs, htake⟩ : ∃ g cap cur, v = .slice (some ⟨g, 0, none⟩) l.length cap ∧ 0 ≤ g ∧ w.heap[g]? = some (.cells cur 5 (0, 0)) ∧ l.length ≤ cap ∧ cap ≤ maxLen ∧ cur.size = cap * 1 ∧ cur.toList.take (l.length * 1) = Lib.byteCells l := by
    rcases hown.2 with ⟨_, hz⟩ | ⟨g, cap, cur, hv, r⟩
    · exact absurd hz hl0
    · exact ⟨g, cap, cur, hv, r⟩
  have c1 : w.drew.cell? ⟨c, 1, none⟩ = some (.slice (some ⟨g, 0, none⟩) l.length cap) := by
    have : w.drew.heap[c]? = some (.cells #[p, .slice (some ⟨g, 0, none⟩) l.length cap] 79 (0, 0)) := hbk
    rw [Lib.cell_of_heap this]; rfl
  have hSD : (Builtin.unsafeSliceData_ #[75] 152 #[.slice (some ⟨g, 0, none⟩) l.length cap]).run Tryz.prog w.drew = .ok (.pointer (some ⟨g, 0, none⟩)) w.drew :=
    Lib.run_unsafeSliceData_row _ _ _ _ _ _ (by omega)
  have hUS : (Builtin.unsafeString_ #[152, 3] 9 #[.pointer (some ⟨g, 0, none⟩), .int .i64 l.length]).run Tryz.prog w.drew = .ok (.string ⟨l.toArray⟩) (w.drew.freeze ⟨g, 0, none⟩ l.length) := by
    refine Lib.run_unsafeString_row w.drew 152 3 9 5 Tryz.underlying152 (by kernel_rfl) g cur.size (by have hg' : w.drew.heap[g]? = some (.cells cur 5 (0, 0)) := hg; simp [World.shape?, hg']) l h0 (by omega) (by unfold maxLen at hcm; omega) ?_
    intro j x hx
    have := hown.cells (g := g) rfl j (.int .u8 x.toNat) (by simp [Lib.byteCells, hx])
    exact this
  have hrow : bufOf c w = some g := by simp [bufOf, hbk, Value.ownBlock]
  go_enter Tryz.func33, Tryz.ntmps33
  go_wp2
  go_region
  all_goals (go_wp2; go_ret; refine ⟨rfl, ?_⟩; rw [hrow]; exact grown_freeze w g _)
end Go.Proofs.YtegjnjmimfgijaaGreatDoor
noncomputable section
namespace Go.Proofs.YtegjnjmimfgijaaGreatDoor
open Go Go.RowKit

/-- The block c holds these bytes, and neither it nor its row may be touched by others. -/
structure Hid (W0 : Base) (c : Nat) (W : Base) (S : ByteArray) : Prop where
  size : W0.w.heap.size ≤ W.w.heap.size
  os : W.w.os = W0.w.os
  tape : W.w.tape = W0.w.tape
  output : W.w.output = W0.w.output
  old : ∀ k, W0.old k → W.old k ∧ W.w.heap[k]? = W0.w.heap[k]?
  f0 : ∀ k ob, W.f0 k = some ob → W0.f0 k = some ob ∨ ¬ W0.old k
  cont : Bld c (.pointer none) (Lib.strCells S) W.w ∨ Bld c (.pointer (some ⟨c, 0, none⟩)) (Lib.strCells S) W.w
  mine : ∀ k, k = c ∨ bufOf c W.w = some k → W.old k ∧ ¬ W0.old k ∧ W.f0 k = none
/-- What the base W0 keeps, the base W keeps. -/
structure Lnk (W0 W : Base) : Prop where
  size : W0.w.heap.size ≤ W.w.heap.size
  os : W.w.os = W0.w.os
  tape : W.w.tape = W0.w.tape
  output : W.w.output = W0.w.output
  old : ∀ k, W0.old k → W.old k ∧ W.w.heap[k]? = W0.w.heap[k]?
  f0 : ∀ k ob, W.f0 k = some ob → W0.f0 k = some ob ∨ ¬ W0.old k
theorem Hid.lnk {W0 W : Base} {c : Nat} {S : ByteArray} (h : Hid W0 c W S) : Lnk W0 W := ⟨h.size, h.os, h.tape, h.output, h.old, h.f0⟩
def HidO (W0 : Base) (c : Nat) (W : Base) (g : Option ByteArray) : Prop :=
  match g with
  | some S => Hid W0 c W S
  | none => Lnk W0 W
theorem HidO.lnk {W0 W : Base} {c : Nat} {g : Option ByteArray} (h : HidO W0 c W g) : Lnk W0 W := by
  cases g with
  | none => exact h
  | some S => exact Hid.lnk h
theorem Bld.at_row {c : Nat} {p : Value} {bs : List Value} {w w' : World} (h : Bld c p bs w) (hc : w'.heap[c]? = w.heap[c]?) (hr : ∀ k, bufOf c w = some k → w'.heap[k]? = w.heap[k]?) : Bld c p bs w' ∧ bufOf c w' = bufOf c w := by
  obtain ⟨hB, v, hb, hown, hne⟩ := h
  have hrow : bufOf c w = v.ownBlock := by simp [bufOf, hb]
  refine ⟨⟨hB, v, by rw [hc]; exact hb, ⟨hown.1, ?_⟩, hne⟩, by unfold bufOf; rw [hc]⟩
  rcases hown.2 with h | ⟨g, cap, cur, rfl, a2, a3, a4⟩
  · exact .inl h
  · exact .inr ⟨g, cap, cur, rfl, a2, by rw [hr g (by rw [hrow]; rfl)]; exact a3, a4⟩
theorem Bld.row_lt {c : Nat} {p : Value} {bs : List Value} {w : World} (h : Bld c p bs w) {k : Nat} (hk : bufOf c w = some k) : k < w.heap.size := by
  obtain ⟨hB, v, hb, hown, hne⟩ := h
  have hrow : bufOf c w = v.ownBlock := by simp [bufOf, hb]
  rcases hown.2 with ⟨rfl, _⟩ | ⟨g, cap, cur, rfl, a2, a3, a4⟩
  · rw [hrow] at hk; cases hk
  · rw [hrow] at hk
    cases hk
    rcases Nat.lt_or_ge g w.heap.size with h' | h'
    · exact h'
    · rw [Array.getElem?_eq_none h'] at a3; cases a3
/-- The bytes, in the world at hand. -/
theorem Hid.now {W0 W : Base} {c : Nat} {S : ByteArray} (h : Hid W0 c W S) {w : World} (hs : Still W w) :
    (Bld c (.pointer none) (Lib.strCells S) w ∨ Bld c (.pointer (some ⟨c, 0, none⟩)) (Lib.strCells S) w) ∧ bufOf c w = bufOf c W.w := by
  have hc := hs.block c (h.mine c (.inl rfl)).1
  have hr : ∀ k, bufOf c W.w = some k → w.heap[k]? = W.w.heap[k]? := fun k hk => hs.block k (h.mine k (.inr hk)).1
  rcases h.cont with q | q
  · exact ⟨.inl (q.at_row hc hr).1, (q.at_row hc hr).2⟩
  · exact ⟨.inr (q.at_row hc hr).1, (q.at_row hc hr).2⟩
/-- All blocks but one may be written. -/
def allWr (kb : Nat) (hp : Tr AObj) : Nat → Bool
  | 0 => true
  | n + 1 => allWr kb hp n && match hp.get n with
    | some o => o.wr || n.beq kb
    | none => true
theorem allWr_get {kb : Nat} {hp : Tr AObj} : ∀ {n : Nat}, allWr kb hp n = true → ∀ b o, b < n → hp.get b = some o → o.wr = true ∨ b = kb
  | 0, _, b, o, hb, _ => by omega
  | n + 1, h, b, o, hb, ho => by
    simp only [allWr, Bool.and_eq_true] at h
    by_cases e : b = n
    · subst e
      rw [ho] at h
      have := h.2
      simp only [Bool.or_eq_true] at this
      exact this.imp id Nat.eq_of_beq_eq_true
    · exact allWr_get h.1 b o (by omega) ho
def none0 (hp : Tr AObj) (kb : Nat) : Bool :=
  match hp.get kb with
  | some (.cells [] false) => true
  | none => true
  | _ => false
theorem wr_old {ρ : Place} {O : Nat → Prop} {c s z : Nat} {o : AObj} {ob : Obj} (h : ORel ρ O c s z o ob) (hw : o.wr = true) : ¬ O c := by
  cases o with
  | cells l wr =>
    cases ob <;> try exact h.elim
    exact h.2.2.2.2 hw
  | iter st p =>
    cases ob <;> try exact h.elim
    exact h.2.2.1
theorem ORel.other {ρ : Place} {O O' : Nat → Prop} {c s z : Nat} {o : AObj} {ob : Obj} (h : ORel ρ O c s z o ob) (hw : o.wr = true) (hO : ¬ O' c) : ORel ρ O' c s z o ob := by
  cases o with
  | cells l wr =>
    cases ob <;> try exact h.elim
    exact ⟨h.1, h.2.1, h.2.2.1, h.2.2.2.1, fun _ => hO⟩
  | iter st p =>
    cases ob <;> try exact h.elim
    exact ⟨h.1, h.2.1, hO, h.2.2.2⟩
theorem strCells_append (a b : ByteArray) : Lib.strCells (a ++ b) = Lib.strCells a ++ Lib.strCells b := by
  simp [Lib.strCells, ByteArray.data_append]
/-- Writing, to the builder; and its string, the end of it. -/
def bldCall (kb : Nat) (next : GCall (Option ByteArray)) : GCall (Option ByteArray) := fun f args hp nx g K =>
  bif f.beq 31 then match args, g with
    | [.pointer (some ⟨b, o, none⟩), .string s], some g => bif b.beq kb && (o.beq 0 && (allWr kb hp nx && none0 hp kb)) then g.size + s.size ≤ 140737488355328 ∧ K (.ret (.tuple #[.int .i64 s.size, .nilIface])) hp nx (some (g ++ s)) else False
    | _, _ => False
  else bif f.beq 33 then match args, g with
    | [.pointer (some ⟨b, o, none⟩)], some g => bif b.beq kb && (o.beq 0 && (allWr kb hp nx && none0 hp kb)) then 0 < g.size ∧ K (.ret (.string g)) hp nx none else False
    | _, _ => False
  else next f args hp nx g K
theorem bldCall_ok {W0 : Base} {c kb : Nat} {next : GCall (Option ByteArray)} (hn : GCallOk Tryz.prog (HidO W0 c) kb (c, 0, 2) next) : GCallOk Tryz.prog (HidO W0 c) kb (c, 0, 2) (bldCall kb next) := by
  intro f args hp nx g0 K h W ρ w args' hI0 hkx hrel hargs
  unfold bldCall at h
  cases hf : f.beq 31 with
  | false =>
    rw [hf, cond_false] at h
    cases hf2 : f.beq 33 with
    | false => rw [hf2] at h; exact hn f args hp nx g0 K h W ρ w args' hI0 hkx hrel hargs
    | true =>
      rw [hf2, cond_true] at h
      have hf' := Nat.eq_of_beq_eq_true hf2
      subst hf'
      split at h
      case h_2 => exact h.elim
      rename_i b o g
      have hI : Hid W0 c W g := hI0
      cases hc : b.beq kb && (o.beq 0 && (allWr kb hp nx && none0 hp kb)) with
      | false => rw [hc] at h; exact h.elim
      | true =>
        rw [hc, cond_true] at h
        simp only [Bool.and_eq_true] at hc
        obtain ⟨hb, ho, hwr, hno⟩ := hc
        have hb := Nat.eq_of_beq_eq_true hb
        have ho := Nat.eq_of_beq_eq_true ho
        subst hb ho
        obtain ⟨hpos, hK⟩ := h
        cases hargs with
        | cons ha hrest =>
          cases hrest
          cases ha with
          | ptr hpl =>
            have hpl' := hpl
            rw [hkx] at hpl'
            cases hpl'
            obtain ⟨hcont, hrow⟩ := hI.now hrel.below
            have hne : g.data.toList ≠ [] := fun e => by
              have h1 : g.data.toList.length = g.size := by rw [Array.length_toList]; rfl
              rw [e] at h1
              simp at h1
              omega
            refine (stringOf c g.data.toList w hcont hne).mono ?_
            rintro e w' ⟨rfl, hg⟩
            have hmine := hI.mine
            rw [← hrow] at hmine
            have hgd : (⟨g.data.toList.toArray⟩ : ByteArray) = g := rfl
            have lt_of : ∀ {k : Nat} {ob : Obj}, w.heap[k]? = some ob → k < w.heap.size := fun {k ob} hk => by
              rcases Nat.lt_or_ge k w.heap.size with h' | h'
              · exact h'
              · rw [Array.getElem?_eq_none h'] at hk; cases hk
            have unch : ∀ k, k < w.heap.size → bufOf c w ≠ some k → w'.heap[k]? = w.heap[k]? := fun k h1 h3 => hg.block k h1 fun e => h3 e.symm
            have Wlt : ∀ k, W.old k → k < w.heap.size := fun k hk => Nat.lt_of_lt_of_le hk.1 hrel.below.size
            have hnot : ∀ k, ¬ W.old k → ¬ W0.old k := fun k hk h' => hk (hI.old k h').1
            have hcw : c < w.heap.size := (hrel.dom _ _ hkx).2
            have hcr : bufOf c w ≠ some c := by
              rcases hcont with ⟨_, v, hbk, _, hne⟩ | ⟨_, v, hbk, _, hne⟩
              · simpa [bufOf, hbk] using hne
              · simpa [bufOf, hbk] using hne
            refine ⟨_, hp, nx, none, ρ, ⟨W0.w, W0.mu, W0.f0, W.ds⟩, hK, ⟨_, rfl, .string _⟩, ⟨?_, rfl⟩, ⟨fun b x hb => ⟨(hrel.dom b x hb).1, Nat.lt_of_lt_of_le (hrel.dom b x hb).2 hg.size⟩, fun b o c' s' z ho1 hb1 => ?_, hrel.inj, hrel.fresh, ⟨?_, ?_, ?_, ?_, fun k hk => ?_⟩, fun k ob hk => ?_, hrel.apart, fun k ob hk => ?_⟩, .refl _ _ _⟩
            · exact ⟨Nat.le_refl _, rfl, rfl, rfl, fun k hk => ⟨hk, rfl⟩, fun k ob hk => .inl hk⟩
            · obtain ⟨ob, e1, e2⟩ := hrel.obj b o c' s' z ho1 hb1
              rcases allWr_get hwr b o (hrel.dom b _ hb1).1 ho1 with hw | hw
              · have hno' := wr_old e2 hw
                exact ⟨ob, by rw [unch c' (lt_of e1) fun e => hno' (hmine c' (.inr e)).1]; exact e1, e2.other hw (hnot c' hno')⟩
              · subst hw
                have hb' : ρ.pl b = some (c', s', z) := hb1
                rw [hkx] at hb'
                cases hb'
                have ho' : o = .cells [] false := by
                  unfold none0 at hno
                  rw [ho1] at hno
                  split at hno
                  · rename_i q; cases q; rfl
                  · rename_i q; cases q
                  · cases hno
                subst ho'
                refine ⟨ob, by rw [unch _ hcw hcr]; exact e1, ?_⟩
                cases ob <;> try exact e2.elim
                exact ⟨e2.1, e2.2.1, e2.2.2.1, e2.2.2.2.1, fun h' => by cases h'⟩
            · exact hg.os.trans (hrel.below.os.trans hI.os)
            · exact hg.tape.trans (hrel.below.tape.trans hI.tape)
            · exact hg.output.trans (hrel.below.output.trans hI.output)
            · exact Nat.le_trans hI.size (Nat.le_trans hrel.below.size hg.size)
            · have h1 := hI.old k hk
              show w'.heap[k]? = W0.w.heap[k]?
              rw [unch k (Wlt k h1.1) fun e => (hmine k (.inr e)).2.1 hk, hrel.below.block k h1.1]
              exact h1.2
            · have e1 := hrel.frz k ob hk
              rw [unch k (lt_of e1) fun e => ?_]
              · exact e1
              · rcases hrel.frn k ob hk with q | q
                · rw [(hmine k (.inr e)).2.2] at q; cases q
                · exact q (hmine k (.inr e)).1
            · rcases hrel.frn k ob hk with q | q
              · exact hI.f0 k ob q
              · exact .inr (hnot k q)
  | true =>
    rw [hf, cond_true] at h
    have hf' := Nat.eq_of_beq_eq_true hf
    subst hf'
    split at h
    case h_2 => exact h.elim
    rename_i b o s g
    have hI : Hid W0 c W g := hI0
    cases hc : b.beq kb && (o.beq 0 && (allWr kb hp nx && none0 hp kb)) with
    | false => rw [hc] at h; exact h.elim
    | true =>
      rw [hc, cond_true] at h
      simp only [Bool.and_eq_true] at hc
      obtain ⟨hb, ho, hwr, hno⟩ := hc
      have hb := Nat.eq_of_beq_eq_true hb
      have ho := Nat.eq_of_beq_eq_true ho
      subst hb ho
      obtain ⟨hlen, hK⟩ := h
      cases hargs with
      | cons ha hrest =>
        cases hrest with
        | cons hs hrest =>
          cases hrest
          cases hs
          cases ha with
          | ptr hpl =>
            have hpl' := hpl
            rw [hkx] at hpl'
            cases hpl'
            obtain ⟨hcont, hrow⟩ := hI.now hrel.below
            have hl : (Lib.strCells g).length + s.size ≤ 140737488355328 := by rw [Lib.strCells_length]; exact hlen
            refine (writeString c (Lib.strCells g) s w hcont hl).mono ?_
            rintro e w' ⟨rfl, hB, ⟨f1, f2, f3, f4⟩, f5, f6⟩
            have hcw : c < w.heap.size := (hrel.dom _ _ hkx).2
            have hmine := hI.mine
            rw [← hrow] at hmine
            have unch : ∀ k, k < w.heap.size → k ≠ c → bufOf c w ≠ some k → w'.heap[k]? = w.heap[k]? := fun k h1 h2 h3 => f5 k h1 h2 fun e => h3 e.symm
            have free : ∀ k, ¬ W.old k → k ≠ c ∧ bufOf c w ≠ some k := fun k hk => ⟨fun e => hk (hmine k (.inl e)).1, fun e => hk (hmine k (.inr e)).1⟩
            have frno : ∀ k, k = c ∨ bufOf c w = some k → ρ.fr k = none := fun k hk => by
              cases hfr : ρ.fr k with
              | none => rfl
              | some ob =>
                rcases hrel.frn k ob hfr with q | q
                · rw [(hmine k hk).2.2] at q; cases q
                · exact (q (hmine k hk).1).elim
            have lt_of : ∀ {k : Nat} {ob : Obj}, w.heap[k]? = some ob → k < w.heap.size := fun {k ob} hk => by
              rcases Nat.lt_or_ge k w.heap.size with h' | h'
              · exact h'
              · rw [Array.getElem?_eq_none h'] at hk; cases hk
            have frnew : ∀ k, bufOf c w' = some k → ρ.fr k = none := fun k hk => by
              rcases f6 k hk with q | q
              · exact frno k (.inr q)
              · cases hfr : ρ.fr k with
                | none => rfl
                | some ob => have := lt_of (hrel.frz k ob hfr); omega
            have hold : ∀ k, (⟨w', fun k => ¬ (W.old k ∨ k = c ∨ bufOf c w' = some k), ρ.fr, W.ds⟩ : Base).old k ↔ k < w'.heap.size ∧ (W.old k ∨ k = c ∨ bufOf c w' = some k) := fun k => by
              unfold Base.old
              dsimp only
              rw [Classical.not_not]
            have Wlt : ∀ k, W.old k → k < w.heap.size := fun k hk => Nat.lt_of_lt_of_le hk.1 hrel.below.size
            refine ⟨_, hp, nx, some (g ++ s), ρ, ⟨w', fun k => ¬ (W.old k ∨ k = c ∨ bufOf c w' = some k), ρ.fr, W.ds⟩, hK, ⟨_, rfl, .tuple rfl fun i v v' h1 h2 => ?_⟩, ⟨⟨?_, ?_, ?_, ?_, fun k hk => ⟨?_, ?_⟩, fun k ob hk => ?_, .inr ?_, fun k hk => ⟨?_, ?_, ?_⟩⟩, rfl⟩, ⟨fun b x hb => ⟨(hrel.dom b x hb).1, Nat.lt_of_lt_of_le (hrel.dom b x hb).2 f4⟩, fun b o c' s' z ho1 hb1 => ?_, hrel.inj, hrel.fresh, ⟨rfl, rfl, rfl, Nat.le_refl _, fun _ _ => rfl⟩, fun k ob hk => ?_, hrel.apart, fun k ob hk => .inl hk⟩, .refl _ _ _⟩
            · rcases i with _ | _ | i
              · cases h1; cases h2; exact .int _ _
              · cases h1; cases h2; exact .nilIface
              · simp at h1
            · exact Nat.le_trans hI.size (Nat.le_trans hrel.below.size f4)
            · exact f1.trans (hrel.below.os.trans hI.os)
            · exact f2.trans (hrel.below.tape.trans hI.tape)
            · exact f3.trans (hrel.below.output.trans hI.output)
            · exact (hold k).2 ⟨Nat.lt_of_lt_of_le (Wlt k (hI.old k hk).1) f4, .inl (hI.old k hk).1⟩
            · have h1 := hI.old k hk
              have h2 : k ≠ c := fun e => (hmine k (.inl e)).2.1 hk
              have h3 : bufOf c w ≠ some k := fun e => (hmine k (.inr e)).2.1 hk
              show w'.heap[k]? = _
              rw [unch k (Wlt k h1.1) h2 h3, hrel.below.block k h1.1]
              exact h1.2
            · rcases hrel.frn k ob hk with q | q
              · exact hI.f0 k ob q
              · exact .inr fun h' => q (hI.old k h').1
            · rw [strCells_append]; exact hB
            · rcases hk with rfl | hk
              · exact (hold _).2 ⟨Nat.lt_of_lt_of_le hcw f4, .inr (.inl rfl)⟩
              · exact (hold _).2 ⟨hB.row_lt hk, .inr (.inr hk)⟩
            · rcases hk with rfl | hk
              · exact (hmine _ (.inl rfl)).2.1
              · rcases f6 k hk with q | q
                · exact (hmine _ (.inr q)).2.1
                · intro h'
                  have := h'.1
                  have := hI.size
                  have := hrel.below.size
                  omega
            · rcases hk with rfl | hk
              · exact frno _ (.inl rfl)
              · exact frnew k hk
            · obtain ⟨ob, e1, e2⟩ := hrel.obj b o c' s' z ho1 hb1
              rcases allWr_get hwr b o (hrel.dom b _ hb1).1 ho1 with hw | hw
              · have hno' := wr_old e2 hw
                have h2 := free c' hno'
                refine ⟨ob, by rw [unch c' (lt_of e1) h2.1 h2.2]; exact e1, e2.other hw fun h' => ?_⟩
                rcases ((hold c').1 h').2 with q | q | q
                · exact hno' q
                · exact h2.1 q
                · rcases f6 c' q with q | q
                  · exact h2.2 q
                  · have := lt_of e1; omega
              · subst hw
                have hb' : ρ.pl b = some (c', s', z) := hb1
                rw [hkx] at hb'
                cases hb'
                have ho' : o = .cells [] false := by
                  unfold none0 at hno
                  rw [ho1] at hno
                  split at hno
                  · rename_i q; cases q; rfl
                  · rename_i q; cases q
                  · cases hno
                subst ho'
                obtain ⟨_, v, hbk, _⟩ := hB
                exact ⟨_, hbk, rfl, Nat.zero_le _, fun o _ h' => by simp at h', fun i v hv => by simp at hv, fun h' => by cases h'⟩
            · have e1 := hrel.frz k ob hk
              have h2 : k ≠ c := fun e => by rw [frno k (.inl e)] at hk; cases hk
              have h3 : bufOf c w ≠ some k := fun e => by rw [frno k (.inr e)] at hk; cases hk
              rw [unch k (lt_of e1) h2 h3]
              exact e1
end Go.Proofs.YtegjnjmimfgijaaGreatDoor
noncomputable section
namespace Go.Proofs.YtegjnjmimfgijaaGreatDoor
open Go Go.RowKit

theorem Lnk.back {W0 W : Base} (h : Lnk W0 W) {ρ : Place} {hp : Tr AObj} {nx : Nat} {w : World} (hr : Rel ρ W hp nx w) : Rel ρ W0 hp nx w := by
  have hnot : ∀ k, ¬ W.old k → ¬ W0.old k := fun k hk h' => hk (h.old k h').1
  refine ⟨hr.dom, fun b o c s z ho hb => ?_, hr.inj, hr.fresh, ⟨hr.below.os.trans h.os, hr.below.tape.trans h.tape, hr.below.output.trans h.output, Nat.le_trans h.size hr.below.size, fun k hk => (hr.below.block k (h.old k hk).1).trans (h.old k hk).2⟩, hr.frz, hr.apart, fun k ob hk => ?_⟩
  · obtain ⟨ob, e1, e2⟩ := hr.obj b o c s z ho hb
    refine ⟨ob, e1, ?_⟩
    cases o with
    | cells l wr =>
      cases ob <;> try exact e2.elim
      exact ⟨e2.1, e2.2.1, e2.2.2.1, e2.2.2.2.1, fun hw => hnot c (e2.2.2.2.2 hw)⟩
    | iter st p =>
      cases ob <;> try exact e2.elim
      exact ⟨e2.1, e2.2.1, hnot c e2.2.2.1, e2.2.2.2⟩
  · rcases hr.frn k ob hk with q | q
    · exact h.f0 k ob q
    · exact .inr (hnot k q)
def isAllocW (ops : Array Oper) (draw : Bool) : Option Tmp :=
  match draw, ops.toList with
  | false, [o] => match o.op, o.dst, o.guard with
    | .alloc t, some d, none => bif t.beq 79 then some d else none
    | _, _, _ => none
  | _, _ => none
theorem isAllocW_eq {ops : Array Oper} {draw : Bool} {d : Tmp} (h : isAllocW ops draw = some d) : ∃ o, draw = false ∧ ops = #[o] ∧ o.op = .alloc 79 ∧ o.dst = some d ∧ o.guard = none := by
  unfold isAllocW at h
  split at h
  case h_2 => cases h
  rename_i o ho
  split at h
  case h_2 => cases h
  rename_i t d' h1 h2 h3
  cases ht : t.beq 79 with
  | false => rw [ht] at h; cases h
  | true =>
    rw [ht] at h
    cases h
    have := Nat.eq_of_beq_eq_true ht
    subst this
    exact ⟨o, rfl, by apply Array.ext'; simpa using ho, h1, h2, h3⟩
theorem zero_writer : (pureRun Tryz.prog (zeroValue 79)).map Value.cells = some #[.pointer none, .slice none 0 0] := by kernel_rfl
theorem alloc_writer (w : World) : (Instr.alloc 79 true (.tuple #[])).run Tryz.prog w = .ok (.pointer (some ⟨w.heap.size, 0, none⟩)) (pushed w (.cells #[.pointer none, .slice none 0 0] 79)) := by
  obtain ⟨z, hz, hc⟩ := Option.map_eq_some_iff.1 zero_writer
  unfold Instr.alloc
  rw [bind_run hz]
  show ((newRow 79 z.cells) >>= fun a => pure (Value.pointer (some a))).run Tryz.prog w = _
  rw [hc]
  rfl
theorem start_hid {ρ : Place} {W : Base} {hp : Tr AObj} {nx : Nat} {w : World} (h : Rel ρ W hp nx w) :
    HidO W w.heap.size ⟨pushed w (.cells #[.pointer none, .slice none 0 0] 79), fun k => ¬ (W.old k ∨ k = w.heap.size), ρ.fr, W.ds⟩ (some .empty) ∧
    Rel (ρ.set nx (w.heap.size, 0, 2)) ⟨pushed w (.cells #[.pointer none, .slice none 0 0] 79), fun k => ¬ (W.old k ∨ k = w.heap.size), ρ.fr, W.ds⟩ (hp.put nx (some (.cells [] false))) (nx + 1) (pushed w (.cells #[.pointer none, .slice none 0 0] 79)) := by
  have hsz : (pushed w (.cells #[.pointer none, .slice none 0 0] 79)).heap.size = w.heap.size + 1 := by show (w.heap.push _).size = _; rw [Array.size_push]
  have hat := pushed_at w (.cells #[.pointer none, .slice none 0 0] 79)
  have Wlt : ∀ k, W.old k → k < w.heap.size := fun k hk => Nat.lt_of_lt_of_le hk.1 h.below.size
  have hold : ∀ k, (⟨pushed w (.cells #[.pointer none, .slice none 0 0] 79), fun k => ¬ (W.old k ∨ k = w.heap.size), ρ.fr, W.ds⟩ : Base).old k ↔ k < w.heap.size + 1 ∧ (W.old k ∨ k = w.heap.size) := fun k => by
    unfold Base.old
    dsimp only
    rw [Classical.not_not, hsz]
  have hfr : ρ.fr w.heap.size = none := by
    cases hf : ρ.fr w.heap.size with
    | none => rfl
    | some ob => have := h.frz _ _ hf; simp at this
  have hnw : ¬ W.old w.heap.size := fun h' => by have := Wlt _ h'; omega
  constructor
  · refine ⟨?_, h.below.os, h.below.tape, h.below.output, fun k hk => ⟨(hold k).2 ⟨by have := Wlt k hk; omega, .inl hk⟩, ?_⟩, fun k ob hk => h.frn k ob hk, .inl ⟨Nat.zero_le _, _, hat, World.ownsRow_nil _ _ _ _, by simp [Value.ownBlock]⟩, fun k hk => ?_⟩
    · show _ ≤ (pushed w _).heap.size
      rw [hsz]
      have := h.below.size
      omega
    · show (pushed w _).heap[k]? = _
      rw [pushed_lt w _ (Wlt k hk)]
      exact h.below.block k hk
    · rcases hk with rfl | hk
      · exact ⟨(hold _).2 ⟨by omega, .inr rfl⟩, hnw, hfr⟩
      · have hk' : bufOf w.heap.size (pushed w (.cells #[.pointer none, .slice none 0 0] 79)) = some k := hk
        unfold bufOf at hk'
        rw [hat] at hk'
        cases hk'
  · have hr := (h.reserve (.cells [] false)).realize (b := nx) (o := .cells [] false) (ob := .cells #[.pointer none, .slice none 0 0] 79) (z := 2) (Nat.lt_succ_self _) h.dom_none (by rw [Tr.get_put, if_pos rfl]) ⟨rfl, by decide, fun o _ => by simp, fun i v hv => by simp at hv, fun h' => by cases h'⟩
    refine ⟨hr.dom, fun b o c s z ho hb => ?_, hr.inj, hr.fresh, ⟨rfl, rfl, rfl, Nat.le_refl _, fun _ _ => rfl⟩, hr.frz, hr.apart, fun k ob hk => .inl hk⟩
    obtain ⟨ob, e1, e2⟩ := hr.obj b o c s z ho hb
    refine ⟨ob, e1, ?_⟩
    by_cases e : b = nx
    · subst e
      rw [Tr.get_put, if_pos rfl] at ho
      cases ho
      cases ob <;> try exact e2.elim
      exact ⟨e2.1, e2.2.1, e2.2.2.1, e2.2.2.2.1, fun h' => by cases h'⟩
    · have hb' : ρ b = some (c, s, z) := by
        rw [Place.set_other e] at hb
        exact hb
      have hc := (h.dom b _ hb').2
      cases o with
      | cells l wr =>
        cases ob <;> try exact e2.elim
        exact ⟨e2.1, e2.2.1, e2.2.2.1, e2.2.2.2.1, fun hw h' => ((hold c).1 h').2.elim (e2.2.2.2.2 hw) (by intro e; dsimp only at hc; omega)⟩
      | iter st p =>
        cases ob <;> try exact e2.elim
        exact ⟨e2.1, e2.2.1, fun h' => ((hold c).1 h').2.elim e2.2.2.1 (by intro e; dsimp only at hc; omega), e2.2.2.2⟩
/-- The builder is done. -/
def onNone (g : Option ByteArray) (X : Prop) : Prop := match g with | none => X | some _ => False
theorem onNone_eq {g : Option ByteArray} {X : Prop} (h : onNone g X) : g = none ∧ X := by
  cases g with
  | none => exact ⟨rfl, h⟩
  | some s => exact h.elim
def wrun (P : Program) (pc : PCall) (mk : Nat → GCall (Option ByteArray)) (n : Nat) (Fin : AS → Prop) (X : Value → AS → Prop) : Nat → VM → List Fr → AS → Prop
  | 0, _, _, _ => False
  | f + 1, .normal, k, st => match k with
    | [] => Fin st
    | .seq y :: k' => wrun P pc mk n Fin X f (.code y) k' st
    | .block _ :: k' => wrun P pc mk n Fin X f .normal k' st
    | .loop b :: k' => wrun P pc mk n Fin X f (.code b) (.loop b :: k') st
  | f + 1, .exit id, k, st => match k with
    | [] => False
    | .block j :: k' => bif id.beq j then wrun P pc mk n Fin X f .normal k' st else wrun P pc mk n Fin X f (.exit id) k' st
    | _ :: k' => wrun P pc mk n Fin X f (.exit id) k' st
  | _ + 1, .ret, _, st => Fin st
  | f + 1, .code c, k, st => match c with
    | .skip | .label _ => wrun P pc mk n Fin X f .normal k st
    | .region _ ops draw => match isAllocW ops draw with
      | some d => match aput n st.tm (some d) (.pointer (some ⟨st.nx, 0, none⟩)) with
        | some tm => grun P (mk st.nx) n [] [] (fun _ _ _ _ => False) (fun st g => onNone g (Fin st)) (fun v st g => onNone g (X v st)) 3000 .normal k ⟨tm, st.hp.put st.nx (some (.cells [] false)), st.nx + 1⟩ (some .empty)
        | none => False
      | none => vregionP P pc n ops draw st (fun st' => wrun P pc mk n Fin X f .normal k st') X
    | .seq x y => wrun P pc mk n Fin X f (.code x) (.seq y :: k) st
    | .cond c x y => match aev st.tm c with
      | some (.bool b) => pIf b (wrun P pc mk n Fin X f (.code x) k st) (wrun P pc mk n Fin X f (.code y) k st)
      | _ => False
    | .block id b => wrun P pc mk n Fin X f (.code b) (.block id :: k) st
    | .loop b => wrun P pc mk n Fin X f (.code b) (.loop b :: k) st
    | .exit id => wrun P pc mk n Fin X f (.exit id) k st
    | .ret => wrun P pc mk n Fin X f .ret k st
    | _ => False
theorem wrun_sound {pc : PCall} {mk : Nat → GCall (Option ByteArray)} {W : Base} {n : Nat} {Fin : AS → Prop} {X : Value → AS → Prop} {R : Place → AS → Prop} {Q : Exit → Act → World → Prop} (hcall : PCallOk Tryz.prog pc) (hmk : ∀ W0 c kb, GCallOk Tryz.prog (HidO W0 c) kb (c, 0, 2) (mk kb)) (hm : Tryz.prog.follows .mixedOrders = true)
    (hR : ∀ ρ st ρ' st', R ρ st → Step ρ ρ' st.hp st'.hp st.nx st'.nx → R ρ' st')
    (hF : ∀ st, Fin st → ∀ ρ a w, SRel ρ W n st a w → R ρ st → Q .normal a w ∧ Q .ret a w)
    (hX : ∀ v st, X v st → ∀ ρ v' a w, VR ρ v v' → SRel ρ W n st a w → R ρ st → Q (.panic [{ v := v', recovered := false }]) a w) :
    ∀ (f : Nat) (m : VM) (k : List Fr) (st : AS), wrun Tryz.prog pc mk n Fin X f m k st → ∀ ρ a w, SRel ρ W n st a w → R ρ st → (match m with
      | .code c => c.wp Tryz.prog (contQ Tryz.prog Q k) a w
      | .normal => contQ Tryz.prog Q k .normal a w
      | .exit id => contQ Tryz.prog Q k (.exit id) a w
      | .ret => contQ Tryz.prog Q k .ret a w) := by
  intro f
  induction f with
  | zero => intro m k st h; simp only [wrun] at h
  | succ f ih =>
    intro m k st h ρ a w hs hr
    cases m with
    | normal =>
      simp only [wrun] at h
      dsimp only
      cases k with
      | nil => exact (hF st h ρ a w hs hr).1
      | cons x k =>
        cases x with
        | seq y => exact ih (.code y) k st h ρ a w hs hr
        | block id => exact ih .normal k st h ρ a w hs hr
        | loop b =>
          exact loop_round (ih (.code b) (.loop b :: k) st h ρ a w hs hr)
    | exit id =>
      simp only [wrun] at h
      dsimp only
      cases k with
      | nil => exact h.elim
      | cons x k =>
        cases x with
        | seq y => exact ih (.exit id) k st h ρ a w hs hr
        | block j =>
          show Exit.inBlock j (contQ Tryz.prog Q k) (.exit id) a w
          simp only [Exit.inBlock]
          dsimp only at h
          cases hj : id.beq j with
          | true =>
            rw [hj] at h
            rw [if_pos (Nat.eq_of_beq_eq_true hj)]
            exact ih .normal k st h ρ a w hs hr
          | false =>
            rw [hj] at h
            rw [if_neg (fun e => by subst e; simp at hj)]
            exact ih (.exit id) k st h ρ a w hs hr
        | loop b => exact ih (.exit id) k st h ρ a w hs hr
    | ret =>
      simp only [wrun] at h
      exact contQ_ret (hF st h ρ a w hs hr).2
    | code c =>
      simp only [wrun] at h
      dsimp only
      cases c with
      | skip => exact wp_skip (ih .normal k st h ρ a w hs hr)
      | label l => exact wp_label (ih .normal k st h ρ a w hs hr)
      | region id ops draw =>
        dsimp only at h
        split at h
        · rename_i d hd
          split at h
          case h_2 => exact h.elim
          rename_i tm htm
          obtain ⟨o, rfl, rfl, ho, hdst, hgd⟩ := isAllocW_eq hd
          refine wp_region ?_
          show wpOps Tryz.prog #[o] _ [0] a w
          rw [wpOps_cons]
          unfold wpOp
          have e0 : (#[o])[0]? = some o := rfl
          simp only [e0]
          have hw : ∀ q, Region.wanted o q = true := fun q => by unfold Region.wanted; rw [hgd]
          rw [hw, if_pos rfl]
          refine .inl ?_
          obtain ⟨dst, op, type, pos, after, guard⟩ := o
          dsimp only at ho hdst hgd
          subst ho hdst hgd
          have hrun : (execOp a.eval ⟨some d, .alloc 79, type, pos, after, none⟩).run Tryz.prog w = .ok (.value (.pointer (some ⟨w.heap.size, 0, none⟩))) (pushed w (.cells #[.pointer none, .slice none 0 0] 79)) := value_run (alloc_writer w)
          unfold Oper.wp
          rw [hrun]
          show contQ Tryz.prog Q k .normal _ _
          have hnone := hs.rel.dom_none
          have hle := Place.le_set (x := (w.heap.size, 0, 2)) hnone
          have hstep : Step ρ (ρ.set st.nx (w.heap.size, 0, 2)) st.hp (st.hp.put st.nx (some (.cells [] false))) st.nx (st.nx + 1) := ⟨hle, Nat.le_succ _, fun b hb hr => ⟨by rw [Place.set_other (by omega)]; exact hr, by rw [Tr.get_put, if_neg (by omega)]⟩⟩
          obtain ⟨hhid, hrel⟩ := start_hid hs.rel
          refine grun_sound (I := HidO W w.heap.size) (kb := st.nx) (kx := (w.heap.size, 0, 2)) (W0 := ⟨pushed w (.cells #[.pointer none, .slice none 0 0] 79), fun k => ¬ (W.old k ∨ k = w.heap.size), ρ.fr, W.ds⟩) (R := fun ρ' st' => Step (ρ.set st.nx (w.heap.size, 0, 2)) ρ' (st.hp.put st.nx (some (.cells [] false))) st'.hp (st.nx + 1) st'.nx)
            (hmk W w.heap.size st.nx) hm (fun _ _ _ _ h k => h.trans k) (fun b k st g h => (vloop_false h).elim) (fun st' g hst W' ρ' a' w' hI hkx hs' hr' => ?_) (fun v st' g hst W' ρ' v' a' w' hI hv hs' hr' => ?_) 3000 .normal k _ _ h _ _ _ _ ⟨hhid, rfl⟩ (Place.set_same _ _ _) ⟨hrel, aput_sound (hs.frame.mono hle) htm (.ptr (Place.set_same _ _ _))⟩ (.refl _ _ _)
          · obtain ⟨rfl, hst⟩ := onNone_eq hst
            exact hF st' hst ρ' a' w' ⟨(HidO.lnk hI.1).back hs'.rel, by have := hs'.frame; rw [hI.2] at this; exact this⟩ (hR _ _ _ _ hr (hstep.trans hr'))
          · obtain ⟨rfl, hst⟩ := onNone_eq hst
            exact hX v st' hst ρ' v' a' w' hv ⟨(HidO.lnk hI.1).back hs'.rel, by have := hs'.frame; rw [hI.2] at this; exact this⟩ (hR _ _ _ _ hr (hstep.trans hr'))
        · exact vregionP_sound hcall hm hs h (fun st' hK a' w' ρ' g1 g2 => ih .normal k st' hK ρ' a' w' g1 (hR _ _ _ _ hr g2)) (fun v st' hK v' a' w' ρ' g0 g1 g2 => contQ_panic (hX v st' hK ρ' v' a' w' g0 g1 (hR _ _ _ _ hr g2)))
      | seq x y => exact wp_seq (ih (.code x) (.seq y :: k) st h ρ a w hs hr)
      | cond c x y =>
        dsimp only at h
        split at h
        · rename_i b hc
          have := hs.frame.eval hc
          cases b with
          | true =>
            refine wp_cond_true (c := c) ?_ (ih (.code x) k st h ρ a w hs hr)
            generalize a.eval c = z at this
            cases this
            rfl
          | false =>
            refine wp_cond_false (c := c) ?_ (ih (.code y) k st h ρ a w hs hr)
            generalize a.eval c = z at this
            cases this
            rfl
        · exact h.elim
      | block id b => exact wp_block (ih (.code b) (.block id :: k) st h ρ a w hs hr)
      | loop b =>
        exact loop_of (loop_round (ih (.code b) (.loop b :: k) st h ρ a w hs hr))
      | exit id => exact wp_exit (ih (.exit id) k st h ρ a w hs hr)
      | ret => exact wp_ret (ih .ret k st h ρ a w hs hr)
      | goto l => exact h.elim
      | refuse y => exact h.elim
      | scope b => exact h.elim
      | rangeFunc f ps x y => exact h.elim
theorem HidO.ds {W0 : Base} {c : Nat} (W : Base) (D : List Deferred) (g : Option ByteArray) (h : HidO W0 c W g) : HidO W0 c ⟨W.w, W.mu, W.f0, D⟩ g := by
  cases g with
  | none => exact ⟨h.size, h.os, h.tape, h.output, h.old, h.f0⟩
  | some S => exact ⟨h.size, h.os, h.tape, h.output, h.old, h.f0, h.cont, h.mine⟩
/-- The calls beside a writer: methods on the spot, its bytes hidden, the others by their contracts. -/
def mkW (inl : List FuncId) (pc : PCall) (kb : Nat) : GCall (Option ByteArray) := inlG Tryz.prog inl (bldCall kb (ofP pc)) 6
theorem mkW_ok {inl : List FuncId} {pc : PCall} (hm : Tryz.prog.follows .mixedOrders = true) (h : PCallOk Tryz.prog pc) (W0 : Base) (c kb : Nat) : GCallOk Tryz.prog (HidO W0 c) kb (c, 0, 2) (mkW inl pc kb) :=
  inlG_ok hm HidO.ds (bldCall_ok (ofP_ok h)) 6
/-- What must be shown of a function that makes a writer. -/
def vcW (pc : PCall) (mk : Nat → GCall (Option ByteArray)) (f : FuncId) (args : List Value) (Post : Out → List (List Value) → Prop) : Prop :=
  wrun Tryz.prog pc mk (slotsN args (fnAt Tryz.prog f)) (finX Tryz.prog (fnAt Tryz.prog f) 0 (xpost 0 Post)) (panX 0 (xpost 0 Post)) 3000 (.code (codeOf (fnAt Tryz.prog f))) [] ⟨putArgs 0 args .e, hpOf [], 0⟩
set_option maxRecDepth 100000 in
theorem spec_W {pc : PCall} {mk : Nat → GCall (Option ByteArray)} (hcall : PCallOk Tryz.prog pc) (hmk : ∀ W0 c kb, GCallOk Tryz.prog (HidO W0 c) kb (c, 0, 2) (mk kb)) (hm : Tryz.prog.follows .mixedOrders = true) {f : FuncId} (hf : enters Tryz.prog f = true) {args : List Value} {Post : Out → List (List Value) → Prop}
    (h : vcW pc mk f args Post) : SpecX Tryz.prog f 0 (hpOf []) args (xpost 0 Post) := by
  intro W ρ w args' hpl hrel hargs
  obtain ⟨hf', hb'⟩ := all_of f hf
  suffices hb : Calls Tryz.prog f args'.toArray w fun e w' => ∃ r hp' nx' ρ', xpost 0 Post r hp' ∧ r.Ends0 ρ' e ∧ Rel ρ' W.bare hp' nx' w' ∧ StepG 0 ρ ρ' from hb.mono fun e w' ⟨r, hp', nx', ρ', g1, g2, g3, g4⟩ => ⟨r, hp', nx', ρ', g1, g2, g3.unbare, g4⟩
  refine calls_of_wp hf' hb' ?_
  unfold vcW at h
  have hst := start_rel (W := W.bare) rfl hrel.bare hargs (fnAt Tryz.prog f)
  exact wrun_sound (W := W.bare) (R := fun ρ' _ => StepG 0 ρ ρ') (Q := FinQX Tryz.prog (fnAt Tryz.prog f) W.bare 0 ρ (xpost 0 Post)) hcall hmk hm (fun _ _ _ _ h k => h.step k)
    (fun st hst ρ' a w hs hr => finX_ok hst rfl hpl hs hr) (fun v st hst ρ' v' a w hv hs hr => panX_ok hst rfl hpl hv hs hr) 3000 (.code _) [] _ h ρ _ w hst (.refl _ _)
end Go.Proofs.YtegjnjmimfgijaaGreatDoor
noncomputable section
namespace Go.Proofs.YtegjnjmimfgijaaGreatDoor
open Go Go.RowKit

def IsW (I : Base → Option ByteArray → Prop) (kx : Nat × Nat × Nat) : Prop := ∃ W0 c, I = HidO W0 c ∧ kx = (c, 0, 2)
def hpW (E : List Value) : Tr AObj := ((Tr.e : Tr AObj).put 0 (some (.cells E true))).put 1 (some (.cells [] false))
theorem hpW_get (E : List Value) (i : Nat) : (hpW E).get i = if i = 1 then some (.cells [] false) else if i = 0 then some (.cells E true) else none := by
  unfold hpW
  rw [Tr.get_put]
  split
  · rfl
  · rw [Tr.get_put]
    split
    · rfl
    · simp [Tr.get_e]
abbrev VisC := List Value → TypeId → ByteArray → ByteArray → Prop
def VisOk (f : FuncId) (V : VisC) : Prop := ∀ E t g g', V E t g g' → SpecG Tryz.prog IsW f 1 2 (hpW E) [.pointer (some ⟨0, 0, none⟩), .iface t (.pointer (some ⟨1, 0, none⟩))] (some g) fun v hp' g1 => v = .tuple #[] ∧ hp'.get 0 = some (.cells E true) ∧ g1 = some g'
def visCall (f : FuncId) (V : VisC) (kb : Nat) (next : GCall (Option ByteArray)) : GCall (Option ByteArray) := fun f' args hp nx g K =>
  bif f'.beq f then match args, g with
    | [.pointer (some ⟨b0, o0, none⟩), .iface t (.pointer (some ⟨b1, o1, none⟩))], some g => bif b1.beq kb && (o0.beq 0 && (o1.beq 0 && (allWr kb hp nx && none0 hp kb))) then match hp.get b0, hp.get kb with
        | some (.cells E true), some _ => bif E.all nl1 then ∃ g', V E t g g' ∧ K (.ret (.tuple #[])) hp nx (some g') else False
        | _, _ => False
      else False
    | _, _ => False
  else next f' args hp nx g K
theorem visCall_ok {f : FuncId} {V : VisC} (hV : VisOk f V) {W0 : Base} {c kb : Nat} {next : GCall (Option ByteArray)} (hn : GCallOk Tryz.prog (HidO W0 c) kb (c, 0, 2) next) : GCallOk Tryz.prog (HidO W0 c) kb (c, 0, 2) (visCall f V kb next) := by
  intro f' args hp nx g0 K h W ρ w args' hI0 hkx hrel hargs
  unfold visCall at h
  cases hf : f'.beq f with
  | false => rw [hf] at h; exact hn f' args hp nx g0 K h W ρ w args' hI0 hkx hrel hargs
  | true =>
    rw [hf, cond_true] at h
    have hf' := Nat.eq_of_beq_eq_true hf
    subst hf'
    split at h
    case h_2 => exact h.elim
    rename_i b0 o0 t b1 o1 g
    have hI : Hid W0 c W g := hI0
    cases hc : b1.beq kb && (o0.beq 0 && (o1.beq 0 && (allWr kb hp nx && none0 hp kb))) with
    | false => rw [hc] at h; exact h.elim
    | true =>
      rw [hc, cond_true] at h
      simp only [Bool.and_eq_true] at hc
      obtain ⟨q1, q2, q3, hwr, hno⟩ := hc
      have q1 := Nat.eq_of_beq_eq_true q1
      have q2 := Nat.eq_of_beq_eq_true q2
      have q3 := Nat.eq_of_beq_eq_true q3
      subst q1 q2 q3
      split at h
      case h_2 => exact h.elim
      rename_i E okb hE hkb
      cases hnl : E.all nl1 with
      | false => rw [hnl] at h; exact h.elim
      | true =>
        rw [hnl, cond_true] at h
        obtain ⟨g', hVg, hK⟩ := h
        have hEn : ∀ v ∈ E, nl1 v = true := fun v hv => List.all_eq_true.1 hnl v hv
        cases hargs with
        | cons ha hrest =>
        cases hrest with
        | cons hi hrest =>
        cases hrest
        cases hi with
        | iface _ hi =>
        cases hi with
        | ptr hpl =>
        have hpl' := hpl
        rw [hkx] at hpl'
        cases hpl'
        cases ha with
        | @ptr _ _ c0 s0 z0 hp0 =>
        have hkb0 : okb = .cells [] false := by
          unfold none0 at hno
          rw [hkb] at hno
          split at hno
          · rename_i q; cases q; rfl
          · rename_i q; cases q
          · cases hno
        subst hkb0
        obtain ⟨hcont, hrow⟩ := hI.now hrel.below
        have hmine := hI.mine
        rw [← hrow] at hmine
        obtain ⟨ob0, e01, e02⟩ := hrel.obj b0 _ c0 s0 z0 hE hp0
        have hn0 : ¬ W.old c0 := wr_old e02 rfl
        have lt_of : ∀ {w : World} {k : Nat} {ob : Obj}, w.heap[k]? = some ob → k < w.heap.size := fun {w k ob} hk => by
          rcases Nat.lt_or_ge k w.heap.size with h' | h'
          · exact h'
          · rw [Array.getElem?_eq_none h'] at hk; cases hk
        have h0c : c0 ≠ c := fun e => hn0 (hmine c0 (.inl e)).1
        have h0r : bufOf c w ≠ some c0 := fun e => hn0 (hmine c0 (.inr e)).1
        have free : ∀ k, ¬ W.old k → k ≠ c ∧ bufOf c w ≠ some k := fun k hk => ⟨fun e => hk (hmine k (.inl e)).1, fun e => hk (hmine k (.inr e)).1⟩
        have Wlt : ∀ k, W.old k → k < w.heap.size := fun k hk => Nat.lt_of_lt_of_le hk.1 hrel.below.size
        have frno : ∀ k, k = c ∨ bufOf c w = some k → ρ.fr k = none := fun k hk => by
          cases hfr : ρ.fr k with
          | none => rfl
          | some ob =>
            rcases hrel.frn k ob hfr with q | q
            · rw [(hmine k hk).2.2] at q; cases q
            · exact (q (hmine k hk).1).elim
        have hold0 : ∀ k, (⟨w, fun k => k = c0 ∨ k = c ∨ bufOf c w = some k, ρ.fr, []⟩ : Base).old k ↔ k < w.heap.size ∧ k ≠ c0 ∧ k ≠ c ∧ bufOf c w ≠ some k := fun k => by
          unfold Base.old
          dsimp only
          simp only [not_or, ne_eq]
        have hhid : HidO ⟨w, fun k => k = c0 ∨ k = c ∨ bufOf c w = some k, ρ.fr, []⟩ c ⟨w, fun k => k = c0, ρ.fr, []⟩ (some g) := by
          refine ⟨Nat.le_refl _, rfl, rfl, rfl, fun k hk => ⟨⟨hk.1, ((hold0 k).1 hk).2.1⟩, rfl⟩, fun k ob hk => .inl hk, hcont, fun k hk => ⟨⟨Wlt k (hmine k hk).1, fun e => ?_⟩, fun h' => ?_, frno k hk⟩⟩
          · have e : k = c0 := e
            subst e
            exact hn0 (hmine k hk).1
          · rcases hk with hk | hk
            · exact ((hold0 k).1 h').2.2.1 hk
            · exact ((hold0 k).1 h').2.2.2 hk
        obtain ⟨obk, ek1, ek2⟩ := hrel.obj b1 _ c 0 2 hkb hkx
        let ρ1 : Place := ⟨fun i => if i = 1 then some (c, 0, 2) else if i = 0 then some (c0, s0, z0) else none, ρ.fr, ρ.gl⟩
        have r10 : ρ1 0 = some (c0, s0, z0) := rfl
        have r11 : ρ1 1 = some (c, 0, 2) := rfl
        have hrel1 : Rel ρ1 ⟨w, fun k => k = c0, ρ.fr, []⟩ (hpW E) 2 w := by
          refine ⟨fun b x hb => ?_, fun b o c' s' z ho hb => ?_, fun b b' x x' o o' g1 g2 hb hb' hx => ?_, fun b hb => ?_, ⟨rfl, rfl, rfl, Nat.le_refl _, fun _ _ => rfl⟩, hrel.frz, fun b o c' s' z ho hw hb => ?_, fun k ob hk => .inl hk⟩
          · have hb' : (if b = 1 then some (c, 0, 2) else if b = 0 then some (c0, s0, z0) else none) = some x := hb
            split at hb'
            · cases hb'; rename_i e; subst e; exact ⟨by omega, (hrel.dom _ _ hkx).2⟩
            · split at hb'
              · cases hb'; rename_i e; subst e; exact ⟨by omega, (hrel.dom _ _ hp0).2⟩
              · cases hb'
          · have hb' : (if b = 1 then some (c, 0, 2) else if b = 0 then some (c0, s0, z0) else none) = some (c', s', z) := hb
            rw [hpW_get] at ho
            split at hb'
            · rename_i e
              cases hb'
              rw [if_pos e] at ho
              cases ho
              refine ⟨obk, ek1, ?_⟩
              cases obk <;> try exact ek2.elim
              exact ⟨ek2.1, ek2.2.1, ek2.2.2.1, fun i v hv => by simp at hv, fun h' => by cases h'⟩
            · rename_i e
              rw [if_neg e] at ho
              split at hb'
              · rename_i e0
                cases hb'
                rw [if_pos e0] at ho
                cases ho
                refine ⟨ob0, e01, ?_⟩
                cases ob0 <;> try exact e02.elim
                refine ⟨e02.1, e02.2.1, e02.2.2.1, fun i v hv => ?_, fun _ h' => h'.2 rfl⟩
                obtain ⟨v', p1, p2⟩ := e02.2.2.2.1 i v hv
                have h0 : VR0 ρ.fr v v' := nl1_sound (hEn v (List.mem_of_getElem? hv)) p2
                exact ⟨v', p1, VR0.lift (ρ := ρ1) h0⟩
              · cases hb'
          · have e1 : (if b = 1 then some (c, 0, 2) else if b = 0 then some (c0, s0, z0) else none) = some x := hb
            have e2 : (if b' = 1 then some (c, 0, 2) else if b' = 0 then some (c0, s0, z0) else none) = some x' := hb'
            split at e1
            · cases e1
              split at e2
              · omega
              · split at e2
                · cases e2; exact (h0c hx.symm).elim
                · cases e2
            · split at e1
              · cases e1
                split at e2
                · cases e2; exact (h0c hx).elim
                · split at e2
                  · omega
                  · cases e2
              · cases e1
          · rw [hpW_get, if_neg (by omega), if_neg (by omega)]
          · have hb' : (if b = 1 then some (c, 0, 2) else if b = 0 then some (c0, s0, z0) else none) = some (c', s', z) := hb
            show ρ.fr c' = none
            split at hb'
            · cases hb'; exact frno _ (.inl rfl)
            · split at hb'
              · cases hb'; exact hrel.apart b0 _ c0 s0 z0 hE rfl hp0
              · cases hb'
        have hspec := hV E t g g' hVg (HidO ⟨w, fun k => k = c0 ∨ k = c ∨ bufOf c w = some k, ρ.fr, []⟩ c) (c, 0, 2) ⟨_, _, rfl, rfl⟩ ⟨w, fun k => k = c0, ρ.fr, []⟩ ρ1 w [.pointer (some ⟨c0, s0 + 0, none⟩), .iface t (.pointer (some ⟨c, 0 + 0, none⟩))] hhid r11 hrel1 (.cons (.ptr r10) (.cons (.iface t (.ptr r11)) .nil))
        refine hspec.mono ?_
        rintro e w' ⟨v, v', hp', nx', g1, ρ', W', ⟨rfl, hE', rfl⟩, rfl, hv, ⟨hI', hds⟩, hrel', hst⟩
        have hI2 : Hid ⟨w, fun k => k = c0 ∨ k = c ∨ bufOf c w = some k, ρ.fr, []⟩ c W' g' := hI'
        obtain ⟨hcont', hrow'⟩ := hI2.now hrel'.below
        have hm' := hI2.mine
        rw [← hrow'] at hm'
        have hsz : w.heap.size ≤ w'.heap.size := Nat.le_trans hI2.size hrel'.below.size
        have hvt : v' = .tuple #[] := by
          cases hv with
          | tuple s1 _ =>
            congr 1
            apply Array.eq_empty_of_size_eq_zero
            exact s1.symm
        subst hvt
        have keep : ∀ k, k < w.heap.size → k ≠ c0 → k ≠ c → bufOf c w ≠ some k → w'.heap[k]? = w.heap[k]? := fun k h1 h2 h3 h4 => by
          have h5 := hI2.old k ((hold0 k).2 ⟨h1, h2, h3, h4⟩)
          rw [hrel'.below.block k h5.1]
          exact h5.2
        have r0 : ρ' 0 = some (c0, s0, z0) := hst.1 0 _ (by omega) r10
        have hle : ρ.le ⟨ρ.pl, ρ'.fr, ρ'.gl⟩ := ⟨fun _ _ h => h, fun k x hk => hst.2 k x hk⟩
        obtain ⟨ob0', e01', e02'⟩ := hrel'.obj 0 _ c0 s0 z0 hE' r0
        have hn0' : ¬ W'.old c0 := wr_old e02' rfl
        have h0r' : bufOf c w' ≠ some c0 := fun e => hn0' (hm' c0 (.inr e)).1
        have hold : ∀ k, (⟨w', fun k => ¬ (W.old k ∨ k = c ∨ bufOf c w' = some k), ρ'.fr, W.ds⟩ : Base).old k ↔ k < w'.heap.size ∧ (W.old k ∨ k = c ∨ bufOf c w' = some k) := fun k => by
          unfold Base.old
          dsimp only
          rw [Classical.not_not]
        have hW0 : ∀ k, W0.old k → (⟨w, fun k => k = c0 ∨ k = c ∨ bufOf c w = some k, ρ.fr, []⟩ : Base).old k := fun k hk => (hold0 k).2 ⟨Wlt k (hI.old k hk).1, fun e => hn0 (e ▸ (hI.old k hk).1), fun e => (hmine k (.inl e)).2.1 hk, fun e => (hmine k (.inr e)).2.1 hk⟩
        have hcw : c < w.heap.size := (hrel.dom _ _ hkx).2
        have rlt : ∀ k, bufOf c w' = some k → k < w'.heap.size := fun k hk => by
          rcases hcont' with q | q
          · exact q.row_lt hk
          · exact q.row_lt hk
        refine ⟨_, hp, nx, some g', ⟨ρ.pl, ρ'.fr, ρ'.gl⟩, ⟨w', fun k => ¬ (W.old k ∨ k = c ∨ bufOf c w' = some k), ρ'.fr, W.ds⟩, hK, ⟨_, rfl, .tuple rfl fun i v v' h1 => by simp at h1⟩, ⟨⟨?_, ?_, ?_, ?_, fun k hk => ⟨?_, ?_⟩, fun k ob hk => ?_, hcont', fun k hk => ⟨?_, ?_, ?_⟩⟩, rfl⟩, ⟨fun b x hb => ⟨(hrel.dom b x hb).1, Nat.lt_of_lt_of_le (hrel.dom b x hb).2 hsz⟩, fun b o c' s' z ho1 hb1 => ?_, hrel.inj, hrel.fresh, ⟨rfl, rfl, rfl, Nat.le_refl _, fun _ _ => rfl⟩, hrel'.frz, fun b o c' s' z ho1 hw hb1 => ?_, fun k ob hk => .inl hk⟩, ⟨hle, Nat.le_refl _, fun b hb hr => ⟨hr, rfl⟩⟩⟩
        · exact Nat.le_trans hI.size (Nat.le_trans hrel.below.size hsz)
        · exact hrel'.below.os.trans (hI2.os.trans (hrel.below.os.trans hI.os))
        · exact hrel'.below.tape.trans (hI2.tape.trans (hrel.below.tape.trans hI.tape))
        · exact hrel'.below.output.trans (hI2.output.trans (hrel.below.output.trans hI.output))
        · exact (hold k).2 ⟨Nat.lt_of_lt_of_le (Wlt k (hI.old k hk).1) hsz, .inl (hI.old k hk).1⟩
        · have h1 := hI.old k hk
          have h2 := (hold0 k).1 (hW0 k hk)
          show w'.heap[k]? = _
          rw [keep k h2.1 h2.2.1 h2.2.2.1 h2.2.2.2, hrel.below.block k h1.1]
          exact h1.2
        · rcases hrel'.frn k ob hk with q | q
          · rcases hI2.f0 k ob q with q | q
            · rcases hrel.frn k ob q with q | q
              · exact hI.f0 k ob q
              · exact .inr fun h' => q (hI.old k h').1
            · exact .inr fun h' => q (hW0 k h')
          · exact .inr fun h' => q (hI2.old k (hW0 k h')).1
        · rcases hk with rfl | hk
          · exact (hold _).2 ⟨Nat.lt_of_lt_of_le hcw hsz, .inr (.inl rfl)⟩
          · exact (hold _).2 ⟨rlt k hk, .inr (.inr hk)⟩
        · exact fun h' => (hm' k hk).2.1 (hW0 k h')
        · show ρ'.fr k = none
          cases hfr : ρ'.fr k with
          | none => rfl
          | some ob =>
            rcases hrel'.frn k ob hfr with q | q
            · rw [(hm' k hk).2.2] at q; cases q
            · exact (q (hm' k hk).1).elim
        · by_cases e0 : b = b0
          · subst e0
            rw [hE] at ho1
            cases ho1
            have hb' : ρ.pl b = some (c', s', z) := hb1
            have hp0' : ρ.pl b = some (c0, s0, z0) := hp0
            rw [hp0'] at hb'
            cases hb'
            refine ⟨ob0', e01', ?_⟩
            cases ob0' <;> try exact e02'.elim
            refine ⟨e02'.1, e02'.2.1, e02'.2.2.1, fun i v hv => ?_, fun _ h' => ?_⟩
            · obtain ⟨v', p1, p2⟩ := e02'.2.2.2.1 i v hv
              have h0 : VR0 ρ'.fr v v' := nl1_sound (hEn v (List.mem_of_getElem? hv)) p2
              exact ⟨v', p1, VR0.lift (ρ := ⟨ρ.pl, ρ'.fr, ρ'.gl⟩) h0⟩
            · rcases ((hold c0).1 h').2 with q | q | q
              · exact hn0 q
              · exact h0c q
              · exact h0r' q
          · obtain ⟨ob, e1, e2⟩ := hrel.obj b o c' s' z ho1 hb1
            rcases allWr_get hwr b o (hrel.dom b _ hb1).1 ho1 with hw | hw
            · have hno' := wr_old e2 hw
              have h2 := free c' hno'
              have h3 : c' ≠ c0 := fun e => e0 (hrel.inj b b0 _ _ _ _ ho1 hE hb1 hp0 e)
              refine ⟨ob, by rw [keep c' (lt_of e1) h3 h2.1 h2.2]; exact e1, (e2.mono hle).other hw fun h' => ?_⟩
              rcases ((hold c').1 h').2 with q | q | q
              · exact hno' q
              · exact h2.1 q
              · exact (hm' c' (.inr q)).2.1 ((hold0 c').2 ⟨lt_of e1, h3, h2.1, h2.2⟩)
            · subst hw
              have hb' : ρ.pl b = some (c', s', z) := hb1
              rw [hkx] at hb'
              cases hb'
              rw [hkb] at ho1
              cases ho1
              have : ∃ p v, w'.heap[c]? = some (.cells #[p, v] 79 (0, 0)) := by
                rcases hcont' with ⟨_, v, q, _⟩ | ⟨_, v, q, _⟩
                · exact ⟨_, v, q⟩
                · exact ⟨_, v, q⟩
              obtain ⟨p, v, q⟩ := this
              exact ⟨_, q, rfl, by decide, fun o _ h' => by simp at h', fun i v hv => by simp at hv, fun h' => by cases h'⟩
        · show ρ'.fr c' = none
          by_cases e0 : b = b0
          · subst e0
            have hb' : ρ.pl b = some (c', s', z) := hb1
            have hp0' : ρ.pl b = some (c0, s0, z0) := hp0
            rw [hp0'] at hb'
            cases hb'
            exact hrel'.apart 0 _ c0 s0 z0 hE' rfl r0
          · obtain ⟨ob, e1, e2⟩ := hrel.obj b o c' s' z ho1 hb1
            have hno' := wr_old e2 hw
            have h2 := free c' hno'
            have h3 : c' ≠ c0 := fun e => e0 (hrel.inj b b0 _ _ _ _ ho1 hE hb1 hp0 e)
            have hk0 := (hold0 c').2 ⟨lt_of e1, h3, h2.1, h2.2⟩
            cases hfr : ρ'.fr c' with
            | none => rfl
            | some ob' =>
              rcases hrel'.frn c' ob' hfr with q | q
              · rcases hI2.f0 c' ob' q with q | q
                · have q' : ρ.fr c' = some ob' := q
                  rw [hrel.apart b o c' s' z ho1 hw hb1] at q'
                  cases q'
                · exact (q hk0).elim
              · exact (q (hI2.old c' hk0).1).elim
end Go.Proofs.YtegjnjmimfgijaaGreatDoor
namespace Go.Proofs.YtegjnjmimfgijaaGreatDoor
open Go Go.RowKit
set_option maxRecDepth 100000
theorem closedL {ρ : Place} {l l' : List Value} (hl : l.all closed = true) (h : VRL ρ l l') : l' = l := by
  refine List.ext_getElem? fun i => ?_
  have hlen := h.len
  rcases Nat.lt_or_ge i l.length with hi | hi
  · have h1 : l[i]? = some l[i] := List.getElem?_eq_getElem hi
    have h2 : l'[i]? = some (l'[i]'(by omega)) := List.getElem?_eq_getElem (by omega)
    have hr := h.get h1 h2
    rw [h1, h2, closed_eq (List.all_eq_true.1 hl _ (List.getElem_mem hi)) hr]
  · rw [List.getElem?_eq_none hi, List.getElem?_eq_none (by omega)]
/-- What returns a plain value and leaves all as it was. -/
theorem pure_of_calls {P : Program} {f : FuncId} {args : List Value} {Post : Value → Prop} {v : Value} (ha : args.all closed = true) (hv : nl1 v = true) (hr : ∀ ρ, VR ρ v v) (h : ∀ w, Calls P f args.toArray w fun e w' => e = .returned v ∧ w' = w) (hP : Post v) : Pure P f args Post := by
  intro W ρ w args' hrel hargs
  obtain rfl := closedL ha hargs
  refine (h w).mono fun e w' ⟨he, hw⟩ => ?_
  subst he hw
  exact ⟨v, .e, 0, v, ρ, hP, rfl, nl1_sound hv (hr ρ), hrel, .refl _ _⟩
def dot : ByteArray := ⟨#[46]⟩
theorem run_cnt (s : ByteArray) (w : World) : (callFunc 103 #[.string s, .int .u8 46]).run Tryz.prog w = .ok (.value (.int .i64 (Lib.countByte s.data.toList 46))) w := by
  rw [run_callFunc_extern Tryz.func103 (by kernel_rfl) (by kernel_rfl) (by kernel_rfl) (e := Extern.BytealgCount.count) (by kernel_rfl), Lib.run_countString]
  rfl
theorem run_idx (s : ByteArray) (w : World) : (callFunc 111 #[.string s, .int .u8 46]).run Tryz.prog w = .ok (.value (.int .i64 (Lib.indexByte s.data.toList 46))) w := by
  rw [run_callFunc_extern Tryz.func111 (by kernel_rfl) (by kernel_rfl) (by kernel_rfl) (e := Extern.BytealgIndexByte.indexByte) (by kernel_rfl), Lib.run_indexByteString]
  rfl
set_option maxHeartbeats 1000000 in
theorem count_walk (s : ByteArray) (w : World) : Calls Tryz.prog 96 #[.string s, .string dot] w fun e w' => e = .returned (.int .i64 (Lib.countByte s.data.toList 46)) ∧ w' = w := by
  unfold dot
  go_enter Tryz.func96, Tryz.ntmps96
  go_wp2
  erw [run_cnt]
  go_wp2
  go_ret
  exact ⟨rfl, rfl⟩
set_option maxHeartbeats 1000000 in
theorem index_walk (s : ByteArray) (w : World) : Calls Tryz.prog 107 #[.string s, .int .u8 46] w fun e w' => e = .returned (.int .i64 (Lib.indexByte s.data.toList 46)) ∧ w' = w := by
  go_enter Tryz.func107, Tryz.ntmps107
  go_wp2
  rw [run_idx]
  go_wp2
  go_ret
  exact ⟨rfl, rfl⟩
def c_Cnt (args : List Value) (Post : Value → Prop) : Prop := match args with
  | [.string s, .string d] => d = dot ∧ Post (.int .i64 (Lib.countByte s.data.toList 46))
  | _ => False
def c_Idx (args : List Value) (Post : Value → Prop) : Prop := match args with
  | [.string s, .int .u8 k] => k = 46 ∧ Post (.int .i64 (Lib.indexByte s.data.toList 46))
  | _ => False
theorem ok_Cnt : EntOk Tryz.prog ⟨96, c_Cnt⟩ := by
  intro args Post h
  unfold c_Cnt at h
  dsimp only at h
  split at h
  · obtain ⟨rfl, h⟩ := h
    exact pure_of_calls rfl rfl (fun ρ => .int _ _) (fun w => count_walk _ w) h
  · exact h.elim
theorem ok_Idx : EntOk Tryz.prog ⟨107, c_Idx⟩ := by
  intro args Post h
  unfold c_Idx at h
  dsimp only at h
  split at h
  · obtain ⟨rfl, h⟩ := h
    exact pure_of_calls rfl rfl (fun ρ => .int _ _) (fun w => index_walk _ w) h
  · exact h.elim
end Go.Proofs.YtegjnjmimfgijaaGreatDoor
