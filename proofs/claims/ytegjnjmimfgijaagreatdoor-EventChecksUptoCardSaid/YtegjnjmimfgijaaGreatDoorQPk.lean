/-
  Put together out of several texts, each in its own namespace's block. Conditions: as each theorem states them.
-/
import Derived.Test.YtegjnjmimfgijaaGreatDoorQBldB
import Derived.Test.YtegjnjmimfgijaaGreatDoorProg
import Derived.Test.YtegjnjmimfgijaaGreatDoorQOc
import Derived.WalkSpells
import Derived.WalkLawsBesides
import Derived.Deep.QuietTactic
import Derived.BigQuiet
import Derived.Shelf.Strings.Builder1
import Derived.Test.YtegjnjmimfgijaaGreatDoorQSj
import Derived.Lib.Bytealg
import Derived.Test.YtegjnjmimfgijaaGreatDoorRows
noncomputable section
namespace Go.Proofs.YtegjnjmimfgijaaGreatDoor
open Go Go.RowKit
set_option maxRecDepth 100000
def tabRS : List Ent := [⟨38, c_SameO⟩, ⟨39, c_SameN⟩, ⟨40, c_eqNames⟩, ⟨42, c_eqHooks⟩]
def callRS : VCall := inlCall Tryz.prog [41] (tabCall tabRS noCall) 2
theorem e_rSame (a b : Event) (H : Code → List Fr → AS → Prop) (Post : Value → Prop) : vcP Tryz.prog callRS 17 [] [eventV a, eventV b] H Post = (T8 (pIf (decide (Event.kind a = Event.kind b)) (T4 (T2 (pIf (decide (Event.at_ a = Event.at_ b)) (T4 (T2 (True ∧ pIf (decide (Event.item a = Event.item b)) (T4 (T2 (True ∧ pIf (decide (Event.of_ a = Event.of_ b)) (T4 (T2 (True ∧ pIf (decide (Event.by_ a = Event.by_ b)) (T4 (T2 (True ∧ pIf (decide (Event.n a = Event.n b)) (T4 (pIf (Event.pass a) (T2 (pIf (Event.pass b) (T4 (T2 (True ∧ ∃ (a_1 : Order2), ∃ (b_1 : Order2), eqL [Value.agg #[vs (Order2.id (Event.order a)), tree 38 (List.length (Order2.edits (Event.order a))) (encL (Order2.edits (Event.order a)))], Value.agg #[vs (Order2.id (Event.order b)), tree 38 (List.length (Order2.edits (Event.order b))) (encL (Order2.edits (Event.order b)))]] [order2V a_1, order2V b_1] ∧ ShortO a_1 ∧ pIf (decide (a_1 = b_1)) (T4 (T2 (True ∧ pIf (decide (Sheet6.id (Event.sheet a) = Sheet6.id (Event.sheet b)) && (decide (Sheet6.grade (Event.sheet a) = Sheet6.grade (Event.sheet b)) && (decide (Sheet6.thick (Event.sheet a) = Sheet6.thick (Event.sheet b)) && (decide (Sheet6.long (Event.sheet a) = Sheet6.long (Event.sheet b)) && (decide (Sheet6.width (Event.sheet a) = Sheet6.width (Event.sheet b)) && (decide (Sheet6.heat (Event.sheet a) = Sheet6.heat (Event.sheet b)) && true)))))) (T4 (T2 (True ∧ pIf (decide (Bar5.id (Event.bar a) = Bar5.id (Event.bar b)) && (decide (Bar5.sect (Event.bar a) = Bar5.sect (Event.bar b)) && (decide (Bar5.grade (Event.bar a) = Bar5.grade (Event.bar b)) && (decide (Bar5.long (Event.bar a) = Bar5.long (Event.bar b)) && (decide (Bar5.heat (Event.bar a) = Bar5.heat (Event.bar b)) && true))))) (T4 (T2 (∃ (a_2 : Nest3), ∃ (b_2 : Nest3), eqL [Value.agg #[vs (Nest3.sheet (Event.nest a)), vi (Nest3.gap (Event.nest a)), tree 5 (List.length (Nest3.spots (Event.nest a))) (encL (Nest3.spots (Event.nest a)))], Value.agg #[vs (Nest3.sheet (Event.nest b)), vi (Nest3.gap (Event.nest b)), tree 5 (List.length (Nest3.spots (Event.nest b))) (encL (Nest3.spots (Event.nest b)))]] [nest3V a_2, nest3V b_2] ∧ Short (Nest3.spots a_2) ∧ pIf (decide (a_2 = b_2)) (T8 (True ∧ pIf (decide (Saw3.bar (Event.saw a) = Saw3.bar (Event.saw b))) (T8 (True ∧ pIf (decide (Saw3.kerf (Event.saw a) = Saw3.kerf (Event.saw b))) (T8 (∃ (l : List ByteArray), ∃ (m : List ByteArray), eqL [tree 1 (List.length (Saw3.parts (Event.saw a))) (encL (Saw3.parts (Event.saw a))), tree 1 (List.length (Saw3.parts (Event.saw b))) (encL (Saw3.parts (Event.saw b)))] [tree 1 (List.length l) (encL l), tree 1 (List.length m) (encL m)] ∧ Short l ∧ pIf (decide (l = m)) (T8 (T4 (T2 (pIf (decide (Weig.block (Event.weig a) = Weig.block (Event.weig b))) (T4 (T2 (pIf (decide (Weig.at_ (Event.weig a) = Weig.at_ (Event.weig b))) (T4 (T2 (True ∧ pIf (decide (Weig.mass (Event.weig a) = Weig.mass (Event.weig b))) (T4 (T2 (True ∧ pIf (decide (Vec3.x (Weig.centre (Event.weig a)) = Vec3.x (Weig.centre (Event.weig b))) && (decide (Vec3.y (Weig.centre (Event.weig a)) = Vec3.y (Weig.centre (Event.weig b))) && (decide (Vec3.z (Weig.centre (Event.weig a)) = Vec3.z (Weig.centre (Event.weig b))) && true))) (T4 (T2 (True ∧ pIf (decide (Weig.sigma (Event.weig a) = Weig.sigma (Event.weig b))) (T4 (T2 (∃ (l : List ByteArray), ∃ (m : List ByteArray), eqL [tree 1 (List.length (Weig.parts (Event.weig a))) (encL (Weig.parts (Event.weig a))), tree 1 (List.length (Weig.parts (Event.weig b))) (encL (Weig.parts (Event.weig b)))] [tree 1 (List.length l) (encL l), tree 1 (List.length m) (encL m)] ∧ Short l ∧ pIf (decide (l = m)) (T8 (T2 (True ∧ pIf (decide (Lift2.block (Event.lift a) = Lift2.block (Event.lift b))) (T8 (∃ (l : List Hook4), ∃ (m : List Hook4), eqL [tree 4 (List.length (Lift2.hooks (Event.lift a))) (encL (Lift2.hooks (Event.lift a))), tree 4 (List.length (Lift2.hooks (Event.lift b))) (encL (Lift2.hooks (Event.lift b)))] [tree 4 (List.length l) (encL l), tree 4 (List.length m) (encL m)] ∧ Short l ∧ pIf (decide (l = m)) (T4 (T2 (True ∧ pIf (decide (Permit3.id (Event.permit a) = Permit3.id (Event.permit b)) && (decide (Permit3.kind (Event.permit a) = Permit3.kind (Event.permit b)) && (decide (Span2.a (Permit3.time (Event.permit a)) = Span2.a (Permit3.time (Event.permit b))) && (decide (Span2.b (Permit3.time (Event.permit a)) = Span2.b (Permit3.time (Event.permit b))) && true) && true))) (T2 (True ∧ Post (vb true))) (T2 (True ∧ Post (vb false)))))) (T4 (True ∧ Post (vb false))))) (T4 (T2 (True ∧ Post (vb false))))))) (T8 (T2 (True ∧ Post (vb false))))))) (T8 (T4 (True ∧ Post (vb false))))))) (T8 (T4 (T2 (True ∧ Post (vb false)))))))) (T16 (True ∧ Post (vb false)))))) (T16 (T2 (True ∧ Post (vb false))))))) (T16 (T4 (Post (vb false)))))))) (T8 (T2 (True ∧ Post (vb false)))))) (T8 (T4 (True ∧ Post (vb false)))))) (T8 (T4 (T2 (True ∧ Post (vb false))))))) (T16 (True ∧ Post (vb false)))))) (T16 (T2 (True ∧ Post (vb false))))))) (T16 (T4 (True ∧ Post (vb false))))))) (T16 (T4 (T2 (True ∧ Post (vb false)))))))) (T16 (T8 (T2 (Post (vb false))))))) (T2 (pIf (Event.pass b) (T16 (T8 (T2 (Post (vb false))))) (T4 (T2 (True ∧ ∃ (a_1 : Order2), ∃ (b_1 : Order2), eqL [Value.agg #[vs (Order2.id (Event.order a)), tree 38 (List.length (Order2.edits (Event.order a))) (encL (Order2.edits (Event.order a)))], Value.agg #[vs (Order2.id (Event.order b)), tree 38 (List.length (Order2.edits (Event.order b))) (encL (Order2.edits (Event.order b)))]] [order2V a_1, order2V b_1] ∧ ShortO a_1 ∧ pIf (decide (a_1 = b_1)) (T4 (T2 (True ∧ pIf (decide (Sheet6.id (Event.sheet a) = Sheet6.id (Event.sheet b)) && (decide (Sheet6.grade (Event.sheet a) = Sheet6.grade (Event.sheet b)) && (decide (Sheet6.thick (Event.sheet a) = Sheet6.thick (Event.sheet b)) && (decide (Sheet6.long (Event.sheet a) = Sheet6.long (Event.sheet b)) && (decide (Sheet6.width (Event.sheet a) = Sheet6.width (Event.sheet b)) && (decide (Sheet6.heat (Event.sheet a) = Sheet6.heat (Event.sheet b)) && true)))))) (T4 (T2 (True ∧ pIf (decide (Bar5.id (Event.bar a) = Bar5.id (Event.bar b)) && (decide (Bar5.sect (Event.bar a) = Bar5.sect (Event.bar b)) && (decide (Bar5.grade (Event.bar a) = Bar5.grade (Event.bar b)) && (decide (Bar5.long (Event.bar a) = Bar5.long (Event.bar b)) && (decide (Bar5.heat (Event.bar a) = Bar5.heat (Event.bar b)) && true))))) (T4 (T2 (∃ (a_2 : Nest3), ∃ (b_2 : Nest3), eqL [Value.agg #[vs (Nest3.sheet (Event.nest a)), vi (Nest3.gap (Event.nest a)), tree 5 (List.length (Nest3.spots (Event.nest a))) (encL (Nest3.spots (Event.nest a)))], Value.agg #[vs (Nest3.sheet (Event.nest b)), vi (Nest3.gap (Event.nest b)), tree 5 (List.length (Nest3.spots (Event.nest b))) (encL (Nest3.spots (Event.nest b)))]] [nest3V a_2, nest3V b_2] ∧ Short (Nest3.spots a_2) ∧ pIf (decide (a_2 = b_2)) (T8 (True ∧ pIf (decide (Saw3.bar (Event.saw a) = Saw3.bar (Event.saw b))) (T8 (True ∧ pIf (decide (Saw3.kerf (Event.saw a) = Saw3.kerf (Event.saw b))) (T8 (∃ (l : List ByteArray), ∃ (m : List ByteArray), eqL [tree 1 (List.length (Saw3.parts (Event.saw a))) (encL (Saw3.parts (Event.saw a))), tree 1 (List.length (Saw3.parts (Event.saw b))) (encL (Saw3.parts (Event.saw b)))] [tree 1 (List.length l) (encL l), tree 1 (List.length m) (encL m)] ∧ Short l ∧ pIf (decide (l = m)) (T8 (T4 (T2 (pIf (decide (Weig.block (Event.weig a) = Weig.block (Event.weig b))) (T4 (T2 (pIf (decide (Weig.at_ (Event.weig a) = Weig.at_ (Event.weig b))) (T4 (T2 (True ∧ pIf (decide (Weig.mass (Event.weig a) = Weig.mass (Event.weig b))) (T4 (T2 (True ∧ pIf (decide (Vec3.x (Weig.centre (Event.weig a)) = Vec3.x (Weig.centre (Event.weig b))) && (decide (Vec3.y (Weig.centre (Event.weig a)) = Vec3.y (Weig.centre (Event.weig b))) && (decide (Vec3.z (Weig.centre (Event.weig a)) = Vec3.z (Weig.centre (Event.weig b))) && true))) (T4 (T2 (True ∧ pIf (decide (Weig.sigma (Event.weig a) = Weig.sigma (Event.weig b))) (T4 (T2 (∃ (l : List ByteArray), ∃ (m : List ByteArray), eqL [tree 1 (List.length (Weig.parts (Event.weig a))) (encL (Weig.parts (Event.weig a))), tree 1 (List.length (Weig.parts (Event.weig b))) (encL (Weig.parts (Event.weig b)))] [tree 1 (List.length l) (encL l), tree 1 (List.length m) (encL m)] ∧ Short l ∧ pIf (decide (l = m)) (T8 (T2 (True ∧ pIf (decide (Lift2.block (Event.lift a) = Lift2.block (Event.lift b))) (T8 (∃ (l : List Hook4), ∃ (m : List Hook4), eqL [tree 4 (List.length (Lift2.hooks (Event.lift a))) (encL (Lift2.hooks (Event.lift a))), tree 4 (List.length (Lift2.hooks (Event.lift b))) (encL (Lift2.hooks (Event.lift b)))] [tree 4 (List.length l) (encL l), tree 4 (List.length m) (encL m)] ∧ Short l ∧ pIf (decide (l = m)) (T4 (T2 (True ∧ pIf (decide (Permit3.id (Event.permit a) = Permit3.id (Event.permit b)) && (decide (Permit3.kind (Event.permit a) = Permit3.kind (Event.permit b)) && (decide (Span2.a (Permit3.time (Event.permit a)) = Span2.a (Permit3.time (Event.permit b))) && (decide (Span2.b (Permit3.time (Event.permit a)) = Span2.b (Permit3.time (Event.permit b))) && true) && true))) (T2 (True ∧ Post (vb true))) (T2 (True ∧ Post (vb false)))))) (T4 (True ∧ Post (vb false))))) (T4 (T2 (True ∧ Post (vb false))))))) (T8 (T2 (True ∧ Post (vb false))))))) (T8 (T4 (True ∧ Post (vb false))))))) (T8 (T4 (T2 (True ∧ Post (vb false)))))))) (T16 (True ∧ Post (vb false)))))) (T16 (T2 (True ∧ Post (vb false))))))) (T16 (T4 (Post (vb false)))))))) (T8 (T2 (True ∧ Post (vb false)))))) (T8 (T4 (True ∧ Post (vb false)))))) (T8 (T4 (T2 (True ∧ Post (vb false))))))) (T16 (True ∧ Post (vb false)))))) (T16 (T2 (True ∧ Post (vb false))))))) (T16 (T4 (True ∧ Post (vb false))))))) (T16 (T4 (T2 (True ∧ Post (vb false)))))))))))) (T16 (T8 (T2 (True ∧ Post (vb false)))))))) (T16 (T8 (T4 (True ∧ Post (vb false)))))))) (T16 (T8 (T4 (T2 (True ∧ Post (vb false))))))))) (T32 (True ∧ Post (vb false)))))) (T32 (T2 (True ∧ Post (vb false))))))) (T32 (T4 (Post (vb false)))))) := by kernel_rfl
def tabPS : List Ent := [⟨66, c_eqSpots⟩, ⟨67, c_eqNames⟩, ⟨68, c_eqHooks⟩, ⟨44, c_Order⟩]
def callPS : VCall := inlCall Tryz.prog [43] (tabCall tabPS noCall) 2
theorem e_pSame (a b : Event) (H : Code → List Fr → AS → Prop) (Post : Value → Prop) : vcP Tryz.prog callPS 18 [] [eventV a, eventV b] H Post = (T8 (True ∧ 8 ≤ 8 ∧ ((Value.agg #[vs (Weig.block (Event.weig b)), vi (Weig.at_ (Event.weig b)), vi (Weig.mass (Event.weig b)), vi (Vec3.x (Weig.centre (Event.weig b))), vi (Vec3.y (Weig.centre (Event.weig b))), vi (Vec3.z (Weig.centre (Event.weig b))), vi (Weig.sigma (Event.weig b)), tree 1 (List.length (Weig.parts (Event.weig b))) (encL (Weig.parts (Event.weig b)))] = Value.agg #[vs (Weig.block (Event.weig b)), vi (Weig.at_ (Event.weig b)), vi (Weig.mass (Event.weig b)), vi (Vec3.x (Weig.centre (Event.weig b))), vi (Vec3.y (Weig.centre (Event.weig b))), vi (Vec3.z (Weig.centre (Event.weig b))), vi (Weig.sigma (Event.weig b)), tree 1 (List.length (Weig.parts (Event.weig b))) (encL (Weig.parts (Event.weig b)))] ∧ True) ∧ True) ∧ 8 ≤ 8 ∧ T4 (T2 (pIf (!decide (Event.kind a = Event.kind b)) (T8 (T4 (T2 (True ∧ Post (vb false))))) (T4 (T2 (pIf (!decide (Event.at_ a = Event.at_ b)) (T8 (T4 (T2 (Post (vb false))))) (T4 (T2 (True ∧ pIf (!decide (Event.item a = Event.item b)) (T8 (T4 (Post (vb false)))) (T4 (T2 (True ∧ pIf (!decide (Event.of_ a = Event.of_ b)) (T8 (T2 (Post (vb false)))) (T4 (T2 (True ∧ pIf (!decide (Event.by_ a = Event.by_ b)) (T8 (Post (vb false))) (T4 (T2 (True ∧ pIf (!decide (Event.n a = Event.n b)) (T4 (T2 (Post (vb false)))) (T4 (pIf (Event.pass a) (T2 (pIf (Event.pass b) (T8 (pIf (!(decide (Sheet6.id (Event.sheet a) = Sheet6.id (Event.sheet b)) && (decide (Sheet6.grade (Event.sheet a) = Sheet6.grade (Event.sheet b)) && (decide (Sheet6.thick (Event.sheet a) = Sheet6.thick (Event.sheet b)) && (decide (Sheet6.long (Event.sheet a) = Sheet6.long (Event.sheet b)) && (decide (Sheet6.width (Event.sheet a) = Sheet6.width (Event.sheet b)) && (decide (Sheet6.heat (Event.sheet a) = Sheet6.heat (Event.sheet b)) && true))))))) (T16 (True ∧ Post (vb false))) (T4 (T2 (pIf (!(decide (Bar5.id (Event.bar a) = Bar5.id (Event.bar b)) && (decide (Bar5.sect (Event.bar a) = Bar5.sect (Event.bar b)) && (decide (Bar5.grade (Event.bar a) = Bar5.grade (Event.bar b)) && (decide (Bar5.long (Event.bar a) = Bar5.long (Event.bar b)) && (decide (Bar5.heat (Event.bar a) = Bar5.heat (Event.bar b)) && true)))))) (T16 (Post (vb false))) (T4 (T2 (True ∧ pIf (!(decide (Permit3.id (Event.permit a) = Permit3.id (Event.permit b)) && (decide (Permit3.kind (Event.permit a) = Permit3.kind (Event.permit b)) && (decide (Span2.a (Permit3.time (Event.permit a)) = Span2.a (Permit3.time (Event.permit b))) && (decide (Span2.b (Permit3.time (Event.permit a)) = Span2.b (Permit3.time (Event.permit b))) && true) && true)))) (T8 (T4 (T2 (Post (vb false))))) (T8 (True ∧ pIf (!decide (Nest3.sheet (Event.nest a) = Nest3.sheet (Event.nest b))) (T8 (T4 (Post (vb false)))) (T8 (True ∧ pIf (!decide (Nest3.gap (Event.nest a) = Nest3.gap (Event.nest b))) (T8 (T2 (Post (vb false)))) (T8 (True ∧ pIf (!decide (Saw3.bar (Event.saw a) = Saw3.bar (Event.saw b))) (T8 (Post (vb false))) (T8 (True ∧ pIf (!decide (Saw3.kerf (Event.saw a) = Saw3.kerf (Event.saw b))) (T4 (T2 (Post (vb false)))) (T8 (True ∧ pIf (!decide (Lift2.block (Event.lift a) = Lift2.block (Event.lift b))) (T4 (Post (vb false))) (T4 (T2 (True ∧ pIf (!decide (Weig.block (Event.weig a) = Weig.block (Event.weig b))) (T8 (T2 (True ∧ Post (vb false)))) (T4 (T2 (pIf (!decide (Weig.at_ (Event.weig a) = Weig.at_ (Event.weig b))) (T8 (T2 (Post (vb false)))) (T4 (T2 (True ∧ pIf (!decide (Weig.mass (Event.weig a) = Weig.mass (Event.weig b))) (T8 (Post (vb false))) (T4 (T2 (True ∧ pIf (!(decide (Vec3.x (Weig.centre (Event.weig a)) = Vec3.x (Weig.centre (Event.weig b))) && (decide (Vec3.y (Weig.centre (Event.weig a)) = Vec3.y (Weig.centre (Event.weig b))) && (decide (Vec3.z (Weig.centre (Event.weig a)) = Vec3.z (Weig.centre (Event.weig b))) && true)))) (T4 (T2 (Post (vb false)))) (T4 (T2 (True ∧ pIf (!decide (Weig.sigma (Event.weig a) = Weig.sigma (Event.weig b))) (T4 (Post (vb false))) (T8 (T4 (True ∧ ∃ (l : List Spot), ∃ (m : List Spot), eqL [tree 5 (List.length (Nest3.spots (Event.nest a))) (encL (Nest3.spots (Event.nest a))), tree 5 (List.length (Nest3.spots (Event.nest b))) (encL (Nest3.spots (Event.nest b)))] [tree 5 (List.length l) (encL l), tree 5 (List.length m) (encL m)] ∧ Short l ∧ pIf (decide (l = m)) (T4 (T2 (True ∧ ∃ (l : List ByteArray), ∃ (m : List ByteArray), eqL [tree 1 (List.length (Saw3.parts (Event.saw a))) (encL (Saw3.parts (Event.saw a))), tree 1 (List.length (Saw3.parts (Event.saw b))) (encL (Saw3.parts (Event.saw b)))] [tree 1 (List.length l) (encL l), tree 1 (List.length m) (encL m)] ∧ Short l ∧ pIf (decide (l = m)) (T8 (∃ (l : List ByteArray), ∃ (m : List ByteArray), eqL [tree 1 (List.length (Weig.parts (Event.weig a))) (encL (Weig.parts (Event.weig a))), tree 1 (List.length (Weig.parts (Event.weig b))) (encL (Weig.parts (Event.weig b)))] [tree 1 (List.length l) (encL l), tree 1 (List.length m) (encL m)] ∧ Short l ∧ pIf (decide (l = m)) (T8 (∃ (l : List Hook4), ∃ (m : List Hook4), eqL [tree 4 (List.length (Lift2.hooks (Event.lift a))) (encL (Lift2.hooks (Event.lift a))), tree 4 (List.length (Lift2.hooks (Event.lift b))) (encL (Lift2.hooks (Event.lift b)))] [tree 4 (List.length l) (encL l), tree 4 (List.length m) (encL m)] ∧ Short l ∧ pIf (decide (l = m)) (T8 (∃ (o : Order2), eqL [Value.agg #[vs (Order2.id (Event.order a)), tree 38 (List.length (Order2.edits (Event.order a))) (encL (Order2.edits (Event.order a)))]] [order2V o] ∧ InOrder o ∧ FewO o ∧ True ∧ ∃ (o_1 : Order2), eqL [Value.agg #[vs (Order2.id (Event.order b)), tree 38 (List.length (Order2.edits (Event.order b))) (encL (Order2.edits (Event.order b)))]] [order2V o_1] ∧ InOrder o_1 ∧ FewO o_1 ∧ T2 (pIf (decide (bOrder o = bOrder o_1)) (T2 (True ∧ Post (vb true))) (T2 (True ∧ Post (vb false)))))) (T4 (T2 (True ∧ Post (vb false)))))) (T8 (True ∧ Post (vb false))))) (T8 (T2 (True ∧ Post (vb false))))))) (T8 (T4 (Post (vb false)))))))))))))))))))))))))))))))))))))))) (T4 (True ∧ Post (vb false))))) (T2 (pIf (Event.pass b) (T4 (True ∧ Post (vb false))) (T8 (pIf (!(decide (Sheet6.id (Event.sheet a) = Sheet6.id (Event.sheet b)) && (decide (Sheet6.grade (Event.sheet a) = Sheet6.grade (Event.sheet b)) && (decide (Sheet6.thick (Event.sheet a) = Sheet6.thick (Event.sheet b)) && (decide (Sheet6.long (Event.sheet a) = Sheet6.long (Event.sheet b)) && (decide (Sheet6.width (Event.sheet a) = Sheet6.width (Event.sheet b)) && (decide (Sheet6.heat (Event.sheet a) = Sheet6.heat (Event.sheet b)) && true))))))) (T16 (True ∧ Post (vb false))) (T4 (T2 (pIf (!(decide (Bar5.id (Event.bar a) = Bar5.id (Event.bar b)) && (decide (Bar5.sect (Event.bar a) = Bar5.sect (Event.bar b)) && (decide (Bar5.grade (Event.bar a) = Bar5.grade (Event.bar b)) && (decide (Bar5.long (Event.bar a) = Bar5.long (Event.bar b)) && (decide (Bar5.heat (Event.bar a) = Bar5.heat (Event.bar b)) && true)))))) (T16 (Post (vb false))) (T4 (T2 (True ∧ pIf (!(decide (Permit3.id (Event.permit a) = Permit3.id (Event.permit b)) && (decide (Permit3.kind (Event.permit a) = Permit3.kind (Event.permit b)) && (decide (Span2.a (Permit3.time (Event.permit a)) = Span2.a (Permit3.time (Event.permit b))) && (decide (Span2.b (Permit3.time (Event.permit a)) = Span2.b (Permit3.time (Event.permit b))) && true) && true)))) (T8 (T4 (T2 (Post (vb false))))) (T8 (True ∧ pIf (!decide (Nest3.sheet (Event.nest a) = Nest3.sheet (Event.nest b))) (T8 (T4 (Post (vb false)))) (T8 (True ∧ pIf (!decide (Nest3.gap (Event.nest a) = Nest3.gap (Event.nest b))) (T8 (T2 (Post (vb false)))) (T8 (True ∧ pIf (!decide (Saw3.bar (Event.saw a) = Saw3.bar (Event.saw b))) (T8 (Post (vb false))) (T8 (True ∧ pIf (!decide (Saw3.kerf (Event.saw a) = Saw3.kerf (Event.saw b))) (T4 (T2 (Post (vb false)))) (T8 (True ∧ pIf (!decide (Lift2.block (Event.lift a) = Lift2.block (Event.lift b))) (T4 (Post (vb false))) (T4 (T2 (True ∧ pIf (!decide (Weig.block (Event.weig a) = Weig.block (Event.weig b))) (T8 (T2 (True ∧ Post (vb false)))) (T4 (T2 (pIf (!decide (Weig.at_ (Event.weig a) = Weig.at_ (Event.weig b))) (T8 (T2 (Post (vb false)))) (T4 (T2 (True ∧ pIf (!decide (Weig.mass (Event.weig a) = Weig.mass (Event.weig b))) (T8 (Post (vb false))) (T4 (T2 (True ∧ pIf (!(decide (Vec3.x (Weig.centre (Event.weig a)) = Vec3.x (Weig.centre (Event.weig b))) && (decide (Vec3.y (Weig.centre (Event.weig a)) = Vec3.y (Weig.centre (Event.weig b))) && (decide (Vec3.z (Weig.centre (Event.weig a)) = Vec3.z (Weig.centre (Event.weig b))) && true)))) (T4 (T2 (Post (vb false)))) (T4 (T2 (True ∧ pIf (!decide (Weig.sigma (Event.weig a) = Weig.sigma (Event.weig b))) (T4 (Post (vb false))) (T8 (T4 (True ∧ ∃ (l : List Spot), ∃ (m : List Spot), eqL [tree 5 (List.length (Nest3.spots (Event.nest a))) (encL (Nest3.spots (Event.nest a))), tree 5 (List.length (Nest3.spots (Event.nest b))) (encL (Nest3.spots (Event.nest b)))] [tree 5 (List.length l) (encL l), tree 5 (List.length m) (encL m)] ∧ Short l ∧ pIf (decide (l = m)) (T4 (T2 (True ∧ ∃ (l : List ByteArray), ∃ (m : List ByteArray), eqL [tree 1 (List.length (Saw3.parts (Event.saw a))) (encL (Saw3.parts (Event.saw a))), tree 1 (List.length (Saw3.parts (Event.saw b))) (encL (Saw3.parts (Event.saw b)))] [tree 1 (List.length l) (encL l), tree 1 (List.length m) (encL m)] ∧ Short l ∧ pIf (decide (l = m)) (T8 (∃ (l : List ByteArray), ∃ (m : List ByteArray), eqL [tree 1 (List.length (Weig.parts (Event.weig a))) (encL (Weig.parts (Event.weig a))), tree 1 (List.length (Weig.parts (Event.weig b))) (encL (Weig.parts (Event.weig b)))] [tree 1 (List.length l) (encL l), tree 1 (List.length m) (encL m)] ∧ Short l ∧ pIf (decide (l = m)) (T8 (∃ (l : List Hook4), ∃ (m : List Hook4), eqL [tree 4 (List.length (Lift2.hooks (Event.lift a))) (encL (Lift2.hooks (Event.lift a))), tree 4 (List.length (Lift2.hooks (Event.lift b))) (encL (Lift2.hooks (Event.lift b)))] [tree 4 (List.length l) (encL l), tree 4 (List.length m) (encL m)] ∧ Short l ∧ pIf (decide (l = m)) (T8 (∃ (o : Order2), eqL [Value.agg #[vs (Order2.id (Event.order a)), tree 38 (List.length (Order2.edits (Event.order a))) (encL (Order2.edits (Event.order a)))]] [order2V o] ∧ InOrder o ∧ FewO o ∧ True ∧ ∃ (o_1 : Order2), eqL [Value.agg #[vs (Order2.id (Event.order b)), tree 38 (List.length (Order2.edits (Event.order b))) (encL (Order2.edits (Event.order b)))]] [order2V o_1] ∧ InOrder o_1 ∧ FewO o_1 ∧ T2 (pIf (decide (bOrder o = bOrder o_1)) (T2 (True ∧ Post (vb true))) (T2 (True ∧ Post (vb false)))))) (T4 (T2 (True ∧ Post (vb false)))))) (T8 (True ∧ Post (vb false))))) (T8 (T2 (True ∧ Post (vb false))))))) (T8 (T4 (Post (vb false))))))))))))))))))))))))))))))))))))))))))))))))))))))))))))))) := by kernel_rfl
theorem callRS_ok : VCallOk Tryz.prog callRS := inlCall_ok mixed (tabCall_ok (by
 intro e he
 simp only [tabRS, List.mem_cons, List.not_mem_nil, or_false] at he
 rcases he with rfl | rfl | rfl | rfl
 ·exact ok_sameOrder
 ·exact ok_sameNest
 ·exact ok_sameStrings
 ·exact ok_sameHooks) noCall_ok) 2
theorem callPS_ok : VCallOk Tryz.prog callPS := inlCall_ok mixed (tabCall_ok (by
 intro e he
 simp only [tabPS, List.mem_cons, List.not_mem_nil, or_false] at he
 rcases he with rfl | rfl | rfl | rfl
 ·exact ok_eqSpots
 ·exact ok_eqNames
 ·exact ok_eqHooks
 ·exact ok_chEnc) noCall_ok) 2
structure ShortEv (x : Event) : Prop where
 order : ShortO x.order
 spots : Short x.nest.spots
 saw : Short x.saw.parts
 weig : Short x.weig.parts
 hooks : Short x.lift.hooks
def c_rSame (args : List Value) (Post : Value → Prop) : Prop := ∃ a b : Event, args = [eventV a, eventV b] ∧ ShortEv a ∧ Post (.bool (decide (a = b)))
def c_pSame (args : List Value) (Post : Value → Prop) : Prop := ∃ a b : Event, args = [eventV a, eventV b] ∧ ShortEv a ∧ InOrder a.order ∧ FewO a.order ∧ InOrder b.order ∧ FewO b.order ∧ Post (.bool (decide (a = b)))
theorem ok_rSame : EntOk Tryz.prog ⟨17, c_rSame⟩ := by
 rintro args Post ⟨a, b, rfl, ⟨s1, s2, s3, s4, s5⟩, h⟩
 refine pure_P (vc := callRS) callRS_ok mixed (by kernel_rfl) (by kernel_rfl) _ (e_rSame a b _ _) ?_
 simp only [true_and, and_true]
 repeat' (first
  | refine pIf_intro (fun hh => ?_) (fun hh => of_b h (decide_eq_false fun e => by subst e; simp at hh))
  | refine pIf_intro (fun hh => of_b h (decide_eq_false fun e => by subst e; simp at hh)) (fun hh => ?_)
  | refine pIf_intro (fun ha => pIf_intro (fun hb => ?_) (fun hb => of_b h (decide_eq_false fun e => by subst e; rw [ha] at hb; cases hb))) (fun ha => pIf_intro (fun hb => of_b h (decide_eq_false fun e => by subst e; rw [ha] at hb; cases hb)) (fun hb => ?_))
  | (refine of_b h (decide_eq_true ?_); clear h; simp only [Bool.and_eq_true, decide_eq_true_eq, and_true, Bool.not_eq_false', Bool.not_eq_eq_eq_not, Bool.not_false] at *; refine Event.ext' ?_ ?_ ?_ ?_ ?_ ?_ ?_ ?_ (Sheet6.ext' ?_ ?_ ?_ ?_ ?_ ?_) (Bar5.ext' ?_ ?_ ?_ ?_ ?_) ?_ (Saw3.ext' ?_ ?_ ?_) (Weig.ext' ?_ ?_ ?_ (Vec3.ext' ?_ ?_ ?_) ?_ ?_) (Lift2.ext' ?_ ?_) (Permit3.ext' ?_ ?_ (Span2.ext' ?_ ?_)) <;> simp_all)
  | refine ⟨_, _, rfl, by assumption, ?_⟩
)
theorem ok_pSame : EntOk Tryz.prog ⟨18, c_pSame⟩ := by
 rintro args Post ⟨a, b, rfl, ⟨s1, s2, s3, s4, s5⟩, ia, fa, ib, fb, h⟩
 refine pure_P (vc := callPS) callPS_ok mixed (by kernel_rfl) (by kernel_rfl) _ (e_pSame a b _ _) ?_
 simp only [true_and, and_true]
 have inj : bOrder a.order = bOrder b.order → a.order = b.order := (order_inj ia ib fa fb).1
 refine ⟨by decide, by decide, ?_⟩
 repeat' (first
  | refine pIf_intro (fun hh => ?_) (fun hh => of_b h (decide_eq_false fun e => by subst e; simp at hh))
  | refine pIf_intro (fun hh => of_b h (decide_eq_false fun e => by subst e; simp at hh)) (fun hh => ?_)
  | refine pIf_intro (fun ha => pIf_intro (fun hb => ?_) (fun hb => of_b h (decide_eq_false fun e => by subst e; rw [ha] at hb; cases hb))) (fun ha => pIf_intro (fun hb => of_b h (decide_eq_false fun e => by subst e; rw [ha] at hb; cases hb)) (fun hb => ?_))
  | (refine of_b h (decide_eq_true ?_); clear h; simp only [Bool.and_eq_true, decide_eq_true_eq, and_true, Bool.not_eq_false', Bool.not_eq_eq_eq_not, Bool.not_false] at *; refine Event.ext' ?_ ?_ ?_ ?_ ?_ ?_ ?_ ?_ (Sheet6.ext' ?_ ?_ ?_ ?_ ?_ ?_) (Bar5.ext' ?_ ?_ ?_ ?_ ?_) (Nest3.ext' ?_ ?_ ?_) (Saw3.ext' ?_ ?_ ?_) (Weig.ext' ?_ ?_ ?_ (Vec3.ext' ?_ ?_ ?_) ?_ ?_) (Lift2.ext' ?_ ?_) (Permit3.ext' ?_ ?_ (Span2.ext' ?_ ?_)) <;> simp_all)
  | refine ⟨_, _, rfl, by assumption, ?_⟩
  | refine ⟨_, rfl, ia, fa, _, rfl, ib, fb, ?_⟩)
end Go.Proofs.YtegjnjmimfgijaaGreatDoor

namespace Go.Proofs.YtegjnjmimfgijaaGreatDoor
open Go Go.RowKit
def Bld (c : Nat) (p : Value) (bs : List Value) (w : World) : Prop := Lib.BuilderAt 79 5 0 c p bs w
theorem info_byte : ∃ i0, Tryz.prog.info? 5 = some i0 ∧ i0.zero = some (.int .u8 0) ∧ i0.size = 1 ∧ i0.bytes = 1 := info_parts (by kernel_rfl)
theorem info_bld : ∃ j, Tryz.prog.info? 77 = some j ∧ j.size = 2 := by
 have h : (Tryz.prog.info? 77).map (·.size) = some 2 := by kernel_rfl
 obtain ⟨j, hj, h2⟩ := Option.map_eq_some_iff.1 h
 exact ⟨j, hj, h2⟩
theorem lies_bld : liesAt Tryz.prog Tryz.prog.depth 79 (2 / Tryz.prog.cellsOf 79) 0 77 1 = true := by kernel_rfl
set_option maxHeartbeats 1000000 in
set_option maxRecDepth 100000 in
theorem copyCheck_used (c : Nat) (w : World) (h0 : w.cell? ⟨c, 0, none⟩ = some (.pointer (some ⟨c, 0, none⟩))) :
  Calls Tryz.prog 55 #[.pointer (some ⟨c, 0, none⟩)] w fun e w' => e = .returned (.tuple #[]) ∧ w' = w := by
 obtain ⟨j, hj, _⟩ := info_bld
 go_enter Tryz.func55, Tryz.ntmps55
 go_wp2
 rw [Lib.run_neq_ptr_same w _ Tryz.underlying74 hj]
 go_wp2
 go_end0
 exact ⟨rfl, rfl⟩
set_option maxHeartbeats 1000000 in
set_option maxRecDepth 100000 in
theorem copyCheck_fresh (c : Nat) (w : World) (h0 : w.cell? ⟨c, 0, none⟩ = some (.pointer none)) (hsh : w.shape? c = some (79, 2)) (hfz : w.frozen? ⟨c, 0, none⟩ = false) :
  Calls Tryz.prog 55 #[.pointer (some ⟨c, 0, none⟩)] w fun e w' => e = .returned (.tuple #[]) ∧ w' = w.setCell ⟨c, 0, none⟩ (.pointer (some ⟨c, 0, none⟩)) := by
 obtain ⟨j, hj, hjs⟩ := info_bld
 go_enter Tryz.func55, Tryz.ntmps55
 go_wp2
 rw [Lib.run_to_unsafe w ⟨c, 0, none⟩ Tryz.underlying74 Tryz.underlying168 hj (by rw [hjs]; decide) hsh (Nat.zero_lt_succ 1)]
 simp only [Result.andThen]
 rw [Oper.upon_value]
 go_wp2
 rw [run_callFunc_extern Tryz.func74 (by kernel_rfl) (by kernel_rfl) (by kernel_rfl) (e := Extern.AbiNoEscape.same) (by kernel_rfl)]
 rw [Lib.run_noEscape]
 simp only [Result.andThen]
 rw [Oper.upon_value]
 go_wp2
 rw [Lib.run_from_unsafe w ⟨c, 0, none⟩ Tryz.underlying168 Tryz.underlying74 hj hsh lies_bld]
 simp only [Result.andThen]
 rw [Oper.upon_value]
 go_wp2
 go_end0
 exact ⟨rfl, rfl⟩
def bufOf (c : Nat) (w : World) : Option Nat := match w.heap[c]? with
 | some (.cells cs _ _) => match cs[1]? with
  | some v => v.ownBlock
  | none => none
 | _ => none
theorem copyCheck_any (c : Nat) (bs : List Value) (w : World) (h : Bld c (.pointer none) bs w ∨ Bld c (.pointer (some ⟨c, 0, none⟩)) bs w) :
  Calls Tryz.prog 55 #[.pointer (some ⟨c, 0, none⟩)] w fun e w' => e = .returned (.tuple #[]) ∧ Bld c (.pointer (some ⟨c, 0, none⟩)) bs w' ∧ w.grownBy w' (some c) ∧ bufOf c w' = bufOf c w := by
 rcases h with h | h
 ·refine (copyCheck_fresh c w h.cell0 h.shape h.frozen0).mono ?_
  rintro e w' ⟨rfl, rfl⟩
  refine ⟨rfl, h.used _, ⟨rfl, rfl, rfl, by simp [World.setCell], fun k _ hk => Below.heap_setCell _ _ _ _ (fun e => hk (by simp [e]))⟩, ?_⟩
  obtain ⟨_, v, hb, _⟩ := h
  simp [bufOf, World.setCell, Array.getElem?_modify, hb]
 ·refine (copyCheck_used c w h.cell0).mono ?_
  rintro e w' ⟨rfl, rfl⟩
  exact ⟨rfl, h, ⟨rfl, rfl, rfl, Nat.le_refl _, fun _ _ _ => rfl⟩, rfl⟩
theorem append_row {P : Program} (w : World) (t u ty e : TypeId) (i : TypeInfo) (ht : P.underlying t = some (.slice e)) (hu : P.underlying u = some .string) (hi : P.info? e = some i) (hz : i.zero = some (.int .u8 0)) (hsize : i.size = 1) (hby : i.bytes = 1)
  (v : Value) (n : Nat) (xs : List Value) (hown : w.ownsRow 0 e 1 v n xs) (s : ByteArray) (hlen : n + s.size ≤ 140737488355328) :
  ∃ v' w', (Builtin.append_ #[t, u] ty #[v, .string s]).run P w = .ok v' w' ∧ w'.ownsRow 0 e 1 v' (n + s.size) (xs ++ Lib.strCells s) ∧ w.grownBy w' v.ownBlock ∧ (∀ g, v'.ownBlock = some g → v.ownBlock = some g ∨ w.heap.size ≤ g) := by
 have h63 : n + s.size ≤ maxLen := by unfold maxLen; omega
 have hxl : xs.length = n := by simpa using hown.1
 rcases hown.2 with ⟨rfl, rfl⟩ | ⟨g, cap, cur, rfl, hbg, hg, hnc, hcm, hcs, htake⟩
 ·have hx : xs = [] := List.eq_nil_of_length_eq_zero hxl
  subst hx
  obtain ⟨v', w', h1, h2, h3, _⟩ := Lib.run_append_own_string (P := P) w w.heap.size t u ty e i ht hu hi hz hsize hby _ _ _ (World.ownsRow_nil w w.heap.size e 1) s h63 hlen (Nat.le_refl _)
  refine ⟨v', w', h1, ⟨h2.1, ?_⟩, h3, fun g hg => ?_⟩
  ·rcases h2.2 with h | ⟨g, cap, cur, a1, a2, a3⟩
   ·exact .inl h
   ·exact .inr ⟨g, cap, cur, a1, Nat.zero_le _, a3⟩
  ·rcases h2.2 with ⟨rfl, _⟩ | ⟨g', cap, cur, rfl, a2, _⟩
   ·cases hg
   ·cases hg; exact .inr a2
 ·obtain ⟨v', w', h1, h2, h3, _⟩ := Lib.run_append_own_string (P := P) w 0 t u ty e i ht hu hi hz hsize hby _ _ _ hown s h63 hlen (Nat.zero_le _)
  refine ⟨v', w', h1, h2, h3, fun g' hg' => ?_⟩
  have hcs' : cur.size = cap := by simpa using hcs
  by_cases hroom : n + s.size ≤ cap
  ·have hr := Lib.run_append_room_string (P := P) w t u ty e i ht hu hi hsize g n cap cur hg s hroom (by omega)
   rw [hr] at h1
   cases h1
   cases hg'
   exact .inl rfl
  ·have holds : ∀ j u, xs[j]? = some u → w.cell? ((⟨g, 0, none⟩ : Addr).add j) = some u := hown.cells (g := g) rfl
   have hr := Lib.run_append_grow_string (P := P) w t u ty e i (.int .u8 0) ht hu hi hz ⟨g, 0, none⟩ n cap xs (by rw [hsize]; simpa using hxl) holds s (by omega) (by unfold maxLen at h63; omega) (by rw [hby]; exact growslice_fits (by omega) (by omega))
   rw [hr] at h1
   cases h1
   cases hg'
   exact .inr (Nat.le_refl _)
theorem wpList_append_row {P : Program} {ops : Array Oper} {rest : List Oper} {o : Oper} {a : Act} {w : World} {Q : Exit → Act → World → Prop} (hgd : o.guard = none) (sl x : Operand) (t u : TypeId)
  (ho : o.op = .call { callee := .builtin .append, args := #[sl, x], argTypes := #[t, u] }) (e : TypeId) (i : TypeInfo) (ht : P.underlying t = some (.slice e)) (hu : P.underlying u = some .string) (hi : P.info? e = some i) (hz : i.zero = some (.int .u8 0)) (hsize : i.size = 1) (hby : i.bytes = 1)
  (v : Value) (n : Nat) (xs : List Value) (hs : a.eval sl = v) (hown : w.ownsRow 0 e 1 v n xs) (s : ByteArray) (hx : a.eval x = .string s) (hlen : n + s.size ≤ 140737488355328)
  (h : ∀ v' w', w'.ownsRow 0 e 1 v' (n + s.size) (xs ++ Lib.strCells s) → w.grownBy w' v.ownBlock → (∀ g, v'.ownBlock = some g → v.ownBlock = some g ∨ w.heap.size ≤ g) → wpList P ops Q rest (a.put o.dst v') w') : wpList P ops Q (o :: rest) a w := by
 refine wpList_plain hgd fun K hK => ?_
 obtain ⟨v', w', hr, h2, h3, h4⟩ := append_row (P := P) w t u o.type e i ht hu hi hz hsize hby v n xs hown s hlen
 unfold Oper.wp execOp
 simp only [ho, resolve, invoke, builtin, Sem.run_bind, Sem.run_pure, Result.andThen_ok, List.map_toArray, List.map_cons, List.map_nil, hs, hx, hr]
 exact hK _ _ (h v' w' h2 h3 h4)
set_option maxHeartbeats 2000000 in
set_option maxRecDepth 100000 in
theorem writeString (c : Nat) (bs : List Value) (s : ByteArray) (w : World) (h : Bld c (.pointer none) bs w ∨ Bld c (.pointer (some ⟨c, 0, none⟩)) bs w) (hlen : bs.length + s.size ≤ 140737488355328) :
  Calls Tryz.prog 31 #[.pointer (some ⟨c, 0, none⟩), .string s] w fun e w' => e = .returned (.tuple #[.int .i64 s.size, .nilIface]) ∧ Bld c (.pointer (some ⟨c, 0, none⟩)) (bs ++ Lib.strCells s) w' ∧
   (w'.os = w.os ∧ w'.tape = w.tape ∧ w'.output = w.output ∧ w.heap.size ≤ w'.heap.size) ∧ (∀ k, k < w.heap.size → k ≠ c → some k ≠ bufOf c w → w'.heap[k]? = w.heap[k]?) ∧ (∀ k, bufOf c w' = some k → bufOf c w = some k ∨ w.heap.size ≤ k) := by
 obtain ⟨i0, hi, hz0, hz1, hz2⟩ := info_byte
 go_enter Tryz.func31, Tryz.ntmps31
 go_wp2_with (go_at_call 55; refine (copyCheck_any c bs _ h).mono ?_)
 rintro e w1 ⟨rfl, h1, hb1, hr1⟩
 obtain ⟨hB, v, hbk, hown, hne⟩ := h1
 have c0 : w1.cell? ⟨c, 0, none⟩ = some (.pointer (some ⟨c, 0, none⟩)) := by rw [Lib.cell_of_heap hbk]; rfl
 have c1 : w1.cell? ⟨c, 1, none⟩ = some v := by rw [Lib.cell_of_heap hbk]; rfl
 go_wp2_with (at_builtin; refine wpList_append_row rfl _ _ 75 9 rfl 5 i0 Tryz.underlying75 Tryz.underlying9 hi hz0 hz1 hz2 _ _ _ rfl hown s rfl hlen ?_)
 intro v' w2 hown' hgrow hrow
 have hlt : c < w1.heap.size := by
  rcases Nat.lt_or_ge c w1.heap.size with h' | h'
  ·exact h'
  ·simp [Array.getElem?_eq_none h'] at hbk
 have hb2 : w2.heap[c]? = some (.cells #[.pointer (some ⟨c, 0, none⟩), v] 79 (0, 0)) := by
  rw [hgrow.block c hlt (fun e => hne e.symm)]
  exact hbk
 have d0 : w2.cell? ⟨c, 0, none⟩ = some (.pointer (some ⟨c, 0, none⟩)) := by rw [Lib.cell_of_heap hb2]; rfl
 have d1 : w2.cell? ⟨c, 1, none⟩ = some v := by rw [Lib.cell_of_heap hb2]; rfl
 have f1 : w2.frozen? ⟨c, 1, none⟩ = false := Lib.frozen_of_heap hb2 1
 obtain ⟨ao, n', cap, rfl⟩ : ∃ ao n' cap, v' = .slice ao n' cap := by
  rcases hown'.2 with ⟨hv, _⟩ | ⟨g, cap, cur, hv, _⟩
  ·exact ⟨_, _, _, hv⟩
  ·exact ⟨_, _, _, hv⟩
 go_wp2
 go_ret2
 have hr2 : bufOf c w1 = v.ownBlock := by simp [bufOf, hbk]
 have hcell : ∀ k, k ≠ c → (w2.setCell ⟨c, 1, none⟩ (.slice ao n' cap)).heap[k]? = w2.heap[k]? := fun k hk => Below.heap_setCell _ _ _ _ hk
 refine ⟨rfl, ?_, ⟨?_, ?_, ?_, ?_⟩, ?_, ?_⟩
 ·exact Lib.BuilderAt.put (T := 79) (e := 5) hB hb2 (bs' := bs ++ Lib.strCells s) (by simpa [Lib.strCells_length] using hown') (by decide)
 ·exact hgrow.os.trans hb1.os
 ·exact hgrow.tape.trans hb1.tape
 ·exact hgrow.output.trans hb1.output
 ·have := hgrow.size
  have := hb1.size
  simp [World.setCell]
  omega
 ·intro k hk hkc hkr
  rw [hcell k hkc, hgrow.block k (Nat.lt_of_lt_of_le hk hb1.size) (by rw [← hr2, hr1]; exact hkr), hb1.block k hk (by simpa using hkc)]
 ·intro k hk
  have hk' : Value.ownBlock (.slice ao n' cap) = some k := by
   rw [← hk]
   simp [bufOf, World.setCell, Array.getElem?_modify, hb2]
  rcases hrow k hk' with h' | h'
  ·exact .inl (by rw [← hr1, hr2]; exact h')
  ·exact .inr (Nat.le_trans hb1.size h')
theorem grown_freeze (w : World) (g n : Nat) : w.grownBy (w.drew.freeze ⟨g, 0, none⟩ n) (some g) := by
 unfold World.freeze
 split
 ·exact ⟨rfl, rfl, rfl, Nat.le_refl _, fun _ _ _ => rfl⟩
 ·refine ⟨rfl, rfl, rfl, by simp, fun k _ hk => ?_⟩
  simp only [Array.getElem?_modify]
  rw [if_neg (fun e => hk (by simp [e]))]
  rfl
set_option maxHeartbeats 2000000 in
set_option maxRecDepth 100000 in
/-- String, where there is a byte at least: these are frozen in their row. -/
theorem stringOf (c : Nat) (l : List UInt8) (w : World) (h : Bld c (.pointer none) (Lib.byteCells l) w ∨ Bld c (.pointer (some ⟨c, 0, none⟩)) (Lib.byteCells l) w) (h0 : l ≠ []) :
  Calls Tryz.prog 33 #[.pointer (some ⟨c, 0, none⟩)] w fun e w' => e = .returned (.string ⟨l.toArray⟩) ∧ w.grownBy w' (bufOf c w) := by
 obtain ⟨p, hB, v, hbk, hown, hne⟩ : ∃ p, Bld c p (Lib.byteCells l) w := by
  rcases h with h | h
  ·exact ⟨_, h⟩
  ·exact ⟨_, h⟩
 have hl0 : l.length ≠ 0 := by simpa using h0
 rw [Lib.byteCells_length] at hown
 obtain ⟨g, cap, cur, rfl, hbg, hg, hnc, hcm, hcs, htake⟩ : ∃ g cap cur, v = .slice (some ⟨g, 0, none⟩) l.length cap ∧ 0 ≤ g ∧ w.heap[g]? = some (.cells cur 5 (0, 0)) ∧ l.length ≤ cap ∧ cap ≤ maxLen ∧ cur.size = cap * 1 ∧ cur.toList.take (l.length * 1) = Lib.byteCells l := by
  rcases hown.2 with ⟨_, hz⟩ | ⟨g, cap, cur, hv, r⟩
  ·exact absurd hz hl0
  ·exact ⟨g, cap, cur, hv, r⟩
 have c1 : w.drew.cell? ⟨c, 1, none⟩ = some (.slice (some ⟨g, 0, none⟩) l.length cap) := by
  have : w.drew.heap[c]? = some (.cells #[p, .slice (some ⟨g, 0, none⟩) l.length cap] 79 (0, 0)) := hbk
  rw [Lib.cell_of_heap this]; rfl
 have hSD : (Builtin.unsafeSliceData_ #[75] 152 #[.slice (some ⟨g, 0, none⟩) l.length cap]).run Tryz.prog w.drew = .ok (.pointer (some ⟨g, 0, none⟩)) w.drew :=
  Lib.run_unsafeSliceData_row _ _ _ _ _ _ (by omega)
 have hUS : (Builtin.unsafeString_ #[152, 3] 9 #[.pointer (some ⟨g, 0, none⟩), .int .i64 l.length]).run Tryz.prog w.drew = .ok (.string ⟨l.toArray⟩) (w.drew.freeze ⟨g, 0, none⟩ l.length) := by
  refine Lib.run_unsafeString_row w.drew 152 3 9 5 Tryz.underlying152 (by kernel_rfl) g cur.size (by have hg' : w.drew.heap[g]? = some (.cells cur 5 (0, 0)) := hg; simp [World.shape?, hg']) l h0 (by omega) (by unfold maxLen at hcm; omega) ?_
  intro j x hx
  have := hown.cells (g := g) rfl j (.int .u8 x.toNat) (by simp [Lib.byteCells, hx])
  exact this
 have hrow : bufOf c w = some g := by simp [bufOf, hbk, Value.ownBlock]
 go_enter Tryz.func33, Tryz.ntmps33
 go_wp2
 go_region
 all_goals (go_wp2; go_ret; refine ⟨rfl, ?_⟩; rw [hrow]; exact grown_freeze w g _)
end Go.Proofs.YtegjnjmimfgijaaGreatDoor

noncomputable section
namespace Go.Proofs.YtegjnjmimfgijaaGreatDoor
open Go Go.RowKit
structure Hid (W0 : Base) (c : Nat) (W : Base) (S : ByteArray) : Prop where
 size : W0.w.heap.size ≤ W.w.heap.size
 os : W.w.os = W0.w.os
 tape : W.w.tape = W0.w.tape
 output : W.w.output = W0.w.output
 old : ∀ k, W0.old k → W.old k ∧ W.w.heap[k]? = W0.w.heap[k]?
 f0 : ∀ k ob, W.f0 k = some ob → W0.f0 k = some ob ∨ ¬ W0.old k
 cont : Bld c (.pointer none) (Lib.strCells S) W.w ∨ Bld c (.pointer (some ⟨c, 0, none⟩)) (Lib.strCells S) W.w
 mine : ∀ k, k = c ∨ bufOf c W.w = some k → W.old k ∧ ¬ W0.old k ∧ W.f0 k = none
structure Lnk (W0 W : Base) : Prop where
 size : W0.w.heap.size ≤ W.w.heap.size
 os : W.w.os = W0.w.os
 tape : W.w.tape = W0.w.tape
 output : W.w.output = W0.w.output
 old : ∀ k, W0.old k → W.old k ∧ W.w.heap[k]? = W0.w.heap[k]?
 f0 : ∀ k ob, W.f0 k = some ob → W0.f0 k = some ob ∨ ¬ W0.old k
theorem Hid.lnk {W0 W : Base} {c : Nat} {S : ByteArray} (h : Hid W0 c W S) : Lnk W0 W := ⟨h.size, h.os, h.tape, h.output, h.old, h.f0⟩
def HidO (W0 : Base) (c : Nat) (W : Base) (g : Option ByteArray) : Prop :=
 match g with
 | some S => Hid W0 c W S
 | none => Lnk W0 W
theorem HidO.lnk {W0 W : Base} {c : Nat} {g : Option ByteArray} (h : HidO W0 c W g) : Lnk W0 W := by
 cases g with
 | none => exact h
 | some S => exact Hid.lnk h
theorem Bld.at_row {c : Nat} {p : Value} {bs : List Value} {w w' : World} (h : Bld c p bs w) (hc : w'.heap[c]? = w.heap[c]?) (hr : ∀ k, bufOf c w = some k → w'.heap[k]? = w.heap[k]?) : Bld c p bs w' ∧ bufOf c w' = bufOf c w := by
 obtain ⟨hB, v, hb, hown, hne⟩ := h
 have hrow : bufOf c w = v.ownBlock := by simp [bufOf, hb]
 refine ⟨⟨hB, v, by rw [hc]; exact hb, ⟨hown.1, ?_⟩, hne⟩, by unfold bufOf; rw [hc]⟩
 rcases hown.2 with h | ⟨g, cap, cur, rfl, a2, a3, a4⟩
 ·exact .inl h
 ·exact .inr ⟨g, cap, cur, rfl, a2, by rw [hr g (by rw [hrow]; rfl)]; exact a3, a4⟩
theorem Bld.row_lt {c : Nat} {p : Value} {bs : List Value} {w : World} (h : Bld c p bs w) {k : Nat} (hk : bufOf c w = some k) : k < w.heap.size := by
 obtain ⟨hB, v, hb, hown, hne⟩ := h
 have hrow : bufOf c w = v.ownBlock := by simp [bufOf, hb]
 rcases hown.2 with ⟨rfl, _⟩ | ⟨g, cap, cur, rfl, a2, a3, a4⟩
 ·rw [hrow] at hk; cases hk
 ·rw [hrow] at hk
  cases hk
  rcases Nat.lt_or_ge g w.heap.size with h' | h'
  ·exact h'
  ·rw [Array.getElem?_eq_none h'] at a3; cases a3
theorem Hid.now {W0 W : Base} {c : Nat} {S : ByteArray} (h : Hid W0 c W S) {w : World} (hs : Still W w) :
  (Bld c (.pointer none) (Lib.strCells S) w ∨ Bld c (.pointer (some ⟨c, 0, none⟩)) (Lib.strCells S) w) ∧ bufOf c w = bufOf c W.w := by
 have hc := hs.block c (h.mine c (.inl rfl)).1
 have hr : ∀ k, bufOf c W.w = some k → w.heap[k]? = W.w.heap[k]? := fun k hk => hs.block k (h.mine k (.inr hk)).1
 rcases h.cont with q | q
 ·exact ⟨.inl (q.at_row hc hr).1, (q.at_row hc hr).2⟩
 ·exact ⟨.inr (q.at_row hc hr).1, (q.at_row hc hr).2⟩
def allWr (kb : Nat) (hp : Tr AObj) : Nat → Bool
 | 0 => true
 | n + 1 => allWr kb hp n && match hp.get n with
  | some o => o.wr || n.beq kb
  | none => true
theorem allWr_get {kb : Nat} {hp : Tr AObj} : ∀ {n : Nat}, allWr kb hp n = true → ∀ b o, b < n → hp.get b = some o → o.wr = true ∨ b = kb
 | 0, _, b, o, hb, _ => by omega
 | n + 1, h, b, o, hb, ho => by
  simp only [allWr, Bool.and_eq_true] at h
  by_cases e : b = n
  ·subst e
   rw [ho] at h
   have := h.2
   simp only [Bool.or_eq_true] at this
   exact this.imp id Nat.eq_of_beq_eq_true
  ·exact allWr_get h.1 b o (by omega) ho
def none0 (hp : Tr AObj) (kb : Nat) : Bool :=
 match hp.get kb with
 | some (.cells [] false) => true
 | none => true
 | _ => false
theorem wr_old {ρ : Place} {O : Nat → Prop} {c s z : Nat} {o : AObj} {ob : Obj} (h : ORel ρ O c s z o ob) (hw : o.wr = true) : ¬ O c := by
 cases o with
 | cells l wr =>
  cases ob <;> try exact h.elim
  exact h.2.2.2.2 hw
 | iter st p =>
  cases ob <;> try exact h.elim
  exact h.2.2.1
theorem ORel.other {ρ : Place} {O O' : Nat → Prop} {c s z : Nat} {o : AObj} {ob : Obj} (h : ORel ρ O c s z o ob) (hw : o.wr = true) (hO : ¬ O' c) : ORel ρ O' c s z o ob := by
 cases o with
 | cells l wr =>
  cases ob <;> try exact h.elim
  exact ⟨h.1, h.2.1, h.2.2.1, h.2.2.2.1, fun _ => hO⟩
 | iter st p =>
  cases ob <;> try exact h.elim
  exact ⟨h.1, h.2.1, hO, h.2.2.2⟩
theorem strCells_append (a b : ByteArray) : Lib.strCells (a ++ b) = Lib.strCells a ++ Lib.strCells b := by
 simp [Lib.strCells, ByteArray.data_append]
def bldCall (kb : Nat) (next : GCall (Option ByteArray)) : GCall (Option ByteArray) := fun f args hp nx g K =>
 bif f.beq 31 then match args, g with
  | [.pointer (some ⟨b, o, none⟩), .string s], some g => bif b.beq kb && (o.beq 0 && (allWr kb hp nx && none0 hp kb)) then g.size + s.size ≤ 140737488355328 ∧ K (.ret (.tuple #[.int .i64 s.size, .nilIface])) hp nx (some (g ++ s)) else False
  | _, _ => False
 else bif f.beq 33 then match args, g with
  | [.pointer (some ⟨b, o, none⟩)], some g => bif b.beq kb && (o.beq 0 && (allWr kb hp nx && none0 hp kb)) then 0 < g.size ∧ K (.ret (.string g)) hp nx none else False
  | _, _ => False
 else next f args hp nx g K
theorem bldCall_ok {W0 : Base} {c kb : Nat} {next : GCall (Option ByteArray)} (hn : GCallOk Tryz.prog (HidO W0 c) kb (c, 0, 2) next) : GCallOk Tryz.prog (HidO W0 c) kb (c, 0, 2) (bldCall kb next) := by
 intro f args hp nx g0 K h W ρ w args' hI0 hkx hrel hargs
 unfold bldCall at h
 cases hf : f.beq 31 with
 | false =>
  rw [hf, cond_false] at h
  cases hf2 : f.beq 33 with
  | false => rw [hf2] at h; exact hn f args hp nx g0 K h W ρ w args' hI0 hkx hrel hargs
  | true =>
   rw [hf2, cond_true] at h
   have hf' := Nat.eq_of_beq_eq_true hf2
   subst hf'
   split at h
   case h_2 => exact h.elim
   rename_i b o g
   have hI : Hid W0 c W g := hI0
   cases hc : b.beq kb && (o.beq 0 && (allWr kb hp nx && none0 hp kb)) with
   | false => rw [hc] at h; exact h.elim
   | true =>
    rw [hc, cond_true] at h
    simp only [Bool.and_eq_true] at hc
    obtain ⟨hb, ho, hwr, hno⟩ := hc
    have hb := Nat.eq_of_beq_eq_true hb
    have ho := Nat.eq_of_beq_eq_true ho
    subst hb ho
    obtain ⟨hpos, hK⟩ := h
    cases hargs with
    | cons ha hrest =>
     cases hrest
     cases ha with
     | ptr hpl =>
      have hpl' := hpl
      rw [hkx] at hpl'
      cases hpl'
      obtain ⟨hcont, hrow⟩ := hI.now hrel.below
      have hne : g.data.toList ≠ [] := fun e => by
       have h1 : g.data.toList.length = g.size := by rw [Array.length_toList]; rfl
       rw [e] at h1
       simp at h1
       omega
      refine (stringOf c g.data.toList w hcont hne).mono ?_
      rintro e w' ⟨rfl, hg⟩
      have hmine := hI.mine
      rw [← hrow] at hmine
      have hgd : (⟨g.data.toList.toArray⟩ : ByteArray) = g := rfl
      have lt_of : ∀ {k : Nat} {ob : Obj}, w.heap[k]? = some ob → k < w.heap.size := fun {k ob} hk => by
       rcases Nat.lt_or_ge k w.heap.size with h' | h'
       ·exact h'
       ·rw [Array.getElem?_eq_none h'] at hk; cases hk
      have unch : ∀ k, k < w.heap.size → bufOf c w ≠ some k → w'.heap[k]? = w.heap[k]? := fun k h1 h3 => hg.block k h1 fun e => h3 e.symm
      have Wlt : ∀ k, W.old k → k < w.heap.size := fun k hk => Nat.lt_of_lt_of_le hk.1 hrel.below.size
      have hnot : ∀ k, ¬ W.old k → ¬ W0.old k := fun k hk h' => hk (hI.old k h').1
      have hcw : c < w.heap.size := (hrel.dom _ _ hkx).2
      have hcr : bufOf c w ≠ some c := by
       rcases hcont with ⟨_, v, hbk, _, hne⟩ | ⟨_, v, hbk, _, hne⟩
       ·simpa [bufOf, hbk] using hne
       ·simpa [bufOf, hbk] using hne
      refine ⟨_, hp, nx, none, ρ, ⟨W0.w, W0.mu, W0.f0, W.ds⟩, hK, ⟨_, rfl, .string _⟩, ⟨?_, rfl⟩, ⟨fun b x hb => ⟨(hrel.dom b x hb).1, Nat.lt_of_lt_of_le (hrel.dom b x hb).2 hg.size⟩, fun b o c' s' z ho1 hb1 => ?_, hrel.inj, hrel.fresh, ⟨?_, ?_, ?_, ?_, fun k hk => ?_⟩, fun k ob hk => ?_, hrel.apart, fun k ob hk => ?_⟩, .refl _ _ _⟩
      ·exact ⟨Nat.le_refl _, rfl, rfl, rfl, fun k hk => ⟨hk, rfl⟩, fun k ob hk => .inl hk⟩
      ·obtain ⟨ob, e1, e2⟩ := hrel.obj b o c' s' z ho1 hb1
       rcases allWr_get hwr b o (hrel.dom b _ hb1).1 ho1 with hw | hw
       ·have hno' := wr_old e2 hw
        exact ⟨ob, by rw [unch c' (lt_of e1) fun e => hno' (hmine c' (.inr e)).1]; exact e1, e2.other hw (hnot c' hno')⟩
       ·subst hw
        have hb' : ρ.pl b = some (c', s', z) := hb1
        rw [hkx] at hb'
        cases hb'
        have ho' : o = .cells [] false := by
         unfold none0 at hno
         rw [ho1] at hno
         split at hno
         ·rename_i q; cases q; rfl
         ·rename_i q; cases q
         ·cases hno
        subst ho'
        refine ⟨ob, by rw [unch _ hcw hcr]; exact e1, ?_⟩
        cases ob <;> try exact e2.elim
        exact ⟨e2.1, e2.2.1, e2.2.2.1, e2.2.2.2.1, fun h' => by cases h'⟩
      ·exact hg.os.trans (hrel.below.os.trans hI.os)
      ·exact hg.tape.trans (hrel.below.tape.trans hI.tape)
      ·exact hg.output.trans (hrel.below.output.trans hI.output)
      ·exact Nat.le_trans hI.size (Nat.le_trans hrel.below.size hg.size)
      ·have h1 := hI.old k hk
       show w'.heap[k]? = W0.w.heap[k]?
       rw [unch k (Wlt k h1.1) fun e => (hmine k (.inr e)).2.1 hk, hrel.below.block k h1.1]
       exact h1.2
      ·have e1 := hrel.frz k ob hk
       rw [unch k (lt_of e1) fun e => ?_]
       ·exact e1
       ·rcases hrel.frn k ob hk with q | q
        ·rw [(hmine k (.inr e)).2.2] at q; cases q
        ·exact q (hmine k (.inr e)).1
      ·rcases hrel.frn k ob hk with q | q
       ·exact hI.f0 k ob q
       ·exact .inr (hnot k q)
 | true =>
  rw [hf, cond_true] at h
  have hf' := Nat.eq_of_beq_eq_true hf
  subst hf'
  split at h
  case h_2 => exact h.elim
  rename_i b o s g
  have hI : Hid W0 c W g := hI0
  cases hc : b.beq kb && (o.beq 0 && (allWr kb hp nx && none0 hp kb)) with
  | false => rw [hc] at h; exact h.elim
  | true =>
   rw [hc, cond_true] at h
   simp only [Bool.and_eq_true] at hc
   obtain ⟨hb, ho, hwr, hno⟩ := hc
   have hb := Nat.eq_of_beq_eq_true hb
   have ho := Nat.eq_of_beq_eq_true ho
   subst hb ho
   obtain ⟨hlen, hK⟩ := h
   cases hargs with
   | cons ha hrest =>
    cases hrest with
    | cons hs hrest =>
     cases hrest
     cases hs
     cases ha with
     | ptr hpl =>
      have hpl' := hpl
      rw [hkx] at hpl'
      cases hpl'
      obtain ⟨hcont, hrow⟩ := hI.now hrel.below
      have hl : (Lib.strCells g).length + s.size ≤ 140737488355328 := by rw [Lib.strCells_length]; exact hlen
      refine (writeString c (Lib.strCells g) s w hcont hl).mono ?_
      rintro e w' ⟨rfl, hB, ⟨f1, f2, f3, f4⟩, f5, f6⟩
      have hcw : c < w.heap.size := (hrel.dom _ _ hkx).2
      have hmine := hI.mine
      rw [← hrow] at hmine
      have unch : ∀ k, k < w.heap.size → k ≠ c → bufOf c w ≠ some k → w'.heap[k]? = w.heap[k]? := fun k h1 h2 h3 => f5 k h1 h2 fun e => h3 e.symm
      have free : ∀ k, ¬ W.old k → k ≠ c ∧ bufOf c w ≠ some k := fun k hk => ⟨fun e => hk (hmine k (.inl e)).1, fun e => hk (hmine k (.inr e)).1⟩
      have frno : ∀ k, k = c ∨ bufOf c w = some k → ρ.fr k = none := fun k hk => by
       cases hfr : ρ.fr k with
       | none => rfl
       | some ob =>
        rcases hrel.frn k ob hfr with q | q
        ·rw [(hmine k hk).2.2] at q; cases q
        ·exact (q (hmine k hk).1).elim
      have lt_of : ∀ {k : Nat} {ob : Obj}, w.heap[k]? = some ob → k < w.heap.size := fun {k ob} hk => by
       rcases Nat.lt_or_ge k w.heap.size with h' | h'
       ·exact h'
       ·rw [Array.getElem?_eq_none h'] at hk; cases hk
      have frnew : ∀ k, bufOf c w' = some k → ρ.fr k = none := fun k hk => by
       rcases f6 k hk with q | q
       ·exact frno k (.inr q)
       ·cases hfr : ρ.fr k with
        | none => rfl
        | some ob => have := lt_of (hrel.frz k ob hfr); omega
      have hold : ∀ k, (⟨w', fun k => ¬ (W.old k ∨ k = c ∨ bufOf c w' = some k), ρ.fr, W.ds⟩ : Base).old k ↔ k < w'.heap.size ∧ (W.old k ∨ k = c ∨ bufOf c w' = some k) := fun k => by
       unfold Base.old
       dsimp only
       rw [Classical.not_not]
      have Wlt : ∀ k, W.old k → k < w.heap.size := fun k hk => Nat.lt_of_lt_of_le hk.1 hrel.below.size
      refine ⟨_, hp, nx, some (g ++ s), ρ, ⟨w', fun k => ¬ (W.old k ∨ k = c ∨ bufOf c w' = some k), ρ.fr, W.ds⟩, hK, ⟨_, rfl, .tuple rfl fun i v v' h1 h2 => ?_⟩, ⟨⟨?_, ?_, ?_, ?_, fun k hk => ⟨?_, ?_⟩, fun k ob hk => ?_, .inr ?_, fun k hk => ⟨?_, ?_, ?_⟩⟩, rfl⟩, ⟨fun b x hb => ⟨(hrel.dom b x hb).1, Nat.lt_of_lt_of_le (hrel.dom b x hb).2 f4⟩, fun b o c' s' z ho1 hb1 => ?_, hrel.inj, hrel.fresh, ⟨rfl, rfl, rfl, Nat.le_refl _, fun _ _ => rfl⟩, fun k ob hk => ?_, hrel.apart, fun k ob hk => .inl hk⟩, .refl _ _ _⟩
      ·rcases i with _ | _ | i
       ·cases h1; cases h2; exact .int _ _
       ·cases h1; cases h2; exact .nilIface
       ·simp at h1
      ·exact Nat.le_trans hI.size (Nat.le_trans hrel.below.size f4)
      ·exact f1.trans (hrel.below.os.trans hI.os)
      ·exact f2.trans (hrel.below.tape.trans hI.tape)
      ·exact f3.trans (hrel.below.output.trans hI.output)
      ·exact (hold k).2 ⟨Nat.lt_of_lt_of_le (Wlt k (hI.old k hk).1) f4, .inl (hI.old k hk).1⟩
      ·have h1 := hI.old k hk
       have h2 : k ≠ c := fun e => (hmine k (.inl e)).2.1 hk
       have h3 : bufOf c w ≠ some k := fun e => (hmine k (.inr e)).2.1 hk
       show w'.heap[k]? = _
       rw [unch k (Wlt k h1.1) h2 h3, hrel.below.block k h1.1]
       exact h1.2
      ·rcases hrel.frn k ob hk with q | q
       ·exact hI.f0 k ob q
       ·exact .inr fun h' => q (hI.old k h').1
      ·rw [strCells_append]; exact hB
      ·rcases hk with rfl | hk
       ·exact (hold _).2 ⟨Nat.lt_of_lt_of_le hcw f4, .inr (.inl rfl)⟩
       ·exact (hold _).2 ⟨hB.row_lt hk, .inr (.inr hk)⟩
      ·rcases hk with rfl | hk
       ·exact (hmine _ (.inl rfl)).2.1
       ·rcases f6 k hk with q | q
        ·exact (hmine _ (.inr q)).2.1
        ·intro h'
         have := h'.1
         have := hI.size
         have := hrel.below.size
         omega
      ·rcases hk with rfl | hk
       ·exact frno _ (.inl rfl)
       ·exact frnew k hk
      ·obtain ⟨ob, e1, e2⟩ := hrel.obj b o c' s' z ho1 hb1
       rcases allWr_get hwr b o (hrel.dom b _ hb1).1 ho1 with hw | hw
       ·have hno' := wr_old e2 hw
        have h2 := free c' hno'
        refine ⟨ob, by rw [unch c' (lt_of e1) h2.1 h2.2]; exact e1, e2.other hw fun h' => ?_⟩
        rcases ((hold c').1 h').2 with q | q | q
        ·exact hno' q
        ·exact h2.1 q
        ·rcases f6 c' q with q | q
         ·exact h2.2 q
         ·have := lt_of e1; omega
       ·subst hw
        have hb' : ρ.pl b = some (c', s', z) := hb1
        rw [hkx] at hb'
        cases hb'
        have ho' : o = .cells [] false := by
         unfold none0 at hno
         rw [ho1] at hno
         split at hno
         ·rename_i q; cases q; rfl
         ·rename_i q; cases q
         ·cases hno
        subst ho'
        obtain ⟨_, v, hbk, _⟩ := hB
        exact ⟨_, hbk, rfl, Nat.zero_le _, fun o _ h' => by simp at h', fun i v hv => by simp at hv, fun h' => by cases h'⟩
      ·have e1 := hrel.frz k ob hk
       have h2 : k ≠ c := fun e => by rw [frno k (.inl e)] at hk; cases hk
       have h3 : bufOf c w ≠ some k := fun e => by rw [frno k (.inr e)] at hk; cases hk
       rw [unch k (lt_of e1) h2 h3]
       exact e1
end Go.Proofs.YtegjnjmimfgijaaGreatDoor

noncomputable section
namespace Go.Proofs.YtegjnjmimfgijaaGreatDoor
open Go Go.RowKit
theorem Lnk.back {W0 W : Base} (h : Lnk W0 W) {ρ : Place} {hp : Tr AObj} {nx : Nat} {w : World} (hr : Rel ρ W hp nx w) : Rel ρ W0 hp nx w := by
 have hnot : ∀ k, ¬ W.old k → ¬ W0.old k := fun k hk h' => hk (h.old k h').1
 refine ⟨hr.dom, fun b o c s z ho hb => ?_, hr.inj, hr.fresh, ⟨hr.below.os.trans h.os, hr.below.tape.trans h.tape, hr.below.output.trans h.output, Nat.le_trans h.size hr.below.size, fun k hk => (hr.below.block k (h.old k hk).1).trans (h.old k hk).2⟩, hr.frz, hr.apart, fun k ob hk => ?_⟩
 ·obtain ⟨ob, e1, e2⟩ := hr.obj b o c s z ho hb
  refine ⟨ob, e1, ?_⟩
  cases o with
  | cells l wr =>
   cases ob <;> try exact e2.elim
   exact ⟨e2.1, e2.2.1, e2.2.2.1, e2.2.2.2.1, fun hw => hnot c (e2.2.2.2.2 hw)⟩
  | iter st p =>
   cases ob <;> try exact e2.elim
   exact ⟨e2.1, e2.2.1, hnot c e2.2.2.1, e2.2.2.2⟩
 ·rcases hr.frn k ob hk with q | q
  ·exact h.f0 k ob q
  ·exact .inr (hnot k q)
def isAllocW (ops : Array Oper) (draw : Bool) : Option Tmp :=
 match draw, ops.toList with
 | false, [o] => match o.op, o.dst, o.guard with
  | .alloc t, some d, none => bif t.beq 79 then some d else none
  | _, _, _ => none
 | _, _ => none
theorem isAllocW_eq {ops : Array Oper} {draw : Bool} {d : Tmp} (h : isAllocW ops draw = some d) : ∃ o, draw = false ∧ ops = #[o] ∧ o.op = .alloc 79 ∧ o.dst = some d ∧ o.guard = none := by
 unfold isAllocW at h
 split at h
 case h_2 => cases h
 rename_i o ho
 split at h
 case h_2 => cases h
 rename_i t d' h1 h2 h3
 cases ht : t.beq 79 with
 | false => rw [ht] at h; cases h
 | true =>
  rw [ht] at h
  cases h
  have := Nat.eq_of_beq_eq_true ht
  subst this
  exact ⟨o, rfl, by apply Array.ext'; simpa using ho, h1, h2, h3⟩
theorem zero_writer : (pureRun Tryz.prog (zeroValue 79)).map Value.cells = some #[.pointer none, .slice none 0 0] := by kernel_rfl
theorem alloc_writer (w : World) : (Instr.alloc 79 true (.tuple #[])).run Tryz.prog w = .ok (.pointer (some ⟨w.heap.size, 0, none⟩)) (pushed w (.cells #[.pointer none, .slice none 0 0] 79)) := by
 obtain ⟨z, hz, hc⟩ := Option.map_eq_some_iff.1 zero_writer
 unfold Instr.alloc
 rw [bind_run hz]
 show ((newRow 79 z.cells) >>= fun a => pure (Value.pointer (some a))).run Tryz.prog w = _
 rw [hc]
 rfl
theorem start_hid {ρ : Place} {W : Base} {hp : Tr AObj} {nx : Nat} {w : World} (h : Rel ρ W hp nx w) :
  HidO W w.heap.size ⟨pushed w (.cells #[.pointer none, .slice none 0 0] 79), fun k => ¬ (W.old k ∨ k = w.heap.size), ρ.fr, W.ds⟩ (some .empty) ∧
  Rel (ρ.set nx (w.heap.size, 0, 2)) ⟨pushed w (.cells #[.pointer none, .slice none 0 0] 79), fun k => ¬ (W.old k ∨ k = w.heap.size), ρ.fr, W.ds⟩ (hp.put nx (some (.cells [] false))) (nx + 1) (pushed w (.cells #[.pointer none, .slice none 0 0] 79)) := by
 have hsz : (pushed w (.cells #[.pointer none, .slice none 0 0] 79)).heap.size = w.heap.size + 1 := by show (w.heap.push _).size = _; rw [Array.size_push]
 have hat := pushed_at w (.cells #[.pointer none, .slice none 0 0] 79)
 have Wlt : ∀ k, W.old k → k < w.heap.size := fun k hk => Nat.lt_of_lt_of_le hk.1 h.below.size
 have hold : ∀ k, (⟨pushed w (.cells #[.pointer none, .slice none 0 0] 79), fun k => ¬ (W.old k ∨ k = w.heap.size), ρ.fr, W.ds⟩ : Base).old k ↔ k < w.heap.size + 1 ∧ (W.old k ∨ k = w.heap.size) := fun k => by
  unfold Base.old
  dsimp only
  rw [Classical.not_not, hsz]
 have hfr : ρ.fr w.heap.size = none := by
  cases hf : ρ.fr w.heap.size with
  | none => rfl
  | some ob => have := h.frz _ _ hf; simp at this
 have hnw : ¬ W.old w.heap.size := fun h' => by have := Wlt _ h'; omega
 constructor
 ·refine ⟨?_, h.below.os, h.below.tape, h.below.output, fun k hk => ⟨(hold k).2 ⟨by have := Wlt k hk; omega, .inl hk⟩, ?_⟩, fun k ob hk => h.frn k ob hk, .inl ⟨Nat.zero_le _, _, hat, World.ownsRow_nil _ _ _ _, by simp [Value.ownBlock]⟩, fun k hk => ?_⟩
  ·show _ ≤ (pushed w _).heap.size
   rw [hsz]
   have := h.below.size
   omega
  ·show (pushed w _).heap[k]? = _
   rw [pushed_lt w _ (Wlt k hk)]
   exact h.below.block k hk
  ·rcases hk with rfl | hk
   ·exact ⟨(hold _).2 ⟨by omega, .inr rfl⟩, hnw, hfr⟩
   ·have hk' : bufOf w.heap.size (pushed w (.cells #[.pointer none, .slice none 0 0] 79)) = some k := hk
    unfold bufOf at hk'
    rw [hat] at hk'
    cases hk'
 ·have hr := (h.reserve (.cells [] false)).realize (b := nx) (o := .cells [] false) (ob := .cells #[.pointer none, .slice none 0 0] 79) (z := 2) (Nat.lt_succ_self _) h.dom_none (by rw [Tr.get_put, if_pos rfl]) ⟨rfl, by decide, fun o _ => by simp, fun i v hv => by simp at hv, fun h' => by cases h'⟩
  refine ⟨hr.dom, fun b o c s z ho hb => ?_, hr.inj, hr.fresh, ⟨rfl, rfl, rfl, Nat.le_refl _, fun _ _ => rfl⟩, hr.frz, hr.apart, fun k ob hk => .inl hk⟩
  obtain ⟨ob, e1, e2⟩ := hr.obj b o c s z ho hb
  refine ⟨ob, e1, ?_⟩
  by_cases e : b = nx
  ·subst e
   rw [Tr.get_put, if_pos rfl] at ho
   cases ho
   cases ob <;> try exact e2.elim
   exact ⟨e2.1, e2.2.1, e2.2.2.1, e2.2.2.2.1, fun h' => by cases h'⟩
  ·have hb' : ρ b = some (c, s, z) := by
    rw [Place.set_other e] at hb
    exact hb
   have hc := (h.dom b _ hb').2
   cases o with
   | cells l wr =>
    cases ob <;> try exact e2.elim
    exact ⟨e2.1, e2.2.1, e2.2.2.1, e2.2.2.2.1, fun hw h' => ((hold c).1 h').2.elim (e2.2.2.2.2 hw) (by intro e; dsimp only at hc; omega)⟩
   | iter st p =>
    cases ob <;> try exact e2.elim
    exact ⟨e2.1, e2.2.1, fun h' => ((hold c).1 h').2.elim e2.2.2.1 (by intro e; dsimp only at hc; omega), e2.2.2.2⟩
def onNone (g : Option ByteArray) (X : Prop) : Prop := match g with | none => X | some _ => False
theorem onNone_eq {g : Option ByteArray} {X : Prop} (h : onNone g X) : g = none ∧ X := by
 cases g with
 | none => exact ⟨rfl, h⟩
 | some s => exact h.elim
def wrun (P : Program) (pc : PCall) (mk : Nat → GCall (Option ByteArray)) (n : Nat) (Fin : AS → Prop) (X : Value → AS → Prop) : Nat → VM → List Fr → AS → Prop
 | 0, _, _, _ => False
 | f + 1, .normal, k, st => match k with
  | [] => Fin st
  | .seq y :: k' => wrun P pc mk n Fin X f (.code y) k' st
  | .block _ :: k' => wrun P pc mk n Fin X f .normal k' st
  | .loop b :: k' => wrun P pc mk n Fin X f (.code b) (.loop b :: k') st
 | f + 1, .exit id, k, st => match k with
  | [] => False
  | .block j :: k' => bif id.beq j then wrun P pc mk n Fin X f .normal k' st else wrun P pc mk n Fin X f (.exit id) k' st
  | _ :: k' => wrun P pc mk n Fin X f (.exit id) k' st
 | _ + 1, .ret, _, st => Fin st
 | f + 1, .code c, k, st => match c with
  | .skip | .label _ => wrun P pc mk n Fin X f .normal k st
  | .region _ ops draw => match isAllocW ops draw with
   | some d => match aput n st.tm (some d) (.pointer (some ⟨st.nx, 0, none⟩)) with
    | some tm => grun P (mk st.nx) n [] [] (fun _ _ _ _ => False) (fun st g => onNone g (Fin st)) (fun v st g => onNone g (X v st)) 3000 .normal k ⟨tm, st.hp.put st.nx (some (.cells [] false)), st.nx + 1⟩ (some .empty)
    | none => False
   | none => vregionP P pc n ops draw st (fun st' => wrun P pc mk n Fin X f .normal k st') X
  | .seq x y => wrun P pc mk n Fin X f (.code x) (.seq y :: k) st
  | .cond c x y => match aev st.tm c with
   | some (.bool b) => pIf b (wrun P pc mk n Fin X f (.code x) k st) (wrun P pc mk n Fin X f (.code y) k st)
   | _ => False
  | .block id b => wrun P pc mk n Fin X f (.code b) (.block id :: k) st
  | .loop b => wrun P pc mk n Fin X f (.code b) (.loop b :: k) st
  | .exit id => wrun P pc mk n Fin X f (.exit id) k st
  | .ret => wrun P pc mk n Fin X f .ret k st
  | _ => False
theorem wrun_sound {pc : PCall} {mk : Nat → GCall (Option ByteArray)} {W : Base} {n : Nat} {Fin : AS → Prop} {X : Value → AS → Prop} {R : Place → AS → Prop} {Q : Exit → Act → World → Prop} (hcall : PCallOk Tryz.prog pc) (hmk : ∀ W0 c kb, GCallOk Tryz.prog (HidO W0 c) kb (c, 0, 2) (mk kb)) (hm : Tryz.prog.follows .mixedOrders = true)
  (hR : ∀ ρ st ρ' st', R ρ st → Step ρ ρ' st.hp st'.hp st.nx st'.nx → R ρ' st')
  (hF : ∀ st, Fin st → ∀ ρ a w, SRel ρ W n st a w → R ρ st → Q .normal a w ∧ Q .ret a w)
  (hX : ∀ v st, X v st → ∀ ρ v' a w, VR ρ v v' → SRel ρ W n st a w → R ρ st → Q (.panic [{ v := v', recovered := false }]) a w) :
  ∀ (f : Nat) (m : VM) (k : List Fr) (st : AS), wrun Tryz.prog pc mk n Fin X f m k st → ∀ ρ a w, SRel ρ W n st a w → R ρ st → (match m with
   | .code c => c.wp Tryz.prog (contQ Tryz.prog Q k) a w
   | .normal => contQ Tryz.prog Q k .normal a w
   | .exit id => contQ Tryz.prog Q k (.exit id) a w
   | .ret => contQ Tryz.prog Q k .ret a w) := by
 intro f
 induction f with
 | zero => intro m k st h; simp only [wrun] at h
 | succ f ih =>
  intro m k st h ρ a w hs hr
  cases m with
  | normal =>
   simp only [wrun] at h
   dsimp only
   cases k with
   | nil => exact (hF st h ρ a w hs hr).1
   | cons x k =>
    cases x with
    | seq y => exact ih (.code y) k st h ρ a w hs hr
    | block id => exact ih .normal k st h ρ a w hs hr
    | loop b =>
     exact loop_round (ih (.code b) (.loop b :: k) st h ρ a w hs hr)
  | exit id =>
   simp only [wrun] at h
   dsimp only
   cases k with
   | nil => exact h.elim
   | cons x k =>
    cases x with
    | seq y => exact ih (.exit id) k st h ρ a w hs hr
    | block j =>
     show Exit.inBlock j (contQ Tryz.prog Q k) (.exit id) a w
     simp only [Exit.inBlock]
     dsimp only at h
     cases hj : id.beq j with
     | true =>
      rw [hj] at h
      rw [if_pos (Nat.eq_of_beq_eq_true hj)]
      exact ih .normal k st h ρ a w hs hr
     | false =>
      rw [hj] at h
      rw [if_neg (fun e => by subst e; simp at hj)]
      exact ih (.exit id) k st h ρ a w hs hr
    | loop b => exact ih (.exit id) k st h ρ a w hs hr
  | ret =>
   simp only [wrun] at h
   exact contQ_ret (hF st h ρ a w hs hr).2
  | code c =>
   simp only [wrun] at h
   dsimp only
   cases c with
   | skip => exact wp_skip (ih .normal k st h ρ a w hs hr)
   | label l => exact wp_label (ih .normal k st h ρ a w hs hr)
   | region id ops draw =>
    dsimp only at h
    split at h
    ·rename_i d hd
     split at h
     case h_2 => exact h.elim
     rename_i tm htm
     obtain ⟨o, rfl, rfl, ho, hdst, hgd⟩ := isAllocW_eq hd
     refine wp_region ?_
     show wpOps Tryz.prog #[o] _ [0] a w
     rw [wpOps_cons]
     unfold wpOp
     have e0 : (#[o])[0]? = some o := rfl
     simp only [e0]
     have hw : ∀ q, Region.wanted o q = true := fun q => by unfold Region.wanted; rw [hgd]
     rw [hw, if_pos rfl]
     refine .inl ?_
     obtain ⟨dst, op, type, pos, after, guard⟩ := o
     dsimp only at ho hdst hgd
     subst ho hdst hgd
     have hrun : (execOp a.eval ⟨some d, .alloc 79, type, pos, after, none⟩).run Tryz.prog w = .ok (.value (.pointer (some ⟨w.heap.size, 0, none⟩))) (pushed w (.cells #[.pointer none, .slice none 0 0] 79)) := value_run (alloc_writer w)
     unfold Oper.wp
     rw [hrun]
     show contQ Tryz.prog Q k .normal _ _
     have hnone := hs.rel.dom_none
     have hle := Place.le_set (x := (w.heap.size, 0, 2)) hnone
     have hstep : Step ρ (ρ.set st.nx (w.heap.size, 0, 2)) st.hp (st.hp.put st.nx (some (.cells [] false))) st.nx (st.nx + 1) := ⟨hle, Nat.le_succ _, fun b hb hr => ⟨by rw [Place.set_other (by omega)]; exact hr, by rw [Tr.get_put, if_neg (by omega)]⟩⟩
     obtain ⟨hhid, hrel⟩ := start_hid hs.rel
     refine grun_sound (I := HidO W w.heap.size) (kb := st.nx) (kx := (w.heap.size, 0, 2)) (W0 := ⟨pushed w (.cells #[.pointer none, .slice none 0 0] 79), fun k => ¬ (W.old k ∨ k = w.heap.size), ρ.fr, W.ds⟩) (R := fun ρ' st' => Step (ρ.set st.nx (w.heap.size, 0, 2)) ρ' (st.hp.put st.nx (some (.cells [] false))) st'.hp (st.nx + 1) st'.nx)
      (hmk W w.heap.size st.nx) hm (fun _ _ _ _ h k => h.trans k) (fun b k st g h => (vloop_false h).elim) (fun st' g hst W' ρ' a' w' hI hkx hs' hr' => ?_) (fun v st' g hst W' ρ' v' a' w' hI hv hs' hr' => ?_) 3000 .normal k _ _ h _ _ _ _ ⟨hhid, rfl⟩ (Place.set_same _ _ _) ⟨hrel, aput_sound (hs.frame.mono hle) htm (.ptr (Place.set_same _ _ _))⟩ (.refl _ _ _)
     ·obtain ⟨rfl, hst⟩ := onNone_eq hst
      exact hF st' hst ρ' a' w' ⟨(HidO.lnk hI.1).back hs'.rel, by have := hs'.frame; rw [hI.2] at this; exact this⟩ (hR _ _ _ _ hr (hstep.trans hr'))
     ·obtain ⟨rfl, hst⟩ := onNone_eq hst
      exact hX v st' hst ρ' v' a' w' hv ⟨(HidO.lnk hI.1).back hs'.rel, by have := hs'.frame; rw [hI.2] at this; exact this⟩ (hR _ _ _ _ hr (hstep.trans hr'))
    ·exact vregionP_sound hcall hm hs h (fun st' hK a' w' ρ' g1 g2 => ih .normal k st' hK ρ' a' w' g1 (hR _ _ _ _ hr g2)) (fun v st' hK v' a' w' ρ' g0 g1 g2 => contQ_panic (hX v st' hK ρ' v' a' w' g0 g1 (hR _ _ _ _ hr g2)))
   | seq x y => exact wp_seq (ih (.code x) (.seq y :: k) st h ρ a w hs hr)
   | cond c x y =>
    dsimp only at h
    split at h
    ·rename_i b hc
     have := hs.frame.eval hc
     cases b with
     | true =>
      refine wp_cond_true (c := c) ?_ (ih (.code x) k st h ρ a w hs hr)
      generalize a.eval c = z at this
      cases this
      rfl
     | false =>
      refine wp_cond_false (c := c) ?_ (ih (.code y) k st h ρ a w hs hr)
      generalize a.eval c = z at this
      cases this
      rfl
    ·exact h.elim
   | block id b => exact wp_block (ih (.code b) (.block id :: k) st h ρ a w hs hr)
   | loop b =>
    exact loop_of (loop_round (ih (.code b) (.loop b :: k) st h ρ a w hs hr))
   | exit id => exact wp_exit (ih (.exit id) k st h ρ a w hs hr)
   | ret => exact wp_ret (ih .ret k st h ρ a w hs hr)
   | goto l => exact h.elim
   | refuse y => exact h.elim
   | scope b => exact h.elim
   | rangeFunc f ps x y => exact h.elim
theorem HidO.ds {W0 : Base} {c : Nat} (W : Base) (D : List Deferred) (g : Option ByteArray) (h : HidO W0 c W g) : HidO W0 c ⟨W.w, W.mu, W.f0, D⟩ g := by
 cases g with
 | none => exact ⟨h.size, h.os, h.tape, h.output, h.old, h.f0⟩
 | some S => exact ⟨h.size, h.os, h.tape, h.output, h.old, h.f0, h.cont, h.mine⟩
def mkW (inl : List FuncId) (pc : PCall) (kb : Nat) : GCall (Option ByteArray) := inlG Tryz.prog inl (bldCall kb (ofP pc)) 6
theorem mkW_ok {inl : List FuncId} {pc : PCall} (hm : Tryz.prog.follows .mixedOrders = true) (h : PCallOk Tryz.prog pc) (W0 : Base) (c kb : Nat) : GCallOk Tryz.prog (HidO W0 c) kb (c, 0, 2) (mkW inl pc kb) :=
 inlG_ok hm HidO.ds (bldCall_ok (ofP_ok h)) 6
def vcW (pc : PCall) (mk : Nat → GCall (Option ByteArray)) (f : FuncId) (args : List Value) (Post : Out → List (List Value) → Prop) : Prop :=
 wrun Tryz.prog pc mk (slotsN args (fnAt Tryz.prog f)) (finX Tryz.prog (fnAt Tryz.prog f) 0 (xpost 0 Post)) (panX 0 (xpost 0 Post)) 3000 (.code (codeOf (fnAt Tryz.prog f))) [] ⟨putArgs 0 args .e, hpOf [], 0⟩
set_option maxRecDepth 100000 in
theorem spec_W {pc : PCall} {mk : Nat → GCall (Option ByteArray)} (hcall : PCallOk Tryz.prog pc) (hmk : ∀ W0 c kb, GCallOk Tryz.prog (HidO W0 c) kb (c, 0, 2) (mk kb)) (hm : Tryz.prog.follows .mixedOrders = true) {f : FuncId} (hf : enters Tryz.prog f = true) {args : List Value} {Post : Out → List (List Value) → Prop}
  (h : vcW pc mk f args Post) : SpecX Tryz.prog f 0 (hpOf []) args (xpost 0 Post) := by
 intro W ρ w args' hpl hrel hargs
 obtain ⟨hf', hb'⟩ := all_of f hf
 suffices hb : Calls Tryz.prog f args'.toArray w fun e w' => ∃ r hp' nx' ρ', xpost 0 Post r hp' ∧ r.Ends0 ρ' e ∧ Rel ρ' W.bare hp' nx' w' ∧ StepG 0 ρ ρ' from hb.mono fun e w' ⟨r, hp', nx', ρ', g1, g2, g3, g4⟩ => ⟨r, hp', nx', ρ', g1, g2, g3.unbare, g4⟩
 refine calls_of_wp hf' hb' ?_
 unfold vcW at h
 have hst := start_rel (W := W.bare) rfl hrel.bare hargs (fnAt Tryz.prog f)
 exact wrun_sound (W := W.bare) (R := fun ρ' _ => StepG 0 ρ ρ') (Q := FinQX Tryz.prog (fnAt Tryz.prog f) W.bare 0 ρ (xpost 0 Post)) hcall hmk hm (fun _ _ _ _ h k => h.step k)
  (fun st hst ρ' a w hs hr => finX_ok hst rfl hpl hs hr) (fun v st hst ρ' v' a w hv hs hr => panX_ok hst rfl hpl hv hs hr) 3000 (.code _) [] _ h ρ _ w hst (.refl _ _)
end Go.Proofs.YtegjnjmimfgijaaGreatDoor

noncomputable section
namespace Go.Proofs.YtegjnjmimfgijaaGreatDoor
open Go Go.RowKit
def IsW (I : Base → Option ByteArray → Prop) (kx : Nat × Nat × Nat) : Prop := ∃ W0 c, I = HidO W0 c ∧ kx = (c, 0, 2)
end Go.Proofs.YtegjnjmimfgijaaGreatDoor

namespace Go.Proofs.YtegjnjmimfgijaaGreatDoor
open Go Go.RowKit
set_option maxRecDepth 100000
theorem closedL {ρ : Place} {l l' : List Value} (hl : l.all closed = true) (h : VRL ρ l l') : l' = l := by
 refine List.ext_getElem? fun i => ?_
 have hlen := h.len
 rcases Nat.lt_or_ge i l.length with hi | hi
 ·have h1 : l[i]? = some l[i] := List.getElem?_eq_getElem hi
  have h2 : l'[i]? = some (l'[i]'(by omega)) := List.getElem?_eq_getElem (by omega)
  have hr := h.get h1 h2
  rw [h1, h2, closed_eq (List.all_eq_true.1 hl _ (List.getElem_mem hi)) hr]
 ·rw [List.getElem?_eq_none hi, List.getElem?_eq_none (by omega)]
theorem pure_of_calls {P : Program} {f : FuncId} {args : List Value} {Post : Value → Prop} {v : Value} (ha : args.all closed = true) (hv : nl1 v = true) (hr : ∀ ρ, VR ρ v v) (h : ∀ w, Calls P f args.toArray w fun e w' => e = .returned v ∧ w' = w) (hP : Post v) : Pure P f args Post := by
 intro W ρ w args' hrel hargs
 obtain rfl := closedL ha hargs
 refine (h w).mono fun e w' ⟨he, hw⟩ => ?_
 subst he hw
 exact ⟨v, .e, 0, v, ρ, hP, rfl, nl1_sound hv (hr ρ), hrel, .refl _ _⟩
def dot : ByteArray := ⟨#[46]⟩
theorem run_cnt (s : ByteArray) (w : World) : (callFunc 103 #[.string s, .int .u8 46]).run Tryz.prog w = .ok (.value (.int .i64 (Lib.countByte s.data.toList 46))) w := by
 rw [run_callFunc_extern Tryz.func103 (by kernel_rfl) (by kernel_rfl) (by kernel_rfl) (e := Extern.BytealgCount.count) (by kernel_rfl), Lib.run_countString]
 rfl
theorem run_idx (s : ByteArray) (w : World) : (callFunc 111 #[.string s, .int .u8 46]).run Tryz.prog w = .ok (.value (.int .i64 (Lib.indexByte s.data.toList 46))) w := by
 rw [run_callFunc_extern Tryz.func111 (by kernel_rfl) (by kernel_rfl) (by kernel_rfl) (e := Extern.BytealgIndexByte.indexByte) (by kernel_rfl), Lib.run_indexByteString]
 rfl
set_option maxHeartbeats 1000000 in
theorem count_walk (s : ByteArray) (w : World) : Calls Tryz.prog 96 #[.string s, .string dot] w fun e w' => e = .returned (.int .i64 (Lib.countByte s.data.toList 46)) ∧ w' = w := by
 unfold dot
 go_enter Tryz.func96, Tryz.ntmps96
 go_wp2
 erw [run_cnt]
 go_wp2
 go_ret
 exact ⟨rfl, rfl⟩
set_option maxHeartbeats 1000000 in
theorem index_walk (s : ByteArray) (w : World) : Calls Tryz.prog 107 #[.string s, .int .u8 46] w fun e w' => e = .returned (.int .i64 (Lib.indexByte s.data.toList 46)) ∧ w' = w := by
 go_enter Tryz.func107, Tryz.ntmps107
 go_wp2
 rw [run_idx]
 go_wp2
 go_ret
 exact ⟨rfl, rfl⟩
def c_Cnt (args : List Value) (Post : Value → Prop) : Prop := match args with
 | [.string s, .string d] => d = dot ∧ Post (.int .i64 (Lib.countByte s.data.toList 46))
 | _ => False
def c_Idx (args : List Value) (Post : Value → Prop) : Prop := match args with
 | [.string s, .int .u8 k] => k = 46 ∧ Post (.int .i64 (Lib.indexByte s.data.toList 46))
 | _ => False
theorem ok_Cnt : EntOk Tryz.prog ⟨96, c_Cnt⟩ := by
 intro args Post h
 unfold c_Cnt at h
 dsimp only at h
 split at h
 ·obtain ⟨rfl, h⟩ := h
  exact pure_of_calls rfl rfl (fun ρ => .int _ _) (fun w => count_walk _ w) h
 ·exact h.elim
theorem ok_Idx : EntOk Tryz.prog ⟨107, c_Idx⟩ := by
 intro args Post h
 unfold c_Idx at h
 dsimp only at h
 split at h
 ·obtain ⟨rfl, h⟩ := h
  exact pure_of_calls rfl rfl (fun ρ => .int _ _) (fun w => index_walk _ w) h
 ·exact h.elim
end Go.Proofs.YtegjnjmimfgijaaGreatDoor

noncomputable section
namespace Go.Proofs.YtegjnjmimfgijaaGreatDoor
open Go Go.RowKit
set_option maxRecDepth 100000
def evt0 : Event := ⟨0, 0, ⟨#[]⟩, ⟨#[]⟩, ⟨#[]⟩, 0, false, ⟨⟨#[]⟩, []⟩, ⟨⟨#[]⟩, ⟨#[]⟩, 0, 0, 0, ⟨#[]⟩⟩, ⟨⟨#[]⟩, ⟨#[]⟩, ⟨#[]⟩, 0, ⟨#[]⟩⟩, ⟨⟨#[]⟩, 0, []⟩, ⟨⟨#[]⟩, 0, []⟩, ⟨⟨#[]⟩, 0, 0, ⟨0, 0, 0⟩, 0, []⟩, ⟨⟨#[]⟩, []⟩, ⟨⟨#[]⟩, 0, ⟨0, 0⟩⟩⟩
def evtL : Event := { evt0 with kind := 17, at_ := 5 }
def evtF : Event := { evt0 with kind := 8, at_ := 100, item := ⟨#[80, 49]⟩ }
def nilV : Value → Value
 | .func _ _ _ => .slice none 0 0
 | v => v
def evN (x : Event) : Value := .agg ((eventC x).map nilV).toArray
def inlA : List FuncId := [10, 12, 20, 21, 22, 18, 43, 47, 48, 49, 50, 51,
 45, 46, 72, 73, 86, 95, 97, 104,
 66, 67, 68, 32, 69, 70, 140, 56,
 129, 130, 131, 132, 133, 158, 159, 160, 161, 162,
 135, 136, 137, 138, 139]
def baseA : PCall := tabNil Tryz.prog [⟨44, c_Order⟩, ⟨96, c_Cnt⟩, ⟨107, c_Idx⟩] noP
theorem baseA_ok : PCallOk Tryz.prog baseA := tabNil_ok (by
 intro e he
 simp only [List.mem_cons, List.not_mem_nil, or_false] at he
 rcases he with rfl | rfl | rfl
 ·exact ok_chEnc
 ·exact ok_Cnt
 ·exact ok_Idx) noP_ok
def callA : PCall := inlP Tryz.prog inlA baseA 12
theorem callA_ok : PCallOk Tryz.prog callA := inlP_ok mixed baseA_ok 12
def mkA : Nat → GCall (Option ByteArray) := mkW inlA baseA
theorem mkA_ok (W0 : Base) (c kb : Nat) : GCallOk Tryz.prog (HidO W0 c) kb (c, 0, 2) (mkA kb) := mkW_ok mixed baseA_ok W0 c kb
theorem e_encL  (H : Code → List Fr → AS → Prop) (Post : Out → List (List Value) → Prop) : (fun _ => vcW callA mkA 14 [evN evtL]) H Post = (T16 ((toI (vi 0) ≤ Event.kind evtL ∧ toI (vi (Event.kind evtL)) < (↑19 : Int)) ∧ vs (ByteArray.mk #[108, 97, 117, 110, 99, 104]) = vs (toS (cellAt #[Value.agg #[vs (ByteArray.mk #[]), vs (ByteArray.mk #[111, 114, 100, 101, 114]), vs (ByteArray.mk #[115, 104, 101, 101, 116]), vs (ByteArray.mk #[98, 97, 114]), vs (ByteArray.mk #[98, 117, 121]), vs (ByteArray.mk #[110, 101, 115, 116]), vs (ByteArray.mk #[115, 97, 119]), vs (ByteArray.mk #[115, 99, 114, 97, 112]), vs (ByteArray.mk #[102, 105, 116]), vs (ByteArray.mk #[119, 101, 108, 100]), vs (ByteArray.mk #[105, 110, 115, 112, 101, 99, 116]), vs (ByteArray.mk #[114, 101, 112, 97, 105, 114]), vs (ByteArray.mk #[112, 97, 99, 107, 97, 103, 101]), vs (ByteArray.mk #[119, 101, 105, 103, 104]), vs (ByteArray.mk #[101, 114, 101, 99, 116]), vs (ByteArray.mk #[112, 101, 114, 109, 105, 116]), vs (ByteArray.mk #[116, 101, 115, 116]), vs (ByteArray.mk #[108, 97, 117, 110, 99, 104]), vs (ByteArray.mk #[100, 101, 108, 105, 118, 101, 114])]] 0 (0 + 17))) ∧ T32 (T16 (T4 (T2 (1 ≤ 40 ∧ True ∧ 2 ≤ 40 ∧ T8 (T2 (True ∧ 8 ≤ 8 ∧ ((Value.agg #[vs (ByteArray.mk #[]), vi 0, vi 0, vi 0, vi 0, vi 0, vi 0, Value.slice none 0 0] = Value.agg #[vs (ByteArray.mk #[]), vi 0, vi 0, vi 0, vi 0, vi 0, vi 0, Value.slice none 0 0] ∧ True) ∧ True) ∧ 8 ≤ 8 ∧ T32 (T32 (T32 (T32 (T32 (T32 (T32 (T8 (T2 (((T2 (True)) ∧ True) ∧ ∃ (o : Order2), eqL [Value.agg #[nilV (vs (Order2.id (Event.order evtL))), tree 38 0 #[]]] [order2V o] ∧ InOrder o ∧ FewO o ∧ ((Value.agg #[vs (ByteArray.mk #[]), Value.slice none 0 0] = Value.agg #[vs (ByteArray.mk #[]), Value.slice none 0 0] ∧ True) ∧ True) ∧ ((T2 (True)) ∧ True) ∧ ∃ (o_1 : Order2), eqL [Value.agg #[vs (ByteArray.mk #[]), tree 38 0 #[]]] [order2V o_1] ∧ InOrder o_1 ∧ FewO o_1 ∧ T2 (pIf (decide (bOrder o = bOrder o_1)) (T32 (T32 (T16 (T8 (True ∧ toI (vi 0) ≤ 5 ∧ T8 (T2 (1 ≤ 1 ∧ 1 ≤ 33554432 ∧ true = true ∧ 1 = 1 ∧ True ∧ (1 ≤ 1 ∧ AllU8 [Value.int IntKind.u8 (IntKind.wrap IntKind.u8 (↑17 : Int))]) ∧ True ∧ ((nilV (vi (Event.at_ evtL)) = vi (Event.at_ evtL) ∧ True) ∧ True) ∧ T4 (T2 (True ∧ toI (vi 0) ≤ 5 ∧ T8 (T2 (1 ≤ 1 ∧ 1 ≤ 33554432 ∧ true = true ∧ 1 = 1 ∧ True ∧ (1 ≤ 1 ∧ AllU8 [Value.int IntKind.u8 (IntKind.wrap IntKind.u8 (↑5 : Int))]) ∧ T2 (2 ≤ 9223372036854775807 ∧ 2 ≤ 140737488355328 ∧ T32 (T4 (T2 (True ∧ 0 < 2 ∧ T2 ((T2 (True ∧ True)) ∧ true = true ∧ Post (Out.ret (Value.tuple #[vs (ByteArray.empty ++ (bytesL [Value.int IntKind.u8 (IntKind.wrap IntKind.u8 (↑17 : Int))] ++ bytesL [Value.int IntKind.u8 (IntKind.wrap IntKind.u8 (↑5 : Int))])), vi 0])) [])))))))))))))))) (T8 (T4 ((T2 (True ∧ True)) ∧ true = true ∧ Post (Out.ret (Value.tuple #[vs (ByteArray.mk #[]), vi 2])) []))))))))))))))))))))) := by kernel_rfl
theorem e_encF  (H : Code → List Fr → AS → Prop) (Post : Out → List (List Value) → Prop) : (fun _ => vcW callA mkA 14 [evN evtF]) H Post = (T16 ((toI (vi 0) ≤ Event.kind evtF ∧ toI (vi (Event.kind evtF)) < (↑19 : Int)) ∧ vs (ByteArray.mk #[102, 105, 116]) = vs (toS (cellAt #[Value.agg #[vs (ByteArray.mk #[]), vs (ByteArray.mk #[111, 114, 100, 101, 114]), vs (ByteArray.mk #[115, 104, 101, 101, 116]), vs (ByteArray.mk #[98, 97, 114]), vs (ByteArray.mk #[98, 117, 121]), vs (ByteArray.mk #[110, 101, 115, 116]), vs (ByteArray.mk #[115, 97, 119]), vs (ByteArray.mk #[115, 99, 114, 97, 112]), vs (ByteArray.mk #[102, 105, 116]), vs (ByteArray.mk #[119, 101, 108, 100]), vs (ByteArray.mk #[105, 110, 115, 112, 101, 99, 116]), vs (ByteArray.mk #[114, 101, 112, 97, 105, 114]), vs (ByteArray.mk #[112, 97, 99, 107, 97, 103, 101]), vs (ByteArray.mk #[119, 101, 105, 103, 104]), vs (ByteArray.mk #[101, 114, 101, 99, 116]), vs (ByteArray.mk #[112, 101, 114, 109, 105, 116]), vs (ByteArray.mk #[116, 101, 115, 116]), vs (ByteArray.mk #[108, 97, 117, 110, 99, 104]), vs (ByteArray.mk #[100, 101, 108, 105, 118, 101, 114])]] 0 (0 + 8))) ∧ T32 (T8 (T4 (T2 (True ∧ 3 ≤ 40 ∧ T2 (1 ≤ 40 ∧ True ∧ 2 ≤ 40 ∧ T8 (T2 (True ∧ 8 ≤ 8 ∧ ((Value.agg #[vs (ByteArray.mk #[]), vi 0, vi 0, vi 0, vi 0, vi 0, vi 0, Value.slice none 0 0] = Value.agg #[vs (ByteArray.mk #[]), vi 0, vi 0, vi 0, vi 0, vi 0, vi 0, Value.slice none 0 0] ∧ True) ∧ True) ∧ 8 ≤ 8 ∧ T32 (T32 (T32 (T32 (T32 (T32 (T32 (T8 (T2 (((T2 (True)) ∧ True) ∧ ∃ (o : Order2), eqL [Value.agg #[nilV (vs (Order2.id (Event.order evtF))), tree 38 0 #[]]] [order2V o] ∧ InOrder o ∧ FewO o ∧ ((Value.agg #[vs (ByteArray.mk #[]), Value.slice none 0 0] = Value.agg #[vs (ByteArray.mk #[]), Value.slice none 0 0] ∧ True) ∧ True) ∧ ((T2 (True)) ∧ True) ∧ ∃ (o_1 : Order2), eqL [Value.agg #[vs (ByteArray.mk #[]), tree 38 0 #[]]] [order2V o_1] ∧ InOrder o_1 ∧ FewO o_1 ∧ T2 (pIf (decide (bOrder o = bOrder o_1)) (T32 (T8 ((T2 (True)) ∧ ByteArray.mk #[46] = dot ∧ T8 (True ∧ ((toI (vi 0) ≤ if w64 ((↑(ByteArray.size (Event.item evtF)) : Int) + 1) < w64 ((↑(Lib.countByte (Array.toList (ByteArray.data (Event.item evtF))) 46) : Int) + 1) then w64 ((↑(ByteArray.size (Event.item evtF)) : Int) + 1) else w64 ((↑(Lib.countByte (Array.toList (ByteArray.data (Event.item evtF))) 46) : Int) + 1)) ∧ (toI (vi (if w64 ((↑(ByteArray.size (Event.item evtF)) : Int) + 1) < w64 ((↑(Lib.countByte (Array.toList (ByteArray.data (Event.item evtF))) 46) : Int) + 1) then w64 ((↑(ByteArray.size (Event.item evtF)) : Int) + 1) else w64 ((↑(Lib.countByte (Array.toList (ByteArray.data (Event.item evtF))) 46) : Int) + 1))) ≤ if w64 ((↑(ByteArray.size (Event.item evtF)) : Int) + 1) < w64 ((↑(Lib.countByte (Array.toList (ByteArray.data (Event.item evtF))) 46) : Int) + 1) then w64 ((↑(ByteArray.size (Event.item evtF)) : Int) + 1) else w64 ((↑(Lib.countByte (Array.toList (ByteArray.data (Event.item evtF))) 46) : Int) + 1)) ∧ toI (vi (if w64 ((↑(ByteArray.size (Event.item evtF)) : Int) + 1) < w64 ((↑(Lib.countByte (Array.toList (ByteArray.data (Event.item evtF))) 46) : Int) + 1) then w64 ((↑(ByteArray.size (Event.item evtF)) : Int) + 1) else w64 ((↑(Lib.countByte (Array.toList (ByteArray.data (Event.item evtF))) 46) : Int) + 1))) ≤ 2 ^ 25) ∧ T8 (T2 (True ∧ (toI (vi 0) ≤ 0 ∧ toI (vi 0) < (↑(Int.toNat (if w64 ((↑(ByteArray.size (Event.item evtF)) : Int) + 1) < w64 ((↑(Lib.countByte (Array.toList (ByteArray.data (Event.item evtF))) 46) : Int) + 1) then w64 ((↑(ByteArray.size (Event.item evtF)) : Int) + 1) else w64 ((↑(Lib.countByte (Array.toList (ByteArray.data (Event.item evtF))) 46) : Int) + 1))) : Int)) ∧ 1 ≤ 1 ∧ T2 (True ∧ (toI (vi 0) ≤ w64 (0 + 1) ∧ True ∧ 0 ≤ 1 ∧ 1 ≤ 1) ∧ T8 (T2 (True ∧ (toI (vi 0) ≤ 0 ∧ toI (vi 0) < (↑(Int.toNat (w64 (0 + 1)) - 0) : Int)) ∧ T32 (T32 (T32 (T32 (T16 (T8 (T2 (True ∧ 1 ≤ 2 ∧ T16 (T4 (T2 (True ∧ toI (vi 0) ≤ 5 ∧ T8 (T2 (1 ≤ 1 ∧ 1 ≤ 33554432 ∧ true = true ∧ 1 = 1 ∧ True ∧ (1 ≤ 1 ∧ AllU8 [Value.int IntKind.u8 (IntKind.wrap IntKind.u8 (↑8 : Int))]) ∧ True ∧ ((nilV (vi (Event.at_ evtF)) = vi (Event.at_ evtF) ∧ True) ∧ True) ∧ T4 (T2 (True ∧ toI (vi 0) ≤ 5 ∧ T8 (T2 (toI (vi 0) ≤ 0 ∧ toI (vi 0) ≤ IntKind.wrap IntKind.u64 (8 * 2 ^ min (Int.toNat 0) (IntKind.bits IntKind.u64)) ∧ T8 (True ∧ 1 ≤ 1 ∧ 1 ≤ 33554432 ∧ true = true ∧ 1 = 1 ∧ T2 (toI (vi 0) ≤ 0 ∧ T4 (T2 (True ∧ toI (vi 0) ≤ w64 (w64 (8 * 2 ^ min (Int.toNat 0) (IntKind.bits IntKind.i64)) - 8) ∧ T2 (1 ≤ 1 ∧ 2 ≤ 33554432 ∧ true = true ∧ 1 = 1 ∧ 1 = 1 ∧ T8 ((2 ≤ 2 ∧ AllU8 [Value.int IntKind.u8 (IntKind.wrap IntKind.u8 (↑24 : Int)), Value.int IntKind.u8 (IntKind.wrap IntKind.u8 (Int.fdiv (IntKind.wrap IntKind.u64 (Event.at_ evtF)) (2 ^ 0)))]) ∧ T2 (3 ≤ 9223372036854775807 ∧ 3 ≤ 140737488355328 ∧ T32 (T8 (True ∧ toI (vi 0) ≤ 5 ∧ T8 (T2 (1 ≤ 1 ∧ 1 ≤ 33554432 ∧ true = true ∧ 1 = 1 ∧ T2 (True ∧ 3 ≤ 33554432 ∧ true = true ∧ 2 = 2 ∧ 1 = 1 ∧ (3 ≤ 3 ∧ AllU8 [Value.int IntKind.u8 (IntKind.wrap IntKind.u8 (↑66 : Int)), Value.int IntKind.u8 (↑80 : Int), Value.int IntKind.u8 (↑49 : Int)]) ∧ T2 (6 ≤ 140737488355328 ∧ T2 (True ∧ 0 < 6 ∧ T2 ((T2 (True ∧ True)) ∧ true = true ∧ Post (Out.ret (Value.tuple #[vs (ByteArray.empty ++ (bytesL [Value.int IntKind.u8 (IntKind.wrap IntKind.u8 (↑8 : Int))] ++ bytesL [Value.int IntKind.u8 (IntKind.wrap IntKind.u8 (↑24 : Int)), Value.int IntKind.u8 (IntKind.wrap IntKind.u8 (Int.fdiv (IntKind.wrap IntKind.u64 (Event.at_ evtF)) (2 ^ 0)))]) ++ bytesL [Value.int IntKind.u8 (IntKind.wrap IntKind.u8 (↑66 : Int)), Value.int IntKind.u8 (↑80 : Int), Value.int IntKind.u8 (↑49 : Int)]), vi 0])) [])))))))))))))))))))))))))))))))))))))))) (T8 (T4 ((T2 (True ∧ True)) ∧ true = true ∧ Post (Out.ret (Value.tuple #[vs (ByteArray.mk #[]), vi 2])) [])))))))))))))))))))))) := by kernel_rfl
theorem pIf_same {α : Type} [DecidableEq α] {a : α} {X Y : Prop} (h : X) : pIf (decide (a = a)) X Y := pIf_intro (fun _ => h) (fun e => by simp at e)
theorem AllU8.nil : AllU8 [] := fun v hv => by cases hv
theorem AllU8.cons {v : Value} {l : List Value} (h : IsU8 v) (k : AllU8 l) : AllU8 (v :: l) := fun u hu => by
 rcases List.mem_cons.1 hu with rfl | hu
 ·exact h
 ·exact k u hu
def outL : Out := .ret (.tuple #[.string ⟨#[17, 5]⟩, .int .i64 0])
def outF : Out := .ret (.tuple #[.string ⟨#[8, 24, 100, 66, 80, 49]⟩, .int .i64 0])
theorem zero_inO : InOrder ⟨⟨#[]⟩, []⟩ := ⟨fun x hx => by cases hx⟩
theorem zero_fewO : FewO ⟨⟨#[]⟩, []⟩ := ⟨by decide, by decide, fun x hx => by cases hx⟩
theorem spec_encL : SpecX Tryz.prog 14 0 (hpOf []) [evN evtL] (xpost 0 fun r c => r = outL ∧ c = []) := by
 refine spec_W callA_ok mkA_ok mixed (by kernel_rfl) (Eq.mpr (e_encL (fun _ _ _ => True) _) ?_)
 repeat' (first
  | exact rfl
  | refine And.intro ?_ ?_
  | refine ⟨⟨⟨#[]⟩, []⟩, ?_, zero_inO, zero_fewO, ?_⟩
  | refine pIf_same ?_
  | trivial
  | exact AllU8.nil
  | refine AllU8.cons ⟨_, rfl⟩ ?_
  | decide
  | kernel_rfl)
theorem spec_encF : SpecX Tryz.prog 14 0 (hpOf []) [evN evtF] (xpost 0 fun r c => r = outF ∧ c = []) := by
 refine spec_W callA_ok mkA_ok mixed (by kernel_rfl) (Eq.mpr (e_encF (fun _ _ _ => True) _) ?_)
 repeat' (first
  | exact rfl
  | refine And.intro ?_ ?_
  | refine ⟨⟨⟨#[]⟩, []⟩, ?_, zero_inO, zero_fewO, ?_⟩
  | refine pIf_same ?_
  | trivial
  | exact AllU8.nil
  | refine AllU8.cons ⟨_, rfl⟩ ?_
  | decide
  | kernel_rfl)
def kindIs (k : Int) (args : List Value) : Bool := match args with
 | [.agg c] => match c.toList with
  | .int _ n :: _ => decide (n = k)
  | _ => false
 | _ => false
def c_EncA (args : List Value) (conts : List (List Value)) (Post : Out → List (List Value) → Prop) : Prop :=
 match conts with
 | [] => bif kindIs 17 args then args = [evN evtL] ∧ Post outL [] else args = [evN evtF] ∧ Post outF []
 | _ => False
theorem specX_back {P : Program} {f : FuncId} {args : List Value} {o : Out} (h : SpecX P f 0 (hpOf []) args (xpost 0 fun r c => r = o ∧ c = [])) {Post : Out → List (List Value) → Prop} (hP : Post o []) : SpecX P f 0 (hpOf []) args (xpost 0 Post) := by
 intro W ρ w args' h1 h2 h3
 refine (h W ρ w args' h1 h2 h3).mono fun e w' ⟨r, hp', nx', ρ', g1, g2⟩ => ⟨r, hp', nx', ρ', ?_, g2⟩
 unfold xpost at g1 ⊢
 split at g1
 ·obtain ⟨k1, rfl, rfl⟩ := g1
  exact ⟨k1, hP⟩
 ·exact g1.elim
theorem ok_EncA : XEntOk Tryz.prog ⟨14, c_EncA⟩ := by
 intro args conts Post h
 unfold c_EncA at h
 dsimp only at h
 split at h
 case h_2 => exact h.elim
 cases hk : kindIs 17 args with
 | true =>
  rw [hk, cond_true] at h
  obtain ⟨rfl, h⟩ := h
  exact specX_back spec_encL h
 | false =>
  rw [hk, cond_false] at h
  obtain ⟨rfl, h⟩ := h
  exact specX_back spec_encF h
end Go.Proofs.YtegjnjmimfgijaaGreatDoor

noncomputable section
namespace Go.Proofs.YtegjnjmimfgijaaGreatDoor
open Go Go.RowKit
set_option maxRecDepth 100000
def plainK (k : Int) (x : Event) : Event :=
 let y : Event := { evt0 with kind := x.kind, at_ := x.at_ }
 if k = 1 then { y with order := x.order }
 else if k = 2 then { y with sheet := x.sheet }
 else if k = 3 then { y with bar := x.bar }
 else if k = 4 then { y with item := x.item, by_ := x.by_ }
 else if k = 5 then { y with nest := x.nest }
 else if k = 6 then { y with saw := x.saw }
 else if k = 7 ∨ k = 8 ∨ k = 12 ∨ k = 16 then { y with item := x.item }
 else if k = 9 ∨ k = 11 then { y with item := x.item, of_ := x.of_, by_ := x.by_ }
 else if k = 10 then { y with item := x.item, n := x.n, pass := x.pass }
 else if k = 13 then { y with weig := ⟨x.weig.block, 0, x.weig.mass, x.weig.centre, x.weig.sigma, []⟩ }
 else if k = 14 then { y with lift := x.lift }
 else if k = 15 then { y with permit := x.permit }
 else y
def clearK (k : Int) (x : Event) : Event :=
 if k = 1 then { x with order := evt0.order }
 else if k = 2 then { x with sheet := evt0.sheet }
 else if k = 3 then { x with bar := evt0.bar }
 else if k = 4 then { x with item := evt0.item, by_ := evt0.by_ }
 else if k = 5 then { x with nest := evt0.nest }
 else if k = 6 then { x with saw := evt0.saw }
 else if k = 7 ∨ k = 8 ∨ k = 12 ∨ k = 16 then { x with item := evt0.item }
 else if k = 9 ∨ k = 11 then { x with item := evt0.item, of_ := evt0.of_, by_ := evt0.by_ }
 else if k = 10 then { x with item := evt0.item, n := 0, pass := false }
 else if k = 13 then { x with weig := ⟨⟨#[]⟩, x.weig.at_, 0, ⟨0, 0, 0⟩, 0, x.weig.parts⟩ }
 else if k = 14 then { x with lift := evt0.lift }
 else if k = 15 then { x with permit := evt0.permit }
 else x
theorem kinds {k : Int} (h1 : 1 ≤ k) (h2 : k ≤ 18) : k = 1 ∨ k = 2 ∨ k = 3 ∨ k = 4 ∨ k = 5 ∨ k = 6 ∨ k = 7 ∨ k = 8 ∨ k = 9 ∨ k = 10 ∨ k = 11 ∨ k = 12 ∨ k = 13 ∨ k = 14 ∨ k = 15 ∨ k = 16 ∨ k = 17 ∨ k = 18 := by omega
theorem ev_iff {x y : Event} : x = y ↔ x.kind = y.kind ∧ x.at_ = y.at_ ∧ x.item = y.item ∧ x.of_ = y.of_ ∧ x.by_ = y.by_ ∧ x.n = y.n ∧ x.pass = y.pass ∧ x.order = y.order ∧ x.sheet = y.sheet ∧ x.bar = y.bar ∧ x.nest = y.nest ∧ x.saw = y.saw ∧ x.weig = y.weig ∧ x.lift = y.lift ∧ x.permit = y.permit := by
 cases x; cases y; exact Event.mk.injEq .. ▸ Iff.rfl
theorem weig_iff {x y : Weig} : x = y ↔ x.block = y.block ∧ x.at_ = y.at_ ∧ x.mass = y.mass ∧ x.centre = y.centre ∧ x.sigma = y.sigma ∧ x.parts = y.parts := by
 cases x; cases y; exact Weig.mk.injEq .. ▸ Iff.rfl
set_option maxHeartbeats 1000000 in
theorem clear_plain {x : Event} (h1 : 1 ≤ x.kind) (h2 : x.kind ≤ 18) : ({ clearK x.kind x with kind := 0, at_ := 0 } = evt0) ↔ x = plainK x.kind x := by
 have hk := kinds h1 h2
 rcases hk with hk | hk | hk | hk | hk | hk | hk | hk | hk | hk | hk | hk | hk | hk | hk | hk | hk | hk <;>
  (rw [ev_iff, ev_iff]; simp [clearK, plainK, evt0, weig_iff, hk])
def big (s : ByteArray) : Bool := decide (64 < s.size)
def off (n : Int) : Bool := decide (n < -1099511627776) || decide (1099511627776 < n)
def longK (k : Int) (x : Event) : Bool :=
 if k = 1 then decide (32 < x.order.edits.length)
 else if k = 2 then big x.sheet.id || big x.sheet.grade || big x.sheet.heat
 else if k = 3 then big x.bar.id || big x.bar.sect || big x.bar.grade || big x.bar.heat
 else if k = 4 then big x.item || big x.by_
 else if k = 5 then big x.nest.sheet || decide (32 < x.nest.spots.length) || x.nest.spots.any fun s => big s.part
 else if k = 6 then big x.saw.bar || decide (24 < x.saw.parts.length) || x.saw.parts.any big
 else if k = 7 ∨ k = 8 ∨ k = 12 ∨ k = 16 then big x.item
 else if k = 9 ∨ k = 11 then big x.item || big x.of_ || big x.by_
 else if k = 10 then big x.item
 else if k = 13 then big x.weig.block
 else if k = 14 then big x.lift.block || decide (2 < x.lift.hooks.length) || x.lift.hooks.any fun h => big h.crane
 else if k = 15 then big x.permit.id
 else false
def offSpot (s : Spot) : Bool := off s.at_.x || off s.at_.y || off s.turn
def offHook (h : Hook4) : Bool := off h.at_.x || off h.at_.y || off h.radius
def farK (k : Int) (x : Event) : Bool :=
 if k = 1 then false
 else if k = 2 then off x.sheet.thick || off x.sheet.long || off x.sheet.width
 else if k = 3 then off x.bar.long
 else if k = 5 then off x.nest.gap || x.nest.spots.any offSpot
 else if k = 6 then off x.saw.kerf
 else if k = 10 then decide (x.n < 1) || decide (5 < x.n)
 else if k = 13 then off x.weig.mass || off x.weig.centre.x || off x.weig.centre.y || off x.weig.centre.z || off x.weig.sigma
 else if k = 14 then x.lift.hooks.any offHook
 else if k = 15 then off x.permit.kind || off x.permit.time.a || off x.permit.time.b
 else false
end Go.Proofs.YtegjnjmimfgijaaGreatDoor

noncomputable section
namespace Go.Proofs.YtegjnjmimfgijaaGreatDoor
open Go Go.RowKit
set_option maxRecDepth 100000
def fewX (x : Edit) : Prop := x.pack.parts.length ≤ 40 ∧ x.pack.after.length ≤ 40 ∧ x.part.outer.length ≤ 100 ∧ x.part.holes.length ≤ 20 ∧ ∀ h ∈ x.part.holes, h.length ≤ 100
instance (x : Edit) : Decidable (fewX x) := by unfold fewX; infer_instance
def few20 (o : Order2) (m : Int) : Prop := o.id.size ≤ 100 ∧ (o.edits.length : Int) ≤ m ∧ ∀ x ∈ o.edits, fewX x
instance (o : Order2) (m : Int) : Decidable (few20 o m) := by unfold few20; infer_instance
def few59 (x : Event) (m : Int) : Prop := few20 x.order m ∧ (x.nest.spots.length : Int) ≤ m ∧ (x.saw.parts.length : Int) ≤ m ∧ (x.lift.hooks.length : Int) ≤ m ∧ (x.weig.parts.length : Int) ≤ m
instance (x : Event) (m : Int) : Decidable (few59 x m) := by unfold few59; infer_instance
theorem e_few20 (o : Order2) (m : Int) (H : Code → List Fr → AS → Prop) (Post : Value → Prop) : vcP Tryz.prog noCall 19 [(4, [1, 2, 5]), (10, [1, 2, 5, 6, 7])] [order2V o, .int .i64 m] H Post = (T4 (T2 (pIf (decide ((↑(ByteArray.size (Order2.id o)) : Int) > 100)) (T4 (Post (vb false))) (T4 (T2 (pIf (decide ((↑(List.length (Order2.edits o)) : Int) > m)) (T2 (True ∧ Post (vb false))) (T2 (True ∧ (True ∧ True) ∧ H (lpC Tryz.prog 19 4) (lpK Tryz.prog 19 4) (stV [(1, some (vi m)), (2, some (pt 0)), (5, some (vi 0))] [(0, some (AObj.cells [vs (Order2.id o), tree 38 (List.length (Order2.edits o)) (encL (Order2.edits o))] true))] 1))))))))) := by kernel_rfl
theorem l_few20 (o : Order2) (m k : Int) (H : Code → List Fr → AS → Prop) (Post : Value → Prop) : vcLP Tryz.prog noCall 19 [order2V o, .int .i64 m] [(4, [1, 2, 5]), (10, [1, 2, 5, 6, 7])] 4 (stV [(1, some (.int .i64 m)), (2, some (.pointer (some ⟨0, 0, none⟩))), (5, some (.int .i64 k))] [(0, some (.cells (order2C o) true))] 1) H Post = (T4 (True ∧ pIf (decide (k < (↑(List.length (Order2.edits o)) : Int))) (T2 (True ∧ (0 ≤ k ∧ k < (↑(List.length (Order2.edits o)) : Int)) ∧ (cellAt (encL (Order2.edits o)) (Int.toNat k) 0 = vi (toI (cellAt (encL (Order2.edits o)) (Int.toNat k) 0)) ∧ cellAt (encL (Order2.edits o)) (Int.toNat k) 1 = vs (toS (cellAt (encL (Order2.edits o)) (Int.toNat k) 1)) ∧ cellAt (encL (Order2.edits o)) (Int.toNat k) 2 = vs (toS (cellAt (encL (Order2.edits o)) (Int.toNat k) 2)) ∧ cellAt (encL (Order2.edits o)) (Int.toNat k) 3 = vs (toS (cellAt (encL (Order2.edits o)) (Int.toNat k) 3)) ∧ cellAt (encL (Order2.edits o)) (Int.toNat k) 4 = vi (toI (cellAt (encL (Order2.edits o)) (Int.toNat k) 4)) ∧ cellAt (encL (Order2.edits o)) (Int.toNat k) 5 = vs (toS (cellAt (encL (Order2.edits o)) (Int.toNat k) 5)) ∧ cellAt (encL (Order2.edits o)) (Int.toNat k) 6 = vs (toS (cellAt (encL (Order2.edits o)) (Int.toNat k) 6)) ∧ cellAt (encL (Order2.edits o)) (Int.toNat k) 7 = vi (toI (cellAt (encL (Order2.edits o)) (Int.toNat k) 7)) ∧ cellAt (encL (Order2.edits o)) (Int.toNat k) 8 = vi (toI (cellAt (encL (Order2.edits o)) (Int.toNat k) 8)) ∧ cellAt (encL (Order2.edits o)) (Int.toNat k) 9 = vs (toS (cellAt (encL (Order2.edits o)) (Int.toNat k) 9)) ∧ cellAt (encL (Order2.edits o)) (Int.toNat k) 10 = vs (toS (cellAt (encL (Order2.edits o)) (Int.toNat k) 10)) ∧ cellAt (encL (Order2.edits o)) (Int.toNat k) 11 = vi (toI (cellAt (encL (Order2.edits o)) (Int.toNat k) 11)) ∧ cellAt (encL (Order2.edits o)) (Int.toNat k) 12 = tree 2 (toN (cellAt (encL (Order2.edits o)) (Int.toNat k) 12)) (toE (cellAt (encL (Order2.edits o)) (Int.toNat k) 12)) ∧ cellAt (encL (Order2.edits o)) (Int.toNat k) 13 = tree 1 (toN (cellAt (encL (Order2.edits o)) (Int.toNat k) 13)) (toE (cellAt (encL (Order2.edits o)) (Int.toNat k) 13)) ∧ cellAt (encL (Order2.edits o)) (Int.toNat k) 14 = vs (toS (cellAt (encL (Order2.edits o)) (Int.toNat k) 14)) ∧ cellAt (encL (Order2.edits o)) (Int.toNat k) 15 = vi (toI (cellAt (encL (Order2.edits o)) (Int.toNat k) 15)) ∧ cellAt (encL (Order2.edits o)) (Int.toNat k) 16 = vi (toI (cellAt (encL (Order2.edits o)) (Int.toNat k) 16)) ∧ cellAt (encL (Order2.edits o)) (Int.toNat k) 17 = vi (toI (cellAt (encL (Order2.edits o)) (Int.toNat k) 17)) ∧ cellAt (encL (Order2.edits o)) (Int.toNat k) 18 = vi (toI (cellAt (encL (Order2.edits o)) (Int.toNat k) 18)) ∧ cellAt (encL (Order2.edits o)) (Int.toNat k) 19 = vi (toI (cellAt (encL (Order2.edits o)) (Int.toNat k) 19)) ∧ cellAt (encL (Order2.edits o)) (Int.toNat k) 20 = vi (toI (cellAt (encL (Order2.edits o)) (Int.toNat k) 20)) ∧ cellAt (encL (Order2.edits o)) (Int.toNat k) 21 = vi (toI (cellAt (encL (Order2.edits o)) (Int.toNat k) 21)) ∧ cellAt (encL (Order2.edits o)) (Int.toNat k) 22 = vi (toI (cellAt (encL (Order2.edits o)) (Int.toNat k) 22)) ∧ cellAt (encL (Order2.edits o)) (Int.toNat k) 23 = vi (toI (cellAt (encL (Order2.edits o)) (Int.toNat k) 23)) ∧ cellAt (encL (Order2.edits o)) (Int.toNat k) 24 = vs (toS (cellAt (encL (Order2.edits o)) (Int.toNat k) 24)) ∧ cellAt (encL (Order2.edits o)) (Int.toNat k) 25 = vs (toS (cellAt (encL (Order2.edits o)) (Int.toNat k) 25)) ∧ cellAt (encL (Order2.edits o)) (Int.toNat k) 26 = vs (toS (cellAt (encL (Order2.edits o)) (Int.toNat k) 26)) ∧ cellAt (encL (Order2.edits o)) (Int.toNat k) 27 = vi (toI (cellAt (encL (Order2.edits o)) (Int.toNat k) 27)) ∧ cellAt (encL (Order2.edits o)) (Int.toNat k) 28 = vi (toI (cellAt (encL (Order2.edits o)) (Int.toNat k) 28)) ∧ cellAt (encL (Order2.edits o)) (Int.toNat k) 29 = vi (toI (cellAt (encL (Order2.edits o)) (Int.toNat k) 29)) ∧ cellAt (encL (Order2.edits o)) (Int.toNat k) 30 = vs (toS (cellAt (encL (Order2.edits o)) (Int.toNat k) 30)) ∧ cellAt (encL (Order2.edits o)) (Int.toNat k) 31 = vs (toS (cellAt (encL (Order2.edits o)) (Int.toNat k) 31)) ∧ cellAt (encL (Order2.edits o)) (Int.toNat k) 32 = tree 1 (toN (cellAt (encL (Order2.edits o)) (Int.toNat k) 32)) (toE (cellAt (encL (Order2.edits o)) (Int.toNat k) 32)) ∧ cellAt (encL (Order2.edits o)) (Int.toNat k) 33 = vi (toI (cellAt (encL (Order2.edits o)) (Int.toNat k) 33)) ∧ cellAt (encL (Order2.edits o)) (Int.toNat k) 34 = tree 1 (toN (cellAt (encL (Order2.edits o)) (Int.toNat k) 34)) (toE (cellAt (encL (Order2.edits o)) (Int.toNat k) 34)) ∧ cellAt (encL (Order2.edits o)) (Int.toNat k) 35 = vi (toI (cellAt (encL (Order2.edits o)) (Int.toNat k) 35)) ∧ cellAt (encL (Order2.edits o)) (Int.toNat k) 36 = vs (toS (cellAt (encL (Order2.edits o)) (Int.toNat k) 36)) ∧ cellAt (encL (Order2.edits o)) (Int.toNat k) 37 = vs (toS (cellAt (encL (Order2.edits o)) (Int.toNat k) 37)) ∧ True) ∧ True ∧ 38 ≤ 38 ∧ T4 (True ∧ pIf (decide ((↑(toN (cellAt (encL (Order2.edits o)) (Int.toNat k) 32)) : Int) > 40)) (T8 (Post (vb false))) (T4 (T2 (pIf (decide ((↑(toN (cellAt (encL (Order2.edits o)) (Int.toNat k) 34)) : Int) > 40)) (T4 (T2 (True ∧ Post (vb false)))) (T8 (pIf (decide ((↑(toN (cellAt (encL (Order2.edits o)) (Int.toNat k) 12)) : Int) > 100)) (T4 (True ∧ Post (vb false))) (T8 (pIf (decide ((↑(toN (cellAt (encL (Order2.edits o)) (Int.toNat k) 13)) : Int) > 20)) (T2 (True ∧ Post (vb false))) (T2 (True ∧ (T2 (True)) ∧ H (lpC Tryz.prog 19 10) (lpK Tryz.prog 19 10) (stV [(1, some (vi m)), (2, some (pt 0)), (5, some (vi k)), (6, some (pt 1)), (7, some (vi 0))] [(0, some (AObj.cells [vs (Order2.id o), tree 38 (List.length (Order2.edits o)) (encL (Order2.edits o))] true)), (1, some (AObj.cells [vi (toI (cellAt (encL (Order2.edits o)) (Int.toNat k) 0)), vs (toS (cellAt (encL (Order2.edits o)) (Int.toNat k) 1)), vs (toS (cellAt (encL (Order2.edits o)) (Int.toNat k) 2)), vs (toS (cellAt (encL (Order2.edits o)) (Int.toNat k) 3)), vi (toI (cellAt (encL (Order2.edits o)) (Int.toNat k) 4)), vs (toS (cellAt (encL (Order2.edits o)) (Int.toNat k) 5)), vs (toS (cellAt (encL (Order2.edits o)) (Int.toNat k) 6)), vi (toI (cellAt (encL (Order2.edits o)) (Int.toNat k) 7)), vi (toI (cellAt (encL (Order2.edits o)) (Int.toNat k) 8)), vs (toS (cellAt (encL (Order2.edits o)) (Int.toNat k) 9)), vs (toS (cellAt (encL (Order2.edits o)) (Int.toNat k) 10)), vi (toI (cellAt (encL (Order2.edits o)) (Int.toNat k) 11)), tree 2 (toN (cellAt (encL (Order2.edits o)) (Int.toNat k) 12)) (toE (cellAt (encL (Order2.edits o)) (Int.toNat k) 12)), tree 1 (toN (cellAt (encL (Order2.edits o)) (Int.toNat k) 13)) (toE (cellAt (encL (Order2.edits o)) (Int.toNat k) 13)), vs (toS (cellAt (encL (Order2.edits o)) (Int.toNat k) 14)), vi (toI (cellAt (encL (Order2.edits o)) (Int.toNat k) 15)), vi (toI (cellAt (encL (Order2.edits o)) (Int.toNat k) 16)), vi (toI (cellAt (encL (Order2.edits o)) (Int.toNat k) 17)), vi (toI (cellAt (encL (Order2.edits o)) (Int.toNat k) 18)), vi (toI (cellAt (encL (Order2.edits o)) (Int.toNat k) 19)), vi (toI (cellAt (encL (Order2.edits o)) (Int.toNat k) 20)), vi (toI (cellAt (encL (Order2.edits o)) (Int.toNat k) 21)), vi (toI (cellAt (encL (Order2.edits o)) (Int.toNat k) 22)), vi (toI (cellAt (encL (Order2.edits o)) (Int.toNat k) 23)), vs (toS (cellAt (encL (Order2.edits o)) (Int.toNat k) 24)), vs (toS (cellAt (encL (Order2.edits o)) (Int.toNat k) 25)), vs (toS (cellAt (encL (Order2.edits o)) (Int.toNat k) 26)), vi (toI (cellAt (encL (Order2.edits o)) (Int.toNat k) 27)), vi (toI (cellAt (encL (Order2.edits o)) (Int.toNat k) 28)), vi (toI (cellAt (encL (Order2.edits o)) (Int.toNat k) 29)), vs (toS (cellAt (encL (Order2.edits o)) (Int.toNat k) 30)), vs (toS (cellAt (encL (Order2.edits o)) (Int.toNat k) 31)), tree 1 (toN (cellAt (encL (Order2.edits o)) (Int.toNat k) 32)) (toE (cellAt (encL (Order2.edits o)) (Int.toNat k) 32)), vi (toI (cellAt (encL (Order2.edits o)) (Int.toNat k) 33)), tree 1 (toN (cellAt (encL (Order2.edits o)) (Int.toNat k) 34)) (toE (cellAt (encL (Order2.edits o)) (Int.toNat k) 34)), vi (toI (cellAt (encL (Order2.edits o)) (Int.toNat k) 35)), vs (toS (cellAt (encL (Order2.edits o)) (Int.toNat k) 36)), vs (toS (cellAt (encL (Order2.edits o)) (Int.toNat k) 37))] true))] 2))))))))))))) (T2 (Post (vb true))))) := by kernel_rfl
theorem l_few20i (o : Order2) (m k i : Int) (x : Edit) (H : Code → List Fr → AS → Prop) (Post : Value → Prop) : vcLP Tryz.prog noCall 19 [order2V o, .int .i64 m] [(4, [1, 2, 5]), (10, [1, 2, 5, 6, 7])] 10 (stV [(1, some (.int .i64 m)), (2, some (.pointer (some ⟨0, 0, none⟩))), (5, some (.int .i64 k)), (6, some (.pointer (some ⟨1, 0, none⟩))), (7, some (.int .i64 i))] [(0, some (.cells (order2C o) true)), (1, some (.cells (editC x) true))] 2) H Post = (T4 (T2 (True ∧ pIf (decide (i < (↑(List.length (Part.holes (Edit.part x))) : Int))) (T4 (True ∧ (0 ≤ i ∧ i < (↑(List.length (Part.holes (Edit.part x))) : Int)) ∧ cellAt (encL (Part.holes (Edit.part x))) (Int.toNat i) 0 = tree 2 (toN (cellAt (encL (Part.holes (Edit.part x))) (Int.toNat i) 0)) (toE (cellAt (encL (Part.holes (Edit.part x))) (Int.toNat i) 0)) ∧ T2 (pIf (decide ((↑(toN (cellAt (encL (Part.holes (Edit.part x))) (Int.toNat i) 0)) : Int) > 100)) (T2 (Post (vb false))) (T4 ((T2 (True)) ∧ H (lpC Tryz.prog 19 10) (lpK Tryz.prog 19 10) (stV [(1, some (vi m)), (2, some (pt 0)), (5, some (vi k)), (6, some (pt 1)), (7, some (vi (IntKind.wrap IntKind.i64 (i + 1))))] [(0, some (AObj.cells [vs (Order2.id o), tree 38 (List.length (Order2.edits o)) (encL (Order2.edits o))] true)), (1, some (AObj.cells [vi (Edit.kind x), vs (Edit.id x), vs (Edit.to x), vs (Node3.id (Edit.node x)), vi (Node3.kind (Edit.node x)), vs (Node3.parent (Edit.node x)), vs (Part.id (Edit.part x)), vi (Part.rev (Edit.part x)), vi (Part.kind (Edit.part x)), vs (Part.node (Edit.part x)), vs (Part.grade (Edit.part x)), vi (Part.thick (Edit.part x)), tree 2 (List.length (Part.outer (Edit.part x))) (encL (Part.outer (Edit.part x))), tree 1 (List.length (Part.holes (Edit.part x))) (encL (Part.holes (Edit.part x))), vs (Part.sect (Edit.part x)), vi (Part.long (Edit.part x)), vi (Part.mass (Edit.part x)), vi (Vec3.x (Part.centre (Edit.part x))), vi (Vec3.y (Part.centre (Edit.part x))), vi (Vec3.z (Part.centre (Edit.part x))), vi (Vec3.x (Part.at_ (Edit.part x))), vi (Vec3.y (Part.at_ (Edit.part x))), vi (Vec3.z (Part.at_ (Edit.part x))), vi (Part.turn (Edit.part x)), vs (Seam6.id (Edit.seam x)), vs (Seam6.a (Edit.seam x)), vs (Seam6.b (Edit.seam x)), vi (Seam6.kind (Edit.seam x)), vi (Seam6.long (Edit.seam x)), vi (Seam6.cls (Edit.seam x)), vs (Pack5.id (Edit.pack x)), vs (Pack5.block (Edit.pack x)), tree 1 (List.length (Pack5.parts (Edit.pack x))) (encL (Pack5.parts (Edit.pack x))), vi (Pack5.hours (Edit.pack x)), tree 1 (List.length (Pack5.after (Edit.pack x))) (encL (Pack5.after (Edit.pack x))), vi (Need3.kind (Edit.need x)), vs (Need3.block (Edit.need x)), vs (Need3.on (Edit.need x))] true))] 2)))))) (T4 ((True ∧ True) ∧ H (lpC Tryz.prog 19 4) (lpK Tryz.prog 19 4) (stV [(1, some (vi m)), (2, some (pt 0)), (5, some (vi (IntKind.wrap IntKind.i64 (k + 1))))] [(0, some (AObj.cells [vs (Order2.id o), tree 38 (List.length (Order2.edits o)) (encL (Order2.edits o))] true))] 1)))))) := by kernel_rfl
theorem all_down {α : Type} {l : List α} {P : α → Prop} {G : Nat → Prop} (hend : (∀ a ∈ l, P a) → G l.length) (h : ∀ (k : Nat) (h1 : k < l.length), (P l[k] → G (k + 1)) → G k) : G 0 := by
 refine down (n := l.length) (p := fun k => (∀ (i : Nat) (hi : i < l.length), i < k → P l[i]) → G k) (fun hall => hend fun a ha => ?_) (fun k h1 ih hall => h k h1 fun hp => ih fun i hi hik => ?_) (fun i hi h0 => by omega)
 ·obtain ⟨i, hi, rfl⟩ := List.mem_iff_getElem.1 ha
  exact hall i hi hi
 ·rcases Nat.lt_or_ge i k with h' | h'
  ·exact hall i hi h'
  ·have : i = k := by omega
   subst this
   exact hp
def c_Few20 (args : List Value) (Post : Value → Prop) : Prop := ∃ (o : Order2) (m : Int), args = [order2V o, .int .i64 m] ∧ m ≤ 1000 ∧ Post (.bool (decide (few20 o m)))
theorem ok_few20 : EntOk Tryz.prog ⟨19, c_Few20⟩ := by
 rintro args Post ⟨o, m, rfl, hm, hP⟩
 refine pure_P (vc := noCall) noCall_ok mixed (by kernel_rfl) (by kernel_rfl) _ (e_few20 o m _ _) ?_
 simp only [true_and, pIf_iff, decide_eq_false_iff_not, decide_eq_true_eq]
 have no : ¬ few20 o m → Post (.bool false) := fun hn => of_b hP (decide_eq_false hn)
 refine ⟨fun h => no fun f => ?_, fun h1 => ⟨fun h => no fun f => ?_, fun h2 => ?_⟩⟩
 ·have := f.1; omega
 ·have := f.2.1; omega
 refine all_down (l := o.edits) (P := fewX) (G := fun k => OkP 19 [order2V o, .int .i64 m] 4 Post (stV [(1, some (.int .i64 m)), (2, some (.pointer (some ⟨0, 0, none⟩))), (5, some (.int .i64 k))] [(0, some (.cells (order2C o) true))] 1)) (fun hall => ?_) (fun k hk ih => ?_)
 ·refine ok_P (vc := noCall) noCall_ok mixed _ (l_few20 o m _ _ _) ?_
  simp only [true_and, and_true, pIf_iff, decide_eq_true_eq, decide_eq_false_iff_not]
  exact ⟨fun h' => by omega, fun _ => of_b hP (decide_eq_true ⟨by omega, by omega, hall⟩)⟩
 ·have bad : ¬ fewX o.edits[k] → Post (.bool false) := fun hn => no fun f => hn (f.2.2 _ (List.getElem_mem hk))
  refine ok_P (vc := noCall) noCall_ok mixed _ (l_few20 o m _ _ _) ?_
  simp only [true_and, and_true, pIf_iff, decide_eq_true_eq, decide_eq_false_iff_not, Int.toNat_natCast, cell_edit hk, editC, List.getElem?_cons_succ, List.getElem?_cons_zero, Option.getD_some, toI, toS, toB, toN_tree, toE_tree]
  refine ⟨fun _ => ⟨by omega, by decide, fun h => bad fun f => ?_, fun g1 => ⟨fun h => bad fun f => ?_, fun g2 => ⟨fun h => bad fun f => ?_, fun g3 => ⟨fun h => bad fun f => ?_, fun g4 => ?_⟩⟩⟩⟩, fun h' => by omega⟩
  ·have := f.1; omega
  ·have := f.2.1; omega
  ·have := f.2.2.1; omega
  ·have := f.2.2.2.1; omega
  refine all_down (l := o.edits[k].part.holes) (P := fun h => h.length ≤ 100) (G := fun i => OkP 19 [order2V o, .int .i64 m] 10 Post (stV [(1, some (.int .i64 m)), (2, some (.pointer (some ⟨0, 0, none⟩))), (5, some (.int .i64 k)), (6, some (.pointer (some ⟨1, 0, none⟩))), (7, some (.int .i64 i))] [(0, some (.cells (order2C o) true)), (1, some (.cells (editC o.edits[k]) true))] 2)) (fun hall => ?_) (fun i hi ihi => ?_)
  ·refine ok_P (vc := noCall) noCall_ok mixed _ (l_few20i o m _ _ _ _ _) ?_
   simp only [true_and, and_true, pIf_iff, decide_eq_true_eq, decide_eq_false_iff_not]
   refine ⟨fun h' => by omega, fun _ => ?_⟩
   rw [wrapSucc (by omega)]
   exact ih ⟨by omega, by omega, by omega, by omega, hall⟩
  ·refine ok_P (vc := noCall) noCall_ok mixed _ (l_few20i o m _ _ _ _ _) ?_
   simp only [true_and, and_true, pIf_iff, decide_eq_true_eq, decide_eq_false_iff_not, Int.toNat_natCast, cell_pts hi, toN_tree, toE_tree]
   refine ⟨fun _ => ⟨by omega, fun h => bad fun f => ?_, fun h => ?_⟩, fun h' => by omega⟩
   ·have := f.2.2.2.2 _ (List.getElem_mem hi); omega
   ·rw [wrapSucc (by omega)]
    exact ihi (by omega)
def tabF20 : List Ent := [⟨19, c_Few20⟩]
theorem tabF20_ok : VCallOk Tryz.prog (tabCall tabF20 noCall) := tabCall_ok (by
 intro e he
 simp only [tabF20, List.mem_cons, List.not_mem_nil, or_false] at he
 subst he
 exact ok_few20) noCall_ok
theorem e_few59 (x : Event) (m : Int) (H : Code → List Fr → AS → Prop) (Post : Value → Prop) : vcP Tryz.prog (tabCall tabF20 noCall) 8 [] [eventV x, .int .i64 m] H Post = (T4 (True ∧ ∃ (o : Order2), ∃ (m_1 : Int), eqL [Value.agg #[vs (Order2.id (Event.order x)), tree 38 (List.length (Order2.edits (Event.order x))) (encL (Order2.edits (Event.order x)))], vi m] [order2V o, vi m_1] ∧ m_1 ≤ 1000 ∧ pIf (decide (few20 o m_1)) (T4 (T2 (True ∧ pIf (decide ((↑(List.length (Nest3.spots (Event.nest x))) : Int) ≤ m)) (T8 (pIf (decide ((↑(List.length (Saw3.parts (Event.saw x))) : Int) ≤ m)) (T8 (pIf (decide ((↑(List.length (Lift2.hooks (Event.lift x))) : Int) ≤ m)) (T8 (pIf (decide ((↑(List.length (Weig.parts (Event.weig x))) : Int) ≤ m)) (T2 (True ∧ Post (vb true))) (T2 (True ∧ Post (vb false))))) (T4 (True ∧ Post (vb false))))) (T4 (T2 (True ∧ Post (vb false)))))) (T8 (True ∧ Post (vb false)))))) (T8 (T2 (Post (vb false)))))) := by kernel_rfl
def c_Few59 (args : List Value) (Post : Value → Prop) : Prop := ∃ (x : Event) (m : Int), args = [eventV x, .int .i64 m] ∧ m ≤ 1000 ∧ Post (.bool (decide (few59 x m)))
theorem ok_few59 : EntOk Tryz.prog ⟨8, c_Few59⟩ := by
 rintro args Post ⟨x, m, rfl, hm, hP⟩
 refine pure_P (vc := tabCall tabF20 noCall) tabF20_ok mixed (by kernel_rfl) (by kernel_rfl) _ (e_few59 x m _ _) ?_
 simp only [true_and, and_true, pIf_iff, decide_eq_false_iff_not, decide_eq_true_eq]
 have no : ¬ few59 x m → Post (.bool false) := fun hn => of_b hP (decide_eq_false hn)
 refine ⟨x.order, m, rfl, hm, fun h1 => ⟨fun h2 => ⟨fun h3 => ⟨fun h4 => ⟨fun h5 => of_b hP (decide_eq_true ⟨h1, h2, h3, h4, h5⟩), fun h => no fun f => h f.2.2.2.2⟩, fun h => no fun f => h f.2.2.2.1⟩, fun h => no fun f => h f.2.2.1⟩, fun h => no fun f => h f.2.1⟩, fun h => no fun f => h f.1⟩
end Go.Proofs.YtegjnjmimfgijaaGreatDoor

noncomputable section
namespace Go.Proofs.YtegjnjmimfgijaaGreatDoor
open Go Go.RowKit Go.ChangeShapes Go.WideShapes Go.ChangeAt Go.Deep Go.Joins
class Vol (α : Type) where
 vol : α → Nat
 pos : ∀ a, 1 ≤ vol a
instance : Vol Int := ⟨fun _ => 1, fun _ => Nat.le_refl _⟩
instance : Vol Bool := ⟨fun _ => 1, fun _ => Nat.le_refl _⟩
instance : Vol ByteArray := ⟨fun s => 1 + s.size, fun s => Nat.le_add_right _ _⟩
instance {α : Type} [Vol α] : Vol (List α) := ⟨fun l => 1 + (l.map Vol.vol).sum, fun s => Nat.le_add_right _ _⟩
instance {α β : Type} [Vol α] [Vol β] : Vol (α × β) := ⟨fun p => 1 + (Vol.vol p.1 + (Vol.vol p.2 + 0)), fun s => Nat.le_add_right _ _⟩
theorem bulk_pos {H : Type} (d : DataW H) : 1 ≤ Rows.uptoBulk d := by
 cases d with
 | lit l => cases l <;> simp [Rows.uptoBulk]
 | nil => simp [Rows.uptoBulk]
 | ptr d => simp [Rows.uptoBulk]
 | slice elems spare => simp [Rows.uptoBulk]
 | agg parts => simp [Rows.uptoBulk]
 | iface t d => simp [Rows.uptoBulk]
 | map entries => simp [Rows.uptoBulk]
 | held h => simp [Rows.uptoBulk]
theorem bulk_append {H : Type} (l r : List (DataW H)) : Rows.uptoBulkAll (l ++ r) = Rows.uptoBulkAll l + Rows.uptoBulkAll r := by
 induction l with
 | nil => simp [Rows.uptoBulkAll]
 | cons x l ih => simp only [List.cons_append, Rows.uptoBulkAll, ih]; omega
def BK {H : Type} (xs : List (DataW H × List MemPlace)) (k s : Nat) : Prop := s ≤ Rows.uptoBulkAll ((xs.drop k).map (·.1))
def BK1 {H : Type} (xs : List (DataW H × List MemPlace)) (k v : Nat) : Prop := ∃ y, xs[k]? = some y ∧ v ≤ Rows.uptoBulk y.1
theorem BK1.next {H : Type} {xs : List (DataW H × List MemPlace)} {k v s : Nat} (h : BK1 xs k v) (r : BK xs (k + 1) s) : BK xs k (v + s) := by
 obtain ⟨y, h1, h2⟩ := h
 unfold BK at r ⊢
 have hk : k < xs.length := by
  rcases Nat.lt_or_ge k xs.length with h | h
  ·exact h
  ·rw [List.getElem?_eq_none h] at h1; cases h1
 rw [List.drop_eq_getElem_cons hk, List.map_cons]
 rw [List.getElem?_eq_getElem hk] at h1
 cases h1
 simp only [Rows.uptoBulkAll]
 omega
theorem BK.done {H : Type} {xs : List (DataW H × List MemPlace)} {k : Nat} : BK xs k 0 := Nat.zero_le _
theorem BK.agg {H : Type} {xs : List (DataW H × List MemPlace)} {s : Nat} (h : BK xs 0 s) : 1 + s ≤ Rows.uptoBulk (.agg (xs.map (·.1))) := by
 unfold BK at h
 simp only [List.drop_zero] at h
 simp only [Rows.uptoBulk]
 omega
def OpensB (P : Program) (w : World) (t : TypeId) (α : Type) [Enc α] [Vol α] (Ok : α → Prop) : Prop :=
 ∀ (H : Type) (enc : TypeId × Value → H) (base : Nat) (spare : Nat → Bool) (held : Bool) (fuel : Nat) (cs : List Value) (x : DataW H × List MemPlace), DataW.trod enc P w base spare held fuel t cs = some x → ∃ a : α, Ok a ∧ Vol.vol a ≤ Rows.uptoBulk x.1 ∧ VRC (frW w) (Enc.cells a) cs
section
variable {P : Program} {w : World}
theorem opensB_int {t : TypeId} (ht : P.underlying t = some (.int .i64)) : OpensB P w t Int In64 := fun H enc base spare held fuel cs x h => by
 obtain ⟨n, rfl, rfl, hw⟩ := DataW.trod_int ht h
 simp [Lit.wf, IntKind.min, IntKind.max, IntKind.signed, IntKind.bits] at hw
 exact ⟨n, ⟨by omega, by omega⟩, bulk_pos _, .one (.int _ _)⟩
theorem opensB_string {t : TypeId} (ht : P.underlying t = some .string) : OpensB P w t ByteArray fun s => s.size ≤ maxLen := fun H enc base spare held fuel cs x h => by
 obtain ⟨s, rfl, rfl, hs⟩ := DataW.trod_string ht h
 refine ⟨s, hs, ?_, .one (.string _)⟩
 show 1 + s.size ≤ _
 have e : s.data.toList.length = s.size := by rw [Array.length_toList]; rfl
 simp only [Rows.uptoBulk, e]
 omega
theorem opensB_bool {t : TypeId} (ht : P.underlying t = some .bool) : OpensB P w t Bool fun _ => True := fun H enc base spare held fuel cs x h => by
 obtain ⟨b, rfl, rfl⟩ := DataW.trod_bool ht h
 exact ⟨b, trivial, bulk_pos _, .one (.bool _)⟩
theorem tree_open {α : Type} [Enc α] (hz : 0 < Enc.sz α) {a : Addr} {len cap : Nat} {l : List α} (hlen : l.length = len) (hl : len ≤ cap) (h0 : 0 < len)
  (hcl : ∀ (i : Nat) (b : α), l[i]? = some b → ∀ (j : Nat) (v : Value), (Enc.cells b)[j]? = some v → ∃ v', w.cell? ((a.add (i * Enc.sz α)).add j) = some v' ∧ VR0 (frW w) v v') :
  VR0 (frW w) (tree (Enc.sz α) l.length (encL l)) (.slice (some a) len cap) := by
 have cell : ∀ (i j : Nat), i < len → j < Enc.sz α → ∃ v v', (∃ b, l[i]? = some b ∧ (Enc.cells b)[j]? = some v) ∧ w.cell? (a.add (i * Enc.sz α + j)) = some v' ∧ VR0 (frW w) v v' := fun i j hi hj => by
  have hb : l[i]? = some (l[i]'(by omega)) := List.getElem?_eq_getElem (by omega)
  have hv : (Enc.cells (l[i]'(by omega)))[j]? = some ((Enc.cells (l[i]'(by omega)))[j]'(by rw [Enc.len]; exact hj)) := List.getElem?_eq_getElem _
  obtain ⟨v', h1, h2⟩ := hcl i _ hb j _ hv
  rw [Go.Deep.add_add] at h1
  exact ⟨_, v', ⟨_, hb, hv⟩, h1, h2⟩
 obtain ⟨_, v0, _, hv0, _⟩ := cell 0 0 h0 hz
 obtain ⟨cs, ct, fz, hheap, _, hsp⟩ := cell_at hv0
 have hsp := hsp (by omega)
 have at_ : ∀ i j, i < len → j < Enc.sz α → ∃ v v', (∃ b, l[i]? = some b ∧ (Enc.cells b)[j]? = some v) ∧ cs[a.off + (i * Enc.sz α + j)]? = some v' ∧ VR0 (frW w) v v' := fun i j hi hj => by
  obtain ⟨v, v', h1, h2, h3⟩ := cell i j hi hj
  obtain ⟨cs', ct', fz', g1, g2, _⟩ := cell_at h2
  rw [hheap] at g1
  cases g1
  exact ⟨v, v', h1, g2, h3⟩
 obtain ⟨blk, off, spot⟩ := a
 simp only at hsp
 subst hsp
 have hsz : off + len * Enc.sz α ≤ cs.size := by
  obtain ⟨_, v', _, h2, _⟩ := at_ (len - 1) (Enc.sz α - 1) (by omega) (by omega)
  have hlt : off + ((len - 1) * Enc.sz α + (Enc.sz α - 1)) < cs.size := (Array.getElem?_eq_some_iff.1 h2).1
  have : len * Enc.sz α = (len - 1) * Enc.sz α + Enc.sz α := by
   obtain ⟨k, rfl⟩ : ∃ k, len = k + 1 := ⟨len - 1, by omega⟩
   rw [Nat.succ_mul]
   simp
  omega
 have hget : ∀ (i : Nat) (u : Value), (encL l)[i]? = some u → ∃ b, l[i]? = some b ∧ u = elt (Enc.cells b) := fun i u hu => by
  unfold encL at hu
  simp only [List.getElem?_toArray, List.getElem?_map, Option.map_eq_some_iff] at hu
  obtain ⟨b, h1, h2⟩ := hu
  exact ⟨b, h1, h2.symm⟩
 rw [hlen]
 refine VR0.tree (c := blk) (o := off) (cs := cs) (t := ct) (fz := fz) hheap (by simp [encL, hlen]) hl hsz (fun i u hu => ?_) (fun i j u v v' hu hv hv' => ?_)
 ·obtain ⟨b, _, rfl⟩ := hget i u hu
  simp [elt_cells (Enc.nl b), Enc.len]
 ·obtain ⟨b, hb, rfl⟩ := hget i u hu
  have hv2 : (Enc.cells b)[j]? = some v := by simpa [elt_cells (Enc.nl b)] using hv
  have hil : i < len := by
   rcases Nat.lt_or_ge i len with h' | h'
   ·exact h'
   ·rw [List.getElem?_eq_none (by omega)] at hb; cases hb
  have hjl : j < Enc.sz α := by
   rw [← Enc.len b]
   rcases Nat.lt_or_ge j (Enc.cells b).length with h' | h'
   ·exact h'
   ·rw [List.getElem?_eq_none h'] at hv2; cases hv2
  obtain ⟨v1, v1', ⟨b1, e1, e2⟩, e3, e4⟩ := at_ i j hil hjl
  rw [hb] at e1
  cases e1
  rw [hv2] at e2
  cases e2
  rw [show off + i * Enc.sz α + j = off + (i * Enc.sz α + j) by omega] at hv'
  have : v1' = v' := by
   have e3' : cs[off + (i * Enc.sz α + j)]? = some v1' := e3
   rw [hv'] at e3'
   cases e3'
   rfl
  subst this
  exact e4
theorem opensB_slice {t e : TypeId} {α : Type} [Enc α] [Vol α] {Ok : α → Prop} (ht : P.underlying t = some (.slice e)) (he : OpensB P w e α Ok) (hc : P.cellsOf e = Enc.sz α) (hz : 0 < Enc.sz α) :
  OpensB P w t (List α) fun l => l.length ≤ maxLen ∧ ∀ a ∈ l, Ok a := fun H enc base spare held fuel cs x h => by
 rcases open_slice ht h with ⟨rfl, rfl⟩ | ⟨a, len, cap, m, n, D, Pl, rfl, _, hl, hm, hmm, rfl, hi⟩
 ·exact ⟨[], ⟨Nat.zero_le _, fun a ha => by cases ha⟩, bulk_pos _, .one (.treeNil _ _ _)⟩
 rw [hc] at hi
 have hlm : len ≤ m := by rw [hmm]; split <;> omega
 have key : ∀ i, i < len → ∃ b : α, Ok b ∧ Vol.vol b ≤ Rows.uptoBulk (D i) ∧ ∀ (j : Nat) (v : Value), (Enc.cells b)[j]? = some v → ∃ v', w.cell? ((a.add (i * Enc.sz α)).add j) = some v' ∧ VR0 (frW w) v v' := by
  intro i hil
  obtain ⟨cs', h1, h2⟩ := hi i (by omega)
  obtain ⟨_, h3, h4⟩ := World.cells?_some h1
  obtain ⟨b, hb, hbv, hv⟩ := he H enc _ _ _ _ _ _ h2
  refine ⟨b, hb, hbv, fun j v hj => ?_⟩
  have hjl : j < Enc.sz α := by
   rw [← Enc.len b]
   rcases Nat.lt_or_ge j (Enc.cells b).length with h' | h'
   ·exact h'
   ·rw [List.getElem?_eq_none h'] at hj; cases hj
  have hj' : cs'[j]? = some (cs'[j]'(by omega)) := List.getElem?_eq_getElem (by omega)
  exact ⟨_, (h4 j hjl).trans hj', hv.2 j v _ hj hj'⟩
 have build : ∀ k, k ≤ len → ∃ l : List α, l.length = k ∧ (∀ b ∈ l, Ok b) ∧ (l.map Vol.vol).sum ≤ Rows.uptoBulkAll ((List.range k).map D) ∧ ∀ (i : Nat) (b : α), l[i]? = some b → ∀ (j : Nat) (v : Value), (Enc.cells b)[j]? = some v → ∃ v', w.cell? ((a.add (i * Enc.sz α)).add j) = some v' ∧ VR0 (frW w) v v' := by
  intro k
  induction k with
  | zero => exact fun _ => ⟨[], rfl, by simp, by simp, by simp⟩
  | succ k ih =>
   intro hk
   obtain ⟨l, e1, hin, hbu, hcl⟩ := ih (by omega)
   obtain ⟨b, hb, hbv, hbc⟩ := key k (by omega)
   refine ⟨l ++ [b], by simp [e1], fun x hx => ?_, ?_, fun i x hx => ?_⟩
   ·rcases List.mem_append.1 hx with hx | hx
    ·exact hin x hx
    ·simp at hx; subst hx; exact hb
   ·simp only [List.range_succ, List.map_append, bulk_append, List.sum_append, List.map_cons, List.map_nil, List.sum_cons, List.sum_nil, Rows.uptoBulkAll]
    omega
   ·rcases Nat.lt_or_ge i k with hik | hik
    ·rw [List.getElem?_append_left (by omega)] at hx
     exact hcl i x hx
    ·rw [List.getElem?_append_right (by omega), e1] at hx
     have : i = k := by
      rcases Nat.lt_or_ge k i with h' | h'
      ·rw [List.getElem?_eq_none (by simp; omega)] at hx; cases hx
      ·omega
     subst this
     simp at hx
     subst hx
     exact hbc
 obtain ⟨l, hlen, hok, hbu, hcl⟩ := build len (Nat.le_refl _)
 refine ⟨l, ⟨by omega, hok⟩, ?_, .one ?_⟩
 ·show 1 + (l.map Vol.vol).sum ≤ _
  simp only [Rows.uptoBulk]
  omega
 rcases Nat.eq_zero_or_pos len with h0 | h0
 ·subst h0
  have : l = [] := List.eq_nil_of_length_eq_zero hlen
  subst this
  exact .treeNil _ _ _
 exact tree_open hz hlen hl h0 hcl
theorem fieldB {t : TypeId} {α : Type} [Enc α] [Vol α] {Ok : α → Prop} (ho : OpensB P w t α Ok) {H : Type} {enc : TypeId × Value → H} {base : Nat} {spare : Nat → Bool} {held : Bool} {fuel : Nat} {cs : List Value} {xs : List (DataW H × List MemPlace)} {i : Nat}
  (h : DataW.trod enc P w base spare held fuel t cs = xs[i]?) (hi : i < xs.length) : ∃ a : α, Ok a ∧ BK1 xs i (Vol.vol a) ∧ VRC (frW w) (Enc.cells a) cs := by
 have hg := List.getElem?_eq_getElem hi
 obtain ⟨a, h1, h2, h3⟩ := ho H enc _ _ _ _ _ _ (h.trans hg)
 exact ⟨a, h1, ⟨_, hg, h2⟩, h3⟩
theorem open_argB {t : TypeId} {α : Type} [Enc α] [Vol α] {Ok : α → Prop} (ho : OpensB P w t α Ok) {H : Type} {enc : TypeId × Value → H} {base : Nat} {spare : Nat → Bool} {held : Bool} {v : Value} {d : DataW H} {p : List MemPlace} (h : DataW.Trod enc P w base spare held t v d p) :
  ∃ a : α, Ok a ∧ Vol.vol a ≤ Rows.uptoBulk d ∧ VRC (frW w) (Enc.cells a) v.cells.toList := by
 obtain ⟨fuel, hf⟩ := h
 exact ho H enc _ _ _ _ _ _ hf
end
end Go.Proofs.YtegjnjmimfgijaaGreatDoor

