/-
  Put together out of several texts, each in its own namespace's block. Conditions: as each theorem states them.
-/
import Derived.Test.YtegjnjmimfgijaaGreatDoorQBlg
import Derived.Test.YtegjnjmimfgijaaGreatDoorQVa
import Derived.Test.YtegjnjmimfgijaaGreatDoorQLe
import Derived.Test.YtegjnjmimfgijaaGreatDoorQSj
import Derived.Test.YtegjnjmimfgijaaGreatDoorRows
noncomputable section
namespace Go.Proofs.YtegjnjmimfgijaaGreatDoor
open Go Go.RowKit
set_option maxRecDepth 100000
set_option maxHeartbeats 8000000
def tabRS : List Ent := [⟨38, c_SameO⟩, ⟨39, c_SameN⟩, ⟨40, c_eqNames⟩, ⟨42, c_eqHooks⟩]
def callRS : VCall := inlCall Tryz.prog [41] (tabCall tabRS noCall) 2
theorem e_rSame (a b : Event) (H : HT) (Post : PV) : vcP Tryz.prog callRS 17 [] [eventV a, eventV b] H Post = (let q10 := [tree 1 a.saw.parts.length (encL a.saw.parts), tree 1 b.saw.parts.length (encL b.saw.parts)]; let q9 := [tree 4 a.lift.hooks.length (encL a.lift.hooks), tree 4 b.lift.hooks.length (encL b.lift.hooks)]; let q8 := [tree 1 a.weig.parts.length (encL a.weig.parts), tree 1 b.weig.parts.length (encL b.weig.parts)]; let q7 := decide (a.weig.centre.x = b.weig.centre.x) && (decide (a.weig.centre.y = b.weig.centre.y) && (decide (a.weig.centre.z = b.weig.centre.z) && true)); let q6 := [Value.agg #[vs a.order.id, tree 38 a.order.edits.length (encL a.order.edits)], Value.agg #[vs b.order.id, tree 38 b.order.edits.length (encL b.order.edits)]]; let q5 := [Value.agg #[vs a.nest.sheet, vi a.nest.gap, tree 5 a.nest.spots.length (encL a.nest.spots)], Value.agg #[vs b.nest.sheet, vi b.nest.gap, tree 5 b.nest.spots.length (encL b.nest.spots)]]; let q4 := decide (a.bar.id = b.bar.id) && (decide (a.bar.sect = b.bar.sect) && (decide (a.bar.grade = b.bar.grade) && (decide (a.bar.long = b.bar.long) && (decide (a.bar.heat = b.bar.heat) && true)))); let q1 := True ∧ Post (vb false); let q3 := T4 (T2 (True ∧ pIf (decide (a.permit.id = b.permit.id) && (decide (a.permit.kind = b.permit.kind) && (decide (a.permit.time.a = b.permit.time.a) && (decide (a.permit.time.b = b.permit.time.b) && true) && true))) (T2 (True ∧ Post (vb true))) (T2 q1))); let q2 := decide (a.sheet.id = b.sheet.id) && (decide (a.sheet.grade = b.sheet.grade) && (decide (a.sheet.thick = b.sheet.thick) && (decide (a.sheet.long = b.sheet.long) && (decide (a.sheet.width = b.sheet.width) && (decide (a.sheet.heat = b.sheet.heat) && true))))); T8 (pIf (decide (a.kind = b.kind)) (T4 (T2 (pIf (decide (a.at_ = b.at_)) (T4 (T2 (True ∧ pIf (decide (a.item = b.item)) (T4 (T2 (True ∧ pIf (decide (a.of_ = b.of_)) (T4 (T2 (True ∧ pIf (decide (a.by_ = b.by_)) (T4 (T2 (True ∧ pIf (decide (a.n = b.n)) (T4 (pIf a.pass (T2 (pIf b.pass (T4 (T2 (True ∧ ∃ (a_1 : Order2), ∃ (b_1 : Order2), eqL q6 [order2V a_1, order2V b_1] ∧ ShortO a_1 ∧ pIf (decide (a_1 = b_1)) (T4 (T2 (True ∧ pIf q2 (T4 (T2 (True ∧ pIf q4 (T4 (T2 (∃ (a_2 : Nest3), ∃ (b_2 : Nest3), eqL q5 [nest3V a_2, nest3V b_2] ∧ Short a_2.spots ∧ pIf (decide (a_2 = b_2)) (T8 (True ∧ pIf (decide (a.saw.bar = b.saw.bar)) (T8 (True ∧ pIf (decide (a.saw.kerf = b.saw.kerf)) (T8 (∃ (l : List ByteArray), ∃ (m : List ByteArray), eqL q10 [tree 1 l.length (encL l), tree 1 m.length (encL m)] ∧ Short l ∧ pIf (decide (l = m)) (T8 (T4 (T2 (pIf (decide (a.weig.block = b.weig.block)) (T4 (T2 (pIf (decide (a.weig.at_ = b.weig.at_)) (T4 (T2 (True ∧ pIf (decide (a.weig.mass = b.weig.mass)) (T4 (T2 (True ∧ pIf q7 (T4 (T2 (True ∧ pIf (decide (a.weig.sigma = b.weig.sigma)) (T4 (T2 (∃ (l : List ByteArray), ∃ (m : List ByteArray), eqL q8 [tree 1 l.length (encL l), tree 1 m.length (encL m)] ∧ Short l ∧ pIf (decide (l = m)) (T8 (T2 (True ∧ pIf (decide (a.lift.block = b.lift.block)) (T8 (∃ (l : List Hook4), ∃ (m : List Hook4), eqL q9 [tree 4 l.length (encL l), tree 4 m.length (encL m)] ∧ Short l ∧ pIf (decide (l = m)) q3 (T4 q1))) (T4 (T2 q1))))) (T8 (T2 q1))))) (T8 (T4 q1))))) (T8 (T4 (T2 q1)))))) (T16 q1)))) (T16 (T2 q1))))) (T16 (T4 (Post (vb false)))))))) (T8 (T2 q1)))) (T8 (T4 q1)))) (T8 (T4 (T2 q1))))) (T16 q1)))) (T16 (T2 q1))))) (T16 (T4 q1))))) (T16 (T4 (T2 q1)))))) (T16 (T8 (T2 (Post (vb false))))))) (T2 (pIf b.pass (T16 (T8 (T2 (Post (vb false))))) (T4 (T2 (True ∧ ∃ (a_1 : Order2), ∃ (b_1 : Order2), eqL q6 [order2V a_1, order2V b_1] ∧ ShortO a_1 ∧ pIf (decide (a_1 = b_1)) (T4 (T2 (True ∧ pIf q2 (T4 (T2 (True ∧ pIf q4 (T4 (T2 (∃ (a_2 : Nest3), ∃ (b_2 : Nest3), eqL q5 [nest3V a_2, nest3V b_2] ∧ Short a_2.spots ∧ pIf (decide (a_2 = b_2)) (T8 (True ∧ pIf (decide (a.saw.bar = b.saw.bar)) (T8 (True ∧ pIf (decide (a.saw.kerf = b.saw.kerf)) (T8 (∃ (l : List ByteArray), ∃ (m : List ByteArray), eqL q10 [tree 1 l.length (encL l), tree 1 m.length (encL m)] ∧ Short l ∧ pIf (decide (l = m)) (T8 (T4 (T2 (pIf (decide (a.weig.block = b.weig.block)) (T4 (T2 (pIf (decide (a.weig.at_ = b.weig.at_)) (T4 (T2 (True ∧ pIf (decide (a.weig.mass = b.weig.mass)) (T4 (T2 (True ∧ pIf q7 (T4 (T2 (True ∧ pIf (decide (a.weig.sigma = b.weig.sigma)) (T4 (T2 (∃ (l : List ByteArray), ∃ (m : List ByteArray), eqL q8 [tree 1 l.length (encL l), tree 1 m.length (encL m)] ∧ Short l ∧ pIf (decide (l = m)) (T8 (T2 (True ∧ pIf (decide (a.lift.block = b.lift.block)) (T8 (∃ (l : List Hook4), ∃ (m : List Hook4), eqL q9 [tree 4 l.length (encL l), tree 4 m.length (encL m)] ∧ Short l ∧ pIf (decide (l = m)) q3 (T4 q1))) (T4 (T2 q1))))) (T8 (T2 q1))))) (T8 (T4 q1))))) (T8 (T4 (T2 q1)))))) (T16 q1)))) (T16 (T2 q1))))) (T16 (T4 (Post (vb false)))))))) (T8 (T2 q1)))) (T8 (T4 q1)))) (T8 (T4 (T2 q1))))) (T16 q1)))) (T16 (T2 q1))))) (T16 (T4 q1))))) (T16 (T4 (T2 q1)))))))))) (T16 (T8 (T2 q1)))))) (T16 (T8 (T4 q1)))))) (T16 (T8 (T4 (T2 q1))))))) (T32 q1)))) (T32 (T2 q1))))) (T32 (T4 (Post (vb false)))))) := by kernel_rfl
def tabPS : List Ent := [⟨66, c_eqSpots⟩, ⟨67, c_eqNames⟩, ⟨68, c_eqHooks⟩, ⟨44, c_Order⟩]
def callPS : VCall := inlCall Tryz.prog [43] (tabCall tabPS noCall) 2
theorem e_pSame (a b : Event) (H : HT) (Post : PV) : vcP Tryz.prog callPS 18 [] [eventV a, eventV b] H Post = (let q15 := [Value.agg #[vs b.order.id, tree 38 b.order.edits.length (encL b.order.edits)]]; let q14 := [Value.agg #[vs a.order.id, tree 38 a.order.edits.length (encL a.order.edits)]]; let q13 := [tree 1 a.saw.parts.length (encL a.saw.parts), tree 1 b.saw.parts.length (encL b.saw.parts)]; let q12 := [tree 4 a.lift.hooks.length (encL a.lift.hooks), tree 4 b.lift.hooks.length (encL b.lift.hooks)]; let q11 := [tree 1 a.weig.parts.length (encL a.weig.parts), tree 1 b.weig.parts.length (encL b.weig.parts)]; let q10 := [tree 5 a.nest.spots.length (encL a.nest.spots), tree 5 b.nest.spots.length (encL b.nest.spots)]; let q9 := T8 (T2 (Post (vb false))); let q8 := T8 (T4 (Post (vb false))); let q7 := !(decide (a.weig.centre.x = b.weig.centre.x) && (decide (a.weig.centre.y = b.weig.centre.y) && (decide (a.weig.centre.z = b.weig.centre.z) && true))); let q6 := T4 (T2 (Post (vb false))); let q5 := #[vs b.weig.block, vi b.weig.at_, vi b.weig.mass, vi b.weig.centre.x, vi b.weig.centre.y, vi b.weig.centre.z, vi b.weig.sigma, tree 1 b.weig.parts.length (encL b.weig.parts)]; let q4 := !(decide (a.permit.id = b.permit.id) && (decide (a.permit.kind = b.permit.kind) && (decide (a.permit.time.a = b.permit.time.a) && (decide (a.permit.time.b = b.permit.time.b) && true) && true))); let q3 := !(decide (a.bar.id = b.bar.id) && (decide (a.bar.sect = b.bar.sect) && (decide (a.bar.grade = b.bar.grade) && (decide (a.bar.long = b.bar.long) && (decide (a.bar.heat = b.bar.heat) && true))))); let q2 := !(decide (a.sheet.id = b.sheet.id) && (decide (a.sheet.grade = b.sheet.grade) && (decide (a.sheet.thick = b.sheet.thick) && (decide (a.sheet.long = b.sheet.long) && (decide (a.sheet.width = b.sheet.width) && (decide (a.sheet.heat = b.sheet.heat) && true)))))); let q1 := True ∧ Post (vb false); T8 (True ∧ 8 ≤ 8 ∧ ((Value.agg q5 = Value.agg q5 ∧ True) ∧ True) ∧ 8 ≤ 8 ∧ T4 (T2 (pIf (!decide (a.kind = b.kind)) (T8 (T4 (T2 q1))) (T4 (T2 (pIf (!decide (a.at_ = b.at_)) (T8 q6) (T4 (T2 (True ∧ pIf (!decide (a.item = b.item)) q8 (T4 (T2 (True ∧ pIf (!decide (a.of_ = b.of_)) q9 (T4 (T2 (True ∧ pIf (!decide (a.by_ = b.by_)) (T8 (Post (vb false))) (T4 (T2 (True ∧ pIf (!decide (a.n = b.n)) q6 (T4 (pIf a.pass (T2 (pIf b.pass (T8 (pIf q2 (T16 q1) (T4 (T2 (pIf q3 (T16 (Post (vb false))) (T4 (T2 (True ∧ pIf q4 (T8 q6) (T8 (True ∧ pIf (!decide (a.nest.sheet = b.nest.sheet)) q8 (T8 (True ∧ pIf (!decide (a.nest.gap = b.nest.gap)) q9 (T8 (True ∧ pIf (!decide (a.saw.bar = b.saw.bar)) (T8 (Post (vb false))) (T8 (True ∧ pIf (!decide (a.saw.kerf = b.saw.kerf)) q6 (T8 (True ∧ pIf (!decide (a.lift.block = b.lift.block)) (T4 (Post (vb false))) (T4 (T2 (True ∧ pIf (!decide (a.weig.block = b.weig.block)) (T8 (T2 q1)) (T4 (T2 (pIf (!decide (a.weig.at_ = b.weig.at_)) q9 (T4 (T2 (True ∧ pIf (!decide (a.weig.mass = b.weig.mass)) (T8 (Post (vb false))) (T4 (T2 (True ∧ pIf q7 q6 (T4 (T2 (True ∧ pIf (!decide (a.weig.sigma = b.weig.sigma)) (T4 (Post (vb false))) (T8 (T4 (True ∧ ∃ (l : List Spot), ∃ (m : List Spot), eqL q10 [tree 5 l.length (encL l), tree 5 m.length (encL m)] ∧ Short l ∧ pIf (decide (l = m)) (T4 (T2 (True ∧ ∃ (l : List ByteArray), ∃ (m : List ByteArray), eqL q13 [tree 1 l.length (encL l), tree 1 m.length (encL m)] ∧ Short l ∧ pIf (decide (l = m)) (T8 (∃ (l : List ByteArray), ∃ (m : List ByteArray), eqL q11 [tree 1 l.length (encL l), tree 1 m.length (encL m)] ∧ Short l ∧ pIf (decide (l = m)) (T8 (∃ (l : List Hook4), ∃ (m : List Hook4), eqL q12 [tree 4 l.length (encL l), tree 4 m.length (encL m)] ∧ Short l ∧ pIf (decide (l = m)) (T8 (∃ (o : Order2), eqL q14 [order2V o] ∧ InOrder o ∧ FewO o ∧ True ∧ ∃ (o_1 : Order2), eqL q15 [order2V o_1] ∧ InOrder o_1 ∧ FewO o_1 ∧ T2 (pIf (decide (bOrder o = bOrder o_1)) (T2 (True ∧ Post (vb true))) (T2 q1)))) (T4 (T2 q1)))) (T8 q1))) (T8 (T2 q1))))) q8)))))))))))))))))))))))))))))))))))) (T4 q1))) (T2 (pIf b.pass (T4 q1) (T8 (pIf q2 (T16 q1) (T4 (T2 (pIf q3 (T16 (Post (vb false))) (T4 (T2 (True ∧ pIf q4 (T8 q6) (T8 (True ∧ pIf (!decide (a.nest.sheet = b.nest.sheet)) q8 (T8 (True ∧ pIf (!decide (a.nest.gap = b.nest.gap)) q9 (T8 (True ∧ pIf (!decide (a.saw.bar = b.saw.bar)) (T8 (Post (vb false))) (T8 (True ∧ pIf (!decide (a.saw.kerf = b.saw.kerf)) q6 (T8 (True ∧ pIf (!decide (a.lift.block = b.lift.block)) (T4 (Post (vb false))) (T4 (T2 (True ∧ pIf (!decide (a.weig.block = b.weig.block)) (T8 (T2 q1)) (T4 (T2 (pIf (!decide (a.weig.at_ = b.weig.at_)) q9 (T4 (T2 (True ∧ pIf (!decide (a.weig.mass = b.weig.mass)) (T8 (Post (vb false))) (T4 (T2 (True ∧ pIf q7 q6 (T4 (T2 (True ∧ pIf (!decide (a.weig.sigma = b.weig.sigma)) (T4 (Post (vb false))) (T8 (T4 (True ∧ ∃ (l : List Spot), ∃ (m : List Spot), eqL q10 [tree 5 l.length (encL l), tree 5 m.length (encL m)] ∧ Short l ∧ pIf (decide (l = m)) (T4 (T2 (True ∧ ∃ (l : List ByteArray), ∃ (m : List ByteArray), eqL q13 [tree 1 l.length (encL l), tree 1 m.length (encL m)] ∧ Short l ∧ pIf (decide (l = m)) (T8 (∃ (l : List ByteArray), ∃ (m : List ByteArray), eqL q11 [tree 1 l.length (encL l), tree 1 m.length (encL m)] ∧ Short l ∧ pIf (decide (l = m)) (T8 (∃ (l : List Hook4), ∃ (m : List Hook4), eqL q12 [tree 4 l.length (encL l), tree 4 m.length (encL m)] ∧ Short l ∧ pIf (decide (l = m)) (T8 (∃ (o : Order2), eqL q14 [order2V o] ∧ InOrder o ∧ FewO o ∧ True ∧ ∃ (o_1 : Order2), eqL q15 [order2V o_1] ∧ InOrder o_1 ∧ FewO o_1 ∧ T2 (pIf (decide (bOrder o = bOrder o_1)) (T2 (True ∧ Post (vb true))) (T2 q1)))) (T4 (T2 q1)))) (T8 q1))) (T8 (T2 q1))))) q8))))))))))))))))))))))))))))))))))))))))))))))))))))))))))) := by kernel_rfl
theorem callRS_ok : VCallOk Tryz.prog callRS := inlCall_ok mixed (tabCall_ok (by
 intro e he
 simp only [tabRS, List.mem_cons, List.not_mem_nil, or_false] at he
 rcases he with rfl | rfl | rfl | rfl
 ·exact ok_sameOrder
 ·exact ok_sameNest
 ·exact ok_sameStrings
 ·exact ok_sameHooks) noCall_ok) 2
theorem callPS_ok : VCallOk Tryz.prog callPS := inlCall_ok mixed (tabCall_ok (by
 intro e he
 simp only [tabPS, List.mem_cons, List.not_mem_nil, or_false] at he
 rcases he with rfl | rfl | rfl | rfl
 ·exact ok_eqSpots
 ·exact ok_eqNames
 ·exact ok_eqHooks
 ·exact ok_chEnc) noCall_ok) 2
structure ShortEv (x : Event) : Prop where
 order : ShortO x.order
 spots : Short x.nest.spots
 saw : Short x.saw.parts
 weig : Short x.weig.parts
 hooks : Short x.lift.hooks
def c_rSame (args : List Value) (Post : Value → Prop) : Prop := ∃ a b : Event, args = [eventV a, eventV b] ∧ ShortEv a ∧ Post (.bool (decide (a = b)))
def c_pSame (args : List Value) (Post : Value → Prop) : Prop := ∃ a b : Event, args = [eventV a, eventV b] ∧ ShortEv a ∧ InOrder a.order ∧ FewO a.order ∧ InOrder b.order ∧ FewO b.order ∧ Post (.bool (decide (a = b)))
theorem ok_rSame : EntOk Tryz.prog ⟨17, c_rSame⟩ := by
 rintro args Post ⟨a, b, rfl, ⟨s1, s2, s3, s4, s5⟩, h⟩
 refine pure_P (vc := callRS) callRS_ok mixed (by kernel_rfl) (by kernel_rfl) _ (e_rSame a b _ _) ?_
 simp only [true_and, and_true]
 repeat' (first
  | refine pIf_intro (fun hh => ?_) (fun hh => of_b h (decide_eq_false fun e => by subst e; simp at hh))
  | refine pIf_intro (fun hh => of_b h (decide_eq_false fun e => by subst e; simp at hh)) (fun hh => ?_)
  | refine pIf_intro (fun ha => pIf_intro (fun hb => ?_) (fun hb => of_b h (decide_eq_false fun e => by subst e; rw [ha] at hb; cases hb))) (fun ha => pIf_intro (fun hb => of_b h (decide_eq_false fun e => by subst e; rw [ha] at hb; cases hb)) (fun hb => ?_))
  | (refine of_b h (decide_eq_true ?_); clear h; simp only [Bool.and_eq_true, decide_eq_true_eq, and_true, Bool.not_eq_false', Bool.not_eq_eq_eq_not, Bool.not_false] at *; refine Event.ext' ?_ ?_ ?_ ?_ ?_ ?_ ?_ ?_ (Sheet6.ext' ?_ ?_ ?_ ?_ ?_ ?_) (Bar5.ext' ?_ ?_ ?_ ?_ ?_) ?_ (Saw3.ext' ?_ ?_ ?_) (Weig.ext' ?_ ?_ ?_ (Vec3.ext' ?_ ?_ ?_) ?_ ?_) (Lift2.ext' ?_ ?_) (Permit3.ext' ?_ ?_ (Span2.ext' ?_ ?_)) <;> simp_all)
  | refine ⟨_, _, rfl, by assumption, ?_⟩
)
theorem ok_pSame : EntOk Tryz.prog ⟨18, c_pSame⟩ := by
 rintro args Post ⟨a, b, rfl, ⟨s1, s2, s3, s4, s5⟩, ia, fa, ib, fb, h⟩
 refine pure_P (vc := callPS) callPS_ok mixed (by kernel_rfl) (by kernel_rfl) _ (e_pSame a b _ _) ?_
 simp only [true_and, and_true]
 have inj : bOrder a.order = bOrder b.order → a.order = b.order := (order_inj ia ib fa fb).1
 refine ⟨by decide, by decide, ?_⟩
 repeat' (first
  | refine pIf_intro (fun hh => ?_) (fun hh => of_b h (decide_eq_false fun e => by subst e; simp at hh))
  | refine pIf_intro (fun hh => of_b h (decide_eq_false fun e => by subst e; simp at hh)) (fun hh => ?_)
  | refine pIf_intro (fun ha => pIf_intro (fun hb => ?_) (fun hb => of_b h (decide_eq_false fun e => by subst e; rw [ha] at hb; cases hb))) (fun ha => pIf_intro (fun hb => of_b h (decide_eq_false fun e => by subst e; rw [ha] at hb; cases hb)) (fun hb => ?_))
  | (refine of_b h (decide_eq_true ?_); clear h; simp only [Bool.and_eq_true, decide_eq_true_eq, and_true, Bool.not_eq_false', Bool.not_eq_eq_eq_not, Bool.not_false] at *; refine Event.ext' ?_ ?_ ?_ ?_ ?_ ?_ ?_ ?_ (Sheet6.ext' ?_ ?_ ?_ ?_ ?_ ?_) (Bar5.ext' ?_ ?_ ?_ ?_ ?_) (Nest3.ext' ?_ ?_ ?_) (Saw3.ext' ?_ ?_ ?_) (Weig.ext' ?_ ?_ ?_ (Vec3.ext' ?_ ?_ ?_) ?_ ?_) (Lift2.ext' ?_ ?_) (Permit3.ext' ?_ ?_ (Span2.ext' ?_ ?_)) <;> simp_all)
  | refine ⟨_, _, rfl, by assumption, ?_⟩
  | refine ⟨_, rfl, ia, fa, _, rfl, ib, fb, ?_⟩)
def IsW (I : Base → Option ByteArray → Prop) (kx : Nat × Nat × Nat) : Prop := ∃ W0 c, I = HidO W0 c ∧ kx = (c, 0, 2)
def hpW (E : List Value) : Tr AObj := ((Tr.e : Tr AObj).put 0 (some (.cells E true))).put 1 (some (.cells [] false))
theorem hpW_get (E : List Value) (i : Nat) : (hpW E).get i = if i = 1 then some (.cells [] false) else if i = 0 then some (.cells E true) else none := by
 unfold hpW
 rw [Tr.get_put]
 split
 ·rfl
 ·rw [Tr.get_put]
  split
  ·rfl
  ·simp [Tr.get_e]
abbrev VisC := List Value → TypeId → ByteArray → ByteArray → Prop
def VisOk (f : FuncId) (V : VisC) : Prop := ∀ E t g g', V E t g g' → SpecG Tryz.prog IsW f 1 2 (hpW E) [.pointer (some ⟨0, 0, none⟩), .iface t (.pointer (some ⟨1, 0, none⟩))] (some g) fun v hp' g1 => v = .tuple #[] ∧ hp'.get 0 = some (.cells E true) ∧ g1 = some g'
def visCall (f : FuncId) (V : VisC) (kb : Nat) (next : GCall (Option ByteArray)) : GCall (Option ByteArray) := fun f' args hp nx g K =>
 bif f'.beq f then match args, g with
  | [.pointer (some ⟨b0, o0, none⟩), .iface t (.pointer (some ⟨b1, o1, none⟩))], some g => bif b1.beq kb && (o0.beq 0 && (o1.beq 0 && (allWr kb hp nx && none0 hp kb))) then match hp.get b0, hp.get kb with
    | some (.cells E true), some _ => bif E.all nl1 then ∃ g', V E t g g' ∧ K (.ret (.tuple #[])) hp nx (some g') else False
    | _, _ => False
   else False
  | _, _ => False
 else next f' args hp nx g K
theorem visCall_ok {f : FuncId} {V : VisC} (hV : VisOk f V) {W0 : Base} {c kb : Nat} {next : GCall (Option ByteArray)} (hn : GCallOk Tryz.prog (HidO W0 c) kb (c, 0, 2) next) : GCallOk Tryz.prog (HidO W0 c) kb (c, 0, 2) (visCall f V kb next) := by
 intro f' args hp nx g0 K h W ρ w args' hI0 hkx hrel hargs
 unfold visCall at h
 cases hf : f'.beq f with
 | false => rw [hf] at h; exact hn f' args hp nx g0 K h W ρ w args' hI0 hkx hrel hargs
 | true =>
  rw [hf, cond_true] at h
  have hf' := Nat.eq_of_beq_eq_true hf
  subst hf'
  split at h
  case h_2 => exact h.elim
  rename_i b0 o0 t b1 o1 g
  have hI : Hid W0 c W g := hI0
  cases hc : b1.beq kb && (o0.beq 0 && (o1.beq 0 && (allWr kb hp nx && none0 hp kb))) with
  | false => rw [hc] at h; exact h.elim
  | true =>
   rw [hc, cond_true] at h
   simp only [Bool.and_eq_true] at hc
   obtain ⟨q1, q2, q3, hwr, hno⟩ := hc
   have q1 := Nat.eq_of_beq_eq_true q1
   have q2 := Nat.eq_of_beq_eq_true q2
   have q3 := Nat.eq_of_beq_eq_true q3
   subst q1 q2 q3
   split at h
   case h_2 => exact h.elim
   rename_i E okb hE hkb
   cases hnl : E.all nl1 with
   | false => rw [hnl] at h; exact h.elim
   | true =>
    rw [hnl, cond_true] at h
    obtain ⟨g', hVg, hK⟩ := h
    have hEn : ∀ v ∈ E, nl1 v = true := fun v hv => List.all_eq_true.1 hnl v hv
    cases hargs with
    | cons ha hrest =>
    cases hrest with
    | cons hi hrest =>
    cases hrest
    cases hi with
    | iface _ hi =>
    cases hi with
    | ptr hpl =>
    have hpl' := hpl
    rw [hkx] at hpl'
    cases hpl'
    cases ha with
    | @ptr _ _ c0 s0 z0 hp0 =>
    have hkb0 : okb = .cells [] false := by
     unfold none0 at hno
     rw [hkb] at hno
     split at hno
     ·rename_i q; cases q; rfl
     ·rename_i q; cases q
     ·cases hno
    subst hkb0
    obtain ⟨hcont, hrow⟩ := hI.now hrel.below
    have hmine := hI.mine
    rw [← hrow] at hmine
    obtain ⟨ob0, e01, e02⟩ := hrel.obj b0 _ c0 s0 z0 hE hp0
    have hn0 : ¬ W.old c0 := wr_old e02 rfl
    have lt_of : ∀ {w : World} {k : Nat} {ob : Obj}, w.heap[k]? = some ob → k < w.heap.size := fun {w k ob} hk => by
     rcases Nat.lt_or_ge k w.heap.size with h' | h'
     ·exact h'
     ·rw [Array.getElem?_eq_none h'] at hk; cases hk
    have h0c : c0 ≠ c := fun e => hn0 (hmine c0 (.inl e)).1
    have h0r : bufOf c w ≠ some c0 := fun e => hn0 (hmine c0 (.inr e)).1
    have free : ∀ k, ¬ W.old k → k ≠ c ∧ bufOf c w ≠ some k := fun k hk => ⟨fun e => hk (hmine k (.inl e)).1, fun e => hk (hmine k (.inr e)).1⟩
    have Wlt : ∀ k, W.old k → k < w.heap.size := fun k hk => Nat.lt_of_lt_of_le hk.1 hrel.below.size
    have frno : ∀ k, k = c ∨ bufOf c w = some k → ρ.fr k = none := fun k hk => by
     cases hfr : ρ.fr k with
     | none => rfl
     | some ob =>
      rcases hrel.frn k ob hfr with q | q
      ·rw [(hmine k hk).2.2] at q; cases q
      ·exact (q (hmine k hk).1).elim
    have hold0 : ∀ k, (⟨w, fun k => k = c0 ∨ k = c ∨ bufOf c w = some k, ρ.fr, []⟩ : Base).old k ↔ k < w.heap.size ∧ k ≠ c0 ∧ k ≠ c ∧ bufOf c w ≠ some k := fun k => by
     unfold Base.old
     dsimp only
     simp only [not_or, ne_eq]
    have hhid : HidO ⟨w, fun k => k = c0 ∨ k = c ∨ bufOf c w = some k, ρ.fr, []⟩ c ⟨w, fun k => k = c0, ρ.fr, []⟩ (some g) := by
     refine ⟨Nat.le_refl _, rfl, rfl, rfl, fun k hk => ⟨⟨hk.1, ((hold0 k).1 hk).2.1⟩, rfl⟩, fun k ob hk => .inl hk, hcont, fun k hk => ⟨⟨Wlt k (hmine k hk).1, fun e => ?_⟩, fun h' => ?_, frno k hk⟩⟩
     ·have e : k = c0 := e
      subst e
      exact hn0 (hmine k hk).1
     ·rcases hk with hk | hk
      ·exact ((hold0 k).1 h').2.2.1 hk
      ·exact ((hold0 k).1 h').2.2.2 hk
    obtain ⟨obk, ek1, ek2⟩ := hrel.obj b1 _ c 0 2 hkb hkx
    let ρ1 : Place := ⟨fun i => if i = 1 then some (c, 0, 2) else if i = 0 then some (c0, s0, z0) else none, ρ.fr, ρ.gl⟩
    have r10 : ρ1 0 = some (c0, s0, z0) := rfl
    have r11 : ρ1 1 = some (c, 0, 2) := rfl
    have hrel1 : Rel ρ1 ⟨w, fun k => k = c0, ρ.fr, []⟩ (hpW E) 2 w := by
     refine ⟨fun b x hb => ?_, fun b o c' s' z ho hb => ?_, fun b b' x x' o o' g1 g2 hb hb' hx => ?_, fun b hb => ?_, ⟨rfl, rfl, rfl, Nat.le_refl _, fun _ _ => rfl⟩, hrel.frz, fun b o c' s' z ho hw hb => ?_, fun k ob hk => .inl hk⟩
     ·have hb' : (if b = 1 then some (c, 0, 2) else if b = 0 then some (c0, s0, z0) else none) = some x := hb
      split at hb'
      ·cases hb'; rename_i e; subst e; exact ⟨by omega, (hrel.dom _ _ hkx).2⟩
      ·split at hb'
       ·cases hb'; rename_i e; subst e; exact ⟨by omega, (hrel.dom _ _ hp0).2⟩
       ·cases hb'
     ·have hb' : (if b = 1 then some (c, 0, 2) else if b = 0 then some (c0, s0, z0) else none) = some (c', s', z) := hb
      rw [hpW_get] at ho
      split at hb'
      ·rename_i e
       cases hb'
       rw [if_pos e] at ho
       cases ho
       refine ⟨obk, ek1, ?_⟩
       cases obk <;> try exact ek2.elim
       exact ⟨ek2.1, ek2.2.1, ek2.2.2.1, fun i v hv => by simp at hv, fun h' => by cases h'⟩
      ·rename_i e
       rw [if_neg e] at ho
       split at hb'
       ·rename_i e0
        cases hb'
        rw [if_pos e0] at ho
        cases ho
        refine ⟨ob0, e01, ?_⟩
        cases ob0 <;> try exact e02.elim
        refine ⟨e02.1, e02.2.1, e02.2.2.1, fun i v hv => ?_, fun _ h' => h'.2 rfl⟩
        obtain ⟨v', p1, p2⟩ := e02.2.2.2.1 i v hv
        have h0 : VR0 ρ.fr v v' := nl1_sound (hEn v (List.mem_of_getElem? hv)) p2
        exact ⟨v', p1, VR0.lift (ρ := ρ1) h0⟩
       ·cases hb'
     ·have e1 : (if b = 1 then some (c, 0, 2) else if b = 0 then some (c0, s0, z0) else none) = some x := hb
      have e2 : (if b' = 1 then some (c, 0, 2) else if b' = 0 then some (c0, s0, z0) else none) = some x' := hb'
      split at e1
      ·cases e1
       split at e2
       ·omega
       ·split at e2
        ·cases e2; exact (h0c hx.symm).elim
        ·cases e2
      ·split at e1
       ·cases e1
        split at e2
        ·cases e2; exact (h0c hx).elim
        ·split at e2
         ·omega
         ·cases e2
       ·cases e1
     ·rw [hpW_get, if_neg (by omega), if_neg (by omega)]
     ·have hb' : (if b = 1 then some (c, 0, 2) else if b = 0 then some (c0, s0, z0) else none) = some (c', s', z) := hb
      show ρ.fr c' = none
      split at hb'
      ·cases hb'; exact frno _ (.inl rfl)
      ·split at hb'
       ·cases hb'; exact hrel.apart b0 _ c0 s0 z0 hE rfl hp0
       ·cases hb'
    have hspec := hV E t g g' hVg (HidO ⟨w, fun k => k = c0 ∨ k = c ∨ bufOf c w = some k, ρ.fr, []⟩ c) (c, 0, 2) ⟨_, _, rfl, rfl⟩ ⟨w, fun k => k = c0, ρ.fr, []⟩ ρ1 w [.pointer (some ⟨c0, s0 + 0, none⟩), .iface t (.pointer (some ⟨c, 0 + 0, none⟩))] hhid r11 hrel1 (.cons (.ptr r10) (.cons (.iface t (.ptr r11)) .nil))
    refine hspec.mono ?_
    rintro e w' ⟨v, v', hp', nx', g1, ρ', W', ⟨rfl, hE', rfl⟩, rfl, hv, ⟨hI', hds⟩, hrel', hst⟩
    have hI2 : Hid ⟨w, fun k => k = c0 ∨ k = c ∨ bufOf c w = some k, ρ.fr, []⟩ c W' g' := hI'
    obtain ⟨hcont', hrow'⟩ := hI2.now hrel'.below
    have hm' := hI2.mine
    rw [← hrow'] at hm'
    have hsz : w.heap.size ≤ w'.heap.size := Nat.le_trans hI2.size hrel'.below.size
    have hvt : v' = .tuple #[] := by
     cases hv with
     | tuple s1 _ =>
      congr 1
      apply Array.eq_empty_of_size_eq_zero
      exact s1.symm
    subst hvt
    have keep : ∀ k, k < w.heap.size → k ≠ c0 → k ≠ c → bufOf c w ≠ some k → w'.heap[k]? = w.heap[k]? := fun k h1 h2 h3 h4 => by
     have h5 := hI2.old k ((hold0 k).2 ⟨h1, h2, h3, h4⟩)
     rw [hrel'.below.block k h5.1]
     exact h5.2
    have r0 : ρ' 0 = some (c0, s0, z0) := hst.1 0 _ (by omega) r10
    have hle : ρ.le ⟨ρ.pl, ρ'.fr, ρ'.gl⟩ := ⟨fun _ _ h => h, fun k x hk => hst.2 k x hk⟩
    obtain ⟨ob0', e01', e02'⟩ := hrel'.obj 0 _ c0 s0 z0 hE' r0
    have hn0' : ¬ W'.old c0 := wr_old e02' rfl
    have h0r' : bufOf c w' ≠ some c0 := fun e => hn0' (hm' c0 (.inr e)).1
    have hold : ∀ k, (⟨w', fun k => ¬ (W.old k ∨ k = c ∨ bufOf c w' = some k), ρ'.fr, W.ds⟩ : Base).old k ↔ k < w'.heap.size ∧ (W.old k ∨ k = c ∨ bufOf c w' = some k) := fun k => by
     unfold Base.old
     dsimp only
     rw [Classical.not_not]
    have hW0 : ∀ k, W0.old k → (⟨w, fun k => k = c0 ∨ k = c ∨ bufOf c w = some k, ρ.fr, []⟩ : Base).old k := fun k hk => (hold0 k).2 ⟨Wlt k (hI.old k hk).1, fun e => hn0 (e ▸ (hI.old k hk).1), fun e => (hmine k (.inl e)).2.1 hk, fun e => (hmine k (.inr e)).2.1 hk⟩
    have hcw : c < w.heap.size := (hrel.dom _ _ hkx).2
    have rlt : ∀ k, bufOf c w' = some k → k < w'.heap.size := fun k hk => by
     rcases hcont' with q | q
     ·exact q.row_lt hk
     ·exact q.row_lt hk
    refine ⟨_, hp, nx, some g', ⟨ρ.pl, ρ'.fr, ρ'.gl⟩, ⟨w', fun k => ¬ (W.old k ∨ k = c ∨ bufOf c w' = some k), ρ'.fr, W.ds⟩, hK, ⟨_, rfl, .tuple rfl fun i v v' h1 => by simp at h1⟩, ⟨⟨?_, ?_, ?_, ?_, fun k hk => ⟨?_, ?_⟩, fun k ob hk => ?_, hcont', fun k hk => ⟨?_, ?_, ?_⟩⟩, rfl⟩, ⟨fun b x hb => ⟨(hrel.dom b x hb).1, Nat.lt_of_lt_of_le (hrel.dom b x hb).2 hsz⟩, fun b o c' s' z ho1 hb1 => ?_, hrel.inj, hrel.fresh, ⟨rfl, rfl, rfl, Nat.le_refl _, fun _ _ => rfl⟩, hrel'.frz, fun b o c' s' z ho1 hw hb1 => ?_, fun k ob hk => .inl hk⟩, ⟨hle, Nat.le_refl _, fun b hb hr => ⟨hr, rfl⟩⟩⟩
    ·exact Nat.le_trans hI.size (Nat.le_trans hrel.below.size hsz)
    ·exact hrel'.below.os.trans (hI2.os.trans (hrel.below.os.trans hI.os))
    ·exact hrel'.below.tape.trans (hI2.tape.trans (hrel.below.tape.trans hI.tape))
    ·exact hrel'.below.output.trans (hI2.output.trans (hrel.below.output.trans hI.output))
    ·exact (hold k).2 ⟨Nat.lt_of_lt_of_le (Wlt k (hI.old k hk).1) hsz, .inl (hI.old k hk).1⟩
    ·have h1 := hI.old k hk
     have h2 := (hold0 k).1 (hW0 k hk)
     show w'.heap[k]? = _
     rw [keep k h2.1 h2.2.1 h2.2.2.1 h2.2.2.2, hrel.below.block k h1.1]
     exact h1.2
    ·rcases hrel'.frn k ob hk with q | q
     ·rcases hI2.f0 k ob q with q | q
      ·rcases hrel.frn k ob q with q | q
       ·exact hI.f0 k ob q
       ·exact .inr fun h' => q (hI.old k h').1
      ·exact .inr fun h' => q (hW0 k h')
     ·exact .inr fun h' => q (hI2.old k (hW0 k h')).1
    ·rcases hk with rfl | hk
     ·exact (hold _).2 ⟨Nat.lt_of_lt_of_le hcw hsz, .inr (.inl rfl)⟩
     ·exact (hold _).2 ⟨rlt k hk, .inr (.inr hk)⟩
    ·exact fun h' => (hm' k hk).2.1 (hW0 k h')
    ·show ρ'.fr k = none
     cases hfr : ρ'.fr k with
     | none => rfl
     | some ob =>
      rcases hrel'.frn k ob hfr with q | q
      ·rw [(hm' k hk).2.2] at q; cases q
      ·exact (q (hm' k hk).1).elim
    ·by_cases e0 : b = b0
     ·subst e0
      rw [hE] at ho1
      cases ho1
      have hb' : ρ.pl b = some (c', s', z) := hb1
      have hp0' : ρ.pl b = some (c0, s0, z0) := hp0
      rw [hp0'] at hb'
      cases hb'
      refine ⟨ob0', e01', ?_⟩
      cases ob0' <;> try exact e02'.elim
      refine ⟨e02'.1, e02'.2.1, e02'.2.2.1, fun i v hv => ?_, fun _ h' => ?_⟩
      ·obtain ⟨v', p1, p2⟩ := e02'.2.2.2.1 i v hv
       have h0 : VR0 ρ'.fr v v' := nl1_sound (hEn v (List.mem_of_getElem? hv)) p2
       exact ⟨v', p1, VR0.lift (ρ := ⟨ρ.pl, ρ'.fr, ρ'.gl⟩) h0⟩
      ·rcases ((hold c0).1 h').2 with q | q | q
       ·exact hn0 q
       ·exact h0c q
       ·exact h0r' q
     ·obtain ⟨ob, e1, e2⟩ := hrel.obj b o c' s' z ho1 hb1
      rcases allWr_get hwr b o (hrel.dom b _ hb1).1 ho1 with hw | hw
      ·have hno' := wr_old e2 hw
       have h2 := free c' hno'
       have h3 : c' ≠ c0 := fun e => e0 (hrel.inj b b0 _ _ _ _ ho1 hE hb1 hp0 e)
       refine ⟨ob, by rw [keep c' (lt_of e1) h3 h2.1 h2.2]; exact e1, (e2.mono hle).other hw fun h' => ?_⟩
       rcases ((hold c').1 h').2 with q | q | q
       ·exact hno' q
       ·exact h2.1 q
       ·exact (hm' c' (.inr q)).2.1 ((hold0 c').2 ⟨lt_of e1, h3, h2.1, h2.2⟩)
      ·subst hw
       have hb' : ρ.pl b = some (c', s', z) := hb1
       rw [hkx] at hb'
       cases hb'
       rw [hkb] at ho1
       cases ho1
       have : ∃ T p v, w'.heap[c]? = some (.cells #[p, v] T (0, 0)) := by
        rcases hcont' with ⟨_, _, _, v, q, _⟩ | ⟨_, _, _, v, q, _⟩
        ·exact ⟨_, _, v, q⟩
        ·exact ⟨_, _, v, q⟩
       obtain ⟨_, p, v, q⟩ := this
       exact ⟨_, q, rfl, by decide, fun o _ h' => by simp at h', fun i v hv => by simp at hv, fun h' => by cases h'⟩
    ·show ρ'.fr c' = none
     by_cases e0 : b = b0
     ·subst e0
      have hb' : ρ.pl b = some (c', s', z) := hb1
      have hp0' : ρ.pl b = some (c0, s0, z0) := hp0
      rw [hp0'] at hb'
      cases hb'
      exact hrel'.apart 0 _ c0 s0 z0 hE' rfl r0
     ·obtain ⟨ob, e1, e2⟩ := hrel.obj b o c' s' z ho1 hb1
      have hno' := wr_old e2 hw
      have h2 := free c' hno'
      have h3 : c' ≠ c0 := fun e => e0 (hrel.inj b b0 _ _ _ _ ho1 hE hb1 hp0 e)
      have hk0 := (hold0 c').2 ⟨lt_of e1, h3, h2.1, h2.2⟩
      cases hfr : ρ'.fr c' with
      | none => rfl
      | some ob' =>
       rcases hrel'.frn c' ob' hfr with q | q
       ·rcases hI2.f0 c' ob' q with q | q
        ·have q' : ρ.fr c' = some ob' := q
         rw [hrel.apart b o c' s' z ho1 hw hb1] at q'
         cases q'
        ·exact (q hk0).elim
       ·exact (q (hI2.old c' hk0).1).elim
def evt0 : Event := ⟨0, 0, ⟨#[]⟩, ⟨#[]⟩, ⟨#[]⟩, 0, false, ⟨⟨#[]⟩, []⟩, ⟨⟨#[]⟩, ⟨#[]⟩, 0, 0, 0, ⟨#[]⟩⟩, ⟨⟨#[]⟩, ⟨#[]⟩, ⟨#[]⟩, 0, ⟨#[]⟩⟩, ⟨⟨#[]⟩, 0, []⟩, ⟨⟨#[]⟩, 0, []⟩, ⟨⟨#[]⟩, 0, 0, ⟨0, 0, 0⟩, 0, []⟩, ⟨⟨#[]⟩, []⟩, ⟨⟨#[]⟩, 0, ⟨0, 0⟩⟩⟩
def evtL : Event := { evt0 with kind := 17, at_ := 5 }
def evtF : Event := { evt0 with kind := 8, at_ := 100, item := ⟨#[80, 49]⟩ }
def nilV : Value → Value
 | .func _ _ _ => .slice none 0 0
 | v => v
def evN (x : Event) : Value := .agg ((eventC x).map nilV).toArray
def inlA : List FuncId := [10, 12, 20, 21, 22, 18, 43, 47, 48, 49, 50, 51,
 45, 46, 72, 73, 86, 95, 97, 104,
 66, 67, 68, 32, 69, 70, 140, 56,
 129, 130, 131, 132, 133, 158, 159, 160, 161, 162,
 135, 136, 137, 138, 139]
def baseA : PCall := tabNil Tryz.prog [⟨44, c_Order⟩, ⟨96, c_Cnt⟩, ⟨107, c_Idx⟩] noP
theorem baseA_ok : PCallOk Tryz.prog baseA := tabNil_ok (by
 intro e he
 simp only [List.mem_cons, List.not_mem_nil, or_false] at he
 rcases he with rfl | rfl | rfl
 ·exact ok_chEnc
 ·exact ok_Cnt
 ·exact ok_Idx) noP_ok
def callA : PCall := inlP Tryz.prog inlA baseA 12
theorem callA_ok : PCallOk Tryz.prog callA := inlP_ok mixed baseA_ok 12
def mkA : Nat → GCall (Option ByteArray) := mkW inlA baseA
theorem mkA_ok (W0 : Base) (c kb : Nat) : GCallOk Tryz.prog (HidO W0 c) kb (c, 0, 2) (mkA kb) := mkW_ok mixed baseA_ok W0 c kb
theorem e_encL  (H : HT) (Post : PX) : (fun _ => vcW callA mkA 14 [evN evtL]) H Post = (T16 ((toI (vi 0) ≤ evtL.kind ∧ toI (vi evtL.kind) < (↑19 : Int)) ∧ vs (ByteArray.mk #[108, 97, 117, 110, 99, 104]) = vs (toS (cellAt #[Value.agg #[vz, vs (ByteArray.mk #[111, 114, 100, 101, 114]), vs (ByteArray.mk #[115, 104, 101, 101, 116]), vs (ByteArray.mk #[98, 97, 114]), vs (ByteArray.mk #[98, 117, 121]), vs (ByteArray.mk #[110, 101, 115, 116]), vs (ByteArray.mk #[115, 97, 119]), vs (ByteArray.mk #[115, 99, 114, 97, 112]), vs (ByteArray.mk #[102, 105, 116]), vs (ByteArray.mk #[119, 101, 108, 100]), vs (ByteArray.mk #[105, 110, 115, 112, 101, 99, 116]), vs (ByteArray.mk #[114, 101, 112, 97, 105, 114]), vs (ByteArray.mk #[112, 97, 99, 107, 97, 103, 101]), vs (ByteArray.mk #[119, 101, 105, 103, 104]), vs (ByteArray.mk #[101, 114, 101, 99, 116]), vs (ByteArray.mk #[112, 101, 114, 109, 105, 116]), vs (ByteArray.mk #[116, 101, 115, 116]), vs (ByteArray.mk #[108, 97, 117, 110, 99, 104]), vs (ByteArray.mk #[100, 101, 108, 105, 118, 101, 114])]] 0 (0 + 17))) ∧ T32 (T16 (T4 (T2 (1 ≤ 40 ∧ True ∧ 2 ≤ 40 ∧ T8 (T2 (True ∧ 8 ≤ 8 ∧ ((Value.agg #[vz, vi 0, vi 0, vi 0, vi 0, vi 0, vi 0, nS] = Value.agg #[vz, vi 0, vi 0, vi 0, vi 0, vi 0, vi 0, nS] ∧ True) ∧ True) ∧ 8 ≤ 8 ∧ T32 (T32 (T32 (T32 (T32 (T32 (T32 (T8 (T2 (((T2 (True)) ∧ True) ∧ ∃ (o : Order2), eqL [Value.agg #[nilV (vs evtL.order.id), tree 38 0 #[]]] [order2V o] ∧ InOrder o ∧ FewO o ∧ ((Value.agg #[vz, nS] = Value.agg #[vz, nS] ∧ True) ∧ True) ∧ ((T2 (True)) ∧ True) ∧ ∃ (o_1 : Order2), eqL [Value.agg #[vz, tree 38 0 #[]]] [order2V o_1] ∧ InOrder o_1 ∧ FewO o_1 ∧ T2 (pIf (decide (bOrder o = bOrder o_1)) (T32 (T32 (T16 (T8 (True ∧ toI (vi 0) ≤ 5 ∧ T8 (T2 (1 ≤ 1 ∧ 1 ≤ 33554432 ∧ true = true ∧ 1 = 1 ∧ True ∧ (1 ≤ 1 ∧ AllU8 [Value.int IntKind.u8 (IntKind.wrap IntKind.u8 (↑17 : Int))]) ∧ True ∧ ((nilV (vi evtL.at_) = vi evtL.at_ ∧ True) ∧ True) ∧ T4 (T2 (True ∧ toI (vi 0) ≤ 5 ∧ T8 (T2 (1 ≤ 1 ∧ 1 ≤ 33554432 ∧ true = true ∧ 1 = 1 ∧ True ∧ (1 ≤ 1 ∧ AllU8 [Value.int IntKind.u8 (IntKind.wrap IntKind.u8 (↑5 : Int))]) ∧ T2 (2 ≤ 9223372036854775807 ∧ 2 ≤ 140737488355328 ∧ T32 (T4 (T2 (True ∧ 0 < 2 ∧ T2 ((T2 (True ∧ True)) ∧ true = true ∧ Post (Out.ret (Value.tuple #[vs (ByteArray.empty ++ (bytesL [Value.int IntKind.u8 (IntKind.wrap IntKind.u8 (↑17 : Int))] ++ bytesL [Value.int IntKind.u8 (IntKind.wrap IntKind.u8 (↑5 : Int))])), vi 0])) [])))))))))))))))) (T8 (T4 ((T2 (True ∧ True)) ∧ true = true ∧ Post (Out.ret (Value.tuple #[vz, vi 2])) []))))))))))))))))))))) := by kernel_rfl
theorem e_encF  (H : HT) (Post : PX) : (fun _ => vcW callA mkA 14 [evN evtF]) H Post = (let q2 := ((↑evtF.item.size : Int) + 1); let q1 := ((↑(Lib.countByte (Array.toList (ByteArray.data evtF.item)) 46) : Int) + 1); let q5 := if w64 q2 < w64 q1 then w64 q2 else w64 q1; let q4 := [Value.int IntKind.u8 (IntKind.wrap IntKind.u8 (↑66 : Int)), Value.int IntKind.u8 (↑80 : Int), Value.int IntKind.u8 (↑49 : Int)]; let q3 := [Value.int IntKind.u8 (IntKind.wrap IntKind.u8 (↑24 : Int)), Value.int IntKind.u8 (IntKind.wrap IntKind.u8 (Int.fdiv (IntKind.wrap IntKind.u64 evtF.at_) (2 ^ 0)))]; T16 ((toI (vi 0) ≤ evtF.kind ∧ toI (vi evtF.kind) < (↑19 : Int)) ∧ vs (ByteArray.mk #[102, 105, 116]) = vs (toS (cellAt #[Value.agg #[vz, vs (ByteArray.mk #[111, 114, 100, 101, 114]), vs (ByteArray.mk #[115, 104, 101, 101, 116]), vs (ByteArray.mk #[98, 97, 114]), vs (ByteArray.mk #[98, 117, 121]), vs (ByteArray.mk #[110, 101, 115, 116]), vs (ByteArray.mk #[115, 97, 119]), vs (ByteArray.mk #[115, 99, 114, 97, 112]), vs (ByteArray.mk #[102, 105, 116]), vs (ByteArray.mk #[119, 101, 108, 100]), vs (ByteArray.mk #[105, 110, 115, 112, 101, 99, 116]), vs (ByteArray.mk #[114, 101, 112, 97, 105, 114]), vs (ByteArray.mk #[112, 97, 99, 107, 97, 103, 101]), vs (ByteArray.mk #[119, 101, 105, 103, 104]), vs (ByteArray.mk #[101, 114, 101, 99, 116]), vs (ByteArray.mk #[112, 101, 114, 109, 105, 116]), vs (ByteArray.mk #[116, 101, 115, 116]), vs (ByteArray.mk #[108, 97, 117, 110, 99, 104]), vs (ByteArray.mk #[100, 101, 108, 105, 118, 101, 114])]] 0 (0 + 8))) ∧ T32 (T8 (T4 (T2 (True ∧ 3 ≤ 40 ∧ T2 (1 ≤ 40 ∧ True ∧ 2 ≤ 40 ∧ T8 (T2 (True ∧ 8 ≤ 8 ∧ ((Value.agg #[vz, vi 0, vi 0, vi 0, vi 0, vi 0, vi 0, nS] = Value.agg #[vz, vi 0, vi 0, vi 0, vi 0, vi 0, vi 0, nS] ∧ True) ∧ True) ∧ 8 ≤ 8 ∧ T32 (T32 (T32 (T32 (T32 (T32 (T32 (T8 (T2 (((T2 (True)) ∧ True) ∧ ∃ (o : Order2), eqL [Value.agg #[nilV (vs evtF.order.id), tree 38 0 #[]]] [order2V o] ∧ InOrder o ∧ FewO o ∧ ((Value.agg #[vz, nS] = Value.agg #[vz, nS] ∧ True) ∧ True) ∧ ((T2 (True)) ∧ True) ∧ ∃ (o_1 : Order2), eqL [Value.agg #[vz, tree 38 0 #[]]] [order2V o_1] ∧ InOrder o_1 ∧ FewO o_1 ∧ T2 (pIf (decide (bOrder o = bOrder o_1)) (T32 (T8 ((T2 (True)) ∧ ByteArray.mk #[46] = dot ∧ T8 (True ∧ ((toI (vi 0) ≤ if w64 q2 < w64 q1 then w64 q2 else w64 q1) ∧ (toI (vi q5) ≤ if w64 q2 < w64 q1 then w64 q2 else w64 q1) ∧ toI (vi q5) ≤ 2 ^ 25) ∧ T8 (T2 (True ∧ (toI (vi 0) ≤ 0 ∧ toI (vi 0) < (↑(Int.toNat q5) : Int)) ∧ 1 ≤ 1 ∧ T2 (True ∧ (toI (vi 0) ≤ w64 (0 + 1) ∧ True ∧ 0 ≤ 1 ∧ 1 ≤ 1) ∧ T8 (T2 (True ∧ (toI (vi 0) ≤ 0 ∧ toI (vi 0) < (↑(Int.toNat (w64 (0 + 1)) - 0) : Int)) ∧ T32 (T32 (T32 (T32 (T16 (T8 (T2 (True ∧ 1 ≤ 2 ∧ T16 (T4 (T2 (True ∧ toI (vi 0) ≤ 5 ∧ T8 (T2 (1 ≤ 1 ∧ 1 ≤ 33554432 ∧ true = true ∧ 1 = 1 ∧ True ∧ (1 ≤ 1 ∧ AllU8 [Value.int IntKind.u8 (IntKind.wrap IntKind.u8 (↑8 : Int))]) ∧ True ∧ ((nilV (vi evtF.at_) = vi evtF.at_ ∧ True) ∧ True) ∧ T4 (T2 (True ∧ toI (vi 0) ≤ 5 ∧ T8 (T2 (toI (vi 0) ≤ 0 ∧ toI (vi 0) ≤ IntKind.wrap IntKind.u64 (8 * 2 ^ min (Int.toNat 0) (IntKind.bits IntKind.u64)) ∧ T8 (True ∧ 1 ≤ 1 ∧ 1 ≤ 33554432 ∧ true = true ∧ 1 = 1 ∧ T2 (toI (vi 0) ≤ 0 ∧ T4 (T2 (True ∧ toI (vi 0) ≤ w64 (w64 (8 * 2 ^ min (Int.toNat 0) (IntKind.bits IntKind.i64)) - 8) ∧ T2 (1 ≤ 1 ∧ 2 ≤ 33554432 ∧ true = true ∧ 1 = 1 ∧ 1 = 1 ∧ T8 ((2 ≤ 2 ∧ AllU8 q3) ∧ T2 (3 ≤ 9223372036854775807 ∧ 3 ≤ 140737488355328 ∧ T32 (T8 (True ∧ toI (vi 0) ≤ 5 ∧ T8 (T2 (1 ≤ 1 ∧ 1 ≤ 33554432 ∧ true = true ∧ 1 = 1 ∧ T2 (True ∧ 3 ≤ 33554432 ∧ true = true ∧ 2 = 2 ∧ 1 = 1 ∧ (3 ≤ 3 ∧ AllU8 q4) ∧ T2 (6 ≤ 140737488355328 ∧ T2 (True ∧ 0 < 6 ∧ T2 ((T2 (True ∧ True)) ∧ true = true ∧ Post (Out.ret (Value.tuple #[vs (ByteArray.empty ++ (bytesL [Value.int IntKind.u8 (IntKind.wrap IntKind.u8 (↑8 : Int))] ++ bytesL q3) ++ bytesL q4), vi 0])) [])))))))))))))))))))))))))))))))))))))))) (T8 (T4 ((T2 (True ∧ True)) ∧ true = true ∧ Post (Out.ret (Value.tuple #[vz, vi 2])) [])))))))))))))))))))))) := by kernel_rfl
theorem pIf_same {α : Type} [DecidableEq α] {a : α} {X Y : Prop} (h : X) : pIf (decide (a = a)) X Y := pIf_intro (fun _ => h) (fun e => by simp at e)
theorem AllU8.nil : AllU8 [] := fun v hv => by cases hv
theorem AllU8.cons {v : Value} {l : List Value} (h : IsU8 v) (k : AllU8 l) : AllU8 (v :: l) := fun u hu => by
 rcases List.mem_cons.1 hu with rfl | hu
 ·exact h
 ·exact k u hu
def outL : Out := .ret (.tuple #[.string ⟨#[17, 5]⟩, .int .i64 0])
def outF : Out := .ret (.tuple #[.string ⟨#[8, 24, 100, 66, 80, 49]⟩, .int .i64 0])
theorem zero_inO : InOrder ⟨⟨#[]⟩, []⟩ := ⟨fun x hx => by cases hx⟩
theorem zero_fewO : FewO ⟨⟨#[]⟩, []⟩ := ⟨by decide, by decide, fun x hx => by cases hx⟩
theorem spec_encL : SpecX Tryz.prog 14 0 (hpOf []) [evN evtL] (xpost 0 fun r c => r = outL ∧ c = []) := by
 refine spec_W callA_ok mkA_ok mixed (by kernel_rfl) (Eq.mpr (e_encL (fun _ _ _ => True) _) ?_)
 repeat' (first
  | exact rfl
  | refine And.intro ?_ ?_
  | refine ⟨⟨⟨#[]⟩, []⟩, ?_, zero_inO, zero_fewO, ?_⟩
  | refine pIf_same ?_
  | trivial
  | exact AllU8.nil
  | refine AllU8.cons ⟨_, rfl⟩ ?_
  | decide
  | kernel_rfl)
theorem spec_encF : SpecX Tryz.prog 14 0 (hpOf []) [evN evtF] (xpost 0 fun r c => r = outF ∧ c = []) := by
 refine spec_W callA_ok mkA_ok mixed (by kernel_rfl) (Eq.mpr (e_encF (fun _ _ _ => True) _) ?_)
 repeat' (first
  | exact rfl
  | refine And.intro ?_ ?_
  | refine ⟨⟨⟨#[]⟩, []⟩, ?_, zero_inO, zero_fewO, ?_⟩
  | refine pIf_same ?_
  | trivial
  | exact AllU8.nil
  | refine AllU8.cons ⟨_, rfl⟩ ?_
  | decide
  | kernel_rfl)
def kindIs (k : Int) (args : List Value) : Bool := match args with
 | [.agg c] => match c.toList with
  | .int _ n :: _ => decide (n = k)
  | _ => false
 | _ => false
def c_EncA (args : List Value) (conts : List (List Value)) (Post : Out → List (List Value) → Prop) : Prop :=
 match conts with
 | [] => bif kindIs 17 args then args = [evN evtL] ∧ Post outL [] else args = [evN evtF] ∧ Post outF []
 | _ => False
theorem specX_back {P : Program} {f : FuncId} {args : List Value} {o : Out} (h : SpecX P f 0 (hpOf []) args (xpost 0 fun r c => r = o ∧ c = [])) {Post : Out → List (List Value) → Prop} (hP : Post o []) : SpecX P f 0 (hpOf []) args (xpost 0 Post) := by
 intro W ρ w args' h1 h2 h3
 refine (h W ρ w args' h1 h2 h3).mono fun e w' ⟨r, hp', nx', ρ', g1, g2⟩ => ⟨r, hp', nx', ρ', ?_, g2⟩
 unfold xpost at g1 ⊢
 split at g1
 ·obtain ⟨k1, rfl, rfl⟩ := g1
  exact ⟨k1, hP⟩
 ·exact g1.elim
theorem ok_EncA : XEntOk Tryz.prog ⟨14, c_EncA⟩ := by
 intro args conts Post h
 unfold c_EncA at h
 dsimp only at h
 split at h
 case h_2 => exact h.elim
 cases hk : kindIs 17 args with
 | true =>
  rw [hk, cond_true] at h
  obtain ⟨rfl, h⟩ := h
  exact specX_back spec_encL h
 | false =>
  rw [hk, cond_false] at h
  obtain ⟨rfl, h⟩ := h
  exact specX_back spec_encF h
def plainK (k : Int) (x : Event) : Event :=
 let y : Event := { evt0 with kind := x.kind, at_ := x.at_ }
 if k = 1 then { y with order := x.order }
 else if k = 2 then { y with sheet := x.sheet }
 else if k = 3 then { y with bar := x.bar }
 else if k = 4 then { y with item := x.item, by_ := x.by_ }
 else if k = 5 then { y with nest := x.nest }
 else if k = 6 then { y with saw := x.saw }
 else if k = 7 ∨ k = 8 ∨ k = 12 ∨ k = 16 then { y with item := x.item }
 else if k = 9 ∨ k = 11 then { y with item := x.item, of_ := x.of_, by_ := x.by_ }
 else if k = 10 then { y with item := x.item, n := x.n, pass := x.pass }
 else if k = 13 then { y with weig := ⟨x.weig.block, 0, x.weig.mass, x.weig.centre, x.weig.sigma, []⟩ }
 else if k = 14 then { y with lift := x.lift }
 else if k = 15 then { y with permit := x.permit }
 else y
def clearK (k : Int) (x : Event) : Event :=
 if k = 1 then { x with order := evt0.order }
 else if k = 2 then { x with sheet := evt0.sheet }
 else if k = 3 then { x with bar := evt0.bar }
 else if k = 4 then { x with item := evt0.item, by_ := evt0.by_ }
 else if k = 5 then { x with nest := evt0.nest }
 else if k = 6 then { x with saw := evt0.saw }
 else if k = 7 ∨ k = 8 ∨ k = 12 ∨ k = 16 then { x with item := evt0.item }
 else if k = 9 ∨ k = 11 then { x with item := evt0.item, of_ := evt0.of_, by_ := evt0.by_ }
 else if k = 10 then { x with item := evt0.item, n := 0, pass := false }
 else if k = 13 then { x with weig := ⟨⟨#[]⟩, x.weig.at_, 0, ⟨0, 0, 0⟩, 0, x.weig.parts⟩ }
 else if k = 14 then { x with lift := evt0.lift }
 else if k = 15 then { x with permit := evt0.permit }
 else x
theorem kinds {k : Int} (h1 : 1 ≤ k) (h2 : k ≤ 18) : k = 1 ∨ k = 2 ∨ k = 3 ∨ k = 4 ∨ k = 5 ∨ k = 6 ∨ k = 7 ∨ k = 8 ∨ k = 9 ∨ k = 10 ∨ k = 11 ∨ k = 12 ∨ k = 13 ∨ k = 14 ∨ k = 15 ∨ k = 16 ∨ k = 17 ∨ k = 18 := by omega
theorem ev_iff {x y : Event} : x = y ↔ x.kind = y.kind ∧ x.at_ = y.at_ ∧ x.item = y.item ∧ x.of_ = y.of_ ∧ x.by_ = y.by_ ∧ x.n = y.n ∧ x.pass = y.pass ∧ x.order = y.order ∧ x.sheet = y.sheet ∧ x.bar = y.bar ∧ x.nest = y.nest ∧ x.saw = y.saw ∧ x.weig = y.weig ∧ x.lift = y.lift ∧ x.permit = y.permit := by
 cases x; cases y; exact Event.mk.injEq .. ▸ Iff.rfl
theorem weig_iff {x y : Weig} : x = y ↔ x.block = y.block ∧ x.at_ = y.at_ ∧ x.mass = y.mass ∧ x.centre = y.centre ∧ x.sigma = y.sigma ∧ x.parts = y.parts := by
 cases x; cases y; exact Weig.mk.injEq .. ▸ Iff.rfl
set_option maxHeartbeats 1000000 in
theorem clear_plain {x : Event} (h1 : 1 ≤ x.kind) (h2 : x.kind ≤ 18) : ({ clearK x.kind x with kind := 0, at_ := 0 } = evt0) ↔ x = plainK x.kind x := by
 have hk := kinds h1 h2
 rcases hk with hk | hk | hk | hk | hk | hk | hk | hk | hk | hk | hk | hk | hk | hk | hk | hk | hk | hk <;>
  (rw [ev_iff, ev_iff]; simp [clearK, plainK, evt0, weig_iff, hk])
def big (s : ByteArray) : Bool := decide (64 < s.size)
def off (n : Int) : Bool := decide (n < -1099511627776) || decide (1099511627776 < n)
def longK (k : Int) (x : Event) : Bool :=
 if k = 1 then decide (32 < x.order.edits.length)
 else if k = 2 then big x.sheet.id || big x.sheet.grade || big x.sheet.heat
 else if k = 3 then big x.bar.id || big x.bar.sect || big x.bar.grade || big x.bar.heat
 else if k = 4 then big x.item || big x.by_
 else if k = 5 then big x.nest.sheet || decide (32 < x.nest.spots.length) || x.nest.spots.any fun s => big s.part
 else if k = 6 then big x.saw.bar || decide (24 < x.saw.parts.length) || x.saw.parts.any big
 else if k = 7 ∨ k = 8 ∨ k = 12 ∨ k = 16 then big x.item
 else if k = 9 ∨ k = 11 then big x.item || big x.of_ || big x.by_
 else if k = 10 then big x.item
 else if k = 13 then big x.weig.block
 else if k = 14 then big x.lift.block || decide (2 < x.lift.hooks.length) || x.lift.hooks.any fun h => big h.crane
 else if k = 15 then big x.permit.id
 else false
def offSpot (s : Spot) : Bool := off s.at_.x || off s.at_.y || off s.turn
def offHook (h : Hook4) : Bool := off h.at_.x || off h.at_.y || off h.radius
def farK (k : Int) (x : Event) : Bool :=
 if k = 1 then false
 else if k = 2 then off x.sheet.thick || off x.sheet.long || off x.sheet.width
 else if k = 3 then off x.bar.long
 else if k = 5 then off x.nest.gap || x.nest.spots.any offSpot
 else if k = 6 then off x.saw.kerf
 else if k = 10 then decide (x.n < 1) || decide (5 < x.n)
 else if k = 13 then off x.weig.mass || off x.weig.centre.x || off x.weig.centre.y || off x.weig.centre.z || off x.weig.sigma
 else if k = 14 then x.lift.hooks.any offHook
 else if k = 15 then off x.permit.kind || off x.permit.time.a || off x.permit.time.b
 else false
inductive Va where
 | s (x : ByteArray)
 | i (n : Int)
 | b (x : Bool)
inductive Fd where
 | t
 | n (lo hi : Int)
 | b
def bBool (b : Bool) : ByteArray := bif b then ⟨#[245]⟩ else ⟨#[244]⟩
def bVa : Va → ByteArray
 | .s x => bText x
 | .i n => bInt n
 | .b x => bBool x
def bVs : List Va → ByteArray
 | [] => ⟨#[]⟩
 | v :: l => bVa v ++ bVs l
def bEs : List (List Va) → ByteArray
 | [] => ⟨#[]⟩
 | l :: ls => bVs l ++ bEs ls
abbrev nF : Fd := .n (-1099511627776) 1099511627776
def shN : Nat → List Fd
 | 2 => [.t, .t, nF, nF, nF, .t]
 | 3 => [.t, .t, .t, nF, .t]
 | 4 => [.t, .t]
 | 5 => [.t, nF]
 | 6 => [.t, nF]
 | 7 => [.t]
 | 8 => [.t]
 | 9 => [.t, .t, .t]
 | 10 => [.t, .n 1 5, .b]
 | 11 => [.t, .t, .t]
 | 12 => [.t]
 | 13 => [.t, nF, nF, nF, nF, nF]
 | 14 => [.t]
 | 15 => [.t, nF, nF, nF]
 | 16 => [.t]
 | _ => []
def shE : Nat → Option (Nat × List Fd)
 | 5 => some (32, [.t, nF, nF, nF, .b])
 | 6 => some (24, [.t])
 | 14 => some (2, [.t, nF, nF, nF])
 | _ => none
def vaN (x : Event) : Nat → List Va
 | 2 => [.s x.sheet.id, .s x.sheet.grade, .i x.sheet.thick, .i x.sheet.long, .i x.sheet.width, .s x.sheet.heat]
 | 3 => [.s x.bar.id, .s x.bar.sect, .s x.bar.grade, .i x.bar.long, .s x.bar.heat]
 | 4 => [.s x.item, .s x.by_]
 | 5 => [.s x.nest.sheet, .i x.nest.gap]
 | 6 => [.s x.saw.bar, .i x.saw.kerf]
 | 7 => [.s x.item]
 | 8 => [.s x.item]
 | 9 => [.s x.item, .s x.of_, .s x.by_]
 | 10 => [.s x.item, .i x.n, .b x.pass]
 | 11 => [.s x.item, .s x.of_, .s x.by_]
 | 12 => [.s x.item]
 | 13 => [.s x.weig.block, .i x.weig.mass, .i x.weig.centre.x, .i x.weig.centre.y, .i x.weig.centre.z, .i x.weig.sigma]
 | 14 => [.s x.lift.block]
 | 15 => [.s x.permit.id, .i x.permit.kind, .i x.permit.time.a, .i x.permit.time.b]
 | 16 => [.s x.item]
 | _ => []
def vaSpot (s : Spot) : List Va := [.s s.part, .i s.at_.x, .i s.at_.y, .i s.turn, .b s.flip]
def vaHook (h : Hook4) : List Va := [.s h.crane, .i h.at_.x, .i h.at_.y, .i h.radius]
def vaE (x : Event) : Nat → List (List Va)
 | 5 => x.nest.spots.map vaSpot
 | 6 => x.saw.parts.map fun p => [.s p]
 | 14 => x.lift.hooks.map vaHook
 | _ => []
def bLs (x : Event) (k : Nat) : ByteArray := match shE k with
 | none => ⟨#[]⟩
 | some _ => bList (vaE x k).length ++ bEs (vaE x k)
def bBody (x : Event) : Nat → ByteArray
 | 1 => bText (bOrder x.order)
 | k => bVs (vaN x k) ++ bLs x k
def bEv (x : Event) : ByteArray := bInt x.kind ++ bInt x.at_ ++ bBody x x.kind.toNat
theorem ba_nilr (a : ByteArray) : a ++ (⟨#[]⟩ : ByteArray) = a := ba_ext (by rw [ByteArray.data_append, Array.toList_append]; simp)
theorem bEs_snoc : ∀ (l : List (List Va)) (v : List Va), bEs (l ++ [v]) = bEs l ++ bVs v
 | [], v => by simp only [List.nil_append, bEs, ba_nil, ba_nilr]
 | a :: l, v => by simp only [List.cons_append, bEs, bEs_snoc l v, ba_assoc]
theorem bEs_take {l : List (List Va)} {k : Nat} (h : k < l.length) : bEs (l.take (k + 1)) = bEs (l.take k) ++ bVs l[k] := by
 rw [List.take_succ_eq_append_getElem h, bEs_snoc]
def fit : Fd → Va → Prop
 | .t, .s x => x.size ≤ 64
 | .n lo hi, .i n => lo ≤ n ∧ n ≤ hi
 | .b, .b _ => True
 | _, _ => False
def fits : List Fd → List Va → Prop
 | [], [] => True
 | f :: fs, v :: vs => fit f v ∧ fits fs vs
 | _, _ => False
def fitsL (x : Event) (k : Nat) : Prop := match shE k with
 | none => True
 | some (m, fs) => (vaE x k).length ≤ m ∧ ∀ v ∈ vaE x k, fits fs v
theorem fits_all {x : Event} (h1 : 1 ≤ x.kind) (h2 : x.kind ≤ 18) (hl : longK x.kind x = false) (hf : farK x.kind x = false) : fits (shN x.kind.toNat) (vaN x x.kind.toNat) ∧ fitsL x x.kind.toNat := by
 have hk := kinds h1 h2
 rcases hk with hk | hk | hk | hk | hk | hk | hk | hk | hk | hk | hk | hk | hk | hk | hk | hk | hk | hk <;>
  (rw [hk] at hl hf ⊢; simp [longK, farK, big, off, offSpot, offHook] at hl hf; simp [fits, fit, shN, vaN, fitsL, shE, vaE, vaSpot, vaHook]; try omega)
 ·refine ⟨by omega, by omega, fun s hs => ?_⟩
  have a := hl.2 s hs
  have b := hf.2 s hs
  omega
 ·exact ⟨by omega, by omega, hl.2⟩
 ·refine ⟨by omega, by omega, fun s hs => ?_⟩
  have a := hl.2 s hs
  have b := hf s hs
  omega
def fewX (x : Edit) : Prop := x.pack.parts.length ≤ 40 ∧ x.pack.after.length ≤ 40 ∧ x.part.outer.length ≤ 100 ∧ x.part.holes.length ≤ 20 ∧ ∀ h ∈ x.part.holes, h.length ≤ 100
instance (x : Edit) : Decidable (fewX x) := by unfold fewX; infer_instance
def few20 (o : Order2) (m : Int) : Prop := o.id.size ≤ 100 ∧ (o.edits.length : Int) ≤ m ∧ ∀ x ∈ o.edits, fewX x
instance (o : Order2) (m : Int) : Decidable (few20 o m) := by unfold few20; infer_instance
def few59 (x : Event) (m : Int) : Prop := few20 x.order m ∧ (x.nest.spots.length : Int) ≤ m ∧ (x.saw.parts.length : Int) ≤ m ∧ (x.lift.hooks.length : Int) ≤ m ∧ (x.weig.parts.length : Int) ≤ m
instance (x : Event) (m : Int) : Decidable (few59 x m) := by unfold few59; infer_instance
end Go.Proofs.YtegjnjmimfgijaaGreatDoor
noncomputable section
namespace Go.Proofs.YtegjnjmimfgijaaGreatDoor
open Go Go.RowKit Go.ChangeShapes Go.WideShapes Go.ChangeAt Go.Deep Go.Joins
class Vol (α : Type) where
 vol : α → Nat
 pos : ∀ a, 1 ≤ vol a
instance : Vol Int := ⟨fun _ => 1, fun _ => Nat.le_refl _⟩
instance : Vol Bool := ⟨fun _ => 1, fun _ => Nat.le_refl _⟩
instance : Vol ByteArray := ⟨fun s => 1 + s.size, fun s => Nat.le_add_right _ _⟩
instance {α : Type} [Vol α] : Vol (List α) := ⟨fun l => 1 + (l.map Vol.vol).sum, fun s => Nat.le_add_right _ _⟩
instance {α β : Type} [Vol α] [Vol β] : Vol (α × β) := ⟨fun p => 1 + (Vol.vol p.1 + (Vol.vol p.2 + 0)), fun s => Nat.le_add_right _ _⟩
def BK {H : Type} (xs : List (DataW H × List MemPlace)) (k s : Nat) : Prop := s ≤ Rows.uptoBulkAll ((xs.drop k).map (·.1))
def BK1 {H : Type} (xs : List (DataW H × List MemPlace)) (k v : Nat) : Prop := ∃ y, xs[k]? = some y ∧ v ≤ Rows.uptoBulk y.1
theorem BK1.next {H : Type} {xs : List (DataW H × List MemPlace)} {k v s : Nat} (h : BK1 xs k v) (r : BK xs (k + 1) s) : BK xs k (v + s) := by
 obtain ⟨y, h1, h2⟩ := h
 unfold BK at r ⊢
 have hk : k < xs.length := by
  rcases Nat.lt_or_ge k xs.length with h | h
  ·exact h
  ·rw [List.getElem?_eq_none h] at h1; cases h1
 rw [List.drop_eq_getElem_cons hk, List.map_cons]
 rw [List.getElem?_eq_getElem hk] at h1
 cases h1
 simp only [Rows.uptoBulkAll]
 omega
theorem BK.done {H : Type} {xs : List (DataW H × List MemPlace)} {k : Nat} : BK xs k 0 := Nat.zero_le _
theorem BK.agg {H : Type} {xs : List (DataW H × List MemPlace)} {s : Nat} (h : BK xs 0 s) : 1 + s ≤ Rows.uptoBulk (.agg (xs.map (·.1))) := by
 unfold BK at h
 simp only [List.drop_zero] at h
 simp only [Rows.uptoBulk]
 omega
section
variable {P : Program} {w : World}
end
end Go.Proofs.YtegjnjmimfgijaaGreatDoor

noncomputable section
namespace Go.Proofs.YtegjnjmimfgijaaGreatDoor
open Go Go.RowKit Go.ChangeShapes Go.WideShapes Go.ChangeAt Go.Deep Go.Joins
set_option maxRecDepth 100000
instance : Vol Pt := ⟨fun p => 1 + (Vol.vol p.x + (Vol.vol p.y + (0))), fun _ => Nat.le_add_right _ _⟩
def okPt (p : Pt) : Prop := In64 p.x ∧ In64 p.y
instance : Vol Vec3 := ⟨fun p => 1 + (Vol.vol p.x + (Vol.vol p.y + (Vol.vol p.z + (0)))), fun _ => Nat.le_add_right _ _⟩
def okVec3 (p : Vec3) : Prop := In64 p.x ∧ In64 p.y ∧ In64 p.z
instance : Vol Part := ⟨fun p => 1 + (Vol.vol p.id + (Vol.vol p.rev + (Vol.vol p.kind + (Vol.vol p.node + (Vol.vol p.grade + (Vol.vol p.thick + (Vol.vol p.outer + (Vol.vol p.holes + (Vol.vol p.sect + (Vol.vol p.long + (Vol.vol p.mass + (Vol.vol p.centre + (Vol.vol p.at_ + (Vol.vol p.turn + (0))))))))))))))), fun _ => Nat.le_add_right _ _⟩
abbrev okPart (p : Part) : Prop := InPart p
instance : Vol Node3 := ⟨fun p => 1 + (Vol.vol p.id + (Vol.vol p.kind + (Vol.vol p.parent + (0)))), fun _ => Nat.le_add_right _ _⟩
def okNode3 (p : Node3) : Prop := p.id.size ≤ maxLen ∧ In64 p.kind ∧ p.parent.size ≤ maxLen
instance : Vol Seam6 := ⟨fun p => 1 + (Vol.vol p.id + (Vol.vol p.a + (Vol.vol p.b + (Vol.vol p.kind + (Vol.vol p.long + (Vol.vol p.cls + (0))))))), fun _ => Nat.le_add_right _ _⟩
def okSeam6 (p : Seam6) : Prop := p.id.size ≤ maxLen ∧ p.a.size ≤ maxLen ∧ p.b.size ≤ maxLen ∧ In64 p.kind ∧ In64 p.long ∧ In64 p.cls
instance : Vol Pack5 := ⟨fun p => 1 + (Vol.vol p.id + (Vol.vol p.block + (Vol.vol p.parts + (Vol.vol p.hours + (Vol.vol p.after + (0)))))), fun _ => Nat.le_add_right _ _⟩
def okPack5 (p : Pack5) : Prop := p.id.size ≤ maxLen ∧ p.block.size ≤ maxLen ∧ (p.parts.length ≤ maxLen ∧ ∀ a ∈ p.parts, a.size ≤ maxLen) ∧ In64 p.hours ∧ (p.after.length ≤ maxLen ∧ ∀ a ∈ p.after, a.size ≤ maxLen)
instance : Vol Need3 := ⟨fun p => 1 + (Vol.vol p.kind + (Vol.vol p.block + (Vol.vol p.on + (0)))), fun _ => Nat.le_add_right _ _⟩
def okNeed3 (p : Need3) : Prop := In64 p.kind ∧ p.block.size ≤ maxLen ∧ p.on.size ≤ maxLen
instance : Vol Edit := ⟨fun p => 1 + (Vol.vol p.kind + (Vol.vol p.id + (Vol.vol p.to + (Vol.vol p.node + (Vol.vol p.part + (Vol.vol p.seam + (Vol.vol p.pack + (Vol.vol p.need + (0))))))))), fun _ => Nat.le_add_right _ _⟩
def okEdit (p : Edit) : Prop := In64 p.kind ∧ p.id.size ≤ maxLen ∧ p.to.size ≤ maxLen ∧ okNode3 p.node ∧ okPart p.part ∧ okSeam6 p.seam ∧ okPack5 p.pack ∧ okNeed3 p.need
instance : Vol Order2 := ⟨fun p => 1 + (Vol.vol p.id + (Vol.vol p.edits + (0))), fun _ => Nat.le_add_right _ _⟩
def okOrder2 (p : Order2) : Prop := p.id.size ≤ maxLen ∧ (p.edits.length ≤ maxLen ∧ ∀ a ∈ p.edits, okEdit a)
instance : Vol Sheet6 := ⟨fun p => 1 + (Vol.vol p.id + (Vol.vol p.grade + (Vol.vol p.thick + (Vol.vol p.long + (Vol.vol p.width + (Vol.vol p.heat + (0))))))), fun _ => Nat.le_add_right _ _⟩
def okSheet6 (p : Sheet6) : Prop := p.id.size ≤ maxLen ∧ p.grade.size ≤ maxLen ∧ In64 p.thick ∧ In64 p.long ∧ In64 p.width ∧ p.heat.size ≤ maxLen
instance : Vol Bar5 := ⟨fun p => 1 + (Vol.vol p.id + (Vol.vol p.sect + (Vol.vol p.grade + (Vol.vol p.long + (Vol.vol p.heat + (0)))))), fun _ => Nat.le_add_right _ _⟩
def okBar5 (p : Bar5) : Prop := p.id.size ≤ maxLen ∧ p.sect.size ≤ maxLen ∧ p.grade.size ≤ maxLen ∧ In64 p.long ∧ p.heat.size ≤ maxLen
instance : Vol Spot := ⟨fun p => 1 + (Vol.vol p.part + (Vol.vol p.at_ + (Vol.vol p.turn + (Vol.vol p.flip + (0))))), fun _ => Nat.le_add_right _ _⟩
def okSpot (p : Spot) : Prop := p.part.size ≤ maxLen ∧ okPt p.at_ ∧ In64 p.turn ∧ True
instance : Vol Nest3 := ⟨fun p => 1 + (Vol.vol p.sheet + (Vol.vol p.gap + (Vol.vol p.spots + (0)))), fun _ => Nat.le_add_right _ _⟩
def okNest3 (p : Nest3) : Prop := p.sheet.size ≤ maxLen ∧ In64 p.gap ∧ (p.spots.length ≤ maxLen ∧ ∀ a ∈ p.spots, okSpot a)
instance : Vol Saw3 := ⟨fun p => 1 + (Vol.vol p.bar + (Vol.vol p.kerf + (Vol.vol p.parts + (0)))), fun _ => Nat.le_add_right _ _⟩
def okSaw3 (p : Saw3) : Prop := p.bar.size ≤ maxLen ∧ In64 p.kerf ∧ (p.parts.length ≤ maxLen ∧ ∀ a ∈ p.parts, a.size ≤ maxLen)
instance : Vol Weig := ⟨fun p => 1 + (Vol.vol p.block + (Vol.vol p.at_ + (Vol.vol p.mass + (Vol.vol p.centre + (Vol.vol p.sigma + (Vol.vol p.parts + (0))))))), fun _ => Nat.le_add_right _ _⟩
def okWeig (p : Weig) : Prop := p.block.size ≤ maxLen ∧ In64 p.at_ ∧ In64 p.mass ∧ okVec3 p.centre ∧ In64 p.sigma ∧ (p.parts.length ≤ maxLen ∧ ∀ a ∈ p.parts, a.size ≤ maxLen)
instance : Vol Hook4 := ⟨fun p => 1 + (Vol.vol p.crane + (Vol.vol p.at_ + (Vol.vol p.radius + (0)))), fun _ => Nat.le_add_right _ _⟩
def okHook4 (p : Hook4) : Prop := p.crane.size ≤ maxLen ∧ okPt p.at_ ∧ In64 p.radius
instance : Vol Lift2 := ⟨fun p => 1 + (Vol.vol p.block + (Vol.vol p.hooks + (0))), fun _ => Nat.le_add_right _ _⟩
def okLift2 (p : Lift2) : Prop := p.block.size ≤ maxLen ∧ (p.hooks.length ≤ maxLen ∧ ∀ a ∈ p.hooks, okHook4 a)
instance : Vol Span2 := ⟨fun p => 1 + (Vol.vol p.a + (Vol.vol p.b + (0))), fun _ => Nat.le_add_right _ _⟩
def okSpan2 (p : Span2) : Prop := In64 p.a ∧ In64 p.b
instance : Vol Permit3 := ⟨fun p => 1 + (Vol.vol p.id + (Vol.vol p.kind + (Vol.vol p.time + (0)))), fun _ => Nat.le_add_right _ _⟩
def okPermit3 (p : Permit3) : Prop := p.id.size ≤ maxLen ∧ In64 p.kind ∧ okSpan2 p.time
instance : Vol Event := ⟨fun p => 1 + (Vol.vol p.kind + (Vol.vol p.at_ + (Vol.vol p.item + (Vol.vol p.of_ + (Vol.vol p.by_ + (Vol.vol p.n + (Vol.vol p.pass + (Vol.vol p.order + (Vol.vol p.sheet + (Vol.vol p.bar + (Vol.vol p.nest + (Vol.vol p.saw + (Vol.vol p.weig + (Vol.vol p.lift + (Vol.vol p.permit + (0)))))))))))))))), fun _ => Nat.le_add_right _ _⟩
def okEvent (p : Event) : Prop := In64 p.kind ∧ In64 p.at_ ∧ p.item.size ≤ maxLen ∧ p.of_.size ≤ maxLen ∧ p.by_.size ≤ maxLen ∧ In64 p.n ∧ True ∧ okOrder2 p.order ∧ okSheet6 p.sheet ∧ okBar5 p.bar ∧ okNest3 p.nest ∧ okSaw3 p.saw ∧ okWeig p.weig ∧ okLift2 p.lift ∧ okPermit3 p.permit
end Go.Proofs.YtegjnjmimfgijaaGreatDoor

noncomputable section
namespace Go.Proofs.YtegjnjmimfgijaaGreatDoor
open Go Go.RowKit
set_option maxRecDepth 100000
set_option maxHeartbeats 8000000
theorem in_order {o : Order2} (h : okOrder2 o) : InOrder o := ⟨fun x hx => by
 obtain ⟨h1, _, _, h4, h5, h6, h7, h8⟩ := h.2.2 x hx
 exact ⟨h1, h4.2.1, h5, h6.2.2.2.1, h6.2.2.2.2.1, h6.2.2.2.2.2, h7.2.2.2.1, h8.1⟩⟩
structure GoodEv (x : Event) : Prop where
 ok : okEvent x
 vol : Vol.vol x ≤ 1048576
theorem GoodEv.inO {x : Event} (h : GoodEv x) : InOrder x.order := in_order h.ok.2.2.2.2.2.2.2.1
def inlC : List FuncId := [47, 48, 49, 50, 51, 158, 159, 160, 161, 162, 129, 130, 131, 132, 133]
def callC2 : PCall := inlP Tryz.prog inlC noP 4
theorem callC2_ok : PCallOk Tryz.prog callC2 := inlP_ok mixed noP_ok 4
abbrev argsLim : List Value := [.pointer (some ⟨0, 0, none⟩), .iface 67 (.pointer (some ⟨1, 0, none⟩))]
theorem pIfD {P : Prop} [Decidable P] {X Y : Prop} (h1 : P → X) (h2 : ¬ P → Y) : pIf (decide P) X Y := pIf_intro (fun h => h1 (of_decide_eq_true h)) (fun h => h2 (of_decide_eq_false h))
theorem pIfN {P : Prop} [Decidable P] {X Y : Prop} (h1 : ¬ P → X) (h2 : P → Y) : pIf (!decide P) X Y := pIf_intro (fun h => h1 (by simpa using h)) (fun h => h2 (by simpa using h))
theorem any_take {α : Type} {l : List α} {f : α → Bool} {k : Nat} (h : k < l.length) : (l.take (k + 1)).any f = ((l.take k).any f || f l[k]) := by
 rw [List.take_succ_eq_append_getElem h, List.any_append]
 simp
abbrev ptr2 : Value := .pointer (some ⟨2, 0, none⟩)
abbrev ptr1 : Value := .pointer (some ⟨1, 0, none⟩)
def tabRd : List IEnt := [⟨78, k_I⟩, ⟨147, k_T⟩, ⟨146, k_L⟩, ⟨145, k_B⟩]
def nextR : PCall := ofV (itabCall tabRd noCall)
def inlR : List FuncId := [47, 48, 49, 50, 51, 141, 142, 63, 144, 79, 80]
def callR : PCall := inlP Tryz.prog inlR nextR 5
abbrev argsR : List Value := [ptr0, .iface 88 ptr1]
abbrev nilS : Value := .slice none 0 0
abbrev cells0 (k a : Int) : List Value := [.int .i64 k, .int .i64 a, .string ⟨#[]⟩, .string ⟨#[]⟩, .string ⟨#[]⟩, .int .i64 0, .bool false, .string ⟨#[]⟩, nilS, .string ⟨#[]⟩, .string ⟨#[]⟩, .int .i64 0, .int .i64 0, .int .i64 0, .string ⟨#[]⟩, .string ⟨#[]⟩, .string ⟨#[]⟩, .string ⟨#[]⟩, .int .i64 0, .string ⟨#[]⟩, .string ⟨#[]⟩, .int .i64 0, nilS, .string ⟨#[]⟩, .int .i64 0, nilS, .string ⟨#[]⟩, .int .i64 0, .int .i64 0, .int .i64 0, .int .i64 0, .int .i64 0, .int .i64 0, nilS, .string ⟨#[]⟩, nilS, .string ⟨#[]⟩, .int .i64 0, .int .i64 0, .int .i64 0]
theorem e_rd (k a w : Int) (s : ByteArray) (H : HT) (Post : PX) : vcX Tryz.prog callR 22 [(19, [0, 1, 132, 133]), (31, [0, 1, 203, 204]), (55, [0, 1, 330, 331])] [cells0 k a, [ptr2, .int .i64 w], [.string s, .int .i64 0]] argsR H Post = (let pP := fun (c : List Value) (r : ByteArray) (e : Nat) => Post (Out.pan (Value.iface 50 (vi (Int.ofNat (e + 1))))) [c, [pt 2, vi w], [vs r, vi (Int.ofNat (e + 1))]]; let t37 := [vi 0, vi 0, vi 0]; let t36 := vz :: t37; let t35 := nS :: t36; let t33 := nS :: vz :: t35; let t32 := vi 0 :: t33; let t31 := vi 0 :: t32; let t30 := vi 0 :: t31; let t29 := vi 0 :: t30; let t27 := vi 0 :: vi 0 :: t29; let t26 := vz :: t27; let t25 := nS :: t26; let t24 := vi 0 :: t25; let t23 := vz :: t24; let t22 := nS :: t23; let t21 := vi 0 :: t22; let t20 := vz :: t21; let t19 := vz :: t20; let t18 := vi 0 :: t19; let t17 := vz :: t18; let t16 := vz :: t17; let t15 := vz :: t16; let t14 := vz :: t15; let t13 := vi 0 :: t14; let t12 := vi 0 :: t13; let t11 := vi 0 :: t12; let t10 := vz :: t11; let t7 := vz :: nS :: vz :: t10; let t6 := vb false :: t7; let t5 := vi 0 :: t6; let t4 := vz :: t5; let h2 := fun (t : List Value) => vi k :: vi a :: t; let h9 := fun (t : List Value) => h2 (vz :: vz :: vz :: vi 0 :: vb false :: vz :: nS :: t); let h15 := fun (t : List Value) => h9 (vz :: vz :: vi 0 :: vi 0 :: vi 0 :: vz :: t); let h20 := fun (t : List Value) => h15 (vz :: vz :: vz :: vi 0 :: vz :: t); let h23 := fun (t : List Value) => h20 (vz :: vi 0 :: nS :: t); let h26 := fun (t : List Value) => h23 (vz :: vi 0 :: nS :: t); let h34 := fun (t : List Value) => h26 (vz :: vi 0 :: vi 0 :: vi 0 :: vi 0 :: vi 0 :: vi 0 :: nS :: t); let h36 := fun (t : List Value) => h34 (vz :: nS :: t); let q12 := (toI (vi 0) ≤ 0 ∧ toI (vi 0) < (↑1 : Int)); let q6 := IntKind.wrap IntKind.i64 (0 + 1) + 1; let q11 := IntKind.wrap IntKind.i64 q6 + 1; let q10 := vi (IntKind.wrap IntKind.i64 (0 + 1)); let q9 := (1, some (Value.iface 88 (pt 1))); let q8 := (toI (vi 0) ≤ 0 ∧ toI (vi 0) < (↑3 : Int)); let q7 := (1, some (AObj.cells [pt 2, vi w] true)); let q5 := Out.ret (Value.tuple #[]); let q4 := (toI (vi 0) ≤ IntKind.wrap IntKind.i64 (0 + 1) ∧ toI q10 < (↑3 : Int)); let q3 := (toI (vi 0) ≤ IntKind.wrap IntKind.i64 q6 ∧ toI (vi (IntKind.wrap IntKind.i64 q6)) < (↑3 : Int)); let q2 := (T32 (T8 (True))) ∧ (T2 (True)) ∧ (T2 (True)) ∧ True; let q1 := [vi k, vi a, vz, vz, vz, vi 0, vb false, vz, nS, vz, vz, vi 0, vi 0, vi 0, vz, vz, vz, vz, vi 0, vz, vz, vi 0, nS, vz, vi 0, nS, vz, vi 0, vi 0, vi 0, vi 0, vi 0, vi 0, nS, vz, nS, vz, vi 0, vi 0, vi 0]; True ∧ True ∧ True ∧ True ∧ True ∧ pIf (decide (k = 1)) (T8 (False)) (True ∧ True ∧ pIf (decide (k = 2)) (T16 (True ∧ (toI (vi 0) ≤ 0 ∧ toI (vi 0) < (↑2 : Int)) ∧ T8 (True ∧ true = true ∧ s.size < 4611686018427387904 ∧ 64 < 4611686018427387904 ∧ (∀ (v r : ByteArray), rsT 64 s = Rs.ok v r → 1 = 1 ∧ True ∧ 10 ≤ 40 ∧ T16 (T4 ((toI (vi 0) ≤ IntKind.wrap IntKind.i64 (0 + 1) ∧ toI q10 < (↑2 : Int)) ∧ T8 (True ∧ true = true ∧ r.size < 4611686018427387904 ∧ 64 < 4611686018427387904 ∧ (∀ (v_1 r_1 : ByteArray), rsT 64 r = Rs.ok v_1 r_1 → 1 = 1 ∧ True ∧ 11 ≤ 40 ∧ T32 (T4 (q8 ∧ T8 (T2 (True ∧ true = true ∧ r_1.size < 4611686018427387904 ∧ (∀ (v_2 : Int) (r : ByteArray), rsI (-1099511627776) 1099511627776 r_1 = Rs.ok v_2 r → 1 = 1 ∧ True ∧ 12 ≤ 40 ∧ T16 (T4 (q4 ∧ T8 (T2 (True ∧ true = true ∧ r.size < 4611686018427387904 ∧ (∀ (v_3 : Int) (r_2 : ByteArray), rsI (-1099511627776) 1099511627776 r = Rs.ok v_3 r_2 → 1 = 1 ∧ True ∧ 13 ≤ 40 ∧ T16 (T4 (q3 ∧ T8 (T2 (True ∧ true = true ∧ r_2.size < 4611686018427387904 ∧ (∀ (v_4 : Int) (r : ByteArray), rsI (-1099511627776) 1099511627776 r_2 = Rs.ok v_4 r → 1 = 1 ∧ True ∧ 14 ≤ 40 ∧ T32 (True ∧ true = true ∧ r.size < 4611686018427387904 ∧ 64 < 4611686018427387904 ∧ (∀ (v_5 r_3 : ByteArray), rsT 64 r = Rs.ok v_5 r_3 → 1 = 1 ∧ True ∧ 15 ≤ 40 ∧ T16 (T2 ((q2 ∧ True) ∧ true = true ∧ Post q5 [(h9 (vs v :: vs v_1 :: vi v_2 :: vi v_3 :: vi v_4 :: vs v_5 :: t15)), [pt 2, vi w], [vs r_3, vi 0]]))) ∧ ∀ (e : Nat), rsT 64 r = Rs.err e → 1 = 1 ∧ True ∧ 15 ≤ 40 ∧ T16 (T2 (True ∧ q2 ∧ true = true ∧ pP (h9 (vs v :: vs v_1 :: vi v_2 :: vi v_3 :: vi v_4 :: t14)) r e)))) ∧ ∀ (e : Nat), rsI (-1099511627776) 1099511627776 r_2 = Rs.err e → 1 = 1 ∧ True ∧ 14 ≤ 40 ∧ T16 (T2 (True ∧ q2 ∧ true = true ∧ pP (h9 (vs v :: vs v_1 :: vi v_2 :: vi v_3 :: t13)) r_2 e))))))) ∧ ∀ (e : Nat), rsI (-1099511627776) 1099511627776 r = Rs.err e → 1 = 1 ∧ True ∧ 13 ≤ 40 ∧ T16 (T2 (True ∧ q2 ∧ true = true ∧ pP (h9 (vs v :: vs v_1 :: vi v_2 :: t12)) r e))))))) ∧ ∀ (e : Nat), rsI (-1099511627776) 1099511627776 r_1 = Rs.err e → 1 = 1 ∧ True ∧ 12 ≤ 40 ∧ T16 (T2 (True ∧ q2 ∧ true = true ∧ pP (h9 (vs v :: vs v_1 :: t11)) r_1 e))))))) ∧ ∀ (e : Nat), rsT 64 r = Rs.err e → 1 = 1 ∧ True ∧ 11 ≤ 40 ∧ T16 (T2 (True ∧ q2 ∧ true = true ∧ pP (h9 (vs v :: t10)) r e)))))) ∧ ∀ (e : Nat), rsT 64 s = Rs.err e → 1 = 1 ∧ True ∧ 10 ≤ 40 ∧ T16 (T2 (True ∧ q2 ∧ true = true ∧ pP q1 s e))))) (True ∧ True ∧ pIf (decide (k = 3)) (T16 (T2 (True ∧ q8 ∧ T8 (True ∧ true = true ∧ s.size < 4611686018427387904 ∧ 64 < 4611686018427387904 ∧ (∀ (v r : ByteArray), rsT 64 s = Rs.ok v r → 1 = 1 ∧ True ∧ 16 ≤ 40 ∧ T16 (T4 (q4 ∧ T8 (True ∧ true = true ∧ r.size < 4611686018427387904 ∧ 64 < 4611686018427387904 ∧ (∀ (v_1 r_1 : ByteArray), rsT 64 r = Rs.ok v_1 r_1 → 1 = 1 ∧ True ∧ 17 ≤ 40 ∧ T16 (T4 (q3 ∧ T8 (True ∧ true = true ∧ r_1.size < 4611686018427387904 ∧ 64 < 4611686018427387904 ∧ (∀ (v_2 r : ByteArray), rsT 64 r_1 = Rs.ok v_2 r → 1 = 1 ∧ True ∧ 18 ≤ 40 ∧ T16 (T8 (T4 (T2 (True ∧ q12 ∧ T8 (T2 (True ∧ true = true ∧ r.size < 4611686018427387904 ∧ (∀ (v_3 : Int) (r_2 : ByteArray), rsI (-1099511627776) 1099511627776 r = Rs.ok v_3 r_2 → 1 = 1 ∧ True ∧ 19 ≤ 40 ∧ T32 (True ∧ true = true ∧ r_2.size < 4611686018427387904 ∧ 64 < 4611686018427387904 ∧ (∀ (v_4 r : ByteArray), rsT 64 r_2 = Rs.ok v_4 r → 1 = 1 ∧ True ∧ 20 ≤ 40 ∧ T16 (T2 ((q2 ∧ True) ∧ true = true ∧ Post q5 [(h15 (vs v :: vs v_1 :: vs v_2 :: vi v_3 :: vs v_4 :: t20)), [pt 2, vi w], [vs r, vi 0]]))) ∧ ∀ (e : Nat), rsT 64 r_2 = Rs.err e → 1 = 1 ∧ True ∧ 20 ≤ 40 ∧ T16 (T2 (True ∧ q2 ∧ true = true ∧ pP (h15 (vs v :: vs v_1 :: vs v_2 :: vi v_3 :: t19)) r_2 e)))) ∧ ∀ (e : Nat), rsI (-1099511627776) 1099511627776 r = Rs.err e → 1 = 1 ∧ True ∧ 19 ≤ 40 ∧ T16 (T2 (True ∧ q2 ∧ true = true ∧ pP (h15 (vs v :: vs v_1 :: vs v_2 :: t18)) r e))))))))) ∧ ∀ (e : Nat), rsT 64 r_1 = Rs.err e → 1 = 1 ∧ True ∧ 18 ≤ 40 ∧ T16 (T2 (True ∧ q2 ∧ true = true ∧ pP (h15 (vs v :: vs v_1 :: t17)) r_1 e)))))) ∧ ∀ (e : Nat), rsT 64 r = Rs.err e → 1 = 1 ∧ True ∧ 17 ≤ 40 ∧ T16 (T2 (True ∧ q2 ∧ true = true ∧ pP (h15 (vs v :: t16)) r e)))))) ∧ ∀ (e : Nat), rsT 64 s = Rs.err e → 1 = 1 ∧ True ∧ 16 ≤ 40 ∧ T16 (T2 (True ∧ q2 ∧ true = true ∧ pP q1 s e)))))) (True ∧ True ∧ pIf (decide (k = 4)) (T8 (T4 (True ∧ (toI (vi 0) ≤ 0 ∧ toI (vi 0) < (↑2 : Int)) ∧ T8 (True ∧ true = true ∧ s.size < 4611686018427387904 ∧ 64 < 4611686018427387904 ∧ (∀ (v r : ByteArray), rsT 64 s = Rs.ok v r → 1 = 1 ∧ True ∧ 3 ≤ 40 ∧ T16 (T4 ((toI (vi 0) ≤ IntKind.wrap IntKind.i64 (0 + 1) ∧ toI q10 < (↑2 : Int)) ∧ T8 (True ∧ true = true ∧ r.size < 4611686018427387904 ∧ 64 < 4611686018427387904 ∧ (∀ (v_1 r_1 : ByteArray), rsT 64 r = Rs.ok v_1 r_1 → 1 = 1 ∧ True ∧ 5 ≤ 40 ∧ T16 (T4 (True ∧ (q2 ∧ True) ∧ true = true ∧ Post q5 [(h2 (vs v :: vz :: vs v_1 :: t5)), [pt 2, vi w], [vs r_1, vi 0]]))) ∧ ∀ (e : Nat), rsT 64 r = Rs.err e → 1 = 1 ∧ True ∧ 5 ≤ 40 ∧ T16 (T2 (True ∧ q2 ∧ true = true ∧ pP [vi k, vi a, vs v, vz, vz, vi 0, vb false, vz, nS, vz, vz, vi 0, vi 0, vi 0, vz, vz, vz, vz, vi 0, vz, vz, vi 0, nS, vz, vi 0, nS, vz, vi 0, vi 0, vi 0, vi 0, vi 0, vi 0, nS, vz, nS, vz, vi 0, vi 0, vi 0] r e)))))) ∧ ∀ (e : Nat), rsT 64 s = Rs.err e → 1 = 1 ∧ True ∧ 3 ≤ 40 ∧ T16 (T2 (True ∧ q2 ∧ true = true ∧ pP q1 s e)))))) (True ∧ True ∧ pIf (decide (k = 5)) (T8 (T4 (T2 (true = true ∧ s.size < 4611686018427387904 ∧ 64 < 4611686018427387904 ∧ (∀ (v r : ByteArray), rsT 64 s = Rs.ok v r → 1 = 1 ∧ True ∧ 21 ≤ 40 ∧ T16 (T8 (T4 (q12 ∧ T8 (T2 (True ∧ true = true ∧ r.size < 4611686018427387904 ∧ (∀ (v_1 : Int) (r_1 : ByteArray), rsI (-1099511627776) 1099511627776 r = Rs.ok v_1 r_1 → 1 = 1 ∧ True ∧ 22 ≤ 40 ∧ T32 (T8 (true = true ∧ r_1.size < 4611686018427387904 ∧ 32 < 4611686018427387904 ∧ (∀ (v_2 : Nat) (r : ByteArray), rsL 32 r_1 = Rs.ok v_2 r → 1 = 1 ∧ T16 (T8 (T4 (pIf (!decide (Int.ofNat v_2 = (↑0 : Int))) (T2 ((0 ≤ Int.ofNat v_2 ∧ Int.ofNat v_2 ≤ Int.ofNat v_2 ∧ Int.ofNat v_2 ≤ 2 ^ 25) ∧ True ∧ 23 ≤ 40 ∧ T8 ((T2 (True ∧ NLs (zrow (Int.toNat (Int.ofNat v_2)) [vz, vi 0, vi 0, vi 0, vb false]) ∧ True)) ∧ H (lpC Tryz.prog 22 19) (lpK Tryz.prog 22 19) (stV [(0, some (pt 0)), q9, (132, some (vi (↑(Int.toNat (Int.ofNat v_2)) : Int))), (133, some (vi 0))] [(0, some (AObj.cells (h20 (vs v :: vi v_1 :: Value.slice (some (Addr.mk 3 0 none)) (Int.toNat (Int.ofNat v_2)) 5 :: t23)) true)), q7, (2, some (AObj.cells [vs r, vi 0] true)), (3, some (AObj.cells (zrow (Int.toNat (Int.ofNat v_2)) [vz, vi 0, vi 0, vi 0, vb false]) true))] 4)))) (T8 ((T2 (True ∧ True)) ∧ H (lpC Tryz.prog 22 19) (lpK Tryz.prog 22 19) (stV [(0, some (pt 0)), q9, (132, some (vi (↑0 : Int))), (133, some (vi 0))] [(0, some (AObj.cells (h20 (vs v :: vi v_1 :: t22)) true)), q7, (2, some (AObj.cells [vs r, vi 0] true))] 3))))))) ∧ ∀ (e : Nat), rsL 32 r_1 = Rs.err e → 1 = 1 ∧ T16 (T4 (q2 ∧ true = true ∧ pP (h20 (vs v :: vi v_1 :: t22)) r_1 e))))) ∧ ∀ (e : Nat), rsI (-1099511627776) 1099511627776 r = Rs.err e → 1 = 1 ∧ True ∧ 22 ≤ 40 ∧ T16 (T2 (True ∧ q2 ∧ true = true ∧ pP (h20 (vs v :: t21)) r e)))))))) ∧ ∀ (e : Nat), rsT 64 s = Rs.err e → 1 = 1 ∧ True ∧ 21 ≤ 40 ∧ T16 (T2 (True ∧ q2 ∧ true = true ∧ pP q1 s e)))))) (T2 (pIf (decide (k = 6)) (T8 (T4 (T2 (true = true ∧ s.size < 4611686018427387904 ∧ 64 < 4611686018427387904 ∧ (∀ (v r : ByteArray), rsT 64 s = Rs.ok v r → 1 = 1 ∧ True ∧ 24 ≤ 40 ∧ T16 (T8 (T4 (q12 ∧ T8 (T2 (True ∧ true = true ∧ r.size < 4611686018427387904 ∧ (∀ (v_1 : Int) (r_1 : ByteArray), rsI (-1099511627776) 1099511627776 r = Rs.ok v_1 r_1 → 1 = 1 ∧ True ∧ 25 ≤ 40 ∧ T32 (T8 (true = true ∧ r_1.size < 4611686018427387904 ∧ 24 < 4611686018427387904 ∧ (∀ (v_2 : Nat) (r : ByteArray), rsL 24 r_1 = Rs.ok v_2 r → 1 = 1 ∧ T16 (T8 (T4 (pIf (!decide (Int.ofNat v_2 = (↑0 : Int))) (T2 ((0 ≤ Int.ofNat v_2 ∧ Int.ofNat v_2 ≤ Int.ofNat v_2 ∧ Int.ofNat v_2 ≤ 2 ^ 25) ∧ True ∧ 26 ≤ 40 ∧ T8 ((T2 (True ∧ NLs (zrow (Int.toNat (Int.ofNat v_2)) [vz]) ∧ True)) ∧ H (lpC Tryz.prog 22 31) (lpK Tryz.prog 22 31) (stV [(0, some (pt 0)), q9, (203, some (vi (↑(Int.toNat (Int.ofNat v_2)) : Int))), (204, some (vi 0))] [(0, some (AObj.cells (h23 (vs v :: vi v_1 :: Value.slice (some (Addr.mk 3 0 none)) (Int.toNat (Int.ofNat v_2)) 1 :: t26)) true)), q7, (2, some (AObj.cells [vs r, vi 0] true)), (3, some (AObj.cells (zrow (Int.toNat (Int.ofNat v_2)) [vz]) true))] 4)))) (T8 ((T2 (True ∧ True)) ∧ H (lpC Tryz.prog 22 31) (lpK Tryz.prog 22 31) (stV [(0, some (pt 0)), q9, (203, some (vi (↑0 : Int))), (204, some (vi 0))] [(0, some (AObj.cells (h23 (vs v :: vi v_1 :: t25)) true)), q7, (2, some (AObj.cells [vs r, vi 0] true))] 3))))))) ∧ ∀ (e : Nat), rsL 24 r_1 = Rs.err e → 1 = 1 ∧ T16 (T4 (q2 ∧ true = true ∧ pP (h23 (vs v :: vi v_1 :: t25)) r_1 e))))) ∧ ∀ (e : Nat), rsI (-1099511627776) 1099511627776 r = Rs.err e → 1 = 1 ∧ True ∧ 25 ≤ 40 ∧ T16 (T2 (True ∧ q2 ∧ true = true ∧ pP (h23 (vs v :: t24)) r e)))))))) ∧ ∀ (e : Nat), rsT 64 s = Rs.err e → 1 = 1 ∧ True ∧ 24 ≤ 40 ∧ T16 (T2 (True ∧ q2 ∧ true = true ∧ pP q1 s e)))))) (T2 (pIf (decide (k = 7)) (T8 (T4 (True ∧ true = true ∧ s.size < 4611686018427387904 ∧ 64 < 4611686018427387904 ∧ (∀ (v r : ByteArray), rsT 64 s = Rs.ok v r → 1 = 1 ∧ True ∧ 3 ≤ 40 ∧ T16 (T2 ((q2 ∧ True) ∧ true = true ∧ Post q5 [[vi k, vi a, vs v, vz, vz, vi 0, vb false, vz, nS, vz, vz, vi 0, vi 0, vi 0, vz, vz, vz, vz, vi 0, vz, vz, vi 0, nS, vz, vi 0, nS, vz, vi 0, vi 0, vi 0, vi 0, vi 0, vi 0, nS, vz, nS, vz, vi 0, vi 0, vi 0], [pt 2, vi w], [vs r, vi 0]]))) ∧ ∀ (e : Nat), rsT 64 s = Rs.err e → 1 = 1 ∧ True ∧ 3 ≤ 40 ∧ T16 (T2 (True ∧ q2 ∧ true = true ∧ pP q1 s e))))) (T2 (pIf (decide (k = 8)) (T8 (T4 (True ∧ true = true ∧ s.size < 4611686018427387904 ∧ 64 < 4611686018427387904 ∧ (∀ (v r : ByteArray), rsT 64 s = Rs.ok v r → 1 = 1 ∧ True ∧ 3 ≤ 40 ∧ T16 (T2 ((q2 ∧ True) ∧ true = true ∧ Post q5 [[vi k, vi a, vs v, vz, vz, vi 0, vb false, vz, nS, vz, vz, vi 0, vi 0, vi 0, vz, vz, vz, vz, vi 0, vz, vz, vi 0, nS, vz, vi 0, nS, vz, vi 0, vi 0, vi 0, vi 0, vi 0, vi 0, nS, vz, nS, vz, vi 0, vi 0, vi 0], [pt 2, vi w], [vs r, vi 0]]))) ∧ ∀ (e : Nat), rsT 64 s = Rs.err e → 1 = 1 ∧ True ∧ 3 ≤ 40 ∧ T16 (T2 (True ∧ q2 ∧ true = true ∧ pP q1 s e))))) (T2 (pIf (decide (k = 12)) (T8 (T4 (True ∧ true = true ∧ s.size < 4611686018427387904 ∧ 64 < 4611686018427387904 ∧ (∀ (v r : ByteArray), rsT 64 s = Rs.ok v r → 1 = 1 ∧ True ∧ 3 ≤ 40 ∧ T16 (T2 ((q2 ∧ True) ∧ true = true ∧ Post q5 [[vi k, vi a, vs v, vz, vz, vi 0, vb false, vz, nS, vz, vz, vi 0, vi 0, vi 0, vz, vz, vz, vz, vi 0, vz, vz, vi 0, nS, vz, vi 0, nS, vz, vi 0, vi 0, vi 0, vi 0, vi 0, vi 0, nS, vz, nS, vz, vi 0, vi 0, vi 0], [pt 2, vi w], [vs r, vi 0]]))) ∧ ∀ (e : Nat), rsT 64 s = Rs.err e → 1 = 1 ∧ True ∧ 3 ≤ 40 ∧ T16 (T2 (True ∧ q2 ∧ true = true ∧ pP q1 s e))))) (T2 (pIf (decide (k = 16)) (T8 (T4 (True ∧ true = true ∧ s.size < 4611686018427387904 ∧ 64 < 4611686018427387904 ∧ (∀ (v r : ByteArray), rsT 64 s = Rs.ok v r → 1 = 1 ∧ True ∧ 3 ≤ 40 ∧ T16 (T2 ((q2 ∧ True) ∧ true = true ∧ Post q5 [[vi k, vi a, vs v, vz, vz, vi 0, vb false, vz, nS, vz, vz, vi 0, vi 0, vi 0, vz, vz, vz, vz, vi 0, vz, vz, vi 0, nS, vz, vi 0, nS, vz, vi 0, vi 0, vi 0, vi 0, vi 0, vi 0, nS, vz, nS, vz, vi 0, vi 0, vi 0], [pt 2, vi w], [vs r, vi 0]]))) ∧ ∀ (e : Nat), rsT 64 s = Rs.err e → 1 = 1 ∧ True ∧ 3 ≤ 40 ∧ T16 (T2 (True ∧ q2 ∧ true = true ∧ pP q1 s e))))) (T2 (pIf (decide (k = 9)) (T16 (q8 ∧ T8 (True ∧ true = true ∧ s.size < 4611686018427387904 ∧ 64 < 4611686018427387904 ∧ (∀ (v r : ByteArray), rsT 64 s = Rs.ok v r → 1 = 1 ∧ True ∧ 3 ≤ 40 ∧ T16 (T4 (q4 ∧ T8 (True ∧ true = true ∧ r.size < 4611686018427387904 ∧ 64 < 4611686018427387904 ∧ (∀ (v_1 r_1 : ByteArray), rsT 64 r = Rs.ok v_1 r_1 → 1 = 1 ∧ True ∧ 4 ≤ 40 ∧ T16 (T4 (q3 ∧ T8 (True ∧ true = true ∧ r_1.size < 4611686018427387904 ∧ 64 < 4611686018427387904 ∧ (∀ (v_2 r : ByteArray), rsT 64 r_1 = Rs.ok v_2 r → 1 = 1 ∧ True ∧ 5 ≤ 40 ∧ T16 (T4 (True ∧ (q2 ∧ True) ∧ true = true ∧ Post q5 [(h2 (vs v :: vs v_1 :: vs v_2 :: t5)), [pt 2, vi w], [vs r, vi 0]]))) ∧ ∀ (e : Nat), rsT 64 r_1 = Rs.err e → 1 = 1 ∧ True ∧ 5 ≤ 40 ∧ T16 (T2 (True ∧ q2 ∧ true = true ∧ pP (h2 (vs v :: vs v_1 :: t4)) r_1 e)))))) ∧ ∀ (e : Nat), rsT 64 r = Rs.err e → 1 = 1 ∧ True ∧ 4 ≤ 40 ∧ T16 (T2 (True ∧ q2 ∧ true = true ∧ pP [vi k, vi a, vs v, vz, vz, vi 0, vb false, vz, nS, vz, vz, vi 0, vi 0, vi 0, vz, vz, vz, vz, vi 0, vz, vz, vi 0, nS, vz, vi 0, nS, vz, vi 0, vi 0, vi 0, vi 0, vi 0, vi 0, nS, vz, nS, vz, vi 0, vi 0, vi 0] r e)))))) ∧ ∀ (e : Nat), rsT 64 s = Rs.err e → 1 = 1 ∧ True ∧ 3 ≤ 40 ∧ T16 (T2 (True ∧ q2 ∧ true = true ∧ pP q1 s e))))) (T2 (pIf (decide (k = 11)) (T16 (q8 ∧ T8 (True ∧ true = true ∧ s.size < 4611686018427387904 ∧ 64 < 4611686018427387904 ∧ (∀ (v r : ByteArray), rsT 64 s = Rs.ok v r → 1 = 1 ∧ True ∧ 3 ≤ 40 ∧ T16 (T4 (q4 ∧ T8 (True ∧ true = true ∧ r.size < 4611686018427387904 ∧ 64 < 4611686018427387904 ∧ (∀ (v_1 r_1 : ByteArray), rsT 64 r = Rs.ok v_1 r_1 → 1 = 1 ∧ True ∧ 4 ≤ 40 ∧ T16 (T4 (q3 ∧ T8 (True ∧ true = true ∧ r_1.size < 4611686018427387904 ∧ 64 < 4611686018427387904 ∧ (∀ (v_2 r : ByteArray), rsT 64 r_1 = Rs.ok v_2 r → 1 = 1 ∧ True ∧ 5 ≤ 40 ∧ T16 (T4 (True ∧ (q2 ∧ True) ∧ true = true ∧ Post q5 [(h2 (vs v :: vs v_1 :: vs v_2 :: t5)), [pt 2, vi w], [vs r, vi 0]]))) ∧ ∀ (e : Nat), rsT 64 r_1 = Rs.err e → 1 = 1 ∧ True ∧ 5 ≤ 40 ∧ T16 (T2 (True ∧ q2 ∧ true = true ∧ pP (h2 (vs v :: vs v_1 :: t4)) r_1 e)))))) ∧ ∀ (e : Nat), rsT 64 r = Rs.err e → 1 = 1 ∧ True ∧ 4 ≤ 40 ∧ T16 (T2 (True ∧ q2 ∧ true = true ∧ pP [vi k, vi a, vs v, vz, vz, vi 0, vb false, vz, nS, vz, vz, vi 0, vi 0, vi 0, vz, vz, vz, vz, vi 0, vz, vz, vi 0, nS, vz, vi 0, nS, vz, vi 0, vi 0, vi 0, vi 0, vi 0, vi 0, nS, vz, nS, vz, vi 0, vi 0, vi 0] r e)))))) ∧ ∀ (e : Nat), rsT 64 s = Rs.err e → 1 = 1 ∧ True ∧ 3 ≤ 40 ∧ T16 (T2 (True ∧ q2 ∧ true = true ∧ pP q1 s e))))) (T2 (pIf (decide (k = 10)) (T8 (T4 (True ∧ true = true ∧ s.size < 4611686018427387904 ∧ 64 < 4611686018427387904 ∧ (∀ (v r : ByteArray), rsT 64 s = Rs.ok v r → 1 = 1 ∧ True ∧ 3 ≤ 40 ∧ T32 (true = true ∧ r.size < 4611686018427387904 ∧ (∀ (v_1 : Int) (r_1 : ByteArray), rsI 1 5 r = Rs.ok v_1 r_1 → 1 = 1 ∧ True ∧ 6 ≤ 40 ∧ T16 (T8 (T4 (T2 (true = true ∧ r_1.size < 4611686018427387904 ∧ (∀ (v_2 : Bool) (r : ByteArray), rsB r_1 = Rs.ok v_2 r → 1 = 1 ∧ pIf v_2 (True ∧ 7 ≤ 40 ∧ T16 (T2 ((q2 ∧ True) ∧ true = true ∧ Post q5 [(h2 (vs v :: vz :: vz :: vi v_1 :: vb true :: t7)), [pt 2, vi w], [vs r, vi 0]]))) (True ∧ 7 ≤ 40 ∧ T16 (T2 ((q2 ∧ True) ∧ true = true ∧ Post q5 [(h2 (vs v :: vz :: vz :: vi v_1 :: t6)), [pt 2, vi w], [vs r, vi 0]])))) ∧ ∀ (e : Nat), rsB r_1 = Rs.err e → 1 = 1 ∧ True ∧ 7 ≤ 40 ∧ T16 (T2 (True ∧ q2 ∧ true = true ∧ pP (h2 (vs v :: vz :: vz :: vi v_1 :: t6)) r_1 e))))))) ∧ ∀ (e : Nat), rsI 1 5 r = Rs.err e → 1 = 1 ∧ True ∧ 6 ≤ 40 ∧ T16 (T2 (True ∧ q2 ∧ true = true ∧ pP [vi k, vi a, vs v, vz, vz, vi 0, vb false, vz, nS, vz, vz, vi 0, vi 0, vi 0, vz, vz, vz, vz, vi 0, vz, vz, vi 0, nS, vz, vi 0, nS, vz, vi 0, vi 0, vi 0, vi 0, vi 0, vi 0, nS, vz, nS, vz, vi 0, vi 0, vi 0] r e)))) ∧ ∀ (e : Nat), rsT 64 s = Rs.err e → 1 = 1 ∧ True ∧ 3 ≤ 40 ∧ T16 (T2 (True ∧ q2 ∧ true = true ∧ pP q1 s e))))) (T2 (pIf (decide (k = 13)) (T16 (True ∧ true = true ∧ s.size < 4611686018427387904 ∧ 64 < 4611686018427387904 ∧ (∀ (v r : ByteArray), rsT 64 s = Rs.ok v r → 1 = 1 ∧ True ∧ 27 ≤ 40 ∧ T32 (T8 (T2 ((toI (vi 0) ≤ 0 ∧ toI (vi 0) < (↑5 : Int)) ∧ T8 (T2 (True ∧ true = true ∧ r.size < 4611686018427387904 ∧ (∀ (v_1 : Int) (r_1 : ByteArray), rsI (-1099511627776) 1099511627776 r = Rs.ok v_1 r_1 → 1 = 1 ∧ True ∧ 29 ≤ 40 ∧ T16 (T4 ((toI (vi 0) ≤ IntKind.wrap IntKind.i64 (0 + 1) ∧ toI q10 < (↑5 : Int)) ∧ T8 (T2 (True ∧ true = true ∧ r_1.size < 4611686018427387904 ∧ (∀ (v_2 : Int) (r : ByteArray), rsI (-1099511627776) 1099511627776 r_1 = Rs.ok v_2 r → 1 = 1 ∧ True ∧ 30 ≤ 40 ∧ T16 (T4 ((toI (vi 0) ≤ IntKind.wrap IntKind.i64 q6 ∧ toI (vi (IntKind.wrap IntKind.i64 q6)) < (↑5 : Int)) ∧ T8 (T2 (True ∧ true = true ∧ r.size < 4611686018427387904 ∧ (∀ (v_3 : Int) (r_2 : ByteArray), rsI (-1099511627776) 1099511627776 r = Rs.ok v_3 r_2 → 1 = 1 ∧ True ∧ 31 ≤ 40 ∧ T16 (T4 ((toI (vi 0) ≤ IntKind.wrap IntKind.i64 q11 ∧ toI (vi (IntKind.wrap IntKind.i64 q11)) < (↑5 : Int)) ∧ T8 (T2 (True ∧ true = true ∧ r_2.size < 4611686018427387904 ∧ (∀ (v_4 : Int) (r : ByteArray), rsI (-1099511627776) 1099511627776 r_2 = Rs.ok v_4 r → 1 = 1 ∧ True ∧ 32 ≤ 40 ∧ T16 (T4 ((toI (vi 0) ≤ IntKind.wrap IntKind.i64 (IntKind.wrap IntKind.i64 q11 + 1) ∧ toI (vi (IntKind.wrap IntKind.i64 (IntKind.wrap IntKind.i64 q11 + 1))) < (↑5 : Int)) ∧ T8 (T2 (True ∧ true = true ∧ r.size < 4611686018427387904 ∧ (∀ (v_5 : Int) (r_3 : ByteArray), rsI (-1099511627776) 1099511627776 r = Rs.ok v_5 r_3 → 1 = 1 ∧ True ∧ 33 ≤ 40 ∧ T16 (T4 (True ∧ (q2 ∧ True) ∧ true = true ∧ Post q5 [(h26 (vs v :: vi 0 :: vi v_1 :: vi v_2 :: vi v_3 :: vi v_4 :: vi v_5 :: t33)), [pt 2, vi w], [vs r_3, vi 0]]))) ∧ ∀ (e : Nat), rsI (-1099511627776) 1099511627776 r = Rs.err e → 1 = 1 ∧ True ∧ 33 ≤ 40 ∧ T16 (T2 (True ∧ q2 ∧ true = true ∧ pP (h26 (vs v :: vi 0 :: vi v_1 :: vi v_2 :: vi v_3 :: vi v_4 :: t32)) r e))))))) ∧ ∀ (e : Nat), rsI (-1099511627776) 1099511627776 r_2 = Rs.err e → 1 = 1 ∧ True ∧ 32 ≤ 40 ∧ T16 (T2 (True ∧ q2 ∧ true = true ∧ pP (h26 (vs v :: vi 0 :: vi v_1 :: vi v_2 :: vi v_3 :: t31)) r_2 e))))))) ∧ ∀ (e : Nat), rsI (-1099511627776) 1099511627776 r = Rs.err e → 1 = 1 ∧ True ∧ 31 ≤ 40 ∧ T16 (T2 (True ∧ q2 ∧ true = true ∧ pP (h26 (vs v :: vi 0 :: vi v_1 :: vi v_2 :: t30)) r e))))))) ∧ ∀ (e : Nat), rsI (-1099511627776) 1099511627776 r_1 = Rs.err e → 1 = 1 ∧ True ∧ 30 ≤ 40 ∧ T16 (T2 (True ∧ q2 ∧ true = true ∧ pP (h26 (vs v :: vi 0 :: vi v_1 :: t29)) r_1 e))))))) ∧ ∀ (e : Nat), rsI (-1099511627776) 1099511627776 r = Rs.err e → 1 = 1 ∧ True ∧ 29 ≤ 40 ∧ T16 (T2 (True ∧ q2 ∧ true = true ∧ pP (h26 (vs v :: t27)) r e)))))))) ∧ ∀ (e : Nat), rsT 64 s = Rs.err e → 1 = 1 ∧ True ∧ 27 ≤ 40 ∧ T16 (T2 (True ∧ q2 ∧ true = true ∧ pP q1 s e)))) (T2 (pIf (decide (k = 14)) (T8 (T4 (T2 (true = true ∧ s.size < 4611686018427387904 ∧ 64 < 4611686018427387904 ∧ (∀ (v r : ByteArray), rsT 64 s = Rs.ok v r → 1 = 1 ∧ True ∧ 35 ≤ 40 ∧ T32 (T4 (T2 (true = true ∧ r.size < 4611686018427387904 ∧ 2 < 4611686018427387904 ∧ (∀ (v_1 : Nat) (r_1 : ByteArray), rsL 2 r = Rs.ok v_1 r_1 → 1 = 1 ∧ T16 (T8 (T4 (pIf (!decide (Int.ofNat v_1 = (↑0 : Int))) (T2 ((0 ≤ Int.ofNat v_1 ∧ Int.ofNat v_1 ≤ Int.ofNat v_1 ∧ Int.ofNat v_1 ≤ 2 ^ 25) ∧ True ∧ 36 ≤ 40 ∧ T8 ((T2 (True ∧ NLs (zrow (Int.toNat (Int.ofNat v_1)) [vz, vi 0, vi 0, vi 0]) ∧ True)) ∧ H (lpC Tryz.prog 22 55) (lpK Tryz.prog 22 55) (stV [(0, some (pt 0)), q9, (330, some (vi (↑(Int.toNat (Int.ofNat v_1)) : Int))), (331, some (vi 0))] [(0, some (AObj.cells (h34 (vs v :: Value.slice (some (Addr.mk 3 0 none)) (Int.toNat (Int.ofNat v_1)) 4 :: t36)) true)), q7, (2, some (AObj.cells [vs r_1, vi 0] true)), (3, some (AObj.cells (zrow (Int.toNat (Int.ofNat v_1)) [vz, vi 0, vi 0, vi 0]) true))] 4)))) (T8 ((T2 (True ∧ True)) ∧ H (lpC Tryz.prog 22 55) (lpK Tryz.prog 22 55) (stV [(0, some (pt 0)), q9, (330, some (vi (↑0 : Int))), (331, some (vi 0))] [(0, some (AObj.cells (h34 (vs v :: t35)) true)), q7, (2, some (AObj.cells [vs r_1, vi 0] true))] 3))))))) ∧ ∀ (e : Nat), rsL 2 r = Rs.err e → 1 = 1 ∧ T16 (T4 (q2 ∧ true = true ∧ pP (h34 (vs v :: t35)) r e)))))) ∧ ∀ (e : Nat), rsT 64 s = Rs.err e → 1 = 1 ∧ True ∧ 35 ≤ 40 ∧ T16 (T2 (True ∧ q2 ∧ true = true ∧ pP q1 s e)))))) (T2 (pIf (decide (k = 15)) (T8 (T4 (T2 (true = true ∧ s.size < 4611686018427387904 ∧ 64 < 4611686018427387904 ∧ (∀ (v r : ByteArray), rsT 64 s = Rs.ok v r → 1 = 1 ∧ True ∧ 37 ≤ 40 ∧ T32 (T4 (T2 (q8 ∧ T8 (T2 (True ∧ true = true ∧ r.size < 4611686018427387904 ∧ (∀ (v_1 : Int) (r_1 : ByteArray), rsI (-1099511627776) 1099511627776 r = Rs.ok v_1 r_1 → 1 = 1 ∧ True ∧ 38 ≤ 40 ∧ T16 (T4 (q4 ∧ T8 (T2 (True ∧ true = true ∧ r_1.size < 4611686018427387904 ∧ (∀ (v_2 : Int) (r : ByteArray), rsI (-1099511627776) 1099511627776 r_1 = Rs.ok v_2 r → 1 = 1 ∧ True ∧ 39 ≤ 40 ∧ T16 (T4 (q3 ∧ T8 (T2 (True ∧ true = true ∧ r.size < 4611686018427387904 ∧ (∀ (v_3 : Int) (r_2 : ByteArray), rsI (-1099511627776) 1099511627776 r = Rs.ok v_3 r_2 → 1 = 1 ∧ True ∧ 40 ≤ 40 ∧ T16 (T4 (True ∧ (q2 ∧ True) ∧ true = true ∧ Post q5 [(h36 ([vs v, vi v_1, vi v_2, vi v_3])), [pt 2, vi w], [vs r_2, vi 0]]))) ∧ ∀ (e : Nat), rsI (-1099511627776) 1099511627776 r = Rs.err e → 1 = 1 ∧ True ∧ 40 ≤ 40 ∧ T16 (T2 (True ∧ q2 ∧ true = true ∧ pP (h36 ([vs v, vi v_1, vi v_2, vi 0])) r e))))))) ∧ ∀ (e : Nat), rsI (-1099511627776) 1099511627776 r_1 = Rs.err e → 1 = 1 ∧ True ∧ 39 ≤ 40 ∧ T16 (T2 (True ∧ q2 ∧ true = true ∧ pP (h36 ([vs v, vi v_1, vi 0, vi 0])) r_1 e))))))) ∧ ∀ (e : Nat), rsI (-1099511627776) 1099511627776 r = Rs.err e → 1 = 1 ∧ True ∧ 38 ≤ 40 ∧ T16 (T2 (True ∧ q2 ∧ true = true ∧ pP (h36 (vs v :: t37)) r e)))))))) ∧ ∀ (e : Nat), rsT 64 s = Rs.err e → 1 = 1 ∧ True ∧ 37 ≤ 40 ∧ T16 (T2 (True ∧ q2 ∧ true = true ∧ pP q1 s e)))))) (True ∧ (q2 ∧ True) ∧ true = true ∧ Post q5 [q1, [pt 2, vi w], [vs s, vi 0]])))))))))))))))))))))))))))) := by kernel_rfl
abbrev cR5 (k a g : Int) (u : ByteArray) (l : Value) : List Value := (.int .i64 k :: .int .i64 a :: .string ⟨#[]⟩ :: .string ⟨#[]⟩ :: .string ⟨#[]⟩ :: .int .i64 0 :: .bool false :: .string ⟨#[]⟩ :: nilS :: .string ⟨#[]⟩ :: .string ⟨#[]⟩ :: .int .i64 0 :: .int .i64 0 :: .int .i64 0 :: .string ⟨#[]⟩ :: .string ⟨#[]⟩ :: .string ⟨#[]⟩ :: .string ⟨#[]⟩ :: .int .i64 0 :: .string ⟨#[]⟩ :: .string u :: .int .i64 g :: l :: .string ⟨#[]⟩ :: .int .i64 0 :: nilS :: .string ⟨#[]⟩ :: .int .i64 0 :: .int .i64 0 :: .int .i64 0 :: .int .i64 0 :: .int .i64 0 :: .int .i64 0 :: nilS :: .string ⟨#[]⟩ :: nilS :: .string ⟨#[]⟩ :: .int .i64 0 :: .int .i64 0 :: .int .i64 0 :: [])
abbrev sR5 (k a w g : Int) (u s : ByteArray) (L : List Value) (n : Nat) (i : Int) : AS := (stV [(0, some ptr0), (1, some (.iface 88 ptr1)), (132, some (.int .i64 n)), (133, some (.int .i64 i))] [(0, some (.cells (cR5 k a g u (.slice (some ⟨3, 0, none⟩) n 5)) true)), (1, some (.cells [ptr2, .int .i64 w] true)), (2, some (.cells [.string s, .int .i64 0] true)), (3, some (.cells L true))] 4)
abbrev zR5 (k a w g : Int) (u s : ByteArray) : AS := (stV [(0, some ptr0), (1, some (.iface 88 ptr1)), (132, some (.int .i64 0)), (133, some (.int .i64 0))] [(0, some (.cells (cR5 k a g u nilS) true)), (1, some (.cells [ptr2, .int .i64 w] true)), (2, some (.cells [.string s, .int .i64 0] true))] 3)
abbrev cR6 (k a g : Int) (u : ByteArray) (l : Value) : List Value := (.int .i64 k :: .int .i64 a :: .string ⟨#[]⟩ :: .string ⟨#[]⟩ :: .string ⟨#[]⟩ :: .int .i64 0 :: .bool false :: .string ⟨#[]⟩ :: nilS :: .string ⟨#[]⟩ :: .string ⟨#[]⟩ :: .int .i64 0 :: .int .i64 0 :: .int .i64 0 :: .string ⟨#[]⟩ :: .string ⟨#[]⟩ :: .string ⟨#[]⟩ :: .string ⟨#[]⟩ :: .int .i64 0 :: .string ⟨#[]⟩ :: .string ⟨#[]⟩ :: .int .i64 0 :: nilS :: .string u :: .int .i64 g :: l :: .string ⟨#[]⟩ :: .int .i64 0 :: .int .i64 0 :: .int .i64 0 :: .int .i64 0 :: .int .i64 0 :: .int .i64 0 :: nilS :: .string ⟨#[]⟩ :: nilS :: .string ⟨#[]⟩ :: .int .i64 0 :: .int .i64 0 :: .int .i64 0 :: [])
abbrev sR6 (k a w g : Int) (u s : ByteArray) (L : List Value) (n : Nat) (i : Int) : AS := (stV [(0, some ptr0), (1, some (.iface 88 ptr1)), (203, some (.int .i64 n)), (204, some (.int .i64 i))] [(0, some (.cells (cR6 k a g u (.slice (some ⟨3, 0, none⟩) n 1)) true)), (1, some (.cells [ptr2, .int .i64 w] true)), (2, some (.cells [.string s, .int .i64 0] true)), (3, some (.cells L true))] 4)
abbrev zR6 (k a w g : Int) (u s : ByteArray) : AS := (stV [(0, some ptr0), (1, some (.iface 88 ptr1)), (203, some (.int .i64 0)), (204, some (.int .i64 0))] [(0, some (.cells (cR6 k a g u nilS) true)), (1, some (.cells [ptr2, .int .i64 w] true)), (2, some (.cells [.string s, .int .i64 0] true))] 3)
abbrev cR14 (k a g : Int) (u : ByteArray) (l : Value) : List Value := (.int .i64 k :: .int .i64 a :: .string ⟨#[]⟩ :: .string ⟨#[]⟩ :: .string ⟨#[]⟩ :: .int .i64 0 :: .bool false :: .string ⟨#[]⟩ :: nilS :: .string ⟨#[]⟩ :: .string ⟨#[]⟩ :: .int .i64 0 :: .int .i64 0 :: .int .i64 0 :: .string ⟨#[]⟩ :: .string ⟨#[]⟩ :: .string ⟨#[]⟩ :: .string ⟨#[]⟩ :: .int .i64 0 :: .string ⟨#[]⟩ :: .string ⟨#[]⟩ :: .int .i64 0 :: nilS :: .string ⟨#[]⟩ :: .int .i64 0 :: nilS :: .string ⟨#[]⟩ :: .int .i64 0 :: .int .i64 0 :: .int .i64 0 :: .int .i64 0 :: .int .i64 0 :: .int .i64 0 :: nilS :: .string u :: l :: .string ⟨#[]⟩ :: .int .i64 0 :: .int .i64 0 :: .int .i64 0 :: [])
abbrev sR14 (k a w g : Int) (u s : ByteArray) (L : List Value) (n : Nat) (i : Int) : AS := (stV [(0, some ptr0), (1, some (.iface 88 ptr1)), (330, some (.int .i64 n)), (331, some (.int .i64 i))] [(0, some (.cells (cR14 k a g u (.slice (some ⟨3, 0, none⟩) n 4)) true)), (1, some (.cells [ptr2, .int .i64 w] true)), (2, some (.cells [.string s, .int .i64 0] true)), (3, some (.cells L true))] 4)
abbrev zR14 (k a w g : Int) (u s : ByteArray) : AS := (stV [(0, some ptr0), (1, some (.iface 88 ptr1)), (330, some (.int .i64 0)), (331, some (.int .i64 0))] [(0, some (.cells (cR14 k a g u nilS) true)), (1, some (.cells [ptr2, .int .i64 w] true)), (2, some (.cells [.string s, .int .i64 0] true))] 3)
theorem l_rd5 (k a w g : Int) (u s : ByteArray) (L : List Value) (n : Nat) (i : Int) (H : HT) (Post : PX) : vcLX Tryz.prog callR 22 argsR [(19, [0, 1, 132, 133]), (31, [0, 1, 203, 204]), (55, [0, 1, 330, 331])] 3 19 (sR5 k a w g u s L n (i)) H Post = (let pP := fun (c : List Value) (r : ByteArray) (e : Nat) => Post (Out.pan (Value.iface 50 (vi (Int.ofNat (e + 1))))) [c, [pt 2, vi w], [vs r, vi (Int.ofNat (e + 1))]]; let t23 := [vz, vi 0, nS, vz, vi 0, vi 0, vi 0, vi 0, vi 0, vi 0, nS, vz, nS, vz, vi 0, vi 0, vi 0]; let t20 := vs u :: vi g :: Value.slice (some (Addr.mk 3 0 none)) n 5 :: t23; let h20 := fun (t : List Value) => vi k :: vi a :: vz :: vz :: vz :: vi 0 :: vb false :: vz :: nS :: vz :: vz :: vi 0 :: vi 0 :: vi 0 :: vz :: vz :: vz :: vz :: vi 0 :: vz :: t; let h22 := fun (t : List Value) => h20 (vs u :: vi g :: t); let q6 := 0 + Int.toNat i * 5 + 4; let q5 := [(0, some (pt 0)), (1, some (Value.iface 88 (pt 1))), (132, some (vi (↑n : Int))), (133, some (vi (IntKind.wrap IntKind.i64 (i + 1))))]; let q4 := 0 + Int.toNat i * 5 + 3; let q3 := 0 + Int.toNat i * 5 + 1 + 1; let q2 := 0 + Int.toNat i * 5 + 1 + 0; let q1 := 0 + Int.toNat i * 5 + 0; True ∧ pIf (decide (i < (↑n : Int))) (T8 ((0 ≤ i ∧ i < (↑n : Int)) ∧ T8 (T4 (True ∧ true = true ∧ s.size < 4611686018427387904 ∧ 64 < 4611686018427387904 ∧ (∀ (v r : ByteArray), rsT 64 s = Rs.ok v r → 1 = 1 ∧ True ∧ 0 + Int.toNat i * 5 + 0 + 1 ≤ List.length L ∧ T32 (T2 (True ∧ (toI (vi 0) ≤ 0 ∧ toI (vi 0) < (↑3 : Int)) ∧ T8 (T2 (True ∧ true = true ∧ r.size < 4611686018427387904 ∧ (∀ (v_1 : Int) (r_1 : ByteArray), rsI (-1099511627776) 1099511627776 r = Rs.ok v_1 r_1 → 1 = 1 ∧ True ∧ 0 + Int.toNat i * 5 + 1 + 0 + 1 ≤ List.length (setFrom L q1 [vs v]) ∧ T16 (T4 ((toI (vi 0) ≤ IntKind.wrap IntKind.i64 (0 + 1) ∧ toI (vi (IntKind.wrap IntKind.i64 (0 + 1))) < (↑3 : Int)) ∧ T8 (T2 (True ∧ true = true ∧ r_1.size < 4611686018427387904 ∧ (∀ (v_2 : Int) (r : ByteArray), rsI (-1099511627776) 1099511627776 r_1 = Rs.ok v_2 r → 1 = 1 ∧ True ∧ 0 + Int.toNat i * 5 + 1 + 1 + 1 ≤ List.length (setFrom (setFrom L q1 [vs v]) q2 [vi v_1]) ∧ T16 (T4 ((toI (vi 0) ≤ IntKind.wrap IntKind.i64 (IntKind.wrap IntKind.i64 (0 + 1) + 1) ∧ toI (vi (IntKind.wrap IntKind.i64 (IntKind.wrap IntKind.i64 (0 + 1) + 1))) < (↑3 : Int)) ∧ T8 (T2 (True ∧ true = true ∧ r.size < 4611686018427387904 ∧ (∀ (v_3 : Int) (r_2 : ByteArray), rsI (-1099511627776) 1099511627776 r = Rs.ok v_3 r_2 → 1 = 1 ∧ True ∧ 0 + Int.toNat i * 5 + 3 + 1 ≤ List.length (setFrom (setFrom (setFrom L q1 [vs v]) q2 [vi v_1]) q3 [vi v_2]) ∧ T32 (True ∧ true = true ∧ r_2.size < 4611686018427387904 ∧ (∀ (v_4 : Bool) (r : ByteArray), rsB r_2 = Rs.ok v_4 r → 1 = 1 ∧ pIf v_4 (True ∧ 0 + Int.toNat i * 5 + 4 + 1 ≤ List.length (setFrom (setFrom (setFrom (setFrom L q1 [vs v]) q2 [vi v_1]) q3 [vi v_2]) q4 [vi v_3]) ∧ T16 (T4 (True ∧ (T2 (True ∧ NLs (setFrom (setFrom (setFrom (setFrom (setFrom L q1 [vs v]) q2 [vi v_1]) q3 [vi v_2]) q4 [vi v_3]) q6 [vb true]) ∧ True)) ∧ H (lpC Tryz.prog 22 19) (lpK Tryz.prog 22 19) (stV q5 [(0, some (AObj.cells (h20 t20) true)), (1, some (AObj.cells [pt 2, vi w] true)), (2, some (AObj.cells [vs r, vi 0] true)), (3, some (AObj.cells (setFrom (setFrom (setFrom (setFrom (setFrom L q1 [vs v]) q2 [vi v_1]) q3 [vi v_2]) q4 [vi v_3]) q6 [vb true]) true))] 4)))) (True ∧ 0 + Int.toNat i * 5 + 4 + 1 ≤ List.length (setFrom (setFrom (setFrom (setFrom L q1 [vs v]) q2 [vi v_1]) q3 [vi v_2]) q4 [vi v_3]) ∧ T16 (T4 (True ∧ (T2 (True ∧ NLs (setFrom (setFrom (setFrom (setFrom (setFrom L q1 [vs v]) q2 [vi v_1]) q3 [vi v_2]) q4 [vi v_3]) q6 [vb false]) ∧ True)) ∧ H (lpC Tryz.prog 22 19) (lpK Tryz.prog 22 19) (stV q5 [(0, some (AObj.cells (h20 t20) true)), (1, some (AObj.cells [pt 2, vi w] true)), (2, some (AObj.cells [vs r, vi 0] true)), (3, some (AObj.cells (setFrom (setFrom (setFrom (setFrom (setFrom L q1 [vs v]) q2 [vi v_1]) q3 [vi v_2]) q4 [vi v_3]) q6 [vb false]) true))] 4))))) ∧ ∀ (e : Nat), rsB r_2 = Rs.err e → 1 = 1 ∧ True ∧ 0 + Int.toNat i * 5 + 4 + 1 ≤ List.length (setFrom (setFrom (setFrom (setFrom L q1 [vs v]) q2 [vi v_1]) q3 [vi v_2]) q4 [vi v_3]) ∧ T16 (T2 (True ∧ ((T16 (T4 (T2 ((0 + n * 5 ≤ List.length (setFrom (setFrom (setFrom (setFrom (setFrom L q1 [vs v]) q2 [vi v_1]) q3 [vi v_2]) q4 [vi v_3]) q6 [vb false]) ∧ NLs (List.drop 0 (setFrom (setFrom (setFrom (setFrom (setFrom L q1 [vs v]) q2 [vi v_1]) q3 [vi v_2]) q4 [vi v_3]) q6 [vb false]))) ∧ T16 (True ∧ True))))) ∧ (T2 (True)) ∧ (T2 (True)) ∧ True) ∧ true = true ∧ pP (h22 (tree 5 n (chunks 5 n (List.drop 0 (setFrom (setFrom (setFrom (setFrom (setFrom L q1 [vs v]) q2 [vi v_1]) q3 [vi v_2]) q4 [vi v_3]) q6 [vb false]))) :: t23)) r_2 e)))) ∧ ∀ (e : Nat), rsI (-1099511627776) 1099511627776 r = Rs.err e → 1 = 1 ∧ True ∧ 0 + Int.toNat i * 5 + 3 + 1 ≤ List.length (setFrom (setFrom (setFrom L q1 [vs v]) q2 [vi v_1]) q3 [vi v_2]) ∧ T16 (T2 (True ∧ ((T16 (T4 (T2 ((0 + n * 5 ≤ List.length (setFrom (setFrom (setFrom (setFrom L q1 [vs v]) q2 [vi v_1]) q3 [vi v_2]) q4 [vi 0]) ∧ NLs (List.drop 0 (setFrom (setFrom (setFrom (setFrom L q1 [vs v]) q2 [vi v_1]) q3 [vi v_2]) q4 [vi 0]))) ∧ T16 (True ∧ True))))) ∧ (T2 (True)) ∧ (T2 (True)) ∧ True) ∧ true = true ∧ pP (h22 (tree 5 n (chunks 5 n (List.drop 0 (setFrom (setFrom (setFrom (setFrom L q1 [vs v]) q2 [vi v_1]) q3 [vi v_2]) q4 [vi 0]))) :: t23)) r e))))))) ∧ ∀ (e : Nat), rsI (-1099511627776) 1099511627776 r_1 = Rs.err e → 1 = 1 ∧ True ∧ 0 + Int.toNat i * 5 + 1 + 1 + 1 ≤ List.length (setFrom (setFrom L q1 [vs v]) q2 [vi v_1]) ∧ T16 (T2 (True ∧ ((T16 (T4 (T2 ((0 + n * 5 ≤ List.length (setFrom (setFrom (setFrom L q1 [vs v]) q2 [vi v_1]) q3 [vi 0]) ∧ NLs (List.drop 0 (setFrom (setFrom (setFrom L q1 [vs v]) q2 [vi v_1]) q3 [vi 0]))) ∧ T16 (True ∧ True))))) ∧ (T2 (True)) ∧ (T2 (True)) ∧ True) ∧ true = true ∧ pP (h22 (tree 5 n (chunks 5 n (List.drop 0 (setFrom (setFrom (setFrom L q1 [vs v]) q2 [vi v_1]) q3 [vi 0]))) :: t23)) r_1 e))))))) ∧ ∀ (e : Nat), rsI (-1099511627776) 1099511627776 r = Rs.err e → 1 = 1 ∧ True ∧ 0 + Int.toNat i * 5 + 1 + 0 + 1 ≤ List.length (setFrom L q1 [vs v]) ∧ T16 (T2 (True ∧ ((T16 (T4 (T2 ((0 + n * 5 ≤ List.length (setFrom (setFrom L q1 [vs v]) q2 [vi 0]) ∧ NLs (List.drop 0 (setFrom (setFrom L q1 [vs v]) q2 [vi 0]))) ∧ T16 (True ∧ True))))) ∧ (T2 (True)) ∧ (T2 (True)) ∧ True) ∧ true = true ∧ pP (h22 (tree 5 n (chunks 5 n (List.drop 0 (setFrom (setFrom L q1 [vs v]) q2 [vi 0]))) :: t23)) r e))))))) ∧ ∀ (e : Nat), rsT 64 s = Rs.err e → 1 = 1 ∧ True ∧ 0 + Int.toNat i * 5 + 0 + 1 ≤ List.length L ∧ T16 (T2 (True ∧ ((T16 (T4 (T2 ((0 + n * 5 ≤ List.length (setFrom L q1 [vz]) ∧ NLs (List.drop 0 (setFrom L q1 [vz]))) ∧ T16 (True ∧ True))))) ∧ (T2 (True)) ∧ (T2 (True)) ∧ True) ∧ true = true ∧ pP (h22 (tree 5 n (chunks 5 n (List.drop 0 (setFrom L q1 [vz]))) :: t23)) s e)))))) ((((T16 (T4 (T2 ((0 + n * 5 ≤ List.length L ∧ NLs L) ∧ T16 (True ∧ True))))) ∧ (T2 (True)) ∧ (T2 (True)) ∧ True) ∧ True) ∧ true = true ∧ Post (Out.ret (Value.tuple #[])) [(h22 (tree 5 n (chunks 5 n (List.drop 0 L)) :: t23)), [pt 2, vi w], [vs s, vi 0]])) := by kernel_rfl
theorem z_rd5 (k a w g : Int) (u s : ByteArray) (H : HT) (Post : PX) : vcLX Tryz.prog callR 22 argsR [(19, [0, 1, 132, 133]), (31, [0, 1, 203, 204]), (55, [0, 1, 330, 331])] 3 19 (zR5 k a w g u s) H Post = (True ∧ (((T32 (T8 (True))) ∧ (T2 (True)) ∧ (T2 (True)) ∧ True) ∧ True) ∧ true = true ∧ Post (Out.ret (Value.tuple #[])) [[vi k, vi a, vz, vz, vz, vi 0, vb false, vz, nS, vz, vz, vi 0, vi 0, vi 0, vz, vz, vz, vz, vi 0, vz, vs u, vi g, nS, vz, vi 0, nS, vz, vi 0, vi 0, vi 0, vi 0, vi 0, vi 0, nS, vz, nS, vz, vi 0, vi 0, vi 0], [pt 2, vi w], [vs s, vi 0]]) := by kernel_rfl
theorem l_rd6 (k a w g : Int) (u s : ByteArray) (L : List Value) (n : Nat) (i : Int) (H : HT) (Post : PX) : vcLX Tryz.prog callR 22 argsR [(19, [0, 1, 132, 133]), (31, [0, 1, 203, 204]), (55, [0, 1, 330, 331])] 3 31 (sR6 k a w g u s L n (i)) H Post = (True ∧ pIf (decide (i < (↑n : Int))) (T8 (True ∧ (0 ≤ i ∧ i < (↑n : Int)) ∧ T8 (true = true ∧ s.size < 4611686018427387904 ∧ 64 < 4611686018427387904 ∧ (∀ (v r : ByteArray), rsT 64 s = Rs.ok v r → 1 = 1 ∧ True ∧ 0 + Int.toNat i * 1 + 1 ≤ List.length L ∧ T16 (T4 (True ∧ (T2 (True ∧ NLs (setFrom L (0 + Int.toNat i * 1) [vs v]) ∧ True)) ∧ H (lpC Tryz.prog 22 31) (lpK Tryz.prog 22 31) (stV [(0, some (pt 0)), (1, some (Value.iface 88 (pt 1))), (203, some (vi (↑n : Int))), (204, some (vi (IntKind.wrap IntKind.i64 (i + 1))))] [(0, some (AObj.cells [vi k, vi a, vz, vz, vz, vi 0, vb false, vz, nS, vz, vz, vi 0, vi 0, vi 0, vz, vz, vz, vz, vi 0, vz, vz, vi 0, nS, vs u, vi g, Value.slice (some (Addr.mk 3 0 none)) n 1, vz, vi 0, vi 0, vi 0, vi 0, vi 0, vi 0, nS, vz, nS, vz, vi 0, vi 0, vi 0] true)), (1, some (AObj.cells [pt 2, vi w] true)), (2, some (AObj.cells [vs r, vi 0] true)), (3, some (AObj.cells (setFrom L (0 + Int.toNat i * 1) [vs v]) true))] 4)))) ∧ ∀ (e : Nat), rsT 64 s = Rs.err e → 1 = 1 ∧ True ∧ 0 + Int.toNat i * 1 + 1 ≤ List.length L ∧ T16 (T2 (True ∧ ((T16 (T8 (True ∧ (0 + n * 1 ≤ List.length (setFrom L (0 + Int.toNat i * 1) [vz]) ∧ NLs (List.drop 0 (setFrom L (0 + Int.toNat i * 1) [vz]))) ∧ T8 (T4 (T2 (True)))))) ∧ (T2 (True)) ∧ (T2 (True)) ∧ True) ∧ true = true ∧ Post (Out.pan (Value.iface 50 (vi (Int.ofNat (e + 1))))) [[vi k, vi a, vz, vz, vz, vi 0, vb false, vz, nS, vz, vz, vi 0, vi 0, vi 0, vz, vz, vz, vz, vi 0, vz, vz, vi 0, nS, vs u, vi g, tree 1 n (chunks 1 n (List.drop 0 (setFrom L (0 + Int.toNat i * 1) [vz]))), vz, vi 0, vi 0, vi 0, vi 0, vi 0, vi 0, nS, vz, nS, vz, vi 0, vi 0, vi 0], [pt 2, vi w], [vs s, vi (Int.ofNat (e + 1))]]))))) ((((T16 (T8 (True ∧ (0 + n * 1 ≤ List.length L ∧ NLs L) ∧ T8 (T4 (T2 (True)))))) ∧ (T2 (True)) ∧ (T2 (True)) ∧ True) ∧ True) ∧ true = true ∧ Post (Out.ret (Value.tuple #[])) [[vi k, vi a, vz, vz, vz, vi 0, vb false, vz, nS, vz, vz, vi 0, vi 0, vi 0, vz, vz, vz, vz, vi 0, vz, vz, vi 0, nS, vs u, vi g, tree 1 n (chunks 1 n (List.drop 0 L)), vz, vi 0, vi 0, vi 0, vi 0, vi 0, vi 0, nS, vz, nS, vz, vi 0, vi 0, vi 0], [pt 2, vi w], [vs s, vi 0]])) := by kernel_rfl
theorem z_rd6 (k a w g : Int) (u s : ByteArray) (H : HT) (Post : PX) : vcLX Tryz.prog callR 22 argsR [(19, [0, 1, 132, 133]), (31, [0, 1, 203, 204]), (55, [0, 1, 330, 331])] 3 31 (zR6 k a w g u s) H Post = (True ∧ (((T32 (T8 (True))) ∧ (T2 (True)) ∧ (T2 (True)) ∧ True) ∧ True) ∧ true = true ∧ Post (Out.ret (Value.tuple #[])) [[vi k, vi a, vz, vz, vz, vi 0, vb false, vz, nS, vz, vz, vi 0, vi 0, vi 0, vz, vz, vz, vz, vi 0, vz, vz, vi 0, nS, vs u, vi g, nS, vz, vi 0, vi 0, vi 0, vi 0, vi 0, vi 0, nS, vz, nS, vz, vi 0, vi 0, vi 0], [pt 2, vi w], [vs s, vi 0]]) := by kernel_rfl
theorem l_rd14 (k a w g : Int) (u s : ByteArray) (L : List Value) (n : Nat) (i : Int) (H : HT) (Post : PX) : vcLX Tryz.prog callR 22 argsR [(19, [0, 1, 132, 133]), (31, [0, 1, 203, 204]), (55, [0, 1, 330, 331])] 3 55 (sR14 k a w g u s L n (i)) H Post = (let pP := fun (c : List Value) (r : ByteArray) (e : Nat) => Post (Out.pan (Value.iface 50 (vi (Int.ofNat (e + 1))))) [c, [pt 2, vi w], [vs r, vi (Int.ofNat (e + 1))]]; let t36 := [vz, vi 0, vi 0, vi 0]; let t20 := vz :: vi 0 :: nS :: vz :: vi 0 :: nS :: vz :: vi 0 :: vi 0 :: vi 0 :: vi 0 :: vi 0 :: vi 0 :: nS :: vs u :: Value.slice (some (Addr.mk 3 0 none)) n 4 :: t36; let h20 := fun (t : List Value) => vi k :: vi a :: vz :: vz :: vz :: vi 0 :: vb false :: vz :: nS :: vz :: vz :: vi 0 :: vi 0 :: vi 0 :: vz :: vz :: vz :: vz :: vi 0 :: vz :: t; let h35 := fun (t : List Value) => h20 (vz :: vi 0 :: nS :: vz :: vi 0 :: nS :: vz :: vi 0 :: vi 0 :: vi 0 :: vi 0 :: vi 0 :: vi 0 :: nS :: vs u :: t); let q4 := 0 + Int.toNat i * 4 + 3; let q3 := 0 + Int.toNat i * 4 + 1 + 1; let q2 := 0 + Int.toNat i * 4 + 1 + 0; let q1 := 0 + Int.toNat i * 4 + 0; True ∧ pIf (decide (i < (↑n : Int))) (T8 ((0 ≤ i ∧ i < (↑n : Int)) ∧ T8 (T4 (True ∧ true = true ∧ s.size < 4611686018427387904 ∧ 64 < 4611686018427387904 ∧ (∀ (v r : ByteArray), rsT 64 s = Rs.ok v r → 1 = 1 ∧ True ∧ 0 + Int.toNat i * 4 + 0 + 1 ≤ List.length L ∧ T32 (T2 (True ∧ (toI (vi 0) ≤ 0 ∧ toI (vi 0) < (↑3 : Int)) ∧ T8 (T2 (True ∧ true = true ∧ r.size < 4611686018427387904 ∧ (∀ (v_1 : Int) (r_1 : ByteArray), rsI (-1099511627776) 1099511627776 r = Rs.ok v_1 r_1 → 1 = 1 ∧ True ∧ 0 + Int.toNat i * 4 + 1 + 0 + 1 ≤ List.length (setFrom L q1 [vs v]) ∧ T16 (T4 ((toI (vi 0) ≤ IntKind.wrap IntKind.i64 (0 + 1) ∧ toI (vi (IntKind.wrap IntKind.i64 (0 + 1))) < (↑3 : Int)) ∧ T8 (T2 (True ∧ true = true ∧ r_1.size < 4611686018427387904 ∧ (∀ (v_2 : Int) (r : ByteArray), rsI (-1099511627776) 1099511627776 r_1 = Rs.ok v_2 r → 1 = 1 ∧ True ∧ 0 + Int.toNat i * 4 + 1 + 1 + 1 ≤ List.length (setFrom (setFrom L q1 [vs v]) q2 [vi v_1]) ∧ T16 (T4 ((toI (vi 0) ≤ IntKind.wrap IntKind.i64 (IntKind.wrap IntKind.i64 (0 + 1) + 1) ∧ toI (vi (IntKind.wrap IntKind.i64 (IntKind.wrap IntKind.i64 (0 + 1) + 1))) < (↑3 : Int)) ∧ T8 (T2 (True ∧ true = true ∧ r.size < 4611686018427387904 ∧ (∀ (v_3 : Int) (r_2 : ByteArray), rsI (-1099511627776) 1099511627776 r = Rs.ok v_3 r_2 → 1 = 1 ∧ True ∧ 0 + Int.toNat i * 4 + 3 + 1 ≤ List.length (setFrom (setFrom (setFrom L q1 [vs v]) q2 [vi v_1]) q3 [vi v_2]) ∧ T16 (T8 ((T2 (True ∧ NLs (setFrom (setFrom (setFrom (setFrom L q1 [vs v]) q2 [vi v_1]) q3 [vi v_2]) q4 [vi v_3]) ∧ True)) ∧ H (lpC Tryz.prog 22 55) (lpK Tryz.prog 22 55) (stV [(0, some (pt 0)), (1, some (Value.iface 88 (pt 1))), (330, some (vi (↑n : Int))), (331, some (vi (IntKind.wrap IntKind.i64 (i + 1))))] [(0, some (AObj.cells (h20 t20) true)), (1, some (AObj.cells [pt 2, vi w] true)), (2, some (AObj.cells [vs r_2, vi 0] true)), (3, some (AObj.cells (setFrom (setFrom (setFrom (setFrom L q1 [vs v]) q2 [vi v_1]) q3 [vi v_2]) q4 [vi v_3]) true))] 4)))) ∧ ∀ (e : Nat), rsI (-1099511627776) 1099511627776 r = Rs.err e → 1 = 1 ∧ True ∧ 0 + Int.toNat i * 4 + 3 + 1 ≤ List.length (setFrom (setFrom (setFrom L q1 [vs v]) q2 [vi v_1]) q3 [vi v_2]) ∧ T16 (T2 (True ∧ ((T32 (T2 (True ∧ (0 + n * 4 ≤ List.length (setFrom (setFrom (setFrom (setFrom L q1 [vs v]) q2 [vi v_1]) q3 [vi v_2]) q4 [vi 0]) ∧ NLs (List.drop 0 (setFrom (setFrom (setFrom (setFrom L q1 [vs v]) q2 [vi v_1]) q3 [vi v_2]) q4 [vi 0]))) ∧ T4 (True)))) ∧ (T2 (True)) ∧ (T2 (True)) ∧ True) ∧ true = true ∧ pP (h35 (tree 4 n (chunks 4 n (List.drop 0 (setFrom (setFrom (setFrom (setFrom L q1 [vs v]) q2 [vi v_1]) q3 [vi v_2]) q4 [vi 0]))) :: t36)) r e))))))) ∧ ∀ (e : Nat), rsI (-1099511627776) 1099511627776 r_1 = Rs.err e → 1 = 1 ∧ True ∧ 0 + Int.toNat i * 4 + 1 + 1 + 1 ≤ List.length (setFrom (setFrom L q1 [vs v]) q2 [vi v_1]) ∧ T16 (T2 (True ∧ ((T32 (T2 (True ∧ (0 + n * 4 ≤ List.length (setFrom (setFrom (setFrom L q1 [vs v]) q2 [vi v_1]) q3 [vi 0]) ∧ NLs (List.drop 0 (setFrom (setFrom (setFrom L q1 [vs v]) q2 [vi v_1]) q3 [vi 0]))) ∧ T4 (True)))) ∧ (T2 (True)) ∧ (T2 (True)) ∧ True) ∧ true = true ∧ pP (h35 (tree 4 n (chunks 4 n (List.drop 0 (setFrom (setFrom (setFrom L q1 [vs v]) q2 [vi v_1]) q3 [vi 0]))) :: t36)) r_1 e))))))) ∧ ∀ (e : Nat), rsI (-1099511627776) 1099511627776 r = Rs.err e → 1 = 1 ∧ True ∧ 0 + Int.toNat i * 4 + 1 + 0 + 1 ≤ List.length (setFrom L q1 [vs v]) ∧ T16 (T2 (True ∧ ((T32 (T2 (True ∧ (0 + n * 4 ≤ List.length (setFrom (setFrom L q1 [vs v]) q2 [vi 0]) ∧ NLs (List.drop 0 (setFrom (setFrom L q1 [vs v]) q2 [vi 0]))) ∧ T4 (True)))) ∧ (T2 (True)) ∧ (T2 (True)) ∧ True) ∧ true = true ∧ pP (h35 (tree 4 n (chunks 4 n (List.drop 0 (setFrom (setFrom L q1 [vs v]) q2 [vi 0]))) :: t36)) r e))))))) ∧ ∀ (e : Nat), rsT 64 s = Rs.err e → 1 = 1 ∧ True ∧ 0 + Int.toNat i * 4 + 0 + 1 ≤ List.length L ∧ T16 (T2 (True ∧ ((T32 (T2 (True ∧ (0 + n * 4 ≤ List.length (setFrom L q1 [vz]) ∧ NLs (List.drop 0 (setFrom L q1 [vz]))) ∧ T4 (True)))) ∧ (T2 (True)) ∧ (T2 (True)) ∧ True) ∧ true = true ∧ pP (h35 (tree 4 n (chunks 4 n (List.drop 0 (setFrom L q1 [vz]))) :: t36)) s e)))))) ((((T32 (T2 (True ∧ (0 + n * 4 ≤ List.length L ∧ NLs L) ∧ T4 (True)))) ∧ (T2 (True)) ∧ (T2 (True)) ∧ True) ∧ True) ∧ true = true ∧ Post (Out.ret (Value.tuple #[])) [(h35 (tree 4 n (chunks 4 n (List.drop 0 L)) :: t36)), [pt 2, vi w], [vs s, vi 0]])) := by kernel_rfl
theorem z_rd14 (k a w g : Int) (u s : ByteArray) (H : HT) (Post : PX) : vcLX Tryz.prog callR 22 argsR [(19, [0, 1, 132, 133]), (31, [0, 1, 203, 204]), (55, [0, 1, 330, 331])] 3 55 (zR14 k a w g u s) H Post = (True ∧ (((T32 (T8 (True))) ∧ (T2 (True)) ∧ (T2 (True)) ∧ True) ∧ True) ∧ true = true ∧ Post (Out.ret (Value.tuple #[])) [[vi k, vi a, vz, vz, vz, vi 0, vb false, vz, nS, vz, vz, vi 0, vi 0, vi 0, vz, vz, vz, vz, vi 0, vz, vz, vi 0, nS, vz, vi 0, nS, vz, vi 0, vi 0, vi 0, vi 0, vi 0, vi 0, nS, vs u, nS, vz, vi 0, vi 0, vi 0], [pt 2, vi w], [vs s, vi 0]]) := by kernel_rfl
def rowC {α : Type} [Enc α] (l : List α) : List Value := l.flatMap Enc.cells
theorem rowC_snoc {α : Type} [Enc α] (l : List α) (a : α) : rowC (l ++ [a]) = rowC l ++ Enc.cells a := by simp [rowC]
theorem rowC_len {α : Type} [Enc α] : ∀ l : List α, (rowC l).length = l.length * Enc.sz α
 | [] => by simp [rowC]
 | a :: l => by
  have := rowC_len l
  unfold rowC at *
  rw [List.flatMap_cons, List.length_append, this, Enc.len, List.length_cons, Nat.succ_mul, Nat.add_comm]
theorem rowC_nls {α : Type} [Enc α] (l : List α) : NLs (rowC l) := by
 intro v hv
 obtain ⟨a, _, ha⟩ := List.mem_flatMap.1 hv
 exact Enc.nl a v ha
theorem chunks_row {α : Type} [Enc α] (l : List α) : chunks (Enc.sz α) l.length (rowC l) = encL l := by
 unfold chunks encL
 cases hs : (Enc.sz α).beq 1 with
 | true =>
  have h1 := Nat.eq_of_beq_eq_true hs
  rw [cond_true]
  have : rowC l = l.map fun a => elt (Enc.cells a) := by
   clear hs
   induction l with
   | nil => rfl
   | cons a l ih =>
    unfold rowC at *
    rw [List.flatMap_cons, ih, List.map_cons]
    have := Enc.len a
    rw [h1] at this
    obtain ⟨v, hv⟩ := List.length_eq_one_iff.1 this
    rw [hv]
    rfl
  rw [this, List.take_of_length_le (by rw [List.length_map]; exact Nat.le_refl _)]
 | false =>
  rw [cond_false]
  congr 1
  have hne : Enc.sz α ≠ 1 := fun e => by rw [e] at hs; cases hs
  have helt : ∀ a : α, elt (Enc.cells a) = .agg (Enc.cells a).toArray := fun a => by
   have := Enc.len a
   match h : Enc.cells a with
   | [] => rfl
   | [v] => rw [h] at this; exact absurd this.symm hne
   | _ :: _ :: _ => rfl
  clear hs
  induction l with
  | nil => rfl
  | cons a l ih =>
   rw [List.length_cons, List.range_succ_eq_map, List.map_cons, List.map_cons, List.map_map, ← ih, helt]
   congr 1
   ·unfold rowC
    rw [List.flatMap_cons, Nat.zero_mul, List.drop_zero, List.take_left' (Enc.len a)]
   ·apply List.map_congr_left
    intro i _
    show Value.agg _ = Value.agg _
    congr 3
    unfold rowC
    rw [List.flatMap_cons, show (i + 1) * Enc.sz α = (Enc.cells a).length + i * Enc.sz α by rw [Enc.len, Nat.succ_mul, Nat.add_comm], List.drop_append, List.drop_eq_nil_of_le (Nat.le_add_right _ _), Nat.add_sub_cancel_left, List.nil_append]
def Rs.bind {α β : Type} (q : Rs α) (f : α → ByteArray → Rs β) : Rs β := match q with
 | .ok v r => f v r
 | .err e => .err e
def rdF : Fd → ByteArray → Rs Va
 | .t, s => (rsT 64 s).bind fun v r => .ok (.s v) r
 | .n lo hi, s => (rsI lo hi s).bind fun v r => .ok (.i v) r
 | .b, s => (rsB s).bind fun v r => .ok (.b v) r
def rdFs : List Fd → ByteArray → Rs (List Va)
 | [], s => .ok [] s
 | f :: fs, s => (rdF f s).bind fun v r => (rdFs fs r).bind fun vs r => .ok (v :: vs) r
def rdEs (fs : List Fd) : Nat → ByteArray → Rs (List (List Va))
 | 0, s => .ok [] s
 | n + 1, s => (rdFs fs s).bind fun v r => (rdEs fs n r).bind fun vs r => .ok (v :: vs) r
def rdLs (k : Nat) (s : ByteArray) : Rs (List (List Va)) := match shE k with
 | none => .ok [] s
 | some (m, fs) => (rsL m s).bind fun n r => rdEs fs n r
def rdBody (k : Nat) (s : ByteArray) : Rs (List Va × List (List Va)) := (rdFs (shN k) s).bind fun vs r => (rdLs k r).bind fun es r => .ok (vs, es) r
def gS (l : List Va) (i : Nat) : ByteArray := match l[i]? with
 | some (.s x) => x
 | _ => ⟨#[]⟩
def gI (l : List Va) (i : Nat) : Int := match l[i]? with
 | some (.i x) => x
 | _ => 0
def gB (l : List Va) (i : Nat) : Bool := match l[i]? with
 | some (.b x) => x
 | _ => false
def toSpot (l : List Va) : Spot := ⟨gS l 0, ⟨gI l 1, gI l 2⟩, gI l 3, gB l 4⟩
def toName (l : List Va) : ByteArray := gS l 0
def toHook (l : List Va) : Hook4 := ⟨gS l 0, ⟨gI l 1, gI l 2⟩, gI l 3⟩
def mkEv (k a : Int) (v : List Va) (es : List (List Va)) : Event :=
 let z : Event := { evt0 with kind := k, at_ := a }
 match k.toNat with
 | 2 => { z with sheet := ⟨gS v 0, gS v 1, gI v 2, gI v 3, gI v 4, gS v 5⟩ }
 | 3 => { z with bar := ⟨gS v 0, gS v 1, gS v 2, gI v 3, gS v 4⟩ }
 | 4 => { z with item := gS v 0, by_ := gS v 1 }
 | 5 => { z with nest := ⟨gS v 0, gI v 1, es.map toSpot⟩ }
 | 6 => { z with saw := ⟨gS v 0, gI v 1, es.map toName⟩ }
 | 7 => { z with item := gS v 0 }
 | 8 => { z with item := gS v 0 }
 | 9 => { z with item := gS v 0, of_ := gS v 1, by_ := gS v 2 }
 | 10 => { z with item := gS v 0, n := gI v 1, pass := gB v 2 }
 | 11 => { z with item := gS v 0, of_ := gS v 1, by_ := gS v 2 }
 | 12 => { z with item := gS v 0 }
 | 13 => { z with weig := ⟨gS v 0, 0, gI v 1, ⟨gI v 2, gI v 3, gI v 4⟩, gI v 5, []⟩ }
 | 14 => { z with lift := ⟨gS v 0, es.map toHook⟩ }
 | 15 => { z with permit := ⟨gS v 0, gI v 1, ⟨gI v 2, gI v 3⟩⟩ }
 | 16 => { z with item := gS v 0 }
 | _ => z
theorem mkRs_ok {α : Type} {q : α × St} {v : α} {r : ByteArray} (h : mkRs q = .ok v r) : q.2.2 = 0 ∧ q.1 = v ∧ q.2.1 = r := by
 unfold mkRs at h
 split at h
 ·cases h; exact ⟨by assumption, rfl, rfl⟩
 ·cases h
theorem leT {m : Nat} {s v r : ByteArray} (h : rsT m s = .ok v r) : r.size ≤ s.size := by
 obtain ⟨_, _, rfl⟩ := mkRs_ok h
 have := (rdHead_left 2 m true (s, 0)).1
 show ((rdHead 2 m true (s, 0)).2.1.extract _ _).size ≤ _
 rw [ext_size]
 exact Nat.le_trans (Nat.sub_le _ _) this
theorem leI {lo hi v : Int} {s r : ByteArray} (h : rsI lo hi s = .ok v r) : r.size ≤ s.size := by
 obtain ⟨_, _, rfl⟩ := mkRs_ok h
 unfold rdInt
 dsimp only
 split
 ·exact Nat.le_refl _
 split
 ·exact Nat.le_refl _
 split
 ·exact Nat.le_refl _
 generalize (if (pk s 0 1).1 = 1 then -1 - ((pk s 0 1).2.1 : Int) else ((pk s 0 1).2.1 : Int)) = y
 split
 ·exact Nat.le_refl _
 ·dsimp only
  rw [ext_size]
  exact Nat.sub_le _ _
theorem leL {m v : Nat} {s r : ByteArray} (h : rsL m s = .ok v r) : r.size ≤ s.size ∧ v ≤ m := by
 obtain ⟨_, rfl, rfl⟩ := mkRs_ok h
 have := rdHead_left 4 m false (s, 0)
 exact ⟨this.1, this.2.1⟩
theorem leB {v : Bool} {s r : ByteArray} (h : rsB s = .ok v r) : r.size ≤ s.size := by
 unfold rsB at h
 split at h
 ·cases h
 split at h
 ·cases h; rw [ext_size]; exact Nat.sub_le _ _
 split at h
 ·cases h; rw [ext_size]; exact Nat.sub_le _ _
 ·cases h
end Go.Proofs.YtegjnjmimfgijaaGreatDoor
