/-
  Put together out of several texts, each in its own namespace's block. Conditions: as each theorem states them.
-/
import Derived.Test.YtegjnjmimfgijaaGreatDoorQBld
import Derived.Test.YtegjnjmimfgijaaGreatDoorQVa
import Derived.Test.YtegjnjmimfgijaaGreatDoorQOd
import Derived.Test.YtegjnjmimfgijaaGreatDoorQSj
import Derived.Test.YtegjnjmimfgijaaGreatDoorRows
noncomputable section
namespace Go.Proofs.YtegjnjmimfgijaaGreatDoor
open Go Go.RowKit
set_option maxRecDepth 100000
set_option maxHeartbeats 8000000
def tabRS : List Ent := [⟨38, c_SameO⟩, ⟨39, c_SameN⟩, ⟨40, c_eqNames⟩, ⟨42, c_eqHooks⟩]
def callRS : VCall := inlCall Tryz.prog [41] (tabCall tabRS noCall) 2
theorem e_rSame (a b : Event) (H : HT) (Post : PV) : vcP Tryz.prog callRS 17 [] [eventV a, eventV b] H Post = (let q10 := [tree 1 a.saw.parts.length (encL a.saw.parts), tree 1 b.saw.parts.length (encL b.saw.parts)]; let q9 := [tree 4 a.lift.hooks.length (encL a.lift.hooks), tree 4 b.lift.hooks.length (encL b.lift.hooks)]; let q8 := [tree 1 a.weig.parts.length (encL a.weig.parts), tree 1 b.weig.parts.length (encL b.weig.parts)]; let q7 := decide (a.weig.centre.x = b.weig.centre.x) && (decide (a.weig.centre.y = b.weig.centre.y) && (decide (a.weig.centre.z = b.weig.centre.z) && true)); let q6 := [Value.agg #[vs a.order.id, tree 38 a.order.edits.length (encL a.order.edits)], Value.agg #[vs b.order.id, tree 38 b.order.edits.length (encL b.order.edits)]]; let q5 := [Value.agg #[vs a.nest.sheet, vi a.nest.gap, tree 5 a.nest.spots.length (encL a.nest.spots)], Value.agg #[vs b.nest.sheet, vi b.nest.gap, tree 5 b.nest.spots.length (encL b.nest.spots)]]; let q4 := decide (a.bar.id = b.bar.id) && (decide (a.bar.sect = b.bar.sect) && (decide (a.bar.grade = b.bar.grade) && (decide (a.bar.long = b.bar.long) && (decide (a.bar.heat = b.bar.heat) && true)))); let q1 := True ∧ Post (vb false); let q3 := T4 (T2 (True ∧ pIf (decide (a.permit.id = b.permit.id) && (decide (a.permit.kind = b.permit.kind) && (decide (a.permit.time.a = b.permit.time.a) && (decide (a.permit.time.b = b.permit.time.b) && true) && true))) (T2 (True ∧ Post (vb true))) (T2 q1))); let q2 := decide (a.sheet.id = b.sheet.id) && (decide (a.sheet.grade = b.sheet.grade) && (decide (a.sheet.thick = b.sheet.thick) && (decide (a.sheet.long = b.sheet.long) && (decide (a.sheet.width = b.sheet.width) && (decide (a.sheet.heat = b.sheet.heat) && true))))); T8 (pIf (decide (a.kind = b.kind)) (T4 (T2 (pIf (decide (a.at_ = b.at_)) (T4 (T2 (True ∧ pIf (decide (a.item = b.item)) (T4 (T2 (True ∧ pIf (decide (a.of_ = b.of_)) (T4 (T2 (True ∧ pIf (decide (a.by_ = b.by_)) (T4 (T2 (True ∧ pIf (decide (a.n = b.n)) (T4 (pIf a.pass (T2 (pIf b.pass (T4 (T2 (True ∧ ∃ (a_1 : Order2), ∃ (b_1 : Order2), eqL q6 [order2V a_1, order2V b_1] ∧ ShortO a_1 ∧ pIf (decide (a_1 = b_1)) (T4 (T2 (True ∧ pIf q2 (T4 (T2 (True ∧ pIf q4 (T4 (T2 (∃ (a_2 : Nest3), ∃ (b_2 : Nest3), eqL q5 [nest3V a_2, nest3V b_2] ∧ Short a_2.spots ∧ pIf (decide (a_2 = b_2)) (T8 (True ∧ pIf (decide (a.saw.bar = b.saw.bar)) (T8 (True ∧ pIf (decide (a.saw.kerf = b.saw.kerf)) (T8 (∃ (l : List ByteArray), ∃ (m : List ByteArray), eqL q10 [tree 1 l.length (encL l), tree 1 m.length (encL m)] ∧ Short l ∧ pIf (decide (l = m)) (T8 (T4 (T2 (pIf (decide (a.weig.block = b.weig.block)) (T4 (T2 (pIf (decide (a.weig.at_ = b.weig.at_)) (T4 (T2 (True ∧ pIf (decide (a.weig.mass = b.weig.mass)) (T4 (T2 (True ∧ pIf q7 (T4 (T2 (True ∧ pIf (decide (a.weig.sigma = b.weig.sigma)) (T4 (T2 (∃ (l : List ByteArray), ∃ (m : List ByteArray), eqL q8 [tree 1 l.length (encL l), tree 1 m.length (encL m)] ∧ Short l ∧ pIf (decide (l = m)) (T8 (T2 (True ∧ pIf (decide (a.lift.block = b.lift.block)) (T8 (∃ (l : List Hook4), ∃ (m : List Hook4), eqL q9 [tree 4 l.length (encL l), tree 4 m.length (encL m)] ∧ Short l ∧ pIf (decide (l = m)) q3 (T4 q1))) (T4 (T2 q1))))) (T8 (T2 q1))))) (T8 (T4 q1))))) (T8 (T4 (T2 q1)))))) (T16 q1)))) (T16 (T2 q1))))) (T16 (T4 (Post (vb false)))))))) (T8 (T2 q1)))) (T8 (T4 q1)))) (T8 (T4 (T2 q1))))) (T16 q1)))) (T16 (T2 q1))))) (T16 (T4 q1))))) (T16 (T4 (T2 q1)))))) (T16 (T8 (T2 (Post (vb false))))))) (T2 (pIf b.pass (T16 (T8 (T2 (Post (vb false))))) (T4 (T2 (True ∧ ∃ (a_1 : Order2), ∃ (b_1 : Order2), eqL q6 [order2V a_1, order2V b_1] ∧ ShortO a_1 ∧ pIf (decide (a_1 = b_1)) (T4 (T2 (True ∧ pIf q2 (T4 (T2 (True ∧ pIf q4 (T4 (T2 (∃ (a_2 : Nest3), ∃ (b_2 : Nest3), eqL q5 [nest3V a_2, nest3V b_2] ∧ Short a_2.spots ∧ pIf (decide (a_2 = b_2)) (T8 (True ∧ pIf (decide (a.saw.bar = b.saw.bar)) (T8 (True ∧ pIf (decide (a.saw.kerf = b.saw.kerf)) (T8 (∃ (l : List ByteArray), ∃ (m : List ByteArray), eqL q10 [tree 1 l.length (encL l), tree 1 m.length (encL m)] ∧ Short l ∧ pIf (decide (l = m)) (T8 (T4 (T2 (pIf (decide (a.weig.block = b.weig.block)) (T4 (T2 (pIf (decide (a.weig.at_ = b.weig.at_)) (T4 (T2 (True ∧ pIf (decide (a.weig.mass = b.weig.mass)) (T4 (T2 (True ∧ pIf q7 (T4 (T2 (True ∧ pIf (decide (a.weig.sigma = b.weig.sigma)) (T4 (T2 (∃ (l : List ByteArray), ∃ (m : List ByteArray), eqL q8 [tree 1 l.length (encL l), tree 1 m.length (encL m)] ∧ Short l ∧ pIf (decide (l = m)) (T8 (T2 (True ∧ pIf (decide (a.lift.block = b.lift.block)) (T8 (∃ (l : List Hook4), ∃ (m : List Hook4), eqL q9 [tree 4 l.length (encL l), tree 4 m.length (encL m)] ∧ Short l ∧ pIf (decide (l = m)) q3 (T4 q1))) (T4 (T2 q1))))) (T8 (T2 q1))))) (T8 (T4 q1))))) (T8 (T4 (T2 q1)))))) (T16 q1)))) (T16 (T2 q1))))) (T16 (T4 (Post (vb false)))))))) (T8 (T2 q1)))) (T8 (T4 q1)))) (T8 (T4 (T2 q1))))) (T16 q1)))) (T16 (T2 q1))))) (T16 (T4 q1))))) (T16 (T4 (T2 q1)))))))))) (T16 (T8 (T2 q1)))))) (T16 (T8 (T4 q1)))))) (T16 (T8 (T4 (T2 q1))))))) (T32 q1)))) (T32 (T2 q1))))) (T32 (T4 (Post (vb false)))))) := by kernel_rfl
theorem callRS_ok : VCallOk Tryz.prog callRS := inlCall_ok mixed (tabCall_ok (by
 intro e he
 simp only [tabRS, List.mem_cons, List.not_mem_nil, or_false] at he
 rcases he with rfl | rfl | rfl | rfl
 ·exact ok_sameOrder
 ·exact ok_sameNest
 ·exact ok_sameStrings
 ·exact ok_sameHooks) noCall_ok) 2
structure ShortEv (x : Event) : Prop where
 order : ShortO x.order
 spots : Short x.nest.spots
 saw : Short x.saw.parts
 weig : Short x.weig.parts
 hooks : Short x.lift.hooks
def c_rSame (args : List Value) (Post : Value → Prop) : Prop := ∃ a b : Event, args = [eventV a, eventV b] ∧ ShortEv a ∧ Post (.bool (decide (a = b)))
theorem ok_rSame : EntOk Tryz.prog ⟨17, c_rSame⟩ := by
 rintro args Post ⟨a, b, rfl, ⟨s1, s2, s3, s4, s5⟩, h⟩
 refine pure_P (vc := callRS) callRS_ok mixed (by kernel_rfl) (by kernel_rfl) _ (e_rSame a b _ _) ?_
 simp only [true_and, and_true]
 repeat' (first
  | refine pIf_intro (fun hh => ?_) (fun hh => of_b h (decide_eq_false fun e => by subst e; simp at hh))
  | refine pIf_intro (fun hh => of_b h (decide_eq_false fun e => by subst e; simp at hh)) (fun hh => ?_)
  | refine pIf_intro (fun ha => pIf_intro (fun hb => ?_) (fun hb => of_b h (decide_eq_false fun e => by subst e; rw [ha] at hb; cases hb))) (fun ha => pIf_intro (fun hb => of_b h (decide_eq_false fun e => by subst e; rw [ha] at hb; cases hb)) (fun hb => ?_))
  | (refine of_b h (decide_eq_true ?_); clear h; simp only [Bool.and_eq_true, decide_eq_true_eq, and_true, Bool.not_eq_false', Bool.not_eq_eq_eq_not, Bool.not_false] at *; refine Event.ext' ?_ ?_ ?_ ?_ ?_ ?_ ?_ ?_ (Sheet6.ext' ?_ ?_ ?_ ?_ ?_ ?_) (Bar5.ext' ?_ ?_ ?_ ?_ ?_) ?_ (Saw3.ext' ?_ ?_ ?_) (Weig.ext' ?_ ?_ ?_ (Vec3.ext' ?_ ?_ ?_) ?_ ?_) (Lift2.ext' ?_ ?_) (Permit3.ext' ?_ ?_ (Span2.ext' ?_ ?_)) <;> simp_all)
  | refine ⟨_, _, rfl, by assumption, ?_⟩
)
def IsW (I : Base → Option ByteArray → Prop) (kx : Nat × Nat × Nat) : Prop := ∃ W0 c, I = HidO W0 c ∧ kx = (c, 0, 2)
def evt0 : Event := ⟨0, 0, ⟨#[]⟩, ⟨#[]⟩, ⟨#[]⟩, 0, false, ⟨⟨#[]⟩, []⟩, ⟨⟨#[]⟩, ⟨#[]⟩, 0, 0, 0, ⟨#[]⟩⟩, ⟨⟨#[]⟩, ⟨#[]⟩, ⟨#[]⟩, 0, ⟨#[]⟩⟩, ⟨⟨#[]⟩, 0, []⟩, ⟨⟨#[]⟩, 0, []⟩, ⟨⟨#[]⟩, 0, 0, ⟨0, 0, 0⟩, 0, []⟩, ⟨⟨#[]⟩, []⟩, ⟨⟨#[]⟩, 0, ⟨0, 0⟩⟩⟩
def evtL : Event := { evt0 with kind := 17, at_ := 5 }
def evtF : Event := { evt0 with kind := 8, at_ := 100, item := ⟨#[80, 49]⟩ }
def nilV : Value → Value
 | .func _ _ _ => .slice none 0 0
 | v => v
def evN (x : Event) : Value := .agg ((eventC x).map nilV).toArray
def inlA : List FuncId := [10, 12, 20, 21, 22, 18, 43, 47, 48, 49, 50, 51,
 45, 46, 72, 73, 86, 95, 97, 104,
 66, 67, 68, 32, 69, 70, 140, 56,
 129, 130, 131, 132, 133, 158, 159, 160, 161, 162,
 135, 136, 137, 138, 139]
def baseA : PCall := tabNil Tryz.prog [⟨44, c_Order⟩, ⟨96, c_Cnt⟩, ⟨107, c_Idx⟩] noP
theorem baseA_ok : PCallOk Tryz.prog baseA := tabNil_ok (by
 intro e he
 simp only [List.mem_cons, List.not_mem_nil, or_false] at he
 rcases he with rfl | rfl | rfl
 ·exact ok_chEnc
 ·exact ok_Cnt
 ·exact ok_Idx) noP_ok
def callA : PCall := inlP Tryz.prog inlA baseA 12
theorem callA_ok : PCallOk Tryz.prog callA := inlP_ok mixed baseA_ok 12
def mkA : Nat → GCall (Option ByteArray) := mkW inlA baseA
theorem mkA_ok (W0 : Base) (c kb : Nat) : GCallOk Tryz.prog (HidO W0 c) kb (c, 0, 2) (mkA kb) := mkW_ok mixed baseA_ok W0 c kb
theorem e_encL  (H : HT) (Post : PX) : (fun _ => vcW callA mkA 14 [evN evtL]) H Post = (T16 ((toI (vi 0) ≤ evtL.kind ∧ toI (vi evtL.kind) < (↑19 : Int)) ∧ vs (ByteArray.mk #[108, 97, 117, 110, 99, 104]) = vs (toS (cellAt #[Value.agg #[vz, vs (ByteArray.mk #[111, 114, 100, 101, 114]), vs (ByteArray.mk #[115, 104, 101, 101, 116]), vs (ByteArray.mk #[98, 97, 114]), vs (ByteArray.mk #[98, 117, 121]), vs (ByteArray.mk #[110, 101, 115, 116]), vs (ByteArray.mk #[115, 97, 119]), vs (ByteArray.mk #[115, 99, 114, 97, 112]), vs (ByteArray.mk #[102, 105, 116]), vs (ByteArray.mk #[119, 101, 108, 100]), vs (ByteArray.mk #[105, 110, 115, 112, 101, 99, 116]), vs (ByteArray.mk #[114, 101, 112, 97, 105, 114]), vs (ByteArray.mk #[112, 97, 99, 107, 97, 103, 101]), vs (ByteArray.mk #[119, 101, 105, 103, 104]), vs (ByteArray.mk #[101, 114, 101, 99, 116]), vs (ByteArray.mk #[112, 101, 114, 109, 105, 116]), vs (ByteArray.mk #[116, 101, 115, 116]), vs (ByteArray.mk #[108, 97, 117, 110, 99, 104]), vs (ByteArray.mk #[100, 101, 108, 105, 118, 101, 114])]] 0 (0 + 17))) ∧ T32 (T16 (T4 (T2 (1 ≤ 40 ∧ True ∧ 2 ≤ 40 ∧ T8 (T2 (True ∧ 8 ≤ 8 ∧ ((Value.agg #[vz, vi 0, vi 0, vi 0, vi 0, vi 0, vi 0, nS] = Value.agg #[vz, vi 0, vi 0, vi 0, vi 0, vi 0, vi 0, nS] ∧ True) ∧ True) ∧ 8 ≤ 8 ∧ T32 (T32 (T32 (T32 (T32 (T32 (T32 (T8 (T2 (((T2 (True)) ∧ True) ∧ ∃ (o : Order2), eqL [Value.agg #[nilV (vs evtL.order.id), tree 38 0 #[]]] [order2V o] ∧ InOrder o ∧ FewO o ∧ ((Value.agg #[vz, nS] = Value.agg #[vz, nS] ∧ True) ∧ True) ∧ ((T2 (True)) ∧ True) ∧ ∃ (o_1 : Order2), eqL [Value.agg #[vz, tree 38 0 #[]]] [order2V o_1] ∧ InOrder o_1 ∧ FewO o_1 ∧ T2 (pIf (decide (bOrder o = bOrder o_1)) (T32 (T32 (T16 (T8 (True ∧ toI (vi 0) ≤ 5 ∧ T8 (T2 (1 ≤ 1 ∧ 1 ≤ 33554432 ∧ true = true ∧ 1 = 1 ∧ True ∧ (1 ≤ 1 ∧ AllU8 [Value.int IntKind.u8 (IntKind.wrap IntKind.u8 (↑17 : Int))]) ∧ True ∧ ((nilV (vi evtL.at_) = vi evtL.at_ ∧ True) ∧ True) ∧ T4 (T2 (True ∧ toI (vi 0) ≤ 5 ∧ T8 (T2 (1 ≤ 1 ∧ 1 ≤ 33554432 ∧ true = true ∧ 1 = 1 ∧ True ∧ (1 ≤ 1 ∧ AllU8 [Value.int IntKind.u8 (IntKind.wrap IntKind.u8 (↑5 : Int))]) ∧ T2 (2 ≤ 9223372036854775807 ∧ 2 ≤ 140737488355328 ∧ T32 (T4 (T2 (True ∧ 0 < 2 ∧ T2 ((T2 (True ∧ True)) ∧ true = true ∧ Post (Out.ret (Value.tuple #[vs (ByteArray.empty ++ (bytesL [Value.int IntKind.u8 (IntKind.wrap IntKind.u8 (↑17 : Int))] ++ bytesL [Value.int IntKind.u8 (IntKind.wrap IntKind.u8 (↑5 : Int))])), vi 0])) [])))))))))))))))) (T8 (T4 ((T2 (True ∧ True)) ∧ true = true ∧ Post (Out.ret (Value.tuple #[vz, vi 2])) []))))))))))))))))))))) := by kernel_rfl
theorem e_encF  (H : HT) (Post : PX) : (fun _ => vcW callA mkA 14 [evN evtF]) H Post = (let q2 := ((↑evtF.item.size : Int) + 1); let q1 := ((↑(Lib.countByte (Array.toList (ByteArray.data evtF.item)) 46) : Int) + 1); let q5 := if w64 q2 < w64 q1 then w64 q2 else w64 q1; let q4 := [Value.int IntKind.u8 (IntKind.wrap IntKind.u8 (↑66 : Int)), Value.int IntKind.u8 (↑80 : Int), Value.int IntKind.u8 (↑49 : Int)]; let q3 := [Value.int IntKind.u8 (IntKind.wrap IntKind.u8 (↑24 : Int)), Value.int IntKind.u8 (IntKind.wrap IntKind.u8 (Int.fdiv (IntKind.wrap IntKind.u64 evtF.at_) (2 ^ 0)))]; T16 ((toI (vi 0) ≤ evtF.kind ∧ toI (vi evtF.kind) < (↑19 : Int)) ∧ vs (ByteArray.mk #[102, 105, 116]) = vs (toS (cellAt #[Value.agg #[vz, vs (ByteArray.mk #[111, 114, 100, 101, 114]), vs (ByteArray.mk #[115, 104, 101, 101, 116]), vs (ByteArray.mk #[98, 97, 114]), vs (ByteArray.mk #[98, 117, 121]), vs (ByteArray.mk #[110, 101, 115, 116]), vs (ByteArray.mk #[115, 97, 119]), vs (ByteArray.mk #[115, 99, 114, 97, 112]), vs (ByteArray.mk #[102, 105, 116]), vs (ByteArray.mk #[119, 101, 108, 100]), vs (ByteArray.mk #[105, 110, 115, 112, 101, 99, 116]), vs (ByteArray.mk #[114, 101, 112, 97, 105, 114]), vs (ByteArray.mk #[112, 97, 99, 107, 97, 103, 101]), vs (ByteArray.mk #[119, 101, 105, 103, 104]), vs (ByteArray.mk #[101, 114, 101, 99, 116]), vs (ByteArray.mk #[112, 101, 114, 109, 105, 116]), vs (ByteArray.mk #[116, 101, 115, 116]), vs (ByteArray.mk #[108, 97, 117, 110, 99, 104]), vs (ByteArray.mk #[100, 101, 108, 105, 118, 101, 114])]] 0 (0 + 8))) ∧ T32 (T8 (T4 (T2 (True ∧ 3 ≤ 40 ∧ T2 (1 ≤ 40 ∧ True ∧ 2 ≤ 40 ∧ T8 (T2 (True ∧ 8 ≤ 8 ∧ ((Value.agg #[vz, vi 0, vi 0, vi 0, vi 0, vi 0, vi 0, nS] = Value.agg #[vz, vi 0, vi 0, vi 0, vi 0, vi 0, vi 0, nS] ∧ True) ∧ True) ∧ 8 ≤ 8 ∧ T32 (T32 (T32 (T32 (T32 (T32 (T32 (T8 (T2 (((T2 (True)) ∧ True) ∧ ∃ (o : Order2), eqL [Value.agg #[nilV (vs evtF.order.id), tree 38 0 #[]]] [order2V o] ∧ InOrder o ∧ FewO o ∧ ((Value.agg #[vz, nS] = Value.agg #[vz, nS] ∧ True) ∧ True) ∧ ((T2 (True)) ∧ True) ∧ ∃ (o_1 : Order2), eqL [Value.agg #[vz, tree 38 0 #[]]] [order2V o_1] ∧ InOrder o_1 ∧ FewO o_1 ∧ T2 (pIf (decide (bOrder o = bOrder o_1)) (T32 (T8 ((T2 (True)) ∧ ByteArray.mk #[46] = dot ∧ T8 (True ∧ ((toI (vi 0) ≤ if w64 q2 < w64 q1 then w64 q2 else w64 q1) ∧ (toI (vi q5) ≤ if w64 q2 < w64 q1 then w64 q2 else w64 q1) ∧ toI (vi q5) ≤ 2 ^ 25) ∧ T8 (T2 (True ∧ (toI (vi 0) ≤ 0 ∧ toI (vi 0) < (↑(Int.toNat q5) : Int)) ∧ 1 ≤ 1 ∧ T2 (True ∧ (toI (vi 0) ≤ w64 (0 + 1) ∧ True ∧ 0 ≤ 1 ∧ 1 ≤ 1) ∧ T8 (T2 (True ∧ (toI (vi 0) ≤ 0 ∧ toI (vi 0) < (↑(Int.toNat (w64 (0 + 1)) - 0) : Int)) ∧ T32 (T32 (T32 (T32 (T16 (T8 (T2 (True ∧ 1 ≤ 2 ∧ T16 (T4 (T2 (True ∧ toI (vi 0) ≤ 5 ∧ T8 (T2 (1 ≤ 1 ∧ 1 ≤ 33554432 ∧ true = true ∧ 1 = 1 ∧ True ∧ (1 ≤ 1 ∧ AllU8 [Value.int IntKind.u8 (IntKind.wrap IntKind.u8 (↑8 : Int))]) ∧ True ∧ ((nilV (vi evtF.at_) = vi evtF.at_ ∧ True) ∧ True) ∧ T4 (T2 (True ∧ toI (vi 0) ≤ 5 ∧ T8 (T2 (toI (vi 0) ≤ 0 ∧ toI (vi 0) ≤ IntKind.wrap IntKind.u64 (8 * 2 ^ min (Int.toNat 0) (IntKind.bits IntKind.u64)) ∧ T8 (True ∧ 1 ≤ 1 ∧ 1 ≤ 33554432 ∧ true = true ∧ 1 = 1 ∧ T2 (toI (vi 0) ≤ 0 ∧ T4 (T2 (True ∧ toI (vi 0) ≤ w64 (w64 (8 * 2 ^ min (Int.toNat 0) (IntKind.bits IntKind.i64)) - 8) ∧ T2 (1 ≤ 1 ∧ 2 ≤ 33554432 ∧ true = true ∧ 1 = 1 ∧ 1 = 1 ∧ T8 ((2 ≤ 2 ∧ AllU8 q3) ∧ T2 (3 ≤ 9223372036854775807 ∧ 3 ≤ 140737488355328 ∧ T32 (T8 (True ∧ toI (vi 0) ≤ 5 ∧ T8 (T2 (1 ≤ 1 ∧ 1 ≤ 33554432 ∧ true = true ∧ 1 = 1 ∧ T2 (True ∧ 3 ≤ 33554432 ∧ true = true ∧ 2 = 2 ∧ 1 = 1 ∧ (3 ≤ 3 ∧ AllU8 q4) ∧ T2 (6 ≤ 140737488355328 ∧ T2 (True ∧ 0 < 6 ∧ T2 ((T2 (True ∧ True)) ∧ true = true ∧ Post (Out.ret (Value.tuple #[vs (ByteArray.empty ++ (bytesL [Value.int IntKind.u8 (IntKind.wrap IntKind.u8 (↑8 : Int))] ++ bytesL q3) ++ bytesL q4), vi 0])) [])))))))))))))))))))))))))))))))))))))))) (T8 (T4 ((T2 (True ∧ True)) ∧ true = true ∧ Post (Out.ret (Value.tuple #[vz, vi 2])) [])))))))))))))))))))))) := by kernel_rfl
theorem pIf_same {α : Type} [DecidableEq α] {a : α} {X Y : Prop} (h : X) : pIf (decide (a = a)) X Y := pIf_intro (fun _ => h) (fun e => by simp at e)
theorem AllU8.nil : AllU8 [] := fun v hv => by cases hv
theorem AllU8.cons {v : Value} {l : List Value} (h : IsU8 v) (k : AllU8 l) : AllU8 (v :: l) := fun u hu => by
 rcases List.mem_cons.1 hu with rfl | hu
 ·exact h
 ·exact k u hu
def outL : Out := .ret (.tuple #[.string ⟨#[17, 5]⟩, .int .i64 0])
def outF : Out := .ret (.tuple #[.string ⟨#[8, 24, 100, 66, 80, 49]⟩, .int .i64 0])
theorem zero_inO : InOrder ⟨⟨#[]⟩, []⟩ := ⟨fun x hx => by cases hx⟩
theorem zero_fewO : FewO ⟨⟨#[]⟩, []⟩ := ⟨by decide, by decide, fun x hx => by cases hx⟩
theorem spec_encL : SpecX Tryz.prog 14 0 (hpOf []) [evN evtL] (xpost 0 fun r c => r = outL ∧ c = []) := by
 refine spec_W callA_ok mkA_ok mixed (by kernel_rfl) (Eq.mpr (e_encL (fun _ _ _ => True) _) ?_)
 repeat' (first
  | exact rfl
  | refine And.intro ?_ ?_
  | refine ⟨⟨⟨#[]⟩, []⟩, ?_, zero_inO, zero_fewO, ?_⟩
  | refine pIf_same ?_
  | trivial
  | exact AllU8.nil
  | refine AllU8.cons ⟨_, rfl⟩ ?_
  | decide
  | kernel_rfl)
theorem spec_encF : SpecX Tryz.prog 14 0 (hpOf []) [evN evtF] (xpost 0 fun r c => r = outF ∧ c = []) := by
 refine spec_W callA_ok mkA_ok mixed (by kernel_rfl) (Eq.mpr (e_encF (fun _ _ _ => True) _) ?_)
 repeat' (first
  | exact rfl
  | refine And.intro ?_ ?_
  | refine ⟨⟨⟨#[]⟩, []⟩, ?_, zero_inO, zero_fewO, ?_⟩
  | refine pIf_same ?_
  | trivial
  | exact AllU8.nil
  | refine AllU8.cons ⟨_, rfl⟩ ?_
  | decide
  | kernel_rfl)
def kindIs (k : Int) (args : List Value) : Bool := match args with
 | [.agg c] => match c.toList with
  | .int _ n :: _ => decide (n = k)
  | _ => false
 | _ => false
def c_EncA (args : List Value) (conts : List (List Value)) (Post : Out → List (List Value) → Prop) : Prop :=
 match conts with
 | [] => bif kindIs 17 args then args = [evN evtL] ∧ Post outL [] else args = [evN evtF] ∧ Post outF []
 | _ => False
theorem specX_back {P : Program} {f : FuncId} {args : List Value} {o : Out} (h : SpecX P f 0 (hpOf []) args (xpost 0 fun r c => r = o ∧ c = [])) {Post : Out → List (List Value) → Prop} (hP : Post o []) : SpecX P f 0 (hpOf []) args (xpost 0 Post) := by
 intro W ρ w args' h1 h2 h3
 refine (h W ρ w args' h1 h2 h3).mono fun e w' ⟨r, hp', nx', ρ', g1, g2⟩ => ⟨r, hp', nx', ρ', ?_, g2⟩
 unfold xpost at g1 ⊢
 split at g1
 ·obtain ⟨k1, rfl, rfl⟩ := g1
  exact ⟨k1, hP⟩
 ·exact g1.elim
theorem ok_EncA : XEntOk Tryz.prog ⟨14, c_EncA⟩ := by
 intro args conts Post h
 unfold c_EncA at h
 dsimp only at h
 split at h
 case h_2 => exact h.elim
 cases hk : kindIs 17 args with
 | true =>
  rw [hk, cond_true] at h
  obtain ⟨rfl, h⟩ := h
  exact specX_back spec_encL h
 | false =>
  rw [hk, cond_false] at h
  obtain ⟨rfl, h⟩ := h
  exact specX_back spec_encF h
def plainK (k : Int) (x : Event) : Event :=
 let y : Event := { evt0 with kind := x.kind, at_ := x.at_ }
 if k = 1 then { y with order := x.order }
 else if k = 2 then { y with sheet := x.sheet }
 else if k = 3 then { y with bar := x.bar }
 else if k = 4 then { y with item := x.item, by_ := x.by_ }
 else if k = 5 then { y with nest := x.nest }
 else if k = 6 then { y with saw := x.saw }
 else if k = 7 ∨ k = 8 ∨ k = 12 ∨ k = 16 then { y with item := x.item }
 else if k = 9 ∨ k = 11 then { y with item := x.item, of_ := x.of_, by_ := x.by_ }
 else if k = 10 then { y with item := x.item, n := x.n, pass := x.pass }
 else if k = 13 then { y with weig := ⟨x.weig.block, 0, x.weig.mass, x.weig.centre, x.weig.sigma, []⟩ }
 else if k = 14 then { y with lift := x.lift }
 else if k = 15 then { y with permit := x.permit }
 else y
theorem kinds {k : Int} (h1 : 1 ≤ k) (h2 : k ≤ 18) : k = 1 ∨ k = 2 ∨ k = 3 ∨ k = 4 ∨ k = 5 ∨ k = 6 ∨ k = 7 ∨ k = 8 ∨ k = 9 ∨ k = 10 ∨ k = 11 ∨ k = 12 ∨ k = 13 ∨ k = 14 ∨ k = 15 ∨ k = 16 ∨ k = 17 ∨ k = 18 := by omega
theorem ev_iff {x y : Event} : x = y ↔ x.kind = y.kind ∧ x.at_ = y.at_ ∧ x.item = y.item ∧ x.of_ = y.of_ ∧ x.by_ = y.by_ ∧ x.n = y.n ∧ x.pass = y.pass ∧ x.order = y.order ∧ x.sheet = y.sheet ∧ x.bar = y.bar ∧ x.nest = y.nest ∧ x.saw = y.saw ∧ x.weig = y.weig ∧ x.lift = y.lift ∧ x.permit = y.permit := by
 cases x; cases y; exact Event.mk.injEq .. ▸ Iff.rfl
theorem weig_iff {x y : Weig} : x = y ↔ x.block = y.block ∧ x.at_ = y.at_ ∧ x.mass = y.mass ∧ x.centre = y.centre ∧ x.sigma = y.sigma ∧ x.parts = y.parts := by
 cases x; cases y; exact Weig.mk.injEq .. ▸ Iff.rfl
def big (s : ByteArray) : Bool := decide (64 < s.size)
def off (n : Int) : Bool := decide (n < -1099511627776) || decide (1099511627776 < n)
def longK (k : Int) (x : Event) : Bool :=
 if k = 1 then decide (32 < x.order.edits.length)
 else if k = 2 then big x.sheet.id || big x.sheet.grade || big x.sheet.heat
 else if k = 3 then big x.bar.id || big x.bar.sect || big x.bar.grade || big x.bar.heat
 else if k = 4 then big x.item || big x.by_
 else if k = 5 then big x.nest.sheet || decide (32 < x.nest.spots.length) || x.nest.spots.any fun s => big s.part
 else if k = 6 then big x.saw.bar || decide (24 < x.saw.parts.length) || x.saw.parts.any big
 else if k = 7 ∨ k = 8 ∨ k = 12 ∨ k = 16 then big x.item
 else if k = 9 ∨ k = 11 then big x.item || big x.of_ || big x.by_
 else if k = 10 then big x.item
 else if k = 13 then big x.weig.block
 else if k = 14 then big x.lift.block || decide (2 < x.lift.hooks.length) || x.lift.hooks.any fun h => big h.crane
 else if k = 15 then big x.permit.id
 else false
def offSpot (s : Spot) : Bool := off s.at_.x || off s.at_.y || off s.turn
def offHook (h : Hook4) : Bool := off h.at_.x || off h.at_.y || off h.radius
def farK (k : Int) (x : Event) : Bool :=
 if k = 1 then false
 else if k = 2 then off x.sheet.thick || off x.sheet.long || off x.sheet.width
 else if k = 3 then off x.bar.long
 else if k = 5 then off x.nest.gap || x.nest.spots.any offSpot
 else if k = 6 then off x.saw.kerf
 else if k = 10 then decide (x.n < 1) || decide (5 < x.n)
 else if k = 13 then off x.weig.mass || off x.weig.centre.x || off x.weig.centre.y || off x.weig.centre.z || off x.weig.sigma
 else if k = 14 then x.lift.hooks.any offHook
 else if k = 15 then off x.permit.kind || off x.permit.time.a || off x.permit.time.b
 else false
inductive Va where
 | s (x : ByteArray)
 | i (n : Int)
 | b (x : Bool)
inductive Fd where
 | t
 | n (lo hi : Int)
 | b
def bBool (b : Bool) : ByteArray := bif b then ⟨#[245]⟩ else ⟨#[244]⟩
def bVa : Va → ByteArray
 | .s x => bText x
 | .i n => bInt n
 | .b x => bBool x
def bVs : List Va → ByteArray
 | [] => ⟨#[]⟩
 | v :: l => bVa v ++ bVs l
def bEs : List (List Va) → ByteArray
 | [] => ⟨#[]⟩
 | l :: ls => bVs l ++ bEs ls
abbrev nF : Fd := .n (-1099511627776) 1099511627776
def shN : Nat → List Fd
 | 2 => [.t, .t, nF, nF, nF, .t]
 | 3 => [.t, .t, .t, nF, .t]
 | 4 => [.t, .t]
 | 5 => [.t, nF]
 | 6 => [.t, nF]
 | 7 => [.t]
 | 8 => [.t]
 | 9 => [.t, .t, .t]
 | 10 => [.t, .n 1 5, .b]
 | 11 => [.t, .t, .t]
 | 12 => [.t]
 | 13 => [.t, nF, nF, nF, nF, nF]
 | 14 => [.t]
 | 15 => [.t, nF, nF, nF]
 | 16 => [.t]
 | _ => []
def shE : Nat → Option (Nat × List Fd)
 | 5 => some (32, [.t, nF, nF, nF, .b])
 | 6 => some (24, [.t])
 | 14 => some (2, [.t, nF, nF, nF])
 | _ => none
def vaN (x : Event) : Nat → List Va
 | 2 => [.s x.sheet.id, .s x.sheet.grade, .i x.sheet.thick, .i x.sheet.long, .i x.sheet.width, .s x.sheet.heat]
 | 3 => [.s x.bar.id, .s x.bar.sect, .s x.bar.grade, .i x.bar.long, .s x.bar.heat]
 | 4 => [.s x.item, .s x.by_]
 | 5 => [.s x.nest.sheet, .i x.nest.gap]
 | 6 => [.s x.saw.bar, .i x.saw.kerf]
 | 7 => [.s x.item]
 | 8 => [.s x.item]
 | 9 => [.s x.item, .s x.of_, .s x.by_]
 | 10 => [.s x.item, .i x.n, .b x.pass]
 | 11 => [.s x.item, .s x.of_, .s x.by_]
 | 12 => [.s x.item]
 | 13 => [.s x.weig.block, .i x.weig.mass, .i x.weig.centre.x, .i x.weig.centre.y, .i x.weig.centre.z, .i x.weig.sigma]
 | 14 => [.s x.lift.block]
 | 15 => [.s x.permit.id, .i x.permit.kind, .i x.permit.time.a, .i x.permit.time.b]
 | 16 => [.s x.item]
 | _ => []
def vaSpot (s : Spot) : List Va := [.s s.part, .i s.at_.x, .i s.at_.y, .i s.turn, .b s.flip]
def vaHook (h : Hook4) : List Va := [.s h.crane, .i h.at_.x, .i h.at_.y, .i h.radius]
def vaE (x : Event) : Nat → List (List Va)
 | 5 => x.nest.spots.map vaSpot
 | 6 => x.saw.parts.map fun p => [.s p]
 | 14 => x.lift.hooks.map vaHook
 | _ => []
def bLs (x : Event) (k : Nat) : ByteArray := match shE k with
 | none => ⟨#[]⟩
 | some _ => bList (vaE x k).length ++ bEs (vaE x k)
def bBody (x : Event) : Nat → ByteArray
 | 1 => bText (bOrder x.order)
 | k => bVs (vaN x k) ++ bLs x k
def bEv (x : Event) : ByteArray := bInt x.kind ++ bInt x.at_ ++ bBody x x.kind.toNat
theorem ba_nilr (a : ByteArray) : a ++ (⟨#[]⟩ : ByteArray) = a := ba_ext (by rw [ByteArray.data_append, Array.toList_append]; simp)
theorem bEs_snoc : ∀ (l : List (List Va)) (v : List Va), bEs (l ++ [v]) = bEs l ++ bVs v
 | [], v => by simp only [List.nil_append, bEs, ba_nil, ba_nilr]
 | a :: l, v => by simp only [List.cons_append, bEs, bEs_snoc l v, ba_assoc]
theorem bEs_take {l : List (List Va)} {k : Nat} (h : k < l.length) : bEs (l.take (k + 1)) = bEs (l.take k) ++ bVs l[k] := by
 rw [List.take_succ_eq_append_getElem h, bEs_snoc]
def fit : Fd → Va → Prop
 | .t, .s x => x.size ≤ 64
 | .n lo hi, .i n => lo ≤ n ∧ n ≤ hi
 | .b, .b _ => True
 | _, _ => False
def fits : List Fd → List Va → Prop
 | [], [] => True
 | f :: fs, v :: vs => fit f v ∧ fits fs vs
 | _, _ => False
def fitsL (x : Event) (k : Nat) : Prop := match shE k with
 | none => True
 | some (m, fs) => (vaE x k).length ≤ m ∧ ∀ v ∈ vaE x k, fits fs v
theorem fits_all {x : Event} (h1 : 1 ≤ x.kind) (h2 : x.kind ≤ 18) (hl : longK x.kind x = false) (hf : farK x.kind x = false) : fits (shN x.kind.toNat) (vaN x x.kind.toNat) ∧ fitsL x x.kind.toNat := by
 have hk := kinds h1 h2
 rcases hk with hk | hk | hk | hk | hk | hk | hk | hk | hk | hk | hk | hk | hk | hk | hk | hk | hk | hk <;>
  (rw [hk] at hl hf ⊢; simp [longK, farK, big, off, offSpot, offHook] at hl hf; simp [fits, fit, shN, vaN, fitsL, shE, vaE, vaSpot, vaHook]; try omega)
 ·refine ⟨by omega, by omega, fun s hs => ?_⟩
  have a := hl.2 s hs
  have b := hf.2 s hs
  omega
 ·exact ⟨by omega, by omega, hl.2⟩
 ·refine ⟨by omega, by omega, fun s hs => ?_⟩
  have a := hl.2 s hs
  have b := hf s hs
  omega
def fewX (x : Edit) : Prop := x.pack.parts.length ≤ 40 ∧ x.pack.after.length ≤ 40 ∧ x.part.outer.length ≤ 100 ∧ x.part.holes.length ≤ 20 ∧ ∀ h ∈ x.part.holes, h.length ≤ 100
instance (x : Edit) : Decidable (fewX x) := by unfold fewX; infer_instance
def few20 (o : Order2) (m : Int) : Prop := o.id.size ≤ 100 ∧ (o.edits.length : Int) ≤ m ∧ ∀ x ∈ o.edits, fewX x
instance (o : Order2) (m : Int) : Decidable (few20 o m) := by unfold few20; infer_instance
def few59 (x : Event) (m : Int) : Prop := few20 x.order m ∧ (x.nest.spots.length : Int) ≤ m ∧ (x.saw.parts.length : Int) ≤ m ∧ (x.lift.hooks.length : Int) ≤ m ∧ (x.weig.parts.length : Int) ≤ m
instance (x : Event) (m : Int) : Decidable (few59 x m) := by unfold few59; infer_instance
theorem e_few20 (o : Order2) (m : Int) (H : HT) (Post : PV) : vcP Tryz.prog noCall 19 [(4, [1, 2, 5]), (10, [1, 2, 5, 6, 7])] [order2V o, .int .i64 m] H Post = (T4 (T2 (pIf (decide ((↑o.id.size : Int) > 100)) (T4 (Post (vb false))) (T4 (T2 (pIf (decide ((↑o.edits.length : Int) > m)) (T2 (True ∧ Post (vb false))) (T2 (True ∧ (True ∧ True) ∧ H (lpC Tryz.prog 19 4) (lpK Tryz.prog 19 4) (stV [(1, some (vi m)), (2, some (pt 0)), (5, some (vi 0))] [(0, some (AObj.cells [vs o.id, tree 38 o.edits.length (encL o.edits)] true))] 1))))))))) := by kernel_rfl
theorem l_few20 (o : Order2) (m k : Int) (H : HT) (Post : PV) : vcLP Tryz.prog noCall 19 [order2V o, .int .i64 m] [(4, [1, 2, 5]), (10, [1, 2, 5, 6, 7])] 4 (stV [(1, some (.int .i64 m)), (2, some (.pointer (some ⟨0, 0, none⟩))), (5, some (.int .i64 k))] [(0, some (.cells (order2C o) true))] 1) H Post = (let q4 := cellAt (encL o.edits) (Int.toNat k) 34; let q3 := cellAt (encL o.edits) (Int.toNat k) 32; let q2 := cellAt (encL o.edits) (Int.toNat k) 13; let q1 := cellAt (encL o.edits) (Int.toNat k) 12; T4 (True ∧ pIf (decide (k < (↑o.edits.length : Int))) (T2 (True ∧ (0 ≤ k ∧ k < (↑o.edits.length : Int)) ∧ (cellAt (encL o.edits) (Int.toNat k) 0 = vi (toI (cellAt (encL o.edits) (Int.toNat k) 0)) ∧ cellAt (encL o.edits) (Int.toNat k) 1 = vs (toS (cellAt (encL o.edits) (Int.toNat k) 1)) ∧ cellAt (encL o.edits) (Int.toNat k) 2 = vs (toS (cellAt (encL o.edits) (Int.toNat k) 2)) ∧ cellAt (encL o.edits) (Int.toNat k) 3 = vs (toS (cellAt (encL o.edits) (Int.toNat k) 3)) ∧ cellAt (encL o.edits) (Int.toNat k) 4 = vi (toI (cellAt (encL o.edits) (Int.toNat k) 4)) ∧ cellAt (encL o.edits) (Int.toNat k) 5 = vs (toS (cellAt (encL o.edits) (Int.toNat k) 5)) ∧ cellAt (encL o.edits) (Int.toNat k) 6 = vs (toS (cellAt (encL o.edits) (Int.toNat k) 6)) ∧ cellAt (encL o.edits) (Int.toNat k) 7 = vi (toI (cellAt (encL o.edits) (Int.toNat k) 7)) ∧ cellAt (encL o.edits) (Int.toNat k) 8 = vi (toI (cellAt (encL o.edits) (Int.toNat k) 8)) ∧ cellAt (encL o.edits) (Int.toNat k) 9 = vs (toS (cellAt (encL o.edits) (Int.toNat k) 9)) ∧ cellAt (encL o.edits) (Int.toNat k) 10 = vs (toS (cellAt (encL o.edits) (Int.toNat k) 10)) ∧ cellAt (encL o.edits) (Int.toNat k) 11 = vi (toI (cellAt (encL o.edits) (Int.toNat k) 11)) ∧ cellAt (encL o.edits) (Int.toNat k) 12 = tree 2 (toN q1) (toE q1) ∧ cellAt (encL o.edits) (Int.toNat k) 13 = tree 1 (toN q2) (toE q2) ∧ cellAt (encL o.edits) (Int.toNat k) 14 = vs (toS (cellAt (encL o.edits) (Int.toNat k) 14)) ∧ cellAt (encL o.edits) (Int.toNat k) 15 = vi (toI (cellAt (encL o.edits) (Int.toNat k) 15)) ∧ cellAt (encL o.edits) (Int.toNat k) 16 = vi (toI (cellAt (encL o.edits) (Int.toNat k) 16)) ∧ cellAt (encL o.edits) (Int.toNat k) 17 = vi (toI (cellAt (encL o.edits) (Int.toNat k) 17)) ∧ cellAt (encL o.edits) (Int.toNat k) 18 = vi (toI (cellAt (encL o.edits) (Int.toNat k) 18)) ∧ cellAt (encL o.edits) (Int.toNat k) 19 = vi (toI (cellAt (encL o.edits) (Int.toNat k) 19)) ∧ cellAt (encL o.edits) (Int.toNat k) 20 = vi (toI (cellAt (encL o.edits) (Int.toNat k) 20)) ∧ cellAt (encL o.edits) (Int.toNat k) 21 = vi (toI (cellAt (encL o.edits) (Int.toNat k) 21)) ∧ cellAt (encL o.edits) (Int.toNat k) 22 = vi (toI (cellAt (encL o.edits) (Int.toNat k) 22)) ∧ cellAt (encL o.edits) (Int.toNat k) 23 = vi (toI (cellAt (encL o.edits) (Int.toNat k) 23)) ∧ cellAt (encL o.edits) (Int.toNat k) 24 = vs (toS (cellAt (encL o.edits) (Int.toNat k) 24)) ∧ cellAt (encL o.edits) (Int.toNat k) 25 = vs (toS (cellAt (encL o.edits) (Int.toNat k) 25)) ∧ cellAt (encL o.edits) (Int.toNat k) 26 = vs (toS (cellAt (encL o.edits) (Int.toNat k) 26)) ∧ cellAt (encL o.edits) (Int.toNat k) 27 = vi (toI (cellAt (encL o.edits) (Int.toNat k) 27)) ∧ cellAt (encL o.edits) (Int.toNat k) 28 = vi (toI (cellAt (encL o.edits) (Int.toNat k) 28)) ∧ cellAt (encL o.edits) (Int.toNat k) 29 = vi (toI (cellAt (encL o.edits) (Int.toNat k) 29)) ∧ cellAt (encL o.edits) (Int.toNat k) 30 = vs (toS (cellAt (encL o.edits) (Int.toNat k) 30)) ∧ cellAt (encL o.edits) (Int.toNat k) 31 = vs (toS (cellAt (encL o.edits) (Int.toNat k) 31)) ∧ cellAt (encL o.edits) (Int.toNat k) 32 = tree 1 (toN q3) (toE q3) ∧ cellAt (encL o.edits) (Int.toNat k) 33 = vi (toI (cellAt (encL o.edits) (Int.toNat k) 33)) ∧ cellAt (encL o.edits) (Int.toNat k) 34 = tree 1 (toN q4) (toE q4) ∧ cellAt (encL o.edits) (Int.toNat k) 35 = vi (toI (cellAt (encL o.edits) (Int.toNat k) 35)) ∧ cellAt (encL o.edits) (Int.toNat k) 36 = vs (toS (cellAt (encL o.edits) (Int.toNat k) 36)) ∧ cellAt (encL o.edits) (Int.toNat k) 37 = vs (toS (cellAt (encL o.edits) (Int.toNat k) 37)) ∧ True) ∧ True ∧ 38 ≤ 38 ∧ T4 (True ∧ pIf (decide ((↑(toN q3) : Int) > 40)) (T8 (Post (vb false))) (T4 (T2 (pIf (decide ((↑(toN q4) : Int) > 40)) (T4 (T2 (True ∧ Post (vb false)))) (T8 (pIf (decide ((↑(toN q1) : Int) > 100)) (T4 (True ∧ Post (vb false))) (T8 (pIf (decide ((↑(toN q2) : Int) > 20)) (T2 (True ∧ Post (vb false))) (T2 (True ∧ (T2 (True)) ∧ H (lpC Tryz.prog 19 10) (lpK Tryz.prog 19 10) (stV [(1, some (vi m)), (2, some (pt 0)), (5, some (vi k)), (6, some (pt 1)), (7, some (vi 0))] [(0, some (AObj.cells [vs o.id, tree 38 o.edits.length (encL o.edits)] true)), (1, some (AObj.cells [vi (toI (cellAt (encL o.edits) (Int.toNat k) 0)), vs (toS (cellAt (encL o.edits) (Int.toNat k) 1)), vs (toS (cellAt (encL o.edits) (Int.toNat k) 2)), vs (toS (cellAt (encL o.edits) (Int.toNat k) 3)), vi (toI (cellAt (encL o.edits) (Int.toNat k) 4)), vs (toS (cellAt (encL o.edits) (Int.toNat k) 5)), vs (toS (cellAt (encL o.edits) (Int.toNat k) 6)), vi (toI (cellAt (encL o.edits) (Int.toNat k) 7)), vi (toI (cellAt (encL o.edits) (Int.toNat k) 8)), vs (toS (cellAt (encL o.edits) (Int.toNat k) 9)), vs (toS (cellAt (encL o.edits) (Int.toNat k) 10)), vi (toI (cellAt (encL o.edits) (Int.toNat k) 11)), tree 2 (toN q1) (toE q1), tree 1 (toN q2) (toE q2), vs (toS (cellAt (encL o.edits) (Int.toNat k) 14)), vi (toI (cellAt (encL o.edits) (Int.toNat k) 15)), vi (toI (cellAt (encL o.edits) (Int.toNat k) 16)), vi (toI (cellAt (encL o.edits) (Int.toNat k) 17)), vi (toI (cellAt (encL o.edits) (Int.toNat k) 18)), vi (toI (cellAt (encL o.edits) (Int.toNat k) 19)), vi (toI (cellAt (encL o.edits) (Int.toNat k) 20)), vi (toI (cellAt (encL o.edits) (Int.toNat k) 21)), vi (toI (cellAt (encL o.edits) (Int.toNat k) 22)), vi (toI (cellAt (encL o.edits) (Int.toNat k) 23)), vs (toS (cellAt (encL o.edits) (Int.toNat k) 24)), vs (toS (cellAt (encL o.edits) (Int.toNat k) 25)), vs (toS (cellAt (encL o.edits) (Int.toNat k) 26)), vi (toI (cellAt (encL o.edits) (Int.toNat k) 27)), vi (toI (cellAt (encL o.edits) (Int.toNat k) 28)), vi (toI (cellAt (encL o.edits) (Int.toNat k) 29)), vs (toS (cellAt (encL o.edits) (Int.toNat k) 30)), vs (toS (cellAt (encL o.edits) (Int.toNat k) 31)), tree 1 (toN q3) (toE q3), vi (toI (cellAt (encL o.edits) (Int.toNat k) 33)), tree 1 (toN q4) (toE q4), vi (toI (cellAt (encL o.edits) (Int.toNat k) 35)), vs (toS (cellAt (encL o.edits) (Int.toNat k) 36)), vs (toS (cellAt (encL o.edits) (Int.toNat k) 37))] true))] 2))))))))))))) (T2 (Post (vb true))))) := by kernel_rfl
theorem l_few20i (o : Order2) (m k i : Int) (x : Edit) (H : HT) (Post : PV) : vcLP Tryz.prog noCall 19 [order2V o, .int .i64 m] [(4, [1, 2, 5]), (10, [1, 2, 5, 6, 7])] 10 (stV [(1, some (.int .i64 m)), (2, some (.pointer (some ⟨0, 0, none⟩))), (5, some (.int .i64 k)), (6, some (.pointer (some ⟨1, 0, none⟩))), (7, some (.int .i64 i))] [(0, some (.cells (order2C o) true)), (1, some (.cells (editC x) true))] 2) H Post = (let q1 := cellAt (encL x.part.holes) (Int.toNat i) 0; T4 (T2 (True ∧ pIf (decide (i < (↑x.part.holes.length : Int))) (T4 (True ∧ (0 ≤ i ∧ i < (↑x.part.holes.length : Int)) ∧ cellAt (encL x.part.holes) (Int.toNat i) 0 = tree 2 (toN q1) (toE q1) ∧ T2 (pIf (decide ((↑(toN q1) : Int) > 100)) (T2 (Post (vb false))) (T4 ((T2 (True)) ∧ H (lpC Tryz.prog 19 10) (lpK Tryz.prog 19 10) (stV [(1, some (vi m)), (2, some (pt 0)), (5, some (vi k)), (6, some (pt 1)), (7, some (vi (IntKind.wrap IntKind.i64 (i + 1))))] [(0, some (AObj.cells [vs o.id, tree 38 o.edits.length (encL o.edits)] true)), (1, some (AObj.cells [vi x.kind, vs x.id, vs x.to, vs x.node.id, vi x.node.kind, vs x.node.parent, vs x.part.id, vi x.part.rev, vi x.part.kind, vs x.part.node, vs x.part.grade, vi x.part.thick, tree 2 x.part.outer.length (encL x.part.outer), tree 1 x.part.holes.length (encL x.part.holes), vs x.part.sect, vi x.part.long, vi x.part.mass, vi x.part.centre.x, vi x.part.centre.y, vi x.part.centre.z, vi x.part.at_.x, vi x.part.at_.y, vi x.part.at_.z, vi x.part.turn, vs x.seam.id, vs x.seam.a, vs x.seam.b, vi x.seam.kind, vi x.seam.long, vi x.seam.cls, vs x.pack.id, vs x.pack.block, tree 1 x.pack.parts.length (encL x.pack.parts), vi x.pack.hours, tree 1 x.pack.after.length (encL x.pack.after), vi x.need.kind, vs x.need.block, vs x.need.on] true))] 2)))))) (T4 ((True ∧ True) ∧ H (lpC Tryz.prog 19 4) (lpK Tryz.prog 19 4) (stV [(1, some (vi m)), (2, some (pt 0)), (5, some (vi (IntKind.wrap IntKind.i64 (k + 1))))] [(0, some (AObj.cells [vs o.id, tree 38 o.edits.length (encL o.edits)] true))] 1)))))) := by kernel_rfl
theorem all_down {α : Type} {l : List α} {P : α → Prop} {G : Nat → Prop} (hend : (∀ a ∈ l, P a) → G l.length) (h : ∀ (k : Nat) (h1 : k < l.length), (P l[k] → G (k + 1)) → G k) : G 0 := by
 refine down (n := l.length) (p := fun k => (∀ (i : Nat) (hi : i < l.length), i < k → P l[i]) → G k) (fun hall => hend fun a ha => ?_) (fun k h1 ih hall => h k h1 fun hp => ih fun i hi hik => ?_) (fun i hi h0 => by omega)
 ·obtain ⟨i, hi, rfl⟩ := List.mem_iff_getElem.1 ha
  exact hall i hi hi
 ·rcases Nat.lt_or_ge i k with h' | h'
  ·exact hall i hi h'
  ·have : i = k := by omega
   subst this
   exact hp
def c_Few20 (args : List Value) (Post : Value → Prop) : Prop := ∃ (o : Order2) (m : Int), args = [order2V o, .int .i64 m] ∧ m ≤ 1000 ∧ Post (.bool (decide (few20 o m)))
theorem ok_few20 : EntOk Tryz.prog ⟨19, c_Few20⟩ := by
 rintro args Post ⟨o, m, rfl, hm, hP⟩
 refine pure_P (vc := noCall) noCall_ok mixed (by kernel_rfl) (by kernel_rfl) _ (e_few20 o m _ _) ?_
 simp only [true_and, pIf_iff, decide_eq_false_iff_not, decide_eq_true_eq]
 have no : ¬ few20 o m → Post (.bool false) := fun hn => of_b hP (decide_eq_false hn)
 refine ⟨fun h => no fun f => ?_, fun h1 => ⟨fun h => no fun f => ?_, fun h2 => ?_⟩⟩
 ·have := f.1; omega
 ·have := f.2.1; omega
 refine all_down (l := o.edits) (P := fewX) (G := fun k => OkP 19 [order2V o, .int .i64 m] 4 Post (stV [(1, some (.int .i64 m)), (2, some (.pointer (some ⟨0, 0, none⟩))), (5, some (.int .i64 k))] [(0, some (.cells (order2C o) true))] 1)) (fun hall => ?_) (fun k hk ih => ?_)
 ·refine ok_P (vc := noCall) noCall_ok mixed _ (l_few20 o m _ _ _) ?_
  simp only [true_and, and_true, pIf_iff, decide_eq_true_eq, decide_eq_false_iff_not]
  exact ⟨fun h' => by omega, fun _ => of_b hP (decide_eq_true ⟨by omega, by omega, hall⟩)⟩
 ·have bad : ¬ fewX o.edits[k] → Post (.bool false) := fun hn => no fun f => hn (f.2.2 _ (List.getElem_mem hk))
  refine ok_P (vc := noCall) noCall_ok mixed _ (l_few20 o m _ _ _) ?_
  simp only [true_and, and_true, pIf_iff, decide_eq_true_eq, decide_eq_false_iff_not, Int.toNat_natCast, cell_edit hk, editC, List.getElem?_cons_succ, List.getElem?_cons_zero, Option.getD_some, toI, toS, toB, toN_tree, toE_tree]
  refine ⟨fun _ => ⟨by omega, by decide, fun h => bad fun f => ?_, fun g1 => ⟨fun h => bad fun f => ?_, fun g2 => ⟨fun h => bad fun f => ?_, fun g3 => ⟨fun h => bad fun f => ?_, fun g4 => ?_⟩⟩⟩⟩, fun h' => by omega⟩
  ·have := f.1; omega
  ·have := f.2.1; omega
  ·have := f.2.2.1; omega
  ·have := f.2.2.2.1; omega
  refine all_down (l := o.edits[k].part.holes) (P := fun h => h.length ≤ 100) (G := fun i => OkP 19 [order2V o, .int .i64 m] 10 Post (stV [(1, some (.int .i64 m)), (2, some (.pointer (some ⟨0, 0, none⟩))), (5, some (.int .i64 k)), (6, some (.pointer (some ⟨1, 0, none⟩))), (7, some (.int .i64 i))] [(0, some (.cells (order2C o) true)), (1, some (.cells (editC o.edits[k]) true))] 2)) (fun hall => ?_) (fun i hi ihi => ?_)
  ·refine ok_P (vc := noCall) noCall_ok mixed _ (l_few20i o m _ _ _ _ _) ?_
   simp only [true_and, and_true, pIf_iff, decide_eq_true_eq, decide_eq_false_iff_not]
   refine ⟨fun h' => by omega, fun _ => ?_⟩
   rw [wrapSucc (by omega)]
   exact ih ⟨by omega, by omega, by omega, by omega, hall⟩
  ·refine ok_P (vc := noCall) noCall_ok mixed _ (l_few20i o m _ _ _ _ _) ?_
   simp only [true_and, and_true, pIf_iff, decide_eq_true_eq, decide_eq_false_iff_not, Int.toNat_natCast, cell_pts hi, toN_tree, toE_tree]
   refine ⟨fun _ => ⟨by omega, fun h => bad fun f => ?_, fun h => ?_⟩, fun h' => by omega⟩
   ·have := f.2.2.2.2 _ (List.getElem_mem hi); omega
   ·rw [wrapSucc (by omega)]
    exact ihi (by omega)
def tabF20 : List Ent := [⟨19, c_Few20⟩]
theorem tabF20_ok : VCallOk Tryz.prog (tabCall tabF20 noCall) := tabCall_ok (by
 intro e he
 simp only [tabF20, List.mem_cons, List.not_mem_nil, or_false] at he
 subst he
 exact ok_few20) noCall_ok
theorem e_few59 (x : Event) (m : Int) (H : HT) (Post : PV) : vcP Tryz.prog (tabCall tabF20 noCall) 8 [] [eventV x, .int .i64 m] H Post = (T4 (True ∧ ∃ (o : Order2), ∃ (m_1 : Int), eqL [Value.agg #[vs x.order.id, tree 38 x.order.edits.length (encL x.order.edits)], vi m] [order2V o, vi m_1] ∧ m_1 ≤ 1000 ∧ pIf (decide (few20 o m_1)) (T4 (T2 (True ∧ pIf (decide ((↑x.nest.spots.length : Int) ≤ m)) (T8 (pIf (decide ((↑x.saw.parts.length : Int) ≤ m)) (T8 (pIf (decide ((↑x.lift.hooks.length : Int) ≤ m)) (T8 (pIf (decide ((↑x.weig.parts.length : Int) ≤ m)) (T2 (True ∧ Post (vb true))) (T2 (True ∧ Post (vb false))))) (T4 (True ∧ Post (vb false))))) (T4 (T2 (True ∧ Post (vb false)))))) (T8 (True ∧ Post (vb false)))))) (T8 (T2 (Post (vb false)))))) := by kernel_rfl
def c_Few59 (args : List Value) (Post : Value → Prop) : Prop := ∃ (x : Event) (m : Int), args = [eventV x, .int .i64 m] ∧ m ≤ 1000 ∧ Post (.bool (decide (few59 x m)))
theorem ok_few59 : EntOk Tryz.prog ⟨8, c_Few59⟩ := by
 rintro args Post ⟨x, m, rfl, hm, hP⟩
 refine pure_P (vc := tabCall tabF20 noCall) tabF20_ok mixed (by kernel_rfl) (by kernel_rfl) _ (e_few59 x m _ _) ?_
 simp only [true_and, and_true, pIf_iff, decide_eq_false_iff_not, decide_eq_true_eq]
 have no : ¬ few59 x m → Post (.bool false) := fun hn => of_b hP (decide_eq_false hn)
 refine ⟨x.order, m, rfl, hm, fun h1 => ⟨fun h2 => ⟨fun h3 => ⟨fun h4 => ⟨fun h5 => of_b hP (decide_eq_true ⟨h1, h2, h3, h4, h5⟩), fun h => no fun f => h f.2.2.2.2⟩, fun h => no fun f => h f.2.2.2.1⟩, fun h => no fun f => h f.2.2.1⟩, fun h => no fun f => h f.2.1⟩, fun h => no fun f => h f.1⟩
end Go.Proofs.YtegjnjmimfgijaaGreatDoor
noncomputable section
namespace Go.Proofs.YtegjnjmimfgijaaGreatDoor
open Go Go.RowKit Go.ChangeShapes Go.WideShapes Go.ChangeAt Go.Deep Go.Joins
class Vol (α : Type) where
 vol : α → Nat
 pos : ∀ a, 1 ≤ vol a
instance : Vol Int := ⟨fun _ => 1, fun _ => Nat.le_refl _⟩
instance : Vol Bool := ⟨fun _ => 1, fun _ => Nat.le_refl _⟩
instance : Vol ByteArray := ⟨fun s => 1 + s.size, fun s => Nat.le_add_right _ _⟩
instance {α : Type} [Vol α] : Vol (List α) := ⟨fun l => 1 + (l.map Vol.vol).sum, fun s => Nat.le_add_right _ _⟩
instance {α β : Type} [Vol α] [Vol β] : Vol (α × β) := ⟨fun p => 1 + (Vol.vol p.1 + (Vol.vol p.2 + 0)), fun s => Nat.le_add_right _ _⟩
theorem bulk_pos {H : Type} (d : DataW H) : 1 ≤ Rows.uptoBulk d := by
 cases d with
 | lit l => cases l <;> simp [Rows.uptoBulk]
 | nil => simp [Rows.uptoBulk]
 | ptr d => simp [Rows.uptoBulk]
 | slice elems spare => simp [Rows.uptoBulk]
 | agg parts => simp [Rows.uptoBulk]
 | iface t d => simp [Rows.uptoBulk]
 | map entries => simp [Rows.uptoBulk]
 | held h => simp [Rows.uptoBulk]
theorem bulk_append {H : Type} (l r : List (DataW H)) : Rows.uptoBulkAll (l ++ r) = Rows.uptoBulkAll l + Rows.uptoBulkAll r := by
 induction l with
 | nil => simp [Rows.uptoBulkAll]
 | cons x l ih => simp only [List.cons_append, Rows.uptoBulkAll, ih]; omega
def BK {H : Type} (xs : List (DataW H × List MemPlace)) (k s : Nat) : Prop := s ≤ Rows.uptoBulkAll ((xs.drop k).map (·.1))
def BK1 {H : Type} (xs : List (DataW H × List MemPlace)) (k v : Nat) : Prop := ∃ y, xs[k]? = some y ∧ v ≤ Rows.uptoBulk y.1
theorem BK1.next {H : Type} {xs : List (DataW H × List MemPlace)} {k v s : Nat} (h : BK1 xs k v) (r : BK xs (k + 1) s) : BK xs k (v + s) := by
 obtain ⟨y, h1, h2⟩ := h
 unfold BK at r ⊢
 have hk : k < xs.length := by
  rcases Nat.lt_or_ge k xs.length with h | h
  ·exact h
  ·rw [List.getElem?_eq_none h] at h1; cases h1
 rw [List.drop_eq_getElem_cons hk, List.map_cons]
 rw [List.getElem?_eq_getElem hk] at h1
 cases h1
 simp only [Rows.uptoBulkAll]
 omega
theorem BK.done {H : Type} {xs : List (DataW H × List MemPlace)} {k : Nat} : BK xs k 0 := Nat.zero_le _
theorem BK.agg {H : Type} {xs : List (DataW H × List MemPlace)} {s : Nat} (h : BK xs 0 s) : 1 + s ≤ Rows.uptoBulk (.agg (xs.map (·.1))) := by
 unfold BK at h
 simp only [List.drop_zero] at h
 simp only [Rows.uptoBulk]
 omega
def OpensB (P : Program) (w : World) (t : TypeId) (α : Type) [Enc α] [Vol α] (Ok : α → Prop) : Prop :=
 ∀ (H : Type) (enc : TypeId × Value → H) (base : Nat) (spare : Nat → Bool) (held : Bool) (fuel : Nat) (cs : List Value) (x : DataW H × List MemPlace), DataW.trod enc P w base spare held fuel t cs = some x → ∃ a : α, Ok a ∧ Vol.vol a ≤ Rows.uptoBulk x.1 ∧ VRC (frW w) (Enc.cells a) cs
section
variable {P : Program} {w : World}
theorem opensB_int {t : TypeId} (ht : P.underlying t = some (.int .i64)) : OpensB P w t Int In64 := fun H enc base spare held fuel cs x h => by
 obtain ⟨n, rfl, rfl, hw⟩ := DataW.trod_int ht h
 simp [Lit.wf, IntKind.min, IntKind.max, IntKind.signed, IntKind.bits] at hw
 exact ⟨n, ⟨by omega, by omega⟩, bulk_pos _, .one (.int _ _)⟩
theorem opensB_string {t : TypeId} (ht : P.underlying t = some .string) : OpensB P w t ByteArray fun s => s.size ≤ maxLen := fun H enc base spare held fuel cs x h => by
 obtain ⟨s, rfl, rfl, hs⟩ := DataW.trod_string ht h
 refine ⟨s, hs, ?_, .one (.string _)⟩
 show 1 + s.size ≤ _
 have e : s.data.toList.length = s.size := by rw [Array.length_toList]; rfl
 simp only [Rows.uptoBulk, e]
 omega
theorem opensB_bool {t : TypeId} (ht : P.underlying t = some .bool) : OpensB P w t Bool fun _ => True := fun H enc base spare held fuel cs x h => by
 obtain ⟨b, rfl, rfl⟩ := DataW.trod_bool ht h
 exact ⟨b, trivial, bulk_pos _, .one (.bool _)⟩
theorem tree_open {α : Type} [Enc α] (hz : 0 < Enc.sz α) {a : Addr} {len cap : Nat} {l : List α} (hlen : l.length = len) (hl : len ≤ cap) (h0 : 0 < len)
  (hcl : ∀ (i : Nat) (b : α), l[i]? = some b → ∀ (j : Nat) (v : Value), (Enc.cells b)[j]? = some v → ∃ v', w.cell? ((a.add (i * Enc.sz α)).add j) = some v' ∧ VR0 (frW w) v v') :
  VR0 (frW w) (tree (Enc.sz α) l.length (encL l)) (.slice (some a) len cap) := by
 have cell : ∀ (i j : Nat), i < len → j < Enc.sz α → ∃ v v', (∃ b, l[i]? = some b ∧ (Enc.cells b)[j]? = some v) ∧ w.cell? (a.add (i * Enc.sz α + j)) = some v' ∧ VR0 (frW w) v v' := fun i j hi hj => by
  have hb : l[i]? = some (l[i]'(by omega)) := List.getElem?_eq_getElem (by omega)
  have hv : (Enc.cells (l[i]'(by omega)))[j]? = some ((Enc.cells (l[i]'(by omega)))[j]'(by rw [Enc.len]; exact hj)) := List.getElem?_eq_getElem _
  obtain ⟨v', h1, h2⟩ := hcl i _ hb j _ hv
  rw [Go.Deep.add_add] at h1
  exact ⟨_, v', ⟨_, hb, hv⟩, h1, h2⟩
 obtain ⟨_, v0, _, hv0, _⟩ := cell 0 0 h0 hz
 obtain ⟨cs, ct, fz, hheap, _, hsp⟩ := cell_at hv0
 have hsp := hsp (by omega)
 have at_ : ∀ i j, i < len → j < Enc.sz α → ∃ v v', (∃ b, l[i]? = some b ∧ (Enc.cells b)[j]? = some v) ∧ cs[a.off + (i * Enc.sz α + j)]? = some v' ∧ VR0 (frW w) v v' := fun i j hi hj => by
  obtain ⟨v, v', h1, h2, h3⟩ := cell i j hi hj
  obtain ⟨cs', ct', fz', g1, g2, _⟩ := cell_at h2
  rw [hheap] at g1
  cases g1
  exact ⟨v, v', h1, g2, h3⟩
 obtain ⟨blk, off, spot⟩ := a
 simp only at hsp
 subst hsp
 have hsz : off + len * Enc.sz α ≤ cs.size := by
  obtain ⟨_, v', _, h2, _⟩ := at_ (len - 1) (Enc.sz α - 1) (by omega) (by omega)
  have hlt : off + ((len - 1) * Enc.sz α + (Enc.sz α - 1)) < cs.size := (Array.getElem?_eq_some_iff.1 h2).1
  have : len * Enc.sz α = (len - 1) * Enc.sz α + Enc.sz α := by
   obtain ⟨k, rfl⟩ : ∃ k, len = k + 1 := ⟨len - 1, by omega⟩
   rw [Nat.succ_mul]
   simp
  omega
 have hget : ∀ (i : Nat) (u : Value), (encL l)[i]? = some u → ∃ b, l[i]? = some b ∧ u = elt (Enc.cells b) := fun i u hu => by
  unfold encL at hu
  simp only [List.getElem?_toArray, List.getElem?_map, Option.map_eq_some_iff] at hu
  obtain ⟨b, h1, h2⟩ := hu
  exact ⟨b, h1, h2.symm⟩
 rw [hlen]
 refine VR0.tree (c := blk) (o := off) (cs := cs) (t := ct) (fz := fz) hheap (by simp [encL, hlen]) hl hsz (fun i u hu => ?_) (fun i j u v v' hu hv hv' => ?_)
 ·obtain ⟨b, _, rfl⟩ := hget i u hu
  simp [elt_cells (Enc.nl b), Enc.len]
 ·obtain ⟨b, hb, rfl⟩ := hget i u hu
  have hv2 : (Enc.cells b)[j]? = some v := by simpa [elt_cells (Enc.nl b)] using hv
  have hil : i < len := by
   rcases Nat.lt_or_ge i len with h' | h'
   ·exact h'
   ·rw [List.getElem?_eq_none (by omega)] at hb; cases hb
  have hjl : j < Enc.sz α := by
   rw [← Enc.len b]
   rcases Nat.lt_or_ge j (Enc.cells b).length with h' | h'
   ·exact h'
   ·rw [List.getElem?_eq_none h'] at hv2; cases hv2
  obtain ⟨v1, v1', ⟨b1, e1, e2⟩, e3, e4⟩ := at_ i j hil hjl
  rw [hb] at e1
  cases e1
  rw [hv2] at e2
  cases e2
  rw [show off + i * Enc.sz α + j = off + (i * Enc.sz α + j) by omega] at hv'
  have : v1' = v' := by
   have e3' : cs[off + (i * Enc.sz α + j)]? = some v1' := e3
   rw [hv'] at e3'
   cases e3'
   rfl
  subst this
  exact e4
theorem opensB_slice {t e : TypeId} {α : Type} [Enc α] [Vol α] {Ok : α → Prop} (ht : P.underlying t = some (.slice e)) (he : OpensB P w e α Ok) (hc : P.cellsOf e = Enc.sz α) (hz : 0 < Enc.sz α) :
  OpensB P w t (List α) fun l => l.length ≤ maxLen ∧ ∀ a ∈ l, Ok a := fun H enc base spare held fuel cs x h => by
 rcases open_slice ht h with ⟨rfl, rfl⟩ | ⟨a, len, cap, m, n, D, Pl, rfl, _, hl, hm, hmm, rfl, hi⟩
 ·exact ⟨[], ⟨Nat.zero_le _, fun a ha => by cases ha⟩, bulk_pos _, .one (.treeNil _ _ _)⟩
 rw [hc] at hi
 have hlm : len ≤ m := by rw [hmm]; split <;> omega
 have key : ∀ i, i < len → ∃ b : α, Ok b ∧ Vol.vol b ≤ Rows.uptoBulk (D i) ∧ ∀ (j : Nat) (v : Value), (Enc.cells b)[j]? = some v → ∃ v', w.cell? ((a.add (i * Enc.sz α)).add j) = some v' ∧ VR0 (frW w) v v' := by
  intro i hil
  obtain ⟨cs', h1, h2⟩ := hi i (by omega)
  obtain ⟨_, h3, h4⟩ := World.cells?_some h1
  obtain ⟨b, hb, hbv, hv⟩ := he H enc _ _ _ _ _ _ h2
  refine ⟨b, hb, hbv, fun j v hj => ?_⟩
  have hjl : j < Enc.sz α := by
   rw [← Enc.len b]
   rcases Nat.lt_or_ge j (Enc.cells b).length with h' | h'
   ·exact h'
   ·rw [List.getElem?_eq_none h'] at hj; cases hj
  have hj' : cs'[j]? = some (cs'[j]'(by omega)) := List.getElem?_eq_getElem (by omega)
  exact ⟨_, (h4 j hjl).trans hj', hv.2 j v _ hj hj'⟩
 have build : ∀ k, k ≤ len → ∃ l : List α, l.length = k ∧ (∀ b ∈ l, Ok b) ∧ (l.map Vol.vol).sum ≤ Rows.uptoBulkAll ((List.range k).map D) ∧ ∀ (i : Nat) (b : α), l[i]? = some b → ∀ (j : Nat) (v : Value), (Enc.cells b)[j]? = some v → ∃ v', w.cell? ((a.add (i * Enc.sz α)).add j) = some v' ∧ VR0 (frW w) v v' := by
  intro k
  induction k with
  | zero => exact fun _ => ⟨[], rfl, by simp, by simp, by simp⟩
  | succ k ih =>
   intro hk
   obtain ⟨l, e1, hin, hbu, hcl⟩ := ih (by omega)
   obtain ⟨b, hb, hbv, hbc⟩ := key k (by omega)
   refine ⟨l ++ [b], by simp [e1], fun x hx => ?_, ?_, fun i x hx => ?_⟩
   ·rcases List.mem_append.1 hx with hx | hx
    ·exact hin x hx
    ·simp at hx; subst hx; exact hb
   ·simp only [List.range_succ, List.map_append, bulk_append, List.sum_append, List.map_cons, List.map_nil, List.sum_cons, List.sum_nil, Rows.uptoBulkAll]
    omega
   ·rcases Nat.lt_or_ge i k with hik | hik
    ·rw [List.getElem?_append_left (by omega)] at hx
     exact hcl i x hx
    ·rw [List.getElem?_append_right (by omega), e1] at hx
     have : i = k := by
      rcases Nat.lt_or_ge k i with h' | h'
      ·rw [List.getElem?_eq_none (by simp; omega)] at hx; cases hx
      ·omega
     subst this
     simp at hx
     subst hx
     exact hbc
 obtain ⟨l, hlen, hok, hbu, hcl⟩ := build len (Nat.le_refl _)
 refine ⟨l, ⟨by omega, hok⟩, ?_, .one ?_⟩
 ·show 1 + (l.map Vol.vol).sum ≤ _
  simp only [Rows.uptoBulk]
  omega
 rcases Nat.eq_zero_or_pos len with h0 | h0
 ·subst h0
  have : l = [] := List.eq_nil_of_length_eq_zero hlen
  subst this
  exact .treeNil _ _ _
 exact tree_open hz hlen hl h0 hcl
theorem fieldB {t : TypeId} {α : Type} [Enc α] [Vol α] {Ok : α → Prop} (ho : OpensB P w t α Ok) {H : Type} {enc : TypeId × Value → H} {base : Nat} {spare : Nat → Bool} {held : Bool} {fuel : Nat} {cs : List Value} {xs : List (DataW H × List MemPlace)} {i : Nat}
  (h : DataW.trod enc P w base spare held fuel t cs = xs[i]?) (hi : i < xs.length) : ∃ a : α, Ok a ∧ BK1 xs i (Vol.vol a) ∧ VRC (frW w) (Enc.cells a) cs := by
 have hg := List.getElem?_eq_getElem hi
 obtain ⟨a, h1, h2, h3⟩ := ho H enc _ _ _ _ _ _ (h.trans hg)
 exact ⟨a, h1, ⟨_, hg, h2⟩, h3⟩
theorem open_argB {t : TypeId} {α : Type} [Enc α] [Vol α] {Ok : α → Prop} (ho : OpensB P w t α Ok) {H : Type} {enc : TypeId × Value → H} {base : Nat} {spare : Nat → Bool} {held : Bool} {v : Value} {d : DataW H} {p : List MemPlace} (h : DataW.Trod enc P w base spare held t v d p) :
  ∃ a : α, Ok a ∧ Vol.vol a ≤ Rows.uptoBulk d ∧ VRC (frW w) (Enc.cells a) v.cells.toList := by
 obtain ⟨fuel, hf⟩ := h
 exact ho H enc _ _ _ _ _ _ hf
end
end Go.Proofs.YtegjnjmimfgijaaGreatDoor

noncomputable section
namespace Go.Proofs.YtegjnjmimfgijaaGreatDoor
open Go Go.RowKit Go.ChangeShapes Go.WideShapes Go.ChangeAt Go.Deep Go.Joins
set_option maxRecDepth 100000
instance : Vol Pt := ⟨fun p => 1 + (Vol.vol p.x + (Vol.vol p.y + (0))), fun _ => Nat.le_add_right _ _⟩
def okPt (p : Pt) : Prop := In64 p.x ∧ In64 p.y
theorem opensB_Pt {w : World} : OpensB Tryz.prog w 132 Pt okPt := fun H enc base spare held fuel cs x h => by
 obtain ⟨xs, n, _, rfl, hlen, hxs, hf⟩ := DataW.trod_struct Tryz.underlying132 h
 have hc : Tryz.prog.cellsOf 132 = 2 := by kernel_rfl
 obtain ⟨b0, k0, u0, v0⟩ := fieldB (opensB_int Tryz.underlying3) (hf 0 _ rfl) (by rw [hxs]; decide)
 obtain ⟨b1, k1, u1, v1⟩ := fieldB (opensB_int Tryz.underlying3) (hf 1 _ rfl) (by rw [hxs]; decide)
 have hb := BK.agg (u0.next (u1.next (BK.done)))
 refine ⟨⟨b0, b1⟩, ⟨k0, k1⟩, hb, v0.next (v1.next (VRC.done (n := 2) (hlen.trans hc)))⟩
theorem opensB_Pts {w : World} : OpensB Tryz.prog w 102 (List Pt) fun l => l.length ≤ maxLen ∧ ∀ a ∈ l, okPt a := opensB_slice Tryz.underlying102 opensB_Pt (by kernel_rfl) (by decide)
instance : Vol Vec3 := ⟨fun p => 1 + (Vol.vol p.x + (Vol.vol p.y + (Vol.vol p.z + (0)))), fun _ => Nat.le_add_right _ _⟩
def okVec3 (p : Vec3) : Prop := In64 p.x ∧ In64 p.y ∧ In64 p.z
theorem opensB_Vec3 {w : World} : OpensB Tryz.prog w 36 Vec3 okVec3 := fun H enc base spare held fuel cs x h => by
 obtain ⟨xs, n, _, rfl, hlen, hxs, hf⟩ := DataW.trod_struct Tryz.underlying36 h
 have hc : Tryz.prog.cellsOf 36 = 3 := by kernel_rfl
 obtain ⟨b0, k0, u0, v0⟩ := fieldB (opensB_int Tryz.underlying3) (hf 0 _ rfl) (by rw [hxs]; decide)
 obtain ⟨b1, k1, u1, v1⟩ := fieldB (opensB_int Tryz.underlying3) (hf 1 _ rfl) (by rw [hxs]; decide)
 obtain ⟨b2, k2, u2, v2⟩ := fieldB (opensB_int Tryz.underlying3) (hf 2 _ rfl) (by rw [hxs]; decide)
 have hb := BK.agg (u0.next (u1.next (u2.next (BK.done))))
 refine ⟨⟨b0, b1, b2⟩, ⟨k0, k1, k2⟩, hb, v0.next (v1.next (v2.next (VRC.done (n := 3) (hlen.trans hc))))⟩
theorem opensB_shape {w : World} : OpensB Tryz.prog w 105 (List Pt × List (List Pt)) fun p => (p.1.length ≤ maxLen ∧ ∀ a ∈ p.1, okPt a) ∧ (p.2.length ≤ maxLen ∧ ∀ l ∈ p.2, l.length ≤ maxLen ∧ ∀ a ∈ l, okPt a) := fun H enc base spare held fuel cs x h => by
 obtain ⟨xs, n, _, rfl, hlen, hxs, hf⟩ := DataW.trod_struct Tryz.underlying105 h
 have hc : Tryz.prog.cellsOf 105 = 2 := by kernel_rfl
 obtain ⟨b0, k0, u0, v0⟩ := fieldB opensB_Pts (hf 0 _ rfl) (by rw [hxs]; decide)
 obtain ⟨b1, k1, u1, v1⟩ := fieldB (opensB_slice Tryz.underlying103 opensB_Pts (by kernel_rfl) (by decide)) (hf 1 _ rfl) (by rw [hxs]; decide)
 have hb := BK.agg (u0.next (u1.next BK.done))
 exact ⟨⟨b0, b1⟩, ⟨k0, k1⟩, hb, v0.next (v1.next (VRC.done (n := 2) (hlen.trans hc)))⟩
theorem opensB_place {w : World} : OpensB Tryz.prog w 107 (Vec3 × Int) fun p => okVec3 p.1 ∧ In64 p.2 := fun H enc base spare held fuel cs x h => by
 obtain ⟨xs, n, _, rfl, hlen, hxs, hf⟩ := DataW.trod_struct Tryz.underlying107 h
 have hc : Tryz.prog.cellsOf 107 = 4 := by kernel_rfl
 obtain ⟨b0, k0, u0, v0⟩ := fieldB opensB_Vec3 (hf 0 _ rfl) (by rw [hxs]; decide)
 obtain ⟨b1, k1, u1, v1⟩ := fieldB (opensB_int Tryz.underlying3) (hf 1 _ rfl) (by rw [hxs]; decide)
 have hb := BK.agg (u0.next (u1.next BK.done))
 exact ⟨⟨b0, b1⟩, ⟨k0, k1⟩, hb, v0.next (v1.next (VRC.done (n := 4) (hlen.trans hc)))⟩
instance : Vol Part := ⟨fun p => 1 + (Vol.vol p.id + (Vol.vol p.rev + (Vol.vol p.kind + (Vol.vol p.node + (Vol.vol p.grade + (Vol.vol p.thick + (Vol.vol p.outer + (Vol.vol p.holes + (Vol.vol p.sect + (Vol.vol p.long + (Vol.vol p.mass + (Vol.vol p.centre + (Vol.vol p.at_ + (Vol.vol p.turn + (0))))))))))))))), fun _ => Nat.le_add_right _ _⟩
abbrev okPart (p : Part) : Prop := InPart p
set_option maxHeartbeats 2000000 in
theorem opensB_Part {w : World} : OpensB Tryz.prog w 109 Part okPart := fun H enc base spare held fuel cs x h => by
 obtain ⟨xs, n, _, rfl, hlen, hxs, hf⟩ := DataW.trod_struct Tryz.underlying109 h
 have hc : Tryz.prog.cellsOf 109 = 18 := by kernel_rfl
 obtain ⟨b0, k0, u0, v0⟩ := fieldB (opensB_string Tryz.underlying9) (hf 0 _ rfl) (by rw [hxs]; decide)
 obtain ⟨b1, k1, u1, v1⟩ := fieldB (opensB_int Tryz.underlying3) (hf 1 _ rfl) (by rw [hxs]; decide)
 obtain ⟨b2, k2, u2, v2⟩ := fieldB (opensB_int Tryz.underlying3) (hf 2 _ rfl) (by rw [hxs]; decide)
 obtain ⟨b3, k3, u3, v3⟩ := fieldB (opensB_string Tryz.underlying9) (hf 3 _ rfl) (by rw [hxs]; decide)
 obtain ⟨b4, k4, u4, v4⟩ := fieldB (opensB_string Tryz.underlying9) (hf 4 _ rfl) (by rw [hxs]; decide)
 obtain ⟨b5, k5, u5, v5⟩ := fieldB (opensB_int Tryz.underlying3) (hf 5 _ rfl) (by rw [hxs]; decide)
 obtain ⟨b6, k6, u6, v6⟩ := fieldB opensB_shape (hf 6 _ rfl) (by rw [hxs]; decide)
 obtain ⟨b7, k7, u7, v7⟩ := fieldB (opensB_string Tryz.underlying9) (hf 7 _ rfl) (by rw [hxs]; decide)
 obtain ⟨b8, k8, u8, v8⟩ := fieldB (opensB_int Tryz.underlying3) (hf 8 _ rfl) (by rw [hxs]; decide)
 obtain ⟨b9, k9, u9, v9⟩ := fieldB (opensB_int Tryz.underlying3) (hf 9 _ rfl) (by rw [hxs]; decide)
 obtain ⟨b10, k10, u10, v10⟩ := fieldB opensB_Vec3 (hf 10 _ rfl) (by rw [hxs]; decide)
 obtain ⟨b11, k11, u11, v11⟩ := fieldB opensB_place (hf 11 _ rfl) (by rw [hxs]; decide)
 have hb := BK.agg (u0.next (u1.next (u2.next (u3.next (u4.next (u5.next (u6.next (u7.next (u8.next (u9.next (u10.next (u11.next (BK.done)))))))))))))
 refine ⟨⟨b0, b1, b2, b3, b4, b5, b6.1, b6.2, b7, b8, b9, b10, b11.1, b11.2⟩, ⟨k1, k2, k5, k6.1.2, fun l hl => (k6.2.2 l hl).2, k8, k9, k10, k11.1, k11.2, k0, k3, k4, k7⟩, ?_, ?_⟩
 ·refine Nat.le_trans ?_ hb
  clear hb u0 u1 u2 u3 u4 u5 u6 u7 u8 u9 u10 u11 v0 v1 v2 v3 v4 v5 v6 v7 v8 v9 v10 v11
  have e6 : Vol.vol b6 = 1 + (Vol.vol b6.1 + (Vol.vol b6.2 + 0)) := rfl
  have e11 : Vol.vol b11 = 1 + (Vol.vol b11.1 + (Vol.vol b11.2 + 0)) := rfl
  show 1 + (Vol.vol b0 + (Vol.vol b1 + (Vol.vol b2 + (Vol.vol b3 + (Vol.vol b4 + (Vol.vol b5 + (Vol.vol b6.1 + (Vol.vol b6.2 + (Vol.vol b7 + (Vol.vol b8 + (Vol.vol b9 + (Vol.vol b10 + (Vol.vol b11.1 + (Vol.vol b11.2 + (0))))))))))))))) ≤ _
  rw [e6, e11]
  clear e6 e11
  generalize Vol.vol b0 = a0
  generalize Vol.vol b1 = a1
  generalize Vol.vol b2 = a2
  generalize Vol.vol b3 = a3
  generalize Vol.vol b4 = a4
  generalize Vol.vol b5 = a5
  generalize Vol.vol b6.1 = a6
  generalize Vol.vol b6.2 = a7
  generalize Vol.vol b7 = a8
  generalize Vol.vol b8 = a9
  generalize Vol.vol b9 = a10
  generalize Vol.vol b10 = a11
  generalize Vol.vol b11.1 = a12
  generalize Vol.vol b11.2 = a13
  omega
 ·exact v0.next (v1.next (v2.next (v3.next (v4.next (v5.next (v6.next (v7.next (v8.next (v9.next (v10.next (v11.next (VRC.done (n := 18) (hlen.trans hc)))))))))))))
instance : Vol Node3 := ⟨fun p => 1 + (Vol.vol p.id + (Vol.vol p.kind + (Vol.vol p.parent + (0)))), fun _ => Nat.le_add_right _ _⟩
def okNode3 (p : Node3) : Prop := p.id.size ≤ maxLen ∧ In64 p.kind ∧ p.parent.size ≤ maxLen
theorem opensB_Node3 {w : World} : OpensB Tryz.prog w 101 Node3 okNode3 := fun H enc base spare held fuel cs x h => by
 obtain ⟨xs, n, _, rfl, hlen, hxs, hf⟩ := DataW.trod_struct Tryz.underlying101 h
 have hc : Tryz.prog.cellsOf 101 = 3 := by kernel_rfl
 obtain ⟨b0, k0, u0, v0⟩ := fieldB (opensB_string Tryz.underlying9) (hf 0 _ rfl) (by rw [hxs]; decide)
 obtain ⟨b1, k1, u1, v1⟩ := fieldB (opensB_int Tryz.underlying3) (hf 1 _ rfl) (by rw [hxs]; decide)
 obtain ⟨b2, k2, u2, v2⟩ := fieldB (opensB_string Tryz.underlying9) (hf 2 _ rfl) (by rw [hxs]; decide)
 have hb := BK.agg (u0.next (u1.next (u2.next (BK.done))))
 refine ⟨⟨b0, b1, b2⟩, ⟨k0, k1, k2⟩, hb, v0.next (v1.next (v2.next (VRC.done (n := 3) (hlen.trans hc))))⟩
instance : Vol Seam6 := ⟨fun p => 1 + (Vol.vol p.id + (Vol.vol p.a + (Vol.vol p.b + (Vol.vol p.kind + (Vol.vol p.long + (Vol.vol p.cls + (0))))))), fun _ => Nat.le_add_right _ _⟩
def okSeam6 (p : Seam6) : Prop := p.id.size ≤ maxLen ∧ p.a.size ≤ maxLen ∧ p.b.size ≤ maxLen ∧ In64 p.kind ∧ In64 p.long ∧ In64 p.cls
theorem opensB_Seam6 {w : World} : OpensB Tryz.prog w 111 Seam6 okSeam6 := fun H enc base spare held fuel cs x h => by
 obtain ⟨xs, n, _, rfl, hlen, hxs, hf⟩ := DataW.trod_struct Tryz.underlying111 h
 have hc : Tryz.prog.cellsOf 111 = 6 := by kernel_rfl
 obtain ⟨b0, k0, u0, v0⟩ := fieldB (opensB_string Tryz.underlying9) (hf 0 _ rfl) (by rw [hxs]; decide)
 obtain ⟨b1, k1, u1, v1⟩ := fieldB (opensB_string Tryz.underlying9) (hf 1 _ rfl) (by rw [hxs]; decide)
 obtain ⟨b2, k2, u2, v2⟩ := fieldB (opensB_string Tryz.underlying9) (hf 2 _ rfl) (by rw [hxs]; decide)
 obtain ⟨b3, k3, u3, v3⟩ := fieldB (opensB_int Tryz.underlying3) (hf 3 _ rfl) (by rw [hxs]; decide)
 obtain ⟨b4, k4, u4, v4⟩ := fieldB (opensB_int Tryz.underlying3) (hf 4 _ rfl) (by rw [hxs]; decide)
 obtain ⟨b5, k5, u5, v5⟩ := fieldB (opensB_int Tryz.underlying3) (hf 5 _ rfl) (by rw [hxs]; decide)
 have hb := BK.agg (u0.next (u1.next (u2.next (u3.next (u4.next (u5.next (BK.done)))))))
 refine ⟨⟨b0, b1, b2, b3, b4, b5⟩, ⟨k0, k1, k2, k3, k4, k5⟩, hb, v0.next (v1.next (v2.next (v3.next (v4.next (v5.next (VRC.done (n := 6) (hlen.trans hc)))))))⟩
instance : Vol Pack5 := ⟨fun p => 1 + (Vol.vol p.id + (Vol.vol p.block + (Vol.vol p.parts + (Vol.vol p.hours + (Vol.vol p.after + (0)))))), fun _ => Nat.le_add_right _ _⟩
def okPack5 (p : Pack5) : Prop := p.id.size ≤ maxLen ∧ p.block.size ≤ maxLen ∧ (p.parts.length ≤ maxLen ∧ ∀ a ∈ p.parts, a.size ≤ maxLen) ∧ In64 p.hours ∧ (p.after.length ≤ maxLen ∧ ∀ a ∈ p.after, a.size ≤ maxLen)
theorem opensB_Pack5 {w : World} : OpensB Tryz.prog w 113 Pack5 okPack5 := fun H enc base spare held fuel cs x h => by
 obtain ⟨xs, n, _, rfl, hlen, hxs, hf⟩ := DataW.trod_struct Tryz.underlying113 h
 have hc : Tryz.prog.cellsOf 113 = 5 := by kernel_rfl
 obtain ⟨b0, k0, u0, v0⟩ := fieldB (opensB_string Tryz.underlying9) (hf 0 _ rfl) (by rw [hxs]; decide)
 obtain ⟨b1, k1, u1, v1⟩ := fieldB (opensB_string Tryz.underlying9) (hf 1 _ rfl) (by rw [hxs]; decide)
 obtain ⟨b2, k2, u2, v2⟩ := fieldB (opensB_slice Tryz.underlying32 (opensB_string Tryz.underlying9) (by kernel_rfl) (by decide)) (hf 2 _ rfl) (by rw [hxs]; decide)
 obtain ⟨b3, k3, u3, v3⟩ := fieldB (opensB_int Tryz.underlying3) (hf 3 _ rfl) (by rw [hxs]; decide)
 obtain ⟨b4, k4, u4, v4⟩ := fieldB (opensB_slice Tryz.underlying32 (opensB_string Tryz.underlying9) (by kernel_rfl) (by decide)) (hf 4 _ rfl) (by rw [hxs]; decide)
 have hb := BK.agg (u0.next (u1.next (u2.next (u3.next (u4.next (BK.done))))))
 refine ⟨⟨b0, b1, b2, b3, b4⟩, ⟨k0, k1, k2, k3, k4⟩, hb, v0.next (v1.next (v2.next (v3.next (v4.next (VRC.done (n := 5) (hlen.trans hc))))))⟩
instance : Vol Need3 := ⟨fun p => 1 + (Vol.vol p.kind + (Vol.vol p.block + (Vol.vol p.on + (0)))), fun _ => Nat.le_add_right _ _⟩
def okNeed3 (p : Need3) : Prop := In64 p.kind ∧ p.block.size ≤ maxLen ∧ p.on.size ≤ maxLen
theorem opensB_Need3 {w : World} : OpensB Tryz.prog w 115 Need3 okNeed3 := fun H enc base spare held fuel cs x h => by
 obtain ⟨xs, n, _, rfl, hlen, hxs, hf⟩ := DataW.trod_struct Tryz.underlying115 h
 have hc : Tryz.prog.cellsOf 115 = 3 := by kernel_rfl
 obtain ⟨b0, k0, u0, v0⟩ := fieldB (opensB_int Tryz.underlying3) (hf 0 _ rfl) (by rw [hxs]; decide)
 obtain ⟨b1, k1, u1, v1⟩ := fieldB (opensB_string Tryz.underlying9) (hf 1 _ rfl) (by rw [hxs]; decide)
 obtain ⟨b2, k2, u2, v2⟩ := fieldB (opensB_string Tryz.underlying9) (hf 2 _ rfl) (by rw [hxs]; decide)
 have hb := BK.agg (u0.next (u1.next (u2.next (BK.done))))
 refine ⟨⟨b0, b1, b2⟩, ⟨k0, k1, k2⟩, hb, v0.next (v1.next (v2.next (VRC.done (n := 3) (hlen.trans hc))))⟩
instance : Vol Edit := ⟨fun p => 1 + (Vol.vol p.kind + (Vol.vol p.id + (Vol.vol p.to + (Vol.vol p.node + (Vol.vol p.part + (Vol.vol p.seam + (Vol.vol p.pack + (Vol.vol p.need + (0))))))))), fun _ => Nat.le_add_right _ _⟩
def okEdit (p : Edit) : Prop := In64 p.kind ∧ p.id.size ≤ maxLen ∧ p.to.size ≤ maxLen ∧ okNode3 p.node ∧ okPart p.part ∧ okSeam6 p.seam ∧ okPack5 p.pack ∧ okNeed3 p.need
theorem opensB_Edit {w : World} : OpensB Tryz.prog w 117 Edit okEdit := fun H enc base spare held fuel cs x h => by
 obtain ⟨xs, n, _, rfl, hlen, hxs, hf⟩ := DataW.trod_struct Tryz.underlying117 h
 have hc : Tryz.prog.cellsOf 117 = 38 := by kernel_rfl
 obtain ⟨b0, k0, u0, v0⟩ := fieldB (opensB_int Tryz.underlying3) (hf 0 _ rfl) (by rw [hxs]; decide)
 obtain ⟨b1, k1, u1, v1⟩ := fieldB (opensB_string Tryz.underlying9) (hf 1 _ rfl) (by rw [hxs]; decide)
 obtain ⟨b2, k2, u2, v2⟩ := fieldB (opensB_string Tryz.underlying9) (hf 2 _ rfl) (by rw [hxs]; decide)
 obtain ⟨b3, k3, u3, v3⟩ := fieldB opensB_Node3 (hf 3 _ rfl) (by rw [hxs]; decide)
 obtain ⟨b4, k4, u4, v4⟩ := fieldB opensB_Part (hf 4 _ rfl) (by rw [hxs]; decide)
 obtain ⟨b5, k5, u5, v5⟩ := fieldB opensB_Seam6 (hf 5 _ rfl) (by rw [hxs]; decide)
 obtain ⟨b6, k6, u6, v6⟩ := fieldB opensB_Pack5 (hf 6 _ rfl) (by rw [hxs]; decide)
 obtain ⟨b7, k7, u7, v7⟩ := fieldB opensB_Need3 (hf 7 _ rfl) (by rw [hxs]; decide)
 have hb := BK.agg (u0.next (u1.next (u2.next (u3.next (u4.next (u5.next (u6.next (u7.next (BK.done)))))))))
 refine ⟨⟨b0, b1, b2, b3, b4, b5, b6, b7⟩, ⟨k0, k1, k2, k3, k4, k5, k6, k7⟩, hb, v0.next (v1.next (v2.next (v3.next (v4.next (v5.next (v6.next (v7.next (VRC.done (n := 38) (hlen.trans hc)))))))))⟩
theorem opensB_Edits {w : World} : OpensB Tryz.prog w 22 (List Edit) fun l => l.length ≤ maxLen ∧ ∀ a ∈ l, okEdit a := opensB_slice Tryz.underlying22 opensB_Edit (by kernel_rfl) (by decide)
instance : Vol Order2 := ⟨fun p => 1 + (Vol.vol p.id + (Vol.vol p.edits + (0))), fun _ => Nat.le_add_right _ _⟩
def okOrder2 (p : Order2) : Prop := p.id.size ≤ maxLen ∧ (p.edits.length ≤ maxLen ∧ ∀ a ∈ p.edits, okEdit a)
theorem opensB_Order2 {w : World} : OpensB Tryz.prog w 24 Order2 okOrder2 := fun H enc base spare held fuel cs x h => by
 obtain ⟨xs, n, _, rfl, hlen, hxs, hf⟩ := DataW.trod_struct Tryz.underlying24 h
 have hc : Tryz.prog.cellsOf 24 = 2 := by kernel_rfl
 obtain ⟨b0, k0, u0, v0⟩ := fieldB (opensB_string Tryz.underlying9) (hf 0 _ rfl) (by rw [hxs]; decide)
 obtain ⟨b1, k1, u1, v1⟩ := fieldB opensB_Edits (hf 1 _ rfl) (by rw [hxs]; decide)
 have hb := BK.agg (u0.next (u1.next (BK.done)))
 refine ⟨⟨b0, b1⟩, ⟨k0, k1⟩, hb, v0.next (v1.next (VRC.done (n := 2) (hlen.trans hc)))⟩
instance : Vol Sheet6 := ⟨fun p => 1 + (Vol.vol p.id + (Vol.vol p.grade + (Vol.vol p.thick + (Vol.vol p.long + (Vol.vol p.width + (Vol.vol p.heat + (0))))))), fun _ => Nat.le_add_right _ _⟩
def okSheet6 (p : Sheet6) : Prop := p.id.size ≤ maxLen ∧ p.grade.size ≤ maxLen ∧ In64 p.thick ∧ In64 p.long ∧ In64 p.width ∧ p.heat.size ≤ maxLen
theorem opensB_Sheet6 {w : World} : OpensB Tryz.prog w 26 Sheet6 okSheet6 := fun H enc base spare held fuel cs x h => by
 obtain ⟨xs, n, _, rfl, hlen, hxs, hf⟩ := DataW.trod_struct Tryz.underlying26 h
 have hc : Tryz.prog.cellsOf 26 = 6 := by kernel_rfl
 obtain ⟨b0, k0, u0, v0⟩ := fieldB (opensB_string Tryz.underlying9) (hf 0 _ rfl) (by rw [hxs]; decide)
 obtain ⟨b1, k1, u1, v1⟩ := fieldB (opensB_string Tryz.underlying9) (hf 1 _ rfl) (by rw [hxs]; decide)
 obtain ⟨b2, k2, u2, v2⟩ := fieldB (opensB_int Tryz.underlying3) (hf 2 _ rfl) (by rw [hxs]; decide)
 obtain ⟨b3, k3, u3, v3⟩ := fieldB (opensB_int Tryz.underlying3) (hf 3 _ rfl) (by rw [hxs]; decide)
 obtain ⟨b4, k4, u4, v4⟩ := fieldB (opensB_int Tryz.underlying3) (hf 4 _ rfl) (by rw [hxs]; decide)
 obtain ⟨b5, k5, u5, v5⟩ := fieldB (opensB_string Tryz.underlying9) (hf 5 _ rfl) (by rw [hxs]; decide)
 have hb := BK.agg (u0.next (u1.next (u2.next (u3.next (u4.next (u5.next (BK.done)))))))
 refine ⟨⟨b0, b1, b2, b3, b4, b5⟩, ⟨k0, k1, k2, k3, k4, k5⟩, hb, v0.next (v1.next (v2.next (v3.next (v4.next (v5.next (VRC.done (n := 6) (hlen.trans hc)))))))⟩
instance : Vol Bar5 := ⟨fun p => 1 + (Vol.vol p.id + (Vol.vol p.sect + (Vol.vol p.grade + (Vol.vol p.long + (Vol.vol p.heat + (0)))))), fun _ => Nat.le_add_right _ _⟩
def okBar5 (p : Bar5) : Prop := p.id.size ≤ maxLen ∧ p.sect.size ≤ maxLen ∧ p.grade.size ≤ maxLen ∧ In64 p.long ∧ p.heat.size ≤ maxLen
theorem opensB_Bar5 {w : World} : OpensB Tryz.prog w 28 Bar5 okBar5 := fun H enc base spare held fuel cs x h => by
 obtain ⟨xs, n, _, rfl, hlen, hxs, hf⟩ := DataW.trod_struct Tryz.underlying28 h
 have hc : Tryz.prog.cellsOf 28 = 5 := by kernel_rfl
 obtain ⟨b0, k0, u0, v0⟩ := fieldB (opensB_string Tryz.underlying9) (hf 0 _ rfl) (by rw [hxs]; decide)
 obtain ⟨b1, k1, u1, v1⟩ := fieldB (opensB_string Tryz.underlying9) (hf 1 _ rfl) (by rw [hxs]; decide)
 obtain ⟨b2, k2, u2, v2⟩ := fieldB (opensB_string Tryz.underlying9) (hf 2 _ rfl) (by rw [hxs]; decide)
 obtain ⟨b3, k3, u3, v3⟩ := fieldB (opensB_int Tryz.underlying3) (hf 3 _ rfl) (by rw [hxs]; decide)
 obtain ⟨b4, k4, u4, v4⟩ := fieldB (opensB_string Tryz.underlying9) (hf 4 _ rfl) (by rw [hxs]; decide)
 have hb := BK.agg (u0.next (u1.next (u2.next (u3.next (u4.next (BK.done))))))
 refine ⟨⟨b0, b1, b2, b3, b4⟩, ⟨k0, k1, k2, k3, k4⟩, hb, v0.next (v1.next (v2.next (v3.next (v4.next (VRC.done (n := 5) (hlen.trans hc))))))⟩
instance : Vol Spot := ⟨fun p => 1 + (Vol.vol p.part + (Vol.vol p.at_ + (Vol.vol p.turn + (Vol.vol p.flip + (0))))), fun _ => Nat.le_add_right _ _⟩
def okSpot (p : Spot) : Prop := p.part.size ≤ maxLen ∧ okPt p.at_ ∧ In64 p.turn ∧ True
theorem opensB_Spot {w : World} : OpensB Tryz.prog w 134 Spot okSpot := fun H enc base spare held fuel cs x h => by
 obtain ⟨xs, n, _, rfl, hlen, hxs, hf⟩ := DataW.trod_struct Tryz.underlying134 h
 have hc : Tryz.prog.cellsOf 134 = 5 := by kernel_rfl
 obtain ⟨b0, k0, u0, v0⟩ := fieldB (opensB_string Tryz.underlying9) (hf 0 _ rfl) (by rw [hxs]; decide)
 obtain ⟨b1, k1, u1, v1⟩ := fieldB opensB_Pt (hf 1 _ rfl) (by rw [hxs]; decide)
 obtain ⟨b2, k2, u2, v2⟩ := fieldB (opensB_int Tryz.underlying3) (hf 2 _ rfl) (by rw [hxs]; decide)
 obtain ⟨b3, k3, u3, v3⟩ := fieldB (opensB_bool Tryz.underlying4) (hf 3 _ rfl) (by rw [hxs]; decide)
 have hb := BK.agg (u0.next (u1.next (u2.next (u3.next (BK.done)))))
 refine ⟨⟨b0, b1, b2, b3⟩, ⟨k0, k1, k2, k3⟩, hb, v0.next (v1.next (v2.next (v3.next (VRC.done (n := 5) (hlen.trans hc)))))⟩
theorem opensB_Spots {w : World} : OpensB Tryz.prog w 29 (List Spot) fun l => l.length ≤ maxLen ∧ ∀ a ∈ l, okSpot a := opensB_slice Tryz.underlying29 opensB_Spot (by kernel_rfl) (by decide)
instance : Vol Nest3 := ⟨fun p => 1 + (Vol.vol p.sheet + (Vol.vol p.gap + (Vol.vol p.spots + (0)))), fun _ => Nat.le_add_right _ _⟩
def okNest3 (p : Nest3) : Prop := p.sheet.size ≤ maxLen ∧ In64 p.gap ∧ (p.spots.length ≤ maxLen ∧ ∀ a ∈ p.spots, okSpot a)
theorem opensB_Nest3 {w : World} : OpensB Tryz.prog w 31 Nest3 okNest3 := fun H enc base spare held fuel cs x h => by
 obtain ⟨xs, n, _, rfl, hlen, hxs, hf⟩ := DataW.trod_struct Tryz.underlying31 h
 have hc : Tryz.prog.cellsOf 31 = 3 := by kernel_rfl
 obtain ⟨b0, k0, u0, v0⟩ := fieldB (opensB_string Tryz.underlying9) (hf 0 _ rfl) (by rw [hxs]; decide)
 obtain ⟨b1, k1, u1, v1⟩ := fieldB (opensB_int Tryz.underlying3) (hf 1 _ rfl) (by rw [hxs]; decide)
 obtain ⟨b2, k2, u2, v2⟩ := fieldB opensB_Spots (hf 2 _ rfl) (by rw [hxs]; decide)
 have hb := BK.agg (u0.next (u1.next (u2.next (BK.done))))
 refine ⟨⟨b0, b1, b2⟩, ⟨k0, k1, k2⟩, hb, v0.next (v1.next (v2.next (VRC.done (n := 3) (hlen.trans hc))))⟩
instance : Vol Saw3 := ⟨fun p => 1 + (Vol.vol p.bar + (Vol.vol p.kerf + (Vol.vol p.parts + (0)))), fun _ => Nat.le_add_right _ _⟩
def okSaw3 (p : Saw3) : Prop := p.bar.size ≤ maxLen ∧ In64 p.kerf ∧ (p.parts.length ≤ maxLen ∧ ∀ a ∈ p.parts, a.size ≤ maxLen)
theorem opensB_Saw3 {w : World} : OpensB Tryz.prog w 34 Saw3 okSaw3 := fun H enc base spare held fuel cs x h => by
 obtain ⟨xs, n, _, rfl, hlen, hxs, hf⟩ := DataW.trod_struct Tryz.underlying34 h
 have hc : Tryz.prog.cellsOf 34 = 3 := by kernel_rfl
 obtain ⟨b0, k0, u0, v0⟩ := fieldB (opensB_string Tryz.underlying9) (hf 0 _ rfl) (by rw [hxs]; decide)
 obtain ⟨b1, k1, u1, v1⟩ := fieldB (opensB_int Tryz.underlying3) (hf 1 _ rfl) (by rw [hxs]; decide)
 obtain ⟨b2, k2, u2, v2⟩ := fieldB (opensB_slice Tryz.underlying32 (opensB_string Tryz.underlying9) (by kernel_rfl) (by decide)) (hf 2 _ rfl) (by rw [hxs]; decide)
 have hb := BK.agg (u0.next (u1.next (u2.next (BK.done))))
 refine ⟨⟨b0, b1, b2⟩, ⟨k0, k1, k2⟩, hb, v0.next (v1.next (v2.next (VRC.done (n := 3) (hlen.trans hc))))⟩
instance : Vol Weig := ⟨fun p => 1 + (Vol.vol p.block + (Vol.vol p.at_ + (Vol.vol p.mass + (Vol.vol p.centre + (Vol.vol p.sigma + (Vol.vol p.parts + (0))))))), fun _ => Nat.le_add_right _ _⟩
def okWeig (p : Weig) : Prop := p.block.size ≤ maxLen ∧ In64 p.at_ ∧ In64 p.mass ∧ okVec3 p.centre ∧ In64 p.sigma ∧ (p.parts.length ≤ maxLen ∧ ∀ a ∈ p.parts, a.size ≤ maxLen)
theorem opensB_Weig {w : World} : OpensB Tryz.prog w 38 Weig okWeig := fun H enc base spare held fuel cs x h => by
 obtain ⟨xs, n, _, rfl, hlen, hxs, hf⟩ := DataW.trod_struct Tryz.underlying38 h
 have hc : Tryz.prog.cellsOf 38 = 8 := by kernel_rfl
 obtain ⟨b0, k0, u0, v0⟩ := fieldB (opensB_string Tryz.underlying9) (hf 0 _ rfl) (by rw [hxs]; decide)
 obtain ⟨b1, k1, u1, v1⟩ := fieldB (opensB_int Tryz.underlying3) (hf 1 _ rfl) (by rw [hxs]; decide)
 obtain ⟨b2, k2, u2, v2⟩ := fieldB (opensB_int Tryz.underlying3) (hf 2 _ rfl) (by rw [hxs]; decide)
 obtain ⟨b3, k3, u3, v3⟩ := fieldB opensB_Vec3 (hf 3 _ rfl) (by rw [hxs]; decide)
 obtain ⟨b4, k4, u4, v4⟩ := fieldB (opensB_int Tryz.underlying3) (hf 4 _ rfl) (by rw [hxs]; decide)
 obtain ⟨b5, k5, u5, v5⟩ := fieldB (opensB_slice Tryz.underlying32 (opensB_string Tryz.underlying9) (by kernel_rfl) (by decide)) (hf 5 _ rfl) (by rw [hxs]; decide)
 have hb := BK.agg (u0.next (u1.next (u2.next (u3.next (u4.next (u5.next (BK.done)))))))
 refine ⟨⟨b0, b1, b2, b3, b4, b5⟩, ⟨k0, k1, k2, k3, k4, k5⟩, hb, v0.next (v1.next (v2.next (v3.next (v4.next (v5.next (VRC.done (n := 8) (hlen.trans hc)))))))⟩
instance : Vol Hook4 := ⟨fun p => 1 + (Vol.vol p.crane + (Vol.vol p.at_ + (Vol.vol p.radius + (0)))), fun _ => Nat.le_add_right _ _⟩
def okHook4 (p : Hook4) : Prop := p.crane.size ≤ maxLen ∧ okPt p.at_ ∧ In64 p.radius
theorem opensB_Hook4 {w : World} : OpensB Tryz.prog w 145 Hook4 okHook4 := fun H enc base spare held fuel cs x h => by
 obtain ⟨xs, n, _, rfl, hlen, hxs, hf⟩ := DataW.trod_struct Tryz.underlying145 h
 have hc : Tryz.prog.cellsOf 145 = 4 := by kernel_rfl
 obtain ⟨b0, k0, u0, v0⟩ := fieldB (opensB_string Tryz.underlying9) (hf 0 _ rfl) (by rw [hxs]; decide)
 obtain ⟨b1, k1, u1, v1⟩ := fieldB opensB_Pt (hf 1 _ rfl) (by rw [hxs]; decide)
 obtain ⟨b2, k2, u2, v2⟩ := fieldB (opensB_int Tryz.underlying3) (hf 2 _ rfl) (by rw [hxs]; decide)
 have hb := BK.agg (u0.next (u1.next (u2.next (BK.done))))
 refine ⟨⟨b0, b1, b2⟩, ⟨k0, k1, k2⟩, hb, v0.next (v1.next (v2.next (VRC.done (n := 4) (hlen.trans hc))))⟩
theorem opensB_Hook4s {w : World} : OpensB Tryz.prog w 39 (List Hook4) fun l => l.length ≤ maxLen ∧ ∀ a ∈ l, okHook4 a := opensB_slice Tryz.underlying39 opensB_Hook4 (by kernel_rfl) (by decide)
instance : Vol Lift2 := ⟨fun p => 1 + (Vol.vol p.block + (Vol.vol p.hooks + (0))), fun _ => Nat.le_add_right _ _⟩
def okLift2 (p : Lift2) : Prop := p.block.size ≤ maxLen ∧ (p.hooks.length ≤ maxLen ∧ ∀ a ∈ p.hooks, okHook4 a)
theorem opensB_Lift2 {w : World} : OpensB Tryz.prog w 41 Lift2 okLift2 := fun H enc base spare held fuel cs x h => by
 obtain ⟨xs, n, _, rfl, hlen, hxs, hf⟩ := DataW.trod_struct Tryz.underlying41 h
 have hc : Tryz.prog.cellsOf 41 = 2 := by kernel_rfl
 obtain ⟨b0, k0, u0, v0⟩ := fieldB (opensB_string Tryz.underlying9) (hf 0 _ rfl) (by rw [hxs]; decide)
 obtain ⟨b1, k1, u1, v1⟩ := fieldB opensB_Hook4s (hf 1 _ rfl) (by rw [hxs]; decide)
 have hb := BK.agg (u0.next (u1.next (BK.done)))
 refine ⟨⟨b0, b1⟩, ⟨k0, k1⟩, hb, v0.next (v1.next (VRC.done (n := 2) (hlen.trans hc)))⟩
instance : Vol Span2 := ⟨fun p => 1 + (Vol.vol p.a + (Vol.vol p.b + (0))), fun _ => Nat.le_add_right _ _⟩
def okSpan2 (p : Span2) : Prop := In64 p.a ∧ In64 p.b
theorem opensB_Span2 {w : World} : OpensB Tryz.prog w 43 Span2 okSpan2 := fun H enc base spare held fuel cs x h => by
 obtain ⟨xs, n, _, rfl, hlen, hxs, hf⟩ := DataW.trod_struct Tryz.underlying43 h
 have hc : Tryz.prog.cellsOf 43 = 2 := by kernel_rfl
 obtain ⟨b0, k0, u0, v0⟩ := fieldB (opensB_int Tryz.underlying3) (hf 0 _ rfl) (by rw [hxs]; decide)
 obtain ⟨b1, k1, u1, v1⟩ := fieldB (opensB_int Tryz.underlying3) (hf 1 _ rfl) (by rw [hxs]; decide)
 have hb := BK.agg (u0.next (u1.next (BK.done)))
 refine ⟨⟨b0, b1⟩, ⟨k0, k1⟩, hb, v0.next (v1.next (VRC.done (n := 2) (hlen.trans hc)))⟩
instance : Vol Permit3 := ⟨fun p => 1 + (Vol.vol p.id + (Vol.vol p.kind + (Vol.vol p.time + (0)))), fun _ => Nat.le_add_right _ _⟩
def okPermit3 (p : Permit3) : Prop := p.id.size ≤ maxLen ∧ In64 p.kind ∧ okSpan2 p.time
theorem opensB_Permit3 {w : World} : OpensB Tryz.prog w 45 Permit3 okPermit3 := fun H enc base spare held fuel cs x h => by
 obtain ⟨xs, n, _, rfl, hlen, hxs, hf⟩ := DataW.trod_struct Tryz.underlying45 h
 have hc : Tryz.prog.cellsOf 45 = 4 := by kernel_rfl
 obtain ⟨b0, k0, u0, v0⟩ := fieldB (opensB_string Tryz.underlying9) (hf 0 _ rfl) (by rw [hxs]; decide)
 obtain ⟨b1, k1, u1, v1⟩ := fieldB (opensB_int Tryz.underlying3) (hf 1 _ rfl) (by rw [hxs]; decide)
 obtain ⟨b2, k2, u2, v2⟩ := fieldB opensB_Span2 (hf 2 _ rfl) (by rw [hxs]; decide)
 have hb := BK.agg (u0.next (u1.next (u2.next (BK.done))))
 refine ⟨⟨b0, b1, b2⟩, ⟨k0, k1, k2⟩, hb, v0.next (v1.next (v2.next (VRC.done (n := 4) (hlen.trans hc))))⟩
instance : Vol Event := ⟨fun p => 1 + (Vol.vol p.kind + (Vol.vol p.at_ + (Vol.vol p.item + (Vol.vol p.of_ + (Vol.vol p.by_ + (Vol.vol p.n + (Vol.vol p.pass + (Vol.vol p.order + (Vol.vol p.sheet + (Vol.vol p.bar + (Vol.vol p.nest + (Vol.vol p.saw + (Vol.vol p.weig + (Vol.vol p.lift + (Vol.vol p.permit + (0)))))))))))))))), fun _ => Nat.le_add_right _ _⟩
def okEvent (p : Event) : Prop := In64 p.kind ∧ In64 p.at_ ∧ p.item.size ≤ maxLen ∧ p.of_.size ≤ maxLen ∧ p.by_.size ≤ maxLen ∧ In64 p.n ∧ True ∧ okOrder2 p.order ∧ okSheet6 p.sheet ∧ okBar5 p.bar ∧ okNest3 p.nest ∧ okSaw3 p.saw ∧ okWeig p.weig ∧ okLift2 p.lift ∧ okPermit3 p.permit
set_option maxHeartbeats 2000000 in
theorem opensB_Event {w : World} : OpensB Tryz.prog w 47 Event okEvent := fun H enc base spare held fuel cs x h => by
 obtain ⟨xs, n, _, rfl, hlen, hxs, hf⟩ := DataW.trod_struct Tryz.underlying47 h
 have hc : Tryz.prog.cellsOf 47 = 40 := by kernel_rfl
 obtain ⟨b0, k0, u0, v0⟩ := fieldB (opensB_int Tryz.underlying3) (hf 0 _ rfl) (by rw [hxs]; decide)
 obtain ⟨b1, k1, u1, v1⟩ := fieldB (opensB_int Tryz.underlying3) (hf 1 _ rfl) (by rw [hxs]; decide)
 obtain ⟨b2, k2, u2, v2⟩ := fieldB (opensB_string Tryz.underlying9) (hf 2 _ rfl) (by rw [hxs]; decide)
 obtain ⟨b3, k3, u3, v3⟩ := fieldB (opensB_string Tryz.underlying9) (hf 3 _ rfl) (by rw [hxs]; decide)
 obtain ⟨b4, k4, u4, v4⟩ := fieldB (opensB_string Tryz.underlying9) (hf 4 _ rfl) (by rw [hxs]; decide)
 obtain ⟨b5, k5, u5, v5⟩ := fieldB (opensB_int Tryz.underlying3) (hf 5 _ rfl) (by rw [hxs]; decide)
 obtain ⟨b6, k6, u6, v6⟩ := fieldB (opensB_bool Tryz.underlying4) (hf 6 _ rfl) (by rw [hxs]; decide)
 obtain ⟨b7, k7, u7, v7⟩ := fieldB opensB_Order2 (hf 7 _ rfl) (by rw [hxs]; decide)
 obtain ⟨b8, k8, u8, v8⟩ := fieldB opensB_Sheet6 (hf 8 _ rfl) (by rw [hxs]; decide)
 obtain ⟨b9, k9, u9, v9⟩ := fieldB opensB_Bar5 (hf 9 _ rfl) (by rw [hxs]; decide)
 obtain ⟨b10, k10, u10, v10⟩ := fieldB opensB_Nest3 (hf 10 _ rfl) (by rw [hxs]; decide)
 obtain ⟨b11, k11, u11, v11⟩ := fieldB opensB_Saw3 (hf 11 _ rfl) (by rw [hxs]; decide)
 obtain ⟨b12, k12, u12, v12⟩ := fieldB opensB_Weig (hf 12 _ rfl) (by rw [hxs]; decide)
 obtain ⟨b13, k13, u13, v13⟩ := fieldB opensB_Lift2 (hf 13 _ rfl) (by rw [hxs]; decide)
 obtain ⟨b14, k14, u14, v14⟩ := fieldB opensB_Permit3 (hf 14 _ rfl) (by rw [hxs]; decide)
 have hb := BK.agg (u0.next (u1.next (u2.next (u3.next (u4.next (u5.next (u6.next (u7.next (u8.next (u9.next (u10.next (u11.next (u12.next (u13.next (u14.next (BK.done))))))))))))))))
 refine ⟨⟨b0, b1, b2, b3, b4, b5, b6, b7, b8, b9, b10, b11, b12, b13, b14⟩, ⟨k0, k1, k2, k3, k4, k5, k6, k7, k8, k9, k10, k11, k12, k13, k14⟩, hb, v0.next (v1.next (v2.next (v3.next (v4.next (v5.next (v6.next (v7.next (v8.next (v9.next (v10.next (v11.next (v12.next (v13.next (v14.next (VRC.done (n := 40) (hlen.trans hc))))))))))))))))⟩
end Go.Proofs.YtegjnjmimfgijaaGreatDoor

noncomputable section
namespace Go.Proofs.YtegjnjmimfgijaaGreatDoor
open Go Go.RowKit
set_option maxRecDepth 100000
set_option maxHeartbeats 8000000
theorem volL_le (l : List ByteArray) : volL l + 1 ≤ Vol.vol l := by
 show _ ≤ 1 + (l.map Vol.vol).sum
 unfold volL
 induction l with
 | nil => simp
 | cons a l ih =>
  have : Vol.vol a = 1 + a.size := rfl
  simp only [List.map_cons, List.sum_cons]
  omega
theorem volE_le (x : Edit) : volE x ≤ Vol.vol x := by
 have h1 := volL_le x.pack.parts
 have h2 := volL_le x.pack.after
 have v : ∀ s : ByteArray, Vol.vol s = 1 + s.size := fun _ => rfl
 have e : Vol.vol x = 1 + (Vol.vol x.kind + (Vol.vol x.id + (Vol.vol x.to + (Vol.vol x.node + (Vol.vol x.part + (Vol.vol x.seam + (Vol.vol x.pack + (Vol.vol x.need + 0)))))))) := rfl
 have e1 : Vol.vol x.node = 1 + (Vol.vol x.node.id + (Vol.vol x.node.kind + (Vol.vol x.node.parent + 0))) := rfl
 have e2 : Vol.vol x.seam = 1 + (Vol.vol x.seam.id + (Vol.vol x.seam.a + (Vol.vol x.seam.b + (Vol.vol x.seam.kind + (Vol.vol x.seam.long + (Vol.vol x.seam.cls + 0)))))) := rfl
 have e3 : Vol.vol x.pack = 1 + (Vol.vol x.pack.id + (Vol.vol x.pack.block + (Vol.vol x.pack.parts + (Vol.vol x.pack.hours + (Vol.vol x.pack.after + 0))))) := rfl
 have e4 : Vol.vol x.need = 1 + (Vol.vol x.need.kind + (Vol.vol x.need.block + (Vol.vol x.need.on + 0))) := rfl
 have e5 : volP x.part ≤ Vol.vol x.part := by
  have f : Vol.vol x.part = 1 + (Vol.vol x.part.id + (Vol.vol x.part.rev + (Vol.vol x.part.kind + (Vol.vol x.part.node + (Vol.vol x.part.grade + (Vol.vol x.part.thick + (Vol.vol x.part.outer + (Vol.vol x.part.holes + (Vol.vol x.part.sect + (Vol.vol x.part.long + (Vol.vol x.part.mass + (Vol.vol x.part.centre + (Vol.vol x.part.at_ + (Vol.vol x.part.turn + 0)))))))))))))) := rfl
  have := v x.part.id; have := v x.part.node; have := v x.part.grade; have := v x.part.sect
  unfold volP
  omega
 have := v x.id; have := v x.to; have := v x.node.id; have := v x.node.parent; have := v x.seam.id; have := v x.seam.a; have := v x.seam.b; have := v x.pack.id; have := v x.pack.block; have := v x.need.block; have := v x.need.on
 unfold volE
 omega
theorem volO_le (o : Order2) : volO o ≤ Vol.vol o := by
 have e : Vol.vol o = 1 + (Vol.vol o.id + (Vol.vol o.edits + 0)) := rfl
 have v : Vol.vol o.id = 1 + o.id.size := rfl
 have h : vol2 o.edits ≤ Vol.vol o.edits := by
  show _ ≤ 1 + (o.edits.map Vol.vol).sum
  unfold vol2
  generalize o.edits = l
  induction l with
  | nil => simp
  | cons a l ih =>
   have := volE_le a
   simp only [List.map_cons, List.sum_cons]
   omega
 unfold volO
 omega
theorem vol_order (x : Event) : Vol.vol x.order ≤ Vol.vol x := by
 have e : Vol.vol x = 1 + (Vol.vol x.kind + (Vol.vol x.at_ + (Vol.vol x.item + (Vol.vol x.of_ + (Vol.vol x.by_ + (Vol.vol x.n + (Vol.vol x.pass + (Vol.vol x.order + (Vol.vol x.sheet + (Vol.vol x.bar + (Vol.vol x.nest + (Vol.vol x.saw + (Vol.vol x.weig + (Vol.vol x.lift + (Vol.vol x.permit + 0))))))))))))))) := rfl
 omega
theorem in_order {o : Order2} (h : okOrder2 o) : InOrder o := ⟨fun x hx => by
 obtain ⟨h1, _, _, h4, h5, h6, h7, h8⟩ := h.2.2 x hx
 exact ⟨h1, h4.2.1, h5, h6.2.2.2.1, h6.2.2.2.2.1, h6.2.2.2.2.2, h7.2.2.2.1, h8.1⟩⟩
structure GoodEv (x : Event) : Prop where
 ok : okEvent x
 vol : Vol.vol x ≤ 1048576
theorem GoodEv.inO {x : Event} (h : GoodEv x) : InOrder x.order := in_order h.ok.2.2.2.2.2.2.2.1
theorem few_fewO {x : Event} {m : Int} (h : GoodEv x) (f : few59 x m) (hm : m ≤ 1000) : FewO x.order := by
 obtain ⟨⟨_, f2, f3⟩, _⟩ := f
 refine ⟨?_, by omega, fun e he => ?_⟩
 ·exact Nat.le_trans (volO_le x.order) (Nat.le_trans (vol_order x) (Nat.le_trans h.vol (by decide)))
 ·obtain ⟨g1, g2, g3, g4, g5⟩ := f3 e he
  exact ⟨by omega, by omega, by omega, by omega, fun l hl => by have := g5 l hl; omega⟩
theorem few_shortEv {x : Event} {m : Int} (f : few59 x m) (hm : m ≤ 1000) : ShortEv x := by
 obtain ⟨⟨_, f2, f3⟩, f4, f5, f6, f7⟩ := f
 refine ⟨⟨by omega, fun e he => ?_⟩, ?_, ?_, ?_, ?_⟩
 ·obtain ⟨g1, g2, g3, g4, g5⟩ := f3 e he
  exact ⟨⟨by show _ < _; omega, by show _ < _; omega, fun l hl => by have := g5 l hl; show _ < _; omega⟩, by show _ < _; omega, by show _ < _; omega⟩
 all_goals show _ < _; omega
theorem pIfD {P : Prop} [Decidable P] {X Y : Prop} (h1 : P → X) (h2 : ¬ P → Y) : pIf (decide P) X Y := pIf_intro (fun h => h1 (of_decide_eq_true h)) (fun h => h2 (of_decide_eq_false h))
theorem pIfN {P : Prop} [Decidable P] {X Y : Prop} (h1 : ¬ P → X) (h2 : P → Y) : pIf (!decide P) X Y := pIf_intro (fun h => h1 (by simpa using h)) (fun h => h2 (by simpa using h))
theorem any_take {α : Type} {l : List α} {f : α → Bool} {k : Nat} (h : k < l.length) : (l.take (k + 1)).any f = ((l.take k).any f || f l[k]) := by
 rw [List.take_succ_eq_append_getElem h, List.any_append]
 simp
abbrev ptr2 : Value := .pointer (some ⟨2, 0, none⟩)
abbrev ptr1 : Value := .pointer (some ⟨1, 0, none⟩)
def tabRd : List IEnt := [⟨78, k_I⟩, ⟨147, k_T⟩, ⟨146, k_L⟩, ⟨145, k_B⟩]
def nextR : PCall := ofV (itabCall tabRd noCall)
def inlR : List FuncId := [47, 48, 49, 50, 51, 141, 142, 63, 144, 79, 80]
def callR : PCall := inlP Tryz.prog inlR nextR 5
abbrev argsR : List Value := [ptr0, .iface 88 ptr1]
abbrev nilS : Value := .slice none 0 0
abbrev cells0 (k a : Int) : List Value := [.int .i64 k, .int .i64 a, .string ⟨#[]⟩, .string ⟨#[]⟩, .string ⟨#[]⟩, .int .i64 0, .bool false, .string ⟨#[]⟩, nilS, .string ⟨#[]⟩, .string ⟨#[]⟩, .int .i64 0, .int .i64 0, .int .i64 0, .string ⟨#[]⟩, .string ⟨#[]⟩, .string ⟨#[]⟩, .string ⟨#[]⟩, .int .i64 0, .string ⟨#[]⟩, .string ⟨#[]⟩, .int .i64 0, nilS, .string ⟨#[]⟩, .int .i64 0, nilS, .string ⟨#[]⟩, .int .i64 0, .int .i64 0, .int .i64 0, .int .i64 0, .int .i64 0, .int .i64 0, nilS, .string ⟨#[]⟩, nilS, .string ⟨#[]⟩, .int .i64 0, .int .i64 0, .int .i64 0]
theorem e_rd (k a w : Int) (s : ByteArray) (H : HT) (Post : PX) : vcX Tryz.prog callR 22 [(19, [0, 1, 132, 133]), (31, [0, 1, 203, 204]), (55, [0, 1, 330, 331])] [cells0 k a, [ptr2, .int .i64 w], [.string s, .int .i64 0]] argsR H Post = (let pP := fun (c : List Value) (r : ByteArray) (e : Nat) => Post (Out.pan (Value.iface 50 (vi (Int.ofNat (e + 1))))) [c, [pt 2, vi w], [vs r, vi (Int.ofNat (e + 1))]]; let t37 := [vi 0, vi 0, vi 0]; let t36 := vz :: t37; let t35 := nS :: t36; let t33 := nS :: vz :: t35; let t32 := vi 0 :: t33; let t31 := vi 0 :: t32; let t30 := vi 0 :: t31; let t29 := vi 0 :: t30; let t27 := vi 0 :: vi 0 :: t29; let t26 := vz :: t27; let t25 := nS :: t26; let t24 := vi 0 :: t25; let t23 := vz :: t24; let t22 := nS :: t23; let t21 := vi 0 :: t22; let t20 := vz :: t21; let t19 := vz :: t20; let t18 := vi 0 :: t19; let t17 := vz :: t18; let t16 := vz :: t17; let t15 := vz :: t16; let t14 := vz :: t15; let t13 := vi 0 :: t14; let t12 := vi 0 :: t13; let t11 := vi 0 :: t12; let t10 := vz :: t11; let t7 := vz :: nS :: vz :: t10; let t6 := vb false :: t7; let t5 := vi 0 :: t6; let t4 := vz :: t5; let h2 := fun (t : List Value) => vi k :: vi a :: t; let h9 := fun (t : List Value) => h2 (vz :: vz :: vz :: vi 0 :: vb false :: vz :: nS :: t); let h15 := fun (t : List Value) => h9 (vz :: vz :: vi 0 :: vi 0 :: vi 0 :: vz :: t); let h20 := fun (t : List Value) => h15 (vz :: vz :: vz :: vi 0 :: vz :: t); let h23 := fun (t : List Value) => h20 (vz :: vi 0 :: nS :: t); let h26 := fun (t : List Value) => h23 (vz :: vi 0 :: nS :: t); let h34 := fun (t : List Value) => h26 (vz :: vi 0 :: vi 0 :: vi 0 :: vi 0 :: vi 0 :: vi 0 :: nS :: t); let h36 := fun (t : List Value) => h34 (vz :: nS :: t); let q12 := (toI (vi 0) ≤ 0 ∧ toI (vi 0) < (↑1 : Int)); let q6 := IntKind.wrap IntKind.i64 (0 + 1) + 1; let q11 := IntKind.wrap IntKind.i64 q6 + 1; let q10 := vi (IntKind.wrap IntKind.i64 (0 + 1)); let q9 := (1, some (Value.iface 88 (pt 1))); let q8 := (toI (vi 0) ≤ 0 ∧ toI (vi 0) < (↑3 : Int)); let q7 := (1, some (AObj.cells [pt 2, vi w] true)); let q5 := Out.ret (Value.tuple #[]); let q4 := (toI (vi 0) ≤ IntKind.wrap IntKind.i64 (0 + 1) ∧ toI q10 < (↑3 : Int)); let q3 := (toI (vi 0) ≤ IntKind.wrap IntKind.i64 q6 ∧ toI (vi (IntKind.wrap IntKind.i64 q6)) < (↑3 : Int)); let q2 := (T32 (T8 (True))) ∧ (T2 (True)) ∧ (T2 (True)) ∧ True; let q1 := [vi k, vi a, vz, vz, vz, vi 0, vb false, vz, nS, vz, vz, vi 0, vi 0, vi 0, vz, vz, vz, vz, vi 0, vz, vz, vi 0, nS, vz, vi 0, nS, vz, vi 0, vi 0, vi 0, vi 0, vi 0, vi 0, nS, vz, nS, vz, vi 0, vi 0, vi 0]; True ∧ True ∧ True ∧ True ∧ True ∧ pIf (decide (k = 1)) (T8 (False)) (True ∧ True ∧ pIf (decide (k = 2)) (T16 (True ∧ (toI (vi 0) ≤ 0 ∧ toI (vi 0) < (↑2 : Int)) ∧ T8 (True ∧ true = true ∧ s.size < 4611686018427387904 ∧ 64 < 4611686018427387904 ∧ (∀ (v r : ByteArray), rsT 64 s = Rs.ok v r → 1 = 1 ∧ True ∧ 10 ≤ 40 ∧ T16 (T4 ((toI (vi 0) ≤ IntKind.wrap IntKind.i64 (0 + 1) ∧ toI q10 < (↑2 : Int)) ∧ T8 (True ∧ true = true ∧ r.size < 4611686018427387904 ∧ 64 < 4611686018427387904 ∧ (∀ (v_1 r_1 : ByteArray), rsT 64 r = Rs.ok v_1 r_1 → 1 = 1 ∧ True ∧ 11 ≤ 40 ∧ T32 (T4 (q8 ∧ T8 (T2 (True ∧ true = true ∧ r_1.size < 4611686018427387904 ∧ (∀ (v_2 : Int) (r : ByteArray), rsI (-1099511627776) 1099511627776 r_1 = Rs.ok v_2 r → 1 = 1 ∧ True ∧ 12 ≤ 40 ∧ T16 (T4 (q4 ∧ T8 (T2 (True ∧ true = true ∧ r.size < 4611686018427387904 ∧ (∀ (v_3 : Int) (r_2 : ByteArray), rsI (-1099511627776) 1099511627776 r = Rs.ok v_3 r_2 → 1 = 1 ∧ True ∧ 13 ≤ 40 ∧ T16 (T4 (q3 ∧ T8 (T2 (True ∧ true = true ∧ r_2.size < 4611686018427387904 ∧ (∀ (v_4 : Int) (r : ByteArray), rsI (-1099511627776) 1099511627776 r_2 = Rs.ok v_4 r → 1 = 1 ∧ True ∧ 14 ≤ 40 ∧ T32 (True ∧ true = true ∧ r.size < 4611686018427387904 ∧ 64 < 4611686018427387904 ∧ (∀ (v_5 r_3 : ByteArray), rsT 64 r = Rs.ok v_5 r_3 → 1 = 1 ∧ True ∧ 15 ≤ 40 ∧ T16 (T2 ((q2 ∧ True) ∧ true = true ∧ Post q5 [(h9 (vs v :: vs v_1 :: vi v_2 :: vi v_3 :: vi v_4 :: vs v_5 :: t15)), [pt 2, vi w], [vs r_3, vi 0]]))) ∧ ∀ (e : Nat), rsT 64 r = Rs.err e → 1 = 1 ∧ True ∧ 15 ≤ 40 ∧ T16 (T2 (True ∧ q2 ∧ true = true ∧ pP (h9 (vs v :: vs v_1 :: vi v_2 :: vi v_3 :: vi v_4 :: t14)) r e)))) ∧ ∀ (e : Nat), rsI (-1099511627776) 1099511627776 r_2 = Rs.err e → 1 = 1 ∧ True ∧ 14 ≤ 40 ∧ T16 (T2 (True ∧ q2 ∧ true = true ∧ pP (h9 (vs v :: vs v_1 :: vi v_2 :: vi v_3 :: t13)) r_2 e))))))) ∧ ∀ (e : Nat), rsI (-1099511627776) 1099511627776 r = Rs.err e → 1 = 1 ∧ True ∧ 13 ≤ 40 ∧ T16 (T2 (True ∧ q2 ∧ true = true ∧ pP (h9 (vs v :: vs v_1 :: vi v_2 :: t12)) r e))))))) ∧ ∀ (e : Nat), rsI (-1099511627776) 1099511627776 r_1 = Rs.err e → 1 = 1 ∧ True ∧ 12 ≤ 40 ∧ T16 (T2 (True ∧ q2 ∧ true = true ∧ pP (h9 (vs v :: vs v_1 :: t11)) r_1 e))))))) ∧ ∀ (e : Nat), rsT 64 r = Rs.err e → 1 = 1 ∧ True ∧ 11 ≤ 40 ∧ T16 (T2 (True ∧ q2 ∧ true = true ∧ pP (h9 (vs v :: t10)) r e)))))) ∧ ∀ (e : Nat), rsT 64 s = Rs.err e → 1 = 1 ∧ True ∧ 10 ≤ 40 ∧ T16 (T2 (True ∧ q2 ∧ true = true ∧ pP q1 s e))))) (True ∧ True ∧ pIf (decide (k = 3)) (T16 (T2 (True ∧ q8 ∧ T8 (True ∧ true = true ∧ s.size < 4611686018427387904 ∧ 64 < 4611686018427387904 ∧ (∀ (v r : ByteArray), rsT 64 s = Rs.ok v r → 1 = 1 ∧ True ∧ 16 ≤ 40 ∧ T16 (T4 (q4 ∧ T8 (True ∧ true = true ∧ r.size < 4611686018427387904 ∧ 64 < 4611686018427387904 ∧ (∀ (v_1 r_1 : ByteArray), rsT 64 r = Rs.ok v_1 r_1 → 1 = 1 ∧ True ∧ 17 ≤ 40 ∧ T16 (T4 (q3 ∧ T8 (True ∧ true = true ∧ r_1.size < 4611686018427387904 ∧ 64 < 4611686018427387904 ∧ (∀ (v_2 r : ByteArray), rsT 64 r_1 = Rs.ok v_2 r → 1 = 1 ∧ True ∧ 18 ≤ 40 ∧ T16 (T8 (T4 (T2 (True ∧ q12 ∧ T8 (T2 (True ∧ true = true ∧ r.size < 4611686018427387904 ∧ (∀ (v_3 : Int) (r_2 : ByteArray), rsI (-1099511627776) 1099511627776 r = Rs.ok v_3 r_2 → 1 = 1 ∧ True ∧ 19 ≤ 40 ∧ T32 (True ∧ true = true ∧ r_2.size < 4611686018427387904 ∧ 64 < 4611686018427387904 ∧ (∀ (v_4 r : ByteArray), rsT 64 r_2 = Rs.ok v_4 r → 1 = 1 ∧ True ∧ 20 ≤ 40 ∧ T16 (T2 ((q2 ∧ True) ∧ true = true ∧ Post q5 [(h15 (vs v :: vs v_1 :: vs v_2 :: vi v_3 :: vs v_4 :: t20)), [pt 2, vi w], [vs r, vi 0]]))) ∧ ∀ (e : Nat), rsT 64 r_2 = Rs.err e → 1 = 1 ∧ True ∧ 20 ≤ 40 ∧ T16 (T2 (True ∧ q2 ∧ true = true ∧ pP (h15 (vs v :: vs v_1 :: vs v_2 :: vi v_3 :: t19)) r_2 e)))) ∧ ∀ (e : Nat), rsI (-1099511627776) 1099511627776 r = Rs.err e → 1 = 1 ∧ True ∧ 19 ≤ 40 ∧ T16 (T2 (True ∧ q2 ∧ true = true ∧ pP (h15 (vs v :: vs v_1 :: vs v_2 :: t18)) r e))))))))) ∧ ∀ (e : Nat), rsT 64 r_1 = Rs.err e → 1 = 1 ∧ True ∧ 18 ≤ 40 ∧ T16 (T2 (True ∧ q2 ∧ true = true ∧ pP (h15 (vs v :: vs v_1 :: t17)) r_1 e)))))) ∧ ∀ (e : Nat), rsT 64 r = Rs.err e → 1 = 1 ∧ True ∧ 17 ≤ 40 ∧ T16 (T2 (True ∧ q2 ∧ true = true ∧ pP (h15 (vs v :: t16)) r e)))))) ∧ ∀ (e : Nat), rsT 64 s = Rs.err e → 1 = 1 ∧ True ∧ 16 ≤ 40 ∧ T16 (T2 (True ∧ q2 ∧ true = true ∧ pP q1 s e)))))) (True ∧ True ∧ pIf (decide (k = 4)) (T8 (T4 (True ∧ (toI (vi 0) ≤ 0 ∧ toI (vi 0) < (↑2 : Int)) ∧ T8 (True ∧ true = true ∧ s.size < 4611686018427387904 ∧ 64 < 4611686018427387904 ∧ (∀ (v r : ByteArray), rsT 64 s = Rs.ok v r → 1 = 1 ∧ True ∧ 3 ≤ 40 ∧ T16 (T4 ((toI (vi 0) ≤ IntKind.wrap IntKind.i64 (0 + 1) ∧ toI q10 < (↑2 : Int)) ∧ T8 (True ∧ true = true ∧ r.size < 4611686018427387904 ∧ 64 < 4611686018427387904 ∧ (∀ (v_1 r_1 : ByteArray), rsT 64 r = Rs.ok v_1 r_1 → 1 = 1 ∧ True ∧ 5 ≤ 40 ∧ T16 (T4 (True ∧ (q2 ∧ True) ∧ true = true ∧ Post q5 [(h2 (vs v :: vz :: vs v_1 :: t5)), [pt 2, vi w], [vs r_1, vi 0]]))) ∧ ∀ (e : Nat), rsT 64 r = Rs.err e → 1 = 1 ∧ True ∧ 5 ≤ 40 ∧ T16 (T2 (True ∧ q2 ∧ true = true ∧ pP [vi k, vi a, vs v, vz, vz, vi 0, vb false, vz, nS, vz, vz, vi 0, vi 0, vi 0, vz, vz, vz, vz, vi 0, vz, vz, vi 0, nS, vz, vi 0, nS, vz, vi 0, vi 0, vi 0, vi 0, vi 0, vi 0, nS, vz, nS, vz, vi 0, vi 0, vi 0] r e)))))) ∧ ∀ (e : Nat), rsT 64 s = Rs.err e → 1 = 1 ∧ True ∧ 3 ≤ 40 ∧ T16 (T2 (True ∧ q2 ∧ true = true ∧ pP q1 s e)))))) (True ∧ True ∧ pIf (decide (k = 5)) (T8 (T4 (T2 (true = true ∧ s.size < 4611686018427387904 ∧ 64 < 4611686018427387904 ∧ (∀ (v r : ByteArray), rsT 64 s = Rs.ok v r → 1 = 1 ∧ True ∧ 21 ≤ 40 ∧ T16 (T8 (T4 (q12 ∧ T8 (T2 (True ∧ true = true ∧ r.size < 4611686018427387904 ∧ (∀ (v_1 : Int) (r_1 : ByteArray), rsI (-1099511627776) 1099511627776 r = Rs.ok v_1 r_1 → 1 = 1 ∧ True ∧ 22 ≤ 40 ∧ T32 (T8 (true = true ∧ r_1.size < 4611686018427387904 ∧ 32 < 4611686018427387904 ∧ (∀ (v_2 : Nat) (r : ByteArray), rsL 32 r_1 = Rs.ok v_2 r → 1 = 1 ∧ T16 (T8 (T4 (pIf (!decide (Int.ofNat v_2 = (↑0 : Int))) (T2 ((0 ≤ Int.ofNat v_2 ∧ Int.ofNat v_2 ≤ Int.ofNat v_2 ∧ Int.ofNat v_2 ≤ 2 ^ 25) ∧ True ∧ 23 ≤ 40 ∧ T8 ((T2 (True ∧ NLs (zrow (Int.toNat (Int.ofNat v_2)) [vz, vi 0, vi 0, vi 0, vb false]) ∧ True)) ∧ H (lpC Tryz.prog 22 19) (lpK Tryz.prog 22 19) (stV [(0, some (pt 0)), q9, (132, some (vi (↑(Int.toNat (Int.ofNat v_2)) : Int))), (133, some (vi 0))] [(0, some (AObj.cells (h20 (vs v :: vi v_1 :: Value.slice (some (Addr.mk 3 0 none)) (Int.toNat (Int.ofNat v_2)) 5 :: t23)) true)), q7, (2, some (AObj.cells [vs r, vi 0] true)), (3, some (AObj.cells (zrow (Int.toNat (Int.ofNat v_2)) [vz, vi 0, vi 0, vi 0, vb false]) true))] 4)))) (T8 ((T2 (True ∧ True)) ∧ H (lpC Tryz.prog 22 19) (lpK Tryz.prog 22 19) (stV [(0, some (pt 0)), q9, (132, some (vi (↑0 : Int))), (133, some (vi 0))] [(0, some (AObj.cells (h20 (vs v :: vi v_1 :: t22)) true)), q7, (2, some (AObj.cells [vs r, vi 0] true))] 3))))))) ∧ ∀ (e : Nat), rsL 32 r_1 = Rs.err e → 1 = 1 ∧ T16 (T4 (q2 ∧ true = true ∧ pP (h20 (vs v :: vi v_1 :: t22)) r_1 e))))) ∧ ∀ (e : Nat), rsI (-1099511627776) 1099511627776 r = Rs.err e → 1 = 1 ∧ True ∧ 22 ≤ 40 ∧ T16 (T2 (True ∧ q2 ∧ true = true ∧ pP (h20 (vs v :: t21)) r e)))))))) ∧ ∀ (e : Nat), rsT 64 s = Rs.err e → 1 = 1 ∧ True ∧ 21 ≤ 40 ∧ T16 (T2 (True ∧ q2 ∧ true = true ∧ pP q1 s e)))))) (T2 (pIf (decide (k = 6)) (T8 (T4 (T2 (true = true ∧ s.size < 4611686018427387904 ∧ 64 < 4611686018427387904 ∧ (∀ (v r : ByteArray), rsT 64 s = Rs.ok v r → 1 = 1 ∧ True ∧ 24 ≤ 40 ∧ T16 (T8 (T4 (q12 ∧ T8 (T2 (True ∧ true = true ∧ r.size < 4611686018427387904 ∧ (∀ (v_1 : Int) (r_1 : ByteArray), rsI (-1099511627776) 1099511627776 r = Rs.ok v_1 r_1 → 1 = 1 ∧ True ∧ 25 ≤ 40 ∧ T32 (T8 (true = true ∧ r_1.size < 4611686018427387904 ∧ 24 < 4611686018427387904 ∧ (∀ (v_2 : Nat) (r : ByteArray), rsL 24 r_1 = Rs.ok v_2 r → 1 = 1 ∧ T16 (T8 (T4 (pIf (!decide (Int.ofNat v_2 = (↑0 : Int))) (T2 ((0 ≤ Int.ofNat v_2 ∧ Int.ofNat v_2 ≤ Int.ofNat v_2 ∧ Int.ofNat v_2 ≤ 2 ^ 25) ∧ True ∧ 26 ≤ 40 ∧ T8 ((T2 (True ∧ NLs (zrow (Int.toNat (Int.ofNat v_2)) [vz]) ∧ True)) ∧ H (lpC Tryz.prog 22 31) (lpK Tryz.prog 22 31) (stV [(0, some (pt 0)), q9, (203, some (vi (↑(Int.toNat (Int.ofNat v_2)) : Int))), (204, some (vi 0))] [(0, some (AObj.cells (h23 (vs v :: vi v_1 :: Value.slice (some (Addr.mk 3 0 none)) (Int.toNat (Int.ofNat v_2)) 1 :: t26)) true)), q7, (2, some (AObj.cells [vs r, vi 0] true)), (3, some (AObj.cells (zrow (Int.toNat (Int.ofNat v_2)) [vz]) true))] 4)))) (T8 ((T2 (True ∧ True)) ∧ H (lpC Tryz.prog 22 31) (lpK Tryz.prog 22 31) (stV [(0, some (pt 0)), q9, (203, some (vi (↑0 : Int))), (204, some (vi 0))] [(0, some (AObj.cells (h23 (vs v :: vi v_1 :: t25)) true)), q7, (2, some (AObj.cells [vs r, vi 0] true))] 3))))))) ∧ ∀ (e : Nat), rsL 24 r_1 = Rs.err e → 1 = 1 ∧ T16 (T4 (q2 ∧ true = true ∧ pP (h23 (vs v :: vi v_1 :: t25)) r_1 e))))) ∧ ∀ (e : Nat), rsI (-1099511627776) 1099511627776 r = Rs.err e → 1 = 1 ∧ True ∧ 25 ≤ 40 ∧ T16 (T2 (True ∧ q2 ∧ true = true ∧ pP (h23 (vs v :: t24)) r e)))))))) ∧ ∀ (e : Nat), rsT 64 s = Rs.err e → 1 = 1 ∧ True ∧ 24 ≤ 40 ∧ T16 (T2 (True ∧ q2 ∧ true = true ∧ pP q1 s e)))))) (T2 (pIf (decide (k = 7)) (T8 (T4 (True ∧ true = true ∧ s.size < 4611686018427387904 ∧ 64 < 4611686018427387904 ∧ (∀ (v r : ByteArray), rsT 64 s = Rs.ok v r → 1 = 1 ∧ True ∧ 3 ≤ 40 ∧ T16 (T2 ((q2 ∧ True) ∧ true = true ∧ Post q5 [[vi k, vi a, vs v, vz, vz, vi 0, vb false, vz, nS, vz, vz, vi 0, vi 0, vi 0, vz, vz, vz, vz, vi 0, vz, vz, vi 0, nS, vz, vi 0, nS, vz, vi 0, vi 0, vi 0, vi 0, vi 0, vi 0, nS, vz, nS, vz, vi 0, vi 0, vi 0], [pt 2, vi w], [vs r, vi 0]]))) ∧ ∀ (e : Nat), rsT 64 s = Rs.err e → 1 = 1 ∧ True ∧ 3 ≤ 40 ∧ T16 (T2 (True ∧ q2 ∧ true = true ∧ pP q1 s e))))) (T2 (pIf (decide (k = 8)) (T8 (T4 (True ∧ true = true ∧ s.size < 4611686018427387904 ∧ 64 < 4611686018427387904 ∧ (∀ (v r : ByteArray), rsT 64 s = Rs.ok v r → 1 = 1 ∧ True ∧ 3 ≤ 40 ∧ T16 (T2 ((q2 ∧ True) ∧ true = true ∧ Post q5 [[vi k, vi a, vs v, vz, vz, vi 0, vb false, vz, nS, vz, vz, vi 0, vi 0, vi 0, vz, vz, vz, vz, vi 0, vz, vz, vi 0, nS, vz, vi 0, nS, vz, vi 0, vi 0, vi 0, vi 0, vi 0, vi 0, nS, vz, nS, vz, vi 0, vi 0, vi 0], [pt 2, vi w], [vs r, vi 0]]))) ∧ ∀ (e : Nat), rsT 64 s = Rs.err e → 1 = 1 ∧ True ∧ 3 ≤ 40 ∧ T16 (T2 (True ∧ q2 ∧ true = true ∧ pP q1 s e))))) (T2 (pIf (decide (k = 12)) (T8 (T4 (True ∧ true = true ∧ s.size < 4611686018427387904 ∧ 64 < 4611686018427387904 ∧ (∀ (v r : ByteArray), rsT 64 s = Rs.ok v r → 1 = 1 ∧ True ∧ 3 ≤ 40 ∧ T16 (T2 ((q2 ∧ True) ∧ true = true ∧ Post q5 [[vi k, vi a, vs v, vz, vz, vi 0, vb false, vz, nS, vz, vz, vi 0, vi 0, vi 0, vz, vz, vz, vz, vi 0, vz, vz, vi 0, nS, vz, vi 0, nS, vz, vi 0, vi 0, vi 0, vi 0, vi 0, vi 0, nS, vz, nS, vz, vi 0, vi 0, vi 0], [pt 2, vi w], [vs r, vi 0]]))) ∧ ∀ (e : Nat), rsT 64 s = Rs.err e → 1 = 1 ∧ True ∧ 3 ≤ 40 ∧ T16 (T2 (True ∧ q2 ∧ true = true ∧ pP q1 s e))))) (T2 (pIf (decide (k = 16)) (T8 (T4 (True ∧ true = true ∧ s.size < 4611686018427387904 ∧ 64 < 4611686018427387904 ∧ (∀ (v r : ByteArray), rsT 64 s = Rs.ok v r → 1 = 1 ∧ True ∧ 3 ≤ 40 ∧ T16 (T2 ((q2 ∧ True) ∧ true = true ∧ Post q5 [[vi k, vi a, vs v, vz, vz, vi 0, vb false, vz, nS, vz, vz, vi 0, vi 0, vi 0, vz, vz, vz, vz, vi 0, vz, vz, vi 0, nS, vz, vi 0, nS, vz, vi 0, vi 0, vi 0, vi 0, vi 0, vi 0, nS, vz, nS, vz, vi 0, vi 0, vi 0], [pt 2, vi w], [vs r, vi 0]]))) ∧ ∀ (e : Nat), rsT 64 s = Rs.err e → 1 = 1 ∧ True ∧ 3 ≤ 40 ∧ T16 (T2 (True ∧ q2 ∧ true = true ∧ pP q1 s e))))) (T2 (pIf (decide (k = 9)) (T16 (q8 ∧ T8 (True ∧ true = true ∧ s.size < 4611686018427387904 ∧ 64 < 4611686018427387904 ∧ (∀ (v r : ByteArray), rsT 64 s = Rs.ok v r → 1 = 1 ∧ True ∧ 3 ≤ 40 ∧ T16 (T4 (q4 ∧ T8 (True ∧ true = true ∧ r.size < 4611686018427387904 ∧ 64 < 4611686018427387904 ∧ (∀ (v_1 r_1 : ByteArray), rsT 64 r = Rs.ok v_1 r_1 → 1 = 1 ∧ True ∧ 4 ≤ 40 ∧ T16 (T4 (q3 ∧ T8 (True ∧ true = true ∧ r_1.size < 4611686018427387904 ∧ 64 < 4611686018427387904 ∧ (∀ (v_2 r : ByteArray), rsT 64 r_1 = Rs.ok v_2 r → 1 = 1 ∧ True ∧ 5 ≤ 40 ∧ T16 (T4 (True ∧ (q2 ∧ True) ∧ true = true ∧ Post q5 [(h2 (vs v :: vs v_1 :: vs v_2 :: t5)), [pt 2, vi w], [vs r, vi 0]]))) ∧ ∀ (e : Nat), rsT 64 r_1 = Rs.err e → 1 = 1 ∧ True ∧ 5 ≤ 40 ∧ T16 (T2 (True ∧ q2 ∧ true = true ∧ pP (h2 (vs v :: vs v_1 :: t4)) r_1 e)))))) ∧ ∀ (e : Nat), rsT 64 r = Rs.err e → 1 = 1 ∧ True ∧ 4 ≤ 40 ∧ T16 (T2 (True ∧ q2 ∧ true = true ∧ pP [vi k, vi a, vs v, vz, vz, vi 0, vb false, vz, nS, vz, vz, vi 0, vi 0, vi 0, vz, vz, vz, vz, vi 0, vz, vz, vi 0, nS, vz, vi 0, nS, vz, vi 0, vi 0, vi 0, vi 0, vi 0, vi 0, nS, vz, nS, vz, vi 0, vi 0, vi 0] r e)))))) ∧ ∀ (e : Nat), rsT 64 s = Rs.err e → 1 = 1 ∧ True ∧ 3 ≤ 40 ∧ T16 (T2 (True ∧ q2 ∧ true = true ∧ pP q1 s e))))) (T2 (pIf (decide (k = 11)) (T16 (q8 ∧ T8 (True ∧ true = true ∧ s.size < 4611686018427387904 ∧ 64 < 4611686018427387904 ∧ (∀ (v r : ByteArray), rsT 64 s = Rs.ok v r → 1 = 1 ∧ True ∧ 3 ≤ 40 ∧ T16 (T4 (q4 ∧ T8 (True ∧ true = true ∧ r.size < 4611686018427387904 ∧ 64 < 4611686018427387904 ∧ (∀ (v_1 r_1 : ByteArray), rsT 64 r = Rs.ok v_1 r_1 → 1 = 1 ∧ True ∧ 4 ≤ 40 ∧ T16 (T4 (q3 ∧ T8 (True ∧ true = true ∧ r_1.size < 4611686018427387904 ∧ 64 < 4611686018427387904 ∧ (∀ (v_2 r : ByteArray), rsT 64 r_1 = Rs.ok v_2 r → 1 = 1 ∧ True ∧ 5 ≤ 40 ∧ T16 (T4 (True ∧ (q2 ∧ True) ∧ true = true ∧ Post q5 [(h2 (vs v :: vs v_1 :: vs v_2 :: t5)), [pt 2, vi w], [vs r, vi 0]]))) ∧ ∀ (e : Nat), rsT 64 r_1 = Rs.err e → 1 = 1 ∧ True ∧ 5 ≤ 40 ∧ T16 (T2 (True ∧ q2 ∧ true = true ∧ pP (h2 (vs v :: vs v_1 :: t4)) r_1 e)))))) ∧ ∀ (e : Nat), rsT 64 r = Rs.err e → 1 = 1 ∧ True ∧ 4 ≤ 40 ∧ T16 (T2 (True ∧ q2 ∧ true = true ∧ pP [vi k, vi a, vs v, vz, vz, vi 0, vb false, vz, nS, vz, vz, vi 0, vi 0, vi 0, vz, vz, vz, vz, vi 0, vz, vz, vi 0, nS, vz, vi 0, nS, vz, vi 0, vi 0, vi 0, vi 0, vi 0, vi 0, nS, vz, nS, vz, vi 0, vi 0, vi 0] r e)))))) ∧ ∀ (e : Nat), rsT 64 s = Rs.err e → 1 = 1 ∧ True ∧ 3 ≤ 40 ∧ T16 (T2 (True ∧ q2 ∧ true = true ∧ pP q1 s e))))) (T2 (pIf (decide (k = 10)) (T8 (T4 (True ∧ true = true ∧ s.size < 4611686018427387904 ∧ 64 < 4611686018427387904 ∧ (∀ (v r : ByteArray), rsT 64 s = Rs.ok v r → 1 = 1 ∧ True ∧ 3 ≤ 40 ∧ T32 (true = true ∧ r.size < 4611686018427387904 ∧ (∀ (v_1 : Int) (r_1 : ByteArray), rsI 1 5 r = Rs.ok v_1 r_1 → 1 = 1 ∧ True ∧ 6 ≤ 40 ∧ T16 (T8 (T4 (T2 (true = true ∧ r_1.size < 4611686018427387904 ∧ (∀ (v_2 : Bool) (r : ByteArray), rsB r_1 = Rs.ok v_2 r → 1 = 1 ∧ pIf v_2 (True ∧ 7 ≤ 40 ∧ T16 (T2 ((q2 ∧ True) ∧ true = true ∧ Post q5 [(h2 (vs v :: vz :: vz :: vi v_1 :: vb true :: t7)), [pt 2, vi w], [vs r, vi 0]]))) (True ∧ 7 ≤ 40 ∧ T16 (T2 ((q2 ∧ True) ∧ true = true ∧ Post q5 [(h2 (vs v :: vz :: vz :: vi v_1 :: t6)), [pt 2, vi w], [vs r, vi 0]])))) ∧ ∀ (e : Nat), rsB r_1 = Rs.err e → 1 = 1 ∧ True ∧ 7 ≤ 40 ∧ T16 (T2 (True ∧ q2 ∧ true = true ∧ pP (h2 (vs v :: vz :: vz :: vi v_1 :: t6)) r_1 e))))))) ∧ ∀ (e : Nat), rsI 1 5 r = Rs.err e → 1 = 1 ∧ True ∧ 6 ≤ 40 ∧ T16 (T2 (True ∧ q2 ∧ true = true ∧ pP [vi k, vi a, vs v, vz, vz, vi 0, vb false, vz, nS, vz, vz, vi 0, vi 0, vi 0, vz, vz, vz, vz, vi 0, vz, vz, vi 0, nS, vz, vi 0, nS, vz, vi 0, vi 0, vi 0, vi 0, vi 0, vi 0, nS, vz, nS, vz, vi 0, vi 0, vi 0] r e)))) ∧ ∀ (e : Nat), rsT 64 s = Rs.err e → 1 = 1 ∧ True ∧ 3 ≤ 40 ∧ T16 (T2 (True ∧ q2 ∧ true = true ∧ pP q1 s e))))) (T2 (pIf (decide (k = 13)) (T16 (True ∧ true = true ∧ s.size < 4611686018427387904 ∧ 64 < 4611686018427387904 ∧ (∀ (v r : ByteArray), rsT 64 s = Rs.ok v r → 1 = 1 ∧ True ∧ 27 ≤ 40 ∧ T32 (T8 (T2 ((toI (vi 0) ≤ 0 ∧ toI (vi 0) < (↑5 : Int)) ∧ T8 (T2 (True ∧ true = true ∧ r.size < 4611686018427387904 ∧ (∀ (v_1 : Int) (r_1 : ByteArray), rsI (-1099511627776) 1099511627776 r = Rs.ok v_1 r_1 → 1 = 1 ∧ True ∧ 29 ≤ 40 ∧ T16 (T4 ((toI (vi 0) ≤ IntKind.wrap IntKind.i64 (0 + 1) ∧ toI q10 < (↑5 : Int)) ∧ T8 (T2 (True ∧ true = true ∧ r_1.size < 4611686018427387904 ∧ (∀ (v_2 : Int) (r : ByteArray), rsI (-1099511627776) 1099511627776 r_1 = Rs.ok v_2 r → 1 = 1 ∧ True ∧ 30 ≤ 40 ∧ T16 (T4 ((toI (vi 0) ≤ IntKind.wrap IntKind.i64 q6 ∧ toI (vi (IntKind.wrap IntKind.i64 q6)) < (↑5 : Int)) ∧ T8 (T2 (True ∧ true = true ∧ r.size < 4611686018427387904 ∧ (∀ (v_3 : Int) (r_2 : ByteArray), rsI (-1099511627776) 1099511627776 r = Rs.ok v_3 r_2 → 1 = 1 ∧ True ∧ 31 ≤ 40 ∧ T16 (T4 ((toI (vi 0) ≤ IntKind.wrap IntKind.i64 q11 ∧ toI (vi (IntKind.wrap IntKind.i64 q11)) < (↑5 : Int)) ∧ T8 (T2 (True ∧ true = true ∧ r_2.size < 4611686018427387904 ∧ (∀ (v_4 : Int) (r : ByteArray), rsI (-1099511627776) 1099511627776 r_2 = Rs.ok v_4 r → 1 = 1 ∧ True ∧ 32 ≤ 40 ∧ T16 (T4 ((toI (vi 0) ≤ IntKind.wrap IntKind.i64 (IntKind.wrap IntKind.i64 q11 + 1) ∧ toI (vi (IntKind.wrap IntKind.i64 (IntKind.wrap IntKind.i64 q11 + 1))) < (↑5 : Int)) ∧ T8 (T2 (True ∧ true = true ∧ r.size < 4611686018427387904 ∧ (∀ (v_5 : Int) (r_3 : ByteArray), rsI (-1099511627776) 1099511627776 r = Rs.ok v_5 r_3 → 1 = 1 ∧ True ∧ 33 ≤ 40 ∧ T16 (T4 (True ∧ (q2 ∧ True) ∧ true = true ∧ Post q5 [(h26 (vs v :: vi 0 :: vi v_1 :: vi v_2 :: vi v_3 :: vi v_4 :: vi v_5 :: t33)), [pt 2, vi w], [vs r_3, vi 0]]))) ∧ ∀ (e : Nat), rsI (-1099511627776) 1099511627776 r = Rs.err e → 1 = 1 ∧ True ∧ 33 ≤ 40 ∧ T16 (T2 (True ∧ q2 ∧ true = true ∧ pP (h26 (vs v :: vi 0 :: vi v_1 :: vi v_2 :: vi v_3 :: vi v_4 :: t32)) r e))))))) ∧ ∀ (e : Nat), rsI (-1099511627776) 1099511627776 r_2 = Rs.err e → 1 = 1 ∧ True ∧ 32 ≤ 40 ∧ T16 (T2 (True ∧ q2 ∧ true = true ∧ pP (h26 (vs v :: vi 0 :: vi v_1 :: vi v_2 :: vi v_3 :: t31)) r_2 e))))))) ∧ ∀ (e : Nat), rsI (-1099511627776) 1099511627776 r = Rs.err e → 1 = 1 ∧ True ∧ 31 ≤ 40 ∧ T16 (T2 (True ∧ q2 ∧ true = true ∧ pP (h26 (vs v :: vi 0 :: vi v_1 :: vi v_2 :: t30)) r e))))))) ∧ ∀ (e : Nat), rsI (-1099511627776) 1099511627776 r_1 = Rs.err e → 1 = 1 ∧ True ∧ 30 ≤ 40 ∧ T16 (T2 (True ∧ q2 ∧ true = true ∧ pP (h26 (vs v :: vi 0 :: vi v_1 :: t29)) r_1 e))))))) ∧ ∀ (e : Nat), rsI (-1099511627776) 1099511627776 r = Rs.err e → 1 = 1 ∧ True ∧ 29 ≤ 40 ∧ T16 (T2 (True ∧ q2 ∧ true = true ∧ pP (h26 (vs v :: t27)) r e)))))))) ∧ ∀ (e : Nat), rsT 64 s = Rs.err e → 1 = 1 ∧ True ∧ 27 ≤ 40 ∧ T16 (T2 (True ∧ q2 ∧ true = true ∧ pP q1 s e)))) (T2 (pIf (decide (k = 14)) (T8 (T4 (T2 (true = true ∧ s.size < 4611686018427387904 ∧ 64 < 4611686018427387904 ∧ (∀ (v r : ByteArray), rsT 64 s = Rs.ok v r → 1 = 1 ∧ True ∧ 35 ≤ 40 ∧ T32 (T4 (T2 (true = true ∧ r.size < 4611686018427387904 ∧ 2 < 4611686018427387904 ∧ (∀ (v_1 : Nat) (r_1 : ByteArray), rsL 2 r = Rs.ok v_1 r_1 → 1 = 1 ∧ T16 (T8 (T4 (pIf (!decide (Int.ofNat v_1 = (↑0 : Int))) (T2 ((0 ≤ Int.ofNat v_1 ∧ Int.ofNat v_1 ≤ Int.ofNat v_1 ∧ Int.ofNat v_1 ≤ 2 ^ 25) ∧ True ∧ 36 ≤ 40 ∧ T8 ((T2 (True ∧ NLs (zrow (Int.toNat (Int.ofNat v_1)) [vz, vi 0, vi 0, vi 0]) ∧ True)) ∧ H (lpC Tryz.prog 22 55) (lpK Tryz.prog 22 55) (stV [(0, some (pt 0)), q9, (330, some (vi (↑(Int.toNat (Int.ofNat v_1)) : Int))), (331, some (vi 0))] [(0, some (AObj.cells (h34 (vs v :: Value.slice (some (Addr.mk 3 0 none)) (Int.toNat (Int.ofNat v_1)) 4 :: t36)) true)), q7, (2, some (AObj.cells [vs r_1, vi 0] true)), (3, some (AObj.cells (zrow (Int.toNat (Int.ofNat v_1)) [vz, vi 0, vi 0, vi 0]) true))] 4)))) (T8 ((T2 (True ∧ True)) ∧ H (lpC Tryz.prog 22 55) (lpK Tryz.prog 22 55) (stV [(0, some (pt 0)), q9, (330, some (vi (↑0 : Int))), (331, some (vi 0))] [(0, some (AObj.cells (h34 (vs v :: t35)) true)), q7, (2, some (AObj.cells [vs r_1, vi 0] true))] 3))))))) ∧ ∀ (e : Nat), rsL 2 r = Rs.err e → 1 = 1 ∧ T16 (T4 (q2 ∧ true = true ∧ pP (h34 (vs v :: t35)) r e)))))) ∧ ∀ (e : Nat), rsT 64 s = Rs.err e → 1 = 1 ∧ True ∧ 35 ≤ 40 ∧ T16 (T2 (True ∧ q2 ∧ true = true ∧ pP q1 s e)))))) (T2 (pIf (decide (k = 15)) (T8 (T4 (T2 (true = true ∧ s.size < 4611686018427387904 ∧ 64 < 4611686018427387904 ∧ (∀ (v r : ByteArray), rsT 64 s = Rs.ok v r → 1 = 1 ∧ True ∧ 37 ≤ 40 ∧ T32 (T4 (T2 (q8 ∧ T8 (T2 (True ∧ true = true ∧ r.size < 4611686018427387904 ∧ (∀ (v_1 : Int) (r_1 : ByteArray), rsI (-1099511627776) 1099511627776 r = Rs.ok v_1 r_1 → 1 = 1 ∧ True ∧ 38 ≤ 40 ∧ T16 (T4 (q4 ∧ T8 (T2 (True ∧ true = true ∧ r_1.size < 4611686018427387904 ∧ (∀ (v_2 : Int) (r : ByteArray), rsI (-1099511627776) 1099511627776 r_1 = Rs.ok v_2 r → 1 = 1 ∧ True ∧ 39 ≤ 40 ∧ T16 (T4 (q3 ∧ T8 (T2 (True ∧ true = true ∧ r.size < 4611686018427387904 ∧ (∀ (v_3 : Int) (r_2 : ByteArray), rsI (-1099511627776) 1099511627776 r = Rs.ok v_3 r_2 → 1 = 1 ∧ True ∧ 40 ≤ 40 ∧ T16 (T4 (True ∧ (q2 ∧ True) ∧ true = true ∧ Post q5 [(h36 ([vs v, vi v_1, vi v_2, vi v_3])), [pt 2, vi w], [vs r_2, vi 0]]))) ∧ ∀ (e : Nat), rsI (-1099511627776) 1099511627776 r = Rs.err e → 1 = 1 ∧ True ∧ 40 ≤ 40 ∧ T16 (T2 (True ∧ q2 ∧ true = true ∧ pP (h36 ([vs v, vi v_1, vi v_2, vi 0])) r e))))))) ∧ ∀ (e : Nat), rsI (-1099511627776) 1099511627776 r_1 = Rs.err e → 1 = 1 ∧ True ∧ 39 ≤ 40 ∧ T16 (T2 (True ∧ q2 ∧ true = true ∧ pP (h36 ([vs v, vi v_1, vi 0, vi 0])) r_1 e))))))) ∧ ∀ (e : Nat), rsI (-1099511627776) 1099511627776 r = Rs.err e → 1 = 1 ∧ True ∧ 38 ≤ 40 ∧ T16 (T2 (True ∧ q2 ∧ true = true ∧ pP (h36 (vs v :: t37)) r e)))))))) ∧ ∀ (e : Nat), rsT 64 s = Rs.err e → 1 = 1 ∧ True ∧ 37 ≤ 40 ∧ T16 (T2 (True ∧ q2 ∧ true = true ∧ pP q1 s e)))))) (True ∧ (q2 ∧ True) ∧ true = true ∧ Post q5 [q1, [pt 2, vi w], [vs s, vi 0]])))))))))))))))))))))))))))) := by kernel_rfl
end Go.Proofs.YtegjnjmimfgijaaGreatDoor
