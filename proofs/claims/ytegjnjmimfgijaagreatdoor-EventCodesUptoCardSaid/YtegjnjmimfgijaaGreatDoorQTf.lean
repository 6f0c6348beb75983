/-
  Put together out of several texts, each in its own namespace's block. Conditions: as each theorem states them.
-/
import Derived.Test.YtegjnjmimfgijaaGreatDoorQVc
import Derived.Test.YtegjnjmimfgijaaGreatDoorQSw
import Derived.Test.YtegjnjmimfgijaaGreatDoorQVis
noncomputable section
namespace Go.Proofs.YtegjnjmimfgijaaGreatDoor
open Go Go.RowKit
set_option maxRecDepth 100000
set_option maxHeartbeats 8000000
def cleared (x : Event) : Event := { clearK x.kind x with kind := 0, at_ := 0 }
theorem ite_P {c : Prop} [Decidable c] {a b : Event} {P : Event → Prop} (ha : P a) (hb : P b) : P (if c then a else b) := by split <;> assumption
theorem clear_order (k : Int) (x : Event) : (clearK k x).order = x.order ∨ (clearK k x).order = evt0.order := by
 unfold clearK
 repeat' (refine ite_P (P := fun y : Event => y.order = x.order ∨ y.order = evt0.order) ?_ ?_)
 all_goals first | exact .inl rfl | exact .inr rfl
theorem clear_spots (k : Int) (x : Event) : (clearK k x).nest.spots = x.nest.spots ∨ (clearK k x).nest.spots = [] := by
 unfold clearK
 repeat' (refine ite_P (P := fun y : Event => y.nest.spots = x.nest.spots ∨ y.nest.spots = []) ?_ ?_)
 all_goals first | exact .inl rfl | exact .inr rfl
theorem clear_saw (k : Int) (x : Event) : (clearK k x).saw.parts = x.saw.parts ∨ (clearK k x).saw.parts = [] := by
 unfold clearK
 repeat' (refine ite_P (P := fun y : Event => y.saw.parts = x.saw.parts ∨ y.saw.parts = []) ?_ ?_)
 all_goals first | exact .inl rfl | exact .inr rfl
theorem clear_weig (k : Int) (x : Event) : (clearK k x).weig.parts = x.weig.parts := by
 unfold clearK
 repeat' (refine ite_P (P := fun y : Event => y.weig.parts = x.weig.parts) ?_ ?_)
 all_goals rfl
theorem clear_hooks (k : Int) (x : Event) : (clearK k x).lift.hooks = x.lift.hooks ∨ (clearK k x).lift.hooks = [] := by
 unfold clearK
 repeat' (refine ite_P (P := fun y : Event => y.lift.hooks = x.lift.hooks ∨ y.lift.hooks = []) ?_ ?_)
 all_goals first | exact .inl rfl | exact .inr rfl
theorem short_nil {α : Type} : Short ([] : List α) := by show 0 < 2 ^ 62; decide
theorem clear_short {x : Event} (h : ShortEv x) : ShortEv (cleared x) := by
 refine ⟨?_, ?_, ?_, ?_, ?_⟩
 ·show ShortO (clearK x.kind x).order
  rcases clear_order x.kind x with e | e <;> rw [e]
  ·exact h.order
  ·exact ⟨by decide, fun _ h => by cases h⟩
 ·show Short (clearK x.kind x).nest.spots
  rcases clear_spots x.kind x with e | e <;> rw [e]
  ·exact h.spots
  ·exact short_nil
 ·show Short (clearK x.kind x).saw.parts
  rcases clear_saw x.kind x with e | e <;> rw [e]
  ·exact h.saw
  ·exact short_nil
 ·show Short (clearK x.kind x).weig.parts
  rw [clear_weig]
  exact h.weig
 ·show Short (clearK x.kind x).lift.hooks
  rcases clear_hooks x.kind x with e | e <;> rw [e]
  ·exact h.hooks
  ·exact short_nil
theorem clear_inO {x : Event} (h : InOrder x.order) : InOrder (cleared x).order := by
 show InOrder (clearK x.kind x).order
 rcases clear_order x.kind x with e | e <;> rw [e]
 ·exact h
 ·exact zero_inO
theorem clear_fewO {x : Event} (h : FewO x.order) : FewO (cleared x).order := by
 show FewO (clearK x.kind x).order
 rcases clear_order x.kind x with e | e <;> rw [e]
 ·exact h
 ·exact zero_fewO
def c_plain (args : List Value) (Post : Value → Prop) : Prop := ∃ x : Event, args = [eventV x] ∧ 1 ≤ x.kind ∧ x.kind ≤ 18 ∧ ShortEv x ∧ InOrder x.order ∧ FewO x.order ∧ Post (.bool (decide (x = plainK x.kind x)))
theorem ok_plain : EntOk Tryz.prog ⟨20, c_plain⟩ := by
 rintro args Post ⟨x, rfl, h1, h2, hs, hi, hf, h⟩
 have hT : cleared x = evt0 → Post (.bool true) := fun e => of_b h (decide_eq_true ((clear_plain h1 h2).1 e))
 have hF : ¬ cleared x = evt0 → Post (.bool false) := fun e => of_b h (decide_eq_false fun k => e ((clear_plain h1 h2).2 k))
 have sc := clear_short hs
 have ic := clear_inO hi
 have fc := clear_fewO hf
 have hk := kinds h1 h2
 clear h hs hi hf h1 h2
 refine B.pure_of_X ?_
 obtain ⟨k, a, i, o, b, n, p, ord, sh, bar, ⟨n1, n2, l1⟩, ⟨s1, s2, l2⟩, weig, ⟨f1, l3⟩, per⟩ := x
 simp only at hk
 refine spec_X (conts := []) callPl_ok mixed (by kernel_rfl) (by kernel_rfl) [] (e_plain _ _ _) ?_
 simp only [true_and, and_true]
 iterate 16 (refine pIfD (fun hq => ?_) (fun _ => ?_); rotate_left)
 ·have : k = 17 ∨ k = 18 := by omega
  rcases this with rfl | rfl
  all_goals repeat' (first | exact rfl | refine And.intro ?_ ?_ | trivial | exact ⟨cleared _, evt0, rfl, sc, ic, fc, zero_inO, zero_fewO, pIfD (fun hh => hT hh) (fun hh => hF hh)⟩)
 all_goals
  subst hq
  repeat' (first | exact rfl | refine And.intro ?_ ?_ | trivial | decide | omega | exact ⟨cleared _, evt0, rfl, sc, ic, fc, zero_inO, zero_fewO, pIfD (fun hh => hT hh) (fun hh => hF hh)⟩ | refine pIfN (fun hh => ?_) (fun hh => ?_) | exact (fun v hv => absurd hv (by simp) : NLs []))
 ·have e : l1 = [] := List.eq_nil_of_length_eq_zero (by omega)
  subst e
  exact pIfD (fun h0 => absurd h0 (by decide)) (fun _ => ⟨by decide, by decide, cleared _, evt0, rfl, sc, ic, fc, zero_inO, zero_fewO, pIfD (fun hh => hT hh) (fun hh => hF hh)⟩)
 ·have e : l2 = [] := List.eq_nil_of_length_eq_zero (by omega)
  subst e
  exact pIfD (fun h0 => absurd h0 (by decide)) (fun _ => ⟨by decide, by decide, cleared _, evt0, rfl, sc, ic, fc, zero_inO, zero_fewO, pIfD (fun hh => hT hh) (fun hh => hF hh)⟩)
 ·have e : l3 = [] := List.eq_nil_of_length_eq_zero (by omega)
  subst e
  exact pIfD (fun h0 => absurd h0 (by decide)) (fun _ => ⟨by decide, by decide, cleared _, evt0, rfl, sc, ic, fc, zero_inO, zero_fewO, pIfD (fun hh => hT hh) (fun hh => hF hh)⟩)
theorem e_lim1 (x : Event) (H : HT) (Post : PX) : vcX Tryz.prog callC2 22 [] [(.int .i64 1 :: (eventC x).tail), [.bool false, .bool false]] argsLim H Post = (T16 (T8 (True ∧ pIf (decide ((↑x.order.edits.length : Int) > 32)) (T2 (True ∧ 1 ≤ 2 ∧ True ∧ (((T32 (T8 (True))) ∧ (T2 (True)) ∧ True) ∧ True) ∧ true = true ∧ Post (Out.ret (Value.tuple #[])) [(evK 1 x), [vb true, vb false]])) (T2 (True ∧ 1 ≤ 2 ∧ True ∧ (((T32 (T8 (True))) ∧ (T2 (True)) ∧ True) ∧ True) ∧ true = true ∧ Post (Out.ret (Value.tuple #[])) [(evK 1 x), [vb false, vb false]]))))) := by kernel_rfl
theorem e_lim2 (x : Event) (H : HT) (Post : PX) : vcX Tryz.prog callC2 22 [] [(.int .i64 2 :: (eventC x).tail), [.bool false, .bool false]] argsLim H Post = (let q9 := Out.ret (Value.tuple #[]); let q4 := (toI (vi 0) ≤ w64 (w64 (0 + 1) + 1) ∧ toI (vi (w64 (w64 (0 + 1) + 1))) < (↑3 : Int)); let q7 := ((T32 (T8 (True))) ∧ (T2 (True)) ∧ True) ∧ True; let q2 := (True ∧ 2 ≤ 2 ∧ T16 (T4 (T2 (pIf (decide ((↑x.sheet.heat.size : Int) > 64)) (T2 (True ∧ 1 ≤ 2 ∧ True ∧ q7 ∧ true = true ∧ Post q9 [(evK 2 x), [vb true, vb true]])) (T2 (True ∧ 1 ≤ 2 ∧ True ∧ q7 ∧ true = true ∧ Post q9 [(evK 2 x), [vb false, vb true]])))))); let q8 := True ∧ 2 ≤ 2 ∧ T2 (True ∧ q4 ∧ T8 (T4 (T2 q2))); let q6 := (toI (vi 0) ≤ w64 (0 + 1) ∧ toI (vi (w64 (0 + 1))) < (↑3 : Int)); let q5 := True ∧ 2 ≤ 2 ∧ T16 (T4 (1 ≤ 2 ∧ True ∧ q7 ∧ true = true ∧ Post q9 [(evK 2 x), [vb true, vb true]])); let q3 := True ∧ 2 ≤ 2 ∧ T2 (True ∧ q4 ∧ T8 (T4 (T2 q5))); let q1 := (True ∧ 1 ≤ 2 ∧ T16 (T2 (True ∧ (toI (vi 0) ≤ 0 ∧ toI (vi 0) < (↑3 : Int)) ∧ T8 (T4 (T2 (True ∧ pIf (decide (x.sheet.thick < -1099511627776)) (T4 (True ∧ 2 ≤ 2 ∧ T2 (True ∧ q6 ∧ T8 (T4 (T2 q3))))) (T4 (T2 (True ∧ pIf (decide (x.sheet.thick > 1099511627776)) (T2 (True ∧ 2 ≤ 2 ∧ T2 (True ∧ q6 ∧ T8 (T4 (T2 q3))))) (T2 (True ∧ 2 ≤ 2 ∧ T2 (True ∧ q6 ∧ T8 (T4 (T2 (True ∧ pIf (decide (x.sheet.long < -1099511627776)) (T4 q3) (T4 (T2 (True ∧ pIf (decide (x.sheet.long > 1099511627776)) (T2 q3) (T2 (True ∧ 2 ≤ 2 ∧ T2 (True ∧ q4 ∧ T8 (T4 (T2 (True ∧ pIf (decide (x.sheet.width < -1099511627776)) (T4 q5) (T4 (T2 (True ∧ pIf (decide (x.sheet.width > 1099511627776)) (T2 q5) (T2 (True ∧ 2 ≤ 2 ∧ T16 (T4 (1 ≤ 2 ∧ True ∧ q7 ∧ true = true ∧ Post q9 [(evK 2 x), [vb true, vb false]]))))))))))))))))))))))))))))))); T16 (T8 ((toI (vi 0) ≤ 0 ∧ toI (vi 0) < (↑2 : Int)) ∧ T8 (T4 (T2 (True ∧ pIf (decide ((↑x.sheet.id.size : Int) > 64)) (T2 (True ∧ 1 ≤ 2 ∧ T2 (True ∧ (toI (vi 0) ≤ w64 (0 + 1) ∧ toI (vi (w64 (0 + 1))) < (↑2 : Int)) ∧ T8 (T4 q1)))) (T2 (True ∧ 1 ≤ 2 ∧ T2 (True ∧ (toI (vi 0) ≤ w64 (0 + 1) ∧ toI (vi (w64 (0 + 1))) < (↑2 : Int)) ∧ T8 (T4 (T2 (True ∧ pIf (decide ((↑x.sheet.grade.size : Int) > 64)) (T2 q1) (T2 (True ∧ 1 ≤ 2 ∧ T16 (T2 (True ∧ (toI (vi 0) ≤ 0 ∧ toI (vi 0) < (↑3 : Int)) ∧ T8 (T4 (T2 (True ∧ pIf (decide (x.sheet.thick < -1099511627776)) (T4 (True ∧ 2 ≤ 2 ∧ T2 (True ∧ q6 ∧ T8 (T4 (T2 q8))))) (T4 (T2 (True ∧ pIf (decide (x.sheet.thick > 1099511627776)) (T2 (True ∧ 2 ≤ 2 ∧ T2 (True ∧ q6 ∧ T8 (T4 (T2 q8))))) (T2 (True ∧ 2 ≤ 2 ∧ T2 (True ∧ q6 ∧ T8 (T4 (T2 (True ∧ pIf (decide (x.sheet.long < -1099511627776)) (T4 q8) (T4 (T2 (True ∧ pIf (decide (x.sheet.long > 1099511627776)) (T2 q8) (T2 (True ∧ 2 ≤ 2 ∧ T2 (True ∧ q4 ∧ T8 (T4 (T2 (True ∧ pIf (decide (x.sheet.width < -1099511627776)) (T4 q2) (T4 (T2 (True ∧ pIf (decide (x.sheet.width > 1099511627776)) (T2 q2) (T2 (True ∧ 2 ≤ 2 ∧ T16 (T4 (T2 (pIf (decide ((↑x.sheet.heat.size : Int) > 64)) (T2 (True ∧ 1 ≤ 2 ∧ True ∧ q7 ∧ true = true ∧ Post q9 [(evK 2 x), [vb true, vb false]])) (T2 (True ∧ 1 ≤ 2 ∧ True ∧ q7 ∧ true = true ∧ Post q9 [(evK 2 x), [vb false, vb false]]))))))))))))))))))))))))))))))))))))))))))))))) := by kernel_rfl
theorem e_lim3 (x : Event) (H : HT) (Post : PX) : vcX Tryz.prog callC2 22 [] [(.int .i64 3 :: (eventC x).tail), [.bool false, .bool false]] argsLim H Post = (let q3 := ((T32 (T8 (True))) ∧ (T2 (True)) ∧ True) ∧ True; let q5 := Out.ret (Value.tuple #[]); let q6 := True ∧ 2 ≤ 2 ∧ T16 (T4 (1 ≤ 2 ∧ True ∧ q3 ∧ true = true ∧ Post q5 [(evK 3 x), [vb true, vb true]])); let q4 := (toI (vi 0) ≤ w64 (w64 (0 + 1) + 1) ∧ toI (vi (w64 (w64 (0 + 1) + 1))) < (↑3 : Int)); let q2 := (True ∧ 2 ≤ 2 ∧ T16 (T4 (T2 (pIf (decide ((↑x.bar.heat.size : Int) > 64)) (T2 (True ∧ 1 ≤ 2 ∧ True ∧ q3 ∧ true = true ∧ Post q5 [(evK 3 x), [vb true, vb true]])) (T2 (True ∧ 1 ≤ 2 ∧ True ∧ q3 ∧ true = true ∧ Post q5 [(evK 3 x), [vb false, vb true]])))))); let q1 := (True ∧ 1 ≤ 2 ∧ T8 (T4 (T2 ((toI (vi 0) ≤ 0 ∧ toI (vi 0) < (↑1 : Int)) ∧ T8 (T4 (T2 (True ∧ pIf (decide (x.bar.long < -1099511627776)) (T4 q6) (T4 (T2 (True ∧ pIf (decide (x.bar.long > 1099511627776)) (T2 q6) (T2 (True ∧ 2 ≤ 2 ∧ T16 (T4 (1 ≤ 2 ∧ True ∧ q3 ∧ true = true ∧ Post q5 [(evK 3 x), [vb true, vb false]])))))))))))))); T16 (T8 (T4 ((toI (vi 0) ≤ 0 ∧ toI (vi 0) < (↑3 : Int)) ∧ T8 (T4 (T2 (True ∧ pIf (decide ((↑x.bar.id.size : Int) > 64)) (T2 (True ∧ 1 ≤ 2 ∧ T2 (True ∧ (toI (vi 0) ≤ w64 (0 + 1) ∧ toI (vi (w64 (0 + 1))) < (↑3 : Int)) ∧ T8 (T4 (True ∧ 1 ≤ 2 ∧ T2 (True ∧ q4 ∧ T8 (T4 q1))))))) (T2 (True ∧ 1 ≤ 2 ∧ T2 (True ∧ (toI (vi 0) ≤ w64 (0 + 1) ∧ toI (vi (w64 (0 + 1))) < (↑3 : Int)) ∧ T8 (T4 (T2 (True ∧ pIf (decide ((↑x.bar.sect.size : Int) > 64)) (T2 (True ∧ 1 ≤ 2 ∧ T2 (True ∧ q4 ∧ T8 (T4 q1)))) (T2 (True ∧ 1 ≤ 2 ∧ T2 (True ∧ q4 ∧ T8 (T4 (T2 (True ∧ pIf (decide ((↑x.bar.grade.size : Int) > 64)) (T2 q1) (T2 (True ∧ 1 ≤ 2 ∧ T8 (T4 (T2 ((toI (vi 0) ≤ 0 ∧ toI (vi 0) < (↑1 : Int)) ∧ T8 (T4 (T2 (True ∧ pIf (decide (x.bar.long < -1099511627776)) (T4 q2) (T4 (T2 (True ∧ pIf (decide (x.bar.long > 1099511627776)) (T2 q2) (T2 (True ∧ 2 ≤ 2 ∧ T16 (T4 (T2 (pIf (decide ((↑x.bar.heat.size : Int) > 64)) (T2 (True ∧ 1 ≤ 2 ∧ True ∧ q3 ∧ true = true ∧ Post q5 [(evK 3 x), [vb true, vb false]])) (T2 (True ∧ 1 ≤ 2 ∧ True ∧ q3 ∧ true = true ∧ Post q5 [(evK 3 x), [vb false, vb false]]))))))))))))))))))))))))))))))))))))) := by kernel_rfl
theorem e_lim4 (x : Event) (H : HT) (Post : PX) : vcX Tryz.prog callC2 22 [] [(.int .i64 4 :: (eventC x).tail), [.bool false, .bool false]] argsLim H Post = (let q1 := True ∧ 1 ≤ 2 ∧ T4 ((((T32 (T8 (True))) ∧ (T2 (True)) ∧ True) ∧ True) ∧ true = true ∧ Post (Out.ret (Value.tuple #[])) [(evK 4 x), [vb true, vb false]]); T16 (T8 ((toI (vi 0) ≤ 0 ∧ toI (vi 0) < (↑2 : Int)) ∧ T8 (T4 (T2 (True ∧ pIf (decide ((↑x.item.size : Int) > 64)) (T2 (True ∧ 1 ≤ 2 ∧ T2 (True ∧ (toI (vi 0) ≤ w64 (0 + 1) ∧ toI (vi (w64 (0 + 1))) < (↑2 : Int)) ∧ T8 (T4 q1)))) (T2 (True ∧ 1 ≤ 2 ∧ T2 (True ∧ (toI (vi 0) ≤ w64 (0 + 1) ∧ toI (vi (w64 (0 + 1))) < (↑2 : Int)) ∧ T8 (T4 (T2 (True ∧ pIf (decide ((↑x.by_.size : Int) > 64)) (T2 q1) (T2 (True ∧ 1 ≤ 2 ∧ T4 ((((T32 (T8 (True))) ∧ (T2 (True)) ∧ True) ∧ True) ∧ true = true ∧ Post (Out.ret (Value.tuple #[])) [(evK 4 x), [vb false, vb false]]))))))))))))))) := by kernel_rfl
theorem e_lim7 (x : Event) (H : HT) (Post : PX) : vcX Tryz.prog callC2 22 [] [(.int .i64 7 :: (eventC x).tail), [.bool false, .bool false]] argsLim H Post = (T32 (T4 (pIf (decide ((↑x.item.size : Int) > 64)) (T2 (True ∧ 1 ≤ 2 ∧ True ∧ (((T32 (T8 (True))) ∧ (T2 (True)) ∧ True) ∧ True) ∧ true = true ∧ Post (Out.ret (Value.tuple #[])) [(evK 7 x), [vb true, vb false]])) (T2 (True ∧ 1 ≤ 2 ∧ True ∧ (((T32 (T8 (True))) ∧ (T2 (True)) ∧ True) ∧ True) ∧ true = true ∧ Post (Out.ret (Value.tuple #[])) [(evK 7 x), [vb false, vb false]]))))) := by kernel_rfl
theorem e_lim8 (x : Event) (H : HT) (Post : PX) : vcX Tryz.prog callC2 22 [] [(.int .i64 8 :: (eventC x).tail), [.bool false, .bool false]] argsLim H Post = (T32 (T4 (T2 (pIf (decide ((↑x.item.size : Int) > 64)) (T2 (True ∧ 1 ≤ 2 ∧ True ∧ (((T32 (T8 (True))) ∧ (T2 (True)) ∧ True) ∧ True) ∧ true = true ∧ Post (Out.ret (Value.tuple #[])) [(evK 8 x), [vb true, vb false]])) (T2 (True ∧ 1 ≤ 2 ∧ True ∧ (((T32 (T8 (True))) ∧ (T2 (True)) ∧ True) ∧ True) ∧ true = true ∧ Post (Out.ret (Value.tuple #[])) [(evK 8 x), [vb false, vb false]])))))) := by kernel_rfl
theorem e_lim9 (x : Event) (H : HT) (Post : PX) : vcX Tryz.prog callC2 22 [] [(.int .i64 9 :: (eventC x).tail), [.bool false, .bool false]] argsLim H Post = (let q2 := (toI (vi 0) ≤ w64 (w64 (0 + 1) + 1) ∧ toI (vi (w64 (w64 (0 + 1) + 1))) < (↑3 : Int)); let q1 := True ∧ 1 ≤ 2 ∧ T4 ((((T32 (T8 (True))) ∧ (T2 (True)) ∧ True) ∧ True) ∧ true = true ∧ Post (Out.ret (Value.tuple #[])) [(evK 9 x), [vb true, vb false]]); T32 (T8 (True ∧ (toI (vi 0) ≤ 0 ∧ toI (vi 0) < (↑3 : Int)) ∧ T8 (T4 (T2 (True ∧ pIf (decide ((↑x.item.size : Int) > 64)) (T2 (True ∧ 1 ≤ 2 ∧ T2 (True ∧ (toI (vi 0) ≤ w64 (0 + 1) ∧ toI (vi (w64 (0 + 1))) < (↑3 : Int)) ∧ T8 (T4 (True ∧ 1 ≤ 2 ∧ T2 (True ∧ q2 ∧ T8 (T4 q1))))))) (T2 (True ∧ 1 ≤ 2 ∧ T2 (True ∧ (toI (vi 0) ≤ w64 (0 + 1) ∧ toI (vi (w64 (0 + 1))) < (↑3 : Int)) ∧ T8 (T4 (T2 (True ∧ pIf (decide ((↑x.of_.size : Int) > 64)) (T2 (True ∧ 1 ≤ 2 ∧ T2 (True ∧ q2 ∧ T8 (T4 q1)))) (T2 (True ∧ 1 ≤ 2 ∧ T2 (True ∧ q2 ∧ T8 (T4 (T2 (True ∧ pIf (decide ((↑x.by_.size : Int) > 64)) (T2 q1) (T2 (True ∧ 1 ≤ 2 ∧ T4 ((((T32 (T8 (True))) ∧ (T2 (True)) ∧ True) ∧ True) ∧ true = true ∧ Post (Out.ret (Value.tuple #[])) [(evK 9 x), [vb false, vb false]]))))))))))))))))))))) := by kernel_rfl
theorem lim1 {a : Int} {i o b : ByteArray} {n : Int} {p : Bool} {ord : Order2} {sh : Sheet6} {bar : Bar5} {nest : Nest3} {saw : Saw3} {weig : Weig} {lift : Lift2} {per : Permit3} {Post : Out → List (List Value) → Prop} (hP : Post (.ret (.tuple #[])) [eventC ⟨1, a, i, o, b, n, p, ord, sh, bar, nest, saw, weig, lift, per⟩, [.bool (longK 1 ⟨1, a, i, o, b, n, p, ord, sh, bar, nest, saw, weig, lift, per⟩), .bool (farK 1 ⟨1, a, i, o, b, n, p, ord, sh, bar, nest, saw, weig, lift, per⟩)]]) : SpecX Tryz.prog 22 2 (hpOf [eventC ⟨1, a, i, o, b, n, p, ord, sh, bar, nest, saw, weig, lift, per⟩, [.bool false, .bool false]]) argsLim (xpost 2 Post) := by
 have hX : ∀ lg fr, lg = longK 1 ⟨1, a, i, o, b, n, p, ord, sh, bar, nest, saw, weig, lift, per⟩ → fr = farK 1 ⟨1, a, i, o, b, n, p, ord, sh, bar, nest, saw, weig, lift, per⟩ → Post (.ret (.tuple #[])) [eventC ⟨1, a, i, o, b, n, p, ord, sh, bar, nest, saw, weig, lift, per⟩, [.bool lg, .bool fr]] := by rintro _ _ rfl rfl; exact hP
 refine spec_X (conts := [eventC ⟨1, a, i, o, b, n, p, ord, sh, bar, nest, saw, weig, lift, per⟩, [.bool false, .bool false]]) callC2_ok mixed (by kernel_rfl) (by kernel_rfl) [] (e_lim1 ⟨1, a, i, o, b, n, p, ord, sh, bar, nest, saw, weig, lift, per⟩ _ _) ?_
 simp only [true_and, and_true]
 repeat' (first | exact rfl | refine pIfD (fun _ => ?_) (fun _ => ?_) | refine pIfN (fun h => absurd rfl h) (fun _ => ?_) | refine And.intro ?_ ?_ | trivial | decide | (refine hX _ _ ?_ ?_ <;> (simp [longK, farK, big, off]; try omega)))
theorem lim2 {a : Int} {i o b : ByteArray} {n : Int} {p : Bool} {ord : Order2} {sh : Sheet6} {bar : Bar5} {nest : Nest3} {saw : Saw3} {weig : Weig} {lift : Lift2} {per : Permit3} {Post : Out → List (List Value) → Prop} (hP : Post (.ret (.tuple #[])) [eventC ⟨2, a, i, o, b, n, p, ord, sh, bar, nest, saw, weig, lift, per⟩, [.bool (longK 2 ⟨2, a, i, o, b, n, p, ord, sh, bar, nest, saw, weig, lift, per⟩), .bool (farK 2 ⟨2, a, i, o, b, n, p, ord, sh, bar, nest, saw, weig, lift, per⟩)]]) : SpecX Tryz.prog 22 2 (hpOf [eventC ⟨2, a, i, o, b, n, p, ord, sh, bar, nest, saw, weig, lift, per⟩, [.bool false, .bool false]]) argsLim (xpost 2 Post) := by
 have hX : ∀ lg fr, lg = longK 2 ⟨2, a, i, o, b, n, p, ord, sh, bar, nest, saw, weig, lift, per⟩ → fr = farK 2 ⟨2, a, i, o, b, n, p, ord, sh, bar, nest, saw, weig, lift, per⟩ → Post (.ret (.tuple #[])) [eventC ⟨2, a, i, o, b, n, p, ord, sh, bar, nest, saw, weig, lift, per⟩, [.bool lg, .bool fr]] := by rintro _ _ rfl rfl; exact hP
 refine spec_X (conts := [eventC ⟨2, a, i, o, b, n, p, ord, sh, bar, nest, saw, weig, lift, per⟩, [.bool false, .bool false]]) callC2_ok mixed (by kernel_rfl) (by kernel_rfl) [] (e_lim2 ⟨2, a, i, o, b, n, p, ord, sh, bar, nest, saw, weig, lift, per⟩ _ _) ?_
 simp only [true_and, and_true]
 repeat' (first | exact rfl | refine pIfD (fun _ => ?_) (fun _ => ?_) | refine pIfN (fun h => absurd rfl h) (fun _ => ?_) | refine And.intro ?_ ?_ | trivial | decide | (refine hX _ _ ?_ ?_ <;> (simp [longK, farK, big, off]; try omega)))
theorem lim3 {a : Int} {i o b : ByteArray} {n : Int} {p : Bool} {ord : Order2} {sh : Sheet6} {bar : Bar5} {nest : Nest3} {saw : Saw3} {weig : Weig} {lift : Lift2} {per : Permit3} {Post : Out → List (List Value) → Prop} (hP : Post (.ret (.tuple #[])) [eventC ⟨3, a, i, o, b, n, p, ord, sh, bar, nest, saw, weig, lift, per⟩, [.bool (longK 3 ⟨3, a, i, o, b, n, p, ord, sh, bar, nest, saw, weig, lift, per⟩), .bool (farK 3 ⟨3, a, i, o, b, n, p, ord, sh, bar, nest, saw, weig, lift, per⟩)]]) : SpecX Tryz.prog 22 2 (hpOf [eventC ⟨3, a, i, o, b, n, p, ord, sh, bar, nest, saw, weig, lift, per⟩, [.bool false, .bool false]]) argsLim (xpost 2 Post) := by
 have hX : ∀ lg fr, lg = longK 3 ⟨3, a, i, o, b, n, p, ord, sh, bar, nest, saw, weig, lift, per⟩ → fr = farK 3 ⟨3, a, i, o, b, n, p, ord, sh, bar, nest, saw, weig, lift, per⟩ → Post (.ret (.tuple #[])) [eventC ⟨3, a, i, o, b, n, p, ord, sh, bar, nest, saw, weig, lift, per⟩, [.bool lg, .bool fr]] := by rintro _ _ rfl rfl; exact hP
 refine spec_X (conts := [eventC ⟨3, a, i, o, b, n, p, ord, sh, bar, nest, saw, weig, lift, per⟩, [.bool false, .bool false]]) callC2_ok mixed (by kernel_rfl) (by kernel_rfl) [] (e_lim3 ⟨3, a, i, o, b, n, p, ord, sh, bar, nest, saw, weig, lift, per⟩ _ _) ?_
 simp only [true_and, and_true]
 repeat' (first | exact rfl | refine pIfD (fun _ => ?_) (fun _ => ?_) | refine pIfN (fun h => absurd rfl h) (fun _ => ?_) | refine And.intro ?_ ?_ | trivial | decide | (refine hX _ _ ?_ ?_ <;> (simp [longK, farK, big, off]; try omega)))
theorem lim4 {a : Int} {i o b : ByteArray} {n : Int} {p : Bool} {ord : Order2} {sh : Sheet6} {bar : Bar5} {nest : Nest3} {saw : Saw3} {weig : Weig} {lift : Lift2} {per : Permit3} {Post : Out → List (List Value) → Prop} (hP : Post (.ret (.tuple #[])) [eventC ⟨4, a, i, o, b, n, p, ord, sh, bar, nest, saw, weig, lift, per⟩, [.bool (longK 4 ⟨4, a, i, o, b, n, p, ord, sh, bar, nest, saw, weig, lift, per⟩), .bool (farK 4 ⟨4, a, i, o, b, n, p, ord, sh, bar, nest, saw, weig, lift, per⟩)]]) : SpecX Tryz.prog 22 2 (hpOf [eventC ⟨4, a, i, o, b, n, p, ord, sh, bar, nest, saw, weig, lift, per⟩, [.bool false, .bool false]]) argsLim (xpost 2 Post) := by
 have hX : ∀ lg fr, lg = longK 4 ⟨4, a, i, o, b, n, p, ord, sh, bar, nest, saw, weig, lift, per⟩ → fr = farK 4 ⟨4, a, i, o, b, n, p, ord, sh, bar, nest, saw, weig, lift, per⟩ → Post (.ret (.tuple #[])) [eventC ⟨4, a, i, o, b, n, p, ord, sh, bar, nest, saw, weig, lift, per⟩, [.bool lg, .bool fr]] := by rintro _ _ rfl rfl; exact hP
 refine spec_X (conts := [eventC ⟨4, a, i, o, b, n, p, ord, sh, bar, nest, saw, weig, lift, per⟩, [.bool false, .bool false]]) callC2_ok mixed (by kernel_rfl) (by kernel_rfl) [] (e_lim4 ⟨4, a, i, o, b, n, p, ord, sh, bar, nest, saw, weig, lift, per⟩ _ _) ?_
 simp only [true_and, and_true]
 repeat' (first | exact rfl | refine pIfD (fun _ => ?_) (fun _ => ?_) | refine pIfN (fun h => absurd rfl h) (fun _ => ?_) | refine And.intro ?_ ?_ | trivial | decide | (refine hX _ _ ?_ ?_ <;> (simp [longK, farK, big, off]; try omega)))
theorem lim7 {a : Int} {i o b : ByteArray} {n : Int} {p : Bool} {ord : Order2} {sh : Sheet6} {bar : Bar5} {nest : Nest3} {saw : Saw3} {weig : Weig} {lift : Lift2} {per : Permit3} {Post : Out → List (List Value) → Prop} (hP : Post (.ret (.tuple #[])) [eventC ⟨7, a, i, o, b, n, p, ord, sh, bar, nest, saw, weig, lift, per⟩, [.bool (longK 7 ⟨7, a, i, o, b, n, p, ord, sh, bar, nest, saw, weig, lift, per⟩), .bool (farK 7 ⟨7, a, i, o, b, n, p, ord, sh, bar, nest, saw, weig, lift, per⟩)]]) : SpecX Tryz.prog 22 2 (hpOf [eventC ⟨7, a, i, o, b, n, p, ord, sh, bar, nest, saw, weig, lift, per⟩, [.bool false, .bool false]]) argsLim (xpost 2 Post) := by
 have hX : ∀ lg fr, lg = longK 7 ⟨7, a, i, o, b, n, p, ord, sh, bar, nest, saw, weig, lift, per⟩ → fr = farK 7 ⟨7, a, i, o, b, n, p, ord, sh, bar, nest, saw, weig, lift, per⟩ → Post (.ret (.tuple #[])) [eventC ⟨7, a, i, o, b, n, p, ord, sh, bar, nest, saw, weig, lift, per⟩, [.bool lg, .bool fr]] := by rintro _ _ rfl rfl; exact hP
 refine spec_X (conts := [eventC ⟨7, a, i, o, b, n, p, ord, sh, bar, nest, saw, weig, lift, per⟩, [.bool false, .bool false]]) callC2_ok mixed (by kernel_rfl) (by kernel_rfl) [] (e_lim7 ⟨7, a, i, o, b, n, p, ord, sh, bar, nest, saw, weig, lift, per⟩ _ _) ?_
 simp only [true_and, and_true]
 repeat' (first | exact rfl | refine pIfD (fun _ => ?_) (fun _ => ?_) | refine pIfN (fun h => absurd rfl h) (fun _ => ?_) | refine And.intro ?_ ?_ | trivial | decide | (refine hX _ _ ?_ ?_ <;> (simp [longK, farK, big, off]; try omega)))
theorem lim8 {a : Int} {i o b : ByteArray} {n : Int} {p : Bool} {ord : Order2} {sh : Sheet6} {bar : Bar5} {nest : Nest3} {saw : Saw3} {weig : Weig} {lift : Lift2} {per : Permit3} {Post : Out → List (List Value) → Prop} (hP : Post (.ret (.tuple #[])) [eventC ⟨8, a, i, o, b, n, p, ord, sh, bar, nest, saw, weig, lift, per⟩, [.bool (longK 8 ⟨8, a, i, o, b, n, p, ord, sh, bar, nest, saw, weig, lift, per⟩), .bool (farK 8 ⟨8, a, i, o, b, n, p, ord, sh, bar, nest, saw, weig, lift, per⟩)]]) : SpecX Tryz.prog 22 2 (hpOf [eventC ⟨8, a, i, o, b, n, p, ord, sh, bar, nest, saw, weig, lift, per⟩, [.bool false, .bool false]]) argsLim (xpost 2 Post) := by
 have hX : ∀ lg fr, lg = longK 8 ⟨8, a, i, o, b, n, p, ord, sh, bar, nest, saw, weig, lift, per⟩ → fr = farK 8 ⟨8, a, i, o, b, n, p, ord, sh, bar, nest, saw, weig, lift, per⟩ → Post (.ret (.tuple #[])) [eventC ⟨8, a, i, o, b, n, p, ord, sh, bar, nest, saw, weig, lift, per⟩, [.bool lg, .bool fr]] := by rintro _ _ rfl rfl; exact hP
 refine spec_X (conts := [eventC ⟨8, a, i, o, b, n, p, ord, sh, bar, nest, saw, weig, lift, per⟩, [.bool false, .bool false]]) callC2_ok mixed (by kernel_rfl) (by kernel_rfl) [] (e_lim8 ⟨8, a, i, o, b, n, p, ord, sh, bar, nest, saw, weig, lift, per⟩ _ _) ?_
 simp only [true_and, and_true]
 repeat' (first | exact rfl | refine pIfD (fun _ => ?_) (fun _ => ?_) | refine pIfN (fun h => absurd rfl h) (fun _ => ?_) | refine And.intro ?_ ?_ | trivial | decide | (refine hX _ _ ?_ ?_ <;> (simp [longK, farK, big, off]; try omega)))
theorem lim9 {a : Int} {i o b : ByteArray} {n : Int} {p : Bool} {ord : Order2} {sh : Sheet6} {bar : Bar5} {nest : Nest3} {saw : Saw3} {weig : Weig} {lift : Lift2} {per : Permit3} {Post : Out → List (List Value) → Prop} (hP : Post (.ret (.tuple #[])) [eventC ⟨9, a, i, o, b, n, p, ord, sh, bar, nest, saw, weig, lift, per⟩, [.bool (longK 9 ⟨9, a, i, o, b, n, p, ord, sh, bar, nest, saw, weig, lift, per⟩), .bool (farK 9 ⟨9, a, i, o, b, n, p, ord, sh, bar, nest, saw, weig, lift, per⟩)]]) : SpecX Tryz.prog 22 2 (hpOf [eventC ⟨9, a, i, o, b, n, p, ord, sh, bar, nest, saw, weig, lift, per⟩, [.bool false, .bool false]]) argsLim (xpost 2 Post) := by
 have hX : ∀ lg fr, lg = longK 9 ⟨9, a, i, o, b, n, p, ord, sh, bar, nest, saw, weig, lift, per⟩ → fr = farK 9 ⟨9, a, i, o, b, n, p, ord, sh, bar, nest, saw, weig, lift, per⟩ → Post (.ret (.tuple #[])) [eventC ⟨9, a, i, o, b, n, p, ord, sh, bar, nest, saw, weig, lift, per⟩, [.bool lg, .bool fr]] := by rintro _ _ rfl rfl; exact hP
 refine spec_X (conts := [eventC ⟨9, a, i, o, b, n, p, ord, sh, bar, nest, saw, weig, lift, per⟩, [.bool false, .bool false]]) callC2_ok mixed (by kernel_rfl) (by kernel_rfl) [] (e_lim9 ⟨9, a, i, o, b, n, p, ord, sh, bar, nest, saw, weig, lift, per⟩ _ _) ?_
 simp only [true_and, and_true]
 repeat' (first | exact rfl | refine pIfD (fun _ => ?_) (fun _ => ?_) | refine pIfN (fun h => absurd rfl h) (fun _ => ?_) | refine And.intro ?_ ?_ | trivial | decide | (refine hX _ _ ?_ ?_ <;> (simp [longK, farK, big, off]; try omega)))
theorem e_lim10 (x : Event) (H : HT) (Post : PX) : vcX Tryz.prog callC2 22 [] [(.int .i64 10 :: (eventC x).tail), [.bool false, .bool false]] argsLim H Post = (let q1 := ((T32 (T8 (True))) ∧ (T2 (True)) ∧ True) ∧ True; let q2 := Out.ret (Value.tuple #[]); let q4 := True ∧ 2 ≤ 2 ∧ T8 (True ∧ q1 ∧ true = true ∧ Post q2 [(evK 10 x), [vb true, vb true]]); let q3 := True ∧ 2 ≤ 2 ∧ T8 (True ∧ q1 ∧ true = true ∧ Post q2 [(evK 10 x), [vb false, vb true]]); T32 (T16 (pIf (decide ((↑x.item.size : Int) > 64)) (T2 (True ∧ 1 ≤ 2 ∧ T16 (T2 (True ∧ pIf (decide (x.n < 1)) (T4 q4) (T4 (T2 (True ∧ pIf (decide (x.n > 5)) (T2 q4) (T2 (True ∧ 2 ≤ 2 ∧ T8 (True ∧ q1 ∧ true = true ∧ Post q2 [(evK 10 x), [vb true, vb false]])))))))))) (T2 (True ∧ 1 ≤ 2 ∧ T16 (T2 (True ∧ pIf (decide (x.n < 1)) (T4 q3) (T4 (T2 (True ∧ pIf (decide (x.n > 5)) (T2 q3) (T2 (True ∧ 2 ≤ 2 ∧ T8 (True ∧ q1 ∧ true = true ∧ Post q2 [(evK 10 x), [vb false, vb false]]))))))))))))) := by kernel_rfl
theorem e_lim11 (x : Event) (H : HT) (Post : PX) : vcX Tryz.prog callC2 22 [] [(.int .i64 11 :: (eventC x).tail), [.bool false, .bool false]] argsLim H Post = (let q2 := (toI (vi 0) ≤ w64 (w64 (0 + 1) + 1) ∧ toI (vi (w64 (w64 (0 + 1) + 1))) < (↑3 : Int)); let q1 := True ∧ 1 ≤ 2 ∧ T4 ((((T32 (T8 (True))) ∧ (T2 (True)) ∧ True) ∧ True) ∧ true = true ∧ Post (Out.ret (Value.tuple #[])) [(evK 11 x), [vb true, vb false]]); T32 (T8 (T2 (True ∧ (toI (vi 0) ≤ 0 ∧ toI (vi 0) < (↑3 : Int)) ∧ T8 (T4 (T2 (True ∧ pIf (decide ((↑x.item.size : Int) > 64)) (T2 (True ∧ 1 ≤ 2 ∧ T2 (True ∧ (toI (vi 0) ≤ w64 (0 + 1) ∧ toI (vi (w64 (0 + 1))) < (↑3 : Int)) ∧ T8 (T4 (True ∧ 1 ≤ 2 ∧ T2 (True ∧ q2 ∧ T8 (T4 q1))))))) (T2 (True ∧ 1 ≤ 2 ∧ T2 (True ∧ (toI (vi 0) ≤ w64 (0 + 1) ∧ toI (vi (w64 (0 + 1))) < (↑3 : Int)) ∧ T8 (T4 (T2 (True ∧ pIf (decide ((↑x.of_.size : Int) > 64)) (T2 (True ∧ 1 ≤ 2 ∧ T2 (True ∧ q2 ∧ T8 (T4 q1)))) (T2 (True ∧ 1 ≤ 2 ∧ T2 (True ∧ q2 ∧ T8 (T4 (T2 (True ∧ pIf (decide ((↑x.by_.size : Int) > 64)) (T2 q1) (T2 (True ∧ 1 ≤ 2 ∧ T4 ((((T32 (T8 (True))) ∧ (T2 (True)) ∧ True) ∧ True) ∧ true = true ∧ Post (Out.ret (Value.tuple #[])) [(evK 11 x), [vb false, vb false]])))))))))))))))))))))) := by kernel_rfl
theorem e_lim12 (x : Event) (H : HT) (Post : PX) : vcX Tryz.prog callC2 22 [] [(.int .i64 12 :: (eventC x).tail), [.bool false, .bool false]] argsLim H Post = (T32 (T8 (pIf (decide ((↑x.item.size : Int) > 64)) (T2 (True ∧ 1 ≤ 2 ∧ True ∧ (((T32 (T8 (True))) ∧ (T2 (True)) ∧ True) ∧ True) ∧ true = true ∧ Post (Out.ret (Value.tuple #[])) [(evK 12 x), [vb true, vb false]])) (T2 (True ∧ 1 ≤ 2 ∧ True ∧ (((T32 (T8 (True))) ∧ (T2 (True)) ∧ True) ∧ True) ∧ true = true ∧ Post (Out.ret (Value.tuple #[])) [(evK 12 x), [vb false, vb false]]))))) := by kernel_rfl
theorem e_lim13 (x : Event) (H : HT) (Post : PX) : vcX Tryz.prog callC2 22 [] [(.int .i64 13 :: (eventC x).tail), [.bool false, .bool false]] argsLim H Post = (let q3 := (toI (vi 0) ≤ w64 (w64 (w64 (w64 (0 + 1) + 1) + 1) + 1) ∧ toI (vi (w64 (w64 (w64 (w64 (0 + 1) + 1) + 1) + 1))) < (↑5 : Int)); let q10 := ((T32 (T8 (True))) ∧ (T2 (True)) ∧ True) ∧ True; let q5 := True ∧ 2 ≤ 2 ∧ T4 (q10 ∧ true = true ∧ Post (Out.ret (Value.tuple #[])) [(evK 13 x), [vb false, vb true]]); let q13 := True ∧ 2 ≤ 2 ∧ T2 (True ∧ q3 ∧ T8 (T4 (T2 q5))); let q6 := True ∧ 2 ≤ 2 ∧ T4 (q10 ∧ true = true ∧ Post (Out.ret (Value.tuple #[])) [(evK 13 x), [vb true, vb true]]); let q12 := True ∧ 2 ≤ 2 ∧ T2 (True ∧ q3 ∧ T8 (T4 (T2 q6))); let q4 := (toI (vi 0) ≤ w64 (w64 (0 + 1) + 1) ∧ toI (vi (w64 (w64 (0 + 1) + 1))) < (↑5 : Int)); let q8 := (toI (vi 0) ≤ w64 (w64 (w64 (0 + 1) + 1) + 1) ∧ toI (vi (w64 (w64 (w64 (0 + 1) + 1) + 1))) < (↑5 : Int)); let q1 := True ∧ 2 ≤ 2 ∧ T2 (True ∧ q8 ∧ T8 (T4 (T2 q13))); let q11 := True ∧ 2 ≤ 2 ∧ T2 (True ∧ q4 ∧ T8 (T4 (T2 q1))); let q2 := True ∧ 2 ≤ 2 ∧ T2 (True ∧ q8 ∧ T8 (T4 (T2 q12))); let q9 := True ∧ 2 ≤ 2 ∧ T2 (True ∧ q4 ∧ T8 (T4 (T2 q2))); let q7 := (toI (vi 0) ≤ w64 (0 + 1) ∧ toI (vi (w64 (0 + 1))) < (↑5 : Int)); T32 (T16 (T4 (T2 (pIf (decide ((↑x.weig.block.size : Int) > 64)) (T2 (True ∧ 1 ≤ 2 ∧ T16 (T8 (True ∧ (toI (vi 0) ≤ 0 ∧ toI (vi 0) < (↑5 : Int)) ∧ T8 (T4 (T2 (True ∧ pIf (decide (x.weig.mass < -1099511627776)) (T4 (True ∧ 2 ≤ 2 ∧ T2 (True ∧ q7 ∧ T8 (T4 (T2 q9))))) (T4 (T2 (True ∧ pIf (decide (x.weig.mass > 1099511627776)) (T2 (True ∧ 2 ≤ 2 ∧ T2 (True ∧ q7 ∧ T8 (T4 (T2 q9))))) (T2 (True ∧ 2 ≤ 2 ∧ T2 (True ∧ q7 ∧ T8 (T4 (T2 (True ∧ pIf (decide (x.weig.centre.x < -1099511627776)) (T4 q9) (T4 (T2 (True ∧ pIf (decide (x.weig.centre.x > 1099511627776)) (T2 q9) (T2 (True ∧ 2 ≤ 2 ∧ T2 (True ∧ q4 ∧ T8 (T4 (T2 (True ∧ pIf (decide (x.weig.centre.y < -1099511627776)) (T4 q2) (T4 (T2 (True ∧ pIf (decide (x.weig.centre.y > 1099511627776)) (T2 q2) (T2 (True ∧ 2 ≤ 2 ∧ T2 (True ∧ q8 ∧ T8 (T4 (T2 (True ∧ pIf (decide (x.weig.centre.z < -1099511627776)) (T4 q12) (T4 (T2 (True ∧ pIf (decide (x.weig.centre.z > 1099511627776)) (T2 q12) (T2 (True ∧ 2 ≤ 2 ∧ T2 (True ∧ q3 ∧ T8 (T4 (T2 (True ∧ pIf (decide (x.weig.sigma < -1099511627776)) (T4 q6) (T4 (T2 (True ∧ pIf (decide (x.weig.sigma > 1099511627776)) (T2 q6) (T2 (True ∧ 2 ≤ 2 ∧ T4 (q10 ∧ true = true ∧ Post (Out.ret (Value.tuple #[])) [(evK 13 x), [vb true, vb false]]))))))))))))))))))))))))))))))))))))))))))))))))) (T2 (True ∧ 1 ≤ 2 ∧ T16 (T8 (True ∧ (toI (vi 0) ≤ 0 ∧ toI (vi 0) < (↑5 : Int)) ∧ T8 (T4 (T2 (True ∧ pIf (decide (x.weig.mass < -1099511627776)) (T4 (True ∧ 2 ≤ 2 ∧ T2 (True ∧ q7 ∧ T8 (T4 (T2 q11))))) (T4 (T2 (True ∧ pIf (decide (x.weig.mass > 1099511627776)) (T2 (True ∧ 2 ≤ 2 ∧ T2 (True ∧ q7 ∧ T8 (T4 (T2 q11))))) (T2 (True ∧ 2 ≤ 2 ∧ T2 (True ∧ q7 ∧ T8 (T4 (T2 (True ∧ pIf (decide (x.weig.centre.x < -1099511627776)) (T4 q11) (T4 (T2 (True ∧ pIf (decide (x.weig.centre.x > 1099511627776)) (T2 q11) (T2 (True ∧ 2 ≤ 2 ∧ T2 (True ∧ q4 ∧ T8 (T4 (T2 (True ∧ pIf (decide (x.weig.centre.y < -1099511627776)) (T4 q1) (T4 (T2 (True ∧ pIf (decide (x.weig.centre.y > 1099511627776)) (T2 q1) (T2 (True ∧ 2 ≤ 2 ∧ T2 (True ∧ q8 ∧ T8 (T4 (T2 (True ∧ pIf (decide (x.weig.centre.z < -1099511627776)) (T4 q13) (T4 (T2 (True ∧ pIf (decide (x.weig.centre.z > 1099511627776)) (T2 q13) (T2 (True ∧ 2 ≤ 2 ∧ T2 (True ∧ q3 ∧ T8 (T4 (T2 (True ∧ pIf (decide (x.weig.sigma < -1099511627776)) (T4 q5) (T4 (T2 (True ∧ pIf (decide (x.weig.sigma > 1099511627776)) (T2 q5) (T2 (True ∧ 2 ≤ 2 ∧ T4 (q10 ∧ true = true ∧ Post (Out.ret (Value.tuple #[])) [(evK 13 x), [vb false, vb false]])))))))))))))))))))))))))))))))))))))))))))))))))))))) := by kernel_rfl
theorem e_lim15 (x : Event) (H : HT) (Post : PX) : vcX Tryz.prog callC2 22 [] [(.int .i64 15 :: (eventC x).tail), [.bool false, .bool false]] argsLim H Post = (let q3 := ((T32 (T8 (True))) ∧ (T2 (True)) ∧ True) ∧ True; let q7 := True ∧ 2 ≤ 2 ∧ T4 (q3 ∧ true = true ∧ Post (Out.ret (Value.tuple #[])) [(evK 15 x), [vb true, vb true]]); let q6 := True ∧ 2 ≤ 2 ∧ T4 (q3 ∧ true = true ∧ Post (Out.ret (Value.tuple #[])) [(evK 15 x), [vb false, vb true]]); let q5 := (toI (vi 0) ≤ w64 (w64 (0 + 1) + 1) ∧ toI (vi (w64 (w64 (0 + 1) + 1))) < (↑3 : Int)); let q4 := (toI (vi 0) ≤ w64 (0 + 1) ∧ toI (vi (w64 (0 + 1))) < (↑3 : Int)); let q2 := True ∧ 2 ≤ 2 ∧ T2 (True ∧ q5 ∧ T8 (T4 (T2 q7))); let q1 := True ∧ 2 ≤ 2 ∧ T2 (True ∧ q5 ∧ T8 (T4 (T2 q6))); T32 (T16 (T4 (T2 (True ∧ pIf (decide ((↑x.permit.id.size : Int) > 64)) (T2 (True ∧ 1 ≤ 2 ∧ T16 (T4 (True ∧ (toI (vi 0) ≤ 0 ∧ toI (vi 0) < (↑3 : Int)) ∧ T8 (T4 (T2 (True ∧ pIf (decide (x.permit.kind < -1099511627776)) (T4 (True ∧ 2 ≤ 2 ∧ T2 (True ∧ q4 ∧ T8 (T4 (T2 q2))))) (T4 (T2 (True ∧ pIf (decide (x.permit.kind > 1099511627776)) (T2 (True ∧ 2 ≤ 2 ∧ T2 (True ∧ q4 ∧ T8 (T4 (T2 q2))))) (T2 (True ∧ 2 ≤ 2 ∧ T2 (True ∧ q4 ∧ T8 (T4 (T2 (True ∧ pIf (decide (x.permit.time.a < -1099511627776)) (T4 q2) (T4 (T2 (True ∧ pIf (decide (x.permit.time.a > 1099511627776)) (T2 q2) (T2 (True ∧ 2 ≤ 2 ∧ T2 (True ∧ q5 ∧ T8 (T4 (T2 (True ∧ pIf (decide (x.permit.time.b < -1099511627776)) (T4 q7) (T4 (T2 (True ∧ pIf (decide (x.permit.time.b > 1099511627776)) (T2 q7) (T2 (True ∧ 2 ≤ 2 ∧ T4 (q3 ∧ true = true ∧ Post (Out.ret (Value.tuple #[])) [(evK 15 x), [vb true, vb false]]))))))))))))))))))))))))))))))) (T2 (True ∧ 1 ≤ 2 ∧ T16 (T4 (True ∧ (toI (vi 0) ≤ 0 ∧ toI (vi 0) < (↑3 : Int)) ∧ T8 (T4 (T2 (True ∧ pIf (decide (x.permit.kind < -1099511627776)) (T4 (True ∧ 2 ≤ 2 ∧ T2 (True ∧ q4 ∧ T8 (T4 (T2 q1))))) (T4 (T2 (True ∧ pIf (decide (x.permit.kind > 1099511627776)) (T2 (True ∧ 2 ≤ 2 ∧ T2 (True ∧ q4 ∧ T8 (T4 (T2 q1))))) (T2 (True ∧ 2 ≤ 2 ∧ T2 (True ∧ q4 ∧ T8 (T4 (T2 (True ∧ pIf (decide (x.permit.time.a < -1099511627776)) (T4 q1) (T4 (T2 (True ∧ pIf (decide (x.permit.time.a > 1099511627776)) (T2 q1) (T2 (True ∧ 2 ≤ 2 ∧ T2 (True ∧ q5 ∧ T8 (T4 (T2 (True ∧ pIf (decide (x.permit.time.b < -1099511627776)) (T4 q6) (T4 (T2 (True ∧ pIf (decide (x.permit.time.b > 1099511627776)) (T2 q6) (T2 (True ∧ 2 ≤ 2 ∧ T4 (q3 ∧ true = true ∧ Post (Out.ret (Value.tuple #[])) [(evK 15 x), [vb false, vb false]])))))))))))))))))))))))))))))))))))) := by kernel_rfl
theorem e_lim16 (x : Event) (H : HT) (Post : PX) : vcX Tryz.prog callC2 22 [] [(.int .i64 16 :: (eventC x).tail), [.bool false, .bool false]] argsLim H Post = (T32 (T8 (T2 (pIf (decide ((↑x.item.size : Int) > 64)) (T2 (True ∧ 1 ≤ 2 ∧ True ∧ (((T32 (T8 (True))) ∧ (T2 (True)) ∧ True) ∧ True) ∧ true = true ∧ Post (Out.ret (Value.tuple #[])) [(evK 16 x), [vb true, vb false]])) (T2 (True ∧ 1 ≤ 2 ∧ True ∧ (((T32 (T8 (True))) ∧ (T2 (True)) ∧ True) ∧ True) ∧ true = true ∧ Post (Out.ret (Value.tuple #[])) [(evK 16 x), [vb false, vb false]])))))) := by kernel_rfl
theorem e_lim17 (x : Event) (H : HT) (Post : PX) : vcX Tryz.prog callC2 22 [] [(.int .i64 17 :: (eventC x).tail), [.bool false, .bool false]] argsLim H Post = (T32 (T4 ((((T32 (T8 (True))) ∧ (T2 (True)) ∧ True) ∧ True) ∧ true = true ∧ Post (Out.ret (Value.tuple #[])) [(evK 17 x), [vb false, vb false]]))) := by kernel_rfl
theorem e_lim18 (x : Event) (H : HT) (Post : PX) : vcX Tryz.prog callC2 22 [] [(.int .i64 18 :: (eventC x).tail), [.bool false, .bool false]] argsLim H Post = (T32 (T4 ((((T32 (T8 (True))) ∧ (T2 (True)) ∧ True) ∧ True) ∧ true = true ∧ Post (Out.ret (Value.tuple #[])) [(evK 18 x), [vb false, vb false]]))) := by kernel_rfl
theorem lim10 {a : Int} {i o b : ByteArray} {n : Int} {p : Bool} {ord : Order2} {sh : Sheet6} {bar : Bar5} {nest : Nest3} {saw : Saw3} {weig : Weig} {lift : Lift2} {per : Permit3} {Post : Out → List (List Value) → Prop} (hP : Post (.ret (.tuple #[])) [eventC ⟨10, a, i, o, b, n, p, ord, sh, bar, nest, saw, weig, lift, per⟩, [.bool (longK 10 ⟨10, a, i, o, b, n, p, ord, sh, bar, nest, saw, weig, lift, per⟩), .bool (farK 10 ⟨10, a, i, o, b, n, p, ord, sh, bar, nest, saw, weig, lift, per⟩)]]) : SpecX Tryz.prog 22 2 (hpOf [eventC ⟨10, a, i, o, b, n, p, ord, sh, bar, nest, saw, weig, lift, per⟩, [.bool false, .bool false]]) argsLim (xpost 2 Post) := by
 have hX : ∀ lg fr, lg = longK 10 ⟨10, a, i, o, b, n, p, ord, sh, bar, nest, saw, weig, lift, per⟩ → fr = farK 10 ⟨10, a, i, o, b, n, p, ord, sh, bar, nest, saw, weig, lift, per⟩ → Post (.ret (.tuple #[])) [eventC ⟨10, a, i, o, b, n, p, ord, sh, bar, nest, saw, weig, lift, per⟩, [.bool lg, .bool fr]] := by rintro _ _ rfl rfl; exact hP
 refine spec_X (conts := [eventC ⟨10, a, i, o, b, n, p, ord, sh, bar, nest, saw, weig, lift, per⟩, [.bool false, .bool false]]) callC2_ok mixed (by kernel_rfl) (by kernel_rfl) [] (e_lim10 ⟨10, a, i, o, b, n, p, ord, sh, bar, nest, saw, weig, lift, per⟩ _ _) ?_
 simp only [true_and, and_true]
 repeat' (first | exact rfl | refine pIfD (fun _ => ?_) (fun _ => ?_) | refine pIfN (fun h => absurd rfl h) (fun _ => ?_) | refine And.intro ?_ ?_ | trivial | decide | (refine hX _ _ ?_ ?_ <;> (simp [longK, farK, big, off]; try omega)))
theorem lim11 {a : Int} {i o b : ByteArray} {n : Int} {p : Bool} {ord : Order2} {sh : Sheet6} {bar : Bar5} {nest : Nest3} {saw : Saw3} {weig : Weig} {lift : Lift2} {per : Permit3} {Post : Out → List (List Value) → Prop} (hP : Post (.ret (.tuple #[])) [eventC ⟨11, a, i, o, b, n, p, ord, sh, bar, nest, saw, weig, lift, per⟩, [.bool (longK 11 ⟨11, a, i, o, b, n, p, ord, sh, bar, nest, saw, weig, lift, per⟩), .bool (farK 11 ⟨11, a, i, o, b, n, p, ord, sh, bar, nest, saw, weig, lift, per⟩)]]) : SpecX Tryz.prog 22 2 (hpOf [eventC ⟨11, a, i, o, b, n, p, ord, sh, bar, nest, saw, weig, lift, per⟩, [.bool false, .bool false]]) argsLim (xpost 2 Post) := by
 have hX : ∀ lg fr, lg = longK 11 ⟨11, a, i, o, b, n, p, ord, sh, bar, nest, saw, weig, lift, per⟩ → fr = farK 11 ⟨11, a, i, o, b, n, p, ord, sh, bar, nest, saw, weig, lift, per⟩ → Post (.ret (.tuple #[])) [eventC ⟨11, a, i, o, b, n, p, ord, sh, bar, nest, saw, weig, lift, per⟩, [.bool lg, .bool fr]] := by rintro _ _ rfl rfl; exact hP
 refine spec_X (conts := [eventC ⟨11, a, i, o, b, n, p, ord, sh, bar, nest, saw, weig, lift, per⟩, [.bool false, .bool false]]) callC2_ok mixed (by kernel_rfl) (by kernel_rfl) [] (e_lim11 ⟨11, a, i, o, b, n, p, ord, sh, bar, nest, saw, weig, lift, per⟩ _ _) ?_
 simp only [true_and, and_true]
 repeat' (first | exact rfl | refine pIfD (fun _ => ?_) (fun _ => ?_) | refine pIfN (fun h => absurd rfl h) (fun _ => ?_) | refine And.intro ?_ ?_ | trivial | decide | (refine hX _ _ ?_ ?_ <;> (simp [longK, farK, big, off]; try omega)))
theorem lim12 {a : Int} {i o b : ByteArray} {n : Int} {p : Bool} {ord : Order2} {sh : Sheet6} {bar : Bar5} {nest : Nest3} {saw : Saw3} {weig : Weig} {lift : Lift2} {per : Permit3} {Post : Out → List (List Value) → Prop} (hP : Post (.ret (.tuple #[])) [eventC ⟨12, a, i, o, b, n, p, ord, sh, bar, nest, saw, weig, lift, per⟩, [.bool (longK 12 ⟨12, a, i, o, b, n, p, ord, sh, bar, nest, saw, weig, lift, per⟩), .bool (farK 12 ⟨12, a, i, o, b, n, p, ord, sh, bar, nest, saw, weig, lift, per⟩)]]) : SpecX Tryz.prog 22 2 (hpOf [eventC ⟨12, a, i, o, b, n, p, ord, sh, bar, nest, saw, weig, lift, per⟩, [.bool false, .bool false]]) argsLim (xpost 2 Post) := by
 have hX : ∀ lg fr, lg = longK 12 ⟨12, a, i, o, b, n, p, ord, sh, bar, nest, saw, weig, lift, per⟩ → fr = farK 12 ⟨12, a, i, o, b, n, p, ord, sh, bar, nest, saw, weig, lift, per⟩ → Post (.ret (.tuple #[])) [eventC ⟨12, a, i, o, b, n, p, ord, sh, bar, nest, saw, weig, lift, per⟩, [.bool lg, .bool fr]] := by rintro _ _ rfl rfl; exact hP
 refine spec_X (conts := [eventC ⟨12, a, i, o, b, n, p, ord, sh, bar, nest, saw, weig, lift, per⟩, [.bool false, .bool false]]) callC2_ok mixed (by kernel_rfl) (by kernel_rfl) [] (e_lim12 ⟨12, a, i, o, b, n, p, ord, sh, bar, nest, saw, weig, lift, per⟩ _ _) ?_
 simp only [true_and, and_true]
 repeat' (first | exact rfl | refine pIfD (fun _ => ?_) (fun _ => ?_) | refine pIfN (fun h => absurd rfl h) (fun _ => ?_) | refine And.intro ?_ ?_ | trivial | decide | (refine hX _ _ ?_ ?_ <;> (simp [longK, farK, big, off]; try omega)))
theorem lim13 {a : Int} {i o b : ByteArray} {n : Int} {p : Bool} {ord : Order2} {sh : Sheet6} {bar : Bar5} {nest : Nest3} {saw : Saw3} {weig : Weig} {lift : Lift2} {per : Permit3} {Post : Out → List (List Value) → Prop} (hP : Post (.ret (.tuple #[])) [eventC ⟨13, a, i, o, b, n, p, ord, sh, bar, nest, saw, weig, lift, per⟩, [.bool (longK 13 ⟨13, a, i, o, b, n, p, ord, sh, bar, nest, saw, weig, lift, per⟩), .bool (farK 13 ⟨13, a, i, o, b, n, p, ord, sh, bar, nest, saw, weig, lift, per⟩)]]) : SpecX Tryz.prog 22 2 (hpOf [eventC ⟨13, a, i, o, b, n, p, ord, sh, bar, nest, saw, weig, lift, per⟩, [.bool false, .bool false]]) argsLim (xpost 2 Post) := by
 have hX : ∀ lg fr, lg = longK 13 ⟨13, a, i, o, b, n, p, ord, sh, bar, nest, saw, weig, lift, per⟩ → fr = farK 13 ⟨13, a, i, o, b, n, p, ord, sh, bar, nest, saw, weig, lift, per⟩ → Post (.ret (.tuple #[])) [eventC ⟨13, a, i, o, b, n, p, ord, sh, bar, nest, saw, weig, lift, per⟩, [.bool lg, .bool fr]] := by rintro _ _ rfl rfl; exact hP
 refine spec_X (conts := [eventC ⟨13, a, i, o, b, n, p, ord, sh, bar, nest, saw, weig, lift, per⟩, [.bool false, .bool false]]) callC2_ok mixed (by kernel_rfl) (by kernel_rfl) [] (e_lim13 ⟨13, a, i, o, b, n, p, ord, sh, bar, nest, saw, weig, lift, per⟩ _ _) ?_
 simp only [true_and, and_true]
 repeat' (first | exact rfl | refine pIfD (fun _ => ?_) (fun _ => ?_) | refine pIfN (fun h => absurd rfl h) (fun _ => ?_) | refine And.intro ?_ ?_ | trivial | decide | (refine hX _ _ ?_ ?_ <;> (simp [longK, farK, big, off]; try omega)))
theorem lim15 {a : Int} {i o b : ByteArray} {n : Int} {p : Bool} {ord : Order2} {sh : Sheet6} {bar : Bar5} {nest : Nest3} {saw : Saw3} {weig : Weig} {lift : Lift2} {per : Permit3} {Post : Out → List (List Value) → Prop} (hP : Post (.ret (.tuple #[])) [eventC ⟨15, a, i, o, b, n, p, ord, sh, bar, nest, saw, weig, lift, per⟩, [.bool (longK 15 ⟨15, a, i, o, b, n, p, ord, sh, bar, nest, saw, weig, lift, per⟩), .bool (farK 15 ⟨15, a, i, o, b, n, p, ord, sh, bar, nest, saw, weig, lift, per⟩)]]) : SpecX Tryz.prog 22 2 (hpOf [eventC ⟨15, a, i, o, b, n, p, ord, sh, bar, nest, saw, weig, lift, per⟩, [.bool false, .bool false]]) argsLim (xpost 2 Post) := by
 have hX : ∀ lg fr, lg = longK 15 ⟨15, a, i, o, b, n, p, ord, sh, bar, nest, saw, weig, lift, per⟩ → fr = farK 15 ⟨15, a, i, o, b, n, p, ord, sh, bar, nest, saw, weig, lift, per⟩ → Post (.ret (.tuple #[])) [eventC ⟨15, a, i, o, b, n, p, ord, sh, bar, nest, saw, weig, lift, per⟩, [.bool lg, .bool fr]] := by rintro _ _ rfl rfl; exact hP
 refine spec_X (conts := [eventC ⟨15, a, i, o, b, n, p, ord, sh, bar, nest, saw, weig, lift, per⟩, [.bool false, .bool false]]) callC2_ok mixed (by kernel_rfl) (by kernel_rfl) [] (e_lim15 ⟨15, a, i, o, b, n, p, ord, sh, bar, nest, saw, weig, lift, per⟩ _ _) ?_
 simp only [true_and, and_true]
 repeat' (first | exact rfl | refine pIfD (fun _ => ?_) (fun _ => ?_) | refine pIfN (fun h => absurd rfl h) (fun _ => ?_) | refine And.intro ?_ ?_ | trivial | decide | (refine hX _ _ ?_ ?_ <;> (simp [longK, farK, big, off]; try omega)))
theorem lim16 {a : Int} {i o b : ByteArray} {n : Int} {p : Bool} {ord : Order2} {sh : Sheet6} {bar : Bar5} {nest : Nest3} {saw : Saw3} {weig : Weig} {lift : Lift2} {per : Permit3} {Post : Out → List (List Value) → Prop} (hP : Post (.ret (.tuple #[])) [eventC ⟨16, a, i, o, b, n, p, ord, sh, bar, nest, saw, weig, lift, per⟩, [.bool (longK 16 ⟨16, a, i, o, b, n, p, ord, sh, bar, nest, saw, weig, lift, per⟩), .bool (farK 16 ⟨16, a, i, o, b, n, p, ord, sh, bar, nest, saw, weig, lift, per⟩)]]) : SpecX Tryz.prog 22 2 (hpOf [eventC ⟨16, a, i, o, b, n, p, ord, sh, bar, nest, saw, weig, lift, per⟩, [.bool false, .bool false]]) argsLim (xpost 2 Post) := by
 have hX : ∀ lg fr, lg = longK 16 ⟨16, a, i, o, b, n, p, ord, sh, bar, nest, saw, weig, lift, per⟩ → fr = farK 16 ⟨16, a, i, o, b, n, p, ord, sh, bar, nest, saw, weig, lift, per⟩ → Post (.ret (.tuple #[])) [eventC ⟨16, a, i, o, b, n, p, ord, sh, bar, nest, saw, weig, lift, per⟩, [.bool lg, .bool fr]] := by rintro _ _ rfl rfl; exact hP
 refine spec_X (conts := [eventC ⟨16, a, i, o, b, n, p, ord, sh, bar, nest, saw, weig, lift, per⟩, [.bool false, .bool false]]) callC2_ok mixed (by kernel_rfl) (by kernel_rfl) [] (e_lim16 ⟨16, a, i, o, b, n, p, ord, sh, bar, nest, saw, weig, lift, per⟩ _ _) ?_
 simp only [true_and, and_true]
 repeat' (first | exact rfl | refine pIfD (fun _ => ?_) (fun _ => ?_) | refine pIfN (fun h => absurd rfl h) (fun _ => ?_) | refine And.intro ?_ ?_ | trivial | decide | (refine hX _ _ ?_ ?_ <;> (simp [longK, farK, big, off]; try omega)))
theorem lim17 {a : Int} {i o b : ByteArray} {n : Int} {p : Bool} {ord : Order2} {sh : Sheet6} {bar : Bar5} {nest : Nest3} {saw : Saw3} {weig : Weig} {lift : Lift2} {per : Permit3} {Post : Out → List (List Value) → Prop} (hP : Post (.ret (.tuple #[])) [eventC ⟨17, a, i, o, b, n, p, ord, sh, bar, nest, saw, weig, lift, per⟩, [.bool (longK 17 ⟨17, a, i, o, b, n, p, ord, sh, bar, nest, saw, weig, lift, per⟩), .bool (farK 17 ⟨17, a, i, o, b, n, p, ord, sh, bar, nest, saw, weig, lift, per⟩)]]) : SpecX Tryz.prog 22 2 (hpOf [eventC ⟨17, a, i, o, b, n, p, ord, sh, bar, nest, saw, weig, lift, per⟩, [.bool false, .bool false]]) argsLim (xpost 2 Post) := by
 have hX : ∀ lg fr, lg = longK 17 ⟨17, a, i, o, b, n, p, ord, sh, bar, nest, saw, weig, lift, per⟩ → fr = farK 17 ⟨17, a, i, o, b, n, p, ord, sh, bar, nest, saw, weig, lift, per⟩ → Post (.ret (.tuple #[])) [eventC ⟨17, a, i, o, b, n, p, ord, sh, bar, nest, saw, weig, lift, per⟩, [.bool lg, .bool fr]] := by rintro _ _ rfl rfl; exact hP
 refine spec_X (conts := [eventC ⟨17, a, i, o, b, n, p, ord, sh, bar, nest, saw, weig, lift, per⟩, [.bool false, .bool false]]) callC2_ok mixed (by kernel_rfl) (by kernel_rfl) [] (e_lim17 ⟨17, a, i, o, b, n, p, ord, sh, bar, nest, saw, weig, lift, per⟩ _ _) ?_
 simp only [true_and, and_true]
 repeat' (first | exact rfl | refine pIfD (fun _ => ?_) (fun _ => ?_) | refine pIfN (fun h => absurd rfl h) (fun _ => ?_) | refine And.intro ?_ ?_ | trivial | decide | (refine hX _ _ ?_ ?_ <;> (simp [longK, farK, big, off]; try omega)))
theorem lim18 {a : Int} {i o b : ByteArray} {n : Int} {p : Bool} {ord : Order2} {sh : Sheet6} {bar : Bar5} {nest : Nest3} {saw : Saw3} {weig : Weig} {lift : Lift2} {per : Permit3} {Post : Out → List (List Value) → Prop} (hP : Post (.ret (.tuple #[])) [eventC ⟨18, a, i, o, b, n, p, ord, sh, bar, nest, saw, weig, lift, per⟩, [.bool (longK 18 ⟨18, a, i, o, b, n, p, ord, sh, bar, nest, saw, weig, lift, per⟩), .bool (farK 18 ⟨18, a, i, o, b, n, p, ord, sh, bar, nest, saw, weig, lift, per⟩)]]) : SpecX Tryz.prog 22 2 (hpOf [eventC ⟨18, a, i, o, b, n, p, ord, sh, bar, nest, saw, weig, lift, per⟩, [.bool false, .bool false]]) argsLim (xpost 2 Post) := by
 have hX : ∀ lg fr, lg = longK 18 ⟨18, a, i, o, b, n, p, ord, sh, bar, nest, saw, weig, lift, per⟩ → fr = farK 18 ⟨18, a, i, o, b, n, p, ord, sh, bar, nest, saw, weig, lift, per⟩ → Post (.ret (.tuple #[])) [eventC ⟨18, a, i, o, b, n, p, ord, sh, bar, nest, saw, weig, lift, per⟩, [.bool lg, .bool fr]] := by rintro _ _ rfl rfl; exact hP
 refine spec_X (conts := [eventC ⟨18, a, i, o, b, n, p, ord, sh, bar, nest, saw, weig, lift, per⟩, [.bool false, .bool false]]) callC2_ok mixed (by kernel_rfl) (by kernel_rfl) [] (e_lim18 ⟨18, a, i, o, b, n, p, ord, sh, bar, nest, saw, weig, lift, per⟩ _ _) ?_
 simp only [true_and, and_true]
 repeat' (first | exact rfl | refine pIfD (fun _ => ?_) (fun _ => ?_) | refine pIfN (fun h => absurd rfl h) (fun _ => ?_) | refine And.intro ?_ ?_ | trivial | decide | (refine hX _ _ ?_ ?_ <;> (simp [longK, farK, big, off]; try omega)))
theorem e_lim5 (x : Event) (H : HT) (Post : PX) : vcX Tryz.prog callC2 22 [(19, [0, 1, 132, 133])] [(.int .i64 5 :: (eventC x).tail), [.bool false, .bool false]] argsLim H Post = (let t20 := [vs x.nest.sheet, vi x.nest.gap, Value.slice (some (Addr.mk 2 0 none)) (Int.toNat (↑x.nest.spots.length : Int)) 5, vs x.saw.bar, vi x.saw.kerf, tree 1 x.saw.parts.length (encL x.saw.parts), vs x.weig.block, vi x.weig.at_, vi x.weig.mass, vi x.weig.centre.x, vi x.weig.centre.y, vi x.weig.centre.z, vi x.weig.sigma, tree 1 x.weig.parts.length (encL x.weig.parts), vs x.lift.block, tree 4 x.lift.hooks.length (encL x.lift.hooks), vs x.permit.id, vi x.permit.kind, vi x.permit.time.a, vi x.permit.time.b]; let h20 := fun (t : List Value) => vi 5 :: vi x.at_ :: vs x.item :: vs x.of_ :: vs x.by_ :: vi x.n :: vb x.pass :: vs x.order.id :: tree 38 x.order.edits.length (encL x.order.edits) :: vs x.sheet.id :: vs x.sheet.grade :: vi x.sheet.thick :: vi x.sheet.long :: vi x.sheet.width :: vs x.sheet.heat :: vs x.bar.id :: vs x.bar.sect :: vs x.bar.grade :: vi x.bar.long :: vs x.bar.heat :: t; let q2 := (↑x.nest.spots.length : Int); let q5 := zrow (Int.toNat q2) [vz, vi 0, vi 0, vi 0, vb false]; let q11 := (2, some (AObj.cells q5 true)); let q10 := 0 ≤ q2 ∧ q2 ≤ q2 ∧ q2 ≤ 2 ^ 25; let q9 := (0, some (AObj.cells (evK 5 x) true)); let q8 := (0, some (AObj.cells (h20 t20) true)); let q7 := [(0, some (pt 0)), (1, some (Value.iface 67 (pt 1))), (132, some (vi q2)), (133, some (vi 0))]; let q6 := [(0, some (pt 0)), (1, some (Value.iface 67 (pt 1))), (132, some (vi (↑(Int.toNat q2) : Int))), (133, some (vi 0))]; let q4 := T2 (True ∧ 1 ≤ 2 ∧ T8 (T2 (pIf (!decide (q2 = q2)) (T2 (q10 ∧ True ∧ 23 ≤ 40 ∧ T8 ((T2 (NLs q5 ∧ True)) ∧ H (lpC Tryz.prog 22 19) (lpK Tryz.prog 22 19) (stV q6 [q8, (1, some (AObj.cells [vb true, vb false] true)), q11] 3)))) (T8 ((T2 (True)) ∧ H (lpC Tryz.prog 22 19) (lpK Tryz.prog 22 19) (stV q7 [q9, (1, some (AObj.cells [vb true, vb false] true))] 2)))))); let q1 := T2 (True ∧ 1 ≤ 2 ∧ T8 (T2 (pIf (!decide (q2 = q2)) (T2 (q10 ∧ True ∧ 23 ≤ 40 ∧ T8 ((T2 (NLs q5 ∧ True)) ∧ H (lpC Tryz.prog 22 19) (lpK Tryz.prog 22 19) (stV q6 [q8, (1, some (AObj.cells [vb true, vb true] true)), q11] 3)))) (T8 ((T2 (True)) ∧ H (lpC Tryz.prog 22 19) (lpK Tryz.prog 22 19) (stV q7 [q9, (1, some (AObj.cells [vb true, vb true] true))] 2)))))); let q3 := True ∧ 2 ≤ 2 ∧ T16 (T8 (T2 (True ∧ pIf (decide (q2 > 32)) q1 (T2 (True ∧ 1 ≤ 2 ∧ T8 (T2 (pIf (!decide (q2 = q2)) (T2 (q10 ∧ True ∧ 23 ≤ 40 ∧ T8 ((T2 (NLs q5 ∧ True)) ∧ H (lpC Tryz.prog 22 19) (lpK Tryz.prog 22 19) (stV q6 [q8, (1, some (AObj.cells [vb false, vb true] true)), q11] 3)))) (T8 ((T2 (True)) ∧ H (lpC Tryz.prog 22 19) (lpK Tryz.prog 22 19) (stV q7 [q9, (1, some (AObj.cells [vb false, vb true] true))] 2)))))))))); T32 (True ∧ pIf (decide ((↑x.nest.sheet.size : Int) > 64)) (T2 (True ∧ 1 ≤ 2 ∧ T8 (T2 (True ∧ (toI (vi 0) ≤ 0 ∧ toI (vi 0) < (↑1 : Int)) ∧ T8 (T4 (T2 (True ∧ pIf (decide (x.nest.gap < -1099511627776)) (T4 (True ∧ 2 ≤ 2 ∧ T16 (T8 q1))) (T4 (T2 (True ∧ pIf (decide (x.nest.gap > 1099511627776)) (T2 (True ∧ 2 ≤ 2 ∧ T16 (T8 q1))) (T2 (True ∧ 2 ≤ 2 ∧ T16 (T8 q4))))))))))))) (T2 (True ∧ 1 ≤ 2 ∧ T8 (T2 (True ∧ (toI (vi 0) ≤ 0 ∧ toI (vi 0) < (↑1 : Int)) ∧ T8 (T4 (T2 (True ∧ pIf (decide (x.nest.gap < -1099511627776)) (T4 q3) (T4 (T2 (True ∧ pIf (decide (x.nest.gap > 1099511627776)) (T2 q3) (T2 (True ∧ 2 ≤ 2 ∧ T16 (T8 (T2 (True ∧ pIf (decide (q2 > 32)) q4 (T2 (True ∧ 1 ≤ 2 ∧ T8 (T2 (pIf (!decide (q2 = q2)) (T2 (q10 ∧ True ∧ 23 ≤ 40 ∧ T8 ((T2 (NLs q5 ∧ True)) ∧ H (lpC Tryz.prog 22 19) (lpK Tryz.prog 22 19) (stV q6 [q8, (1, some (AObj.cells [vb false, vb false] true)), q11] 3)))) (T8 ((T2 (True)) ∧ H (lpC Tryz.prog 22 19) (lpK Tryz.prog 22 19) (stV q7 [q9, (1, some (AObj.cells [vb false, vb false] true))] 2)))))))))))))))))))))))) := by kernel_rfl
theorem l_lim5 (x : Event) (lg fr : Bool) (i : Int) (H : HT) (Post : PX) : vcLX Tryz.prog callC2 22 argsLim [(19, [0, 1, 132, 133])] 2 19 (stV [(0, some (.pointer (some ⟨0, 0, none⟩))), (1, some (.iface 67 (.pointer (some ⟨1, 0, none⟩)))), (132, some (.int .i64 x.nest.spots.length)), (133, some (.int .i64 i))] [(0, some (.cells (.int .i64 5 :: (eventC x).tail) true)), (1, some (.cells [.bool lg, .bool fr] true))] 2) H Post = (let q12 := (0, some (AObj.cells (evK 5 x) true)); let q4 := (toI (vi 0) ≤ w64 (w64 (0 + 1) + 1) ∧ toI (vi (w64 (w64 (0 + 1) + 1))) < (↑3 : Int)); let q6 := [(0, some (pt 0)), (1, some (Value.iface 67 (pt 1))), (132, some (vi (↑x.nest.spots.length : Int))), (133, some (vi (w64 (i + 1))))]; let q3 := True ∧ 2 ≤ 2 ∧ T8 (T4 (T2 (True ∧ (T2 (True)) ∧ H (lpC Tryz.prog 22 19) (lpK Tryz.prog 22 19) (stV q6 [q12, (1, some (AObj.cells [vb true, vb true] true))] 2)))); let q11 := True ∧ 2 ≤ 2 ∧ T2 (True ∧ q4 ∧ T8 (T4 (T2 q3))); let q2 := True ∧ 2 ≤ 2 ∧ T8 (T4 (T2 (True ∧ (T2 (True)) ∧ H (lpC Tryz.prog 22 19) (lpK Tryz.prog 22 19) (stV q6 [q12, (1, some (AObj.cells [vb false, vb true] true))] 2)))); let q10 := True ∧ 2 ≤ 2 ∧ T2 (True ∧ q4 ∧ T8 (T4 (T2 q2))); let q9 := cellAt (encL x.nest.spots) (Int.toNat i) 3; let q8 := cellAt (encL x.nest.spots) (Int.toNat i) 2; let q7 := cellAt (encL x.nest.spots) (Int.toNat i) 1; let q5 := (toI (vi 0) ≤ w64 (0 + 1) ∧ toI (vi (w64 (0 + 1))) < (↑3 : Int)); let q1 := (T2 ((toI (vi 0) ≤ 0 ∧ toI (vi 0) < (↑3 : Int)) ∧ T8 (True ∧ pIf fr (T4 (T2 (2 ≤ 2 ∧ T2 (True ∧ q5 ∧ T8 (T4 (T2 q11)))))) (T2 (True ∧ cellAt (encL x.nest.spots) (Int.toNat i) 1 = vi (toI q7) ∧ T2 (pIf (decide (toI q7 < -1099511627776)) (T4 (True ∧ 2 ≤ 2 ∧ T2 (True ∧ q5 ∧ T8 (T4 (T2 q11))))) (T4 (cellAt (encL x.nest.spots) (Int.toNat i) 1 = vi (toI q7) ∧ T2 (pIf (decide (toI q7 > 1099511627776)) (T2 (True ∧ 2 ≤ 2 ∧ T2 (True ∧ q5 ∧ T8 (T4 (T2 q11))))) (T2 (True ∧ 2 ≤ 2 ∧ T2 (True ∧ q5 ∧ T8 (T4 (cellAt (encL x.nest.spots) (Int.toNat i) 2 = vi (toI q8) ∧ T2 (pIf (decide (toI q8 < -1099511627776)) (T4 q11) (T4 (cellAt (encL x.nest.spots) (Int.toNat i) 2 = vi (toI q8) ∧ T2 (pIf (decide (toI q8 > 1099511627776)) (T2 q11) (T2 (True ∧ 2 ≤ 2 ∧ T2 (True ∧ q4 ∧ T8 (T4 (cellAt (encL x.nest.spots) (Int.toNat i) 3 = vi (toI q9) ∧ T2 (pIf (decide (toI q9 < -1099511627776)) (T4 q3) (T4 (cellAt (encL x.nest.spots) (Int.toNat i) 3 = vi (toI q9) ∧ T2 (pIf (decide (toI q9 > 1099511627776)) (T2 q3) (T2 (True ∧ 2 ≤ 2 ∧ T8 (T4 (T2 (True ∧ (T2 (True)) ∧ H (lpC Tryz.prog 22 19) (lpK Tryz.prog 22 19) (stV q6 [q12, (1, some (AObj.cells [vb true, vb false] true))] 2))))))))))))))))))))))))))))))))); True ∧ pIf (decide (i < (↑x.nest.spots.length : Int))) (T8 ((0 ≤ i ∧ i < (↑x.nest.spots.length : Int)) ∧ T8 (T4 (True ∧ pIf lg (T4 (1 ≤ 2 ∧ T16 q1)) (T2 (True ∧ cellAt (encL x.nest.spots) (Int.toNat i) 0 = vs (toS (cellAt (encL x.nest.spots) (Int.toNat i) 0)) ∧ T2 (pIf (decide ((↑(ByteArray.size (toS (cellAt (encL x.nest.spots) (Int.toNat i) 0))) : Int) > 64)) (T2 (True ∧ 1 ≤ 2 ∧ T16 q1)) (T2 (True ∧ 1 ≤ 2 ∧ T16 (T2 ((toI (vi 0) ≤ 0 ∧ toI (vi 0) < (↑3 : Int)) ∧ T8 (True ∧ pIf fr (T4 (T2 (2 ≤ 2 ∧ T2 (True ∧ q5 ∧ T8 (T4 (T2 q10)))))) (T2 (True ∧ cellAt (encL x.nest.spots) (Int.toNat i) 1 = vi (toI q7) ∧ T2 (pIf (decide (toI q7 < -1099511627776)) (T4 (True ∧ 2 ≤ 2 ∧ T2 (True ∧ q5 ∧ T8 (T4 (T2 q10))))) (T4 (cellAt (encL x.nest.spots) (Int.toNat i) 1 = vi (toI q7) ∧ T2 (pIf (decide (toI q7 > 1099511627776)) (T2 (True ∧ 2 ≤ 2 ∧ T2 (True ∧ q5 ∧ T8 (T4 (T2 q10))))) (T2 (True ∧ 2 ≤ 2 ∧ T2 (True ∧ q5 ∧ T8 (T4 (cellAt (encL x.nest.spots) (Int.toNat i) 2 = vi (toI q8) ∧ T2 (pIf (decide (toI q8 < -1099511627776)) (T4 q10) (T4 (cellAt (encL x.nest.spots) (Int.toNat i) 2 = vi (toI q8) ∧ T2 (pIf (decide (toI q8 > 1099511627776)) (T2 q10) (T2 (True ∧ 2 ≤ 2 ∧ T2 (True ∧ q4 ∧ T8 (T4 (cellAt (encL x.nest.spots) (Int.toNat i) 3 = vi (toI q9) ∧ T2 (pIf (decide (toI q9 < -1099511627776)) (T4 q2) (T4 (cellAt (encL x.nest.spots) (Int.toNat i) 3 = vi (toI q9) ∧ T2 (pIf (decide (toI q9 > 1099511627776)) (T2 q2) (T2 (True ∧ 2 ≤ 2 ∧ T8 (T4 (T2 (True ∧ (T2 (True)) ∧ H (lpC Tryz.prog 22 19) (lpK Tryz.prog 22 19) (stV q6 [q12, (1, some (AObj.cells [vb false, vb false] true))] 2)))))))))))))))))))))))))))))))))))))))))) ((((T32 (T8 (True))) ∧ (T2 (True)) ∧ True) ∧ True) ∧ true = true ∧ Post (Out.ret (Value.tuple #[])) [(evK 5 x), [vb lg, vb fr]])) := by kernel_rfl
theorem lim5 {a : Int} {i o b : ByteArray} {n : Int} {p : Bool} {ord : Order2} {sh : Sheet6} {bar : Bar5} {nest : Nest3} {saw : Saw3} {weig : Weig} {lift : Lift2} {per : Permit3} (hs : nest.spots.length < 2 ^ 62) {Post : Out → List (List Value) → Prop} (hP : Post (.ret (.tuple #[])) [eventC ⟨5, a, i, o, b, n, p, ord, sh, bar, nest, saw, weig, lift, per⟩, [.bool (longK 5 ⟨5, a, i, o, b, n, p, ord, sh, bar, nest, saw, weig, lift, per⟩), .bool (farK 5 ⟨5, a, i, o, b, n, p, ord, sh, bar, nest, saw, weig, lift, per⟩)]]) : SpecX Tryz.prog 22 2 (hpOf [eventC ⟨5, a, i, o, b, n, p, ord, sh, bar, nest, saw, weig, lift, per⟩, [.bool false, .bool false]]) argsLim (xpost 2 Post) := by
 have hF : ∀ lg fr, lg = longK 5 ⟨5, a, i, o, b, n, p, ord, sh, bar, nest, saw, weig, lift, per⟩ → fr = farK 5 ⟨5, a, i, o, b, n, p, ord, sh, bar, nest, saw, weig, lift, per⟩ → Post (.ret (.tuple #[])) [eventC ⟨5, a, i, o, b, n, p, ord, sh, bar, nest, saw, weig, lift, per⟩, [.bool lg, .bool fr]] := by rintro _ _ rfl rfl; exact hP
 have key := down (n := nest.spots.length) (p := fun k => ∀ lg fr, lg = (big nest.sheet || decide (32 < nest.spots.length) || (nest.spots.take k).any (fun s => big s.part)) → fr = (off nest.gap || (nest.spots.take k).any offSpot) → OkX Tryz.prog 22 argsLim 2 Post (lpC Tryz.prog 22 19) (lpK Tryz.prog 22 19) (stV [(0, some (.pointer (some ⟨0, 0, none⟩))), (1, some (.iface 67 (.pointer (some ⟨1, 0, none⟩)))), (132, some (.int .i64 nest.spots.length)), (133, some (.int .i64 k))] [(0, some (.cells (eventC ⟨5, a, i, o, b, n, p, ord, sh, bar, nest, saw, weig, lift, per⟩) true)), (1, some (.cells [.bool lg, .bool fr] true))] 2)) (fun lg fr hl hf => ?_) (fun k hk ih lg fr hl hf => ?_)
 ·have hX : ∀ lg fr, lg = (big nest.sheet || decide (32 < nest.spots.length)) → fr = (off nest.gap) → OkX Tryz.prog 22 argsLim 2 Post (lpC Tryz.prog 22 19) (lpK Tryz.prog 22 19) (stV [(0, some (.pointer (some ⟨0, 0, none⟩))), (1, some (.iface 67 (.pointer (some ⟨1, 0, none⟩)))), (132, some (.int .i64 nest.spots.length)), (133, some (.int .i64 (0 : Nat)))] [(0, some (.cells (eventC ⟨5, a, i, o, b, n, p, ord, sh, bar, nest, saw, weig, lift, per⟩) true)), (1, some (.cells [.bool lg, .bool fr] true))] 2) := fun lg fr h1 h2 => key lg fr (by rw [h1]; simp) (by rw [h2]; simp)
  refine spec_X (conts := [eventC ⟨5, a, i, o, b, n, p, ord, sh, bar, nest, saw, weig, lift, per⟩, [.bool false, .bool false]]) callC2_ok mixed (by kernel_rfl) (by kernel_rfl) [(19, [0, 1, 132, 133])] (e_lim5 ⟨5, a, i, o, b, n, p, ord, sh, bar, nest, saw, weig, lift, per⟩ _ _) ?_
  simp only [true_and, and_true]
  repeat' (first | exact rfl | refine pIfD (fun _ => ?_) (fun _ => ?_) | refine pIfN (fun h => absurd rfl h) (fun _ => ?_) | refine And.intro ?_ ?_ | trivial | decide | (refine hX _ _ ?_ ?_ <;> (simp [longK, farK, big, off]; try omega)))
 ·refine ok_X callC2_ok mixed [(19, [0, 1, 132, 133])] (l_lim5 ⟨5, a, i, o, b, n, p, ord, sh, bar, nest, saw, weig, lift, per⟩ lg fr _ _ _) ?_
  simp only [true_and, and_true]
  refine pIfD (fun hh => absurd hh (by omega)) (fun _ => ?_)
  rw [List.take_of_length_le (Nat.le_refl _)] at hl hf
  repeat' (first | exact rfl | refine And.intro ?_ ?_ | trivial | decide | exact hF _ _ (by rw [hl]; simp [longK]) (by rw [hf]; simp [farK]))
 ·refine ok_X callC2_ok mixed [(19, [0, 1, 132, 133])] (l_lim5 ⟨5, a, i, o, b, n, p, ord, sh, bar, nest, saw, weig, lift, per⟩ lg fr _ _ _) ?_
  have ek : ((k : Nat) : Int).toNat = k := by omega
  have el : nest.spots[k]? = some nest.spots[k] := List.getElem?_eq_getElem hk
  have hX : ∀ lg' fr', lg' = (lg || (fun s => big s.part) nest.spots[k]) → fr' = (fr || offSpot nest.spots[k]) → OkX Tryz.prog 22 argsLim 2 Post (lpC Tryz.prog 22 19) (lpK Tryz.prog 22 19) (stV [(0, some (.pointer (some ⟨0, 0, none⟩))), (1, some (.iface 67 (.pointer (some ⟨1, 0, none⟩)))), (132, some (.int .i64 nest.spots.length)), (133, some (.int .i64 ((k + 1 : Nat) : Int)))] [(0, some (.cells (eventC ⟨5, a, i, o, b, n, p, ord, sh, bar, nest, saw, weig, lift, per⟩) true)), (1, some (.cells [.bool lg', .bool fr'] true))] 2) := fun lg' fr' h1 h2 => ih lg' fr' (by rw [h1, hl, any_take hk]; simp [Bool.or_assoc]) (by rw [h2, hf, any_take hk]; simp [Bool.or_assoc])
  have hs := hs
  clear ih hP hF hl hf
  simp only [true_and, and_true, ek, wrapSucc (show k < 2 ^ 62 by omega), cell_spot hk, spotC, List.getElem?_cons_succ, List.getElem?_cons_zero, Option.getD_some, toI, toS, toB]
  repeat' (first | exact rfl | refine pIfD (fun _ => ?_) (fun _ => ?_) | refine pIf_intro (fun _ => ?_) (fun _ => ?_) | refine And.intro ?_ ?_ | trivial | decide | omega | (refine hX _ _ ?_ ?_ <;> first | (simp_all [big, off, offSpot, offHook]; done) | (simp_all [big, off, offSpot, offHook]; omega)))
theorem e_lim6 (x : Event) (H : HT) (Post : PX) : vcX Tryz.prog callC2 22 [(31, [0, 1, 203, 204])] [(.int .i64 6 :: (eventC x).tail), [.bool false, .bool false]] argsLim H Post = (let t20 := [vs x.nest.sheet, vi x.nest.gap, tree 5 x.nest.spots.length (encL x.nest.spots), vs x.saw.bar, vi x.saw.kerf, Value.slice (some (Addr.mk 2 0 none)) (Int.toNat (↑x.saw.parts.length : Int)) 1, vs x.weig.block, vi x.weig.at_, vi x.weig.mass, vi x.weig.centre.x, vi x.weig.centre.y, vi x.weig.centre.z, vi x.weig.sigma, tree 1 x.weig.parts.length (encL x.weig.parts), vs x.lift.block, tree 4 x.lift.hooks.length (encL x.lift.hooks), vs x.permit.id, vi x.permit.kind, vi x.permit.time.a, vi x.permit.time.b]; let h20 := fun (t : List Value) => vi 6 :: vi x.at_ :: vs x.item :: vs x.of_ :: vs x.by_ :: vi x.n :: vb x.pass :: vs x.order.id :: tree 38 x.order.edits.length (encL x.order.edits) :: vs x.sheet.id :: vs x.sheet.grade :: vi x.sheet.thick :: vi x.sheet.long :: vi x.sheet.width :: vs x.sheet.heat :: vs x.bar.id :: vs x.bar.sect :: vs x.bar.grade :: vi x.bar.long :: vs x.bar.heat :: t; let q2 := (↑x.saw.parts.length : Int); let q7 := zrow (Int.toNat q2) [vz]; let q11 := (2, some (AObj.cells q7 true)); let q10 := 0 ≤ q2 ∧ q2 ≤ q2 ∧ q2 ≤ 2 ^ 25; let q9 := (0, some (AObj.cells (evK 6 x) true)); let q8 := (0, some (AObj.cells (h20 t20) true)); let q6 := [(0, some (pt 0)), (1, some (Value.iface 67 (pt 1))), (203, some (vi q2)), (204, some (vi 0))]; let q5 := [(0, some (pt 0)), (1, some (Value.iface 67 (pt 1))), (203, some (vi (↑(Int.toNat q2) : Int))), (204, some (vi 0))]; let q4 := T2 (True ∧ 1 ≤ 2 ∧ T8 (T2 (pIf (!decide (q2 = q2)) (T2 (q10 ∧ True ∧ 26 ≤ 40 ∧ T8 ((T2 (NLs q7 ∧ True)) ∧ H (lpC Tryz.prog 22 31) (lpK Tryz.prog 22 31) (stV q5 [q8, (1, some (AObj.cells [vb true, vb false] true)), q11] 3)))) (T8 ((T2 (True)) ∧ H (lpC Tryz.prog 22 31) (lpK Tryz.prog 22 31) (stV q6 [q9, (1, some (AObj.cells [vb true, vb false] true))] 2)))))); let q1 := T2 (True ∧ 1 ≤ 2 ∧ T8 (T2 (pIf (!decide (q2 = q2)) (T2 (q10 ∧ True ∧ 26 ≤ 40 ∧ T8 ((T2 (NLs q7 ∧ True)) ∧ H (lpC Tryz.prog 22 31) (lpK Tryz.prog 22 31) (stV q5 [q8, (1, some (AObj.cells [vb true, vb true] true)), q11] 3)))) (T8 ((T2 (True)) ∧ H (lpC Tryz.prog 22 31) (lpK Tryz.prog 22 31) (stV q6 [q9, (1, some (AObj.cells [vb true, vb true] true))] 2)))))); let q3 := True ∧ 2 ≤ 2 ∧ T16 (T8 (T2 (True ∧ pIf (decide (q2 > 24)) q1 (T2 (True ∧ 1 ≤ 2 ∧ T8 (T2 (pIf (!decide (q2 = q2)) (T2 (q10 ∧ True ∧ 26 ≤ 40 ∧ T8 ((T2 (NLs q7 ∧ True)) ∧ H (lpC Tryz.prog 22 31) (lpK Tryz.prog 22 31) (stV q5 [q8, (1, some (AObj.cells [vb false, vb true] true)), q11] 3)))) (T8 ((T2 (True)) ∧ H (lpC Tryz.prog 22 31) (lpK Tryz.prog 22 31) (stV q6 [q9, (1, some (AObj.cells [vb false, vb true] true))] 2)))))))))); T32 (T2 (True ∧ pIf (decide ((↑x.saw.bar.size : Int) > 64)) (T2 (True ∧ 1 ≤ 2 ∧ T8 (T2 (True ∧ (toI (vi 0) ≤ 0 ∧ toI (vi 0) < (↑1 : Int)) ∧ T8 (T4 (T2 (True ∧ pIf (decide (x.saw.kerf < -1099511627776)) (T4 (True ∧ 2 ≤ 2 ∧ T16 (T8 q1))) (T4 (T2 (True ∧ pIf (decide (x.saw.kerf > 1099511627776)) (T2 (True ∧ 2 ≤ 2 ∧ T16 (T8 q1))) (T2 (True ∧ 2 ≤ 2 ∧ T16 (T8 q4))))))))))))) (T2 (True ∧ 1 ≤ 2 ∧ T8 (T2 (True ∧ (toI (vi 0) ≤ 0 ∧ toI (vi 0) < (↑1 : Int)) ∧ T8 (T4 (T2 (True ∧ pIf (decide (x.saw.kerf < -1099511627776)) (T4 q3) (T4 (T2 (True ∧ pIf (decide (x.saw.kerf > 1099511627776)) (T2 q3) (T2 (True ∧ 2 ≤ 2 ∧ T16 (T8 (T2 (True ∧ pIf (decide (q2 > 24)) q4 (T2 (True ∧ 1 ≤ 2 ∧ T8 (T2 (pIf (!decide (q2 = q2)) (T2 (q10 ∧ True ∧ 26 ≤ 40 ∧ T8 ((T2 (NLs q7 ∧ True)) ∧ H (lpC Tryz.prog 22 31) (lpK Tryz.prog 22 31) (stV q5 [q8, (1, some (AObj.cells [vb false, vb false] true)), q11] 3)))) (T8 ((T2 (True)) ∧ H (lpC Tryz.prog 22 31) (lpK Tryz.prog 22 31) (stV q6 [q9, (1, some (AObj.cells [vb false, vb false] true))] 2))))))))))))))))))))))))) := by kernel_rfl
theorem l_lim6 (x : Event) (lg fr : Bool) (i : Int) (H : HT) (Post : PX) : vcLX Tryz.prog callC2 22 argsLim [(31, [0, 1, 203, 204])] 2 31 (stV [(0, some (.pointer (some ⟨0, 0, none⟩))), (1, some (.iface 67 (.pointer (some ⟨1, 0, none⟩)))), (203, some (.int .i64 x.saw.parts.length)), (204, some (.int .i64 i))] [(0, some (.cells (.int .i64 6 :: (eventC x).tail) true)), (1, some (.cells [.bool lg, .bool fr] true))] 2) H Post = (let q2 := [(0, some (pt 0)), (1, some (Value.iface 67 (pt 1))), (203, some (vi (↑x.saw.parts.length : Int))), (204, some (vi (w64 (i + 1))))]; let q1 := (T2 (True)) ∧ H (lpC Tryz.prog 22 31) (lpK Tryz.prog 22 31) (stV q2 [(0, some (AObj.cells (evK 6 x) true)), (1, some (AObj.cells [vb true, vb fr] true))] 2); True ∧ pIf (decide (i < (↑x.saw.parts.length : Int))) (T8 (True ∧ (0 ≤ i ∧ i < (↑x.saw.parts.length : Int)) ∧ T8 (pIf lg (T4 (1 ≤ 2 ∧ T4 q1)) (T2 (True ∧ cellAt (encL x.saw.parts) (Int.toNat i) 0 = vs (toS (cellAt (encL x.saw.parts) (Int.toNat i) 0)) ∧ T2 (pIf (decide ((↑(ByteArray.size (toS (cellAt (encL x.saw.parts) (Int.toNat i) 0))) : Int) > 64)) (T2 (True ∧ 1 ≤ 2 ∧ T4 q1)) (T2 (True ∧ 1 ≤ 2 ∧ T4 ((T2 (True)) ∧ H (lpC Tryz.prog 22 31) (lpK Tryz.prog 22 31) (stV q2 [(0, some (AObj.cells (evK 6 x) true)), (1, some (AObj.cells [vb false, vb fr] true))] 2)))))))))) ((((T32 (T8 (True))) ∧ (T2 (True)) ∧ True) ∧ True) ∧ true = true ∧ Post (Out.ret (Value.tuple #[])) [(evK 6 x), [vb lg, vb fr]])) := by kernel_rfl
theorem lim6 {a : Int} {i o b : ByteArray} {n : Int} {p : Bool} {ord : Order2} {sh : Sheet6} {bar : Bar5} {nest : Nest3} {saw : Saw3} {weig : Weig} {lift : Lift2} {per : Permit3} (hs : saw.parts.length < 2 ^ 62) {Post : Out → List (List Value) → Prop} (hP : Post (.ret (.tuple #[])) [eventC ⟨6, a, i, o, b, n, p, ord, sh, bar, nest, saw, weig, lift, per⟩, [.bool (longK 6 ⟨6, a, i, o, b, n, p, ord, sh, bar, nest, saw, weig, lift, per⟩), .bool (farK 6 ⟨6, a, i, o, b, n, p, ord, sh, bar, nest, saw, weig, lift, per⟩)]]) : SpecX Tryz.prog 22 2 (hpOf [eventC ⟨6, a, i, o, b, n, p, ord, sh, bar, nest, saw, weig, lift, per⟩, [.bool false, .bool false]]) argsLim (xpost 2 Post) := by
 have hF : ∀ lg fr, lg = longK 6 ⟨6, a, i, o, b, n, p, ord, sh, bar, nest, saw, weig, lift, per⟩ → fr = farK 6 ⟨6, a, i, o, b, n, p, ord, sh, bar, nest, saw, weig, lift, per⟩ → Post (.ret (.tuple #[])) [eventC ⟨6, a, i, o, b, n, p, ord, sh, bar, nest, saw, weig, lift, per⟩, [.bool lg, .bool fr]] := by rintro _ _ rfl rfl; exact hP
 have key := down (n := saw.parts.length) (p := fun k => ∀ lg fr, lg = (big saw.bar || decide (24 < saw.parts.length) || (saw.parts.take k).any (big)) → fr = (off saw.kerf) → OkX Tryz.prog 22 argsLim 2 Post (lpC Tryz.prog 22 31) (lpK Tryz.prog 22 31) (stV [(0, some (.pointer (some ⟨0, 0, none⟩))), (1, some (.iface 67 (.pointer (some ⟨1, 0, none⟩)))), (203, some (.int .i64 saw.parts.length)), (204, some (.int .i64 k))] [(0, some (.cells (eventC ⟨6, a, i, o, b, n, p, ord, sh, bar, nest, saw, weig, lift, per⟩) true)), (1, some (.cells [.bool lg, .bool fr] true))] 2)) (fun lg fr hl hf => ?_) (fun k hk ih lg fr hl hf => ?_)
 ·have hX : ∀ lg fr, lg = (big saw.bar || decide (24 < saw.parts.length)) → fr = (off saw.kerf) → OkX Tryz.prog 22 argsLim 2 Post (lpC Tryz.prog 22 31) (lpK Tryz.prog 22 31) (stV [(0, some (.pointer (some ⟨0, 0, none⟩))), (1, some (.iface 67 (.pointer (some ⟨1, 0, none⟩)))), (203, some (.int .i64 saw.parts.length)), (204, some (.int .i64 (0 : Nat)))] [(0, some (.cells (eventC ⟨6, a, i, o, b, n, p, ord, sh, bar, nest, saw, weig, lift, per⟩) true)), (1, some (.cells [.bool lg, .bool fr] true))] 2) := fun lg fr h1 h2 => key lg fr (by rw [h1]; simp) (by rw [h2])
  refine spec_X (conts := [eventC ⟨6, a, i, o, b, n, p, ord, sh, bar, nest, saw, weig, lift, per⟩, [.bool false, .bool false]]) callC2_ok mixed (by kernel_rfl) (by kernel_rfl) [(31, [0, 1, 203, 204])] (e_lim6 ⟨6, a, i, o, b, n, p, ord, sh, bar, nest, saw, weig, lift, per⟩ _ _) ?_
  simp only [true_and, and_true]
  repeat' (first | exact rfl | refine pIfD (fun _ => ?_) (fun _ => ?_) | refine pIfN (fun h => absurd rfl h) (fun _ => ?_) | refine And.intro ?_ ?_ | trivial | decide | (refine hX _ _ ?_ ?_ <;> (simp [longK, farK, big, off]; try omega)))
 ·refine ok_X callC2_ok mixed [(31, [0, 1, 203, 204])] (l_lim6 ⟨6, a, i, o, b, n, p, ord, sh, bar, nest, saw, weig, lift, per⟩ lg fr _ _ _) ?_
  simp only [true_and, and_true]
  refine pIfD (fun hh => absurd hh (by omega)) (fun _ => ?_)
  rw [List.take_of_length_le (Nat.le_refl _)] at hl
  repeat' (first | exact rfl | refine And.intro ?_ ?_ | trivial | decide | exact hF _ _ (by rw [hl]; simp [longK]) (by rw [hf]; simp [farK]))
 ·refine ok_X callC2_ok mixed [(31, [0, 1, 203, 204])] (l_lim6 ⟨6, a, i, o, b, n, p, ord, sh, bar, nest, saw, weig, lift, per⟩ lg fr _ _ _) ?_
  have ek : ((k : Nat) : Int).toNat = k := by omega
  have el : saw.parts[k]? = some saw.parts[k] := List.getElem?_eq_getElem hk
  have hX : ∀ lg' fr', lg' = (lg || (big) saw.parts[k]) → fr' = fr → OkX Tryz.prog 22 argsLim 2 Post (lpC Tryz.prog 22 31) (lpK Tryz.prog 22 31) (stV [(0, some (.pointer (some ⟨0, 0, none⟩))), (1, some (.iface 67 (.pointer (some ⟨1, 0, none⟩)))), (203, some (.int .i64 saw.parts.length)), (204, some (.int .i64 ((k + 1 : Nat) : Int)))] [(0, some (.cells (eventC ⟨6, a, i, o, b, n, p, ord, sh, bar, nest, saw, weig, lift, per⟩) true)), (1, some (.cells [.bool lg', .bool fr'] true))] 2) := fun lg' fr' h1 h2 => ih lg' fr' (by rw [h1, hl, any_take hk]; simp [Bool.or_assoc]) (by rw [h2, hf])
  have hs := hs
  clear ih hP hF hl hf
  simp only [true_and, and_true, ek, wrapSucc (show k < 2 ^ 62 by omega), cell_name hk, List.getElem?_cons_succ, List.getElem?_cons_zero, Option.getD_some, toI, toS, toB]
  repeat' (first | exact rfl | refine pIfD (fun _ => ?_) (fun _ => ?_) | refine pIf_intro (fun _ => ?_) (fun _ => ?_) | refine And.intro ?_ ?_ | trivial | decide | omega | (refine hX _ _ ?_ ?_ <;> first | (simp_all [big, off, offSpot, offHook]; done) | (simp_all [big, off, offSpot, offHook]; omega)))
theorem e_lim14 (x : Event) (H : HT) (Post : PX) : vcX Tryz.prog callC2 22 [(55, [0, 1, 330, 331])] [(.int .i64 14 :: (eventC x).tail), [.bool false, .bool false]] argsLim H Post = (let q3 := (↑x.lift.hooks.length : Int); let q6 := [(0, some (pt 0)), (1, some (Value.iface 67 (pt 1))), (330, some (vi q3)), (331, some (vi 0))]; let q5 := [(0, some (pt 0)), (1, some (Value.iface 67 (pt 1))), (330, some (vi (↑(Int.toNat q3) : Int))), (331, some (vi 0))]; let q4 := zrow (Int.toNat q3) [vz, vi 0, vi 0, vi 0]; let q2 := (0, some (AObj.cells [vi 14, vi x.at_, vs x.item, vs x.of_, vs x.by_, vi x.n, vb x.pass, vs x.order.id, tree 38 x.order.edits.length (encL x.order.edits), vs x.sheet.id, vs x.sheet.grade, vi x.sheet.thick, vi x.sheet.long, vi x.sheet.width, vs x.sheet.heat, vs x.bar.id, vs x.bar.sect, vs x.bar.grade, vi x.bar.long, vs x.bar.heat, vs x.nest.sheet, vi x.nest.gap, tree 5 x.nest.spots.length (encL x.nest.spots), vs x.saw.bar, vi x.saw.kerf, tree 1 x.saw.parts.length (encL x.saw.parts), vs x.weig.block, vi x.weig.at_, vi x.weig.mass, vi x.weig.centre.x, vi x.weig.centre.y, vi x.weig.centre.z, vi x.weig.sigma, tree 1 x.weig.parts.length (encL x.weig.parts), vs x.lift.block, Value.slice (some (Addr.mk 2 0 none)) (Int.toNat q3) 4, vs x.permit.id, vi x.permit.kind, vi x.permit.time.a, vi x.permit.time.b] true)); let q1 := True ∧ 1 ≤ 2 ∧ T8 (T2 (pIf (!decide (q3 = q3)) (T2 ((0 ≤ q3 ∧ q3 ≤ q3 ∧ q3 ≤ 2 ^ 25) ∧ True ∧ 36 ≤ 40 ∧ T8 ((T2 (NLs q4 ∧ True)) ∧ H (lpC Tryz.prog 22 55) (lpK Tryz.prog 22 55) (stV q5 [q2, (1, some (AObj.cells [vb true, vb false] true)), (2, some (AObj.cells q4 true))] 3)))) (T8 ((T2 (True)) ∧ H (lpC Tryz.prog 22 55) (lpK Tryz.prog 22 55) (stV q6 [(0, some (AObj.cells (evK 14 x) true)), (1, some (AObj.cells [vb true, vb false] true))] 2))))); T32 (T16 (T4 (True ∧ pIf (decide ((↑x.lift.block.size : Int) > 64)) (T2 (True ∧ 1 ≤ 2 ∧ T16 (T8 q1))) (T2 (True ∧ 1 ≤ 2 ∧ T16 (T8 (True ∧ pIf (decide (q3 > 2)) (T2 q1) (T2 (True ∧ 1 ≤ 2 ∧ T8 (T2 (pIf (!decide (q3 = q3)) (T2 ((0 ≤ q3 ∧ q3 ≤ q3 ∧ q3 ≤ 2 ^ 25) ∧ True ∧ 36 ≤ 40 ∧ T8 ((T2 (NLs q4 ∧ True)) ∧ H (lpC Tryz.prog 22 55) (lpK Tryz.prog 22 55) (stV q5 [q2, (1, some (AObj.cells [vb false, vb false] true)), (2, some (AObj.cells q4 true))] 3)))) (T8 ((T2 (True)) ∧ H (lpC Tryz.prog 22 55) (lpK Tryz.prog 22 55) (stV q6 [(0, some (AObj.cells (evK 14 x) true)), (1, some (AObj.cells [vb false, vb false] true))] 2))))))))))))))) := by kernel_rfl
theorem l_lim14 (x : Event) (lg fr : Bool) (i : Int) (H : HT) (Post : PX) : vcLX Tryz.prog callC2 22 argsLim [(55, [0, 1, 330, 331])] 2 55 (stV [(0, some (.pointer (some ⟨0, 0, none⟩))), (1, some (.iface 67 (.pointer (some ⟨1, 0, none⟩)))), (330, some (.int .i64 x.lift.hooks.length)), (331, some (.int .i64 i))] [(0, some (.cells (.int .i64 14 :: (eventC x).tail) true)), (1, some (.cells [.bool lg, .bool fr] true))] 2) H Post = (let q12 := (0, some (AObj.cells (evK 14 x) true)); let q11 := (toI (vi 0) ≤ w64 (w64 (0 + 1) + 1) ∧ toI (vi (w64 (w64 (0 + 1) + 1))) < (↑3 : Int)); let q10 := cellAt (encL x.lift.hooks) (Int.toNat i) 3; let q9 := cellAt (encL x.lift.hooks) (Int.toNat i) 2; let q8 := cellAt (encL x.lift.hooks) (Int.toNat i) 1; let q2 := [(0, some (pt 0)), (1, some (Value.iface 67 (pt 1))), (330, some (vi (↑x.lift.hooks.length : Int))), (331, some (vi (w64 (i + 1))))]; let q7 := True ∧ 2 ≤ 2 ∧ T4 (T2 (True ∧ (T2 (True)) ∧ H (lpC Tryz.prog 22 55) (lpK Tryz.prog 22 55) (stV q2 [q12, (1, some (AObj.cells [vb true, vb true] true))] 2))); let q6 := True ∧ 2 ≤ 2 ∧ T4 (T2 (True ∧ (T2 (True)) ∧ H (lpC Tryz.prog 22 55) (lpK Tryz.prog 22 55) (stV q2 [q12, (1, some (AObj.cells [vb false, vb true] true))] 2))); let q5 := (toI (vi 0) ≤ w64 (0 + 1) ∧ toI (vi (w64 (0 + 1))) < (↑3 : Int)); let q4 := True ∧ 2 ≤ 2 ∧ T2 (True ∧ q11 ∧ T8 (T4 (T2 q7))); let q3 := True ∧ 2 ≤ 2 ∧ T2 (True ∧ q11 ∧ T8 (T4 (T2 q6))); let q1 := (T2 ((toI (vi 0) ≤ 0 ∧ toI (vi 0) < (↑3 : Int)) ∧ T8 (True ∧ pIf fr (T4 (T2 (2 ≤ 2 ∧ T2 (True ∧ q5 ∧ T8 (T4 (T2 q4)))))) (T2 (True ∧ cellAt (encL x.lift.hooks) (Int.toNat i) 1 = vi (toI q8) ∧ T2 (pIf (decide (toI q8 < -1099511627776)) (T4 (True ∧ 2 ≤ 2 ∧ T2 (True ∧ q5 ∧ T8 (T4 (T2 q4))))) (T4 (cellAt (encL x.lift.hooks) (Int.toNat i) 1 = vi (toI q8) ∧ T2 (pIf (decide (toI q8 > 1099511627776)) (T2 (True ∧ 2 ≤ 2 ∧ T2 (True ∧ q5 ∧ T8 (T4 (T2 q4))))) (T2 (True ∧ 2 ≤ 2 ∧ T2 (True ∧ q5 ∧ T8 (T4 (cellAt (encL x.lift.hooks) (Int.toNat i) 2 = vi (toI q9) ∧ T2 (pIf (decide (toI q9 < -1099511627776)) (T4 q4) (T4 (cellAt (encL x.lift.hooks) (Int.toNat i) 2 = vi (toI q9) ∧ T2 (pIf (decide (toI q9 > 1099511627776)) (T2 q4) (T2 (True ∧ 2 ≤ 2 ∧ T2 (True ∧ q11 ∧ T8 (T4 (cellAt (encL x.lift.hooks) (Int.toNat i) 3 = vi (toI q10) ∧ T2 (pIf (decide (toI q10 < -1099511627776)) (T4 q7) (T4 (cellAt (encL x.lift.hooks) (Int.toNat i) 3 = vi (toI q10) ∧ T2 (pIf (decide (toI q10 > 1099511627776)) (T2 q7) (T2 (True ∧ 2 ≤ 2 ∧ T4 (T2 (True ∧ (T2 (True)) ∧ H (lpC Tryz.prog 22 55) (lpK Tryz.prog 22 55) (stV q2 [q12, (1, some (AObj.cells [vb true, vb false] true))] 2)))))))))))))))))))))))))))))))); True ∧ pIf (decide (i < (↑x.lift.hooks.length : Int))) (T8 ((0 ≤ i ∧ i < (↑x.lift.hooks.length : Int)) ∧ T8 (T4 (True ∧ pIf lg (T4 (1 ≤ 2 ∧ T16 q1)) (T2 (True ∧ cellAt (encL x.lift.hooks) (Int.toNat i) 0 = vs (toS (cellAt (encL x.lift.hooks) (Int.toNat i) 0)) ∧ T2 (pIf (decide ((↑(ByteArray.size (toS (cellAt (encL x.lift.hooks) (Int.toNat i) 0))) : Int) > 64)) (T2 (True ∧ 1 ≤ 2 ∧ T16 q1)) (T2 (True ∧ 1 ≤ 2 ∧ T16 (T2 ((toI (vi 0) ≤ 0 ∧ toI (vi 0) < (↑3 : Int)) ∧ T8 (True ∧ pIf fr (T4 (T2 (2 ≤ 2 ∧ T2 (True ∧ q5 ∧ T8 (T4 (T2 q3)))))) (T2 (True ∧ cellAt (encL x.lift.hooks) (Int.toNat i) 1 = vi (toI q8) ∧ T2 (pIf (decide (toI q8 < -1099511627776)) (T4 (True ∧ 2 ≤ 2 ∧ T2 (True ∧ q5 ∧ T8 (T4 (T2 q3))))) (T4 (cellAt (encL x.lift.hooks) (Int.toNat i) 1 = vi (toI q8) ∧ T2 (pIf (decide (toI q8 > 1099511627776)) (T2 (True ∧ 2 ≤ 2 ∧ T2 (True ∧ q5 ∧ T8 (T4 (T2 q3))))) (T2 (True ∧ 2 ≤ 2 ∧ T2 (True ∧ q5 ∧ T8 (T4 (cellAt (encL x.lift.hooks) (Int.toNat i) 2 = vi (toI q9) ∧ T2 (pIf (decide (toI q9 < -1099511627776)) (T4 q3) (T4 (cellAt (encL x.lift.hooks) (Int.toNat i) 2 = vi (toI q9) ∧ T2 (pIf (decide (toI q9 > 1099511627776)) (T2 q3) (T2 (True ∧ 2 ≤ 2 ∧ T2 (True ∧ q11 ∧ T8 (T4 (cellAt (encL x.lift.hooks) (Int.toNat i) 3 = vi (toI q10) ∧ T2 (pIf (decide (toI q10 < -1099511627776)) (T4 q6) (T4 (cellAt (encL x.lift.hooks) (Int.toNat i) 3 = vi (toI q10) ∧ T2 (pIf (decide (toI q10 > 1099511627776)) (T2 q6) (T2 (True ∧ 2 ≤ 2 ∧ T4 (T2 (True ∧ (T2 (True)) ∧ H (lpC Tryz.prog 22 55) (lpK Tryz.prog 22 55) (stV q2 [q12, (1, some (AObj.cells [vb false, vb false] true))] 2))))))))))))))))))))))))))))))))))))))))) ((((T32 (T8 (True))) ∧ (T2 (True)) ∧ True) ∧ True) ∧ true = true ∧ Post (Out.ret (Value.tuple #[])) [(evK 14 x), [vb lg, vb fr]])) := by kernel_rfl
theorem lim14 {a : Int} {i o b : ByteArray} {n : Int} {p : Bool} {ord : Order2} {sh : Sheet6} {bar : Bar5} {nest : Nest3} {saw : Saw3} {weig : Weig} {lift : Lift2} {per : Permit3} (hs : lift.hooks.length < 2 ^ 62) {Post : Out → List (List Value) → Prop} (hP : Post (.ret (.tuple #[])) [eventC ⟨14, a, i, o, b, n, p, ord, sh, bar, nest, saw, weig, lift, per⟩, [.bool (longK 14 ⟨14, a, i, o, b, n, p, ord, sh, bar, nest, saw, weig, lift, per⟩), .bool (farK 14 ⟨14, a, i, o, b, n, p, ord, sh, bar, nest, saw, weig, lift, per⟩)]]) : SpecX Tryz.prog 22 2 (hpOf [eventC ⟨14, a, i, o, b, n, p, ord, sh, bar, nest, saw, weig, lift, per⟩, [.bool false, .bool false]]) argsLim (xpost 2 Post) := by
 have hF : ∀ lg fr, lg = longK 14 ⟨14, a, i, o, b, n, p, ord, sh, bar, nest, saw, weig, lift, per⟩ → fr = farK 14 ⟨14, a, i, o, b, n, p, ord, sh, bar, nest, saw, weig, lift, per⟩ → Post (.ret (.tuple #[])) [eventC ⟨14, a, i, o, b, n, p, ord, sh, bar, nest, saw, weig, lift, per⟩, [.bool lg, .bool fr]] := by rintro _ _ rfl rfl; exact hP
 have key := down (n := lift.hooks.length) (p := fun k => ∀ lg fr, lg = (big lift.block || decide (2 < lift.hooks.length) || (lift.hooks.take k).any (fun h => big h.crane)) → fr = (false || (lift.hooks.take k).any offHook) → OkX Tryz.prog 22 argsLim 2 Post (lpC Tryz.prog 22 55) (lpK Tryz.prog 22 55) (stV [(0, some (.pointer (some ⟨0, 0, none⟩))), (1, some (.iface 67 (.pointer (some ⟨1, 0, none⟩)))), (330, some (.int .i64 lift.hooks.length)), (331, some (.int .i64 k))] [(0, some (.cells (eventC ⟨14, a, i, o, b, n, p, ord, sh, bar, nest, saw, weig, lift, per⟩) true)), (1, some (.cells [.bool lg, .bool fr] true))] 2)) (fun lg fr hl hf => ?_) (fun k hk ih lg fr hl hf => ?_)
 ·have hX : ∀ lg fr, lg = (big lift.block || decide (2 < lift.hooks.length)) → fr = (false) → OkX Tryz.prog 22 argsLim 2 Post (lpC Tryz.prog 22 55) (lpK Tryz.prog 22 55) (stV [(0, some (.pointer (some ⟨0, 0, none⟩))), (1, some (.iface 67 (.pointer (some ⟨1, 0, none⟩)))), (330, some (.int .i64 lift.hooks.length)), (331, some (.int .i64 (0 : Nat)))] [(0, some (.cells (eventC ⟨14, a, i, o, b, n, p, ord, sh, bar, nest, saw, weig, lift, per⟩) true)), (1, some (.cells [.bool lg, .bool fr] true))] 2) := fun lg fr h1 h2 => key lg fr (by rw [h1]; simp) (by rw [h2]; simp)
  refine spec_X (conts := [eventC ⟨14, a, i, o, b, n, p, ord, sh, bar, nest, saw, weig, lift, per⟩, [.bool false, .bool false]]) callC2_ok mixed (by kernel_rfl) (by kernel_rfl) [(55, [0, 1, 330, 331])] (e_lim14 ⟨14, a, i, o, b, n, p, ord, sh, bar, nest, saw, weig, lift, per⟩ _ _) ?_
  simp only [true_and, and_true]
  repeat' (first | exact rfl | refine pIfD (fun _ => ?_) (fun _ => ?_) | refine pIfN (fun h => absurd rfl h) (fun _ => ?_) | refine And.intro ?_ ?_ | trivial | decide | (refine hX _ _ ?_ ?_ <;> (simp [longK, farK, big, off]; try omega)))
 ·refine ok_X callC2_ok mixed [(55, [0, 1, 330, 331])] (l_lim14 ⟨14, a, i, o, b, n, p, ord, sh, bar, nest, saw, weig, lift, per⟩ lg fr _ _ _) ?_
  simp only [true_and, and_true]
  refine pIfD (fun hh => absurd hh (by omega)) (fun _ => ?_)
  rw [List.take_of_length_le (Nat.le_refl _)] at hl hf
  repeat' (first | exact rfl | refine And.intro ?_ ?_ | trivial | decide | exact hF _ _ (by rw [hl]; simp [longK]) (by rw [hf]; simp [farK]))
 ·refine ok_X callC2_ok mixed [(55, [0, 1, 330, 331])] (l_lim14 ⟨14, a, i, o, b, n, p, ord, sh, bar, nest, saw, weig, lift, per⟩ lg fr _ _ _) ?_
  have ek : ((k : Nat) : Int).toNat = k := by omega
  have el : lift.hooks[k]? = some lift.hooks[k] := List.getElem?_eq_getElem hk
  have hX : ∀ lg' fr', lg' = (lg || (fun h => big h.crane) lift.hooks[k]) → fr' = (fr || offHook lift.hooks[k]) → OkX Tryz.prog 22 argsLim 2 Post (lpC Tryz.prog 22 55) (lpK Tryz.prog 22 55) (stV [(0, some (.pointer (some ⟨0, 0, none⟩))), (1, some (.iface 67 (.pointer (some ⟨1, 0, none⟩)))), (330, some (.int .i64 lift.hooks.length)), (331, some (.int .i64 ((k + 1 : Nat) : Int)))] [(0, some (.cells (eventC ⟨14, a, i, o, b, n, p, ord, sh, bar, nest, saw, weig, lift, per⟩) true)), (1, some (.cells [.bool lg', .bool fr'] true))] 2) := fun lg' fr' h1 h2 => ih lg' fr' (by rw [h1, hl, any_take hk]; simp [Bool.or_assoc]) (by rw [h2, hf, any_take hk]; simp [Bool.or_assoc])
  have hs := hs
  clear ih hP hF hl hf
  simp only [true_and, and_true, ek, wrapSucc (show k < 2 ^ 62 by omega), cell_hook hk, hook4C, List.getElem?_cons_succ, List.getElem?_cons_zero, Option.getD_some, toI, toS, toB]
  repeat' (first | exact rfl | refine pIfD (fun _ => ?_) (fun _ => ?_) | refine pIf_intro (fun _ => ?_) (fun _ => ?_) | refine And.intro ?_ ?_ | trivial | decide | omega | (refine hX _ _ ?_ ?_ <;> first | (simp_all [big, off, offSpot, offHook]; done) | (simp_all [big, off, offSpot, offHook]; omega)))
theorem lim_spec {x : Event} (h1 : 1 ≤ x.kind) (h2 : x.kind ≤ 18) (hs : ShortEv x) {Post : Out → List (List Value) → Prop} (hP : Post (.ret (.tuple #[])) [eventC x, [.bool (longK x.kind x), .bool (farK x.kind x)]]) : SpecX Tryz.prog 22 2 (hpOf [eventC x, [.bool false, .bool false]]) argsLim (xpost 2 Post) := by
 have hk := kinds h1 h2
 obtain ⟨k, a, i, o, b, n, p, ord, sh, bar, nest, saw, weig, lift, per⟩ := x
 simp only at hk h1
 rcases hk with rfl | rfl | rfl | rfl | rfl | rfl | rfl | rfl | rfl | rfl | rfl | rfl | rfl | rfl | rfl | rfl | rfl | rfl
 ·exact lim1 hP
 ·exact lim2 hP
 ·exact lim3 hP
 ·exact lim4 hP
 ·exact lim5 hs.spots hP
 ·exact lim6 hs.saw hP
 ·exact lim7 hP
 ·exact lim8 hP
 ·exact lim9 hP
 ·exact lim10 hP
 ·exact lim11 hP
 ·exact lim12 hP
 ·exact lim13 hP
 ·exact lim14 hs.hooks hP
 ·exact lim15 hP
 ·exact lim16 hP
 ·exact lim17 hP
 ·exact lim18 hP
def c_vis (args : List Value) (conts : List (List Value)) (Post : Out → List (List Value) → Prop) : Prop :=
 ∃ x : Event, args = argsLim ∧ conts = [eventC x, [.bool false, .bool false]] ∧ 1 ≤ x.kind ∧ x.kind ≤ 18 ∧ ShortEv x ∧ Post (.ret (.tuple #[])) [eventC x, [.bool (longK x.kind x), .bool (farK x.kind x)]]
theorem ok_vis : XEntOk Tryz.prog ⟨22, c_vis⟩ := by
 rintro args conts Post ⟨x, rfl, rfl, h1, h2, hs, hP⟩
 exact lim_spec h1 h2 hs hP
def tabCk : List Ent := [⟨12, c_nm⟩, ⟨20, c_plain⟩, ⟨21, c_named⟩]
def callCk : PCall := xtabCall [⟨22, c_vis⟩] (tabFr Tryz.prog tabCk noP)
theorem callCk_ok : PCallOk Tryz.prog callCk := xtabCall_ok (by
 intro e he
 simp only [List.mem_cons, List.not_mem_nil, or_false] at he
 subst he
 exact ok_vis) (tabFr_ok (by
 intro e he
 simp only [tabCk, List.mem_cons, List.not_mem_nil, or_false] at he
 rcases he with rfl | rfl | rfl
 ·exact ok_nm
 ·exact ok_plain
 ·exact ok_named) noP_ok)
theorem e_check (x : Event) (H : HT) (Post : PX) : vcX Tryz.prog callCk 10 [] [] [eventV x] H Post = (T4 ((True ∧ True) ∧ ∃ (k : Int), eqL [vi x.kind] [vi k] ∧ True ∧ pIf (decide (nameOf k = ByteArray.mk #[])) (T2 ((True ∧ True) ∧ true = true ∧ Post (Out.ret (vi 10)) [])) (T4 (pIf (decide (x.at_ < 0)) (T4 ((True ∧ True) ∧ true = true ∧ Post (Out.ret (vi 15)) [])) (T4 (pIf (decide (x.at_ > 1048576)) (T2 (True ∧ (True ∧ True) ∧ true = true ∧ Post (Out.ret (vi 15)) [])) (T2 (True ∧ ((T32 (T8 (True))) ∧ True) ∧ ∃ (x_1 : Event), eqL [Value.agg (evK x.kind x).toArray] [eventV x_1] ∧ 1 ≤ x_1.kind ∧ x_1.kind ≤ 18 ∧ ShortEv x_1 ∧ InOrder x_1.order ∧ FewO x_1.order ∧ pIf (decide (x_1 = plainK x_1.kind x_1)) (T2 (True ∧ ((T32 (T8 (True))) ∧ True) ∧ ∃ (x_2 : Event), eqL [Value.agg (evK x.kind x).toArray] [eventV x_2] ∧ x_2.item.size < 16777000 ∧ pIf (decide (namedOk x_2)) (T4 (∃ (x_3 : Event), eqL [pt 0, Value.iface 67 (pt 1)] [pt 0, Value.iface 67 (pt 1)] ∧ [(evK x.kind x), [vb false, vb false]] = [(evK x_3.kind x_3), [vb false, vb false]] ∧ 1 ≤ x_3.kind ∧ x_3.kind ≤ 18 ∧ ShortEv x_3 ∧ 2 = 2 ∧ T2 (pIf (longK x_3.kind x_3) (T2 ((True ∧ True) ∧ true = true ∧ Post (Out.ret (vi 4)) [])) (T2 (True ∧ pIf (farK x_3.kind x_3) (T2 ((True ∧ True) ∧ true = true ∧ Post (Out.ret (vi 9)) [])) (T2 ((True ∧ True) ∧ true = true ∧ Post (Out.ret (vi 0)) []))))))) (T2 (True ∧ (True ∧ True) ∧ true = true ∧ Post (Out.ret (vi 6)) [])))) (T2 (True ∧ (True ∧ True) ∧ true = true ∧ Post (Out.ret (vi 2)) [])))))))))) := by kernel_rfl
theorem nameOf_nil {k : Int} : nameOf k = ⟨#[]⟩ ↔ ¬ (1 ≤ k ∧ k ≤ 18) := by
 constructor
 ·intro h hk
  rcases kinds hk.1 hk.2 with rfl | rfl | rfl | rfl | rfl | rfl | rfl | rfl | rfl | rfl | rfl | rfl | rfl | rfl | rfl | rfl | rfl | rfl
  all_goals exact absurd h (by decide)
 ·intro h
  by_cases hn : k < 0
  ·exact nameOf_big (.inl hn)
  ·by_cases h19 : k < 19
   ·obtain rfl : k = 0 := by omega
    rfl
   ·exact nameOf_big (.inr (by omega))
def checkE (x : Event) : Int :=
 if ¬ (1 ≤ x.kind ∧ x.kind ≤ 18) then 10
 else if x.at_ < 0 ∨ 1048576 < x.at_ then 15
 else if ¬ x = plainK x.kind x then 2
 else if ¬ namedOk x then 6
 else if longK x.kind x = true then 4
 else if farK x.kind x = true then 9
 else 0
def c_check (args : List Value) (Post : Value → Prop) : Prop := ∃ x : Event, args = [eventV x] ∧ ShortEv x ∧ InOrder x.order ∧ FewO x.order ∧ x.item.size < 16777000 ∧ Post (.int .i64 (checkE x))
theorem ok_check : EntOk Tryz.prog ⟨10, c_check⟩ := by
 rintro args Post ⟨x, rfl, hs, hi, hf, hz, h⟩
 refine B.pure_of_X ?_
 refine spec_X (conts := []) callCk_ok mixed (by kernel_rfl) (by kernel_rfl) [] (e_check x _ _) ?_
 have hE : ∀ v, checkE x = v → B.retV Post (.ret (.int .i64 v)) [] := fun v e => by subst e; exact h
 simp only [true_and, and_true]
 refine ⟨x.kind, rfl, pIfD (fun hk => hE _ ?_) (fun hk => ?_)⟩
 ·unfold checkE; rw [if_pos (nameOf_nil.1 hk)]
 have hk : 1 ≤ x.kind ∧ x.kind ≤ 18 := by
  rcases Decidable.em (1 ≤ x.kind ∧ x.kind ≤ 18) with h' | h'
  ·exact h'
  ·exact absurd (nameOf_nil.2 h') hk
 refine pIfD (fun ha => hE _ ?_) (fun ha => pIfD (fun ha2 => hE _ ?_) (fun ha2 => ?_))
 ·unfold checkE; rw [if_neg (by simpa using hk), if_pos (.inl ha)]
 ·unfold checkE; rw [if_neg (by simpa using hk), if_pos (.inr ha2)]
 have ha' : ¬ (x.at_ < 0 ∨ 1048576 < x.at_) := by omega
 refine ⟨x, rfl, hk.1, hk.2, hs, hi, hf, pIfD (fun hp => ?_) (fun hp => hE _ ?_)⟩
 case refine_2 => unfold checkE; rw [if_neg (by simpa using hk), if_neg ha', if_pos hp]
 refine ⟨x, rfl, hz, pIfD (fun hn => ?_) (fun hn => hE _ ?_)⟩
 case refine_2 => unfold checkE; rw [if_neg (by simpa using hk), if_neg ha', if_neg (by simpa using hp), if_pos hn]
 refine ⟨x, rfl, hk.1, hk.2, hs, pIf_intro (fun hl => hE _ ?_) (fun hl => ?_)⟩
 ·unfold checkE; rw [if_neg (by simpa using hk), if_neg ha', if_neg (by simpa using hp), if_neg (by simpa using hn), if_pos hl]
 refine pIf_intro (fun hr => hE _ ?_) (fun hr => hE _ ?_)
 ·unfold checkE; rw [if_neg (by simpa using hk), if_neg ha', if_neg (by simpa using hp), if_neg (by simpa using hn), if_neg (by simp [hl]), if_pos hr]
 ·unfold checkE; rw [if_neg (by simpa using hk), if_neg ha', if_neg (by simpa using hp), if_neg (by simpa using hn), if_neg (by simp [hl]), if_neg (by simp [hr])]
def callEv : PCall := inlP Tryz.prog [63, 79, 80, 64, 81] (xtabCall [⟨22, c_vr⟩] (ofV (itabCall tabRd noCall))) 5
def callDe : PCall := inlP Tryz.prog [36] (inlD Tryz.prog [37] callEv (tabFr Tryz.prog [⟨10, c_check⟩] noP)) 2
theorem e_dec (s : ByteArray) (H : HT) (Post : PX) : vcX Tryz.prog callDe 16 [] [] [.string s] H Post = (let t36 := [vz, vi 0, vi 0, vi 0]; let t20 := vz :: vi 0 :: tree 5 0 #[] :: vz :: vi 0 :: tree 1 0 #[] :: vz :: vi 0 :: vi 0 :: vi 0 :: vi 0 :: vi 0 :: vi 0 :: tree 1 0 #[] :: vz :: tree 4 0 #[] :: t36; let h20 := fun (t : List Value) => vi 0 :: vi 0 :: vz :: vz :: vz :: vi 0 :: vb false :: vz :: tree 38 0 #[] :: vz :: vz :: vi 0 :: vi 0 :: vi 0 :: vz :: vz :: vz :: vz :: vi 0 :: vz :: t; let q1 := True ∧ (T32 (T8 (True))) ∧ True ∧ True; T16 (T8 (True ∧ true = true ∧ s.size < 4611686018427387904 ∧ (∀ (v : Int) (r : ByteArray), rsI 1 18 s = Rs.ok v r → 1 = 1 ∧ True ∧ 1 ≤ 40 ∧ T16 (T8 (T2 (true = true ∧ r.size < 4611686018427387904 ∧ (∀ (v_1 : Int) (r_1 : ByteArray), rsI 0 1048576 r = Rs.ok v_1 r_1 → 1 = 1 ∧ True ∧ 2 ≤ 40 ∧ T16 (T2 (True ∧ ∃ (k : Int), ∃ (a : Int), ∃ (w : Int), ∃ (s : ByteArray), eqL [pt 0, Value.iface 88 (pt 1)] [pt 0, Value.iface 88 (pt 1)] ∧ [(vi v :: vi v_1 :: vz :: vz :: vz :: vi 0 :: vb false :: vz :: nS :: vz :: vz :: vi 0 :: vi 0 :: vi 0 :: vz :: vz :: vz :: vz :: vi 0 :: vz :: vz :: vi 0 :: nS :: vz :: vi 0 :: nS :: vz :: vi 0 :: vi 0 :: vi 0 :: vi 0 :: vi 0 :: vi 0 :: nS :: vz :: nS :: t36), [pt 2, vi 0], [vs r_1, vi 0]] = [(vi k :: vi a :: vz :: vz :: vz :: vi 0 :: vb false :: vz :: nS :: vz :: vz :: vi 0 :: vi 0 :: vi 0 :: vz :: vz :: vz :: vz :: vi 0 :: vz :: vz :: vi 0 :: nS :: vz :: vi 0 :: nS :: vz :: vi 0 :: vi 0 :: vi 0 :: vi 0 :: vi 0 :: vi 0 :: nS :: vz :: nS :: t36), [pt 2, vi w], [vs s, vi 0]] ∧ 2 ≤ k ∧ k ≤ 18 ∧ s.size < 4611686018427387904 ∧ (∀ (vs : List Va) (es : List (List Va)) (r : ByteArray), rdBody (Int.toNat k) s = Rs.ok (vs, es) r → ∀ (x : Event), x = mkEv k a vs es → 3 = 3 ∧ T16 (T8 (T4 (T2 (True ∧ pIf (decide ((↑r.size : Int) > 0)) (T8 (T4 (T2 (40 ≤ 40 ∧ 1 ≤ 1 ∧ T4 (40 ≤ 40 ∧ T4 (T2 (True ∧ 40 ≤ 40 ∧ True ∧ q1 ∧ true = true ∧ Post (Out.ret (Value.tuple #[Value.agg (h20 t20).toArray, vi 4])) []))))))) (T8 (T2 (True ∧ 40 ≤ 40 ∧ True ∧ 1 ≤ 1 ∧ T4 (T2 (True ∧ 40 ≤ 40 ∧ T2 (True ∧ pIf (decide (w = 0)) (True ∧ ((T32 (T8 (True))) ∧ True) ∧ ∃ (x_1 : Event), eqL [Value.agg (evK x.kind x).toArray] [eventV x_1] ∧ ShortEv x_1 ∧ InOrder x_1.order ∧ FewO x_1.order ∧ x_1.item.size < 16777000 ∧ T2 (True ∧ pIf (!decide (checkE x_1 = 0)) (T2 (40 ≤ 40 ∧ True ∧ q1 ∧ true = true ∧ Post (Out.ret (Value.tuple #[Value.agg (h20 t20).toArray, vi (checkE x_1)])) [])) (True ∧ 40 ≤ 40 ∧ True ∧ q1 ∧ true = true ∧ Post (Out.ret (Value.tuple #[Value.agg (evK x.kind x).toArray, vi 0])) []))) (T2 (pIf (!decide (w = 0)) (T2 (40 ≤ 40 ∧ True ∧ q1 ∧ true = true ∧ Post (Out.ret (Value.tuple #[Value.agg (h20 t20).toArray, vi w])) [])) (True ∧ 40 ≤ 40 ∧ True ∧ q1 ∧ true = true ∧ Post (Out.ret (Value.tuple #[Value.agg (evK x.kind x).toArray, vi 0])) [])))))))))))))) ∧ ∀ (e : Nat), rdBody (Int.toNat k) s = Rs.err e → ∀ (r : ByteArray) (v v v v v v v v v v v v v v v v v v v v v v v v v v v v v v v v v v v v v v v v : Value), 3 = 3 ∧ T4 (T2 (True ∧ 40 ≤ 40 ∧ 1 ≤ 1 ∧ T4 (40 ≤ 40 ∧ T4 (T2 (True ∧ 40 ≤ 40 ∧ True ∧ q1 ∧ true = true ∧ Post (Out.ret (Value.tuple #[Value.agg (h20 t20).toArray, vi (Int.ofNat (e + 1))])) [])))))))) ∧ ∀ (e : Nat), rsI 0 1048576 r = Rs.err e → 1 = 1 ∧ True ∧ 2 ≤ 40 ∧ T16 (T8 (T2 (40 ≤ 40 ∧ 1 ≤ 1 ∧ T4 (40 ≤ 40 ∧ T4 (T2 (True ∧ 40 ≤ 40 ∧ True ∧ q1 ∧ true = true ∧ Post (Out.ret (Value.tuple #[Value.agg (h20 t20).toArray, vi (Int.ofNat (e + 1))])) [])))))))))) ∧ ∀ (e : Nat), rsI 1 18 s = Rs.err e → 1 = 1 ∧ True ∧ 1 ≤ 40 ∧ T16 (T8 (T2 (40 ≤ 40 ∧ 1 ≤ 1 ∧ T4 (40 ≤ 40 ∧ T4 (T2 (True ∧ 40 ≤ 40 ∧ True ∧ q1 ∧ true = true ∧ Post (Out.ret (Value.tuple #[Value.agg (h20 t20).toArray, vi (Int.ofNat (e + 1))])) []))))))))) := by kernel_rfl
theorem rdHead_hd {kind most : Nat} {fl : Bool} {v : Nat} (hk : kind < 8) (hv : v < 18446744073709551616) (hm : v ≤ most) (t : ByteArray) (hf : fl = true → v ≤ t.size) : rdHead kind most fl (str (hd kind v) ++ t, 0) = (v, t, 0) := by
 unfold rdHead
 dsimp only
 rw [if_neg (by decide), pk_hd hk hv t (.inl rfl)]
 dsimp only
 rw [if_neg (by decide), if_neg (by omega), if_neg, ext_app']
 rw [ba_size, str_size, Nat.add_sub_cancel_left]
 rintro ⟨h1, h2⟩
 have := hf h1
 omega
theorem rsT_b {m : Nat} {t : ByteArray} (ht : t.size ≤ m) (hm : m < 18446744073709551616) (r : ByteArray) : rsT m (bText t ++ r) = .ok t r := by
 have h : rdText m (bText t ++ r, 0) = (t, r, 0) := by
  unfold rdText bText
  rw [ba_assoc, rdHead_hd (by decide) (by omega) ht (t ++ r) (fun _ => by rw [ba_size]; omega)]
  dsimp only
  have e1 : (t ++ r).extract 0 t.size = t := by
   refine ba_ext ?_
   rw [ext_list, app_list, List.drop_zero, size_list, Nat.sub_zero, List.take_left]
  have e2 : (t ++ r).extract t.size (t ++ r).size = r := by
   refine ba_ext ?_
   rw [ext_list, app_list, ba_size, size_list, List.drop_left, size_list, Nat.add_sub_cancel_left, List.take_length]
  rw [e1, e2]
 unfold rsT
 rw [h]
 rfl
theorem rsL_b {m n : Nat} (hn : n ≤ m) (hm : m < 18446744073709551616) (r : ByteArray) : rsL m (bList n ++ r) = .ok n r := by
 have h : rdList m (bList n ++ r, 0) = (n, r, 0) := rdHead_hd (by decide) (by omega) hn r (fun h => by cases h)
 unfold rsL
 rw [h]
 rfl
theorem rsI_b {lo hi x : Int} (h1 : -9223372036854775808 ≤ x) (h2 : x < 9223372036854775808) (hlo : lo ≤ x) (hhi : x ≤ hi) (r : ByteArray) : rsI lo hi (bInt x ++ r) = .ok x r := by
 have h : rdInt lo hi (bInt x ++ r, 0) = (x, r, 0) := by
  unfold rdInt bInt
  dsimp only
  rw [if_neg (by decide)]
  by_cases h : x < 0
  ·rw [if_pos h, pk_hd (by decide) (by omega) r (.inr rfl)]
   dsimp only
   rw [if_neg (by decide), if_neg (by omega), if_pos rfl, if_neg (by omega), ext_app']
   congr 1
   omega
  ·rw [if_neg h, pk_hd (by decide) (by omega) r (.inl rfl)]
   dsimp only
   rw [if_neg (by decide), if_neg (by omega)]
   simp only [show ¬ (0 : Nat) = 1 by decide, if_false]
   rw [if_neg (by omega), ext_app']
   congr 1
   omega
 unfold rsI
 rw [h]
 rfl
theorem rsB_b (b : Bool) (r : ByteArray) : rsB (bBool b ++ r) = .ok b r := by
 have hx : ∀ c : UInt8, ((⟨#[c]⟩ : ByteArray) ++ r).extract 1 ((⟨#[c]⟩ : ByteArray) ++ r).size = r := fun c => by
  have := ext_app' [c] r
  exact this
 have hs : ∀ c : UInt8, ¬ ((⟨#[c]⟩ : ByteArray) ++ r).size = 0 := fun c => by
  rw [ba_size]
  show ¬ (1 + r.size = 0)
  omega
 have h0 : ∀ c : UInt8, byte0 ((⟨#[c]⟩ : ByteArray) ++ r) = c := fun c => byte0_str c [] r
 cases b
 ·show rsB ((⟨#[244]⟩ : ByteArray) ++ r) = _
  unfold rsB
  rw [if_neg (hs _), h0, if_neg (by decide), if_pos rfl, hx]
 ·show rsB ((⟨#[245]⟩ : ByteArray) ++ r) = _
  unfold rsB
  rw [if_neg (hs _), h0, if_pos rfl, hx]
def okF : Fd → Prop
 | .n lo hi => -4611686018427387904 ≤ lo ∧ hi ≤ 4611686018427387904
 | _ => True
theorem rdF_b {f : Fd} {v : Va} (h : fit f v) (hf : okF f) (r : ByteArray) : rdF f (bVa v ++ r) = .ok v r := by
 cases f <;> cases v <;> simp only [fit] at h
 ·simp only [rdF, bVa, rsT_b h (by omega), Rs.bind]
 ·simp only [okF] at hf
  simp only [rdF, bVa, rsI_b (by omega) (by omega) h.1 h.2, Rs.bind]
 ·simp only [rdF, bVa, rsB_b, Rs.bind]
theorem rdFs_b : ∀ {fs : List Fd} {vs : List Va}, fits fs vs → (∀ f ∈ fs, okF f) → ∀ r, rdFs fs (bVs vs ++ r) = .ok vs r
 | [], [], _, _, r => by simp only [rdFs, bVs, ba_nil]
 | f :: fs, v :: vs, h, hf, r => by
  simp only [rdFs, bVs, ba_assoc]
  rw [rdF_b h.1 (hf f (by simp)), Rs.bind, rdFs_b h.2 (fun g hg => hf g (by simp [hg]))]
  rfl
 | [], _ :: _, h, _, _ => h.elim
 | _ :: _, [], h, _, _ => h.elim
theorem rdEs_b {fs : List Fd} (hf : ∀ f ∈ fs, okF f) : ∀ {es : List (List Va)}, (∀ v ∈ es, fits fs v) → ∀ r, rdEs fs es.length (bEs es ++ r) = .ok es r
 | [], _, r => by simp only [rdEs, bEs, ba_nil, List.length_nil]
 | v :: es, h, r => by
  simp only [rdEs, bEs, ba_assoc, List.length_cons]
  rw [rdFs_b (h v (by simp)) hf, Rs.bind, rdEs_b hf (fun u hu => h u (by simp [hu]))]
  rfl
theorem shN_ok : ∀ k, ∀ f ∈ shN k, okF f := by
 intro k
 unfold shN
 split <;> simp [okF]
theorem shE_ok {k m : Nat} {fs : List Fd} (h : shE k = some (m, fs)) : (∀ f ∈ fs, okF f) ∧ m < 18446744073709551616 := by
 unfold shE at h
 split at h <;> cases h <;> simp [okF]
theorem rdBody_b {x : Event} {k : Nat} (h1 : fits (shN k) (vaN x k)) (h2 : fitsL x k) (r : ByteArray) : rdBody k (bVs (vaN x k) ++ bLs x k ++ r) = .ok (vaN x k, match shE k with | none => [] | some _ => vaE x k) r := by
 unfold rdBody
 rw [ba_assoc, rdFs_b h1 (shN_ok k), Rs.bind]
 unfold rdLs bLs
 unfold fitsL at h2
 cases hE : shE k with
 | none => simp only [ba_nil, Rs.bind]
 | some p =>
  obtain ⟨m, fs⟩ := p
  rw [hE] at h2
  dsimp only at h2 ⊢
  obtain ⟨g1, g2⟩ := shE_ok hE
  rw [ba_assoc, rsL_b h2.1 g2, Rs.bind, rdEs_b g1 h2.2]
  rfl
def rdEv (s : ByteArray) : Rs Event := (rsI 1 18 s).bind fun k r => (rsI 0 1048576 r).bind fun a r => (rdBody k.toNat r).bind fun p r => if r.size = 0 then .ok (mkEv k a p.1 p.2) r else .err 3
theorem mkEv_va {x : Event} (h1 : 2 ≤ x.kind) (h2 : x.kind ≤ 18) (hp : x = plainK x.kind x) : mkEv x.kind x.at_ (vaN x x.kind.toNat) (match shE x.kind.toNat with | none => [] | some _ => vaE x x.kind.toNat) = x := by
 have hk := kinds (by omega) h2
 have hsp : x.nest.spots.map (toSpot ∘ vaSpot) = x.nest.spots := by
  have : toSpot ∘ vaSpot = id := rfl
  rw [this, List.map_id]
 have hhk : x.lift.hooks.map (toHook ∘ vaHook) = x.lift.hooks := by
  have : toHook ∘ vaHook = id := rfl
  rw [this, List.map_id]
 have hnm : x.saw.parts.map (toName ∘ fun p => [Va.s p]) = x.saw.parts := by
  have : (toName ∘ fun p => [Va.s p]) = id := rfl
  rw [this, List.map_id]
 rcases hk with hk | hk | hk | hk | hk | hk | hk | hk | hk | hk | hk | hk | hk | hk | hk | hk | hk | hk
 ·omega
 all_goals
  conv => rhs; rw [hp]
  rw [hk]
  simp [mkEv, plainK, vaN, vaE, shE, gS, gI, gB, hsp, hhk, hnm, hk]
theorem rdEv_b {x : Event} (h1 : 2 ≤ x.kind) (h2 : x.kind ≤ 18) (ha : 0 ≤ x.at_ ∧ x.at_ ≤ 1048576) (hp : x = plainK x.kind x) (hf : fits (shN x.kind.toNat) (vaN x x.kind.toNat)) (hL : fitsL x x.kind.toNat) : rdEv (bEv x) = .ok x ⟨#[]⟩ ∧ ∃ r, rsI 1 18 (bEv x) = .ok x.kind r := by
 have hb : bBody x x.kind.toNat = bVs (vaN x x.kind.toNat) ++ bLs x x.kind.toNat := by
  unfold bBody
  split
  ·omega
  ·rfl
 have e0 : rsI 1 18 (bEv x) = .ok x.kind (bInt x.at_ ++ bBody x x.kind.toNat) := by
  unfold bEv
  rw [ba_assoc]
  exact rsI_b (by omega) (by omega) (by omega) h2 _
 refine ⟨?_, _, e0⟩
 unfold rdEv
 rw [e0, Rs.bind, rsI_b (by omega) (by omega) ha.1 ha.2, Rs.bind, hb]
 have := rdBody_b hf hL ⟨#[]⟩
 rw [ba_nilr] at this
 rw [this, Rs.bind, if_pos (show (⟨#[]⟩ : ByteArray).size = 0 from rfl)]
 dsimp only
 rw [mkEv_va h1 h2 hp]
theorem ftT {m : Nat} {s v r : ByteArray} (h : rsT m s = .ok v r) : v.size ≤ m := by
 obtain ⟨_, rfl, _⟩ := mkRs_ok h
 have := (rdHead_left 2 m true (s, 0)).2.1
 show ((rdHead 2 m true (s, 0)).2.1.extract 0 (rdHead 2 m true (s, 0)).1).size ≤ m
 rw [size_list, ext_list, List.drop_zero, List.length_take]
 omega
theorem ftI {lo hi v : Int} {s r : ByteArray} (h : rsI lo hi s = .ok v r) : lo ≤ v ∧ v ≤ hi := by
 obtain ⟨h0, rfl, _⟩ := mkRs_ok h
 revert h0
 unfold rdInt
 dsimp only
 split
 ·intro h; exact absurd rfl (by assumption)
 split
 ·intro h; exact absurd h (by assumption)
 split
 ·intro h; cases h
 generalize (if (pk s 0 1).1 = 1 then -1 - ((pk s 0 1).2.1 : Int) else ((pk s 0 1).2.1 : Int)) = y
 split
 ·intro h; cases h
 ·intro _; dsimp only; omega
theorem ftF {f : Fd} {v : Va} {s r : ByteArray} (h : rdF f s = .ok v r) : fit f v := by
 cases f <;> simp only [rdF, Rs.bind] at h <;> split at h <;> cases h <;> simp only [fit]
 ·exact ftT (by assumption)
 ·exact ftI (by assumption)
theorem ftFs : ∀ {fs : List Fd} {vs : List Va} {s r : ByteArray}, rdFs fs s = .ok vs r → fits fs vs
 | [], vs, s, r, h => by simp only [rdFs] at h; cases h; trivial
 | f :: fs, vs, s, r, h => by
  simp only [rdFs, Rs.bind] at h
  split at h
  ·rename_i v r1 h1
   split at h
   ·rename_i vs1 r2 h2
    cases h
    exact ⟨ftF h1, ftFs h2⟩
   ·cases h
  ·cases h
theorem ftEs {fs : List Fd} : ∀ {n : Nat} {es : List (List Va)} {s r : ByteArray}, rdEs fs n s = .ok es r → es.length = n ∧ ∀ v ∈ es, fits fs v
 | 0, es, s, r, h => by simp only [rdEs] at h; cases h; exact ⟨rfl, fun v hv => by simp at hv⟩
 | n + 1, es, s, r, h => by
  simp only [rdEs, Rs.bind] at h
  split at h
  ·rename_i v r1 h1
   split at h
   ·rename_i vs1 r2 h2
    cases h
    obtain ⟨g1, g2⟩ := ftEs h2
    refine ⟨by simp [g1], fun u hu => ?_⟩
    rcases List.mem_cons.1 hu with rfl | hu
    ·exact ftFs h1
    ·exact g2 u hu
   ·cases h
  ·cases h
theorem ftBody {k : Nat} {s r : ByteArray} {vs : List Va} {es : List (List Va)} (h : rdBody k s = .ok (vs, es) r) : fits (shN k) vs ∧ es.length ≤ 32 ∧ (∀ m fs, shE k = some (m, fs) → es.length ≤ m ∧ ∀ v ∈ es, fits fs v) ∧ (shE k = none → es = []) := by
 unfold rdBody Rs.bind at h
 split at h
 case h_2 => cases h
 rename_i vs1 r1 h1
 dsimp only at h
 split at h
 case h_2 => cases h
 rename_i es1 r2 h2
 cases h
 refine ⟨ftFs h1, ?_⟩
 unfold rdLs Rs.bind at h2
 split at h2
 ·rename_i hE
  cases h2
  exact ⟨by simp, fun m fs h => (by rw [hE] at h; cases h), fun _ => rfl⟩
 ·rename_i m fs hE
  split at h2
  case h_2 => cases h2
  rename_i n r3 h3
  obtain ⟨g1, g2⟩ := ftEs h2
  have hm : m ≤ 32 := by
   unfold shE at hE
   split at hE <;> cases hE <;> decide
  have := (leL h3).2
  exact ⟨by omega, fun m' fs' h => (by rw [hE] at h; cases h; exact ⟨by omega, g2⟩), fun h => (by rw [hE] at h; cases h)⟩
theorem callDe_ok : PCallOk Tryz.prog callDe := inlP_ok mixed (inlD_ok mixed (inlP_ok mixed (xtabCall_ok (by
 intro e he
 simp only [List.mem_cons, List.not_mem_nil, or_false] at he
 subst he
 exact ok_vr) (ofV_ok (itabCall_ok (by
 intro e he
 simp only [tabRd, List.mem_cons, List.not_mem_nil, or_false] at he
 rcases he with rfl | rfl | rfl | rfl
 ·exact ok_kI
 ·exact ok_kT
 ·exact ok_kL
 ·exact ok_kB) noCall_ok))) 5) (tabFr_ok (by
 intro e he
 simp only [List.mem_cons, List.not_mem_nil, or_false] at he
 subst he
 exact ok_check) noP_ok)) 2
theorem gS_fit {fs : List Fd} {vs : List Va} (h : fits (.t :: fs) vs) : (gS vs 0).size ≤ 64 := by
 match vs, h with
 | .s x :: vs, h => exact h.1
theorem mk_good {k a : Int} {vs : List Va} {es : List (List Va)} (h1 : 2 ≤ k) (h2 : k ≤ 18) (hf : fits (shN k.toNat) vs) (hl : es.length ≤ 32) : ShortEv (mkEv k a vs es) ∧ (mkEv k a vs es).order = ⟨⟨#[]⟩, []⟩ ∧ (mkEv k a vs es).item.size ≤ 64 := by
 have hk := kinds (by omega) h2
 have h0 : (⟨#[]⟩ : ByteArray).size ≤ 64 := by decide
 rcases hk with rfl | rfl | rfl | rfl | rfl | rfl | rfl | rfl | rfl | rfl | rfl | rfl | rfl | rfl | rfl | rfl | rfl | rfl
 ·omega
 all_goals
  refine ⟨⟨⟨?_, ?_⟩, ?_, ?_, ?_, ?_⟩, rfl, ?_⟩
  all_goals first
   | exact h0
   | exact gS_fit hf
   | (simp [mkEv, evt0, Short]; done)
   | (simp [mkEv, evt0, Short]; omega)
def decR (s : ByteArray) : Event × Int := match rdEv s with
 | .ok x _ => if checkE x = 0 then (x, 0) else (evt0, checkE x)
 | .err e => (evt0, Int.ofNat (e + 1))
def c_dec (args : List Value) (Post : Value → Prop) : Prop := ∃ s : ByteArray, args = [.string s] ∧ s.size < 4611686018427387904 ∧ (∀ k r, rsI 1 18 s = .ok k r → k ≠ 1) ∧ Post (.tuple #[eventV (decR s).1, .int .i64 (decR s).2])
theorem ok_dec : EntOk Tryz.prog ⟨16, c_dec⟩ := by
 rintro args Post ⟨s, rfl, hs, hk1, h⟩
 refine B.pure_of_X ?_
 refine spec_X (conts := []) callDe_ok mixed (by kernel_rfl) (by kernel_rfl) [] (e_dec s _ _) ?_
 simp only [true_and, and_true]
 have hO : ∀ x r, rdEv s = .ok x r → checkE x = 0 → B.retV Post (.ret (.tuple #[eventV x, .int .i64 0])) [] := fun x r e c => by
  unfold decR at h
  rw [e] at h
  dsimp only at h
  rw [if_pos c] at h
  exact h
 have hC : ∀ x r, rdEv s = .ok x r → ¬ checkE x = 0 → B.retV Post (.ret (.tuple #[eventV evt0, .int .i64 (checkE x)])) [] := fun x r e c => by
  unfold decR at h
  rw [e] at h
  dsimp only at h
  rw [if_neg c] at h
  exact h
 have hE : ∀ e, rdEv s = .err e → B.retV Post (.ret (.tuple #[eventV evt0, .int .i64 (.ofNat (e + 1))])) [] := fun e c => by
  unfold decR at h
  rw [c] at h
  exact h
 clear h
 repeat' (first | exact rfl | refine And.intro ?_ ?_ | trivial | decide | omega)
 rotate_left
 ·intro e ee
  repeat' (first | exact rfl | refine And.intro ?_ ?_ | trivial | decide | omega | exact hE e (by simp only [rdEv, Rs.bind, ee]))
 intro k r ek
 have q1 := leI ek
 have f1 := ftI ek
 have n1 := hk1 k r ek
 repeat' (first | exact rfl | refine And.intro ?_ ?_ | trivial | decide | omega)
 rotate_left
 ·intro e ee
  repeat' (first | exact rfl | refine And.intro ?_ ?_ | trivial | decide | omega | exact hE e (by simp only [rdEv, Rs.bind, ek, ee]))
 intro a r1 ea
 have q2 := leI ea
 repeat' (first | exact rfl | refine And.intro ?_ ?_ | trivial | decide | omega)
 refine ⟨k, a, 0, r1, rfl, by omega, by omega, by omega, fun vs es r2 er x hx => ?_, fun e ee r2 => ?_⟩
 ·obtain ⟨g1, g2, g3⟩ := mk_good (a := a) (by omega) f1.2 (ftBody er).1 (ftBody er).2.1
  rw [← hx] at g1 g2 g3
  refine pIfD (fun hz => ?_) (fun hz => ?_)
  ·repeat' (first | exact rfl | refine And.intro ?_ ?_ | trivial | decide | omega | exact hE 3 (by simp only [rdEv, Rs.bind, ek, ea, er]; rw [if_neg (by omega)]))
  ·have hr : rdEv s = .ok x r2 := by simp only [rdEv, Rs.bind, ek, ea, er]; rw [if_pos (by omega), ← hx]
   repeat' (first | exact rfl | refine And.intro ?_ ?_ | trivial | decide | omega | refine pIfD (fun _ => ?_) (fun h0 => absurd rfl h0) | refine ⟨x, rfl, g1, by rw [g2]; exact zero_inO, by rw [g2]; exact zero_fewO, by omega, pIfN (fun hc => ?_) (fun hc => ?_)⟩ | exact hC x r2 hr hc | exact hO x r2 hr hc)
 ·intros
  repeat' (first | exact rfl | refine And.intro ?_ ?_ | trivial | decide | omega | exact hE e (by simp only [rdEv, Rs.bind, ek, ea, ee]))
def w_I (args : List Value) (Post : Value → Prop) : Prop := match args with
 | [.int .i64 n] => (-9223372036854775808 ≤ n ∧ n < 9223372036854775808) ∧ Post (.string (bInt n))
 | _ => False
def w_T (args : List Value) (Post : Value → Prop) : Prop := match args with
 | [.string s] => s.size ≤ 16000000 ∧ Post (.string (bText s))
 | _ => False
def w_L (args : List Value) (Post : Value → Prop) : Prop := match args with
 | [.int .i64 n] => (0 ≤ n ∧ n < 9223372036854775808) ∧ Post (.string (bList n.toNat))
 | _ => False
theorem ok_wI : EntOk Tryz.prog ⟨32, w_I⟩ := by
 intro args Post h
 dsimp only [w_I] at h
 split at h
 case h_2 => exact h.elim
 exact ok_cInt _ _ ⟨_, rfl, h⟩
theorem ok_wT : EntOk Tryz.prog ⟨69, w_T⟩ := by
 intro args Post h
 dsimp only [w_T] at h
 split at h
 case h_2 => exact h.elim
 exact ok_cText _ _ ⟨_, rfl, h⟩
theorem ok_wL : EntOk Tryz.prog ⟨70, w_L⟩ := by
 intro args Post h
 dsimp only [w_L] at h
 split at h
 case h_2 => exact h.elim
 rename_i n
 obtain ⟨h1, h2⟩ := h
 obtain ⟨m, rfl⟩ := Int.eq_ofNat_of_zero_le h1.1
 exact ok_cList _ _ ⟨m, rfl, by omega, h2⟩
def tabW : List Ent := [⟨32, w_I⟩, ⟨69, w_T⟩, ⟨70, w_L⟩, ⟨44, c_Order⟩]
def callW : PCall := ofV (tabCall tabW noCall)
theorem callW_ok : PCallOk Tryz.prog callW := ofV_ok (tabCall_ok (by
 intro e he
 simp only [tabW, List.mem_cons, List.not_mem_nil, or_false] at he
 rcases he with rfl | rfl | rfl | rfl
 ·exact ok_wI
 ·exact ok_wT
 ·exact ok_wL
 ·exact ok_chEnc) noCall_ok)
def mkV : GCall (Option ByteArray) := mkW [47, 48, 49, 50, 51, 135, 136, 137, 138, 139, 140] callW 1
theorem mkV_ok (I : Base → Option ByteArray → Prop) (kx : Nat × Nat × Nat) (h : IsW I kx) : GCallOk Tryz.prog I 1 kx mkV := by
 obtain ⟨W0, c, rfl, rfl⟩ := h
 exact mkW_ok mixed callW_ok W0 c 1
abbrev argsW : List Value := [.pointer (some ⟨0, 0, none⟩), .iface 84 (.pointer (some ⟨1, 0, none⟩))]
theorem e_wr (x : Event) (S : ByteArray) (H : Code → List Fr → AS → Option ByteArray → Prop) (Post : List Value → Option ByteArray → Prop) : vcG Tryz.prog mkV 22 [(19, [0, 1, 132, 133]), (31, [0, 1, 203, 204]), (55, [0, 1, 330, 331])] [true, true] (hpW (eventC x)) argsW (some S) H Post = (let q15 := (toI (vi 0) ≤ 0 ∧ toI (vi 0) < (↑1 : Int)); let q14 := (1, some (AObj.cells [] false)); let q8 := IntKind.wrap IntKind.i64 (0 + 1) + 1; let q13 := IntKind.wrap IntKind.i64 q8 + 1; let q12 := vi (IntKind.wrap IntKind.i64 (0 + 1)); let q11 := (toI (vi 0) ≤ 0 ∧ toI (vi 0) < (↑3 : Int)); let q10 := (1, some (Value.iface 84 (pt 1))); let q9 := [(0, some (AObj.cells (evK x.kind x) true)), q14]; let q7 := (toI (vi 0) ≤ IntKind.wrap IntKind.i64 (0 + 1) ∧ toI q12 < (↑3 : Int)); let q6 := (↑x.saw.parts.length : Int); let q5 := (↑x.lift.hooks.length : Int); let q4 := (↑x.nest.spots.length : Int); let q3 := T8 (T4 (T2 (x.item.size ≤ 16000000 ∧ True ∧ S.size + ByteArray.size (bText x.item) ≤ 140737488355328 ∧ T2 (Post (evK x.kind x) (some (S ++ bText x.item)))))); let q2 := (toI (vi 0) ≤ IntKind.wrap IntKind.i64 q8 ∧ toI (vi (IntKind.wrap IntKind.i64 q8)) < (↑3 : Int)); let q1 := T16 (q11 ∧ T8 (T2 (x.item.size ≤ 16000000 ∧ True ∧ S.size + ByteArray.size (bText x.item) ≤ 140737488355328 ∧ T4 (q7 ∧ T8 (T2 (x.of_.size ≤ 16000000 ∧ True ∧ ByteArray.size (S ++ bText x.item) + ByteArray.size (bText x.of_) ≤ 140737488355328 ∧ T4 (q2 ∧ T8 (T2 (x.by_.size ≤ 16000000 ∧ True ∧ ByteArray.size (S ++ bText x.item ++ bText x.of_) + ByteArray.size (bText x.by_) ≤ 140737488355328 ∧ T4 (True ∧ Post (evK x.kind x) (some (S ++ bText x.item ++ bText x.of_ ++ bText x.by_)))))))))))); T4 (True ∧ pIf (decide (x.kind = 1)) (T8 (T4 (T2 (∃ (o : Order2), eqL [Value.agg #[vs x.order.id, tree 38 x.order.edits.length (encL x.order.edits)]] [order2V o] ∧ InOrder o ∧ FewO o ∧ True ∧ ByteArray.size (bOrder o) ≤ 16000000 ∧ True ∧ S.size + ByteArray.size (bText (bOrder o)) ≤ 140737488355328 ∧ T2 (Post (evK x.kind x) (some (S ++ bText (bOrder o)))))))) (T2 (pIf (decide (x.kind = 2)) (T16 (True ∧ (toI (vi 0) ≤ 0 ∧ toI (vi 0) < (↑2 : Int)) ∧ T8 (T2 (x.sheet.id.size ≤ 16000000 ∧ True ∧ S.size + ByteArray.size (bText x.sheet.id) ≤ 140737488355328 ∧ T4 ((toI (vi 0) ≤ IntKind.wrap IntKind.i64 (0 + 1) ∧ toI q12 < (↑2 : Int)) ∧ T8 (T2 (x.sheet.grade.size ≤ 16000000 ∧ True ∧ ByteArray.size (S ++ bText x.sheet.id) + ByteArray.size (bText x.sheet.grade) ≤ 140737488355328 ∧ T16 (T4 (q11 ∧ T8 (T2 ((-9223372036854775808 ≤ x.sheet.thick ∧ x.sheet.thick < 9223372036854775808) ∧ True ∧ ByteArray.size (S ++ bText x.sheet.id ++ bText x.sheet.grade) + ByteArray.size (bInt x.sheet.thick) ≤ 140737488355328 ∧ T4 (q7 ∧ T8 (T2 ((-9223372036854775808 ≤ x.sheet.long ∧ x.sheet.long < 9223372036854775808) ∧ True ∧ ByteArray.size (S ++ bText x.sheet.id ++ bText x.sheet.grade ++ bInt x.sheet.thick) + ByteArray.size (bInt x.sheet.long) ≤ 140737488355328 ∧ T4 (q2 ∧ T8 (T2 ((-9223372036854775808 ≤ x.sheet.width ∧ x.sheet.width < 9223372036854775808) ∧ True ∧ ByteArray.size (S ++ bText x.sheet.id ++ bText x.sheet.grade ++ bInt x.sheet.thick ++ bInt x.sheet.long) + ByteArray.size (bInt x.sheet.width) ≤ 140737488355328 ∧ T16 (T2 (x.sheet.heat.size ≤ 16000000 ∧ True ∧ ByteArray.size (S ++ bText x.sheet.id ++ bText x.sheet.grade ++ bInt x.sheet.thick ++ bInt x.sheet.long ++ bInt x.sheet.width) + ByteArray.size (bText x.sheet.heat) ≤ 140737488355328 ∧ T2 (Post (evK x.kind x) (some (S ++ bText x.sheet.id ++ bText x.sheet.grade ++ bInt x.sheet.thick ++ bInt x.sheet.long ++ bInt x.sheet.width ++ bText x.sheet.heat)))))))))))))))))))))) (T2 (pIf (decide (x.kind = 3)) (T16 (T2 (True ∧ q11 ∧ T8 (T2 (x.bar.id.size ≤ 16000000 ∧ True ∧ S.size + ByteArray.size (bText x.bar.id) ≤ 140737488355328 ∧ T4 (q7 ∧ T8 (T2 (x.bar.sect.size ≤ 16000000 ∧ True ∧ ByteArray.size (S ++ bText x.bar.id) + ByteArray.size (bText x.bar.sect) ≤ 140737488355328 ∧ T4 (q2 ∧ T8 (T2 (x.bar.grade.size ≤ 16000000 ∧ True ∧ ByteArray.size (S ++ bText x.bar.id ++ bText x.bar.sect) + ByteArray.size (bText x.bar.grade) ≤ 140737488355328 ∧ T8 (T4 (T2 (True ∧ q15 ∧ T8 (T2 ((-9223372036854775808 ≤ x.bar.long ∧ x.bar.long < 9223372036854775808) ∧ True ∧ ByteArray.size (S ++ bText x.bar.id ++ bText x.bar.sect ++ bText x.bar.grade) + ByteArray.size (bInt x.bar.long) ≤ 140737488355328 ∧ T16 (T2 (x.bar.heat.size ≤ 16000000 ∧ True ∧ ByteArray.size (S ++ bText x.bar.id ++ bText x.bar.sect ++ bText x.bar.grade ++ bInt x.bar.long) + ByteArray.size (bText x.bar.heat) ≤ 140737488355328 ∧ T2 (Post (evK x.kind x) (some (S ++ bText x.bar.id ++ bText x.bar.sect ++ bText x.bar.grade ++ bInt x.bar.long ++ bText x.bar.heat))))))))))))))))))))) (T2 (pIf (decide (x.kind = 4)) (T8 (T4 (True ∧ (toI (vi 0) ≤ 0 ∧ toI (vi 0) < (↑2 : Int)) ∧ T8 (T2 (x.item.size ≤ 16000000 ∧ True ∧ S.size + ByteArray.size (bText x.item) ≤ 140737488355328 ∧ T4 ((toI (vi 0) ≤ IntKind.wrap IntKind.i64 (0 + 1) ∧ toI q12 < (↑2 : Int)) ∧ T8 (T2 (x.by_.size ≤ 16000000 ∧ True ∧ ByteArray.size (S ++ bText x.item) + ByteArray.size (bText x.by_) ≤ 140737488355328 ∧ T4 (True ∧ Post (evK x.kind x) (some (S ++ bText x.item ++ bText x.by_))))))))))) (T2 (pIf (decide (x.kind = 5)) (T8 (T4 (T2 (True ∧ x.nest.sheet.size ≤ 16000000 ∧ True ∧ S.size + ByteArray.size (bText x.nest.sheet) ≤ 140737488355328 ∧ T8 (T4 (q15 ∧ T8 (T2 ((-9223372036854775808 ≤ x.nest.gap ∧ x.nest.gap < 9223372036854775808) ∧ True ∧ ByteArray.size (S ++ bText x.nest.sheet) + ByteArray.size (bInt x.nest.gap) ≤ 140737488355328 ∧ T16 (T4 (T2 (True ∧ (0 ≤ q4 ∧ q4 < 9223372036854775808) ∧ True ∧ ByteArray.size (S ++ bText x.nest.sheet ++ bInt x.nest.gap) + ByteArray.size (bList (Int.toNat q4)) ≤ 140737488355328 ∧ T8 (T2 (True ∧ pIf (!decide (q4 = q4)) (T2 ((0 ≤ q4 ∧ q4 ≤ q4 ∧ q4 ≤ 2 ^ 25) ∧ True ∧ 23 ≤ 40 ∧ T8 ((T2 (NLs (zrow (Int.toNat q4) [vz, vi 0, vi 0, vi 0, vb false]) ∧ True)) ∧ H (lpC Tryz.prog 22 19) (lpK Tryz.prog 22 19) (stV [(0, some (pt 0)), q10, (132, some (vi (↑(Int.toNat q4) : Int))), (133, some (vi 0))] [(0, some (AObj.cells [vi x.kind, vi x.at_, vs x.item, vs x.of_, vs x.by_, vi x.n, vb x.pass, vs x.order.id, tree 38 x.order.edits.length (encL x.order.edits), vs x.sheet.id, vs x.sheet.grade, vi x.sheet.thick, vi x.sheet.long, vi x.sheet.width, vs x.sheet.heat, vs x.bar.id, vs x.bar.sect, vs x.bar.grade, vi x.bar.long, vs x.bar.heat, vs x.nest.sheet, vi x.nest.gap, Value.slice (some (Addr.mk 2 0 none)) (Int.toNat q4) 5, vs x.saw.bar, vi x.saw.kerf, tree 1 x.saw.parts.length (encL x.saw.parts), vs x.weig.block, vi x.weig.at_, vi x.weig.mass, vi x.weig.centre.x, vi x.weig.centre.y, vi x.weig.centre.z, vi x.weig.sigma, tree 1 x.weig.parts.length (encL x.weig.parts), vs x.lift.block, tree 4 x.lift.hooks.length (encL x.lift.hooks), vs x.permit.id, vi x.permit.kind, vi x.permit.time.a, vi x.permit.time.b] true)), q14, (2, some (AObj.cells (zrow (Int.toNat q4) [vz, vi 0, vi 0, vi 0, vb false]) true))] 3) (some (S ++ bText x.nest.sheet ++ bInt x.nest.gap ++ bList (Int.toNat q4)))))) (T8 ((T2 (True)) ∧ H (lpC Tryz.prog 22 19) (lpK Tryz.prog 22 19) (stV [(0, some (pt 0)), q10, (132, some (vi q4)), (133, some (vi 0))] q9 2) (some (S ++ bText x.nest.sheet ++ bInt x.nest.gap ++ bList (Int.toNat q4)))))))))))))))))) (T2 (pIf (decide (x.kind = 6)) (T8 (T4 (T2 (True ∧ x.saw.bar.size ≤ 16000000 ∧ True ∧ S.size + ByteArray.size (bText x.saw.bar) ≤ 140737488355328 ∧ T8 (T4 (q15 ∧ T8 (T2 ((-9223372036854775808 ≤ x.saw.kerf ∧ x.saw.kerf < 9223372036854775808) ∧ True ∧ ByteArray.size (S ++ bText x.saw.bar) + ByteArray.size (bInt x.saw.kerf) ≤ 140737488355328 ∧ T16 (T4 (T2 (True ∧ (0 ≤ q6 ∧ q6 < 9223372036854775808) ∧ True ∧ ByteArray.size (S ++ bText x.saw.bar ++ bInt x.saw.kerf) + ByteArray.size (bList (Int.toNat q6)) ≤ 140737488355328 ∧ T8 (T2 (True ∧ pIf (!decide (q6 = q6)) (T2 ((0 ≤ q6 ∧ q6 ≤ q6 ∧ q6 ≤ 2 ^ 25) ∧ True ∧ 26 ≤ 40 ∧ T8 ((T2 (NLs (zrow (Int.toNat q6) [vz]) ∧ True)) ∧ H (lpC Tryz.prog 22 31) (lpK Tryz.prog 22 31) (stV [(0, some (pt 0)), q10, (203, some (vi (↑(Int.toNat q6) : Int))), (204, some (vi 0))] [(0, some (AObj.cells [vi x.kind, vi x.at_, vs x.item, vs x.of_, vs x.by_, vi x.n, vb x.pass, vs x.order.id, tree 38 x.order.edits.length (encL x.order.edits), vs x.sheet.id, vs x.sheet.grade, vi x.sheet.thick, vi x.sheet.long, vi x.sheet.width, vs x.sheet.heat, vs x.bar.id, vs x.bar.sect, vs x.bar.grade, vi x.bar.long, vs x.bar.heat, vs x.nest.sheet, vi x.nest.gap, tree 5 x.nest.spots.length (encL x.nest.spots), vs x.saw.bar, vi x.saw.kerf, Value.slice (some (Addr.mk 2 0 none)) (Int.toNat q6) 1, vs x.weig.block, vi x.weig.at_, vi x.weig.mass, vi x.weig.centre.x, vi x.weig.centre.y, vi x.weig.centre.z, vi x.weig.sigma, tree 1 x.weig.parts.length (encL x.weig.parts), vs x.lift.block, tree 4 x.lift.hooks.length (encL x.lift.hooks), vs x.permit.id, vi x.permit.kind, vi x.permit.time.a, vi x.permit.time.b] true)), q14, (2, some (AObj.cells (zrow (Int.toNat q6) [vz]) true))] 3) (some (S ++ bText x.saw.bar ++ bInt x.saw.kerf ++ bList (Int.toNat q6)))))) (T8 ((T2 (True)) ∧ H (lpC Tryz.prog 22 31) (lpK Tryz.prog 22 31) (stV [(0, some (pt 0)), q10, (203, some (vi q6)), (204, some (vi 0))] q9 2) (some (S ++ bText x.saw.bar ++ bInt x.saw.kerf ++ bList (Int.toNat q6)))))))))))))))))) (T2 (pIf (decide (x.kind = 7)) q3 (T2 (pIf (decide (x.kind = 8)) q3 (T2 (pIf (decide (x.kind = 12)) q3 (T2 (pIf (decide (x.kind = 16)) q3 (T2 (pIf (decide (x.kind = 9)) q1 (T2 (pIf (decide (x.kind = 11)) q1 (T2 (pIf (decide (x.kind = 10)) (T8 (T4 (T2 (x.item.size ≤ 16000000 ∧ True ∧ S.size + ByteArray.size (bText x.item) ≤ 140737488355328 ∧ T8 (T4 (T2 (True ∧ (-9223372036854775808 ≤ x.n ∧ x.n < 9223372036854775808) ∧ True ∧ ByteArray.size (S ++ bText x.item) + ByteArray.size (bInt x.n) ≤ 140737488355328 ∧ T8 (T4 (T2 (True ∧ pIf x.pass (T2 (True ∧ (1 ≤ 1 ∧ AllU8 [Value.int IntKind.u8 245]) ∧ T2 (ByteArray.size (S ++ bText x.item ++ bInt x.n) + 1 ≤ 140737488355328 ∧ T2 (Post (evK x.kind x) (some (S ++ bText x.item ++ bInt x.n ++ bytesL [Value.int IntKind.u8 245])))))) (T2 (True ∧ (1 ≤ 1 ∧ AllU8 [Value.int IntKind.u8 244]) ∧ T2 (ByteArray.size (S ++ bText x.item ++ bInt x.n) + 1 ≤ 140737488355328 ∧ T2 (Post (evK x.kind x) (some (S ++ bText x.item ++ bInt x.n ++ bytesL [Value.int IntKind.u8 244])))))))))))))))) (T2 (pIf (decide (x.kind = 13)) (T16 (T2 (x.weig.block.size ≤ 16000000 ∧ True ∧ S.size + ByteArray.size (bText x.weig.block) ≤ 140737488355328 ∧ T16 (T8 (T2 ((toI (vi 0) ≤ 0 ∧ toI (vi 0) < (↑5 : Int)) ∧ T8 (T2 ((-9223372036854775808 ≤ x.weig.mass ∧ x.weig.mass < 9223372036854775808) ∧ True ∧ ByteArray.size (S ++ bText x.weig.block) + ByteArray.size (bInt x.weig.mass) ≤ 140737488355328 ∧ T4 ((toI (vi 0) ≤ IntKind.wrap IntKind.i64 (0 + 1) ∧ toI q12 < (↑5 : Int)) ∧ T8 (T2 ((-9223372036854775808 ≤ x.weig.centre.x ∧ x.weig.centre.x < 9223372036854775808) ∧ True ∧ ByteArray.size (S ++ bText x.weig.block ++ bInt x.weig.mass) + ByteArray.size (bInt x.weig.centre.x) ≤ 140737488355328 ∧ T4 ((toI (vi 0) ≤ IntKind.wrap IntKind.i64 q8 ∧ toI (vi (IntKind.wrap IntKind.i64 q8)) < (↑5 : Int)) ∧ T8 (T2 ((-9223372036854775808 ≤ x.weig.centre.y ∧ x.weig.centre.y < 9223372036854775808) ∧ True ∧ ByteArray.size (S ++ bText x.weig.block ++ bInt x.weig.mass ++ bInt x.weig.centre.x) + ByteArray.size (bInt x.weig.centre.y) ≤ 140737488355328 ∧ T4 ((toI (vi 0) ≤ IntKind.wrap IntKind.i64 q13 ∧ toI (vi (IntKind.wrap IntKind.i64 q13)) < (↑5 : Int)) ∧ T8 (T2 ((-9223372036854775808 ≤ x.weig.centre.z ∧ x.weig.centre.z < 9223372036854775808) ∧ True ∧ ByteArray.size (S ++ bText x.weig.block ++ bInt x.weig.mass ++ bInt x.weig.centre.x ++ bInt x.weig.centre.y) + ByteArray.size (bInt x.weig.centre.z) ≤ 140737488355328 ∧ T4 ((toI (vi 0) ≤ IntKind.wrap IntKind.i64 (IntKind.wrap IntKind.i64 q13 + 1) ∧ toI (vi (IntKind.wrap IntKind.i64 (IntKind.wrap IntKind.i64 q13 + 1))) < (↑5 : Int)) ∧ T8 (T2 ((-9223372036854775808 ≤ x.weig.sigma ∧ x.weig.sigma < 9223372036854775808) ∧ True ∧ ByteArray.size (S ++ bText x.weig.block ++ bInt x.weig.mass ++ bInt x.weig.centre.x ++ bInt x.weig.centre.y ++ bInt x.weig.centre.z) + ByteArray.size (bInt x.weig.sigma) ≤ 140737488355328 ∧ T4 (True ∧ Post (evK x.kind x) (some (S ++ bText x.weig.block ++ bInt x.weig.mass ++ bInt x.weig.centre.x ++ bInt x.weig.centre.y ++ bInt x.weig.centre.z ++ bInt x.weig.sigma))))))))))))))))))))))) (T2 (pIf (decide (x.kind = 14)) (T8 (T4 (T2 (True ∧ x.lift.block.size ≤ 16000000 ∧ True ∧ S.size + ByteArray.size (bText x.lift.block) ≤ 140737488355328 ∧ T16 (T4 (True ∧ (0 ≤ q5 ∧ q5 < 9223372036854775808) ∧ True ∧ ByteArray.size (S ++ bText x.lift.block) + ByteArray.size (bList (Int.toNat q5)) ≤ 140737488355328 ∧ T8 (T2 (True ∧ pIf (!decide (q5 = q5)) (T2 ((0 ≤ q5 ∧ q5 ≤ q5 ∧ q5 ≤ 2 ^ 25) ∧ True ∧ 36 ≤ 40 ∧ T8 ((T2 (NLs (zrow (Int.toNat q5) [vz, vi 0, vi 0, vi 0]) ∧ True)) ∧ H (lpC Tryz.prog 22 55) (lpK Tryz.prog 22 55) (stV [(0, some (pt 0)), q10, (330, some (vi (↑(Int.toNat q5) : Int))), (331, some (vi 0))] [(0, some (AObj.cells [vi x.kind, vi x.at_, vs x.item, vs x.of_, vs x.by_, vi x.n, vb x.pass, vs x.order.id, tree 38 x.order.edits.length (encL x.order.edits), vs x.sheet.id, vs x.sheet.grade, vi x.sheet.thick, vi x.sheet.long, vi x.sheet.width, vs x.sheet.heat, vs x.bar.id, vs x.bar.sect, vs x.bar.grade, vi x.bar.long, vs x.bar.heat, vs x.nest.sheet, vi x.nest.gap, tree 5 x.nest.spots.length (encL x.nest.spots), vs x.saw.bar, vi x.saw.kerf, tree 1 x.saw.parts.length (encL x.saw.parts), vs x.weig.block, vi x.weig.at_, vi x.weig.mass, vi x.weig.centre.x, vi x.weig.centre.y, vi x.weig.centre.z, vi x.weig.sigma, tree 1 x.weig.parts.length (encL x.weig.parts), vs x.lift.block, Value.slice (some (Addr.mk 2 0 none)) (Int.toNat q5) 4, vs x.permit.id, vi x.permit.kind, vi x.permit.time.a, vi x.permit.time.b] true)), q14, (2, some (AObj.cells (zrow (Int.toNat q5) [vz, vi 0, vi 0, vi 0]) true))] 3) (some (S ++ bText x.lift.block ++ bList (Int.toNat q5)))))) (T8 ((T2 (True)) ∧ H (lpC Tryz.prog 22 55) (lpK Tryz.prog 22 55) (stV [(0, some (pt 0)), q10, (330, some (vi q5)), (331, some (vi 0))] q9 2) (some (S ++ bText x.lift.block ++ bList (Int.toNat q5))))))))))))) (T2 (pIf (decide (x.kind = 15)) (T8 (T4 (T2 (True ∧ x.permit.id.size ≤ 16000000 ∧ True ∧ S.size + ByteArray.size (bText x.permit.id) ≤ 140737488355328 ∧ T16 (T4 (T2 (q11 ∧ T8 (T2 ((-9223372036854775808 ≤ x.permit.kind ∧ x.permit.kind < 9223372036854775808) ∧ True ∧ ByteArray.size (S ++ bText x.permit.id) + ByteArray.size (bInt x.permit.kind) ≤ 140737488355328 ∧ T4 (q7 ∧ T8 (T2 ((-9223372036854775808 ≤ x.permit.time.a ∧ x.permit.time.a < 9223372036854775808) ∧ True ∧ ByteArray.size (S ++ bText x.permit.id ++ bInt x.permit.kind) + ByteArray.size (bInt x.permit.time.a) ≤ 140737488355328 ∧ T4 (q2 ∧ T8 (T2 ((-9223372036854775808 ≤ x.permit.time.b ∧ x.permit.time.b < 9223372036854775808) ∧ True ∧ ByteArray.size (S ++ bText x.permit.id ++ bInt x.permit.kind ++ bInt x.permit.time.a) + ByteArray.size (bInt x.permit.time.b) ≤ 140737488355328 ∧ T4 (True ∧ Post (evK x.kind x) (some (S ++ bText x.permit.id ++ bInt x.permit.kind ++ bInt x.permit.time.a ++ bInt x.permit.time.b)))))))))))))))))) (True ∧ Post (evK x.kind x) (some S)))))))))))))))))))))))))))))))))) := by kernel_rfl
theorem l_wr5 (x : Event) (S : ByteArray) (i : Int) (H : Code → List Fr → AS → Option ByteArray → Prop) (Post : List Value → Option ByteArray → Prop) : vcLG Tryz.prog mkV 22 argsW [(19, [0, 1, 132, 133]), (31, [0, 1, 203, 204]), (55, [0, 1, 330, 331])] [true, true] 19 (stV [(0, some (.pointer (some ⟨0, 0, none⟩))), (1, some (.iface 84 (.pointer (some ⟨1, 0, none⟩)))), (132, some (.int .i64 x.nest.spots.length)), (133, some (.int .i64 i))] [(0, some (.cells (eventC x) true)), (1, some (.cells [] false))] 2) (some S) H Post = (let q5 := (stV [(0, some (pt 0)), (1, some (Value.iface 84 (pt 1))), (132, some (vi (↑x.nest.spots.length : Int))), (133, some (vi (IntKind.wrap IntKind.i64 (i + 1))))] [(0, some (AObj.cells (evK x.kind x) true)), (1, some (AObj.cells [] false))] 2); let q4 := cellAt (encL x.nest.spots) (Int.toNat i) 3; let q3 := cellAt (encL x.nest.spots) (Int.toNat i) 2; let q2 := cellAt (encL x.nest.spots) (Int.toNat i) 1; let q1 := toS (cellAt (encL x.nest.spots) (Int.toNat i) 0); True ∧ pIf (decide (i < (↑x.nest.spots.length : Int))) (T8 ((0 ≤ i ∧ i < (↑x.nest.spots.length : Int)) ∧ T8 (T4 (True ∧ cellAt (encL x.nest.spots) (Int.toNat i) 0 = vs q1 ∧ ByteArray.size q1 ≤ 16000000 ∧ True ∧ S.size + ByteArray.size (bText q1) ≤ 140737488355328 ∧ T16 (T2 (True ∧ (toI (vi 0) ≤ 0 ∧ toI (vi 0) < (↑3 : Int)) ∧ T8 (True ∧ cellAt (encL x.nest.spots) (Int.toNat i) 1 = vi (toI q2) ∧ (-9223372036854775808 ≤ toI q2 ∧ toI q2 < 9223372036854775808) ∧ True ∧ ByteArray.size (S ++ bText q1) + ByteArray.size (bInt (toI q2)) ≤ 140737488355328 ∧ T4 ((toI (vi 0) ≤ IntKind.wrap IntKind.i64 (0 + 1) ∧ toI (vi (IntKind.wrap IntKind.i64 (0 + 1))) < (↑3 : Int)) ∧ T8 (True ∧ cellAt (encL x.nest.spots) (Int.toNat i) 2 = vi (toI q3) ∧ (-9223372036854775808 ≤ toI q3 ∧ toI q3 < 9223372036854775808) ∧ True ∧ ByteArray.size (S ++ bText q1 ++ bInt (toI q2)) + ByteArray.size (bInt (toI q3)) ≤ 140737488355328 ∧ T4 ((toI (vi 0) ≤ IntKind.wrap IntKind.i64 (IntKind.wrap IntKind.i64 (0 + 1) + 1) ∧ toI (vi (IntKind.wrap IntKind.i64 (IntKind.wrap IntKind.i64 (0 + 1) + 1))) < (↑3 : Int)) ∧ T8 (True ∧ cellAt (encL x.nest.spots) (Int.toNat i) 3 = vi (toI q4) ∧ (-9223372036854775808 ≤ toI q4 ∧ toI q4 < 9223372036854775808) ∧ True ∧ ByteArray.size (S ++ bText q1 ++ bInt (toI q2) ++ bInt (toI q3)) + ByteArray.size (bInt (toI q4)) ≤ 140737488355328 ∧ T16 (True ∧ cellAt (encL x.nest.spots) (Int.toNat i) 4 = vb (toB (cellAt (encL x.nest.spots) (Int.toNat i) 4)) ∧ pIf (toB (cellAt (encL x.nest.spots) (Int.toNat i) 4)) (T2 (True ∧ (1 ≤ 1 ∧ AllU8 [Value.int IntKind.u8 245]) ∧ T2 (ByteArray.size (S ++ bText q1 ++ bInt (toI q2) ++ bInt (toI q3) ++ bInt (toI q4)) + 1 ≤ 140737488355328 ∧ T4 (True ∧ (T2 (True)) ∧ H (lpC Tryz.prog 22 19) (lpK Tryz.prog 22 19) q5 (some (S ++ bText q1 ++ bInt (toI q2) ++ bInt (toI q3) ++ bInt (toI q4) ++ bytesL [Value.int IntKind.u8 245])))))) (T2 (True ∧ (1 ≤ 1 ∧ AllU8 [Value.int IntKind.u8 244]) ∧ T2 (ByteArray.size (S ++ bText q1 ++ bInt (toI q2) ++ bInt (toI q3) ++ bInt (toI q4)) + 1 ≤ 140737488355328 ∧ T4 (True ∧ (T2 (True)) ∧ H (lpC Tryz.prog 22 19) (lpK Tryz.prog 22 19) q5 (some (S ++ bText q1 ++ bInt (toI q2) ++ bInt (toI q3) ++ bInt (toI q4) ++ bytesL [Value.int IntKind.u8 244])))))))))))))))))) (Post (evK x.kind x) (some S))) := by kernel_rfl
theorem l_wr6 (x : Event) (S : ByteArray) (i : Int) (H : Code → List Fr → AS → Option ByteArray → Prop) (Post : List Value → Option ByteArray → Prop) : vcLG Tryz.prog mkV 22 argsW [(19, [0, 1, 132, 133]), (31, [0, 1, 203, 204]), (55, [0, 1, 330, 331])] [true, true] 31 (stV [(0, some (.pointer (some ⟨0, 0, none⟩))), (1, some (.iface 84 (.pointer (some ⟨1, 0, none⟩)))), (203, some (.int .i64 x.saw.parts.length)), (204, some (.int .i64 i))] [(0, some (.cells (eventC x) true)), (1, some (.cells [] false))] 2) (some S) H Post = (let q1 := toS (cellAt (encL x.saw.parts) (Int.toNat i) 0); True ∧ pIf (decide (i < (↑x.saw.parts.length : Int))) (T8 (True ∧ (0 ≤ i ∧ i < (↑x.saw.parts.length : Int)) ∧ T8 (cellAt (encL x.saw.parts) (Int.toNat i) 0 = vs q1 ∧ ByteArray.size q1 ≤ 16000000 ∧ True ∧ S.size + ByteArray.size (bText q1) ≤ 140737488355328 ∧ T4 (True ∧ (T2 (True)) ∧ H (lpC Tryz.prog 22 31) (lpK Tryz.prog 22 31) (stV [(0, some (pt 0)), (1, some (Value.iface 84 (pt 1))), (203, some (vi (↑x.saw.parts.length : Int))), (204, some (vi (IntKind.wrap IntKind.i64 (i + 1))))] [(0, some (AObj.cells (evK x.kind x) true)), (1, some (AObj.cells [] false))] 2) (some (S ++ bText q1)))))) (Post (evK x.kind x) (some S))) := by kernel_rfl
theorem l_wr14 (x : Event) (S : ByteArray) (i : Int) (H : Code → List Fr → AS → Option ByteArray → Prop) (Post : List Value → Option ByteArray → Prop) : vcLG Tryz.prog mkV 22 argsW [(19, [0, 1, 132, 133]), (31, [0, 1, 203, 204]), (55, [0, 1, 330, 331])] [true, true] 55 (stV [(0, some (.pointer (some ⟨0, 0, none⟩))), (1, some (.iface 84 (.pointer (some ⟨1, 0, none⟩)))), (330, some (.int .i64 x.lift.hooks.length)), (331, some (.int .i64 i))] [(0, some (.cells (eventC x) true)), (1, some (.cells [] false))] 2) (some S) H Post = (let q4 := cellAt (encL x.lift.hooks) (Int.toNat i) 3; let q3 := cellAt (encL x.lift.hooks) (Int.toNat i) 2; let q2 := cellAt (encL x.lift.hooks) (Int.toNat i) 1; let q1 := toS (cellAt (encL x.lift.hooks) (Int.toNat i) 0); True ∧ pIf (decide (i < (↑x.lift.hooks.length : Int))) (T8 ((0 ≤ i ∧ i < (↑x.lift.hooks.length : Int)) ∧ T8 (T4 (True ∧ cellAt (encL x.lift.hooks) (Int.toNat i) 0 = vs q1 ∧ ByteArray.size q1 ≤ 16000000 ∧ True ∧ S.size + ByteArray.size (bText q1) ≤ 140737488355328 ∧ T16 (T2 (True ∧ (toI (vi 0) ≤ 0 ∧ toI (vi 0) < (↑3 : Int)) ∧ T8 (True ∧ cellAt (encL x.lift.hooks) (Int.toNat i) 1 = vi (toI q2) ∧ (-9223372036854775808 ≤ toI q2 ∧ toI q2 < 9223372036854775808) ∧ True ∧ ByteArray.size (S ++ bText q1) + ByteArray.size (bInt (toI q2)) ≤ 140737488355328 ∧ T4 ((toI (vi 0) ≤ IntKind.wrap IntKind.i64 (0 + 1) ∧ toI (vi (IntKind.wrap IntKind.i64 (0 + 1))) < (↑3 : Int)) ∧ T8 (True ∧ cellAt (encL x.lift.hooks) (Int.toNat i) 2 = vi (toI q3) ∧ (-9223372036854775808 ≤ toI q3 ∧ toI q3 < 9223372036854775808) ∧ True ∧ ByteArray.size (S ++ bText q1 ++ bInt (toI q2)) + ByteArray.size (bInt (toI q3)) ≤ 140737488355328 ∧ T4 ((toI (vi 0) ≤ IntKind.wrap IntKind.i64 (IntKind.wrap IntKind.i64 (0 + 1) + 1) ∧ toI (vi (IntKind.wrap IntKind.i64 (IntKind.wrap IntKind.i64 (0 + 1) + 1))) < (↑3 : Int)) ∧ T8 (True ∧ cellAt (encL x.lift.hooks) (Int.toNat i) 3 = vi (toI q4) ∧ (-9223372036854775808 ≤ toI q4 ∧ toI q4 < 9223372036854775808) ∧ True ∧ ByteArray.size (S ++ bText q1 ++ bInt (toI q2) ++ bInt (toI q3)) + ByteArray.size (bInt (toI q4)) ≤ 140737488355328 ∧ T8 ((T2 (True)) ∧ H (lpC Tryz.prog 22 55) (lpK Tryz.prog 22 55) (stV [(0, some (pt 0)), (1, some (Value.iface 84 (pt 1))), (330, some (vi (↑x.lift.hooks.length : Int))), (331, some (vi (IntKind.wrap IntKind.i64 (i + 1))))] [(0, some (AObj.cells (evK x.kind x) true)), (1, some (AObj.cells [] false))] 2) (some (S ++ bText q1 ++ bInt (toI q2) ++ bInt (toI q3) ++ bInt (toI q4))))))))))))))) (Post (evK x.kind x) (some S))) := by kernel_rfl
end Go.Proofs.YtegjnjmimfgijaaGreatDoor
