/-
  Put together out of several texts, each in its own namespace's block. Conditions: as each theorem states them.
-/
import Derived.Test.YtngginofamlkkaaGreatDoorQGh
import Derived.Test.YtngginofamlkkaaGreatDoorQPmc
import Derived.Test.YtngginofamlkkaaGreatDoorQSh
import Derived.Test.YtngginofamlkkaaGreatDoorChecked
noncomputable section
namespace Go.Proofs.YtngginofamlkkaaGreatDoor
open Go Go.RowKit
set_option maxRecDepth 100000
set_option maxHeartbeats 8000000
def formP (k : Int) : Int := if k = 1 then 1 else if k = 2 ∨ k = 3 then 2 else if k = 4 then 3 else 0
def shapeUsed (p : Part) : Prop := p.thick ≠ 0 ∨ 0 < p.outer.length + p.holes.length
def longUsed (p : Part) : Prop := p.sect ≠ ⟨#[]⟩ ∨ p.long ≠ 0
def massUsed (p : Part) : Prop := p.mass ≠ 0 ∨ p.centre ≠ ⟨0, 0, 0⟩
instance (p : Part) : Decidable (shapeUsed p) := by unfold shapeUsed; infer_instance
instance (p : Part) : Decidable (longUsed p) := by unfold longUsed; infer_instance
instance (p : Part) : Decidable (massUsed p) := by unfold massUsed; infer_instance
def spareP (p : Part) : Prop := (formP p.kind = 1 ∧ (longUsed p ∨ massUsed p)) ∨ (formP p.kind = 2 ∧ (shapeUsed p ∨ massUsed p)) ∨ (formP p.kind ≠ 1 ∧ formP p.kind ≠ 2 ∧ (p.grade ≠ ⟨#[]⟩ ∨ shapeUsed p ∨ longUsed p))
instance (p : Part) : Decidable (spareP p) := by unfold spareP; infer_instance
def madeP (p : Part) (m : Mats) : Prop := formP p.kind = 3 ∨ (hasG m p.grade ∧ (1000 ≤ (gradeOf m p.grade).dens ∧ (gradeOf m p.grade).dens ≤ 20000) ∧ ((formP p.kind = 1 ∧ (1 ≤ p.thick ∧ p.thick ≤ 120) ∧ rolled m p.grade p.thick) ∨ (formP p.kind ≠ 1 ∧ hasS m p.sect ∧ (1 ≤ (sectOf m p.sect).area ∧ (sectOf m p.sect).area ≤ 1000000) ∧ (1 ≤ (sectOf m p.sect).height ∧ (sectOf m p.sect).height ≤ 2000))))
instance (p : Part) (m : Mats) : Decidable (madeP p m) := by unfold madeP; infer_instance
def bodyErr (p : Part) : Int := if formP p.kind = 1 then shapeCheck p.outer p.holes else if formP p.kind = 2 then (if p.long < 1 ∨ 32768 < p.long then 9 else 0) else if p.mass < 1 ∨ 1099511627776 < p.mass ∨ ¬ inV p.centre 524288 then 9 else 0
def checkP (p : Part) (m : Mats) : Int := if ¬ idOk p.id ∨ ¬ idOk p.node then 6 else if p.rev < 1 ∨ 1000 < p.rev then 9 else if formP p.kind = 0 then 10 else if spareP p then 2 else if ¬ madeP p m then 23 else if bodyErr p ≠ 0 then bodyErr p else if ¬ validP p.at_ p.turn then 9 else 0
structure FitQ (p : Part) : Prop where
 id : p.id.size < 16777000
 node : p.node.size < 16777000
 outer : Short p.outer
 holes : Short p.holes
 all : ∀ h ∈ p.holes, Short h
 sum : p.outer.length + p.holes.length < 4611686018427387904
def c_form (args : List Value) (Post : Value → Prop) : Prop := match args with
 | [.int .i64 k] => Post (.int .i64 (formP k))
 | _ => False
def c_spare (args : List Value) (Post : Value → Prop) : Prop := ∃ p : Part, args = [partV p] ∧ FitQ p ∧ Post (.bool (decide (spareP p)))
def c_made (args : List Value) (Post : Value → Prop) : Prop := ∃ (p : Part) (m : Mats), args = [partV p, matsV m] ∧ FewM m ∧ Post (.bool (decide (madeP p m)))
def c_pcheck (args : List Value) (Post : Value → Prop) : Prop := ∃ (p : Part) (m : Mats), args = [partV p, matsV m] ∧ FitQ p ∧ FewM m ∧ Post (.int .i64 (checkP p m))
theorem e_form (k : Int) (H : HT) (Post : PV) : vcP Tryz.prog noCall 48 [] [.int .i64 k] H Post = (T2 (True ∧ pIf (decide (k = 1)) (T2 (True ∧ Post (vi 1))) (T2 (pIf (decide (k = 2)) (T2 (True ∧ Post (vi 2))) (T2 (pIf (decide (k = 3)) (T2 (True ∧ Post (vi 2))) (T2 (pIf (decide (k = 4)) (T2 (True ∧ Post (vi 3))) (T2 (True ∧ Post (vi 0))))))))))) := by kernel_rfl
theorem e_spare (p : Part) (H : HT) (Post : PV) : vcP Tryz.prog (tabCall [⟨48, c_form⟩] noCall) 49 [] [partV p] H Post = (let q12 := T4 (T2 (True ∧ Post (vb false))); let q11 := decide (formP p.kind = 2); let q10 := !decide (p.grade = ByteArray.mk #[]); let q9 := T4 (T2 (True ∧ Post (vb true))); let q8 := !(decide (p.centre.x = 0) && (decide (p.centre.y = 0) && (decide (p.centre.z = 0) && true))); let q5 := T4 (T2 (Post (vb true))); let q7 := T2 (pIf q11 q9 (T4 (pIf q10 q5 (T8 (Post (vb true)))))); let q6 := decide (formP p.kind = 1); let q1 := T2 (pIf q11 q5 (T4 (pIf q10 q5 q9))); let q4 := T4 (True ∧ pIf q8 (T4 (True ∧ pIf q6 q5 q1)) (T4 (True ∧ pIf q6 q5 q1))); let q3 := T4 (True ∧ pIf q8 (T4 (True ∧ pIf q6 q5 q7)) (T4 (True ∧ pIf q6 q5 (T2 (pIf q11 q12 (T4 (pIf q10 q5 (T8 (Post (vb true)))))))))); let q2 := T4 (pIf (!decide (p.long = 0)) (T4 (True ∧ pIf (!decide (p.mass = 0)) (T4 (T2 (pIf q6 q5 q1))) q4)) (T4 (True ∧ pIf (!decide (p.mass = 0)) (T4 (T2 (pIf q6 q9 q1))) (T4 (True ∧ pIf q8 (T4 (True ∧ pIf q6 q9 q1)) (T4 (True ∧ pIf q6 q12 q1))))))); T4 (True ∧ pIf (!decide (p.thick = 0)) (T4 (T2 (pIf (!decide (p.sect = ByteArray.mk #[])) (T4 (T2 (pIf (!decide (p.mass = 0)) (T4 (T2 (pIf q6 q5 q1))) q4))) q2))) (T8 (T2 (True ∧ pIf (decide (IntKind.wrap IntKind.i64 ((↑p.outer.length : Int) + (↑p.holes.length : Int)) > 0)) (T4 (True ∧ pIf (!decide (p.sect = ByteArray.mk #[])) (T4 (T2 (pIf (!decide (p.mass = 0)) (T4 (T2 (pIf q6 q5 q1))) q4))) q2)) (T4 (True ∧ pIf (!decide (p.sect = ByteArray.mk #[])) (T4 (T2 (pIf (!decide (p.mass = 0)) (T4 (T2 (pIf q6 q5 q7))) q3))) (T4 (pIf (!decide (p.long = 0)) (T4 (True ∧ pIf (!decide (p.mass = 0)) (T4 (T2 (pIf q6 q5 q7))) q3)) (T4 (True ∧ pIf (!decide (p.mass = 0)) (T4 (T2 (pIf q6 q9 (T2 (pIf q11 q9 (T4 (pIf q10 q5 (T8 (Post (vb false)))))))))) (T4 (True ∧ pIf q8 (T4 (True ∧ pIf q6 q9 (T2 (pIf q11 q9 (T4 (pIf q10 q5 (T8 (Post (vb false))))))))) (T4 (True ∧ pIf q6 q12 (T2 (pIf q11 q12 (T4 (pIf q10 q5 (T8 (Post (vb false)))))))))))))))))))))) := by kernel_rfl
def vcMd : VCall := inlCall Tryz.prog [47] (tabCall [⟨48, c_form⟩, ⟨62, c_Grade⟩, ⟨63, c_Sect⟩, ⟨119, c_Rolled⟩] noCall) 2
theorem e_made (p : Part) (m : Mats) (H : HT) (Post : PV) : vcP Tryz.prog vcMd 50 [] [partV p, matsV m] H Post = (let q2 := True ∧ Post (vb false); let q1 := #[tree 4 (List.length (Mats.grades m)) (encL (Mats.grades m)), tree 4 (List.length (Mats.sects m)) (encL (Mats.sects m))]; T4 (T2 (pIf (decide (formP p.kind = 3)) (T2 (Post (vb true))) (T2 (True ∧ ∃ (m_1 : Mats), ∃ (s : ByteArray), eqL [Value.agg q1, vs p.grade] [matsV m_1, vs s] ∧ FewM m_1 ∧ T2 (True ∧ pIf (decide (hasG m_1 s)) (True ∧ 4 ≤ 4 ∧ T8 (T2 (pIf (decide (Grade4.dens (gradeOf m_1 s) ≥ 1000)) (T4 (pIf (decide (Grade4.dens (gradeOf m_1 s) ≤ 20000)) (T4 (T2 (True ∧ pIf (decide (formP p.kind = 1)) (T4 (T2 (pIf (decide (p.thick ≥ 1)) (T4 (pIf (decide (p.thick ≤ 120)) (T8 (∃ (m_2 : Mats), ∃ (s : ByteArray), ∃ (t : Int), eqL [Value.agg q1, vs p.grade, vi p.thick] [matsV m_2, vs s, vi t] ∧ FewM m_2 ∧ pIf (decide (rolled m_2 s t)) (T2 (True ∧ Post (vb true))) (T2 q2))) (T4 (T2 (Post (vb false)))))) (T4 (T2 q2))))) (T2 (True ∧ ∃ (m_2 : Mats), ∃ (s : ByteArray), eqL [Value.agg q1, vs p.sect] [matsV m_2, vs s] ∧ FewM m_2 ∧ T2 (True ∧ pIf (decide (hasS m_2 s)) (True ∧ 4 ≤ 4 ∧ T8 (True ∧ pIf (decide (Sect4.area (sectOf m_2 s) ≥ 1)) (T4 (pIf (decide (Sect4.area (sectOf m_2 s) ≤ 1000000)) (T8 (T2 (pIf (decide (Sect4.height (sectOf m_2 s) ≥ 1)) (T4 (pIf (decide (Sect4.height (sectOf m_2 s) ≤ 2000)) (T4 (True ∧ Post (vb true))) (T4 q2))) (T4 (T2 (Post (vb false))))))) (T4 (T2 q2)))) (T8 (Post (vb false))))) (True ∧ 4 ≤ 4 ∧ T8 (Post (vb false))))))))) (T4 (T2 (Post (vb false)))))) (T4 (T2 q2))))) (True ∧ 4 ≤ 4 ∧ T4 (T2 q2)))))))) := by kernel_rfl
def vcPk : VCall := inlCall Tryz.prog [47, 52] (tabCall [⟨48, c_form⟩, ⟨49, c_spare⟩, ⟨50, c_made⟩, ⟨46, c_id⟩, ⟨51, c_rchk⟩, ⟨53, c_vvalid⟩] noCall) 2
theorem e_pcheck (p : Part) (m : Mats) (H : HT) (Post : PV) : vcP Tryz.prog vcPk 15 [] [partV p, matsV m] H Post = (let q3 := T2 (True ∧ Post (vi 9)); let q2 := [Value.agg #[vi p.at_.x, vi p.at_.y, vi p.at_.z, vi p.turn]]; let q1 := #[vs p.id, vi p.rev, vi p.kind, vs p.node, vs p.grade, vi p.thick, trPt p.outer, trPts p.holes, vs p.sect, vi p.long, vi p.mass, vi p.centre.x, vi p.centre.y, vi p.centre.z, vi p.at_.x, vi p.at_.y, vi p.at_.z, vi p.turn]; T4 (True ∧ ∃ (s : ByteArray), eqL [vs p.id] [vs s] ∧ s.size < 16777000 ∧ pIf (decide (idOk s)) (T4 (∃ (s : ByteArray), eqL [vs p.node] [vs s] ∧ s.size < 16777000 ∧ pIf (decide (idOk s)) (T8 (True ∧ pIf (decide (p.rev ≥ 1)) (T4 (pIf (decide (p.rev ≤ 1000)) (T4 (T2 (True ∧ pIf (decide (formP p.kind = 0)) (T2 (True ∧ Post (vi 10))) (T2 (∃ (p_1 : Part), eqL [Value.agg q1] [partV p_1] ∧ FitQ p_1 ∧ pIf (decide (spareP p_1)) (T2 (True ∧ Post (vi 2))) (T2 (True ∧ ∃ (p_2 : Part), ∃ (m_1 : Mats), eqL [Value.agg q1, Value.agg #[tree 4 (List.length (Mats.grades m)) (encL (Mats.grades m)), tree 4 (List.length (Mats.sects m)) (encL (Mats.sects m))]] [partV p_2, matsV m_1] ∧ FewM m_1 ∧ pIf (decide (madeP p_2 m_1)) (T4 (True ∧ pIf (decide (formP p.kind = 1)) (T2 (True ∧ ∃ (o : List Pt), ∃ (hs : List (List Pt)), eqL [Value.agg #[trPt p.outer, trPts p.holes]] [shapeV o hs] ∧ Short o ∧ Short hs ∧ (∀ (h : List Pt), h ∈ hs → Short h) ∧ T2 (True ∧ pIf (!decide (shapeCheck o hs = 0)) (T2 (True ∧ Post (vi (shapeCheck o hs)))) (T2 (∃ (a : Vec3), ∃ (k : Int), eqL q2 [placeV a k] ∧ pIf (decide (validP a k)) (T2 (True ∧ Post (vi 0))) q3))))) (T2 (pIf (decide (formP p.kind = 2)) (T4 (T2 (True ∧ pIf (decide (p.long ≥ 1)) (T4 (pIf (decide (p.long ≤ 32768)) (T4 (True ∧ ∃ (a : Vec3), ∃ (k : Int), eqL q2 [placeV a k] ∧ pIf (decide (validP a k)) (T2 (True ∧ Post (vi 0))) q3)) (T4 (True ∧ Post (vi 9))))) (T4 (T2 (Post (vi 9))))))) (T2 (pIf (decide (formP p.kind = 3)) (T4 (T2 (True ∧ pIf (decide (p.mass ≥ 1)) (T4 (pIf (decide (p.mass ≤ 1099511627776)) (T8 (T2 (∃ (a : Vec3), ∃ (k : Int), eqL [Value.agg #[vi p.centre.x, vi p.centre.y, vi p.centre.z, vi 0]] [placeV a k] ∧ pIf (decide (validP a k)) (T4 (True ∧ ∃ (a : Vec3), ∃ (k : Int), eqL q2 [placeV a k] ∧ pIf (decide (validP a k)) (T2 (True ∧ Post (vi 0))) q3)) (T4 (True ∧ Post (vi 9)))))) (T4 q3))) (T8 (Post (vi 9)))))) (T2 (True ∧ ∃ (a : Vec3), ∃ (k : Int), eqL q2 [placeV a k] ∧ pIf (decide (validP a k)) (T2 (True ∧ Post (vi 0))) q3)))))))) (T4 (Post (vi 23)))))))))) (T4 (T2 (Post (vi 9)))))) (T4 q3))) (T4 (True ∧ Post (vi 6))))) (T4 (T2 (Post (vi 6)))))) := by kernel_rfl
theorem formP_cases (k : Int) : formP k = 0 ∨ formP k = 1 ∨ formP k = 2 ∨ formP k = 3 := by
 unfold formP
 repeat' split
 all_goals simp
theorem ok_form : EntOk Tryz.prog ⟨48, c_form⟩ := by
 intro args Post hc
 unfold c_form at hc
 dsimp only at hc
 split at hc
 case h_2 => exact hc.elim
 rename_i k
 refine pure_P noCall_ok mixed (by kernel_rfl) (by kernel_rfl) _ (e_form k _ _) ?_
 unfold formP at hc
 simp only [true_and]
 refine ifD (fun h1 => ?_) (fun h1 => ?_)
 ·rwa [if_pos h1] at hc
 rw [if_neg h1] at hc
 refine ifD (fun h2 => ?_) (fun h2 => ifD (fun h3 => ?_) (fun h3 => ?_))
 ·rwa [if_pos (.inl h2)] at hc
 ·rwa [if_pos (.inr h3)] at hc
 rw [if_neg (by omega)] at hc
 refine ifD (fun h4 => ?_) (fun h4 => ?_)
 ·rwa [if_pos h4] at hc
 ·rwa [if_neg h4] at hc
theorem vec_zero (c : Vec3) : (decide (c.x = 0) && (decide (c.y = 0) && (decide (c.z = 0) && true))) = decide (c = ⟨0, 0, 0⟩) := by
 cases c with
 | mk x y z =>
  simp only [Vec3.mk.injEq, Bool.and_true]
  by_cases h1 : x = 0 <;> by_cases h2 : y = 0 <;> by_cases h3 : z = 0 <;> simp [h1, h2, h3]
theorem used_len {p : Part} (hf : FitQ p) : (IntKind.i64.wrap ((p.outer.length : Int) + (p.holes.length : Int)) > 0) = (0 < p.outer.length + p.holes.length) := by
 have := hf.sum
 rw [wrap64 (by omega) (by omega)]
 exact propext ⟨fun h => by omega, fun h => by omega⟩
theorem ok_spare : EntOk Tryz.prog ⟨49, c_spare⟩ := by
 rintro args Post ⟨p, rfl, hf, h⟩
 refine pure_P (tabCall_ok (by
  intro e he
  simp only [List.mem_cons, List.not_mem_nil, or_false] at he
  subst he
  exact ok_form) noCall_ok) mixed (by kernel_rfl) (by kernel_rfl) _ (e_spare p _ _) ?_
 simp only [true_and, vec_zero, used_len hf]
 have yes : spareP p → Post (.bool true) := fun hp => by rwa [decide_eq_true hp] at h
 have no : ¬ spareP p → Post (.bool false) := fun hp => by rwa [decide_eq_false hp] at h
 clear h
 unfold spareP shapeUsed longUsed massUsed at yes no
 generalize p.thick = q2 at *
 generalize p.sect = q3 at *
 generalize p.long = q4 at *
 generalize p.mass = q5 at *
 generalize p.centre = q6 at *
 generalize p.grade = q7 at *
 generalize formP p.kind = q8 at *
 repeat' (first
  | refine ifN (fun _ => ?_) (fun _ => ?_)
  | refine ifD (fun _ => ?_) (fun _ => ?_)
  | exact yes (by simp [*])
  | exact no (by simp [*])
  | fail)
theorem vcMd_ok : VCallOk Tryz.prog vcMd := inlCall_ok mixed (tabCall_ok (by
 intro e he
 simp only [List.mem_cons, List.not_mem_nil, or_false] at he
 rcases he with rfl | rfl | rfl | rfl
 ·exact ok_form
 ·exact ok_Grade
 ·exact ok_Sect
 ·exact ok_Rolled) noCall_ok) 2
theorem ok_made : EntOk Tryz.prog ⟨50, c_made⟩ := by
 rintro args Post ⟨p, m, rfl, hf, h⟩
 refine pure_P vcMd_ok mixed (by kernel_rfl) (by kernel_rfl) _ (e_made p m _ _) ?_
 simp only [true_and]
 have yes : madeP p m → Post (.bool true) := fun hp => by rwa [decide_eq_true hp] at h
 have no : ¬ madeP p m → Post (.bool false) := fun hp => by rwa [decide_eq_false hp] at h
 clear h
 refine ifD (fun h1 => yes (.inl h1)) (fun h1 => ⟨m, p.grade, rfl, hf, ifD (fun h2 => ⟨by decide, ?_⟩) (fun h2 => ⟨by decide, no ?_⟩)⟩)
 case refine_2 => rintro (h | h); exact h1 h; exact h2 h.1
 refine ifD (fun h3 => ifD (fun h4 => ?_) (fun h4 => no ?_)) (fun h3 => no ?_)
 case refine_2 => rintro (h | h); exact h1 h; exact h4 h.2.1.2
 case refine_3 => rintro (h | h); exact h1 h; exact h3 h.2.1.1
 refine ifD (fun h5 => ?_) (fun h5 => ⟨m, p.sect, rfl, hf, ifD (fun h6 => ⟨by decide, ?_⟩) (fun h6 => ⟨by decide, no ?_⟩)⟩)
 ·refine ifD (fun h6 => ifD (fun h7 => ⟨m, p.grade, p.thick, rfl, hf, ifD (fun h8 => yes (.inr ⟨h2, ⟨h3, h4⟩, .inl ⟨h5, ⟨h6, h7⟩, h8⟩⟩)) (fun h8 => no ?_)⟩) (fun h7 => no ?_)) (fun h6 => no ?_)
  ·rintro (h | ⟨_, _, h | h⟩)
   ·exact h1 h
   ·exact h8 h.2.2
   ·exact h.1 h5
  ·rintro (h | ⟨_, _, h | h⟩)
   ·exact h1 h
   ·exact h7 h.2.1.2
   ·exact h.1 h5
  ·rintro (h | ⟨_, _, h | h⟩)
   ·exact h1 h
   ·exact h6 h.2.1.1
   ·exact h.1 h5
 ·refine ifD (fun h7 => ifD (fun h8 => ifD (fun h9 => ifD (fun h10 => yes (.inr ⟨h2, ⟨h3, h4⟩, .inr ⟨h5, h6, ⟨h7, h8⟩, h9, h10⟩⟩)) (fun h10 => no ?_)) (fun h9 => no ?_)) (fun h8 => no ?_)) (fun h7 => no ?_)
  ·rintro (h | ⟨_, _, h | h⟩)
   ·exact h1 h
   ·exact h5 h.1
   ·exact h10 h.2.2.2.2
  ·rintro (h | ⟨_, _, h | h⟩)
   ·exact h1 h
   ·exact h5 h.1
   ·exact h9 h.2.2.2.1
  ·rintro (h | ⟨_, _, h | h⟩)
   ·exact h1 h
   ·exact h5 h.1
   ·exact h8 h.2.2.1.2
  ·rintro (h | ⟨_, _, h | h⟩)
   ·exact h1 h
   ·exact h5 h.1
   ·exact h7 h.2.2.1.1
 ·rintro (h | ⟨_, _, h | h⟩)
  ·exact h1 h
  ·exact h5 h.1
  ·exact h6 h.2.1
theorem vcPk_ok : VCallOk Tryz.prog vcPk := inlCall_ok mixed (tabCall_ok (by
 intro e he
 simp only [List.mem_cons, List.not_mem_nil, or_false] at he
 rcases he with rfl | rfl | rfl | rfl | rfl | rfl
 ·exact ok_form
 ·exact ok_spare
 ·exact ok_made
 ·exact ok_id
 ·exact ok_rchk
 ·exact ok_vvalid) noCall_ok) 2
theorem valid_zero (c : Vec3) : validP c 0 ↔ inV c 524288 := ⟨fun h => h.1, fun h => ⟨h, rfl⟩⟩
theorem ok_pcheck : EntOk Tryz.prog ⟨15, c_pcheck⟩ := by
 rintro args Post ⟨p, m, rfl, hq, hf, h⟩
 refine pure_P vcPk_ok mixed (by kernel_rfl) (by kernel_rfl) _ (e_pcheck p m _ _) ?_
 simp only [true_and]
 unfold checkP at h
 refine ⟨p.id, rfl, hq.id, ifD (fun h1 => ⟨p.node, rfl, hq.node, ifD (fun h2 => ?_) (fun h2 => ?_)⟩) (fun h1 => ?_)⟩
 case refine_2 => rwa [if_pos (.inr h2)] at h
 case refine_3 => rwa [if_pos (.inl h1)] at h
 rw [if_neg (by rintro (h | h); exact h h1; exact h h2)] at h
 refine ifD (fun h3 => ifD (fun h4 => ?_) (fun h4 => ?_)) (fun h3 => ?_)
 case refine_2 => rwa [if_pos (by omega)] at h
 case refine_3 => rwa [if_pos (by omega)] at h
 rw [if_neg (by omega)] at h
 refine ifD (fun h5 => ?_) (fun h5 => ⟨p, rfl, hq, ifD (fun h6 => ?_) (fun h6 => ⟨p, m, rfl, hf, ifD (fun h7 => ?_) (fun h7 => ?_)⟩)⟩)
 ·rwa [if_pos h5] at h
 ·rwa [if_neg h5, if_pos h6] at h
 case refine_4 => rwa [if_neg h5, if_neg h6, if_pos h7] at h
 rw [if_neg h5, if_neg h6, if_neg (fun hn => hn h7)] at h
 -- the placement, behind the body
 have last : bodyErr p = 0 → ∃ (a : Vec3) (k : Int), eqL [placeV p.at_ p.turn] [placeV a k] ∧ pIf (decide (validP a k)) (Post (.int .i64 0)) (Post (.int .i64 9)) := fun hb => by
  rw [if_neg (by rw [hb]; exact fun h => h rfl)] at h
  refine ⟨p.at_, p.turn, rfl, ifD (fun h8 => ?_) (fun h8 => ?_)⟩
  ·rwa [if_neg (fun hn => hn h8)] at h
  ·rwa [if_pos h8] at h
 have bad : ∀ e : Int, bodyErr p = e → e ≠ 0 → Post (.int .i64 e) := fun e he hn => by
  rw [if_pos (by rw [he]; exact hn), he] at h
  exact h
 unfold bodyErr at last bad
 refine ifD (fun f1 => ⟨p.outer, p.holes, rfl, hq.outer, hq.holes, hq.all, ifN (fun g => bad _ (by rw [if_pos f1]) g) (fun g => last (by rw [if_pos f1]; exact g))⟩) (fun f1 => ?_)
 rw [if_neg f1] at last bad
 refine ifD (fun f2 => ?_) (fun f2 => ?_)
 ·rw [if_pos f2] at last bad
  refine ifD (fun g1 => ifD (fun g2 => last (by rw [if_neg (by omega)])) (fun g2 => bad 9 (by rw [if_pos (by omega)]) (by decide))) (fun g1 => bad 9 (by rw [if_pos (by omega)]) (by decide))
 rw [if_neg f2] at last bad
 refine ifD (fun f3 => ?_) (fun f3 => ?_)
 ·refine ifD (fun g1 => ifD (fun g2 => ⟨p.centre, 0, rfl, ifD (fun g3 => last ?_) (fun g3 => bad 9 ?_ (by decide))⟩) (fun g2 => bad 9 (by rw [if_pos (.inr (.inl (by omega)))]) (by decide))) (fun g1 => bad 9 (by rw [if_pos (.inl (by omega))]) (by decide))
  ·rw [if_neg]
   rintro (h | h | h)
   ·omega
   ·omega
   ·exact h ((valid_zero _).1 g3)
  ·rw [if_pos (.inr (.inr fun hi => g3 ((valid_zero _).2 hi)))]
 ·have := formP_cases p.kind
  omega
def c_rspare (args : List Value) (Post : Value → Prop) : Prop := ∃ p : Part, args = [partV p] ∧ FitQ p ∧ formP p.kind ≠ 0 ∧ Post (.bool (decide (spareP p)))
def c_known (args : List Value) (Post : Value → Prop) : Prop := ∃ (p : Part) (m : Mats), args = [partV p, matsV m] ∧ FewM m ∧ formP p.kind ≠ 0 ∧ Post (.bool (decide (madeP p m)))
theorem e_rspare (p : Part) (H : HT) (Post : PV) : vcP Tryz.prog (inlCall Tryz.prog [128] noCall 2) 55 [] [partV p] H Post = (let q12 := !decide (p.sect = ByteArray.mk #[]); let q11 := T2 (True ∧ Post (vb false)); let q6 := T2 (True ∧ Post (vb true)); let q10 := T2 (pIf (decide (p.kind = 4)) (T8 (True ∧ Post (vb true))) (T4 q6)); let q7 := T4 (T2 (Post (vb true))); let q3 := T2 (pIf (decide (p.kind = 4)) (T8 (Post (vb true))) q7); let q5 := !(decide (p.centre.x = 0) && (decide (p.centre.y = 0) && (decide (p.centre.z = 0) && true))); let q2 := T4 (True ∧ pIf q5 (T4 (True ∧ pIf (decide (p.kind = 1)) q7 q3)) (T4 (True ∧ pIf (decide (p.kind = 1)) q7 q3))); let q9 := T4 (T2 (pIf (!decide (p.mass = 0)) (T4 (T2 (pIf (decide (p.kind = 1)) q7 q3))) q2)); let q8 := T8 (True ∧ pIf (!decide (p.grade = ByteArray.mk #[])) q6 q11); let q4 := T4 (True ∧ pIf q5 (T4 (True ∧ pIf (decide (p.kind = 1)) q7 q10)) (T4 (True ∧ pIf (decide (p.kind = 1)) q7 (T2 (pIf (decide (p.kind = 4)) (T8 (True ∧ Post (vb true))) (T4 q11)))))); let q1 := T4 (pIf (!decide (p.long = 0)) (T4 (True ∧ pIf (!decide (p.mass = 0)) (T4 (T2 (pIf (decide (p.kind = 1)) q7 q3))) q2)) (T4 (True ∧ pIf (!decide (p.mass = 0)) (T4 (T2 (pIf (decide (p.kind = 1)) (T4 q6) q3))) (T4 (True ∧ pIf q5 (T4 (True ∧ pIf (decide (p.kind = 1)) (T4 q6) q3)) (T4 (True ∧ pIf (decide (p.kind = 1)) (T4 q11) q3))))))); T4 (True ∧ pIf (!decide (p.thick = 0)) (T4 (T2 (pIf q12 q9 q1))) (T8 (True ∧ pIf (decide ((↑p.outer.length : Int) = 0)) (T4 (True ∧ pIf (decide ((↑p.holes.length : Int) = 0)) (T8 (pIf q12 (T4 (T2 (pIf (!decide (p.mass = 0)) (T4 (T2 (pIf (decide (p.kind = 1)) q7 q10))) q4))) (T4 (pIf (!decide (p.long = 0)) (T4 (True ∧ pIf (!decide (p.mass = 0)) (T4 (T2 (pIf (decide (p.kind = 1)) q7 q10))) q4)) (T4 (True ∧ pIf (!decide (p.mass = 0)) (T4 (T2 (pIf (decide (p.kind = 1)) (T4 q6) (T2 (pIf (decide (p.kind = 4)) q8 (T4 q6)))))) (T4 (True ∧ pIf q5 (T4 (True ∧ pIf (decide (p.kind = 1)) (T4 q6) (T2 (pIf (decide (p.kind = 4)) q8 (T4 q6))))) (T4 (True ∧ pIf (decide (p.kind = 1)) (T4 q11) (T2 (pIf (decide (p.kind = 4)) q8 (T4 q11))))))))))))) (T8 (pIf q12 q9 q1)))) (T8 (True ∧ pIf q12 q9 q1)))))) := by kernel_rfl
def vcRk : VCall := tabCall [⟨65, c_Grade⟩, ⟨66, c_Sect⟩, ⟨129, c_Rolled⟩] noCall
theorem e_known (p : Part) (m : Mats) (H : HT) (Post : PV) : vcP Tryz.prog vcRk 56 [] [partV p, matsV m] H Post = (let q2 := True ∧ Post (vb false); let q1 := #[tree 4 (List.length (Mats.grades m)) (encL (Mats.grades m)), tree 4 (List.length (Mats.sects m)) (encL (Mats.sects m))]; T4 (T2 (pIf (decide (p.kind = 4)) (T2 (Post (vb true))) (T2 (True ∧ ∃ (m_1 : Mats), ∃ (s : ByteArray), eqL [Value.agg q1, vs p.grade] [matsV m_1, vs s] ∧ FewM m_1 ∧ T2 (True ∧ pIf (decide (hasG m_1 s)) (True ∧ 4 ≤ 4 ∧ T4 (T2 (True ∧ pIf (decide (Grade4.dens (gradeOf m_1 s) < 1000)) (T4 q2) (T4 (True ∧ pIf (decide (Grade4.dens (gradeOf m_1 s) > 20000)) (T2 q2) (T4 (pIf (decide (p.kind = 1)) (T2 (True ∧ pIf (decide (p.thick ≥ 1)) (T4 (pIf (decide (p.thick ≤ 120)) (T4 (T2 (True ∧ ∃ (m_2 : Mats), ∃ (s : ByteArray), ∃ (t : Int), eqL [Value.agg q1, vs p.grade, vi p.thick] [matsV m_2, vs s, vi t] ∧ FewM m_2 ∧ pIf (decide (rolled m_2 s t)) (T2 (True ∧ Post (vb true))) (T2 q2)))) (T4 q2))) (T4 (T2 (Post (vb false)))))) (T2 (True ∧ ∃ (m_2 : Mats), ∃ (s : ByteArray), eqL [Value.agg q1, vs p.sect] [matsV m_2, vs s] ∧ FewM m_2 ∧ T2 (True ∧ pIf (decide (hasS m_2 s)) (True ∧ 4 ≤ 4 ∧ T4 (T2 (pIf (decide (Sect4.area (sectOf m_2 s) ≥ 1)) (T4 (True ∧ pIf (decide (Sect4.area (sectOf m_2 s) ≤ 1000000)) (T4 (True ∧ pIf (decide (Sect4.height (sectOf m_2 s) ≥ 1)) (T4 (True ∧ pIf (decide (Sect4.height (sectOf m_2 s) ≤ 2000)) (T2 (True ∧ Post (vb true))) (T2 q2))) (T4 q2))) (T4 (T2 q2)))) (T8 q2)))) (True ∧ 4 ≤ 4 ∧ T8 (T4 (Post (vb false)))))))))))))) (True ∧ 4 ≤ 4 ∧ T8 q2))))))) := by kernel_rfl
def vcRc16 : VCall := inlCall Tryz.prog [58] (tabCall [⟨54, c_id⟩, ⟨55, c_rspare⟩, ⟨56, c_known⟩, ⟨57, c_rchk⟩, ⟨59, c_vvalid⟩] noCall) 2
theorem e_r16chk (p : Part) (m : Mats) (H : HT) (Post : PV) : vcP Tryz.prog vcRc16 16 [] [partV p, matsV m] H Post = (let q3 := [Value.agg #[vi p.at_.x, vi p.at_.y, vi p.at_.z, vi p.turn]]; let q2 := T2 (True ∧ Post (vi 9)); let q1 := #[vs p.id, vi p.rev, vi p.kind, vs p.node, vs p.grade, vi p.thick, trPt p.outer, trPts p.holes, vs p.sect, vi p.long, vi p.mass, vi p.centre.x, vi p.centre.y, vi p.centre.z, vi p.at_.x, vi p.at_.y, vi p.at_.z, vi p.turn]; T4 (True ∧ ∃ (s : ByteArray), eqL [vs p.id] [vs s] ∧ s.size < 16777000 ∧ pIf (decide (idOk s)) (T4 (∃ (s : ByteArray), eqL [vs p.node] [vs s] ∧ s.size < 16777000 ∧ pIf (decide (idOk s)) (T4 (True ∧ pIf (decide (p.rev < 1)) (T4 (Post (vi 9))) (T4 (pIf (decide (p.rev > 1000)) q2 (T4 (pIf (decide (p.kind < 1)) (T4 (Post (vi 10))) (T4 (pIf (decide (p.kind > 4)) (T2 (True ∧ Post (vi 10))) (T2 (∃ (p_1 : Part), eqL [Value.agg q1] [partV p_1] ∧ FitQ p_1 ∧ (formP p_1.kind = 0 → False) ∧ pIf (decide (spareP p_1)) (T2 (Post (vi 2))) (T2 (∃ (p_2 : Part), ∃ (m_1 : Mats), eqL [Value.agg q1, Value.agg #[tree 4 (List.length (Mats.grades m)) (encL (Mats.grades m)), tree 4 (List.length (Mats.sects m)) (encL (Mats.sects m))]] [partV p_2, matsV m_1] ∧ FewM m_1 ∧ (formP p_2.kind = 0 → False) ∧ pIf (decide (madeP p_2 m_1)) (T4 (pIf (decide (p.kind = 1)) (T2 (∃ (o : List Pt), ∃ (hs : List (List Pt)), eqL [Value.agg #[trPt p.outer, trPts p.holes]] [shapeV o hs] ∧ Short o ∧ Short hs ∧ (∀ (h : List Pt), h ∈ hs → Short h) ∧ T2 (True ∧ pIf (!decide (shapeCheck o hs = 0)) (T2 (True ∧ Post (vi (shapeCheck o hs)))) (T2 (∃ (a : Vec3), ∃ (k : Int), eqL q3 [placeV a k] ∧ pIf (decide (validP a k)) (T2 (True ∧ Post (vi 0))) q2))))) (T2 (True ∧ pIf (decide (p.kind = 4)) (T2 (True ∧ pIf (decide (p.mass < 1)) (T4 (T2 (Post (vi 9)))) (T4 (pIf (decide (p.mass > 1099511627776)) (T4 (True ∧ Post (vi 9))) (T8 (True ∧ pIf (decide (p.centre.x < -524288)) (T8 (T4 (T2 (Post (vi 9))))) (T4 (pIf (decide (p.centre.x > 524288)) (T8 (T4 (True ∧ Post (vi 9)))) (T4 (True ∧ pIf (decide (p.centre.y < -524288)) (T8 q2) (T4 (True ∧ pIf (decide (p.centre.y > 524288)) (T8 (True ∧ Post (vi 9))) (T4 (True ∧ pIf (decide (p.centre.z < -524288)) (T4 q2) (T4 (True ∧ pIf (decide (p.centre.z > 524288)) (T4 (True ∧ Post (vi 9))) (T4 (True ∧ ∃ (a : Vec3), ∃ (k : Int), eqL q3 [placeV a k] ∧ pIf (decide (validP a k)) (T2 (True ∧ Post (vi 0))) q2)))))))))))))))))) (T2 (True ∧ pIf (decide (p.long < 1)) (T4 (Post (vi 9))) (T4 (pIf (decide (p.long > 32768)) q2 (T2 (True ∧ ∃ (a : Vec3), ∃ (k : Int), eqL q3 [placeV a k] ∧ pIf (decide (validP a k)) (T2 (True ∧ Post (vi 0))) q2)))))))))) (T2 (True ∧ Post (vi 23))))))))))))))) (T4 (Post (vi 6))))) (T4 (True ∧ Post (vi 6))))) := by kernel_rfl
theorem form_one {k : Int} : formP k = 1 ↔ k = 1 := by
 unfold formP
 repeat' split
 all_goals omega
theorem form_two {k : Int} : formP k = 2 ↔ k = 2 ∨ k = 3 := by
 unfold formP
 repeat' split
 all_goals omega
theorem form_three {k : Int} : formP k = 3 ↔ k = 4 := by
 unfold formP
 repeat' split
 all_goals omega
theorem form_none {k : Int} : formP k = 0 ↔ k < 1 ∨ 4 < k := by
 unfold formP
 repeat' split
 all_goals omega
theorem spare_kind {p : Part} (h : formP p.kind ≠ 0) : spareP p ↔ (p.kind = 1 ∧ (longUsed p ∨ massUsed p)) ∨ (p.kind = 4 ∧ (p.grade ≠ ⟨#[]⟩ ∨ shapeUsed p ∨ longUsed p)) ∨ (p.kind ≠ 1 ∧ p.kind ≠ 4 ∧ (shapeUsed p ∨ massUsed p)) := by
 unfold spareP
 have h0 := h
 rw [Ne, form_none] at h
 rw [Ne, Ne, form_one, form_two]
 generalize longUsed p = A
 generalize massUsed p = B
 generalize shapeUsed p = C
 generalize (p.grade ≠ ⟨#[]⟩) = D
 by_cases h1 : p.kind = 1
 ·simp [h1]
 ·by_cases h4 : p.kind = 4
  ·simp [h4]
  ·have h2 : p.kind = 2 ∨ p.kind = 3 := by omega
   simp [h1, h4, h2]
theorem ok_rspare : EntOk Tryz.prog ⟨55, c_rspare⟩ := by
 rintro args Post ⟨p, rfl, hf, h0, h⟩
 refine pure_P (inlCall_ok mixed noCall_ok 2) mixed (by kernel_rfl) (by kernel_rfl) _ (e_rspare p _ _) ?_
 have lo : (((p.outer.length : Nat) : Int) = 0) = (p.outer.length = 0) := propext (by omega)
 have lh : (((p.holes.length : Nat) : Int) = 0) = (p.holes.length = 0) := propext (by omega)
 have ls : (0 < p.outer.length + p.holes.length) = ¬ (p.outer.length = 0 ∧ p.holes.length = 0) := propext (by omega)
 simp only [true_and, vec_zero, lo, lh]
 have yes : spareP p → Post (.bool true) := fun hp => by rwa [decide_eq_true hp] at h
 have no : ¬ spareP p → Post (.bool false) := fun hp => by rwa [decide_eq_false hp] at h
 clear h
 rw [spare_kind h0] at yes no
 unfold shapeUsed longUsed massUsed at yes no
 rw [ls] at yes no
 clear lo lh ls h0
 generalize p.thick = q2 at *
 generalize p.sect = q3 at *
 generalize p.long = q4 at *
 generalize p.mass = q5 at *
 generalize p.centre = q6 at *
 generalize p.grade = q7 at *
 generalize p.kind = q8 at *
 generalize p.outer.length = q9 at *
 generalize p.holes.length = q10 at *
 repeat' (first
  | refine ifN (fun _ => ?_) (fun _ => ?_)
  | refine ifD (fun _ => ?_) (fun _ => ?_)
  | exact yes (by simp [*])
  | exact no (by simp [*])
  | fail)
theorem vcRk_ok : VCallOk Tryz.prog vcRk := tabCall_ok (by
 intro e he
 simp only [List.mem_cons, List.not_mem_nil, or_false] at he
 rcases he with rfl | rfl | rfl
 ·exact ok_rGrade
 ·exact ok_rSect
 ·exact ok_rRolled) noCall_ok
theorem ok_known : EntOk Tryz.prog ⟨56, c_known⟩ := by
 rintro args Post ⟨p, m, rfl, hf, h0, h⟩
 refine pure_P vcRk_ok mixed (by kernel_rfl) (by kernel_rfl) _ (e_known p m _ _) ?_
 simp only [true_and]
 have yes : madeP p m → Post (.bool true) := fun hp => by rwa [decide_eq_true hp] at h
 have no : ¬ madeP p m → Post (.bool false) := fun hp => by rwa [decide_eq_false hp] at h
 clear h
 unfold madeP at yes no
 rw [Ne, form_three, form_one] at yes no
 refine ifD (fun h1 => yes (.inl h1)) (fun h1 => ⟨m, p.grade, rfl, hf, ifD (fun h2 => ⟨by decide, ?_⟩) (fun h2 => ⟨by decide, no ?_⟩)⟩)
 case refine_2 => rintro (h | h); exact h1 h; exact h2 h.1
 refine ifD (fun h3 => no ?_) (fun h3 => ifD (fun h4 => no ?_) (fun h4 => ?_))
 ·rintro (h | h); exact h1 h; omega
 ·rintro (h | h); exact h1 h; omega
 refine ifD (fun h5 => ?_) (fun h5 => ⟨m, p.sect, rfl, hf, ifD (fun h6 => ⟨by decide, ?_⟩) (fun h6 => ⟨by decide, no ?_⟩)⟩)
 ·refine ifD (fun h6 => ifD (fun h7 => ⟨m, p.grade, p.thick, rfl, hf, ifD (fun h8 => yes (.inr ⟨h2, ⟨by omega, by omega⟩, .inl ⟨h5, ⟨h6, h7⟩, h8⟩⟩)) (fun h8 => no ?_)⟩) (fun h7 => no ?_)) (fun h6 => no ?_)
  ·rintro (h | ⟨_, _, h | h⟩)
   ·exact h1 h
   ·exact h8 h.2.2
   ·exact h.1 h5
  ·rintro (h | ⟨_, _, h | h⟩)
   ·exact h1 h
   ·exact h7 h.2.1.2
   ·exact h.1 h5
  ·rintro (h | ⟨_, _, h | h⟩)
   ·exact h1 h
   ·exact h6 h.2.1.1
   ·exact h.1 h5
 ·refine ifD (fun h7 => ifD (fun h8 => ifD (fun h9 => ifD (fun h10 => yes (.inr ⟨h2, ⟨by omega, by omega⟩, .inr ⟨h5, h6, ⟨h7, h8⟩, h9, h10⟩⟩)) (fun h10 => no ?_)) (fun h9 => no ?_)) (fun h8 => no ?_)) (fun h7 => no ?_)
  ·rintro (h | ⟨_, _, h | h⟩)
   ·exact h1 h
   ·exact h5 h.1
   ·exact h10 h.2.2.2.2
  ·rintro (h | ⟨_, _, h | h⟩)
   ·exact h1 h
   ·exact h5 h.1
   ·exact h9 h.2.2.2.1
  ·rintro (h | ⟨_, _, h | h⟩)
   ·exact h1 h
   ·exact h5 h.1
   ·exact h8 h.2.2.1.2
  ·rintro (h | ⟨_, _, h | h⟩)
   ·exact h1 h
   ·exact h5 h.1
   ·exact h7 h.2.2.1.1
 ·rintro (h | ⟨_, _, h | h⟩)
  ·exact h1 h
  ·exact h5 h.1
  ·exact h6 h.2.1
theorem vcRc16_ok : VCallOk Tryz.prog vcRc16 := inlCall_ok mixed (tabCall_ok (by
 intro e he
 simp only [List.mem_cons, List.not_mem_nil, or_false] at he
 rcases he with rfl | rfl | rfl | rfl | rfl
 ·exact ok_rid
 ·exact ok_rspare
 ·exact ok_known
 ·exact ok_r13chk
 ·exact ok_rvalid) noCall_ok) 2
theorem ok_r16chk : EntOk Tryz.prog ⟨16, c_pcheck⟩ := by
 rintro args Post ⟨p, m, rfl, hq, hf, h⟩
 refine pure_P vcRc16_ok mixed (by kernel_rfl) (by kernel_rfl) _ (e_r16chk p m _ _) ?_
 simp only [true_and]
 unfold checkP at h
 refine ⟨p.id, rfl, hq.id, ifD (fun h1 => ⟨p.node, rfl, hq.node, ifD (fun h2 => ?_) (fun h2 => ?_)⟩) (fun h1 => ?_)⟩
 case refine_2 => rwa [if_pos (.inr h2)] at h
 case refine_3 => rwa [if_pos (.inl h1)] at h
 rw [if_neg (by rintro (h | h); exact h h1; exact h h2)] at h
 refine ifD (fun h3 => ?_) (fun h3 => ifD (fun h4 => ?_) (fun h4 => ?_))
 ·rwa [if_pos (by omega)] at h
 ·rwa [if_pos (by omega)] at h
 rw [if_neg (by omega)] at h
 refine ifD (fun h3 => ?_) (fun h3 => ifD (fun h4 => ?_) (fun h4 => ?_))
 ·rwa [if_pos (form_none.2 (by omega))] at h
 ·rwa [if_pos (form_none.2 (by omega))] at h
 have f0 : formP p.kind ≠ 0 := fun e => by have := form_none.1 e; omega
 refine ⟨p, rfl, hq, f0, ifD (fun h6 => ?_) (fun h6 => ⟨p, m, rfl, hf, f0, ifD (fun h7 => ?_) (fun h7 => ?_)⟩)⟩
 ·rwa [if_neg f0, if_pos h6] at h
 case refine_3 => rwa [if_neg f0, if_neg h6, if_pos h7] at h
 rw [if_neg f0, if_neg h6, if_neg (fun hn => hn h7)] at h
 have last : bodyErr p = 0 → ∃ (a : Vec3) (k : Int), eqL [placeV p.at_ p.turn] [placeV a k] ∧ pIf (decide (validP a k)) (Post (.int .i64 0)) (Post (.int .i64 9)) := fun hb => by
  rw [if_neg (by rw [hb]; exact fun h => h rfl)] at h
  refine ⟨p.at_, p.turn, rfl, ifD (fun h8 => ?_) (fun h8 => ?_)⟩
  ·rwa [if_neg (fun hn => hn h8)] at h
  ·rwa [if_pos h8] at h
 have bad : ∀ e : Int, bodyErr p = e → e ≠ 0 → Post (.int .i64 e) := fun e he hn => by
  rw [if_pos (by rw [he]; exact hn), he] at h
  exact h
 unfold bodyErr at last bad
 simp only [form_one, form_two] at last bad
 refine ifD (fun f1 => ⟨p.outer, p.holes, rfl, hq.outer, hq.holes, hq.all, ifN (fun g => bad _ (by rw [if_pos f1]) g) (fun g => last (by rw [if_pos f1]; exact g))⟩) (fun f1 => ?_)
 rw [if_neg f1] at last bad
 refine ifD (fun f2 => ?_) (fun f2 => ?_)
 ·rw [if_neg (by omega)] at last bad
  have b9 : (p.mass < 1 ∨ 1099511627776 < p.mass ∨ ¬ inV p.centre 524288) → Post (.int .i64 9) := fun hb => bad 9 (by rw [if_pos hb]) (by decide)
  have ok := fun hb : ¬ (p.mass < 1 ∨ 1099511627776 < p.mass ∨ ¬ inV p.centre 524288) => last (by rw [if_neg hb])
  clear last bad
  unfold inV at b9 ok
  repeat' (first
   | refine ifD (fun _ => ?_) (fun _ => ?_)
   | exact b9 (by omega)
   | exact ok (by omega))
 ·rw [if_pos (by omega)] at last bad
  refine ifD (fun g1 => bad 9 (by rw [if_pos (by omega)]) (by decide)) (fun g1 => ifD (fun g2 => bad 9 (by rw [if_pos (by omega)]) (by decide)) (fun g2 => last (by rw [if_neg (by omega)])))
theorem alive_yields : yields Tryz.prog 1000 17 = true := by kernel_rfl
def c_true (args : List Value) (Post : Value → Prop) : Prop := args = [] ∧ Post (.bool true)
theorem ok_alive : EntOk Tryz.prog ⟨17, c_true⟩ := pure_yields mixed alive_yields
def few15 (m : Mats) : Prop := m.grades.length ≤ 40 ∧ m.sects.length ≤ 40 ∧ (∀ g ∈ m.grades, g.gauges.length ≤ 30 ∧ g.name.size ≤ 40) ∧ ∀ s ∈ m.sects, s.name.size ≤ 40
instance (m : Mats) : Decidable (few15 m) := by unfold few15; infer_instance
def c_Few15 (args : List Value) (Post : Value → Prop) : Prop := ∃ m : Mats, args = [matsV m] ∧ Post (.bool (decide (few15 m)))
abbrev lpF15 : List (Nat × List Nat) := [(2, [1, 3]), (7, [1, 4])]
theorem e_few15 (n m : Nat) (A B : Array Value) (H : HT) (Post : PV) : vcP Tryz.prog noCall 45 lpF15 [.agg #[tree 4 n A, tree 4 m B]] H Post = (T4 ((True ∧ True) ∧ H (lpC Tryz.prog 45 2) (lpK Tryz.prog 45 2) (stV [(1, some (pt 0)), (3, some (vi 0))] [(0, some (AObj.cells [tree 4 n A, tree 4 m B] true))] 1))) := by kernel_rfl
theorem l_few15 (n m : Nat) (k : Int) (A B : Array Value) (H : HT) (Post : PV) : vcLP Tryz.prog noCall 45 [.agg #[tree 4 n A, tree 4 m B]] lpF15 2 (stV [(1, some (.pointer (some ⟨0, 0, none⟩))), (3, some (.int .i64 k))] [(0, some (.cells [tree 4 n A, tree 4 m B] true))] 1) H Post = (let q1 := [(0, some (AObj.cells [tree 4 n A, tree 4 m B] true))]; T4 (True ∧ pIf (decide (k < (↑n : Int))) (T2 (True ∧ pIf (decide (k < 41)) (T4 ((0 ≤ k ∧ k < (↑n : Int)) ∧ True ∧ cellAt A (Int.toNat k) 3 = tree 1 (toN (cellAt A (Int.toNat k) 3)) (toE (cellAt A (Int.toNat k) 3)) ∧ T2 (pIf (decide ((↑(toN (cellAt A (Int.toNat k) 3)) : Int) > 30)) (T4 (Post (vb false))) (T4 ((0 ≤ k ∧ k < (↑n : Int)) ∧ True ∧ cellAt A (Int.toNat k) 0 = vs (toS (cellAt A (Int.toNat k) 0)) ∧ T2 (pIf (decide ((↑(ByteArray.size (toS (cellAt A (Int.toNat k) 0))) : Int) > 40)) (T2 (True ∧ Post (vb false))) (T4 (True ∧ (True ∧ True) ∧ H (lpC Tryz.prog 45 2) (lpK Tryz.prog 45 2) (stV [(1, some (pt 0)), (3, some (vi (IntKind.wrap IntKind.i64 (k + 1))))] q1 1))))))))) (T2 (True ∧ (True ∧ True) ∧ H (lpC Tryz.prog 45 7) (lpK Tryz.prog 45 7) (stV [(1, some (pt 0)), (4, some (vi 0))] q1 1))))) (T4 ((True ∧ True) ∧ H (lpC Tryz.prog 45 7) (lpK Tryz.prog 45 7) (stV [(1, some (pt 0)), (4, some (vi 0))] q1 1))))) := by kernel_rfl
theorem m_few15 (n m : Nat) (k : Int) (A B : Array Value) (H : HT) (Post : PV) : vcLP Tryz.prog noCall 45 [.agg #[tree 4 n A, tree 4 m B]] lpF15 7 (stV [(1, some (.pointer (some ⟨0, 0, none⟩))), (4, some (.int .i64 k))] [(0, some (.cells [tree 4 n A, tree 4 m B] true))] 1) H Post = (let q1 := (T4 (True ∧ pIf (decide ((↑m : Int) ≤ 40)) (T2 (True ∧ Post (vb true))) (T2 (True ∧ Post (vb false))))); T4 (True ∧ pIf (decide (k < (↑m : Int))) (T2 (True ∧ pIf (decide (k < 41)) (T4 ((0 ≤ k ∧ k < (↑m : Int)) ∧ True ∧ cellAt B (Int.toNat k) 0 = vs (toS (cellAt B (Int.toNat k) 0)) ∧ T2 (pIf (decide ((↑(ByteArray.size (toS (cellAt B (Int.toNat k) 0))) : Int) > 40)) (T2 (Post (vb false))) (T4 ((True ∧ True) ∧ H (lpC Tryz.prog 45 7) (lpK Tryz.prog 45 7) (stV [(1, some (pt 0)), (4, some (vi (IntKind.wrap IntKind.i64 (k + 1))))] [(0, some (AObj.cells [tree 4 n A, tree 4 m B] true))] 1)))))) (T4 (True ∧ pIf (decide ((↑n : Int) ≤ 40)) q1 (T4 (Post (vb false))))))) (T4 (T2 (pIf (decide ((↑n : Int) ≤ 40)) q1 (T4 (Post (vb false)))))))) := by kernel_rfl
def vcPC : VCall := inlCall Tryz.prog [14] (tabCall [⟨24, c_Few16⟩, ⟨45, c_Few15⟩, ⟨15, c_pcheck⟩, ⟨16, c_pcheck⟩, ⟨17, c_true⟩] noCall) 2
theorem e_PartChecks (p : Part) (m : Mats) (H : HT) (Post : PV) : vcP Tryz.prog vcPC 3 [] [partV p, matsV m] H Post = (let q2 := #[tree 4 (List.length (Mats.grades m)) (encL (Mats.grades m)), tree 4 (List.length (Mats.sects m)) (encL (Mats.sects m))]; let q1 := #[vs p.id, vi p.rev, vi p.kind, vs p.node, vs p.grade, vi p.thick, trPt p.outer, trPts p.holes, vs p.sect, vi p.long, vi p.mass, vi p.centre.x, vi p.centre.y, vi p.centre.z, vi p.at_.x, vi p.at_.y, vi p.at_.z, vi p.turn]; T8 (True ∧ ∃ (p_1 : Part), eqL [Value.agg q1] [partV p_1] ∧ pIf (decide (few16 p_1)) (T2 (∃ (m_1 : Mats), eqL [Value.agg q2] [matsV m_1] ∧ pIf (decide (few15 m_1)) (T8 (True ∧ ∃ (p_2 : Part), ∃ (m_2 : Mats), eqL [Value.agg q1, Value.agg q2] [partV p_2, matsV m_2] ∧ FitQ p_2 ∧ FewM m_2 ∧ True ∧ ∃ (p_3 : Part), ∃ (m_3 : Mats), eqL [Value.agg q1, Value.agg q2] [partV p_3, matsV m_3] ∧ FitQ p_3 ∧ FewM m_3 ∧ T2 (pIf (decide (checkP p_2 m_2 = checkP p_3 m_3)) (T2 (eqL [] [] ∧ T4 (Post (vb true)))) (T4 (True ∧ Post (vb false)))))) (T4 (T2 (True ∧ eqL [] [] ∧ T4 (Post (vb true))))))) (T8 (eqL [] [] ∧ T4 (Post (vb true)))))) := by kernel_rfl
theorem ok_Few15 : EntOk Tryz.prog ⟨45, c_Few15⟩ := by
 rintro args Post ⟨m, rfl, h⟩
 have yes : few15 m → Post (.bool true) := fun hp => of_b h (decide_eq_true hp)
 have no : ¬ few15 m → Post (.bool false) := fun hp => of_b h (decide_eq_false hp)
 refine pure_P noCall_ok mixed (by kernel_rfl) (by kernel_rfl) _ (e_few15 m.grades.length m.sects.length (encL m.grades) (encL m.sects) _ _) ?_
 simp only [true_and]
 -- the sections
 have second : (m.grades.length ≤ 40 → ∀ g ∈ m.grades, g.gauges.length ≤ 30 ∧ g.name.size ≤ 40) → OkP 45 [matsV m] 7 Post (stV [(1, some (.pointer (some ⟨0, 0, none⟩))), (4, some (.int .i64 0))] [(0, some (.cells [tree 4 m.grades.length (encL m.grades), tree 4 m.sects.length (encL m.sects)] true))] 1) := fun hg => by
  have fin : (m.sects.length ≤ 40 → ∀ s ∈ m.sects, s.name.size ≤ 40) → pIf (decide (((m.grades.length : Nat) : Int) ≤ 40)) (pIf (decide (((m.sects.length : Nat) : Int) ≤ 40)) (Post (.bool true)) (Post (.bool false))) (Post (.bool false)) := fun hs => ifD (fun h1 => ifD (fun h2 => yes ⟨by omega, by omega, hg (by omega), hs (by omega)⟩) (fun h2 => no fun hf => h2 (by have := hf.2.1; omega))) (fun h1 => no fun hf => h1 (by have := hf.1; omega))
  refine down (n := min m.sects.length 41) (p := fun k => (∀ i (hi : i < m.sects.length), i < k → m.sects[i].name.size ≤ 40) → OkP 45 [matsV m] 7 Post (stV [(1, some (.pointer (some ⟨0, 0, none⟩))), (4, some (.int .i64 k))] [(0, some (.cells [tree 4 m.grades.length (encL m.grades), tree 4 m.sects.length (encL m.sects)] true))] 1)) (fun hall => ?_) (fun k k1 ih hall => ?_) (fun i _ hi => by omega)
  ·refine ok_P noCall_ok mixed _ (m_few15 m.grades.length m.sects.length ((min m.sects.length 41 : Nat) : Int) (encL m.grades) (encL m.sects) _ _) ?_
   simp only [true_and]
   have hs : m.sects.length ≤ 40 → ∀ s ∈ m.sects, s.name.size ≤ 40 := fun hl s hm => by
    obtain ⟨i, hi, rfl⟩ := List.mem_iff_getElem.1 hm
    exact hall i hi (by omega)
   exact ifD (fun h1 => ifD (fun h2 => by omega) (fun _ => fin hs)) (fun _ => fin hs)
  ·have kl : k < m.sects.length := by omega
   refine ok_P noCall_ok mixed _ (m_few15 m.grades.length m.sects.length k (encL m.grades) (encL m.sects) _ _) ?_
   have hk : ((k : Nat) : Int).toNat = k := Int.toNat_natCast k
   obtain ⟨c0, c1, c2, c3⟩ := cell_sect kl
   simp only [true_and, hk, c0, toS_string, wrapSucc (show k < 2 ^ 62 by omega)]
   refine ifD (fun _ => ifD (fun _ => ⟨⟨by omega, by omega⟩, ifD (fun hb => no fun hf => ?_) (fun hb => ih fun i hi hik => ?_)⟩) (fun h' => by omega)) (fun h' => by omega)
   ·have := hf.2.2.2 _ (List.getElem_mem kl)
    omega
   ·rcases Nat.lt_or_ge i k with h' | h'
    ·exact hall i hi h'
    ·have : i = k := by omega
     subst this
     omega
 refine down (n := min m.grades.length 41) (p := fun k => (∀ i (hi : i < m.grades.length), i < k → m.grades[i].gauges.length ≤ 30 ∧ m.grades[i].name.size ≤ 40) → OkP 45 [matsV m] 2 Post (stV [(1, some (.pointer (some ⟨0, 0, none⟩))), (3, some (.int .i64 k))] [(0, some (.cells [tree 4 m.grades.length (encL m.grades), tree 4 m.sects.length (encL m.sects)] true))] 1)) (fun hall => ?_) (fun k k1 ih hall => ?_) (fun i _ hi => by omega)
 ·refine ok_P noCall_ok mixed _ (l_few15 m.grades.length m.sects.length ((min m.grades.length 41 : Nat) : Int) (encL m.grades) (encL m.sects) _ _) ?_
  simp only [true_and]
  have hg : m.grades.length ≤ 40 → ∀ g ∈ m.grades, g.gauges.length ≤ 30 ∧ g.name.size ≤ 40 := fun hl s hm => by
   obtain ⟨i, hi, rfl⟩ := List.mem_iff_getElem.1 hm
   exact hall i hi (by omega)
  exact ifD (fun h1 => ifD (fun h2 => by omega) (fun _ => second hg)) (fun _ => second hg)
 ·have kl : k < m.grades.length := by omega
  refine ok_P noCall_ok mixed _ (l_few15 m.grades.length m.sects.length k (encL m.grades) (encL m.sects) _ _) ?_
  have hk : ((k : Nat) : Int).toNat = k := Int.toNat_natCast k
  obtain ⟨c0, c1, c2, c3⟩ := cell_grade kl
  simp only [true_and, hk, c0, c3, toS_string, toN_tree, toE_tree, wrapSucc (show k < 2 ^ 62 by omega)]
  refine ifD (fun _ => ifD (fun _ => ⟨⟨by omega, by omega⟩, ifD (fun ha => no fun hf => ?_) (fun ha => ⟨⟨by omega, by omega⟩, ifD (fun hb => no fun hf => ?_) (fun hb => ih fun i hi hik => ?_)⟩)⟩) (fun h' => by omega)) (fun h' => by omega)
  ·have := (hf.2.2.1 _ (List.getElem_mem kl)).1
   omega
  ·have := (hf.2.2.1 _ (List.getElem_mem kl)).2
   omega
  ·rcases Nat.lt_or_ge i k with h' | h'
   ·exact hall i hi h'
   ·have : i = k := by omega
    subst this
    omega
theorem few_fitq {p : Part} (h : few16 p) : FitQ p := by
 obtain ⟨h1, h2, _, _, h5, h6, h7⟩ := h
 exact ⟨by omega, by omega, by show p.outer.length < 2 ^ 62; omega, by show p.holes.length < 2 ^ 62; omega, fun x hx => by have := h7 x hx; show x.length < 2 ^ 62; omega, by omega⟩
theorem few_mats {m : Mats} (h : few15 m) : FewM m := by
 obtain ⟨h1, h2, h3, _⟩ := h
 exact ⟨by show m.grades.length < 2 ^ 62; omega, by show m.sects.length < 2 ^ 62; omega, fun g hg => by have := (h3 g hg).1; omega⟩
theorem vcPC_ok : VCallOk Tryz.prog vcPC := inlCall_ok mixed (tabCall_ok (by
 intro e he
 simp only [List.mem_cons, List.not_mem_nil, or_false] at he
 rcases he with rfl | rfl | rfl | rfl | rfl
 ·exact ok_Few16
 ·exact ok_Few15
 ·exact ok_pcheck
 ·exact ok_r16chk
 ·exact ok_alive) noCall_ok) 2
theorem partChecks_pure (p : Part) (m : Mats) : Pure Tryz.prog 3 [partV p, matsV m] fun v => v = .bool true := by
 refine pure_P vcPC_ok mixed (by kernel_rfl) (by kernel_rfl) _ (e_PartChecks p m _ _) ?_
 have tt : True := trivial
 simp only [true_and]
 refine ⟨p, rfl, ifD (fun h1 => ⟨m, rfl, ifD (fun h2 => ?_) (fun _ => tt)⟩) (fun _ => tt)⟩
 exact ⟨p, m, rfl, few_fitq h1, few_mats h2, p, m, rfl, few_fitq h1, few_mats h2, ifD (fun _ => tt) (fun hn => absurd rfl hn)⟩
end Go.Proofs.YtngginofamlkkaaGreatDoor
namespace Go.Proofs.YtngginofamlkkaaGreatDoor
open Go Go.RowKit Go.ChangeShapes Go.WideShapes Go.ChangeAt Go.Deep Go.Joins
theorem Tryz.own : ownKnob Tryz.prog.godebug = none := by kernel_rfl
theorem Tryz.laidOut : laidOutB Tryz.prog = true := by kernel_rfl
theorem trodAll_stays {H : Type} {enc : TypeId × Value → H} {P : Program} {W W' : World} {sp' : Nat → Bool} (hl : laidOutB P = true) : ∀ {ts : List TypeId} {vs : List Value} {ds : List (DataW H)} {ps : List MemPlace},
  (ts.all fun t => P.readableRec t && decide (t < P.types.size)) = true → DataW.TrodAll enc P W 0 (fun _ => true) true ts vs ds ps → (∀ p ∈ ps, W.sameAt W' p) → (∀ p ∈ ps, sp' p.block = true) →
  DataW.TrodAll enc P W' 0 sp' true ts vs ds ps := by
 intro ts
 induction ts with
 | nil =>
  intro vs ds ps _ h _ _
  obtain ⟨rfl, rfl, rfl⟩ := trodAll_nil h
  exact trodAll_mk0
 | cons t ts ih =>
  intro vs ds ps hr h hs hp
  obtain ⟨v, vs', d, ds', p, q, rfl, rfl, rfl, hd, hrest⟩ := trodAll_cons h
  simp only [List.all_cons, Bool.and_eq_true, decide_eq_true_eq] at hr
  exact trodAll_cons_mk (WideElems.Trod_stays hl hr.1.1 hr.1.2 hd (fun x hx => hs x (by simp [hx])) (fun x hx => hp x (by simp [hx])))
   (ih hr.2 hrest (fun x hx => hs x (by simp [hx])) (fun x hx => hp x (by simp [hx])))
end Go.Proofs.YtngginofamlkkaaGreatDoor

