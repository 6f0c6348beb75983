/-
  Put together out of several texts, each in its own namespace's block. Conditions: as each theorem states them.
-/
import Derived.Test.YtngginofamlkkaaGreatDoorQGd
import Derived.Test.YtngginofamlkkaaGreatDoorQPwc
import Derived.Test.YtngginofamlkkaaGreatDoorQSl
noncomputable section
namespace Go.Proofs.YtngginofamlkkaaGreatDoor
open Go Go.RowKit
set_option maxRecDepth 100000
set_option maxHeartbeats 8000000
def formP (k : Int) : Int := if k = 1 then 1 else if k = 2 ∨ k = 3 then 2 else if k = 4 then 3 else 0
def shapeUsed (p : Part) : Prop := p.thick ≠ 0 ∨ 0 < p.outer.length + p.holes.length
def longUsed (p : Part) : Prop := p.sect ≠ ⟨#[]⟩ ∨ p.long ≠ 0
def massUsed (p : Part) : Prop := p.mass ≠ 0 ∨ p.centre ≠ ⟨0, 0, 0⟩
instance (p : Part) : Decidable (shapeUsed p) := by unfold shapeUsed; infer_instance
instance (p : Part) : Decidable (longUsed p) := by unfold longUsed; infer_instance
instance (p : Part) : Decidable (massUsed p) := by unfold massUsed; infer_instance
def spareP (p : Part) : Prop := (formP p.kind = 1 ∧ (longUsed p ∨ massUsed p)) ∨ (formP p.kind = 2 ∧ (shapeUsed p ∨ massUsed p)) ∨ (formP p.kind ≠ 1 ∧ formP p.kind ≠ 2 ∧ (p.grade ≠ ⟨#[]⟩ ∨ shapeUsed p ∨ longUsed p))
instance (p : Part) : Decidable (spareP p) := by unfold spareP; infer_instance
def madeP (p : Part) (m : Mats) : Prop := formP p.kind = 3 ∨ (hasG m p.grade ∧ (1000 ≤ (gradeOf m p.grade).dens ∧ (gradeOf m p.grade).dens ≤ 20000) ∧ ((formP p.kind = 1 ∧ (1 ≤ p.thick ∧ p.thick ≤ 120) ∧ rolled m p.grade p.thick) ∨ (formP p.kind ≠ 1 ∧ hasS m p.sect ∧ (1 ≤ (sectOf m p.sect).area ∧ (sectOf m p.sect).area ≤ 1000000) ∧ (1 ≤ (sectOf m p.sect).height ∧ (sectOf m p.sect).height ≤ 2000))))
instance (p : Part) (m : Mats) : Decidable (madeP p m) := by unfold madeP; infer_instance
def bodyErr (p : Part) : Int := if formP p.kind = 1 then shapeCheck p.outer p.holes else if formP p.kind = 2 then (if p.long < 1 ∨ 32768 < p.long then 9 else 0) else if p.mass < 1 ∨ 1099511627776 < p.mass ∨ ¬ inV p.centre 524288 then 9 else 0
def checkP (p : Part) (m : Mats) : Int := if ¬ idOk p.id ∨ ¬ idOk p.node then 6 else if p.rev < 1 ∨ 1000 < p.rev then 9 else if formP p.kind = 0 then 10 else if spareP p then 2 else if ¬ madeP p m then 23 else if bodyErr p ≠ 0 then bodyErr p else if ¬ validP p.at_ p.turn then 9 else 0
structure FitQ (p : Part) : Prop where
 outer : Short p.outer
 holes : Short p.holes
 all : ∀ h ∈ p.holes, Short h
 sum : p.outer.length + p.holes.length < 4611686018427387904
def c_idU (args : List Value) (Post : Value → Prop) : Prop := ∃ s : ByteArray, args = [.string s] ∧ Post (.bool (decide (idOk s)))
def c_form (args : List Value) (Post : Value → Prop) : Prop := match args with
 | [.int .i64 k] => Post (.int .i64 (formP k))
 | _ => False
def c_spare (args : List Value) (Post : Value → Prop) : Prop := ∃ p : Part, args = [partV p] ∧ FitQ p ∧ Post (.bool (decide (spareP p)))
def c_made (args : List Value) (Post : Value → Prop) : Prop := ∃ (p : Part) (m : Mats), args = [partV p, matsV m] ∧ FewM m ∧ Post (.bool (decide (madeP p m)))
def c_pcheck (args : List Value) (Post : Value → Prop) : Prop := ∃ (p : Part) (m : Mats), args = [partV p, matsV m] ∧ FitQ p ∧ FewM m ∧ Post (.int .i64 (checkP p m))
theorem e_form (k : Int) (H : HT) (Post : PV) : vcP Tryz.prog noCall 48 [] [.int .i64 k] H Post = (T2 (True ∧ pIf (decide (k = 1)) (T2 (True ∧ Post (vi 1))) (T2 (pIf (decide (k = 2)) (T2 (True ∧ Post (vi 2))) (T2 (pIf (decide (k = 3)) (T2 (True ∧ Post (vi 2))) (T2 (pIf (decide (k = 4)) (T2 (True ∧ Post (vi 3))) (T2 (True ∧ Post (vi 0))))))))))) := by kernel_rfl
theorem e_spare (p : Part) (H : HT) (Post : PV) : vcP Tryz.prog (tabCall [⟨48, c_form⟩] noCall) 49 [] [partV p] H Post = (let q12 := T4 (T2 (True ∧ Post (vb false))); let q11 := decide (formP p.kind = 2); let q10 := !decide (p.grade = ByteArray.mk #[]); let q9 := T4 (T2 (True ∧ Post (vb true))); let q8 := !(decide (p.centre.x = 0) && (decide (p.centre.y = 0) && (decide (p.centre.z = 0) && true))); let q5 := T4 (T2 (Post (vb true))); let q7 := T2 (pIf q11 q9 (T4 (pIf q10 q5 (T8 (Post (vb true)))))); let q6 := decide (formP p.kind = 1); let q1 := T2 (pIf q11 q5 (T4 (pIf q10 q5 q9))); let q4 := T4 (True ∧ pIf q8 (T4 (True ∧ pIf q6 q5 q1)) (T4 (True ∧ pIf q6 q5 q1))); let q3 := T4 (True ∧ pIf q8 (T4 (True ∧ pIf q6 q5 q7)) (T4 (True ∧ pIf q6 q5 (T2 (pIf q11 q12 (T4 (pIf q10 q5 (T8 (Post (vb true)))))))))); let q2 := T4 (pIf (!decide (p.long = 0)) (T4 (True ∧ pIf (!decide (p.mass = 0)) (T4 (T2 (pIf q6 q5 q1))) q4)) (T4 (True ∧ pIf (!decide (p.mass = 0)) (T4 (T2 (pIf q6 q9 q1))) (T4 (True ∧ pIf q8 (T4 (True ∧ pIf q6 q9 q1)) (T4 (True ∧ pIf q6 q12 q1))))))); T4 (True ∧ pIf (!decide (p.thick = 0)) (T4 (T2 (pIf (!decide (p.sect = ByteArray.mk #[])) (T4 (T2 (pIf (!decide (p.mass = 0)) (T4 (T2 (pIf q6 q5 q1))) q4))) q2))) (T8 (T2 (True ∧ pIf (decide (IntKind.wrap IntKind.i64 ((↑p.outer.length : Int) + (↑p.holes.length : Int)) > 0)) (T4 (True ∧ pIf (!decide (p.sect = ByteArray.mk #[])) (T4 (T2 (pIf (!decide (p.mass = 0)) (T4 (T2 (pIf q6 q5 q1))) q4))) q2)) (T4 (True ∧ pIf (!decide (p.sect = ByteArray.mk #[])) (T4 (T2 (pIf (!decide (p.mass = 0)) (T4 (T2 (pIf q6 q5 q7))) q3))) (T4 (pIf (!decide (p.long = 0)) (T4 (True ∧ pIf (!decide (p.mass = 0)) (T4 (T2 (pIf q6 q5 q7))) q3)) (T4 (True ∧ pIf (!decide (p.mass = 0)) (T4 (T2 (pIf q6 q9 (T2 (pIf q11 q9 (T4 (pIf q10 q5 (T8 (Post (vb false)))))))))) (T4 (True ∧ pIf q8 (T4 (True ∧ pIf q6 q9 (T2 (pIf q11 q9 (T4 (pIf q10 q5 (T8 (Post (vb false))))))))) (T4 (True ∧ pIf q6 q12 (T2 (pIf q11 q12 (T4 (pIf q10 q5 (T8 (Post (vb false)))))))))))))))))))))) := by kernel_rfl
def vcMd : VCall := inlCall Tryz.prog [47] (tabCall [⟨48, c_form⟩, ⟨62, c_Grade⟩, ⟨63, c_Sect⟩, ⟨119, c_Rolled⟩] noCall) 2
theorem e_made (p : Part) (m : Mats) (H : HT) (Post : PV) : vcP Tryz.prog vcMd 50 [] [partV p, matsV m] H Post = (let q2 := True ∧ Post (vb false); let q1 := #[tree 4 (List.length (Mats.grades m)) (encL (Mats.grades m)), tree 4 (List.length (Mats.sects m)) (encL (Mats.sects m))]; T4 (T2 (pIf (decide (formP p.kind = 3)) (T2 (Post (vb true))) (T2 (True ∧ ∃ (m_1 : Mats), ∃ (s : ByteArray), eqL [Value.agg q1, vs p.grade] [matsV m_1, vs s] ∧ FewM m_1 ∧ T2 (True ∧ pIf (decide (hasG m_1 s)) (True ∧ 4 ≤ 4 ∧ T8 (T2 (pIf (decide (Grade4.dens (gradeOf m_1 s) ≥ 1000)) (T4 (pIf (decide (Grade4.dens (gradeOf m_1 s) ≤ 20000)) (T4 (T2 (True ∧ pIf (decide (formP p.kind = 1)) (T4 (T2 (pIf (decide (p.thick ≥ 1)) (T4 (pIf (decide (p.thick ≤ 120)) (T8 (∃ (m_2 : Mats), ∃ (s : ByteArray), ∃ (t : Int), eqL [Value.agg q1, vs p.grade, vi p.thick] [matsV m_2, vs s, vi t] ∧ FewM m_2 ∧ pIf (decide (rolled m_2 s t)) (T2 (True ∧ Post (vb true))) (T2 q2))) (T4 (T2 (Post (vb false)))))) (T4 (T2 q2))))) (T2 (True ∧ ∃ (m_2 : Mats), ∃ (s : ByteArray), eqL [Value.agg q1, vs p.sect] [matsV m_2, vs s] ∧ FewM m_2 ∧ T2 (True ∧ pIf (decide (hasS m_2 s)) (True ∧ 4 ≤ 4 ∧ T8 (True ∧ pIf (decide (Sect4.area (sectOf m_2 s) ≥ 1)) (T4 (pIf (decide (Sect4.area (sectOf m_2 s) ≤ 1000000)) (T8 (T2 (pIf (decide (Sect4.height (sectOf m_2 s) ≥ 1)) (T4 (pIf (decide (Sect4.height (sectOf m_2 s) ≤ 2000)) (T4 (True ∧ Post (vb true))) (T4 q2))) (T4 (T2 (Post (vb false))))))) (T4 (T2 q2)))) (T8 (Post (vb false))))) (True ∧ 4 ≤ 4 ∧ T8 (Post (vb false))))))))) (T4 (T2 (Post (vb false)))))) (T4 (T2 q2))))) (True ∧ 4 ≤ 4 ∧ T4 (T2 q2)))))))) := by kernel_rfl
def vcPk : VCall := inlCall Tryz.prog [47, 52] (tabCall [⟨48, c_form⟩, ⟨49, c_spare⟩, ⟨50, c_made⟩, ⟨46, c_idU⟩, ⟨51, c_rchk⟩, ⟨53, c_vvalid⟩] noCall) 2
theorem e_pcheck (p : Part) (m : Mats) (H : HT) (Post : PV) : vcP Tryz.prog vcPk 15 [] [partV p, matsV m] H Post = (let q3 := T2 (True ∧ Post (vi 9)); let q2 := [Value.agg #[vi p.at_.x, vi p.at_.y, vi p.at_.z, vi p.turn]]; let q1 := #[vs p.id, vi p.rev, vi p.kind, vs p.node, vs p.grade, vi p.thick, trPt p.outer, trPts p.holes, vs p.sect, vi p.long, vi p.mass, vi p.centre.x, vi p.centre.y, vi p.centre.z, vi p.at_.x, vi p.at_.y, vi p.at_.z, vi p.turn]; T4 (True ∧ ∃ (s : ByteArray), eqL [vs p.id] [vs s] ∧ pIf (decide (idOk s)) (T4 (∃ (s : ByteArray), eqL [vs p.node] [vs s] ∧ pIf (decide (idOk s)) (T8 (True ∧ pIf (decide (p.rev ≥ 1)) (T4 (pIf (decide (p.rev ≤ 1000)) (T4 (T2 (True ∧ pIf (decide (formP p.kind = 0)) (T2 (True ∧ Post (vi 10))) (T2 (∃ (p_1 : Part), eqL [Value.agg q1] [partV p_1] ∧ FitQ p_1 ∧ pIf (decide (spareP p_1)) (T2 (True ∧ Post (vi 2))) (T2 (True ∧ ∃ (p_2 : Part), ∃ (m_1 : Mats), eqL [Value.agg q1, Value.agg #[tree 4 (List.length (Mats.grades m)) (encL (Mats.grades m)), tree 4 (List.length (Mats.sects m)) (encL (Mats.sects m))]] [partV p_2, matsV m_1] ∧ FewM m_1 ∧ pIf (decide (madeP p_2 m_1)) (T4 (True ∧ pIf (decide (formP p.kind = 1)) (T2 (True ∧ ∃ (o : List Pt), ∃ (hs : List (List Pt)), eqL [Value.agg #[trPt p.outer, trPts p.holes]] [shapeV o hs] ∧ Short o ∧ Short hs ∧ (∀ (h : List Pt), h ∈ hs → Short h) ∧ T2 (True ∧ pIf (!decide (shapeCheck o hs = 0)) (T2 (True ∧ Post (vi (shapeCheck o hs)))) (T2 (∃ (a : Vec3), ∃ (k : Int), eqL q2 [placeV a k] ∧ pIf (decide (validP a k)) (T2 (True ∧ Post (vi 0))) q3))))) (T2 (pIf (decide (formP p.kind = 2)) (T4 (T2 (True ∧ pIf (decide (p.long ≥ 1)) (T4 (pIf (decide (p.long ≤ 32768)) (T4 (True ∧ ∃ (a : Vec3), ∃ (k : Int), eqL q2 [placeV a k] ∧ pIf (decide (validP a k)) (T2 (True ∧ Post (vi 0))) q3)) (T4 (True ∧ Post (vi 9))))) (T4 (T2 (Post (vi 9))))))) (T2 (pIf (decide (formP p.kind = 3)) (T4 (T2 (True ∧ pIf (decide (p.mass ≥ 1)) (T4 (pIf (decide (p.mass ≤ 1099511627776)) (T8 (T2 (∃ (a : Vec3), ∃ (k : Int), eqL [Value.agg #[vi p.centre.x, vi p.centre.y, vi p.centre.z, vi 0]] [placeV a k] ∧ pIf (decide (validP a k)) (T4 (True ∧ ∃ (a : Vec3), ∃ (k : Int), eqL q2 [placeV a k] ∧ pIf (decide (validP a k)) (T2 (True ∧ Post (vi 0))) q3)) (T4 (True ∧ Post (vi 9)))))) (T4 q3))) (T8 (Post (vi 9)))))) (T2 (True ∧ ∃ (a : Vec3), ∃ (k : Int), eqL q2 [placeV a k] ∧ pIf (decide (validP a k)) (T2 (True ∧ Post (vi 0))) q3)))))))) (T4 (Post (vi 23)))))))))) (T4 (T2 (Post (vi 9)))))) (T4 q3))) (T4 (True ∧ Post (vi 6))))) (T4 (T2 (Post (vi 6)))))) := by kernel_rfl
theorem formP_cases (k : Int) : formP k = 0 ∨ formP k = 1 ∨ formP k = 2 ∨ formP k = 3 := by
 unfold formP
 repeat' split
 all_goals simp
theorem ok_form : EntOk Tryz.prog ⟨48, c_form⟩ := by
 intro args Post hc
 unfold c_form at hc
 dsimp only at hc
 split at hc
 case h_2 => exact hc.elim
 rename_i k
 refine pure_P noCall_ok mixed (by kernel_rfl) (by kernel_rfl) _ (e_form k _ _) ?_
 unfold formP at hc
 simp only [true_and]
 refine ifD (fun h1 => ?_) (fun h1 => ?_)
 ·rwa [if_pos h1] at hc
 rw [if_neg h1] at hc
 refine ifD (fun h2 => ?_) (fun h2 => ifD (fun h3 => ?_) (fun h3 => ?_))
 ·rwa [if_pos (.inl h2)] at hc
 ·rwa [if_pos (.inr h3)] at hc
 rw [if_neg (by omega)] at hc
 refine ifD (fun h4 => ?_) (fun h4 => ?_)
 ·rwa [if_pos h4] at hc
 ·rwa [if_neg h4] at hc
theorem vec_zero (c : Vec3) : (decide (c.x = 0) && (decide (c.y = 0) && (decide (c.z = 0) && true))) = decide (c = ⟨0, 0, 0⟩) := by
 cases c with
 | mk x y z =>
  simp only [Vec3.mk.injEq, Bool.and_true]
  by_cases h1 : x = 0 <;> by_cases h2 : y = 0 <;> by_cases h3 : z = 0 <;> simp [h1, h2, h3]
theorem used_len {p : Part} (hf : FitQ p) : (IntKind.i64.wrap ((p.outer.length : Int) + (p.holes.length : Int)) > 0) = (0 < p.outer.length + p.holes.length) := by
 have := hf.sum
 rw [wrap64 (by omega) (by omega)]
 exact propext ⟨fun h => by omega, fun h => by omega⟩
theorem ok_spare : EntOk Tryz.prog ⟨49, c_spare⟩ := by
 rintro args Post ⟨p, rfl, hf, h⟩
 refine pure_P (tabCall_ok (by
  intro e he
  simp only [List.mem_cons, List.not_mem_nil, or_false] at he
  subst he
  exact ok_form) noCall_ok) mixed (by kernel_rfl) (by kernel_rfl) _ (e_spare p _ _) ?_
 simp only [true_and, vec_zero, used_len hf]
 have yes : spareP p → Post (.bool true) := fun hp => by rwa [decide_eq_true hp] at h
 have no : ¬ spareP p → Post (.bool false) := fun hp => by rwa [decide_eq_false hp] at h
 clear h
 unfold spareP shapeUsed longUsed massUsed at yes no
 generalize p.thick = q2 at *
 generalize p.sect = q3 at *
 generalize p.long = q4 at *
 generalize p.mass = q5 at *
 generalize p.centre = q6 at *
 generalize p.grade = q7 at *
 generalize formP p.kind = q8 at *
 repeat' (first
  | refine ifN (fun _ => ?_) (fun _ => ?_)
  | refine ifD (fun _ => ?_) (fun _ => ?_)
  | exact yes (by simp [*])
  | exact no (by simp [*])
  | fail)
theorem vcMd_ok : VCallOk Tryz.prog vcMd := inlCall_ok mixed (tabCall_ok (by
 intro e he
 simp only [List.mem_cons, List.not_mem_nil, or_false] at he
 rcases he with rfl | rfl | rfl | rfl
 ·exact ok_form
 ·exact ok_Grade
 ·exact ok_Sect
 ·exact ok_Rolled) noCall_ok) 2
theorem ok_made : EntOk Tryz.prog ⟨50, c_made⟩ := by
 rintro args Post ⟨p, m, rfl, hf, h⟩
 refine pure_P vcMd_ok mixed (by kernel_rfl) (by kernel_rfl) _ (e_made p m _ _) ?_
 simp only [true_and]
 have yes : madeP p m → Post (.bool true) := fun hp => by rwa [decide_eq_true hp] at h
 have no : ¬ madeP p m → Post (.bool false) := fun hp => by rwa [decide_eq_false hp] at h
 clear h
 refine ifD (fun h1 => yes (.inl h1)) (fun h1 => ⟨m, p.grade, rfl, hf, ifD (fun h2 => ⟨by decide, ?_⟩) (fun h2 => ⟨by decide, no ?_⟩)⟩)
 case refine_2 => rintro (h | h); exact h1 h; exact h2 h.1
 refine ifD (fun h3 => ifD (fun h4 => ?_) (fun h4 => no ?_)) (fun h3 => no ?_)
 case refine_2 => rintro (h | h); exact h1 h; exact h4 h.2.1.2
 case refine_3 => rintro (h | h); exact h1 h; exact h3 h.2.1.1
 refine ifD (fun h5 => ?_) (fun h5 => ⟨m, p.sect, rfl, hf, ifD (fun h6 => ⟨by decide, ?_⟩) (fun h6 => ⟨by decide, no ?_⟩)⟩)
 ·refine ifD (fun h6 => ifD (fun h7 => ⟨m, p.grade, p.thick, rfl, hf, ifD (fun h8 => yes (.inr ⟨h2, ⟨h3, h4⟩, .inl ⟨h5, ⟨h6, h7⟩, h8⟩⟩)) (fun h8 => no ?_)⟩) (fun h7 => no ?_)) (fun h6 => no ?_)
  ·rintro (h | ⟨_, _, h | h⟩)
   ·exact h1 h
   ·exact h8 h.2.2
   ·exact h.1 h5
  ·rintro (h | ⟨_, _, h | h⟩)
   ·exact h1 h
   ·exact h7 h.2.1.2
   ·exact h.1 h5
  ·rintro (h | ⟨_, _, h | h⟩)
   ·exact h1 h
   ·exact h6 h.2.1.1
   ·exact h.1 h5
 ·refine ifD (fun h7 => ifD (fun h8 => ifD (fun h9 => ifD (fun h10 => yes (.inr ⟨h2, ⟨h3, h4⟩, .inr ⟨h5, h6, ⟨h7, h8⟩, h9, h10⟩⟩)) (fun h10 => no ?_)) (fun h9 => no ?_)) (fun h8 => no ?_)) (fun h7 => no ?_)
  ·rintro (h | ⟨_, _, h | h⟩)
   ·exact h1 h
   ·exact h5 h.1
   ·exact h10 h.2.2.2.2
  ·rintro (h | ⟨_, _, h | h⟩)
   ·exact h1 h
   ·exact h5 h.1
   ·exact h9 h.2.2.2.1
  ·rintro (h | ⟨_, _, h | h⟩)
   ·exact h1 h
   ·exact h5 h.1
   ·exact h8 h.2.2.1.2
  ·rintro (h | ⟨_, _, h | h⟩)
   ·exact h1 h
   ·exact h5 h.1
   ·exact h7 h.2.2.1.1
 ·rintro (h | ⟨_, _, h | h⟩)
  ·exact h1 h
  ·exact h5 h.1
  ·exact h6 h.2.1
theorem ok_idU : EntOk Tryz.prog ⟨46, c_idU⟩ := by
 rintro args Post ⟨s, rfl, h⟩
 have hok : VCallOk Tryz.prog (tabCall tabId noCall) := tabCall_ok (by
  intro e he
  simp only [tabId, List.mem_cons, List.not_mem_nil, or_false] at he
  rcases he with rfl | rfl
  ·exact ok_split
  ·exact ok_names) noCall_ok
 refine pure_P (vc := tabCall tabId noCall) hok mixed (by kernel_rfl) (by kernel_rfl) _ (e_id s _ _) ?_
 simp only [true_and]
 have no : ¬ idOk s → Post (.bool false) := fun hn => of_b h (decide_eq_false hn)
 refine pIf_intro (fun h1 => ?_) (fun h1 => no fun f => absurd f.1 (by have := of_decide_eq_false h1; omega))
 have h1 := of_decide_eq_true h1
 have hv := pieces_vol s
 refine ⟨s, rfl, by omega, pieces s, rfl, by omega, pIf_intro (fun h2 => ?_) (fun h2 => no fun f => ?_)⟩
 ·obtain ⟨_, g2, g3, _⟩ := of_decide_eq_true h2
  exact of_b h (decide_eq_true ⟨by omega, g2, g3⟩)
 ·refine of_decide_eq_false h2 ⟨?_, f.2.1, f.2.2, by omega⟩
  rcases Nat.eq_zero_or_pos (pieces s).length with h0 | h0
  ·exact absurd (List.eq_nil_of_length_eq_zero h0) (pieces_ne s)
  ·exact h0
theorem vcPk_ok : VCallOk Tryz.prog vcPk := inlCall_ok mixed (tabCall_ok (by
 intro e he
 simp only [List.mem_cons, List.not_mem_nil, or_false] at he
 rcases he with rfl | rfl | rfl | rfl | rfl | rfl
 ·exact ok_form
 ·exact ok_spare
 ·exact ok_made
 ·exact ok_idU
 ·exact ok_rchk
 ·exact ok_vvalid) noCall_ok) 2
theorem valid_zero (c : Vec3) : validP c 0 ↔ inV c 524288 := ⟨fun h => h.1, fun h => ⟨h, rfl⟩⟩
theorem ok_pcheck : EntOk Tryz.prog ⟨15, c_pcheck⟩ := by
 rintro args Post ⟨p, m, rfl, hq, hf, h⟩
 refine pure_P vcPk_ok mixed (by kernel_rfl) (by kernel_rfl) _ (e_pcheck p m _ _) ?_
 simp only [true_and]
 unfold checkP at h
 refine ⟨p.id, rfl, ifD (fun h1 => ⟨p.node, rfl, ifD (fun h2 => ?_) (fun h2 => ?_)⟩) (fun h1 => ?_)⟩
 case refine_2 => rwa [if_pos (.inr h2)] at h
 case refine_3 => rwa [if_pos (.inl h1)] at h
 rw [if_neg (by rintro (h | h); exact h h1; exact h h2)] at h
 refine ifD (fun h3 => ifD (fun h4 => ?_) (fun h4 => ?_)) (fun h3 => ?_)
 case refine_2 => rwa [if_pos (by omega)] at h
 case refine_3 => rwa [if_pos (by omega)] at h
 rw [if_neg (by omega)] at h
 refine ifD (fun h5 => ?_) (fun h5 => ⟨p, rfl, hq, ifD (fun h6 => ?_) (fun h6 => ⟨p, m, rfl, hf, ifD (fun h7 => ?_) (fun h7 => ?_)⟩)⟩)
 ·rwa [if_pos h5] at h
 ·rwa [if_neg h5, if_pos h6] at h
 case refine_4 => rwa [if_neg h5, if_neg h6, if_pos h7] at h
 rw [if_neg h5, if_neg h6, if_neg (fun hn => hn h7)] at h
 -- the placement, behind the body
 have last : bodyErr p = 0 → ∃ (a : Vec3) (k : Int), eqL [placeV p.at_ p.turn] [placeV a k] ∧ pIf (decide (validP a k)) (Post (.int .i64 0)) (Post (.int .i64 9)) := fun hb => by
  rw [if_neg (by rw [hb]; exact fun h => h rfl)] at h
  refine ⟨p.at_, p.turn, rfl, ifD (fun h8 => ?_) (fun h8 => ?_)⟩
  ·rwa [if_neg (fun hn => hn h8)] at h
  ·rwa [if_pos h8] at h
 have bad : ∀ e : Int, bodyErr p = e → e ≠ 0 → Post (.int .i64 e) := fun e he hn => by
  rw [if_pos (by rw [he]; exact hn), he] at h
  exact h
 unfold bodyErr at last bad
 refine ifD (fun f1 => ⟨p.outer, p.holes, rfl, hq.outer, hq.holes, hq.all, ifN (fun g => bad _ (by rw [if_pos f1]) g) (fun g => last (by rw [if_pos f1]; exact g))⟩) (fun f1 => ?_)
 rw [if_neg f1] at last bad
 refine ifD (fun f2 => ?_) (fun f2 => ?_)
 ·rw [if_pos f2] at last bad
  refine ifD (fun g1 => ifD (fun g2 => last (by rw [if_neg (by omega)])) (fun g2 => bad 9 (by rw [if_pos (by omega)]) (by decide))) (fun g1 => bad 9 (by rw [if_pos (by omega)]) (by decide))
 rw [if_neg f2] at last bad
 refine ifD (fun f3 => ?_) (fun f3 => ?_)
 ·refine ifD (fun g1 => ifD (fun g2 => ⟨p.centre, 0, rfl, ifD (fun g3 => last ?_) (fun g3 => bad 9 ?_ (by decide))⟩) (fun g2 => bad 9 (by rw [if_pos (.inr (.inl (by omega)))]) (by decide))) (fun g1 => bad 9 (by rw [if_pos (.inl (by omega))]) (by decide))
  ·rw [if_neg]
   rintro (h | h | h)
   ·omega
   ·omega
   ·exact h ((valid_zero _).1 g3)
  ·rw [if_pos (.inr (.inr fun hi => g3 ((valid_zero _).2 hi)))]
 ·have := formP_cases p.kind
  omega
abbrev wr64 (n : Int) : Int := IntKind.wrap .i64 n
def massRaw (p : Part) (m : Mats) : Int := if formP p.kind = 1 then wr64 (Int.tdiv (wr64 (wr64 (rArea p.outer p.holes * p.thick) * (gradeOf m p.grade).dens)) 2000000) else if formP p.kind = 2 then wr64 (Int.tdiv (wr64 (wr64 ((sectOf m p.sect).area * p.long) * (gradeOf m p.grade).dens)) 1000000) else p.mass
def massP (p : Part) (m : Mats) : Int := if checkP p m = 0 then massRaw p m else 0
def centreRaw (p : Part) (m : Mats) : Vec3 := if formP p.kind = 1 then ⟨roundP (rMomX p.outer p.holes) (3 * rArea p.outer p.holes), roundP (rMomY p.outer p.holes) (3 * rArea p.outer p.holes), roundP p.thick 2⟩ else if formP p.kind = 2 then ⟨roundP p.long 2, 0, roundP (sectOf m p.sect).height 2⟩ else p.centre
def centreP (p : Part) (m : Mats) : Vec3 := if checkP p m = 0 then centreRaw p m else ⟨0, 0, 0⟩
structure Wt where
 m : Int
 x : Int
 y : Int
 z : Int
 v : Int
 deriving DecidableEq
def wt0 : Wt := ⟨0, 0, 0, 0, 0⟩
abbrev wtV (w : Wt) : Value := .agg #[.int .i64 w.m, .int .i64 w.x, .int .i64 w.y, .int .i64 w.z, .int .i64 w.v]
def weightP (p : Part) (m : Mats) : Wt := if checkP p m = 0 then ⟨massP p m, wr64 (massP p m * (applyV p.at_ p.turn (centreP p m)).x), wr64 (massP p m * (applyV p.at_ p.turn (centreP p m)).y), wr64 (massP p m * (applyV p.at_ p.turn (centreP p m)).z), wr64 (ceilP (massP p m) 50000 * ceilP (massP p m) 50000)⟩ else wt0
def c_Mass (args : List Value) (Post : Value → Prop) : Prop := ∃ (p : Part) (m : Mats), args = [partV p, matsV m] ∧ FitQ p ∧ FewM m ∧ Post (.tuple #[.int .i64 (massP p m), .int .i64 (checkP p m)])
def c_Centre (args : List Value) (Post : Value → Prop) : Prop := ∃ (p : Part) (m : Mats), args = [partV p, matsV m] ∧ FitQ p ∧ FewM m ∧ Post (.tuple #[vecV (centreP p m), .int .i64 (checkP p m)])
def c_Weight (args : List Value) (Post : Value → Prop) : Prop := ∃ (p : Part) (m : Mats), args = [partV p, matsV m] ∧ FitQ p ∧ FewM m ∧ Post (.tuple #[wtV (weightP p m), .int .i64 (checkP p m)])
def vcMa : VCall := tabCall [⟨48, c_form⟩, ⟨15, c_pcheck⟩, ⟨62, c_Grade⟩, ⟨63, c_Sect⟩, ⟨64, c_rar2⟩] noCall
theorem e_Mass (p : Part) (m : Mats) (H : HT) (Post : PV) : vcP Tryz.prog vcMa 18 [] [partV p, matsV m] H Post = (let q5 := toI (vi 1000000) = 0 → False; let q4 := toI (vi 2000000) = 0 → False; let q3 := [Value.agg #[trPt p.outer, trPts p.holes]]; let q2 := T4 (True ∧ (T2 (True)) ∧ Post (Value.tuple #[vi p.mass, vi 0])); let q1 := #[tree 4 (List.length (Mats.grades m)) (encL (Mats.grades m)), tree 4 (List.length (Mats.sects m)) (encL (Mats.sects m))]; T4 (T2 (∃ (p_1 : Part), ∃ (m_1 : Mats), eqL [Value.agg #[vs p.id, vi p.rev, vi p.kind, vs p.node, vs p.grade, vi p.thick, trPt p.outer, trPts p.holes, vs p.sect, vi p.long, vi p.mass, vi p.centre.x, vi p.centre.y, vi p.centre.z, vi p.at_.x, vi p.at_.y, vi p.at_.z, vi p.turn], Value.agg q1] [partV p_1, matsV m_1] ∧ FitQ p_1 ∧ FewM m_1 ∧ T2 (True ∧ pIf (!decide (checkP p_1 m_1 = 0)) (T2 (True ∧ (T2 (True)) ∧ Post (Value.tuple #[vi 0, vi (checkP p_1 m_1)]))) (T2 (True ∧ ∃ (m_2 : Mats), ∃ (s : ByteArray), eqL [Value.agg q1, vs p.grade] [matsV m_2, vs s] ∧ FewM m_2 ∧ T2 (True ∧ pIf (decide (hasG m_2 s)) (True ∧ 4 ≤ 4 ∧ T4 (∃ (m_3 : Mats), ∃ (s_1 : ByteArray), eqL [Value.agg q1, vs p.sect] [matsV m_3, vs s_1] ∧ FewM m_3 ∧ T2 (True ∧ pIf (decide (hasS m_3 s_1)) (True ∧ 4 ≤ 4 ∧ T4 (pIf (decide (formP p.kind = 1)) (T4 (T2 (True ∧ ∃ (o : List Pt), ∃ (hs : List (List Pt)), eqL q3 [shapeV o hs] ∧ Short o ∧ Short hs ∧ (∀ (h : List Pt), h ∈ hs → Short h) ∧ T2 (True ∧ q4 ∧ T2 ((T2 (True)) ∧ Post (Value.tuple #[vi (IntKind.wrap IntKind.i64 (Int.tdiv (IntKind.wrap IntKind.i64 (IntKind.wrap IntKind.i64 (rArea o hs * p.thick) * Grade4.dens (gradeOf m_2 s))) 2000000)), vi 0])))))) (T2 (pIf (decide (formP p.kind = 2)) (T8 (True ∧ q5 ∧ T2 ((T2 (True)) ∧ Post (Value.tuple #[vi (IntKind.wrap IntKind.i64 (Int.tdiv (IntKind.wrap IntKind.i64 (IntKind.wrap IntKind.i64 (Sect4.area (sectOf m_3 s_1) * p.long) * Grade4.dens (gradeOf m_2 s))) 1000000)), vi 0])))) q2)))) (True ∧ 4 ≤ 4 ∧ T4 (pIf (decide (formP p.kind = 1)) (T4 (T2 (True ∧ ∃ (o : List Pt), ∃ (hs : List (List Pt)), eqL q3 [shapeV o hs] ∧ Short o ∧ Short hs ∧ (∀ (h : List Pt), h ∈ hs → Short h) ∧ T2 (True ∧ q4 ∧ T2 ((T2 (True)) ∧ Post (Value.tuple #[vi (IntKind.wrap IntKind.i64 (Int.tdiv (IntKind.wrap IntKind.i64 (IntKind.wrap IntKind.i64 (rArea o hs * p.thick) * Grade4.dens (gradeOf m_2 s))) 2000000)), vi 0])))))) (T2 (pIf (decide (formP p.kind = 2)) (T8 (True ∧ q5 ∧ T2 ((T2 (True)) ∧ Post (Value.tuple #[vi (IntKind.wrap IntKind.i64 (Int.tdiv (IntKind.wrap IntKind.i64 (IntKind.wrap IntKind.i64 (Sect4.area (sectOf m_3 s_1) * p.long) * Grade4.dens (gradeOf m_2 s))) 1000000)), vi 0])))) q2))))))) (True ∧ 4 ≤ 4 ∧ T4 (∃ (m_3 : Mats), ∃ (s_1 : ByteArray), eqL [Value.agg q1, vs p.sect] [matsV m_3, vs s_1] ∧ FewM m_3 ∧ T2 (True ∧ pIf (decide (hasS m_3 s_1)) (True ∧ 4 ≤ 4 ∧ T4 (pIf (decide (formP p.kind = 1)) (T4 (T2 (True ∧ ∃ (o : List Pt), ∃ (hs : List (List Pt)), eqL q3 [shapeV o hs] ∧ Short o ∧ Short hs ∧ (∀ (h : List Pt), h ∈ hs → Short h) ∧ T2 (True ∧ q4 ∧ T2 ((T2 (True)) ∧ Post (Value.tuple #[vi (IntKind.wrap IntKind.i64 (Int.tdiv (IntKind.wrap IntKind.i64 (IntKind.wrap IntKind.i64 (rArea o hs * p.thick) * Grade4.dens (gradeOf m_2 s))) 2000000)), vi 0])))))) (T2 (pIf (decide (formP p.kind = 2)) (T8 (True ∧ q5 ∧ T2 ((T2 (True)) ∧ Post (Value.tuple #[vi (IntKind.wrap IntKind.i64 (Int.tdiv (IntKind.wrap IntKind.i64 (IntKind.wrap IntKind.i64 (Sect4.area (sectOf m_3 s_1) * p.long) * Grade4.dens (gradeOf m_2 s))) 1000000)), vi 0])))) q2)))) (True ∧ 4 ≤ 4 ∧ T4 (pIf (decide (formP p.kind = 1)) (T4 (T2 (True ∧ ∃ (o : List Pt), ∃ (hs : List (List Pt)), eqL q3 [shapeV o hs] ∧ Short o ∧ Short hs ∧ (∀ (h : List Pt), h ∈ hs → Short h) ∧ T2 (True ∧ q4 ∧ T2 ((T2 (True)) ∧ Post (Value.tuple #[vi (IntKind.wrap IntKind.i64 (Int.tdiv (IntKind.wrap IntKind.i64 (IntKind.wrap IntKind.i64 (rArea o hs * p.thick) * Grade4.dens (gradeOf m_2 s))) 2000000)), vi 0])))))) (T2 (pIf (decide (formP p.kind = 2)) (T8 (True ∧ q5 ∧ T2 ((T2 (True)) ∧ Post (Value.tuple #[vi (IntKind.wrap IntKind.i64 (Int.tdiv (IntKind.wrap IntKind.i64 (IntKind.wrap IntKind.i64 (Sect4.area (sectOf m_3 s_1) * p.long) * Grade4.dens (gradeOf m_2 s))) 1000000)), vi 0])))) q2)))))))))))))) := by kernel_rfl
def vcCe : VCall := inlCall Tryz.prog [69] (tabCall [⟨48, c_form⟩, ⟨15, c_pcheck⟩, ⟨63, c_Sect⟩, ⟨64, c_rar2⟩, ⟨68, c_rmom⟩, ⟨142, c_round⟩] noCall) 2
theorem e_Centre (p : Part) (m : Mats) (H : HT) (Post : PV) : vcP Tryz.prog vcCe 20 [] [partV p, matsV m] H Post = (let q2 := #[tree 4 (List.length (Mats.grades m)) (encL (Mats.grades m)), tree 4 (List.length (Mats.sects m)) (encL (Mats.sects m))]; let q1 := (T2 (True ∧ True)) ∧ True ∧ True; T4 (T2 (∃ (p_1 : Part), ∃ (m_1 : Mats), eqL [Value.agg #[vs p.id, vi p.rev, vi p.kind, vs p.node, vs p.grade, vi p.thick, trPt p.outer, trPts p.holes, vs p.sect, vi p.long, vi p.mass, vi p.centre.x, vi p.centre.y, vi p.centre.z, vi p.at_.x, vi p.at_.y, vi p.at_.z, vi p.turn], Value.agg q2] [partV p_1, matsV m_1] ∧ FitQ p_1 ∧ FewM m_1 ∧ T2 (True ∧ pIf (!decide (checkP p_1 m_1 = 0)) (T2 (3 ≤ 3 ∧ True ∧ q1 ∧ Post (Value.tuple #[Value.agg #[vi 0, vi 0, vi 0], vi (checkP p_1 m_1)]))) (T2 (True ∧ pIf (decide (formP p.kind = 1)) (T2 (True ∧ ∃ (o : List Pt), ∃ (hs : List (List Pt)), eqL [Value.agg #[trPt p.outer, trPts p.holes]] [shapeV o hs] ∧ Short o ∧ Short hs ∧ (∀ (h : List Pt), h ∈ hs → Short h) ∧ T4 (T2 (True ∧ ∃ (o_1 : List Pt), ∃ (hs_1 : List (List Pt)), eqL [Value.agg #[trPt p.outer, trPts p.holes]] [shapeV o_1 hs_1] ∧ Short o_1 ∧ Short hs_1 ∧ (∀ (h : List Pt), h ∈ hs_1 → Short h) ∧ T8 (T2 (True ∧ ∃ (a : Int), ∃ (b : Int), eqL [vi (rMomX o hs), vi (IntKind.wrap IntKind.i64 (3 * rArea o_1 hs_1))] [vi a, vi b] ∧ Quo a b ∧ T4 (T2 (True ∧ ((vi p.thick = vi p.thick ∧ True) ∧ True) ∧ T2 (True ∧ ∃ (a_1 : Int), ∃ (b_1 : Int), eqL [vi (rMomY o hs), vi (IntKind.wrap IntKind.i64 (3 * rArea o_1 hs_1))] [vi a_1, vi b_1] ∧ Quo a_1 b_1 ∧ T4 (T2 (True ∧ ((vi p.thick = vi p.thick ∧ True) ∧ True) ∧ T2 (True ∧ ∃ (a_2 : Int), ∃ (b_2 : Int), eqL [vi p.thick, vi 2] [vi a_2, vi b_2] ∧ Quo a_2 b_2 ∧ T8 (True ∧ 3 ≤ 3 ∧ T2 (q1 ∧ Post (Value.tuple #[Value.agg #[vi (roundP a b), vi (roundP a_1 b_1), vi (roundP a_2 b_2)], vi 0]))))))))))))))) (T2 (pIf (decide (formP p.kind = 2)) (T4 (∃ (m_2 : Mats), ∃ (s : ByteArray), eqL [Value.agg q2, vs p.sect] [matsV m_2, vs s] ∧ FewM m_2 ∧ T2 (True ∧ pIf (decide (hasS m_2 s)) (True ∧ 4 ≤ 4 ∧ T8 (∃ (a : Int), ∃ (b : Int), eqL [vi p.long, vi 2] [vi a, vi b] ∧ Quo a b ∧ T4 (T2 (True ∧ ((vi (Sect4.height (sectOf m_2 s)) = vi (Sect4.height (sectOf m_2 s)) ∧ True) ∧ True) ∧ T2 (True ∧ ∃ (a_1 : Int), ∃ (b_1 : Int), eqL [vi (Sect4.height (sectOf m_2 s)), vi 2] [vi a_1, vi b_1] ∧ Quo a_1 b_1 ∧ T8 (True ∧ 3 ≤ 3 ∧ T2 (q1 ∧ Post (Value.tuple #[Value.agg #[vi (roundP a b), vi 0, vi (roundP a_1 b_1)], vi 0])))))))) (True ∧ 4 ≤ 4 ∧ T8 (∃ (a : Int), ∃ (b : Int), eqL [vi p.long, vi 2] [vi a, vi b] ∧ Quo a b ∧ T4 (T2 (True ∧ ((vi (Sect4.height (sectOf m_2 s)) = vi (Sect4.height (sectOf m_2 s)) ∧ True) ∧ True) ∧ T2 (True ∧ ∃ (a_1 : Int), ∃ (b_1 : Int), eqL [vi (Sect4.height (sectOf m_2 s)), vi 2] [vi a_1, vi b_1] ∧ Quo a_1 b_1 ∧ T8 (True ∧ 3 ≤ 3 ∧ T2 (q1 ∧ Post (Value.tuple #[Value.agg #[vi (roundP a b), vi 0, vi (roundP a_1 b_1)], vi 0]))))))))))) (T2 (True ∧ 3 ≤ 3 ∧ True ∧ q1 ∧ Post (Value.tuple #[Value.agg #[vi p.centre.x, vi p.centre.y, vi p.centre.z], vi 0]))))))))))) := by kernel_rfl
def vcWe : VCall := tabCall [⟨18, c_Mass⟩, ⟨20, c_Centre⟩, ⟨72, c_vapply⟩, ⟨73, c_ceil⟩] noCall
theorem e_Weight (p : Part) (m : Mats) (H : HT) (Post : PV) : vcP Tryz.prog vcWe 22 [] [partV p, matsV m] H Post = (let q1 := [Value.agg #[vs p.id, vi p.rev, vi p.kind, vs p.node, vs p.grade, vi p.thick, trPt p.outer, trPts p.holes, vs p.sect, vi p.long, vi p.mass, vi p.centre.x, vi p.centre.y, vi p.centre.z, vi p.at_.x, vi p.at_.y, vi p.at_.z, vi p.turn], Value.agg #[tree 4 (List.length (Mats.grades m)) (encL (Mats.grades m)), tree 4 (List.length (Mats.sects m)) (encL (Mats.sects m))]]; T4 (T2 (∃ (p_1 : Part), ∃ (m_1 : Mats), eqL q1 [partV p_1, matsV m_1] ∧ FitQ p_1 ∧ FewM m_1 ∧ T4 (T2 (True ∧ pIf (!decide (checkP p_1 m_1 = 0)) (T2 (5 ≤ 5 ∧ True ∧ ((T4 (True ∧ True)) ∧ True ∧ True) ∧ Post (Value.tuple #[Value.agg #[vi 0, vi 0, vi 0, vi 0, vi 0], vi (checkP p_1 m_1)]))) (T2 (∃ (p_2 : Part), ∃ (m_2 : Mats), eqL q1 [partV p_2, matsV m_2] ∧ FitQ p_2 ∧ FewM m_2 ∧ T4 (3 ≤ 3 ∧ T2 (True ∧ pIf (!decide (checkP p_2 m_2 = 0)) (T2 (5 ≤ 5 ∧ True ∧ ((T4 (True ∧ True)) ∧ True ∧ True) ∧ Post (Value.tuple #[Value.agg #[vi 0, vi 0, vi 0, vi 0, vi 0], vi (checkP p_2 m_2)]))) (T2 (True ∧ ∃ (a : Vec3), ∃ (k : Int), ∃ (v : Vec3), eqL [Value.agg #[vi p.at_.x, vi p.at_.y, vi p.at_.z, vi p.turn], Value.agg #[vi (Vec3.x (centreP p_2 m_2)), vi (Vec3.y (centreP p_2 m_2)), vi (Vec3.z (centreP p_2 m_2))]] [placeV a k, vecV v] ∧ True ∧ 3 ≤ 3 ∧ True ∧ ∃ (a_1 : Int), ∃ (b : Int), eqL [vi (massP p_1 m_1), vi 50000] [vi a_1, vi b] ∧ Quo a_1 b ∧ T16 (T4 (T2 (5 ≤ 5 ∧ True ∧ ((T4 (True ∧ True)) ∧ True ∧ True) ∧ Post (Value.tuple #[Value.agg #[vi (massP p_1 m_1), vi (IntKind.wrap IntKind.i64 (massP p_1 m_1 * Vec3.x (applyV a k v))), vi (IntKind.wrap IntKind.i64 (massP p_1 m_1 * Vec3.y (applyV a k v))), vi (IntKind.wrap IntKind.i64 (massP p_1 m_1 * Vec3.z (applyV a k v))), vi (IntKind.wrap IntKind.i64 (ceilP a_1 b * ceilP a_1 b))], vi 0]))))))))))))))) := by kernel_rfl
theorem vcMa_ok : VCallOk Tryz.prog vcMa := tabCall_ok (by
 intro e he
 simp only [List.mem_cons, List.not_mem_nil, or_false] at he
 rcases he with rfl | rfl | rfl | rfl | rfl
 ·exact ok_form
 ·exact ok_pcheck
 ·exact ok_Grade
 ·exact ok_Sect
 ·exact ok_rar2) noCall_ok
theorem ok_Mass : EntOk Tryz.prog ⟨18, c_Mass⟩ := by
 rintro args Post ⟨p, m, rfl, hq, hf, h⟩
 refine pure_P vcMa_ok mixed (by kernel_rfl) (by kernel_rfl) _ (e_Mass p m _ _) ?_
 simp only [true_and]
 unfold massP massRaw at h
 refine ⟨p, m, rfl, hq, hf, ifN (fun h1 => ?_) (fun h1 => ?_)⟩
 ·rwa [if_neg h1] at h
 rw [if_pos h1] at h
 rw [h1] at h
 refine ⟨m, p.grade, rfl, hf, ?_⟩
 have last : pIf (decide (formP p.kind = 1)) (∃ (o : List Pt), ∃ (hs : List (List Pt)), eqL [.agg #[trPt p.outer, trPts p.holes]] [shapeV o hs] ∧ Short o ∧ Short hs ∧ (∀ (h : List Pt), h ∈ hs → Short h) ∧ (toI (.int .i64 2000000) = 0 → False) ∧ Post (.tuple #[.int .i64 (wr64 (Int.tdiv (wr64 (wr64 (rArea o hs * p.thick) * (gradeOf m p.grade).dens)) 2000000)), .int .i64 0])) (pIf (decide (formP p.kind = 2)) ((toI (.int .i64 1000000) = 0 → False) ∧ Post (.tuple #[.int .i64 (wr64 (Int.tdiv (wr64 (wr64 ((sectOf m p.sect).area * p.long) * (gradeOf m p.grade).dens)) 1000000)), .int .i64 0])) (Post (.tuple #[.int .i64 p.mass, .int .i64 0]))) := by
  refine ifD (fun f1 => ⟨p.outer, p.holes, rfl, hq.outer, hq.holes, hq.all, ?_, ?_⟩) (fun f1 => ifD (fun f2 => ⟨?_, ?_⟩) (fun f2 => ?_))
  ·decide
  ·rwa [if_pos f1] at h
  ·decide
  ·rwa [if_neg f1, if_pos f2] at h
  ·rwa [if_neg f1, if_neg f2] at h
 exact ifD (fun _ => ⟨by decide, m, p.sect, rfl, hf, ifD (fun _ => ⟨by decide, last⟩) (fun _ => ⟨by decide, last⟩)⟩) (fun _ => ⟨by decide, m, p.sect, rfl, hf, ifD (fun _ => ⟨by decide, last⟩) (fun _ => ⟨by decide, last⟩)⟩)
theorem check_made {p : Part} {m : Mats} (h : checkP p m = 0) : formP p.kind ≠ 0 ∧ ¬ spareP p ∧ madeP p m ∧ bodyErr p = 0 ∧ validP p.at_ p.turn ∧ 1 ≤ p.rev ∧ p.rev ≤ 1000 := by
 unfold checkP at h
 by_cases h1 : ¬ idOk p.id ∨ ¬ idOk p.node
 ·rw [if_pos h1] at h; omega
 rw [if_neg h1] at h
 by_cases h2 : p.rev < 1 ∨ 1000 < p.rev
 ·rw [if_pos h2] at h; omega
 rw [if_neg h2] at h
 by_cases h3 : formP p.kind = 0
 ·rw [if_pos h3] at h; omega
 rw [if_neg h3] at h
 by_cases h4 : spareP p
 ·rw [if_pos h4] at h; omega
 rw [if_neg h4] at h
 by_cases h5 : madeP p m
 rotate_left
 ·rw [if_pos h5] at h; omega
 rw [if_neg (fun hn => hn h5)] at h
 by_cases h6 : bodyErr p = 0
 rotate_left
 ·rw [if_pos h6] at h; exact absurd h h6
 rw [if_neg (fun hn => hn h6)] at h
 by_cases h7 : validP p.at_ p.turn
 rotate_left
 ·rw [if_pos h7] at h; omega
 exact ⟨h3, h4, h5, h6, h7, by omega, by omega⟩
theorem ShapeOk.rArea_bd {o : List Pt} {hs : List (List Pt)} (h : ShapeOk o hs) : 1 ≤ Go.Proofs.YtngginofamlkkaaGreatDoor.rArea o hs ∧ Go.Proofs.YtngginofamlkkaaGreatDoor.rArea o hs ≤ 618475290624 := by
 have h1 := h.area
 rw [← h.rArea] at h1
 refine ⟨h1, ?_⟩
 unfold Go.Proofs.YtngginofamlkkaaGreatDoor.rArea
 rw [if_pos ((shapeCheck_zero o hs).2 h)]
 have h8 := h.few
 have h2 := sumTo_bd (f := overC area2P o hs) (M := 68719476736) (fun i => area2_bd _) (hs.length + 1)
 omega
theorem rMom_bd (o : List Pt) (hs : List (List Pt)) : (-40532396646334464 ≤ rMomX o hs ∧ rMomX o hs ≤ 40532396646334464) ∧ (-40532396646334464 ≤ rMomY o hs ∧ rMomY o hs ≤ 40532396646334464) := by
 unfold rMomX rMomY
 by_cases h : shapeCheck o hs = 0
 ·rw [if_pos h, if_pos h]
  have h8 := ((shapeCheck_zero o hs).1 h).few
  have h2 := sumTo_bd (f := overC mom6X o hs) (M := 4503599627370496) (fun i => mom6X_bd _) (hs.length + 1)
  have h3 := sumTo_bd (f := overC mom6Y o hs) (M := 4503599627370496) (fun i => mom6Y_bd _) (hs.length + 1)
  omega
 ·rw [if_neg h, if_neg h]
  omega
theorem vcCe_ok : VCallOk Tryz.prog vcCe := inlCall_ok mixed (tabCall_ok (by
 intro e he
 simp only [List.mem_cons, List.not_mem_nil, or_false] at he
 rcases he with rfl | rfl | rfl | rfl | rfl | rfl
 ·exact ok_form
 ·exact ok_pcheck
 ·exact ok_Sect
 ·exact ok_rar2
 ·exact ok_rmom
 ·exact ok_round) noCall_ok) 2
theorem plate_ok {p : Part} {m : Mats} (h : checkP p m = 0) (f : formP p.kind = 1) : ShapeOk p.outer p.holes ∧ 1 ≤ p.thick ∧ p.thick ≤ 120 ∧ 1000 ≤ (gradeOf m p.grade).dens ∧ (gradeOf m p.grade).dens ≤ 20000 := by
 obtain ⟨_, _, h3, h4, _⟩ := check_made h
 unfold bodyErr at h4
 rw [if_pos f] at h4
 rcases h3 with h3 | ⟨_, h5, h6 | h6⟩
 ·omega
 ·exact ⟨(shapeCheck_zero _ _).1 h4, h6.2.1.1, h6.2.1.2, h5.1, h5.2⟩
 ·exact absurd f h6.1
theorem beam_ok {p : Part} {m : Mats} (h : checkP p m = 0) (f : formP p.kind = 2) : (1 ≤ p.long ∧ p.long ≤ 32768) ∧ (1 ≤ (sectOf m p.sect).area ∧ (sectOf m p.sect).area ≤ 1000000) ∧ (1 ≤ (sectOf m p.sect).height ∧ (sectOf m p.sect).height ≤ 2000) ∧ 1000 ≤ (gradeOf m p.grade).dens ∧ (gradeOf m p.grade).dens ≤ 20000 := by
 obtain ⟨_, _, h3, h4, _⟩ := check_made h
 unfold bodyErr at h4
 rw [if_neg (by omega), if_pos f] at h4
 rcases h3 with h3 | ⟨_, h5, h6 | h6⟩
 ·omega
 ·omega
 ·refine ⟨?_, h6.2.2.1, h6.2.2.2, h5.1, h5.2⟩
  by_cases hl : p.long < 1 ∨ 32768 < p.long
  ·rw [if_pos hl] at h4; omega
  ·omega
theorem item_ok {p : Part} {m : Mats} (h : checkP p m = 0) (f1 : formP p.kind ≠ 1) (f2 : formP p.kind ≠ 2) : 1 ≤ p.mass ∧ p.mass ≤ 1099511627776 ∧ inV p.centre 524288 := by
 obtain ⟨_, _, _, h4, _⟩ := check_made h
 unfold bodyErr at h4
 rw [if_neg f1, if_neg f2] at h4
 by_cases hl : p.mass < 1 ∨ 1099511627776 < p.mass ∨ ¬ inV p.centre 524288
 ·rw [if_pos hl] at h4; omega
 ·refine ⟨by omega, by omega, ?_⟩
  by_cases hi : inV p.centre 524288
  ·exact hi
  ·exact absurd (.inr (.inr hi)) hl
theorem ok_Centre : EntOk Tryz.prog ⟨20, c_Centre⟩ := by
 rintro args Post ⟨p, m, rfl, hq, hf, h⟩
 refine pure_P vcCe_ok mixed (by kernel_rfl) (by kernel_rfl) _ (e_Centre p m _ _) ?_
 simp only [true_and, and_true, Nat.le_refl]
 unfold centreP centreRaw at h
 refine ⟨p, m, rfl, hq, hf, ifN (fun h1 => ?_) (fun h1 => ?_)⟩
 ·rwa [if_neg h1] at h
 rw [if_pos h1, h1] at h
 refine ifD (fun f1 => ?_) (fun f1 => ifD (fun f2 => ?_) (fun f2 => ?_))
 ·rw [if_pos f1] at h
  obtain ⟨ho, t1, t2, _⟩ := plate_ok h1 f1
  have ha := ho.rArea_bd
  have hm := rMom_bd p.outer p.holes
  refine ⟨p.outer, p.holes, rfl, hq.outer, hq.holes, hq.all, p.outer, p.holes, rfl, hq.outer, hq.holes, hq.all, ?_⟩
  rw [wrap64 (n := 3 * rArea p.outer p.holes) (by omega) (by omega)]
  exact ⟨_, _, rfl, ⟨⟨by omega, by omega, by omega, by omega⟩⟩, _, _, rfl, ⟨⟨by omega, by omega, by omega, by omega⟩⟩, _, _, rfl, ⟨⟨by omega, by omega, by omega, by omega⟩⟩, h⟩
 ·rw [if_neg f1, if_pos f2] at h
  obtain ⟨l, _, t, _⟩ := beam_ok h1 f2
  refine ⟨m, p.sect, rfl, hf, ?_⟩
  exact ifD (fun _ => ⟨_, _, rfl, ⟨⟨by omega, by omega, by omega, by omega⟩⟩, _, _, rfl, ⟨⟨by omega, by omega, by omega, by omega⟩⟩, h⟩) (fun _ => ⟨_, _, rfl, ⟨⟨by omega, by omega, by omega, by omega⟩⟩, _, _, rfl, ⟨⟨by omega, by omega, by omega, by omega⟩⟩, h⟩)
 ·rwa [if_neg f1, if_neg f2] at h
theorem wr64_eq {n : Int} (h1 : -9223372036854775808 ≤ n) (h2 : n ≤ 9223372036854775807) : wr64 n = n := wrap64 (by omega) (by omega)
theorem mul3_bd {a b c A B C : Int} (ha : 0 ≤ a ∧ a ≤ A) (hb : 0 ≤ b ∧ b ≤ B) (hc : 0 ≤ c ∧ c ≤ C) : 0 ≤ a * b ∧ a * b ≤ A * B ∧ 0 ≤ a * b * c ∧ a * b * c ≤ A * B * C := by
 have h1 : 0 ≤ a * b := Int.mul_nonneg ha.1 hb.1
 have h2 : a * b ≤ A * B := Int.mul_le_mul ha.2 hb.2 hb.1 (by omega)
 exact ⟨h1, h2, Int.mul_nonneg h1 hc.1, Int.mul_le_mul h2 hc.2 hc.1 (by omega)⟩
theorem mass_bd (p : Part) (m : Mats) : 0 ≤ massP p m ∧ massP p m ≤ 1099511627776 := by
 unfold massP massRaw
 by_cases h : checkP p m = 0
 rotate_left
 ·rw [if_neg h]; omega
 rw [if_pos h]
 by_cases f1 : formP p.kind = 1
 ·rw [if_pos f1]
  obtain ⟨ho, t1, t2, d1, d2⟩ := plate_ok h f1
  have ha := ho.rArea_bd
  obtain ⟨b1, b2, b3, b4⟩ := mul3_bd (a := rArea p.outer p.holes) (b := p.thick) (c := (gradeOf m p.grade).dens) (A := 618475290624) (B := 120) (C := 20000) (by omega) (by omega) (by omega)
  rw [wr64_eq (n := rArea p.outer p.holes * p.thick) (by omega) (by omega), wr64_eq (n := rArea p.outer p.holes * p.thick * (gradeOf m p.grade).dens) (by omega) (by omega), Int.tdiv_eq_ediv_of_nonneg b3]
  rw [wr64_eq (by omega) (by omega)]
  omega
 rw [if_neg f1]
 by_cases f2 : formP p.kind = 2
 ·rw [if_pos f2]
  obtain ⟨l, a, t, d1, d2⟩ := beam_ok h f2
  obtain ⟨b1, b2, b3, b4⟩ := mul3_bd (a := (sectOf m p.sect).area) (b := p.long) (c := (gradeOf m p.grade).dens) (A := 1000000) (B := 32768) (C := 20000) (by omega) (by omega) (by omega)
  rw [wr64_eq (n := (sectOf m p.sect).area * p.long) (by omega) (by omega), wr64_eq (n := (sectOf m p.sect).area * p.long * (gradeOf m p.grade).dens) (by omega) (by omega), Int.tdiv_eq_ediv_of_nonneg b3]
  rw [wr64_eq (by omega) (by omega)]
  omega
 rw [if_neg f2]
 have := item_ok h f1 f2
 omega
theorem vcWe_ok : VCallOk Tryz.prog vcWe := tabCall_ok (by
 intro e he
 simp only [List.mem_cons, List.not_mem_nil, or_false] at he
 rcases he with rfl | rfl | rfl | rfl
 ·exact ok_Mass
 ·exact ok_Centre
 ·exact ok_vapply
 ·exact ok_ceil) noCall_ok
theorem ok_Weight : EntOk Tryz.prog ⟨22, c_Weight⟩ := by
 rintro args Post ⟨p, m, rfl, hq, hf, h⟩
 refine pure_P vcWe_ok mixed (by kernel_rfl) (by kernel_rfl) _ (e_Weight p m _ _) ?_
 simp only [true_and, and_true, Nat.le_refl]
 unfold weightP at h
 refine ⟨p, m, rfl, hq, hf, ifN (fun h1 => ?_) (fun h1 => ⟨p, m, rfl, hq, hf, ifN (fun h2 => ?_) (fun _ => ?_)⟩)⟩
 ·rwa [if_neg h1] at h
 ·exact absurd h1 h2
 rw [if_pos h1, h1] at h
 have hm := mass_bd p m
 exact ⟨p.at_, p.turn, centreP p m, rfl, massP p m, 50000, rfl, ⟨⟨by omega, by omega, by omega, by omega⟩⟩, h⟩
def few15 (m : Mats) : Prop := m.grades.length ≤ 40 ∧ m.sects.length ≤ 40 ∧ (∀ g ∈ m.grades, g.gauges.length ≤ 30 ∧ g.name.size ≤ 40) ∧ ∀ s ∈ m.sects, s.name.size ≤ 40
instance (m : Mats) : Decidable (few15 m) := by unfold few15; infer_instance
theorem quart_inV {v : Vec3} {b : Int} (h : inV v b) : ∀ n, inV (quart n v) b
 | 0 => h
 | n + 1 => by
  have := quart_inV h n
  unfold inV at *
  unfold quart
  dsimp only
  omega
theorem turn_inV {v : Vec3} {b : Int} (h : inV v b) (k : Int) : inV (turnV v k) b := by
 have h1 := quart_inV h ((turnNo k).tmod 4).toNat
 unfold turnV
 generalize quart ((turnNo k).tmod 4).toNat v = u at *
 unfold inV at *
 unfold tiltV
 repeat' split
 all_goals ((try dsimp only); omega)
theorem round_bd {a b L U : Int} (hb : 0 < b) (h1 : L * b ≤ a) (h2 : a ≤ U * b) : L ≤ roundP a b ∧ roundP a b ≤ U := by
 unfold roundP
 obtain ⟨f1, f2⟩ := fdiv_char (a := 2 * a + b) (b := 2 * b) (by omega)
 generalize (2 * a + b).fdiv (2 * b) = f at *
 have e1 : 2 * b * f = 2 * (f * b) := by rw [Int.mul_assoc, Int.mul_comm b f]
 rw [e1] at f1 f2
 constructor
 ·refine Decidable.by_contra fun hn => ?_
  have := Int.mul_le_mul_of_nonneg_right (show f + 1 ≤ L by omega) (Int.le_of_lt hb)
  rw [Int.add_mul, Int.one_mul] at this
  omega
 ·refine Decidable.by_contra fun hn => ?_
  have := Int.mul_le_mul_of_nonneg_right (show U + 1 ≤ f by omega) (Int.le_of_lt hb)
  rw [Int.add_mul, Int.one_mul] at this
  omega
theorem shape_centre {o : List Pt} {hs : List (List Pt)} (h : ShapeOk o hs) {L U : Int} (hb : ∀ c ∈ o, L ≤ c.x ∧ c.x ≤ U) : (L ≤ roundP (rMomX o hs) (3 * rArea o hs) ∧ roundP (rMomX o hs) (3 * rArea o hs) ≤ U) ∧ (-32769 ≤ roundP (rMomY o hs) (3 * rArea o hs) ∧ roundP (rMomY o hs) (3 * rArea o hs) ≤ 32769) := by
 have ha := h.area
 have hx := h.centre hb
 have hy := h.centreY
 rw [h.rArea, h.rMomX, h.rMomY]
 generalize areaP o + (hs.map areaP).sum = A at *
 generalize sumTo (momX o) o.length + (hs.map fun l => sumTo (momX l) l.length).sum = X at *
 generalize sumTo (momY o) o.length + (hs.map fun l => sumTo (momY l) l.length).sum = Y at *
 have e1 : L * (3 * A) = 3 * L * A := by rw [Int.mul_comm 3 L, Int.mul_assoc]
 have e2 : U * (3 * A) = 3 * U * A := by rw [Int.mul_comm 3 U, Int.mul_assoc]
 exact ⟨round_bd (by omega) (by omega) (by omega), round_bd (by omega) (by omega) (by omega)⟩
theorem check_near_x {l : List Pt} (h : polyCheck l = 0) : ∀ c ∈ l, -32768 ≤ c.x ∧ c.x ≤ 32768 := fun c hc => by
 have := ((check_near h).2.2 c hc).h
 omega
theorem centre_in {p : Part} {m : Mats} (h : checkP p m = 0) : inV (centreP p m) 524288 := by
 unfold centreP centreRaw
 rw [if_pos h]
 by_cases f1 : formP p.kind = 1
 ·rw [if_pos f1]
  obtain ⟨ho, t1, t2, _⟩ := plate_ok h f1
  have hc := shape_centre ho (check_near_x ho.out)
  have hz := round_bd (a := p.thick) (b := 2) (L := 0) (U := 120) (by decide) (by omega) (by omega)
  unfold inV
  dsimp only
  omega
 rw [if_neg f1]
 by_cases f2 : formP p.kind = 2
 ·rw [if_pos f2]
  obtain ⟨l, _, t, _⟩ := beam_ok h f2
  have hx := round_bd (a := p.long) (b := 2) (L := 0) (U := 32768) (by decide) (by omega) (by omega)
  have hz := round_bd (a := (sectOf m p.sect).height) (b := 2) (L := 0) (U := 2000) (by decide) (by omega) (by omega)
  unfold inV
  dsimp only
  omega
 ·rw [if_neg f2]
  exact (item_ok h f1 f2).2.2
theorem check_at {p : Part} {m : Mats} (h : checkP p m = 0) : inV p.at_ 524288 := (check_made h).2.2.2.2.1.1
theorem apply_at {a c : Vec3} {k : Int} (ha : inV a 524288) (hc : inV c 524288) : applyV a k c = ⟨(turnV c k).x + a.x, (turnV c k).y + a.y, (turnV c k).z + a.z⟩ := by
 unfold applyV
 rw [if_neg]
 unfold inV at *
 omega
theorem mom_no_wrap {a x : Int} (ha : 0 ≤ a ∧ a ≤ 1099511627776) (hx : -1048576 ≤ x ∧ x ≤ 1048576) : wr64 (a * x) = a * x ∧ -1152921504606846976 ≤ a * x ∧ a * x ≤ 1152921504606846976 := by
 have := mul_bd (a := a) (b := x) (A := 1099511627776) (B := 1048576) (by omega) hx
 refine ⟨wrap64 (by omega) (by omega), by omega, by omega⟩
theorem chunks_pts (ks : List (List Pt)) : chunks 1 ks.length (List.drop 0 (ks.map fun a => trPt a)) = encL ks := by
 show ((List.drop 0 (ks.map fun a => trPt a)).take ks.length).toArray = _
 rw [List.drop_zero, List.take_of_length_le (by simp)]
 rfl
theorem nls_pts (ks : List (List Pt)) : NLs (ks.map fun a => trPt a) := fun v hv => by
 obtain ⟨a, _, rfl⟩ := List.mem_map.1 hv
 rfl
abbrev withHs (p : Part) (v : Value) : List Value := [.string p.id, .int .i64 p.rev, .int .i64 p.kind, .string p.node, .string p.grade, .int .i64 p.thick, trPt p.outer, v, .string p.sect, .int .i64 p.long, .int .i64 p.mass, .int .i64 p.centre.x, .int .i64 p.centre.y, .int .i64 p.centre.z, .int .i64 p.at_.x, .int .i64 p.at_.y, .int .i64 p.at_.z, .int .i64 p.turn]
def part0 : Part := ⟨⟨#[]⟩, 0, 0, ⟨#[]⟩, ⟨#[]⟩, 0, [], [], ⟨#[]⟩, 0, 0, ⟨0, 0, 0⟩, ⟨0, 0, 0⟩, 0⟩
def partOf (d : Design6) (s : ByteArray) : Option Part := d.parts.find? fun p => decide (p.id = s)
structure FitW (p : Part) : Prop where
 outer : p.outer.length * 16 ≤ 140737488355328
 holes : p.holes.length * 24 ≤ 140737488355328
 all : ∀ h ∈ p.holes, h.length * 16 ≤ 140737488355328
structure FitD (d : Design6) : Prop where
 len : Short d.parts
 fit : ∀ p ∈ d.parts, FitW p
def c_spart (args : List Value) (Post : Value → Prop) : Prop := ∃ (d : Design6) (s : ByteArray), args = [design6V d, .string s] ∧ FitD d ∧ Post (.tuple #[partV ((partOf d s).getD part0), .bool (partOf d s).isSome])
abbrev zeroP : List Value := [.string ⟨#[]⟩, .int .i64 0, .int .i64 0, .string ⟨#[]⟩, .string ⟨#[]⟩, .int .i64 0, .slice none 0 0, .slice none 0 0, .string ⟨#[]⟩, .int .i64 0, .int .i64 0, .int .i64 0, .int .i64 0, .int .i64 0, .int .i64 0, .int .i64 0, .int .i64 0, .int .i64 0]
def vcSp : VCall := cloneCall [(168, 1, 24)] (tabCall [⟨167, c_cloneT Pt 16⟩] noCall)
abbrev lpSp : List (Nat × List Nat) := [(2, [1, 4, 5, 11, 12, 13]), (7, [4, 7, 35, 36, 37])]
theorem e_spart (d : Design6) (s : ByteArray) (H : HT) (Post : PV) : vcP Tryz.prog vcSp 106 lpSp [design6V d, .string s] H Post = (T8 ((True ∧ True) ∧ H (lpC Tryz.prog 106 2) (lpK Tryz.prog 106 2) (stV [(1, some (vs s)), (4, some (pt 0)), (5, some (vb false)), (11, some (tree 18 (List.length (Design6.parts d)) (encL (Design6.parts d)))), (12, some (vi (↑(List.length (Design6.parts d)) : Int))), (13, some (vi 0))] [(0, some (AObj.cells [vz, vi 0, vi 0, vz, vz, vi 0, nS, nS, vz, vi 0, vi 0, vi 0, vi 0, vi 0, vi 0, vi 0, vi 0, vi 0] true))] 1))) := by kernel_rfl
theorem l_spart (d : Design6) (s : ByteArray) (n : Nat) (k : Int) (A : Array Value) (H : HT) (Post : PV) : vcLP Tryz.prog vcSp 106 [design6V d, .string s] lpSp 2 (stV [(1, some (.string s)), (4, some (.pointer (some ⟨0, 0, none⟩))), (5, some (.bool false)), (11, some (tree 18 n A)), (12, some (.int .i64 n)), (13, some (.int .i64 k))] [(0, some (.cells zeroP true))] 1) H Post = (let q2 := cellAt A (Int.toNat k) 7; let q1 := (0, some (AObj.cells [vz, vi 0, vi 0, vz, vz, vi 0, nS, nS, vz, vi 0, vi 0, vi 0, vi 0, vi 0, vi 0, vi 0, vi 0, vi 0] true)); True ∧ pIf (decide (k < (↑n : Int))) ((0 ≤ k ∧ k < (↑n : Int)) ∧ (cellAt A (Int.toNat k) 0 = vs (toS (cellAt A (Int.toNat k) 0)) ∧ cellAt A (Int.toNat k) 1 = vi (toI (cellAt A (Int.toNat k) 1)) ∧ cellAt A (Int.toNat k) 2 = vi (toI (cellAt A (Int.toNat k) 2)) ∧ cellAt A (Int.toNat k) 3 = vs (toS (cellAt A (Int.toNat k) 3)) ∧ cellAt A (Int.toNat k) 4 = vs (toS (cellAt A (Int.toNat k) 4)) ∧ cellAt A (Int.toNat k) 5 = vi (toI (cellAt A (Int.toNat k) 5)) ∧ cellAt A (Int.toNat k) 6 = tree 2 (toN (cellAt A (Int.toNat k) 6)) (toE (cellAt A (Int.toNat k) 6)) ∧ cellAt A (Int.toNat k) 7 = tree 1 (toN q2) (toE q2) ∧ cellAt A (Int.toNat k) 8 = vs (toS (cellAt A (Int.toNat k) 8)) ∧ cellAt A (Int.toNat k) 9 = vi (toI (cellAt A (Int.toNat k) 9)) ∧ cellAt A (Int.toNat k) 10 = vi (toI (cellAt A (Int.toNat k) 10)) ∧ cellAt A (Int.toNat k) 11 = vi (toI (cellAt A (Int.toNat k) 11)) ∧ cellAt A (Int.toNat k) 12 = vi (toI (cellAt A (Int.toNat k) 12)) ∧ cellAt A (Int.toNat k) 13 = vi (toI (cellAt A (Int.toNat k) 13)) ∧ cellAt A (Int.toNat k) 14 = vi (toI (cellAt A (Int.toNat k) 14)) ∧ cellAt A (Int.toNat k) 15 = vi (toI (cellAt A (Int.toNat k) 15)) ∧ cellAt A (Int.toNat k) 16 = vi (toI (cellAt A (Int.toNat k) 16)) ∧ cellAt A (Int.toNat k) 17 = vi (toI (cellAt A (Int.toNat k) 17)) ∧ True) ∧ True ∧ 18 ≤ 18 ∧ T4 (pIf (decide (toS (cellAt A (Int.toNat k) 0) = s)) (T4 (T2 (∃ (l : List Pt), eqL [tree 2 (toN (cellAt A (Int.toNat k) 6)) (toE (cellAt A (Int.toNat k) 6))] [tree 2 l.length (encL l)] ∧ List.length l * 16 ≤ 140737488355328 ∧ T2 (True ∧ (toN q2 * 24 ≤ 140737488355328 ∧ NLs (flatEls (toE q2))) ∧ (toN q2 = 0 → True ∧ 7 ≤ 18 ∧ T2 (True ∧ 8 ≤ 18 ∧ T4 (T2 (True ∧ (T2 (True)) ∧ H (lpC Tryz.prog 106 7) (lpK Tryz.prog 106 7) (stV [(4, some (pt 0)), (7, some (pt 1)), (35, some (tree 1 0 #[])), (36, some (vi (↑0 : Int))), (37, some (vi 0))] [q1, (1, some (AObj.cells [vs (toS (cellAt A (Int.toNat k) 0)), vi (toI (cellAt A (Int.toNat k) 1)), vi (toI (cellAt A (Int.toNat k) 2)), vs (toS (cellAt A (Int.toNat k) 3)), vs (toS (cellAt A (Int.toNat k) 4)), vi (toI (cellAt A (Int.toNat k) 5)), tree 2 l.length (encL l), tree 1 0 #[], vs (toS (cellAt A (Int.toNat k) 8)), vi (toI (cellAt A (Int.toNat k) 9)), vi (toI (cellAt A (Int.toNat k) 10)), vi (toI (cellAt A (Int.toNat k) 11)), vi (toI (cellAt A (Int.toNat k) 12)), vi (toI (cellAt A (Int.toNat k) 13)), vi (toI (cellAt A (Int.toNat k) 14)), vi (toI (cellAt A (Int.toNat k) 15)), vi (toI (cellAt A (Int.toNat k) 16)), vi (toI (cellAt A (Int.toNat k) 17))] true))] 2))))) ∧ (0 < toN q2 → True ∧ 7 ≤ 18 ∧ T2 (True ∧ 8 ≤ 18 ∧ T4 (T2 (True ∧ (T2 (NLs (flatEls (toE q2)) ∧ True)) ∧ H (lpC Tryz.prog 106 7) (lpK Tryz.prog 106 7) (stV [(4, some (pt 0)), (7, some (pt 1)), (35, some (Value.slice (some (Addr.mk 2 0 none)) (toN q2) 1)), (36, some (vi (↑(toN q2) : Int))), (37, some (vi 0))] [q1, (1, some (AObj.cells [vs (toS (cellAt A (Int.toNat k) 0)), vi (toI (cellAt A (Int.toNat k) 1)), vi (toI (cellAt A (Int.toNat k) 2)), vs (toS (cellAt A (Int.toNat k) 3)), vs (toS (cellAt A (Int.toNat k) 4)), vi (toI (cellAt A (Int.toNat k) 5)), tree 2 l.length (encL l), Value.slice (some (Addr.mk 2 0 none)) (toN q2) 1, vs (toS (cellAt A (Int.toNat k) 8)), vi (toI (cellAt A (Int.toNat k) 9)), vi (toI (cellAt A (Int.toNat k) 10)), vi (toI (cellAt A (Int.toNat k) 11)), vi (toI (cellAt A (Int.toNat k) 12)), vi (toI (cellAt A (Int.toNat k) 13)), vi (toI (cellAt A (Int.toNat k) 14)), vi (toI (cellAt A (Int.toNat k) 15)), vi (toI (cellAt A (Int.toNat k) 16)), vi (toI (cellAt A (Int.toNat k) 17))] true)), (2, some (AObj.cells (flatEls (toE q2)) true))] 3))))))))) (T2 (True ∧ (True ∧ True) ∧ H (lpC Tryz.prog 106 2) (lpK Tryz.prog 106 2) (stV [(1, some (vs s)), (4, some (pt 0)), (5, some (vb false)), (11, some (tree 18 n A)), (12, some (vi (↑n : Int))), (13, some (vi (IntKind.wrap IntKind.i64 (k + 1))))] [q1] 1))))) (((T16 (T2 (True))) ∧ True ∧ True) ∧ Post (Value.tuple #[Value.agg #[vz, vi 0, vi 0, vz, vz, vi 0, tree 2 0 #[], tree 1 0 #[], vz, vi 0, vi 0, vi 0, vi 0, vi 0, vi 0, vi 0, vi 0, vi 0], vb false]))) := by kernel_rfl
theorem m_spart0 (d : Design6) (s : ByteArray) (p : Part) (k : Int) (H : HT) (Post : PV) : vcLP Tryz.prog vcSp 106 [design6V d, .string s] lpSp 7 (stV [(4, some (.pointer (some ⟨0, 0, none⟩))), (7, some (.pointer (some ⟨1, 0, none⟩))), (35, some (tree 1 0 #[])), (36, some (.int .i64 0)), (37, some (.int .i64 k))] [(0, some (.cells zeroP true)), (1, some (.cells (withHs p (tree 1 0 #[])) true))] 2) H Post = (True ∧ pIf (decide (k < 0)) (True ∧ (0 ≤ k ∧ k < (↑0 : Int)) ∧ False) (True ∧ 18 ≤ 18 ∧ True ∧ ((T16 (T2 (True))) ∧ True ∧ True) ∧ Post (Value.tuple #[Value.agg #[vs p.id, vi p.rev, vi p.kind, vs p.node, vs p.grade, vi p.thick, tree 2 p.outer.length (encL p.outer), tree 1 0 #[], vs p.sect, vi p.long, vi p.mass, vi p.centre.x, vi p.centre.y, vi p.centre.z, vi p.at_.x, vi p.at_.y, vi p.at_.z, vi p.turn], vb true]))) := by kernel_rfl
theorem m_spart1 (d : Design6) (s : ByteArray) (p : Part) (n : Nat) (k : Int) (l : List Value) (H : HT) (Post : PV) : vcLP Tryz.prog vcSp 106 [design6V d, .string s] lpSp 7 (stV [(4, some (.pointer (some ⟨0, 0, none⟩))), (7, some (.pointer (some ⟨1, 0, none⟩))), (35, some (.slice (some ⟨2, 0, none⟩) n 1)), (36, some (.int .i64 n)), (37, some (.int .i64 k))] [(0, some (.cells zeroP true)), (1, some (.cells (withHs p (.slice (some ⟨2, 0, none⟩) n 1)) true)), (2, some (.cells l true))] 3) H Post = (let q1 := List.getD l (0 + Int.toNat k * 1) undef; True ∧ pIf (decide (k < (↑n : Int))) (True ∧ (0 ≤ k ∧ k < (↑n : Int)) ∧ List.getD l (0 + Int.toNat k * 1) undef = tree 2 (toN q1) (toE q1) ∧ T4 (T2 (True ∧ ∃ (l_1 : List Pt), eqL [tree 2 (toN q1) (toE q1)] [tree 2 l_1.length (encL l_1)] ∧ List.length l_1 * 16 ≤ 140737488355328 ∧ True ∧ (0 ≤ k ∧ k < (↑n : Int)) ∧ 0 + Int.toNat k * 1 + 1 ≤ List.length l ∧ T4 ((T2 (NLs (setFrom l (0 + Int.toNat k * 1) [tree 2 l_1.length (encL l_1)]) ∧ True)) ∧ H (lpC Tryz.prog 106 7) (lpK Tryz.prog 106 7) (stV [(4, some (pt 0)), (7, some (pt 1)), (35, some (Value.slice (some (Addr.mk 2 0 none)) n 1)), (36, some (vi (↑n : Int))), (37, some (vi (IntKind.wrap IntKind.i64 (k + 1))))] [(0, some (AObj.cells [vz, vi 0, vi 0, vz, vz, vi 0, nS, nS, vz, vi 0, vi 0, vi 0, vi 0, vi 0, vi 0, vi 0, vi 0, vi 0] true)), (1, some (AObj.cells [vs p.id, vi p.rev, vi p.kind, vs p.node, vs p.grade, vi p.thick, tree 2 p.outer.length (encL p.outer), Value.slice (some (Addr.mk 2 0 none)) n 1, vs p.sect, vi p.long, vi p.mass, vi p.centre.x, vi p.centre.y, vi p.centre.z, vi p.at_.x, vi p.at_.y, vi p.at_.z, vi p.turn] true)), (2, some (AObj.cells (setFrom l (0 + Int.toNat k * 1) [tree 2 l_1.length (encL l_1)]) true))] 3))))) (True ∧ 18 ≤ 18 ∧ True ∧ ((T4 (T2 (True ∧ (0 + n * 1 ≤ List.length l ∧ NLs l) ∧ T8 (T2 (True))))) ∧ True ∧ True) ∧ Post (Value.tuple #[Value.agg #[vs p.id, vi p.rev, vi p.kind, vs p.node, vs p.grade, vi p.thick, tree 2 p.outer.length (encL p.outer), tree 1 n (chunks 1 n (List.drop 0 l)), vs p.sect, vi p.long, vi p.mass, vi p.centre.x, vi p.centre.y, vi p.centre.z, vi p.at_.x, vi p.at_.y, vi p.at_.z, vi p.turn], vb true]))) := by kernel_rfl
theorem vcSp_ok : VCallOk Tryz.prog vcSp := cloneCall_ok (by
 intro e he
 simp only [List.mem_cons, List.not_mem_nil, or_false] at he
 subst he
 exact cloneFH) (tabCall_ok (by
 intro e he
 simp only [List.mem_cons, List.not_mem_nil, or_false] at he
 subst he
 exact ok_cloneP) noCall_ok)
theorem cell_part {l : List Part} {k : Nat} (h : k < l.length) (j : Nat) : cellAt (encL l) k j = ((partC l[k])[j]?).getD undef := cellAt_encL' h
theorem flatE_pts (l : List (List Pt)) : flatEls (encL l) = l.map fun a => trPt a := flat_pts l
theorem set_same {l : List Value} {k : Nat} {v : Value} (h : l[k]? = some v) : setFrom l k [v] = l := by
 show l.set k v = l
 obtain ⟨hk, rfl⟩ := List.getElem?_eq_some_iff.1 h
 exact List.set_getElem_self hk
theorem partOf_at {d : Design6} {s : ByteArray} {k : Nat} (hk : k < d.parts.length) (hp : d.parts[k].id = s) (hb : ∀ j (hj : j < d.parts.length), j < k → ¬ d.parts[j].id = s) : partOf d s = some d.parts[k] := find_at hk hp hb
theorem ok_spart : EntOk Tryz.prog ⟨106, c_spart⟩ := by
 rintro args Post ⟨d, s, rfl, hf, h⟩
 refine pure_P vcSp_ok mixed (by kernel_rfl) (by kernel_rfl) _ (e_spart d s _ _) ?_
 simp only [true_and]
 refine down (n := d.parts.length) (p := fun k => (∀ j (hj : j < d.parts.length), j < k → ¬ d.parts[j].id = s) → OkP 106 [design6V d, .string s] 2 Post (stV [(1, some (.string s)), (4, some (.pointer (some ⟨0, 0, none⟩))), (5, some (.bool false)), (11, some (tree 18 d.parts.length (encL d.parts))), (12, some (.int .i64 d.parts.length)), (13, some (.int .i64 k))] [(0, some (.cells zeroP true))] 1)) (fun hall => ?_) (fun k k1 ih hall => ?_) (fun i _ hi => by omega)
 ·refine ok_P vcSp_ok mixed _ (l_spart d s d.parts.length d.parts.length (encL d.parts) _ _) ?_
  simp only [true_and]
  have e : partOf d s = none := by
   unfold partOf
   rw [List.find?_eq_none]
   intro g hg
   obtain ⟨i, hi, rfl⟩ := List.mem_iff_getElem.1 hg
   simpa using hall i hi hi
  rw [e] at h
  exact ifD (fun hlt => by omega) (fun _ => h)
 ·refine ok_P vcSp_ok mixed _ (l_spart d s d.parts.length k (encL d.parts) _ _) ?_
  have hk : ((k : Nat) : Int).toNat = k := Int.toNat_natCast k
  have ks := hf.len
  have fp := hf.fit _ (List.getElem_mem k1)
  simp only [hk, cell_part k1]
  have hp : ∀ p : Part, p = d.parts[k] → FitW p := fun p hp => by rw [hp]; exact fp
  have hfound : d.parts[k].id = s → Post (.tuple #[partV d.parts[k], .bool true]) := fun he => by
   have e := partOf_at k1 he (fun j hj hjk => hall j hj hjk)
   rw [e] at h
   exact h
  have hnext : ¬ d.parts[k].id = s → OkP 106 [design6V d, .string s] 2 Post (stV [(1, some (.string s)), (4, some (.pointer (some ⟨0, 0, none⟩))), (5, some (.bool false)), (11, some (tree 18 d.parts.length (encL d.parts))), (12, some (.int .i64 d.parts.length)), (13, some (.int .i64 ((k + 1 : Nat) : Int)))] [(0, some (.cells zeroP true))] 1) := fun he => ih fun j hj hjk => by
   rcases Nat.lt_or_ge j k with h' | h'
   ·exact hall j hj h'
   ·have : j = k := by omega
    subst this
    exact he
  clear ih hall h
  generalize d.parts[k] = p at *
  simp only [partC, toI_int, toS_string, toN_tree, toE_tree, true_and, and_true, Nat.le_refl, wrapSucc (show k < 2 ^ 62 by omega), flatE_pts, List.getElem?_cons_zero, List.getElem?_cons_succ, Option.getD_some]
  refine ifD (fun _ => ⟨⟨by omega, by omega⟩, ifD (fun he => ⟨p.outer, rfl, fp.outer, ⟨fp.holes, nls_pts _⟩, fun h0 => ⟨by decide, by decide, ?_⟩, fun h0 => ⟨by decide, by decide, nls_pts _, ?_⟩⟩) (fun he => hnext he)⟩) (fun h' => by omega)
  ·refine ok_P vcSp_ok mixed _ (m_spart0 d s p 0 _ _) ?_
   simp only [true_and, and_true, Nat.le_refl]
   refine ifD (fun hlt => by omega) (fun _ => ?_)
   have e : p.holes = [] := List.eq_nil_of_length_eq_zero h0
   have hp := hfound he
   have e2 : tree 1 0 #[] = trPts p.holes := by rw [e]; rfl
   rw [e2]
   exact hp
  ·refine down (n := p.holes.length) (p := fun j => OkP 106 [design6V d, .string s] 7 Post (stV [(4, some (.pointer (some ⟨0, 0, none⟩))), (7, some (.pointer (some ⟨1, 0, none⟩))), (35, some (.slice (some ⟨2, 0, none⟩) p.holes.length 1)), (36, some (.int .i64 p.holes.length)), (37, some (.int .i64 j))] [(0, some (.cells zeroP true)), (1, some (.cells (withHs p (.slice (some ⟨2, 0, none⟩) p.holes.length 1)) true)), (2, some (.cells (p.holes.map fun a => trPt a) true))] 3)) ?_ (fun j j1 jh => ?_)
   ·refine ok_P vcSp_ok mixed _ (m_spart1 d s p p.holes.length p.holes.length (p.holes.map fun a => trPt a) _ _) ?_
    simp only [true_and, and_true, Nat.le_refl]
    refine ifD (fun hlt => by omega) (fun _ => ⟨⟨by simp, nls_pts _⟩, ?_⟩)
    rw [chunks_pts]
    exact hfound he
   ·refine ok_P vcSp_ok mixed _ (m_spart1 d s p p.holes.length j (p.holes.map fun a => trPt a) _ _) ?_
    have hj : ((j : Nat) : Int).toNat = j := Int.toNat_natCast j
    have hg : (p.holes.map fun a => trPt a)[j]? = some (trPt p.holes[j]) := by rw [List.getElem?_map, List.getElem?_eq_getElem j1]; rfl
    have hd : (p.holes.map fun a => trPt a).getD j undef = trPt p.holes[j] := by rw [List.getD_eq_getElem?_getD, hg]; rfl
    have hl := fp.holes
    simp only [true_and, and_true, Nat.le_refl, hj, Nat.zero_add, Nat.mul_one, hd, toN_tree, toE_tree, wrapSucc (show j < 2 ^ 62 by omega)]
    refine ifD (fun _ => ⟨⟨by omega, by omega⟩, p.holes[j], rfl, fp.all _ (List.getElem_mem j1), ⟨by omega, by omega⟩, by simp; omega, ?_, ?_⟩) (fun h' => by omega)
    ·rw [set_same hg]
     exact nls_pts _
    ·rw [set_same hg]
     exact jh
instance : Enc Wt where
 sz := 5
 cells w := [.int .i64 w.m, .int .i64 w.x, .int .i64 w.y, .int .i64 w.z, .int .i64 w.v]
 len _ := rfl
 nl p := by intro v hv; simp at hv; rcases hv with rfl | rfl | rfl | rfl | rfl <;> rfl
def okWt (w : Wt) : Prop := (0 ≤ w.m ∧ w.m ≤ 1099511627776) ∧ (-1152921504606846976 ≤ w.x ∧ w.x ≤ 1152921504606846976) ∧ (-1152921504606846976 ≤ w.y ∧ w.y ≤ 1152921504606846976) ∧ (-1152921504606846976 ≤ w.z ∧ w.z ≤ 1152921504606846976) ∧ (0 ≤ w.v ∧ w.v ≤ 1152921504606846976)
instance (w : Wt) : Decidable (okWt w) := by unfold okWt; infer_instance
def wErr (w : Wt) : Int := if okWt w then 0 else 9
def c_wchk (args : List Value) (Post : Value → Prop) : Prop := ∃ w : Wt, args = [wtV w] ∧ Post (.int .i64 (wErr w))
theorem e_wchk (w : Wt) (H : HT) (Post : PV) : vcP Tryz.prog (inlCall Tryz.prog [164] noCall 2) 105 [] [wtV w] H Post = (T8 (pIf (decide (Wt.m w ≥ 0)) (T4 (pIf (decide (Wt.m w ≤ 1099511627776)) (T8 (T2 (pIf (decide (Wt.v w ≥ 0)) (T4 (pIf (decide (Wt.v w ≤ 1152921504606846976)) (T16 (T4 (pIf (decide (Wt.x w ≥ -1152921504606846976)) (T4 (pIf (decide (Wt.x w ≤ 1152921504606846976)) (T8 (T4 (True ∧ pIf (decide (Wt.y w ≥ -1152921504606846976)) (T4 (pIf (decide (Wt.y w ≤ 1152921504606846976)) (T8 (T4 (True ∧ pIf (decide (Wt.z w ≥ -1152921504606846976)) (T4 (pIf (decide (Wt.z w ≤ 1152921504606846976)) (T8 (Post (vi 0))) (T4 (True ∧ Post (vi 9))))) (T4 (T2 (Post (vi 9))))))) (T4 (True ∧ Post (vi 9))))) (T4 (T2 (Post (vi 9))))))) (T4 (True ∧ Post (vi 9))))) (T4 (T2 (Post (vi 9))))))) (T4 (T2 (Post (vi 9)))))) (T4 (T2 (True ∧ Post (vi 9))))))) (T4 (T2 (True ∧ Post (vi 9)))))) (T8 (Post (vi 9))))) := by kernel_rfl
def fits64 (n : Int) : Prop := -9223372036854775808 ≤ n ∧ n < 9223372036854775808
instance (n : Int) : Decidable (fits64 n) := by unfold fits64; infer_instance
def sumV (l : List Int) : Int := if fits64 l.sum then l.sum else 0
def sumE (l : List Int) : Int := if fits64 l.sum then 0 else 21
def c_sum (args : List Value) (Post : Value → Prop) : Prop := ∃ l : List Int, args = [tree 1 l.length (encL l)] ∧ l.length ≤ 65536 ∧ (∀ x ∈ l, fits64 x) ∧ Post (.tuple #[.int .i64 (sumV l), .int .i64 (sumE l)])
def vcSu : VCall := noCall
theorem e_nsum (n : Nat) (A : Array Value) (H : HT) (Post : PV) : vcP Tryz.prog vcSu 220 [(3, [4, 5, 11, 12, 13])] [tree 1 n A] H Post = (T8 (True ∧ H (lpC Tryz.prog 220 3) (lpK Tryz.prog 220 3) (stV [(4, some (vi 0)), (5, some (Value.int IntKind.u64 0)), (11, some (tree 1 n A)), (12, some (vi (↑n : Int))), (13, some (vi 0))] [] 0))) := by kernel_rfl
theorem l_nsum (n : Nat) (hi lo k : Int) (A : Array Value) (H : HT) (Post : PV) : vcLP Tryz.prog vcSu 220 [tree 1 n A] [(3, [4, 5, 11, 12, 13])] 3 (stV [(4, some (.int .i64 hi)), (5, some (.int .u64 lo)), (11, some (tree 1 n A)), (12, some (.int .i64 n)), (13, some (.int .i64 k))] [] 0) H Post = (let q2 := lo + IntKind.wrap IntKind.u64 (toI (cellAt A (Int.toNat k) 0)) + 0; let q1 := T2 (True ∧ pIf (decide (IntKind.wrap IntKind.i64 lo < 0)) (T4 (True ∧ (T2 (True)) ∧ Post (Value.tuple #[vi (IntKind.wrap IntKind.i64 lo), vi 0]))) (T4 ((T2 (True)) ∧ Post (Value.tuple #[vi 0, vi 21])))); True ∧ pIf (decide (k < (↑n : Int))) ((0 ≤ k ∧ k < (↑n : Int)) ∧ cellAt A (Int.toNat k) 0 = vi (toI (cellAt A (Int.toNat k) 0)) ∧ T4 ((ExtIs Tryz.prog 244 add64Entry ∧ 0 ≤ lo ∧ 0 ≤ IntKind.wrap IntKind.u64 (toI (cellAt A (Int.toNat k) 0)) ∧ toI (vi 0) ≤ 0 ∧ toI (vi 0) ≤ 1) ∧ T8 (T4 (T2 (pIf (decide (toI (cellAt A (Int.toNat k) 0) < 0)) (T4 (T2 (True ∧ H (lpC Tryz.prog 220 3) (lpK Tryz.prog 220 3) (stV [(4, some (vi (IntKind.wrap IntKind.i64 (IntKind.wrap IntKind.i64 (hi + IntKind.wrap IntKind.i64 (q2 / 18446744073709551616)) - 1)))), (5, some (Value.int IntKind.u64 (q2 % 18446744073709551616))), (11, some (tree 1 n A)), (12, some (vi (↑n : Int))), (13, some (vi (IntKind.wrap IntKind.i64 (k + 1))))] [] 0)))) (T4 (H (lpC Tryz.prog 220 3) (lpK Tryz.prog 220 3) (stV [(4, some (vi (IntKind.wrap IntKind.i64 (hi + IntKind.wrap IntKind.i64 (q2 / 18446744073709551616))))), (5, some (Value.int IntKind.u64 (q2 % 18446744073709551616))), (11, some (tree 1 n A)), (12, some (vi (↑n : Int))), (13, some (vi (IntKind.wrap IntKind.i64 (k + 1))))] [] 0)))))))) (T4 (True ∧ pIf (decide (hi = 0)) (T2 (True ∧ pIf (decide (IntKind.wrap IntKind.i64 lo ≥ 0)) (T4 (T2 ((T2 (True)) ∧ Post (Value.tuple #[vi (IntKind.wrap IntKind.i64 lo), vi 0])))) (T4 (pIf (decide (hi = -1)) q1 (T4 (True ∧ (T2 (True)) ∧ Post (Value.tuple #[vi 0, vi 21]))))))) (T4 (True ∧ pIf (decide (hi = -1)) q1 (T4 (True ∧ (T2 (True)) ∧ Post (Value.tuple #[vi 0, vi 21])))))))) := by kernel_rfl
def fldW : Nat → Wt → Int
 | 0 => (·.m) | 1 => (·.x) | 2 => (·.y) | 3 => (·.z) | _ => (·.v)
abbrev fnT (f n : Nat) (A : Array Value) : Value := .func (.func f) #[tree 5 n A] #[]
def vcTo : VCall := inlCall Tryz.prog [171, 172, 173, 174, 175] (tabCallF Tryz.prog [⟨220, c_sum⟩] noCall) 2
theorem e_total0 (n : Nat) (A : Array Value) (H : HT) (Post : PV) : vcP Tryz.prog vcTo 170 [(3, [1, 6, 13, 14])] [.int .i64 n, fnT 171 n A] H Post = (T2 (True ∧ (0 ≤ (↑n : Int) ∧ (↑n : Int) ≤ (↑n : Int) ∧ (↑n : Int) ≤ 2 ^ 25) ∧ T4 (True ∧ (NLs (zrow (Int.toNat (↑n : Int)) [vi 0]) ∧ True) ∧ H (lpC Tryz.prog 170 3) (lpK Tryz.prog 170 3) (stV [(1, some (Value.func (Fn.func 171) #[tree 5 n A] #[])), (6, some (Value.slice (some (Addr.mk 0 0 none)) (Int.toNat (↑n : Int)) 1)), (13, some (vi (↑(Int.toNat (↑n : Int)) : Int))), (14, some (vi 0))] [(0, some (AObj.cells (zrow (Int.toNat (↑n : Int)) [vi 0]) true))] 1)))) := by kernel_rfl
theorem l_total0 (n : Nat) (k : Int) (l : List Value) (A : Array Value) (H : HT) (Post : PV) : vcLP Tryz.prog vcTo 170 [.int .i64 n, fnT 171 n A] [(3, [1, 6, 13, 14])] 3 (stV [(1, some (fnT 171 n A)), (6, some (.slice (some ⟨0, 0, none⟩) n 1)), (13, some (.int .i64 n)), (14, some (.int .i64 k))] [(0, some (.cells l true))] 1) H Post = (True ∧ pIf (decide (k < (↑n : Int))) (T8 (True ∧ (0 ≤ k ∧ k < (↑n : Int)) ∧ True ∧ cellAt A (Int.toNat k) 0 = vi (toI (cellAt A (Int.toNat k) 0)) ∧ True ∧ (0 ≤ k ∧ k < (↑n : Int)) ∧ 0 + Int.toNat k * 1 + 1 ≤ List.length l ∧ T2 (True ∧ (NLs (setFrom l (0 + Int.toNat k * 1) [vi (toI (cellAt A (Int.toNat k) 0))]) ∧ True) ∧ H (lpC Tryz.prog 170 3) (lpK Tryz.prog 170 3) (stV [(1, some (Value.func (Fn.func 171) #[tree 5 n A] #[])), (6, some (Value.slice (some (Addr.mk 0 0 none)) n 1)), (13, some (vi (↑n : Int))), (14, some (vi (IntKind.wrap IntKind.i64 (k + 1))))] [(0, some (AObj.cells (setFrom l (0 + Int.toNat k * 1) [vi (toI (cellAt A (Int.toNat k) 0))]) true))] 1)))) (True ∧ ((0 + n * 1 ≤ List.length l ∧ NLs l) ∧ True) ∧ ∃ (l_1 : List Int), eqL [tree 1 n (chunks 1 n (List.drop 0 l))] [tree 1 l_1.length (encL l_1)] ∧ List.length l_1 ≤ 65536 ∧ (∀ (x : Int), x ∈ l_1 → -9223372036854775808 ≤ x ∧ x < 9223372036854775808) ∧ T8 (pIf (decide (sumE l_1 = 0)) (T2 ((T2 (True)) ∧ Post (Value.tuple #[vi (sumV l_1), vb true]))) (T2 ((T2 (True)) ∧ Post (Value.tuple #[vi (sumV l_1), vb false])))))) := by kernel_rfl
theorem e_total1 (n : Nat) (A : Array Value) (H : HT) (Post : PV) : vcP Tryz.prog vcTo 170 [(3, [1, 6, 13, 14])] [.int .i64 n, fnT 172 n A] H Post = (T2 (True ∧ (0 ≤ (↑n : Int) ∧ (↑n : Int) ≤ (↑n : Int) ∧ (↑n : Int) ≤ 2 ^ 25) ∧ T4 (True ∧ (NLs (zrow (Int.toNat (↑n : Int)) [vi 0]) ∧ True) ∧ H (lpC Tryz.prog 170 3) (lpK Tryz.prog 170 3) (stV [(1, some (Value.func (Fn.func 172) #[tree 5 n A] #[])), (6, some (Value.slice (some (Addr.mk 0 0 none)) (Int.toNat (↑n : Int)) 1)), (13, some (vi (↑(Int.toNat (↑n : Int)) : Int))), (14, some (vi 0))] [(0, some (AObj.cells (zrow (Int.toNat (↑n : Int)) [vi 0]) true))] 1)))) := by kernel_rfl
theorem l_total1 (n : Nat) (k : Int) (l : List Value) (A : Array Value) (H : HT) (Post : PV) : vcLP Tryz.prog vcTo 170 [.int .i64 n, fnT 172 n A] [(3, [1, 6, 13, 14])] 3 (stV [(1, some (fnT 172 n A)), (6, some (.slice (some ⟨0, 0, none⟩) n 1)), (13, some (.int .i64 n)), (14, some (.int .i64 k))] [(0, some (.cells l true))] 1) H Post = (True ∧ pIf (decide (k < (↑n : Int))) (T8 (True ∧ (0 ≤ k ∧ k < (↑n : Int)) ∧ True ∧ cellAt A (Int.toNat k) 1 = vi (toI (cellAt A (Int.toNat k) 1)) ∧ True ∧ (0 ≤ k ∧ k < (↑n : Int)) ∧ 0 + Int.toNat k * 1 + 1 ≤ List.length l ∧ T2 (True ∧ (NLs (setFrom l (0 + Int.toNat k * 1) [vi (toI (cellAt A (Int.toNat k) 1))]) ∧ True) ∧ H (lpC Tryz.prog 170 3) (lpK Tryz.prog 170 3) (stV [(1, some (Value.func (Fn.func 172) #[tree 5 n A] #[])), (6, some (Value.slice (some (Addr.mk 0 0 none)) n 1)), (13, some (vi (↑n : Int))), (14, some (vi (IntKind.wrap IntKind.i64 (k + 1))))] [(0, some (AObj.cells (setFrom l (0 + Int.toNat k * 1) [vi (toI (cellAt A (Int.toNat k) 1))]) true))] 1)))) (True ∧ ((0 + n * 1 ≤ List.length l ∧ NLs l) ∧ True) ∧ ∃ (l_1 : List Int), eqL [tree 1 n (chunks 1 n (List.drop 0 l))] [tree 1 l_1.length (encL l_1)] ∧ List.length l_1 ≤ 65536 ∧ (∀ (x : Int), x ∈ l_1 → -9223372036854775808 ≤ x ∧ x < 9223372036854775808) ∧ T8 (pIf (decide (sumE l_1 = 0)) (T2 ((T2 (True)) ∧ Post (Value.tuple #[vi (sumV l_1), vb true]))) (T2 ((T2 (True)) ∧ Post (Value.tuple #[vi (sumV l_1), vb false])))))) := by kernel_rfl
theorem e_total2 (n : Nat) (A : Array Value) (H : HT) (Post : PV) : vcP Tryz.prog vcTo 170 [(3, [1, 6, 13, 14])] [.int .i64 n, fnT 173 n A] H Post = (T2 (True ∧ (0 ≤ (↑n : Int) ∧ (↑n : Int) ≤ (↑n : Int) ∧ (↑n : Int) ≤ 2 ^ 25) ∧ T4 (True ∧ (NLs (zrow (Int.toNat (↑n : Int)) [vi 0]) ∧ True) ∧ H (lpC Tryz.prog 170 3) (lpK Tryz.prog 170 3) (stV [(1, some (Value.func (Fn.func 173) #[tree 5 n A] #[])), (6, some (Value.slice (some (Addr.mk 0 0 none)) (Int.toNat (↑n : Int)) 1)), (13, some (vi (↑(Int.toNat (↑n : Int)) : Int))), (14, some (vi 0))] [(0, some (AObj.cells (zrow (Int.toNat (↑n : Int)) [vi 0]) true))] 1)))) := by kernel_rfl
theorem l_total2 (n : Nat) (k : Int) (l : List Value) (A : Array Value) (H : HT) (Post : PV) : vcLP Tryz.prog vcTo 170 [.int .i64 n, fnT 173 n A] [(3, [1, 6, 13, 14])] 3 (stV [(1, some (fnT 173 n A)), (6, some (.slice (some ⟨0, 0, none⟩) n 1)), (13, some (.int .i64 n)), (14, some (.int .i64 k))] [(0, some (.cells l true))] 1) H Post = (True ∧ pIf (decide (k < (↑n : Int))) (T8 (True ∧ (0 ≤ k ∧ k < (↑n : Int)) ∧ True ∧ cellAt A (Int.toNat k) 2 = vi (toI (cellAt A (Int.toNat k) 2)) ∧ True ∧ (0 ≤ k ∧ k < (↑n : Int)) ∧ 0 + Int.toNat k * 1 + 1 ≤ List.length l ∧ T2 (True ∧ (NLs (setFrom l (0 + Int.toNat k * 1) [vi (toI (cellAt A (Int.toNat k) 2))]) ∧ True) ∧ H (lpC Tryz.prog 170 3) (lpK Tryz.prog 170 3) (stV [(1, some (Value.func (Fn.func 173) #[tree 5 n A] #[])), (6, some (Value.slice (some (Addr.mk 0 0 none)) n 1)), (13, some (vi (↑n : Int))), (14, some (vi (IntKind.wrap IntKind.i64 (k + 1))))] [(0, some (AObj.cells (setFrom l (0 + Int.toNat k * 1) [vi (toI (cellAt A (Int.toNat k) 2))]) true))] 1)))) (True ∧ ((0 + n * 1 ≤ List.length l ∧ NLs l) ∧ True) ∧ ∃ (l_1 : List Int), eqL [tree 1 n (chunks 1 n (List.drop 0 l))] [tree 1 l_1.length (encL l_1)] ∧ List.length l_1 ≤ 65536 ∧ (∀ (x : Int), x ∈ l_1 → -9223372036854775808 ≤ x ∧ x < 9223372036854775808) ∧ T8 (pIf (decide (sumE l_1 = 0)) (T2 ((T2 (True)) ∧ Post (Value.tuple #[vi (sumV l_1), vb true]))) (T2 ((T2 (True)) ∧ Post (Value.tuple #[vi (sumV l_1), vb false])))))) := by kernel_rfl
theorem e_total3 (n : Nat) (A : Array Value) (H : HT) (Post : PV) : vcP Tryz.prog vcTo 170 [(3, [1, 6, 13, 14])] [.int .i64 n, fnT 174 n A] H Post = (T2 (True ∧ (0 ≤ (↑n : Int) ∧ (↑n : Int) ≤ (↑n : Int) ∧ (↑n : Int) ≤ 2 ^ 25) ∧ T4 (True ∧ (NLs (zrow (Int.toNat (↑n : Int)) [vi 0]) ∧ True) ∧ H (lpC Tryz.prog 170 3) (lpK Tryz.prog 170 3) (stV [(1, some (Value.func (Fn.func 174) #[tree 5 n A] #[])), (6, some (Value.slice (some (Addr.mk 0 0 none)) (Int.toNat (↑n : Int)) 1)), (13, some (vi (↑(Int.toNat (↑n : Int)) : Int))), (14, some (vi 0))] [(0, some (AObj.cells (zrow (Int.toNat (↑n : Int)) [vi 0]) true))] 1)))) := by kernel_rfl
theorem l_total3 (n : Nat) (k : Int) (l : List Value) (A : Array Value) (H : HT) (Post : PV) : vcLP Tryz.prog vcTo 170 [.int .i64 n, fnT 174 n A] [(3, [1, 6, 13, 14])] 3 (stV [(1, some (fnT 174 n A)), (6, some (.slice (some ⟨0, 0, none⟩) n 1)), (13, some (.int .i64 n)), (14, some (.int .i64 k))] [(0, some (.cells l true))] 1) H Post = (True ∧ pIf (decide (k < (↑n : Int))) (T8 (True ∧ (0 ≤ k ∧ k < (↑n : Int)) ∧ True ∧ cellAt A (Int.toNat k) 3 = vi (toI (cellAt A (Int.toNat k) 3)) ∧ True ∧ (0 ≤ k ∧ k < (↑n : Int)) ∧ 0 + Int.toNat k * 1 + 1 ≤ List.length l ∧ T2 (True ∧ (NLs (setFrom l (0 + Int.toNat k * 1) [vi (toI (cellAt A (Int.toNat k) 3))]) ∧ True) ∧ H (lpC Tryz.prog 170 3) (lpK Tryz.prog 170 3) (stV [(1, some (Value.func (Fn.func 174) #[tree 5 n A] #[])), (6, some (Value.slice (some (Addr.mk 0 0 none)) n 1)), (13, some (vi (↑n : Int))), (14, some (vi (IntKind.wrap IntKind.i64 (k + 1))))] [(0, some (AObj.cells (setFrom l (0 + Int.toNat k * 1) [vi (toI (cellAt A (Int.toNat k) 3))]) true))] 1)))) (True ∧ ((0 + n * 1 ≤ List.length l ∧ NLs l) ∧ True) ∧ ∃ (l_1 : List Int), eqL [tree 1 n (chunks 1 n (List.drop 0 l))] [tree 1 l_1.length (encL l_1)] ∧ List.length l_1 ≤ 65536 ∧ (∀ (x : Int), x ∈ l_1 → -9223372036854775808 ≤ x ∧ x < 9223372036854775808) ∧ T8 (pIf (decide (sumE l_1 = 0)) (T2 ((T2 (True)) ∧ Post (Value.tuple #[vi (sumV l_1), vb true]))) (T2 ((T2 (True)) ∧ Post (Value.tuple #[vi (sumV l_1), vb false])))))) := by kernel_rfl
theorem e_total4 (n : Nat) (A : Array Value) (H : HT) (Post : PV) : vcP Tryz.prog vcTo 170 [(3, [1, 6, 13, 14])] [.int .i64 n, fnT 175 n A] H Post = (T2 (True ∧ (0 ≤ (↑n : Int) ∧ (↑n : Int) ≤ (↑n : Int) ∧ (↑n : Int) ≤ 2 ^ 25) ∧ T4 (True ∧ (NLs (zrow (Int.toNat (↑n : Int)) [vi 0]) ∧ True) ∧ H (lpC Tryz.prog 170 3) (lpK Tryz.prog 170 3) (stV [(1, some (Value.func (Fn.func 175) #[tree 5 n A] #[])), (6, some (Value.slice (some (Addr.mk 0 0 none)) (Int.toNat (↑n : Int)) 1)), (13, some (vi (↑(Int.toNat (↑n : Int)) : Int))), (14, some (vi 0))] [(0, some (AObj.cells (zrow (Int.toNat (↑n : Int)) [vi 0]) true))] 1)))) := by kernel_rfl
theorem l_total4 (n : Nat) (k : Int) (l : List Value) (A : Array Value) (H : HT) (Post : PV) : vcLP Tryz.prog vcTo 170 [.int .i64 n, fnT 175 n A] [(3, [1, 6, 13, 14])] 3 (stV [(1, some (fnT 175 n A)), (6, some (.slice (some ⟨0, 0, none⟩) n 1)), (13, some (.int .i64 n)), (14, some (.int .i64 k))] [(0, some (.cells l true))] 1) H Post = (True ∧ pIf (decide (k < (↑n : Int))) (T8 (True ∧ (0 ≤ k ∧ k < (↑n : Int)) ∧ True ∧ cellAt A (Int.toNat k) 4 = vi (toI (cellAt A (Int.toNat k) 4)) ∧ True ∧ (0 ≤ k ∧ k < (↑n : Int)) ∧ 0 + Int.toNat k * 1 + 1 ≤ List.length l ∧ T2 (True ∧ (NLs (setFrom l (0 + Int.toNat k * 1) [vi (toI (cellAt A (Int.toNat k) 4))]) ∧ True) ∧ H (lpC Tryz.prog 170 3) (lpK Tryz.prog 170 3) (stV [(1, some (Value.func (Fn.func 175) #[tree 5 n A] #[])), (6, some (Value.slice (some (Addr.mk 0 0 none)) n 1)), (13, some (vi (↑n : Int))), (14, some (vi (IntKind.wrap IntKind.i64 (k + 1))))] [(0, some (AObj.cells (setFrom l (0 + Int.toNat k * 1) [vi (toI (cellAt A (Int.toNat k) 4))]) true))] 1)))) (True ∧ ((0 + n * 1 ≤ List.length l ∧ NLs l) ∧ True) ∧ ∃ (l_1 : List Int), eqL [tree 1 n (chunks 1 n (List.drop 0 l))] [tree 1 l_1.length (encL l_1)] ∧ List.length l_1 ≤ 65536 ∧ (∀ (x : Int), x ∈ l_1 → -9223372036854775808 ≤ x ∧ x < 9223372036854775808) ∧ T8 (pIf (decide (sumE l_1 = 0)) (T2 ((T2 (True)) ∧ Post (Value.tuple #[vi (sumV l_1), vb true]))) (T2 ((T2 (True)) ∧ Post (Value.tuple #[vi (sumV l_1), vb false])))))) := by kernel_rfl
def mthW : Nat → Nat
 | 0 => 171 | 1 => 172 | 2 => 173 | 3 => 174 | _ => 175
def c_total (args : List Value) (Post : Value → Prop) : Prop := ∃ (ws : List Wt) (i : Nat), i < 5 ∧ args = [.int .i64 ws.length, fnT (mthW i) ws.length (encL ws)] ∧ ws.length ≤ 65536 ∧ (∀ w ∈ ws, fits64 (fldW i w)) ∧ Post (.tuple #[.int .i64 (sumV (ws.map (fldW i))), .bool (decide (fits64 (ws.map (fldW i)).sum))])
def vcSw : VCall := inlCall Tryz.prog [169] (tabCall [⟨170, c_total⟩, ⟨105, c_wchk⟩] noCall) 2
theorem e_wsum (n : Nat) (A : Array Value) (H : HT) (Post : PV) : vcP Tryz.prog vcSw 107 [] [tree 5 n A] H Post = (let q5 := True ∧ 5 ≤ 5 ∧ True ∧ ((T4 (True ∧ True)) ∧ True ∧ True) ∧ Post (Value.tuple #[Value.agg #[vi 0, vi 0, vi 0, vi 0, vi 0], vi 21]); let q4 := [vi (↑n : Int), Value.func (Fn.func 173) #[tree 5 n A] #[]]; let q3 := [vi (↑n : Int), Value.func (Fn.func 174) #[tree 5 n A] #[]]; let q2 := [vi (↑n : Int), Value.func (Fn.func 175) #[tree 5 n A] #[]]; let q1 := T4 (True ∧ 5 ≤ 5 ∧ T2 (True ∧ 1 ≤ 1 ∧ T4 q5)); T4 (T2 (1 ≤ 1 ∧ 1 ≤ 1 ∧ T8 (∃ (ws : List Wt), ∃ (i : Nat), i < 5 ∧ eqL [vi (↑n : Int), Value.func (Fn.func 171) #[tree 5 n A] #[]] [vi (↑ws.length : Int), Value.func (Fn.func (mthW i)) #[tree 5 ws.length (encL ws)] #[]] ∧ List.length ws ≤ 65536 ∧ (∀ (w : Wt), w ∈ ws → -9223372036854775808 ≤ fldW i w ∧ fldW i w < 9223372036854775808) ∧ T2 (True ∧ pIf (decide (fits64 (List.sum (List.map (fldW i) ws)))) (T4 (True ∧ 1 ≤ 5 ∧ T4 (1 ≤ 1 ∧ T4 (T2 (∃ (ws_1 : List Wt), ∃ (i_1 : Nat), i_1 < 5 ∧ eqL [vi (↑n : Int), Value.func (Fn.func 172) #[tree 5 n A] #[]] [vi (↑ws_1.length : Int), Value.func (Fn.func (mthW i_1)) #[tree 5 ws_1.length (encL ws_1)] #[]] ∧ List.length ws_1 ≤ 65536 ∧ (∀ (w : Wt), w ∈ ws_1 → -9223372036854775808 ≤ fldW i_1 w ∧ fldW i_1 w < 9223372036854775808) ∧ T2 (True ∧ pIf (decide (fits64 (List.sum (List.map (fldW i_1) ws_1)))) (T4 (True ∧ 2 ≤ 5 ∧ T4 (1 ≤ 1 ∧ T4 (T2 (∃ (ws_2 : List Wt), ∃ (i_2 : Nat), i_2 < 5 ∧ eqL q4 [vi (↑ws_2.length : Int), Value.func (Fn.func (mthW i_2)) #[tree 5 ws_2.length (encL ws_2)] #[]] ∧ List.length ws_2 ≤ 65536 ∧ (∀ (w : Wt), w ∈ ws_2 → -9223372036854775808 ≤ fldW i_2 w ∧ fldW i_2 w < 9223372036854775808) ∧ T2 (True ∧ pIf (decide (fits64 (List.sum (List.map (fldW i_2) ws_2)))) (T4 (True ∧ 3 ≤ 5 ∧ T4 (1 ≤ 1 ∧ T4 (T2 (∃ (ws_3 : List Wt), ∃ (i_3 : Nat), i_3 < 5 ∧ eqL q3 [vi (↑ws_3.length : Int), Value.func (Fn.func (mthW i_3)) #[tree 5 ws_3.length (encL ws_3)] #[]] ∧ List.length ws_3 ≤ 65536 ∧ (∀ (w : Wt), w ∈ ws_3 → -9223372036854775808 ≤ fldW i_3 w ∧ fldW i_3 w < 9223372036854775808) ∧ T2 (True ∧ pIf (decide (fits64 (List.sum (List.map (fldW i_3) ws_3)))) (T4 (True ∧ 4 ≤ 5 ∧ T4 (1 ≤ 1 ∧ T4 (T2 (∃ (ws_4 : List Wt), ∃ (i_4 : Nat), i_4 < 5 ∧ eqL q2 [vi (↑ws_4.length : Int), Value.func (Fn.func (mthW i_4)) #[tree 5 ws_4.length (encL ws_4)] #[]] ∧ List.length ws_4 ≤ 65536 ∧ (∀ (w : Wt), w ∈ ws_4 → -9223372036854775808 ≤ fldW i_4 w ∧ fldW i_4 w < 9223372036854775808) ∧ T2 (True ∧ pIf (decide (fits64 (List.sum (List.map (fldW i_4) ws_4)))) (T4 (True ∧ 5 ≤ 5 ∧ T4 (1 ≤ 1 ∧ T4 (∃ (w : Wt), eqL [Value.agg #[vi (sumV (List.map (fldW i) ws)), vi (sumV (List.map (fldW i_1) ws_1)), vi (sumV (List.map (fldW i_2) ws_2)), vi (sumV (List.map (fldW i_3) ws_3)), vi (sumV (List.map (fldW i_4) ws_4))]] [wtV w] ∧ True ∧ pIf (!decide (wErr w = 0)) (T2 (5 ≤ 5 ∧ True ∧ ((T4 (True ∧ True)) ∧ True ∧ True) ∧ Post (Value.tuple #[Value.agg #[vi 0, vi 0, vi 0, vi 0, vi 0], vi 21]))) (T2 (5 ≤ 5 ∧ True ∧ ((T4 (True ∧ True)) ∧ True ∧ True) ∧ Post (Value.tuple #[Value.agg #[vi (sumV (List.map (fldW i) ws)), vi (sumV (List.map (fldW i_1) ws_1)), vi (sumV (List.map (fldW i_2) ws_2)), vi (sumV (List.map (fldW i_3) ws_3)), vi (sumV (List.map (fldW i_4) ws_4))], vi 0]))))))) (T4 (True ∧ 5 ≤ 5 ∧ T4 (1 ≤ 1 ∧ T4 q5))))))))) (T4 (True ∧ 4 ≤ 5 ∧ T4 (1 ≤ 1 ∧ T4 (T2 (∃ (ws : List Wt), ∃ (i : Nat), i < 5 ∧ eqL q2 [vi (↑ws.length : Int), Value.func (Fn.func (mthW i)) #[tree 5 ws.length (encL ws)] #[]] ∧ List.length ws ≤ 65536 ∧ (∀ (w : Wt), w ∈ ws → -9223372036854775808 ≤ fldW i w ∧ fldW i w < 9223372036854775808) ∧ T2 (True ∧ pIf (decide (fits64 (List.sum (List.map (fldW i) ws)))) q1 q1)))))))))))) (T4 (True ∧ 3 ≤ 5 ∧ T4 (1 ≤ 1 ∧ T4 (T2 (∃ (ws : List Wt), ∃ (i : Nat), i < 5 ∧ eqL q3 [vi (↑ws.length : Int), Value.func (Fn.func (mthW i)) #[tree 5 ws.length (encL ws)] #[]] ∧ List.length ws ≤ 65536 ∧ (∀ (w : Wt), w ∈ ws → -9223372036854775808 ≤ fldW i w ∧ fldW i w < 9223372036854775808) ∧ T2 (True ∧ pIf (decide (fits64 (List.sum (List.map (fldW i) ws)))) (T4 (True ∧ 4 ≤ 5 ∧ T2 (True ∧ 1 ≤ 1 ∧ T4 (T2 (∃ (ws : List Wt), ∃ (i : Nat), i < 5 ∧ eqL q2 [vi (↑ws.length : Int), Value.func (Fn.func (mthW i)) #[tree 5 ws.length (encL ws)] #[]] ∧ List.length ws ≤ 65536 ∧ (∀ (w : Wt), w ∈ ws → -9223372036854775808 ≤ fldW i w ∧ fldW i w < 9223372036854775808) ∧ T2 (True ∧ pIf (decide (fits64 (List.sum (List.map (fldW i) ws)))) q1 q1)))))) (T4 (True ∧ 4 ≤ 5 ∧ T2 (True ∧ 1 ≤ 1 ∧ T4 (T2 (∃ (ws : List Wt), ∃ (i : Nat), i < 5 ∧ eqL q2 [vi (↑ws.length : Int), Value.func (Fn.func (mthW i)) #[tree 5 ws.length (encL ws)] #[]] ∧ List.length ws ≤ 65536 ∧ (∀ (w : Wt), w ∈ ws → -9223372036854775808 ≤ fldW i w ∧ fldW i w < 9223372036854775808) ∧ T2 (True ∧ pIf (decide (fits64 (List.sum (List.map (fldW i) ws)))) q1 q1)))))))))))))))))) (T4 (True ∧ 2 ≤ 5 ∧ T4 (1 ≤ 1 ∧ T4 (T2 (∃ (ws : List Wt), ∃ (i : Nat), i < 5 ∧ eqL q4 [vi (↑ws.length : Int), Value.func (Fn.func (mthW i)) #[tree 5 ws.length (encL ws)] #[]] ∧ List.length ws ≤ 65536 ∧ (∀ (w : Wt), w ∈ ws → -9223372036854775808 ≤ fldW i w ∧ fldW i w < 9223372036854775808) ∧ T2 (True ∧ pIf (decide (fits64 (List.sum (List.map (fldW i) ws)))) (T4 (True ∧ 3 ≤ 5 ∧ T2 (True ∧ 1 ≤ 1 ∧ T4 (T2 (∃ (ws : List Wt), ∃ (i : Nat), i < 5 ∧ eqL q3 [vi (↑ws.length : Int), Value.func (Fn.func (mthW i)) #[tree 5 ws.length (encL ws)] #[]] ∧ List.length ws ≤ 65536 ∧ (∀ (w : Wt), w ∈ ws → -9223372036854775808 ≤ fldW i w ∧ fldW i w < 9223372036854775808) ∧ T2 (True ∧ pIf (decide (fits64 (List.sum (List.map (fldW i) ws)))) (T4 (True ∧ 4 ≤ 5 ∧ T2 (True ∧ 1 ≤ 1 ∧ T4 (T2 (∃ (ws : List Wt), ∃ (i : Nat), i < 5 ∧ eqL q2 [vi (↑ws.length : Int), Value.func (Fn.func (mthW i)) #[tree 5 ws.length (encL ws)] #[]] ∧ List.length ws ≤ 65536 ∧ (∀ (w : Wt), w ∈ ws → -9223372036854775808 ≤ fldW i w ∧ fldW i w < 9223372036854775808) ∧ T2 (True ∧ pIf (decide (fits64 (List.sum (List.map (fldW i) ws)))) q1 q1)))))) (T4 (True ∧ 4 ≤ 5 ∧ T2 (True ∧ 1 ≤ 1 ∧ T4 (T2 (∃ (ws : List Wt), ∃ (i : Nat), i < 5 ∧ eqL q2 [vi (↑ws.length : Int), Value.func (Fn.func (mthW i)) #[tree 5 ws.length (encL ws)] #[]] ∧ List.length ws ≤ 65536 ∧ (∀ (w : Wt), w ∈ ws → -9223372036854775808 ≤ fldW i w ∧ fldW i w < 9223372036854775808) ∧ T2 (True ∧ pIf (decide (fits64 (List.sum (List.map (fldW i) ws)))) q1 q1)))))))))))) (T4 (True ∧ 3 ≤ 5 ∧ T2 (True ∧ 1 ≤ 1 ∧ T4 (T2 (∃ (ws : List Wt), ∃ (i : Nat), i < 5 ∧ eqL q3 [vi (↑ws.length : Int), Value.func (Fn.func (mthW i)) #[tree 5 ws.length (encL ws)] #[]] ∧ List.length ws ≤ 65536 ∧ (∀ (w : Wt), w ∈ ws → -9223372036854775808 ≤ fldW i w ∧ fldW i w < 9223372036854775808) ∧ T2 (True ∧ pIf (decide (fits64 (List.sum (List.map (fldW i) ws)))) (T4 (True ∧ 4 ≤ 5 ∧ T2 (True ∧ 1 ≤ 1 ∧ T4 (T2 (∃ (ws : List Wt), ∃ (i : Nat), i < 5 ∧ eqL q2 [vi (↑ws.length : Int), Value.func (Fn.func (mthW i)) #[tree 5 ws.length (encL ws)] #[]] ∧ List.length ws ≤ 65536 ∧ (∀ (w : Wt), w ∈ ws → -9223372036854775808 ≤ fldW i w ∧ fldW i w < 9223372036854775808) ∧ T2 (True ∧ pIf (decide (fits64 (List.sum (List.map (fldW i) ws)))) q1 q1)))))) (T4 (True ∧ 4 ≤ 5 ∧ T2 (True ∧ 1 ≤ 1 ∧ T4 (T2 (∃ (ws : List Wt), ∃ (i : Nat), i < 5 ∧ eqL q2 [vi (↑ws.length : Int), Value.func (Fn.func (mthW i)) #[tree 5 ws.length (encL ws)] #[]] ∧ List.length ws ≤ 65536 ∧ (∀ (w : Wt), w ∈ ws → -9223372036854775808 ≤ fldW i w ∧ fldW i w < 9223372036854775808) ∧ T2 (True ∧ pIf (decide (fits64 (List.sum (List.map (fldW i) ws)))) q1 q1)))))))))))))))))))))))) (T4 (True ∧ 1 ≤ 5 ∧ T4 (1 ≤ 1 ∧ T4 (T2 (∃ (ws : List Wt), ∃ (i : Nat), i < 5 ∧ eqL [vi (↑n : Int), Value.func (Fn.func 172) #[tree 5 n A] #[]] [vi (↑ws.length : Int), Value.func (Fn.func (mthW i)) #[tree 5 ws.length (encL ws)] #[]] ∧ List.length ws ≤ 65536 ∧ (∀ (w : Wt), w ∈ ws → -9223372036854775808 ≤ fldW i w ∧ fldW i w < 9223372036854775808) ∧ T2 (True ∧ pIf (decide (fits64 (List.sum (List.map (fldW i) ws)))) (T4 (True ∧ 2 ≤ 5 ∧ T2 (True ∧ 1 ≤ 1 ∧ T4 (T2 (∃ (ws : List Wt), ∃ (i : Nat), i < 5 ∧ eqL q4 [vi (↑ws.length : Int), Value.func (Fn.func (mthW i)) #[tree 5 ws.length (encL ws)] #[]] ∧ List.length ws ≤ 65536 ∧ (∀ (w : Wt), w ∈ ws → -9223372036854775808 ≤ fldW i w ∧ fldW i w < 9223372036854775808) ∧ T2 (True ∧ pIf (decide (fits64 (List.sum (List.map (fldW i) ws)))) (T4 (True ∧ 3 ≤ 5 ∧ T2 (True ∧ 1 ≤ 1 ∧ T4 (T2 (∃ (ws : List Wt), ∃ (i : Nat), i < 5 ∧ eqL q3 [vi (↑ws.length : Int), Value.func (Fn.func (mthW i)) #[tree 5 ws.length (encL ws)] #[]] ∧ List.length ws ≤ 65536 ∧ (∀ (w : Wt), w ∈ ws → -9223372036854775808 ≤ fldW i w ∧ fldW i w < 9223372036854775808) ∧ T2 (True ∧ pIf (decide (fits64 (List.sum (List.map (fldW i) ws)))) (T4 (True ∧ 4 ≤ 5 ∧ T2 (True ∧ 1 ≤ 1 ∧ T4 (T2 (∃ (ws : List Wt), ∃ (i : Nat), i < 5 ∧ eqL q2 [vi (↑ws.length : Int), Value.func (Fn.func (mthW i)) #[tree 5 ws.length (encL ws)] #[]] ∧ List.length ws ≤ 65536 ∧ (∀ (w : Wt), w ∈ ws → -9223372036854775808 ≤ fldW i w ∧ fldW i w < 9223372036854775808) ∧ T2 (True ∧ pIf (decide (fits64 (List.sum (List.map (fldW i) ws)))) q1 q1)))))) (T4 (True ∧ 4 ≤ 5 ∧ T2 (True ∧ 1 ≤ 1 ∧ T4 (T2 (∃ (ws : List Wt), ∃ (i : Nat), i < 5 ∧ eqL q2 [vi (↑ws.length : Int), Value.func (Fn.func (mthW i)) #[tree 5 ws.length (encL ws)] #[]] ∧ List.length ws ≤ 65536 ∧ (∀ (w : Wt), w ∈ ws → -9223372036854775808 ≤ fldW i w ∧ fldW i w < 9223372036854775808) ∧ T2 (True ∧ pIf (decide (fits64 (List.sum (List.map (fldW i) ws)))) q1 q1)))))))))))) (T4 (True ∧ 3 ≤ 5 ∧ T2 (True ∧ 1 ≤ 1 ∧ T4 (T2 (∃ (ws : List Wt), ∃ (i : Nat), i < 5 ∧ eqL q3 [vi (↑ws.length : Int), Value.func (Fn.func (mthW i)) #[tree 5 ws.length (encL ws)] #[]] ∧ List.length ws ≤ 65536 ∧ (∀ (w : Wt), w ∈ ws → -9223372036854775808 ≤ fldW i w ∧ fldW i w < 9223372036854775808) ∧ T2 (True ∧ pIf (decide (fits64 (List.sum (List.map (fldW i) ws)))) (T4 (True ∧ 4 ≤ 5 ∧ T2 (True ∧ 1 ≤ 1 ∧ T4 (T2 (∃ (ws : List Wt), ∃ (i : Nat), i < 5 ∧ eqL q2 [vi (↑ws.length : Int), Value.func (Fn.func (mthW i)) #[tree 5 ws.length (encL ws)] #[]] ∧ List.length ws ≤ 65536 ∧ (∀ (w : Wt), w ∈ ws → -9223372036854775808 ≤ fldW i w ∧ fldW i w < 9223372036854775808) ∧ T2 (True ∧ pIf (decide (fits64 (List.sum (List.map (fldW i) ws)))) q1 q1)))))) (T4 (True ∧ 4 ≤ 5 ∧ T2 (True ∧ 1 ≤ 1 ∧ T4 (T2 (∃ (ws : List Wt), ∃ (i : Nat), i < 5 ∧ eqL q2 [vi (↑ws.length : Int), Value.func (Fn.func (mthW i)) #[tree 5 ws.length (encL ws)] #[]] ∧ List.length ws ≤ 65536 ∧ (∀ (w : Wt), w ∈ ws → -9223372036854775808 ≤ fldW i w ∧ fldW i w < 9223372036854775808) ∧ T2 (True ∧ pIf (decide (fits64 (List.sum (List.map (fldW i) ws)))) q1 q1)))))))))))))))))) (T4 (True ∧ 2 ≤ 5 ∧ T2 (True ∧ 1 ≤ 1 ∧ T4 (T2 (∃ (ws : List Wt), ∃ (i : Nat), i < 5 ∧ eqL q4 [vi (↑ws.length : Int), Value.func (Fn.func (mthW i)) #[tree 5 ws.length (encL ws)] #[]] ∧ List.length ws ≤ 65536 ∧ (∀ (w : Wt), w ∈ ws → -9223372036854775808 ≤ fldW i w ∧ fldW i w < 9223372036854775808) ∧ T2 (True ∧ pIf (decide (fits64 (List.sum (List.map (fldW i) ws)))) (T4 (True ∧ 3 ≤ 5 ∧ T2 (True ∧ 1 ≤ 1 ∧ T4 (T2 (∃ (ws : List Wt), ∃ (i : Nat), i < 5 ∧ eqL q3 [vi (↑ws.length : Int), Value.func (Fn.func (mthW i)) #[tree 5 ws.length (encL ws)] #[]] ∧ List.length ws ≤ 65536 ∧ (∀ (w : Wt), w ∈ ws → -9223372036854775808 ≤ fldW i w ∧ fldW i w < 9223372036854775808) ∧ T2 (True ∧ pIf (decide (fits64 (List.sum (List.map (fldW i) ws)))) (T4 (True ∧ 4 ≤ 5 ∧ T2 (True ∧ 1 ≤ 1 ∧ T4 (T2 (∃ (ws : List Wt), ∃ (i : Nat), i < 5 ∧ eqL q2 [vi (↑ws.length : Int), Value.func (Fn.func (mthW i)) #[tree 5 ws.length (encL ws)] #[]] ∧ List.length ws ≤ 65536 ∧ (∀ (w : Wt), w ∈ ws → -9223372036854775808 ≤ fldW i w ∧ fldW i w < 9223372036854775808) ∧ T2 (True ∧ pIf (decide (fits64 (List.sum (List.map (fldW i) ws)))) q1 q1)))))) (T4 (True ∧ 4 ≤ 5 ∧ T2 (True ∧ 1 ≤ 1 ∧ T4 (T2 (∃ (ws : List Wt), ∃ (i : Nat), i < 5 ∧ eqL q2 [vi (↑ws.length : Int), Value.func (Fn.func (mthW i)) #[tree 5 ws.length (encL ws)] #[]] ∧ List.length ws ≤ 65536 ∧ (∀ (w : Wt), w ∈ ws → -9223372036854775808 ≤ fldW i w ∧ fldW i w < 9223372036854775808) ∧ T2 (True ∧ pIf (decide (fits64 (List.sum (List.map (fldW i) ws)))) q1 q1)))))))))))) (T4 (True ∧ 3 ≤ 5 ∧ T2 (True ∧ 1 ≤ 1 ∧ T4 (T2 (∃ (ws : List Wt), ∃ (i : Nat), i < 5 ∧ eqL q3 [vi (↑ws.length : Int), Value.func (Fn.func (mthW i)) #[tree 5 ws.length (encL ws)] #[]] ∧ List.length ws ≤ 65536 ∧ (∀ (w : Wt), w ∈ ws → -9223372036854775808 ≤ fldW i w ∧ fldW i w < 9223372036854775808) ∧ T2 (True ∧ pIf (decide (fits64 (List.sum (List.map (fldW i) ws)))) (T4 (True ∧ 4 ≤ 5 ∧ T2 (True ∧ 1 ≤ 1 ∧ T4 (T2 (∃ (ws : List Wt), ∃ (i : Nat), i < 5 ∧ eqL q2 [vi (↑ws.length : Int), Value.func (Fn.func (mthW i)) #[tree 5 ws.length (encL ws)] #[]] ∧ List.length ws ≤ 65536 ∧ (∀ (w : Wt), w ∈ ws → -9223372036854775808 ≤ fldW i w ∧ fldW i w < 9223372036854775808) ∧ T2 (True ∧ pIf (decide (fits64 (List.sum (List.map (fldW i) ws)))) q1 q1)))))) (T4 (True ∧ 4 ≤ 5 ∧ T2 (True ∧ 1 ≤ 1 ∧ T4 (T2 (∃ (ws : List Wt), ∃ (i : Nat), i < 5 ∧ eqL q2 [vi (↑ws.length : Int), Value.func (Fn.func (mthW i)) #[tree 5 ws.length (encL ws)] #[]] ∧ List.length ws ≤ 65536 ∧ (∀ (w : Wt), w ∈ ws → -9223372036854775808 ≤ fldW i w ∧ fldW i w < 9223372036854775808) ∧ T2 (True ∧ pIf (decide (fits64 (List.sum (List.map (fldW i) ws)))) q1 q1))))))))))))))))))))))))))))) := by kernel_rfl
theorem ok_wchk : EntOk Tryz.prog ⟨105, c_wchk⟩ := by
 rintro args Post ⟨w, rfl, h⟩
 refine pure_P (inlCall_ok mixed noCall_ok 2) mixed (by kernel_rfl) (by kernel_rfl) _ (e_wchk w _ _) ?_
 simp only [true_and]
 have yes : okWt w → Post (.int .i64 0) := fun hp => by unfold wErr at h; rwa [if_pos hp] at h
 have no : ¬ okWt w → Post (.int .i64 9) := fun hp => by unfold wErr at h; rwa [if_neg hp] at h
 clear h
 unfold okWt at yes no
 repeat' (first
  | refine ifD (fun _ => ?_) (fun _ => ?_)
  | exact yes (by omega)
  | exact no (by omega))
theorem take_sumZ {l : List Int} {k : Nat} (h : k < l.length) : (l.take (k + 1)).sum = (l.take k).sum + l[k] := by
 have e : l.take (k + 1) = l.take k ++ [l[k]] := by
  rw [List.take_add_one, List.getElem?_eq_getElem h]
  rfl
 rw [e, List.sum_append, List.sum_cons, List.sum_nil]
 omega
theorem sum_bdZ {l : List Int} (h : ∀ x ∈ l, fits64 x) : -(9223372036854775808 * (l.length : Int)) ≤ l.sum ∧ l.sum ≤ 9223372036854775808 * (l.length : Int) := by
 induction l with
 | nil => simp
 | cons a l ih =>
  have := ih fun x hx => h x (by simp [hx])
  have h1 := h a (by simp)
  unfold fits64 at h1
  rw [List.sum_cons, List.length_cons]
  omega
theorem sum_take_bd {l : List Int} (h : ∀ x ∈ l, fits64 x) (k : Nat) (hk : k ≤ 65536) : -(9223372036854775808 * 65536) ≤ (l.take k).sum ∧ (l.take k).sum ≤ 9223372036854775808 * 65536 := by
 have h1 := sum_bdZ (l := l.take k) fun x hx => h x (List.mem_of_mem_take hx)
 have h2 : (l.take k).length ≤ 65536 := by rw [List.length_take]; omega
 omega
theorem ext_add : ExtIs Tryz.prog 244 add64Entry := ⟨fun args w => run_callFunc_extern Tryz.func244 (by kernel_rfl) (by kernel_rfl) (by kernel_rfl) (by kernel_rfl) args w⟩
theorem cell_num {l : List Int} {k : Nat} (h : k < l.length) : cellAt (encL l) k 0 = .int .i64 l[k] := by
 rw [cellAt_encL' h]
 rfl
theorem wrapU_mod (n : Int) : IntKind.u64.wrap n = n % 18446744073709551616 := by rw [IntKind.wrap_u64]
theorem wrapI64 (n : Int) : -9223372036854775808 ≤ IntKind.i64.wrap n ∧ IntKind.i64.wrap n < 9223372036854775808 ∧ ∃ q, IntKind.i64.wrap n = n + 18446744073709551616 * q := by
 rw [IntKind.wrap_i64]
 refine ⟨by omega, by omega, ?_⟩
 by_cases h : n % 18446744073709551616 < 9223372036854775808
 ·exact ⟨-(n / 18446744073709551616), by omega⟩
 ·exact ⟨-(n / 18446744073709551616) - 1, by omega⟩
theorem sum_good {l : List Int} (h : fits64 l.sum) : sumV l = l.sum ∧ sumE l = 0 := by
 unfold sumV sumE
 rw [if_pos h, if_pos h]
 exact ⟨rfl, rfl⟩
theorem sum_bad {l : List Int} (h : ¬ fits64 l.sum) : sumV l = 0 ∧ sumE l = 21 := by
 unfold sumV sumE
 rw [if_neg h, if_neg h]
 exact ⟨rfl, rfl⟩
theorem ok_nsum : EntOk Tryz.prog ⟨220, c_sum⟩ := by
 rintro args Post ⟨l, rfl, hl, hx, h⟩
 refine pure_P noCall_ok mixed (by kernel_rfl) (by kernel_rfl) _ (e_nsum l.length (encL l) _ _) ?_
 simp only [true_and]
 refine down (n := l.length) (p := fun k => OkP 220 [tree 1 l.length (encL l)] 3 Post (stV [(4, some (.int .i64 ((l.take k).sum / 18446744073709551616))), (5, some (.int .u64 ((l.take k).sum % 18446744073709551616))), (11, some (tree 1 l.length (encL l))), (12, some (.int .i64 l.length)), (13, some (.int .i64 k))] [] 0)) ?_ (fun k k1 ih => ?_)
 ·refine ok_P noCall_ok mixed _ (l_nsum l.length _ _ l.length (encL l) _ _) ?_
  rw [List.take_length]
  have hb := sum_take_bd hx l.length hl
  rw [List.take_length] at hb
  have good : ∀ r : Int, (-9223372036854775808 ≤ r ∧ r < 9223372036854775808) → r = l.sum → Post (.tuple #[.int .i64 r, .int .i64 0]) := fun r hr e => by
   obtain ⟨s1, s2⟩ := sum_good (l := l) (by rw [← e]; exact hr)
   rw [s1, s2] at h
   rw [e]
   exact h
  have bad : ¬ (-9223372036854775808 ≤ l.sum ∧ l.sum < 9223372036854775808) → Post (.tuple #[.int .i64 0, .int .i64 21]) := fun e => by
   obtain ⟨s1, s2⟩ := sum_bad (l := l) e
   rw [s1, s2] at h
   exact h
  clear h
  generalize l.sum = S at *
  obtain ⟨b1, b2, q, b3⟩ := wrapI64 (S % 18446744073709551616)
  generalize IntKind.i64.wrap (S % 18446744073709551616) = r at *
  simp only [true_and]
  refine ifD (fun hlt => by omega) (fun _ => ?_)
  repeat' (first
   | refine ifD (fun _ => ?_) (fun _ => ?_)
   | exact good _ (by omega) (by omega)
   | exact bad (by omega))
 ·refine ok_P noCall_ok mixed _ (l_nsum l.length _ _ k (encL l) _ _) ?_
  have hk : ((k : Nat) : Int).toNat = k := Int.toNat_natCast k
  have hb := sum_take_bd hx k (by omega)
  have hb2 := sum_take_bd hx (k + 1) (by omega)
  have hv := hx _ (List.getElem_mem k1)
  unfold fits64 at hv
  rw [take_sumZ k1] at ih hb2
  simp only [true_and, hk, cell_num k1, toI_int, wrapU_mod, wrapSucc (show k < 2 ^ 62 by omega)]
  generalize l[k] = x at *
  generalize (l.take k).sum = S at *
  have e2 : (S % 18446744073709551616 + x % 18446744073709551616 + 0) % 18446744073709551616 = (S + x) % 18446744073709551616 := by omega
  rw [e2]
  have hc : IntKind.i64.wrap ((S % 18446744073709551616 + x % 18446744073709551616 + 0) / 18446744073709551616) = (S % 18446744073709551616 + x % 18446744073709551616 + 0) / 18446744073709551616 := wrap64 (by omega) (by omega)
  rw [hc]
  have ha : IntKind.i64.wrap (S / 18446744073709551616 + (S % 18446744073709551616 + x % 18446744073709551616 + 0) / 18446744073709551616) = S / 18446744073709551616 + (S % 18446744073709551616 + x % 18446744073709551616 + 0) / 18446744073709551616 := wrap64 (by omega) (by omega)
  rw [ha]
  refine ifD (fun _ => ⟨⟨by omega, by omega⟩, ⟨ext_add, by omega, by omega, by decide, by decide⟩, ifD (fun hn => ?_) (fun hn => ?_)⟩) (fun h' => by omega)
  ·rw [wrap64 (by omega) (by omega)]
   have e3 : S / 18446744073709551616 + (S % 18446744073709551616 + x % 18446744073709551616 + 0) / 18446744073709551616 - 1 = (S + x) / 18446744073709551616 := by omega
   rw [e3]
   exact ih
  ·have e3 : S / 18446744073709551616 + (S % 18446744073709551616 + x % 18446744073709551616 + 0) / 18446744073709551616 = (S + x) / 18446744073709551616 := by omega
   rw [e3]
   exact ih
theorem vcTo_ok : VCallOk Tryz.prog vcTo := inlCall_ok mixed (tabCallF_ok (by
 intro e he
 simp only [List.mem_cons, List.not_mem_nil, or_false] at he
 subst he
 exact ok_nsum) noCall_ok) 2
def midL (f : Wt → Int) (ws : List Wt) (k : Nat) : List Value := ((ws.take k).map fun w => .int .i64 (f w)) ++ List.replicate (ws.length - k) (.int .i64 0)
theorem zrow_rep (v : Value) : ∀ n, zrow n [v] = List.replicate n v
 | 0 => rfl
 | n + 1 => by rw [zrow, zrow_rep v n]; rfl
theorem midL_zero (f : Wt → Int) (ws : List Wt) : midL f ws 0 = zrow ws.length [.int .i64 0] := by
 rw [zrow_rep]
 rfl
theorem midL_len {f : Wt → Int} {ws : List Wt} {k : Nat} (h : k ≤ ws.length) : (midL f ws k).length = ws.length := by
 unfold midL
 rw [List.length_append, List.length_map, List.length_take, List.length_replicate]
 omega
theorem midL_step {f : Wt → Int} {ws : List Wt} {k : Nat} (h : k < ws.length) : setFrom (midL f ws k) k [.int .i64 (f ws[k])] = midL f ws (k + 1) := by
 show (midL f ws k).set k _ = _
 unfold midL
 have hl : ((ws.take k).map fun w => Value.int .i64 (f w)).length = k := by rw [List.length_map, List.length_take]; omega
 rw [List.set_append_right _ _ (by omega), hl, Nat.sub_self, List.take_add_one, List.getElem?_eq_getElem h, List.map_append, List.append_assoc]
 have e : ws.length - k = (ws.length - (k + 1)) + 1 := by omega
 rw [e, List.replicate_succ]
 rfl
theorem midL_nls (f : Wt → Int) (ws : List Wt) (k : Nat) : NLs (midL f ws k) := fun v hv => by
 unfold midL at hv
 rcases List.mem_append.1 hv with h | h
 ·obtain ⟨a, _, rfl⟩ := List.mem_map.1 h
  rfl
 ·rw [(List.mem_replicate.1 h).2]
  rfl
theorem midL_end (f : Wt → Int) (ws : List Wt) : chunks 1 ws.length (List.drop 0 (midL f ws ws.length)) = encL (ws.map f) := by
 show ((List.drop 0 (midL f ws ws.length)).take ws.length).toArray = _
 unfold midL encL
 rw [List.take_length, Nat.sub_self, List.drop_zero, List.replicate_zero, List.append_nil, List.take_of_length_le (by simp), List.map_map]
 rfl
theorem cell_wt {ws : List Wt} {k : Nat} (h : k < ws.length) : cellAt (encL ws) k 0 = .int .i64 ws[k].m ∧ cellAt (encL ws) k 1 = .int .i64 ws[k].x ∧ cellAt (encL ws) k 2 = .int .i64 ws[k].y ∧ cellAt (encL ws) k 3 = .int .i64 ws[k].z ∧ cellAt (encL ws) k 4 = .int .i64 ws[k].v := by
 refine ⟨?_, ?_, ?_, ?_, ?_⟩ <;> (rw [cellAt_encL' h]; rfl)
theorem sumE_zero (l : List Int) : (sumE l = 0) = fits64 l.sum := by
 unfold sumE
 by_cases h : fits64 l.sum
 ·rw [if_pos h]; simp [h]
 ·rw [if_neg h]; simp [h]
theorem total_0 {ws : List Wt} {Post : Value → Prop} (hl : ws.length ≤ 65536) (hx : ∀ w ∈ ws, fits64 (fldW 0 w)) (h : Post (.tuple #[.int .i64 (sumV (ws.map (fldW 0))), .bool (decide (fits64 (ws.map (fldW 0)).sum))])) : Pure Tryz.prog 170 [.int .i64 ws.length, fnT 171 ws.length (encL ws)] Post := by
 refine pure_P vcTo_ok mixed (by kernel_rfl) (by kernel_rfl) _ (e_total0 ws.length (encL ws) _ _) ?_
 have hn : ((ws.length : Nat) : Int).toNat = ws.length := Int.toNat_natCast _
 simp only [true_and, and_true, hn]
 refine ⟨⟨by omega, by omega, by omega⟩, by rw [← midL_zero (fldW 0)]; exact midL_nls _ _ _, ?_⟩
 rw [← midL_zero (fldW 0)]
 refine down (n := ws.length) (p := fun k => OkP 170 [.int .i64 ws.length, fnT 171 ws.length (encL ws)] 3 Post (stV [(1, some (fnT 171 ws.length (encL ws))), (6, some (.slice (some ⟨0, 0, none⟩) ws.length 1)), (13, some (.int .i64 ws.length)), (14, some (.int .i64 k))] [(0, some (.cells (midL (fldW 0) ws k) true))] 1)) ?_ (fun k k1 ih => ?_)
 ·refine ok_P vcTo_ok mixed _ (l_total0 ws.length ws.length (midL (fldW 0) ws ws.length) (encL ws) _ _) ?_
  simp only [true_and, and_true]
  refine ifD (fun hlt => by omega) (fun _ => ⟨⟨by rw [midL_len (Nat.le_refl _)]; omega, midL_nls _ _ _⟩, ws.map (fldW 0), ?_, ?_, fun x hm => ?_, ?_⟩)
  ·rw [midL_end]
   have e : (ws.map (fldW 0)).length = ws.length := List.length_map _
   rw [e]
  ·rw [List.length_map]; exact hl
  ·obtain ⟨w, hw, rfl⟩ := List.mem_map.1 hm
   exact hx w hw
  ·refine ifD (fun e => ?_) (fun e => ?_)
   ·rw [sumE_zero] at e
    rwa [decide_eq_true e] at h
   ·rw [sumE_zero] at e
    rwa [decide_eq_false e] at h
 ·refine ok_P vcTo_ok mixed _ (l_total0 ws.length k (midL (fldW 0) ws k) (encL ws) _ _) ?_
  have hk : ((k : Nat) : Int).toNat = k := Int.toNat_natCast k
  obtain ⟨c0, c1, c2, c3, c4⟩ := cell_wt k1
  have e : setFrom (midL (fldW 0) ws k) k [.int .i64 ws[k].m] = midL (fldW 0) ws (k + 1) := midL_step (f := (fldW 0)) k1
  simp only [true_and, and_true, hk, Nat.zero_add, Nat.mul_one, c0, c1, c2, c3, c4, toI_int, e, wrapSucc (show k < 2 ^ 62 by omega)]
  exact ifD (fun _ => ⟨⟨by omega, by omega⟩, ⟨by omega, by omega⟩, by rw [midL_len (Nat.le_of_lt k1)]; exact k1, midL_nls _ _ _, ih⟩) (fun h' => by omega)
theorem total_1 {ws : List Wt} {Post : Value → Prop} (hl : ws.length ≤ 65536) (hx : ∀ w ∈ ws, fits64 (fldW 1 w)) (h : Post (.tuple #[.int .i64 (sumV (ws.map (fldW 1))), .bool (decide (fits64 (ws.map (fldW 1)).sum))])) : Pure Tryz.prog 170 [.int .i64 ws.length, fnT 172 ws.length (encL ws)] Post := by
 refine pure_P vcTo_ok mixed (by kernel_rfl) (by kernel_rfl) _ (e_total1 ws.length (encL ws) _ _) ?_
 have hn : ((ws.length : Nat) : Int).toNat = ws.length := Int.toNat_natCast _
 simp only [true_and, and_true, hn]
 refine ⟨⟨by omega, by omega, by omega⟩, by rw [← midL_zero (fldW 1)]; exact midL_nls _ _ _, ?_⟩
 rw [← midL_zero (fldW 1)]
 refine down (n := ws.length) (p := fun k => OkP 170 [.int .i64 ws.length, fnT 172 ws.length (encL ws)] 3 Post (stV [(1, some (fnT 172 ws.length (encL ws))), (6, some (.slice (some ⟨0, 0, none⟩) ws.length 1)), (13, some (.int .i64 ws.length)), (14, some (.int .i64 k))] [(0, some (.cells (midL (fldW 1) ws k) true))] 1)) ?_ (fun k k1 ih => ?_)
 ·refine ok_P vcTo_ok mixed _ (l_total1 ws.length ws.length (midL (fldW 1) ws ws.length) (encL ws) _ _) ?_
  simp only [true_and, and_true]
  refine ifD (fun hlt => by omega) (fun _ => ⟨⟨by rw [midL_len (Nat.le_refl _)]; omega, midL_nls _ _ _⟩, ws.map (fldW 1), ?_, ?_, fun x hm => ?_, ?_⟩)
  ·rw [midL_end]
   have e : (ws.map (fldW 1)).length = ws.length := List.length_map _
   rw [e]
  ·rw [List.length_map]; exact hl
  ·obtain ⟨w, hw, rfl⟩ := List.mem_map.1 hm
   exact hx w hw
  ·refine ifD (fun e => ?_) (fun e => ?_)
   ·rw [sumE_zero] at e
    rwa [decide_eq_true e] at h
   ·rw [sumE_zero] at e
    rwa [decide_eq_false e] at h
 ·refine ok_P vcTo_ok mixed _ (l_total1 ws.length k (midL (fldW 1) ws k) (encL ws) _ _) ?_
  have hk : ((k : Nat) : Int).toNat = k := Int.toNat_natCast k
  obtain ⟨c0, c1, c2, c3, c4⟩ := cell_wt k1
  have e : setFrom (midL (fldW 1) ws k) k [.int .i64 ws[k].x] = midL (fldW 1) ws (k + 1) := midL_step (f := (fldW 1)) k1
  simp only [true_and, and_true, hk, Nat.zero_add, Nat.mul_one, c0, c1, c2, c3, c4, toI_int, e, wrapSucc (show k < 2 ^ 62 by omega)]
  exact ifD (fun _ => ⟨⟨by omega, by omega⟩, ⟨by omega, by omega⟩, by rw [midL_len (Nat.le_of_lt k1)]; exact k1, midL_nls _ _ _, ih⟩) (fun h' => by omega)
theorem total_2 {ws : List Wt} {Post : Value → Prop} (hl : ws.length ≤ 65536) (hx : ∀ w ∈ ws, fits64 (fldW 2 w)) (h : Post (.tuple #[.int .i64 (sumV (ws.map (fldW 2))), .bool (decide (fits64 (ws.map (fldW 2)).sum))])) : Pure Tryz.prog 170 [.int .i64 ws.length, fnT 173 ws.length (encL ws)] Post := by
 refine pure_P vcTo_ok mixed (by kernel_rfl) (by kernel_rfl) _ (e_total2 ws.length (encL ws) _ _) ?_
 have hn : ((ws.length : Nat) : Int).toNat = ws.length := Int.toNat_natCast _
 simp only [true_and, and_true, hn]
 refine ⟨⟨by omega, by omega, by omega⟩, by rw [← midL_zero (fldW 2)]; exact midL_nls _ _ _, ?_⟩
 rw [← midL_zero (fldW 2)]
 refine down (n := ws.length) (p := fun k => OkP 170 [.int .i64 ws.length, fnT 173 ws.length (encL ws)] 3 Post (stV [(1, some (fnT 173 ws.length (encL ws))), (6, some (.slice (some ⟨0, 0, none⟩) ws.length 1)), (13, some (.int .i64 ws.length)), (14, some (.int .i64 k))] [(0, some (.cells (midL (fldW 2) ws k) true))] 1)) ?_ (fun k k1 ih => ?_)
 ·refine ok_P vcTo_ok mixed _ (l_total2 ws.length ws.length (midL (fldW 2) ws ws.length) (encL ws) _ _) ?_
  simp only [true_and, and_true]
  refine ifD (fun hlt => by omega) (fun _ => ⟨⟨by rw [midL_len (Nat.le_refl _)]; omega, midL_nls _ _ _⟩, ws.map (fldW 2), ?_, ?_, fun x hm => ?_, ?_⟩)
  ·rw [midL_end]
   have e : (ws.map (fldW 2)).length = ws.length := List.length_map _
   rw [e]
  ·rw [List.length_map]; exact hl
  ·obtain ⟨w, hw, rfl⟩ := List.mem_map.1 hm
   exact hx w hw
  ·refine ifD (fun e => ?_) (fun e => ?_)
   ·rw [sumE_zero] at e
    rwa [decide_eq_true e] at h
   ·rw [sumE_zero] at e
    rwa [decide_eq_false e] at h
 ·refine ok_P vcTo_ok mixed _ (l_total2 ws.length k (midL (fldW 2) ws k) (encL ws) _ _) ?_
  have hk : ((k : Nat) : Int).toNat = k := Int.toNat_natCast k
  obtain ⟨c0, c1, c2, c3, c4⟩ := cell_wt k1
  have e : setFrom (midL (fldW 2) ws k) k [.int .i64 ws[k].y] = midL (fldW 2) ws (k + 1) := midL_step (f := (fldW 2)) k1
  simp only [true_and, and_true, hk, Nat.zero_add, Nat.mul_one, c0, c1, c2, c3, c4, toI_int, e, wrapSucc (show k < 2 ^ 62 by omega)]
  exact ifD (fun _ => ⟨⟨by omega, by omega⟩, ⟨by omega, by omega⟩, by rw [midL_len (Nat.le_of_lt k1)]; exact k1, midL_nls _ _ _, ih⟩) (fun h' => by omega)
theorem total_3 {ws : List Wt} {Post : Value → Prop} (hl : ws.length ≤ 65536) (hx : ∀ w ∈ ws, fits64 (fldW 3 w)) (h : Post (.tuple #[.int .i64 (sumV (ws.map (fldW 3))), .bool (decide (fits64 (ws.map (fldW 3)).sum))])) : Pure Tryz.prog 170 [.int .i64 ws.length, fnT 174 ws.length (encL ws)] Post := by
 refine pure_P vcTo_ok mixed (by kernel_rfl) (by kernel_rfl) _ (e_total3 ws.length (encL ws) _ _) ?_
 have hn : ((ws.length : Nat) : Int).toNat = ws.length := Int.toNat_natCast _
 simp only [true_and, and_true, hn]
 refine ⟨⟨by omega, by omega, by omega⟩, by rw [← midL_zero (fldW 3)]; exact midL_nls _ _ _, ?_⟩
 rw [← midL_zero (fldW 3)]
 refine down (n := ws.length) (p := fun k => OkP 170 [.int .i64 ws.length, fnT 174 ws.length (encL ws)] 3 Post (stV [(1, some (fnT 174 ws.length (encL ws))), (6, some (.slice (some ⟨0, 0, none⟩) ws.length 1)), (13, some (.int .i64 ws.length)), (14, some (.int .i64 k))] [(0, some (.cells (midL (fldW 3) ws k) true))] 1)) ?_ (fun k k1 ih => ?_)
 ·refine ok_P vcTo_ok mixed _ (l_total3 ws.length ws.length (midL (fldW 3) ws ws.length) (encL ws) _ _) ?_
  simp only [true_and, and_true]
  refine ifD (fun hlt => by omega) (fun _ => ⟨⟨by rw [midL_len (Nat.le_refl _)]; omega, midL_nls _ _ _⟩, ws.map (fldW 3), ?_, ?_, fun x hm => ?_, ?_⟩)
  ·rw [midL_end]
   have e : (ws.map (fldW 3)).length = ws.length := List.length_map _
   rw [e]
  ·rw [List.length_map]; exact hl
  ·obtain ⟨w, hw, rfl⟩ := List.mem_map.1 hm
   exact hx w hw
  ·refine ifD (fun e => ?_) (fun e => ?_)
   ·rw [sumE_zero] at e
    rwa [decide_eq_true e] at h
   ·rw [sumE_zero] at e
    rwa [decide_eq_false e] at h
 ·refine ok_P vcTo_ok mixed _ (l_total3 ws.length k (midL (fldW 3) ws k) (encL ws) _ _) ?_
  have hk : ((k : Nat) : Int).toNat = k := Int.toNat_natCast k
  obtain ⟨c0, c1, c2, c3, c4⟩ := cell_wt k1
  have e : setFrom (midL (fldW 3) ws k) k [.int .i64 ws[k].z] = midL (fldW 3) ws (k + 1) := midL_step (f := (fldW 3)) k1
  simp only [true_and, and_true, hk, Nat.zero_add, Nat.mul_one, c0, c1, c2, c3, c4, toI_int, e, wrapSucc (show k < 2 ^ 62 by omega)]
  exact ifD (fun _ => ⟨⟨by omega, by omega⟩, ⟨by omega, by omega⟩, by rw [midL_len (Nat.le_of_lt k1)]; exact k1, midL_nls _ _ _, ih⟩) (fun h' => by omega)
theorem total_4 {ws : List Wt} {Post : Value → Prop} (hl : ws.length ≤ 65536) (hx : ∀ w ∈ ws, fits64 (fldW 4 w)) (h : Post (.tuple #[.int .i64 (sumV (ws.map (fldW 4))), .bool (decide (fits64 (ws.map (fldW 4)).sum))])) : Pure Tryz.prog 170 [.int .i64 ws.length, fnT 175 ws.length (encL ws)] Post := by
 refine pure_P vcTo_ok mixed (by kernel_rfl) (by kernel_rfl) _ (e_total4 ws.length (encL ws) _ _) ?_
 have hn : ((ws.length : Nat) : Int).toNat = ws.length := Int.toNat_natCast _
 simp only [true_and, and_true, hn]
 refine ⟨⟨by omega, by omega, by omega⟩, by rw [← midL_zero (fldW 4)]; exact midL_nls _ _ _, ?_⟩
 rw [← midL_zero (fldW 4)]
 refine down (n := ws.length) (p := fun k => OkP 170 [.int .i64 ws.length, fnT 175 ws.length (encL ws)] 3 Post (stV [(1, some (fnT 175 ws.length (encL ws))), (6, some (.slice (some ⟨0, 0, none⟩) ws.length 1)), (13, some (.int .i64 ws.length)), (14, some (.int .i64 k))] [(0, some (.cells (midL (fldW 4) ws k) true))] 1)) ?_ (fun k k1 ih => ?_)
 ·refine ok_P vcTo_ok mixed _ (l_total4 ws.length ws.length (midL (fldW 4) ws ws.length) (encL ws) _ _) ?_
  simp only [true_and, and_true]
  refine ifD (fun hlt => by omega) (fun _ => ⟨⟨by rw [midL_len (Nat.le_refl _)]; omega, midL_nls _ _ _⟩, ws.map (fldW 4), ?_, ?_, fun x hm => ?_, ?_⟩)
  ·rw [midL_end]
   have e : (ws.map (fldW 4)).length = ws.length := List.length_map _
   rw [e]
  ·rw [List.length_map]; exact hl
  ·obtain ⟨w, hw, rfl⟩ := List.mem_map.1 hm
   exact hx w hw
  ·refine ifD (fun e => ?_) (fun e => ?_)
   ·rw [sumE_zero] at e
    rwa [decide_eq_true e] at h
   ·rw [sumE_zero] at e
    rwa [decide_eq_false e] at h
 ·refine ok_P vcTo_ok mixed _ (l_total4 ws.length k (midL (fldW 4) ws k) (encL ws) _ _) ?_
  have hk : ((k : Nat) : Int).toNat = k := Int.toNat_natCast k
  obtain ⟨c0, c1, c2, c3, c4⟩ := cell_wt k1
  have e : setFrom (midL (fldW 4) ws k) k [.int .i64 ws[k].v] = midL (fldW 4) ws (k + 1) := midL_step (f := (fldW 4)) k1
  simp only [true_and, and_true, hk, Nat.zero_add, Nat.mul_one, c0, c1, c2, c3, c4, toI_int, e, wrapSucc (show k < 2 ^ 62 by omega)]
  exact ifD (fun _ => ⟨⟨by omega, by omega⟩, ⟨by omega, by omega⟩, by rw [midL_len (Nat.le_of_lt k1)]; exact k1, midL_nls _ _ _, ih⟩) (fun h' => by omega)
theorem ok_total : EntOk Tryz.prog ⟨170, c_total⟩ := by
 rintro args Post ⟨ws, i, hi, rfl, hl, hx, h⟩
 rcases i with _ | _ | _ | _ | _ | i
 ·exact total_0 hl hx h
 ·exact total_1 hl hx h
 ·exact total_2 hl hx h
 ·exact total_3 hl hx h
 ·exact total_4 hl hx h
 ·omega
end Go.Proofs.YtngginofamlkkaaGreatDoor
