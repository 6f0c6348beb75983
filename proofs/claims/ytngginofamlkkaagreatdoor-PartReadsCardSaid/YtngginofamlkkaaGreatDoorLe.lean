/-
  Parts compared. Conditions: lists short enough that a counter does not overflow.
-/
import Derived.Test.YtngginofamlkkaaGreatDoorLd
noncomputable section
namespace Go.Proofs.YtngginofamlkkaaGreatDoor
open Go Go.RowKit
set_option maxRecDepth 100000
def vcPart : VCall := tabCall [⟨85, c_eqPts⟩, ⟨86, c_eqF⟩, ⟨87, c_Same13⟩] noCall
theorem vcPart_ok : VCallOk Tryz.prog vcPart := tabCall_ok (by
  intro e he
  simp only [List.mem_cons, List.not_mem_nil, or_false] at he
  rcases he with rfl | rfl | rfl
  · exact ok_eqPts
  · exact ok_eqF
  · exact ok_Same13) noCall_ok
theorem e_Same (p q : Part) (H : Code → List Fr → AS → Prop) (Post : Value → Prop) : vcP Tryz.prog vcPart 27 [] [partV p, partV q] H Post = (True ∧ True ∧ True ∧ True ∧ True ∧ True ∧ True ∧ True ∧ pIf (!decide (Part.id p = Part.id q)) (True ∧ True ∧ True ∧ True ∧ True ∧ True ∧ True ∧ True ∧ True ∧ True ∧ True ∧ True ∧ Post (Value.bool false)) (True ∧ True ∧ True ∧ True ∧ True ∧ True ∧ pIf (!decide (Part.rev p = Part.rev q)) (True ∧ True ∧ True ∧ True ∧ True ∧ True ∧ True ∧ True ∧ True ∧ True ∧ True ∧ Post (Value.bool false)) (True ∧ True ∧ True ∧ True ∧ True ∧ True ∧ True ∧ pIf (!decide (Part.kind p = Part.kind q)) (True ∧ True ∧ True ∧ True ∧ True ∧ True ∧ True ∧ True ∧ True ∧ Post (Value.bool false)) (True ∧ True ∧ True ∧ True ∧ True ∧ True ∧ True ∧ pIf (!decide (Part.node p = Part.node q)) (True ∧ True ∧ True ∧ True ∧ True ∧ True ∧ True ∧ Post (Value.bool false)) (True ∧ True ∧ True ∧ True ∧ True ∧ True ∧ True ∧ pIf (!decide (Part.grade p = Part.grade q)) (True ∧ True ∧ True ∧ True ∧ True ∧ Post (Value.bool false)) (True ∧ True ∧ True ∧ True ∧ True ∧ True ∧ True ∧ pIf (!decide (Part.thick p = Part.thick q)) (True ∧ True ∧ True ∧ Post (Value.bool false)) (True ∧ True ∧ True ∧ True ∧ True ∧ True ∧ pIf (!decide (Part.sect p = Part.sect q)) (True ∧ True ∧ True ∧ True ∧ True ∧ True ∧ True ∧ True ∧ True ∧ True ∧ Post (Value.bool false)) (True ∧ True ∧ True ∧ True ∧ True ∧ True ∧ pIf (!decide (Part.long p = Part.long q)) (True ∧ True ∧ True ∧ True ∧ True ∧ True ∧ True ∧ True ∧ True ∧ Post (Value.bool false)) (True ∧ True ∧ True ∧ True ∧ True ∧ True ∧ True ∧ pIf (!decide (Part.mass p = Part.mass q)) (True ∧ True ∧ True ∧ True ∧ True ∧ True ∧ True ∧ Post (Value.bool false)) (True ∧ True ∧ True ∧ True ∧ True ∧ True ∧ True ∧ pIf (!(decide (Vec3.x (Part.centre p) = Vec3.x (Part.centre q)) && (decide (Vec3.y (Part.centre p) = Vec3.y (Part.centre q)) && (decide (Vec3.z (Part.centre p) = Vec3.z (Part.centre q)) && true)))) (True ∧ True ∧ True ∧ True ∧ True ∧ Post (Value.bool false)) (True ∧ True ∧ True ∧ True ∧ True ∧ True ∧ True ∧ pIf (!(decide (Vec3.x (Part.at_ p) = Vec3.x (Part.at_ q)) && (decide (Vec3.y (Part.at_ p) = Vec3.y (Part.at_ q)) && (decide (Vec3.z (Part.at_ p) = Vec3.z (Part.at_ q)) && true)) && (decide (Part.turn p = Part.turn q) && true))) (True ∧ True ∧ True ∧ Post (Value.bool false)) (True ∧ True ∧ True ∧ True ∧ True ∧ True ∧ True ∧ ∃ (l : List Pt), ∃ (m : List Pt), eqL [trPt (Part.outer p), trPt (Part.outer q)] [trPt l, trPt m] ∧ Short l ∧ pIf (decide (l = m)) (True ∧ True ∧ True ∧ True ∧ True ∧ True ∧ True ∧ ∃ (l : List (List Pt)), ∃ (m : List (List Pt)), eqL [trPts (Part.holes p), trPts (Part.holes q), Value.func (Fn.func 85) #[] #[]] [trPts l, trPts m, Value.func (Fn.func 85) #[] #[]] ∧ Short l ∧ (∀ (x : List Pt), x ∈ l → Short x) ∧ pIf (decide (l = m)) (True ∧ True ∧ True ∧ Post (Value.bool true)) (True ∧ True ∧ True ∧ Post (Value.bool false))) (True ∧ True ∧ True ∧ True ∧ Post (Value.bool false)))))))))))))) := by kernel_rfl
theorem e_Same16 (p q : Part) (H : Code → List Fr → AS → Prop) (Post : Value → Prop) : vcP Tryz.prog vcPart 28 [] [partV p, partV q] H Post = (True ∧ True ∧ True ∧ True ∧ True ∧ True ∧ True ∧ True ∧ pIf (!decide (Part.id p = Part.id q)) (True ∧ True ∧ True ∧ True ∧ True ∧ True ∧ True ∧ True ∧ True ∧ True ∧ True ∧ True ∧ Post (Value.bool false)) (True ∧ True ∧ True ∧ True ∧ True ∧ True ∧ pIf (!decide (Part.rev p = Part.rev q)) (True ∧ True ∧ True ∧ True ∧ True ∧ True ∧ True ∧ True ∧ True ∧ True ∧ True ∧ Post (Value.bool false)) (True ∧ True ∧ True ∧ True ∧ True ∧ True ∧ True ∧ pIf (!decide (Part.kind p = Part.kind q)) (True ∧ True ∧ True ∧ True ∧ True ∧ True ∧ True ∧ True ∧ True ∧ Post (Value.bool false)) (True ∧ True ∧ True ∧ True ∧ True ∧ True ∧ True ∧ pIf (!decide (Part.node p = Part.node q)) (True ∧ True ∧ True ∧ True ∧ True ∧ True ∧ True ∧ Post (Value.bool false)) (True ∧ True ∧ True ∧ True ∧ True ∧ True ∧ True ∧ pIf (!decide (Part.grade p = Part.grade q)) (True ∧ True ∧ True ∧ True ∧ True ∧ Post (Value.bool false)) (True ∧ True ∧ True ∧ True ∧ True ∧ True ∧ True ∧ pIf (!decide (Part.thick p = Part.thick q)) (True ∧ True ∧ True ∧ Post (Value.bool false)) (True ∧ True ∧ True ∧ True ∧ True ∧ ∃ (o : List Pt), ∃ (h : List (List Pt)), ∃ (p_1 : List Pt), ∃ (g : List (List Pt)), eqL [Value.agg #[trPt (Part.outer p), trPts (Part.holes p)], Value.agg #[trPt (Part.outer q), trPts (Part.holes q)]] [shapeV o h, shapeV p_1 g] ∧ Short o ∧ Short h ∧ (∀ (x : List Pt), x ∈ h → Short x) ∧ pIf (decide (o = p_1 ∧ h = g)) (True ∧ True ∧ True ∧ True ∧ True ∧ True ∧ pIf (decide (Part.sect p = Part.sect q)) (True ∧ True ∧ True ∧ True ∧ True ∧ True ∧ True ∧ pIf (decide (Part.long p = Part.long q)) (True ∧ True ∧ True ∧ True ∧ True ∧ True ∧ True ∧ pIf (decide (Part.mass p = Part.mass q)) (True ∧ True ∧ True ∧ True ∧ True ∧ True ∧ True ∧ pIf (decide (Vec3.x (Part.centre p) = Vec3.x (Part.centre q)) && (decide (Vec3.y (Part.centre p) = Vec3.y (Part.centre q)) && (decide (Vec3.z (Part.centre p) = Vec3.z (Part.centre q)) && true))) (True ∧ True ∧ True ∧ True ∧ True ∧ True ∧ True ∧ pIf (decide (Vec3.x (Part.at_ p) = Vec3.x (Part.at_ q)) && (decide (Vec3.y (Part.at_ p) = Vec3.y (Part.at_ q)) && (decide (Vec3.z (Part.at_ p) = Vec3.z (Part.at_ q)) && true)) && (decide (Part.turn p = Part.turn q) && true)) (True ∧ True ∧ True ∧ Post (Value.bool true)) (True ∧ True ∧ True ∧ Post (Value.bool false))) (True ∧ True ∧ True ∧ True ∧ True ∧ Post (Value.bool false))) (True ∧ True ∧ True ∧ True ∧ True ∧ True ∧ True ∧ Post (Value.bool false))) (True ∧ True ∧ True ∧ True ∧ True ∧ True ∧ True ∧ True ∧ True ∧ Post (Value.bool false))) (True ∧ True ∧ True ∧ True ∧ True ∧ True ∧ True ∧ True ∧ True ∧ True ∧ True ∧ Post (Value.bool false))) (True ∧ True ∧ True ∧ True ∧ True ∧ True ∧ True ∧ True ∧ True ∧ True ∧ True ∧ True ∧ Post (Value.bool false))))))))) := by kernel_rfl

structure ShortP (p : Part) : Prop where
  outer : Short p.outer
  holes : Short p.holes
  all : ∀ x ∈ p.holes, Short x
theorem Vec3.ext' {p q : Vec3} (h1 : p.x = q.x) (h2 : p.y = q.y) (h3 : p.z = q.z) : p = q := by
  cases p; cases q; cases h1; cases h2; cases h3; rfl
theorem Part.ext' {p q : Part} (h1 : p.id = q.id) (h2 : p.rev = q.rev) (h3 : p.kind = q.kind) (h4 : p.node = q.node) (h5 : p.grade = q.grade) (h6 : p.thick = q.thick) (h7 : p.outer = q.outer) (h8 : p.holes = q.holes) (h9 : p.sect = q.sect)
    (h10 : p.long = q.long) (h11 : p.mass = q.mass) (h12 : p.centre = q.centre) (h13 : p.at_ = q.at_) (h14 : p.turn = q.turn) : p = q := by
  cases p; cases q
  simp only at h1 h2 h3 h4 h5 h6 h7 h8 h9 h10 h11 h12 h13 h14
  simp only [h1, h2, h3, h4, h5, h6, h7, h8, h9, h10, h11, h12, h13, h14]
def c_Same (args : List Value) (Post : Value → Prop) : Prop := ∃ p q : Part, args = [partV p, partV q] ∧ ShortP p ∧ Post (.bool (decide (p = q)))
theorem ok_Same : EntOk Tryz.prog ⟨27, c_Same⟩ := by
  rintro args Post ⟨p, q, rfl, hs, hP⟩
  refine pure_P (vc := vcPart) vcPart_ok mixed (by kernel_rfl) (by kernel_rfl) _ (e_Same p q _ _) ?_
  simp only [true_and, pIf_iff]
  have no : p ≠ q → Post (.bool false) := fun hn => of_b hP (decide_eq_false hn)
  refine ⟨fun h => no fun e => by subst e; simp at h, fun h1 => ?_⟩
  refine ⟨fun h => no fun e => by subst e; simp at h, fun h2 => ?_⟩
  refine ⟨fun h => no fun e => by subst e; simp at h, fun h3 => ?_⟩
  refine ⟨fun h => no fun e => by subst e; simp at h, fun h4 => ?_⟩
  refine ⟨fun h => no fun e => by subst e; simp at h, fun h5 => ?_⟩
  refine ⟨fun h => no fun e => by subst e; simp at h, fun h6 => ?_⟩
  refine ⟨fun h => no fun e => by subst e; simp at h, fun h7 => ?_⟩
  refine ⟨fun h => no fun e => by subst e; simp at h, fun h8 => ?_⟩
  refine ⟨fun h => no fun e => by subst e; simp at h, fun h9 => ?_⟩
  refine ⟨fun h => no fun e => by subst e; simp at h, fun h10 => ?_⟩
  refine ⟨fun h => no fun e => by subst e; simp at h, fun h11 => ?_⟩
  refine ⟨p.outer, q.outer, rfl, hs.outer, fun k1 => ⟨p.holes, q.holes, rfl, hs.holes, hs.all, fun k2 => ?_, fun h => no fun e => by subst e; simp at h⟩, fun h => no fun e => by subst e; simp at h⟩
  simp only [Bool.not_eq_false', Bool.and_eq_true, decide_eq_true_eq, and_true] at *
  exact of_b hP (decide_eq_true (Part.ext' h1 h2 h3 h4 h5 h6 k1 k2 h7 h8 h9 (Vec3.ext' h10.1 h10.2.1 h10.2.2) (Vec3.ext' h11.1.1 h11.1.2.1 h11.1.2.2) h11.2))
theorem ok_Same16 : EntOk Tryz.prog ⟨28, c_Same⟩ := by
  rintro args Post ⟨p, q, rfl, hs, hP⟩
  refine pure_P (vc := vcPart) vcPart_ok mixed (by kernel_rfl) (by kernel_rfl) _ (e_Same16 p q _ _) ?_
  simp only [true_and, pIf_iff]
  have no : p ≠ q → Post (.bool false) := fun hn => of_b hP (decide_eq_false hn)
  refine ⟨fun h => no fun e => by subst e; simp at h, fun h1 => ?_⟩
  refine ⟨fun h => no fun e => by subst e; simp at h, fun h2 => ?_⟩
  refine ⟨fun h => no fun e => by subst e; simp at h, fun h3 => ?_⟩
  refine ⟨fun h => no fun e => by subst e; simp at h, fun h4 => ?_⟩
  refine ⟨fun h => no fun e => by subst e; simp at h, fun h5 => ?_⟩
  refine ⟨fun h => no fun e => by subst e; simp at h, fun h6 => ?_⟩
  refine ⟨p.outer, p.holes, q.outer, q.holes, rfl, hs.outer, hs.holes, hs.all, fun k => ?_, fun h => no fun e => by subst e; simp at h⟩
  refine ⟨fun h7 => ?_, fun h => no fun e => by subst e; simp at h⟩
  refine ⟨fun h8 => ?_, fun h => no fun e => by subst e; simp at h⟩
  refine ⟨fun h9 => ?_, fun h => no fun e => by subst e; simp at h⟩
  refine ⟨fun h10 => ?_, fun h => no fun e => by subst e; simp at h⟩
  refine ⟨fun h11 => ?_, fun h => no fun e => by subst e; simp at h⟩
  simp only [Bool.not_eq_false', Bool.and_eq_true, decide_eq_true_eq, and_true] at *
  exact of_b hP (decide_eq_true (Part.ext' h1 h2 h3 h4 h5 h6 k.1 k.2 h7 h8 h9 (Vec3.ext' h10.1 h10.2.1 h10.2.2) (Vec3.ext' h11.1.1 h11.1.2.1 h11.1.2.2) h11.2))
end Go.Proofs.YtngginofamlkkaaGreatDoor
