/-
  Shapes and parts compared. Conditions: lists short enough that a counter does not overflow.
-/
import Derived.Test.YtngginofamlkkaaGreatDoorLc
noncomputable section
namespace Go.Proofs.YtngginofamlkkaaGreatDoor
open Go Go.RowKit
set_option maxRecDepth 100000
def vcSame : VCall := tabCall [⟨156, c_eqPts⟩] noCall
theorem vcSame_ok : VCallOk Tryz.prog vcSame := tabCall_ok (by
  intro e he
  simp only [List.mem_cons, List.not_mem_nil, or_false] at he
  subst he
  exact ok_same) noCall_ok
theorem e_Same13 (o h p g : Array Value) (no nh np ng : Nat) (H : Code → List Fr → AS → Prop) (Post : Value → Prop) : vcP Tryz.prog vcSame 87 [(4, [2, 3, 5])] [.agg [tree 2 no o, tree 1 nh h].toArray, .agg [tree 2 np p, tree 1 ng g].toArray] H Post = (True ∧ True ∧ True ∧ True ∧ True ∧ True ∧ True ∧ ∃ (l : List Pt), ∃ (m : List Pt), eqL [tree 2 no o, tree 2 np p] [trPt l, trPt m] ∧ Short l ∧ pIf (decide (l = m)) (True ∧ True ∧ True ∧ True ∧ True ∧ True ∧ True ∧ True ∧ True ∧ pIf (!decide ((↑nh : Int) = (↑ng : Int))) (True ∧ True ∧ True ∧ Post (Value.bool false)) (True ∧ True ∧ True ∧ (True ∧ True ∧ True) ∧ H (lpC Tryz.prog 87 4) (lpK Tryz.prog 87 4) (stV [(2, some (Value.pointer (some (Addr.mk 0 0 none)))), (3, some (Value.pointer (some (Addr.mk 1 0 none)))), (5, some (Value.int IntKind.i64 0))] [(0, some (AObj.cells [tree 2 no o, tree 1 nh h] true)), (1, some (AObj.cells [tree 2 np p, tree 1 ng g] true))] 2))) (True ∧ True ∧ True ∧ True ∧ True ∧ Post (Value.bool false))) := by kernel_rfl
theorem l_Same13 (o h p g : Array Value) (no nh np ng : Nat) (k : Int) (H : Code → List Fr → AS → Prop) (Post : Value → Prop) : vcLP Tryz.prog vcSame 87 [.agg [tree 2 no o, tree 1 nh h].toArray, .agg [tree 2 np p, tree 1 ng g].toArray] [(4, [2, 3, 5])] 4 (stV [(2, some (.pointer (some ⟨0, 0, none⟩))), (3, some (.pointer (some ⟨1, 0, none⟩))), (5, some (.int .i64 k))] [(0, some (.cells [tree 2 no o, tree 1 nh h] true)), (1, some (.cells [tree 2 np p, tree 1 ng g] true))] 2) H Post = (True ∧ True ∧ True ∧ True ∧ True ∧ pIf (decide (k < (↑nh : Int))) (True ∧ True ∧ True ∧ (0 ≤ k ∧ k < (↑nh : Int)) ∧ cellAt h (Int.toNat k) 0 = tree 2 (toN (cellAt h (Int.toNat k) 0)) (toE (cellAt h (Int.toNat k) 0)) ∧ True ∧ True ∧ True ∧ (0 ≤ k ∧ k < (↑ng : Int)) ∧ cellAt g (Int.toNat k) 0 = tree 2 (toN (cellAt g (Int.toNat k) 0)) (toE (cellAt g (Int.toNat k) 0)) ∧ ∃ (l : List Pt), ∃ (m : List Pt), eqL [tree 2 (toN (cellAt h (Int.toNat k) 0)) (toE (cellAt h (Int.toNat k) 0)), tree 2 (toN (cellAt g (Int.toNat k) 0)) (toE (cellAt g (Int.toNat k) 0))] [trPt l, trPt m] ∧ Short l ∧ pIf (decide (l = m)) (True ∧ True ∧ True ∧ True ∧ True ∧ True ∧ (True ∧ True ∧ True) ∧ H (lpC Tryz.prog 87 4) (lpK Tryz.prog 87 4) (stV [(2, some (Value.pointer (some (Addr.mk 0 0 none)))), (3, some (Value.pointer (some (Addr.mk 1 0 none)))), (5, some (Value.int IntKind.i64 (IntKind.wrap IntKind.i64 (k + 1))))] [(0, some (AObj.cells [tree 2 no o, tree 1 nh h] true)), (1, some (AObj.cells [tree 2 np p, tree 1 ng g] true))] 2)) (True ∧ True ∧ True ∧ True ∧ Post (Value.bool false))) (True ∧ True ∧ Post (Value.bool true))) := by kernel_rfl
theorem e_Few16 (p : Part) (H : Code → List Fr → AS → Prop) (Post : Value → Prop) : vcP Tryz.prog noCall 24 [(4, [1, 3])] [partV p] H Post = (True ∧ True ∧ True ∧ True ∧ True ∧ True ∧ pIf (decide ((↑(ByteArray.size (Part.id p)) : Int) > 200)) (True ∧ True ∧ True ∧ True ∧ True ∧ True ∧ True ∧ True ∧ True ∧ True ∧ True ∧ True ∧ Post (Value.bool false)) (True ∧ True ∧ True ∧ True ∧ True ∧ pIf (decide ((↑(ByteArray.size (Part.node p)) : Int) > 200)) (True ∧ True ∧ True ∧ True ∧ True ∧ True ∧ True ∧ True ∧ True ∧ True ∧ True ∧ Post (Value.bool false)) (True ∧ True ∧ True ∧ True ∧ True ∧ True ∧ pIf (decide ((↑(ByteArray.size (Part.grade p)) : Int) > 200)) (True ∧ True ∧ True ∧ True ∧ True ∧ True ∧ True ∧ True ∧ True ∧ Post (Value.bool false)) (True ∧ True ∧ True ∧ True ∧ True ∧ True ∧ pIf (decide ((↑(ByteArray.size (Part.sect p)) : Int) > 200)) (True ∧ True ∧ True ∧ True ∧ True ∧ True ∧ True ∧ Post (Value.bool false)) (True ∧ True ∧ True ∧ True ∧ True ∧ True ∧ True ∧ pIf (decide ((↑(List.length (Part.outer p)) : Int) > 40)) (True ∧ True ∧ True ∧ True ∧ True ∧ Post (Value.bool false)) (True ∧ True ∧ True ∧ True ∧ True ∧ True ∧ True ∧ pIf (decide ((↑(List.length (Part.holes p)) : Int) > 12)) (True ∧ True ∧ True ∧ Post (Value.bool false)) (True ∧ True ∧ True ∧ (True ∧ True) ∧ H (lpC Tryz.prog 24 4) (lpK Tryz.prog 24 4) (stV [(1, some (Value.pointer (some (Addr.mk 0 0 none)))), (3, some (Value.int IntKind.i64 0))] [(0, some (AObj.cells [Value.string (Part.id p), Value.int IntKind.i64 (Part.rev p), Value.int IntKind.i64 (Part.kind p), Value.string (Part.node p), Value.string (Part.grade p), Value.int IntKind.i64 (Part.thick p), tree 2 (List.length (Part.outer p)) (encL (Part.outer p)), tree 1 (List.length (Part.holes p)) (encL (Part.holes p)), Value.string (Part.sect p), Value.int IntKind.i64 (Part.long p), Value.int IntKind.i64 (Part.mass p), Value.int IntKind.i64 (Vec3.x (Part.centre p)), Value.int IntKind.i64 (Vec3.y (Part.centre p)), Value.int IntKind.i64 (Vec3.z (Part.centre p)), Value.int IntKind.i64 (Vec3.x (Part.at_ p)), Value.int IntKind.i64 (Vec3.y (Part.at_ p)), Value.int IntKind.i64 (Vec3.z (Part.at_ p)), Value.int IntKind.i64 (Part.turn p)] true))] 1)))))))) := by kernel_rfl
theorem l_Few16 (p : Part) (k : Int) (H : Code → List Fr → AS → Prop) (Post : Value → Prop) : vcLP Tryz.prog noCall 24 [partV p] [(4, [1, 3])] 4 (stV [(1, some (.pointer (some ⟨0, 0, none⟩))), (3, some (.int .i64 k))] [(0, some (.cells (partC p) true))] 1) H Post = (True ∧ True ∧ True ∧ True ∧ True ∧ True ∧ pIf (decide (k < (↑(List.length (Part.holes p)) : Int))) (True ∧ True ∧ True ∧ True ∧ (0 ≤ k ∧ k < (↑(List.length (Part.holes p)) : Int)) ∧ cellAt (encL (Part.holes p)) (Int.toNat k) 0 = tree 2 (toN (cellAt (encL (Part.holes p)) (Int.toNat k) 0)) (toE (cellAt (encL (Part.holes p)) (Int.toNat k) 0)) ∧ True ∧ True ∧ pIf (decide ((↑(toN (cellAt (encL (Part.holes p)) (Int.toNat k) 0)) : Int) > 40)) (True ∧ True ∧ Post (Value.bool false)) (True ∧ True ∧ True ∧ True ∧ (True ∧ True) ∧ H (lpC Tryz.prog 24 4) (lpK Tryz.prog 24 4) (stV [(1, some (Value.pointer (some (Addr.mk 0 0 none)))), (3, some (Value.int IntKind.i64 (IntKind.wrap IntKind.i64 (k + 1))))] [(0, some (AObj.cells [Value.string (Part.id p), Value.int IntKind.i64 (Part.rev p), Value.int IntKind.i64 (Part.kind p), Value.string (Part.node p), Value.string (Part.grade p), Value.int IntKind.i64 (Part.thick p), tree 2 (List.length (Part.outer p)) (encL (Part.outer p)), tree 1 (List.length (Part.holes p)) (encL (Part.holes p)), Value.string (Part.sect p), Value.int IntKind.i64 (Part.long p), Value.int IntKind.i64 (Part.mass p), Value.int IntKind.i64 (Vec3.x (Part.centre p)), Value.int IntKind.i64 (Vec3.y (Part.centre p)), Value.int IntKind.i64 (Vec3.z (Part.centre p)), Value.int IntKind.i64 (Vec3.x (Part.at_ p)), Value.int IntKind.i64 (Vec3.y (Part.at_ p)), Value.int IntKind.i64 (Vec3.z (Part.at_ p)), Value.int IntKind.i64 (Part.turn p)] true))] 1))) (True ∧ True ∧ Post (Value.bool true))) := by kernel_rfl

def c_Same13 (args : List Value) (Post : Value → Prop) : Prop := ∃ (o : List Pt) (h : List (List Pt)) (p : List Pt) (g : List (List Pt)), args = [shapeV o h, shapeV p g] ∧ Short o ∧ Short h ∧ (∀ x ∈ h, Short x) ∧ Post (.bool (decide (o = p ∧ h = g)))
theorem ok_Same13 : EntOk Tryz.prog ⟨87, c_Same13⟩ := by
  rintro args Post ⟨o, h, p, g, rfl, hs, hs1, hs2, hP⟩
  refine pure_P (vc := vcSame) vcSame_ok mixed (by kernel_rfl) (by kernel_rfl) _ (e_Same13 (encL o) (encL h) (encL p) (encL g) o.length h.length p.length g.length _ _) ?_
  simp only [true_and, pIf_iff, Bool.not_eq_true', decide_eq_false_iff_not, Bool.not_eq_false', decide_eq_true_eq]
  refine ⟨o, p, rfl, hs, fun he => ⟨fun hne => ?_, fun heq => ?_⟩, fun hne => ?_⟩
  · exact of_b hP (decide_eq_false fun e => hne (by rw [e.2]))
  · have hlen : h.length = g.length := by omega
    refine down (n := h.length) (p := fun k => (∀ i : Nat, i < k → h[i]? = g[i]?) → OkP 87 [shapeV o h, shapeV p g] 4 Post
      (stV [(2, some (.pointer (some ⟨0, 0, none⟩))), (3, some (.pointer (some ⟨1, 0, none⟩))), (5, some (.int .i64 k))] [(0, some (.cells [trPt o, trPts h] true)), (1, some (.cells [trPt p, trPts g] true))] 2)) (fun hall => ?_) (fun k h1 ih hall => ?_) (fun i hi => by omega)
    · refine ok_P (vc := vcSame) vcSame_ok mixed _ (l_Same13 (encL o) (encL h) (encL p) (encL g) o.length h.length p.length g.length h.length _ _) ?_
      simp only [true_and, pIf_iff, decide_eq_true_eq, decide_eq_false_iff_not]
      exact ⟨fun hlt => by omega, fun _ => of_b hP (decide_eq_true ⟨he, list_same hlen hall⟩)⟩
    · refine ok_P (vc := vcSame) vcSame_ok mixed _ (l_Same13 (encL o) (encL h) (encL p) (encL g) o.length h.length p.length g.length k _ _) ?_
      have h2 : k < g.length := by omega
      simp only [true_and, and_true, pIf_iff, decide_eq_true_eq, decide_eq_false_iff_not, Int.toNat_natCast, cell_pts h1, cell_pts h2, toN_tree, toE_tree, wrapSucc (show k < 2 ^ 62 by omega)]
      refine ⟨fun _ => ⟨by omega, by omega, h[k], g[k], rfl, hs2 _ (List.getElem_mem h1), fun he => ?_, fun hne => ?_⟩, fun h' => by omega⟩
      · exact ih (same_next h1 h2 hall he)
      · exact of_b hP (decide_eq_false fun e => ne_at h1 h2 hne e.2)
  · exact of_b hP (decide_eq_false fun e => hne e.1)
def few16 (p : Part) : Prop := p.id.size ≤ 200 ∧ p.node.size ≤ 200 ∧ p.grade.size ≤ 200 ∧ p.sect.size ≤ 200 ∧ p.outer.length ≤ 40 ∧ p.holes.length ≤ 12 ∧ ∀ h ∈ p.holes, h.length ≤ 40
instance (p : Part) : Decidable (few16 p) := by unfold few16; infer_instance
def c_Few16 (args : List Value) (Post : Value → Prop) : Prop := ∃ p : Part, args = [partV p] ∧ Post (.bool (decide (few16 p)))
theorem ok_Few16 : EntOk Tryz.prog ⟨24, c_Few16⟩ := by
  rintro args Post ⟨p, rfl, hP⟩
  refine pure_P (vc := noCall) noCall_ok mixed (by kernel_rfl) (by kernel_rfl) _ (e_Few16 p _ _) ?_
  simp only [true_and, pIf_iff, decide_eq_false_iff_not, decide_eq_true_eq]
  have no : ¬ few16 p → Post (.bool false) := fun hn => of_b hP (decide_eq_false hn)
  refine ⟨fun h => no fun f => ?_, fun h1 => ⟨fun h => no fun f => ?_, fun h2 => ⟨fun h => no fun f => ?_, fun h3 => ⟨fun h => no fun f => ?_, fun h4 => ⟨fun h => no fun f => ?_, fun h5 => ⟨fun h => no fun f => ?_, fun h6 => ?_⟩⟩⟩⟩⟩⟩
  · have := f.1; omega
  · have := f.2.1; omega
  · have := f.2.2.1; omega
  · have := f.2.2.2.1; omega
  · have := f.2.2.2.2.1; omega
  · have := f.2.2.2.2.2.1; omega
  · refine down (n := p.holes.length) (p := fun k => (∀ i (hi : i < p.holes.length), i < k → p.holes[i].length ≤ 40) → OkP 24 [partV p] 4 Post
      (stV [(1, some (.pointer (some ⟨0, 0, none⟩))), (3, some (.int .i64 k))] [(0, some (.cells (partC p) true))] 1)) (fun hall => ?_) (fun k h1 ih hall => ?_) (fun i hi h0 => by omega)
    · refine ok_P (vc := noCall) noCall_ok mixed _ (l_Few16 p p.holes.length _ _) ?_
      simp only [true_and, pIf_iff, decide_eq_true_eq, decide_eq_false_iff_not]
      refine ⟨fun hlt => by omega, fun _ => of_b hP (decide_eq_true ⟨by omega, by omega, by omega, by omega, by omega, by omega, fun h hh => ?_⟩)⟩
      obtain ⟨i, hi, rfl⟩ := List.mem_iff_getElem.1 hh
      exact hall i hi hi
    · refine ok_P (vc := noCall) noCall_ok mixed _ (l_Few16 p k _ _) ?_
      simp only [true_and, and_true, pIf_iff, decide_eq_true_eq, decide_eq_false_iff_not, Int.toNat_natCast, cell_pts h1, toN_tree, toE_tree, wrapSucc (show k < 2 ^ 62 by omega)]
      refine ⟨fun _ => ⟨by omega, fun hl => no fun f => ?_, fun hl => ih fun i hi hik => ?_⟩, fun h' => by omega⟩
      · have := f.2.2.2.2.2.2 _ (List.getElem_mem h1); omega
      · rcases Nat.lt_or_ge i k with h' | h'
        · exact hall i hi h'
        · have : i = k := by omega
          subst this
          omega
end Go.Proofs.YtngginofamlkkaaGreatDoor
