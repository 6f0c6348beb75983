/-
  Lists of points and of contours compared (slices.EqualFunc; the reference's own). Conditions: lists short enough that a counter does not overflow.
-/
import Derived.Test.YtngginofamlkkaaGreatDoorLb
noncomputable section
namespace Go.Proofs.YtngginofamlkkaaGreatDoor
open Go Go.RowKit
set_option maxRecDepth 100000
theorem e_same (n m : Nat) (A B : Array Value) (H : Code → List Fr → AS → Prop) (Post : Value → Prop) : vcP Tryz.prog noCall 156 [(4, [0, 1, 5])] [tree 2 n A, tree 2 m B] H Post = (True ∧ True ∧ True ∧ True ∧ True ∧ True ∧ pIf (!decide ((↑n : Int) = (↑m : Int))) (True ∧ True ∧ Post (Value.bool false)) (True ∧ True ∧ True ∧ H (lpC Tryz.prog 156 4) (lpK Tryz.prog 156 4) (stV [(0, some (tree 2 n A)), (1, some (tree 2 m B)), (5, some (Value.int IntKind.i64 0))] [] 0))) := by kernel_rfl
theorem l_same (n m : Nat) (k : Int) (A B : Array Value) (H : Code → List Fr → AS → Prop) (Post : Value → Prop) : vcLP Tryz.prog noCall 156 [tree 2 n A, tree 2 m B] [(4, [0, 1, 5])] 4 (stV [(0, some (tree 2 n A)), (1, some (tree 2 m B)), (5, some (.int .i64 k))] [] 0) H Post = (True ∧ True ∧ True ∧ True ∧ pIf (decide (k < (↑n : Int))) (True ∧ True ∧ (0 ≤ k ∧ k < (↑n : Int)) ∧ (cellAt A (Int.toNat k) 0 = Value.int IntKind.i64 (toI (cellAt A (Int.toNat k) 0)) ∧ cellAt A (Int.toNat k) 1 = Value.int IntKind.i64 (toI (cellAt A (Int.toNat k) 1)) ∧ True) ∧ True ∧ True ∧ (0 ≤ k ∧ k < (↑m : Int)) ∧ (cellAt B (Int.toNat k) 0 = Value.int IntKind.i64 (toI (cellAt B (Int.toNat k) 0)) ∧ cellAt B (Int.toNat k) 1 = Value.int IntKind.i64 (toI (cellAt B (Int.toNat k) 1)) ∧ True) ∧ True ∧ pIf (!(decide (toI (cellAt A (Int.toNat k) 0) = toI (cellAt B (Int.toNat k) 0)) && (decide (toI (cellAt A (Int.toNat k) 1) = toI (cellAt B (Int.toNat k) 1)) && true))) (True ∧ True ∧ Post (Value.bool false)) (True ∧ True ∧ True ∧ True ∧ True ∧ H (lpC Tryz.prog 156 4) (lpK Tryz.prog 156 4) (stV [(0, some (tree 2 n A)), (1, some (tree 2 m B)), (5, some (Value.int IntKind.i64 (IntKind.wrap IntKind.i64 (k + 1))))] [] 0))) (True ∧ True ∧ Post (Value.bool true))) := by kernel_rfl
def cEqPts : List Ent := [⟨85, c_eqPts⟩]
theorem cEqPts_ok : ∀ e ∈ cEqPts, EntOk Tryz.prog e := by
  intro e he
  simp only [cEqPts, List.mem_cons, List.not_mem_nil, or_false] at he
  subst he
  exact ok_eqPts
def vcEqF : VCall := tabCall cEqPts noCall
theorem vcEqF_ok : VCallOk Tryz.prog vcEqF := tabCall_ok cEqPts_ok noCall_ok
theorem e_eqF (n m : Nat) (A B : Array Value) (H : Code → List Fr → AS → Prop) (Post : Value → Prop) : vcP Tryz.prog vcEqF 86 [(4, [0, 1, 2, 16, 15, 17])] [tree 1 n A, tree 1 m B, .func (.func 85) #[] #[]] H Post = (True ∧ True ∧ True ∧ True ∧ True ∧ True ∧ pIf (!decide ((↑n : Int) = (↑m : Int))) (True ∧ True ∧ Post (Value.bool false)) (True ∧ True ∧ True ∧ True ∧ True ∧ H (lpC Tryz.prog 86 4) (lpK Tryz.prog 86 4) (stV [(0, some (tree 1 n A)), (1, some (tree 1 m B)), (2, some (Value.func (Fn.func 85) #[] #[])), (15, some (tree 1 n A)), (16, some (Value.int IntKind.i64 (↑n : Int))), (17, some (Value.int IntKind.i64 0))] [] 0))) := by kernel_rfl
theorem l_eqF (n m : Nat) (k : Int) (A B : Array Value) (H : Code → List Fr → AS → Prop) (Post : Value → Prop) : vcLP Tryz.prog vcEqF 86 [tree 1 n A, tree 1 m B, .func (.func 85) #[] #[]] [(4, [0, 1, 2, 16, 15, 17])] 4 (stV [(0, some (tree 1 n A)), (1, some (tree 1 m B)), (2, some (.func (.func 85) #[] #[])), (15, some (tree 1 n A)), (16, some (.int .i64 n)), (17, some (.int .i64 k))] [] 0) H Post = (True ∧ pIf (decide (k < (↑n : Int))) (True ∧ (0 ≤ k ∧ k < (↑n : Int)) ∧ cellAt A (Int.toNat k) 0 = tree 2 (toN (cellAt A (Int.toNat k) 0)) (toE (cellAt A (Int.toNat k) 0)) ∧ True ∧ True ∧ True ∧ True ∧ (0 ≤ k ∧ k < (↑m : Int)) ∧ cellAt B (Int.toNat k) 0 = tree 2 (toN (cellAt B (Int.toNat k) 0)) (toE (cellAt B (Int.toNat k) 0)) ∧ True ∧ True ∧ True ∧ True ∧ ∃ (l : List Pt), ∃ (m_1 : List Pt), eqL [tree 2 (toN (cellAt A (Int.toNat k) 0)) (toE (cellAt A (Int.toNat k) 0)), tree 2 (toN (cellAt B (Int.toNat k) 0)) (toE (cellAt B (Int.toNat k) 0))] [trPt l, trPt m_1] ∧ Short l ∧ pIf (decide (l = m_1)) (True ∧ True ∧ True ∧ True ∧ True ∧ H (lpC Tryz.prog 86 4) (lpK Tryz.prog 86 4) (stV [(0, some (tree 1 n A)), (1, some (tree 1 m B)), (2, some (Value.func (Fn.func 85) #[] #[])), (15, some (tree 1 n A)), (16, some (Value.int IntKind.i64 (↑n : Int))), (17, some (Value.int IntKind.i64 (IntKind.wrap IntKind.i64 (k + 1))))] [] 0)) (True ∧ True ∧ True ∧ Post (Value.bool false))) (True ∧ True ∧ Post (Value.bool true))) := by kernel_rfl

theorem ok_same : EntOk Tryz.prog ⟨156, c_eqPts⟩ := by
  rintro args Post ⟨l, m, rfl, hs, h⟩
  refine pure_P (vc := noCall) noCall_ok mixed (by kernel_rfl) (by kernel_rfl) _ (e_same l.length m.length (encL l) (encL m) _ _) ?_
  simp only [true_and, pIf_iff, Bool.not_eq_true', decide_eq_false_iff_not, Bool.not_eq_false', decide_eq_true_eq]
  refine ⟨fun hne => ?_, fun heq => ?_⟩
  · rwa [decide_eq_false (fun e => hne (by rw [e]))] at h
  have hlen : l.length = m.length := by omega
  refine down (n := l.length) (p := fun k => (∀ i : Nat, i < k → l[i]? = m[i]?) → OkP 156 [trPt l, trPt m] 4 Post (stV [(0, some (trPt l)), (1, some (trPt m)), (5, some (.int .i64 k))] [] 0)) (fun hall => ?_) (fun k h1 ih hall => ?_) (fun i hi => by omega)
  · refine ok_P (vc := noCall) noCall_ok mixed _ (l_same l.length m.length l.length (encL l) (encL m) _ _) ?_
    simp only [true_and, pIf_iff, decide_eq_true_eq, decide_eq_false_iff_not]
    refine ⟨fun hlt => by omega, fun _ => ?_⟩
    rwa [decide_eq_true (list_same hlen hall)] at h
  · refine ok_P (vc := noCall) noCall_ok mixed _ (l_same l.length m.length k (encL l) (encL m) _ _) ?_
    have h2 : k < m.length := by omega
    simp only [true_and, and_true, pIf_iff, decide_eq_true_eq, decide_eq_false_iff_not, Int.toNat_natCast, cell_pt h1, cell_pt h2, toI_int, wrapSucc (show k < 2 ^ 62 by omega)]
    refine ⟨fun _ => ⟨by omega, by omega, fun hne => ?_, fun he => ?_⟩, fun h' => by omega⟩
    · rwa [decide_eq_false (ne_at h1 h2 fun e => by simp [e] at hne)] at h
    · simp at he
      exact ih (same_next h1 h2 hall (Pt.ext' he.1 he.2))
def c_eqF (args : List Value) (Post : Value → Prop) : Prop := ∃ l m : List (List Pt), args = [trPts l, trPts m, .func (.func 85) #[] #[]] ∧ Short l ∧ (∀ x ∈ l, Short x) ∧ Post (.bool (decide (l = m)))
theorem ok_eqF : EntOk Tryz.prog ⟨86, c_eqF⟩ := by
  rintro args Post ⟨l, m, rfl, hs, hs2, h⟩
  refine pure_P (vc := vcEqF) vcEqF_ok mixed (by kernel_rfl) (by kernel_rfl) _ (e_eqF l.length m.length (encL l) (encL m) _ _) ?_
  simp only [true_and, pIf_iff, Bool.not_eq_true', decide_eq_false_iff_not, Bool.not_eq_false', decide_eq_true_eq]
  refine ⟨fun hne => ?_, fun heq => ?_⟩
  · rwa [decide_eq_false (fun e => hne (by rw [e]))] at h
  have hlen : l.length = m.length := by omega
  refine down (n := l.length) (p := fun k => (∀ i : Nat, i < k → l[i]? = m[i]?) → OkP 86 [trPts l, trPts m, .func (.func 85) #[] #[]] 4 Post
    (stV [(0, some (trPts l)), (1, some (trPts m)), (2, some (.func (.func 85) #[] #[])), (15, some (trPts l)), (16, some (.int .i64 l.length)), (17, some (.int .i64 k))] [] 0)) (fun hall => ?_) (fun k h1 ih hall => ?_) (fun i hi => by omega)
  · refine ok_P (vc := vcEqF) vcEqF_ok mixed _ (l_eqF l.length m.length l.length (encL l) (encL m) _ _) ?_
    simp only [true_and, pIf_iff, decide_eq_true_eq, decide_eq_false_iff_not]
    refine ⟨fun hlt => by omega, fun _ => ?_⟩
    rwa [decide_eq_true (list_same hlen hall)] at h
  · refine ok_P (vc := vcEqF) vcEqF_ok mixed _ (l_eqF l.length m.length k (encL l) (encL m) _ _) ?_
    have h2 : k < m.length := by omega
    simp only [true_and, and_true, pIf_iff, decide_eq_true_eq, decide_eq_false_iff_not, Int.toNat_natCast, cell_pts h1, cell_pts h2, toN_tree, toE_tree, wrapSucc (show k < 2 ^ 62 by omega)]
    refine ⟨fun _ => ⟨by omega, by omega, l[k], m[k], rfl, hs2 _ (List.getElem_mem h1), fun he => ?_, fun hne => ?_⟩, fun h' => by omega⟩
    · exact ih (same_next h1 h2 hall he)
    · rwa [decide_eq_false (ne_at h1 h2 hne)] at h
end Go.Proofs.YtngginofamlkkaaGreatDoor
