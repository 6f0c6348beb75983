/-
  Lists of points and of contours compared (slices.EqualFunc; the reference's own). Conditions: lists short enough that a counter does not overflow.
-/
import Derived.Test.YtegjnjmimfgijaaGreatDoorLb
noncomputable section
namespace Go.Proofs.YtegjnjmimfgijaaGreatDoor
open Go Go.RowKit
set_option maxRecDepth 100000
theorem e_same (n m : Nat) (A B : Array Value) (H : Code → List Fr → AS → Prop) (Post : Value → Prop) : vcP Tryz.prog noCall 105 [(4, [0, 1, 5])] [tree 2 n A, tree 2 m B] H Post = (True ∧ True ∧ True ∧ True ∧ True ∧ True ∧ pIf (!decide ((↑n : Int) = (↑m : Int))) (True ∧ True ∧ Post (Value.bool false)) (True ∧ True ∧ True ∧ H (lpC Tryz.prog 105 4) (lpK Tryz.prog 105 4) (stV [(0, some (tree 2 n A)), (1, some (tree 2 m B)), (5, some (Value.int IntKind.i64 0))] [] 0))) := by kernel_rfl
theorem l_same (n m : Nat) (k : Int) (A B : Array Value) (H : Code → List Fr → AS → Prop) (Post : Value → Prop) : vcLP Tryz.prog noCall 105 [tree 2 n A, tree 2 m B] [(4, [0, 1, 5])] 4 (stV [(0, some (tree 2 n A)), (1, some (tree 2 m B)), (5, some (.int .i64 k))] [] 0) H Post = (True ∧ True ∧ True ∧ True ∧ pIf (decide (k < (↑n : Int))) (True ∧ True ∧ (0 ≤ k ∧ k < (↑n : Int)) ∧ (cellAt A (Int.toNat k) 0 = Value.int IntKind.i64 (toI (cellAt A (Int.toNat k) 0)) ∧ cellAt A (Int.toNat k) 1 = Value.int IntKind.i64 (toI (cellAt A (Int.toNat k) 1)) ∧ True) ∧ True ∧ True ∧ (0 ≤ k ∧ k < (↑m : Int)) ∧ (cellAt B (Int.toNat k) 0 = Value.int IntKind.i64 (toI (cellAt B (Int.toNat k) 0)) ∧ cellAt B (Int.toNat k) 1 = Value.int IntKind.i64 (toI (cellAt B (Int.toNat k) 1)) ∧ True) ∧ True ∧ pIf (!(decide (toI (cellAt A (Int.toNat k) 0) = toI (cellAt B (Int.toNat k) 0)) && (decide (toI (cellAt A (Int.toNat k) 1) = toI (cellAt B (Int.toNat k) 1)) && true))) (True ∧ True ∧ Post (Value.bool false)) (True ∧ True ∧ True ∧ True ∧ True ∧ H (lpC Tryz.prog 105 4) (lpK Tryz.prog 105 4) (stV [(0, some (tree 2 n A)), (1, some (tree 2 m B)), (5, some (Value.int IntKind.i64 (IntKind.wrap IntKind.i64 (k + 1))))] [] 0))) (True ∧ True ∧ Post (Value.bool true))) := by kernel_rfl
theorem ok_same : EntOk Tryz.prog ⟨105, c_eqPts⟩ := by
  rintro args Post ⟨l, m, rfl, hs, h⟩
  refine pure_P (vc := noCall) noCall_ok mixed (by kernel_rfl) (by kernel_rfl) _ (e_same l.length m.length (encL l) (encL m) _ _) ?_
  simp only [true_and, pIf_iff, Bool.not_eq_true', decide_eq_false_iff_not, Bool.not_eq_false', decide_eq_true_eq]
  refine ⟨fun hne => ?_, fun heq => ?_⟩
  · rwa [decide_eq_false (fun e => hne (by rw [e]))] at h
  have hlen : l.length = m.length := by omega
  refine down (n := l.length) (p := fun k => (∀ i : Nat, i < k → l[i]? = m[i]?) → OkP 105 [trPt l, trPt m] 4 Post (stV [(0, some (trPt l)), (1, some (trPt m)), (5, some (.int .i64 k))] [] 0)) (fun hall => ?_) (fun k h1 ih hall => ?_) (fun i hi => by omega)
  · refine ok_P (vc := noCall) noCall_ok mixed _ (l_same l.length m.length l.length (encL l) (encL m) _ _) ?_
    simp only [true_and, pIf_iff, decide_eq_true_eq, decide_eq_false_iff_not]
    refine ⟨fun hlt => by omega, fun _ => ?_⟩
    rwa [decide_eq_true (list_same hlen hall)] at h
  · refine ok_P (vc := noCall) noCall_ok mixed _ (l_same l.length m.length k (encL l) (encL m) _ _) ?_
    have h2 : k < m.length := by omega
    simp only [true_and, and_true, pIf_iff, decide_eq_true_eq, decide_eq_false_iff_not, Int.toNat_natCast, cell_pt h1, cell_pt h2, toI_int, wrapSucc (show k < 2 ^ 62 by omega)]
    refine ⟨fun _ => ⟨by omega, by omega, fun hne => ?_, fun he => ?_⟩, fun h' => by omega⟩
    · rwa [decide_eq_false (ne_at h1 h2 fun e => by simp [e] at hne)] at h
    · simp at he
      exact ih (same_next h1 h2 hall (Pt.ext' he.1 he.2))
end Go.Proofs.YtegjnjmimfgijaaGreatDoor
