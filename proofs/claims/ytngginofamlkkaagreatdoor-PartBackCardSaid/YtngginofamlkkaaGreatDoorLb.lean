/-
  slices.Equal at points: what must be shown. Conditions: none.
-/
import Derived.Test.YtngginofamlkkaaGreatDoorLa
noncomputable section
namespace Go.Proofs.YtngginofamlkkaaGreatDoor
open Go Go.RowKit
set_option maxRecDepth 100000
theorem e_eqPts (n m : Nat) (A B : Array Value) (H : Code → List Fr → AS → Prop) (Post : Value → Prop) : vcP Tryz.prog noCall 85 [(4, [0, 1, 12, 13])] [tree 2 n A, tree 2 m B] H Post = (True ∧ True ∧ True ∧ True ∧ True ∧ True ∧ pIf (!decide ((↑n : Int) = (↑m : Int))) (True ∧ True ∧ Post (Value.bool false)) (True ∧ True ∧ True ∧ True ∧ True ∧ H (lpC Tryz.prog 85 4) (lpK Tryz.prog 85 4) (stV [(0, some (tree 2 n A)), (1, some (tree 2 m B)), (12, some (Value.int IntKind.i64 (↑n : Int))), (13, some (Value.int IntKind.i64 0))] [] 0))) := by kernel_rfl
theorem l_eqPts (n m : Nat) (k : Int) (A B : Array Value) (H : Code → List Fr → AS → Prop) (Post : Value → Prop) : vcLP Tryz.prog noCall 85 [tree 2 n A, tree 2 m B] [(4, [0, 1, 12, 13])] 4 (stV [(0, some (tree 2 n A)), (1, some (tree 2 m B)), (12, some (.int .i64 n)), (13, some (.int .i64 k))] [] 0) H Post = (True ∧ pIf (decide (k < (↑n : Int))) (True ∧ True ∧ True ∧ True ∧ (0 ≤ k ∧ k < (↑n : Int)) ∧ (cellAt A (Int.toNat k) 0 = Value.int IntKind.i64 (toI (cellAt A (Int.toNat k) 0)) ∧ cellAt A (Int.toNat k) 1 = Value.int IntKind.i64 (toI (cellAt A (Int.toNat k) 1)) ∧ True) ∧ True ∧ True ∧ (0 ≤ k ∧ k < (↑m : Int)) ∧ (cellAt B (Int.toNat k) 0 = Value.int IntKind.i64 (toI (cellAt B (Int.toNat k) 0)) ∧ cellAt B (Int.toNat k) 1 = Value.int IntKind.i64 (toI (cellAt B (Int.toNat k) 1)) ∧ True) ∧ True ∧ pIf (!(decide (toI (cellAt A (Int.toNat k) 0) = toI (cellAt B (Int.toNat k) 0)) && (decide (toI (cellAt A (Int.toNat k) 1) = toI (cellAt B (Int.toNat k) 1)) && true))) (True ∧ True ∧ Post (Value.bool false)) (True ∧ True ∧ True ∧ True ∧ H (lpC Tryz.prog 85 4) (lpK Tryz.prog 85 4) (stV [(0, some (tree 2 n A)), (1, some (tree 2 m B)), (12, some (Value.int IntKind.i64 (↑n : Int))), (13, some (Value.int IntKind.i64 (IntKind.wrap IntKind.i64 (k + 1))))] [] 0))) (True ∧ True ∧ Post (Value.bool true))) := by kernel_rfl

def c_eqPts (args : List Value) (Post : Value → Prop) : Prop := ∃ l m : List Pt, args = [trPt l, trPt m] ∧ Short l ∧ Post (.bool (decide (l = m)))
theorem ok_eqPts : EntOk Tryz.prog ⟨85, c_eqPts⟩ := by
  rintro args Post ⟨l, m, rfl, hs, h⟩
  refine pure_P (vc := noCall) noCall_ok mixed (by kernel_rfl) (by kernel_rfl) _ (e_eqPts l.length m.length (encL l) (encL m) _ _) ?_
  simp only [true_and, pIf_iff, Bool.not_eq_true', decide_eq_false_iff_not, Bool.not_eq_false', decide_eq_true_eq]
  refine ⟨fun hne => ?_, fun heq => ?_⟩
  · rwa [decide_eq_false (fun e => hne (by rw [e]))] at h
  · have heq : l.length = m.length := by omega
    have key : ∀ j k : Nat, k + j = l.length → (∀ i : Nat, i < k → l[i]? = m[i]?) → OkP 85 [trPt l, trPt m] 4 Post (stV [(0, some (trPt l)), (1, some (trPt m)), (12, some (.int .i64 l.length)), (13, some (.int .i64 k))] [] 0) := by
      intro j
      induction j with
      | zero =>
        intro k hk hall
        refine ok_P (vc := noCall) noCall_ok mixed _ (l_eqPts l.length m.length k (encL l) (encL m) _ _) ?_
        simp only [true_and, pIf_iff, decide_eq_true_eq, decide_eq_false_iff_not]
        refine ⟨fun hlt => by omega, fun _ => ?_⟩
        have : l = m := List.ext_getElem? fun i => by
          rcases Nat.lt_or_ge i k with h' | h'
          · exact hall i h'
          · rw [List.getElem?_eq_none (by omega), List.getElem?_eq_none (by omega)]
        rwa [decide_eq_true this] at h
      | succ j ih =>
        intro k hk hall
        refine ok_P (vc := noCall) noCall_ok mixed _ (l_eqPts l.length m.length k (encL l) (encL m) _ _) ?_
        have h1 : k < l.length := by omega
        have h2 : k < m.length := by omega
        simp only [true_and, and_true, pIf_iff, decide_eq_true_eq, decide_eq_false_iff_not, Int.toNat_natCast, cell_pt h1, cell_pt h2, toI]
        refine ⟨fun _ => ⟨by omega, by omega, fun hne => ?_, fun heq2 => ?_⟩, fun h' => by omega⟩
        · have : l ≠ m := fun e => by subst e; simp at hne
          rwa [decide_eq_false this] at h
        · rw [wrapSucc (by omega)]
          refine ih (k + 1) (by omega) fun i hi => ?_
          rcases Nat.lt_or_ge i k with h' | h'
          · exact hall i h'
          · have : i = k := by omega
            subst this
            simp at heq2
            rw [List.getElem?_eq_getElem h1, List.getElem?_eq_getElem h2]
            exact congrArg some (Pt.ext' heq2.1 heq2.2)
    exact key l.length 0 (by omega) (fun i hi => by omega)
end Go.Proofs.YtngginofamlkkaaGreatDoor
