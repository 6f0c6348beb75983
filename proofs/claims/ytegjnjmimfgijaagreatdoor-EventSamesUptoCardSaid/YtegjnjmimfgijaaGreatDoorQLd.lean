/-
  Shapes and parts compared. Conditions: lists short enough that a counter does not overflow. Parts compared. Conditions: lists short enough that a counter does not overflow. part.Encode and the document's Encode return the same bytes. Conditions: a part within the document's limits. part.Encode and the document's Encode return the same bytes, for larger parts. Conditions: a part with few corners and holes, and strings of eight million bytes. Events and change orders as data. Conditions: as each theorem states them. edit.list, edit.Encode, and the document's. Conditions: an edit with few corners, holes and names, and strings of eight million bytes. Symbolic runs, part 12: calls through interfaces, and calls that may panic. Conditions: as each theorem states them. Symbolic runs, part 13: contracts of functions that may panic, and whose blocks point to one another. Conditions: as each theorem states them.
-/
import Derived.Test.YtegjnjmimfgijaaGreatDoorLc
import Derived.Test.YtegjnjmimfgijaaGreatDoorOd
import Derived.Test.YtegjnjmimfgijaaGreatDoorMb
import Derived.Test.YtegjnjmimfgijaaGreatDoorSn
noncomputable section
namespace Go.Proofs.YtegjnjmimfgijaaGreatDoor
open Go Go.RowKit
set_option maxRecDepth 100000
def vcSame : VCall := tabCall [⟨105, c_eqPts⟩] noCall
theorem vcSame_ok : VCallOk Tryz.prog vcSame := tabCall_ok (by
  intro e he
  simp only [List.mem_cons, List.not_mem_nil, or_false] at he
  subst he
  exact ok_same) noCall_ok
theorem e_Same13 (o h p g : Array Value) (no nh np ng : Nat) (H : Code → List Fr → AS → Prop) (Post : Value → Prop) : vcP Tryz.prog vcSame 100 [(4, [2, 3, 5])] [.agg [tree 2 no o, tree 1 nh h].toArray, .agg [tree 2 np p, tree 1 ng g].toArray] H Post = (True ∧ True ∧ True ∧ True ∧ True ∧ True ∧ True ∧ ∃ (l : List Pt), ∃ (m : List Pt), eqL [tree 2 no o, tree 2 np p] [trPt l, trPt m] ∧ Short l ∧ pIf (decide (l = m)) (True ∧ True ∧ True ∧ True ∧ True ∧ True ∧ True ∧ True ∧ True ∧ pIf (!decide ((↑nh : Int) = (↑ng : Int))) (True ∧ True ∧ True ∧ Post (Value.bool false)) (True ∧ True ∧ True ∧ (True ∧ True ∧ True) ∧ H (lpC Tryz.prog 100 4) (lpK Tryz.prog 100 4) (stV [(2, some (Value.pointer (some (Addr.mk 0 0 none)))), (3, some (Value.pointer (some (Addr.mk 1 0 none)))), (5, some (Value.int IntKind.i64 0))] [(0, some (AObj.cells [tree 2 no o, tree 1 nh h] true)), (1, some (AObj.cells [tree 2 np p, tree 1 ng g] true))] 2))) (True ∧ True ∧ True ∧ True ∧ True ∧ Post (Value.bool false))) := by kernel_rfl
theorem l_Same13 (o h p g : Array Value) (no nh np ng : Nat) (k : Int) (H : Code → List Fr → AS → Prop) (Post : Value → Prop) : vcLP Tryz.prog vcSame 100 [.agg [tree 2 no o, tree 1 nh h].toArray, .agg [tree 2 np p, tree 1 ng g].toArray] [(4, [2, 3, 5])] 4 (stV [(2, some (.pointer (some ⟨0, 0, none⟩))), (3, some (.pointer (some ⟨1, 0, none⟩))), (5, some (.int .i64 k))] [(0, some (.cells [tree 2 no o, tree 1 nh h] true)), (1, some (.cells [tree 2 np p, tree 1 ng g] true))] 2) H Post = (True ∧ True ∧ True ∧ True ∧ True ∧ pIf (decide (k < (↑nh : Int))) (True ∧ True ∧ True ∧ (0 ≤ k ∧ k < (↑nh : Int)) ∧ cellAt h (Int.toNat k) 0 = tree 2 (toN (cellAt h (Int.toNat k) 0)) (toE (cellAt h (Int.toNat k) 0)) ∧ True ∧ True ∧ True ∧ (0 ≤ k ∧ k < (↑ng : Int)) ∧ cellAt g (Int.toNat k) 0 = tree 2 (toN (cellAt g (Int.toNat k) 0)) (toE (cellAt g (Int.toNat k) 0)) ∧ ∃ (l : List Pt), ∃ (m : List Pt), eqL [tree 2 (toN (cellAt h (Int.toNat k) 0)) (toE (cellAt h (Int.toNat k) 0)), tree 2 (toN (cellAt g (Int.toNat k) 0)) (toE (cellAt g (Int.toNat k) 0))] [trPt l, trPt m] ∧ Short l ∧ pIf (decide (l = m)) (True ∧ True ∧ True ∧ True ∧ True ∧ True ∧ (True ∧ True ∧ True) ∧ H (lpC Tryz.prog 100 4) (lpK Tryz.prog 100 4) (stV [(2, some (Value.pointer (some (Addr.mk 0 0 none)))), (3, some (Value.pointer (some (Addr.mk 1 0 none)))), (5, some (Value.int IntKind.i64 (IntKind.wrap IntKind.i64 (k + 1))))] [(0, some (AObj.cells [tree 2 no o, tree 1 nh h] true)), (1, some (AObj.cells [tree 2 np p, tree 1 ng g] true))] 2)) (True ∧ True ∧ True ∧ True ∧ Post (Value.bool false))) (True ∧ True ∧ Post (Value.bool true))) := by kernel_rfl
def c_Same13 (args : List Value) (Post : Value → Prop) : Prop := ∃ (o : List Pt) (h : List (List Pt)) (p : List Pt) (g : List (List Pt)), args = [shapeV o h, shapeV p g] ∧ Short o ∧ Short h ∧ (∀ x ∈ h, Short x) ∧ Post (.bool (decide (o = p ∧ h = g)))
theorem ok_Same13 : EntOk Tryz.prog ⟨100, c_Same13⟩ := by
  rintro args Post ⟨o, h, p, g, rfl, hs, hs1, hs2, hP⟩
  refine pure_P (vc := vcSame) vcSame_ok mixed (by kernel_rfl) (by kernel_rfl) _ (e_Same13 (encL o) (encL h) (encL p) (encL g) o.length h.length p.length g.length _ _) ?_
  simp only [true_and, pIf_iff, Bool.not_eq_true', decide_eq_false_iff_not, Bool.not_eq_false', decide_eq_true_eq]
  refine ⟨o, p, rfl, hs, fun he => ⟨fun hne => ?_, fun heq => ?_⟩, fun hne => ?_⟩
  · exact of_b hP (decide_eq_false fun e => hne (by rw [e.2]))
  · have hlen : h.length = g.length := by omega
    refine down (n := h.length) (p := fun k => (∀ i : Nat, i < k → h[i]? = g[i]?) → OkP 100 [shapeV o h, shapeV p g] 4 Post
      (stV [(2, some (.pointer (some ⟨0, 0, none⟩))), (3, some (.pointer (some ⟨1, 0, none⟩))), (5, some (.int .i64 k))] [(0, some (.cells [trPt o, trPts h] true)), (1, some (.cells [trPt p, trPts g] true))] 2)) (fun hall => ?_) (fun k h1 ih hall => ?_) (fun i hi => by omega)
    · refine ok_P (vc := vcSame) vcSame_ok mixed _ (l_Same13 (encL o) (encL h) (encL p) (encL g) o.length h.length p.length g.length h.length _ _) ?_
      simp only [true_and, pIf_iff, decide_eq_true_eq, decide_eq_false_iff_not]
      exact ⟨fun hlt => by omega, fun _ => of_b hP (decide_eq_true ⟨he, list_same hlen hall⟩)⟩
    · refine ok_P (vc := vcSame) vcSame_ok mixed _ (l_Same13 (encL o) (encL h) (encL p) (encL g) o.length h.length p.length g.length k _ _) ?_
      have h2 : k < g.length := by omega
      simp only [true_and, and_true, pIf_iff, decide_eq_true_eq, decide_eq_false_iff_not, Int.toNat_natCast, cell_pts h1, cell_pts h2, toN_tree, toE_tree, wrapSucc (show k < 2 ^ 62 by omega)]
      refine ⟨fun _ => ⟨by omega, by omega, h[k], g[k], rfl, hs2 _ (List.getElem_mem h1), fun he => ?_, fun hne => ?_⟩, fun h' => by omega⟩
      · exact ih (same_next h1 h2 hall he)
      · exact of_b hP (decide_eq_false fun e => ne_at h1 h2 hne e.2)
  · exact of_b hP (decide_eq_false fun e => hne e.1)
def few16 (p : Part) : Prop := p.id.size ≤ 200 ∧ p.node.size ≤ 200 ∧ p.grade.size ≤ 200 ∧ p.sect.size ≤ 200 ∧ p.outer.length ≤ 40 ∧ p.holes.length ≤ 12 ∧ ∀ h ∈ p.holes, h.length ≤ 40
instance (p : Part) : Decidable (few16 p) := by unfold few16; infer_instance
end Go.Proofs.YtegjnjmimfgijaaGreatDoor
noncomputable section
namespace Go.Proofs.YtegjnjmimfgijaaGreatDoor
open Go Go.RowKit
set_option maxRecDepth 100000
def vcS13 : VCall := tabCall [⟨100, c_Same13⟩] noCall
theorem vcS13_ok : VCallOk Tryz.prog vcS13 := tabCall_ok (by
  intro e he
  simp only [List.mem_cons, List.not_mem_nil, or_false] at he
  rcases he with rfl
  exact ok_Same13) noCall_ok
theorem e_Same16 (p q : Part) (H : Code → List Fr → AS → Prop) (Post : Value → Prop) : vcP Tryz.prog vcS13 92 [] [partV p, partV q] H Post = (True ∧ True ∧ True ∧ True ∧ True ∧ True ∧ True ∧ True ∧ pIf (!decide (Part.id p = Part.id q)) (True ∧ True ∧ True ∧ True ∧ True ∧ True ∧ True ∧ True ∧ True ∧ True ∧ True ∧ True ∧ Post (Value.bool false)) (True ∧ True ∧ True ∧ True ∧ True ∧ True ∧ pIf (!decide (Part.rev p = Part.rev q)) (True ∧ True ∧ True ∧ True ∧ True ∧ True ∧ True ∧ True ∧ True ∧ True ∧ True ∧ Post (Value.bool false)) (True ∧ True ∧ True ∧ True ∧ True ∧ True ∧ True ∧ pIf (!decide (Part.kind p = Part.kind q)) (True ∧ True ∧ True ∧ True ∧ True ∧ True ∧ True ∧ True ∧ True ∧ Post (Value.bool false)) (True ∧ True ∧ True ∧ True ∧ True ∧ True ∧ True ∧ pIf (!decide (Part.node p = Part.node q)) (True ∧ True ∧ True ∧ True ∧ True ∧ True ∧ True ∧ Post (Value.bool false)) (True ∧ True ∧ True ∧ True ∧ True ∧ True ∧ True ∧ pIf (!decide (Part.grade p = Part.grade q)) (True ∧ True ∧ True ∧ True ∧ True ∧ Post (Value.bool false)) (True ∧ True ∧ True ∧ True ∧ True ∧ True ∧ True ∧ pIf (!decide (Part.thick p = Part.thick q)) (True ∧ True ∧ True ∧ Post (Value.bool false)) (True ∧ True ∧ True ∧ True ∧ True ∧ ∃ (o : List Pt), ∃ (h : List (List Pt)), ∃ (p_1 : List Pt), ∃ (g : List (List Pt)), eqL [Value.agg #[trPt (Part.outer p), trPts (Part.holes p)], Value.agg #[trPt (Part.outer q), trPts (Part.holes q)]] [shapeV o h, shapeV p_1 g] ∧ Short o ∧ Short h ∧ (∀ (x : List Pt), x ∈ h → Short x) ∧ pIf (decide (o = p_1 ∧ h = g)) (True ∧ True ∧ True ∧ True ∧ True ∧ True ∧ pIf (decide (Part.sect p = Part.sect q)) (True ∧ True ∧ True ∧ True ∧ True ∧ True ∧ True ∧ pIf (decide (Part.long p = Part.long q)) (True ∧ True ∧ True ∧ True ∧ True ∧ True ∧ True ∧ pIf (decide (Part.mass p = Part.mass q)) (True ∧ True ∧ True ∧ True ∧ True ∧ True ∧ True ∧ pIf (decide (Vec3.x (Part.centre p) = Vec3.x (Part.centre q)) && (decide (Vec3.y (Part.centre p) = Vec3.y (Part.centre q)) && (decide (Vec3.z (Part.centre p) = Vec3.z (Part.centre q)) && true))) (True ∧ True ∧ True ∧ True ∧ True ∧ True ∧ True ∧ pIf (decide (Vec3.x (Part.at_ p) = Vec3.x (Part.at_ q)) && (decide (Vec3.y (Part.at_ p) = Vec3.y (Part.at_ q)) && (decide (Vec3.z (Part.at_ p) = Vec3.z (Part.at_ q)) && true)) && (decide (Part.turn p = Part.turn q) && true)) (True ∧ True ∧ True ∧ Post (Value.bool true)) (True ∧ True ∧ True ∧ Post (Value.bool false))) (True ∧ True ∧ True ∧ True ∧ True ∧ Post (Value.bool false))) (True ∧ True ∧ True ∧ True ∧ True ∧ True ∧ True ∧ Post (Value.bool false))) (True ∧ True ∧ True ∧ True ∧ True ∧ True ∧ True ∧ True ∧ True ∧ Post (Value.bool false))) (True ∧ True ∧ True ∧ True ∧ True ∧ True ∧ True ∧ True ∧ True ∧ True ∧ True ∧ Post (Value.bool false))) (True ∧ True ∧ True ∧ True ∧ True ∧ True ∧ True ∧ True ∧ True ∧ True ∧ True ∧ True ∧ Post (Value.bool false))))))))) := by kernel_rfl

structure ShortP (p : Part) : Prop where
  outer : Short p.outer
  holes : Short p.holes
  all : ∀ x ∈ p.holes, Short x
theorem Vec3.ext' {p q : Vec3} (h1 : p.x = q.x) (h2 : p.y = q.y) (h3 : p.z = q.z) : p = q := by
  cases p; cases q; cases h1; cases h2; cases h3; rfl
theorem Part.ext' {p q : Part} (h1 : p.id = q.id) (h2 : p.rev = q.rev) (h3 : p.kind = q.kind) (h4 : p.node = q.node) (h5 : p.grade = q.grade) (h6 : p.thick = q.thick) (h7 : p.outer = q.outer) (h8 : p.holes = q.holes) (h9 : p.sect = q.sect)
    (h10 : p.long = q.long) (h11 : p.mass = q.mass) (h12 : p.centre = q.centre) (h13 : p.at_ = q.at_) (h14 : p.turn = q.turn) : p = q := by
  cases p; cases q
  simp only at h1 h2 h3 h4 h5 h6 h7 h8 h9 h10 h11 h12 h13 h14
  simp only [h1, h2, h3, h4, h5, h6, h7, h8, h9, h10, h11, h12, h13, h14]
def c_Same (args : List Value) (Post : Value → Prop) : Prop := ∃ p q : Part, args = [partV p, partV q] ∧ ShortP p ∧ Post (.bool (decide (p = q)))
theorem ok_Same16 : EntOk Tryz.prog ⟨92, c_Same⟩ := by
  rintro args Post ⟨p, q, rfl, hs, hP⟩
  refine pure_P (vc := vcS13) vcS13_ok mixed (by kernel_rfl) (by kernel_rfl) _ (e_Same16 p q _ _) ?_
  simp only [true_and, pIf_iff]
  have no : p ≠ q → Post (.bool false) := fun hn => of_b hP (decide_eq_false hn)
  refine ⟨fun h => no fun e => by subst e; simp at h, fun h1 => ?_⟩
  refine ⟨fun h => no fun e => by subst e; simp at h, fun h2 => ?_⟩
  refine ⟨fun h => no fun e => by subst e; simp at h, fun h3 => ?_⟩
  refine ⟨fun h => no fun e => by subst e; simp at h, fun h4 => ?_⟩
  refine ⟨fun h => no fun e => by subst e; simp at h, fun h5 => ?_⟩
  refine ⟨fun h => no fun e => by subst e; simp at h, fun h6 => ?_⟩
  refine ⟨p.outer, p.holes, q.outer, q.holes, rfl, hs.outer, hs.holes, hs.all, fun k => ?_, fun h => no fun e => by subst e; simp at h⟩
  refine ⟨fun h7 => ?_, fun h => no fun e => by subst e; simp at h⟩
  refine ⟨fun h8 => ?_, fun h => no fun e => by subst e; simp at h⟩
  refine ⟨fun h9 => ?_, fun h => no fun e => by subst e; simp at h⟩
  refine ⟨fun h10 => ?_, fun h => no fun e => by subst e; simp at h⟩
  refine ⟨fun h11 => ?_, fun h => no fun e => by subst e; simp at h⟩
  simp only [Bool.not_eq_false', Bool.and_eq_true, decide_eq_true_eq, and_true] at *
  exact of_b hP (decide_eq_true (Part.ext' h1 h2 h3 h4 h5 h6 k.1 k.2 h7 h8 h9 (Vec3.ext' h10.1 h10.2.1 h10.2.2) (Vec3.ext' h11.1.1 h11.1.2.1 h11.1.2.2) h11.2))
end Go.Proofs.YtegjnjmimfgijaaGreatDoor
noncomputable section
namespace Go.Proofs.YtegjnjmimfgijaaGreatDoor
open Go Go.RowKit
set_option maxRecDepth 100000
def tabE : List Ent := [⟨69, c_cText⟩, ⟨70, c_cList⟩, ⟨94, c_pts⟩]
def tabEF : List Ent := [⟨93, c_ints⟩]
def callE : VCall := tabCallF Tryz.prog tabEF (tabCall tabE noCall)
theorem e_Encode (p : Part) (H : Code → List Fr → AS → Prop) (Post : Value → Prop) : vcP Tryz.prog callE 84 [(3, [1, 3, 42, 43, 44])] [partV p] H Post = (True ∧ True ∧ True ∧ True ∧ True ∧ True ∧ True ∧ True ∧ True ∧ True ∧ True ∧ True ∧ True ∧ True ∧ True ∧ True ∧ True ∧ True ∧ True ∧ True ∧ True ∧ True ∧ True ∧ ∃ (s : ByteArray), eqL [Value.string (Part.id p)] [Value.string s] ∧ ByteArray.size s ≤ 16000000 ∧ True ∧ ((2 ≤ 2 ∧ NLs [Value.int IntKind.i64 (Part.rev p), Value.int IntKind.i64 (Part.kind p)]) ∧ True) ∧ ∃ (l : List Int), eqL [tree 1 2 #[Value.int IntKind.i64 (Part.rev p), Value.int IntKind.i64 (Part.kind p)]] [tree 1 (List.length l) (encI l)] ∧ List.length l ≤ 1000 ∧ (∀ (n : Int), n ∈ l → -9223372036854775808 ≤ n ∧ n < 9223372036854775808) ∧ True ∧ ByteArray.size (bText s) + ByteArray.size (bInts l) ≤ 9223372036854775807 ∧ ∃ (s_1 : ByteArray), eqL [Value.string (Part.node p)] [Value.string s_1] ∧ ByteArray.size s_1 ≤ 16000000 ∧ True ∧ ByteArray.size (bText s ++ bInts l) + ByteArray.size (bText s_1) ≤ 9223372036854775807 ∧ ∃ (s_2 : ByteArray), eqL [Value.string (Part.grade p)] [Value.string s_2] ∧ ByteArray.size s_2 ≤ 16000000 ∧ True ∧ ByteArray.size (bText s ++ bInts l ++ bText s_1) + ByteArray.size (bText s_2) ≤ 9223372036854775807 ∧ ((1 ≤ 1 ∧ NLs [Value.int IntKind.i64 (Part.thick p)]) ∧ True) ∧ ∃ (l_1 : List Int), eqL [tree 1 1 #[Value.int IntKind.i64 (Part.thick p)]] [tree 1 (List.length l_1) (encI l_1)] ∧ List.length l_1 ≤ 1000 ∧ (∀ (n : Int), n ∈ l_1 → -9223372036854775808 ≤ n ∧ n < 9223372036854775808) ∧ True ∧ ByteArray.size (bText s ++ bInts l ++ bText s_1 ++ bText s_2) + ByteArray.size (bInts l_1) ≤ 9223372036854775807 ∧ ∃ (l_2 : List Pt), eqL [trPt (Part.outer p)] [trPt l_2] ∧ List.length l_2 ≤ 1000 ∧ (∀ (p : Pt), p ∈ l_2 → (-9223372036854775808 ≤ Pt.x p ∧ Pt.x p < 9223372036854775808) ∧ -9223372036854775808 ≤ Pt.y p ∧ Pt.y p < 9223372036854775808) ∧ True ∧ ByteArray.size (bText s ++ bInts l ++ bText s_1 ++ bText s_2 ++ bInts l_1) + ByteArray.size (bPts l_2) ≤ 9223372036854775807 ∧ ∃ (n : Nat), eqL [Value.int IntKind.i64 (↑(List.length (Part.holes p)) : Int)] [Value.int IntKind.i64 (↑n : Int)] ∧ n < 9223372036854775808 ∧ True ∧ ByteArray.size (bText s ++ bInts l ++ bText s_1 ++ bText s_2 ++ bInts l_1 ++ bPts l_2) + ByteArray.size (bList n) ≤ 9223372036854775807 ∧ True ∧ True ∧ True ∧ True ∧ True ∧ True ∧ True ∧ (True ∧ True) ∧ H (lpC Tryz.prog 84 3) (lpK Tryz.prog 84 3) (stV [(1, some (Value.pointer (some (Addr.mk 0 0 none)))), (3, some (Value.string (bText s ++ bInts l ++ bText s_1 ++ bText s_2 ++ bInts l_1 ++ bPts l_2 ++ bList n))), (42, some (tree 1 (List.length (Part.holes p)) (encL (Part.holes p)))), (43, some (Value.int IntKind.i64 (↑(List.length (Part.holes p)) : Int))), (44, some (Value.int IntKind.i64 0))] [(0, some (AObj.cells [Value.string (Part.id p), Value.int IntKind.i64 (Part.rev p), Value.int IntKind.i64 (Part.kind p), Value.string (Part.node p), Value.string (Part.grade p), Value.int IntKind.i64 (Part.thick p), tree 2 (List.length (Part.outer p)) (encL (Part.outer p)), tree 1 (List.length (Part.holes p)) (encL (Part.holes p)), Value.string (Part.sect p), Value.int IntKind.i64 (Part.long p), Value.int IntKind.i64 (Part.mass p), Value.int IntKind.i64 (Vec3.x (Part.centre p)), Value.int IntKind.i64 (Vec3.y (Part.centre p)), Value.int IntKind.i64 (Vec3.z (Part.centre p)), Value.int IntKind.i64 (Vec3.x (Part.at_ p)), Value.int IntKind.i64 (Vec3.y (Part.at_ p)), Value.int IntKind.i64 (Vec3.z (Part.at_ p)), Value.int IntKind.i64 (Part.turn p)] true))] 1)) := by kernel_rfl
theorem l_Encode (p : Part) (s : ByteArray) (i : Int) (H : Code → List Fr → AS → Prop) (Post : Value → Prop) : vcLP Tryz.prog callE 84 [partV p] [(3, [1, 3, 42, 43, 44])] 3 (stV [(1, some (.pointer (some ⟨0, 0, none⟩))), (3, some (.string s)), (42, some (trPts p.holes)), (43, some (.int .i64 p.holes.length)), (44, some (.int .i64 i))] [(0, some (.cells (partC p) true))] 1) H Post = (True ∧ pIf (decide (i < (↑(List.length (Part.holes p)) : Int))) ((0 ≤ i ∧ i < (↑(List.length (Part.holes p)) : Int)) ∧ cellAt (encL (Part.holes p)) (Int.toNat i) 0 = tree 2 (toN (cellAt (encL (Part.holes p)) (Int.toNat i) 0)) (toE (cellAt (encL (Part.holes p)) (Int.toNat i) 0)) ∧ True ∧ True ∧ True ∧ ∃ (l : List Pt), eqL [tree 2 (toN (cellAt (encL (Part.holes p)) (Int.toNat i) 0)) (toE (cellAt (encL (Part.holes p)) (Int.toNat i) 0))] [trPt l] ∧ List.length l ≤ 1000 ∧ (∀ (p : Pt), p ∈ l → (-9223372036854775808 ≤ Pt.x p ∧ Pt.x p < 9223372036854775808) ∧ -9223372036854775808 ≤ Pt.y p ∧ Pt.y p < 9223372036854775808) ∧ ByteArray.size s + ByteArray.size (bPts l) ≤ 9223372036854775807 ∧ True ∧ True ∧ True ∧ True ∧ (True ∧ True) ∧ H (lpC Tryz.prog 84 3) (lpK Tryz.prog 84 3) (stV [(1, some (Value.pointer (some (Addr.mk 0 0 none)))), (3, some (Value.string (s ++ bPts l))), (42, some (tree 1 (List.length (Part.holes p)) (encL (Part.holes p)))), (43, some (Value.int IntKind.i64 (↑(List.length (Part.holes p)) : Int))), (44, some (Value.int IntKind.i64 (IntKind.wrap IntKind.i64 (i + 1))))] [(0, some (AObj.cells [Value.string (Part.id p), Value.int IntKind.i64 (Part.rev p), Value.int IntKind.i64 (Part.kind p), Value.string (Part.node p), Value.string (Part.grade p), Value.int IntKind.i64 (Part.thick p), tree 2 (List.length (Part.outer p)) (encL (Part.outer p)), tree 1 (List.length (Part.holes p)) (encL (Part.holes p)), Value.string (Part.sect p), Value.int IntKind.i64 (Part.long p), Value.int IntKind.i64 (Part.mass p), Value.int IntKind.i64 (Vec3.x (Part.centre p)), Value.int IntKind.i64 (Vec3.y (Part.centre p)), Value.int IntKind.i64 (Vec3.z (Part.centre p)), Value.int IntKind.i64 (Vec3.x (Part.at_ p)), Value.int IntKind.i64 (Vec3.y (Part.at_ p)), Value.int IntKind.i64 (Vec3.z (Part.at_ p)), Value.int IntKind.i64 (Part.turn p)] true))] 1)) (True ∧ True ∧ True ∧ ∃ (s_1 : ByteArray), eqL [Value.string (Part.sect p)] [Value.string s_1] ∧ ByteArray.size s_1 ≤ 16000000 ∧ ByteArray.size s + ByteArray.size (bText s_1) ≤ 9223372036854775807 ∧ True ∧ True ∧ True ∧ True ∧ True ∧ True ∧ True ∧ True ∧ True ∧ True ∧ True ∧ True ∧ True ∧ True ∧ True ∧ True ∧ True ∧ True ∧ True ∧ True ∧ True ∧ True ∧ True ∧ True ∧ True ∧ True ∧ True ∧ True ∧ True ∧ True ∧ True ∧ ((9 ≤ 9 ∧ NLs [Value.int IntKind.i64 (Part.long p), Value.int IntKind.i64 (Part.mass p), Value.int IntKind.i64 (Vec3.x (Part.centre p)), Value.int IntKind.i64 (Vec3.y (Part.centre p)), Value.int IntKind.i64 (Vec3.z (Part.centre p)), Value.int IntKind.i64 (Vec3.x (Part.at_ p)), Value.int IntKind.i64 (Vec3.y (Part.at_ p)), Value.int IntKind.i64 (Vec3.z (Part.at_ p)), Value.int IntKind.i64 (Part.turn p)]) ∧ True) ∧ ∃ (l : List Int), eqL [tree 1 9 #[Value.int IntKind.i64 (Part.long p), Value.int IntKind.i64 (Part.mass p), Value.int IntKind.i64 (Vec3.x (Part.centre p)), Value.int IntKind.i64 (Vec3.y (Part.centre p)), Value.int IntKind.i64 (Vec3.z (Part.centre p)), Value.int IntKind.i64 (Vec3.x (Part.at_ p)), Value.int IntKind.i64 (Vec3.y (Part.at_ p)), Value.int IntKind.i64 (Vec3.z (Part.at_ p)), Value.int IntKind.i64 (Part.turn p)]] [tree 1 (List.length l) (encI l)] ∧ List.length l ≤ 1000 ∧ (∀ (n : Int), n ∈ l → -9223372036854775808 ≤ n ∧ n < 9223372036854775808) ∧ ByteArray.size (s ++ bText s_1) + ByteArray.size (bInts l) ≤ 9223372036854775807 ∧ True ∧ True ∧ Post (Value.string (s ++ bText s_1 ++ bInts l)))) := by kernel_rfl
def tabR : List Ent := [⟨58, c_cText⟩, ⟨76, c_cList⟩, ⟨57, c_cInt⟩, ⟨98, c_pts⟩, ⟨99, c_vector⟩]
theorem e_REncode (p : Part) (H : Code → List Fr → AS → Prop) (Post : Value → Prop) : vcP Tryz.prog (tabCall tabR noCall) 88 [(3, [1, 3, 4])] [partV p] H Post = (True ∧ True ∧ True ∧ True ∧ True ∧ True ∧ True ∧ True ∧ True ∧ True ∧ True ∧ True ∧ True ∧ True ∧ True ∧ True ∧ True ∧ True ∧ True ∧ True ∧ True ∧ ∃ (s : ByteArray), eqL [Value.string (Part.id p)] [Value.string s] ∧ ByteArray.size s ≤ 16000000 ∧ True ∧ ∃ (n : Int), eqL [Value.int IntKind.i64 (Part.rev p)] [Value.int IntKind.i64 n] ∧ (-9223372036854775808 ≤ n ∧ n < 9223372036854775808) ∧ True ∧ ByteArray.size (bText s) + ByteArray.size (bInt n) ≤ 9223372036854775807 ∧ ∃ (n_1 : Int), eqL [Value.int IntKind.i64 (Part.kind p)] [Value.int IntKind.i64 n_1] ∧ (-9223372036854775808 ≤ n_1 ∧ n_1 < 9223372036854775808) ∧ True ∧ ByteArray.size (bText s ++ bInt n) + ByteArray.size (bInt n_1) ≤ 9223372036854775807 ∧ ∃ (s_1 : ByteArray), eqL [Value.string (Part.node p)] [Value.string s_1] ∧ ByteArray.size s_1 ≤ 16000000 ∧ True ∧ ByteArray.size (bText s ++ bInt n ++ bInt n_1) + ByteArray.size (bText s_1) ≤ 9223372036854775807 ∧ ∃ (s_2 : ByteArray), eqL [Value.string (Part.grade p)] [Value.string s_2] ∧ ByteArray.size s_2 ≤ 16000000 ∧ True ∧ ByteArray.size (bText s ++ bInt n ++ bInt n_1 ++ bText s_1) + ByteArray.size (bText s_2) ≤ 9223372036854775807 ∧ ∃ (n_2 : Int), eqL [Value.int IntKind.i64 (Part.thick p)] [Value.int IntKind.i64 n_2] ∧ (-9223372036854775808 ≤ n_2 ∧ n_2 < 9223372036854775808) ∧ True ∧ ByteArray.size (bText s ++ bInt n ++ bInt n_1 ++ bText s_1 ++ bText s_2) + ByteArray.size (bInt n_2) ≤ 9223372036854775807 ∧ ∃ (l : List Pt), eqL [trPt (Part.outer p)] [trPt l] ∧ List.length l ≤ 1000 ∧ (∀ (p : Pt), p ∈ l → (-9223372036854775808 ≤ Pt.x p ∧ Pt.x p < 9223372036854775808) ∧ -9223372036854775808 ≤ Pt.y p ∧ Pt.y p < 9223372036854775808) ∧ True ∧ ByteArray.size (bText s ++ bInt n ++ bInt n_1 ++ bText s_1 ++ bText s_2 ++ bInt n_2) + ByteArray.size (bPts l) ≤ 9223372036854775807 ∧ ∃ (n_3 : Nat), eqL [Value.int IntKind.i64 (↑(List.length (Part.holes p)) : Int)] [Value.int IntKind.i64 (↑n_3 : Int)] ∧ n_3 < 9223372036854775808 ∧ True ∧ ByteArray.size (bText s ++ bInt n ++ bInt n_1 ++ bText s_1 ++ bText s_2 ++ bInt n_2 ++ bPts l) + ByteArray.size (bList n_3) ≤ 9223372036854775807 ∧ True ∧ True ∧ True ∧ (True ∧ True) ∧ H (lpC Tryz.prog 88 3) (lpK Tryz.prog 88 3) (stV [(1, some (Value.pointer (some (Addr.mk 0 0 none)))), (3, some (Value.string (bText s ++ bInt n ++ bInt n_1 ++ bText s_1 ++ bText s_2 ++ bInt n_2 ++ bPts l ++ bList n_3))), (4, some (Value.int IntKind.i64 0))] [(0, some (AObj.cells [Value.string (Part.id p), Value.int IntKind.i64 (Part.rev p), Value.int IntKind.i64 (Part.kind p), Value.string (Part.node p), Value.string (Part.grade p), Value.int IntKind.i64 (Part.thick p), tree 2 (List.length (Part.outer p)) (encL (Part.outer p)), tree 1 (List.length (Part.holes p)) (encL (Part.holes p)), Value.string (Part.sect p), Value.int IntKind.i64 (Part.long p), Value.int IntKind.i64 (Part.mass p), Value.int IntKind.i64 (Vec3.x (Part.centre p)), Value.int IntKind.i64 (Vec3.y (Part.centre p)), Value.int IntKind.i64 (Vec3.z (Part.centre p)), Value.int IntKind.i64 (Vec3.x (Part.at_ p)), Value.int IntKind.i64 (Vec3.y (Part.at_ p)), Value.int IntKind.i64 (Vec3.z (Part.at_ p)), Value.int IntKind.i64 (Part.turn p)] true))] 1)) := by kernel_rfl
theorem l_REncode (p : Part) (s : ByteArray) (i : Int) (H : Code → List Fr → AS → Prop) (Post : Value → Prop) : vcLP Tryz.prog (tabCall tabR noCall) 88 [partV p] [(3, [1, 3, 4])] 3 (stV [(1, some (.pointer (some ⟨0, 0, none⟩))), (3, some (.string s)), (4, some (.int .i64 i))] [(0, some (.cells (partC p) true))] 1) H Post = (True ∧ True ∧ True ∧ True ∧ True ∧ True ∧ pIf (decide (i < (↑(List.length (Part.holes p)) : Int))) (True ∧ True ∧ True ∧ True ∧ True ∧ (0 ≤ i ∧ i < (↑(List.length (Part.holes p)) : Int)) ∧ cellAt (encL (Part.holes p)) (Int.toNat i) 0 = tree 2 (toN (cellAt (encL (Part.holes p)) (Int.toNat i) 0)) (toE (cellAt (encL (Part.holes p)) (Int.toNat i) 0)) ∧ ∃ (l : List Pt), eqL [tree 2 (toN (cellAt (encL (Part.holes p)) (Int.toNat i) 0)) (toE (cellAt (encL (Part.holes p)) (Int.toNat i) 0))] [trPt l] ∧ List.length l ≤ 1000 ∧ (∀ (p : Pt), p ∈ l → (-9223372036854775808 ≤ Pt.x p ∧ Pt.x p < 9223372036854775808) ∧ -9223372036854775808 ≤ Pt.y p ∧ Pt.y p < 9223372036854775808) ∧ ByteArray.size s + ByteArray.size (bPts l) ≤ 9223372036854775807 ∧ True ∧ True ∧ True ∧ True ∧ True ∧ (True ∧ True) ∧ H (lpC Tryz.prog 88 3) (lpK Tryz.prog 88 3) (stV [(1, some (Value.pointer (some (Addr.mk 0 0 none)))), (3, some (Value.string (s ++ bPts l))), (4, some (Value.int IntKind.i64 (IntKind.wrap IntKind.i64 (i + 1))))] [(0, some (AObj.cells [Value.string (Part.id p), Value.int IntKind.i64 (Part.rev p), Value.int IntKind.i64 (Part.kind p), Value.string (Part.node p), Value.string (Part.grade p), Value.int IntKind.i64 (Part.thick p), tree 2 (List.length (Part.outer p)) (encL (Part.outer p)), tree 1 (List.length (Part.holes p)) (encL (Part.holes p)), Value.string (Part.sect p), Value.int IntKind.i64 (Part.long p), Value.int IntKind.i64 (Part.mass p), Value.int IntKind.i64 (Vec3.x (Part.centre p)), Value.int IntKind.i64 (Vec3.y (Part.centre p)), Value.int IntKind.i64 (Vec3.z (Part.centre p)), Value.int IntKind.i64 (Vec3.x (Part.at_ p)), Value.int IntKind.i64 (Vec3.y (Part.at_ p)), Value.int IntKind.i64 (Vec3.z (Part.at_ p)), Value.int IntKind.i64 (Part.turn p)] true))] 1)) (True ∧ True ∧ True ∧ True ∧ True ∧ True ∧ True ∧ True ∧ True ∧ True ∧ True ∧ True ∧ True ∧ True ∧ True ∧ ∃ (s_1 : ByteArray), eqL [Value.string (Part.sect p)] [Value.string s_1] ∧ ByteArray.size s_1 ≤ 16000000 ∧ True ∧ ByteArray.size s + ByteArray.size (bText s_1) ≤ 9223372036854775807 ∧ ∃ (n : Int), eqL [Value.int IntKind.i64 (Part.long p)] [Value.int IntKind.i64 n] ∧ (-9223372036854775808 ≤ n ∧ n < 9223372036854775808) ∧ True ∧ ByteArray.size (s ++ bText s_1) + ByteArray.size (bInt n) ≤ 9223372036854775807 ∧ ∃ (n_1 : Int), eqL [Value.int IntKind.i64 (Part.mass p)] [Value.int IntKind.i64 n_1] ∧ (-9223372036854775808 ≤ n_1 ∧ n_1 < 9223372036854775808) ∧ True ∧ ByteArray.size (s ++ bText s_1 ++ bInt n) + ByteArray.size (bInt n_1) ≤ 9223372036854775807 ∧ ∃ (v : Vec3), eqL [Value.agg #[Value.int IntKind.i64 (Vec3.x (Part.centre p)), Value.int IntKind.i64 (Vec3.y (Part.centre p)), Value.int IntKind.i64 (Vec3.z (Part.centre p))]] [Value.agg #[Value.int IntKind.i64 (Vec3.x v), Value.int IntKind.i64 (Vec3.y v), Value.int IntKind.i64 (Vec3.z v)]] ∧ ((-9223372036854775808 ≤ Vec3.x v ∧ Vec3.x v < 9223372036854775808) ∧ (-9223372036854775808 ≤ Vec3.y v ∧ Vec3.y v < 9223372036854775808) ∧ -9223372036854775808 ≤ Vec3.z v ∧ Vec3.z v < 9223372036854775808) ∧ True ∧ ByteArray.size (s ++ bText s_1 ++ bInt n ++ bInt n_1) + ByteArray.size (bInt (Vec3.x v) ++ bInt (Vec3.y v) ++ bInt (Vec3.z v)) ≤ 9223372036854775807 ∧ ∃ (v_1 : Vec3), eqL [Value.agg #[Value.int IntKind.i64 (Vec3.x (Part.at_ p)), Value.int IntKind.i64 (Vec3.y (Part.at_ p)), Value.int IntKind.i64 (Vec3.z (Part.at_ p))]] [Value.agg #[Value.int IntKind.i64 (Vec3.x v_1), Value.int IntKind.i64 (Vec3.y v_1), Value.int IntKind.i64 (Vec3.z v_1)]] ∧ ((-9223372036854775808 ≤ Vec3.x v_1 ∧ Vec3.x v_1 < 9223372036854775808) ∧ (-9223372036854775808 ≤ Vec3.y v_1 ∧ Vec3.y v_1 < 9223372036854775808) ∧ -9223372036854775808 ≤ Vec3.z v_1 ∧ Vec3.z v_1 < 9223372036854775808) ∧ True ∧ ByteArray.size (s ++ bText s_1 ++ bInt n ++ bInt n_1 ++ (bInt (Vec3.x v) ++ bInt (Vec3.y v) ++ bInt (Vec3.z v))) + ByteArray.size (bInt (Vec3.x v_1) ++ bInt (Vec3.y v_1) ++ bInt (Vec3.z v_1)) ≤ 9223372036854775807 ∧ ∃ (n_2 : Int), eqL [Value.int IntKind.i64 (Part.turn p)] [Value.int IntKind.i64 n_2] ∧ (-9223372036854775808 ≤ n_2 ∧ n_2 < 9223372036854775808) ∧ True ∧ ByteArray.size (s ++ bText s_1 ++ bInt n ++ bInt n_1 ++ (bInt (Vec3.x v) ++ bInt (Vec3.y v) ++ bInt (Vec3.z v)) ++ (bInt (Vec3.x v_1) ++ bInt (Vec3.y v_1) ++ bInt (Vec3.z v_1))) + ByteArray.size (bInt n_2) ≤ 9223372036854775807 ∧ True ∧ True ∧ Post (Value.string (s ++ bText s_1 ++ bInt n ++ bInt n_1 ++ (bInt (Vec3.x v) ++ bInt (Vec3.y v) ++ bInt (Vec3.z v)) ++ (bInt (Vec3.x v_1) ++ bInt (Vec3.y v_1) ++ bInt (Vec3.z v_1)) ++ bInt n_2)))) := by kernel_rfl
/-- The bytes of a part. -/
def bFront (p : Part) : ByteArray := bText p.id ++ bInts [p.rev, p.kind] ++ bText p.node ++ bText p.grade ++ bInts [p.thick] ++ bPts p.outer ++ bList p.holes.length
def bHoles (p : Part) (i : Nat) : ByteArray := (p.holes.take i).foldl (fun s h => s ++ bPts h) (bFront p)
def bRear (p : Part) : List Int := [p.long, p.mass, p.centre.x, p.centre.y, p.centre.z, p.at_.x, p.at_.y, p.at_.z, p.turn]
def bPart (p : Part) : ByteArray := bHoles p p.holes.length ++ bText p.sect ++ bInts (bRear p)
def InAll (l : List Int) : Prop := ∀ n ∈ l, In64 n
theorem bInts_size (l : List Int) : (bInts l).size ≤ 9 * l.length := by
  have h := fold_size (fun s (n : Int) => s ++ bInt n) 9 (fun s n => by
    rw [ba_size]
    have := bInt_size n
    omega) l ⟨#[]⟩
  have h0 : (⟨#[]⟩ : ByteArray).size = 0 := rfl
  unfold bInts
  omega
theorem bFront_size {p : Part} (h : few16 p) : (bFront p).size ≤ 2000 := by
  obtain ⟨h1, h2, h3, h4, h5, h6, h7⟩ := h
  unfold bFront
  simp only [ba_size]
  have a1 := bText_size p.id
  have a2 := bText_size p.node
  have a3 := bText_size p.grade
  have a4 : (bInts [p.rev, p.kind]).size ≤ 18 := bInts_size _
  have a5 : (bInts [p.thick]).size ≤ 9 := bInts_size _
  have a6 := bPts_size p.outer
  have a7 := bList_size p.holes.length
  omega
theorem fold_size' {α : Type} (f : ByteArray → α → ByteArray) (c : Nat) : ∀ (l : List α) (s : ByteArray), (∀ s, ∀ a ∈ l, (f s a).size ≤ s.size + c) → (l.foldl f s).size ≤ s.size + c * l.length
  | [], s, _ => by simp
  | a :: l, s, hf => by
    have h1 := fold_size' f c l (f s a) (fun s b hb => hf s b (by simp [hb]))
    have h2 := hf s a (by simp)
    simp only [List.foldl_cons, List.length_cons, Nat.mul_add, Nat.mul_one]
    omega
theorem bHoles_size {p : Part} (h : few16 p) (i : Nat) : (bHoles p i).size ≤ 12000 := by
  have h0 := bFront_size h
  have h6 := h.2.2.2.2.2.1
  have h7 := h.2.2.2.2.2.2
  have h1 := fold_size' (fun s (h : List Pt) => s ++ bPts h) 729 (p.holes.take i) (bFront p) (fun s a ha => by
    rw [ba_size]
    have := bPts_size a
    have := h7 a (List.mem_of_mem_take ha)
    omega)
  have h2 := List.length_take_le' i p.holes
  unfold bHoles
  omega
theorem nls_ints (l : List Int) : NLs (l.map (Value.int .i64)) := by
  intro v hv
  obtain ⟨x, _, rfl⟩ := List.mem_map.1 hv
  rfl
theorem tabE_ok : VCallOk Tryz.prog callE := tabCallF_ok (by
  intro e he
  simp only [tabEF, List.mem_cons, List.not_mem_nil, or_false] at he
  rcases he with rfl
  exact ok_ints) (tabCall_ok (by
  intro e he
  simp only [tabE, List.mem_cons, List.not_mem_nil, or_false] at he
  rcases he with rfl | rfl | rfl
  · exact ok_cText
  · exact ok_cList
  · exact ok_corners) noCall_ok)
theorem tabR_ok : VCallOk Tryz.prog (tabCall tabR noCall) := tabCall_ok (by
  intro e he
  simp only [tabR, List.mem_cons, List.not_mem_nil, or_false] at he
  rcases he with rfl | rfl | rfl | rfl | rfl
  · exact ok_rText
  · exact ok_rList
  · exact ok_rInt
  · exact ok_contour
  · exact ok_vector) noCall_ok
def c_Encode (args : List Value) (Post : Value → Prop) : Prop := ∃ p : Part, args = [partV p] ∧ InPart p ∧ few16 p ∧ Post (.string (bPart p))
theorem ok_Encode : EntOk Tryz.prog ⟨84, c_Encode⟩ := by
  rintro args Post ⟨p, rfl, hin, hf, h⟩
  refine pure_P (vc := callE) tabE_ok mixed (by kernel_rfl) (by kernel_rfl) _ (e_Encode p _ _) ?_
  simp only [true_and, and_true]
  have hf0 := hf
  obtain ⟨h1, h2, h3, h4, h5, h6, h7⟩ := hf
  have a1 := bText_size p.id
  have a2 := bText_size p.node
  have a3 := bText_size p.grade
  have a4 : (bInts [p.rev, p.kind]).size ≤ 18 := bInts_size _
  have a5 : (bInts [p.thick]).size ≤ 9 := bInts_size _
  have a6 := bPts_size p.outer
  have a7 := bList_size p.holes.length
  have a8 := bText_size p.sect
  refine ⟨p.id, rfl, by omega, ⟨by omega, nls_ints [p.rev, p.kind]⟩, [p.rev, p.kind], rfl, by simp, ?_, by omega, p.node, rfl, by omega, by simp only [ba_size]; omega, p.grade, rfl, by omega, by simp only [ba_size]; omega, ⟨by omega, nls_ints [p.thick]⟩, [p.thick], rfl, by simp, ?_, by simp only [ba_size]; omega, p.outer, rfl, by omega, hin.outer, by simp only [ba_size]; omega, p.holes.length, rfl, by omega, by simp only [ba_size]; omega, ?_⟩
  · intro n hn
    simp at hn
    rcases hn with rfl | rfl
    · exact hin.rev
    · exact hin.kind
  · intro n hn
    simp at hn
    subst hn
    exact hin.thick
  refine down (n := p.holes.length) (p := fun i => OkP 84 [partV p] 3 Post (stV [(1, some (.pointer (some ⟨0, 0, none⟩))), (3, some (.string (bHoles p i))), (42, some (trPts p.holes)), (43, some (.int .i64 p.holes.length)), (44, some (.int .i64 i))] [(0, some (.cells (partC p) true))] 1)) ?_ (fun i hi ih => ?_)
  · refine ok_P (vc := callE) tabE_ok mixed _ (l_Encode _ _ _ _ _) ?_
    simp only [true_and, and_true, pIf_iff, decide_eq_true_eq, decide_eq_false_iff_not]
    have b := bHoles_size hf0 p.holes.length
    refine ⟨fun h' => by omega, fun _ => ⟨p.sect, rfl, by omega, by omega, ⟨by omega, nls_ints (bRear p)⟩, bRear p, rfl, by simp [bRear], ?_, ?_, h⟩⟩
    · intro n hn
      simp [bRear] at hn
      rcases hn with rfl | rfl | rfl | rfl | rfl | rfl | rfl | rfl | rfl
      · exact hin.long
      · exact hin.mass
      · exact hin.centre.1
      · exact hin.centre.2.1
      · exact hin.centre.2.2
      · exact hin.at_.1
      · exact hin.at_.2.1
      · exact hin.at_.2.2
      · exact hin.turn
    · simp only [ba_size]
      have : (bInts (bRear p)).size ≤ 81 := bInts_size _
      omega
  · refine ok_P (vc := callE) tabE_ok mixed _ (l_Encode _ _ _ _ _) ?_
    simp only [true_and, and_true, pIf_iff, decide_eq_true_eq, decide_eq_false_iff_not, Int.toNat_natCast, cell_pts hi, toN_tree, toE_tree]
    have b := bHoles_size hf0 i
    have c := bPts_size p.holes[i]
    have d := h7 _ (List.getElem_mem hi)
    refine ⟨fun _ => ⟨by omega, p.holes[i], rfl, by omega, hin.holes _ (List.getElem_mem hi), by omega, ?_⟩, fun h' => by omega⟩
    rw [wrapSucc (by omega)]
    unfold bHoles at ih
    rw [fold_take _ _ hi] at ih
    exact ih
theorem ok_REncode : EntOk Tryz.prog ⟨88, c_Encode⟩ := by
  rintro args Post ⟨p, rfl, hin, hf, h⟩
  refine pure_P (vc := tabCall tabR noCall) tabR_ok mixed (by kernel_rfl) (by kernel_rfl) _ (e_REncode p _ _) ?_
  simp only [true_and, and_true]
  have hf0 := hf
  obtain ⟨h1, h2, h3, h4, h5, h6, h7⟩ := hf
  have a1 := bText_size p.id
  have a2 := bText_size p.node
  have a3 := bText_size p.grade
  have a4 := bInt_size p.rev
  have a5 := bInt_size p.thick
  have a4b := bInt_size p.kind
  have a6 := bPts_size p.outer
  have a7 := bList_size p.holes.length
  have a8 := bText_size p.sect
  refine ⟨p.id, rfl, by omega, p.rev, rfl, hin.rev, by omega, p.kind, rfl, hin.kind, by simp only [ba_size]; omega, p.node, rfl, by omega, by simp only [ba_size]; omega, p.grade, rfl, by omega, by simp only [ba_size]; omega, p.thick, rfl, hin.thick, by simp only [ba_size]; omega, p.outer, rfl, by omega, hin.outer, by simp only [ba_size]; omega, p.holes.length, rfl, by omega, by simp only [ba_size]; omega, ?_⟩
  have front : bText p.id ++ bInt p.rev ++ bInt p.kind ++ bText p.node ++ bText p.grade ++ bInt p.thick ++ bPts p.outer ++ bList p.holes.length = bHoles p 0 := by
    show _ = bText p.id ++ (⟨#[]⟩ ++ bInt p.rev ++ bInt p.kind) ++ bText p.node ++ bText p.grade ++ (⟨#[]⟩ ++ bInt p.thick) ++ bPts p.outer ++ bList p.holes.length
    simp only [ba_nil, ba_assoc]
  rw [front]
  refine down (n := p.holes.length) (p := fun i => OkP 88 [partV p] 3 Post (stV [(1, some (.pointer (some ⟨0, 0, none⟩))), (3, some (.string (bHoles p i))), (4, some (.int .i64 i))] [(0, some (.cells (partC p) true))] 1)) ?_ (fun i hi ih => ?_)
  · refine ok_P (vc := tabCall tabR noCall) tabR_ok mixed _ (l_REncode _ _ _ _ _) ?_
    simp only [true_and, and_true, pIf_iff, decide_eq_true_eq, decide_eq_false_iff_not]
    have b := bHoles_size hf0 p.holes.length
    have b1 := bInt_size p.long
    have b2 := bInt_size p.mass
    have b3 := bInt_size p.centre.x
    have b4 := bInt_size p.centre.y
    have b5 := bInt_size p.centre.z
    have b6 := bInt_size p.at_.x
    have b7 := bInt_size p.at_.y
    have b8 := bInt_size p.at_.z
    have b9 := bInt_size p.turn
    refine ⟨fun h' => by omega, fun _ => ⟨p.sect, rfl, by omega, by omega, p.long, rfl, hin.long, by simp only [ba_size]; omega, p.mass, rfl, hin.mass, by simp only [ba_size]; omega, p.centre, rfl, hin.centre, by simp only [ba_size]; omega, p.at_, rfl, hin.at_, by simp only [ba_size]; omega, p.turn, rfl, hin.turn, by simp only [ba_size]; omega, ?_⟩⟩
    have e : bHoles p p.holes.length ++ bText p.sect ++ bInt p.long ++ bInt p.mass ++ (bInt p.centre.x ++ bInt p.centre.y ++ bInt p.centre.z) ++ (bInt p.at_.x ++ bInt p.at_.y ++ bInt p.at_.z) ++ bInt p.turn = bPart p := by
      show _ = bHoles p p.holes.length ++ bText p.sect ++ (⟨#[]⟩ ++ bInt p.long ++ bInt p.mass ++ bInt p.centre.x ++ bInt p.centre.y ++ bInt p.centre.z ++ bInt p.at_.x ++ bInt p.at_.y ++ bInt p.at_.z ++ bInt p.turn)
      simp only [ba_nil, ba_assoc]
    rwa [e]
  · refine ok_P (vc := tabCall tabR noCall) tabR_ok mixed _ (l_REncode _ _ _ _ _) ?_
    simp only [true_and, and_true, pIf_iff, decide_eq_true_eq, decide_eq_false_iff_not, Int.toNat_natCast, cell_pts hi, toN_tree, toE_tree]
    have b := bHoles_size hf0 i
    have c := bPts_size p.holes[i]
    have d := h7 _ (List.getElem_mem hi)
    refine ⟨fun _ => ⟨by omega, p.holes[i], rfl, by omega, hin.holes _ (List.getElem_mem hi), by omega, ?_⟩, fun h' => by omega⟩
    rw [wrapSucc (by omega)]
    unfold bHoles at ih
    rw [fold_take _ _ hi] at ih
    exact ih
end Go.Proofs.YtegjnjmimfgijaaGreatDoor
noncomputable section
namespace Go.Proofs.YtegjnjmimfgijaaGreatDoor
open Go Go.RowKit
set_option maxRecDepth 100000
/-- The bytes of a part's strings. -/
def volP (p : Part) : Nat := p.id.size + p.node.size + p.grade.size + p.sect.size
def fewE (p : Part) : Prop := volP p ≤ 8000000 ∧ p.outer.length ≤ 100 ∧ p.holes.length ≤ 20 ∧ ∀ h ∈ p.holes, h.length ≤ 100
theorem few16.toE {p : Part} (h : few16 p) : fewE p := by
  obtain ⟨h1, h2, h3, h4, h5, h6, h7⟩ := h
  exact ⟨by unfold volP; omega, by omega, by omega, fun l hl => by have := h7 l hl; omega⟩
theorem bFront_sizeE {p : Part} (h : fewE p) : (bFront p).size ≤ p.id.size + p.node.size + p.grade.size + 2000 := by
  obtain ⟨h1, h5, h6, h7⟩ := h
  unfold bFront
  simp only [ba_size]
  have a1 := bText_size p.id
  have a2 := bText_size p.node
  have a3 := bText_size p.grade
  have a4 : (bInts [p.rev, p.kind]).size ≤ 18 := bInts_size _
  have a5 : (bInts [p.thick]).size ≤ 9 := bInts_size _
  have a6 := bPts_size p.outer
  have a7 := bList_size p.holes.length
  omega
theorem bHoles_sizeE {p : Part} (h : fewE p) (i : Nat) : (bHoles p i).size ≤ p.id.size + p.node.size + p.grade.size + 39000 := by
  have h0 := bFront_sizeE h
  have h6 := h.2.2.1
  have h7 := h.2.2.2
  have h1 := fold_size' (fun s (h : List Pt) => s ++ bPts h) 1809 (p.holes.take i) (bFront p) (fun s a ha => by
    rw [ba_size]
    have := bPts_size a
    have := h7 a (List.mem_of_mem_take ha)
    omega)
  have h2 := List.length_take_le' i p.holes
  unfold bHoles
  omega
theorem bPart_sizeE {p : Part} (h : fewE p) : (bPart p).size ≤ volP p + 40000 := by
  have h0 := bHoles_sizeE h p.holes.length
  have h1 := bText_size p.sect
  have h2 : (bInts (bRear p)).size ≤ 81 := bInts_size _
  unfold bPart volP
  simp only [ba_size]
  omega
def c_EncodeE (args : List Value) (Post : Value → Prop) : Prop := ∃ p : Part, args = [partV p] ∧ InPart p ∧ fewE p ∧ Post (.string (bPart p))
theorem ok_EncodeE : EntOk Tryz.prog ⟨84, c_EncodeE⟩ := by
  rintro args Post ⟨p, rfl, hin, hf, h⟩
  refine pure_P (vc := callE) tabE_ok mixed (by kernel_rfl) (by kernel_rfl) _ (e_Encode p _ _) ?_
  simp only [true_and, and_true]
  have hf0 := hf
  obtain ⟨h1, h5, h6, h7⟩ := hf
  unfold volP at h1
  have a1 := bText_size p.id
  have a2 := bText_size p.node
  have a3 := bText_size p.grade
  have a4 : (bInts [p.rev, p.kind]).size ≤ 18 := bInts_size _
  have a5 : (bInts [p.thick]).size ≤ 9 := bInts_size _
  have a6 := bPts_size p.outer
  have a7 := bList_size p.holes.length
  have a8 := bText_size p.sect
  refine ⟨p.id, rfl, by omega, ⟨by omega, nls_ints [p.rev, p.kind]⟩, [p.rev, p.kind], rfl, by simp, ?_, by omega, p.node, rfl, by omega, by simp only [ba_size]; omega, p.grade, rfl, by omega, by simp only [ba_size]; omega, ⟨by omega, nls_ints [p.thick]⟩, [p.thick], rfl, by simp, ?_, by simp only [ba_size]; omega, p.outer, rfl, by omega, hin.outer, by simp only [ba_size]; omega, p.holes.length, rfl, by omega, by simp only [ba_size]; omega, ?_⟩
  · intro n hn
    simp at hn
    rcases hn with rfl | rfl
    · exact hin.rev
    · exact hin.kind
  · intro n hn
    simp at hn
    subst hn
    exact hin.thick
  refine down (n := p.holes.length) (p := fun i => OkP 84 [partV p] 3 Post (stV [(1, some (.pointer (some ⟨0, 0, none⟩))), (3, some (.string (bHoles p i))), (42, some (trPts p.holes)), (43, some (.int .i64 p.holes.length)), (44, some (.int .i64 i))] [(0, some (.cells (partC p) true))] 1)) ?_ (fun i hi ih => ?_)
  · refine ok_P (vc := callE) tabE_ok mixed _ (l_Encode _ _ _ _ _) ?_
    simp only [true_and, and_true, pIf_iff, decide_eq_true_eq, decide_eq_false_iff_not]
    have b := bHoles_sizeE hf0 p.holes.length
    refine ⟨fun h' => by omega, fun _ => ⟨p.sect, rfl, by omega, by omega, ⟨by omega, nls_ints (bRear p)⟩, bRear p, rfl, by simp [bRear], ?_, ?_, h⟩⟩
    · intro n hn
      simp [bRear] at hn
      rcases hn with rfl | rfl | rfl | rfl | rfl | rfl | rfl | rfl | rfl
      · exact hin.long
      · exact hin.mass
      · exact hin.centre.1
      · exact hin.centre.2.1
      · exact hin.centre.2.2
      · exact hin.at_.1
      · exact hin.at_.2.1
      · exact hin.at_.2.2
      · exact hin.turn
    · simp only [ba_size]
      have : (bInts (bRear p)).size ≤ 81 := bInts_size _
      omega
  · refine ok_P (vc := callE) tabE_ok mixed _ (l_Encode _ _ _ _ _) ?_
    simp only [true_and, and_true, pIf_iff, decide_eq_true_eq, decide_eq_false_iff_not, Int.toNat_natCast, cell_pts hi, toN_tree, toE_tree]
    have b := bHoles_sizeE hf0 i
    have c := bPts_size p.holes[i]
    have d := h7 _ (List.getElem_mem hi)
    refine ⟨fun _ => ⟨by omega, p.holes[i], rfl, by omega, hin.holes _ (List.getElem_mem hi), by omega, ?_⟩, fun h' => by omega⟩
    rw [wrapSucc (by omega)]
    unfold bHoles at ih
    rw [fold_take _ _ hi] at ih
    exact ih
theorem ok_REncodeE : EntOk Tryz.prog ⟨88, c_EncodeE⟩ := by
  rintro args Post ⟨p, rfl, hin, hf, h⟩
  refine pure_P (vc := tabCall tabR noCall) tabR_ok mixed (by kernel_rfl) (by kernel_rfl) _ (e_REncode p _ _) ?_
  simp only [true_and, and_true]
  have hf0 := hf
  obtain ⟨h1, h5, h6, h7⟩ := hf
  unfold volP at h1
  have a1 := bText_size p.id
  have a2 := bText_size p.node
  have a3 := bText_size p.grade
  have a4 := bInt_size p.rev
  have a5 := bInt_size p.thick
  have a4b := bInt_size p.kind
  have a6 := bPts_size p.outer
  have a7 := bList_size p.holes.length
  have a8 := bText_size p.sect
  refine ⟨p.id, rfl, by omega, p.rev, rfl, hin.rev, by omega, p.kind, rfl, hin.kind, by simp only [ba_size]; omega, p.node, rfl, by omega, by simp only [ba_size]; omega, p.grade, rfl, by omega, by simp only [ba_size]; omega, p.thick, rfl, hin.thick, by simp only [ba_size]; omega, p.outer, rfl, by omega, hin.outer, by simp only [ba_size]; omega, p.holes.length, rfl, by omega, by simp only [ba_size]; omega, ?_⟩
  have front : bText p.id ++ bInt p.rev ++ bInt p.kind ++ bText p.node ++ bText p.grade ++ bInt p.thick ++ bPts p.outer ++ bList p.holes.length = bHoles p 0 := by
    show _ = bText p.id ++ (⟨#[]⟩ ++ bInt p.rev ++ bInt p.kind) ++ bText p.node ++ bText p.grade ++ (⟨#[]⟩ ++ bInt p.thick) ++ bPts p.outer ++ bList p.holes.length
    simp only [ba_nil, ba_assoc]
  rw [front]
  refine down (n := p.holes.length) (p := fun i => OkP 88 [partV p] 3 Post (stV [(1, some (.pointer (some ⟨0, 0, none⟩))), (3, some (.string (bHoles p i))), (4, some (.int .i64 i))] [(0, some (.cells (partC p) true))] 1)) ?_ (fun i hi ih => ?_)
  · refine ok_P (vc := tabCall tabR noCall) tabR_ok mixed _ (l_REncode _ _ _ _ _) ?_
    simp only [true_and, and_true, pIf_iff, decide_eq_true_eq, decide_eq_false_iff_not]
    have b := bHoles_sizeE hf0 p.holes.length
    have b1 := bInt_size p.long
    have b2 := bInt_size p.mass
    have b3 := bInt_size p.centre.x
    have b4 := bInt_size p.centre.y
    have b5 := bInt_size p.centre.z
    have b6 := bInt_size p.at_.x
    have b7 := bInt_size p.at_.y
    have b8 := bInt_size p.at_.z
    have b9 := bInt_size p.turn
    refine ⟨fun h' => by omega, fun _ => ⟨p.sect, rfl, by omega, by omega, p.long, rfl, hin.long, by simp only [ba_size]; omega, p.mass, rfl, hin.mass, by simp only [ba_size]; omega, p.centre, rfl, hin.centre, by simp only [ba_size]; omega, p.at_, rfl, hin.at_, by simp only [ba_size]; omega, p.turn, rfl, hin.turn, by simp only [ba_size]; omega, ?_⟩⟩
    have e : bHoles p p.holes.length ++ bText p.sect ++ bInt p.long ++ bInt p.mass ++ (bInt p.centre.x ++ bInt p.centre.y ++ bInt p.centre.z) ++ (bInt p.at_.x ++ bInt p.at_.y ++ bInt p.at_.z) ++ bInt p.turn = bPart p := by
      show _ = bHoles p p.holes.length ++ bText p.sect ++ (⟨#[]⟩ ++ bInt p.long ++ bInt p.mass ++ bInt p.centre.x ++ bInt p.centre.y ++ bInt p.centre.z ++ bInt p.at_.x ++ bInt p.at_.y ++ bInt p.at_.z ++ bInt p.turn)
      simp only [ba_nil, ba_assoc]
    rwa [e]
  · refine ok_P (vc := tabCall tabR noCall) tabR_ok mixed _ (l_REncode _ _ _ _ _) ?_
    simp only [true_and, and_true, pIf_iff, decide_eq_true_eq, decide_eq_false_iff_not, Int.toNat_natCast, cell_pts hi, toN_tree, toE_tree]
    have b := bHoles_sizeE hf0 i
    have c := bPts_size p.holes[i]
    have d := h7 _ (List.getElem_mem hi)
    refine ⟨fun _ => ⟨by omega, p.holes[i], rfl, by omega, hin.holes _ (List.getElem_mem hi), by omega, ?_⟩, fun h' => by omega⟩
    rw [wrapSucc (by omega)]
    unfold bHoles at ih
    rw [fold_take _ _ hi] at ih
    exact ih
end Go.Proofs.YtegjnjmimfgijaaGreatDoor
noncomputable section
namespace Go.Proofs.YtegjnjmimfgijaaGreatDoor
open Go Go.RowKit
set_option maxRecDepth 100000
structure Node3 where
  id : ByteArray
  kind : Int
  parent : ByteArray
  deriving DecidableEq
def node3C (p : Node3) : List Value := [.string p.id, .int .i64 p.kind, .string p.parent]
/-- As a value. -/
abbrev node3V (p : Node3) : Value := .agg (node3C p).toArray
instance : Enc Node3 where
  sz := 3
  cells := node3C
  len _ := rfl
  nl p := fun v hv => List.all_eq_true.1 (show (node3C p).all nl1 = true from rfl) v hv
theorem Node3.ext' {p q : Node3} (h0 : p.id = q.id) (h1 : p.kind = q.kind) (h2 : p.parent = q.parent) : p = q := by
  cases p; cases q
  simp only at h0 h1 h2
  simp only [h0, h1, h2]
structure Seam6 where
  id : ByteArray
  a : ByteArray
  b : ByteArray
  kind : Int
  long : Int
  cls : Int
  deriving DecidableEq
def seam6C (p : Seam6) : List Value := [.string p.id, .string p.a, .string p.b, .int .i64 p.kind, .int .i64 p.long, .int .i64 p.cls]
/-- As a value. -/
abbrev seam6V (p : Seam6) : Value := .agg (seam6C p).toArray
instance : Enc Seam6 where
  sz := 6
  cells := seam6C
  len _ := rfl
  nl p := fun v hv => List.all_eq_true.1 (show (seam6C p).all nl1 = true from rfl) v hv
theorem Seam6.ext' {p q : Seam6} (h0 : p.id = q.id) (h1 : p.a = q.a) (h2 : p.b = q.b) (h3 : p.kind = q.kind) (h4 : p.long = q.long) (h5 : p.cls = q.cls) : p = q := by
  cases p; cases q
  simp only at h0 h1 h2 h3 h4 h5
  simp only [h0, h1, h2, h3, h4, h5]
structure Pack5 where
  id : ByteArray
  block : ByteArray
  parts : List ByteArray
  hours : Int
  after : List ByteArray
  deriving DecidableEq
def pack5C (p : Pack5) : List Value := [.string p.id, .string p.block, tree 1 p.parts.length (encL p.parts), .int .i64 p.hours, tree 1 p.after.length (encL p.after)]
/-- As a value. -/
abbrev pack5V (p : Pack5) : Value := .agg (pack5C p).toArray
instance : Enc Pack5 where
  sz := 5
  cells := pack5C
  len _ := rfl
  nl p := fun v hv => List.all_eq_true.1 (show (pack5C p).all nl1 = true from rfl) v hv
theorem Pack5.ext' {p q : Pack5} (h0 : p.id = q.id) (h1 : p.block = q.block) (h2 : p.parts = q.parts) (h3 : p.hours = q.hours) (h4 : p.after = q.after) : p = q := by
  cases p; cases q
  simp only at h0 h1 h2 h3 h4
  simp only [h0, h1, h2, h3, h4]
structure Need3 where
  kind : Int
  block : ByteArray
  on : ByteArray
  deriving DecidableEq
def need3C (p : Need3) : List Value := [.int .i64 p.kind, .string p.block, .string p.on]
/-- As a value. -/
abbrev need3V (p : Need3) : Value := .agg (need3C p).toArray
instance : Enc Need3 where
  sz := 3
  cells := need3C
  len _ := rfl
  nl p := fun v hv => List.all_eq_true.1 (show (need3C p).all nl1 = true from rfl) v hv
theorem Need3.ext' {p q : Need3} (h0 : p.kind = q.kind) (h1 : p.block = q.block) (h2 : p.on = q.on) : p = q := by
  cases p; cases q
  simp only at h0 h1 h2
  simp only [h0, h1, h2]
structure Edit where
  kind : Int
  id : ByteArray
  to : ByteArray
  node : Node3
  part : Part
  seam : Seam6
  pack : Pack5
  need : Need3
  deriving DecidableEq
def editC (p : Edit) : List Value := [.int .i64 p.kind, .string p.id, .string p.to, .string p.node.id, .int .i64 p.node.kind, .string p.node.parent, .string p.part.id, .int .i64 p.part.rev, .int .i64 p.part.kind, .string p.part.node, .string p.part.grade, .int .i64 p.part.thick, tree 2 p.part.outer.length (encL p.part.outer), tree 1 p.part.holes.length (encL p.part.holes), .string p.part.sect, .int .i64 p.part.long, .int .i64 p.part.mass, .int .i64 p.part.centre.x, .int .i64 p.part.centre.y, .int .i64 p.part.centre.z, .int .i64 p.part.at_.x, .int .i64 p.part.at_.y, .int .i64 p.part.at_.z, .int .i64 p.part.turn, .string p.seam.id, .string p.seam.a, .string p.seam.b, .int .i64 p.seam.kind, .int .i64 p.seam.long, .int .i64 p.seam.cls, .string p.pack.id, .string p.pack.block, tree 1 p.pack.parts.length (encL p.pack.parts), .int .i64 p.pack.hours, tree 1 p.pack.after.length (encL p.pack.after), .int .i64 p.need.kind, .string p.need.block, .string p.need.on]
/-- As a value. -/
abbrev editV (p : Edit) : Value := .agg (editC p).toArray
instance : Enc Edit where
  sz := 38
  cells := editC
  len _ := rfl
  nl p := fun v hv => List.all_eq_true.1 (show (editC p).all nl1 = true from rfl) v hv
theorem Edit.ext' {p q : Edit} (h0 : p.kind = q.kind) (h1 : p.id = q.id) (h2 : p.to = q.to) (h3 : p.node = q.node) (h4 : p.part = q.part) (h5 : p.seam = q.seam) (h6 : p.pack = q.pack) (h7 : p.need = q.need) : p = q := by
  cases p; cases q
  simp only at h0 h1 h2 h3 h4 h5 h6 h7
  simp only [h0, h1, h2, h3, h4, h5, h6, h7]
structure Order2 where
  id : ByteArray
  edits : List Edit
  deriving DecidableEq
def order2C (p : Order2) : List Value := [.string p.id, tree 38 p.edits.length (encL p.edits)]
/-- As a value. -/
abbrev order2V (p : Order2) : Value := .agg (order2C p).toArray
instance : Enc Order2 where
  sz := 2
  cells := order2C
  len _ := rfl
  nl p := fun v hv => List.all_eq_true.1 (show (order2C p).all nl1 = true from rfl) v hv
theorem Order2.ext' {p q : Order2} (h0 : p.id = q.id) (h1 : p.edits = q.edits) : p = q := by
  cases p; cases q
  simp only at h0 h1
  simp only [h0, h1]
structure Sheet6 where
  id : ByteArray
  grade : ByteArray
  thick : Int
  long : Int
  width : Int
  heat : ByteArray
  deriving DecidableEq
def sheet6C (p : Sheet6) : List Value := [.string p.id, .string p.grade, .int .i64 p.thick, .int .i64 p.long, .int .i64 p.width, .string p.heat]
/-- As a value. -/
abbrev sheet6V (p : Sheet6) : Value := .agg (sheet6C p).toArray
instance : Enc Sheet6 where
  sz := 6
  cells := sheet6C
  len _ := rfl
  nl p := fun v hv => List.all_eq_true.1 (show (sheet6C p).all nl1 = true from rfl) v hv
theorem Sheet6.ext' {p q : Sheet6} (h0 : p.id = q.id) (h1 : p.grade = q.grade) (h2 : p.thick = q.thick) (h3 : p.long = q.long) (h4 : p.width = q.width) (h5 : p.heat = q.heat) : p = q := by
  cases p; cases q
  simp only at h0 h1 h2 h3 h4 h5
  simp only [h0, h1, h2, h3, h4, h5]
structure Bar5 where
  id : ByteArray
  sect : ByteArray
  grade : ByteArray
  long : Int
  heat : ByteArray
  deriving DecidableEq
def bar5C (p : Bar5) : List Value := [.string p.id, .string p.sect, .string p.grade, .int .i64 p.long, .string p.heat]
/-- As a value. -/
abbrev bar5V (p : Bar5) : Value := .agg (bar5C p).toArray
instance : Enc Bar5 where
  sz := 5
  cells := bar5C
  len _ := rfl
  nl p := fun v hv => List.all_eq_true.1 (show (bar5C p).all nl1 = true from rfl) v hv
theorem Bar5.ext' {p q : Bar5} (h0 : p.id = q.id) (h1 : p.sect = q.sect) (h2 : p.grade = q.grade) (h3 : p.long = q.long) (h4 : p.heat = q.heat) : p = q := by
  cases p; cases q
  simp only at h0 h1 h2 h3 h4
  simp only [h0, h1, h2, h3, h4]
structure Spot where
  part : ByteArray
  at_ : Pt
  turn : Int
  flip : Bool
  deriving DecidableEq
def spotC (p : Spot) : List Value := [.string p.part, .int .i64 p.at_.x, .int .i64 p.at_.y, .int .i64 p.turn, .bool p.flip]
/-- As a value. -/
abbrev spotV (p : Spot) : Value := .agg (spotC p).toArray
instance : Enc Spot where
  sz := 5
  cells := spotC
  len _ := rfl
  nl p := fun v hv => List.all_eq_true.1 (show (spotC p).all nl1 = true from rfl) v hv
theorem Spot.ext' {p q : Spot} (h0 : p.part = q.part) (h1 : p.at_ = q.at_) (h2 : p.turn = q.turn) (h3 : p.flip = q.flip) : p = q := by
  cases p; cases q
  simp only at h0 h1 h2 h3
  simp only [h0, h1, h2, h3]
structure Nest3 where
  sheet : ByteArray
  gap : Int
  spots : List Spot
  deriving DecidableEq
def nest3C (p : Nest3) : List Value := [.string p.sheet, .int .i64 p.gap, tree 5 p.spots.length (encL p.spots)]
/-- As a value. -/
abbrev nest3V (p : Nest3) : Value := .agg (nest3C p).toArray
instance : Enc Nest3 where
  sz := 3
  cells := nest3C
  len _ := rfl
  nl p := fun v hv => List.all_eq_true.1 (show (nest3C p).all nl1 = true from rfl) v hv
theorem Nest3.ext' {p q : Nest3} (h0 : p.sheet = q.sheet) (h1 : p.gap = q.gap) (h2 : p.spots = q.spots) : p = q := by
  cases p; cases q
  simp only at h0 h1 h2
  simp only [h0, h1, h2]
structure Saw3 where
  bar : ByteArray
  kerf : Int
  parts : List ByteArray
  deriving DecidableEq
def saw3C (p : Saw3) : List Value := [.string p.bar, .int .i64 p.kerf, tree 1 p.parts.length (encL p.parts)]
/-- As a value. -/
abbrev saw3V (p : Saw3) : Value := .agg (saw3C p).toArray
instance : Enc Saw3 where
  sz := 3
  cells := saw3C
  len _ := rfl
  nl p := fun v hv => List.all_eq_true.1 (show (saw3C p).all nl1 = true from rfl) v hv
theorem Saw3.ext' {p q : Saw3} (h0 : p.bar = q.bar) (h1 : p.kerf = q.kerf) (h2 : p.parts = q.parts) : p = q := by
  cases p; cases q
  simp only at h0 h1 h2
  simp only [h0, h1, h2]
structure Weig where
  block : ByteArray
  at_ : Int
  mass : Int
  centre : Vec3
  sigma : Int
  parts : List ByteArray
  deriving DecidableEq
def weigC (p : Weig) : List Value := [.string p.block, .int .i64 p.at_, .int .i64 p.mass, .int .i64 p.centre.x, .int .i64 p.centre.y, .int .i64 p.centre.z, .int .i64 p.sigma, tree 1 p.parts.length (encL p.parts)]
/-- As a value. -/
abbrev weigV (p : Weig) : Value := .agg (weigC p).toArray
instance : Enc Weig where
  sz := 8
  cells := weigC
  len _ := rfl
  nl p := fun v hv => List.all_eq_true.1 (show (weigC p).all nl1 = true from rfl) v hv
theorem Weig.ext' {p q : Weig} (h0 : p.block = q.block) (h1 : p.at_ = q.at_) (h2 : p.mass = q.mass) (h3 : p.centre = q.centre) (h4 : p.sigma = q.sigma) (h5 : p.parts = q.parts) : p = q := by
  cases p; cases q
  simp only at h0 h1 h2 h3 h4 h5
  simp only [h0, h1, h2, h3, h4, h5]
structure Hook4 where
  crane : ByteArray
  at_ : Pt
  radius : Int
  deriving DecidableEq
def hook4C (p : Hook4) : List Value := [.string p.crane, .int .i64 p.at_.x, .int .i64 p.at_.y, .int .i64 p.radius]
/-- As a value. -/
abbrev hook4V (p : Hook4) : Value := .agg (hook4C p).toArray
instance : Enc Hook4 where
  sz := 4
  cells := hook4C
  len _ := rfl
  nl p := fun v hv => List.all_eq_true.1 (show (hook4C p).all nl1 = true from rfl) v hv
theorem Hook4.ext' {p q : Hook4} (h0 : p.crane = q.crane) (h1 : p.at_ = q.at_) (h2 : p.radius = q.radius) : p = q := by
  cases p; cases q
  simp only at h0 h1 h2
  simp only [h0, h1, h2]
structure Lift2 where
  block : ByteArray
  hooks : List Hook4
  deriving DecidableEq
def lift2C (p : Lift2) : List Value := [.string p.block, tree 4 p.hooks.length (encL p.hooks)]
/-- As a value. -/
abbrev lift2V (p : Lift2) : Value := .agg (lift2C p).toArray
instance : Enc Lift2 where
  sz := 2
  cells := lift2C
  len _ := rfl
  nl p := fun v hv => List.all_eq_true.1 (show (lift2C p).all nl1 = true from rfl) v hv
theorem Lift2.ext' {p q : Lift2} (h0 : p.block = q.block) (h1 : p.hooks = q.hooks) : p = q := by
  cases p; cases q
  simp only at h0 h1
  simp only [h0, h1]
structure Span2 where
  a : Int
  b : Int
  deriving DecidableEq
def span2C (p : Span2) : List Value := [.int .i64 p.a, .int .i64 p.b]
/-- As a value. -/
abbrev span2V (p : Span2) : Value := .agg (span2C p).toArray
instance : Enc Span2 where
  sz := 2
  cells := span2C
  len _ := rfl
  nl p := fun v hv => List.all_eq_true.1 (show (span2C p).all nl1 = true from rfl) v hv
theorem Span2.ext' {p q : Span2} (h0 : p.a = q.a) (h1 : p.b = q.b) : p = q := by
  cases p; cases q
  simp only at h0 h1
  simp only [h0, h1]
structure Permit3 where
  id : ByteArray
  kind : Int
  time : Span2
  deriving DecidableEq
def permit3C (p : Permit3) : List Value := [.string p.id, .int .i64 p.kind, .int .i64 p.time.a, .int .i64 p.time.b]
/-- As a value. -/
abbrev permit3V (p : Permit3) : Value := .agg (permit3C p).toArray
instance : Enc Permit3 where
  sz := 4
  cells := permit3C
  len _ := rfl
  nl p := fun v hv => List.all_eq_true.1 (show (permit3C p).all nl1 = true from rfl) v hv
theorem Permit3.ext' {p q : Permit3} (h0 : p.id = q.id) (h1 : p.kind = q.kind) (h2 : p.time = q.time) : p = q := by
  cases p; cases q
  simp only at h0 h1 h2
  simp only [h0, h1, h2]
structure Event where
  kind : Int
  at_ : Int
  item : ByteArray
  of_ : ByteArray
  by_ : ByteArray
  n : Int
  pass : Bool
  order : Order2
  sheet : Sheet6
  bar : Bar5
  nest : Nest3
  saw : Saw3
  weig : Weig
  lift : Lift2
  permit : Permit3
  deriving DecidableEq
def eventC (p : Event) : List Value := [.int .i64 p.kind, .int .i64 p.at_, .string p.item, .string p.of_, .string p.by_, .int .i64 p.n, .bool p.pass, .string p.order.id, tree 38 p.order.edits.length (encL p.order.edits), .string p.sheet.id, .string p.sheet.grade, .int .i64 p.sheet.thick, .int .i64 p.sheet.long, .int .i64 p.sheet.width, .string p.sheet.heat, .string p.bar.id, .string p.bar.sect, .string p.bar.grade, .int .i64 p.bar.long, .string p.bar.heat, .string p.nest.sheet, .int .i64 p.nest.gap, tree 5 p.nest.spots.length (encL p.nest.spots), .string p.saw.bar, .int .i64 p.saw.kerf, tree 1 p.saw.parts.length (encL p.saw.parts), .string p.weig.block, .int .i64 p.weig.at_, .int .i64 p.weig.mass, .int .i64 p.weig.centre.x, .int .i64 p.weig.centre.y, .int .i64 p.weig.centre.z, .int .i64 p.weig.sigma, tree 1 p.weig.parts.length (encL p.weig.parts), .string p.lift.block, tree 4 p.lift.hooks.length (encL p.lift.hooks), .string p.permit.id, .int .i64 p.permit.kind, .int .i64 p.permit.time.a, .int .i64 p.permit.time.b]
/-- As a value. -/
abbrev eventV (p : Event) : Value := .agg (eventC p).toArray
instance : Enc Event where
  sz := 40
  cells := eventC
  len _ := rfl
  nl p := fun v hv => List.all_eq_true.1 (show (eventC p).all nl1 = true from rfl) v hv
theorem Event.ext' {p q : Event} (h0 : p.kind = q.kind) (h1 : p.at_ = q.at_) (h2 : p.item = q.item) (h3 : p.of_ = q.of_) (h4 : p.by_ = q.by_) (h5 : p.n = q.n) (h6 : p.pass = q.pass) (h7 : p.order = q.order) (h8 : p.sheet = q.sheet) (h9 : p.bar = q.bar) (h10 : p.nest = q.nest) (h11 : p.saw = q.saw) (h12 : p.weig = q.weig) (h13 : p.lift = q.lift) (h14 : p.permit = q.permit) : p = q := by
  cases p; cases q
  simp only at h0 h1 h2 h3 h4 h5 h6 h7 h8 h9 h10 h11 h12 h13 h14
  simp only [h0, h1, h2, h3, h4, h5, h6, h7, h8, h9, h10, h11, h12, h13, h14]
end Go.Proofs.YtegjnjmimfgijaaGreatDoor
noncomputable section
namespace Go.Proofs.YtegjnjmimfgijaaGreatDoor
open Go Go.RowKit
set_option maxRecDepth 100000
/-- The bytes of strings. -/
def volL (l : List ByteArray) : Nat := (l.map ByteArray.size).sum
theorem volL_mem {l : List ByteArray} {s : ByteArray} (h : s ∈ l) : s.size ≤ volL l := by
  induction l with
  | nil => cases h
  | cons a l ih =>
    have e : volL (a :: l) = a.size + volL l := by simp [volL]
    rcases List.mem_cons.1 h with rfl | h
    · omega
    · have := ih h; omega
def bStrs (l : List ByteArray) : ByteArray := l.foldl (fun s x => s ++ bText x) (bList l.length)
theorem bStrs_fold : ∀ (l : List ByteArray) (s : ByteArray), (l.foldl (fun s x => s ++ bText x) s).size ≤ s.size + volL l + 9 * l.length
  | [], s => by simp [volL]
  | a :: l, s => by
    have h1 := bStrs_fold l (s ++ bText a)
    have h2 := bText_size a
    have e : volL (a :: l) = a.size + volL l := by simp [volL]
    rw [ba_size] at h1
    simp only [List.foldl_cons, List.length_cons]
    omega
theorem volL_take (l : List ByteArray) (i : Nat) : volL (l.take i) ≤ volL l := by
  have h := congrArg volL (List.take_append_drop i l)
  have e : volL (l.take i ++ l.drop i) = volL (l.take i) + volL (l.drop i) := by unfold volL; rw [List.map_append, List.sum_append]
  omega
theorem bStrs_size (l : List ByteArray) : (bStrs l).size ≤ volL l + 9 * l.length + 9 := by
  have h := bStrs_fold l (bList l.length)
  have := bList_size l.length
  unfold bStrs
  omega
theorem bStrs_part (l : List ByteArray) (i : Nat) (hn : l.length ≤ 1000) : ((l.take i).foldl (fun s x => s ++ bText x) (bList l.length)).size ≤ volL l + 10000 := by
  have h := bStrs_fold (l.take i) (bList l.length)
  have h1 := volL_take l i
  have h2 := bList_size l.length
  have h3 := List.length_take_le' i l
  omega
theorem cell_str {l : List ByteArray} {i : Nat} (h : i < l.length) : cellAt (encL l) i 0 = .string l[i] := by
  rw [cellAt_encL' h]
  rfl
def c_strs (args : List Value) (Post : Value → Prop) : Prop := ∃ l : List ByteArray, args = [tree 1 l.length (encL l)] ∧ l.length ≤ 1000 ∧ volL l ≤ 8000000 ∧ Post (.string (bStrs l))
theorem e_elist (l : List ByteArray) (H : Code → List Fr → AS → Prop) (Post : Value → Prop) : vcP Tryz.prog (tabCall tabI noCall) 85 [(3, [3, 9, 10, 11])] [tree 1 l.length (encL l)] H Post = (True ∧ True ∧ True ∧ ∃ (n : Nat), eqL [Value.int IntKind.i64 (↑(List.length l) : Int)] [Value.int IntKind.i64 (↑n : Int)] ∧ n < 9223372036854775808 ∧ True ∧ True ∧ True ∧ True ∧ True ∧ True ∧ H (lpC Tryz.prog 85 3) (lpK Tryz.prog 85 3) (stV [(3, some (Value.string (bList n))), (9, some (tree 1 (List.length l) (encL l))), (10, some (Value.int IntKind.i64 (↑(List.length l) : Int))), (11, some (Value.int IntKind.i64 0))] [] 0)) := by kernel_rfl
theorem l_elist (l : List ByteArray) (s : ByteArray) (i : Int) (H : Code → List Fr → AS → Prop) (Post : Value → Prop) : vcLP Tryz.prog (tabCall tabI noCall) 85 [tree 1 l.length (encL l)] [(3, [3, 9, 10, 11])] 3 (stV [(3, some (.string s)), (9, some (tree 1 l.length (encL l))), (10, some (.int .i64 l.length)), (11, some (.int .i64 i))] [] 0) H Post = (True ∧ pIf (decide (i < (↑(List.length l) : Int))) ((0 ≤ i ∧ i < (↑(List.length l) : Int)) ∧ cellAt (encL l) (Int.toNat i) 0 = Value.string (toS (cellAt (encL l) (Int.toNat i) 0)) ∧ True ∧ True ∧ True ∧ ∃ (s_1 : ByteArray), eqL [Value.string (toS (cellAt (encL l) (Int.toNat i) 0))] [Value.string s_1] ∧ ByteArray.size s_1 ≤ 16000000 ∧ ByteArray.size s + ByteArray.size (bText s_1) ≤ 9223372036854775807 ∧ True ∧ True ∧ True ∧ True ∧ True ∧ H (lpC Tryz.prog 85 3) (lpK Tryz.prog 85 3) (stV [(3, some (Value.string (s ++ bText s_1))), (9, some (tree 1 (List.length l) (encL l))), (10, some (Value.int IntKind.i64 (↑(List.length l) : Int))), (11, some (Value.int IntKind.i64 (IntKind.wrap IntKind.i64 (i + 1))))] [] 0)) (True ∧ True ∧ True ∧ Post (Value.string s))) := by kernel_rfl
theorem e_rtexts (l : List ByteArray) (H : Code → List Fr → AS → Prop) (Post : Value → Prop) : vcP Tryz.prog (tabCall tabJ noCall) 89 [(3, [0, 3, 4])] [tree 1 l.length (encL l)] H Post = (True ∧ True ∧ True ∧ ∃ (n : Nat), eqL [Value.int IntKind.i64 (↑(List.length l) : Int)] [Value.int IntKind.i64 (↑n : Int)] ∧ n < 9223372036854775808 ∧ True ∧ True ∧ True ∧ True ∧ H (lpC Tryz.prog 89 3) (lpK Tryz.prog 89 3) (stV [(0, some (tree 1 (List.length l) (encL l))), (3, some (Value.string (bList n))), (4, some (Value.int IntKind.i64 0))] [] 0)) := by kernel_rfl
theorem l_rtexts (l : List ByteArray) (s : ByteArray) (i : Int) (H : Code → List Fr → AS → Prop) (Post : Value → Prop) : vcLP Tryz.prog (tabCall tabJ noCall) 89 [tree 1 l.length (encL l)] [(3, [0, 3, 4])] 3 (stV [(0, some (tree 1 l.length (encL l))), (3, some (.string s)), (4, some (.int .i64 i))] [] 0) H Post = (True ∧ True ∧ True ∧ True ∧ pIf (decide (i < (↑(List.length l) : Int))) (True ∧ True ∧ True ∧ (0 ≤ i ∧ i < (↑(List.length l) : Int)) ∧ cellAt (encL l) (Int.toNat i) 0 = Value.string (toS (cellAt (encL l) (Int.toNat i) 0)) ∧ ∃ (s_1 : ByteArray), eqL [Value.string (toS (cellAt (encL l) (Int.toNat i) 0))] [Value.string s_1] ∧ ByteArray.size s_1 ≤ 16000000 ∧ ByteArray.size s + ByteArray.size (bText s_1) ≤ 9223372036854775807 ∧ True ∧ True ∧ True ∧ True ∧ True ∧ True ∧ H (lpC Tryz.prog 89 3) (lpK Tryz.prog 89 3) (stV [(0, some (tree 1 (List.length l) (encL l))), (3, some (Value.string (s ++ bText s_1))), (4, some (Value.int IntKind.i64 (IntKind.wrap IntKind.i64 (i + 1))))] [] 0)) (True ∧ True ∧ True ∧ Post (Value.string s))) := by kernel_rfl
theorem ok_elist : EntOk Tryz.prog ⟨85, c_strs⟩ := by
  rintro args Post ⟨l, rfl, hn, hv, h⟩
  refine pure_P (vc := tabCall tabI noCall) tabI_ok mixed (by kernel_rfl) (by kernel_rfl) _ (e_elist l _ _) ?_
  simp only [true_and]
  refine ⟨l.length, rfl, by omega, ?_⟩
  refine down (n := l.length) (p := fun i => OkP 85 [tree 1 l.length (encL l)] 3 Post (stV [(3, some (.string ((l.take i).foldl (fun s x => s ++ bText x) (bList l.length)))), (9, some (tree 1 l.length (encL l))), (10, some (.int .i64 l.length)), (11, some (.int .i64 i))] [] 0)) ?_ (fun i hi ih => ?_)
  · refine ok_P (vc := tabCall tabI noCall) tabI_ok mixed _ (l_elist _ _ _ _ _) ?_
    simp only [true_and, pIf_iff, decide_eq_true_eq, decide_eq_false_iff_not]
    refine ⟨fun h' => by omega, fun _ => ?_⟩
    rwa [List.take_length]
  · refine ok_P (vc := tabCall tabI noCall) tabI_ok mixed _ (l_elist _ _ _ _ _) ?_
    simp only [true_and, pIf_iff, decide_eq_true_eq, decide_eq_false_iff_not, Int.toNat_natCast, cell_str hi, toS]
    have a1 := volL_mem (List.getElem_mem hi)
    have a2 := bText_size l[i]
    have a3 := bStrs_part l i hn
    refine ⟨fun _ => ⟨by omega, l[i], rfl, by omega, by omega, ?_⟩, fun h' => by omega⟩
    rw [wrapSucc (by omega)]
    rw [fold_take _ _ hi] at ih
    exact ih
theorem ok_rtexts : EntOk Tryz.prog ⟨89, c_strs⟩ := by
  rintro args Post ⟨l, rfl, hn, hv, h⟩
  refine pure_P (vc := tabCall tabJ noCall) tabJ_ok mixed (by kernel_rfl) (by kernel_rfl) _ (e_rtexts l _ _) ?_
  simp only [true_and]
  refine ⟨l.length, rfl, by omega, ?_⟩
  refine down (n := l.length) (p := fun i => OkP 89 [tree 1 l.length (encL l)] 3 Post (stV [(0, some (tree 1 l.length (encL l))), (3, some (.string ((l.take i).foldl (fun s x => s ++ bText x) (bList l.length)))), (4, some (.int .i64 i))] [] 0)) ?_ (fun i hi ih => ?_)
  · refine ok_P (vc := tabCall tabJ noCall) tabJ_ok mixed _ (l_rtexts _ _ _ _ _) ?_
    simp only [true_and, pIf_iff, decide_eq_true_eq, decide_eq_false_iff_not]
    refine ⟨fun h' => by omega, fun _ => ?_⟩
    rwa [List.take_length]
  · refine ok_P (vc := tabCall tabJ noCall) tabJ_ok mixed _ (l_rtexts _ _ _ _ _) ?_
    simp only [true_and, pIf_iff, decide_eq_true_eq, decide_eq_false_iff_not, Int.toNat_natCast, cell_str hi, toS]
    have a1 := volL_mem (List.getElem_mem hi)
    have a2 := bText_size l[i]
    have a3 := bStrs_part l i hn
    refine ⟨fun _ => ⟨by omega, l[i], rfl, by omega, by omega, ?_⟩, fun h' => by omega⟩
    rw [wrapSucc (by omega)]
    rw [fold_take _ _ hi] at ih
    exact ih
theorem tabEd_ok : VCallOk Tryz.prog (tabCall (⟨84, c_EncodeE⟩ :: ⟨85, c_strs⟩ :: tabI) noCall) := tabCall_ok (by
  intro e he
  simp only [tabI, List.mem_cons, List.not_mem_nil, or_false] at he
  rcases he with rfl | rfl | rfl | rfl | rfl
  · exact ok_EncodeE
  · exact ok_elist
  · exact ok_cInt
  · exact ok_cList
  · exact ok_cText) noCall_ok
theorem tabEr_ok : VCallOk Tryz.prog (tabCall (⟨88, c_EncodeE⟩ :: ⟨89, c_strs⟩ :: tabJ) noCall) := tabCall_ok (by
  intro e he
  simp only [tabJ, List.mem_cons, List.not_mem_nil, or_false] at he
  rcases he with rfl | rfl | rfl | rfl | rfl
  · exact ok_REncodeE
  · exact ok_rtexts
  · exact ok_rInt
  · exact ok_rList
  · exact ok_rText) noCall_ok
theorem e_editEnc (x : Edit) (H : Code → List Fr → AS → Prop) (Post : Value → Prop) : vcP Tryz.prog (tabCall (⟨84, c_EncodeE⟩ :: ⟨85, c_strs⟩ :: tabI) noCall) 71 [] [editV x] H Post = (True ∧ True ∧ True ∧ True ∧ True ∧ True ∧ True ∧ True ∧ ∃ (n : Int), eqL [Value.int IntKind.i64 (Edit.kind x)] [Value.int IntKind.i64 n] ∧ (-9223372036854775808 ≤ n ∧ n < 9223372036854775808) ∧ True ∧ ∃ (s : ByteArray), eqL [Value.string (Edit.id x)] [Value.string s] ∧ ByteArray.size s ≤ 16000000 ∧ True ∧ ByteArray.size (bInt n) + ByteArray.size (bText s) ≤ 9223372036854775807 ∧ ∃ (s_1 : ByteArray), eqL [Value.string (Edit.to x)] [Value.string s_1] ∧ ByteArray.size s_1 ≤ 16000000 ∧ True ∧ ByteArray.size (bInt n ++ bText s) + ByteArray.size (bText s_1) ≤ 9223372036854775807 ∧ True ∧ True ∧ True ∧ True ∧ True ∧ True ∧ True ∧ True ∧ True ∧ True ∧ True ∧ ∃ (s_2 : ByteArray), eqL [Value.string (Node3.id (Edit.node x))] [Value.string s_2] ∧ ByteArray.size s_2 ≤ 16000000 ∧ True ∧ ∃ (n_1 : Int), eqL [Value.int IntKind.i64 (Node3.kind (Edit.node x))] [Value.int IntKind.i64 n_1] ∧ (-9223372036854775808 ≤ n_1 ∧ n_1 < 9223372036854775808) ∧ True ∧ ByteArray.size (bText s_2) + ByteArray.size (bInt n_1) ≤ 9223372036854775807 ∧ ∃ (s_3 : ByteArray), eqL [Value.string (Node3.parent (Edit.node x))] [Value.string s_3] ∧ ByteArray.size s_3 ≤ 16000000 ∧ True ∧ ByteArray.size (bText s_2 ++ bInt n_1) + ByteArray.size (bText s_3) ≤ 9223372036854775807 ∧ ByteArray.size (bInt n ++ bText s ++ bText s_1) + ByteArray.size (bText s_2 ++ bInt n_1 ++ bText s_3) ≤ 9223372036854775807 ∧ True ∧ True ∧ True ∧ True ∧ ∃ (p : Part), eqL [Value.agg #[Value.string (Part.id (Edit.part x)), Value.int IntKind.i64 (Part.rev (Edit.part x)), Value.int IntKind.i64 (Part.kind (Edit.part x)), Value.string (Part.node (Edit.part x)), Value.string (Part.grade (Edit.part x)), Value.int IntKind.i64 (Part.thick (Edit.part x)), tree 2 (List.length (Part.outer (Edit.part x))) (encL (Part.outer (Edit.part x))), tree 1 (List.length (Part.holes (Edit.part x))) (encL (Part.holes (Edit.part x))), Value.string (Part.sect (Edit.part x)), Value.int IntKind.i64 (Part.long (Edit.part x)), Value.int IntKind.i64 (Part.mass (Edit.part x)), Value.int IntKind.i64 (Vec3.x (Part.centre (Edit.part x))), Value.int IntKind.i64 (Vec3.y (Part.centre (Edit.part x))), Value.int IntKind.i64 (Vec3.z (Part.centre (Edit.part x))), Value.int IntKind.i64 (Vec3.x (Part.at_ (Edit.part x))), Value.int IntKind.i64 (Vec3.y (Part.at_ (Edit.part x))), Value.int IntKind.i64 (Vec3.z (Part.at_ (Edit.part x))), Value.int IntKind.i64 (Part.turn (Edit.part x))]] [partV p] ∧ InPart p ∧ (volP p ≤ 8000000 ∧ List.length (Part.outer p) ≤ 100 ∧ List.length (Part.holes p) ≤ 20 ∧ ∀ (h : List Pt), h ∈ Part.holes p → List.length h ≤ 100) ∧ ByteArray.size (bInt n ++ bText s ++ bText s_1 ++ (bText s_2 ++ bInt n_1 ++ bText s_3)) + ByteArray.size (bPart p) ≤ 9223372036854775807 ∧ True ∧ True ∧ True ∧ True ∧ True ∧ True ∧ True ∧ True ∧ True ∧ True ∧ True ∧ True ∧ True ∧ True ∧ True ∧ True ∧ True ∧ True ∧ True ∧ True ∧ ∃ (s_4 : ByteArray), eqL [Value.string (Seam6.id (Edit.seam x))] [Value.string s_4] ∧ ByteArray.size s_4 ≤ 16000000 ∧ True ∧ ∃ (s_5 : ByteArray), eqL [Value.string (Seam6.a (Edit.seam x))] [Value.string s_5] ∧ ByteArray.size s_5 ≤ 16000000 ∧ True ∧ ByteArray.size (bText s_4) + ByteArray.size (bText s_5) ≤ 9223372036854775807 ∧ ∃ (s_6 : ByteArray), eqL [Value.string (Seam6.b (Edit.seam x))] [Value.string s_6] ∧ ByteArray.size s_6 ≤ 16000000 ∧ True ∧ ByteArray.size (bText s_4 ++ bText s_5) + ByteArray.size (bText s_6) ≤ 9223372036854775807 ∧ ∃ (n_2 : Int), eqL [Value.int IntKind.i64 (Seam6.kind (Edit.seam x))] [Value.int IntKind.i64 n_2] ∧ (-9223372036854775808 ≤ n_2 ∧ n_2 < 9223372036854775808) ∧ True ∧ ByteArray.size (bText s_4 ++ bText s_5 ++ bText s_6) + ByteArray.size (bInt n_2) ≤ 9223372036854775807 ∧ ∃ (n_3 : Int), eqL [Value.int IntKind.i64 (Seam6.long (Edit.seam x))] [Value.int IntKind.i64 n_3] ∧ (-9223372036854775808 ≤ n_3 ∧ n_3 < 9223372036854775808) ∧ True ∧ ByteArray.size (bText s_4 ++ bText s_5 ++ bText s_6 ++ bInt n_2) + ByteArray.size (bInt n_3) ≤ 9223372036854775807 ∧ ∃ (n_4 : Int), eqL [Value.int IntKind.i64 (Seam6.cls (Edit.seam x))] [Value.int IntKind.i64 n_4] ∧ (-9223372036854775808 ≤ n_4 ∧ n_4 < 9223372036854775808) ∧ True ∧ ByteArray.size (bText s_4 ++ bText s_5 ++ bText s_6 ++ bInt n_2 ++ bInt n_3) + ByteArray.size (bInt n_4) ≤ 9223372036854775807 ∧ ByteArray.size (bInt n ++ bText s ++ bText s_1 ++ (bText s_2 ++ bInt n_1 ++ bText s_3) ++ bPart p) + ByteArray.size (bText s_4 ++ bText s_5 ++ bText s_6 ++ bInt n_2 ++ bInt n_3 ++ bInt n_4) ≤ 9223372036854775807 ∧ True ∧ True ∧ True ∧ True ∧ True ∧ True ∧ True ∧ True ∧ True ∧ True ∧ True ∧ True ∧ True ∧ True ∧ True ∧ True ∧ True ∧ ∃ (s_7 : ByteArray), eqL [Value.string (Pack5.id (Edit.pack x))] [Value.string s_7] ∧ ByteArray.size s_7 ≤ 16000000 ∧ True ∧ ∃ (s_8 : ByteArray), eqL [Value.string (Pack5.block (Edit.pack x))] [Value.string s_8] ∧ ByteArray.size s_8 ≤ 16000000 ∧ True ∧ ByteArray.size (bText s_7) + ByteArray.size (bText s_8) ≤ 9223372036854775807 ∧ ∃ (l : List ByteArray), eqL [tree 1 (List.length (Pack5.parts (Edit.pack x))) (encL (Pack5.parts (Edit.pack x)))] [tree 1 (List.length l) (encL l)] ∧ List.length l ≤ 1000 ∧ volL l ≤ 8000000 ∧ True ∧ ByteArray.size (bText s_7 ++ bText s_8) + ByteArray.size (bStrs l) ≤ 9223372036854775807 ∧ ∃ (n_5 : Int), eqL [Value.int IntKind.i64 (Pack5.hours (Edit.pack x))] [Value.int IntKind.i64 n_5] ∧ (-9223372036854775808 ≤ n_5 ∧ n_5 < 9223372036854775808) ∧ True ∧ ByteArray.size (bText s_7 ++ bText s_8 ++ bStrs l) + ByteArray.size (bInt n_5) ≤ 9223372036854775807 ∧ ∃ (l_1 : List ByteArray), eqL [tree 1 (List.length (Pack5.after (Edit.pack x))) (encL (Pack5.after (Edit.pack x)))] [tree 1 (List.length l_1) (encL l_1)] ∧ List.length l_1 ≤ 1000 ∧ volL l_1 ≤ 8000000 ∧ True ∧ ByteArray.size (bText s_7 ++ bText s_8 ++ bStrs l ++ bInt n_5) + ByteArray.size (bStrs l_1) ≤ 9223372036854775807 ∧ ByteArray.size (bInt n ++ bText s ++ bText s_1 ++ (bText s_2 ++ bInt n_1 ++ bText s_3) ++ bPart p ++ (bText s_4 ++ bText s_5 ++ bText s_6 ++ bInt n_2 ++ bInt n_3 ++ bInt n_4)) + ByteArray.size (bText s_7 ++ bText s_8 ++ bStrs l ++ bInt n_5 ++ bStrs l_1) ≤ 9223372036854775807 ∧ True ∧ True ∧ True ∧ True ∧ True ∧ True ∧ True ∧ True ∧ True ∧ True ∧ True ∧ ∃ (n_6 : Int), eqL [Value.int IntKind.i64 (Need3.kind (Edit.need x))] [Value.int IntKind.i64 n_6] ∧ (-9223372036854775808 ≤ n_6 ∧ n_6 < 9223372036854775808) ∧ True ∧ ByteArray.size (bInt n ++ bText s ++ bText s_1 ++ (bText s_2 ++ bInt n_1 ++ bText s_3) ++ bPart p ++ (bText s_4 ++ bText s_5 ++ bText s_6 ++ bInt n_2 ++ bInt n_3 ++ bInt n_4) ++ (bText s_7 ++ bText s_8 ++ bStrs l ++ bInt n_5 ++ bStrs l_1)) + ByteArray.size (bInt n_6) ≤ 9223372036854775807 ∧ ∃ (s_9 : ByteArray), eqL [Value.string (Need3.block (Edit.need x))] [Value.string s_9] ∧ ByteArray.size s_9 ≤ 16000000 ∧ True ∧ ByteArray.size (bInt n ++ bText s ++ bText s_1 ++ (bText s_2 ++ bInt n_1 ++ bText s_3) ++ bPart p ++ (bText s_4 ++ bText s_5 ++ bText s_6 ++ bInt n_2 ++ bInt n_3 ++ bInt n_4) ++ (bText s_7 ++ bText s_8 ++ bStrs l ++ bInt n_5 ++ bStrs l_1) ++ bInt n_6) + ByteArray.size (bText s_9) ≤ 9223372036854775807 ∧ ∃ (s_10 : ByteArray), eqL [Value.string (Need3.on (Edit.need x))] [Value.string s_10] ∧ ByteArray.size s_10 ≤ 16000000 ∧ True ∧ ByteArray.size (bInt n ++ bText s ++ bText s_1 ++ (bText s_2 ++ bInt n_1 ++ bText s_3) ++ bPart p ++ (bText s_4 ++ bText s_5 ++ bText s_6 ++ bInt n_2 ++ bInt n_3 ++ bInt n_4) ++ (bText s_7 ++ bText s_8 ++ bStrs l ++ bInt n_5 ++ bStrs l_1) ++ bInt n_6 ++ bText s_9) + ByteArray.size (bText s_10) ≤ 9223372036854775807 ∧ True ∧ True ∧ Post (Value.string (bInt n ++ bText s ++ bText s_1 ++ (bText s_2 ++ bInt n_1 ++ bText s_3) ++ bPart p ++ (bText s_4 ++ bText s_5 ++ bText s_6 ++ bInt n_2 ++ bInt n_3 ++ bInt n_4) ++ (bText s_7 ++ bText s_8 ++ bStrs l ++ bInt n_5 ++ bStrs l_1) ++ bInt n_6 ++ bText s_9 ++ bText s_10))) := by kernel_rfl
theorem e_reditEnc (x : Edit) (H : Code → List Fr → AS → Prop) (Post : Value → Prop) : vcP Tryz.prog (tabCall (⟨88, c_EncodeE⟩ :: ⟨89, c_strs⟩ :: tabJ) noCall) 77 [] [editV x] H Post = (True ∧ True ∧ True ∧ True ∧ True ∧ True ∧ True ∧ True ∧ ∃ (n : Int), eqL [Value.int IntKind.i64 (Edit.kind x)] [Value.int IntKind.i64 n] ∧ (-9223372036854775808 ≤ n ∧ n < 9223372036854775808) ∧ True ∧ ∃ (s : ByteArray), eqL [Value.string (Edit.id x)] [Value.string s] ∧ ByteArray.size s ≤ 16000000 ∧ True ∧ ByteArray.size (bInt n) + ByteArray.size (bText s) ≤ 9223372036854775807 ∧ ∃ (s_1 : ByteArray), eqL [Value.string (Edit.to x)] [Value.string s_1] ∧ ByteArray.size s_1 ≤ 16000000 ∧ True ∧ ByteArray.size (bInt n ++ bText s) + ByteArray.size (bText s_1) ≤ 9223372036854775807 ∧ True ∧ True ∧ True ∧ True ∧ True ∧ True ∧ True ∧ True ∧ True ∧ True ∧ True ∧ True ∧ True ∧ ∃ (s_2 : ByteArray), eqL [Value.string (Node3.id (Edit.node x))] [Value.string s_2] ∧ ByteArray.size s_2 ≤ 16000000 ∧ True ∧ ByteArray.size (bInt n ++ bText s ++ bText s_1) + ByteArray.size (bText s_2) ≤ 9223372036854775807 ∧ ∃ (n_1 : Int), eqL [Value.int IntKind.i64 (Node3.kind (Edit.node x))] [Value.int IntKind.i64 n_1] ∧ (-9223372036854775808 ≤ n_1 ∧ n_1 < 9223372036854775808) ∧ True ∧ ByteArray.size (bInt n ++ bText s ++ bText s_1 ++ bText s_2) + ByteArray.size (bInt n_1) ≤ 9223372036854775807 ∧ ∃ (s_3 : ByteArray), eqL [Value.string (Node3.parent (Edit.node x))] [Value.string s_3] ∧ ByteArray.size s_3 ≤ 16000000 ∧ True ∧ ByteArray.size (bInt n ++ bText s ++ bText s_1 ++ bText s_2 ++ bInt n_1) + ByteArray.size (bText s_3) ≤ 9223372036854775807 ∧ ∃ (p : Part), eqL [Value.agg #[Value.string (Part.id (Edit.part x)), Value.int IntKind.i64 (Part.rev (Edit.part x)), Value.int IntKind.i64 (Part.kind (Edit.part x)), Value.string (Part.node (Edit.part x)), Value.string (Part.grade (Edit.part x)), Value.int IntKind.i64 (Part.thick (Edit.part x)), tree 2 (List.length (Part.outer (Edit.part x))) (encL (Part.outer (Edit.part x))), tree 1 (List.length (Part.holes (Edit.part x))) (encL (Part.holes (Edit.part x))), Value.string (Part.sect (Edit.part x)), Value.int IntKind.i64 (Part.long (Edit.part x)), Value.int IntKind.i64 (Part.mass (Edit.part x)), Value.int IntKind.i64 (Vec3.x (Part.centre (Edit.part x))), Value.int IntKind.i64 (Vec3.y (Part.centre (Edit.part x))), Value.int IntKind.i64 (Vec3.z (Part.centre (Edit.part x))), Value.int IntKind.i64 (Vec3.x (Part.at_ (Edit.part x))), Value.int IntKind.i64 (Vec3.y (Part.at_ (Edit.part x))), Value.int IntKind.i64 (Vec3.z (Part.at_ (Edit.part x))), Value.int IntKind.i64 (Part.turn (Edit.part x))]] [partV p] ∧ InPart p ∧ (volP p ≤ 8000000 ∧ List.length (Part.outer p) ≤ 100 ∧ List.length (Part.holes p) ≤ 20 ∧ ∀ (h : List Pt), h ∈ Part.holes p → List.length h ≤ 100) ∧ True ∧ ByteArray.size (bInt n ++ bText s ++ bText s_1 ++ bText s_2 ++ bInt n_1 ++ bText s_3) + ByteArray.size (bPart p) ≤ 9223372036854775807 ∧ True ∧ True ∧ True ∧ True ∧ True ∧ True ∧ True ∧ True ∧ True ∧ True ∧ True ∧ True ∧ True ∧ True ∧ True ∧ True ∧ True ∧ True ∧ True ∧ True ∧ ∃ (s_4 : ByteArray), eqL [Value.string (Seam6.id (Edit.seam x))] [Value.string s_4] ∧ ByteArray.size s_4 ≤ 16000000 ∧ True ∧ ByteArray.size (bInt n ++ bText s ++ bText s_1 ++ bText s_2 ++ bInt n_1 ++ bText s_3 ++ bPart p) + ByteArray.size (bText s_4) ≤ 9223372036854775807 ∧ ∃ (s_5 : ByteArray), eqL [Value.string (Seam6.a (Edit.seam x))] [Value.string s_5] ∧ ByteArray.size s_5 ≤ 16000000 ∧ True ∧ ByteArray.size (bInt n ++ bText s ++ bText s_1 ++ bText s_2 ++ bInt n_1 ++ bText s_3 ++ bPart p ++ bText s_4) + ByteArray.size (bText s_5) ≤ 9223372036854775807 ∧ ∃ (s_6 : ByteArray), eqL [Value.string (Seam6.b (Edit.seam x))] [Value.string s_6] ∧ ByteArray.size s_6 ≤ 16000000 ∧ True ∧ ByteArray.size (bInt n ++ bText s ++ bText s_1 ++ bText s_2 ++ bInt n_1 ++ bText s_3 ++ bPart p ++ bText s_4 ++ bText s_5) + ByteArray.size (bText s_6) ≤ 9223372036854775807 ∧ ∃ (n_2 : Int), eqL [Value.int IntKind.i64 (Seam6.kind (Edit.seam x))] [Value.int IntKind.i64 n_2] ∧ (-9223372036854775808 ≤ n_2 ∧ n_2 < 9223372036854775808) ∧ True ∧ ByteArray.size (bInt n ++ bText s ++ bText s_1 ++ bText s_2 ++ bInt n_1 ++ bText s_3 ++ bPart p ++ bText s_4 ++ bText s_5 ++ bText s_6) + ByteArray.size (bInt n_2) ≤ 9223372036854775807 ∧ ∃ (n_3 : Int), eqL [Value.int IntKind.i64 (Seam6.long (Edit.seam x))] [Value.int IntKind.i64 n_3] ∧ (-9223372036854775808 ≤ n_3 ∧ n_3 < 9223372036854775808) ∧ True ∧ ByteArray.size (bInt n ++ bText s ++ bText s_1 ++ bText s_2 ++ bInt n_1 ++ bText s_3 ++ bPart p ++ bText s_4 ++ bText s_5 ++ bText s_6 ++ bInt n_2) + ByteArray.size (bInt n_3) ≤ 9223372036854775807 ∧ ∃ (n_4 : Int), eqL [Value.int IntKind.i64 (Seam6.cls (Edit.seam x))] [Value.int IntKind.i64 n_4] ∧ (-9223372036854775808 ≤ n_4 ∧ n_4 < 9223372036854775808) ∧ True ∧ ByteArray.size (bInt n ++ bText s ++ bText s_1 ++ bText s_2 ++ bInt n_1 ++ bText s_3 ++ bPart p ++ bText s_4 ++ bText s_5 ++ bText s_6 ++ bInt n_2 ++ bInt n_3) + ByteArray.size (bInt n_4) ≤ 9223372036854775807 ∧ True ∧ True ∧ True ∧ True ∧ True ∧ True ∧ True ∧ True ∧ True ∧ True ∧ True ∧ True ∧ True ∧ True ∧ True ∧ True ∧ True ∧ ∃ (s_7 : ByteArray), eqL [Value.string (Pack5.id (Edit.pack x))] [Value.string s_7] ∧ ByteArray.size s_7 ≤ 16000000 ∧ True ∧ ByteArray.size (bInt n ++ bText s ++ bText s_1 ++ bText s_2 ++ bInt n_1 ++ bText s_3 ++ bPart p ++ bText s_4 ++ bText s_5 ++ bText s_6 ++ bInt n_2 ++ bInt n_3 ++ bInt n_4) + ByteArray.size (bText s_7) ≤ 9223372036854775807 ∧ ∃ (s_8 : ByteArray), eqL [Value.string (Pack5.block (Edit.pack x))] [Value.string s_8] ∧ ByteArray.size s_8 ≤ 16000000 ∧ True ∧ ByteArray.size (bInt n ++ bText s ++ bText s_1 ++ bText s_2 ++ bInt n_1 ++ bText s_3 ++ bPart p ++ bText s_4 ++ bText s_5 ++ bText s_6 ++ bInt n_2 ++ bInt n_3 ++ bInt n_4 ++ bText s_7) + ByteArray.size (bText s_8) ≤ 9223372036854775807 ∧ ∃ (l : List ByteArray), eqL [tree 1 (List.length (Pack5.parts (Edit.pack x))) (encL (Pack5.parts (Edit.pack x)))] [tree 1 (List.length l) (encL l)] ∧ List.length l ≤ 1000 ∧ volL l ≤ 8000000 ∧ True ∧ ByteArray.size (bInt n ++ bText s ++ bText s_1 ++ bText s_2 ++ bInt n_1 ++ bText s_3 ++ bPart p ++ bText s_4 ++ bText s_5 ++ bText s_6 ++ bInt n_2 ++ bInt n_3 ++ bInt n_4 ++ bText s_7 ++ bText s_8) + ByteArray.size (bStrs l) ≤ 9223372036854775807 ∧ ∃ (n_5 : Int), eqL [Value.int IntKind.i64 (Pack5.hours (Edit.pack x))] [Value.int IntKind.i64 n_5] ∧ (-9223372036854775808 ≤ n_5 ∧ n_5 < 9223372036854775808) ∧ True ∧ ByteArray.size (bInt n ++ bText s ++ bText s_1 ++ bText s_2 ++ bInt n_1 ++ bText s_3 ++ bPart p ++ bText s_4 ++ bText s_5 ++ bText s_6 ++ bInt n_2 ++ bInt n_3 ++ bInt n_4 ++ bText s_7 ++ bText s_8 ++ bStrs l) + ByteArray.size (bInt n_5) ≤ 9223372036854775807 ∧ ∃ (l_1 : List ByteArray), eqL [tree 1 (List.length (Pack5.after (Edit.pack x))) (encL (Pack5.after (Edit.pack x)))] [tree 1 (List.length l_1) (encL l_1)] ∧ List.length l_1 ≤ 1000 ∧ volL l_1 ≤ 8000000 ∧ True ∧ ByteArray.size (bInt n ++ bText s ++ bText s_1 ++ bText s_2 ++ bInt n_1 ++ bText s_3 ++ bPart p ++ bText s_4 ++ bText s_5 ++ bText s_6 ++ bInt n_2 ++ bInt n_3 ++ bInt n_4 ++ bText s_7 ++ bText s_8 ++ bStrs l ++ bInt n_5) + ByteArray.size (bStrs l_1) ≤ 9223372036854775807 ∧ True ∧ True ∧ True ∧ True ∧ True ∧ True ∧ True ∧ True ∧ True ∧ True ∧ True ∧ ∃ (n_6 : Int), eqL [Value.int IntKind.i64 (Need3.kind (Edit.need x))] [Value.int IntKind.i64 n_6] ∧ (-9223372036854775808 ≤ n_6 ∧ n_6 < 9223372036854775808) ∧ True ∧ ByteArray.size (bInt n ++ bText s ++ bText s_1 ++ bText s_2 ++ bInt n_1 ++ bText s_3 ++ bPart p ++ bText s_4 ++ bText s_5 ++ bText s_6 ++ bInt n_2 ++ bInt n_3 ++ bInt n_4 ++ bText s_7 ++ bText s_8 ++ bStrs l ++ bInt n_5 ++ bStrs l_1) + ByteArray.size (bInt n_6) ≤ 9223372036854775807 ∧ ∃ (s_9 : ByteArray), eqL [Value.string (Need3.block (Edit.need x))] [Value.string s_9] ∧ ByteArray.size s_9 ≤ 16000000 ∧ True ∧ ByteArray.size (bInt n ++ bText s ++ bText s_1 ++ bText s_2 ++ bInt n_1 ++ bText s_3 ++ bPart p ++ bText s_4 ++ bText s_5 ++ bText s_6 ++ bInt n_2 ++ bInt n_3 ++ bInt n_4 ++ bText s_7 ++ bText s_8 ++ bStrs l ++ bInt n_5 ++ bStrs l_1 ++ bInt n_6) + ByteArray.size (bText s_9) ≤ 9223372036854775807 ∧ ∃ (s_10 : ByteArray), eqL [Value.string (Need3.on (Edit.need x))] [Value.string s_10] ∧ ByteArray.size s_10 ≤ 16000000 ∧ True ∧ ByteArray.size (bInt n ++ bText s ++ bText s_1 ++ bText s_2 ++ bInt n_1 ++ bText s_3 ++ bPart p ++ bText s_4 ++ bText s_5 ++ bText s_6 ++ bInt n_2 ++ bInt n_3 ++ bInt n_4 ++ bText s_7 ++ bText s_8 ++ bStrs l ++ bInt n_5 ++ bStrs l_1 ++ bInt n_6 ++ bText s_9) + ByteArray.size (bText s_10) ≤ 9223372036854775807 ∧ True ∧ True ∧ Post (Value.string (bInt n ++ bText s ++ bText s_1 ++ bText s_2 ++ bInt n_1 ++ bText s_3 ++ bPart p ++ bText s_4 ++ bText s_5 ++ bText s_6 ++ bInt n_2 ++ bInt n_3 ++ bInt n_4 ++ bText s_7 ++ bText s_8 ++ bStrs l ++ bInt n_5 ++ bStrs l_1 ++ bInt n_6 ++ bText s_9 ++ bText s_10))) := by kernel_rfl
/-- The bytes of an edit's strings. -/
def volE (x : Edit) : Nat := x.id.size + x.to.size + x.node.id.size + x.node.parent.size + volP x.part + x.seam.id.size + x.seam.a.size + x.seam.b.size + x.pack.id.size + x.pack.block.size + volL x.pack.parts + volL x.pack.after + x.need.block.size + x.need.on.size
structure InEdit (x : Edit) : Prop where
  kind : In64 x.kind
  node : In64 x.node.kind
  part : InPart x.part
  seam : In64 x.seam.kind
  long : In64 x.seam.long
  cls : In64 x.seam.cls
  hours : In64 x.pack.hours
  need : In64 x.need.kind
structure FewEd (x : Edit) : Prop where
  vol : volE x ≤ 8000000
  parts : x.pack.parts.length ≤ 1000
  after : x.pack.after.length ≤ 1000
  outer : x.part.outer.length ≤ 100
  holes : x.part.holes.length ≤ 20
  all : ∀ h ∈ x.part.holes, h.length ≤ 100
def bNode (n : Node3) : ByteArray := bText n.id ++ bInt n.kind ++ bText n.parent
def bSeam (n : Seam6) : ByteArray := bText n.id ++ bText n.a ++ bText n.b ++ bInt n.kind ++ bInt n.long ++ bInt n.cls
def bPack (n : Pack5) : ByteArray := bText n.id ++ bText n.block ++ bStrs n.parts ++ bInt n.hours ++ bStrs n.after
/-- The bytes of an edit. -/
def bEdit (x : Edit) : ByteArray := bInt x.kind ++ bText x.id ++ bText x.to ++ bNode x.node ++ bPart x.part ++ bSeam x.seam ++ bPack x.pack ++ bInt x.need.kind ++ bText x.need.block ++ bText x.need.on
theorem FewEd.part {x : Edit} (h : FewEd x) : fewE x.part := ⟨by have := h.vol; unfold volE at this; omega, h.outer, h.holes, h.all⟩
theorem bEdit_size {x : Edit} (h : FewEd x) : (bEdit x).size ≤ volE x + 60000 := by
  have h0 := bPart_sizeE h.part
  have h1 := h.parts
  have h2 := h.after
  have a1 := bText_size x.id
  have a2 := bText_size x.to
  have a3 := bText_size x.node.id
  have a4 := bText_size x.node.parent
  have a5 := bText_size x.seam.id
  have a6 := bText_size x.seam.a
  have a7 := bText_size x.seam.b
  have a8 := bText_size x.pack.id
  have a9 := bText_size x.pack.block
  have b1 := bStrs_size x.pack.parts
  have b2 := bStrs_size x.pack.after
  have b3 := bText_size x.need.block
  have b4 := bText_size x.need.on
  have c1 := bInt_size x.kind
  have c2 := bInt_size x.node.kind
  have c3 := bInt_size x.seam.kind
  have c4 := bInt_size x.seam.long
  have c5 := bInt_size x.seam.cls
  have c6 := bInt_size x.pack.hours
  have c7 := bInt_size x.need.kind
  unfold bEdit bNode bSeam bPack volE
  simp only [ba_size]
  omega
def c_Edit (args : List Value) (Post : Value → Prop) : Prop := ∃ x : Edit, args = [editV x] ∧ InEdit x ∧ FewEd x ∧ Post (.string (bEdit x))
theorem ok_editEnc : EntOk Tryz.prog ⟨71, c_Edit⟩ := by
  rintro args Post ⟨x, rfl, hin, hf, h⟩
  refine pure_P (vc := tabCall (⟨84, c_EncodeE⟩ :: ⟨85, c_strs⟩ :: tabI) noCall) tabEd_ok mixed (by kernel_rfl) (by kernel_rfl) _ (e_editEnc x _ _) ?_
  have h0 := bPart_sizeE hf.part
  have hfp := hf.part
  have hip := hin.part
  have h1 := hf.parts
  have h2 := hf.after
  have hv := hf.vol
  have a1 := bText_size x.id
  have a2 := bText_size x.to
  have a3 := bText_size x.node.id
  have a4 := bText_size x.node.parent
  have a5 := bText_size x.seam.id
  have a6 := bText_size x.seam.a
  have a7 := bText_size x.seam.b
  have a8 := bText_size x.pack.id
  have a9 := bText_size x.pack.block
  have b1 := bStrs_size x.pack.parts
  have b2 := bStrs_size x.pack.after
  have b3 := bText_size x.need.block
  have b4 := bText_size x.need.on
  have c1 := bInt_size x.kind
  have c2 := bInt_size x.node.kind
  have c3 := bInt_size x.seam.kind
  have c4 := bInt_size x.seam.long
  have c5 := bInt_size x.seam.cls
  have c6 := bInt_size x.pack.hours
  have c7 := bInt_size x.need.kind
  obtain ⟨⟨i1, j1⟩, ⟨i2, j2⟩, _, ⟨i3, j3⟩, ⟨i4, j4⟩, ⟨i5, j5⟩, ⟨i6, j6⟩, ⟨i7, j7⟩⟩ := hin
  unfold volE at hv
  simp only [true_and, and_true]
  repeat (first | refine ⟨_, rfl, (by first | exact hip | omega), ?_⟩ | refine ⟨hfp, ?_⟩ | refine ⟨(by first | omega | (simp only [ba_size]; omega)), ?_⟩)
  exact h
set_option maxHeartbeats 2000000 in
theorem ok_reditEnc : EntOk Tryz.prog ⟨77, c_Edit⟩ := by
  rintro args Post ⟨x, rfl, hin, hf, h⟩
  refine pure_P (vc := tabCall (⟨88, c_EncodeE⟩ :: ⟨89, c_strs⟩ :: tabJ) noCall) tabEr_ok mixed (by kernel_rfl) (by kernel_rfl) _ (e_reditEnc x _ _) ?_
  have h0 := bPart_sizeE hf.part
  have hfp := hf.part
  have hip := hin.part
  have h1 := hf.parts
  have h2 := hf.after
  have hv := hf.vol
  have a1 := bText_size x.id
  have a2 := bText_size x.to
  have a3 := bText_size x.node.id
  have a4 := bText_size x.node.parent
  have a5 := bText_size x.seam.id
  have a6 := bText_size x.seam.a
  have a7 := bText_size x.seam.b
  have a8 := bText_size x.pack.id
  have a9 := bText_size x.pack.block
  have b1 := bStrs_size x.pack.parts
  have b2 := bStrs_size x.pack.after
  have b3 := bText_size x.need.block
  have b4 := bText_size x.need.on
  have c1 := bInt_size x.kind
  have c2 := bInt_size x.node.kind
  have c3 := bInt_size x.seam.kind
  have c4 := bInt_size x.seam.long
  have c5 := bInt_size x.seam.cls
  have c6 := bInt_size x.pack.hours
  have c7 := bInt_size x.need.kind
  obtain ⟨⟨i1, j1⟩, ⟨i2, j2⟩, _, ⟨i3, j3⟩, ⟨i4, j4⟩, ⟨i5, j5⟩, ⟨i6, j6⟩, ⟨i7, j7⟩⟩ := hin
  unfold volE at hv
  simp only [true_and, and_true]
  repeat (first | refine ⟨_, rfl, (by first | exact hip | omega), ?_⟩ | refine ⟨hfp, ?_⟩ | refine ⟨(by first | omega | (simp only [ba_size]; omega)), ?_⟩)
  refine of_v h (congrArg Value.string ?_)
  simp only [bEdit, bNode, bSeam, bPack, ba_assoc]
end Go.Proofs.YtegjnjmimfgijaaGreatDoor
noncomputable section
namespace Go.Proofs.YtegjnjmimfgijaaGreatDoor
open Go Go.RowKit

/-- What a call ends in. -/
inductive Out where
  | ret (v : Value)
  | pan (v : Value)
abbrev PCall := FuncId → List Value → Tr AObj → Nat → (Out → Tr AObj → Nat → Prop) → Prop
def Out.Ends (ρ : Place) (r : Out) (e : Ending) : Prop :=
  match r with
  | .ret v => ∃ v', e = .returned v' ∧ VR ρ v v'
  | .pan v => ∃ v', e = .panicked [{ v := v', recovered := false }] ∧ VR ρ v v'
def PCallOk (P : Program) (pc : PCall) : Prop :=
  ∀ f args hp nx K, pc f args hp nx K → ∀ (W : Base) ρ w args', Rel ρ W hp nx w → VRL ρ args args' →
    Calls P f args'.toArray w fun e w' => ∃ r hp' nx' ρ', K r hp' nx' ∧ r.Ends ρ' e ∧ Rel ρ' W hp' nx' w' ∧ Step ρ ρ' hp hp' nx nx'
def ofV (vc : VCall) : PCall := fun f args hp nx K => vc f args hp nx fun v _ hp' nx' => K (.ret v) hp' nx'
def onRet (K : Value → Bool → Tr AObj → Nat → Prop) (r : Out) (hp : Tr AObj) (nx : Nat) : Prop :=
  match r with
  | .ret v => K v true hp nx
  | .pan _ => False
def toV (pc : PCall) : VCall := fun f args hp nx K => pc f args hp nx (onRet K)
theorem ofV_ok {P : Program} {vc : VCall} (h : VCallOk P vc) : PCallOk P (ofV vc) := fun f args hp nx K hs W ρ w args' hr ha =>
  (h f args hp nx _ hs W ρ w args' hr ha).mono fun _ _ ⟨v, _, hp', nx', v', ρ', k, _, e, g1, g2, g3⟩ => ⟨.ret v, hp', nx', ρ', k, ⟨v', e, g1⟩, g2, g3⟩
theorem toV_ok {P : Program} {pc : PCall} (h : PCallOk P pc) : VCallOk P (toV pc) := fun f args hp nx K hs W ρ w args' hr ha =>
  (h f args hp nx _ hs W ρ w args' hr ha).mono fun _ _ ⟨r, hp', nx', ρ', k, e, g2, g3⟩ => by
    cases r with
    | ret v => obtain ⟨v', e, g1⟩ := e; exact ⟨v, true, hp', nx', v', ρ', k, fun e => (by cases e), e, g1, g2, g3⟩
    | pan v => exact k.elim
/-- Operations that write, calls, and panics. -/
def pheavy (P : Program) (pc : PCall) (hp : Tr AObj) (nx : Nat) (o : Oper) (ev : Operand → Option Value) (K : Out → Tr AObj → Nat → Prop) : Prop :=
  match o.op with
  | .panic x => match ev x with
    | some (.iface t v) => K (.pan (.iface t v)) hp nx
    | _ => False
  | .call c => match c.callee with
    | .value f => match ev f, evL ev c.args.toList with
      | some (.func (.func k) first captured), some args => bif enters P k then pc k (first.toList ++ args ++ captured.toList) hp nx K else False
      | _, _ => False
    | .invoke x name => match ev x, evL ev c.args.toList with
      | some (.iface t v), some args => match aMethod P t name with
        | some k => bif enters P k then pc k (v :: args) hp nx K else False
        | none => False
      | _, _ => False
    | .builtin .panic => match c.args.toList with
      | [x] => match ev x with
        | some (.iface t v) => K (.pan (.iface t v)) hp nx
        | _ => False
      | _ => False
    | _ => vheavy P (toV pc) hp nx o ev fun v _ hp' nx' => K (.ret v) hp' nx'
  | _ => vheavy P (toV pc) hp nx o ev fun v _ hp' nx' => K (.ret v) hp' nx'
theorem pheavy_sound {P : Program} {pc : PCall} {ρ : Place} {W : Base} (hcall : PCallOk P pc) {hp : Tr AObj} {nx : Nat} {w : World} (h : Rel ρ W hp nx w) {ev : Operand → Option Value} {a : Act} (hF : ERel ρ ev a) {o : Oper} {K : Out → Tr AObj → Nat → Prop}
    (hs : pheavy P pc hp nx o ev K) {next : Act → World → Prop} {Q : Exit → Act → World → Prop}
    (hk : ∀ v hp' nx' v' w' ρ', K (.ret v) hp' nx' → VR ρ' v v' → Rel ρ' W hp' nx' w' → Step ρ ρ' hp hp' nx nx' → next (a.put o.dst v') w')
    (hq : ∀ v hp' nx' v' w' ρ', K (.pan v) hp' nx' → VR ρ' v v' → Rel ρ' W hp' nx' w' → Step ρ ρ' hp hp' nx nx' → Q (.panic [{ v := v', recovered := false }]) a w') : o.wp P a w next Q := by
  have base : (vheavy P (toV pc) hp nx o ev fun v _ hp' nx' => K (.ret v) hp' nx') → o.wp P a w next Q := fun hb =>
    vheavy_sound (toV_ok hcall) h hF hb fun v _ hp' nx' v' w' ρ' k _ g1 g2 g3 => hk v hp' nx' v' w' ρ' k g1 g2 g3
  have ends : ∀ (k : FuncId) (args args' : List Value), pc k args hp nx K → VRL ρ args args' → (execOp a.eval o).run P w = .ok (.enter k args'.toArray) w → o.wp P a w next Q := by
    intro k args args' hc hA hrun
    unfold Oper.wp
    rw [hrun]
    refine (hcall k args hp nx K hc W ρ w _ h hA).mono ?_
    rintro e w' ⟨r, hp', nx', ρ', hK, he, g2, g3⟩
    cases r with
    | ret v => obtain ⟨v', rfl, g1⟩ := he; exact hk v hp' nx' v' w' ρ' hK g1 g2 g3
    | pan v => obtain ⟨v', rfl, g1⟩ := he; exact hq v hp' nx' v' w' ρ' hK g1 g2 g3
  have pans : ∀ (t : TypeId) (u : Value) (X : Value), VR ρ (.iface t u) X → K (.pan (.iface t u)) hp nx → (execOp a.eval o).run P w = ((Instr.panic X) >>= fun r => pure (Next.value r)).run P w → o.wp P a w next Q := by
    intro t u X hX hK hrun
    unfold Oper.wp
    rw [hrun]
    cases hX with
    | iface _ hu => exact hq _ _ _ _ _ ρ hK (.iface t hu) h (.refl _ _ _)
  obtain ⟨dst, op, type, pos, after, guard⟩ := o
  unfold pheavy at hs
  cases op <;> dsimp only at hs <;> try exact base hs
  case panic x =>
    split at hs
    case h_2 => exact hs.elim
    rename_i t u hx
    exact pans t u _ (hF.eval hx) hs rfl
  case call c =>
    obtain ⟨callee, args, argTypes⟩ := c
    dsimp only at hs
    split at hs
    · rename_i f
      split at hs
      case h_2 => exact hs.elim
      rename_i k first captured as0 hf has
      cases he : enters P k with
      | false => rw [he] at hs; exact hs.elim
      | true =>
        rw [he, cond_true] at hs
        have hfv := hF.eval hf
        generalize hE : a.eval f = E at hfv
        cases hfv
        rename_i first' captured' s1 v1 s2 v2
        have hA := evL_sound hF has
        have hL := ((VRA.list ⟨s1, v1⟩).append hA).append (VRA.list ⟨s2, v2⟩)
        refine ends k _ _ hs hL ?_
        have e2 : (first'.toList ++ args.toList.map a.eval ++ captured'.toList).toArray = first' ++ args.map a.eval ++ captured' := by apply Array.ext'; simp
        rw [e2]
        unfold execOp
        simp only [resolve, hE]
        show (callFunc k (first' ++ args.map a.eval ++ captured')).run P w = _
        exact pureRun_run (enters_run he _) w
    · rename_i x name
      split at hs
      case h_2 => exact hs.elim
      rename_i t v as0 hx has
      split at hs
      case h_2 => exact hs.elim
      rename_i k hm
      cases he : enters P k with
      | false => rw [he] at hs; exact hs.elim
      | true =>
        rw [he, cond_true] at hs
        have hxv := hF.eval hx
        have hA := evL_sound hF has
        generalize hE : a.eval x = E at hxv
        cases hxv with
        | @iface _ _ v' hv =>
          refine ends k (v :: as0) (v' :: args.toList.map a.eval) hs (.cons hv hA) ?_
          have hpos : ∃ j, P.types.size + Made.depth = j + 1 := ⟨P.types.size + Made.depth - 1, by have : 0 < Made.depth := by decide
                                                                                                   omega⟩
          obtain ⟨j, hj⟩ := hpos
          have e2 : (v' :: args.toList.map a.eval).toArray = #[v'] ++ args.map a.eval := by apply Array.ext'; simp
          have e3 : (#[Value.iface t v'] ++ args.map a.eval).extract 1 (#[Value.iface t v'] ++ args.map a.eval).size = args.map a.eval := by
            apply Array.ext'
            simp
            exact List.take_of_length_le (by simp)
          have e0 : (#[Value.iface t v'] ++ args.map a.eval)[0]? = some (.iface t v') := by rw [Array.getElem?_append_left (Nat.zero_lt_one)]; rfl
          rw [e2]
          unfold execOp
          simp only [resolve, hE]
          show (invoke (.fn (.method name) #[]) (#[Value.iface t v'] ++ args.map a.eval)).run P w = _
          unfold invoke
          dsimp only
          rw [e0]
          dsimp only
          rw [e3]
          unfold callMethod
          dsimp only
          have hprog : pureRun P program = some P := rfl
          rw [bind_run hprog]
          rw [hj]
          rw [bind_run (aMethod_run hm v' j)]
          exact pureRun_run (enters_run he _) w
    · split at hs
      case h_2 => exact hs.elim
      rename_i x hargs
      split at hs
      case h_2 => exact hs.elim
      rename_i t u hx
      refine pans t u _ (hF.eval hx) hs ?_
      have : args = #[x] := by apply Array.ext'; simpa using hargs
      subst this
      have e1 : (#[x].map a.eval) = #[a.eval x] := by simp
      unfold execOp
      simp only [resolve, e1]
      rfl
    · exact base hs
def isPan : Op → Bool
  | .panic _ => true
  | .call c => match c.callee with
    | .builtin .panic | .invoke _ _ => true
    | _ => false
  | _ => false
/-- A region in the text's order. -/
def vseqP (P : Program) (pc : PCall) (ops : Array Oper) (n : Nat) : List Oper → AS → (AS → Prop) → (Value → AS → Prop) → Prop
  | [], st, K, _ => K st
  | o :: l, st, K, X => vguard ops st.tm o
      (bif isHeavy o.op || isPan o.op then pheavy P pc st.hp st.nx o (aev st.tm) fun r hp' nx' => match r with
          | .ret v => vsplit v fun v => match aput n st.tm o.dst v with
            | some tm' => vseqP P pc ops n l ⟨tm', hp', nx'⟩ K X
            | none => False
          | .pan v => X v ⟨st.tm, hp', nx'⟩
        else match slight P st.hp o (aev st.tm) with
          | some (.val v, ob) => ob ∧ vsplit v fun v => match aput n st.tm o.dst v with
            | some tm' => vseqP P pc ops n l ⟨tm', st.hp, st.nx⟩ K X
            | none => False
          | some (.new b nv, ob) => match aput n st.tm o.dst (nv.val st.nx) with
            | some tm' => ob ∧ vseqP P pc ops n l ⟨tm', st.hp.put st.nx (some b), st.nx + 1⟩ K X
            | none => False
          | none => False)
      (match aput n st.tm o.dst undef with
        | some tm' => vseqP P pc ops n l ⟨tm', st.hp, st.nx⟩ K X
        | none => False)
theorem vseqP_sound {P : Program} {pc : PCall} {W : Base} (hcall : PCallOk P pc) {ops : Array Oper} {n : Nat} {Q : Exit → Act → World → Prop} : ∀ (l : List Oper) (k : Nat) (st : AS) (K : AS → Prop) (X : Value → AS → Prop) (ρ : Place) (a : Act) (w : World), ops.toList.drop k = l →
    SRel ρ W n st a w → vseqP P pc ops n l st K X → (∀ st', K st' → ∀ a' w' ρ', SRel ρ' W n st' a' w' → Step ρ ρ' st.hp st'.hp st.nx st'.nx → Q .normal a' w') →
    (∀ v st', X v st' → ∀ v' a' w' ρ', VR ρ' v v' → SRel ρ' W n st' a' w' → Step ρ ρ' st.hp st'.hp st.nx st'.nx → Q (.panic [{ v := v', recovered := false }]) a' w') → wpOps P ops Q (List.range' k l.length) a w
  | [], k, st, K, X, ρ, a, w, _, h, hs, hk, _ => by
    simp only [vseqP] at hs
    exact hk st hs a w ρ h (.refl _ _ _)
  | o :: l, k, st, K, X, ρ, a, w, hd, h, hs, hk, hx => by
    simp only [vseqP] at hs
    have hi : ops[k]? = some o := by
      have : (ops.toList.drop k)[0]? = some o := by rw [hd]; rfl
      rw [List.getElem?_drop] at this
      simpa using this
    have next : ∀ (st1 : AS) (a1 : Act) (w1 : World) (ρ1 : Place), SRel ρ1 W n st1 a1 w1 → Step ρ ρ1 st.hp st1.hp st.nx st1.nx → vseqP P pc ops n l st1 K X → wpOps P ops Q (List.range' (k + 1) l.length) a1 w1 :=
      fun st1 a1 w1 ρ1 hr hst hv => vseqP_sound hcall l (k + 1) st1 K X ρ1 a1 w1 (by rw [← List.drop_drop, hd]; rfl) hr hv (fun st' hK a' w' ρ' g1 g2 => hk st' hK a' w' ρ' g1 (hst.trans g2)) (fun v st' hX v' a' w' ρ' g0 g1 g2 => hx v st' hX v' a' w' ρ' g0 g1 (hst.trans g2))
    rw [List.length_cons, List.range'_succ, wpOps_cons]
    unfold wpOp
    simp only [hi]
    rcases vguard_cases hs with ⟨hw, hs⟩ | ⟨hw, hs⟩
    · rw [awanted_sound h.frame hw, if_pos rfl]
      refine .inl ?_
      cases hh : isHeavy o.op || isPan o.op with
      | true =>
        rw [hh, cond_true] at hs
        refine pheavy_sound hcall h.rel h.frame.ev hs (fun v hp' nx' v' w' ρ' hK q1 q2 q3 => ?_) (fun v hp' nx' v' w' ρ' hK q1 q2 q3 => ?_)
        · dsimp only at hK
          replace hK := vsplit_ap hK
          split at hK
          case h_2 => exact hK.elim
          rename_i tm' ht
          exact next ⟨tm', hp', nx'⟩ _ _ ρ' ⟨q2, aput_sound (h.frame.mono q3.le) ht q1⟩ q3 hK
        · exact hx v _ hK v' a w' ρ' q1 ⟨q2, h.frame.mono q3.le⟩ q3
      | false =>
        rw [hh, cond_false] at hs
        split at hs
        · rename_i v ob hv
          obtain ⟨hob, hs⟩ := hs
          replace hs := vsplit_ap hs
          split at hs
          case h_2 => exact hs.elim
          rename_i tm' ht
          obtain ⟨v', h1, h2⟩ := slight_sound (r := .val v) h.rel h.frame.ev hv hob
          unfold Oper.wp
          rw [h1]
          exact next ⟨tm', st.hp, st.nx⟩ _ _ ρ ⟨h.rel, aput_sound h.frame ht h2⟩ (.refl _ _ _) hs
        · rename_i ob nv obp hv
          split at hs
          case h_2 => exact hs.elim
          rename_i tm' ht
          obtain ⟨v', ob', d, z, h1, h2, h3⟩ := slight_sound (r := .new ob nv) h.rel h.frame.ev hv hs.1
          unfold Oper.wp
          rw [h1]
          have hrel := ((h.rel.at_drawn d).reserve ob).realize (b := st.nx) (z := z) (ob := ob') (by omega) h.rel.dom_none (by rw [Tr.get_put, if_pos rfl]) (h2 _ h.rel.below.fresh)
          have hle := Place.le_set (x := (w.heap.size, 0, z)) h.rel.dom_none
          exact next ⟨tm', st.hp.put st.nx (some ob), st.nx + 1⟩ _ _ _ ⟨hrel, aput_sound (h.frame.mono hle) ht (h3 _ _ (Place.set_same ρ st.nx _))⟩ ⟨hle, Nat.le_succ _, fun b hb hr => ⟨by rw [Place.set_other (by omega)]; exact hr, by show (st.hp.put st.nx (some ob)).get b = _; rw [Tr.get_put, if_neg (by omega)]⟩⟩ hs.2
        · exact hs.elim
    · rw [awanted_sound h.frame hw, if_neg (by simp)]
      split at hs
      case h_2 => exact hs.elim
      rename_i tm' ht
      exact next ⟨tm', st.hp, st.nx⟩ _ _ ρ ⟨h.rel, aput_sound h.frame ht (closed_refl (by simp [undef, closed]))⟩ (.refl _ _ _) hs
theorem pheavy_congr {P : Program} {pc : PCall} {hp : Tr AObj} {nx : Nat} {o : Oper} {ev ev' : Operand → Option Value} {K : Out → Tr AObj → Nat → Prop} (h : ∀ x ∈ o.op.operands, ev x = ev' x) : pheavy P pc hp nx o ev K = pheavy P pc hp nx o ev' K := by
  have hb : (vheavy P (toV pc) hp nx o ev fun v _ hp' nx' => K (.ret v) hp' nx') = (vheavy P (toV pc) hp nx o ev' fun v _ hp' nx' => K (.ret v) hp' nx') := vheavy_congr h
  obtain ⟨dst, op, type, pos, after, guard⟩ := o
  unfold pheavy
  cases op <;> dsimp only <;> try exact hb
  case panic x => rw [h x (by simp [Op.operands])]
  case call c =>
    obtain ⟨callee, args, argTypes⟩ := c
    dsimp only
    have hA : evL ev args.toList = evL ev' args.toList := evL_congr fun x hx => h x (by simp [Op.operands, Call.operands]; exact .inr (by simpa using hx))
    split
    · rename_i f
      rw [hA, h f (by simp [Op.operands, Call.operands])]
    · rename_i x name
      rw [hA, h x (by simp [Op.operands, Call.operands])]
    · split
      · rename_i x hargs
        rw [h x (by
          have : x ∈ args := by have : x ∈ args.toList := by rw [hargs]; simp
                                simpa using this
          simp [Op.operands, Call.operands, this])]
      · rfl
    · exact hb
def vdrawP (P : Program) (pc : PCall) (ops : Array Oper) (n : Nat) : Nat → Array Bool → AS → List Rd → (AS → Prop) → (Value → AS → Prop) → Prop
  | 0, listed, st, _, K, _ => match Region.ready .any ops listed with
    | [] => K st
    | _ => False
  | f + 1, listed, st, rds, K, X => match Region.ready .any ops listed with
    | [] => K st
    | r :: rs => match (r :: rs).find? (lightIdx ops) with
      | some i => match ops[i]? with
        | some o => vguard ops st.tm o
            (match slight P st.hp o (aev st.tm) with
            | some (.val v, ob) => ob ∧ vsplit v fun v => match aput n st.tm o.dst v with
              | some tm' => vdrawP P pc ops n f (listed.setIfInBounds i true) ⟨tm', st.hp, st.nx⟩ (bif isRead o (aev st.tm) then ⟨i, o, st.tm, v⟩ :: rds else rds) K X
              | none => False
            | some (.new b nv, ob) => match aput n st.tm o.dst (nv.val st.nx) with
              | some tm' => bif isRead o (aev st.tm) then False else ob ∧ vdrawP P pc ops n f (listed.setIfInBounds i true) ⟨tm', st.hp.put st.nx (some b), st.nx + 1⟩ rds K X
              | none => False
            | none => False)
            (match aput n st.tm o.dst undef with
            | some tm' => vdrawP P pc ops n f (listed.setIfInBounds i true) ⟨tm', st.hp, st.nx⟩ rds K X
            | none => False)
        | none => False
      | none => match rs with
        | [] => match ops[r]? with
          | some o => vguard ops st.tm o
              (pheavy P pc st.hp st.nx o (aev st.tm) fun res hp' nx' => match res with
                | .ret v => vsplit v fun v => match aput n st.tm o.dst v with
                  | some tm' => vstab P hp' ops r rds ∧ vdrawP P pc ops n f (listed.setIfInBounds r true) ⟨tm', hp', nx'⟩ rds K X
                  | none => False
                | .pan v => X v ⟨.e, hp', nx'⟩)
              (match aput n st.tm o.dst undef with
              | some tm' => vdrawP P pc ops n f (listed.setIfInBounds r true) ⟨tm', st.hp, st.nx⟩ rds K X
              | none => False)
          | none => False
        | _ => False
section
variable {P : Program} {W : Base} {ops : Array Oper} {n : Nat} {st0 : AS} {ρ0 : Place} {Q : Exit → Act → World → Prop}
theorem vdrawP_main {pc : PCall} (hcall : PCallOk P pc) (hD : drawOk ops = true) {K : AS → Prop} {X : Value → AS → Prop} (hQ : ∀ st, K st → ∀ a' w' ρ', SRel ρ' W n st a' w' → Step ρ0 ρ' st0.hp st.hp st0.nx st.nx → Q .normal a' w')
    (hX : ∀ v st, X v st → ∀ v' a' w' ρ', VR ρ' v v' → SRel ρ' W n st a' w' → Step ρ0 ρ' st0.hp st.hp st0.nx st.nx → Q (.panic [{ v := v', recovered := false }]) a' w') :
    ∀ (m f : Nat) (C : Array Bool) (st : AS) (rds : List Rd) (I : Info) (L : Array Bool) (a : Act) (w : World) (ρ : Place), unl ops L ≤ m → Inv P W ops n st0 ρ0 C st rds I L a w ρ → vdrawP P pc ops n f C st rds K X → wpAny P .any ops Q m L a w := by
  intro m
  induction m with
  | zero =>
    intro f C st rds I L a w ρ hm h hs
    have hr : Region.ready .any ops L = [] := by
      have hnil : ((List.range ops.size).filter fun i => !L.getD i true) = [] := List.eq_nil_of_length_eq_zero (Nat.le_zero.1 hm)
      apply List.eq_nil_iff_forall_not_mem.2
      intro j hj
      obtain ⟨h1, o, h2, h3⟩ := mem_ready.1 hj
      have : j ∈ ((List.range ops.size).filter fun i => !L.getD i true) := by
        simp only [List.mem_filter, List.mem_range]
        exact ⟨(Array.getElem?_eq_some_iff.1 h2).1, by rw [h1]; rfl⟩
      rw [hnil] at this
      cases this
    have hall := h.all hD hr
    have hallI : ∀ i, i < ops.size → In L i := fun i hi => Classical.byContradiction fun hn => by
      have : i ∈ ((List.range ops.size).filter fun i => !L.getD i true) := by
        simp only [List.mem_filter, List.mem_range]
        exact ⟨hi, by rw [unlisted_of (by rw [h.ls]; exact hi) hn]; rfl⟩
      rw [List.eq_nil_of_length_eq_zero (Nat.le_zero.1 hm)] at this
      cases this
    have hrC : Region.ready .any ops C = [] := by
      apply List.eq_nil_iff_forall_not_mem.2
      intro j hj
      obtain ⟨h1, o, h2, h3⟩ := mem_ready.1 hj
      exact (unlisted h1).2 (h.sub j (hallI j (Array.getElem?_eq_some_iff.1 h2).1))
    have hst : K st := by
      cases f with
      | zero => simp only [vdrawP, hrC] at hs; exact hs
      | succ f => simp only [vdrawP, hrC] at hs; exact hs
    exact ⟨hr, hQ st hst a w ρ (h.done hall) h.step⟩
  | succ m ihm =>
    intro f
    induction f with
    | zero =>
      intro C st rds I L a w ρ hm h hs
      have hs0 := hs
      simp only [vdrawP] at hs
      split at hs
      case h_2 => exact hs.elim
      rename_i hrC
      refine ⟨fun hr => hQ st hs a w ρ (h.done (h.all hD hr)) h.step, fun j hj => ?_⟩
      obtain ⟨h1, h2, h3, o, h4, h5⟩ := ready_in h.cs h.sub hj
      rw [hrC] at h1
      have hjC := h1.resolve_right (by simp)
      refine wpOp_mono ?_ (h.run hD h4 hjC h2 h5)
      rintro a' w' ⟨ρ', h'⟩
      refine ihm 0 C _ rds I _ a' w' ρ' ?_ h' hs0
      have := unl_set (ops := ops) (L := L) h3 h.ls (mem_ready.1 hj).1
      omega
    | succ f ihf =>
      intro C st rds I L a w ρ hm h hs
      have pending : ∀ j, j ∈ Region.ready .any ops L → In C j → ∀ o, ops[j]? = some o → (∀ e ∈ o.after, Region.binds .any e = true → In L e.on) → wpOp P ops Q j (wpAny P .any ops Q m (L.setIfInBounds j true)) a w := by
        intro j hj hjC o ho hall
        refine wpOp_mono ?_ (h.run hD ho hjC (unlisted (mem_ready.1 hj).1).2 hall)
        rintro a' w' ⟨ρ', h'⟩
        refine ihm (f + 1) C st rds I _ a' w' ρ' ?_ h' hs
        have := unl_set (ops := ops) (L := L) (Array.getElem?_eq_some_iff.1 ho).1 h.ls (mem_ready.1 hj).1
        omega
      have hs0 := hs
      simp only [vdrawP] at hs
      split at hs
      · rename_i hrC
        refine ⟨fun hr => hQ st hs a w ρ (h.done (h.all hD hr)) h.step, fun j hj => ?_⟩
        obtain ⟨h1, h2, h3, o, h4, h5⟩ := ready_in h.cs h.sub hj
        rw [hrC] at h1
        exact pending j hj (h1.resolve_right (by simp)) o h4 h5
      · rename_i r rs hrC
        split at hs
        · rename_i i hf
          have him : i ∈ Region.ready .any ops C := by rw [hrC]; exact List.mem_of_find?_eq_some hf
          have hil := List.find?_some hf
          obtain ⟨g1, o, g2, g3⟩ := mem_ready.1 him
          have hnC := (unlisted g1).2
          have hh : isHeavy o.op = false := by
            unfold lightIdx at hil
            rw [g2] at hil
            simpa using hil
          rw [g2] at hs
          dsimp only at hs
          rcases vguard_cases hs with ⟨hw, hs⟩ | ⟨hw, hs⟩
          · split at hs
            · rename_i v ob hv
              obtain ⟨hob, hs⟩ := hs
              replace hs := vsplit_ap hs
              split at hs
              case h_2 => exact hs.elim
              rename_i tm' ht
              refine ihf _ ⟨tm', st.hp, st.nx⟩ _ (I.set i st.tm v none) L a w ρ hm (h.absorb hD g2 hnC g3 hh (st' := ⟨tm', st.hp, st.nx⟩) (v := v) (B := none) ht h.rel (fun _ _ h => h) (Nat.le_refl _) h.step (fun b hb => by cases hb) (fun I' e1 e2 e3 => .inr (.inl ⟨by rw [e1]; exact hw, .inr ⟨ob, by rw [e1, e2]; exact hv, hob⟩, e3⟩)) ?_ ?_) hs
              · intro x hx
                cases isRead o (aev st.tm) <;> simp [hx]
              · intro _ hrd
                rw [hrd]
                simp
            · rename_i ob nv obp hv
              split at hs
              case h_2 => exact hs.elim
              rename_i tm' ht
              cases hrd : isRead o (aev st.tm) with
              | true => rw [hrd] at hs; exact hs.elim
              | false =>
                rw [hrd, cond_false] at hs
                obtain ⟨hob, hs⟩ := hs
                refine ihf _ ⟨tm', st.hp.put st.nx (some ob), st.nx + 1⟩ _ (I.set i st.tm (nv.val st.nx) (some st.nx)) L a w ρ hm (h.absorb hD g2 hnC g3 hh (st' := ⟨tm', st.hp.put st.nx (some ob), st.nx + 1⟩) (v := nv.val st.nx) (B := some st.nx) ht (h.rel.reserve ob) ?_ (Nat.le_succ _) ?_ (fun b hb => by cases hb; exact Nat.le_refl _) (fun I' e1 e2 e3 => ?_) (fun _ h => h) (fun _ h' => by rw [hrd] at h'; cases h')) hs
                · intro b x hb
                  have : b ≠ st.nx := fun e => by rw [e, h.rel.fresh _ (Nat.le_refl _)] at hb; cases hb
                  rw [Tr.get_put, if_neg this]
                  exact hb
                · exact ⟨h.step.le, Nat.le_succ_of_le h.step.more, fun b hb hr => by
                    have := h.step.old b hb hr
                    refine ⟨this.1, ?_⟩
                    rw [Tr.get_put, if_neg (by have := h.step.more; omega)]
                    exact this.2⟩
                · refine .inr (.inr ⟨by rw [e1]; exact hw, by rw [e1]; exact hrd, ob, nv, st.nx, ?_, e2, e3, by simp, h.step.more, h.rel.dom_none, by rw [Tr.get_put, if_pos rfl]⟩)
                  rw [e1]
                  exact LOk.still (hp := st.hp) hrd (.inr ⟨obp, hv, hob⟩)
            · exact hs.elim
          · split at hs
            case h_2 => exact hs.elim
            rename_i tm' ht
            exact ihf _ ⟨tm', st.hp, st.nx⟩ _ (I.set i st.tm undef none) L a w ρ hm (h.absorb hD g2 hnC g3 hh (st' := ⟨tm', st.hp, st.nx⟩) (v := undef) (B := none) ht h.rel (fun _ _ h => h) (Nat.le_refl _) h.step (fun b hb => by cases hb) (fun I' e1 e2 e3 => .inl ⟨by rw [e1]; exact hw, e2, e3⟩) (fun _ h => h) (fun h' => by rw [hw] at h'; cases h')) hs
        · split at hs
          case h_2 => exact hs.elim
          split at hs
          case h_2 => exact hs.elim
          rename_i o ho
          have hrm : r ∈ Region.ready .any ops C := by rw [hrC]; simp
          obtain ⟨g1, o', g2, g3⟩ := mem_ready.1 hrm
          rw [ho] at g2
          cases g2
          have hnC := (unlisted g1).2
          refine ⟨fun hr => ?_, fun j hj => ?_⟩
          · exfalso
            have hall := h.all hD hr
            have : r ∈ Region.ready .any ops L := mem_ready.2 ⟨unlisted_of (by rw [h.ls]; exact (Array.getElem?_eq_some_iff.1 ho).1) (fun h' => hnC (h.sub r h')), o, ho, fun e he hb => hall _ (g3 e he hb)⟩
            rw [hr] at this
            cases this
          · obtain ⟨h1, h2, h3, oj, h4, h5⟩ := ready_in h.cs h.sub hj
            rcases h1 with h1 | h1
            · exact pending j hj h1 oj h4 h5
            · rw [hrC] at h1
              have hjr : j = r := by simpa using h1
              subst hjr
              rw [ho] at h4
              cases h4
              have hlk := h.heavyLook hD ho hnC g3 h5
              obtain ⟨ev', he1, he2⟩ := erel_of_looks hlk
              have fin : ∀ (st' : AS) (a' : Act) (w' : World), (∃ ρ' I', Inv P W ops n st0 ρ0 (C.setIfInBounds j true) st' rds I' (L.setIfInBounds j true) a' w' ρ') → vdrawP P pc ops n f (C.setIfInBounds j true) st' rds K X → wpAny P .any ops Q m (L.setIfInBounds j true) a' w' := by
                rintro st' a' w' ⟨ρ', I', h'⟩ hs'
                refine ihm f _ st' rds I' _ a' w' ρ' ?_ h' hs'
                have := unl_set (ops := ops) (L := L) h3 h.ls (mem_ready.1 hj).1
                omega
              unfold wpOp
              simp only [ho]
              rcases vguard_cases hs with ⟨hw, hs⟩ | ⟨hw, hs⟩
              · rw [awanted_sound' h.size hlk hw, if_pos rfl]
                rw [pheavy_congr he2] at hs
                refine .inl (pheavy_sound hcall h.rel he1 hs (fun v hp' nx' v' w' ρ' hK q1 q2 q3 => ?_) (fun v hp' nx' v' w' ρ' hK q1 q2 q3 => ?_))
                · dsimp only at hK
                  replace hK := vsplit_ap hK
                  split at hK
                  case h_2 => exact hK.elim
                  rename_i tm' ht
                  exact fin ⟨tm', hp', nx'⟩ _ _ (h.heavyFin hD ho hnC g3 h5 (st' := ⟨tm', hp', nx'⟩) (.inr (vstab_ok hK.1)) v v' w' ρ' ht q1 q2 q3) hK.2
                · exact hX v ⟨.e, hp', nx'⟩ hK v' a w' ρ' q1 ⟨q2, ⟨h.size, h.defers, fun t u hu => by cases hu⟩⟩ (h.step.trans q3)
              · rw [awanted_sound' h.size hlk hw, if_neg (by simp)]
                split at hs
                case h_2 => exact hs.elim
                rename_i tm' ht
                exact fin ⟨tm', st.hp, st.nx⟩ _ _ (h.heavyFin hD ho hnC g3 h5 (st' := ⟨tm', st.hp, st.nx⟩) (.inl rfl) undef undef w ρ ht (closed_refl (by simp [undef, closed])) h.rel (.refl _ _ _)) hs
end
def vregionP (P : Program) (pc : PCall) (n : Nat) (ops : Array Oper) (draw : Bool) (st : AS) (K : AS → Prop) (X : Value → AS → Prop) : Prop :=
  bif draw then (bif drawOk ops then vdrawP P pc ops n ops.size (Array.replicate ops.size false) st [] K X else False) else vseqP P pc ops n ops.toList st K X
theorem vregionP_sound {P : Program} {pc : PCall} {W : Base} (hcall : PCallOk P pc) (hm : P.follows .mixedOrders = true) {ops : Array Oper} {draw : Bool} {id n : Nat} {Q : Exit → Act → World → Prop} {st : AS} {K : AS → Prop} {X : Value → AS → Prop} {ρ : Place} {a : Act} {w : World} (h : SRel ρ W n st a w)
    (hs : vregionP P pc n ops draw st K X) (hk : ∀ st', K st' → ∀ a' w' ρ', SRel ρ' W n st' a' w' → Step ρ ρ' st.hp st'.hp st.nx st'.nx → Q .normal a' w')
    (hx : ∀ v st', X v st' → ∀ v' a' w' ρ', VR ρ' v v' → SRel ρ' W n st' a' w' → Step ρ ρ' st.hp st'.hp st.nx st'.nx → Q (.panic [{ v := v', recovered := false }]) a' w') : (Code.region id ops draw).wp P Q a w := by
  unfold vregionP at hs
  cases draw with
  | true =>
    rw [cond_true] at hs
    cases hD : drawOk ops with
    | false => rw [hD] at hs; exact hs.elim
    | true =>
      rw [hD, cond_true] at hs
      refine wp_region_any hm ?_
      have hnot : ∀ i, ¬ In (Array.replicate ops.size false) i := fun i hi => by
        have := lt_of_in (ops := ops) (by simp) hi
        simp [In, this] at hi
      refine vdrawP_main hcall hD hk hx ops.size ops.size _ st [] ⟨fun _ => .e, fun _ => undef, fun _ => none⟩ _ a _ ρ ?_ ⟨by simp, by simp, fun i hi => (hnot i hi).elim, fun i hi => (hnot i hi).elim, fun i hi => hi, fun j o t hj => (hnot j hj).elim, fun t _ => rfl, h.rel.drew, h.frame.size, h.frame.defers, fun j o t hj => (hnot j hj).elim, fun t v _ hv => h.frame.slot t v hv, fun j o hj => (hnot j hj).elim, fun j k b hj => (hnot j hj).elim, .refl _ _ _, fun j o hj => (hnot j hj).elim⟩ hs
      unfold unl
      exact Nat.le_trans (List.length_filter_le _ _) (by simp)
  | false =>
    rw [cond_false] at hs
    refine wp_region ?_
    rw [List.range_eq_range']
    have := vseqP_sound hcall (Q := Q) ops.toList 0 st K X ρ a w (by simp) h hs hk hx
    simpa using this
def vrunP (P : Program) (pc : PCall) (n : Nat) (lt : List (Nat × List Nat)) (base : List Bool) (H : Code → List Fr → AS → Prop) (Fin : AS → Prop) (X : Value → AS → Prop) : Nat → VM → List Fr → AS → Prop
  | 0, _, _, _ => False
  | f + 1, .normal, k, st => match k with
    | [] => Fin st
    | .seq y :: k' => vrunP P pc n lt base H Fin X f (.code y) k' st
    | .block _ :: k' => vrunP P pc n lt base H Fin X f .normal k' st
    | .loop b :: k' => match slotsOf (rid b) lt with
      | some _ => vloop lt base H b k' st
      | none => vrunP P pc n lt base H Fin X f (.code b) (.loop b :: k') st
  | f + 1, .exit id, k, st => match k with
    | [] => False
    | .block j :: k' => bif id.beq j then vrunP P pc n lt base H Fin X f .normal k' st else vrunP P pc n lt base H Fin X f (.exit id) k' st
    | _ :: k' => vrunP P pc n lt base H Fin X f (.exit id) k' st
  | _ + 1, .ret, _, st => Fin st
  | f + 1, .code c, k, st => match c with
    | .skip | .label _ => vrunP P pc n lt base H Fin X f .normal k st
    | .region _ ops draw => vregionP P pc n ops draw st (fun st' => vrunP P pc n lt base H Fin X f .normal k st') X
    | .seq x y => vrunP P pc n lt base H Fin X f (.code x) (.seq y :: k) st
    | .cond c x y => match aev st.tm c with
      | some (.bool b) => pIf b (vrunP P pc n lt base H Fin X f (.code x) k st) (vrunP P pc n lt base H Fin X f (.code y) k st)
      | _ => False
    | .block id b => vrunP P pc n lt base H Fin X f (.code b) (.block id :: k) st
    | .loop b => match slotsOf (rid b) lt with
      | some _ => vloop lt base H b k st
      | none => vrunP P pc n lt base H Fin X f (.code b) (.loop b :: k) st
    | .exit id => vrunP P pc n lt base H Fin X f (.exit id) k st
    | .ret => vrunP P pc n lt base H Fin X f .ret k st
    | _ => False
theorem contQ_panic {P : Program} {Q : Exit → Act → World → Prop} {a : Act} {w : World} {ch : List PanicEntry} {k : List Fr} (h : Q (.panic ch) a w) : contQ P Q k (.panic ch) a w := by
  induction k with
  | nil => exact h
  | cons x k ih => cases x <;> exact ih
section
variable {P : Program} {pc : PCall} {W : Base} {n : Nat} {lt : List (Nat × List Nat)} {base : List Bool} {H : Code → List Fr → AS → Prop} {Fin : AS → Prop} {X : Value → AS → Prop} {R : Place → AS → Prop} {Q : Exit → Act → World → Prop}
theorem vrunP_sound (hcall : PCallOk P pc) (hm : P.follows .mixedOrders = true)
    (hR : ∀ ρ st ρ' st', R ρ st → Step ρ ρ' st.hp st'.hp st.nx st'.nx → R ρ' st')
    (hH : ∀ b k st, vloop lt base H b k st → ∀ ρ a w, SRel ρ W n st a w → R ρ st → LoopWp P b (contQ P Q k) a w)
    (hF : ∀ st, Fin st → ∀ ρ a w, SRel ρ W n st a w → R ρ st → Q .normal a w ∧ Q .ret a w)
    (hX : ∀ v st, X v st → ∀ ρ v' a w, VR ρ v v' → SRel ρ W n st a w → R ρ st → Q (.panic [{ v := v', recovered := false }]) a w) :
    ∀ (f : Nat) (m : VM) (k : List Fr) (st : AS), vrunP P pc n lt base H Fin X f m k st → ∀ ρ a w, SRel ρ W n st a w → R ρ st → (match m with
      | .code c => c.wp P (contQ P Q k) a w
      | .normal => contQ P Q k .normal a w
      | .exit id => contQ P Q k (.exit id) a w
      | .ret => contQ P Q k .ret a w) := by
  intro f
  induction f with
  | zero => intro m k st h; simp only [vrunP] at h
  | succ f ih =>
    intro m k st h ρ a w hs hr
    cases m with
    | normal =>
      simp only [vrunP] at h
      dsimp only
      cases k with
      | nil => exact (hF st h ρ a w hs hr).1
      | cons x k =>
        cases x with
        | seq y => exact ih (.code y) k st h ρ a w hs hr
        | block id => exact ih .normal k st h ρ a w hs hr
        | loop b =>
          dsimp only at h
          split at h
          · exact hH b k st h ρ a w hs hr
          · exact loop_round (ih (.code b) (.loop b :: k) st h ρ a w hs hr)
    | exit id =>
      simp only [vrunP] at h
      dsimp only
      cases k with
      | nil => exact h.elim
      | cons x k =>
        cases x with
        | seq y => exact ih (.exit id) k st h ρ a w hs hr
        | block j =>
          show Exit.inBlock j (contQ P Q k) (.exit id) a w
          simp only [Exit.inBlock]
          dsimp only at h
          cases hj : id.beq j with
          | true =>
            rw [hj] at h
            rw [if_pos (Nat.eq_of_beq_eq_true hj)]
            exact ih .normal k st h ρ a w hs hr
          | false =>
            rw [hj] at h
            rw [if_neg (fun e => by subst e; simp at hj)]
            exact ih (.exit id) k st h ρ a w hs hr
        | loop b => exact ih (.exit id) k st h ρ a w hs hr
    | ret =>
      simp only [vrunP] at h
      exact contQ_ret (hF st h ρ a w hs hr).2
    | code c =>
      simp only [vrunP] at h
      dsimp only
      cases c with
      | skip => exact wp_skip (ih .normal k st h ρ a w hs hr)
      | label l => exact wp_label (ih .normal k st h ρ a w hs hr)
      | region id ops draw => exact vregionP_sound hcall hm hs h (fun st' hK a' w' ρ' g1 g2 => ih .normal k st' hK ρ' a' w' g1 (hR _ _ _ _ hr g2)) (fun v st' hK v' a' w' ρ' g0 g1 g2 => contQ_panic (hX v st' hK ρ' v' a' w' g0 g1 (hR _ _ _ _ hr g2)))
      | seq x y => exact wp_seq (ih (.code x) (.seq y :: k) st h ρ a w hs hr)
      | cond c x y =>
        dsimp only at h
        split at h
        · rename_i b hc
          have := hs.frame.eval hc
          cases b with
          | true =>
            refine wp_cond_true (c := c) ?_ (ih (.code x) k st h ρ a w hs hr)
            generalize a.eval c = z at this
            cases this
            rfl
          | false =>
            refine wp_cond_false (c := c) ?_ (ih (.code y) k st h ρ a w hs hr)
            generalize a.eval c = z at this
            cases this
            rfl
        · exact h.elim
      | block id b => exact wp_block (ih (.code b) (.block id :: k) st h ρ a w hs hr)
      | loop b =>
        dsimp only at h
        split at h
        · exact loop_of (hH b k st h ρ a w hs hr)
        · exact loop_of (loop_round (ih (.code b) (.loop b :: k) st h ρ a w hs hr))
      | exit id => exact wp_exit (ih (.exit id) k st h ρ a w hs hr)
      | ret => exact wp_ret (ih .ret k st h ρ a w hs hr)
      | goto l => exact h.elim
      | refuse y => exact h.elim
      | scope b => exact h.elim
      | rangeFunc f ps x y => exact h.elim
end
end Go.Proofs.YtegjnjmimfgijaaGreatDoor
noncomputable section
namespace Go.Proofs.YtegjnjmimfgijaaGreatDoor
open Go Go.RowKit

/-- From a loop's head on, all ends well. -/
def GoodX (P : Program) (n : Nat) (base : List Bool) (Fin : AS → Prop) (X : Value → AS → Prop) (b : Code) (k : List Fr) (st : AS) : Prop :=
  ∀ (W : Base) (ρ0 : Place) (Q : Exit → Act → World → Prop), (∀ st, Fin st → ∀ ρ a w, SRel ρ W n st a w → StepG base.length ρ0 ρ → Q .normal a w ∧ Q .ret a w) →
    (∀ v st, X v st → ∀ ρ v' a w, VR ρ v v' → SRel ρ W n st a w → StepG base.length ρ0 ρ → Q (.panic [{ v := v', recovered := false }]) a w) →
    ∀ ρ a w, SRel ρ W n st a w → StepG base.length ρ0 ρ → LoopWp P b (contQ P Q k) a w
theorem goodX_vloop {P : Program} {n : Nat} {lt : List (Nat × List Nat)} {base : List Bool} {Fin : AS → Prop} {X : Value → AS → Prop} {b : Code} {k : List Fr} {st : AS} (h : vloop lt base (GoodX P n base Fin X) b k st) : GoodX P n base Fin X b k st := by
  unfold vloop at h
  split at h
  case h_2 => exact h.elim
  split at h
  case h_2 => exact h.elim
  rename_i st0 ob0 hz
  split at h
  case h_2 => exact h.elim
  rename_i st' ob hc
  intro W ρ0 Q hF hX ρ a w hs hr
  obtain ⟨ρ1, f1, f2⟩ := frzTms_sound hs hz h.1
  obtain ⟨ρ', g1, g2, g3⟩ := canon_sound f1 hc h.2.1
  exact h.2.2 W ρ0 Q hF hX ρ' a w g1 ⟨fun b x hb hx => by rw [g3 b hb]; exact f2.1 b x (hr.1 b x hb hx), fun c x hx => by rw [g2]; exact f2.2 c x (hr.2 c x hx)⟩
/-- One round. -/
theorem goodX_round {P : Program} {pc : PCall} (hcall : PCallOk P pc) (hm : P.follows .mixedOrders = true) {n : Nat} {lt : List (Nat × List Nat)} {base : List Bool} {Fin : AS → Prop} {X : Value → AS → Prop} {b : Code} {k : List Fr} {st : AS} (f : Nat)
    (h : vrunP P pc n lt base (GoodX P n base Fin X) Fin X f (.code b) (.loop b :: k) st) : GoodX P n base Fin X b k st := by
  intro W ρ0 Q hF hX ρ a w hs hr
  refine loop_round ?_
  exact vrunP_sound (R := fun ρ _ => StepG base.length ρ0 ρ) hcall hm (fun ρ st ρ' st' h k => h.step k) (fun b k st h ρ a w hs hr => goodX_vloop h W ρ0 Q hF hX ρ a w hs hr) hF hX f (.code b) (.loop b :: k) st h ρ a w hs hr

/-- A row's own slices, taken as they are, for good. -/
def frzRow (N : Nat) : List Value → Tr AObj → Option (List Value × Tr AObj × Prop)
  | [], hp => some ([], hp, True)
  | v :: l, hp => match frzS N hp v with
    | some (u, hp1, o1) => match frzRow N l hp1 with
      | some (us, hp2, o2) => some (u :: us, hp2, o1 ∧ o2)
      | none => none
    | none => none
theorem frzS_get {N : Nat} {hp hp' : Tr AObj} {v u : Value} {ob : Prop} (h : frzS N hp v = some (u, hp', ob)) {i : Nat} (hi : i < N) : hp'.get i = hp.get i := by
  unfold frzS at h
  split at h
  · rename_i b o n sz
    split at h
    case h_2 => cases h
    cases hb : N.ble b with
    | false => rw [hb] at h; cases h
    | true =>
      rw [hb] at h
      cases h
      have := Nat.le_of_ble_eq_true hb
      rw [Tr.get_put, if_neg (by omega)]
  · cases h; rfl
theorem frzRow_get {N : Nat} {i : Nat} (hi : i < N) : ∀ {l us : List Value} {hp hp' : Tr AObj} {ob : Prop}, frzRow N l hp = some (us, hp', ob) → hp'.get i = hp.get i
  | [], us, hp, hp', ob, h => by simp only [frzRow] at h; cases h; rfl
  | v :: l, us, hp, hp', ob, h => by
    simp only [frzRow] at h
    split at h
    case h_2 => cases h
    rename_i u hp1 o1 h1
    split at h
    case h_2 => cases h
    rename_i us0 hp2 o2 h2
    cases h
    rw [frzRow_get hi h2, frzS_get h1 hi]
theorem frzRow_len {N : Nat} : ∀ {l us : List Value} {hp hp' : Tr AObj} {ob : Prop}, frzRow N l hp = some (us, hp', ob) → us.length = l.length
  | [], us, hp, hp', ob, h => by simp only [frzRow] at h; cases h; rfl
  | v :: l, us, hp, hp', ob, h => by
    simp only [frzRow] at h
    split at h
    case h_2 => cases h
    rename_i u hp1 o1 h1
    split at h
    case h_2 => cases h
    rename_i us0 hp2 o2 h2
    cases h
    exact congrArg (· + 1) (frzRow_len h2)
theorem frzRow_sound {N : Nat} {W : Base} {nx : Nat} {w : World} : ∀ {l l' us : List Value} {ρ : Place} {hp hp' : Tr AObj} {ob : Prop}, Rel ρ W hp nx w → VRL ρ l l' → frzRow N l hp = some (us, hp', ob) → ob →
    ∃ ρ', Rel ρ' W hp' nx w ∧ ρ.le ρ' ∧ VRL ρ' us l'
  | [], l', us, ρ, hp, hp', ob, h, hl, hf, _ => by
    simp only [frzRow] at hf
    cases hf
    cases hl
    exact ⟨ρ, h, .refl _, .nil⟩
  | v :: l, l', us, ρ, hp, hp', ob, h, hl, hf, hob => by
    simp only [frzRow] at hf
    split at hf
    case h_2 => cases hf
    rename_i u hp1 o1 h1
    split at hf
    case h_2 => cases hf
    rename_i us0 hp2 o2 h2
    cases hf
    cases hl with
    | cons hv hl =>
      obtain ⟨ρ1, g1, g2, g3⟩ := frzS_sound h hv h1 hob.1
      obtain ⟨ρ2, k1, k2, k3⟩ := frzRow_sound g1 (hl.mono g2.le) h2 hob.2
      exact ⟨ρ2, k1, g2.le.trans k2, .cons (g3.mono k2) k3⟩
/-- A block's cells as other values that the same cells stand for. -/
theorem Rel.recell {ρ : Place} {W : Base} {hp : Tr AObj} {nx : Nat} {w : World} (h : Rel ρ W hp nx w) {i : Nat} {l us : List Value} (hi : hp.get i = some (.cells l true)) (hlen : us.length = l.length)
    (hu : ∀ c s z cs t fz, ρ i = some (c, s, z) → w.heap[c]? = some (.cells cs t fz) → ∀ (j : Nat) (u : Value), us[j]? = some u → ∃ v', cs[s + j]? = some v' ∧ VR ρ u v') : Rel ρ W (hp.put i (some (.cells us true))) nx w := by
  have live : ∀ b o, (hp.put i (some (.cells us true))).get b = some o → ∃ o', hp.get b = some o' ∧ (o.wr = true → o'.wr = true) := fun b o ho => by
    rw [Tr.get_put] at ho
    by_cases e : b = i
    · subst e; exact ⟨_, hi, fun _ => rfl⟩
    · rw [if_neg e] at ho; exact ⟨o, ho, fun h => h⟩
  refine ⟨h.dom, fun b o c s z ho hb => ?_, fun b b' x x' o o' h1 h2 hx hx' hxx => ?_, fun b hb => ?_, h.below, h.frz, fun b o c s z ho hw hb => ?_, h.frn⟩
  · rw [Tr.get_put] at ho
    by_cases e : b = i
    · subst e
      rw [if_pos rfl] at ho
      cases ho
      obtain ⟨ob, e1, e2⟩ := h.obj b _ c s z hi hb
      refine ⟨ob, e1, ?_⟩
      cases ob <;> try exact e2.elim
      obtain ⟨k1, k2, k3, k4, k5⟩ := e2
      exact ⟨k1, by rw [hlen]; exact k2, k3, fun j u hj => hu c s z _ _ _ hb e1 j u hj, k5⟩
    · rw [if_neg e] at ho
      exact h.obj b o c s z ho hb
  · obtain ⟨_, g1, _⟩ := live b o h1
    obtain ⟨_, g2, _⟩ := live b' o' h2
    exact h.inj b b' x x' _ _ g1 g2 hx hx' hxx
  · rw [Tr.get_put]
    by_cases e : b = i
    · subst e; have := h.fresh b hb; rw [hi] at this; cases this
    · rw [if_neg e]; exact h.fresh b hb
  · obtain ⟨o', g1, g2⟩ := live b o ho
    exact h.apart b o' c s z g1 (g2 hw) hb
def frzBl (N : Nat) : Nat → Nat → Tr AObj → Option (Tr AObj × Prop)
  | 0, _, hp => some (hp, True)
  | k + 1, i, hp => match hp.get i with
    | some (.cells l true) => bif i.blt N then match frzRow N l hp with
      | some (us, hp1, o1) => match frzBl N k (i + 1) (hp1.put i (some (.cells us true))) with
        | some (hp2, o2) => some (hp2, o1 ∧ o2)
        | none => none
      | none => none
      else none
    | _ => none
theorem frzBl_sound {N : Nat} {W : Base} {nx : Nat} {w : World} : ∀ {k i : Nat} {ρ : Place} {hp hp' : Tr AObj} {ob : Prop}, (∀ b, b < N → ∃ x, ρ b = some x) → Rel ρ W hp nx w → frzBl N k i hp = some (hp', ob) → ob → ∃ ρ', Rel ρ' W hp' nx w ∧ ρ.le ρ'
  | 0, i, ρ, hp, hp', ob, _, h, hf, _ => by
    simp only [frzBl] at hf
    cases hf
    exact ⟨ρ, h, .refl _⟩
  | k + 1, i, ρ, hp, hp', ob, hpl, h, hf, hob => by
    simp only [frzBl] at hf
    split at hf
    case h_2 => cases hf
    rename_i l hl
    cases hb : i.blt N with
    | false => rw [hb] at hf; cases hf
    | true =>
      have hi : i < N := Nat.le_of_ble_eq_true hb
      rw [hb, cond_true] at hf
      split at hf
      case h_2 => cases hf
      rename_i us hp1 o1 h1
      split at hf
      case h_2 => cases hf
      rename_i hp2 o2 h2
      cases hf
      have hi1 := frzRow_get hi h1
      rw [hl] at hi1
      have hlenU := frzRow_len h1
      -- the concrete row
      have key : ∃ ρ1, Rel ρ1 W hp1 nx w ∧ ρ.le ρ1 ∧ ∀ c s z cs t fz, ρ1 i = some (c, s, z) → w.heap[c]? = some (.cells cs t fz) → ∀ (j : Nat) (u : Value), us[j]? = some u → ∃ v', cs[s + j]? = some v' ∧ VR ρ1 u v' := by
        obtain ⟨x, hr⟩ := hpl i hi
        obtain ⟨c, s, z⟩ := x
        obtain ⟨ob, e1, e2⟩ := h.obj i _ c s z hl hr
        cases ob <;> try exact e2.elim
        rename_i cs t fz
        obtain ⟨k1, k2, k3, k4, k5⟩ := e2
        have hrow : VRL ρ l ((cs.toList.drop s).take l.length) := by
          refine .of ?_ fun j v v' hj hj' => ?_
          · rw [List.length_take, List.length_drop]
            simp only [Array.length_toList]
            omega
          · obtain ⟨v2, q1, q2⟩ := k4 j v hj
            have hlt := (List.getElem?_eq_some_iff.1 hj).1
            rw [List.getElem?_take, if_pos hlt, List.getElem?_drop, Array.getElem?_toList, q1] at hj'
            cases hj'
            exact q2
        obtain ⟨ρ1, g1, g2, g3⟩ := frzRow_sound h hrow h1 hob.1
        refine ⟨ρ1, g1, g2, fun c' s' z' cs' t' fz' hr' hc' j u hj => ?_⟩
        have hr2 := g2.1 i _ hr
        rw [hr'] at hr2
        cases hr2
        rw [hc'] at e1
        cases e1
        have hlt : j < l.length := by rw [← hlenU]; exact (List.getElem?_eq_some_iff.1 hj).1
        have hv : ∃ v', ((cs.toList.drop s).take l.length)[j]? = some v' := by
          have hl2 := g3.len
          have : j < ((cs.toList.drop s).take l.length).length := by rw [← hl2, hlenU]; exact hlt
          exact ⟨_, List.getElem?_eq_getElem this⟩
        obtain ⟨v', hv'⟩ := hv
        refine ⟨v', ?_, g3.get hj hv'⟩
        rw [List.getElem?_take, if_pos hlt, List.getElem?_drop, Array.getElem?_toList] at hv'
        exact hv'
      obtain ⟨ρ1, g1, g2, g3⟩ := key
      obtain ⟨ρ2, q1, q2⟩ := frzBl_sound (fun b hb => let ⟨x, hx⟩ := hpl b hb; ⟨x, g2.1 b x hx⟩) (g1.recell hi1 hlenU g3) h2 hob.2
      exact ⟨ρ2, q1, g2.trans q2⟩
def Out.Ends0 (ρ : Place) (r : Out) (e : Ending) : Prop :=
  match r with
  | .ret v => ∃ v', e = .returned v' ∧ VR0 ρ.fr v v'
  | .pan v => ∃ v', e = .panicked [{ v := v', recovered := false }] ∧ VR0 ρ.fr v v'
/-- A contract: arguments, and the first N blocks as they are; what comes back, or is thrown, and what the blocks are then. -/
def SpecX (P : Program) (f : FuncId) (N : Nat) (hp : Tr AObj) (args : List Value) (Post : Out → Tr AObj → Prop) : Prop :=
  ∀ (W : Base) ρ w args', (∀ b, b < N → ∃ x, ρ.pl b = some x) → Rel ρ W hp N w → VRL ρ args args' → Calls P f args'.toArray w fun e w' => ∃ r hp' nx' ρ', Post r hp' ∧ r.Ends0 ρ' e ∧ Rel ρ' W hp' nx' w' ∧ StepG N ρ ρ'
def finX (P : Program) (fn : Func) (N : Nat) (Post : Out → Tr AObj → Prop) (st : AS) : Prop :=
  match ares P st.hp st.tm fn with
  | some v => match frzBl N N 0 st.hp with
    | some (hp1, o1) => match frzR P N fn.resultTypes.toList hp1 v with
      | some (u, hp2, o2) => (o1 ∧ o2) ∧ Post (.ret u) hp2
      | none => False
    | none => False
  | none => False
def panX (N : Nat) (Post : Out → Tr AObj → Prop) (v : Value) (st : AS) : Prop :=
  match frzBl N N 0 st.hp with
  | some (hp1, o1) => bif nl1 v then o1 ∧ Post (.pan v) hp1 else False
  | none => False
def FinQX (P : Program) (fn : Func) (W : Base) (N : Nat) (ρ : Place) (Post : Out → Tr AObj → Prop) (e : Exit) (a : Act) (w : World) : Prop :=
  bodyPost P fn (fun e w' => ∃ r hp' nx' ρ', Post r hp' ∧ r.Ends0 ρ' e ∧ Rel ρ' W hp' nx' w' ∧ StepG N ρ ρ') e a w
theorem stepG_le {N : Nat} {ρ ρ' ρ'' : Place} (h : StepG N ρ ρ') (k : ρ'.le ρ'') : StepG N ρ ρ'' := ⟨fun b x hb hx => k.1 b x (h.1 b x hb hx), fun c x hc => k.2 c x (h.2 c x hc)⟩
theorem stepG_placed {N : Nat} {ρ ρ' : Place} (h : StepG N ρ ρ') (hp : ∀ b, b < N → ∃ x, ρ.pl b = some x) : ∀ b, b < N → ∃ x, ρ'.pl b = some x := fun b hb => let ⟨x, hx⟩ := hp b hb; ⟨x, h.1 b x hb hx⟩
theorem finX_ok {P : Program} {fn : Func} {N n : Nat} {Post : Out → Tr AObj → Prop} {st : AS} (h : finX P fn N Post st) {W : Base} (hd : W.ds = []) {ρ0 ρ : Place} {a : Act} {w : World} (hpl : ∀ b, b < N → ∃ x, ρ0.pl b = some x) (hs : SRel ρ W n st a w) (hr : StepG N ρ0 ρ) :
    FinQX P fn W N ρ0 Post .normal a w ∧ FinQX P fn W N ρ0 Post .ret a w := by
  unfold finX at h
  split at h
  case h_2 => exact h.elim
  rename_i v hv
  split at h
  case h_2 => exact h.elim
  rename_i hp1 o1 h1
  split at h
  case h_2 => exact h.elim
  rename_i u hp2 o2 h2
  obtain ⟨v', r1, r2⟩ := ares_sound hs.rel hs.frame hv
  obtain ⟨ρ1, g1, g2⟩ := frzBl_sound (stepG_placed hr hpl) hs.rel h1 h.1.1
  obtain ⟨ρ2, k1, k2, k3⟩ := frzR_sound g1 (r2.mono g2) h2 h.1.2
  have : ∃ r hp' nx' ρ', Post r hp' ∧ r.Ends0 ρ' (Ending.returned v') ∧ Rel ρ' W hp' nx' w ∧ StepG N ρ0 ρ' :=
    ⟨.ret u, hp2, st.nx, ρ2, h.2, ⟨v', rfl, k3⟩, k1, stepG_le (stepG_le hr g2) k2.le⟩
  exact ⟨⟨hs.frame.defers.trans hd, v', r1, this⟩, ⟨hs.frame.defers.trans hd, v', r1, this⟩⟩
theorem panX_ok {P : Program} {fn : Func} {N n : Nat} {Post : Out → Tr AObj → Prop} {v : Value} {st : AS} (h : panX N Post v st) {W : Base} (hd : W.ds = []) {ρ0 ρ : Place} {v' : Value} {a : Act} {w : World} (hpl : ∀ b, b < N → ∃ x, ρ0.pl b = some x) (hv : VR ρ v v') (hs : SRel ρ W n st a w) (hr : StepG N ρ0 ρ) :
    FinQX P fn W N ρ0 Post (.panic [{ v := v', recovered := false }]) a w := by
  unfold panX at h
  split at h
  case h_2 => exact h.elim
  rename_i hp1 o1 h1
  cases hn : nl1 v with
  | false => rw [hn] at h; exact h.elim
  | true =>
    rw [hn, cond_true] at h
    obtain ⟨ρ1, g1, g2⟩ := frzBl_sound (stepG_placed hr hpl) hs.rel h1 h.1
    exact ⟨hs.frame.defers.trans hd, .pan v, hp1, st.nx, ρ1, h.2, ⟨v', rfl, nl1_sound hn (hv.mono g2)⟩, g1, stepG_le hr g2⟩
/-- A contract, by its function's code. -/
theorem specX_of {P : Program} {pc : PCall} (hcall : PCallOk P pc) (hm : P.follows .mixedOrders = true) {f : FuncId} {fn : Func} {c : Code} (hf : P.funcs[f]? = some fn) (hc : fn.body = some c) {lt : List (Nat × List Nat)} {base : List Bool} {hp : Tr AObj} {args : List Value} {Post : Out → Tr AObj → Prop} (k : Nat)
    (h : vrunP P pc (slotsN args fn) lt base (GoodX P (slotsN args fn) base (finX P fn base.length Post) (panX base.length Post)) (finX P fn base.length Post) (panX base.length Post) k (.code c) [] ⟨putArgs 0 args .e, hp, base.length⟩) : SpecX P f base.length hp args Post := by
  intro W ρ w args' hpl hrel hargs
  suffices hb : Calls P f args'.toArray w fun e w' => ∃ r hp' nx' ρ', Post r hp' ∧ r.Ends0 ρ' e ∧ Rel ρ' W.bare hp' nx' w' ∧ StepG base.length ρ ρ' from hb.mono fun e w' ⟨r, hp', nx', ρ', g1, g2, g3, g4⟩ => ⟨r, hp', nx', ρ', g1, g2, g3.unbare, g4⟩
  refine calls_of_wp hf hc ?_
  exact vrunP_sound (R := fun ρ' _ => StepG base.length ρ ρ') (Q := FinQX P fn W.bare base.length ρ Post) hcall hm (fun _ _ _ _ h k => h.step k)
    (fun b k st h ρ' a w hs hr => goodX_vloop h W.bare ρ _ (fun st hst ρ' a w hs hr => finX_ok hst rfl hpl hs hr) (fun v st hst ρ' v' a w hv hs hr => panX_ok hst rfl hpl hv hs hr) ρ' a w hs hr)
    (fun st hst ρ' a w hs hr => finX_ok hst rfl hpl hs hr) (fun v st hst ρ' v' a w hv hs hr => panX_ok hst rfl hpl hv hs hr) k (.code c) [] _ h ρ _ w (start_rel rfl hrel.bare hargs fn) (.refl _ _)
/-- A cell without a block's name, or an address in one of the first N blocks. -/
def okc (N : Nat) : Value → Bool
  | .pointer (some ⟨b, _, none⟩) => b.blt N
  | v => nl1 v
def okAll (N : Nat) : List (List Value) → Bool
  | [] => true
  | l :: ls => l.all (okc N) && okAll N ls
theorem okAll_get {N : Nat} : ∀ {ls : List (List Value)}, okAll N ls = true → ∀ l ∈ ls, ∀ v ∈ l, okc N v = true
  | [], _, l, h => by cases h
  | x :: ls, h, l, hl => by
    simp only [okAll, Bool.and_eq_true] at h
    rcases List.mem_cons.1 hl with rfl | hl
    · exact fun v hv => List.all_eq_true.1 h.1 v hv
    · exact okAll_get h.2 l hl
def xpost (n : Nat) (Post : Out → List (List Value) → Prop) (r : Out) (hp : Tr AObj) : Prop :=
  match outs hp 0 n with
  | some ls => okAll n ls = true ∧ Post r ls
  | none => False
structure XEnt where
  f : FuncId
  c : List Value → List (List Value) → (Out → List (List Value) → Prop) → Prop
def XEntOk (P : Program) (e : XEnt) : Prop := ∀ args conts Post, e.c args conts Post → SpecX P e.f conts.length (hpOf conts) args (xpost conts.length Post)
def xentOf (f : FuncId) : List XEnt → Option XEnt
  | [] => none
  | e :: l => bif e.f.beq f then some e else xentOf f l
theorem xentOf_mem {f : FuncId} {e : XEnt} : ∀ {l : List XEnt}, xentOf f l = some e → e ∈ l ∧ e.f = f
  | [], h => by simp [xentOf] at h
  | x :: l, h => by
    simp only [xentOf] at h
    cases hx : x.f.beq f with
    | true => rw [hx] at h; cases h; exact ⟨by simp, Nat.eq_of_beq_eq_true hx⟩
    | false => rw [hx, cond_false] at h; exact ⟨by simp [(xentOf_mem h).1], (xentOf_mem h).2⟩
def contsX (bl : List (Nat × Bool)) (hp : Tr AObj) : List (Nat × Bool) → Option (List (List Value))
  | [] => some []
  | (b, _) :: l => match hp.get b with
    | some (.cells c true) => match mapO (ren0 bl) c, contsX bl hp l with
      | some c', some cs => some (c' :: cs)
      | _, _ => none
    | _ => none
theorem contsX_get {bl : List (Nat × Bool)} {hp : Tr AObj} : ∀ {l : List (Nat × Bool)} {cs : List (List Value)}, contsX bl hp l = some cs → cs.length = l.length ∧ ∀ (i b : Nat) (k : Bool), l[i]? = some (b, k) → ∃ c c', cs[i]? = some c' ∧ hp.get b = some (.cells c true) ∧ mapO (ren0 bl) c = some c'
  | [], cs, h => by simp only [contsX] at h; cases h; exact ⟨rfl, fun i b k hi => by simp at hi⟩
  | (b, k) :: l, cs, h => by
    simp only [contsX] at h
    split at h
    case h_2 => cases h
    rename_i c hc
    split at h
    case h_2 => cases h
    rename_i c' cs0 h1 h0
    cases h
    obtain ⟨g1, g2⟩ := contsX_get h0
    refine ⟨by simp [g1], fun i b' k' hi => ?_⟩
    cases i with
    | zero => simp at hi; obtain ⟨rfl, rfl⟩ := hi; exact ⟨c, c', rfl, hc, h1⟩
    | succ i => simpa using g2 i b' k' (by simpa using hi)
def backV (bl : List (Nat × Bool)) : Value → Value
  | .pointer (some ⟨i, o, none⟩) => match bl[i]? with
    | some p => .pointer (some ⟨p.1, o, none⟩)
    | none => undef
  | v => v
def backL (bl : List (Nat × Bool)) (cs : List (List Value)) : List (List Value) := cs.map fun l => l.map (backV bl)
def xcall (e : XEnt) (args : List Value) (hp : Tr AObj) (nx : Nat) (K : Out → Tr AObj → Nat → Prop) : Prop :=
  let bl := scanB hp 60 0 (args.foldl scan0 [])
  bif nodupB bl then match mapO (ren bl) args, contsX bl hp bl with
    | some vs0, some cs => e.c vs0 cs fun r cs' => cs'.length = cs.length ∧ K r (putConts bl (backL bl cs') hp) nx
    | _, _ => False
  else False
def Placed (ρ : Place) (l : List (Nat × Bool)) : Prop := ∀ p ∈ l, ∃ x, ρ.pl p.1 = some x
theorem addB_placed {ρ : Place} {l : List (Nat × Bool)} (h : Placed ρ l) {b : Nat} {k : Bool} {x : Nat × Nat × Nat} (hb : ρ.pl b = some x) : Placed ρ (addB b k l) := fun q hq => by
  obtain ⟨b', k'⟩ := q
  rcases addB_mem hq with hq | rfl
  · exact h _ hq
  · exact ⟨_, hb⟩
theorem scan0_p {ρ : Place} {l : List (Nat × Bool)} (h : Placed ρ l) {v v' : Value} (hv : VR ρ v v') : Placed ρ (scan0 l v) := by
  cases hv <;> try exact h
  case ptr hb => exact addB_placed h hb
  case slice hb _ _ => exact addB_placed h hb
  case emptySlice hb => exact addB_placed h hb
  case iface ht =>
    cases ht <;> try exact h
    case ptr hb => exact addB_placed h hb
theorem scanL_p {ρ : Place} : ∀ {c : List Value} {l : List (Nat × Bool)}, Placed ρ l → (∀ v ∈ c, ∃ v', VR ρ v v') → Placed ρ (c.foldl scan0 l)
  | [], l, h, _ => h
  | v :: c, l, h, hc => by
    obtain ⟨_, hv⟩ := hc v (by simp)
    exact scanL_p (l := scan0 l v) (scan0_p h hv) fun u hu => hc u (by simp [hu])
theorem scan1_p {ρ : Place} {l : List (Nat × Bool)} (h : Placed ρ l) {v v' : Value} (hv : VR ρ v v') : Placed ρ (scan1 l v) := by
  cases v <;> try exact scan0_p h hv
  case func fn f c =>
    cases fn <;> try exact scan0_p h hv
    cases hv with
    | func _ s1 r1 s2 r2 =>
      have arr : ∀ {x x' : Array Value}, x.size = x'.size → (∀ (i : Nat) (v v' : Value), x[i]? = some v → x'[i]? = some v' → VR ρ v v') → ∀ v ∈ x.toList, ∃ v', VR ρ v v' := fun {x x'} hs hr v hv => by
        obtain ⟨i, hi, rfl⟩ := List.mem_iff_getElem.1 hv
        simp only [Array.length_toList] at hi
        exact ⟨x'[i]'(by omega), hr i _ _ (by simp [hi]) (by simp)⟩
      exact scanL_p (scanL_p h (arr s1 r1)) (arr s2 r2)
theorem scan1L_p {ρ : Place} : ∀ {c : List Value} {l : List (Nat × Bool)}, Placed ρ l → (∀ v ∈ c, ∃ v', VR ρ v v') → Placed ρ (c.foldl scan1 l)
  | [], l, h, _ => h
  | v :: c, l, h, hc => by
    obtain ⟨_, hv⟩ := hc v (by simp)
    exact scan1L_p (l := scan1 l v) (scan1_p h hv) fun u hu => hc u (by simp [hu])
theorem scanB_p {ρ : Place} {W : Base} {hp : Tr AObj} {nx : Nat} {w : World} (hr : Rel ρ W hp nx w) : ∀ {f i : Nat} {l : List (Nat × Bool)}, Placed ρ l → Placed ρ (scanB hp f i l)
  | 0, i, l, h => h
  | f + 1, i, l, h => by
    simp only [scanB]
    split
    · exact h
    · rename_i b k hb
      refine scanB_p hr ?_
      cases k with
      | false => exact h
      | true =>
        rw [cond_true]
        split
        · rename_i c wr hc
          obtain ⟨x, hx⟩ := h (b, true) (List.mem_of_getElem? hb)
          obtain ⟨ob, e1, e2⟩ := hr.obj b _ x.1 x.2.1 x.2.2 hc hx
          cases ob <;> try exact e2.elim
          obtain ⟨_, _, _, k4, _⟩ := e2
          have hall : ∀ v ∈ c, ∃ v', VR ρ v v' := fun v hv => by
            obtain ⟨j, hj, rfl⟩ := List.mem_iff_getElem.1 hv
            obtain ⟨v', _, q⟩ := k4 j _ (List.getElem?_eq_getElem hj)
            exact ⟨v', q⟩
          exact scan1L_p h hall
        · exact h
theorem xcall_ok {P : Program} {e : XEnt} (he : XEntOk P e) {args : List Value} {hp : Tr AObj} {nx : Nat} {K : Out → Tr AObj → Nat → Prop} (h : xcall e args hp nx K) {W : Base} {ρ : Place} {w : World} {args' : List Value} (hrel : Rel ρ W hp nx w) (hargs : VRL ρ args args') :
    Calls P e.f args'.toArray w fun e w' => ∃ r hp' nx' ρ', K r hp' nx' ∧ r.Ends ρ' e ∧ Rel ρ' W hp' nx' w' ∧ Step ρ ρ' hp hp' nx nx' := by
  unfold xcall at h
  dsimp only at h
  have hplaced : Placed ρ (scanB hp 60 0 (args.foldl scan0 [])) := scanB_p hrel (scan0_placed (l := []) hargs (fun p hp => by cases hp))
  generalize scanB hp 60 0 (args.foldl scan0 []) = bl at h hplaced
  cases hnd : nodupB bl with
  | false => rw [hnd] at h; exact h.elim
  | true =>
    rw [hnd, cond_true] at h
    split at h
    case h_2 => exact h.elim
    rename_i vs0 cs ha hc
    obtain ⟨hlen, hget⟩ := contsX_get hc
    have hvia : ∀ (i : Nat) (x : Nat × Nat × Nat), (ρ.via bl).pl i = some x → ∃ (b : Nat) (k : Bool), bl[i]? = some (b, k) ∧ ρ.pl b = some x := fun i x hx => by
      unfold Place.via at hx
      dsimp only at hx
      split at hx
      · rename_i p hp
        exact ⟨p.1, p.2, hp, hx⟩
      · cases hx
    have viaAt : ∀ (i b : Nat) (k : Bool), bl[i]? = some (b, k) → (ρ.via bl).pl i = ρ.pl b := fun i b k hi => by unfold Place.via; simp [hi]
    let mu : Nat → Prop := fun c => ∃ (i b : Nat) (k : Bool) (x : Nat × Nat × Nat), bl[i]? = some (b, k) ∧ ρ.pl b = some x ∧ x.1 = c
    have hobj : ∀ i o x, (hpOf cs).get i = some o → (ρ.via bl).pl i = some x → ∃ (b : Nat) (k : Bool) (c0 c : List Value), bl[i]? = some (b, k) ∧ ρ.pl b = some x ∧ mapO (ren0 bl) c0 = some c ∧ o = .cells c true ∧ hp.get b = some (.cells c0 true) := fun i o x ho hx => by
      obtain ⟨b, k, h1, h2⟩ := hvia i x hx
      obtain ⟨c0, c, h3, h4, h5⟩ := hget i b k h1
      rw [hpOf_get, h3] at ho
      cases ho
      exact ⟨b, k, c0, c, h1, h2, h5, rfl, h4⟩
    have muNew : ∀ c, mu c → ¬ W.old c := fun c ⟨i, b, k, x, h1, h2, h3⟩ => by
      obtain ⟨cc, _, _, h4, _⟩ := hget i b k h1
      obtain ⟨ob, _, ho⟩ := hrel.obj b _ x.1 x.2.1 x.2.2 h4 h2
      cases ob <;> try exact ho.elim
      rw [← h3]
      exact ho.2.2.2.2 rfl
    have hrel1 : Rel (ρ.via bl) ⟨w, mu, ρ.fr, []⟩ (hpOf cs) cs.length w := by
      refine ⟨fun i x hx => ?_, fun i o c s z ho hx => ?_, fun i j x y o1 o2 g1 g2 hx hy hxy => ?_, fun i hi => ?_, ⟨rfl, rfl, rfl, Nat.le_refl _, fun _ _ => rfl⟩, hrel.frz, fun i o c s z ho _ hx => ?_, fun c ob hc => .inl hc⟩
      · obtain ⟨b, k, h1, h2⟩ := hvia i x hx
        refine ⟨?_, (hrel.dom b x h2).2⟩
        rw [hlen]
        exact (List.getElem?_eq_some_iff.1 h1).1
      · obtain ⟨b, k, c0, cc, h1, h2, h3, rfl, h4⟩ := hobj i o _ ho hx
        obtain ⟨ob, e1, e2⟩ := hrel.obj b _ c s z h4 h2
        refine ⟨ob, e1, ?_⟩
        cases ob <;> try exact e2.elim
        obtain ⟨k1, k2, k3, k4, k5⟩ := e2
        obtain ⟨m1, m2⟩ := mapO_get h3
        refine ⟨k1, by rw [m1]; exact k2, k3, fun j v hv => ?_, fun _ ho' => ho'.2 ⟨i, b, k, _, h1, h2, rfl⟩⟩
        obtain ⟨u, hu, hr0⟩ := m2 j v hv
        obtain ⟨v', q1, q2⟩ := k4 j u hu
        exact ⟨v', q1, ren0_sound hr0 q2⟩
      · obtain ⟨b, k, c0, cc, h1, h2, h3, _, h4⟩ := hobj i o1 _ g1 hx
        obtain ⟨b', k', c0', cc', r1, r2, r3, _, r4⟩ := hobj j o2 _ g2 hy
        have e := hrel.inj b b' x y _ _ h4 r4 h2 r2 hxy
        subst e
        exact nodupB_inj hnd h1 r1
      · rw [hpOf_get, List.getElem?_eq_none hi]; rfl
      · obtain ⟨b, k, c0, cc, h1, h2, h3, _, h4⟩ := hobj i o _ ho hx
        exact hrel.apart b _ c s z h4 rfl h2
    have hargs1 : VRL (ρ.via bl) vs0 args' := mapO_sound (fun _ _ _ => ren_sound) ha hargs
    have hpl1 : ∀ b, b < cs.length → ∃ x, (ρ.via bl).pl b = some x := fun i hi => by
      have hib : i < bl.length := by omega
      obtain ⟨x, hx⟩ := hplaced bl[i] (List.getElem_mem hib)
      exact ⟨x, by rw [viaAt i bl[i].1 bl[i].2 (List.getElem?_eq_getElem hib)]; exact hx⟩
    refine (he vs0 cs _ h ⟨w, mu, ρ.fr, []⟩ (ρ.via bl) w args' hpl1 hrel1 hargs1).mono ?_
    rintro e' w' ⟨r, hp1, nx1, ρ1, hP, hv, hr, hg⟩
    unfold xpost at hP
    split at hP
    case h_2 => exact hP.elim
    rename_i cs' hcs'
    obtain ⟨hnl', hlen', hK⟩ := hP
    obtain ⟨_, hget'⟩ := outs_get hcs'
    have hnls' := okAll_get hnl'
    have hlb : cs'.length = bl.length := hlen'.trans hlen
    have hsz : w.heap.size ≤ w'.heap.size := hr.below.size
    have hle : ρ.le ⟨ρ.pl, ρ1.fr, ρ1.gl⟩ := ⟨fun _ _ h => h, fun c x hc => hg.2 c x hc⟩
    have lt : ∀ {c : Nat} {ob : Obj}, w.heap[c]? = some ob → c < w.heap.size := fun {c ob} hc => by
      rcases Nat.lt_or_ge c w.heap.size with h' | h'
      · exact h'
      · rw [Array.getElem?_eq_none h'] at hc; cases hc
    have old : ∀ c, c < w.heap.size → ¬ mu c → w'.heap[c]? = w.heap[c]? := fun c hc hm => hr.below.block c ⟨hc, hm⟩
    -- the blocks that were handed over
    have inb : ∀ b, memB b bl = true → ∃ (i : Nat) (k : Bool) (x : Nat × Nat × Nat) (c c' : List Value), bl[i]? = some (b, k) ∧ ρ.pl b = some x ∧ ρ1.pl i = some x ∧ hp.get b = some (.cells c true) ∧ cs'[i]? = some c' ∧ hp1.get i = some (.cells c' true) ∧ (putConts bl (backL bl cs') hp).get b = some (.cells (c'.map (backV bl)) true) := fun b hb => by
      obtain ⟨i, k, hi⟩ := memB_mem hb
      obtain ⟨x, hx⟩ := hplaced (b, k) (List.mem_of_getElem? hi)
      obtain ⟨c, _, _, h4, _⟩ := hget i b k hi
      have hil : i < bl.length := (List.getElem?_eq_some_iff.1 hi).1
      have hc' : cs'[i]? = some (cs'[i]'(by omega)) := List.getElem?_eq_getElem (by omega)
      have h5 := hget' i _ hc'
      rw [Nat.zero_add] at h5
      exact ⟨i, k, x, c, _, hi, hx, hg.1 i x (by omega) (by rw [viaAt i b k hi]; exact hx), h4, hc', h5, (putConts_get hnd (by unfold backL; rw [List.length_map]; exact hlb) b).1 i k _ hi (by unfold backL; rw [List.getElem?_map, hc']; rfl)⟩
    have outb : ∀ b, memB b bl = false → (putConts bl (backL bl cs') hp).get b = hp.get b := fun b hb => (putConts_get hnd (by unfold backL; rw [List.length_map]; exact hlb) b).2 hb
    have notmu : ∀ b o x, memB b bl = false → hp.get b = some o → ρ.pl b = some x → ¬ mu x.1 := fun b o x hb ho hx ⟨i, b', k, x', h1, h2, h3⟩ => by
      obtain ⟨c, _, _, h4, _⟩ := hget i b' k h1
      have e := hrel.inj b' b x' x _ _ h4 ho h2 hx h3
      subst e
      rw [memB_of h1] at hb
      cases hb
    have live : ∀ b o, (putConts bl (backL bl cs') hp).get b = some o → ∃ o', hp.get b = some o' ∧ (o.wr = true → o'.wr = true) := fun b o ho => by
      cases hb : memB b bl with
      | true =>
        obtain ⟨i, k, x, c, c', h1, h2, h3, h4, h5, h6, h7⟩ := inb b hb
        exact ⟨_, h4, fun _ => rfl⟩
      | false => rw [outb b hb] at ho; exact ⟨o, ho, fun h => h⟩
    have hback : ∀ (c' : List Value), c' ∈ cs' → ∀ u ∈ c', ∀ u', VR ρ1 u u' → VR ⟨ρ.pl, ρ1.fr, ρ1.gl⟩ (backV bl u) u' := fun c' hc' u hu u' hvr => by
      have hok := hnls' c' hc' u hu
      have base : backV bl u = u → nl1 u = true → VR ⟨ρ.pl, ρ1.fr, ρ1.gl⟩ (backV bl u) u' := fun e hn => by
        rw [e]
        have h0 : VR0 ρ1.fr u u' := nl1_sound hn hvr
        exact VR0.lift (ρ := ⟨ρ.pl, ρ1.fr, ρ1.gl⟩) h0
      cases u <;> try exact base rfl hok
      case pointer a =>
        cases a with
        | none => exact base rfl hok
        | some a =>
          obtain ⟨i, o, sp⟩ := a
          cases sp with
          | some sp => exact base rfl hok
          | none =>
            have hi : i < cs.length := Nat.le_of_ble_eq_true hok
            have hib : i < bl.length := by omega
            obtain ⟨x, hx⟩ := hplaced bl[i] (List.getElem_mem hib)
            have h1 := hg.1 i x hi (by rw [viaAt i bl[i].1 bl[i].2 (List.getElem?_eq_getElem hib)]; exact hx)
            show VR _ (match bl[i]? with | some p => _ | none => _) _
            rw [List.getElem?_eq_getElem hib]
            cases hvr with
            | ptr hb =>
              have hb' := hb
              rw [h1] at hb'
              cases hb'
              exact .ptr hx
    have hends : r.Ends ⟨ρ.pl, ρ1.fr, ρ1.gl⟩ e' := by
      cases r with
      | ret v => obtain ⟨v', e, h0⟩ := hv; exact ⟨v', e, VR0.lift (ρ := ⟨ρ.pl, ρ1.fr, ρ1.gl⟩) h0⟩
      | pan v => obtain ⟨v', e, h0⟩ := hv; exact ⟨v', e, VR0.lift (ρ := ⟨ρ.pl, ρ1.fr, ρ1.gl⟩) h0⟩
    refine ⟨r, putConts bl (backL bl cs') hp, nx, ⟨ρ.pl, ρ1.fr, ρ1.gl⟩, hK, hends, ?_, ⟨hle, Nat.le_refl _, fun b hb hn => ⟨hn, ?_⟩⟩⟩
    · refine ⟨fun b x hb => ⟨(hrel.dom b x hb).1, Nat.lt_of_lt_of_le (hrel.dom b x hb).2 hsz⟩, fun b o c s z ho hx => ?_, fun b b' x x' o o' h1 h2 hx hx' hxx => ?_, fun b hb => ?_, ⟨hr.below.os.trans hrel.below.os, hr.below.tape.trans hrel.below.tape, hr.below.output.trans hrel.below.output, Nat.le_trans hrel.below.size hsz, fun k hk => ?_⟩, hr.frz, fun b o c s z ho hw hx => ?_, fun c ob hc => ?_⟩
      · cases hb : memB b bl with
        | true =>
          obtain ⟨i, k, x, c0, c', h1, h2, h3, h4, h5, h6, h7⟩ := inb b hb
          rw [h7] at ho
          cases ho
          have hx' : ρ.pl b = some (c, s, z) := hx
          rw [h2] at hx'
          cases hx'
          obtain ⟨ob, e1, e2⟩ := hr.obj i _ c s z h6 h3
          refine ⟨ob, e1, ?_⟩
          cases ob <;> try exact e2.elim
          obtain ⟨k1, k2, k3, k4, k5⟩ := e2
          refine ⟨k1, by rw [List.length_map]; exact k2, k3, fun j u hu => ?_, fun _ => muNew c ⟨i, b, k, _, h1, h2, rfl⟩⟩
          rw [List.getElem?_map] at hu
          cases hj : c'[j]? with
          | none => rw [hj] at hu; cases hu
          | some u0 =>
            rw [hj] at hu
            cases hu
            obtain ⟨u', q1, q2⟩ := k4 j u0 hj
            exact ⟨u', q1, hback c' (List.mem_of_getElem? h5) u0 (List.mem_of_getElem? hj) u' q2⟩
        | false =>
          rw [outb b hb] at ho
          obtain ⟨ob, e1, e2⟩ := hrel.obj b o c s z ho hx
          exact ⟨ob, by rw [old c (lt e1) (notmu b o _ hb ho hx)]; exact e1, e2.mono hle⟩
      · obtain ⟨_, g1, _⟩ := live b o h1
        obtain ⟨_, g2, _⟩ := live b' o' h2
        exact hrel.inj b b' x x' _ _ g1 g2 hx hx' hxx
      · cases hm : memB b bl with
        | true =>
          obtain ⟨i, k, x, c0, c', h1, h2, _⟩ := inb b hm
          have := (hrel.dom b x h2).1
          omega
        | false => rw [outb b hm]; exact hrel.fresh b hb
      · have hkw : k < w.heap.size := Nat.lt_of_lt_of_le hk.1 hrel.below.size
        rw [old k hkw fun hm => muNew k hm hk]
        exact hrel.below.block k hk
      · show ρ1.fr c = none
        cases hcf : ρ1.fr c with
        | none => rfl
        | some ob =>
          exfalso
          obtain ⟨o', g1, g2⟩ := live b o ho
          have hcl := (hrel.dom b _ hx).2
          cases hb : memB b bl with
          | true =>
            obtain ⟨i, k, x, c0, c', h1, h2, h3, h4, h5, h6, h7⟩ := inb b hb
            have hx' : ρ.pl b = some (c, s, z) := hx
            rw [h2] at hx'
            cases hx'
            have := hr.apart i _ c s z h6 rfl h3
            rw [this] at hcf
            cases hcf
          | false =>
            rcases hr.frn c ob hcf with q | q
            · have h5 : ρ.fr c = some ob := q
              rw [hrel.apart b o' c s z g1 (g2 hw) hx] at h5
              cases h5
            · rw [outb b hb] at ho
              exact q ⟨hcl, notmu b o _ hb ho hx⟩
      · rcases hr.frn c ob hc with q | q
        · exact hrel.frn c ob q
        · refine .inr fun h2 => ?_
          have hcw : c < w.heap.size := Nat.lt_of_lt_of_le h2.1 hrel.below.size
          exact q ⟨hcw, fun hm => muNew c hm h2⟩
    · refine outb b ?_
      cases hm : memB b bl with
      | false => rfl
      | true =>
        obtain ⟨i, k, x, c0, c', h1, h2, _⟩ := inb b hm
        rw [h2] at hn
        cases hn
def xtabCall (tab : List XEnt) (next : PCall) : PCall := fun f args hp nx K =>
  match xentOf f tab with
  | some e => xcall e args hp nx K
  | none => next f args hp nx K
theorem xtabCall_ok {P : Program} {tab : List XEnt} {next : PCall} (ht : ∀ e ∈ tab, XEntOk P e) (hn : PCallOk P next) : PCallOk P (xtabCall tab next) := by
  intro f args hp nx K h W ρ w args' hrel hargs
  unfold xtabCall at h
  split at h
  · rename_i e he
    obtain ⟨h1, rfl⟩ := xentOf_mem he
    exact xcall_ok (ht e h1) h hrel hargs
  · exact hn f args hp nx K h W ρ w args' hrel hargs
/-- Functions that are carried out on the spot. -/
def inlP (P : Program) (inl : List FuncId) (next : PCall) : Nat → PCall
  | 0 => next
  | k + 1 => fun f args hp nx K => bif inl.contains f then match P.funcs[f]? with
      | some fn => match fn.body with
        | some c => vrunP P (inlP P inl next k) (slotsN args fn) [] [] (fun _ _ _ => False) (fun st => match ares P st.hp st.tm fn with | some v => K (.ret v) st.hp st.nx | none => False) (fun v st => K (.pan v) st.hp st.nx) 1000 (.code c) [] ⟨putArgs 0 args .e, hp, nx⟩
        | none => False
      | none => False
    else next f args hp nx K
theorem inlP_ok {P : Program} (hm : P.follows .mixedOrders = true) {inl : List FuncId} {next : PCall} (hn : PCallOk P next) : ∀ k, PCallOk P (inlP P inl next k)
  | 0 => hn
  | k + 1 => by
    intro f args hp nx K h W ρ w args' hrel hargs
    unfold inlP at h
    cases hi : inl.contains f with
    | false => rw [hi] at h; exact hn f args hp nx K h W ρ w args' hrel hargs
    | true =>
      rw [hi, cond_true] at h
      split at h
      case h_2 => exact h.elim
      rename_i fn hf
      split at h
      case h_2 => exact h.elim
      rename_i c hc
      refine calls_of_wp hf hc ?_
      have fin : ∀ st, (match ares P st.hp st.tm fn with | some v => K (.ret v) st.hp st.nx | none => False) → ∀ ρ' a w', SRel ρ' W.bare (slotsN args fn) st a w' → Step ρ ρ' hp st.hp nx st.nx →
          a.defers = [] ∧ ∃ v', (results fn a.tmps).run P w' = .ok v' w' ∧ ∃ r hp' nx' ρ', K r hp' nx' ∧ r.Ends ρ' (Ending.returned v') ∧ Rel ρ' W hp' nx' w' ∧ Step ρ ρ' hp hp' nx nx' := by
        intro st hst ρ' a w' hs hr
        split at hst
        case h_2 => exact hst.elim
        rename_i v hv
        obtain ⟨v', r1, r2⟩ := ares_sound hs.rel hs.frame hv
        exact ⟨hs.frame.defers, v', r1, .ret v, st.hp, st.nx, ρ', hst, ⟨v', rfl, r2⟩, hs.rel.unbare, hr⟩
      exact vrunP_sound (W := W.bare) (R := fun ρ' st => Step ρ ρ' hp st.hp nx st.nx) (inlP_ok hm hn k) hm (fun _ _ _ _ h k => h.trans k)
        (fun b k st h ρ' a w hs hr => by
          unfold vloop at h
          split at h
          case h_2 => exact h.elim
          split at h
          case h_2 => exact h.elim
          split at h
          case h_2 => exact h.elim
          exact h.2.2.elim) (fun st hst ρ' a w hs hr => ⟨fin st hst ρ' a w hs hr, fin st hst ρ' a w hs hr⟩)
        (fun v st hst ρ' v' a w' hv hs hr => ⟨hs.frame.defers, .pan v, st.hp, st.nx, ρ', hst, ⟨v', rfl, hv⟩, hs.rel.unbare, hr⟩) 1000 (.code c) [] _ h ρ _ w (start_rel rfl hrel.bare hargs fn) (.refl _ _ _)
/-- What must be shown. -/
def vcX (P : Program) (pc : PCall) (f : FuncId) (lt : List (Nat × List Nat)) (conts : List (List Value)) (args : List Value) (H : Code → List Fr → AS → Prop) (Post : Out → List (List Value) → Prop) : Prop :=
  vrunP P pc (slotsN args (fnAt P f)) lt (List.replicate conts.length true) H (finX P (fnAt P f) conts.length (xpost conts.length Post)) (panX conts.length (xpost conts.length Post)) 3000 (.code (codeOf (fnAt P f))) [] ⟨putArgs 0 args .e, hpOf conts, conts.length⟩
def vcLX (P : Program) (pc : PCall) (f : FuncId) (na : List Value) (lt : List (Nat × List Nat)) (n : Nat) (r : Nat) (st : AS) (H : Code → List Fr → AS → Prop) (Post : Out → List (List Value) → Prop) : Prop :=
  vrunP P pc (slotsN na (fnAt P f)) lt (List.replicate n true) H (finX P (fnAt P f) n (xpost n Post)) (panX n (xpost n Post)) 3000 (.code (lpC P f r)) (.loop (lpC P f r) :: lpK P f r) st
/-- From the head of the loop r on, all ends well. -/
def OkX (P : Program) (f : FuncId) (na : List Value) (n : Nat) (Post : Out → List (List Value) → Prop) : Code → List Fr → AS → Prop :=
  GoodX P (slotsN na (fnAt P f)) (List.replicate n true) (finX P (fnAt P f) n (xpost n Post)) (panX n (xpost n Post))
theorem spec_X {P : Program} {pc : PCall} (hcall : PCallOk P pc) (hm : P.follows .mixedOrders = true) {f : FuncId} (hf : (P.funcs[f]?).isSome = true) (hc : (fnAt P f).body.isSome = true) (lt : List (Nat × List Nat)) {conts : List (List Value)} {args : List Value} {Post : Out → List (List Value) → Prop}
    {X : Prop} (e : vcX P pc f lt conts args (OkX P f args conts.length Post) Post = X) (h : X) : SpecX P f conts.length (hpOf conts) args (xpost conts.length Post) := by
  have hf' : P.funcs[f]? = some (fnAt P f) := by
    unfold fnAt
    cases hx : P.funcs[f]? with
    | none => rw [hx] at hf; cases hf
    | some x => rfl
  have hc' : (fnAt P f).body = some (codeOf (fnAt P f)) := by
    unfold codeOf
    cases hx : (fnAt P f).body with
    | none => rw [hx] at hc; cases hc
    | some x => rfl
  have h' := Eq.mpr e h
  unfold vcX OkX at h'
  have hl : (List.replicate conts.length true).length = conts.length := List.length_replicate ..
  have := specX_of (base := List.replicate conts.length true) (Post := xpost conts.length Post) (hp := hpOf conts) (args := args) hcall hm hf' hc' 3000 (lt := lt) (by rw [hl]; exact h')
  rw [hl] at this
  exact this
theorem ok_X {P : Program} {pc : PCall} (hcall : PCallOk P pc) (hm : P.follows .mixedOrders = true) {f : FuncId} {na : List Value} (lt : List (Nat × List Nat)) {n r : Nat} {st : AS} {Post : Out → List (List Value) → Prop}
    {X : Prop} (e : vcLX P pc f na lt n r st (OkX P f na n Post) Post = X) (h : X) : OkX P f na n Post (lpC P f r) (lpK P f r) st := goodX_round hcall hm 3000 (Eq.mpr e h)
end Go.Proofs.YtegjnjmimfgijaaGreatDoor
