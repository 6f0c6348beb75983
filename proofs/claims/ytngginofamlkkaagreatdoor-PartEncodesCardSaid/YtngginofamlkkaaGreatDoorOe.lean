/-
  part.Encode and the document's Encode return the same bytes. Conditions: a part within the document's limits.
-/
import Derived.Test.YtngginofamlkkaaGreatDoorOd
import Derived.Test.YtngginofamlkkaaGreatDoorLe
noncomputable section
namespace Go.Proofs.YtngginofamlkkaaGreatDoor
open Go Go.RowKit
set_option maxRecDepth 100000
def tabE : List Ent := [⟨76, c_cText⟩, ⟨79, c_cList⟩, ⟨78, c_pts⟩]
def tabEF : List Ent := [⟨77, c_ints⟩]
def callE : VCall := tabCallF Tryz.prog tabEF (tabCall tabE noCall)
theorem e_Encode (p : Part) (H : Code → List Fr → AS → Prop) (Post : Value → Prop) : vcP Tryz.prog callE 25 [(3, [1, 3, 42, 43, 44])] [partV p] H Post = (True ∧ True ∧ True ∧ True ∧ True ∧ True ∧ True ∧ True ∧ True ∧ True ∧ True ∧ True ∧ True ∧ True ∧ True ∧ True ∧ True ∧ True ∧ True ∧ True ∧ True ∧ True ∧ True ∧ ∃ (s : ByteArray), eqL [Value.string (Part.id p)] [Value.string s] ∧ ByteArray.size s ≤ 1000000 ∧ True ∧ ((2 ≤ 2 ∧ NLs [Value.int IntKind.i64 (Part.rev p), Value.int IntKind.i64 (Part.kind p)]) ∧ True) ∧ ∃ (l : List Int), eqL [tree 1 2 #[Value.int IntKind.i64 (Part.rev p), Value.int IntKind.i64 (Part.kind p)]] [tree 1 (List.length l) (encI l)] ∧ List.length l ≤ 1000 ∧ (∀ (n : Int), n ∈ l → -9223372036854775808 ≤ n ∧ n < 9223372036854775808) ∧ True ∧ ByteArray.size (bText s) + ByteArray.size (bInts l) ≤ 9223372036854775807 ∧ ∃ (s_1 : ByteArray), eqL [Value.string (Part.node p)] [Value.string s_1] ∧ ByteArray.size s_1 ≤ 1000000 ∧ True ∧ ByteArray.size (bText s ++ bInts l) + ByteArray.size (bText s_1) ≤ 9223372036854775807 ∧ ∃ (s_2 : ByteArray), eqL [Value.string (Part.grade p)] [Value.string s_2] ∧ ByteArray.size s_2 ≤ 1000000 ∧ True ∧ ByteArray.size (bText s ++ bInts l ++ bText s_1) + ByteArray.size (bText s_2) ≤ 9223372036854775807 ∧ ((1 ≤ 1 ∧ NLs [Value.int IntKind.i64 (Part.thick p)]) ∧ True) ∧ ∃ (l_1 : List Int), eqL [tree 1 1 #[Value.int IntKind.i64 (Part.thick p)]] [tree 1 (List.length l_1) (encI l_1)] ∧ List.length l_1 ≤ 1000 ∧ (∀ (n : Int), n ∈ l_1 → -9223372036854775808 ≤ n ∧ n < 9223372036854775808) ∧ True ∧ ByteArray.size (bText s ++ bInts l ++ bText s_1 ++ bText s_2) + ByteArray.size (bInts l_1) ≤ 9223372036854775807 ∧ ∃ (l_2 : List Pt), eqL [trPt (Part.outer p)] [trPt l_2] ∧ List.length l_2 ≤ 1000 ∧ (∀ (p : Pt), p ∈ l_2 → (-9223372036854775808 ≤ Pt.x p ∧ Pt.x p < 9223372036854775808) ∧ -9223372036854775808 ≤ Pt.y p ∧ Pt.y p < 9223372036854775808) ∧ True ∧ ByteArray.size (bText s ++ bInts l ++ bText s_1 ++ bText s_2 ++ bInts l_1) + ByteArray.size (bPts l_2) ≤ 9223372036854775807 ∧ ∃ (n : Nat), eqL [Value.int IntKind.i64 (↑(List.length (Part.holes p)) : Int)] [Value.int IntKind.i64 (↑n : Int)] ∧ n < 9223372036854775808 ∧ True ∧ ByteArray.size (bText s ++ bInts l ++ bText s_1 ++ bText s_2 ++ bInts l_1 ++ bPts l_2) + ByteArray.size (bList n) ≤ 9223372036854775807 ∧ True ∧ True ∧ True ∧ True ∧ True ∧ True ∧ (True ∧ True) ∧ H (lpC Tryz.prog 25 3) (lpK Tryz.prog 25 3) (stV [(1, some (Value.pointer (some (Addr.mk 0 0 none)))), (3, some (Value.string (bText s ++ bInts l ++ bText s_1 ++ bText s_2 ++ bInts l_1 ++ bPts l_2 ++ bList n))), (42, some (tree 1 (List.length (Part.holes p)) (encL (Part.holes p)))), (43, some (Value.int IntKind.i64 (↑(List.length (Part.holes p)) : Int))), (44, some (Value.int IntKind.i64 0))] [(0, some (AObj.cells [Value.string (Part.id p), Value.int IntKind.i64 (Part.rev p), Value.int IntKind.i64 (Part.kind p), Value.string (Part.node p), Value.string (Part.grade p), Value.int IntKind.i64 (Part.thick p), tree 2 (List.length (Part.outer p)) (encL (Part.outer p)), tree 1 (List.length (Part.holes p)) (encL (Part.holes p)), Value.string (Part.sect p), Value.int IntKind.i64 (Part.long p), Value.int IntKind.i64 (Part.mass p), Value.int IntKind.i64 (Vec3.x (Part.centre p)), Value.int IntKind.i64 (Vec3.y (Part.centre p)), Value.int IntKind.i64 (Vec3.z (Part.centre p)), Value.int IntKind.i64 (Vec3.x (Part.at_ p)), Value.int IntKind.i64 (Vec3.y (Part.at_ p)), Value.int IntKind.i64 (Vec3.z (Part.at_ p)), Value.int IntKind.i64 (Part.turn p)] true))] 1)) := by kernel_rfl
theorem l_Encode (p : Part) (s : ByteArray) (i : Int) (H : Code → List Fr → AS → Prop) (Post : Value → Prop) : vcLP Tryz.prog callE 25 [partV p] [(3, [1, 3, 42, 43, 44])] 3 (stV [(1, some (.pointer (some ⟨0, 0, none⟩))), (3, some (.string s)), (42, some (trPts p.holes)), (43, some (.int .i64 p.holes.length)), (44, some (.int .i64 i))] [(0, some (.cells (partC p) true))] 1) H Post = (True ∧ pIf (decide (i < (↑(List.length (Part.holes p)) : Int))) ((0 ≤ i ∧ i < (↑(List.length (Part.holes p)) : Int)) ∧ cellAt (encL (Part.holes p)) (Int.toNat i) 0 = tree 2 (toN (cellAt (encL (Part.holes p)) (Int.toNat i) 0)) (toE (cellAt (encL (Part.holes p)) (Int.toNat i) 0)) ∧ True ∧ True ∧ True ∧ ∃ (l : List Pt), eqL [tree 2 (toN (cellAt (encL (Part.holes p)) (Int.toNat i) 0)) (toE (cellAt (encL (Part.holes p)) (Int.toNat i) 0))] [trPt l] ∧ List.length l ≤ 1000 ∧ (∀ (p : Pt), p ∈ l → (-9223372036854775808 ≤ Pt.x p ∧ Pt.x p < 9223372036854775808) ∧ -9223372036854775808 ≤ Pt.y p ∧ Pt.y p < 9223372036854775808) ∧ ByteArray.size s + ByteArray.size (bPts l) ≤ 9223372036854775807 ∧ True ∧ True ∧ True ∧ (True ∧ True) ∧ H (lpC Tryz.prog 25 3) (lpK Tryz.prog 25 3) (stV [(1, some (Value.pointer (some (Addr.mk 0 0 none)))), (3, some (Value.string (s ++ bPts l))), (42, some (tree 1 (List.length (Part.holes p)) (encL (Part.holes p)))), (43, some (Value.int IntKind.i64 (↑(List.length (Part.holes p)) : Int))), (44, some (Value.int IntKind.i64 (IntKind.wrap IntKind.i64 (i + 1))))] [(0, some (AObj.cells [Value.string (Part.id p), Value.int IntKind.i64 (Part.rev p), Value.int IntKind.i64 (Part.kind p), Value.string (Part.node p), Value.string (Part.grade p), Value.int IntKind.i64 (Part.thick p), tree 2 (List.length (Part.outer p)) (encL (Part.outer p)), tree 1 (List.length (Part.holes p)) (encL (Part.holes p)), Value.string (Part.sect p), Value.int IntKind.i64 (Part.long p), Value.int IntKind.i64 (Part.mass p), Value.int IntKind.i64 (Vec3.x (Part.centre p)), Value.int IntKind.i64 (Vec3.y (Part.centre p)), Value.int IntKind.i64 (Vec3.z (Part.centre p)), Value.int IntKind.i64 (Vec3.x (Part.at_ p)), Value.int IntKind.i64 (Vec3.y (Part.at_ p)), Value.int IntKind.i64 (Vec3.z (Part.at_ p)), Value.int IntKind.i64 (Part.turn p)] true))] 1)) (True ∧ True ∧ True ∧ ∃ (s_1 : ByteArray), eqL [Value.string (Part.sect p)] [Value.string s_1] ∧ ByteArray.size s_1 ≤ 1000000 ∧ ByteArray.size s + ByteArray.size (bText s_1) ≤ 9223372036854775807 ∧ True ∧ True ∧ True ∧ True ∧ True ∧ True ∧ True ∧ True ∧ True ∧ True ∧ True ∧ True ∧ True ∧ True ∧ True ∧ True ∧ True ∧ True ∧ True ∧ True ∧ True ∧ True ∧ True ∧ True ∧ True ∧ True ∧ True ∧ True ∧ True ∧ True ∧ True ∧ ((9 ≤ 9 ∧ NLs [Value.int IntKind.i64 (Part.long p), Value.int IntKind.i64 (Part.mass p), Value.int IntKind.i64 (Vec3.x (Part.centre p)), Value.int IntKind.i64 (Vec3.y (Part.centre p)), Value.int IntKind.i64 (Vec3.z (Part.centre p)), Value.int IntKind.i64 (Vec3.x (Part.at_ p)), Value.int IntKind.i64 (Vec3.y (Part.at_ p)), Value.int IntKind.i64 (Vec3.z (Part.at_ p)), Value.int IntKind.i64 (Part.turn p)]) ∧ True) ∧ ∃ (l : List Int), eqL [tree 1 9 #[Value.int IntKind.i64 (Part.long p), Value.int IntKind.i64 (Part.mass p), Value.int IntKind.i64 (Vec3.x (Part.centre p)), Value.int IntKind.i64 (Vec3.y (Part.centre p)), Value.int IntKind.i64 (Vec3.z (Part.centre p)), Value.int IntKind.i64 (Vec3.x (Part.at_ p)), Value.int IntKind.i64 (Vec3.y (Part.at_ p)), Value.int IntKind.i64 (Vec3.z (Part.at_ p)), Value.int IntKind.i64 (Part.turn p)]] [tree 1 (List.length l) (encI l)] ∧ List.length l ≤ 1000 ∧ (∀ (n : Int), n ∈ l → -9223372036854775808 ≤ n ∧ n < 9223372036854775808) ∧ ByteArray.size (s ++ bText s_1) + ByteArray.size (bInts l) ≤ 9223372036854775807 ∧ True ∧ True ∧ Post (Value.string (s ++ bText s_1 ++ bInts l)))) := by kernel_rfl
def tabR : List Ent := [⟨80, c_cText⟩, ⟨83, c_cList⟩, ⟨81, c_cInt⟩, ⟨82, c_pts⟩, ⟨84, c_vector⟩]
theorem e_REncode (p : Part) (H : Code → List Fr → AS → Prop) (Post : Value → Prop) : vcP Tryz.prog (tabCall tabR noCall) 26 [(3, [1, 3, 4])] [partV p] H Post = (True ∧ True ∧ True ∧ True ∧ True ∧ True ∧ True ∧ True ∧ True ∧ True ∧ True ∧ True ∧ True ∧ True ∧ True ∧ True ∧ True ∧ True ∧ True ∧ True ∧ True ∧ ∃ (s : ByteArray), eqL [Value.string (Part.id p)] [Value.string s] ∧ ByteArray.size s ≤ 1000000 ∧ True ∧ ∃ (n : Int), eqL [Value.int IntKind.i64 (Part.rev p)] [Value.int IntKind.i64 n] ∧ (-9223372036854775808 ≤ n ∧ n < 9223372036854775808) ∧ True ∧ ByteArray.size (bText s) + ByteArray.size (bInt n) ≤ 9223372036854775807 ∧ ∃ (n_1 : Int), eqL [Value.int IntKind.i64 (Part.kind p)] [Value.int IntKind.i64 n_1] ∧ (-9223372036854775808 ≤ n_1 ∧ n_1 < 9223372036854775808) ∧ True ∧ ByteArray.size (bText s ++ bInt n) + ByteArray.size (bInt n_1) ≤ 9223372036854775807 ∧ ∃ (s_1 : ByteArray), eqL [Value.string (Part.node p)] [Value.string s_1] ∧ ByteArray.size s_1 ≤ 1000000 ∧ True ∧ ByteArray.size (bText s ++ bInt n ++ bInt n_1) + ByteArray.size (bText s_1) ≤ 9223372036854775807 ∧ ∃ (s_2 : ByteArray), eqL [Value.string (Part.grade p)] [Value.string s_2] ∧ ByteArray.size s_2 ≤ 1000000 ∧ True ∧ ByteArray.size (bText s ++ bInt n ++ bInt n_1 ++ bText s_1) + ByteArray.size (bText s_2) ≤ 9223372036854775807 ∧ ∃ (n_2 : Int), eqL [Value.int IntKind.i64 (Part.thick p)] [Value.int IntKind.i64 n_2] ∧ (-9223372036854775808 ≤ n_2 ∧ n_2 < 9223372036854775808) ∧ True ∧ ByteArray.size (bText s ++ bInt n ++ bInt n_1 ++ bText s_1 ++ bText s_2) + ByteArray.size (bInt n_2) ≤ 9223372036854775807 ∧ ∃ (l : List Pt), eqL [trPt (Part.outer p)] [trPt l] ∧ List.length l ≤ 1000 ∧ (∀ (p : Pt), p ∈ l → (-9223372036854775808 ≤ Pt.x p ∧ Pt.x p < 9223372036854775808) ∧ -9223372036854775808 ≤ Pt.y p ∧ Pt.y p < 9223372036854775808) ∧ True ∧ ByteArray.size (bText s ++ bInt n ++ bInt n_1 ++ bText s_1 ++ bText s_2 ++ bInt n_2) + ByteArray.size (bPts l) ≤ 9223372036854775807 ∧ ∃ (n_3 : Nat), eqL [Value.int IntKind.i64 (↑(List.length (Part.holes p)) : Int)] [Value.int IntKind.i64 (↑n_3 : Int)] ∧ n_3 < 9223372036854775808 ∧ True ∧ ByteArray.size (bText s ++ bInt n ++ bInt n_1 ++ bText s_1 ++ bText s_2 ++ bInt n_2 ++ bPts l) + ByteArray.size (bList n_3) ≤ 9223372036854775807 ∧ True ∧ True ∧ (True ∧ True) ∧ H (lpC Tryz.prog 26 3) (lpK Tryz.prog 26 3) (stV [(1, some (Value.pointer (some (Addr.mk 0 0 none)))), (3, some (Value.string (bText s ++ bInt n ++ bInt n_1 ++ bText s_1 ++ bText s_2 ++ bInt n_2 ++ bPts l ++ bList n_3))), (4, some (Value.int IntKind.i64 0))] [(0, some (AObj.cells [Value.string (Part.id p), Value.int IntKind.i64 (Part.rev p), Value.int IntKind.i64 (Part.kind p), Value.string (Part.node p), Value.string (Part.grade p), Value.int IntKind.i64 (Part.thick p), tree 2 (List.length (Part.outer p)) (encL (Part.outer p)), tree 1 (List.length (Part.holes p)) (encL (Part.holes p)), Value.string (Part.sect p), Value.int IntKind.i64 (Part.long p), Value.int IntKind.i64 (Part.mass p), Value.int IntKind.i64 (Vec3.x (Part.centre p)), Value.int IntKind.i64 (Vec3.y (Part.centre p)), Value.int IntKind.i64 (Vec3.z (Part.centre p)), Value.int IntKind.i64 (Vec3.x (Part.at_ p)), Value.int IntKind.i64 (Vec3.y (Part.at_ p)), Value.int IntKind.i64 (Vec3.z (Part.at_ p)), Value.int IntKind.i64 (Part.turn p)] true))] 1)) := by kernel_rfl
theorem l_REncode (p : Part) (s : ByteArray) (i : Int) (H : Code → List Fr → AS → Prop) (Post : Value → Prop) : vcLP Tryz.prog (tabCall tabR noCall) 26 [partV p] [(3, [1, 3, 4])] 3 (stV [(1, some (.pointer (some ⟨0, 0, none⟩))), (3, some (.string s)), (4, some (.int .i64 i))] [(0, some (.cells (partC p) true))] 1) H Post = (True ∧ True ∧ True ∧ True ∧ True ∧ True ∧ pIf (decide (i < (↑(List.length (Part.holes p)) : Int))) (True ∧ True ∧ True ∧ True ∧ True ∧ (0 ≤ i ∧ i < (↑(List.length (Part.holes p)) : Int)) ∧ cellAt (encL (Part.holes p)) (Int.toNat i) 0 = tree 2 (toN (cellAt (encL (Part.holes p)) (Int.toNat i) 0)) (toE (cellAt (encL (Part.holes p)) (Int.toNat i) 0)) ∧ ∃ (l : List Pt), eqL [tree 2 (toN (cellAt (encL (Part.holes p)) (Int.toNat i) 0)) (toE (cellAt (encL (Part.holes p)) (Int.toNat i) 0))] [trPt l] ∧ List.length l ≤ 1000 ∧ (∀ (p : Pt), p ∈ l → (-9223372036854775808 ≤ Pt.x p ∧ Pt.x p < 9223372036854775808) ∧ -9223372036854775808 ≤ Pt.y p ∧ Pt.y p < 9223372036854775808) ∧ ByteArray.size s + ByteArray.size (bPts l) ≤ 9223372036854775807 ∧ True ∧ True ∧ True ∧ True ∧ (True ∧ True) ∧ H (lpC Tryz.prog 26 3) (lpK Tryz.prog 26 3) (stV [(1, some (Value.pointer (some (Addr.mk 0 0 none)))), (3, some (Value.string (s ++ bPts l))), (4, some (Value.int IntKind.i64 (IntKind.wrap IntKind.i64 (i + 1))))] [(0, some (AObj.cells [Value.string (Part.id p), Value.int IntKind.i64 (Part.rev p), Value.int IntKind.i64 (Part.kind p), Value.string (Part.node p), Value.string (Part.grade p), Value.int IntKind.i64 (Part.thick p), tree 2 (List.length (Part.outer p)) (encL (Part.outer p)), tree 1 (List.length (Part.holes p)) (encL (Part.holes p)), Value.string (Part.sect p), Value.int IntKind.i64 (Part.long p), Value.int IntKind.i64 (Part.mass p), Value.int IntKind.i64 (Vec3.x (Part.centre p)), Value.int IntKind.i64 (Vec3.y (Part.centre p)), Value.int IntKind.i64 (Vec3.z (Part.centre p)), Value.int IntKind.i64 (Vec3.x (Part.at_ p)), Value.int IntKind.i64 (Vec3.y (Part.at_ p)), Value.int IntKind.i64 (Vec3.z (Part.at_ p)), Value.int IntKind.i64 (Part.turn p)] true))] 1)) (True ∧ True ∧ True ∧ True ∧ True ∧ True ∧ True ∧ True ∧ True ∧ True ∧ True ∧ True ∧ True ∧ True ∧ True ∧ ∃ (s_1 : ByteArray), eqL [Value.string (Part.sect p)] [Value.string s_1] ∧ ByteArray.size s_1 ≤ 1000000 ∧ True ∧ ByteArray.size s + ByteArray.size (bText s_1) ≤ 9223372036854775807 ∧ ∃ (n : Int), eqL [Value.int IntKind.i64 (Part.long p)] [Value.int IntKind.i64 n] ∧ (-9223372036854775808 ≤ n ∧ n < 9223372036854775808) ∧ True ∧ ByteArray.size (s ++ bText s_1) + ByteArray.size (bInt n) ≤ 9223372036854775807 ∧ ∃ (n_1 : Int), eqL [Value.int IntKind.i64 (Part.mass p)] [Value.int IntKind.i64 n_1] ∧ (-9223372036854775808 ≤ n_1 ∧ n_1 < 9223372036854775808) ∧ True ∧ ByteArray.size (s ++ bText s_1 ++ bInt n) + ByteArray.size (bInt n_1) ≤ 9223372036854775807 ∧ ∃ (v : Vec3), eqL [Value.agg #[Value.int IntKind.i64 (Vec3.x (Part.centre p)), Value.int IntKind.i64 (Vec3.y (Part.centre p)), Value.int IntKind.i64 (Vec3.z (Part.centre p))]] [Value.agg #[Value.int IntKind.i64 (Vec3.x v), Value.int IntKind.i64 (Vec3.y v), Value.int IntKind.i64 (Vec3.z v)]] ∧ ((-9223372036854775808 ≤ Vec3.x v ∧ Vec3.x v < 9223372036854775808) ∧ (-9223372036854775808 ≤ Vec3.y v ∧ Vec3.y v < 9223372036854775808) ∧ -9223372036854775808 ≤ Vec3.z v ∧ Vec3.z v < 9223372036854775808) ∧ True ∧ ByteArray.size (s ++ bText s_1 ++ bInt n ++ bInt n_1) + ByteArray.size (bInt (Vec3.x v) ++ bInt (Vec3.y v) ++ bInt (Vec3.z v)) ≤ 9223372036854775807 ∧ ∃ (v_1 : Vec3), eqL [Value.agg #[Value.int IntKind.i64 (Vec3.x (Part.at_ p)), Value.int IntKind.i64 (Vec3.y (Part.at_ p)), Value.int IntKind.i64 (Vec3.z (Part.at_ p))]] [Value.agg #[Value.int IntKind.i64 (Vec3.x v_1), Value.int IntKind.i64 (Vec3.y v_1), Value.int IntKind.i64 (Vec3.z v_1)]] ∧ ((-9223372036854775808 ≤ Vec3.x v_1 ∧ Vec3.x v_1 < 9223372036854775808) ∧ (-9223372036854775808 ≤ Vec3.y v_1 ∧ Vec3.y v_1 < 9223372036854775808) ∧ -9223372036854775808 ≤ Vec3.z v_1 ∧ Vec3.z v_1 < 9223372036854775808) ∧ True ∧ ByteArray.size (s ++ bText s_1 ++ bInt n ++ bInt n_1 ++ (bInt (Vec3.x v) ++ bInt (Vec3.y v) ++ bInt (Vec3.z v))) + ByteArray.size (bInt (Vec3.x v_1) ++ bInt (Vec3.y v_1) ++ bInt (Vec3.z v_1)) ≤ 9223372036854775807 ∧ ∃ (n_2 : Int), eqL [Value.int IntKind.i64 (Part.turn p)] [Value.int IntKind.i64 n_2] ∧ (-9223372036854775808 ≤ n_2 ∧ n_2 < 9223372036854775808) ∧ True ∧ ByteArray.size (s ++ bText s_1 ++ bInt n ++ bInt n_1 ++ (bInt (Vec3.x v) ++ bInt (Vec3.y v) ++ bInt (Vec3.z v)) ++ (bInt (Vec3.x v_1) ++ bInt (Vec3.y v_1) ++ bInt (Vec3.z v_1))) + ByteArray.size (bInt n_2) ≤ 9223372036854775807 ∧ True ∧ True ∧ Post (Value.string (s ++ bText s_1 ++ bInt n ++ bInt n_1 ++ (bInt (Vec3.x v) ++ bInt (Vec3.y v) ++ bInt (Vec3.z v)) ++ (bInt (Vec3.x v_1) ++ bInt (Vec3.y v_1) ++ bInt (Vec3.z v_1)) ++ bInt n_2)))) := by kernel_rfl
/-- The bytes of a part. -/
def bFront (p : Part) : ByteArray := bText p.id ++ bInts [p.rev, p.kind] ++ bText p.node ++ bText p.grade ++ bInts [p.thick] ++ bPts p.outer ++ bList p.holes.length
def bHoles (p : Part) (i : Nat) : ByteArray := (p.holes.take i).foldl (fun s h => s ++ bPts h) (bFront p)
def bRear (p : Part) : List Int := [p.long, p.mass, p.centre.x, p.centre.y, p.centre.z, p.at_.x, p.at_.y, p.at_.z, p.turn]
def bPart (p : Part) : ByteArray := bHoles p p.holes.length ++ bText p.sect ++ bInts (bRear p)
def InAll (l : List Int) : Prop := ∀ n ∈ l, In64 n
theorem bInts_size (l : List Int) : (bInts l).size ≤ 9 * l.length := by
  have h := fold_size (fun s (n : Int) => s ++ bInt n) 9 (fun s n => by
    rw [ba_size]
    have := bInt_size n
    omega) l ⟨#[]⟩
  have h0 : (⟨#[]⟩ : ByteArray).size = 0 := rfl
  unfold bInts
  omega
theorem bFront_size {p : Part} (h : few16 p) : (bFront p).size ≤ 2000 := by
  obtain ⟨h1, h2, h3, h4, h5, h6, h7⟩ := h
  unfold bFront
  simp only [ba_size]
  have a1 := bText_size p.id
  have a2 := bText_size p.node
  have a3 := bText_size p.grade
  have a4 : (bInts [p.rev, p.kind]).size ≤ 18 := bInts_size _
  have a5 : (bInts [p.thick]).size ≤ 9 := bInts_size _
  have a6 := bPts_size p.outer
  have a7 := bList_size p.holes.length
  omega
theorem fold_size' {α : Type} (f : ByteArray → α → ByteArray) (c : Nat) : ∀ (l : List α) (s : ByteArray), (∀ s, ∀ a ∈ l, (f s a).size ≤ s.size + c) → (l.foldl f s).size ≤ s.size + c * l.length
  | [], s, _ => by simp
  | a :: l, s, hf => by
    have h1 := fold_size' f c l (f s a) (fun s b hb => hf s b (by simp [hb]))
    have h2 := hf s a (by simp)
    simp only [List.foldl_cons, List.length_cons, Nat.mul_add, Nat.mul_one]
    omega
theorem bHoles_size {p : Part} (h : few16 p) (i : Nat) : (bHoles p i).size ≤ 12000 := by
  have h0 := bFront_size h
  have h6 := h.2.2.2.2.2.1
  have h7 := h.2.2.2.2.2.2
  have h1 := fold_size' (fun s (h : List Pt) => s ++ bPts h) 729 (p.holes.take i) (bFront p) (fun s a ha => by
    rw [ba_size]
    have := bPts_size a
    have := h7 a (List.mem_of_mem_take ha)
    omega)
  have h2 := List.length_take_le' i p.holes
  unfold bHoles
  omega
theorem nls_ints (l : List Int) : NLs (l.map (Value.int .i64)) := by
  intro v hv
  obtain ⟨x, _, rfl⟩ := List.mem_map.1 hv
  rfl
theorem tabE_ok : VCallOk Tryz.prog callE := tabCallF_ok (by
  intro e he
  simp only [tabEF, List.mem_cons, List.not_mem_nil, or_false] at he
  rcases he with rfl
  exact ok_ints) (tabCall_ok (by
  intro e he
  simp only [tabE, List.mem_cons, List.not_mem_nil, or_false] at he
  rcases he with rfl | rfl | rfl
  · exact ok_cText
  · exact ok_cList
  · exact ok_corners) noCall_ok)
theorem tabR_ok : VCallOk Tryz.prog (tabCall tabR noCall) := tabCall_ok (by
  intro e he
  simp only [tabR, List.mem_cons, List.not_mem_nil, or_false] at he
  rcases he with rfl | rfl | rfl | rfl | rfl
  · exact ok_rText
  · exact ok_rList
  · exact ok_rInt
  · exact ok_contour
  · exact ok_vector) noCall_ok
def c_Encode (args : List Value) (Post : Value → Prop) : Prop := ∃ p : Part, args = [partV p] ∧ InPart p ∧ few16 p ∧ Post (.string (bPart p))
theorem ok_Encode : EntOk Tryz.prog ⟨25, c_Encode⟩ := by
  rintro args Post ⟨p, rfl, hin, hf, h⟩
  refine pure_P (vc := callE) tabE_ok mixed (by kernel_rfl) (by kernel_rfl) _ (e_Encode p _ _) ?_
  simp only [true_and, and_true]
  have hf0 := hf
  obtain ⟨h1, h2, h3, h4, h5, h6, h7⟩ := hf
  have a1 := bText_size p.id
  have a2 := bText_size p.node
  have a3 := bText_size p.grade
  have a4 : (bInts [p.rev, p.kind]).size ≤ 18 := bInts_size _
  have a5 : (bInts [p.thick]).size ≤ 9 := bInts_size _
  have a6 := bPts_size p.outer
  have a7 := bList_size p.holes.length
  have a8 := bText_size p.sect
  refine ⟨p.id, rfl, by omega, ⟨by omega, nls_ints [p.rev, p.kind]⟩, [p.rev, p.kind], rfl, by simp, ?_, by omega, p.node, rfl, by omega, by simp only [ba_size]; omega, p.grade, rfl, by omega, by simp only [ba_size]; omega, ⟨by omega, nls_ints [p.thick]⟩, [p.thick], rfl, by simp, ?_, by simp only [ba_size]; omega, p.outer, rfl, by omega, hin.outer, by simp only [ba_size]; omega, p.holes.length, rfl, by omega, by simp only [ba_size]; omega, ?_⟩
  · intro n hn
    simp at hn
    rcases hn with rfl | rfl
    · exact hin.rev
    · exact hin.kind
  · intro n hn
    simp at hn
    subst hn
    exact hin.thick
  refine down (n := p.holes.length) (p := fun i => OkP 25 [partV p] 3 Post (stV [(1, some (.pointer (some ⟨0, 0, none⟩))), (3, some (.string (bHoles p i))), (42, some (trPts p.holes)), (43, some (.int .i64 p.holes.length)), (44, some (.int .i64 i))] [(0, some (.cells (partC p) true))] 1)) ?_ (fun i hi ih => ?_)
  · refine ok_P (vc := callE) tabE_ok mixed _ (l_Encode _ _ _ _ _) ?_
    simp only [true_and, and_true, pIf_iff, decide_eq_true_eq, decide_eq_false_iff_not]
    have b := bHoles_size hf0 p.holes.length
    refine ⟨fun h' => by omega, fun _ => ⟨p.sect, rfl, by omega, by omega, ⟨by omega, nls_ints (bRear p)⟩, bRear p, rfl, by simp [bRear], ?_, ?_, h⟩⟩
    · intro n hn
      simp [bRear] at hn
      rcases hn with rfl | rfl | rfl | rfl | rfl | rfl | rfl | rfl | rfl
      · exact hin.long
      · exact hin.mass
      · exact hin.centre.1
      · exact hin.centre.2.1
      · exact hin.centre.2.2
      · exact hin.at_.1
      · exact hin.at_.2.1
      · exact hin.at_.2.2
      · exact hin.turn
    · simp only [ba_size]
      have : (bInts (bRear p)).size ≤ 81 := bInts_size _
      omega
  · refine ok_P (vc := callE) tabE_ok mixed _ (l_Encode _ _ _ _ _) ?_
    simp only [true_and, and_true, pIf_iff, decide_eq_true_eq, decide_eq_false_iff_not, Int.toNat_natCast, cell_pts hi, toN_tree, toE_tree]
    have b := bHoles_size hf0 i
    have c := bPts_size p.holes[i]
    have d := h7 _ (List.getElem_mem hi)
    refine ⟨fun _ => ⟨by omega, p.holes[i], rfl, by omega, hin.holes _ (List.getElem_mem hi), by omega, ?_⟩, fun h' => by omega⟩
    rw [wrapSucc (by omega)]
    unfold bHoles at ih
    rw [fold_take _ _ hi] at ih
    exact ih
theorem ok_REncode : EntOk Tryz.prog ⟨26, c_Encode⟩ := by
  rintro args Post ⟨p, rfl, hin, hf, h⟩
  refine pure_P (vc := tabCall tabR noCall) tabR_ok mixed (by kernel_rfl) (by kernel_rfl) _ (e_REncode p _ _) ?_
  simp only [true_and, and_true]
  have hf0 := hf
  obtain ⟨h1, h2, h3, h4, h5, h6, h7⟩ := hf
  have a1 := bText_size p.id
  have a2 := bText_size p.node
  have a3 := bText_size p.grade
  have a4 := bInt_size p.rev
  have a5 := bInt_size p.thick
  have a4b := bInt_size p.kind
  have a6 := bPts_size p.outer
  have a7 := bList_size p.holes.length
  have a8 := bText_size p.sect
  refine ⟨p.id, rfl, by omega, p.rev, rfl, hin.rev, by omega, p.kind, rfl, hin.kind, by simp only [ba_size]; omega, p.node, rfl, by omega, by simp only [ba_size]; omega, p.grade, rfl, by omega, by simp only [ba_size]; omega, p.thick, rfl, hin.thick, by simp only [ba_size]; omega, p.outer, rfl, by omega, hin.outer, by simp only [ba_size]; omega, p.holes.length, rfl, by omega, by simp only [ba_size]; omega, ?_⟩
  have front : bText p.id ++ bInt p.rev ++ bInt p.kind ++ bText p.node ++ bText p.grade ++ bInt p.thick ++ bPts p.outer ++ bList p.holes.length = bHoles p 0 := by
    show _ = bText p.id ++ (⟨#[]⟩ ++ bInt p.rev ++ bInt p.kind) ++ bText p.node ++ bText p.grade ++ (⟨#[]⟩ ++ bInt p.thick) ++ bPts p.outer ++ bList p.holes.length
    simp only [ba_nil, ba_assoc]
  rw [front]
  refine down (n := p.holes.length) (p := fun i => OkP 26 [partV p] 3 Post (stV [(1, some (.pointer (some ⟨0, 0, none⟩))), (3, some (.string (bHoles p i))), (4, some (.int .i64 i))] [(0, some (.cells (partC p) true))] 1)) ?_ (fun i hi ih => ?_)
  · refine ok_P (vc := tabCall tabR noCall) tabR_ok mixed _ (l_REncode _ _ _ _ _) ?_
    simp only [true_and, and_true, pIf_iff, decide_eq_true_eq, decide_eq_false_iff_not]
    have b := bHoles_size hf0 p.holes.length
    have b1 := bInt_size p.long
    have b2 := bInt_size p.mass
    have b3 := bInt_size p.centre.x
    have b4 := bInt_size p.centre.y
    have b5 := bInt_size p.centre.z
    have b6 := bInt_size p.at_.x
    have b7 := bInt_size p.at_.y
    have b8 := bInt_size p.at_.z
    have b9 := bInt_size p.turn
    refine ⟨fun h' => by omega, fun _ => ⟨p.sect, rfl, by omega, by omega, p.long, rfl, hin.long, by simp only [ba_size]; omega, p.mass, rfl, hin.mass, by simp only [ba_size]; omega, p.centre, rfl, hin.centre, by simp only [ba_size]; omega, p.at_, rfl, hin.at_, by simp only [ba_size]; omega, p.turn, rfl, hin.turn, by simp only [ba_size]; omega, ?_⟩⟩
    have e : bHoles p p.holes.length ++ bText p.sect ++ bInt p.long ++ bInt p.mass ++ (bInt p.centre.x ++ bInt p.centre.y ++ bInt p.centre.z) ++ (bInt p.at_.x ++ bInt p.at_.y ++ bInt p.at_.z) ++ bInt p.turn = bPart p := by
      show _ = bHoles p p.holes.length ++ bText p.sect ++ (⟨#[]⟩ ++ bInt p.long ++ bInt p.mass ++ bInt p.centre.x ++ bInt p.centre.y ++ bInt p.centre.z ++ bInt p.at_.x ++ bInt p.at_.y ++ bInt p.at_.z ++ bInt p.turn)
      simp only [ba_nil, ba_assoc]
    rwa [e]
  · refine ok_P (vc := tabCall tabR noCall) tabR_ok mixed _ (l_REncode _ _ _ _ _) ?_
    simp only [true_and, and_true, pIf_iff, decide_eq_true_eq, decide_eq_false_iff_not, Int.toNat_natCast, cell_pts hi, toN_tree, toE_tree]
    have b := bHoles_size hf0 i
    have c := bPts_size p.holes[i]
    have d := h7 _ (List.getElem_mem hi)
    refine ⟨fun _ => ⟨by omega, p.holes[i], rfl, by omega, hin.holes _ (List.getElem_mem hi), by omega, ?_⟩, fun h' => by omega⟩
    rw [wrapSucc (by omega)]
    unfold bHoles at ih
    rw [fold_take _ _ hi] at ih
    exact ih
end Go.Proofs.YtngginofamlkkaaGreatDoor
