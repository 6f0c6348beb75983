/-
  part.Encode and the document's Encode return the same bytes. Conditions: a part within the document's limits. cbor.Reader.peek: what must be shown. Conditions: none. Reading, in plain words: heads, integers, texts and list headers out of bytes, and back. Conditions: as each theorem states them.
-/
import Derived.Test.YtngginofamlkkaaGreatDoorQOa
import Derived.Test.YtngginofamlkkaaGreatDoorLe
import Derived.Test.YtngginofamlkkaaGreatDoorSl
noncomputable section
namespace Go.Proofs.YtngginofamlkkaaGreatDoor
open Go Go.RowKit
set_option maxRecDepth 100000
def tabE : List Ent := [⟨76, c_cText⟩, ⟨79, c_cList⟩, ⟨78, c_pts⟩]
def tabEF : List Ent := [⟨77, c_ints⟩]
def callE : VCall := tabCallF Tryz.prog tabEF (tabCall tabE noCall)
theorem e_Encode (p : Part) (H : Code → List Fr → AS → Prop) (Post : Value → Prop) : vcP Tryz.prog callE 25 [(3, [1, 3, 42, 43, 44])] [partV p] H Post = (True ∧ True ∧ True ∧ True ∧ True ∧ True ∧ True ∧ True ∧ True ∧ True ∧ True ∧ True ∧ True ∧ True ∧ True ∧ True ∧ True ∧ True ∧ True ∧ True ∧ True ∧ True ∧ True ∧ ∃ (s : ByteArray), eqL [Value.string (Part.id p)] [Value.string s] ∧ ByteArray.size s ≤ 1000000 ∧ True ∧ ((2 ≤ 2 ∧ NLs [Value.int IntKind.i64 (Part.rev p), Value.int IntKind.i64 (Part.kind p)]) ∧ True) ∧ ∃ (l : List Int), eqL [tree 1 2 #[Value.int IntKind.i64 (Part.rev p), Value.int IntKind.i64 (Part.kind p)]] [tree 1 (List.length l) (encI l)] ∧ List.length l ≤ 1000 ∧ (∀ (n : Int), n ∈ l → -9223372036854775808 ≤ n ∧ n < 9223372036854775808) ∧ True ∧ ByteArray.size (bText s) + ByteArray.size (bInts l) ≤ 9223372036854775807 ∧ ∃ (s_1 : ByteArray), eqL [Value.string (Part.node p)] [Value.string s_1] ∧ ByteArray.size s_1 ≤ 1000000 ∧ True ∧ ByteArray.size (bText s ++ bInts l) + ByteArray.size (bText s_1) ≤ 9223372036854775807 ∧ ∃ (s_2 : ByteArray), eqL [Value.string (Part.grade p)] [Value.string s_2] ∧ ByteArray.size s_2 ≤ 1000000 ∧ True ∧ ByteArray.size (bText s ++ bInts l ++ bText s_1) + ByteArray.size (bText s_2) ≤ 9223372036854775807 ∧ ((1 ≤ 1 ∧ NLs [Value.int IntKind.i64 (Part.thick p)]) ∧ True) ∧ ∃ (l_1 : List Int), eqL [tree 1 1 #[Value.int IntKind.i64 (Part.thick p)]] [tree 1 (List.length l_1) (encI l_1)] ∧ List.length l_1 ≤ 1000 ∧ (∀ (n : Int), n ∈ l_1 → -9223372036854775808 ≤ n ∧ n < 9223372036854775808) ∧ True ∧ ByteArray.size (bText s ++ bInts l ++ bText s_1 ++ bText s_2) + ByteArray.size (bInts l_1) ≤ 9223372036854775807 ∧ ∃ (l_2 : List Pt), eqL [trPt (Part.outer p)] [trPt l_2] ∧ List.length l_2 ≤ 1000 ∧ (∀ (p : Pt), p ∈ l_2 → (-9223372036854775808 ≤ Pt.x p ∧ Pt.x p < 9223372036854775808) ∧ -9223372036854775808 ≤ Pt.y p ∧ Pt.y p < 9223372036854775808) ∧ True ∧ ByteArray.size (bText s ++ bInts l ++ bText s_1 ++ bText s_2 ++ bInts l_1) + ByteArray.size (bPts l_2) ≤ 9223372036854775807 ∧ ∃ (n : Nat), eqL [Value.int IntKind.i64 (↑(List.length (Part.holes p)) : Int)] [Value.int IntKind.i64 (↑n : Int)] ∧ n < 9223372036854775808 ∧ True ∧ ByteArray.size (bText s ++ bInts l ++ bText s_1 ++ bText s_2 ++ bInts l_1 ++ bPts l_2) + ByteArray.size (bList n) ≤ 9223372036854775807 ∧ True ∧ True ∧ True ∧ True ∧ True ∧ True ∧ True ∧ (True ∧ True) ∧ H (lpC Tryz.prog 25 3) (lpK Tryz.prog 25 3) (stV [(1, some (Value.pointer (some (Addr.mk 0 0 none)))), (3, some (Value.string (bText s ++ bInts l ++ bText s_1 ++ bText s_2 ++ bInts l_1 ++ bPts l_2 ++ bList n))), (42, some (tree 1 (List.length (Part.holes p)) (encL (Part.holes p)))), (43, some (Value.int IntKind.i64 (↑(List.length (Part.holes p)) : Int))), (44, some (Value.int IntKind.i64 0))] [(0, some (AObj.cells [Value.string (Part.id p), Value.int IntKind.i64 (Part.rev p), Value.int IntKind.i64 (Part.kind p), Value.string (Part.node p), Value.string (Part.grade p), Value.int IntKind.i64 (Part.thick p), tree 2 (List.length (Part.outer p)) (encL (Part.outer p)), tree 1 (List.length (Part.holes p)) (encL (Part.holes p)), Value.string (Part.sect p), Value.int IntKind.i64 (Part.long p), Value.int IntKind.i64 (Part.mass p), Value.int IntKind.i64 (Vec3.x (Part.centre p)), Value.int IntKind.i64 (Vec3.y (Part.centre p)), Value.int IntKind.i64 (Vec3.z (Part.centre p)), Value.int IntKind.i64 (Vec3.x (Part.at_ p)), Value.int IntKind.i64 (Vec3.y (Part.at_ p)), Value.int IntKind.i64 (Vec3.z (Part.at_ p)), Value.int IntKind.i64 (Part.turn p)] true))] 1)) := by kernel_rfl
theorem l_Encode (p : Part) (s : ByteArray) (i : Int) (H : Code → List Fr → AS → Prop) (Post : Value → Prop) : vcLP Tryz.prog callE 25 [partV p] [(3, [1, 3, 42, 43, 44])] 3 (stV [(1, some (.pointer (some ⟨0, 0, none⟩))), (3, some (.string s)), (42, some (trPts p.holes)), (43, some (.int .i64 p.holes.length)), (44, some (.int .i64 i))] [(0, some (.cells (partC p) true))] 1) H Post = (True ∧ pIf (decide (i < (↑(List.length (Part.holes p)) : Int))) ((0 ≤ i ∧ i < (↑(List.length (Part.holes p)) : Int)) ∧ cellAt (encL (Part.holes p)) (Int.toNat i) 0 = tree 2 (toN (cellAt (encL (Part.holes p)) (Int.toNat i) 0)) (toE (cellAt (encL (Part.holes p)) (Int.toNat i) 0)) ∧ True ∧ True ∧ True ∧ ∃ (l : List Pt), eqL [tree 2 (toN (cellAt (encL (Part.holes p)) (Int.toNat i) 0)) (toE (cellAt (encL (Part.holes p)) (Int.toNat i) 0))] [trPt l] ∧ List.length l ≤ 1000 ∧ (∀ (p : Pt), p ∈ l → (-9223372036854775808 ≤ Pt.x p ∧ Pt.x p < 9223372036854775808) ∧ -9223372036854775808 ≤ Pt.y p ∧ Pt.y p < 9223372036854775808) ∧ ByteArray.size s + ByteArray.size (bPts l) ≤ 9223372036854775807 ∧ True ∧ True ∧ True ∧ True ∧ (True ∧ True) ∧ H (lpC Tryz.prog 25 3) (lpK Tryz.prog 25 3) (stV [(1, some (Value.pointer (some (Addr.mk 0 0 none)))), (3, some (Value.string (s ++ bPts l))), (42, some (tree 1 (List.length (Part.holes p)) (encL (Part.holes p)))), (43, some (Value.int IntKind.i64 (↑(List.length (Part.holes p)) : Int))), (44, some (Value.int IntKind.i64 (IntKind.wrap IntKind.i64 (i + 1))))] [(0, some (AObj.cells [Value.string (Part.id p), Value.int IntKind.i64 (Part.rev p), Value.int IntKind.i64 (Part.kind p), Value.string (Part.node p), Value.string (Part.grade p), Value.int IntKind.i64 (Part.thick p), tree 2 (List.length (Part.outer p)) (encL (Part.outer p)), tree 1 (List.length (Part.holes p)) (encL (Part.holes p)), Value.string (Part.sect p), Value.int IntKind.i64 (Part.long p), Value.int IntKind.i64 (Part.mass p), Value.int IntKind.i64 (Vec3.x (Part.centre p)), Value.int IntKind.i64 (Vec3.y (Part.centre p)), Value.int IntKind.i64 (Vec3.z (Part.centre p)), Value.int IntKind.i64 (Vec3.x (Part.at_ p)), Value.int IntKind.i64 (Vec3.y (Part.at_ p)), Value.int IntKind.i64 (Vec3.z (Part.at_ p)), Value.int IntKind.i64 (Part.turn p)] true))] 1)) (True ∧ True ∧ True ∧ ∃ (s_1 : ByteArray), eqL [Value.string (Part.sect p)] [Value.string s_1] ∧ ByteArray.size s_1 ≤ 1000000 ∧ ByteArray.size s + ByteArray.size (bText s_1) ≤ 9223372036854775807 ∧ True ∧ True ∧ True ∧ True ∧ True ∧ True ∧ True ∧ True ∧ True ∧ True ∧ True ∧ True ∧ True ∧ True ∧ True ∧ True ∧ True ∧ True ∧ True ∧ True ∧ True ∧ True ∧ True ∧ True ∧ True ∧ True ∧ True ∧ True ∧ True ∧ True ∧ True ∧ ((9 ≤ 9 ∧ NLs [Value.int IntKind.i64 (Part.long p), Value.int IntKind.i64 (Part.mass p), Value.int IntKind.i64 (Vec3.x (Part.centre p)), Value.int IntKind.i64 (Vec3.y (Part.centre p)), Value.int IntKind.i64 (Vec3.z (Part.centre p)), Value.int IntKind.i64 (Vec3.x (Part.at_ p)), Value.int IntKind.i64 (Vec3.y (Part.at_ p)), Value.int IntKind.i64 (Vec3.z (Part.at_ p)), Value.int IntKind.i64 (Part.turn p)]) ∧ True) ∧ ∃ (l : List Int), eqL [tree 1 9 #[Value.int IntKind.i64 (Part.long p), Value.int IntKind.i64 (Part.mass p), Value.int IntKind.i64 (Vec3.x (Part.centre p)), Value.int IntKind.i64 (Vec3.y (Part.centre p)), Value.int IntKind.i64 (Vec3.z (Part.centre p)), Value.int IntKind.i64 (Vec3.x (Part.at_ p)), Value.int IntKind.i64 (Vec3.y (Part.at_ p)), Value.int IntKind.i64 (Vec3.z (Part.at_ p)), Value.int IntKind.i64 (Part.turn p)]] [tree 1 (List.length l) (encI l)] ∧ List.length l ≤ 1000 ∧ (∀ (n : Int), n ∈ l → -9223372036854775808 ≤ n ∧ n < 9223372036854775808) ∧ ByteArray.size (s ++ bText s_1) + ByteArray.size (bInts l) ≤ 9223372036854775807 ∧ True ∧ True ∧ Post (Value.string (s ++ bText s_1 ++ bInts l)))) := by kernel_rfl
def tabR : List Ent := [⟨80, c_cText⟩, ⟨83, c_cList⟩, ⟨81, c_cInt⟩, ⟨82, c_pts⟩, ⟨84, c_vector⟩]
theorem e_REncode (p : Part) (H : Code → List Fr → AS → Prop) (Post : Value → Prop) : vcP Tryz.prog (tabCall tabR noCall) 26 [(3, [1, 3, 4])] [partV p] H Post = (True ∧ True ∧ True ∧ True ∧ True ∧ True ∧ True ∧ True ∧ True ∧ True ∧ True ∧ True ∧ True ∧ True ∧ True ∧ True ∧ True ∧ True ∧ True ∧ True ∧ True ∧ ∃ (s : ByteArray), eqL [Value.string (Part.id p)] [Value.string s] ∧ ByteArray.size s ≤ 1000000 ∧ True ∧ ∃ (n : Int), eqL [Value.int IntKind.i64 (Part.rev p)] [Value.int IntKind.i64 n] ∧ (-9223372036854775808 ≤ n ∧ n < 9223372036854775808) ∧ True ∧ ByteArray.size (bText s) + ByteArray.size (bInt n) ≤ 9223372036854775807 ∧ ∃ (n_1 : Int), eqL [Value.int IntKind.i64 (Part.kind p)] [Value.int IntKind.i64 n_1] ∧ (-9223372036854775808 ≤ n_1 ∧ n_1 < 9223372036854775808) ∧ True ∧ ByteArray.size (bText s ++ bInt n) + ByteArray.size (bInt n_1) ≤ 9223372036854775807 ∧ ∃ (s_1 : ByteArray), eqL [Value.string (Part.node p)] [Value.string s_1] ∧ ByteArray.size s_1 ≤ 1000000 ∧ True ∧ ByteArray.size (bText s ++ bInt n ++ bInt n_1) + ByteArray.size (bText s_1) ≤ 9223372036854775807 ∧ ∃ (s_2 : ByteArray), eqL [Value.string (Part.grade p)] [Value.string s_2] ∧ ByteArray.size s_2 ≤ 1000000 ∧ True ∧ ByteArray.size (bText s ++ bInt n ++ bInt n_1 ++ bText s_1) + ByteArray.size (bText s_2) ≤ 9223372036854775807 ∧ ∃ (n_2 : Int), eqL [Value.int IntKind.i64 (Part.thick p)] [Value.int IntKind.i64 n_2] ∧ (-9223372036854775808 ≤ n_2 ∧ n_2 < 9223372036854775808) ∧ True ∧ ByteArray.size (bText s ++ bInt n ++ bInt n_1 ++ bText s_1 ++ bText s_2) + ByteArray.size (bInt n_2) ≤ 9223372036854775807 ∧ ∃ (l : List Pt), eqL [trPt (Part.outer p)] [trPt l] ∧ List.length l ≤ 1000 ∧ (∀ (p : Pt), p ∈ l → (-9223372036854775808 ≤ Pt.x p ∧ Pt.x p < 9223372036854775808) ∧ -9223372036854775808 ≤ Pt.y p ∧ Pt.y p < 9223372036854775808) ∧ True ∧ ByteArray.size (bText s ++ bInt n ++ bInt n_1 ++ bText s_1 ++ bText s_2 ++ bInt n_2) + ByteArray.size (bPts l) ≤ 9223372036854775807 ∧ ∃ (n_3 : Nat), eqL [Value.int IntKind.i64 (↑(List.length (Part.holes p)) : Int)] [Value.int IntKind.i64 (↑n_3 : Int)] ∧ n_3 < 9223372036854775808 ∧ True ∧ ByteArray.size (bText s ++ bInt n ++ bInt n_1 ++ bText s_1 ++ bText s_2 ++ bInt n_2 ++ bPts l) + ByteArray.size (bList n_3) ≤ 9223372036854775807 ∧ True ∧ True ∧ True ∧ (True ∧ True) ∧ H (lpC Tryz.prog 26 3) (lpK Tryz.prog 26 3) (stV [(1, some (Value.pointer (some (Addr.mk 0 0 none)))), (3, some (Value.string (bText s ++ bInt n ++ bInt n_1 ++ bText s_1 ++ bText s_2 ++ bInt n_2 ++ bPts l ++ bList n_3))), (4, some (Value.int IntKind.i64 0))] [(0, some (AObj.cells [Value.string (Part.id p), Value.int IntKind.i64 (Part.rev p), Value.int IntKind.i64 (Part.kind p), Value.string (Part.node p), Value.string (Part.grade p), Value.int IntKind.i64 (Part.thick p), tree 2 (List.length (Part.outer p)) (encL (Part.outer p)), tree 1 (List.length (Part.holes p)) (encL (Part.holes p)), Value.string (Part.sect p), Value.int IntKind.i64 (Part.long p), Value.int IntKind.i64 (Part.mass p), Value.int IntKind.i64 (Vec3.x (Part.centre p)), Value.int IntKind.i64 (Vec3.y (Part.centre p)), Value.int IntKind.i64 (Vec3.z (Part.centre p)), Value.int IntKind.i64 (Vec3.x (Part.at_ p)), Value.int IntKind.i64 (Vec3.y (Part.at_ p)), Value.int IntKind.i64 (Vec3.z (Part.at_ p)), Value.int IntKind.i64 (Part.turn p)] true))] 1)) := by kernel_rfl
theorem l_REncode (p : Part) (s : ByteArray) (i : Int) (H : Code → List Fr → AS → Prop) (Post : Value → Prop) : vcLP Tryz.prog (tabCall tabR noCall) 26 [partV p] [(3, [1, 3, 4])] 3 (stV [(1, some (.pointer (some ⟨0, 0, none⟩))), (3, some (.string s)), (4, some (.int .i64 i))] [(0, some (.cells (partC p) true))] 1) H Post = (True ∧ True ∧ True ∧ True ∧ True ∧ True ∧ pIf (decide (i < (↑(List.length (Part.holes p)) : Int))) (True ∧ True ∧ True ∧ True ∧ True ∧ (0 ≤ i ∧ i < (↑(List.length (Part.holes p)) : Int)) ∧ cellAt (encL (Part.holes p)) (Int.toNat i) 0 = tree 2 (toN (cellAt (encL (Part.holes p)) (Int.toNat i) 0)) (toE (cellAt (encL (Part.holes p)) (Int.toNat i) 0)) ∧ ∃ (l : List Pt), eqL [tree 2 (toN (cellAt (encL (Part.holes p)) (Int.toNat i) 0)) (toE (cellAt (encL (Part.holes p)) (Int.toNat i) 0))] [trPt l] ∧ List.length l ≤ 1000 ∧ (∀ (p : Pt), p ∈ l → (-9223372036854775808 ≤ Pt.x p ∧ Pt.x p < 9223372036854775808) ∧ -9223372036854775808 ≤ Pt.y p ∧ Pt.y p < 9223372036854775808) ∧ ByteArray.size s + ByteArray.size (bPts l) ≤ 9223372036854775807 ∧ True ∧ True ∧ True ∧ True ∧ True ∧ (True ∧ True) ∧ H (lpC Tryz.prog 26 3) (lpK Tryz.prog 26 3) (stV [(1, some (Value.pointer (some (Addr.mk 0 0 none)))), (3, some (Value.string (s ++ bPts l))), (4, some (Value.int IntKind.i64 (IntKind.wrap IntKind.i64 (i + 1))))] [(0, some (AObj.cells [Value.string (Part.id p), Value.int IntKind.i64 (Part.rev p), Value.int IntKind.i64 (Part.kind p), Value.string (Part.node p), Value.string (Part.grade p), Value.int IntKind.i64 (Part.thick p), tree 2 (List.length (Part.outer p)) (encL (Part.outer p)), tree 1 (List.length (Part.holes p)) (encL (Part.holes p)), Value.string (Part.sect p), Value.int IntKind.i64 (Part.long p), Value.int IntKind.i64 (Part.mass p), Value.int IntKind.i64 (Vec3.x (Part.centre p)), Value.int IntKind.i64 (Vec3.y (Part.centre p)), Value.int IntKind.i64 (Vec3.z (Part.centre p)), Value.int IntKind.i64 (Vec3.x (Part.at_ p)), Value.int IntKind.i64 (Vec3.y (Part.at_ p)), Value.int IntKind.i64 (Vec3.z (Part.at_ p)), Value.int IntKind.i64 (Part.turn p)] true))] 1)) (True ∧ True ∧ True ∧ True ∧ True ∧ True ∧ True ∧ True ∧ True ∧ True ∧ True ∧ True ∧ True ∧ True ∧ True ∧ ∃ (s_1 : ByteArray), eqL [Value.string (Part.sect p)] [Value.string s_1] ∧ ByteArray.size s_1 ≤ 1000000 ∧ True ∧ ByteArray.size s + ByteArray.size (bText s_1) ≤ 9223372036854775807 ∧ ∃ (n : Int), eqL [Value.int IntKind.i64 (Part.long p)] [Value.int IntKind.i64 n] ∧ (-9223372036854775808 ≤ n ∧ n < 9223372036854775808) ∧ True ∧ ByteArray.size (s ++ bText s_1) + ByteArray.size (bInt n) ≤ 9223372036854775807 ∧ ∃ (n_1 : Int), eqL [Value.int IntKind.i64 (Part.mass p)] [Value.int IntKind.i64 n_1] ∧ (-9223372036854775808 ≤ n_1 ∧ n_1 < 9223372036854775808) ∧ True ∧ ByteArray.size (s ++ bText s_1 ++ bInt n) + ByteArray.size (bInt n_1) ≤ 9223372036854775807 ∧ ∃ (v : Vec3), eqL [Value.agg #[Value.int IntKind.i64 (Vec3.x (Part.centre p)), Value.int IntKind.i64 (Vec3.y (Part.centre p)), Value.int IntKind.i64 (Vec3.z (Part.centre p))]] [Value.agg #[Value.int IntKind.i64 (Vec3.x v), Value.int IntKind.i64 (Vec3.y v), Value.int IntKind.i64 (Vec3.z v)]] ∧ ((-9223372036854775808 ≤ Vec3.x v ∧ Vec3.x v < 9223372036854775808) ∧ (-9223372036854775808 ≤ Vec3.y v ∧ Vec3.y v < 9223372036854775808) ∧ -9223372036854775808 ≤ Vec3.z v ∧ Vec3.z v < 9223372036854775808) ∧ True ∧ ByteArray.size (s ++ bText s_1 ++ bInt n ++ bInt n_1) + ByteArray.size (bInt (Vec3.x v) ++ bInt (Vec3.y v) ++ bInt (Vec3.z v)) ≤ 9223372036854775807 ∧ ∃ (v_1 : Vec3), eqL [Value.agg #[Value.int IntKind.i64 (Vec3.x (Part.at_ p)), Value.int IntKind.i64 (Vec3.y (Part.at_ p)), Value.int IntKind.i64 (Vec3.z (Part.at_ p))]] [Value.agg #[Value.int IntKind.i64 (Vec3.x v_1), Value.int IntKind.i64 (Vec3.y v_1), Value.int IntKind.i64 (Vec3.z v_1)]] ∧ ((-9223372036854775808 ≤ Vec3.x v_1 ∧ Vec3.x v_1 < 9223372036854775808) ∧ (-9223372036854775808 ≤ Vec3.y v_1 ∧ Vec3.y v_1 < 9223372036854775808) ∧ -9223372036854775808 ≤ Vec3.z v_1 ∧ Vec3.z v_1 < 9223372036854775808) ∧ True ∧ ByteArray.size (s ++ bText s_1 ++ bInt n ++ bInt n_1 ++ (bInt (Vec3.x v) ++ bInt (Vec3.y v) ++ bInt (Vec3.z v))) + ByteArray.size (bInt (Vec3.x v_1) ++ bInt (Vec3.y v_1) ++ bInt (Vec3.z v_1)) ≤ 9223372036854775807 ∧ ∃ (n_2 : Int), eqL [Value.int IntKind.i64 (Part.turn p)] [Value.int IntKind.i64 n_2] ∧ (-9223372036854775808 ≤ n_2 ∧ n_2 < 9223372036854775808) ∧ True ∧ ByteArray.size (s ++ bText s_1 ++ bInt n ++ bInt n_1 ++ (bInt (Vec3.x v) ++ bInt (Vec3.y v) ++ bInt (Vec3.z v)) ++ (bInt (Vec3.x v_1) ++ bInt (Vec3.y v_1) ++ bInt (Vec3.z v_1))) + ByteArray.size (bInt n_2) ≤ 9223372036854775807 ∧ True ∧ True ∧ Post (Value.string (s ++ bText s_1 ++ bInt n ++ bInt n_1 ++ (bInt (Vec3.x v) ++ bInt (Vec3.y v) ++ bInt (Vec3.z v)) ++ (bInt (Vec3.x v_1) ++ bInt (Vec3.y v_1) ++ bInt (Vec3.z v_1)) ++ bInt n_2)))) := by kernel_rfl
/-- The bytes of a part. -/
def bFront (p : Part) : ByteArray := bText p.id ++ bInts [p.rev, p.kind] ++ bText p.node ++ bText p.grade ++ bInts [p.thick] ++ bPts p.outer ++ bList p.holes.length
def bHoles (p : Part) (i : Nat) : ByteArray := (p.holes.take i).foldl (fun s h => s ++ bPts h) (bFront p)
def bRear (p : Part) : List Int := [p.long, p.mass, p.centre.x, p.centre.y, p.centre.z, p.at_.x, p.at_.y, p.at_.z, p.turn]
def bPart (p : Part) : ByteArray := bHoles p p.holes.length ++ bText p.sect ++ bInts (bRear p)
def InAll (l : List Int) : Prop := ∀ n ∈ l, In64 n
theorem bInts_size (l : List Int) : (bInts l).size ≤ 9 * l.length := by
  have h := fold_size (fun s (n : Int) => s ++ bInt n) 9 (fun s n => by
    rw [ba_size]
    have := bInt_size n
    omega) l ⟨#[]⟩
  have h0 : (⟨#[]⟩ : ByteArray).size = 0 := rfl
  unfold bInts
  omega
theorem bFront_size {p : Part} (h : few16 p) : (bFront p).size ≤ 2000 := by
  obtain ⟨h1, h2, h3, h4, h5, h6, h7⟩ := h
  unfold bFront
  simp only [ba_size]
  have a1 := bText_size p.id
  have a2 := bText_size p.node
  have a3 := bText_size p.grade
  have a4 : (bInts [p.rev, p.kind]).size ≤ 18 := bInts_size _
  have a5 : (bInts [p.thick]).size ≤ 9 := bInts_size _
  have a6 := bPts_size p.outer
  have a7 := bList_size p.holes.length
  omega
theorem fold_size' {α : Type} (f : ByteArray → α → ByteArray) (c : Nat) : ∀ (l : List α) (s : ByteArray), (∀ s, ∀ a ∈ l, (f s a).size ≤ s.size + c) → (l.foldl f s).size ≤ s.size + c * l.length
  | [], s, _ => by simp
  | a :: l, s, hf => by
    have h1 := fold_size' f c l (f s a) (fun s b hb => hf s b (by simp [hb]))
    have h2 := hf s a (by simp)
    simp only [List.foldl_cons, List.length_cons, Nat.mul_add, Nat.mul_one]
    omega
theorem bHoles_size {p : Part} (h : few16 p) (i : Nat) : (bHoles p i).size ≤ 12000 := by
  have h0 := bFront_size h
  have h6 := h.2.2.2.2.2.1
  have h7 := h.2.2.2.2.2.2
  have h1 := fold_size' (fun s (h : List Pt) => s ++ bPts h) 729 (p.holes.take i) (bFront p) (fun s a ha => by
    rw [ba_size]
    have := bPts_size a
    have := h7 a (List.mem_of_mem_take ha)
    omega)
  have h2 := List.length_take_le' i p.holes
  unfold bHoles
  omega
theorem nls_ints (l : List Int) : NLs (l.map (Value.int .i64)) := by
  intro v hv
  obtain ⟨x, _, rfl⟩ := List.mem_map.1 hv
  rfl
theorem tabE_ok : VCallOk Tryz.prog callE := tabCallF_ok (by
  intro e he
  simp only [tabEF, List.mem_cons, List.not_mem_nil, or_false] at he
  rcases he with rfl
  exact ok_ints) (tabCall_ok (by
  intro e he
  simp only [tabE, List.mem_cons, List.not_mem_nil, or_false] at he
  rcases he with rfl | rfl | rfl
  · exact ok_cText
  · exact ok_cList
  · exact ok_corners) noCall_ok)
theorem tabR_ok : VCallOk Tryz.prog (tabCall tabR noCall) := tabCall_ok (by
  intro e he
  simp only [tabR, List.mem_cons, List.not_mem_nil, or_false] at he
  rcases he with rfl | rfl | rfl | rfl | rfl
  · exact ok_rText
  · exact ok_rList
  · exact ok_rInt
  · exact ok_contour
  · exact ok_vector) noCall_ok
def c_Encode (args : List Value) (Post : Value → Prop) : Prop := ∃ p : Part, args = [partV p] ∧ InPart p ∧ few16 p ∧ Post (.string (bPart p))
theorem ok_Encode : EntOk Tryz.prog ⟨25, c_Encode⟩ := by
  rintro args Post ⟨p, rfl, hin, hf, h⟩
  refine pure_P (vc := callE) tabE_ok mixed (by kernel_rfl) (by kernel_rfl) _ (e_Encode p _ _) ?_
  simp only [true_and, and_true]
  have hf0 := hf
  obtain ⟨h1, h2, h3, h4, h5, h6, h7⟩ := hf
  have a1 := bText_size p.id
  have a2 := bText_size p.node
  have a3 := bText_size p.grade
  have a4 : (bInts [p.rev, p.kind]).size ≤ 18 := bInts_size _
  have a5 : (bInts [p.thick]).size ≤ 9 := bInts_size _
  have a6 := bPts_size p.outer
  have a7 := bList_size p.holes.length
  have a8 := bText_size p.sect
  refine ⟨p.id, rfl, by omega, ⟨by omega, nls_ints [p.rev, p.kind]⟩, [p.rev, p.kind], rfl, by simp, ?_, by omega, p.node, rfl, by omega, by simp only [ba_size]; omega, p.grade, rfl, by omega, by simp only [ba_size]; omega, ⟨by omega, nls_ints [p.thick]⟩, [p.thick], rfl, by simp, ?_, by simp only [ba_size]; omega, p.outer, rfl, by omega, hin.outer, by simp only [ba_size]; omega, p.holes.length, rfl, by omega, by simp only [ba_size]; omega, ?_⟩
  · intro n hn
    simp at hn
    rcases hn with rfl | rfl
    · exact hin.rev
    · exact hin.kind
  · intro n hn
    simp at hn
    subst hn
    exact hin.thick
  refine down (n := p.holes.length) (p := fun i => OkP 25 [partV p] 3 Post (stV [(1, some (.pointer (some ⟨0, 0, none⟩))), (3, some (.string (bHoles p i))), (42, some (trPts p.holes)), (43, some (.int .i64 p.holes.length)), (44, some (.int .i64 i))] [(0, some (.cells (partC p) true))] 1)) ?_ (fun i hi ih => ?_)
  · refine ok_P (vc := callE) tabE_ok mixed _ (l_Encode _ _ _ _ _) ?_
    simp only [true_and, and_true, pIf_iff, decide_eq_true_eq, decide_eq_false_iff_not]
    have b := bHoles_size hf0 p.holes.length
    refine ⟨fun h' => by omega, fun _ => ⟨p.sect, rfl, by omega, by omega, ⟨by omega, nls_ints (bRear p)⟩, bRear p, rfl, by simp [bRear], ?_, ?_, h⟩⟩
    · intro n hn
      simp [bRear] at hn
      rcases hn with rfl | rfl | rfl | rfl | rfl | rfl | rfl | rfl | rfl
      · exact hin.long
      · exact hin.mass
      · exact hin.centre.1
      · exact hin.centre.2.1
      · exact hin.centre.2.2
      · exact hin.at_.1
      · exact hin.at_.2.1
      · exact hin.at_.2.2
      · exact hin.turn
    · simp only [ba_size]
      have : (bInts (bRear p)).size ≤ 81 := bInts_size _
      omega
  · refine ok_P (vc := callE) tabE_ok mixed _ (l_Encode _ _ _ _ _) ?_
    simp only [true_and, and_true, pIf_iff, decide_eq_true_eq, decide_eq_false_iff_not, Int.toNat_natCast, cell_pts hi, toN_tree, toE_tree]
    have b := bHoles_size hf0 i
    have c := bPts_size p.holes[i]
    have d := h7 _ (List.getElem_mem hi)
    refine ⟨fun _ => ⟨by omega, p.holes[i], rfl, by omega, hin.holes _ (List.getElem_mem hi), by omega, ?_⟩, fun h' => by omega⟩
    rw [wrapSucc (by omega)]
    unfold bHoles at ih
    rw [fold_take _ _ hi] at ih
    exact ih
theorem ok_REncode : EntOk Tryz.prog ⟨26, c_Encode⟩ := by
  rintro args Post ⟨p, rfl, hin, hf, h⟩
  refine pure_P (vc := tabCall tabR noCall) tabR_ok mixed (by kernel_rfl) (by kernel_rfl) _ (e_REncode p _ _) ?_
  simp only [true_and, and_true]
  have hf0 := hf
  obtain ⟨h1, h2, h3, h4, h5, h6, h7⟩ := hf
  have a1 := bText_size p.id
  have a2 := bText_size p.node
  have a3 := bText_size p.grade
  have a4 := bInt_size p.rev
  have a5 := bInt_size p.thick
  have a4b := bInt_size p.kind
  have a6 := bPts_size p.outer
  have a7 := bList_size p.holes.length
  have a8 := bText_size p.sect
  refine ⟨p.id, rfl, by omega, p.rev, rfl, hin.rev, by omega, p.kind, rfl, hin.kind, by simp only [ba_size]; omega, p.node, rfl, by omega, by simp only [ba_size]; omega, p.grade, rfl, by omega, by simp only [ba_size]; omega, p.thick, rfl, hin.thick, by simp only [ba_size]; omega, p.outer, rfl, by omega, hin.outer, by simp only [ba_size]; omega, p.holes.length, rfl, by omega, by simp only [ba_size]; omega, ?_⟩
  have front : bText p.id ++ bInt p.rev ++ bInt p.kind ++ bText p.node ++ bText p.grade ++ bInt p.thick ++ bPts p.outer ++ bList p.holes.length = bHoles p 0 := by
    show _ = bText p.id ++ (⟨#[]⟩ ++ bInt p.rev ++ bInt p.kind) ++ bText p.node ++ bText p.grade ++ (⟨#[]⟩ ++ bInt p.thick) ++ bPts p.outer ++ bList p.holes.length
    simp only [ba_nil, ba_assoc]
  rw [front]
  refine down (n := p.holes.length) (p := fun i => OkP 26 [partV p] 3 Post (stV [(1, some (.pointer (some ⟨0, 0, none⟩))), (3, some (.string (bHoles p i))), (4, some (.int .i64 i))] [(0, some (.cells (partC p) true))] 1)) ?_ (fun i hi ih => ?_)
  · refine ok_P (vc := tabCall tabR noCall) tabR_ok mixed _ (l_REncode _ _ _ _ _) ?_
    simp only [true_and, and_true, pIf_iff, decide_eq_true_eq, decide_eq_false_iff_not]
    have b := bHoles_size hf0 p.holes.length
    have b1 := bInt_size p.long
    have b2 := bInt_size p.mass
    have b3 := bInt_size p.centre.x
    have b4 := bInt_size p.centre.y
    have b5 := bInt_size p.centre.z
    have b6 := bInt_size p.at_.x
    have b7 := bInt_size p.at_.y
    have b8 := bInt_size p.at_.z
    have b9 := bInt_size p.turn
    refine ⟨fun h' => by omega, fun _ => ⟨p.sect, rfl, by omega, by omega, p.long, rfl, hin.long, by simp only [ba_size]; omega, p.mass, rfl, hin.mass, by simp only [ba_size]; omega, p.centre, rfl, hin.centre, by simp only [ba_size]; omega, p.at_, rfl, hin.at_, by simp only [ba_size]; omega, p.turn, rfl, hin.turn, by simp only [ba_size]; omega, ?_⟩⟩
    have e : bHoles p p.holes.length ++ bText p.sect ++ bInt p.long ++ bInt p.mass ++ (bInt p.centre.x ++ bInt p.centre.y ++ bInt p.centre.z) ++ (bInt p.at_.x ++ bInt p.at_.y ++ bInt p.at_.z) ++ bInt p.turn = bPart p := by
      show _ = bHoles p p.holes.length ++ bText p.sect ++ (⟨#[]⟩ ++ bInt p.long ++ bInt p.mass ++ bInt p.centre.x ++ bInt p.centre.y ++ bInt p.centre.z ++ bInt p.at_.x ++ bInt p.at_.y ++ bInt p.at_.z ++ bInt p.turn)
      simp only [ba_nil, ba_assoc]
    rwa [e]
  · refine ok_P (vc := tabCall tabR noCall) tabR_ok mixed _ (l_REncode _ _ _ _ _) ?_
    simp only [true_and, and_true, pIf_iff, decide_eq_true_eq, decide_eq_false_iff_not, Int.toNat_natCast, cell_pts hi, toN_tree, toE_tree]
    have b := bHoles_size hf0 i
    have c := bPts_size p.holes[i]
    have d := h7 _ (List.getElem_mem hi)
    refine ⟨fun _ => ⟨by omega, p.holes[i], rfl, by omega, hin.holes _ (List.getElem_mem hi), by omega, ?_⟩, fun h' => by omega⟩
    rw [wrapSucc (by omega)]
    unfold bHoles at ih
    rw [fold_take _ _ hi] at ih
    exact ih
end Go.Proofs.YtngginofamlkkaaGreatDoor
noncomputable section
namespace Go.Proofs.YtngginofamlkkaaGreatDoor
open Go Go.RowKit
set_option maxRecDepth 100000
def byte0 (s : ByteArray) : UInt8 := Array.getD s.data 0 0
def ofBE (l : List UInt8) : Nat := l.foldl (fun v b => 256 * v + b.toNat) 0
/-- What peek returns: kind, argument, length, error. -/
def pk (s : ByteArray) (one two : Nat) : Nat × Nat × Nat × Nat :=
  if s.size = 0 then (0, 0, 0, 3)
  else if ((byte0 s).toNat / 32 ≠ one ∧ (byte0 s).toNat / 32 ≠ two) ∨ (byte0 s).toNat % 32 > 27 then (0, 0, 0, 5)
  else if (byte0 s).toNat % 32 < 24 then ((byte0 s).toNat / 32, (byte0 s).toNat % 32, 1, 0)
  else if s.size < 1 + 2 ^ ((byte0 s).toNat % 32 - 24) then (0, 0, 0, 3)
  else if str (hd ((byte0 s).toNat / 32) (ofBE (s.extract 1 (1 + 2 ^ ((byte0 s).toNat % 32 - 24))).data.toList)) ≠ s.extract 0 (1 + 2 ^ ((byte0 s).toNat % 32 - 24)) then (0, 0, 0, 5)
  else ((byte0 s).toNat / 32, ofBE (s.extract 1 (1 + 2 ^ ((byte0 s).toNat % 32 - 24))).data.toList, 1 + 2 ^ ((byte0 s).toNat % 32 - 24), 0)
theorem kindOf (b : UInt8) : IntKind.i64.wrap (Int.fdiv ((b.toNat : Nat) : Int) (2 ^ 5)) = ((b.toNat / 32 : Nat) : Int) := by
  have := b.toNat_lt
  rw [fdivNat, wrap64 (by omega) (by omega)]
theorem and31 : ∀ n < 256, (BitVec.ofInt 8 ((n : Nat) : Int) &&& BitVec.ofInt 8 31).toNat = n % 32 := by decide +kernel
theorem lowOf (b : UInt8) : IntKind.i64.wrap (IntKind.u8.wrap (((BitVec.ofInt 8 ((b.toNat : Nat) : Int) &&& BitVec.ofInt 8 31).toNat : Nat) : Int)) = ((b.toNat % 32 : Nat) : Int) := by
  rw [and31 _ b.toNat_lt, wrapU8s (by omega), wrap64 (by omega) (by omega)]
theorem sizeOf' {m : Nat} (h1 : 24 ≤ m) (h2 : m ≤ 27) : IntKind.i64.wrap (1 + IntKind.i64.wrap (1 * 2 ^ min (IntKind.i64.wrap ((m : Int) - 24)).toNat 64)) = ((1 + 2 ^ (m - 24) : Nat) : Int) := by
  have : m = 24 ∨ m = 25 ∨ m = 26 ∨ m = 27 := by omega
  rcases this with rfl | rfl | rfl | rfl <;> decide
theorem e_peek (s : ByteArray) (e one two : Int) (H : Code → List Fr → AS → Prop) (Post : Value → List (List Value) → Prop) : vcI Tryz.prog callH 217 [(13, [0, 6, 7, 8, 1071, 72, 73])] [[.string s, .int .i64 e]] [.pointer (some ⟨0, 0, none⟩), .int .i64 one, .int .i64 two] H Post = (True ∧ True ∧ True ∧ True ∧ True ∧ True ∧ True ∧ True ∧ True ∧ True ∧ pIf (decide (s = ByteArray.mk #[])) (True ∧ True ∧ True ∧ True ∧ (True ∧ True ∧ True ∧ True ∧ True) ∧ true = true ∧ Post (Value.tuple #[Value.int IntKind.i64 0, Value.int IntKind.u64 0, Value.int IntKind.i64 0, Value.int IntKind.i64 3]) [[Value.string s, Value.int IntKind.i64 e]]) (True ∧ True ∧ True ∧ True ∧ True ∧ (toI (Value.int IntKind.i64 0) ≤ 0 ∧ 0 < (↑(ByteArray.size s) : Int)) ∧ toI (Value.int IntKind.i64 0) ≤ 5 ∧ True ∧ True ∧ True ∧ True ∧ True ∧ True ∧ True ∧ (toI (Value.int IntKind.i64 0) ≤ 0 ∧ 0 < (↑(ByteArray.size s) : Int)) ∧ True ∧ True ∧ True ∧ True ∧ True ∧ True ∧ pIf (!decide (IntKind.wrap IntKind.i64 (Int.fdiv (↑(UInt8.toNat (Array.getD (ByteArray.data s) 0 0)) : Int) (2 ^ 5)) = one)) (True ∧ True ∧ True ∧ True ∧ pIf (!decide (IntKind.wrap IntKind.i64 (Int.fdiv (↑(UInt8.toNat (Array.getD (ByteArray.data s) 0 0)) : Int) (2 ^ 5)) = two)) (True ∧ True ∧ True ∧ True ∧ True ∧ True ∧ True ∧ (True ∧ True ∧ True ∧ True ∧ True) ∧ true = true ∧ Post (Value.tuple #[Value.int IntKind.i64 0, Value.int IntKind.u64 0, Value.int IntKind.i64 0, Value.int IntKind.i64 5]) [[Value.string s, Value.int IntKind.i64 e]]) (True ∧ True ∧ True ∧ True ∧ pIf (decide (IntKind.wrap IntKind.i64 (IntKind.wrap IntKind.u8 (↑(BitVec.toNat (BitVec.ofInt 8 (↑(UInt8.toNat (Array.getD (ByteArray.data s) 0 0)) : Int) &&& BitVec.ofInt 8 31)) : Int)) > 27)) (True ∧ True ∧ True ∧ True ∧ True ∧ (True ∧ True ∧ True ∧ True ∧ True) ∧ true = true ∧ Post (Value.tuple #[Value.int IntKind.i64 0, Value.int IntKind.u64 0, Value.int IntKind.i64 0, Value.int IntKind.i64 5]) [[Value.string s, Value.int IntKind.i64 e]]) (True ∧ True ∧ True ∧ pIf (decide (IntKind.wrap IntKind.i64 (IntKind.wrap IntKind.u8 (↑(BitVec.toNat (BitVec.ofInt 8 (↑(UInt8.toNat (Array.getD (ByteArray.data s) 0 0)) : Int) &&& BitVec.ofInt 8 31)) : Int)) < 24)) (True ∧ True ∧ True ∧ True ∧ True ∧ True ∧ True ∧ (True ∧ True ∧ True ∧ True ∧ True) ∧ true = true ∧ Post (Value.tuple #[Value.int IntKind.i64 (IntKind.wrap IntKind.i64 (Int.fdiv (↑(UInt8.toNat (Array.getD (ByteArray.data s) 0 0)) : Int) (2 ^ 5))), Value.int IntKind.u64 (IntKind.wrap IntKind.u64 (IntKind.wrap IntKind.i64 (IntKind.wrap IntKind.u8 (↑(BitVec.toNat (BitVec.ofInt 8 (↑(UInt8.toNat (Array.getD (ByteArray.data s) 0 0)) : Int) &&& BitVec.ofInt 8 31)) : Int)))), Value.int IntKind.i64 1, Value.int IntKind.i64 0]) [[Value.string s, Value.int IntKind.i64 e]]) (True ∧ True ∧ 0 ≤ IntKind.wrap IntKind.i64 (IntKind.wrap IntKind.i64 (IntKind.wrap IntKind.u8 (↑(BitVec.toNat (BitVec.ofInt 8 (↑(UInt8.toNat (Array.getD (ByteArray.data s) 0 0)) : Int) &&& BitVec.ofInt 8 31)) : Int)) - 24) ∧ True ∧ True ∧ True ∧ True ∧ True ∧ True ∧ True ∧ True ∧ True ∧ True ∧ pIf (decide ((↑(ByteArray.size s) : Int) < IntKind.wrap IntKind.i64 (1 + IntKind.wrap IntKind.i64 (1 * 2 ^ min (Int.toNat (IntKind.wrap IntKind.i64 (IntKind.wrap IntKind.i64 (IntKind.wrap IntKind.u8 (↑(BitVec.toNat (BitVec.ofInt 8 (↑(UInt8.toNat (Array.getD (ByteArray.data s) 0 0)) : Int) &&& BitVec.ofInt 8 31)) : Int)) - 24))) 64)))) (True ∧ True ∧ True ∧ True ∧ (True ∧ True ∧ True ∧ True ∧ True) ∧ true = true ∧ Post (Value.tuple #[Value.int IntKind.i64 0, Value.int IntKind.u64 0, Value.int IntKind.i64 0, Value.int IntKind.i64 3]) [[Value.string s, Value.int IntKind.i64 e]]) (True ∧ True ∧ True ∧ True ∧ True ∧ True ∧ (0 ≤ IntKind.wrap IntKind.i64 (1 + IntKind.wrap IntKind.i64 (1 * 2 ^ min (Int.toNat (IntKind.wrap IntKind.i64 (IntKind.wrap IntKind.i64 (IntKind.wrap IntKind.u8 (↑(BitVec.toNat (BitVec.ofInt 8 (↑(UInt8.toNat (Array.getD (ByteArray.data s) 0 0)) : Int) &&& BitVec.ofInt 8 31)) : Int)) - 24))) 64)) ∧ toI (Value.int IntKind.i64 0) ≤ 1 ∧ 1 ≤ Int.toNat (IntKind.wrap IntKind.i64 (1 + IntKind.wrap IntKind.i64 (1 * 2 ^ min (Int.toNat (IntKind.wrap IntKind.i64 (IntKind.wrap IntKind.i64 (IntKind.wrap IntKind.u8 (↑(BitVec.toNat (BitVec.ofInt 8 (↑(UInt8.toNat (Array.getD (ByteArray.data s) 0 0)) : Int) &&& BitVec.ofInt 8 31)) : Int)) - 24))) 64))) ∧ Int.toNat (IntKind.wrap IntKind.i64 (1 + IntKind.wrap IntKind.i64 (1 * 2 ^ min (Int.toNat (IntKind.wrap IntKind.i64 (IntKind.wrap IntKind.i64 (IntKind.wrap IntKind.u8 (↑(BitVec.toNat (BitVec.ofInt 8 (↑(UInt8.toNat (Array.getD (ByteArray.data s) 0 0)) : Int) &&& BitVec.ofInt 8 31)) : Int)) - 24))) 64))) ≤ ByteArray.size s) ∧ True ∧ True ∧ True ∧ ((0 + ByteArray.size (ByteArray.extract s 1 (Int.toNat (IntKind.wrap IntKind.i64 (1 + IntKind.wrap IntKind.i64 (1 * 2 ^ min (Int.toNat (IntKind.wrap IntKind.i64 (IntKind.wrap IntKind.i64 (IntKind.wrap IntKind.u8 (↑(BitVec.toNat (BitVec.ofInt 8 (↑(UInt8.toNat (Array.getD (ByteArray.data s) 0 0)) : Int) &&& BitVec.ofInt 8 31)) : Int)) - 24))) 64))))) * 1 ≤ List.length (Array.toList (byteCells (ByteArray.extract s 1 (Int.toNat (IntKind.wrap IntKind.i64 (1 + IntKind.wrap IntKind.i64 (1 * 2 ^ min (Int.toNat (IntKind.wrap IntKind.i64 (IntKind.wrap IntKind.i64 (IntKind.wrap IntKind.u8 (↑(BitVec.toNat (BitVec.ofInt 8 (↑(UInt8.toNat (Array.getD (ByteArray.data s) 0 0)) : Int) &&& BitVec.ofInt 8 31)) : Int)) - 24))) 64))))))) ∧ NLs (List.drop 0 (Array.toList (byteCells (ByteArray.extract s 1 (Int.toNat (IntKind.wrap IntKind.i64 (1 + IntKind.wrap IntKind.i64 (1 * 2 ^ min (Int.toNat (IntKind.wrap IntKind.i64 (IntKind.wrap IntKind.i64 (IntKind.wrap IntKind.u8 (↑(BitVec.toNat (BitVec.ofInt 8 (↑(UInt8.toNat (Array.getD (ByteArray.data s) 0 0)) : Int) &&& BitVec.ofInt 8 31)) : Int)) - 24))) 64))))))))) ∧ True) ∧ (NLs [Value.string s, Value.int IntKind.i64 e] ∧ True) ∧ H (lpC Tryz.prog 217 13) (lpK Tryz.prog 217 13) (stV [(0, some (Value.pointer (some (Addr.mk 0 0 none)))), (6, some (Value.int IntKind.i64 (IntKind.wrap IntKind.i64 (Int.fdiv (↑(UInt8.toNat (Array.getD (ByteArray.data s) 0 0)) : Int) (2 ^ 5))))), (7, some (Value.int IntKind.u64 0)), (8, some (Value.int IntKind.i64 (IntKind.wrap IntKind.i64 (1 + IntKind.wrap IntKind.i64 (1 * 2 ^ min (Int.toNat (IntKind.wrap IntKind.i64 (IntKind.wrap IntKind.i64 (IntKind.wrap IntKind.u8 (↑(BitVec.toNat (BitVec.ofInt 8 (↑(UInt8.toNat (Array.getD (ByteArray.data s) 0 0)) : Int) &&& BitVec.ofInt 8 31)) : Int)) - 24))) 64))))), (71, some (tree 1 (ByteArray.size (ByteArray.extract s 1 (Int.toNat (IntKind.wrap IntKind.i64 (1 + IntKind.wrap IntKind.i64 (1 * 2 ^ min (Int.toNat (IntKind.wrap IntKind.i64 (IntKind.wrap IntKind.i64 (IntKind.wrap IntKind.u8 (↑(BitVec.toNat (BitVec.ofInt 8 (↑(UInt8.toNat (Array.getD (ByteArray.data s) 0 0)) : Int) &&& BitVec.ofInt 8 31)) : Int)) - 24))) 64)))))) (chunks 1 (ByteArray.size (ByteArray.extract s 1 (Int.toNat (IntKind.wrap IntKind.i64 (1 + IntKind.wrap IntKind.i64 (1 * 2 ^ min (Int.toNat (IntKind.wrap IntKind.i64 (IntKind.wrap IntKind.i64 (IntKind.wrap IntKind.u8 (↑(BitVec.toNat (BitVec.ofInt 8 (↑(UInt8.toNat (Array.getD (ByteArray.data s) 0 0)) : Int) &&& BitVec.ofInt 8 31)) : Int)) - 24))) 64)))))) (List.drop 0 (Array.toList (byteCells (ByteArray.extract s 1 (Int.toNat (IntKind.wrap IntKind.i64 (1 + IntKind.wrap IntKind.i64 (1 * 2 ^ min (Int.toNat (IntKind.wrap IntKind.i64 (IntKind.wrap IntKind.i64 (IntKind.wrap IntKind.u8 (↑(BitVec.toNat (BitVec.ofInt 8 (↑(UInt8.toNat (Array.getD (ByteArray.data s) 0 0)) : Int) &&& BitVec.ofInt 8 31)) : Int)) - 24))) 64))))))))))), (72, some (Value.int IntKind.i64 (↑(ByteArray.size (ByteArray.extract s 1 (Int.toNat (IntKind.wrap IntKind.i64 (1 + IntKind.wrap IntKind.i64 (1 * 2 ^ min (Int.toNat (IntKind.wrap IntKind.i64 (IntKind.wrap IntKind.i64 (IntKind.wrap IntKind.u8 (↑(BitVec.toNat (BitVec.ofInt 8 (↑(UInt8.toNat (Array.getD (ByteArray.data s) 0 0)) : Int) &&& BitVec.ofInt 8 31)) : Int)) - 24))) 64)))))) : Int))), (73, some (Value.int IntKind.i64 0))] [(0, some (AObj.cells [Value.string s, Value.int IntKind.i64 e] true))] 1)))))) (True ∧ True ∧ True ∧ True ∧ True ∧ pIf (decide (IntKind.wrap IntKind.i64 (IntKind.wrap IntKind.u8 (↑(BitVec.toNat (BitVec.ofInt 8 (↑(UInt8.toNat (Array.getD (ByteArray.data s) 0 0)) : Int) &&& BitVec.ofInt 8 31)) : Int)) > 27)) (True ∧ True ∧ True ∧ True ∧ True ∧ (True ∧ True ∧ True ∧ True ∧ True) ∧ true = true ∧ Post (Value.tuple #[Value.int IntKind.i64 0, Value.int IntKind.u64 0, Value.int IntKind.i64 0, Value.int IntKind.i64 5]) [[Value.string s, Value.int IntKind.i64 e]]) (True ∧ True ∧ True ∧ pIf (decide (IntKind.wrap IntKind.i64 (IntKind.wrap IntKind.u8 (↑(BitVec.toNat (BitVec.ofInt 8 (↑(UInt8.toNat (Array.getD (ByteArray.data s) 0 0)) : Int) &&& BitVec.ofInt 8 31)) : Int)) < 24)) (True ∧ True ∧ True ∧ True ∧ True ∧ True ∧ True ∧ (True ∧ True ∧ True ∧ True ∧ True) ∧ true = true ∧ Post (Value.tuple #[Value.int IntKind.i64 (IntKind.wrap IntKind.i64 (Int.fdiv (↑(UInt8.toNat (Array.getD (ByteArray.data s) 0 0)) : Int) (2 ^ 5))), Value.int IntKind.u64 (IntKind.wrap IntKind.u64 (IntKind.wrap IntKind.i64 (IntKind.wrap IntKind.u8 (↑(BitVec.toNat (BitVec.ofInt 8 (↑(UInt8.toNat (Array.getD (ByteArray.data s) 0 0)) : Int) &&& BitVec.ofInt 8 31)) : Int)))), Value.int IntKind.i64 1, Value.int IntKind.i64 0]) [[Value.string s, Value.int IntKind.i64 e]]) (True ∧ True ∧ 0 ≤ IntKind.wrap IntKind.i64 (IntKind.wrap IntKind.i64 (IntKind.wrap IntKind.u8 (↑(BitVec.toNat (BitVec.ofInt 8 (↑(UInt8.toNat (Array.getD (ByteArray.data s) 0 0)) : Int) &&& BitVec.ofInt 8 31)) : Int)) - 24) ∧ True ∧ True ∧ True ∧ True ∧ True ∧ True ∧ True ∧ True ∧ True ∧ True ∧ pIf (decide ((↑(ByteArray.size s) : Int) < IntKind.wrap IntKind.i64 (1 + IntKind.wrap IntKind.i64 (1 * 2 ^ min (Int.toNat (IntKind.wrap IntKind.i64 (IntKind.wrap IntKind.i64 (IntKind.wrap IntKind.u8 (↑(BitVec.toNat (BitVec.ofInt 8 (↑(UInt8.toNat (Array.getD (ByteArray.data s) 0 0)) : Int) &&& BitVec.ofInt 8 31)) : Int)) - 24))) 64)))) (True ∧ True ∧ True ∧ True ∧ (True ∧ True ∧ True ∧ True ∧ True) ∧ true = true ∧ Post (Value.tuple #[Value.int IntKind.i64 0, Value.int IntKind.u64 0, Value.int IntKind.i64 0, Value.int IntKind.i64 3]) [[Value.string s, Value.int IntKind.i64 e]]) (True ∧ True ∧ True ∧ True ∧ True ∧ True ∧ (0 ≤ IntKind.wrap IntKind.i64 (1 + IntKind.wrap IntKind.i64 (1 * 2 ^ min (Int.toNat (IntKind.wrap IntKind.i64 (IntKind.wrap IntKind.i64 (IntKind.wrap IntKind.u8 (↑(BitVec.toNat (BitVec.ofInt 8 (↑(UInt8.toNat (Array.getD (ByteArray.data s) 0 0)) : Int) &&& BitVec.ofInt 8 31)) : Int)) - 24))) 64)) ∧ toI (Value.int IntKind.i64 0) ≤ 1 ∧ 1 ≤ Int.toNat (IntKind.wrap IntKind.i64 (1 + IntKind.wrap IntKind.i64 (1 * 2 ^ min (Int.toNat (IntKind.wrap IntKind.i64 (IntKind.wrap IntKind.i64 (IntKind.wrap IntKind.u8 (↑(BitVec.toNat (BitVec.ofInt 8 (↑(UInt8.toNat (Array.getD (ByteArray.data s) 0 0)) : Int) &&& BitVec.ofInt 8 31)) : Int)) - 24))) 64))) ∧ Int.toNat (IntKind.wrap IntKind.i64 (1 + IntKind.wrap IntKind.i64 (1 * 2 ^ min (Int.toNat (IntKind.wrap IntKind.i64 (IntKind.wrap IntKind.i64 (IntKind.wrap IntKind.u8 (↑(BitVec.toNat (BitVec.ofInt 8 (↑(UInt8.toNat (Array.getD (ByteArray.data s) 0 0)) : Int) &&& BitVec.ofInt 8 31)) : Int)) - 24))) 64))) ≤ ByteArray.size s) ∧ True ∧ True ∧ True ∧ ((0 + ByteArray.size (ByteArray.extract s 1 (Int.toNat (IntKind.wrap IntKind.i64 (1 + IntKind.wrap IntKind.i64 (1 * 2 ^ min (Int.toNat (IntKind.wrap IntKind.i64 (IntKind.wrap IntKind.i64 (IntKind.wrap IntKind.u8 (↑(BitVec.toNat (BitVec.ofInt 8 (↑(UInt8.toNat (Array.getD (ByteArray.data s) 0 0)) : Int) &&& BitVec.ofInt 8 31)) : Int)) - 24))) 64))))) * 1 ≤ List.length (Array.toList (byteCells (ByteArray.extract s 1 (Int.toNat (IntKind.wrap IntKind.i64 (1 + IntKind.wrap IntKind.i64 (1 * 2 ^ min (Int.toNat (IntKind.wrap IntKind.i64 (IntKind.wrap IntKind.i64 (IntKind.wrap IntKind.u8 (↑(BitVec.toNat (BitVec.ofInt 8 (↑(UInt8.toNat (Array.getD (ByteArray.data s) 0 0)) : Int) &&& BitVec.ofInt 8 31)) : Int)) - 24))) 64))))))) ∧ NLs (List.drop 0 (Array.toList (byteCells (ByteArray.extract s 1 (Int.toNat (IntKind.wrap IntKind.i64 (1 + IntKind.wrap IntKind.i64 (1 * 2 ^ min (Int.toNat (IntKind.wrap IntKind.i64 (IntKind.wrap IntKind.i64 (IntKind.wrap IntKind.u8 (↑(BitVec.toNat (BitVec.ofInt 8 (↑(UInt8.toNat (Array.getD (ByteArray.data s) 0 0)) : Int) &&& BitVec.ofInt 8 31)) : Int)) - 24))) 64))))))))) ∧ True) ∧ (NLs [Value.string s, Value.int IntKind.i64 e] ∧ True) ∧ H (lpC Tryz.prog 217 13) (lpK Tryz.prog 217 13) (stV [(0, some (Value.pointer (some (Addr.mk 0 0 none)))), (6, some (Value.int IntKind.i64 (IntKind.wrap IntKind.i64 (Int.fdiv (↑(UInt8.toNat (Array.getD (ByteArray.data s) 0 0)) : Int) (2 ^ 5))))), (7, some (Value.int IntKind.u64 0)), (8, some (Value.int IntKind.i64 (IntKind.wrap IntKind.i64 (1 + IntKind.wrap IntKind.i64 (1 * 2 ^ min (Int.toNat (IntKind.wrap IntKind.i64 (IntKind.wrap IntKind.i64 (IntKind.wrap IntKind.u8 (↑(BitVec.toNat (BitVec.ofInt 8 (↑(UInt8.toNat (Array.getD (ByteArray.data s) 0 0)) : Int) &&& BitVec.ofInt 8 31)) : Int)) - 24))) 64))))), (71, some (tree 1 (ByteArray.size (ByteArray.extract s 1 (Int.toNat (IntKind.wrap IntKind.i64 (1 + IntKind.wrap IntKind.i64 (1 * 2 ^ min (Int.toNat (IntKind.wrap IntKind.i64 (IntKind.wrap IntKind.i64 (IntKind.wrap IntKind.u8 (↑(BitVec.toNat (BitVec.ofInt 8 (↑(UInt8.toNat (Array.getD (ByteArray.data s) 0 0)) : Int) &&& BitVec.ofInt 8 31)) : Int)) - 24))) 64)))))) (chunks 1 (ByteArray.size (ByteArray.extract s 1 (Int.toNat (IntKind.wrap IntKind.i64 (1 + IntKind.wrap IntKind.i64 (1 * 2 ^ min (Int.toNat (IntKind.wrap IntKind.i64 (IntKind.wrap IntKind.i64 (IntKind.wrap IntKind.u8 (↑(BitVec.toNat (BitVec.ofInt 8 (↑(UInt8.toNat (Array.getD (ByteArray.data s) 0 0)) : Int) &&& BitVec.ofInt 8 31)) : Int)) - 24))) 64)))))) (List.drop 0 (Array.toList (byteCells (ByteArray.extract s 1 (Int.toNat (IntKind.wrap IntKind.i64 (1 + IntKind.wrap IntKind.i64 (1 * 2 ^ min (Int.toNat (IntKind.wrap IntKind.i64 (IntKind.wrap IntKind.i64 (IntKind.wrap IntKind.u8 (↑(BitVec.toNat (BitVec.ofInt 8 (↑(UInt8.toNat (Array.getD (ByteArray.data s) 0 0)) : Int) &&& BitVec.ofInt 8 31)) : Int)) - 24))) 64))))))))))), (72, some (Value.int IntKind.i64 (↑(ByteArray.size (ByteArray.extract s 1 (Int.toNat (IntKind.wrap IntKind.i64 (1 + IntKind.wrap IntKind.i64 (1 * 2 ^ min (Int.toNat (IntKind.wrap IntKind.i64 (IntKind.wrap IntKind.i64 (IntKind.wrap IntKind.u8 (↑(BitVec.toNat (BitVec.ofInt 8 (↑(UInt8.toNat (Array.getD (ByteArray.data s) 0 0)) : Int) &&& BitVec.ofInt 8 31)) : Int)) - 24))) 64)))))) : Int))), (73, some (Value.int IntKind.i64 0))] [(0, some (AObj.cells [Value.string s, Value.int IntKind.i64 e] true))] 1))))))) := by kernel_rfl
theorem l_peek (s : ByteArray) (e one two k v z i : Int) (n : Nat) (A : Array Value) (H : Code → List Fr → AS → Prop) (Post : Value → List (List Value) → Prop) : vcLI Tryz.prog callH 217 [.pointer (some ⟨0, 0, none⟩), .int .i64 one, .int .i64 two] [(13, [0, 6, 7, 8, 1071, 72, 73])] 1 13 (stV [(0, some (.pointer (some ⟨0, 0, none⟩))), (6, some (.int .i64 k)), (7, some (.int .u64 v)), (8, some (.int .i64 z)), (71, some (tree 1 n A)), (72, some (.int .i64 n)), (73, some (.int .i64 i))] [(0, some (.cells [.string s, .int .i64 e] true))] 1) H Post = (True ∧ pIf (decide (i < (↑n : Int))) ((0 ≤ i ∧ i < (↑n : Int)) ∧ cellAt A (Int.toNat i) 0 = Value.int IntKind.u8 (toI (cellAt A (Int.toNat i) 0)) ∧ True ∧ True ∧ toI (Value.int IntKind.i64 0) ≤ 8 ∧ True ∧ True ∧ True ∧ True ∧ True ∧ True ∧ (True ∧ True) ∧ (NLs [Value.string s, Value.int IntKind.i64 e] ∧ True) ∧ H (lpC Tryz.prog 217 13) (lpK Tryz.prog 217 13) (stV [(0, some (Value.pointer (some (Addr.mk 0 0 none)))), (6, some (Value.int IntKind.i64 k)), (7, some (Value.int IntKind.u64 (IntKind.wrap IntKind.u64 (↑(BitVec.toNat (BitVec.ofInt 64 (IntKind.wrap IntKind.u64 (v * 2 ^ 8)) ||| BitVec.ofInt 64 (IntKind.wrap IntKind.u64 (toI (cellAt A (Int.toNat i) 0))))) : Int)))), (8, some (Value.int IntKind.i64 z)), (71, some (tree 1 n A)), (72, some (Value.int IntKind.i64 (↑n : Int))), (73, some (Value.int IntKind.i64 (IntKind.wrap IntKind.i64 (i + 1))))] [(0, some (AObj.cells [Value.string s, Value.int IntKind.i64 e] true))] 1)) (True ∧ True ∧ True ∧ True ∧ True ∧ True ∧ True ∧ True ∧ (0 ≤ z ∧ True ∧ 0 ≤ Int.toNat z ∧ Int.toNat z ≤ ByteArray.size s) ∧ ∃ (k_1 : Nat), ∃ (v_1 : Nat), eqL [Value.slice none 0 0, Value.int IntKind.i64 k, Value.int IntKind.u64 v] [Value.slice none 0 0, Value.int IntKind.i64 (↑k_1 : Int), Value.int IntKind.u64 (↑v_1 : Int)] ∧ k_1 < 8 ∧ v_1 < 18446744073709551616 ∧ ((Value.string s = Value.string s ∧ True) ∧ True) ∧ (0 + List.length (hd k_1 v_1) ≤ List.length (cellsB (hd k_1 v_1)) ∧ AllU8 (List.take (List.length (hd k_1 v_1)) (List.drop 0 (cellsB (hd k_1 v_1))))) ∧ True ∧ pIf (!decide (bytesL (List.take (List.length (hd k_1 v_1)) (List.drop 0 (cellsB (hd k_1 v_1)))) = ByteArray.extract s 0 (Int.toNat z))) (True ∧ True ∧ True ∧ True ∧ (True ∧ True ∧ True ∧ True ∧ True) ∧ true = true ∧ Post (Value.tuple #[Value.int IntKind.i64 0, Value.int IntKind.u64 0, Value.int IntKind.i64 0, Value.int IntKind.i64 5]) [[Value.string s, Value.int IntKind.i64 e]]) (True ∧ True ∧ True ∧ True ∧ True ∧ True ∧ True ∧ (True ∧ True ∧ True ∧ True ∧ True) ∧ true = true ∧ Post (Value.tuple #[Value.int IntKind.i64 k, Value.int IntKind.u64 v, Value.int IntKind.i64 z, Value.int IntKind.i64 0]) [[Value.string s, Value.int IntKind.i64 e]]))) := by kernel_rfl
theorem ofBE_snoc (l : List UInt8) (b : UInt8) : ofBE (l ++ [b]) = 256 * ofBE l + b.toNat := by simp [ofBE, List.foldl_append]
theorem ofBE_lt : ∀ (n : Nat) (l : List UInt8), l.length = n → ofBE l < 256 ^ n
  | 0, l, h => by rw [List.eq_nil_of_length_eq_zero h]; decide
  | n + 1, l, h => by
    have hne : l ≠ [] := by intro e; rw [e] at h; cases h
    rw [← List.dropLast_concat_getLast hne, ofBE_snoc, Nat.pow_succ]
    have h1 := ofBE_lt n l.dropLast (by simp [h])
    have h2 := (l.getLast hne).toNat_lt
    omega
theorem orStep {v : Nat} {b : UInt8} (h : 256 * v + b.toNat < 18446744073709551616) : IntKind.u64.wrap (((BitVec.ofInt 64 (IntKind.u64.wrap ((v : Int) * 2 ^ 8)) ||| BitVec.ofInt 64 (IntKind.u64.wrap ((b.toNat : Nat) : Int))).toNat : Nat) : Int) = ((256 * v + b.toNat : Nat) : Int) := by
  have hb := b.toNat_lt
  rw [show (v : Int) * 2 ^ 8 = ((2 ^ 8 * v : Nat) : Int) by omega, wrapU64 (n := 2 ^ 8 * v) (by omega), wrapU64 (n := b.toNat) (by omega), BitVec.toNat_or]
  have e1 : (BitVec.ofInt 64 ((2 ^ 8 * v : Nat) : Int)).toNat = 2 ^ 8 * v := by rw [BitVec.toNat_ofInt]; omega
  have e2 : (BitVec.ofInt 64 ((b.toNat : Nat) : Int)).toNat = b.toNat := by rw [BitVec.toNat_ofInt]; omega
  rw [e1, e2, ← Nat.two_pow_add_eq_or_of_lt (by omega), wrapU64 (by omega)]
def peekV (r : Nat × Nat × Nat × Nat) : Value := .tuple [.int .i64 r.1, .int .u64 r.2.1, .int .i64 r.2.2.1, .int .i64 r.2.2.2].toArray
def c_peek (args : List Value) (conts : List (List Value)) (Post : Value → List (List Value) → Prop) : Prop :=
  ∃ (s : ByteArray) (e : Int) (one two : Nat), args = [.pointer (some ⟨0, 0, none⟩), .int .i64 one, .int .i64 two] ∧ conts = [[.string s, .int .i64 e]] ∧ s.size < 2 ^ 62 ∧ Post (peekV (pk s one two)) conts
theorem cell_b8 {L : List UInt8} {i : Nat} (h : i < L.length) : cellAt (cellsB L).toArray i 0 = b8 L[i] := by
  unfold cellAt cellsB
  simp [Array.getD_eq_getD_getElem?, h, b8, Value.cells]
theorem chunks_b8 (T : ByteArray) : chunks 1 T.size (List.drop 0 (byteCells T).toList) = (cellsB T.data.toList).toArray := by
  unfold chunks
  rw [byteCells_eq, List.drop_zero, List.take_of_length_le (by rw [cellsB_len]; exact Nat.le_refl _)]
  rfl
theorem bytes_fit (T : ByteArray) : 0 + T.size * 1 ≤ (byteCells T).toList.length ∧ NLs (List.drop 0 (byteCells T).toList) := by
  rw [List.drop_zero, byteCells_eq, cellsB_len]
  refine ⟨?_, nls_cellsB _⟩
  have : T.data.toList.length = T.size := rfl
  omega
abbrev argsPk (one two : Int) : List Value := [.pointer (some ⟨0, 0, none⟩), .int .i64 one, .int .i64 two]
theorem peek_loop (s : ByteArray) (e one two : Int) (k z : Nat) (L : List UInt8) (hL : L.length ≤ 8) (hk : k < 8) (hz : z ≤ s.size) (Post : Value → List (List Value) → Prop)
    (h1 : str (hd k (ofBE L)) ≠ s.extract 0 z → Post (.tuple #[.int .i64 0, .int .u64 0, .int .i64 0, .int .i64 5]) [[.string s, .int .i64 e]])
    (h2 : str (hd k (ofBE L)) = s.extract 0 z → Post (.tuple #[.int .i64 k, .int .u64 (ofBE L : Nat), .int .i64 z, .int .i64 0]) [[.string s, .int .i64 e]]) :
    OkI Tryz.prog 217 (argsPk one two) 1 Post (lpC Tryz.prog 217 13) (lpK Tryz.prog 217 13)
      (stV [(0, some (.pointer (some ⟨0, 0, none⟩))), (6, some (.int .i64 k)), (7, some (.int .u64 0)), (8, some (.int .i64 z)), (71, some (tree 1 L.length (cellsB L).toArray)), (72, some (.int .i64 L.length)), (73, some (.int .i64 0))] [(0, some (.cells [.string s, .int .i64 e] true))] 1) := by
  have hlt : ofBE L < 18446744073709551616 := Nat.lt_of_lt_of_le (ofBE_lt L.length L rfl) (Nat.le_trans (Nat.pow_le_pow_right (by decide) hL) (by decide))
  refine down (n := L.length) (p := fun i => OkI Tryz.prog 217 (argsPk one two) 1 Post (lpC Tryz.prog 217 13) (lpK Tryz.prog 217 13)
      (stV [(0, some (.pointer (some ⟨0, 0, none⟩))), (6, some (.int .i64 k)), (7, some (.int .u64 (ofBE (L.take i) : Nat))), (8, some (.int .i64 z)), (71, some (tree 1 L.length (cellsB L).toArray)), (72, some (.int .i64 L.length)), (73, some (.int .i64 i))] [(0, some (.cells [.string s, .int .i64 e] true))] 1)) ?_ (fun i hi ih => ?_)
  · refine ok_I (vc := callH) callH_ok mixed _ (l_peek s e one two k (ofBE (L.take L.length) : Nat) z L.length L.length (cellsB L).toArray _ _) ?_
    rw [List.take_length]
    simp only [true_and, and_true, pIf_iff, decide_eq_true_eq, decide_eq_false_iff_not, Bool.not_eq_true', Bool.not_eq_false', List.drop_zero, take_all, Nat.zero_add, bytesL_cellsB, Int.toNat_natCast]
    refine ⟨fun h' => by omega, fun _ => ⟨⟨by omega, by omega, hz⟩, k, ofBE L, rfl, hk, hlt, ⟨by rw [cellsB_len]; exact Nat.le_refl _, allU8_cellsB _⟩, fun h' => h1 h', fun h' => h2 h'⟩⟩
  · refine ok_I (vc := callH) callH_ok mixed _ (l_peek s e one two k (ofBE (L.take i) : Nat) z i L.length (cellsB L).toArray _ _) ?_
    have hc := cell_b8 hi
    have hv : 256 * ofBE (L.take i) + L[i].toNat < 18446744073709551616 := by
      have := ofBE_lt (i + 1) (L.take (i + 1)) (by rw [List.length_take]; omega)
      rw [← List.take_append_getElem hi, ofBE_snoc] at this
      exact Nat.lt_of_lt_of_le this (Nat.le_trans (Nat.pow_le_pow_right (by decide) (show i + 1 ≤ 8 by omega)) (by decide))
    simp only [true_and, and_true, pIf_iff, decide_eq_true_eq, decide_eq_false_iff_not, Int.toNat_natCast, hc, b8, toI, orStep hv, wrapSucc (show i < 2 ^ 62 by omega)]
    refine ⟨fun _ => ⟨by omega, by decide, fun v hv => ?_, ?_⟩, fun h' => by omega⟩
    · simp at hv
      rcases hv with rfl | rfl <;> rfl
    · rw [← List.take_append_getElem hi, ofBE_snoc] at ih
      exact ih
theorem ok_peek : IEntOk Tryz.prog ⟨217, c_peek⟩ := by
  rintro args conts Post ⟨s, e, one, two, rfl, rfl, hs, h⟩
  refine spec_I (vc := callH) callH_ok mixed (by kernel_rfl) (by kernel_rfl) _ (e_peek s e one two _ _) ?_
  simp only [true_and, and_true, pIf_iff, decide_eq_true_eq, decide_eq_false_iff_not, Bool.not_eq_true', Bool.not_eq_false']
  simp only [kindOf, lowOf]
  have b0 : s.data.getD 0 0 = byte0 s := rfl
  simp only [b0]
  have hlt := (byte0 s).toNat_lt
  generalize hb : (byte0 s).toNat = b at *
  have fail : ∀ r : Nat, pk s one two = (0, 0, 0, r) → Post (.tuple #[.int .i64 0, .int .u64 0, .int .i64 0, .int .i64 r]) [[.string s, .int .i64 e]] := fun r hr => by rw [hr] at h; exact h
  have key : ∀ k V z : Nat, pk s one two = (k, V, z, 0) → Post (.tuple #[.int .i64 k, .int .u64 V, .int .i64 z, .int .i64 0]) [[.string s, .int .i64 e]] := fun k V z hr => by rw [hr] at h; exact h
  have hsz : ¬ s = ⟨#[]⟩ → 0 < s.size := fun hn => by
    rcases Nat.eq_zero_or_pos s.size with h0 | h0
    · exact absurd (ba_ext (List.eq_nil_of_length_eq_zero h0)) hn
    · exact h0
  refine ⟨fun h0 => fail 3 (by subst h0; rfl), fun h0 => ?_⟩
  have hz := hsz h0
  refine ⟨⟨by decide, by omega⟩, by decide, ⟨by decide, by omega⟩, fun n1 => ⟨fun n2 => fail 5 ?_, fun e2 => ?_⟩, fun e1 => ?_⟩
  · unfold pk
    rw [if_neg (by omega), if_pos (.inl ⟨by rw [hb]; omega, by rw [hb]; omega⟩)]
  all_goals
    have hk : ¬ (b / 32 ≠ one ∧ b / 32 ≠ two) := by omega
    refine ⟨fun h1 => fail 5 ?_, fun h1 => ⟨fun h2 => ?_, fun h2 => ?_⟩⟩
    · unfold pk
      rw [if_neg (by omega), if_pos (.inr (by rw [hb]; omega))]
    · have : pk s one two = (b / 32, b % 32, 1, 0) := by
        unfold pk
        rw [if_neg (by omega), hb, if_neg (by omega), if_pos (by omega)]
      rw [this] at h
      rw [wrapU64 (by omega)]
      exact h
    · have hm1 : 24 ≤ b % 32 := by omega
      have hm2 : b % 32 ≤ 27 := by omega
      have hz64 := sizeOf' hm1 hm2
      have hpw : 2 ^ (b % 32 - 24) ≤ 8 := by
        have : b % 32 - 24 = 0 ∨ b % 32 - 24 = 1 ∨ b % 32 - 24 = 2 ∨ b % 32 - 24 = 3 := by omega
        rcases this with h | h | h | h <;> rw [h] <;> decide
      rw [hz64]
      have hsub : IntKind.i64.wrap (((b % 32 : Nat) : Int) - 24) = ((b % 32 - 24 : Nat) : Int) := by rw [wrap64 (by omega) (by omega)]; omega
      simp only [Int.toNat_natCast, hsub]
      refine ⟨by omega, fun h3 => fail 3 ?_, fun h3 => ?_⟩
      · unfold pk
        rw [if_neg (by omega), hb, if_neg (by omega), if_neg (by omega), if_pos (by omega)]
      · have hT : (s.extract 1 (1 + 2 ^ (b % 32 - 24))).data.toList.length ≤ 8 := by
          rw [ByteArray.data_extract, Array.toList_extract]
          show ((s.data.toList.drop 1).take (1 + 2 ^ (b % 32 - 24) - 1)).length ≤ 8
          rw [List.length_take]
          omega
        have pkE : pk s one two = if str (hd (b / 32) (ofBE (s.extract 1 (1 + 2 ^ (b % 32 - 24))).data.toList)) ≠ s.extract 0 (1 + 2 ^ (b % 32 - 24)) then (0, 0, 0, 5) else (b / 32, ofBE (s.extract 1 (1 + 2 ^ (b % 32 - 24))).data.toList, 1 + 2 ^ (b % 32 - 24), 0) := by
          unfold pk
          rw [if_neg (by omega), hb, if_neg (by omega), if_neg (by omega), if_neg (by omega)]
        refine ⟨⟨Int.natCast_nonneg _, by decide, Nat.le_add_right _ _, by omega⟩, ?_, ?_, ?_⟩
        · exact bytes_fit _
        · intro v hv
          simp at hv
          rcases hv with rfl | rfl <;> rfl
        · rw [chunks_b8]
          refine peek_loop s e one two (b / 32) (1 + 2 ^ (b % 32 - 24)) _ hT (by omega) (by omega) Post (fun hne => fail 5 (by rw [pkE, if_pos hne])) (fun heq => ?_)
          exact key _ _ _ (by rw [pkE, if_neg (fun hn => hn heq)])
end Go.Proofs.YtngginofamlkkaaGreatDoor
noncomputable section
namespace Go.Proofs.YtngginofamlkkaaGreatDoor
open Go Go.RowKit
set_option maxRecDepth 100000
theorem ofBE_be : ∀ (n v : Nat), ofBE (be n v) = v % 256 ^ n := by
  intro n
  have key : ∀ (n v a : Nat), (be n v).foldl (fun v b => 256 * v + b.toNat) a = a * 256 ^ n + v % 256 ^ n := by
    intro n
    induction n with
    | zero => intro v a; simp [be, Nat.mod_one]
    | succ n ih =>
      intro v a
      simp only [be, List.foldl_cons, ih]
      have h1 : (UInt8.ofNat (v / 256 ^ n)).toNat = v / 256 ^ n % 256 := by simp
      rw [h1, Nat.pow_succ, Nat.mod_mul, Nat.add_mul]
      rw [show 256 * a * 256 ^ n = a * (256 ^ n * 256) by rw [Nat.mul_comm 256 a, Nat.mul_assoc, Nat.mul_comm 256]]
      rw [Nat.mul_comm (v / 256 ^ n % 256)]
      try omega
  intro v
  have := key n v 0
  simpa [ofBE] using this
theorem ba_list {s : ByteArray} {l : List UInt8} (h : s.data.toList = l) : s = str l := ba_ext (by rw [h]; rfl)
theorem str_list (l : List UInt8) : (str l).data.toList = l := rfl
theorem ext_list (s : ByteArray) (a b : Nat) : (s.extract a b).data.toList = (s.data.toList.drop a).take (b - a) := by
  rw [ByteArray.data_extract, Array.toList_extract]
theorem app_list (s t : ByteArray) : (s ++ t).data.toList = s.data.toList ++ t.data.toList := by rw [ByteArray.data_append, Array.toList_append]
theorem size_list (s : ByteArray) : s.size = s.data.toList.length := rfl
theorem byte0_str (b : UInt8) (l : List UInt8) (t : ByteArray) : byte0 (str (b :: l) ++ t) = b := by
  unfold byte0
  rw [Array.getD_eq_getD_getElem?, ← Array.getElem?_toList, app_list]
  rfl
theorem split_at (s : ByteArray) (n : Nat) : s = s.extract 0 n ++ s.extract n s.size := by
  refine ba_ext ?_
  rw [app_list, ext_list, ext_list, List.drop_zero, Nat.sub_zero, List.take_of_length_le (l := s.data.toList.drop n) (by rw [List.length_drop]; exact Nat.le_refl _), List.take_append_drop]
theorem ext_app (l : List UInt8) (t : ByteArray) : (str l ++ t).extract 0 l.length = str l := by
  refine ba_ext ?_
  rw [ext_list, app_list, List.drop_zero, Nat.sub_zero]
  exact List.take_left ..
theorem ext_app' (l : List UInt8) (t : ByteArray) : (str l ++ t).extract l.length (str l ++ t).size = t := by
  refine ba_ext ?_
  rw [ext_list, app_list, size_list, app_list, str_list]
  rw [List.drop_left, List.length_append, Nat.add_sub_cancel_left, List.take_length]
theorem ext_mid (b : UInt8) (l : List UInt8) (t : ByteArray) : ((str (b :: l) ++ t).extract 1 (1 + l.length)).data.toList = l := by
  rw [ext_list, app_list, str_list, Nat.add_sub_cancel_left]
  simp
theorem hd_ge {k v : Nat} (j : Nat) (hj : j ≤ 3) (h : hd k v = UInt8.ofNat (32 * k + (24 + j)) :: be (2 ^ j) v) (hk : k < 8) (hv : v < 256 ^ 2 ^ j) (t : ByteArray) (one two : Nat) (hk2 : k = one ∨ k = two) : pk (str (hd k v) ++ t) one two = (k, v, (hd k v).length, 0) := by
  have hl : (hd k v).length = 1 + 2 ^ j := by rw [h, List.length_cons, be_len]; omega
  have h0 : (byte0 (str (hd k v) ++ t)).toNat = 32 * k + (24 + j) := by rw [h, byte0_str]; exact u8_small (by omega)
  have hq : (32 * k + (24 + j)) / 32 = k := by omega
  have hr : (32 * k + (24 + j)) % 32 = 24 + j := by omega
  have hs : (str (hd k v) ++ t).size = 1 + 2 ^ j + t.size := by rw [ba_size, str_size, hl]
  have hv2 : ofBE ((str (hd k v) ++ t).extract 1 (1 + 2 ^ j)).data.toList = v := by
    have := ext_mid (UInt8.ofNat (32 * k + (24 + j))) (be (2 ^ j) v) t
    rw [be_len] at this
    rw [h, this, ofBE_be, Nat.mod_eq_of_lt hv]
  have hx : (str (hd k v) ++ t).extract 0 (1 + 2 ^ j) = str (hd k v) := by rw [← hl]; exact ext_app _ _
  unfold pk
  rw [h0, hq, hr, Nat.add_sub_cancel_left, hv2, hl, hs, hx]
  generalize 2 ^ j = q
  rw [if_neg (by omega), if_neg (by omega), if_neg (by omega), if_neg (by omega), if_neg (by simp)]
/-- A head is read again. -/
theorem pk_hd {k v : Nat} (hk : k < 8) (hv : v < 18446744073709551616) (t : ByteArray) {one two : Nat} (hk2 : k = one ∨ k = two) : pk (str (hd k v) ++ t) one two = (k, v, (hd k v).length, 0) := by
  by_cases h24 : v < 24
  · have h : hd k v = [UInt8.ofNat (32 * k + v)] := by unfold hd; rw [if_pos h24]
    have h0 : (byte0 (str (hd k v) ++ t)).toNat = 32 * k + v := by rw [h, byte0_str]; exact u8_small (by omega)
    have hs : (str (hd k v) ++ t).size = 1 + t.size := by rw [ba_size, str_size, h]; rfl
    unfold pk
    rw [h0, show (32 * k + v) / 32 = k by omega, show (32 * k + v) % 32 = v by omega, hs, if_neg (by omega), if_neg (by omega), if_pos h24, h]
    rfl
  by_cases h1 : v < 256
  · exact hd_ge 0 (by omega) (by unfold hd; rw [if_neg h24, if_pos h1]) hk h1 t one two hk2
  by_cases h2 : v < 65536
  · exact hd_ge 1 (by omega) (by unfold hd; rw [if_neg h24, if_neg h1, if_pos h2]) hk h2 t one two hk2
  by_cases h3 : v < 4294967296
  · exact hd_ge 2 (by omega) (by unfold hd; rw [if_neg h24, if_neg h1, if_neg h2, if_pos h3]) hk h3 t one two hk2
  · exact hd_ge 3 (by omega) (by unfold hd; rw [if_neg h24, if_neg h1, if_neg h2, if_neg h3]) hk hv t one two hk2
/-- What peek returns: an error alone, or a head that stands first. -/
theorem pk_cases (s : ByteArray) (one two : Nat) : (∃ e, (e = 3 ∨ e = 5) ∧ pk s one two = (0, 0, 0, e)) ∨ ∃ k v n, pk s one two = (k, v, n, 0) ∧ k < 8 ∧ v < 18446744073709551616 ∧ (k = one ∨ k = two) ∧ n = (hd k v).length ∧ n ≤ s.size ∧ s = str (hd k v) ++ s.extract n s.size := by
  have hb := (byte0 s).toNat_lt
  unfold pk
  by_cases h0 : s.size = 0
  · rw [if_pos h0]; exact .inl ⟨3, .inl rfl, rfl⟩
  rw [if_neg h0]
  by_cases h1 : ((byte0 s).toNat / 32 ≠ one ∧ (byte0 s).toNat / 32 ≠ two) ∨ (byte0 s).toNat % 32 > 27
  · rw [if_pos h1]; exact .inl ⟨5, .inr rfl, rfl⟩
  rw [if_neg h1]
  have hk2 : (byte0 s).toNat / 32 = one ∨ (byte0 s).toNat / 32 = two := by omega
  by_cases h2 : (byte0 s).toNat % 32 < 24
  · rw [if_pos h2]
    refine .inr ⟨_, _, _, rfl, by omega, by omega, hk2, ?_, by omega, ?_⟩
    · unfold hd; rw [if_pos h2]; rfl
    · refine ba_ext ?_
      have : hd ((byte0 s).toNat / 32) ((byte0 s).toNat % 32) = [byte0 s] := by
        unfold hd
        rw [if_pos h2, show 32 * ((byte0 s).toNat / 32) + (byte0 s).toNat % 32 = (byte0 s).toNat by omega, UInt8.ofNat_toNat]
      rw [this, app_list, ext_list, str_list, List.take_of_length_le (by rw [List.length_drop]; exact Nat.le_refl _)]
      have hl : s.data.toList ≠ [] := fun e => h0 (by rw [size_list, e]; rfl)
      have : byte0 s = s.data.toList.head hl := by
        unfold byte0
        rw [Array.getD_eq_getD_getElem?, ← Array.getElem?_toList, ← List.head?_eq_getElem?, List.head?_eq_some_head hl]
        rfl
      rw [this, List.drop_one]
      exact (List.cons_head_tail hl).symm
  rw [if_neg h2]
  by_cases h3 : s.size < 1 + 2 ^ ((byte0 s).toNat % 32 - 24)
  · rw [if_pos h3]; exact .inl ⟨3, .inl rfl, rfl⟩
  rw [if_neg h3]
  generalize hj : (byte0 s).toNat % 32 - 24 = j at h3 ⊢
  have hpj : 0 < 2 ^ j := Nat.two_pow_pos j
  generalize hV : ofBE (s.extract 1 (1 + 2 ^ j)).data.toList = v
  by_cases h4 : str (hd ((byte0 s).toNat / 32) v) ≠ s.extract 0 (1 + 2 ^ j)
  · rw [if_pos h4]; exact .inl ⟨5, .inr rfl, rfl⟩
  rw [if_neg h4]
  have h4 : str (hd ((byte0 s).toNat / 32) v) = s.extract 0 (1 + 2 ^ j) := Classical.byContradiction h4
  have hsz : (s.extract 0 (1 + 2 ^ j)).size = 1 + 2 ^ j := by
    rw [size_list, ext_list, List.drop_zero, List.length_take]
    rw [size_list] at h3
    omega
  refine .inr ⟨_, v, _, rfl, by omega, ?_, hk2, ?_, by omega, ?_⟩
  · have hl : (s.extract 1 (1 + 2 ^ j)).data.toList.length = 2 ^ j := by
      rw [ext_list, List.length_take, List.length_drop]
      rw [size_list] at h3
      omega
    have := ofBE_lt (2 ^ j) _ hl
    rw [hV] at this
    have hj3 : j = 0 ∨ j = 1 ∨ j = 2 ∨ j = 3 := by omega
    rcases hj3 with rfl | rfl | rfl | rfl
    · exact Nat.lt_trans this (by decide)
    · exact Nat.lt_trans this (by decide)
    · exact Nat.lt_trans this (by decide)
    · exact this
  · rw [← str_size, h4, hsz]
  · rw [h4]
    exact split_at s _
/-- A reader's state: what has not been read yet, and the error. -/
abbrev St := ByteArray × Nat
def rdInt (low high : Int) (s : St) : Int × St :=
  if s.2 ≠ 0 then (0, s) else
  let r := pk s.1 0 1
  if r.2.2.2 ≠ 0 then (0, s.1, r.2.2.2) else
  if 9223372036854775808 ≤ r.2.1 then (0, s.1, 5) else
  let x : Int := if r.1 = 1 then -1 - (r.2.1 : Int) else r.2.1
  if x < low ∨ high < x then (0, s.1, 9) else (x, s.1.extract r.2.2.1 s.1.size, 0)
def rdHead (kind : Nat) (most : Nat) (follow : Bool) (s : St) : Nat × St :=
  if s.2 ≠ 0 then (0, s) else
  let r := pk s.1 kind kind
  if r.2.2.2 ≠ 0 then (0, s.1, r.2.2.2) else
  if most < r.2.1 then (0, s.1, 4) else
  if follow = true ∧ s.1.size - r.2.2.1 < r.2.1 then (0, s.1, 3) else (r.2.1, s.1.extract r.2.2.1 s.1.size, 0)
def rdText (most : Nat) (s : St) : ByteArray × St :=
  let r := rdHead 2 most true s
  (r.2.1.extract 0 r.1, r.2.1.extract r.1 r.2.1.size, r.2.2)
def rdList (most : Nat) (s : St) : Nat × St := rdHead 4 most false s
end Go.Proofs.YtngginofamlkkaaGreatDoor
