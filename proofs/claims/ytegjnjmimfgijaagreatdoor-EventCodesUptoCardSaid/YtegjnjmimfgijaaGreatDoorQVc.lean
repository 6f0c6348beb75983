/-
  Put together out of several texts, each in its own namespace's block. Conditions: as each theorem states them.
-/
import Derived.Test.YtegjnjmimfgijaaGreatDoorQVis
import Derived.Test.YtegjnjmimfgijaaGreatDoorQOh
import Derived.Laws.RangeAny
import Derived.Test.YtegjnjmimfgijaaGreatDoorQNl
noncomputable section
namespace Go.Proofs.YtegjnjmimfgijaaGreatDoor
open Go Go.RowKit
set_option maxRecDepth 100000
set_option maxHeartbeats 8000000
abbrev cR5 (k a g : Int) (u : ByteArray) (l : Value) : List Value := (.int .i64 k :: .int .i64 a :: .string ⟨#[]⟩ :: .string ⟨#[]⟩ :: .string ⟨#[]⟩ :: .int .i64 0 :: .bool false :: .string ⟨#[]⟩ :: nilS :: .string ⟨#[]⟩ :: .string ⟨#[]⟩ :: .int .i64 0 :: .int .i64 0 :: .int .i64 0 :: .string ⟨#[]⟩ :: .string ⟨#[]⟩ :: .string ⟨#[]⟩ :: .string ⟨#[]⟩ :: .int .i64 0 :: .string ⟨#[]⟩ :: .string u :: .int .i64 g :: l :: .string ⟨#[]⟩ :: .int .i64 0 :: nilS :: .string ⟨#[]⟩ :: .int .i64 0 :: .int .i64 0 :: .int .i64 0 :: .int .i64 0 :: .int .i64 0 :: .int .i64 0 :: nilS :: .string ⟨#[]⟩ :: nilS :: .string ⟨#[]⟩ :: .int .i64 0 :: .int .i64 0 :: .int .i64 0 :: [])
abbrev sR5 (k a w g : Int) (u s : ByteArray) (L : List Value) (n : Nat) (i : Int) : AS := (stV [(0, some ptr0), (1, some (.iface 88 ptr1)), (132, some (.int .i64 n)), (133, some (.int .i64 i))] [(0, some (.cells (cR5 k a g u (.slice (some ⟨3, 0, none⟩) n 5)) true)), (1, some (.cells [ptr2, .int .i64 w] true)), (2, some (.cells [.string s, .int .i64 0] true)), (3, some (.cells L true))] 4)
abbrev zR5 (k a w g : Int) (u s : ByteArray) : AS := (stV [(0, some ptr0), (1, some (.iface 88 ptr1)), (132, some (.int .i64 0)), (133, some (.int .i64 0))] [(0, some (.cells (cR5 k a g u nilS) true)), (1, some (.cells [ptr2, .int .i64 w] true)), (2, some (.cells [.string s, .int .i64 0] true))] 3)
abbrev cR6 (k a g : Int) (u : ByteArray) (l : Value) : List Value := (.int .i64 k :: .int .i64 a :: .string ⟨#[]⟩ :: .string ⟨#[]⟩ :: .string ⟨#[]⟩ :: .int .i64 0 :: .bool false :: .string ⟨#[]⟩ :: nilS :: .string ⟨#[]⟩ :: .string ⟨#[]⟩ :: .int .i64 0 :: .int .i64 0 :: .int .i64 0 :: .string ⟨#[]⟩ :: .string ⟨#[]⟩ :: .string ⟨#[]⟩ :: .string ⟨#[]⟩ :: .int .i64 0 :: .string ⟨#[]⟩ :: .string ⟨#[]⟩ :: .int .i64 0 :: nilS :: .string u :: .int .i64 g :: l :: .string ⟨#[]⟩ :: .int .i64 0 :: .int .i64 0 :: .int .i64 0 :: .int .i64 0 :: .int .i64 0 :: .int .i64 0 :: nilS :: .string ⟨#[]⟩ :: nilS :: .string ⟨#[]⟩ :: .int .i64 0 :: .int .i64 0 :: .int .i64 0 :: [])
abbrev sR6 (k a w g : Int) (u s : ByteArray) (L : List Value) (n : Nat) (i : Int) : AS := (stV [(0, some ptr0), (1, some (.iface 88 ptr1)), (203, some (.int .i64 n)), (204, some (.int .i64 i))] [(0, some (.cells (cR6 k a g u (.slice (some ⟨3, 0, none⟩) n 1)) true)), (1, some (.cells [ptr2, .int .i64 w] true)), (2, some (.cells [.string s, .int .i64 0] true)), (3, some (.cells L true))] 4)
abbrev zR6 (k a w g : Int) (u s : ByteArray) : AS := (stV [(0, some ptr0), (1, some (.iface 88 ptr1)), (203, some (.int .i64 0)), (204, some (.int .i64 0))] [(0, some (.cells (cR6 k a g u nilS) true)), (1, some (.cells [ptr2, .int .i64 w] true)), (2, some (.cells [.string s, .int .i64 0] true))] 3)
abbrev cR14 (k a g : Int) (u : ByteArray) (l : Value) : List Value := (.int .i64 k :: .int .i64 a :: .string ⟨#[]⟩ :: .string ⟨#[]⟩ :: .string ⟨#[]⟩ :: .int .i64 0 :: .bool false :: .string ⟨#[]⟩ :: nilS :: .string ⟨#[]⟩ :: .string ⟨#[]⟩ :: .int .i64 0 :: .int .i64 0 :: .int .i64 0 :: .string ⟨#[]⟩ :: .string ⟨#[]⟩ :: .string ⟨#[]⟩ :: .string ⟨#[]⟩ :: .int .i64 0 :: .string ⟨#[]⟩ :: .string ⟨#[]⟩ :: .int .i64 0 :: nilS :: .string ⟨#[]⟩ :: .int .i64 0 :: nilS :: .string ⟨#[]⟩ :: .int .i64 0 :: .int .i64 0 :: .int .i64 0 :: .int .i64 0 :: .int .i64 0 :: .int .i64 0 :: nilS :: .string u :: l :: .string ⟨#[]⟩ :: .int .i64 0 :: .int .i64 0 :: .int .i64 0 :: [])
abbrev sR14 (k a w g : Int) (u s : ByteArray) (L : List Value) (n : Nat) (i : Int) : AS := (stV [(0, some ptr0), (1, some (.iface 88 ptr1)), (330, some (.int .i64 n)), (331, some (.int .i64 i))] [(0, some (.cells (cR14 k a g u (.slice (some ⟨3, 0, none⟩) n 4)) true)), (1, some (.cells [ptr2, .int .i64 w] true)), (2, some (.cells [.string s, .int .i64 0] true)), (3, some (.cells L true))] 4)
abbrev zR14 (k a w g : Int) (u s : ByteArray) : AS := (stV [(0, some ptr0), (1, some (.iface 88 ptr1)), (330, some (.int .i64 0)), (331, some (.int .i64 0))] [(0, some (.cells (cR14 k a g u nilS) true)), (1, some (.cells [ptr2, .int .i64 w] true)), (2, some (.cells [.string s, .int .i64 0] true))] 3)
theorem l_rd5 (k a w g : Int) (u s : ByteArray) (L : List Value) (n : Nat) (i : Int) (H : HT) (Post : PX) : vcLX Tryz.prog callR 22 argsR [(19, [0, 1, 132, 133]), (31, [0, 1, 203, 204]), (55, [0, 1, 330, 331])] 3 19 (sR5 k a w g u s L n (i)) H Post = (let pP := fun (c : List Value) (r : ByteArray) (e : Nat) => Post (Out.pan (Value.iface 50 (vi (Int.ofNat (e + 1))))) [c, [pt 2, vi w], [vs r, vi (Int.ofNat (e + 1))]]; let t23 := [vz, vi 0, nS, vz, vi 0, vi 0, vi 0, vi 0, vi 0, vi 0, nS, vz, nS, vz, vi 0, vi 0, vi 0]; let t20 := vs u :: vi g :: Value.slice (some (Addr.mk 3 0 none)) n 5 :: t23; let h20 := fun (t : List Value) => vi k :: vi a :: vz :: vz :: vz :: vi 0 :: vb false :: vz :: nS :: vz :: vz :: vi 0 :: vi 0 :: vi 0 :: vz :: vz :: vz :: vz :: vi 0 :: vz :: t; let h22 := fun (t : List Value) => h20 (vs u :: vi g :: t); let q6 := 0 + Int.toNat i * 5 + 4; let q5 := [(0, some (pt 0)), (1, some (Value.iface 88 (pt 1))), (132, some (vi (↑n : Int))), (133, some (vi (IntKind.wrap IntKind.i64 (i + 1))))]; let q4 := 0 + Int.toNat i * 5 + 3; let q3 := 0 + Int.toNat i * 5 + 1 + 1; let q2 := 0 + Int.toNat i * 5 + 1 + 0; let q1 := 0 + Int.toNat i * 5 + 0; True ∧ pIf (decide (i < (↑n : Int))) (T8 ((0 ≤ i ∧ i < (↑n : Int)) ∧ T8 (T4 (True ∧ true = true ∧ s.size < 4611686018427387904 ∧ 64 < 4611686018427387904 ∧ (∀ (v r : ByteArray), rsT 64 s = Rs.ok v r → 1 = 1 ∧ True ∧ 0 + Int.toNat i * 5 + 0 + 1 ≤ List.length L ∧ T32 (T2 (True ∧ (toI (vi 0) ≤ 0 ∧ toI (vi 0) < (↑3 : Int)) ∧ T8 (T2 (True ∧ true = true ∧ r.size < 4611686018427387904 ∧ (∀ (v_1 : Int) (r_1 : ByteArray), rsI (-1099511627776) 1099511627776 r = Rs.ok v_1 r_1 → 1 = 1 ∧ True ∧ 0 + Int.toNat i * 5 + 1 + 0 + 1 ≤ List.length (setFrom L q1 [vs v]) ∧ T16 (T4 ((toI (vi 0) ≤ IntKind.wrap IntKind.i64 (0 + 1) ∧ toI (vi (IntKind.wrap IntKind.i64 (0 + 1))) < (↑3 : Int)) ∧ T8 (T2 (True ∧ true = true ∧ r_1.size < 4611686018427387904 ∧ (∀ (v_2 : Int) (r : ByteArray), rsI (-1099511627776) 1099511627776 r_1 = Rs.ok v_2 r → 1 = 1 ∧ True ∧ 0 + Int.toNat i * 5 + 1 + 1 + 1 ≤ List.length (setFrom (setFrom L q1 [vs v]) q2 [vi v_1]) ∧ T16 (T4 ((toI (vi 0) ≤ IntKind.wrap IntKind.i64 (IntKind.wrap IntKind.i64 (0 + 1) + 1) ∧ toI (vi (IntKind.wrap IntKind.i64 (IntKind.wrap IntKind.i64 (0 + 1) + 1))) < (↑3 : Int)) ∧ T8 (T2 (True ∧ true = true ∧ r.size < 4611686018427387904 ∧ (∀ (v_3 : Int) (r_2 : ByteArray), rsI (-1099511627776) 1099511627776 r = Rs.ok v_3 r_2 → 1 = 1 ∧ True ∧ 0 + Int.toNat i * 5 + 3 + 1 ≤ List.length (setFrom (setFrom (setFrom L q1 [vs v]) q2 [vi v_1]) q3 [vi v_2]) ∧ T32 (True ∧ true = true ∧ r_2.size < 4611686018427387904 ∧ (∀ (v_4 : Bool) (r : ByteArray), rsB r_2 = Rs.ok v_4 r → 1 = 1 ∧ pIf v_4 (True ∧ 0 + Int.toNat i * 5 + 4 + 1 ≤ List.length (setFrom (setFrom (setFrom (setFrom L q1 [vs v]) q2 [vi v_1]) q3 [vi v_2]) q4 [vi v_3]) ∧ T16 (T4 (True ∧ (T2 (True ∧ NLs (setFrom (setFrom (setFrom (setFrom (setFrom L q1 [vs v]) q2 [vi v_1]) q3 [vi v_2]) q4 [vi v_3]) q6 [vb true]) ∧ True)) ∧ H (lpC Tryz.prog 22 19) (lpK Tryz.prog 22 19) (stV q5 [(0, some (AObj.cells (h20 t20) true)), (1, some (AObj.cells [pt 2, vi w] true)), (2, some (AObj.cells [vs r, vi 0] true)), (3, some (AObj.cells (setFrom (setFrom (setFrom (setFrom (setFrom L q1 [vs v]) q2 [vi v_1]) q3 [vi v_2]) q4 [vi v_3]) q6 [vb true]) true))] 4)))) (True ∧ 0 + Int.toNat i * 5 + 4 + 1 ≤ List.length (setFrom (setFrom (setFrom (setFrom L q1 [vs v]) q2 [vi v_1]) q3 [vi v_2]) q4 [vi v_3]) ∧ T16 (T4 (True ∧ (T2 (True ∧ NLs (setFrom (setFrom (setFrom (setFrom (setFrom L q1 [vs v]) q2 [vi v_1]) q3 [vi v_2]) q4 [vi v_3]) q6 [vb false]) ∧ True)) ∧ H (lpC Tryz.prog 22 19) (lpK Tryz.prog 22 19) (stV q5 [(0, some (AObj.cells (h20 t20) true)), (1, some (AObj.cells [pt 2, vi w] true)), (2, some (AObj.cells [vs r, vi 0] true)), (3, some (AObj.cells (setFrom (setFrom (setFrom (setFrom (setFrom L q1 [vs v]) q2 [vi v_1]) q3 [vi v_2]) q4 [vi v_3]) q6 [vb false]) true))] 4))))) ∧ ∀ (e : Nat), rsB r_2 = Rs.err e → 1 = 1 ∧ True ∧ 0 + Int.toNat i * 5 + 4 + 1 ≤ List.length (setFrom (setFrom (setFrom (setFrom L q1 [vs v]) q2 [vi v_1]) q3 [vi v_2]) q4 [vi v_3]) ∧ T16 (T2 (True ∧ ((T16 (T4 (T2 ((0 + n * 5 ≤ List.length (setFrom (setFrom (setFrom (setFrom (setFrom L q1 [vs v]) q2 [vi v_1]) q3 [vi v_2]) q4 [vi v_3]) q6 [vb false]) ∧ NLs (List.drop 0 (setFrom (setFrom (setFrom (setFrom (setFrom L q1 [vs v]) q2 [vi v_1]) q3 [vi v_2]) q4 [vi v_3]) q6 [vb false]))) ∧ T16 (True ∧ True))))) ∧ (T2 (True)) ∧ (T2 (True)) ∧ True) ∧ true = true ∧ pP (h22 (tree 5 n (chunks 5 n (List.drop 0 (setFrom (setFrom (setFrom (setFrom (setFrom L q1 [vs v]) q2 [vi v_1]) q3 [vi v_2]) q4 [vi v_3]) q6 [vb false]))) :: t23)) r_2 e)))) ∧ ∀ (e : Nat), rsI (-1099511627776) 1099511627776 r = Rs.err e → 1 = 1 ∧ True ∧ 0 + Int.toNat i * 5 + 3 + 1 ≤ List.length (setFrom (setFrom (setFrom L q1 [vs v]) q2 [vi v_1]) q3 [vi v_2]) ∧ T16 (T2 (True ∧ ((T16 (T4 (T2 ((0 + n * 5 ≤ List.length (setFrom (setFrom (setFrom (setFrom L q1 [vs v]) q2 [vi v_1]) q3 [vi v_2]) q4 [vi 0]) ∧ NLs (List.drop 0 (setFrom (setFrom (setFrom (setFrom L q1 [vs v]) q2 [vi v_1]) q3 [vi v_2]) q4 [vi 0]))) ∧ T16 (True ∧ True))))) ∧ (T2 (True)) ∧ (T2 (True)) ∧ True) ∧ true = true ∧ pP (h22 (tree 5 n (chunks 5 n (List.drop 0 (setFrom (setFrom (setFrom (setFrom L q1 [vs v]) q2 [vi v_1]) q3 [vi v_2]) q4 [vi 0]))) :: t23)) r e))))))) ∧ ∀ (e : Nat), rsI (-1099511627776) 1099511627776 r_1 = Rs.err e → 1 = 1 ∧ True ∧ 0 + Int.toNat i * 5 + 1 + 1 + 1 ≤ List.length (setFrom (setFrom L q1 [vs v]) q2 [vi v_1]) ∧ T16 (T2 (True ∧ ((T16 (T4 (T2 ((0 + n * 5 ≤ List.length (setFrom (setFrom (setFrom L q1 [vs v]) q2 [vi v_1]) q3 [vi 0]) ∧ NLs (List.drop 0 (setFrom (setFrom (setFrom L q1 [vs v]) q2 [vi v_1]) q3 [vi 0]))) ∧ T16 (True ∧ True))))) ∧ (T2 (True)) ∧ (T2 (True)) ∧ True) ∧ true = true ∧ pP (h22 (tree 5 n (chunks 5 n (List.drop 0 (setFrom (setFrom (setFrom L q1 [vs v]) q2 [vi v_1]) q3 [vi 0]))) :: t23)) r_1 e))))))) ∧ ∀ (e : Nat), rsI (-1099511627776) 1099511627776 r = Rs.err e → 1 = 1 ∧ True ∧ 0 + Int.toNat i * 5 + 1 + 0 + 1 ≤ List.length (setFrom L q1 [vs v]) ∧ T16 (T2 (True ∧ ((T16 (T4 (T2 ((0 + n * 5 ≤ List.length (setFrom (setFrom L q1 [vs v]) q2 [vi 0]) ∧ NLs (List.drop 0 (setFrom (setFrom L q1 [vs v]) q2 [vi 0]))) ∧ T16 (True ∧ True))))) ∧ (T2 (True)) ∧ (T2 (True)) ∧ True) ∧ true = true ∧ pP (h22 (tree 5 n (chunks 5 n (List.drop 0 (setFrom (setFrom L q1 [vs v]) q2 [vi 0]))) :: t23)) r e))))))) ∧ ∀ (e : Nat), rsT 64 s = Rs.err e → 1 = 1 ∧ True ∧ 0 + Int.toNat i * 5 + 0 + 1 ≤ List.length L ∧ T16 (T2 (True ∧ ((T16 (T4 (T2 ((0 + n * 5 ≤ List.length (setFrom L q1 [vz]) ∧ NLs (List.drop 0 (setFrom L q1 [vz]))) ∧ T16 (True ∧ True))))) ∧ (T2 (True)) ∧ (T2 (True)) ∧ True) ∧ true = true ∧ pP (h22 (tree 5 n (chunks 5 n (List.drop 0 (setFrom L q1 [vz]))) :: t23)) s e)))))) ((((T16 (T4 (T2 ((0 + n * 5 ≤ List.length L ∧ NLs L) ∧ T16 (True ∧ True))))) ∧ (T2 (True)) ∧ (T2 (True)) ∧ True) ∧ True) ∧ true = true ∧ Post (Out.ret (Value.tuple #[])) [(h22 (tree 5 n (chunks 5 n (List.drop 0 L)) :: t23)), [pt 2, vi w], [vs s, vi 0]])) := by kernel_rfl
theorem z_rd5 (k a w g : Int) (u s : ByteArray) (H : HT) (Post : PX) : vcLX Tryz.prog callR 22 argsR [(19, [0, 1, 132, 133]), (31, [0, 1, 203, 204]), (55, [0, 1, 330, 331])] 3 19 (zR5 k a w g u s) H Post = (True ∧ (((T32 (T8 (True))) ∧ (T2 (True)) ∧ (T2 (True)) ∧ True) ∧ True) ∧ true = true ∧ Post (Out.ret (Value.tuple #[])) [[vi k, vi a, vz, vz, vz, vi 0, vb false, vz, nS, vz, vz, vi 0, vi 0, vi 0, vz, vz, vz, vz, vi 0, vz, vs u, vi g, nS, vz, vi 0, nS, vz, vi 0, vi 0, vi 0, vi 0, vi 0, vi 0, nS, vz, nS, vz, vi 0, vi 0, vi 0], [pt 2, vi w], [vs s, vi 0]]) := by kernel_rfl
theorem l_rd6 (k a w g : Int) (u s : ByteArray) (L : List Value) (n : Nat) (i : Int) (H : HT) (Post : PX) : vcLX Tryz.prog callR 22 argsR [(19, [0, 1, 132, 133]), (31, [0, 1, 203, 204]), (55, [0, 1, 330, 331])] 3 31 (sR6 k a w g u s L n (i)) H Post = (True ∧ pIf (decide (i < (↑n : Int))) (T8 (True ∧ (0 ≤ i ∧ i < (↑n : Int)) ∧ T8 (true = true ∧ s.size < 4611686018427387904 ∧ 64 < 4611686018427387904 ∧ (∀ (v r : ByteArray), rsT 64 s = Rs.ok v r → 1 = 1 ∧ True ∧ 0 + Int.toNat i * 1 + 1 ≤ List.length L ∧ T16 (T4 (True ∧ (T2 (True ∧ NLs (setFrom L (0 + Int.toNat i * 1) [vs v]) ∧ True)) ∧ H (lpC Tryz.prog 22 31) (lpK Tryz.prog 22 31) (stV [(0, some (pt 0)), (1, some (Value.iface 88 (pt 1))), (203, some (vi (↑n : Int))), (204, some (vi (IntKind.wrap IntKind.i64 (i + 1))))] [(0, some (AObj.cells [vi k, vi a, vz, vz, vz, vi 0, vb false, vz, nS, vz, vz, vi 0, vi 0, vi 0, vz, vz, vz, vz, vi 0, vz, vz, vi 0, nS, vs u, vi g, Value.slice (some (Addr.mk 3 0 none)) n 1, vz, vi 0, vi 0, vi 0, vi 0, vi 0, vi 0, nS, vz, nS, vz, vi 0, vi 0, vi 0] true)), (1, some (AObj.cells [pt 2, vi w] true)), (2, some (AObj.cells [vs r, vi 0] true)), (3, some (AObj.cells (setFrom L (0 + Int.toNat i * 1) [vs v]) true))] 4)))) ∧ ∀ (e : Nat), rsT 64 s = Rs.err e → 1 = 1 ∧ True ∧ 0 + Int.toNat i * 1 + 1 ≤ List.length L ∧ T16 (T2 (True ∧ ((T16 (T8 (True ∧ (0 + n * 1 ≤ List.length (setFrom L (0 + Int.toNat i * 1) [vz]) ∧ NLs (List.drop 0 (setFrom L (0 + Int.toNat i * 1) [vz]))) ∧ T8 (T4 (T2 (True)))))) ∧ (T2 (True)) ∧ (T2 (True)) ∧ True) ∧ true = true ∧ Post (Out.pan (Value.iface 50 (vi (Int.ofNat (e + 1))))) [[vi k, vi a, vz, vz, vz, vi 0, vb false, vz, nS, vz, vz, vi 0, vi 0, vi 0, vz, vz, vz, vz, vi 0, vz, vz, vi 0, nS, vs u, vi g, tree 1 n (chunks 1 n (List.drop 0 (setFrom L (0 + Int.toNat i * 1) [vz]))), vz, vi 0, vi 0, vi 0, vi 0, vi 0, vi 0, nS, vz, nS, vz, vi 0, vi 0, vi 0], [pt 2, vi w], [vs s, vi (Int.ofNat (e + 1))]]))))) ((((T16 (T8 (True ∧ (0 + n * 1 ≤ List.length L ∧ NLs L) ∧ T8 (T4 (T2 (True)))))) ∧ (T2 (True)) ∧ (T2 (True)) ∧ True) ∧ True) ∧ true = true ∧ Post (Out.ret (Value.tuple #[])) [[vi k, vi a, vz, vz, vz, vi 0, vb false, vz, nS, vz, vz, vi 0, vi 0, vi 0, vz, vz, vz, vz, vi 0, vz, vz, vi 0, nS, vs u, vi g, tree 1 n (chunks 1 n (List.drop 0 L)), vz, vi 0, vi 0, vi 0, vi 0, vi 0, vi 0, nS, vz, nS, vz, vi 0, vi 0, vi 0], [pt 2, vi w], [vs s, vi 0]])) := by kernel_rfl
theorem z_rd6 (k a w g : Int) (u s : ByteArray) (H : HT) (Post : PX) : vcLX Tryz.prog callR 22 argsR [(19, [0, 1, 132, 133]), (31, [0, 1, 203, 204]), (55, [0, 1, 330, 331])] 3 31 (zR6 k a w g u s) H Post = (True ∧ (((T32 (T8 (True))) ∧ (T2 (True)) ∧ (T2 (True)) ∧ True) ∧ True) ∧ true = true ∧ Post (Out.ret (Value.tuple #[])) [[vi k, vi a, vz, vz, vz, vi 0, vb false, vz, nS, vz, vz, vi 0, vi 0, vi 0, vz, vz, vz, vz, vi 0, vz, vz, vi 0, nS, vs u, vi g, nS, vz, vi 0, vi 0, vi 0, vi 0, vi 0, vi 0, nS, vz, nS, vz, vi 0, vi 0, vi 0], [pt 2, vi w], [vs s, vi 0]]) := by kernel_rfl
theorem l_rd14 (k a w g : Int) (u s : ByteArray) (L : List Value) (n : Nat) (i : Int) (H : HT) (Post : PX) : vcLX Tryz.prog callR 22 argsR [(19, [0, 1, 132, 133]), (31, [0, 1, 203, 204]), (55, [0, 1, 330, 331])] 3 55 (sR14 k a w g u s L n (i)) H Post = (let pP := fun (c : List Value) (r : ByteArray) (e : Nat) => Post (Out.pan (Value.iface 50 (vi (Int.ofNat (e + 1))))) [c, [pt 2, vi w], [vs r, vi (Int.ofNat (e + 1))]]; let t36 := [vz, vi 0, vi 0, vi 0]; let t20 := vz :: vi 0 :: nS :: vz :: vi 0 :: nS :: vz :: vi 0 :: vi 0 :: vi 0 :: vi 0 :: vi 0 :: vi 0 :: nS :: vs u :: Value.slice (some (Addr.mk 3 0 none)) n 4 :: t36; let h20 := fun (t : List Value) => vi k :: vi a :: vz :: vz :: vz :: vi 0 :: vb false :: vz :: nS :: vz :: vz :: vi 0 :: vi 0 :: vi 0 :: vz :: vz :: vz :: vz :: vi 0 :: vz :: t; let h35 := fun (t : List Value) => h20 (vz :: vi 0 :: nS :: vz :: vi 0 :: nS :: vz :: vi 0 :: vi 0 :: vi 0 :: vi 0 :: vi 0 :: vi 0 :: nS :: vs u :: t); let q4 := 0 + Int.toNat i * 4 + 3; let q3 := 0 + Int.toNat i * 4 + 1 + 1; let q2 := 0 + Int.toNat i * 4 + 1 + 0; let q1 := 0 + Int.toNat i * 4 + 0; True ∧ pIf (decide (i < (↑n : Int))) (T8 ((0 ≤ i ∧ i < (↑n : Int)) ∧ T8 (T4 (True ∧ true = true ∧ s.size < 4611686018427387904 ∧ 64 < 4611686018427387904 ∧ (∀ (v r : ByteArray), rsT 64 s = Rs.ok v r → 1 = 1 ∧ True ∧ 0 + Int.toNat i * 4 + 0 + 1 ≤ List.length L ∧ T32 (T2 (True ∧ (toI (vi 0) ≤ 0 ∧ toI (vi 0) < (↑3 : Int)) ∧ T8 (T2 (True ∧ true = true ∧ r.size < 4611686018427387904 ∧ (∀ (v_1 : Int) (r_1 : ByteArray), rsI (-1099511627776) 1099511627776 r = Rs.ok v_1 r_1 → 1 = 1 ∧ True ∧ 0 + Int.toNat i * 4 + 1 + 0 + 1 ≤ List.length (setFrom L q1 [vs v]) ∧ T16 (T4 ((toI (vi 0) ≤ IntKind.wrap IntKind.i64 (0 + 1) ∧ toI (vi (IntKind.wrap IntKind.i64 (0 + 1))) < (↑3 : Int)) ∧ T8 (T2 (True ∧ true = true ∧ r_1.size < 4611686018427387904 ∧ (∀ (v_2 : Int) (r : ByteArray), rsI (-1099511627776) 1099511627776 r_1 = Rs.ok v_2 r → 1 = 1 ∧ True ∧ 0 + Int.toNat i * 4 + 1 + 1 + 1 ≤ List.length (setFrom (setFrom L q1 [vs v]) q2 [vi v_1]) ∧ T16 (T4 ((toI (vi 0) ≤ IntKind.wrap IntKind.i64 (IntKind.wrap IntKind.i64 (0 + 1) + 1) ∧ toI (vi (IntKind.wrap IntKind.i64 (IntKind.wrap IntKind.i64 (0 + 1) + 1))) < (↑3 : Int)) ∧ T8 (T2 (True ∧ true = true ∧ r.size < 4611686018427387904 ∧ (∀ (v_3 : Int) (r_2 : ByteArray), rsI (-1099511627776) 1099511627776 r = Rs.ok v_3 r_2 → 1 = 1 ∧ True ∧ 0 + Int.toNat i * 4 + 3 + 1 ≤ List.length (setFrom (setFrom (setFrom L q1 [vs v]) q2 [vi v_1]) q3 [vi v_2]) ∧ T16 (T8 ((T2 (True ∧ NLs (setFrom (setFrom (setFrom (setFrom L q1 [vs v]) q2 [vi v_1]) q3 [vi v_2]) q4 [vi v_3]) ∧ True)) ∧ H (lpC Tryz.prog 22 55) (lpK Tryz.prog 22 55) (stV [(0, some (pt 0)), (1, some (Value.iface 88 (pt 1))), (330, some (vi (↑n : Int))), (331, some (vi (IntKind.wrap IntKind.i64 (i + 1))))] [(0, some (AObj.cells (h20 t20) true)), (1, some (AObj.cells [pt 2, vi w] true)), (2, some (AObj.cells [vs r_2, vi 0] true)), (3, some (AObj.cells (setFrom (setFrom (setFrom (setFrom L q1 [vs v]) q2 [vi v_1]) q3 [vi v_2]) q4 [vi v_3]) true))] 4)))) ∧ ∀ (e : Nat), rsI (-1099511627776) 1099511627776 r = Rs.err e → 1 = 1 ∧ True ∧ 0 + Int.toNat i * 4 + 3 + 1 ≤ List.length (setFrom (setFrom (setFrom L q1 [vs v]) q2 [vi v_1]) q3 [vi v_2]) ∧ T16 (T2 (True ∧ ((T32 (T2 (True ∧ (0 + n * 4 ≤ List.length (setFrom (setFrom (setFrom (setFrom L q1 [vs v]) q2 [vi v_1]) q3 [vi v_2]) q4 [vi 0]) ∧ NLs (List.drop 0 (setFrom (setFrom (setFrom (setFrom L q1 [vs v]) q2 [vi v_1]) q3 [vi v_2]) q4 [vi 0]))) ∧ T4 (True)))) ∧ (T2 (True)) ∧ (T2 (True)) ∧ True) ∧ true = true ∧ pP (h35 (tree 4 n (chunks 4 n (List.drop 0 (setFrom (setFrom (setFrom (setFrom L q1 [vs v]) q2 [vi v_1]) q3 [vi v_2]) q4 [vi 0]))) :: t36)) r e))))))) ∧ ∀ (e : Nat), rsI (-1099511627776) 1099511627776 r_1 = Rs.err e → 1 = 1 ∧ True ∧ 0 + Int.toNat i * 4 + 1 + 1 + 1 ≤ List.length (setFrom (setFrom L q1 [vs v]) q2 [vi v_1]) ∧ T16 (T2 (True ∧ ((T32 (T2 (True ∧ (0 + n * 4 ≤ List.length (setFrom (setFrom (setFrom L q1 [vs v]) q2 [vi v_1]) q3 [vi 0]) ∧ NLs (List.drop 0 (setFrom (setFrom (setFrom L q1 [vs v]) q2 [vi v_1]) q3 [vi 0]))) ∧ T4 (True)))) ∧ (T2 (True)) ∧ (T2 (True)) ∧ True) ∧ true = true ∧ pP (h35 (tree 4 n (chunks 4 n (List.drop 0 (setFrom (setFrom (setFrom L q1 [vs v]) q2 [vi v_1]) q3 [vi 0]))) :: t36)) r_1 e))))))) ∧ ∀ (e : Nat), rsI (-1099511627776) 1099511627776 r = Rs.err e → 1 = 1 ∧ True ∧ 0 + Int.toNat i * 4 + 1 + 0 + 1 ≤ List.length (setFrom L q1 [vs v]) ∧ T16 (T2 (True ∧ ((T32 (T2 (True ∧ (0 + n * 4 ≤ List.length (setFrom (setFrom L q1 [vs v]) q2 [vi 0]) ∧ NLs (List.drop 0 (setFrom (setFrom L q1 [vs v]) q2 [vi 0]))) ∧ T4 (True)))) ∧ (T2 (True)) ∧ (T2 (True)) ∧ True) ∧ true = true ∧ pP (h35 (tree 4 n (chunks 4 n (List.drop 0 (setFrom (setFrom L q1 [vs v]) q2 [vi 0]))) :: t36)) r e))))))) ∧ ∀ (e : Nat), rsT 64 s = Rs.err e → 1 = 1 ∧ True ∧ 0 + Int.toNat i * 4 + 0 + 1 ≤ List.length L ∧ T16 (T2 (True ∧ ((T32 (T2 (True ∧ (0 + n * 4 ≤ List.length (setFrom L q1 [vz]) ∧ NLs (List.drop 0 (setFrom L q1 [vz]))) ∧ T4 (True)))) ∧ (T2 (True)) ∧ (T2 (True)) ∧ True) ∧ true = true ∧ pP (h35 (tree 4 n (chunks 4 n (List.drop 0 (setFrom L q1 [vz]))) :: t36)) s e)))))) ((((T32 (T2 (True ∧ (0 + n * 4 ≤ List.length L ∧ NLs L) ∧ T4 (True)))) ∧ (T2 (True)) ∧ (T2 (True)) ∧ True) ∧ True) ∧ true = true ∧ Post (Out.ret (Value.tuple #[])) [(h35 (tree 4 n (chunks 4 n (List.drop 0 L)) :: t36)), [pt 2, vi w], [vs s, vi 0]])) := by kernel_rfl
theorem z_rd14 (k a w g : Int) (u s : ByteArray) (H : HT) (Post : PX) : vcLX Tryz.prog callR 22 argsR [(19, [0, 1, 132, 133]), (31, [0, 1, 203, 204]), (55, [0, 1, 330, 331])] 3 55 (zR14 k a w g u s) H Post = (True ∧ (((T32 (T8 (True))) ∧ (T2 (True)) ∧ (T2 (True)) ∧ True) ∧ True) ∧ true = true ∧ Post (Out.ret (Value.tuple #[])) [[vi k, vi a, vz, vz, vz, vi 0, vb false, vz, nS, vz, vz, vi 0, vi 0, vi 0, vz, vz, vz, vz, vi 0, vz, vz, vi 0, nS, vz, vi 0, nS, vz, vi 0, vi 0, vi 0, vi 0, vi 0, vi 0, nS, vs u, nS, vz, vi 0, vi 0, vi 0], [pt 2, vi w], [vs s, vi 0]]) := by kernel_rfl
def rowC {α : Type} [Enc α] (l : List α) : List Value := l.flatMap Enc.cells
theorem rowC_snoc {α : Type} [Enc α] (l : List α) (a : α) : rowC (l ++ [a]) = rowC l ++ Enc.cells a := by simp [rowC]
theorem chunks_row {α : Type} [Enc α] (l : List α) : chunks (Enc.sz α) l.length (rowC l) = encL l := by
 unfold chunks encL
 cases hs : (Enc.sz α).beq 1 with
 | true =>
  have h1 := Nat.eq_of_beq_eq_true hs
  rw [cond_true]
  have : rowC l = l.map fun a => elt (Enc.cells a) := by
   clear hs
   induction l with
   | nil => rfl
   | cons a l ih =>
    unfold rowC at *
    rw [List.flatMap_cons, ih, List.map_cons]
    have := Enc.len a
    rw [h1] at this
    obtain ⟨v, hv⟩ := List.length_eq_one_iff.1 this
    rw [hv]
    rfl
  rw [this, List.take_of_length_le (by rw [List.length_map]; exact Nat.le_refl _)]
 | false =>
  rw [cond_false]
  congr 1
  have hne : Enc.sz α ≠ 1 := fun e => by rw [e] at hs; cases hs
  have helt : ∀ a : α, elt (Enc.cells a) = .agg (Enc.cells a).toArray := fun a => by
   have := Enc.len a
   match h : Enc.cells a with
   | [] => rfl
   | [v] => rw [h] at this; exact absurd this.symm hne
   | _ :: _ :: _ => rfl
  clear hs
  induction l with
  | nil => rfl
  | cons a l ih =>
   rw [List.length_cons, List.range_succ_eq_map, List.map_cons, List.map_cons, List.map_map, ← ih, helt]
   congr 1
   ·unfold rowC
    rw [List.flatMap_cons, Nat.zero_mul, List.drop_zero, List.take_left' (Enc.len a)]
   ·apply List.map_congr_left
    intro i _
    show Value.agg _ = Value.agg _
    congr 3
    unfold rowC
    rw [List.flatMap_cons, show (i + 1) * Enc.sz α = (Enc.cells a).length + i * Enc.sz α by rw [Enc.len, Nat.succ_mul, Nat.add_comm], List.drop_append, List.drop_eq_nil_of_le (Nat.le_add_right _ _), Nat.add_sub_cancel_left, List.nil_append]
def Rs.bind {α β : Type} (q : Rs α) (f : α → ByteArray → Rs β) : Rs β := match q with
 | .ok v r => f v r
 | .err e => .err e
def rdF : Fd → ByteArray → Rs Va
 | .t, s => (rsT 64 s).bind fun v r => .ok (.s v) r
 | .n lo hi, s => (rsI lo hi s).bind fun v r => .ok (.i v) r
 | .b, s => (rsB s).bind fun v r => .ok (.b v) r
def rdFs : List Fd → ByteArray → Rs (List Va)
 | [], s => .ok [] s
 | f :: fs, s => (rdF f s).bind fun v r => (rdFs fs r).bind fun vs r => .ok (v :: vs) r
def rdEs (fs : List Fd) : Nat → ByteArray → Rs (List (List Va))
 | 0, s => .ok [] s
 | n + 1, s => (rdFs fs s).bind fun v r => (rdEs fs n r).bind fun vs r => .ok (v :: vs) r
def rdLs (k : Nat) (s : ByteArray) : Rs (List (List Va)) := match shE k with
 | none => .ok [] s
 | some (m, fs) => (rsL m s).bind fun n r => rdEs fs n r
def rdBody (k : Nat) (s : ByteArray) : Rs (List Va × List (List Va)) := (rdFs (shN k) s).bind fun vs r => (rdLs k r).bind fun es r => .ok (vs, es) r
def gS (l : List Va) (i : Nat) : ByteArray := match l[i]? with
 | some (.s x) => x
 | _ => ⟨#[]⟩
def gI (l : List Va) (i : Nat) : Int := match l[i]? with
 | some (.i x) => x
 | _ => 0
def gB (l : List Va) (i : Nat) : Bool := match l[i]? with
 | some (.b x) => x
 | _ => false
def toSpot (l : List Va) : Spot := ⟨gS l 0, ⟨gI l 1, gI l 2⟩, gI l 3, gB l 4⟩
def toName (l : List Va) : ByteArray := gS l 0
def toHook (l : List Va) : Hook4 := ⟨gS l 0, ⟨gI l 1, gI l 2⟩, gI l 3⟩
def mkEv (k a : Int) (v : List Va) (es : List (List Va)) : Event :=
 let z : Event := { evt0 with kind := k, at_ := a }
 match k.toNat with
 | 2 => { z with sheet := ⟨gS v 0, gS v 1, gI v 2, gI v 3, gI v 4, gS v 5⟩ }
 | 3 => { z with bar := ⟨gS v 0, gS v 1, gS v 2, gI v 3, gS v 4⟩ }
 | 4 => { z with item := gS v 0, by_ := gS v 1 }
 | 5 => { z with nest := ⟨gS v 0, gI v 1, es.map toSpot⟩ }
 | 6 => { z with saw := ⟨gS v 0, gI v 1, es.map toName⟩ }
 | 7 => { z with item := gS v 0 }
 | 8 => { z with item := gS v 0 }
 | 9 => { z with item := gS v 0, of_ := gS v 1, by_ := gS v 2 }
 | 10 => { z with item := gS v 0, n := gI v 1, pass := gB v 2 }
 | 11 => { z with item := gS v 0, of_ := gS v 1, by_ := gS v 2 }
 | 12 => { z with item := gS v 0 }
 | 13 => { z with weig := ⟨gS v 0, 0, gI v 1, ⟨gI v 2, gI v 3, gI v 4⟩, gI v 5, []⟩ }
 | 14 => { z with lift := ⟨gS v 0, es.map toHook⟩ }
 | 15 => { z with permit := ⟨gS v 0, gI v 1, ⟨gI v 2, gI v 3⟩⟩ }
 | 16 => { z with item := gS v 0 }
 | _ => z
theorem mkRs_ok {α : Type} {q : α × St} {v : α} {r : ByteArray} (h : mkRs q = .ok v r) : q.2.2 = 0 ∧ q.1 = v ∧ q.2.1 = r := by
 unfold mkRs at h
 split at h
 ·cases h; exact ⟨by assumption, rfl, rfl⟩
 ·cases h
theorem leT {m : Nat} {s v r : ByteArray} (h : rsT m s = .ok v r) : r.size ≤ s.size := by
 obtain ⟨_, _, rfl⟩ := mkRs_ok h
 have := (rdHead_left 2 m true (s, 0)).1
 show ((rdHead 2 m true (s, 0)).2.1.extract _ _).size ≤ _
 rw [ext_size]
 exact Nat.le_trans (Nat.sub_le _ _) this
theorem leI {lo hi v : Int} {s r : ByteArray} (h : rsI lo hi s = .ok v r) : r.size ≤ s.size := by
 obtain ⟨_, _, rfl⟩ := mkRs_ok h
 unfold rdInt
 dsimp only
 split
 ·exact Nat.le_refl _
 split
 ·exact Nat.le_refl _
 split
 ·exact Nat.le_refl _
 generalize (if (pk s 0 1).1 = 1 then -1 - ((pk s 0 1).2.1 : Int) else ((pk s 0 1).2.1 : Int)) = y
 split
 ·exact Nat.le_refl _
 ·dsimp only
  rw [ext_size]
  exact Nat.sub_le _ _
theorem leL {m v : Nat} {s r : ByteArray} (h : rsL m s = .ok v r) : r.size ≤ s.size ∧ v ≤ m := by
 obtain ⟨_, rfl, rfl⟩ := mkRs_ok h
 have := rdHead_left 4 m false (s, 0)
 exact ⟨this.1, this.2.1⟩
theorem leB {v : Bool} {s r : ByteArray} (h : rsB s = .ok v r) : r.size ≤ s.size := by
 unfold rsB at h
 split at h
 ·cases h
 split at h
 ·cases h; rw [ext_size]; exact Nat.sub_le _ _
 split at h
 ·cases h; rw [ext_size]; exact Nat.sub_le _ _
 ·cases h
theorem callR_ok : PCallOk Tryz.prog callR := inlP_ok mixed (ofV_ok (itabCall_ok (by
 intro e he
 simp only [tabRd, List.mem_cons, List.not_mem_nil, or_false] at he
 rcases he with rfl | rfl | rfl | rfl
 ·exact ok_kI
 ·exact ok_kT
 ·exact ok_kL
 ·exact ok_kB) noCall_ok)) 5
theorem take_set3 {L : List Value} {o k j : Nat} {v : Value} (h : k < L.length) (ho : o = k) (hj : j = k + 1) : (L.set o v).take j = L.take k ++ [v] := by
 subst ho hj
 exact set_take h
abbrev panE (e : Nat) : Out := .pan (.iface 50 (.int .i64 (.ofNat (e + 1))))
abbrev retU : Out := .ret (.tuple #[])
theorem rl5 (k a w g : Int) (u : ByteArray) (N : Nat) (hN : N ≤ 100) {Post : Out → List (List Value) → Prop} : ∀ (m i : Nat) (s : ByteArray) (L : List Value) (d : List Spot), i + m = N → d.length = i → L.length = N * 5 → NLs L → L.take (i * 5) = rowC d → s.size < 4611686018427387904 →
  (∀ es r, rdEs [.t, nF, nF, nF, .b] m s = .ok es r → Post retU [(cR5 k a g u (tree 5 (d ++ es.map toSpot).length (encL (d ++ es.map toSpot)))), [ptr2, .int .i64 w], [.string r, .int .i64 0]]) →
  (∀ e, rdEs [.t, nF, nF, nF, .b] m s = .err e → ∀ c r, c.length = 40 → Post (panE e) [c, [ptr2, .int .i64 w], [.string r, .int .i64 (.ofNat (e + 1))]]) → OkX Tryz.prog 22 argsR 3 Post (lpC Tryz.prog 22 19) (lpK Tryz.prog 22 19) (sR5 k a w g u s L N (i)) := by
 intro m
 induction m with
 | zero =>
  intro i s L d h1 h2 h3 h4 h5 h6 hO hE
  obtain rfl : i = N := by omega
  refine ok_X callR_ok mixed [(19, [0, 1, 132, 133]), (31, [0, 1, 203, 204]), (55, [0, 1, 330, 331])] (l_rd5 k a w g u s L i i _ _) ?_
  simp only [true_and, and_true]
  refine pIfD (fun hh => absurd hh (by omega)) (fun _ => ?_)
  have e1 : L = rowC d := by rw [← h5, List.take_of_length_le (by omega)]
  have e2 : chunks 5 i (List.drop 0 L) = encL d := by rw [List.drop_zero, e1, ← h2]; exact chunks_row d
  have hz := hO [] s rfl
  rw [List.map_nil, List.append_nil, h2] at hz
  rw [e2]
  repeat' (first | exact rfl | refine And.intro ?_ ?_ | trivial | exact h4 | omega | exact hz)
 | succ m ih =>
  intro i s L d h1 h2 h3 h4 h5 h6 hO hE
  refine ok_X callR_ok mixed [(19, [0, 1, 132, 133]), (31, [0, 1, 203, 204]), (55, [0, 1, 330, 331])] (l_rd5 k a w g u s L N i _ _) ?_
  have ek : ((i : Nat) : Int).toNat = i := by omega
  simp only [true_and, and_true, ek, wrapSucc (show i < 2 ^ 62 by omega), setFrom]
  refine pIfD (fun _ => ?_) (fun hh => absurd hh (by omega))
  repeat' (first | exact rfl | refine And.intro ?_ ?_ | trivial | decide | omega | (simp only [List.length_set]; omega) | exact h4 | exact (NLs_set h4 rfl))
  rotate_left
  ·intro e ee
   repeat' (first | exact rfl | refine And.intro ?_ ?_ | trivial | exact hE e (by simp only [rdEs, rdFs, rdF, Rs.bind, ee]) _ _ rfl | decide | omega | (simp only [List.length_set]; omega) | exact (NLs_set h4 rfl) | exact (NLs_set (NLs_set h4 rfl) rfl))
  intro v0 r0 e0
  have q0 := leT e0
  repeat' (first | exact rfl | refine And.intro ?_ ?_ | trivial | decide | omega | (simp only [List.length_set]; omega) | exact (NLs_set h4 rfl) | exact (NLs_set (NLs_set h4 rfl) rfl))
  rotate_left
  ·intro e ee
   repeat' (first | exact rfl | refine And.intro ?_ ?_ | trivial | exact hE e (by simp only [rdEs, rdFs, rdF, Rs.bind, e0, ee]) _ _ rfl | decide | omega | (simp only [List.length_set]; omega) | exact (NLs_set (NLs_set h4 rfl) rfl) | exact (NLs_set (NLs_set (NLs_set h4 rfl) rfl) rfl))
  intro v1 r1 e1
  have q1 := leI e1
  repeat' (first | exact rfl | refine And.intro ?_ ?_ | trivial | decide | omega | (simp only [List.length_set]; omega) | exact (NLs_set (NLs_set h4 rfl) rfl) | exact (NLs_set (NLs_set (NLs_set h4 rfl) rfl) rfl))
  rotate_left
  ·intro e ee
   repeat' (first | exact rfl | refine And.intro ?_ ?_ | trivial | exact hE e (by simp only [rdEs, rdFs, rdF, Rs.bind, e0, e1, ee]) _ _ rfl | decide | omega | (simp only [List.length_set]; omega) | exact (NLs_set (NLs_set (NLs_set h4 rfl) rfl) rfl) | exact (NLs_set (NLs_set (NLs_set (NLs_set h4 rfl) rfl) rfl) rfl))
  intro v2 r2 e2
  have q2 := leI e2
  repeat' (first | exact rfl | refine And.intro ?_ ?_ | trivial | decide | omega | (simp only [List.length_set]; omega) | exact (NLs_set (NLs_set (NLs_set h4 rfl) rfl) rfl) | exact (NLs_set (NLs_set (NLs_set (NLs_set h4 rfl) rfl) rfl) rfl))
  rotate_left
  ·intro e ee
   repeat' (first | exact rfl | refine And.intro ?_ ?_ | trivial | exact hE e (by simp only [rdEs, rdFs, rdF, Rs.bind, e0, e1, e2, ee]) _ _ rfl | decide | omega | (simp only [List.length_set]; omega) | exact (NLs_set (NLs_set (NLs_set (NLs_set h4 rfl) rfl) rfl) rfl) | exact (NLs_set (NLs_set (NLs_set (NLs_set (NLs_set h4 rfl) rfl) rfl) rfl) rfl))
  intro v3 r3 e3
  have q3 := leI e3
  repeat' (first | exact rfl | refine And.intro ?_ ?_ | trivial | decide | omega | (simp only [List.length_set]; omega) | exact (NLs_set (NLs_set (NLs_set (NLs_set h4 rfl) rfl) rfl) rfl) | exact (NLs_set (NLs_set (NLs_set (NLs_set (NLs_set h4 rfl) rfl) rfl) rfl) rfl))
  rotate_left
  ·intro e ee
   repeat' (first | exact rfl | refine And.intro ?_ ?_ | trivial | exact hE e (by simp only [rdEs, rdFs, rdF, Rs.bind, e0, e1, e2, e3, ee]) _ _ rfl | decide | omega | (simp only [List.length_set]; omega) | exact (NLs_set (NLs_set (NLs_set (NLs_set (NLs_set h4 rfl) rfl) rfl) rfl) rfl) | exact (NLs_set (NLs_set (NLs_set (NLs_set (NLs_set (NLs_set h4 rfl) rfl) rfl) rfl) rfl) rfl))
  intro v4 r4 e4
  have q4 := leB e4
  have hn : NLs (((((L.set (0 + i * 5 + 0) (.string v0)).set (0 + i * 5 + 1 + 0) (.int .i64 v1)).set (0 + i * 5 + 1 + 1) (.int .i64 v2)).set (0 + i * 5 + 3) (.int .i64 v3)).set (0 + i * 5 + 4) (.bool v4)) := (NLs_set (NLs_set (NLs_set (NLs_set (NLs_set h4 rfl) rfl) rfl) rfl) rfl)
  have ht : ((((((L.set (0 + i * 5 + 0) (.string v0)).set (0 + i * 5 + 1 + 0) (.int .i64 v1)).set (0 + i * 5 + 1 + 1) (.int .i64 v2)).set (0 + i * 5 + 3) (.int .i64 v3)).set (0 + i * 5 + 4) (.bool v4))).take ((i + 1) * 5) = rowC (d ++ [⟨v0, ⟨v1, v2⟩, v3, v4⟩]) := by
   rw [rowC_snoc, ← h5, take_set3 (k := i * 5 + 4) (by first | omega | (simp only [List.length_set]; omega)) (by omega) (by omega), take_set3 (k := i * 5 + 3) (by first | omega | (simp only [List.length_set]; omega)) (by omega) (by omega), take_set3 (k := i * 5 + 2) (by first | omega | (simp only [List.length_set]; omega)) (by omega) (by omega), take_set3 (k := i * 5 + 1) (by first | omega | (simp only [List.length_set]; omega)) (by omega) (by omega), take_set3 (k := i * 5 + 0) (by first | omega | (simp only [List.length_set]; omega)) (by omega) (by omega)]
   simp only [List.append_assoc, Nat.add_zero]
   rfl
  have hz : OkX Tryz.prog 22 argsR 3 Post (lpC Tryz.prog 22 19) (lpK Tryz.prog 22 19) (sR5 k a w g u r4 (((((L.set (0 + i * 5 + 0) (.string v0)).set (0 + i * 5 + 1 + 0) (.int .i64 v1)).set (0 + i * 5 + 1 + 1) (.int .i64 v2)).set (0 + i * 5 + 3) (.int .i64 v3)).set (0 + i * 5 + 4) (.bool v4)) N (((i + 1 : Nat) : Int))) := ih (i + 1) r4 (((((L.set (0 + i * 5 + 0) (.string v0)).set (0 + i * 5 + 1 + 0) (.int .i64 v1)).set (0 + i * 5 + 1 + 1) (.int .i64 v2)).set (0 + i * 5 + 3) (.int .i64 v3)).set (0 + i * 5 + 4) (.bool v4)) (d ++ [⟨v0, ⟨v1, v2⟩, v3, v4⟩]) (by omega) (by simp; omega) (by simp only [List.length_set]; exact h3) hn ht (by omega) (fun es r he => by
    have := hO ([.s v0, .i v1, .i v2, .i v3, .b v4] :: es) r (by simp only [rdEs, rdFs, rdF, Rs.bind, e0, e1, e2, e3, e4, he])
    rw [List.map_cons, show toSpot [.s v0, .i v1, .i v2, .i v3, .b v4] = (⟨v0, ⟨v1, v2⟩, v3, v4⟩ : Spot) from rfl, show d ++ (⟨v0, ⟨v1, v2⟩, v3, v4⟩ : Spot) :: es.map toSpot = d ++ [⟨v0, ⟨v1, v2⟩, v3, v4⟩] ++ es.map toSpot by simp] at this
    exact this) (fun e he => hE e (by simp only [rdEs, rdFs, rdF, Rs.bind, e0, e1, e2, e3, e4, he]))
  cases v4 <;> refine pIf_intro (fun hb => ?_) (fun hb => ?_) <;> first | (cases hb; done) | skip
  all_goals
   repeat' (first | exact rfl | exact hz | refine And.intro ?_ ?_ | trivial | decide | omega | (simp only [List.length_set]; omega) | exact hn)
theorem rl6 (k a w g : Int) (u : ByteArray) (N : Nat) (hN : N ≤ 100) {Post : Out → List (List Value) → Prop} : ∀ (m i : Nat) (s : ByteArray) (L : List Value) (d : List ByteArray), i + m = N → d.length = i → L.length = N * 1 → NLs L → L.take (i * 1) = rowC d → s.size < 4611686018427387904 →
  (∀ es r, rdEs [.t] m s = .ok es r → Post retU [(cR6 k a g u (tree 1 (d ++ es.map toName).length (encL (d ++ es.map toName)))), [ptr2, .int .i64 w], [.string r, .int .i64 0]]) →
  (∀ e, rdEs [.t] m s = .err e → ∀ c r, c.length = 40 → Post (panE e) [c, [ptr2, .int .i64 w], [.string r, .int .i64 (.ofNat (e + 1))]]) → OkX Tryz.prog 22 argsR 3 Post (lpC Tryz.prog 22 31) (lpK Tryz.prog 22 31) (sR6 k a w g u s L N (i)) := by
 intro m
 induction m with
 | zero =>
  intro i s L d h1 h2 h3 h4 h5 h6 hO hE
  obtain rfl : i = N := by omega
  refine ok_X callR_ok mixed [(19, [0, 1, 132, 133]), (31, [0, 1, 203, 204]), (55, [0, 1, 330, 331])] (l_rd6 k a w g u s L i i _ _) ?_
  simp only [true_and, and_true]
  refine pIfD (fun hh => absurd hh (by omega)) (fun _ => ?_)
  have e1 : L = rowC d := by rw [← h5, List.take_of_length_le (by omega)]
  have e2 : chunks 1 i (List.drop 0 L) = encL d := by rw [List.drop_zero, e1, ← h2]; exact chunks_row d
  have hz := hO [] s rfl
  rw [List.map_nil, List.append_nil, h2] at hz
  rw [e2]
  repeat' (first | exact rfl | refine And.intro ?_ ?_ | trivial | exact h4 | omega | exact hz)
 | succ m ih =>
  intro i s L d h1 h2 h3 h4 h5 h6 hO hE
  refine ok_X callR_ok mixed [(19, [0, 1, 132, 133]), (31, [0, 1, 203, 204]), (55, [0, 1, 330, 331])] (l_rd6 k a w g u s L N i _ _) ?_
  have ek : ((i : Nat) : Int).toNat = i := by omega
  simp only [true_and, and_true, ek, wrapSucc (show i < 2 ^ 62 by omega), setFrom]
  refine pIfD (fun _ => ?_) (fun hh => absurd hh (by omega))
  repeat' (first | exact rfl | refine And.intro ?_ ?_ | trivial | decide | omega | (simp only [List.length_set]; omega) | exact h4 | exact (NLs_set h4 rfl))
  rotate_left
  ·intro e ee
   repeat' (first | exact rfl | refine And.intro ?_ ?_ | trivial | exact hE e (by simp only [rdEs, rdFs, rdF, Rs.bind, ee]) _ _ rfl | decide | omega | (simp only [List.length_set]; omega) | exact (NLs_set h4 rfl) | exact (NLs_set (NLs_set h4 rfl) rfl))
  intro v0 r0 e0
  have q0 := leT e0
  have hn : NLs (L.set (0 + i * 1) (.string v0)) := (NLs_set h4 rfl)
  have ht : ((L.set (0 + i * 1) (.string v0))).take ((i + 1) * 1) = rowC (d ++ [v0]) := by
   rw [rowC_snoc, ← h5, take_set3 (k := i * 1 + 0) (by first | omega | (simp only [List.length_set]; omega)) (by omega) (by omega)]
   simp only [List.append_assoc, Nat.add_zero]
   rfl
  have hz : OkX Tryz.prog 22 argsR 3 Post (lpC Tryz.prog 22 31) (lpK Tryz.prog 22 31) (sR6 k a w g u r0 (L.set (0 + i * 1) (.string v0)) N (((i + 1 : Nat) : Int))) := ih (i + 1) r0 (L.set (0 + i * 1) (.string v0)) (d ++ [v0]) (by omega) (by simp; omega) (by simp only [List.length_set]; exact h3) hn ht (by omega) (fun es r he => by
    have := hO ([.s v0] :: es) r (by simp only [rdEs, rdFs, rdF, Rs.bind, e0, he])
    rw [List.map_cons, show toName [.s v0] = (v0 : ByteArray) from rfl, show d ++ (v0 : ByteArray) :: es.map toName = d ++ [v0] ++ es.map toName by simp] at this
    exact this) (fun e he => hE e (by simp only [rdEs, rdFs, rdF, Rs.bind, e0, he]))
  repeat' (first | exact rfl | exact hz | refine And.intro ?_ ?_ | trivial | decide | omega | (simp only [List.length_set]; omega) | exact hn)
theorem rl14 (k a w g : Int) (u : ByteArray) (N : Nat) (hN : N ≤ 100) {Post : Out → List (List Value) → Prop} : ∀ (m i : Nat) (s : ByteArray) (L : List Value) (d : List Hook4), i + m = N → d.length = i → L.length = N * 4 → NLs L → L.take (i * 4) = rowC d → s.size < 4611686018427387904 →
  (∀ es r, rdEs [.t, nF, nF, nF] m s = .ok es r → Post retU [(cR14 k a g u (tree 4 (d ++ es.map toHook).length (encL (d ++ es.map toHook)))), [ptr2, .int .i64 w], [.string r, .int .i64 0]]) →
  (∀ e, rdEs [.t, nF, nF, nF] m s = .err e → ∀ c r, c.length = 40 → Post (panE e) [c, [ptr2, .int .i64 w], [.string r, .int .i64 (.ofNat (e + 1))]]) → OkX Tryz.prog 22 argsR 3 Post (lpC Tryz.prog 22 55) (lpK Tryz.prog 22 55) (sR14 k a w g u s L N (i)) := by
 intro m
 induction m with
 | zero =>
  intro i s L d h1 h2 h3 h4 h5 h6 hO hE
  obtain rfl : i = N := by omega
  refine ok_X callR_ok mixed [(19, [0, 1, 132, 133]), (31, [0, 1, 203, 204]), (55, [0, 1, 330, 331])] (l_rd14 k a w g u s L i i _ _) ?_
  simp only [true_and, and_true]
  refine pIfD (fun hh => absurd hh (by omega)) (fun _ => ?_)
  have e1 : L = rowC d := by rw [← h5, List.take_of_length_le (by omega)]
  have e2 : chunks 4 i (List.drop 0 L) = encL d := by rw [List.drop_zero, e1, ← h2]; exact chunks_row d
  have hz := hO [] s rfl
  rw [List.map_nil, List.append_nil, h2] at hz
  rw [e2]
  repeat' (first | exact rfl | refine And.intro ?_ ?_ | trivial | exact h4 | omega | exact hz)
 | succ m ih =>
  intro i s L d h1 h2 h3 h4 h5 h6 hO hE
  refine ok_X callR_ok mixed [(19, [0, 1, 132, 133]), (31, [0, 1, 203, 204]), (55, [0, 1, 330, 331])] (l_rd14 k a w g u s L N i _ _) ?_
  have ek : ((i : Nat) : Int).toNat = i := by omega
  simp only [true_and, and_true, ek, wrapSucc (show i < 2 ^ 62 by omega), setFrom]
  refine pIfD (fun _ => ?_) (fun hh => absurd hh (by omega))
  repeat' (first | exact rfl | refine And.intro ?_ ?_ | trivial | decide | omega | (simp only [List.length_set]; omega) | exact h4 | exact (NLs_set h4 rfl))
  rotate_left
  ·intro e ee
   repeat' (first | exact rfl | refine And.intro ?_ ?_ | trivial | exact hE e (by simp only [rdEs, rdFs, rdF, Rs.bind, ee]) _ _ rfl | decide | omega | (simp only [List.length_set]; omega) | exact (NLs_set h4 rfl) | exact (NLs_set (NLs_set h4 rfl) rfl))
  intro v0 r0 e0
  have q0 := leT e0
  repeat' (first | exact rfl | refine And.intro ?_ ?_ | trivial | decide | omega | (simp only [List.length_set]; omega) | exact (NLs_set h4 rfl) | exact (NLs_set (NLs_set h4 rfl) rfl))
  rotate_left
  ·intro e ee
   repeat' (first | exact rfl | refine And.intro ?_ ?_ | trivial | exact hE e (by simp only [rdEs, rdFs, rdF, Rs.bind, e0, ee]) _ _ rfl | decide | omega | (simp only [List.length_set]; omega) | exact (NLs_set (NLs_set h4 rfl) rfl) | exact (NLs_set (NLs_set (NLs_set h4 rfl) rfl) rfl))
  intro v1 r1 e1
  have q1 := leI e1
  repeat' (first | exact rfl | refine And.intro ?_ ?_ | trivial | decide | omega | (simp only [List.length_set]; omega) | exact (NLs_set (NLs_set h4 rfl) rfl) | exact (NLs_set (NLs_set (NLs_set h4 rfl) rfl) rfl))
  rotate_left
  ·intro e ee
   repeat' (first | exact rfl | refine And.intro ?_ ?_ | trivial | exact hE e (by simp only [rdEs, rdFs, rdF, Rs.bind, e0, e1, ee]) _ _ rfl | decide | omega | (simp only [List.length_set]; omega) | exact (NLs_set (NLs_set (NLs_set h4 rfl) rfl) rfl) | exact (NLs_set (NLs_set (NLs_set (NLs_set h4 rfl) rfl) rfl) rfl))
  intro v2 r2 e2
  have q2 := leI e2
  repeat' (first | exact rfl | refine And.intro ?_ ?_ | trivial | decide | omega | (simp only [List.length_set]; omega) | exact (NLs_set (NLs_set (NLs_set h4 rfl) rfl) rfl) | exact (NLs_set (NLs_set (NLs_set (NLs_set h4 rfl) rfl) rfl) rfl))
  rotate_left
  ·intro e ee
   repeat' (first | exact rfl | refine And.intro ?_ ?_ | trivial | exact hE e (by simp only [rdEs, rdFs, rdF, Rs.bind, e0, e1, e2, ee]) _ _ rfl | decide | omega | (simp only [List.length_set]; omega) | exact (NLs_set (NLs_set (NLs_set (NLs_set h4 rfl) rfl) rfl) rfl) | exact (NLs_set (NLs_set (NLs_set (NLs_set (NLs_set h4 rfl) rfl) rfl) rfl) rfl))
  intro v3 r3 e3
  have q3 := leI e3
  have hn : NLs ((((L.set (0 + i * 4 + 0) (.string v0)).set (0 + i * 4 + 1 + 0) (.int .i64 v1)).set (0 + i * 4 + 1 + 1) (.int .i64 v2)).set (0 + i * 4 + 3) (.int .i64 v3)) := (NLs_set (NLs_set (NLs_set (NLs_set h4 rfl) rfl) rfl) rfl)
  have ht : (((((L.set (0 + i * 4 + 0) (.string v0)).set (0 + i * 4 + 1 + 0) (.int .i64 v1)).set (0 + i * 4 + 1 + 1) (.int .i64 v2)).set (0 + i * 4 + 3) (.int .i64 v3))).take ((i + 1) * 4) = rowC (d ++ [⟨v0, ⟨v1, v2⟩, v3⟩]) := by
   rw [rowC_snoc, ← h5, take_set3 (k := i * 4 + 3) (by first | omega | (simp only [List.length_set]; omega)) (by omega) (by omega), take_set3 (k := i * 4 + 2) (by first | omega | (simp only [List.length_set]; omega)) (by omega) (by omega), take_set3 (k := i * 4 + 1) (by first | omega | (simp only [List.length_set]; omega)) (by omega) (by omega), take_set3 (k := i * 4 + 0) (by first | omega | (simp only [List.length_set]; omega)) (by omega) (by omega)]
   simp only [List.append_assoc, Nat.add_zero]
   rfl
  have hz : OkX Tryz.prog 22 argsR 3 Post (lpC Tryz.prog 22 55) (lpK Tryz.prog 22 55) (sR14 k a w g u r3 ((((L.set (0 + i * 4 + 0) (.string v0)).set (0 + i * 4 + 1 + 0) (.int .i64 v1)).set (0 + i * 4 + 1 + 1) (.int .i64 v2)).set (0 + i * 4 + 3) (.int .i64 v3)) N (((i + 1 : Nat) : Int))) := ih (i + 1) r3 ((((L.set (0 + i * 4 + 0) (.string v0)).set (0 + i * 4 + 1 + 0) (.int .i64 v1)).set (0 + i * 4 + 1 + 1) (.int .i64 v2)).set (0 + i * 4 + 3) (.int .i64 v3)) (d ++ [⟨v0, ⟨v1, v2⟩, v3⟩]) (by omega) (by simp; omega) (by simp only [List.length_set]; exact h3) hn ht (by omega) (fun es r he => by
    have := hO ([.s v0, .i v1, .i v2, .i v3] :: es) r (by simp only [rdEs, rdFs, rdF, Rs.bind, e0, e1, e2, e3, he])
    rw [List.map_cons, show toHook [.s v0, .i v1, .i v2, .i v3] = (⟨v0, ⟨v1, v2⟩, v3⟩ : Hook4) from rfl, show d ++ (⟨v0, ⟨v1, v2⟩, v3⟩ : Hook4) :: es.map toHook = d ++ [⟨v0, ⟨v1, v2⟩, v3⟩] ++ es.map toHook by simp] at this
    exact this) (fun e he => hE e (by simp only [rdEs, rdFs, rdF, Rs.bind, e0, e1, e2, e3, he]))
  repeat' (first | exact rfl | exact hz | refine And.intro ?_ ?_ | trivial | decide | omega | (simp only [List.length_set]; omega) | exact hn)
def lax : List Value → List Value → Prop
 | [], [] => True
 | u :: us, v :: vs => (u = v ∨ (u = nilS ∧ ∃ sz, v = tree sz 0 #[])) ∧ lax us vs
 | _, _ => False
theorem NLs_zrow {z : List Value} (h : NLs z) : ∀ n, NLs (zrow n z)
 | 0 => fun v hv => by simp [zrow] at hv
 | n + 1 => fun v hv => by
  rw [zrow] at hv
  rcases List.mem_append.1 hv with hv | hv
  ·exact h v hv
  ·exact NLs_zrow h n v hv
abbrev OK_r (n : Nat) (k a w : Int) (s : ByteArray) (Q : Out → List (List Value) → Prop) : Prop := ∀ vs es r, rdBody n s = .ok (vs, es) r → ∀ c, lax c (eventC (mkEv k a vs es)) → Q retU [c, [ptr2, .int .i64 w], [.string r, .int .i64 0]]
abbrev ER_r (n : Nat) (w : Int) (s : ByteArray) (Q : Out → List (List Value) → Prop) : Prop := ∀ e, rdBody n s = .err e → ∀ c r, c.length = 40 → Q (panE e) [c, [ptr2, .int .i64 w], [.string r, .int .i64 (.ofNat (e + 1))]]
theorem vr_X {k a w : Int} {s : ByteArray} (k1 : 2 ≤ k) (k2 : k ≤ 18) (hs : s.size < 4611686018427387904) {Q : Out → List (List Value) → Prop}
  (hO : OK_r k.toNat k a w s Q) (hE : ER_r k.toNat w s Q) :
  SpecX Tryz.prog 22 3 (hpOf [cells0 k a, [ptr2, .int .i64 w], [.string s, .int .i64 0]]) argsR (xpost 3 Q) := by
 refine spec_X callR_ok mixed (by kernel_rfl) (by kernel_rfl) [(19, [0, 1, 132, 133]), (31, [0, 1, 203, 204]), (55, [0, 1, 330, 331])] (e_rd k a w s _ _) ?_
 simp only [true_and, and_true]
 refine pIfD (fun hk => absurd hk (by omega)) (fun n1 => ?_)
 refine pIfD (fun hk => ?_) (fun n2 => ?_)
 ·clear k1 k2
  subst hk
  replace hO : OK_r 2 2 a w s Q := hO
  replace hE : ER_r 2 w s Q := hE
  and_intros <;> try first | omega | decide | rfl
  rotate_left
  ·intro e ee
   and_intros <;> try first | omega | decide | rfl | exact hE e (by simp only [rdBody, shN, rdFs, rdF, Rs.bind, ee]) _ _ rfl
  intro v0 r0 e0
  have q0 := leT e0
  and_intros <;> try first | omega | decide | rfl
  rotate_left
  ·intro e ee
   and_intros <;> try first | omega | decide | rfl | exact hE e (by simp only [rdBody, shN, rdFs, rdF, Rs.bind, e0, ee]) _ _ rfl
  intro v1 r1 e1
  have q1 := leT e1
  and_intros <;> try first | omega | decide | rfl
  rotate_left
  ·intro e ee
   and_intros <;> try first | omega | decide | rfl | exact hE e (by simp only [rdBody, shN, rdFs, rdF, Rs.bind, e0, e1, ee]) _ _ rfl
  intro v2 r2 e2
  have q2 := leI e2
  and_intros <;> try first | omega | decide | rfl
  rotate_left
  ·intro e ee
   and_intros <;> try first | omega | decide | rfl | exact hE e (by simp only [rdBody, shN, rdFs, rdF, Rs.bind, e0, e1, e2, ee]) _ _ rfl
  intro v3 r3 e3
  have q3 := leI e3
  and_intros <;> try first | omega | decide | rfl
  rotate_left
  ·intro e ee
   and_intros <;> try first | omega | decide | rfl | exact hE e (by simp only [rdBody, shN, rdFs, rdF, Rs.bind, e0, e1, e2, e3, ee]) _ _ rfl
  intro v4 r4 e4
  have q4 := leI e4
  and_intros <;> try first | omega | decide | rfl
  rotate_left
  ·intro e ee
   and_intros <;> try first | omega | decide | rfl | exact hE e (by simp only [rdBody, shN, rdFs, rdF, Rs.bind, e0, e1, e2, e3, e4, ee]) _ _ rfl
  intro v5 r5 e5
  have q5 := leT e5
  have hz := fun c => hO [.s v0, .s v1, .i v2, .i v3, .i v4, .s v5] [] r5 (by simp only [rdBody, shN, rdFs, rdF, Rs.bind, e0, e1, e2, e3, e4, e5, rdLs, shE]) c
  and_intros <;> try first | omega | decide | rfl | exact hz _ (by repeat' (first | exact trivial | refine ⟨.inl rfl, ?_⟩ | refine ⟨.inr ⟨rfl, _, rfl⟩, ?_⟩))
 refine pIfD (fun hk => ?_) (fun n3 => ?_)
 ·clear k1 k2
  subst hk
  replace hO : OK_r 3 3 a w s Q := hO
  replace hE : ER_r 3 w s Q := hE
  and_intros <;> try first | omega | decide | rfl
  rotate_left
  ·intro e ee
   and_intros <;> try first | omega | decide | rfl | exact hE e (by simp only [rdBody, shN, rdFs, rdF, Rs.bind, ee]) _ _ rfl
  intro v0 r0 e0
  have q0 := leT e0
  and_intros <;> try first | omega | decide | rfl
  rotate_left
  ·intro e ee
   and_intros <;> try first | omega | decide | rfl | exact hE e (by simp only [rdBody, shN, rdFs, rdF, Rs.bind, e0, ee]) _ _ rfl
  intro v1 r1 e1
  have q1 := leT e1
  and_intros <;> try first | omega | decide | rfl
  rotate_left
  ·intro e ee
   and_intros <;> try first | omega | decide | rfl | exact hE e (by simp only [rdBody, shN, rdFs, rdF, Rs.bind, e0, e1, ee]) _ _ rfl
  intro v2 r2 e2
  have q2 := leT e2
  and_intros <;> try first | omega | decide | rfl
  rotate_left
  ·intro e ee
   and_intros <;> try first | omega | decide | rfl | exact hE e (by simp only [rdBody, shN, rdFs, rdF, Rs.bind, e0, e1, e2, ee]) _ _ rfl
  intro v3 r3 e3
  have q3 := leI e3
  and_intros <;> try first | omega | decide | rfl
  rotate_left
  ·intro e ee
   and_intros <;> try first | omega | decide | rfl | exact hE e (by simp only [rdBody, shN, rdFs, rdF, Rs.bind, e0, e1, e2, e3, ee]) _ _ rfl
  intro v4 r4 e4
  have q4 := leT e4
  have hz := fun c => hO [.s v0, .s v1, .s v2, .i v3, .s v4] [] r4 (by simp only [rdBody, shN, rdFs, rdF, Rs.bind, e0, e1, e2, e3, e4, rdLs, shE]) c
  and_intros <;> try first | omega | decide | rfl | exact hz _ (by repeat' (first | exact trivial | refine ⟨.inl rfl, ?_⟩ | refine ⟨.inr ⟨rfl, _, rfl⟩, ?_⟩))
 refine pIfD (fun hk => ?_) (fun n4 => ?_)
 ·clear k1 k2
  subst hk
  replace hO : OK_r 4 4 a w s Q := hO
  replace hE : ER_r 4 w s Q := hE
  and_intros <;> try first | omega | decide | rfl
  rotate_left
  ·intro e ee
   and_intros <;> try first | omega | decide | rfl | exact hE e (by simp only [rdBody, shN, rdFs, rdF, Rs.bind, ee]) _ _ rfl
  intro v0 r0 e0
  have q0 := leT e0
  and_intros <;> try first | omega | decide | rfl
  rotate_left
  ·intro e ee
   and_intros <;> try first | omega | decide | rfl | exact hE e (by simp only [rdBody, shN, rdFs, rdF, Rs.bind, e0, ee]) _ _ rfl
  intro v1 r1 e1
  have q1 := leT e1
  have hz := fun c => hO [.s v0, .s v1] [] r1 (by simp only [rdBody, shN, rdFs, rdF, Rs.bind, e0, e1, rdLs, shE]) c
  and_intros <;> try first | omega | decide | rfl | exact hz _ (by repeat' (first | exact trivial | refine ⟨.inl rfl, ?_⟩ | refine ⟨.inr ⟨rfl, _, rfl⟩, ?_⟩))
 refine pIfD (fun hk => ?_) (fun n5 => ?_)
 ·clear k1 k2
  subst hk
  replace hO : OK_r 5 5 a w s Q := hO
  replace hE : ER_r 5 w s Q := hE
  and_intros <;> try first | omega | decide | rfl
  rotate_left
  ·intro e ee
   and_intros <;> try first | omega | decide | rfl | exact hE e (by simp only [rdBody, shN, rdFs, rdF, Rs.bind, ee]) _ _ rfl
  intro v0 r0 e0
  have q0 := leT e0
  and_intros <;> try first | omega | decide | rfl
  rotate_left
  ·intro e ee
   and_intros <;> try first | omega | decide | rfl | exact hE e (by simp only [rdBody, shN, rdFs, rdF, Rs.bind, e0, ee]) _ _ rfl
  intro v1 r1 e1
  have q1 := leI e1
  and_intros <;> try first | omega | decide | rfl
  rotate_left
  ·intro e ee
   and_intros <;> try first | omega | decide | rfl | exact hE e (by simp only [rdBody, shN, rdFs, rdF, Rs.bind, e0, e1, rdLs, shE, ee]) _ _ rfl
  intro n rn en
  obtain ⟨qn, hn⟩ := leL en
  have hi : Int.ofNat n = (n : Int) := rfl
  have hz := fun es r (he : rdEs [.t, nF, nF, nF, .b] n rn = .ok es r) c => hO [.s v0, .i v1] es r (by simp only [rdBody, shN, rdFs, rdF, Rs.bind, e0, e1, rdLs, shE, en, he]) c
  have hy := fun e (he : rdEs [.t, nF, nF, nF, .b] n rn = .err e) c r => hE e (by simp only [rdBody, shN, rdFs, rdF, Rs.bind, e0, e1, rdLs, shE, en, he]) c r
  refine pIfN (fun h0 => ?_) (fun h0 => ?_)
  ·have hk := rl5 5 a w v1 v0 n (by omega) (Post := Q) n 0 rn (zrow n [.string ⟨#[]⟩, .int .i64 0, .int .i64 0, .int .i64 0, .bool false]) [] (by omega) rfl (by rw [zrow_len]; rfl) (NLs_zrow (fun v hv => List.all_eq_true.1 (show ([.string ⟨#[]⟩, .int .i64 0, .int .i64 0, .int .i64 0, .bool false] : List Value).all nl1 = true from rfl) v hv) n) (by rw [Nat.zero_mul]; rfl) (by omega) (fun es r he => hz es r he _ (by repeat' (first | exact trivial | refine ⟨.inl rfl, ?_⟩ | refine ⟨.inr ⟨rfl, _, rfl⟩, ?_⟩))) hy
   and_intros <;> try first | omega | decide | rfl | exact NLs_zrow (fun v hv => List.all_eq_true.1 (show ([.string ⟨#[]⟩, .int .i64 0, .int .i64 0, .int .i64 0, .bool false] : List Value).all nl1 = true from rfl) v hv) n | exact hk
  ·have h0 : n = 0 := by omega
   subst h0
   have hk := hz [] rn rfl
   refine ok_X callR_ok mixed [(19, [0, 1, 132, 133]), (31, [0, 1, 203, 204]), (55, [0, 1, 330, 331])] (z_rd5 5 a w v1 v0 rn _ _) ?_
   simp only [true_and, and_true]
   and_intros <;> try first | omega | decide | rfl | exact hk _ (by repeat' (first | exact trivial | refine ⟨.inl rfl, ?_⟩ | refine ⟨.inr ⟨rfl, _, rfl⟩, ?_⟩))
 refine pIfD (fun hk => ?_) (fun n6 => ?_)
 ·clear k1 k2
  subst hk
  replace hO : OK_r 6 6 a w s Q := hO
  replace hE : ER_r 6 w s Q := hE
  and_intros <;> try first | omega | decide | rfl
  rotate_left
  ·intro e ee
   and_intros <;> try first | omega | decide | rfl | exact hE e (by simp only [rdBody, shN, rdFs, rdF, Rs.bind, ee]) _ _ rfl
  intro v0 r0 e0
  have q0 := leT e0
  and_intros <;> try first | omega | decide | rfl
  rotate_left
  ·intro e ee
   and_intros <;> try first | omega | decide | rfl | exact hE e (by simp only [rdBody, shN, rdFs, rdF, Rs.bind, e0, ee]) _ _ rfl
  intro v1 r1 e1
  have q1 := leI e1
  and_intros <;> try first | omega | decide | rfl
  rotate_left
  ·intro e ee
   and_intros <;> try first | omega | decide | rfl | exact hE e (by simp only [rdBody, shN, rdFs, rdF, Rs.bind, e0, e1, rdLs, shE, ee]) _ _ rfl
  intro n rn en
  obtain ⟨qn, hn⟩ := leL en
  have hi : Int.ofNat n = (n : Int) := rfl
  have hz := fun es r (he : rdEs [.t] n rn = .ok es r) c => hO [.s v0, .i v1] es r (by simp only [rdBody, shN, rdFs, rdF, Rs.bind, e0, e1, rdLs, shE, en, he]) c
  have hy := fun e (he : rdEs [.t] n rn = .err e) c r => hE e (by simp only [rdBody, shN, rdFs, rdF, Rs.bind, e0, e1, rdLs, shE, en, he]) c r
  refine pIfN (fun h0 => ?_) (fun h0 => ?_)
  ·have hk := rl6 6 a w v1 v0 n (by omega) (Post := Q) n 0 rn (zrow n [.string ⟨#[]⟩]) [] (by omega) rfl (by rw [zrow_len]; rfl) (NLs_zrow (fun v hv => List.all_eq_true.1 (show ([.string ⟨#[]⟩] : List Value).all nl1 = true from rfl) v hv) n) (by rw [Nat.zero_mul]; rfl) (by omega) (fun es r he => hz es r he _ (by repeat' (first | exact trivial | refine ⟨.inl rfl, ?_⟩ | refine ⟨.inr ⟨rfl, _, rfl⟩, ?_⟩))) hy
   and_intros <;> try first | omega | decide | rfl | exact NLs_zrow (fun v hv => List.all_eq_true.1 (show ([.string ⟨#[]⟩] : List Value).all nl1 = true from rfl) v hv) n | exact hk
  ·have h0 : n = 0 := by omega
   subst h0
   have hk := hz [] rn rfl
   refine ok_X callR_ok mixed [(19, [0, 1, 132, 133]), (31, [0, 1, 203, 204]), (55, [0, 1, 330, 331])] (z_rd6 6 a w v1 v0 rn _ _) ?_
   simp only [true_and, and_true]
   and_intros <;> try first | omega | decide | rfl | exact hk _ (by repeat' (first | exact trivial | refine ⟨.inl rfl, ?_⟩ | refine ⟨.inr ⟨rfl, _, rfl⟩, ?_⟩))
 refine pIfD (fun hk => ?_) (fun n7 => ?_)
 ·clear k1 k2
  subst hk
  replace hO : OK_r 7 7 a w s Q := hO
  replace hE : ER_r 7 w s Q := hE
  and_intros <;> try first | omega | decide | rfl
  rotate_left
  ·intro e ee
   and_intros <;> try first | omega | decide | rfl | exact hE e (by simp only [rdBody, shN, rdFs, rdF, Rs.bind, ee]) _ _ rfl
  intro v0 r0 e0
  have q0 := leT e0
  have hz := fun c => hO [.s v0] [] r0 (by simp only [rdBody, shN, rdFs, rdF, Rs.bind, e0, rdLs, shE]) c
  and_intros <;> try first | omega | decide | rfl | exact hz _ (by repeat' (first | exact trivial | refine ⟨.inl rfl, ?_⟩ | refine ⟨.inr ⟨rfl, _, rfl⟩, ?_⟩))
 refine pIfD (fun hk => ?_) (fun n8 => ?_)
 ·clear k1 k2
  subst hk
  replace hO : OK_r 8 8 a w s Q := hO
  replace hE : ER_r 8 w s Q := hE
  and_intros <;> try first | omega | decide | rfl
  rotate_left
  ·intro e ee
   and_intros <;> try first | omega | decide | rfl | exact hE e (by simp only [rdBody, shN, rdFs, rdF, Rs.bind, ee]) _ _ rfl
  intro v0 r0 e0
  have q0 := leT e0
  have hz := fun c => hO [.s v0] [] r0 (by simp only [rdBody, shN, rdFs, rdF, Rs.bind, e0, rdLs, shE]) c
  and_intros <;> try first | omega | decide | rfl | exact hz _ (by repeat' (first | exact trivial | refine ⟨.inl rfl, ?_⟩ | refine ⟨.inr ⟨rfl, _, rfl⟩, ?_⟩))
 refine pIfD (fun hk => ?_) (fun n12 => ?_)
 ·clear k1 k2
  subst hk
  replace hO : OK_r 12 12 a w s Q := hO
  replace hE : ER_r 12 w s Q := hE
  and_intros <;> try first | omega | decide | rfl
  rotate_left
  ·intro e ee
   and_intros <;> try first | omega | decide | rfl | exact hE e (by simp only [rdBody, shN, rdFs, rdF, Rs.bind, ee]) _ _ rfl
  intro v0 r0 e0
  have q0 := leT e0
  have hz := fun c => hO [.s v0] [] r0 (by simp only [rdBody, shN, rdFs, rdF, Rs.bind, e0, rdLs, shE]) c
  and_intros <;> try first | omega | decide | rfl | exact hz _ (by repeat' (first | exact trivial | refine ⟨.inl rfl, ?_⟩ | refine ⟨.inr ⟨rfl, _, rfl⟩, ?_⟩))
 refine pIfD (fun hk => ?_) (fun n16 => ?_)
 ·clear k1 k2
  subst hk
  replace hO : OK_r 16 16 a w s Q := hO
  replace hE : ER_r 16 w s Q := hE
  and_intros <;> try first | omega | decide | rfl
  rotate_left
  ·intro e ee
   and_intros <;> try first | omega | decide | rfl | exact hE e (by simp only [rdBody, shN, rdFs, rdF, Rs.bind, ee]) _ _ rfl
  intro v0 r0 e0
  have q0 := leT e0
  have hz := fun c => hO [.s v0] [] r0 (by simp only [rdBody, shN, rdFs, rdF, Rs.bind, e0, rdLs, shE]) c
  and_intros <;> try first | omega | decide | rfl | exact hz _ (by repeat' (first | exact trivial | refine ⟨.inl rfl, ?_⟩ | refine ⟨.inr ⟨rfl, _, rfl⟩, ?_⟩))
 refine pIfD (fun hk => ?_) (fun n9 => ?_)
 ·clear k1 k2
  subst hk
  replace hO : OK_r 9 9 a w s Q := hO
  replace hE : ER_r 9 w s Q := hE
  and_intros <;> try first | omega | decide | rfl
  rotate_left
  ·intro e ee
   and_intros <;> try first | omega | decide | rfl | exact hE e (by simp only [rdBody, shN, rdFs, rdF, Rs.bind, ee]) _ _ rfl
  intro v0 r0 e0
  have q0 := leT e0
  and_intros <;> try first | omega | decide | rfl
  rotate_left
  ·intro e ee
   and_intros <;> try first | omega | decide | rfl | exact hE e (by simp only [rdBody, shN, rdFs, rdF, Rs.bind, e0, ee]) _ _ rfl
  intro v1 r1 e1
  have q1 := leT e1
  and_intros <;> try first | omega | decide | rfl
  rotate_left
  ·intro e ee
   and_intros <;> try first | omega | decide | rfl | exact hE e (by simp only [rdBody, shN, rdFs, rdF, Rs.bind, e0, e1, ee]) _ _ rfl
  intro v2 r2 e2
  have q2 := leT e2
  have hz := fun c => hO [.s v0, .s v1, .s v2] [] r2 (by simp only [rdBody, shN, rdFs, rdF, Rs.bind, e0, e1, e2, rdLs, shE]) c
  and_intros <;> try first | omega | decide | rfl | exact hz _ (by repeat' (first | exact trivial | refine ⟨.inl rfl, ?_⟩ | refine ⟨.inr ⟨rfl, _, rfl⟩, ?_⟩))
 refine pIfD (fun hk => ?_) (fun n11 => ?_)
 ·clear k1 k2
  subst hk
  replace hO : OK_r 11 11 a w s Q := hO
  replace hE : ER_r 11 w s Q := hE
  and_intros <;> try first | omega | decide | rfl
  rotate_left
  ·intro e ee
   and_intros <;> try first | omega | decide | rfl | exact hE e (by simp only [rdBody, shN, rdFs, rdF, Rs.bind, ee]) _ _ rfl
  intro v0 r0 e0
  have q0 := leT e0
  and_intros <;> try first | omega | decide | rfl
  rotate_left
  ·intro e ee
   and_intros <;> try first | omega | decide | rfl | exact hE e (by simp only [rdBody, shN, rdFs, rdF, Rs.bind, e0, ee]) _ _ rfl
  intro v1 r1 e1
  have q1 := leT e1
  and_intros <;> try first | omega | decide | rfl
  rotate_left
  ·intro e ee
   and_intros <;> try first | omega | decide | rfl | exact hE e (by simp only [rdBody, shN, rdFs, rdF, Rs.bind, e0, e1, ee]) _ _ rfl
  intro v2 r2 e2
  have q2 := leT e2
  have hz := fun c => hO [.s v0, .s v1, .s v2] [] r2 (by simp only [rdBody, shN, rdFs, rdF, Rs.bind, e0, e1, e2, rdLs, shE]) c
  and_intros <;> try first | omega | decide | rfl | exact hz _ (by repeat' (first | exact trivial | refine ⟨.inl rfl, ?_⟩ | refine ⟨.inr ⟨rfl, _, rfl⟩, ?_⟩))
 refine pIfD (fun hk => ?_) (fun n10 => ?_)
 ·clear k1 k2
  subst hk
  replace hO : OK_r 10 10 a w s Q := hO
  replace hE : ER_r 10 w s Q := hE
  and_intros <;> try first | omega | decide | rfl
  rotate_left
  ·intro e ee
   and_intros <;> try first | omega | decide | rfl | exact hE e (by simp only [rdBody, shN, rdFs, rdF, Rs.bind, ee]) _ _ rfl
  intro v0 r0 e0
  have q0 := leT e0
  and_intros <;> try first | omega | decide | rfl
  rotate_left
  ·intro e ee
   and_intros <;> try first | omega | decide | rfl | exact hE e (by simp only [rdBody, shN, rdFs, rdF, Rs.bind, e0, ee]) _ _ rfl
  intro v1 r1 e1
  have q1 := leI e1
  and_intros <;> try first | omega | decide | rfl
  rotate_left
  ·intro e ee
   and_intros <;> try first | omega | decide | rfl | exact hE e (by simp only [rdBody, shN, rdFs, rdF, Rs.bind, e0, e1, ee]) _ _ rfl
  intro v2 r2 e2
  have q2 := leB e2
  have hz := fun c => hO [.s v0, .i v1, .b v2] [] r2 (by simp only [rdBody, shN, rdFs, rdF, Rs.bind, e0, e1, e2, rdLs, shE]) c
  cases v2 <;> refine pIf_intro (fun hb => ?_) (fun hb => ?_) <;> first | (cases hb; done) | skip
  all_goals
   and_intros <;> try first | omega | decide | rfl | exact hz _ (by repeat' (first | exact trivial | refine ⟨.inl rfl, ?_⟩ | refine ⟨.inr ⟨rfl, _, rfl⟩, ?_⟩))
 refine pIfD (fun hk => ?_) (fun n13 => ?_)
 ·clear k1 k2
  subst hk
  replace hO : OK_r 13 13 a w s Q := hO
  replace hE : ER_r 13 w s Q := hE
  and_intros <;> try first | omega | decide | rfl
  rotate_left
  ·intro e ee
   and_intros <;> try first | omega | decide | rfl | exact hE e (by simp only [rdBody, shN, rdFs, rdF, Rs.bind, ee]) _ _ rfl
  intro v0 r0 e0
  have q0 := leT e0
  and_intros <;> try first | omega | decide | rfl
  rotate_left
  ·intro e ee
   and_intros <;> try first | omega | decide | rfl | exact hE e (by simp only [rdBody, shN, rdFs, rdF, Rs.bind, e0, ee]) _ _ rfl
  intro v1 r1 e1
  have q1 := leI e1
  and_intros <;> try first | omega | decide | rfl
  rotate_left
  ·intro e ee
   and_intros <;> try first | omega | decide | rfl | exact hE e (by simp only [rdBody, shN, rdFs, rdF, Rs.bind, e0, e1, ee]) _ _ rfl
  intro v2 r2 e2
  have q2 := leI e2
  and_intros <;> try first | omega | decide | rfl
  rotate_left
  ·intro e ee
   and_intros <;> try first | omega | decide | rfl | exact hE e (by simp only [rdBody, shN, rdFs, rdF, Rs.bind, e0, e1, e2, ee]) _ _ rfl
  intro v3 r3 e3
  have q3 := leI e3
  and_intros <;> try first | omega | decide | rfl
  rotate_left
  ·intro e ee
   and_intros <;> try first | omega | decide | rfl | exact hE e (by simp only [rdBody, shN, rdFs, rdF, Rs.bind, e0, e1, e2, e3, ee]) _ _ rfl
  intro v4 r4 e4
  have q4 := leI e4
  and_intros <;> try first | omega | decide | rfl
  rotate_left
  ·intro e ee
   and_intros <;> try first | omega | decide | rfl | exact hE e (by simp only [rdBody, shN, rdFs, rdF, Rs.bind, e0, e1, e2, e3, e4, ee]) _ _ rfl
  intro v5 r5 e5
  have q5 := leI e5
  have hz := fun c => hO [.s v0, .i v1, .i v2, .i v3, .i v4, .i v5] [] r5 (by simp only [rdBody, shN, rdFs, rdF, Rs.bind, e0, e1, e2, e3, e4, e5, rdLs, shE]) c
  and_intros <;> try first | omega | decide | rfl | exact hz _ (by repeat' (first | exact trivial | refine ⟨.inl rfl, ?_⟩ | refine ⟨.inr ⟨rfl, _, rfl⟩, ?_⟩))
 refine pIfD (fun hk => ?_) (fun n14 => ?_)
 ·clear k1 k2
  subst hk
  replace hO : OK_r 14 14 a w s Q := hO
  replace hE : ER_r 14 w s Q := hE
  and_intros <;> try first | omega | decide | rfl
  rotate_left
  ·intro e ee
   and_intros <;> try first | omega | decide | rfl | exact hE e (by simp only [rdBody, shN, rdFs, rdF, Rs.bind, ee]) _ _ rfl
  intro v0 r0 e0
  have q0 := leT e0
  and_intros <;> try first | omega | decide | rfl
  rotate_left
  ·intro e ee
   and_intros <;> try first | omega | decide | rfl | exact hE e (by simp only [rdBody, shN, rdFs, rdF, Rs.bind, e0, rdLs, shE, ee]) _ _ rfl
  intro n rn en
  obtain ⟨qn, hn⟩ := leL en
  have hi : Int.ofNat n = (n : Int) := rfl
  have hz := fun es r (he : rdEs [.t, nF, nF, nF] n rn = .ok es r) c => hO [.s v0] es r (by simp only [rdBody, shN, rdFs, rdF, Rs.bind, e0, rdLs, shE, en, he]) c
  have hy := fun e (he : rdEs [.t, nF, nF, nF] n rn = .err e) c r => hE e (by simp only [rdBody, shN, rdFs, rdF, Rs.bind, e0, rdLs, shE, en, he]) c r
  refine pIfN (fun h0 => ?_) (fun h0 => ?_)
  ·have hk := rl14 14 a w 0 v0 n (by omega) (Post := Q) n 0 rn (zrow n [.string ⟨#[]⟩, .int .i64 0, .int .i64 0, .int .i64 0]) [] (by omega) rfl (by rw [zrow_len]; rfl) (NLs_zrow (fun v hv => List.all_eq_true.1 (show ([.string ⟨#[]⟩, .int .i64 0, .int .i64 0, .int .i64 0] : List Value).all nl1 = true from rfl) v hv) n) (by rw [Nat.zero_mul]; rfl) (by omega) (fun es r he => hz es r he _ (by repeat' (first | exact trivial | refine ⟨.inl rfl, ?_⟩ | refine ⟨.inr ⟨rfl, _, rfl⟩, ?_⟩))) hy
   and_intros <;> try first | omega | decide | rfl | exact NLs_zrow (fun v hv => List.all_eq_true.1 (show ([.string ⟨#[]⟩, .int .i64 0, .int .i64 0, .int .i64 0] : List Value).all nl1 = true from rfl) v hv) n | exact hk
  ·have h0 : n = 0 := by omega
   subst h0
   have hk := hz [] rn rfl
   refine ok_X callR_ok mixed [(19, [0, 1, 132, 133]), (31, [0, 1, 203, 204]), (55, [0, 1, 330, 331])] (z_rd14 14 a w 0 v0 rn _ _) ?_
   simp only [true_and, and_true]
   and_intros <;> try first | omega | decide | rfl | exact hk _ (by repeat' (first | exact trivial | refine ⟨.inl rfl, ?_⟩ | refine ⟨.inr ⟨rfl, _, rfl⟩, ?_⟩))
 refine pIfD (fun hk => ?_) (fun n15 => ?_)
 ·clear k1 k2
  subst hk
  replace hO : OK_r 15 15 a w s Q := hO
  replace hE : ER_r 15 w s Q := hE
  and_intros <;> try first | omega | decide | rfl
  rotate_left
  ·intro e ee
   and_intros <;> try first | omega | decide | rfl | exact hE e (by simp only [rdBody, shN, rdFs, rdF, Rs.bind, ee]) _ _ rfl
  intro v0 r0 e0
  have q0 := leT e0
  and_intros <;> try first | omega | decide | rfl
  rotate_left
  ·intro e ee
   and_intros <;> try first | omega | decide | rfl | exact hE e (by simp only [rdBody, shN, rdFs, rdF, Rs.bind, e0, ee]) _ _ rfl
  intro v1 r1 e1
  have q1 := leI e1
  and_intros <;> try first | omega | decide | rfl
  rotate_left
  ·intro e ee
   and_intros <;> try first | omega | decide | rfl | exact hE e (by simp only [rdBody, shN, rdFs, rdF, Rs.bind, e0, e1, ee]) _ _ rfl
  intro v2 r2 e2
  have q2 := leI e2
  and_intros <;> try first | omega | decide | rfl
  rotate_left
  ·intro e ee
   and_intros <;> try first | omega | decide | rfl | exact hE e (by simp only [rdBody, shN, rdFs, rdF, Rs.bind, e0, e1, e2, ee]) _ _ rfl
  intro v3 r3 e3
  have q3 := leI e3
  have hz := fun c => hO [.s v0, .i v1, .i v2, .i v3] [] r3 (by simp only [rdBody, shN, rdFs, rdF, Rs.bind, e0, e1, e2, e3, rdLs, shE]) c
  and_intros <;> try first | omega | decide | rfl | exact hz _ (by repeat' (first | exact trivial | refine ⟨.inl rfl, ?_⟩ | refine ⟨.inr ⟨rfl, _, rfl⟩, ?_⟩))
 have hz := fun c => hO [] [] s (by
  have : k = 17 ∨ k = 18 := by omega
  rcases this with rfl | rfl <;> rfl) c
 have hm : mkEv k a [] [] = { evt0 with kind := k, at_ := a } := by
  have : k = 17 ∨ k = 18 := by omega
  rcases this with rfl | rfl <;> rfl
 rw [hm] at hz
 and_intros <;> try first | omega | decide | rfl | exact hz _ (by repeat' (first | exact trivial | refine ⟨.inl rfl, ?_⟩ | refine ⟨.inr ⟨rfl, _, rfl⟩, ?_⟩))
theorem lax_get : ∀ {c c' : List Value}, lax c c' → c'.length = c.length ∧ ∀ (j : Nat) (u : Value), c'[j]? = some u → ∃ v, c[j]? = some v ∧ (v = u ∨ (v = nilS ∧ ∃ sz, u = tree sz 0 #[]))
 | [], [], _ => ⟨rfl, fun j u h => by simp at h⟩
 | [], _ :: _, h => h.elim
 | _ :: _, [], h => h.elim
 | a :: c, b :: c', h => by
  obtain ⟨g1, g2⟩ := lax_get h.2
  refine ⟨by simp [g1], fun j u hj => ?_⟩
  cases j with
  | zero =>
   simp only [List.getElem?_cons_zero, Option.some.injEq] at hj
   subst hj
   exact ⟨a, rfl, h.1⟩
  | succ j => exact g2 j u (by simpa using hj)
theorem outs_put {hp : Tr AObj} {i : Nat} {x : Option AObj} : ∀ {n j : Nat}, i < j → outs (hp.put i x) j n = outs hp j n
 | 0, j, _ => rfl
 | n + 1, j, h => by
  simp only [outs]
  rw [Tr.get_put, if_neg (by omega), outs_put (n := n) (j := j + 1) (by omega)]
theorem specX_lax {P : Program} {f : FuncId} {N : Nat} {hp : Tr AObj} {args : List Value} {Q Q' : Out → List (List Value) → Prop} (h : SpecX P f (N + 1) hp args (xpost (N + 1) Q))
  (hq : ∀ r ls, Q r ls → ∃ c c' rest, ls = c :: rest ∧ lax c c' ∧ Q' r (c' :: rest)) : SpecX P f (N + 1) hp args (xpost (N + 1) Q') := by
 intro W ρ w args' h1 h2 h3
 refine (h W ρ w args' h1 h2 h3).mono ?_
 rintro e w' ⟨r, hp', nx', ρ', g1, g2, g3, g4⟩
 unfold xpost at g1
 split at g1
 case h_2 => exact g1.elim
 rename_i ls hls
 obtain ⟨c, c', rest, rfl, hl, hQ⟩ := hq r ls g1.2
 obtain ⟨l1, l2⟩ := lax_get hl
 have hok := g1.1
 simp only [outs] at hls
 split at hls
 case h_2 => cases hls
 rename_i c0 hc0
 split at hls
 case h_2 => cases hls
 rename_i ls0 hls0
 cases hls
 refine ⟨r, hp'.put 0 (some (.cells c' true)), nx', ρ', ?_, g2, ?_, g4⟩
 ·unfold xpost
  have e : outs (hp'.put 0 (some (.cells c' true))) 0 (N + 1) = some (c' :: rest) := by
   simp only [outs]
   rw [Tr.get_put, if_pos rfl, outs_put (by omega), hls0]
  rw [e]
  refine ⟨?_, hQ⟩
  simp only [okAll, Bool.and_eq_true] at hok ⊢
  refine ⟨List.all_eq_true.2 fun v hv => ?_, hok.2⟩
  obtain ⟨j, hj, rfl⟩ := List.getElem_of_mem hv
  obtain ⟨v, hv1, hv2⟩ := l2 j _ (List.getElem?_eq_getElem hj)
  rcases hv2 with rfl | ⟨_, sz, e⟩
  ·exact List.all_eq_true.1 hok.1 _ (List.mem_of_getElem? hv1)
  ·rw [e]; rfl
 ·refine g3.recell hc0 l1 fun cc s z cs t fz hpl hcs j u hj => ?_
  obtain ⟨ob, e1, e2⟩ := g3.obj 0 _ cc s z hc0 hpl
  rw [hcs] at e1
  cases e1
  obtain ⟨k1, k2, k3, k4, k5⟩ := e2
  obtain ⟨v, hv1, hv2⟩ := l2 j u hj
  obtain ⟨v', q1, q2⟩ := k4 j v hv1
  refine ⟨v', q1, ?_⟩
  rcases hv2 with rfl | ⟨rfl, sz, rfl⟩
  ·exact q2
  ·have h0 : VR0 ρ'.fr nilS v' := nl1_sound rfl q2
   cases h0
   exact VR0.lift (ρ := ρ') (.treeNil sz none 0)
def allN : Nat → (List Value → Prop) → Prop
 | 0, P => P []
 | n + 1, P => ∀ v, allN n fun l => P (v :: l)
theorem allN_get : ∀ {n : Nat} {P : List Value → Prop}, allN n P → ∀ l, l.length = n → P l
 | 0, P, h, [], _ => h
 | n + 1, P, h, v :: l, hl => allN_get (P := fun l => P (v :: l)) (h v) l (by simpa using hl)
 | 0, _, _, _ :: _, hl => by cases hl
 | _ + 1, _, _, [], hl => by cases hl
def c_vr (args : List Value) (conts : List (List Value)) (Post : Out → List (List Value) → Prop) : Prop :=
 ∃ (k a w : Int) (s : ByteArray), args = argsR ∧ conts = [cells0 k a, [ptr2, .int .i64 w], [.string s, .int .i64 0]] ∧ 2 ≤ k ∧ k ≤ 18 ∧ s.size < 4611686018427387904 ∧
  (∀ vs es r, rdBody k.toNat s = .ok (vs, es) r → ∀ x, x = mkEv k a vs es → Post retU [eventC x, [ptr2, .int .i64 w], [.string r, .int .i64 0]]) ∧
  ∀ e, rdBody k.toNat s = .err e → ∀ r, allN 40 fun c => Post (panE e) [c, [ptr2, .int .i64 w], [.string r, .int .i64 (.ofNat (e + 1))]]
theorem lax_refl : ∀ c : List Value, lax c c
 | [] => trivial
 | _ :: c => ⟨.inl rfl, lax_refl c⟩
theorem ok_vr : XEntOk Tryz.prog ⟨22, c_vr⟩ := by
 rintro args conts Post ⟨k, a, w, s, rfl, rfl, k1, k2, hs, hO, hE⟩
 refine specX_lax (N := 2) (Q := fun r ls => ∃ c c' rest, ls = c :: rest ∧ lax c c' ∧ Post r (c' :: rest)) (vr_X k1 k2 hs (fun vs es r h c hc => ?_) (fun e h c r hc => ?_)) fun r ls h => h
 ·exact ⟨c, _, _, rfl, hc, hO vs es r h _ rfl⟩
 ·exact ⟨c, c, _, rfl, lax_refl c, allN_get (hE e h r) c hc⟩
theorem e_isName (s : ByteArray) (H : HT) (Post : PV) : vcP Tryz.prog noCall 46 [(4, [0, 15])] [.string s] H Post = (T2 (True ∧ pIf (decide (s = ByteArray.mk #[])) (T4 (Post (vb false))) (T4 (pIf (decide ((↑s.size : Int) > 16)) (T2 (True ∧ Post (vb false))) (T4 ((True ∧ True) ∧ H (lpC Tryz.prog 46 4) (lpK Tryz.prog 46 4) (stV [(0, some (vs s)), (15, some (pt 0))] [(0, some (AObj.iter s 0))] 1))))))) := by kernel_rfl
theorem l_isName (s : ByteArray) (p : Nat) (H : HT) (Post : PV) : vcLP Tryz.prog noCall 46 [.string s] [(4, [0, 15])] 4 (stV [(0, some (.string s)), (15, some (.pointer (some ⟨0, 0, none⟩)))] [(0, some (.iter s p))] 1) H Post = (let q3 := (↑(Prod.fst (Utf8.decode s p)) : Int); let q8 := stV [(0, some (vs s)), (15, some (pt 0))] [(0, some (AObj.iter s (p + Prod.snd (Utf8.decode s p))))] 1; let q1 := (True ∧ pIf (decide ((↑p : Int) = 0)) (T4 (True ∧ Post (vb false))) (T4 (T2 ((True ∧ True) ∧ H (lpC Tryz.prog 46 4) (lpK Tryz.prog 46 4) q8)))); let q4 := (T4 (pIf (decide (q3 = 45)) (T4 (T2 q1)) (T4 (T2 (True ∧ pIf (decide ((↑p : Int) = 0)) (T4 (True ∧ Post (vb false))) (T4 (T2 (True ∧ Post (vb false))))))))); let q10 := T4 (True ∧ pIf (decide (q3 = 95)) (T8 q1) q4); let q2 := True ∧ (True ∧ True) ∧ H (lpC Tryz.prog 46 4) (lpK Tryz.prog 46 4) q8; let q7 := T4 (pIf (decide (q3 = 45)) (T4 (T2 q2)) (T4 (T2 q2))); let q9 := T2 (True ∧ pIf (decide (q3 ≤ 57)) (T8 (T2 q2)) (T4 (pIf (decide (q3 = 95)) (T8 q2) q7))); let q6 := T2 (True ∧ pIf (decide (q3 ≤ 57)) (T8 (T2 q1)) (T4 (pIf (decide (q3 = 95)) (T8 q1) q4))); let q5 := T2 (True ∧ pIf (decide (q3 ≤ 122)) (T4 (True ∧ pIf (decide (q3 ≥ 48)) q9 (T4 (True ∧ pIf (decide (q3 = 95)) (T8 q2) q7)))) (T4 (True ∧ pIf (decide (q3 ≥ 48)) q6 q10))); pIf (decide (p < s.size)) (T4 (T2 (True ∧ pIf (decide (q3 ≥ 65)) (T2 (True ∧ pIf (decide (q3 ≤ 90)) (T4 (T2 (pIf (decide (q3 ≥ 48)) q9 (T4 (True ∧ pIf (decide (q3 = 95)) (T8 q2) q7))))) (T4 (pIf (decide (q3 ≥ 97)) q5 (T4 (T2 (pIf (decide (q3 ≥ 48)) q6 q10))))))) (T4 (True ∧ pIf (decide (q3 ≥ 97)) q5 (T4 (T2 (pIf (decide (q3 ≥ 48)) q6 q10)))))))) (T2 (True ∧ Post (vb true)))) := by kernel_rfl
def callRN : VCall := inlCall Tryz.prog [53, 54] noCall 2
theorem e_rName (s : ByteArray) (H : HT) (Post : PV) : vcP Tryz.prog callRN 27 [(4, [0, 3])] [.string s] H Post = (let q1 := (↑(UInt8.toNat (Array.getD (ByteArray.data s) 0 0)) : Int); let q2 := T2 (True ∧ pIf (decide (q1 ≤ 90)) (T8 (H (lpC Tryz.prog 27 4) (lpK Tryz.prog 27 4) (stV [(0, some (vs s)), (3, some (vi 0))] [] 0))) (T4 (T2 (True ∧ Post (vb false))))); T2 (True ∧ pIf (decide (s = ByteArray.mk #[])) (T4 (T2 (Post (vb false)))) (T4 (pIf (decide ((↑s.size : Int) > 16)) (T4 (True ∧ Post (vb false))) (T2 (True ∧ (toI (vi 0) ≤ 0 ∧ 0 < (↑s.size : Int)) ∧ T2 (True ∧ pIf (decide (q1 ≥ 97)) (T2 (True ∧ pIf (decide (q1 ≤ 122)) (T8 (True ∧ H (lpC Tryz.prog 27 4) (lpK Tryz.prog 27 4) (stV [(0, some (vs s)), (3, some (vi 0))] [] 0))) (T4 (pIf (decide (q1 ≥ 65)) q2 (T8 (Post (vb false))))))) (T4 (True ∧ pIf (decide (q1 ≥ 65)) q2 (T8 (Post (vb false)))))))))))) := by kernel_rfl
theorem l_rName (s : ByteArray) (i : Int) (H : HT) (Post : PV) : vcLP Tryz.prog callRN 27 [.string s] [(4, [0, 3])] 4 (stV [(0, some (.string s)), (3, some (.int .i64 i))] [] 0) H Post = (let q4 := (0 ≤ i ∧ i < (↑s.size : Int)); let q2 := (↑(UInt8.toNat (Array.getD (ByteArray.data s) (Int.toNat i) 0)) : Int); let q3 := stV [(0, some (vs s)), (3, some (vi (IntKind.wrap IntKind.i64 (i + 1))))] [] 0; let q5 := H (lpC Tryz.prog 27 4) (lpK Tryz.prog 27 4) q3; let q7 := T4 (q4 ∧ True ∧ pIf (!decide (q2 = 45)) (T2 (True ∧ Post (vb false))) (T4 (T2 q5))); let q1 := True ∧ pIf (decide (q2 ≥ 48)) (T2 (True ∧ pIf (decide (q2 ≤ 57)) (T8 (T4 (True ∧ H (lpC Tryz.prog 27 4) (lpK Tryz.prog 27 4) q3))) (T4 (T2 (True ∧ q4 ∧ True ∧ pIf (!decide (q2 = 95)) q7 (T8 q5)))))) (T8 (q4 ∧ True ∧ pIf (!decide (q2 = 95)) q7 (T8 q5))); let q6 := T2 (True ∧ pIf (decide (q2 ≤ 90)) (T8 (T4 (T2 (True ∧ H (lpC Tryz.prog 27 4) (lpK Tryz.prog 27 4) q3)))) (T4 (T2 (True ∧ q4 ∧ T2 q1)))); T4 (pIf (decide (i < (↑s.size : Int))) (T2 (q4 ∧ T2 (True ∧ pIf (decide (q2 ≥ 97)) (T2 (True ∧ pIf (decide (q2 ≤ 122)) (T16 q5) (T4 (pIf (decide (q2 ≥ 65)) q6 (T8 (q4 ∧ T2 q1)))))) (T4 (True ∧ pIf (decide (q2 ≥ 65)) q6 (T8 (q4 ∧ T2 q1))))))) (T2 (Post (vb true))))) := by kernel_rfl
theorem callRN_ok : VCallOk Tryz.prog callRN := inlCall_ok mixed noCall_ok 2
def byteI (s : ByteArray) (i : Nat) : Int := ((s.data.getD i 0).toNat : Int)
def ltr (c : Int) : Prop := 97 ≤ c ∧ c ≤ 122 ∨ 65 ≤ c ∧ c ≤ 90
def nchr (c : Int) : Prop := ltr c ∨ 48 ≤ c ∧ c ≤ 57 ∨ c = 95 ∨ c = 45
instance (c : Int) : Decidable (ltr c) := by unfold ltr; infer_instance
instance (c : Int) : Decidable (nchr c) := by unfold nchr; infer_instance
def nameOk (s : ByteArray) : Prop := 1 ≤ s.size ∧ s.size ≤ 16 ∧ ltr (byteI s 0) ∧ ∀ i, i < s.size → nchr (byteI s i)
instance (s : ByteArray) : Decidable (nameOk s) := by unfold nameOk; infer_instance
def c_name (args : List Value) (Post : Value → Prop) : Prop := match args with
 | [.string s] => Post (.bool (decide (nameOk s)))
 | _ => False
theorem dec_low {s : ByteArray} {p : Nat} (h : p < s.size) (hb : byteI s p < 128) : ((Utf8.decode s p).1 : Int) = byteI s p ∧ (Utf8.decode s p).2 = 1 := by
 have e : s.data.getD p 0 = s[p]'h := by
  have h' : p < s.data.size := h
  unfold Array.getD
  rw [dif_pos h']
  rfl
 have hb' : (s[p]'h).toNat < 128 := by unfold byteI at hb; rw [e] at hb; omega
 rw [decode_ascii s p h hb']
 unfold byteI
 rw [e]
 exact ⟨rfl, rfl⟩
theorem dec_high {s : ByteArray} {p : Nat} (h : p < s.size) (hb : 128 ≤ byteI s p) : 128 ≤ ((Utf8.decode s p).1 : Int) := by
 have e : s.data.getD p 0 = s[p]'h := by
  have h' : p < s.data.size := h
  unfold Array.getD
  rw [dif_pos h']
  rfl
 have hb' : 128 ≤ (s[p]'h).toNat := by unfold byteI at hb; rw [e] at hb; omega
 have := (decode_high s p h hb').1
 omega
theorem size_zero {s : ByteArray} (h : s.size = 0) : s = ⟨#[]⟩ := by
 refine ba_ext ?_
 have : s.data.toList.length = 0 := by rw [Array.length_toList]; exact h
 rw [List.length_eq_zero_iff.1 this]
theorem ok_rName : EntOk Tryz.prog ⟨27, c_name⟩ := by
 intro args Post h
 unfold c_name at h
 dsimp only at h
 split at h
 case h_2 => exact h.elim
 rename_i s
 refine pure_P (vc := callRN) callRN_ok mixed (by kernel_rfl) (by kernel_rfl) _ (e_rName s _ _) ?_
 have no : ¬ nameOk s → Post (.bool false) := fun hn => of_b h (decide_eq_false hn)
 have all : s.size ≤ 16 → ltr (byteI s 0) → OkP 27 [.string s] 4 Post (stV [(0, some (.string s)), (3, some (.int .i64 (0 : Nat)))] [] 0) := fun h16 hl => by
  refine down (n := s.size) (p := fun k => (∀ i, i < k → nchr (byteI s i)) → OkP 27 [.string s] 4 Post (stV [(0, some (.string s)), (3, some (.int .i64 k))] [] 0)) (fun hall => ?_) (fun k hk ih hall => ?_) (fun i hi => by omega)
  ·refine ok_P (vc := callRN) callRN_ok mixed _ (l_rName s _ _ _) ?_
   have hy : Post (.bool true) := of_b h (decide_eq_true ⟨by
    rcases Nat.eq_zero_or_pos s.size with h0 | h0
    ·rw [size_zero h0] at hl; exact absurd hl (by decide)
    ·exact h0, h16, hl, hall⟩)
   simp only [true_and, pIf_iff, decide_eq_true_eq, decide_eq_false_iff_not, and_true]
   exact ⟨fun hh => by omega, fun _ => hy⟩
  ·refine ok_P (vc := callRN) callRN_ok mixed _ (l_rName s _ _ _) ?_
   have hX : nchr (byteI s k) → OkP 27 [.string s] 4 Post (stV [(0, some (.string s)), (3, some (.int .i64 ((k + 1 : Nat) : Int)))] [] 0) := fun hk' => ih fun i hi => by
    rcases Nat.lt_or_ge i k with h' | h'
    ·exact hall i h'
    ·obtain rfl : i = k := by omega
     exact hk'
   have hY : ¬ nchr (byteI s k) → Post (.bool false) := fun hn => no fun f => hn (f.2.2.2 k hk)
   rw [wrapSucc (by omega)]
   simp only [Int.toNat_natCast]
   change nchr (byteI s k) → OkAt _ _ _ _ _ _ _ at hX
   have ec : ((s.data.getD k 0).toNat : Int) = byteI s k := rfl
   simp only [ec]
   unfold nchr ltr at hX hY
   generalize byteI s k = c at hX hY ⊢
   simp only [true_and, and_true, pIf_iff, decide_eq_true_eq, decide_eq_false_iff_not, Bool.not_eq_eq_eq_not, Bool.not_true, Bool.not_false]
   repeat' (first
    | exact hX (by omega)
    | exact hY (by omega)
    | refine And.intro ?_ ?_
    | omega
    | intro _)
 simp only [true_and, and_true, pIf_iff, decide_eq_true_eq, decide_eq_false_iff_not]
 have ec : ((s.data.getD 0 0).toNat : Int) = byteI s 0 := rfl
 simp only [ec]
 refine ⟨fun h0 => no fun f => ?_, fun h0 => ⟨fun h1 => no fun f => ?_, fun h1 => ?_⟩⟩
 ·rw [h0] at f; exact absurd f.1 (by decide)
 ·have := f.2.1; omega
 have hs0 : s.size ≠ 0 := fun h' => h0 (size_zero h')
 have hX : ltr (byteI s 0) → OkAt _ _ _ _ _ _ _ := all (by omega)
 have hY : ¬ ltr (byteI s 0) → Post (.bool false) := fun hn => no fun f => hn f.2.2.1
 unfold ltr at hX hY
 generalize byteI s 0 = c at hX hY ⊢
 repeat' (first
  | exact hX (by omega)
  | exact hY (by omega)
  | refine And.intro ?_ ?_
  | omega
  | decide
  | intro _)
theorem ok_name : EntOk Tryz.prog ⟨46, c_name⟩ := by
 intro args Post h
 unfold c_name at h
 dsimp only at h
 split at h
 case h_2 => exact h.elim
 rename_i s
 refine pure_P (vc := noCall) noCall_ok mixed (by kernel_rfl) (by kernel_rfl) _ (e_isName s _ _) ?_
 have no : ¬ nameOk s → Post (.bool false) := fun hn => of_b h (decide_eq_false hn)
 simp only [true_and, and_true, pIf_iff, decide_eq_true_eq, decide_eq_false_iff_not]
 refine ⟨fun h0 => no fun f => ?_, fun h0 => ⟨fun h1 => no fun f => ?_, fun h1 => ?_⟩⟩
 ·rw [h0] at f; exact absurd f.1 (by decide)
 ·have := f.2.1; omega
 have hs0 : s.size ≠ 0 := fun h' => h0 (size_zero h')
 refine down (n := s.size) (p := fun k => (∀ i, i < k → nchr (byteI s i)) → (0 < k → ltr (byteI s 0)) → OkP 46 [.string s] 4 Post (stV [(0, some (.string s)), (15, some (.pointer (some ⟨0, 0, none⟩)))] [(0, some (.iter s k))] 1)) (fun hall hl => ?_) (fun k hk ih hall hl => ?_) (fun i hi => by omega) (fun h => by omega)
 ·refine ok_P (vc := noCall) noCall_ok mixed _ (l_isName s _ _ _) ?_
  have hy : Post (.bool true) := of_b h (decide_eq_true ⟨by omega, by omega, hl (by omega), hall⟩)
  refine pIf_intro (fun hh => absurd (of_decide_eq_true hh) (Nat.lt_irrefl _)) (fun _ => ?_)
  simp only [true_and, and_true]
  exact hy
 ·refine ok_P (vc := noCall) noCall_ok mixed _ (l_isName s _ _ _) ?_
  refine pIf_intro (fun _ => ?_) (fun hh => absurd hk (of_decide_eq_false hh))
  have hX : nchr (byteI s k) → (k = 0 → ltr (byteI s k)) → ((Utf8.decode s k).2 = 1) → OkP 46 [.string s] 4 Post (stV [(0, some (.string s)), (15, some (.pointer (some ⟨0, 0, none⟩)))] [(0, some (.iter s (k + (Utf8.decode s k).2)))] 1) := fun h1 h2 h3 => by
   rw [h3]
   refine ih (fun i hi => ?_) (fun _ => ?_)
   ·rcases Nat.lt_or_ge i k with h' | h'
    ·exact hall i h'
    ·obtain rfl : i = k := by omega
     exact h1
   ·rcases Nat.eq_zero_or_pos k with h' | h'
    ·subst h'; exact h2 rfl
    ·exact hl h'
  have hY : ¬ (nchr (byteI s k) ∧ (k = 0 → ltr (byteI s k))) → Post (.bool false) := fun hn => no fun f => hn ⟨f.2.2.2 k hk, fun hk0 => by subst hk0; exact f.2.2.1⟩
  change _ → _ → _ → OkAt _ _ _ _ _ _ _ at hX
  have hlow := dec_low hk
  have hhigh := dec_high hk
  generalize (Utf8.decode s k).2 = wd at hX hlow hhigh ⊢
  generalize ((Utf8.decode s k).1 : Int) = d at hX hlow hhigh ⊢
  unfold nchr ltr at hX hY
  generalize byteI s k = c at hX hY hlow hhigh
  simp only [true_and, and_true, pIf_iff, decide_eq_true_eq, decide_eq_false_iff_not, Bool.not_eq_eq_eq_not, Bool.not_true, Bool.not_false]
  by_cases hc : c < 128
  ·obtain ⟨rfl, rfl⟩ := hlow hc
   repeat' (first
    | exact hX (by omega) (by omega) rfl
    | exact hY (by omega)
    | refine And.intro ?_ ?_
    | omega
    | intro _)
  ·have hd := hhigh (by omega)
   have hyy := hY (by omega)
   repeat' (first
    | exact hyy
    | refine And.intro ?_ ?_
    | omega
    | intro _)
theorem e_split (s : ByteArray) (H : HT) (Post : PV) : vcP Tryz.prog (tabCall [⟨86, c_gs⟩] noCall) 73 [] [.string s, .string dot] H Post = (T2 (True ∧ ∃ (s_1 : ByteArray), eqL [vs s, vs dot, vi 0, vi (-1)] [vs s_1, vs dot, vi 0, vi (-1)] ∧ s_1.size < 16777216 ∧ T2 (Post (tree 1 (List.length (pieces s_1)) (encL (pieces s_1)))))) := by kernel_rfl
def tabN : List Ent := [⟨46, c_name⟩]
theorem e_names (n : Nat) (A : Array Value) (H : HT) (Post : PV) : vcP Tryz.prog (tabCall tabN noCall) 72 [(3, [0, 3, 9, 10, 11])] [tree 1 n A] H Post = (T8 (T2 (H (lpC Tryz.prog 72 3) (lpK Tryz.prog 72 3) (stV [(0, some (tree 1 n A)), (3, some (vi (IntKind.wrap IntKind.i64 ((↑n : Int) - 1)))), (9, some (tree 1 n A)), (10, some (vi (↑n : Int))), (11, some (vi 0))] [] 0)))) := by kernel_rfl
theorem l_names (n : Nat) (A : Array Value) (b i : Int) (H : HT) (Post : PV) : vcLP Tryz.prog (tabCall tabN noCall) 72 [tree 1 n A] [(3, [0, 3, 9, 10, 11])] 3 (stV [(0, some (tree 1 n A)), (3, some (.int .i64 b)), (9, some (tree 1 n A)), (10, some (.int .i64 n)), (11, some (.int .i64 i))] [] 0) H Post = (True ∧ pIf (decide (i < (↑n : Int))) ((0 ≤ i ∧ i < (↑n : Int)) ∧ cellAt A (Int.toNat i) 0 = vs (toS (cellAt A (Int.toNat i) 0)) ∧ T2 (pIf (decide (nameOk (toS (cellAt A (Int.toNat i) 0)))) (T8 (T2 (H (lpC Tryz.prog 72 3) (lpK Tryz.prog 72 3) (stV [(0, some (tree 1 n A)), (3, some (vi (IntKind.wrap IntKind.i64 (b + (↑(ByteArray.size (toS (cellAt A (Int.toNat i) 0))) : Int))))), (9, some (tree 1 n A)), (10, some (vi (↑n : Int))), (11, some (vi (IntKind.wrap IntKind.i64 (i + 1))))] [] 0)))) (T2 (True ∧ Post (vb false))))) (T2 (True ∧ pIf (decide ((↑n : Int) ≥ 1)) (T4 (pIf (decide ((↑n : Int) ≤ 8)) (T4 (pIf (decide (b ≤ 64)) (T2 (True ∧ Post (vb true))) (T2 (True ∧ Post (vb false))))) (T4 (True ∧ Post (vb false))))) (T4 (T2 (Post (vb false))))))) := by kernel_rfl
theorem e_parts (s : ByteArray) (H : HT) (Post : PV) : vcP Tryz.prog noCall 52 [(4, [0, 3, 4, 5])] [.string s] H Post = (T4 (T2 (H (lpC Tryz.prog 52 4) (lpK Tryz.prog 52 4) (stV [(0, some (vs s)), (3, some (nS)), (4, some (vi 0)), (5, some (vi 0))] [] 0)))) := by kernel_rfl
theorem l_parts0 (s : ByteArray) (a i : Int) (H : HT) (Post : PV) : vcLP Tryz.prog noCall 52 [.string s] [(4, [0, 3, 4, 5])] 4 (stV [(0, some (.string s)), (3, some (.slice none 0 0)), (4, some (.int .i64 a)), (5, some (.int .i64 i))] [] 0) H Post = (let q1 := (NLs [vs (ByteArray.extract s (Int.toNat a) (Int.toNat i))] ∧ True) ∧ H (lpC Tryz.prog 52 4) (lpK Tryz.prog 52 4) (stV [(0, some (vs s)), (3, some (Value.slice (some (Addr.mk 0 0 none)) 1 1)), (4, some (vi (IntKind.wrap IntKind.i64 (i + 1)))), (5, some (vi (IntKind.wrap IntKind.i64 (i + 1))))] [(0, some (AObj.cells [vs (ByteArray.extract s (Int.toNat a) (Int.toNat i))] true))] 1); T4 (pIf (decide (i ≤ (↑s.size : Int))) (T4 (pIf (decide (i = (↑s.size : Int))) (T4 (T2 ((0 ≤ i ∧ 0 ≤ a ∧ Int.toNat a ≤ Int.toNat i ∧ Int.toNat i ≤ s.size) ∧ True ∧ 1 ≤ 1 ∧ 1 ≤ 33554432 ∧ true = true ∧ 1 = 1 ∧ T8 q1))) (T2 (True ∧ (0 ≤ i ∧ i < (↑s.size : Int)) ∧ True ∧ pIf (decide ((↑(UInt8.toNat (Array.getD (ByteArray.data s) (Int.toNat i) 0)) : Int) = 46)) (T4 (True ∧ (0 ≤ i ∧ 0 ≤ a ∧ Int.toNat a ≤ Int.toNat i ∧ Int.toNat i ≤ s.size) ∧ True ∧ 1 ≤ 1 ∧ 1 ≤ 33554432 ∧ true = true ∧ 1 = 1 ∧ T8 q1)) (T4 (T2 (H (lpC Tryz.prog 52 4) (lpK Tryz.prog 52 4) (stV [(0, some (vs s)), (3, some (nS)), (4, some (vi a)), (5, some (vi (IntKind.wrap IntKind.i64 (i + 1))))] [] 0)))))))) (T2 (True ∧ Post (tree 1 0 #[]))))) := by kernel_rfl
theorem l_parts1 (s : ByteArray) (a i : Int) (k : Nat) (l : List Value) (H : HT) (Post : PV) : vcLP Tryz.prog noCall 52 [.string s] [(4, [0, 3, 4, 5])] 4 (stV [(0, some (.string s)), (3, some (.slice (some ⟨0, 0, none⟩) k 1)), (4, some (.int .i64 a)), (5, some (.int .i64 i))] [(0, some (.cells l true))] 1) H Post = (let q1 := (NLs (l ++ [vs (ByteArray.extract s (Int.toNat a) (Int.toNat i))]) ∧ True) ∧ H (lpC Tryz.prog 52 4) (lpK Tryz.prog 52 4) (stV [(0, some (vs s)), (3, some (Value.slice (some (Addr.mk 0 0 none)) (k + 1) 1)), (4, some (vi (IntKind.wrap IntKind.i64 (i + 1)))), (5, some (vi (IntKind.wrap IntKind.i64 (i + 1))))] [(0, some (AObj.cells (l ++ [vs (ByteArray.extract s (Int.toNat a) (Int.toNat i))]) true))] 1); T4 (pIf (decide (i ≤ (↑s.size : Int))) (T4 (pIf (decide (i = (↑s.size : Int))) (T4 (T2 ((0 ≤ i ∧ 0 ≤ a ∧ Int.toNat a ≤ Int.toNat i ∧ Int.toNat i ≤ s.size) ∧ True ∧ 1 ≤ 1 ∧ k + 1 ≤ 33554432 ∧ true = true ∧ 1 = 1 ∧ 0 + k * 1 = List.length l ∧ T8 q1))) (T2 (True ∧ (0 ≤ i ∧ i < (↑s.size : Int)) ∧ True ∧ pIf (decide ((↑(UInt8.toNat (Array.getD (ByteArray.data s) (Int.toNat i) 0)) : Int) = 46)) (T4 (True ∧ (0 ≤ i ∧ 0 ≤ a ∧ Int.toNat a ≤ Int.toNat i ∧ Int.toNat i ≤ s.size) ∧ True ∧ 1 ≤ 1 ∧ k + 1 ≤ 33554432 ∧ true = true ∧ 1 = 1 ∧ 0 + k * 1 = List.length l ∧ T8 q1)) (T4 (True ∧ (NLs l ∧ True) ∧ H (lpC Tryz.prog 52 4) (lpK Tryz.prog 52 4) (stV [(0, some (vs s)), (3, some (Value.slice (some (Addr.mk 0 0 none)) k 1)), (4, some (vi a)), (5, some (vi (IntKind.wrap IntKind.i64 (i + 1))))] [(0, some (AObj.cells l true))] 1))))))) (T2 ((0 + k * 1 ≤ List.length l ∧ NLs l) ∧ Post (tree 1 k (chunks 1 k (List.drop 0 l))))))) := by kernel_rfl
def c_split (args : List Value) (Post : Value → Prop) : Prop := ∃ s : ByteArray, args = [.string s, .string dot] ∧ s.size < 16777216 ∧ Post (tree 1 (pieces s).length (encL (pieces s)))
theorem ok_split : EntOk Tryz.prog ⟨73, c_split⟩ := by
 rintro args Post ⟨s, rfl, hs, h⟩
 refine pure_P (vc := tabCall [⟨86, c_gs⟩] noCall) (tabCall_ok (by
  intro e he
  simp only [List.mem_cons, List.not_mem_nil, or_false] at he
  subst he
  exact ok_gs) noCall_ok) mixed (by kernel_rfl) (by kernel_rfl) _ (e_split s _ _) ?_
 repeat (first | exact ⟨s, rfl, hs, by repeat (first | exact h | refine And.intro trivial ?_)⟩ | refine And.intro trivial ?_)
theorem idx_is : ∀ {l : List UInt8} {m : Nat} (_ : m < l.length), (∀ j, j < m → l.getD j 0 ≠ 46) → l.getD m 0 = 46 → Lib.indexByte l 46 = m
 | [], m, hm, _, _ => by simp at hm
 | c :: l, m, hm, h, h46 => by
  unfold Lib.indexByte
  cases m with
  | zero =>
   have : c = 46 := by simpa using h46
   subst this
   rfl
  | succ m =>
   have hc : c ≠ 46 := by simpa using h 0 (by omega)
   have hb : (c == 46) = false := by simp [hc]
   have ih := idx_is (l := l) (m := m) (by simpa using hm) (fun j hj => by simpa using h (j + 1) (by omega)) (by simpa using h46)
   rw [hb, ih]
   simp only [Bool.false_eq_true, if_false]
   have : ((m : Int) == -1) = false := by simp
   rw [this]
   simp
theorem cnt_zero {l : List UInt8} (h : ∀ j, j < l.length → l.getD j 0 ≠ 46) : Lib.countByte l 46 = 0 := by
 unfold Lib.countByte
 rw [List.count_eq_zero]
 intro hm
 obtain ⟨j, hj, e⟩ := List.mem_iff_getElem.1 hm
 refine h j hj ?_
 simp [List.getD, List.getElem?_eq_getElem hj, e]
theorem pieces_ne (s : ByteArray) : pieces s ≠ [] := fun h => by
 have := congrArg List.length h
 unfold pieces at this
 rw [List.length_map, splitL_len] at this
 simp at this
def stParts (s : ByteArray) (done : List ByteArray) (a i : Nat) : AS := match done with
 | [] => stV [(0, some (.string s)), (3, some (.slice none 0 0)), (4, some (.int .i64 a)), (5, some (.int .i64 i))] [] 0
 | d :: ds => stV [(0, some (.string s)), (3, some (.slice (some ⟨0, 0, none⟩) (d :: ds).length 1)), (4, some (.int .i64 a)), (5, some (.int .i64 i))] [(0, some (.cells ((d :: ds).map Value.string) true))] 1
theorem NLs_str (l : List ByteArray) : NLs (l.map Value.string) := fun v hv => by
 obtain ⟨s, _, rfl⟩ := List.mem_map.1 hv
 rfl
def c_parts (args : List Value) (Post : Value → Prop) : Prop := ∃ s : ByteArray, args = [.string s] ∧ s.size < 16777216 ∧ Post (tree 1 (pieces s).length (encL (pieces s)))
theorem parts_round {s : ByteArray} {Post : Value → Prop} {done : List ByteArray} {a i : Nat} (hs : s.size < 16777216) (hk : done.length ≤ a) (ha : a ≤ i) (hi : i ≤ s.size)
  (h1 : i = s.size ∨ byteI s i = 46 → OkP 52 [.string s] 4 Post (stParts s (done ++ [s.extract a i]) (i + 1) (i + 1)))
  (h2 : i < s.size → byteI s i ≠ 46 → OkP 52 [.string s] 4 Post (stParts s done a (i + 1))) : OkP 52 [.string s] 4 Post (stParts s done a i) := by
 have ei : ((i : Nat) : Int).toNat = i := by omega
 have ea : ((a : Nat) : Int).toNat = a := by omega
 have ew : IntKind.i64.wrap ((i : Int) + 1) = ((i + 1 : Nat) : Int) := wrapSucc (by omega)
 have ec : ((s.data.getD i 0).toNat : Int) = byteI s i := rfl
 cases done with
 | nil =>
  refine ok_P (vc := noCall) noCall_ok mixed _ (l_parts0 s _ _ _ _) ?_
  simp only [ei, ea, ew, ec, true_and]
  refine pIf_intro (fun _ => ?_) (fun hh => by have := of_decide_eq_false hh; omega)
  refine pIf_intro (fun hh => ?_) (fun hh => ?_)
  ·exact ⟨⟨by omega, by omega, ha, hi⟩, by omega, by omega, ⟨NLs_str [s.extract a i], trivial⟩, h1 (.inl (by have := of_decide_eq_true hh; omega))⟩
  ·have hlt : i < s.size := by have := of_decide_eq_false hh; omega
   refine ⟨⟨by omega, by omega⟩, pIf_intro (fun hb => ?_) (fun hb => ?_)⟩
   ·exact ⟨⟨by omega, by omega, ha, hi⟩, by omega, by omega, ⟨NLs_str [s.extract a i], trivial⟩, h1 (.inr (of_decide_eq_true hb))⟩
   ·exact h2 hlt (of_decide_eq_false hb)
 | cons d ds =>
  refine ok_P (vc := noCall) noCall_ok mixed _ (l_parts1 s _ _ _ _ _ _) ?_
  simp only [ei, ea, ew, ec, true_and]
  have hlen : (d :: ds).length ≤ 16777216 := by omega
  have el : (List.map Value.string (d :: ds)) ++ [Value.string (s.extract a i)] = List.map Value.string (d :: ds ++ [s.extract a i]) := by simp
  have en : (d :: ds).length + 1 = (d :: ds ++ [s.extract a i]).length := by simp
  have fit : 0 + (d :: ds).length * 1 = (List.map Value.string (d :: ds)).length := by simp
  refine pIf_intro (fun _ => ?_) (fun hh => by have := of_decide_eq_false hh; omega)
  refine pIf_intro (fun hh => ?_) (fun hh => ?_)
  ·have hx := h1 (.inl (by have := of_decide_eq_true hh; omega))
   rw [el, en]
   exact ⟨⟨by omega, by omega, ha, hi⟩, by omega, by rw [← en]; omega, fit, ⟨NLs_str _, trivial⟩, hx⟩
  ·have hlt : i < s.size := by have := of_decide_eq_false hh; omega
   refine ⟨⟨by omega, by omega⟩, pIf_intro (fun hb => ?_) (fun hb => ?_)⟩
   ·have hx := h1 (.inr (of_decide_eq_true hb))
    rw [el, en]
    exact ⟨⟨by omega, by omega, ha, hi⟩, by omega, by rw [← en]; omega, fit, ⟨NLs_str _, trivial⟩, hx⟩
   ·exact ⟨⟨NLs_str _, trivial⟩, h2 hlt (of_decide_eq_false hb)⟩
theorem ok_parts : EntOk Tryz.prog ⟨52, c_parts⟩ := by
 rintro args Post ⟨s, rfl, hs, h⟩
 refine pure_P (vc := noCall) noCall_ok mixed (by kernel_rfl) (by kernel_rfl) _ (e_parts s _ _) ?_
 have hlast : OkP 52 [.string s] 4 Post (stParts s (pieces s) (s.size + 1) (s.size + 1)) := by
  cases hp : pieces s with
  | nil => exact absurd hp (pieces_ne s)
  | cons d ds =>
   refine ok_P (vc := noCall) noCall_ok mixed _ (l_parts1 s _ _ _ _ _ _) ?_
   simp only [true_and]
   refine pIf_intro (fun hh => by have := of_decide_eq_true hh; omega) (fun _ => ?_)
   rw [hp] at h
   have e : chunks 1 (d :: ds).length (List.drop 0 (List.map Value.string (d :: ds))) = encL (d :: ds) := by
    show ((List.map Value.string (d :: ds)).take _).toArray = _
    rw [List.take_of_length_le (by simp)]
    rfl
   rw [e]
   exact ⟨⟨by simp, NLs_str _⟩, h⟩
 have hll : s.data.toList.length = s.size := by rw [Array.length_toList]; rfl
 have hx : ∀ a, a ≤ s.size → (s.extract a s.size).data.toList = s.data.toList.drop a := fun a ha => by rw [ext_list, List.take_of_length_le (by rw [List.length_drop, hll]; omega)]
 have hby : ∀ i, byteI s i = 46 ↔ s.data.toList.getD i 0 = 46 := fun i => by
  unfold byteI
  have e : s.data.getD i 0 = s.data.toList.getD i 0 := by simp [Array.getD_eq_getD_getElem?, List.getD_eq_getElem?_getD]
  rw [e]
  constructor
  ·intro h'
   have : (s.data.toList.getD i 0).toNat = 46 := by omega
   exact UInt8.toNat_inj.1 (this.trans rfl)
  ·intro h'; rw [h']; rfl
 have key : ∀ (n i a : Nat) (done : List ByteArray), i + n = s.size → a ≤ i → done.length ≤ a → done ++ pieces (s.extract a s.size) = pieces s → (∀ j, a ≤ j → j < i → byteI s j ≠ 46) → OkP 52 [.string s] 4 Post (stParts s done a i) := by
  intro n
  induction n with
  | zero =>
   intro i a done hi ha hk hp hno
   obtain rfl : i = s.size := by omega
   refine parts_round hs hk ha (Nat.le_refl _) (fun _ => ?_) (fun hlt => by omega)
   have h0 : pieces (s.extract a s.size) = [s.extract a s.size] := by
    refine pieces_none (cnt_zero fun j hj => ?_)
    rw [hx a ha] at hj ⊢
    rw [List.length_drop, hll] at hj
    have := hno (a + j) (by omega) (by omega)
    rw [Ne, hby] at this
    simpa [List.getD_eq_getElem?_getD] using this
   rw [h0] at hp
   rw [hp]
   exact hlast
  | succ n ih =>
   intro i a done hi ha hk hp hno
   refine parts_round hs hk ha (by omega) (fun hor => ?_) (fun hlt hb => ?_)
   ·have h46 : byteI s i = 46 := by
     rcases hor with h' | h'
     ·omega
     ·exact h'
    have hidx : Lib.indexByte (s.extract a s.size).data.toList 46 = ((i - a : Nat) : Int) := by
     rw [hx a (by omega)]
     refine idx_is (by rw [List.length_drop, hll]; omega) (fun j hj => ?_) ?_
     ·have := hno (a + j) (by omega) (by omega)
      rw [Ne, hby] at this
      simpa [List.getD_eq_getElem?_getD] using this
     ·have := (hby i).1 h46
      have e : a + (i - a) = i := by omega
      simpa [List.getD_eq_getElem?_getD, e] using this
    obtain ⟨g1, g2, _⟩ := pieces_some hidx
    have e1 : (s.extract a s.size).extract 0 (i - a) = s.extract a i := by
     refine ba_ext ?_
     rw [ext_list, hx a (by omega), ext_list]
     simp
    have e2 : (s.extract a s.size).extract (i - a + 1) (s.extract a s.size).size = s.extract (i + 1) s.size := by
     refine ba_ext ?_
     rw [ext_list, hx a (by omega), hx (i + 1) (by omega), List.drop_drop, List.take_of_length_le (by rw [List.length_drop, hll, ext_size]; omega)]
     congr 1
     omega
    rw [e1, e2] at g2
    exact ih (i + 1) (i + 1) _ (by omega) (Nat.le_refl _) (by simp; omega) (by rw [← hp, g2]; simp) (fun j h1 h2 => by omega)
   ·exact ih (i + 1) a done (by omega) (by omega) hk hp (fun j h1 h2 => by
     rcases Nat.lt_or_ge j i with h' | h'
     ·exact hno j h1 h'
     ·obtain rfl : j = i := by omega
      exact hb)
 have := key s.size 0 0 [] (by omega) (Nat.le_refl _) (Nat.le_refl _) (by
  have : s.extract 0 s.size = s := by
   refine ba_ext ?_
   rw [hx 0 (by omega), List.drop_zero]
  rw [this]; rfl) (fun j h1 h2 => by omega)
 repeat (first | exact this | refine And.intro trivial ?_)
def namesOk (l : List ByteArray) : Prop := 1 ≤ l.length ∧ l.length ≤ 8 ∧ (∀ p ∈ l, nameOk p) ∧ l.length + volL l ≤ 65
instance (l : List ByteArray) : Decidable (namesOk l) := by unfold namesOk; infer_instance
def c_names (args : List Value) (Post : Value → Prop) : Prop := ∃ l : List ByteArray, args = [tree 1 l.length (encL l)] ∧ l.length + volL l ≤ 16777216 ∧ Post (.bool (decide (namesOk l)))
theorem volL_tk (l : List ByteArray) (k : Nat) (h : k < l.length) : volL (l.take (k + 1)) = volL (l.take k) + l[k].size := by
 unfold volL
 rw [List.take_succ_eq_append_getElem h, List.map_append, List.sum_append]
 simp
theorem ok_names : EntOk Tryz.prog ⟨72, c_names⟩ := by
 rintro args Post ⟨l, rfl, hv, h⟩
 have hok : VCallOk Tryz.prog (tabCall tabN noCall) := tabCall_ok (by
  intro e he
  simp only [tabN, List.mem_cons, List.not_mem_nil, or_false] at he
  subst he
  exact ok_name) noCall_ok
 refine pure_P (vc := tabCall tabN noCall) hok mixed (by kernel_rfl) (by kernel_rfl) _ (e_names _ _ _ _) ?_
 have no : ¬ namesOk l → Post (.bool false) := fun hn => of_b h (decide_eq_false hn)
 simp only [true_and]
 have key := down (n := l.length) (p := fun k => (∀ i (hi : i < l.length), i < k → nameOk l[i]) → OkP 72 [tree 1 l.length (encL l)] 3 Post (stV [(0, some (tree 1 l.length (encL l))), (3, some (.int .i64 ((l.length : Int) - 1 + (volL (l.take k) : Nat)))), (9, some (tree 1 l.length (encL l))), (10, some (.int .i64 l.length)), (11, some (.int .i64 k))] [] 0)) (fun hall => ?_) (fun k hk ih hall => ?_) (fun i hi h0 => by omega)
 ·rw [wrap64 (by omega) (by omega)]
  have e : ((l.length : Int) - 1 + ((volL (l.take 0) : Nat) : Int)) = (l.length : Int) - 1 := by simp [volL]
  rw [e] at key
  exact key
 ·refine ok_P (vc := tabCall tabN noCall) hok mixed _ (l_names _ _ _ _ _ _) ?_
  simp only [true_and]
  have hall' : ∀ p ∈ l, nameOk p := fun p hp => by
   obtain ⟨i, hi, rfl⟩ := List.mem_iff_getElem.1 hp
   exact hall i hi hi
  refine pIf_intro (fun hh => by have := of_decide_eq_true hh; omega) (fun _ => ?_)
  rw [List.take_of_length_le (Nat.le_refl _)]
  refine pIf_intro (fun h1 => ?_) (fun h1 => no fun f => absurd f.1 (by have := of_decide_eq_false h1; omega))
  refine pIf_intro (fun h2 => ?_) (fun h2 => no fun f => absurd f.2.1 (by have := of_decide_eq_false h2; omega))
  have h1 := of_decide_eq_true h1
  have h2 := of_decide_eq_true h2
  exact pIf_intro (fun h3 => of_b h (decide_eq_true ⟨by omega, by omega, hall', by have := of_decide_eq_true h3; omega⟩)) (fun h3 => no fun f => absurd f.2.2.2 (by have := of_decide_eq_false h3; omega))
 ·refine ok_P (vc := tabCall tabN noCall) hok mixed _ (l_names _ _ _ _ _ _) ?_
  have ek : ((k : Nat) : Int).toNat = k := by omega
  simp only [true_and, ek, cell_str hk, toS]
  refine pIf_intro (fun _ => ?_) (fun hh => by have := of_decide_eq_false hh; omega)
  refine ⟨⟨by omega, by omega⟩, pIf_intro (fun hn => ?_) (fun hn => no fun f => absurd (f.2.2.1 _ (List.getElem_mem hk)) (of_decide_eq_false hn))⟩
  have hv1 := volL_tk l k hk
  have hv2 := volL_take l (k + 1)
  have ew : IntKind.i64.wrap ((l.length : Int) - 1 + ((volL (l.take k) : Nat) : Int) + (l[k].size : Int)) = (l.length : Int) - 1 + ((volL (l.take (k + 1)) : Nat) : Int) := by
   rw [wrap64 (by omega) (by omega)]; omega
  rw [ew, wrapSucc (by omega)]
  exact ih fun i hi hik => by
   rcases Nat.lt_or_ge i k with h' | h'
   ·exact hall i hi h'
   ·obtain rfl : i = k := by omega
    exact of_decide_eq_true hn
def idOk (s : ByteArray) : Prop := s.size ≤ 64 ∧ (pieces s).length ≤ 8 ∧ ∀ p ∈ pieces s, nameOk p
instance (s : ByteArray) : Decidable (idOk s) := by unfold idOk; infer_instance
theorem pieces_vol (s : ByteArray) : (pieces s).length + volL (pieces s) = s.size + 1 := by
 have key : ∀ l : List UInt8, (splitL l).length + ((splitL l).map List.length).sum = l.length + 1 := by
  intro l
  induction l with
  | nil => rfl
  | cons c l ih =>
   by_cases hc : c = 46
   ·subst hc
    simp only [splitL, if_true, List.length_cons, List.map_cons, List.sum_cons, List.length_nil]
    omega
   ·simp only [splitL, hc, if_false]
    split
    ·rename_i p ps hp
     rw [hp] at ih
     simp only [List.length_cons, List.map_cons, List.sum_cons] at ih ⊢
     omega
    ·rename_i hp
     rw [hp] at ih
     simp at ih
 have h := key s.data.toList
 have hl : s.data.toList.length = s.size := by rw [Array.length_toList]; rfl
 unfold pieces volL
 rw [List.length_map, List.map_map, ← hl]
 have e : (List.map (ByteArray.size ∘ fun l => (⟨l.toArray⟩ : ByteArray)) (splitL s.data.toList)) = (splitL s.data.toList).map List.length := List.map_congr_left fun l _ => by simp [ByteArray.size]
 rw [e]
 exact h
def tabId : List Ent := [⟨73, c_split⟩, ⟨72, c_names⟩]
theorem e_id (s : ByteArray) (H : HT) (Post : PV) : vcP Tryz.prog (tabCall tabId noCall) 45 [] [.string s] H Post = (T4 (pIf (decide ((↑s.size : Int) ≤ 64)) (T2 (∃ (s_1 : ByteArray), eqL [vs s, vs (ByteArray.mk #[46])] [vs s_1, vs dot] ∧ s_1.size < 16777216 ∧ ∃ (l : List ByteArray), eqL [tree 1 (List.length (pieces s_1)) (encL (pieces s_1))] [tree 1 l.length (encL l)] ∧ List.length l + volL l ≤ 16777216 ∧ pIf (decide (namesOk l)) (T2 (True ∧ Post (vb true))) (T2 (True ∧ Post (vb false))))) (T4 (Post (vb false))))) := by kernel_rfl
def tabRId : List Ent := [⟨52, c_parts⟩, ⟨27, c_name⟩]
theorem e_rid (s : ByteArray) (H : HT) (Post : PV) : vcP Tryz.prog (tabCall tabRId noCall) 25 [(5, [3, 4])] [.string s] H Post = (T2 (∃ (s_1 : ByteArray), eqL [vs s] [vs s_1] ∧ s_1.size < 16777216 ∧ T4 (pIf (decide ((↑s.size : Int) > 64)) (T4 (Post (vb false))) (T4 (pIf (decide ((↑(List.length (pieces s_1)) : Int) > 8)) (T2 (True ∧ Post (vb false))) (T4 (H (lpC Tryz.prog 25 5) (lpK Tryz.prog 25 5) (stV [(3, some (tree 1 (List.length (pieces s_1)) (encL (pieces s_1)))), (4, some (vi 0))] [] 0)))))))) := by kernel_rfl
theorem l_rid (s : ByteArray) (n : Nat) (A : Array Value) (i : Int) (H : HT) (Post : PV) : vcLP Tryz.prog (tabCall tabRId noCall) 25 [.string s] [(5, [3, 4])] 5 (stV [(3, some (tree 1 n A)), (4, some (.int .i64 i))] [] 0) H Post = (T4 (pIf (decide (i < (↑n : Int))) (T2 ((0 ≤ i ∧ i < (↑n : Int)) ∧ cellAt A (Int.toNat i) 0 = vs (toS (cellAt A (Int.toNat i) 0)) ∧ pIf (decide (nameOk (toS (cellAt A (Int.toNat i) 0)))) (T4 (T2 (H (lpC Tryz.prog 25 5) (lpK Tryz.prog 25 5) (stV [(3, some (tree 1 n A)), (4, some (vi (IntKind.wrap IntKind.i64 (i + 1))))] [] 0)))) (T2 (True ∧ Post (vb false))))) (T2 (Post (vb true))))) := by kernel_rfl
def c_id (args : List Value) (Post : Value → Prop) : Prop := ∃ s : ByteArray, args = [.string s] ∧ s.size < 16777000 ∧ Post (.bool (decide (idOk s)))
theorem ok_id : EntOk Tryz.prog ⟨45, c_id⟩ := by
 rintro args Post ⟨s, rfl, hs, h⟩
 have hok : VCallOk Tryz.prog (tabCall tabId noCall) := tabCall_ok (by
  intro e he
  simp only [tabId, List.mem_cons, List.not_mem_nil, or_false] at he
  rcases he with rfl | rfl
  ·exact ok_split
  ·exact ok_names) noCall_ok
 refine pure_P (vc := tabCall tabId noCall) hok mixed (by kernel_rfl) (by kernel_rfl) _ (e_id s _ _) ?_
 simp only [true_and]
 have no : ¬ idOk s → Post (.bool false) := fun hn => of_b h (decide_eq_false hn)
 refine pIf_intro (fun h1 => ?_) (fun h1 => no fun f => absurd f.1 (by have := of_decide_eq_false h1; omega))
 have h1 := of_decide_eq_true h1
 have hv := pieces_vol s
 refine ⟨s, rfl, by omega, pieces s, rfl, by omega, pIf_intro (fun h2 => ?_) (fun h2 => no fun f => ?_)⟩
 ·obtain ⟨_, g2, g3, _⟩ := of_decide_eq_true h2
  exact of_b h (decide_eq_true ⟨by omega, g2, g3⟩)
 ·refine of_decide_eq_false h2 ⟨?_, f.2.1, f.2.2, by omega⟩
  rcases Nat.eq_zero_or_pos (pieces s).length with h0 | h0
  ·exact absurd (List.eq_nil_of_length_eq_zero h0) (pieces_ne s)
  ·exact h0
theorem ok_rid : EntOk Tryz.prog ⟨25, c_id⟩ := by
 rintro args Post ⟨s, rfl, hs, h⟩
 have hok : VCallOk Tryz.prog (tabCall tabRId noCall) := tabCall_ok (by
  intro e he
  simp only [tabRId, List.mem_cons, List.not_mem_nil, or_false] at he
  rcases he with rfl | rfl
  ·exact ok_parts
  ·exact ok_rName) noCall_ok
 refine pure_P (vc := tabCall tabRId noCall) hok mixed (by kernel_rfl) (by kernel_rfl) _ (e_rid s _ _) ?_
 simp only [true_and]
 have no : ¬ idOk s → Post (.bool false) := fun hn => of_b h (decide_eq_false hn)
 refine ⟨s, rfl, by omega, pIf_intro (fun h1 => no fun f => absurd f.1 (by have := of_decide_eq_true h1; omega)) (fun h1 => ?_)⟩
 refine pIf_intro (fun h2 => no fun f => absurd f.2.1 (by have := of_decide_eq_true h2; omega)) (fun h2 => ?_)
 have h1 := of_decide_eq_false h1
 have h2 := of_decide_eq_false h2
 have key := down (n := (pieces s).length) (p := fun k => (∀ i (hi : i < (pieces s).length), i < k → nameOk (pieces s)[i]) → OkP 25 [.string s] 5 Post (stV [(3, some (tree 1 (pieces s).length (encL (pieces s)))), (4, some (.int .i64 k))] [] 0)) (fun hall => ?_) (fun k hk ih hall => ?_) (fun i hi h0 => by omega)
 ·exact key
 ·refine ok_P (vc := tabCall tabRId noCall) hok mixed _ (l_rid _ _ _ _ _ _) ?_
  simp only [true_and]
  refine pIf_intro (fun hh => by have := of_decide_eq_true hh; omega) (fun _ => ?_)
  refine of_b h (decide_eq_true ⟨by omega, by omega, fun p hp => ?_⟩)
  obtain ⟨i, hi, rfl⟩ := List.mem_iff_getElem.1 hp
  exact hall i hi hi
 ·refine ok_P (vc := tabCall tabRId noCall) hok mixed _ (l_rid _ _ _ _ _ _) ?_
  have ek : ((k : Nat) : Int).toNat = k := by omega
  simp only [true_and, ek, cell_str hk, toS]
  refine pIf_intro (fun _ => ?_) (fun hh => by have := of_decide_eq_false hh; omega)
  refine ⟨⟨by omega, by omega⟩, pIf_intro (fun hn => ?_) (fun hn => no fun f => absurd (f.2.2 _ (List.getElem_mem hk)) (of_decide_eq_false hn))⟩
  rw [wrapSucc (by omega)]
  exact ih fun i hi hik => by
   rcases Nat.lt_or_ge i k with h' | h'
   ·exact hall i hi h'
   ·obtain rfl : i = k := by omega
    exact of_decide_eq_true hn
def nameL : List ByteArray := [⟨#[]⟩, ⟨#[111, 114, 100, 101, 114]⟩, ⟨#[115, 104, 101, 101, 116]⟩, ⟨#[98, 97, 114]⟩, ⟨#[98, 117, 121]⟩, ⟨#[110, 101, 115, 116]⟩, ⟨#[115, 97, 119]⟩, ⟨#[115, 99, 114, 97, 112]⟩, ⟨#[102, 105, 116]⟩, ⟨#[119, 101, 108, 100]⟩, ⟨#[105, 110, 115, 112, 101, 99, 116]⟩, ⟨#[114, 101, 112, 97, 105, 114]⟩, ⟨#[112, 97, 99, 107, 97, 103, 101]⟩, ⟨#[119, 101, 105, 103, 104]⟩, ⟨#[101, 114, 101, 99, 116]⟩, ⟨#[112, 101, 114, 109, 105, 116]⟩, ⟨#[116, 101, 115, 116]⟩, ⟨#[108, 97, 117, 110, 99, 104]⟩, ⟨#[100, 101, 108, 105, 118, 101, 114]⟩]
def nameOf (k : Int) : ByteArray := if k < 0 then ⟨#[]⟩ else nameL.getD k.toNat ⟨#[]⟩
def c_nm (args : List Value) (Post : Value → Prop) : Prop := ∃ k : Int, args = [.int .i64 k] ∧ Post (.string (nameOf k))
theorem e_name (k : Int) (H : HT) (Post : PV) : vcP Tryz.prog noCall 12 [] [.int .i64 k] H Post = (let q1 := #[Value.agg #[vz, vs (ByteArray.mk #[111, 114, 100, 101, 114]), vs (ByteArray.mk #[115, 104, 101, 101, 116]), vs (ByteArray.mk #[98, 97, 114]), vs (ByteArray.mk #[98, 117, 121]), vs (ByteArray.mk #[110, 101, 115, 116]), vs (ByteArray.mk #[115, 97, 119]), vs (ByteArray.mk #[115, 99, 114, 97, 112]), vs (ByteArray.mk #[102, 105, 116]), vs (ByteArray.mk #[119, 101, 108, 100]), vs (ByteArray.mk #[105, 110, 115, 112, 101, 99, 116]), vs (ByteArray.mk #[114, 101, 112, 97, 105, 114]), vs (ByteArray.mk #[112, 97, 99, 107, 97, 103, 101]), vs (ByteArray.mk #[119, 101, 105, 103, 104]), vs (ByteArray.mk #[101, 114, 101, 99, 116]), vs (ByteArray.mk #[112, 101, 114, 109, 105, 116]), vs (ByteArray.mk #[116, 101, 115, 116]), vs (ByteArray.mk #[108, 97, 117, 110, 99, 104]), vs (ByteArray.mk #[100, 101, 108, 105, 118, 101, 114])]]; T2 (True ∧ pIf (decide (k < 0)) (T4 (Post (vz))) (T2 (True ∧ pIf (decide (k ≥ 19)) (T2 (True ∧ Post (vz))) (T2 ((0 ≤ k ∧ k < (↑19 : Int)) ∧ cellAt q1 0 (0 + Int.toNat k * 1) = vs (toS (cellAt q1 0 (0 + Int.toNat k * 1))) ∧ T2 (Post (vs (toS (cellAt q1 0 (0 + Int.toNat k * 1))))))))))) := by kernel_rfl
theorem kinds0 {k : Int} (h1 : 0 ≤ k) (h2 : k < 19) : k = 0 ∨ k = 1 ∨ k = 2 ∨ k = 3 ∨ k = 4 ∨ k = 5 ∨ k = 6 ∨ k = 7 ∨ k = 8 ∨ k = 9 ∨ k = 10 ∨ k = 11 ∨ k = 12 ∨ k = 13 ∨ k = 14 ∨ k = 15 ∨ k = 16 ∨ k = 17 ∨ k = 18 := by omega
theorem nameOf_big {k : Int} (h : k < 0 ∨ 19 ≤ k) : nameOf k = ⟨#[]⟩ := by
 unfold nameOf
 split
 ·rfl
 ·rw [List.getD_eq_getElem?_getD, List.getElem?_eq_none (by show 19 ≤ k.toNat; omega)]
  rfl
theorem ok_nm : EntOk Tryz.prog ⟨12, c_nm⟩ := by
 rintro args Post ⟨k, rfl, h⟩
 refine pure_P (vc := noCall) noCall_ok mixed (by kernel_rfl) (by kernel_rfl) _ (e_name k _ _) ?_
 simp only [true_and, and_true]
 refine pIfD (fun hk => ?_) (fun hk => pIfD (fun hk2 => ?_) (fun hk2 => ?_))
 ·rw [nameOf_big (.inl hk)] at h; exact h
 ·rw [nameOf_big (.inr (by omega))] at h; exact h
 ·refine ⟨⟨by omega, by omega⟩, ?_⟩
  rcases kinds0 (k := k) (by omega) (by omega) with rfl | rfl | rfl | rfl | rfl | rfl | rfl | rfl | rfl | rfl | rfl | rfl | rfl | rfl | rfl | rfl | rfl | rfl | rfl
  all_goals exact ⟨by kernel_rfl, Eq.mpr (by kernel_rfl) h⟩
def isItem (k : Int) : Prop := k = 4 ∨ k = 7 ∨ k = 8 ∨ k = 12 ∨ k = 16 ∨ k = 9 ∨ k = 11 ∨ k = 10
def isOf (k : Int) : Prop := k = 9 ∨ k = 11
def isBy (k : Int) : Prop := k = 9 ∨ k = 11 ∨ k = 4
instance (k : Int) : Decidable (isItem k) := by unfold isItem; infer_instance
instance (k : Int) : Decidable (isOf k) := by unfold isOf; infer_instance
instance (k : Int) : Decidable (isBy k) := by unfold isBy; infer_instance
def namedOk (x : Event) : Prop := (isItem x.kind → idOk x.item) ∧ (isOf x.kind → nameOk x.of_) ∧ (isBy x.kind → nameOk x.by_)
instance (x : Event) : Decidable (namedOk x) := by unfold namedOk; infer_instance
def tabNm : List Ent := [⟨45, c_id⟩, ⟨46, c_name⟩]
theorem tabNm_ok : VCallOk Tryz.prog (tabCall tabNm noCall) := tabCall_ok (by
 intro e he
 simp only [tabNm, List.mem_cons, List.not_mem_nil, or_false] at he
 rcases he with rfl | rfl
 ·exact ok_id
 ·exact ok_name) noCall_ok
theorem e_named (x : Event) (H : HT) (Post : PV) : vcP Tryz.prog (tabCall tabNm noCall) 21 [] [eventV x] H Post = (let q1 := T2 (True ∧ pIf (decide (nameOk x.of_)) (T4 (pIf (decide (nameOk x.by_)) (T2 (True ∧ Post (vb true))) (T2 (True ∧ Post (vb false))))) (T4 (True ∧ Post (vb false)))); T4 (True ∧ pIf (decide (x.kind = 4)) (T2 (True ∧ ∃ (s : ByteArray), eqL [vs x.item] [vs s] ∧ s.size < 16777000 ∧ pIf (decide (idOk s)) (T2 (True ∧ pIf (decide (nameOk x.by_)) (T2 (True ∧ Post (vb true))) (T2 (True ∧ Post (vb false))))) (T4 (Post (vb false))))) (T2 (pIf (decide (x.kind = 9)) (T2 (True ∧ ∃ (s : ByteArray), eqL [vs x.item] [vs s] ∧ s.size < 16777000 ∧ pIf (decide (idOk s)) q1 (T4 (T2 (Post (vb false)))))) (T2 (pIf (decide (x.kind = 11)) (T2 (True ∧ ∃ (s : ByteArray), eqL [vs x.item] [vs s] ∧ s.size < 16777000 ∧ pIf (decide (idOk s)) q1 (T4 (T2 (Post (vb false)))))) (T2 (pIf (decide (x.kind = 7)) (T2 (True ∧ ∃ (s : ByteArray), eqL [vs x.item] [vs s] ∧ s.size < 16777000 ∧ pIf (decide (idOk s)) (T2 (Post (vb true))) (T2 (Post (vb false))))) (T2 (pIf (decide (x.kind = 8)) (T2 (True ∧ ∃ (s : ByteArray), eqL [vs x.item] [vs s] ∧ s.size < 16777000 ∧ pIf (decide (idOk s)) (T2 (Post (vb true))) (T2 (Post (vb false))))) (T2 (pIf (decide (x.kind = 12)) (T2 (True ∧ ∃ (s : ByteArray), eqL [vs x.item] [vs s] ∧ s.size < 16777000 ∧ pIf (decide (idOk s)) (T2 (Post (vb true))) (T2 (Post (vb false))))) (T2 (pIf (decide (x.kind = 16)) (T2 (True ∧ ∃ (s : ByteArray), eqL [vs x.item] [vs s] ∧ s.size < 16777000 ∧ pIf (decide (idOk s)) (T2 (Post (vb true))) (T2 (Post (vb false))))) (T2 (pIf (decide (x.kind = 10)) (T2 (True ∧ ∃ (s : ByteArray), eqL [vs x.item] [vs s] ∧ s.size < 16777000 ∧ pIf (decide (idOk s)) (T2 (Post (vb true))) (T2 (Post (vb false))))) (T2 (True ∧ Post (vb true))))))))))))))))))) := by kernel_rfl
def c_named (args : List Value) (Post : Value → Prop) : Prop := ∃ x : Event, args = [eventV x] ∧ x.item.size < 16777000 ∧ Post (.bool (decide (namedOk x)))
theorem ok_named : EntOk Tryz.prog ⟨21, c_named⟩ := by
 rintro args Post ⟨x, rfl, hz, h⟩
 refine pure_P (vc := tabCall tabNm noCall) tabNm_ok mixed (by kernel_rfl) (by kernel_rfl) _ (e_named x _ _) ?_
 have hT : namedOk x → Post (.bool true) := fun hn => of_b h (decide_eq_true hn)
 have hF : ¬ namedOk x → Post (.bool false) := fun hn => of_b h (decide_eq_false hn)
 unfold namedOk isItem isOf isBy at hT hF
 simp only [true_and, and_true]
 clear h
 repeat' (first
  | exact rfl
  | refine ⟨x.item, rfl, hz, ?_⟩
  | refine pIfD (fun hh => ?_) (fun hh => ?_)
  | exact hT ⟨fun _ => by first | assumption | omega, fun _ => by first | assumption | omega, fun _ => by first | assumption | omega⟩
  | exact hF (by rintro ⟨h1, h2, h3⟩; first | (exact absurd (h1 (by omega)) (by assumption)) | (exact absurd (h2 (by omega)) (by assumption)) | (exact absurd (h3 (by omega)) (by assumption))))
def tabFr (P : Program) (tab : List Ent) (next : PCall) : PCall := fun f args hp nx K =>
 match entOf f tab with
 | some e => match frzTs P 0 (fnAt P f).params.toList args hp with
  | some (us, hp', ob) => bif us.all nl then ob ∧ e.c us fun v => K (.ret v) hp' nx else False
  | none => False
 | none => next f args hp nx K
theorem tabFr_ok {P : Program} {tab : List Ent} {next : PCall} (ht : ∀ e ∈ tab, EntOk P e) (hn : PCallOk P next) : PCallOk P (tabFr P tab next) := by
 intro f args hp nx K h W ρ w args' hrel hargs
 unfold tabFr at h
 split at h
 ·rename_i e he
  obtain ⟨h1, rfl⟩ := entOf_mem he
  split at h
  case h_2 => exact h.elim
  rename_i us hp' ob hf
  cases ha : us.all nl with
  | false => rw [ha] at h; exact h.elim
  | true =>
   rw [ha, cond_true] at h
   obtain ⟨ρ1, hr1, hs1, hlen, hvr⟩ := frzTs_sound hrel hargs hf h.1
   refine ((ht e h1 us _ h.2).call ha hr1 (.of hlen fun i v v' a b => VR0.lift (ρ := ρ1) (hvr i v v' a b))).mono ?_
   rintro e' w' ⟨v, v', ρ', hK, rfl, g1, _, g2, g3, _⟩
   exact ⟨.ret v, hp', nx, ρ', hK, ⟨v', rfl, g1⟩, g2, hs1.trans g3⟩
 ·exact hn f args hp nx K h W ρ w args' hrel hargs
def nextPl : PCall := tabFr Tryz.prog [⟨18, c_pSame⟩] noP
def callPl : PCall := inlP Tryz.prog (22 :: inlC) nextPl 5
theorem callPl_ok : PCallOk Tryz.prog callPl := inlP_ok mixed (tabFr_ok (by
 intro e he
 simp only [List.mem_cons, List.not_mem_nil, or_false] at he
 subst he
 exact ok_pSame) noP_ok) 5
theorem e_plain (x : Event) (H : HT) (Post : PX) : vcX Tryz.prog callPl 20 [] [] [eventV x] H Post = (let t36 := [vs x.permit.id, vi x.permit.kind, vi x.permit.time.a, vi x.permit.time.b]; let t35 := tree 4 x.lift.hooks.length (encL x.lift.hooks) :: t36; let t33 := tree 1 x.weig.parts.length (encL x.weig.parts) :: vs x.lift.block :: t35; let t26 := vs x.weig.block :: vi x.weig.at_ :: vi x.weig.mass :: vi x.weig.centre.x :: vi x.weig.centre.y :: vi x.weig.centre.z :: vi x.weig.sigma :: t33; let t25 := tree 1 x.saw.parts.length (encL x.saw.parts) :: t26; let t23 := vs x.saw.bar :: vi x.saw.kerf :: t25; let t22 := tree 5 x.nest.spots.length (encL x.nest.spots) :: t23; let t20 := vs x.nest.sheet :: vi x.nest.gap :: t22; let t15 := vs x.bar.id :: vs x.bar.sect :: vs x.bar.grade :: vi x.bar.long :: vs x.bar.heat :: t20; let t9 := vs x.sheet.id :: vs x.sheet.grade :: vi x.sheet.thick :: vi x.sheet.long :: vi x.sheet.width :: vs x.sheet.heat :: t15; let t7 := vs x.order.id :: tree 38 x.order.edits.length (encL x.order.edits) :: t9; let t5 := vi x.n :: vb x.pass :: t7; let t3 := vs x.of_ :: vs x.by_ :: t5; let h2 := fun (t : List Value) => vi 0 :: vi 0 :: t; let h7 := fun (t : List Value) => h2 (vs x.item :: vs x.of_ :: vs x.by_ :: vi x.n :: vb x.pass :: t); let h9 := fun (t : List Value) => h7 (vs x.order.id :: tree 38 x.order.edits.length (encL x.order.edits) :: t); let h15 := fun (t : List Value) => h9 (vs x.sheet.id :: vs x.sheet.grade :: vi x.sheet.thick :: vi x.sheet.long :: vi x.sheet.width :: vs x.sheet.heat :: t); let h20 := fun (t : List Value) => h15 (vs x.bar.id :: vs x.bar.sect :: vs x.bar.grade :: vi x.bar.long :: vs x.bar.heat :: t); let h23 := fun (t : List Value) => h20 (vs x.nest.sheet :: vi x.nest.gap :: tree 5 x.nest.spots.length (encL x.nest.spots) :: t); let h26 := fun (t : List Value) => h23 (vs x.saw.bar :: vi x.saw.kerf :: tree 1 x.saw.parts.length (encL x.saw.parts) :: t); let h34 := fun (t : List Value) => h26 (vs x.weig.block :: vi x.weig.at_ :: vi x.weig.mass :: vi x.weig.centre.x :: vi x.weig.centre.y :: vi x.weig.centre.z :: vi x.weig.sigma :: tree 1 x.weig.parts.length (encL x.weig.parts) :: t); let h36 := fun (t : List Value) => h34 (vs x.lift.block :: tree 4 x.lift.hooks.length (encL x.lift.hooks) :: t); let q10 := (toI (vi 0) ≤ 0 ∧ toI (vi 0) < (↑1 : Int)); let q9 := toI (vi 0) ≤ 0 ∧ toI (vi 0) ≤ 0 ∧ toI (vi 0) ≤ 2 ^ 25; let q1 := #[vi 0, vi 0, vz, vz, vz, vi 0, vb false, vz, tree 38 0 #[], vz, vz, vi 0, vi 0, vi 0, vz, vz, vz, vz, vi 0, vz, vz, vi 0, tree 5 0 #[], vz, vi 0, tree 1 0 #[], vz, vi 0, vi 0, vi 0, vi 0, vi 0, vi 0, tree 1 0 #[], vz, tree 4 0 #[], vz, vi 0, vi 0, vi 0]; let q8 := [Value.agg (h2 (vz :: t3)).toArray, Value.agg q1]; let q7 := (toI (vi 0) ≤ 0 ∧ toI (vi 0) < (↑3 : Int)); let q6 := (toI (vi 0) ≤ w64 (0 + 1) ∧ toI (vi (w64 (0 + 1))) < (↑3 : Int)); let q5 := (toI (vi 0) ≤ w64 (w64 (0 + 1) + 1) ∧ toI (vi (w64 (w64 (0 + 1) + 1))) < (↑3 : Int)); let q4 := (T32 (T8 (True))) ∧ (T32 (T8 (True))) ∧ True; let q3 := True ∧ (True ∧ True) ∧ true = true ∧ Post (Out.ret (vb true)) []; let q2 := True ∧ (True ∧ True) ∧ true = true ∧ Post (Out.ret (vb false)) []; T8 (True ∧ pIf (decide (x.kind = 1)) (T8 (T4 (9 ≤ 40 ∧ T2 (1 ≤ 40 ∧ True ∧ 2 ≤ 40 ∧ T2 (q4 ∧ ∃ (a : Event), ∃ (b : Event), eqL [Value.agg (h7 (vz :: tree 38 0 #[] :: t9)).toArray, Value.agg q1] [eventV a, eventV b] ∧ ShortEv a ∧ InOrder a.order ∧ FewO a.order ∧ InOrder b.order ∧ FewO b.order ∧ pIf (decide (a = b)) q3 q2))))) (T2 (pIf (decide (x.kind = 2)) (T16 (True ∧ (toI (vi 0) ≤ 0 ∧ toI (vi 0) < (↑2 : Int)) ∧ T4 (T2 (True ∧ 10 ≤ 40 ∧ T2 (True ∧ (toI (vi 0) ≤ w64 (0 + 1) ∧ toI (vi (w64 (0 + 1))) < (↑2 : Int)) ∧ T4 (T2 (True ∧ 11 ≤ 40 ∧ T16 (T2 (True ∧ q7 ∧ T4 (T2 (True ∧ 12 ≤ 40 ∧ T2 (True ∧ q6 ∧ T4 (T2 (True ∧ 13 ≤ 40 ∧ T2 (True ∧ q5 ∧ T4 (T2 (True ∧ 14 ≤ 40 ∧ T8 (T4 (T2 (15 ≤ 40 ∧ T2 (1 ≤ 40 ∧ True ∧ 2 ≤ 40 ∧ T2 (q4 ∧ ∃ (a : Event), ∃ (b : Event), eqL [Value.agg (h9 (vz :: vz :: vi 0 :: vi 0 :: vi 0 :: vz :: t15)).toArray, Value.agg q1] [eventV a, eventV b] ∧ ShortEv a ∧ InOrder a.order ∧ FewO a.order ∧ InOrder b.order ∧ FewO b.order ∧ pIf (decide (a = b)) q3 q2)))))))))))))))))))))) (T2 (pIf (decide (x.kind = 3)) (T16 (T2 (True ∧ q7 ∧ T4 (T2 (True ∧ 16 ≤ 40 ∧ T2 (True ∧ q6 ∧ T4 (T2 (True ∧ 17 ≤ 40 ∧ T2 (True ∧ q5 ∧ T4 (T2 (True ∧ 18 ≤ 40 ∧ T8 (T4 (T2 (q10 ∧ T4 (T2 (True ∧ 19 ≤ 40 ∧ T8 (T4 (T2 (20 ≤ 40 ∧ T2 (1 ≤ 40 ∧ True ∧ 2 ≤ 40 ∧ T2 (q4 ∧ ∃ (a : Event), ∃ (b : Event), eqL [Value.agg (h15 (vz :: vz :: vz :: vi 0 :: vz :: t20)).toArray, Value.agg q1] [eventV a, eventV b] ∧ ShortEv a ∧ InOrder a.order ∧ FewO a.order ∧ InOrder b.order ∧ FewO b.order ∧ pIf (decide (a = b)) q3 q2))))))))))))))))))))) (T2 (pIf (decide (x.kind = 4)) (T8 (T4 (True ∧ (toI (vi 0) ≤ 0 ∧ toI (vi 0) < (↑2 : Int)) ∧ T4 (T2 (True ∧ 3 ≤ 40 ∧ T2 (True ∧ (toI (vi 0) ≤ w64 (0 + 1) ∧ toI (vi (w64 (0 + 1))) < (↑2 : Int)) ∧ T4 (T2 (True ∧ 5 ≤ 40 ∧ T4 (True ∧ 1 ≤ 40 ∧ True ∧ 2 ≤ 40 ∧ T2 (q4 ∧ ∃ (a : Event), ∃ (b : Event), eqL [Value.agg (h2 (vz :: vs x.of_ :: vz :: t5)).toArray, Value.agg q1] [eventV a, eventV b] ∧ ShortEv a ∧ InOrder a.order ∧ FewO a.order ∧ InOrder b.order ∧ FewO b.order ∧ pIf (decide (a = b)) q3 q2)))))))))) (T2 (pIf (decide (x.kind = 5)) (T8 (T4 (21 ≤ 40 ∧ T8 (T2 (True ∧ q10 ∧ T4 (T2 (True ∧ 22 ≤ 40 ∧ T16 (T8 (T4 (pIf (!decide (0 = (↑x.nest.spots.length : Int))) (T2 (q9 ∧ True ∧ 23 ≤ 40 ∧ T8 (True ∧ 1 ≤ 40 ∧ True ∧ 2 ≤ 40 ∧ T2 (((T16 (T4 (T2 ((0 ≤ 0 ∧ NLs []) ∧ T16 (True ∧ True))))) ∧ (T32 (T8 (True))) ∧ True) ∧ ∃ (a : Event), ∃ (b : Event), eqL [Value.agg (h20 (vz :: vi 0 :: tree 5 0 #[] :: t23)).toArray, Value.agg q1] [eventV a, eventV b] ∧ ShortEv a ∧ InOrder a.order ∧ FewO a.order ∧ InOrder b.order ∧ FewO b.order ∧ pIf (decide (a = b)) q3 q2)))) (T8 (pIf (decide (0 < (↑x.nest.spots.length : Int))) (T8 ((toI (vi 0) ≤ 0 ∧ 0 < (↑x.nest.spots.length : Int)) ∧ T8 (T2 (True ∧ False)))) (True ∧ 1 ≤ 40 ∧ True ∧ 2 ≤ 40 ∧ T2 (q4 ∧ ∃ (a : Event), ∃ (b : Event), eqL [Value.agg (h20 (vz :: vi 0 :: t22)).toArray, Value.agg q1] [eventV a, eventV b] ∧ ShortEv a ∧ InOrder a.order ∧ FewO a.order ∧ InOrder b.order ∧ FewO b.order ∧ pIf (decide (a = b)) q3 q2)))))))))))))) (T2 (pIf (decide (x.kind = 6)) (T8 (T4 (24 ≤ 40 ∧ T8 (T2 (True ∧ q10 ∧ T4 (T2 (True ∧ 25 ≤ 40 ∧ T16 (T8 (T4 (pIf (!decide (0 = (↑x.saw.parts.length : Int))) (T2 (q9 ∧ True ∧ 26 ≤ 40 ∧ T8 (True ∧ 1 ≤ 40 ∧ True ∧ 2 ≤ 40 ∧ T2 (((T16 (T8 (True ∧ (0 ≤ 0 ∧ NLs []) ∧ T8 (T4 (T2 (True)))))) ∧ (T32 (T8 (True))) ∧ True) ∧ ∃ (a : Event), ∃ (b : Event), eqL [Value.agg (h23 (vz :: vi 0 :: tree 1 0 #[] :: t26)).toArray, Value.agg q1] [eventV a, eventV b] ∧ ShortEv a ∧ InOrder a.order ∧ FewO a.order ∧ InOrder b.order ∧ FewO b.order ∧ pIf (decide (a = b)) q3 q2)))) (T8 (pIf (decide (0 < (↑x.saw.parts.length : Int))) (T8 (True ∧ (toI (vi 0) ≤ 0 ∧ 0 < (↑x.saw.parts.length : Int)) ∧ T4 (T2 (False)))) (True ∧ 1 ≤ 40 ∧ True ∧ 2 ≤ 40 ∧ T2 (q4 ∧ ∃ (a : Event), ∃ (b : Event), eqL [Value.agg (h23 (vz :: vi 0 :: t25)).toArray, Value.agg q1] [eventV a, eventV b] ∧ ShortEv a ∧ InOrder a.order ∧ FewO a.order ∧ InOrder b.order ∧ FewO b.order ∧ pIf (decide (a = b)) q3 q2)))))))))))))) (T2 (pIf (decide (x.kind = 7)) (T8 (T2 (True ∧ 3 ≤ 40 ∧ T2 (1 ≤ 40 ∧ True ∧ 2 ≤ 40 ∧ T2 (q4 ∧ ∃ (a : Event), ∃ (b : Event), eqL q8 [eventV a, eventV b] ∧ ShortEv a ∧ InOrder a.order ∧ FewO a.order ∧ InOrder b.order ∧ FewO b.order ∧ pIf (decide (a = b)) q3 q2))))) (T2 (pIf (decide (x.kind = 8)) (T8 (T2 (True ∧ 3 ≤ 40 ∧ T2 (1 ≤ 40 ∧ True ∧ 2 ≤ 40 ∧ T2 (q4 ∧ ∃ (a : Event), ∃ (b : Event), eqL q8 [eventV a, eventV b] ∧ ShortEv a ∧ InOrder a.order ∧ FewO a.order ∧ InOrder b.order ∧ FewO b.order ∧ pIf (decide (a = b)) q3 q2))))) (T2 (pIf (decide (x.kind = 12)) (T8 (T2 (True ∧ 3 ≤ 40 ∧ T2 (1 ≤ 40 ∧ True ∧ 2 ≤ 40 ∧ T2 (q4 ∧ ∃ (a : Event), ∃ (b : Event), eqL q8 [eventV a, eventV b] ∧ ShortEv a ∧ InOrder a.order ∧ FewO a.order ∧ InOrder b.order ∧ FewO b.order ∧ pIf (decide (a = b)) q3 q2))))) (T2 (pIf (decide (x.kind = 16)) (T8 (T2 (True ∧ 3 ≤ 40 ∧ T2 (1 ≤ 40 ∧ True ∧ 2 ≤ 40 ∧ T2 (q4 ∧ ∃ (a : Event), ∃ (b : Event), eqL q8 [eventV a, eventV b] ∧ ShortEv a ∧ InOrder a.order ∧ FewO a.order ∧ InOrder b.order ∧ FewO b.order ∧ pIf (decide (a = b)) q3 q2))))) (T2 (pIf (decide (x.kind = 9)) (T16 (q7 ∧ T4 (T2 (True ∧ 3 ≤ 40 ∧ T2 (True ∧ q6 ∧ T4 (T2 (True ∧ 4 ≤ 40 ∧ T2 (True ∧ q5 ∧ T4 (T2 (True ∧ 5 ≤ 40 ∧ T4 (True ∧ 1 ≤ 40 ∧ True ∧ 2 ≤ 40 ∧ T2 (q4 ∧ ∃ (a : Event), ∃ (b : Event), eqL [Value.agg (h2 (vz :: vz :: vz :: t5)).toArray, Value.agg q1] [eventV a, eventV b] ∧ ShortEv a ∧ InOrder a.order ∧ FewO a.order ∧ InOrder b.order ∧ FewO b.order ∧ pIf (decide (a = b)) q3 q2)))))))))))) (T2 (pIf (decide (x.kind = 11)) (T16 (q7 ∧ T4 (T2 (True ∧ 3 ≤ 40 ∧ T2 (True ∧ q6 ∧ T4 (T2 (True ∧ 4 ≤ 40 ∧ T2 (True ∧ q5 ∧ T4 (T2 (True ∧ 5 ≤ 40 ∧ T4 (True ∧ 1 ≤ 40 ∧ True ∧ 2 ≤ 40 ∧ T2 (q4 ∧ ∃ (a : Event), ∃ (b : Event), eqL [Value.agg (h2 (vz :: vz :: vz :: t5)).toArray, Value.agg q1] [eventV a, eventV b] ∧ ShortEv a ∧ InOrder a.order ∧ FewO a.order ∧ InOrder b.order ∧ FewO b.order ∧ pIf (decide (a = b)) q3 q2)))))))))))) (T2 (pIf (decide (x.kind = 10)) (T8 (T2 (True ∧ 3 ≤ 40 ∧ T8 (T2 (True ∧ 6 ≤ 40 ∧ T8 (T2 (True ∧ 7 ≤ 40 ∧ T2 (1 ≤ 40 ∧ True ∧ 2 ≤ 40 ∧ T2 (q4 ∧ ∃ (a : Event), ∃ (b : Event), eqL [Value.agg (h2 (vz :: vs x.of_ :: vs x.by_ :: vi 0 :: vb false :: t7)).toArray, Value.agg q1] [eventV a, eventV b] ∧ ShortEv a ∧ InOrder a.order ∧ FewO a.order ∧ InOrder b.order ∧ FewO b.order ∧ pIf (decide (a = b)) q3 q2))))))))) (T2 (pIf (decide (x.kind = 13)) (T8 (T4 (T2 (True ∧ 27 ≤ 40 ∧ T16 (T8 (True ∧ (toI (vi 0) ≤ 0 ∧ toI (vi 0) < (↑5 : Int)) ∧ T4 (T2 (True ∧ 29 ≤ 40 ∧ T2 (True ∧ (toI (vi 0) ≤ w64 (0 + 1) ∧ toI (vi (w64 (0 + 1))) < (↑5 : Int)) ∧ T4 (T2 (True ∧ 30 ≤ 40 ∧ T2 (True ∧ (toI (vi 0) ≤ w64 (w64 (0 + 1) + 1) ∧ toI (vi (w64 (w64 (0 + 1) + 1))) < (↑5 : Int)) ∧ T4 (T2 (True ∧ 31 ≤ 40 ∧ T2 (True ∧ (toI (vi 0) ≤ w64 (w64 (w64 (0 + 1) + 1) + 1) ∧ toI (vi (w64 (w64 (w64 (0 + 1) + 1) + 1))) < (↑5 : Int)) ∧ T4 (T2 (True ∧ 32 ≤ 40 ∧ T2 (True ∧ (toI (vi 0) ≤ w64 (w64 (w64 (w64 (0 + 1) + 1) + 1) + 1) ∧ toI (vi (w64 (w64 (w64 (w64 (0 + 1) + 1) + 1) + 1))) < (↑5 : Int)) ∧ T4 (T2 (True ∧ 33 ≤ 40 ∧ T4 (True ∧ 1 ≤ 40 ∧ True ∧ 2 ≤ 40 ∧ T2 (q4 ∧ ∃ (a : Event), ∃ (b : Event), eqL [Value.agg (h26 (vz :: vi x.weig.at_ :: vi 0 :: vi 0 :: vi 0 :: vi 0 :: vi 0 :: t33)).toArray, Value.agg q1] [eventV a, eventV b] ∧ ShortEv a ∧ InOrder a.order ∧ FewO a.order ∧ InOrder b.order ∧ FewO b.order ∧ pIf (decide (a = b)) q3 q2)))))))))))))))))))))) (T2 (pIf (decide (x.kind = 14)) (T8 (T4 (35 ≤ 40 ∧ T16 (T8 (T2 (pIf (!decide (0 = (↑x.lift.hooks.length : Int))) (T2 (q9 ∧ True ∧ 36 ≤ 40 ∧ T8 (True ∧ 1 ≤ 40 ∧ True ∧ 2 ≤ 40 ∧ T2 (((T32 (T2 (True ∧ (0 ≤ 0 ∧ NLs []) ∧ T4 (True)))) ∧ (T32 (T8 (True))) ∧ True) ∧ ∃ (a : Event), ∃ (b : Event), eqL [Value.agg (h34 (vz :: tree 4 0 #[] :: t36)).toArray, Value.agg q1] [eventV a, eventV b] ∧ ShortEv a ∧ InOrder a.order ∧ FewO a.order ∧ InOrder b.order ∧ FewO b.order ∧ pIf (decide (a = b)) q3 q2)))) (T8 (pIf (decide (0 < (↑x.lift.hooks.length : Int))) (T8 ((toI (vi 0) ≤ 0 ∧ 0 < (↑x.lift.hooks.length : Int)) ∧ T8 (T2 (True ∧ False)))) (True ∧ 1 ≤ 40 ∧ True ∧ 2 ≤ 40 ∧ T2 (q4 ∧ ∃ (a : Event), ∃ (b : Event), eqL [Value.agg (h34 (vz :: t35)).toArray, Value.agg q1] [eventV a, eventV b] ∧ ShortEv a ∧ InOrder a.order ∧ FewO a.order ∧ InOrder b.order ∧ FewO b.order ∧ pIf (decide (a = b)) q3 q2)))))))))) (T2 (pIf (decide (x.kind = 15)) (T8 (T4 (37 ≤ 40 ∧ T16 (T4 (True ∧ q7 ∧ T4 (T2 (True ∧ 38 ≤ 40 ∧ T2 (True ∧ q6 ∧ T4 (T2 (True ∧ 39 ≤ 40 ∧ T2 (True ∧ q5 ∧ T4 (T2 (True ∧ 40 ≤ 40 ∧ T4 (True ∧ 1 ≤ 40 ∧ True ∧ 2 ≤ 40 ∧ T2 (q4 ∧ ∃ (a : Event), ∃ (b : Event), eqL [Value.agg (h36 ([vz, vi 0, vi 0, vi 0])).toArray, Value.agg q1] [eventV a, eventV b] ∧ ShortEv a ∧ InOrder a.order ∧ FewO a.order ∧ InOrder b.order ∧ FewO b.order ∧ pIf (decide (a = b)) q3 q2))))))))))))))) (T2 (1 ≤ 40 ∧ True ∧ 2 ≤ 40 ∧ T2 (q4 ∧ ∃ (a : Event), ∃ (b : Event), eqL [Value.agg (h20 t20).toArray, Value.agg q1] [eventV a, eventV b] ∧ ShortEv a ∧ InOrder a.order ∧ FewO a.order ∧ InOrder b.order ∧ FewO b.order ∧ pIf (decide (a = b)) q3 q2))))))))))))))))))))))))))))))))))) := by kernel_rfl
end Go.Proofs.YtegjnjmimfgijaaGreatDoor
