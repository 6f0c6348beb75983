/-
  Put together out of several texts, each in its own namespace's block. Conditions: as each theorem states them.
-/
import Derived.Test.YtegjnjmimfgijaaGreatDoorQPk
import Derived.Test.YtegjnjmimfgijaaGreatDoorQBld
noncomputable section
namespace Go.Proofs.YtegjnjmimfgijaaGreatDoor
open Go Go.RowKit
set_option maxRecDepth 100000
set_option maxHeartbeats 8000000
abbrev cR5 (k a g : Int) (u : ByteArray) (l : Value) : List Value := (.int .i64 k :: .int .i64 a :: .string ⟨#[]⟩ :: .string ⟨#[]⟩ :: .string ⟨#[]⟩ :: .int .i64 0 :: .bool false :: .string ⟨#[]⟩ :: nilS :: .string ⟨#[]⟩ :: .string ⟨#[]⟩ :: .int .i64 0 :: .int .i64 0 :: .int .i64 0 :: .string ⟨#[]⟩ :: .string ⟨#[]⟩ :: .string ⟨#[]⟩ :: .string ⟨#[]⟩ :: .int .i64 0 :: .string ⟨#[]⟩ :: .string u :: .int .i64 g :: l :: .string ⟨#[]⟩ :: .int .i64 0 :: nilS :: .string ⟨#[]⟩ :: .int .i64 0 :: .int .i64 0 :: .int .i64 0 :: .int .i64 0 :: .int .i64 0 :: .int .i64 0 :: nilS :: .string ⟨#[]⟩ :: nilS :: .string ⟨#[]⟩ :: .int .i64 0 :: .int .i64 0 :: .int .i64 0 :: [])
abbrev sR5 (k a w g : Int) (u s : ByteArray) (L : List Value) (n : Nat) (i : Int) : AS := (stV [(0, some ptr0), (1, some (.iface 88 ptr1)), (132, some (.int .i64 n)), (133, some (.int .i64 i))] [(0, some (.cells (cR5 k a g u (.slice (some ⟨3, 0, none⟩) n 5)) true)), (1, some (.cells [ptr2, .int .i64 w] true)), (2, some (.cells [.string s, .int .i64 0] true)), (3, some (.cells L true))] 4)
abbrev zR5 (k a w g : Int) (u s : ByteArray) : AS := (stV [(0, some ptr0), (1, some (.iface 88 ptr1)), (132, some (.int .i64 0)), (133, some (.int .i64 0))] [(0, some (.cells (cR5 k a g u nilS) true)), (1, some (.cells [ptr2, .int .i64 w] true)), (2, some (.cells [.string s, .int .i64 0] true))] 3)
abbrev cR6 (k a g : Int) (u : ByteArray) (l : Value) : List Value := (.int .i64 k :: .int .i64 a :: .string ⟨#[]⟩ :: .string ⟨#[]⟩ :: .string ⟨#[]⟩ :: .int .i64 0 :: .bool false :: .string ⟨#[]⟩ :: nilS :: .string ⟨#[]⟩ :: .string ⟨#[]⟩ :: .int .i64 0 :: .int .i64 0 :: .int .i64 0 :: .string ⟨#[]⟩ :: .string ⟨#[]⟩ :: .string ⟨#[]⟩ :: .string ⟨#[]⟩ :: .int .i64 0 :: .string ⟨#[]⟩ :: .string ⟨#[]⟩ :: .int .i64 0 :: nilS :: .string u :: .int .i64 g :: l :: .string ⟨#[]⟩ :: .int .i64 0 :: .int .i64 0 :: .int .i64 0 :: .int .i64 0 :: .int .i64 0 :: .int .i64 0 :: nilS :: .string ⟨#[]⟩ :: nilS :: .string ⟨#[]⟩ :: .int .i64 0 :: .int .i64 0 :: .int .i64 0 :: [])
abbrev sR6 (k a w g : Int) (u s : ByteArray) (L : List Value) (n : Nat) (i : Int) : AS := (stV [(0, some ptr0), (1, some (.iface 88 ptr1)), (203, some (.int .i64 n)), (204, some (.int .i64 i))] [(0, some (.cells (cR6 k a g u (.slice (some ⟨3, 0, none⟩) n 1)) true)), (1, some (.cells [ptr2, .int .i64 w] true)), (2, some (.cells [.string s, .int .i64 0] true)), (3, some (.cells L true))] 4)
abbrev zR6 (k a w g : Int) (u s : ByteArray) : AS := (stV [(0, some ptr0), (1, some (.iface 88 ptr1)), (203, some (.int .i64 0)), (204, some (.int .i64 0))] [(0, some (.cells (cR6 k a g u nilS) true)), (1, some (.cells [ptr2, .int .i64 w] true)), (2, some (.cells [.string s, .int .i64 0] true))] 3)
abbrev cR14 (k a g : Int) (u : ByteArray) (l : Value) : List Value := (.int .i64 k :: .int .i64 a :: .string ⟨#[]⟩ :: .string ⟨#[]⟩ :: .string ⟨#[]⟩ :: .int .i64 0 :: .bool false :: .string ⟨#[]⟩ :: nilS :: .string ⟨#[]⟩ :: .string ⟨#[]⟩ :: .int .i64 0 :: .int .i64 0 :: .int .i64 0 :: .string ⟨#[]⟩ :: .string ⟨#[]⟩ :: .string ⟨#[]⟩ :: .string ⟨#[]⟩ :: .int .i64 0 :: .string ⟨#[]⟩ :: .string ⟨#[]⟩ :: .int .i64 0 :: nilS :: .string ⟨#[]⟩ :: .int .i64 0 :: nilS :: .string ⟨#[]⟩ :: .int .i64 0 :: .int .i64 0 :: .int .i64 0 :: .int .i64 0 :: .int .i64 0 :: .int .i64 0 :: nilS :: .string u :: l :: .string ⟨#[]⟩ :: .int .i64 0 :: .int .i64 0 :: .int .i64 0 :: [])
abbrev sR14 (k a w g : Int) (u s : ByteArray) (L : List Value) (n : Nat) (i : Int) : AS := (stV [(0, some ptr0), (1, some (.iface 88 ptr1)), (330, some (.int .i64 n)), (331, some (.int .i64 i))] [(0, some (.cells (cR14 k a g u (.slice (some ⟨3, 0, none⟩) n 4)) true)), (1, some (.cells [ptr2, .int .i64 w] true)), (2, some (.cells [.string s, .int .i64 0] true)), (3, some (.cells L true))] 4)
abbrev zR14 (k a w g : Int) (u s : ByteArray) : AS := (stV [(0, some ptr0), (1, some (.iface 88 ptr1)), (330, some (.int .i64 0)), (331, some (.int .i64 0))] [(0, some (.cells (cR14 k a g u nilS) true)), (1, some (.cells [ptr2, .int .i64 w] true)), (2, some (.cells [.string s, .int .i64 0] true))] 3)
theorem l_rd5 (k a w g : Int) (u s : ByteArray) (L : List Value) (n : Nat) (i : Int) (H : HT) (Post : PX) : vcLX Tryz.prog callR 22 argsR [(19, [0, 1, 132, 133]), (31, [0, 1, 203, 204]), (55, [0, 1, 330, 331])] 3 19 (sR5 k a w g u s L n (i)) H Post = (let pP := fun (c : List Value) (r : ByteArray) (e : Nat) => Post (Out.pan (Value.iface 50 (vi (Int.ofNat (e + 1))))) [c, [pt 2, vi w], [vs r, vi (Int.ofNat (e + 1))]]; let t23 := [vz, vi 0, nS, vz, vi 0, vi 0, vi 0, vi 0, vi 0, vi 0, nS, vz, nS, vz, vi 0, vi 0, vi 0]; let t20 := vs u :: vi g :: Value.slice (some (Addr.mk 3 0 none)) n 5 :: t23; let h20 := fun (t : List Value) => vi k :: vi a :: vz :: vz :: vz :: vi 0 :: vb false :: vz :: nS :: vz :: vz :: vi 0 :: vi 0 :: vi 0 :: vz :: vz :: vz :: vz :: vi 0 :: vz :: t; let h22 := fun (t : List Value) => h20 (vs u :: vi g :: t); let q6 := 0 + Int.toNat i * 5 + 4; let q5 := [(0, some (pt 0)), (1, some (Value.iface 88 (pt 1))), (132, some (vi (↑n : Int))), (133, some (vi (IntKind.wrap IntKind.i64 (i + 1))))]; let q4 := 0 + Int.toNat i * 5 + 3; let q3 := 0 + Int.toNat i * 5 + 1 + 1; let q2 := 0 + Int.toNat i * 5 + 1 + 0; let q1 := 0 + Int.toNat i * 5 + 0; True ∧ pIf (decide (i < (↑n : Int))) (T8 ((0 ≤ i ∧ i < (↑n : Int)) ∧ T8 (T4 (True ∧ true = true ∧ s.size < 4611686018427387904 ∧ 64 < 4611686018427387904 ∧ (∀ (v r : ByteArray), rsT 64 s = Rs.ok v r → 1 = 1 ∧ True ∧ 0 + Int.toNat i * 5 + 0 + 1 ≤ List.length L ∧ T32 (T2 (True ∧ (toI (vi 0) ≤ 0 ∧ toI (vi 0) < (↑3 : Int)) ∧ T8 (T2 (True ∧ true = true ∧ r.size < 4611686018427387904 ∧ (∀ (v_1 : Int) (r_1 : ByteArray), rsI (-1099511627776) 1099511627776 r = Rs.ok v_1 r_1 → 1 = 1 ∧ True ∧ 0 + Int.toNat i * 5 + 1 + 0 + 1 ≤ List.length (setFrom L q1 [vs v]) ∧ T16 (T4 ((toI (vi 0) ≤ IntKind.wrap IntKind.i64 (0 + 1) ∧ toI (vi (IntKind.wrap IntKind.i64 (0 + 1))) < (↑3 : Int)) ∧ T8 (T2 (True ∧ true = true ∧ r_1.size < 4611686018427387904 ∧ (∀ (v_2 : Int) (r : ByteArray), rsI (-1099511627776) 1099511627776 r_1 = Rs.ok v_2 r → 1 = 1 ∧ True ∧ 0 + Int.toNat i * 5 + 1 + 1 + 1 ≤ List.length (setFrom (setFrom L q1 [vs v]) q2 [vi v_1]) ∧ T16 (T4 ((toI (vi 0) ≤ IntKind.wrap IntKind.i64 (IntKind.wrap IntKind.i64 (0 + 1) + 1) ∧ toI (vi (IntKind.wrap IntKind.i64 (IntKind.wrap IntKind.i64 (0 + 1) + 1))) < (↑3 : Int)) ∧ T8 (T2 (True ∧ true = true ∧ r.size < 4611686018427387904 ∧ (∀ (v_3 : Int) (r_2 : ByteArray), rsI (-1099511627776) 1099511627776 r = Rs.ok v_3 r_2 → 1 = 1 ∧ True ∧ 0 + Int.toNat i * 5 + 3 + 1 ≤ List.length (setFrom (setFrom (setFrom L q1 [vs v]) q2 [vi v_1]) q3 [vi v_2]) ∧ T32 (True ∧ true = true ∧ r_2.size < 4611686018427387904 ∧ (∀ (v_4 : Bool) (r : ByteArray), rsB r_2 = Rs.ok v_4 r → 1 = 1 ∧ pIf v_4 (True ∧ 0 + Int.toNat i * 5 + 4 + 1 ≤ List.length (setFrom (setFrom (setFrom (setFrom L q1 [vs v]) q2 [vi v_1]) q3 [vi v_2]) q4 [vi v_3]) ∧ T16 (T4 (True ∧ (T2 (True ∧ NLs (setFrom (setFrom (setFrom (setFrom (setFrom L q1 [vs v]) q2 [vi v_1]) q3 [vi v_2]) q4 [vi v_3]) q6 [vb true]) ∧ True)) ∧ H (lpC Tryz.prog 22 19) (lpK Tryz.prog 22 19) (stV q5 [(0, some (AObj.cells (h20 t20) true)), (1, some (AObj.cells [pt 2, vi w] true)), (2, some (AObj.cells [vs r, vi 0] true)), (3, some (AObj.cells (setFrom (setFrom (setFrom (setFrom (setFrom L q1 [vs v]) q2 [vi v_1]) q3 [vi v_2]) q4 [vi v_3]) q6 [vb true]) true))] 4)))) (True ∧ 0 + Int.toNat i * 5 + 4 + 1 ≤ List.length (setFrom (setFrom (setFrom (setFrom L q1 [vs v]) q2 [vi v_1]) q3 [vi v_2]) q4 [vi v_3]) ∧ T16 (T4 (True ∧ (T2 (True ∧ NLs (setFrom (setFrom (setFrom (setFrom (setFrom L q1 [vs v]) q2 [vi v_1]) q3 [vi v_2]) q4 [vi v_3]) q6 [vb false]) ∧ True)) ∧ H (lpC Tryz.prog 22 19) (lpK Tryz.prog 22 19) (stV q5 [(0, some (AObj.cells (h20 t20) true)), (1, some (AObj.cells [pt 2, vi w] true)), (2, some (AObj.cells [vs r, vi 0] true)), (3, some (AObj.cells (setFrom (setFrom (setFrom (setFrom (setFrom L q1 [vs v]) q2 [vi v_1]) q3 [vi v_2]) q4 [vi v_3]) q6 [vb false]) true))] 4))))) ∧ ∀ (e : Nat), rsB r_2 = Rs.err e → 1 = 1 ∧ True ∧ 0 + Int.toNat i * 5 + 4 + 1 ≤ List.length (setFrom (setFrom (setFrom (setFrom L q1 [vs v]) q2 [vi v_1]) q3 [vi v_2]) q4 [vi v_3]) ∧ T16 (T2 (True ∧ ((T16 (T4 (T2 ((0 + n * 5 ≤ List.length (setFrom (setFrom (setFrom (setFrom (setFrom L q1 [vs v]) q2 [vi v_1]) q3 [vi v_2]) q4 [vi v_3]) q6 [vb false]) ∧ NLs (List.drop 0 (setFrom (setFrom (setFrom (setFrom (setFrom L q1 [vs v]) q2 [vi v_1]) q3 [vi v_2]) q4 [vi v_3]) q6 [vb false]))) ∧ T16 (True ∧ True))))) ∧ (T2 (True)) ∧ (T2 (True)) ∧ True) ∧ true = true ∧ pP (h22 (tree 5 n (chunks 5 n (List.drop 0 (setFrom (setFrom (setFrom (setFrom (setFrom L q1 [vs v]) q2 [vi v_1]) q3 [vi v_2]) q4 [vi v_3]) q6 [vb false]))) :: t23)) r_2 e)))) ∧ ∀ (e : Nat), rsI (-1099511627776) 1099511627776 r = Rs.err e → 1 = 1 ∧ True ∧ 0 + Int.toNat i * 5 + 3 + 1 ≤ List.length (setFrom (setFrom (setFrom L q1 [vs v]) q2 [vi v_1]) q3 [vi v_2]) ∧ T16 (T2 (True ∧ ((T16 (T4 (T2 ((0 + n * 5 ≤ List.length (setFrom (setFrom (setFrom (setFrom L q1 [vs v]) q2 [vi v_1]) q3 [vi v_2]) q4 [vi 0]) ∧ NLs (List.drop 0 (setFrom (setFrom (setFrom (setFrom L q1 [vs v]) q2 [vi v_1]) q3 [vi v_2]) q4 [vi 0]))) ∧ T16 (True ∧ True))))) ∧ (T2 (True)) ∧ (T2 (True)) ∧ True) ∧ true = true ∧ pP (h22 (tree 5 n (chunks 5 n (List.drop 0 (setFrom (setFrom (setFrom (setFrom L q1 [vs v]) q2 [vi v_1]) q3 [vi v_2]) q4 [vi 0]))) :: t23)) r e))))))) ∧ ∀ (e : Nat), rsI (-1099511627776) 1099511627776 r_1 = Rs.err e → 1 = 1 ∧ True ∧ 0 + Int.toNat i * 5 + 1 + 1 + 1 ≤ List.length (setFrom (setFrom L q1 [vs v]) q2 [vi v_1]) ∧ T16 (T2 (True ∧ ((T16 (T4 (T2 ((0 + n * 5 ≤ List.length (setFrom (setFrom (setFrom L q1 [vs v]) q2 [vi v_1]) q3 [vi 0]) ∧ NLs (List.drop 0 (setFrom (setFrom (setFrom L q1 [vs v]) q2 [vi v_1]) q3 [vi 0]))) ∧ T16 (True ∧ True))))) ∧ (T2 (True)) ∧ (T2 (True)) ∧ True) ∧ true = true ∧ pP (h22 (tree 5 n (chunks 5 n (List.drop 0 (setFrom (setFrom (setFrom L q1 [vs v]) q2 [vi v_1]) q3 [vi 0]))) :: t23)) r_1 e))))))) ∧ ∀ (e : Nat), rsI (-1099511627776) 1099511627776 r = Rs.err e → 1 = 1 ∧ True ∧ 0 + Int.toNat i * 5 + 1 + 0 + 1 ≤ List.length (setFrom L q1 [vs v]) ∧ T16 (T2 (True ∧ ((T16 (T4 (T2 ((0 + n * 5 ≤ List.length (setFrom (setFrom L q1 [vs v]) q2 [vi 0]) ∧ NLs (List.drop 0 (setFrom (setFrom L q1 [vs v]) q2 [vi 0]))) ∧ T16 (True ∧ True))))) ∧ (T2 (True)) ∧ (T2 (True)) ∧ True) ∧ true = true ∧ pP (h22 (tree 5 n (chunks 5 n (List.drop 0 (setFrom (setFrom L q1 [vs v]) q2 [vi 0]))) :: t23)) r e))))))) ∧ ∀ (e : Nat), rsT 64 s = Rs.err e → 1 = 1 ∧ True ∧ 0 + Int.toNat i * 5 + 0 + 1 ≤ List.length L ∧ T16 (T2 (True ∧ ((T16 (T4 (T2 ((0 + n * 5 ≤ List.length (setFrom L q1 [vz]) ∧ NLs (List.drop 0 (setFrom L q1 [vz]))) ∧ T16 (True ∧ True))))) ∧ (T2 (True)) ∧ (T2 (True)) ∧ True) ∧ true = true ∧ pP (h22 (tree 5 n (chunks 5 n (List.drop 0 (setFrom L q1 [vz]))) :: t23)) s e)))))) ((((T16 (T4 (T2 ((0 + n * 5 ≤ List.length L ∧ NLs L) ∧ T16 (True ∧ True))))) ∧ (T2 (True)) ∧ (T2 (True)) ∧ True) ∧ True) ∧ true = true ∧ Post (Out.ret (Value.tuple #[])) [(h22 (tree 5 n (chunks 5 n (List.drop 0 L)) :: t23)), [pt 2, vi w], [vs s, vi 0]])) := by kernel_rfl
theorem z_rd5 (k a w g : Int) (u s : ByteArray) (H : HT) (Post : PX) : vcLX Tryz.prog callR 22 argsR [(19, [0, 1, 132, 133]), (31, [0, 1, 203, 204]), (55, [0, 1, 330, 331])] 3 19 (zR5 k a w g u s) H Post = (True ∧ (((T32 (T8 (True))) ∧ (T2 (True)) ∧ (T2 (True)) ∧ True) ∧ True) ∧ true = true ∧ Post (Out.ret (Value.tuple #[])) [[vi k, vi a, vz, vz, vz, vi 0, vb false, vz, nS, vz, vz, vi 0, vi 0, vi 0, vz, vz, vz, vz, vi 0, vz, vs u, vi g, nS, vz, vi 0, nS, vz, vi 0, vi 0, vi 0, vi 0, vi 0, vi 0, nS, vz, nS, vz, vi 0, vi 0, vi 0], [pt 2, vi w], [vs s, vi 0]]) := by kernel_rfl
theorem l_rd6 (k a w g : Int) (u s : ByteArray) (L : List Value) (n : Nat) (i : Int) (H : HT) (Post : PX) : vcLX Tryz.prog callR 22 argsR [(19, [0, 1, 132, 133]), (31, [0, 1, 203, 204]), (55, [0, 1, 330, 331])] 3 31 (sR6 k a w g u s L n (i)) H Post = (True ∧ pIf (decide (i < (↑n : Int))) (T8 (True ∧ (0 ≤ i ∧ i < (↑n : Int)) ∧ T8 (true = true ∧ s.size < 4611686018427387904 ∧ 64 < 4611686018427387904 ∧ (∀ (v r : ByteArray), rsT 64 s = Rs.ok v r → 1 = 1 ∧ True ∧ 0 + Int.toNat i * 1 + 1 ≤ List.length L ∧ T16 (T4 (True ∧ (T2 (True ∧ NLs (setFrom L (0 + Int.toNat i * 1) [vs v]) ∧ True)) ∧ H (lpC Tryz.prog 22 31) (lpK Tryz.prog 22 31) (stV [(0, some (pt 0)), (1, some (Value.iface 88 (pt 1))), (203, some (vi (↑n : Int))), (204, some (vi (IntKind.wrap IntKind.i64 (i + 1))))] [(0, some (AObj.cells [vi k, vi a, vz, vz, vz, vi 0, vb false, vz, nS, vz, vz, vi 0, vi 0, vi 0, vz, vz, vz, vz, vi 0, vz, vz, vi 0, nS, vs u, vi g, Value.slice (some (Addr.mk 3 0 none)) n 1, vz, vi 0, vi 0, vi 0, vi 0, vi 0, vi 0, nS, vz, nS, vz, vi 0, vi 0, vi 0] true)), (1, some (AObj.cells [pt 2, vi w] true)), (2, some (AObj.cells [vs r, vi 0] true)), (3, some (AObj.cells (setFrom L (0 + Int.toNat i * 1) [vs v]) true))] 4)))) ∧ ∀ (e : Nat), rsT 64 s = Rs.err e → 1 = 1 ∧ True ∧ 0 + Int.toNat i * 1 + 1 ≤ List.length L ∧ T16 (T2 (True ∧ ((T16 (T8 (True ∧ (0 + n * 1 ≤ List.length (setFrom L (0 + Int.toNat i * 1) [vz]) ∧ NLs (List.drop 0 (setFrom L (0 + Int.toNat i * 1) [vz]))) ∧ T8 (T4 (T2 (True)))))) ∧ (T2 (True)) ∧ (T2 (True)) ∧ True) ∧ true = true ∧ Post (Out.pan (Value.iface 50 (vi (Int.ofNat (e + 1))))) [[vi k, vi a, vz, vz, vz, vi 0, vb false, vz, nS, vz, vz, vi 0, vi 0, vi 0, vz, vz, vz, vz, vi 0, vz, vz, vi 0, nS, vs u, vi g, tree 1 n (chunks 1 n (List.drop 0 (setFrom L (0 + Int.toNat i * 1) [vz]))), vz, vi 0, vi 0, vi 0, vi 0, vi 0, vi 0, nS, vz, nS, vz, vi 0, vi 0, vi 0], [pt 2, vi w], [vs s, vi (Int.ofNat (e + 1))]]))))) ((((T16 (T8 (True ∧ (0 + n * 1 ≤ List.length L ∧ NLs L) ∧ T8 (T4 (T2 (True)))))) ∧ (T2 (True)) ∧ (T2 (True)) ∧ True) ∧ True) ∧ true = true ∧ Post (Out.ret (Value.tuple #[])) [[vi k, vi a, vz, vz, vz, vi 0, vb false, vz, nS, vz, vz, vi 0, vi 0, vi 0, vz, vz, vz, vz, vi 0, vz, vz, vi 0, nS, vs u, vi g, tree 1 n (chunks 1 n (List.drop 0 L)), vz, vi 0, vi 0, vi 0, vi 0, vi 0, vi 0, nS, vz, nS, vz, vi 0, vi 0, vi 0], [pt 2, vi w], [vs s, vi 0]])) := by kernel_rfl
theorem z_rd6 (k a w g : Int) (u s : ByteArray) (H : HT) (Post : PX) : vcLX Tryz.prog callR 22 argsR [(19, [0, 1, 132, 133]), (31, [0, 1, 203, 204]), (55, [0, 1, 330, 331])] 3 31 (zR6 k a w g u s) H Post = (True ∧ (((T32 (T8 (True))) ∧ (T2 (True)) ∧ (T2 (True)) ∧ True) ∧ True) ∧ true = true ∧ Post (Out.ret (Value.tuple #[])) [[vi k, vi a, vz, vz, vz, vi 0, vb false, vz, nS, vz, vz, vi 0, vi 0, vi 0, vz, vz, vz, vz, vi 0, vz, vz, vi 0, nS, vs u, vi g, nS, vz, vi 0, vi 0, vi 0, vi 0, vi 0, vi 0, nS, vz, nS, vz, vi 0, vi 0, vi 0], [pt 2, vi w], [vs s, vi 0]]) := by kernel_rfl
theorem l_rd14 (k a w g : Int) (u s : ByteArray) (L : List Value) (n : Nat) (i : Int) (H : HT) (Post : PX) : vcLX Tryz.prog callR 22 argsR [(19, [0, 1, 132, 133]), (31, [0, 1, 203, 204]), (55, [0, 1, 330, 331])] 3 55 (sR14 k a w g u s L n (i)) H Post = (let pP := fun (c : List Value) (r : ByteArray) (e : Nat) => Post (Out.pan (Value.iface 50 (vi (Int.ofNat (e + 1))))) [c, [pt 2, vi w], [vs r, vi (Int.ofNat (e + 1))]]; let t36 := [vz, vi 0, vi 0, vi 0]; let t20 := vz :: vi 0 :: nS :: vz :: vi 0 :: nS :: vz :: vi 0 :: vi 0 :: vi 0 :: vi 0 :: vi 0 :: vi 0 :: nS :: vs u :: Value.slice (some (Addr.mk 3 0 none)) n 4 :: t36; let h20 := fun (t : List Value) => vi k :: vi a :: vz :: vz :: vz :: vi 0 :: vb false :: vz :: nS :: vz :: vz :: vi 0 :: vi 0 :: vi 0 :: vz :: vz :: vz :: vz :: vi 0 :: vz :: t; let h35 := fun (t : List Value) => h20 (vz :: vi 0 :: nS :: vz :: vi 0 :: nS :: vz :: vi 0 :: vi 0 :: vi 0 :: vi 0 :: vi 0 :: vi 0 :: nS :: vs u :: t); let q4 := 0 + Int.toNat i * 4 + 3; let q3 := 0 + Int.toNat i * 4 + 1 + 1; let q2 := 0 + Int.toNat i * 4 + 1 + 0; let q1 := 0 + Int.toNat i * 4 + 0; True ∧ pIf (decide (i < (↑n : Int))) (T8 ((0 ≤ i ∧ i < (↑n : Int)) ∧ T8 (T4 (True ∧ true = true ∧ s.size < 4611686018427387904 ∧ 64 < 4611686018427387904 ∧ (∀ (v r : ByteArray), rsT 64 s = Rs.ok v r → 1 = 1 ∧ True ∧ 0 + Int.toNat i * 4 + 0 + 1 ≤ List.length L ∧ T32 (T2 (True ∧ (toI (vi 0) ≤ 0 ∧ toI (vi 0) < (↑3 : Int)) ∧ T8 (T2 (True ∧ true = true ∧ r.size < 4611686018427387904 ∧ (∀ (v_1 : Int) (r_1 : ByteArray), rsI (-1099511627776) 1099511627776 r = Rs.ok v_1 r_1 → 1 = 1 ∧ True ∧ 0 + Int.toNat i * 4 + 1 + 0 + 1 ≤ List.length (setFrom L q1 [vs v]) ∧ T16 (T4 ((toI (vi 0) ≤ IntKind.wrap IntKind.i64 (0 + 1) ∧ toI (vi (IntKind.wrap IntKind.i64 (0 + 1))) < (↑3 : Int)) ∧ T8 (T2 (True ∧ true = true ∧ r_1.size < 4611686018427387904 ∧ (∀ (v_2 : Int) (r : ByteArray), rsI (-1099511627776) 1099511627776 r_1 = Rs.ok v_2 r → 1 = 1 ∧ True ∧ 0 + Int.toNat i * 4 + 1 + 1 + 1 ≤ List.length (setFrom (setFrom L q1 [vs v]) q2 [vi v_1]) ∧ T16 (T4 ((toI (vi 0) ≤ IntKind.wrap IntKind.i64 (IntKind.wrap IntKind.i64 (0 + 1) + 1) ∧ toI (vi (IntKind.wrap IntKind.i64 (IntKind.wrap IntKind.i64 (0 + 1) + 1))) < (↑3 : Int)) ∧ T8 (T2 (True ∧ true = true ∧ r.size < 4611686018427387904 ∧ (∀ (v_3 : Int) (r_2 : ByteArray), rsI (-1099511627776) 1099511627776 r = Rs.ok v_3 r_2 → 1 = 1 ∧ True ∧ 0 + Int.toNat i * 4 + 3 + 1 ≤ List.length (setFrom (setFrom (setFrom L q1 [vs v]) q2 [vi v_1]) q3 [vi v_2]) ∧ T16 (T8 ((T2 (True ∧ NLs (setFrom (setFrom (setFrom (setFrom L q1 [vs v]) q2 [vi v_1]) q3 [vi v_2]) q4 [vi v_3]) ∧ True)) ∧ H (lpC Tryz.prog 22 55) (lpK Tryz.prog 22 55) (stV [(0, some (pt 0)), (1, some (Value.iface 88 (pt 1))), (330, some (vi (↑n : Int))), (331, some (vi (IntKind.wrap IntKind.i64 (i + 1))))] [(0, some (AObj.cells (h20 t20) true)), (1, some (AObj.cells [pt 2, vi w] true)), (2, some (AObj.cells [vs r_2, vi 0] true)), (3, some (AObj.cells (setFrom (setFrom (setFrom (setFrom L q1 [vs v]) q2 [vi v_1]) q3 [vi v_2]) q4 [vi v_3]) true))] 4)))) ∧ ∀ (e : Nat), rsI (-1099511627776) 1099511627776 r = Rs.err e → 1 = 1 ∧ True ∧ 0 + Int.toNat i * 4 + 3 + 1 ≤ List.length (setFrom (setFrom (setFrom L q1 [vs v]) q2 [vi v_1]) q3 [vi v_2]) ∧ T16 (T2 (True ∧ ((T32 (T2 (True ∧ (0 + n * 4 ≤ List.length (setFrom (setFrom (setFrom (setFrom L q1 [vs v]) q2 [vi v_1]) q3 [vi v_2]) q4 [vi 0]) ∧ NLs (List.drop 0 (setFrom (setFrom (setFrom (setFrom L q1 [vs v]) q2 [vi v_1]) q3 [vi v_2]) q4 [vi 0]))) ∧ T4 (True)))) ∧ (T2 (True)) ∧ (T2 (True)) ∧ True) ∧ true = true ∧ pP (h35 (tree 4 n (chunks 4 n (List.drop 0 (setFrom (setFrom (setFrom (setFrom L q1 [vs v]) q2 [vi v_1]) q3 [vi v_2]) q4 [vi 0]))) :: t36)) r e))))))) ∧ ∀ (e : Nat), rsI (-1099511627776) 1099511627776 r_1 = Rs.err e → 1 = 1 ∧ True ∧ 0 + Int.toNat i * 4 + 1 + 1 + 1 ≤ List.length (setFrom (setFrom L q1 [vs v]) q2 [vi v_1]) ∧ T16 (T2 (True ∧ ((T32 (T2 (True ∧ (0 + n * 4 ≤ List.length (setFrom (setFrom (setFrom L q1 [vs v]) q2 [vi v_1]) q3 [vi 0]) ∧ NLs (List.drop 0 (setFrom (setFrom (setFrom L q1 [vs v]) q2 [vi v_1]) q3 [vi 0]))) ∧ T4 (True)))) ∧ (T2 (True)) ∧ (T2 (True)) ∧ True) ∧ true = true ∧ pP (h35 (tree 4 n (chunks 4 n (List.drop 0 (setFrom (setFrom (setFrom L q1 [vs v]) q2 [vi v_1]) q3 [vi 0]))) :: t36)) r_1 e))))))) ∧ ∀ (e : Nat), rsI (-1099511627776) 1099511627776 r = Rs.err e → 1 = 1 ∧ True ∧ 0 + Int.toNat i * 4 + 1 + 0 + 1 ≤ List.length (setFrom L q1 [vs v]) ∧ T16 (T2 (True ∧ ((T32 (T2 (True ∧ (0 + n * 4 ≤ List.length (setFrom (setFrom L q1 [vs v]) q2 [vi 0]) ∧ NLs (List.drop 0 (setFrom (setFrom L q1 [vs v]) q2 [vi 0]))) ∧ T4 (True)))) ∧ (T2 (True)) ∧ (T2 (True)) ∧ True) ∧ true = true ∧ pP (h35 (tree 4 n (chunks 4 n (List.drop 0 (setFrom (setFrom L q1 [vs v]) q2 [vi 0]))) :: t36)) r e))))))) ∧ ∀ (e : Nat), rsT 64 s = Rs.err e → 1 = 1 ∧ True ∧ 0 + Int.toNat i * 4 + 0 + 1 ≤ List.length L ∧ T16 (T2 (True ∧ ((T32 (T2 (True ∧ (0 + n * 4 ≤ List.length (setFrom L q1 [vz]) ∧ NLs (List.drop 0 (setFrom L q1 [vz]))) ∧ T4 (True)))) ∧ (T2 (True)) ∧ (T2 (True)) ∧ True) ∧ true = true ∧ pP (h35 (tree 4 n (chunks 4 n (List.drop 0 (setFrom L q1 [vz]))) :: t36)) s e)))))) ((((T32 (T2 (True ∧ (0 + n * 4 ≤ List.length L ∧ NLs L) ∧ T4 (True)))) ∧ (T2 (True)) ∧ (T2 (True)) ∧ True) ∧ True) ∧ true = true ∧ Post (Out.ret (Value.tuple #[])) [(h35 (tree 4 n (chunks 4 n (List.drop 0 L)) :: t36)), [pt 2, vi w], [vs s, vi 0]])) := by kernel_rfl
theorem z_rd14 (k a w g : Int) (u s : ByteArray) (H : HT) (Post : PX) : vcLX Tryz.prog callR 22 argsR [(19, [0, 1, 132, 133]), (31, [0, 1, 203, 204]), (55, [0, 1, 330, 331])] 3 55 (zR14 k a w g u s) H Post = (True ∧ (((T32 (T8 (True))) ∧ (T2 (True)) ∧ (T2 (True)) ∧ True) ∧ True) ∧ true = true ∧ Post (Out.ret (Value.tuple #[])) [[vi k, vi a, vz, vz, vz, vi 0, vb false, vz, nS, vz, vz, vi 0, vi 0, vi 0, vz, vz, vz, vz, vi 0, vz, vz, vi 0, nS, vz, vi 0, nS, vz, vi 0, vi 0, vi 0, vi 0, vi 0, vi 0, nS, vs u, nS, vz, vi 0, vi 0, vi 0], [pt 2, vi w], [vs s, vi 0]]) := by kernel_rfl
def rowC {α : Type} [Enc α] (l : List α) : List Value := l.flatMap Enc.cells
theorem rowC_snoc {α : Type} [Enc α] (l : List α) (a : α) : rowC (l ++ [a]) = rowC l ++ Enc.cells a := by simp [rowC]
theorem rowC_len {α : Type} [Enc α] : ∀ l : List α, (rowC l).length = l.length * Enc.sz α
 | [] => by simp [rowC]
 | a :: l => by
  have := rowC_len l
  unfold rowC at *
  rw [List.flatMap_cons, List.length_append, this, Enc.len, List.length_cons, Nat.succ_mul, Nat.add_comm]
theorem rowC_nls {α : Type} [Enc α] (l : List α) : NLs (rowC l) := by
 intro v hv
 obtain ⟨a, _, ha⟩ := List.mem_flatMap.1 hv
 exact Enc.nl a v ha
theorem chunks_row {α : Type} [Enc α] (l : List α) : chunks (Enc.sz α) l.length (rowC l) = encL l := by
 unfold chunks encL
 cases hs : (Enc.sz α).beq 1 with
 | true =>
  have h1 := Nat.eq_of_beq_eq_true hs
  rw [cond_true]
  have : rowC l = l.map fun a => elt (Enc.cells a) := by
   clear hs
   induction l with
   | nil => rfl
   | cons a l ih =>
    unfold rowC at *
    rw [List.flatMap_cons, ih, List.map_cons]
    have := Enc.len a
    rw [h1] at this
    obtain ⟨v, hv⟩ := List.length_eq_one_iff.1 this
    rw [hv]
    rfl
  rw [this, List.take_of_length_le (by rw [List.length_map]; exact Nat.le_refl _)]
 | false =>
  rw [cond_false]
  congr 1
  have hne : Enc.sz α ≠ 1 := fun e => by rw [e] at hs; cases hs
  have helt : ∀ a : α, elt (Enc.cells a) = .agg (Enc.cells a).toArray := fun a => by
   have := Enc.len a
   match h : Enc.cells a with
   | [] => rfl
   | [v] => rw [h] at this; exact absurd this.symm hne
   | _ :: _ :: _ => rfl
  clear hs
  induction l with
  | nil => rfl
  | cons a l ih =>
   rw [List.length_cons, List.range_succ_eq_map, List.map_cons, List.map_cons, List.map_map, ← ih, helt]
   congr 1
   ·unfold rowC
    rw [List.flatMap_cons, Nat.zero_mul, List.drop_zero, List.take_left' (Enc.len a)]
   ·apply List.map_congr_left
    intro i _
    show Value.agg _ = Value.agg _
    congr 3
    unfold rowC
    rw [List.flatMap_cons, show (i + 1) * Enc.sz α = (Enc.cells a).length + i * Enc.sz α by rw [Enc.len, Nat.succ_mul, Nat.add_comm], List.drop_append, List.drop_eq_nil_of_le (Nat.le_add_right _ _), Nat.add_sub_cancel_left, List.nil_append]
def Rs.bind {α β : Type} (q : Rs α) (f : α → ByteArray → Rs β) : Rs β := match q with
 | .ok v r => f v r
 | .err e => .err e
def rdF : Fd → ByteArray → Rs Va
 | .t, s => (rsT 64 s).bind fun v r => .ok (.s v) r
 | .n lo hi, s => (rsI lo hi s).bind fun v r => .ok (.i v) r
 | .b, s => (rsB s).bind fun v r => .ok (.b v) r
def rdFs : List Fd → ByteArray → Rs (List Va)
 | [], s => .ok [] s
 | f :: fs, s => (rdF f s).bind fun v r => (rdFs fs r).bind fun vs r => .ok (v :: vs) r
def rdEs (fs : List Fd) : Nat → ByteArray → Rs (List (List Va))
 | 0, s => .ok [] s
 | n + 1, s => (rdFs fs s).bind fun v r => (rdEs fs n r).bind fun vs r => .ok (v :: vs) r
def rdLs (k : Nat) (s : ByteArray) : Rs (List (List Va)) := match shE k with
 | none => .ok [] s
 | some (m, fs) => (rsL m s).bind fun n r => rdEs fs n r
def rdBody (k : Nat) (s : ByteArray) : Rs (List Va × List (List Va)) := (rdFs (shN k) s).bind fun vs r => (rdLs k r).bind fun es r => .ok (vs, es) r
def gS (l : List Va) (i : Nat) : ByteArray := match l[i]? with
 | some (.s x) => x
 | _ => ⟨#[]⟩
def gI (l : List Va) (i : Nat) : Int := match l[i]? with
 | some (.i x) => x
 | _ => 0
def gB (l : List Va) (i : Nat) : Bool := match l[i]? with
 | some (.b x) => x
 | _ => false
def toSpot (l : List Va) : Spot := ⟨gS l 0, ⟨gI l 1, gI l 2⟩, gI l 3, gB l 4⟩
def toName (l : List Va) : ByteArray := gS l 0
def toHook (l : List Va) : Hook4 := ⟨gS l 0, ⟨gI l 1, gI l 2⟩, gI l 3⟩
def mkEv (k a : Int) (v : List Va) (es : List (List Va)) : Event :=
 let z : Event := { evt0 with kind := k, at_ := a }
 match k.toNat with
 | 2 => { z with sheet := ⟨gS v 0, gS v 1, gI v 2, gI v 3, gI v 4, gS v 5⟩ }
 | 3 => { z with bar := ⟨gS v 0, gS v 1, gS v 2, gI v 3, gS v 4⟩ }
 | 4 => { z with item := gS v 0, by_ := gS v 1 }
 | 5 => { z with nest := ⟨gS v 0, gI v 1, es.map toSpot⟩ }
 | 6 => { z with saw := ⟨gS v 0, gI v 1, es.map toName⟩ }
 | 7 => { z with item := gS v 0 }
 | 8 => { z with item := gS v 0 }
 | 9 => { z with item := gS v 0, of_ := gS v 1, by_ := gS v 2 }
 | 10 => { z with item := gS v 0, n := gI v 1, pass := gB v 2 }
 | 11 => { z with item := gS v 0, of_ := gS v 1, by_ := gS v 2 }
 | 12 => { z with item := gS v 0 }
 | 13 => { z with weig := ⟨gS v 0, 0, gI v 1, ⟨gI v 2, gI v 3, gI v 4⟩, gI v 5, []⟩ }
 | 14 => { z with lift := ⟨gS v 0, es.map toHook⟩ }
 | 15 => { z with permit := ⟨gS v 0, gI v 1, ⟨gI v 2, gI v 3⟩⟩ }
 | 16 => { z with item := gS v 0 }
 | _ => z
theorem mkRs_ok {α : Type} {q : α × St} {v : α} {r : ByteArray} (h : mkRs q = .ok v r) : q.2.2 = 0 ∧ q.1 = v ∧ q.2.1 = r := by
 unfold mkRs at h
 split at h
 ·cases h; exact ⟨by assumption, rfl, rfl⟩
 ·cases h
theorem leT {m : Nat} {s v r : ByteArray} (h : rsT m s = .ok v r) : r.size ≤ s.size := by
 obtain ⟨_, _, rfl⟩ := mkRs_ok h
 have := (rdHead_left 2 m true (s, 0)).1
 show ((rdHead 2 m true (s, 0)).2.1.extract _ _).size ≤ _
 rw [ext_size]
 exact Nat.le_trans (Nat.sub_le _ _) this
theorem leI {lo hi v : Int} {s r : ByteArray} (h : rsI lo hi s = .ok v r) : r.size ≤ s.size := by
 obtain ⟨_, _, rfl⟩ := mkRs_ok h
 unfold rdInt
 dsimp only
 split
 ·exact Nat.le_refl _
 split
 ·exact Nat.le_refl _
 split
 ·exact Nat.le_refl _
 generalize (if (pk s 0 1).1 = 1 then -1 - ((pk s 0 1).2.1 : Int) else ((pk s 0 1).2.1 : Int)) = y
 split
 ·exact Nat.le_refl _
 ·dsimp only
  rw [ext_size]
  exact Nat.sub_le _ _
theorem leL {m v : Nat} {s r : ByteArray} (h : rsL m s = .ok v r) : r.size ≤ s.size ∧ v ≤ m := by
 obtain ⟨_, rfl, rfl⟩ := mkRs_ok h
 have := rdHead_left 4 m false (s, 0)
 exact ⟨this.1, this.2.1⟩
theorem leB {v : Bool} {s r : ByteArray} (h : rsB s = .ok v r) : r.size ≤ s.size := by
 unfold rsB at h
 split at h
 ·cases h
 split at h
 ·cases h; rw [ext_size]; exact Nat.sub_le _ _
 split at h
 ·cases h; rw [ext_size]; exact Nat.sub_le _ _
 ·cases h
theorem callR_ok : PCallOk Tryz.prog callR := inlP_ok mixed (ofV_ok (itabCall_ok (by
 intro e he
 simp only [tabRd, List.mem_cons, List.not_mem_nil, or_false] at he
 rcases he with rfl | rfl | rfl | rfl
 ·exact ok_kI
 ·exact ok_kT
 ·exact ok_kL
 ·exact ok_kB) noCall_ok)) 5
theorem take_set3 {L : List Value} {o k j : Nat} {v : Value} (h : k < L.length) (ho : o = k) (hj : j = k + 1) : (L.set o v).take j = L.take k ++ [v] := by
 subst ho hj
 exact set_take h
abbrev panE (e : Nat) : Out := .pan (.iface 50 (.int .i64 (.ofNat (e + 1))))
abbrev retU : Out := .ret (.tuple #[])
theorem rl5 (k a w g : Int) (u : ByteArray) (N : Nat) (hN : N ≤ 100) {Post : Out → List (List Value) → Prop} : ∀ (m i : Nat) (s : ByteArray) (L : List Value) (d : List Spot), i + m = N → d.length = i → L.length = N * 5 → NLs L → L.take (i * 5) = rowC d → s.size < 4611686018427387904 →
  (∀ es r, rdEs [.t, nF, nF, nF, .b] m s = .ok es r → Post retU [(cR5 k a g u (tree 5 (d ++ es.map toSpot).length (encL (d ++ es.map toSpot)))), [ptr2, .int .i64 w], [.string r, .int .i64 0]]) →
  (∀ e, rdEs [.t, nF, nF, nF, .b] m s = .err e → ∀ c r, c.length = 40 → Post (panE e) [c, [ptr2, .int .i64 w], [.string r, .int .i64 (.ofNat (e + 1))]]) → OkX Tryz.prog 22 argsR 3 Post (lpC Tryz.prog 22 19) (lpK Tryz.prog 22 19) (sR5 k a w g u s L N (i)) := by
 intro m
 induction m with
 | zero =>
  intro i s L d h1 h2 h3 h4 h5 h6 hO hE
  obtain rfl : i = N := by omega
  refine ok_X callR_ok mixed [(19, [0, 1, 132, 133]), (31, [0, 1, 203, 204]), (55, [0, 1, 330, 331])] (l_rd5 k a w g u s L i i _ _) ?_
  simp only [true_and, and_true]
  refine pIfD (fun hh => absurd hh (by omega)) (fun _ => ?_)
  have e1 : L = rowC d := by rw [← h5, List.take_of_length_le (by omega)]
  have e2 : chunks 5 i (List.drop 0 L) = encL d := by rw [List.drop_zero, e1, ← h2]; exact chunks_row d
  have hz := hO [] s rfl
  rw [List.map_nil, List.append_nil, h2] at hz
  rw [e2]
  repeat' (first | exact rfl | refine And.intro ?_ ?_ | trivial | exact h4 | omega | exact hz)
 | succ m ih =>
  intro i s L d h1 h2 h3 h4 h5 h6 hO hE
  refine ok_X callR_ok mixed [(19, [0, 1, 132, 133]), (31, [0, 1, 203, 204]), (55, [0, 1, 330, 331])] (l_rd5 k a w g u s L N i _ _) ?_
  have ek : ((i : Nat) : Int).toNat = i := by omega
  simp only [true_and, and_true, ek, wrapSucc (show i < 2 ^ 62 by omega), setFrom]
  refine pIfD (fun _ => ?_) (fun hh => absurd hh (by omega))
  repeat' (first | exact rfl | refine And.intro ?_ ?_ | trivial | decide | omega | (simp only [List.length_set]; omega) | exact h4 | exact (NLs_set h4 rfl))
  rotate_left
  ·intro e ee
   repeat' (first | exact rfl | refine And.intro ?_ ?_ | trivial | exact hE e (by simp only [rdEs, rdFs, rdF, Rs.bind, ee]) _ _ rfl | decide | omega | (simp only [List.length_set]; omega) | exact (NLs_set h4 rfl) | exact (NLs_set (NLs_set h4 rfl) rfl))
  intro v0 r0 e0
  have q0 := leT e0
  repeat' (first | exact rfl | refine And.intro ?_ ?_ | trivial | decide | omega | (simp only [List.length_set]; omega) | exact (NLs_set h4 rfl) | exact (NLs_set (NLs_set h4 rfl) rfl))
  rotate_left
  ·intro e ee
   repeat' (first | exact rfl | refine And.intro ?_ ?_ | trivial | exact hE e (by simp only [rdEs, rdFs, rdF, Rs.bind, e0, ee]) _ _ rfl | decide | omega | (simp only [List.length_set]; omega) | exact (NLs_set (NLs_set h4 rfl) rfl) | exact (NLs_set (NLs_set (NLs_set h4 rfl) rfl) rfl))
  intro v1 r1 e1
  have q1 := leI e1
  repeat' (first | exact rfl | refine And.intro ?_ ?_ | trivial | decide | omega | (simp only [List.length_set]; omega) | exact (NLs_set (NLs_set h4 rfl) rfl) | exact (NLs_set (NLs_set (NLs_set h4 rfl) rfl) rfl))
  rotate_left
  ·intro e ee
   repeat' (first | exact rfl | refine And.intro ?_ ?_ | trivial | exact hE e (by simp only [rdEs, rdFs, rdF, Rs.bind, e0, e1, ee]) _ _ rfl | decide | omega | (simp only [List.length_set]; omega) | exact (NLs_set (NLs_set (NLs_set h4 rfl) rfl) rfl) | exact (NLs_set (NLs_set (NLs_set (NLs_set h4 rfl) rfl) rfl) rfl))
  intro v2 r2 e2
  have q2 := leI e2
  repeat' (first | exact rfl | refine And.intro ?_ ?_ | trivial | decide | omega | (simp only [List.length_set]; omega) | exact (NLs_set (NLs_set (NLs_set h4 rfl) rfl) rfl) | exact (NLs_set (NLs_set (NLs_set (NLs_set h4 rfl) rfl) rfl) rfl))
  rotate_left
  ·intro e ee
   repeat' (first | exact rfl | refine And.intro ?_ ?_ | trivial | exact hE e (by simp only [rdEs, rdFs, rdF, Rs.bind, e0, e1, e2, ee]) _ _ rfl | decide | omega | (simp only [List.length_set]; omega) | exact (NLs_set (NLs_set (NLs_set (NLs_set h4 rfl) rfl) rfl) rfl) | exact (NLs_set (NLs_set (NLs_set (NLs_set (NLs_set h4 rfl) rfl) rfl) rfl) rfl))
  intro v3 r3 e3
  have q3 := leI e3
  repeat' (first | exact rfl | refine And.intro ?_ ?_ | trivial | decide | omega | (simp only [List.length_set]; omega) | exact (NLs_set (NLs_set (NLs_set (NLs_set h4 rfl) rfl) rfl) rfl) | exact (NLs_set (NLs_set (NLs_set (NLs_set (NLs_set h4 rfl) rfl) rfl) rfl) rfl))
  rotate_left
  ·intro e ee
   repeat' (first | exact rfl | refine And.intro ?_ ?_ | trivial | exact hE e (by simp only [rdEs, rdFs, rdF, Rs.bind, e0, e1, e2, e3, ee]) _ _ rfl | decide | omega | (simp only [List.length_set]; omega) | exact (NLs_set (NLs_set (NLs_set (NLs_set (NLs_set h4 rfl) rfl) rfl) rfl) rfl) | exact (NLs_set (NLs_set (NLs_set (NLs_set (NLs_set (NLs_set h4 rfl) rfl) rfl) rfl) rfl) rfl))
  intro v4 r4 e4
  have q4 := leB e4
  have hn : NLs (((((L.set (0 + i * 5 + 0) (.string v0)).set (0 + i * 5 + 1 + 0) (.int .i64 v1)).set (0 + i * 5 + 1 + 1) (.int .i64 v2)).set (0 + i * 5 + 3) (.int .i64 v3)).set (0 + i * 5 + 4) (.bool v4)) := (NLs_set (NLs_set (NLs_set (NLs_set (NLs_set h4 rfl) rfl) rfl) rfl) rfl)
  have ht : ((((((L.set (0 + i * 5 + 0) (.string v0)).set (0 + i * 5 + 1 + 0) (.int .i64 v1)).set (0 + i * 5 + 1 + 1) (.int .i64 v2)).set (0 + i * 5 + 3) (.int .i64 v3)).set (0 + i * 5 + 4) (.bool v4))).take ((i + 1) * 5) = rowC (d ++ [⟨v0, ⟨v1, v2⟩, v3, v4⟩]) := by
   rw [rowC_snoc, ← h5, take_set3 (k := i * 5 + 4) (by first | omega | (simp only [List.length_set]; omega)) (by omega) (by omega), take_set3 (k := i * 5 + 3) (by first | omega | (simp only [List.length_set]; omega)) (by omega) (by omega), take_set3 (k := i * 5 + 2) (by first | omega | (simp only [List.length_set]; omega)) (by omega) (by omega), take_set3 (k := i * 5 + 1) (by first | omega | (simp only [List.length_set]; omega)) (by omega) (by omega), take_set3 (k := i * 5 + 0) (by first | omega | (simp only [List.length_set]; omega)) (by omega) (by omega)]
   simp only [List.append_assoc, Nat.add_zero]
   rfl
  have hz : OkX Tryz.prog 22 argsR 3 Post (lpC Tryz.prog 22 19) (lpK Tryz.prog 22 19) (sR5 k a w g u r4 (((((L.set (0 + i * 5 + 0) (.string v0)).set (0 + i * 5 + 1 + 0) (.int .i64 v1)).set (0 + i * 5 + 1 + 1) (.int .i64 v2)).set (0 + i * 5 + 3) (.int .i64 v3)).set (0 + i * 5 + 4) (.bool v4)) N (((i + 1 : Nat) : Int))) := ih (i + 1) r4 (((((L.set (0 + i * 5 + 0) (.string v0)).set (0 + i * 5 + 1 + 0) (.int .i64 v1)).set (0 + i * 5 + 1 + 1) (.int .i64 v2)).set (0 + i * 5 + 3) (.int .i64 v3)).set (0 + i * 5 + 4) (.bool v4)) (d ++ [⟨v0, ⟨v1, v2⟩, v3, v4⟩]) (by omega) (by simp; omega) (by simp only [List.length_set]; exact h3) hn ht (by omega) (fun es r he => by
    have := hO ([.s v0, .i v1, .i v2, .i v3, .b v4] :: es) r (by simp only [rdEs, rdFs, rdF, Rs.bind, e0, e1, e2, e3, e4, he])
    rw [List.map_cons, show toSpot [.s v0, .i v1, .i v2, .i v3, .b v4] = (⟨v0, ⟨v1, v2⟩, v3, v4⟩ : Spot) from rfl, show d ++ (⟨v0, ⟨v1, v2⟩, v3, v4⟩ : Spot) :: es.map toSpot = d ++ [⟨v0, ⟨v1, v2⟩, v3, v4⟩] ++ es.map toSpot by simp] at this
    exact this) (fun e he => hE e (by simp only [rdEs, rdFs, rdF, Rs.bind, e0, e1, e2, e3, e4, he]))
  cases v4 <;> refine pIf_intro (fun hb => ?_) (fun hb => ?_) <;> first | (cases hb; done) | skip
  all_goals
   repeat' (first | exact rfl | exact hz | refine And.intro ?_ ?_ | trivial | decide | omega | (simp only [List.length_set]; omega) | exact hn)
theorem rl6 (k a w g : Int) (u : ByteArray) (N : Nat) (hN : N ≤ 100) {Post : Out → List (List Value) → Prop} : ∀ (m i : Nat) (s : ByteArray) (L : List Value) (d : List ByteArray), i + m = N → d.length = i → L.length = N * 1 → NLs L → L.take (i * 1) = rowC d → s.size < 4611686018427387904 →
  (∀ es r, rdEs [.t] m s = .ok es r → Post retU [(cR6 k a g u (tree 1 (d ++ es.map toName).length (encL (d ++ es.map toName)))), [ptr2, .int .i64 w], [.string r, .int .i64 0]]) →
  (∀ e, rdEs [.t] m s = .err e → ∀ c r, c.length = 40 → Post (panE e) [c, [ptr2, .int .i64 w], [.string r, .int .i64 (.ofNat (e + 1))]]) → OkX Tryz.prog 22 argsR 3 Post (lpC Tryz.prog 22 31) (lpK Tryz.prog 22 31) (sR6 k a w g u s L N (i)) := by
 intro m
 induction m with
 | zero =>
  intro i s L d h1 h2 h3 h4 h5 h6 hO hE
  obtain rfl : i = N := by omega
  refine ok_X callR_ok mixed [(19, [0, 1, 132, 133]), (31, [0, 1, 203, 204]), (55, [0, 1, 330, 331])] (l_rd6 k a w g u s L i i _ _) ?_
  simp only [true_and, and_true]
  refine pIfD (fun hh => absurd hh (by omega)) (fun _ => ?_)
  have e1 : L = rowC d := by rw [← h5, List.take_of_length_le (by omega)]
  have e2 : chunks 1 i (List.drop 0 L) = encL d := by rw [List.drop_zero, e1, ← h2]; exact chunks_row d
  have hz := hO [] s rfl
  rw [List.map_nil, List.append_nil, h2] at hz
  rw [e2]
  repeat' (first | exact rfl | refine And.intro ?_ ?_ | trivial | exact h4 | omega | exact hz)
 | succ m ih =>
  intro i s L d h1 h2 h3 h4 h5 h6 hO hE
  refine ok_X callR_ok mixed [(19, [0, 1, 132, 133]), (31, [0, 1, 203, 204]), (55, [0, 1, 330, 331])] (l_rd6 k a w g u s L N i _ _) ?_
  have ek : ((i : Nat) : Int).toNat = i := by omega
  simp only [true_and, and_true, ek, wrapSucc (show i < 2 ^ 62 by omega), setFrom]
  refine pIfD (fun _ => ?_) (fun hh => absurd hh (by omega))
  repeat' (first | exact rfl | refine And.intro ?_ ?_ | trivial | decide | omega | (simp only [List.length_set]; omega) | exact h4 | exact (NLs_set h4 rfl))
  rotate_left
  ·intro e ee
   repeat' (first | exact rfl | refine And.intro ?_ ?_ | trivial | exact hE e (by simp only [rdEs, rdFs, rdF, Rs.bind, ee]) _ _ rfl | decide | omega | (simp only [List.length_set]; omega) | exact (NLs_set h4 rfl) | exact (NLs_set (NLs_set h4 rfl) rfl))
  intro v0 r0 e0
  have q0 := leT e0
  have hn : NLs (L.set (0 + i * 1) (.string v0)) := (NLs_set h4 rfl)
  have ht : ((L.set (0 + i * 1) (.string v0))).take ((i + 1) * 1) = rowC (d ++ [v0]) := by
   rw [rowC_snoc, ← h5, take_set3 (k := i * 1 + 0) (by first | omega | (simp only [List.length_set]; omega)) (by omega) (by omega)]
   simp only [List.append_assoc, Nat.add_zero]
   rfl
  have hz : OkX Tryz.prog 22 argsR 3 Post (lpC Tryz.prog 22 31) (lpK Tryz.prog 22 31) (sR6 k a w g u r0 (L.set (0 + i * 1) (.string v0)) N (((i + 1 : Nat) : Int))) := ih (i + 1) r0 (L.set (0 + i * 1) (.string v0)) (d ++ [v0]) (by omega) (by simp; omega) (by simp only [List.length_set]; exact h3) hn ht (by omega) (fun es r he => by
    have := hO ([.s v0] :: es) r (by simp only [rdEs, rdFs, rdF, Rs.bind, e0, he])
    rw [List.map_cons, show toName [.s v0] = (v0 : ByteArray) from rfl, show d ++ (v0 : ByteArray) :: es.map toName = d ++ [v0] ++ es.map toName by simp] at this
    exact this) (fun e he => hE e (by simp only [rdEs, rdFs, rdF, Rs.bind, e0, he]))
  repeat' (first | exact rfl | exact hz | refine And.intro ?_ ?_ | trivial | decide | omega | (simp only [List.length_set]; omega) | exact hn)
theorem rl14 (k a w g : Int) (u : ByteArray) (N : Nat) (hN : N ≤ 100) {Post : Out → List (List Value) → Prop} : ∀ (m i : Nat) (s : ByteArray) (L : List Value) (d : List Hook4), i + m = N → d.length = i → L.length = N * 4 → NLs L → L.take (i * 4) = rowC d → s.size < 4611686018427387904 →
  (∀ es r, rdEs [.t, nF, nF, nF] m s = .ok es r → Post retU [(cR14 k a g u (tree 4 (d ++ es.map toHook).length (encL (d ++ es.map toHook)))), [ptr2, .int .i64 w], [.string r, .int .i64 0]]) →
  (∀ e, rdEs [.t, nF, nF, nF] m s = .err e → ∀ c r, c.length = 40 → Post (panE e) [c, [ptr2, .int .i64 w], [.string r, .int .i64 (.ofNat (e + 1))]]) → OkX Tryz.prog 22 argsR 3 Post (lpC Tryz.prog 22 55) (lpK Tryz.prog 22 55) (sR14 k a w g u s L N (i)) := by
 intro m
 induction m with
 | zero =>
  intro i s L d h1 h2 h3 h4 h5 h6 hO hE
  obtain rfl : i = N := by omega
  refine ok_X callR_ok mixed [(19, [0, 1, 132, 133]), (31, [0, 1, 203, 204]), (55, [0, 1, 330, 331])] (l_rd14 k a w g u s L i i _ _) ?_
  simp only [true_and, and_true]
  refine pIfD (fun hh => absurd hh (by omega)) (fun _ => ?_)
  have e1 : L = rowC d := by rw [← h5, List.take_of_length_le (by omega)]
  have e2 : chunks 4 i (List.drop 0 L) = encL d := by rw [List.drop_zero, e1, ← h2]; exact chunks_row d
  have hz := hO [] s rfl
  rw [List.map_nil, List.append_nil, h2] at hz
  rw [e2]
  repeat' (first | exact rfl | refine And.intro ?_ ?_ | trivial | exact h4 | omega | exact hz)
 | succ m ih =>
  intro i s L d h1 h2 h3 h4 h5 h6 hO hE
  refine ok_X callR_ok mixed [(19, [0, 1, 132, 133]), (31, [0, 1, 203, 204]), (55, [0, 1, 330, 331])] (l_rd14 k a w g u s L N i _ _) ?_
  have ek : ((i : Nat) : Int).toNat = i := by omega
  simp only [true_and, and_true, ek, wrapSucc (show i < 2 ^ 62 by omega), setFrom]
  refine pIfD (fun _ => ?_) (fun hh => absurd hh (by omega))
  repeat' (first | exact rfl | refine And.intro ?_ ?_ | trivial | decide | omega | (simp only [List.length_set]; omega) | exact h4 | exact (NLs_set h4 rfl))
  rotate_left
  ·intro e ee
   repeat' (first | exact rfl | refine And.intro ?_ ?_ | trivial | exact hE e (by simp only [rdEs, rdFs, rdF, Rs.bind, ee]) _ _ rfl | decide | omega | (simp only [List.length_set]; omega) | exact (NLs_set h4 rfl) | exact (NLs_set (NLs_set h4 rfl) rfl))
  intro v0 r0 e0
  have q0 := leT e0
  repeat' (first | exact rfl | refine And.intro ?_ ?_ | trivial | decide | omega | (simp only [List.length_set]; omega) | exact (NLs_set h4 rfl) | exact (NLs_set (NLs_set h4 rfl) rfl))
  rotate_left
  ·intro e ee
   repeat' (first | exact rfl | refine And.intro ?_ ?_ | trivial | exact hE e (by simp only [rdEs, rdFs, rdF, Rs.bind, e0, ee]) _ _ rfl | decide | omega | (simp only [List.length_set]; omega) | exact (NLs_set (NLs_set h4 rfl) rfl) | exact (NLs_set (NLs_set (NLs_set h4 rfl) rfl) rfl))
  intro v1 r1 e1
  have q1 := leI e1
  repeat' (first | exact rfl | refine And.intro ?_ ?_ | trivial | decide | omega | (simp only [List.length_set]; omega) | exact (NLs_set (NLs_set h4 rfl) rfl) | exact (NLs_set (NLs_set (NLs_set h4 rfl) rfl) rfl))
  rotate_left
  ·intro e ee
   repeat' (first | exact rfl | refine And.intro ?_ ?_ | trivial | exact hE e (by simp only [rdEs, rdFs, rdF, Rs.bind, e0, e1, ee]) _ _ rfl | decide | omega | (simp only [List.length_set]; omega) | exact (NLs_set (NLs_set (NLs_set h4 rfl) rfl) rfl) | exact (NLs_set (NLs_set (NLs_set (NLs_set h4 rfl) rfl) rfl) rfl))
  intro v2 r2 e2
  have q2 := leI e2
  repeat' (first | exact rfl | refine And.intro ?_ ?_ | trivial | decide | omega | (simp only [List.length_set]; omega) | exact (NLs_set (NLs_set (NLs_set h4 rfl) rfl) rfl) | exact (NLs_set (NLs_set (NLs_set (NLs_set h4 rfl) rfl) rfl) rfl))
  rotate_left
  ·intro e ee
   repeat' (first | exact rfl | refine And.intro ?_ ?_ | trivial | exact hE e (by simp only [rdEs, rdFs, rdF, Rs.bind, e0, e1, e2, ee]) _ _ rfl | decide | omega | (simp only [List.length_set]; omega) | exact (NLs_set (NLs_set (NLs_set (NLs_set h4 rfl) rfl) rfl) rfl) | exact (NLs_set (NLs_set (NLs_set (NLs_set (NLs_set h4 rfl) rfl) rfl) rfl) rfl))
  intro v3 r3 e3
  have q3 := leI e3
  have hn : NLs ((((L.set (0 + i * 4 + 0) (.string v0)).set (0 + i * 4 + 1 + 0) (.int .i64 v1)).set (0 + i * 4 + 1 + 1) (.int .i64 v2)).set (0 + i * 4 + 3) (.int .i64 v3)) := (NLs_set (NLs_set (NLs_set (NLs_set h4 rfl) rfl) rfl) rfl)
  have ht : (((((L.set (0 + i * 4 + 0) (.string v0)).set (0 + i * 4 + 1 + 0) (.int .i64 v1)).set (0 + i * 4 + 1 + 1) (.int .i64 v2)).set (0 + i * 4 + 3) (.int .i64 v3))).take ((i + 1) * 4) = rowC (d ++ [⟨v0, ⟨v1, v2⟩, v3⟩]) := by
   rw [rowC_snoc, ← h5, take_set3 (k := i * 4 + 3) (by first | omega | (simp only [List.length_set]; omega)) (by omega) (by omega), take_set3 (k := i * 4 + 2) (by first | omega | (simp only [List.length_set]; omega)) (by omega) (by omega), take_set3 (k := i * 4 + 1) (by first | omega | (simp only [List.length_set]; omega)) (by omega) (by omega), take_set3 (k := i * 4 + 0) (by first | omega | (simp only [List.length_set]; omega)) (by omega) (by omega)]
   simp only [List.append_assoc, Nat.add_zero]
   rfl
  have hz : OkX Tryz.prog 22 argsR 3 Post (lpC Tryz.prog 22 55) (lpK Tryz.prog 22 55) (sR14 k a w g u r3 ((((L.set (0 + i * 4 + 0) (.string v0)).set (0 + i * 4 + 1 + 0) (.int .i64 v1)).set (0 + i * 4 + 1 + 1) (.int .i64 v2)).set (0 + i * 4 + 3) (.int .i64 v3)) N (((i + 1 : Nat) : Int))) := ih (i + 1) r3 ((((L.set (0 + i * 4 + 0) (.string v0)).set (0 + i * 4 + 1 + 0) (.int .i64 v1)).set (0 + i * 4 + 1 + 1) (.int .i64 v2)).set (0 + i * 4 + 3) (.int .i64 v3)) (d ++ [⟨v0, ⟨v1, v2⟩, v3⟩]) (by omega) (by simp; omega) (by simp only [List.length_set]; exact h3) hn ht (by omega) (fun es r he => by
    have := hO ([.s v0, .i v1, .i v2, .i v3] :: es) r (by simp only [rdEs, rdFs, rdF, Rs.bind, e0, e1, e2, e3, he])
    rw [List.map_cons, show toHook [.s v0, .i v1, .i v2, .i v3] = (⟨v0, ⟨v1, v2⟩, v3⟩ : Hook4) from rfl, show d ++ (⟨v0, ⟨v1, v2⟩, v3⟩ : Hook4) :: es.map toHook = d ++ [⟨v0, ⟨v1, v2⟩, v3⟩] ++ es.map toHook by simp] at this
    exact this) (fun e he => hE e (by simp only [rdEs, rdFs, rdF, Rs.bind, e0, e1, e2, e3, he]))
  repeat' (first | exact rfl | exact hz | refine And.intro ?_ ?_ | trivial | decide | omega | (simp only [List.length_set]; omega) | exact hn)
def lax : List Value → List Value → Prop
 | [], [] => True
 | u :: us, v :: vs => (u = v ∨ (u = nilS ∧ ∃ sz, v = tree sz 0 #[])) ∧ lax us vs
 | _, _ => False
theorem NLs_zrow {z : List Value} (h : NLs z) : ∀ n, NLs (zrow n z)
 | 0 => fun v hv => by simp [zrow] at hv
 | n + 1 => fun v hv => by
  rw [zrow] at hv
  rcases List.mem_append.1 hv with hv | hv
  ·exact h v hv
  ·exact NLs_zrow h n v hv
abbrev OK_r (n : Nat) (k a w : Int) (s : ByteArray) (Q : Out → List (List Value) → Prop) : Prop := ∀ vs es r, rdBody n s = .ok (vs, es) r → ∀ c, lax c (eventC (mkEv k a vs es)) → Q retU [c, [ptr2, .int .i64 w], [.string r, .int .i64 0]]
abbrev ER_r (n : Nat) (w : Int) (s : ByteArray) (Q : Out → List (List Value) → Prop) : Prop := ∀ e, rdBody n s = .err e → ∀ c r, c.length = 40 → Q (panE e) [c, [ptr2, .int .i64 w], [.string r, .int .i64 (.ofNat (e + 1))]]
theorem vr_X {k a w : Int} {s : ByteArray} (k1 : 2 ≤ k) (k2 : k ≤ 18) (hs : s.size < 4611686018427387904) {Q : Out → List (List Value) → Prop}
  (hO : OK_r k.toNat k a w s Q) (hE : ER_r k.toNat w s Q) :
  SpecX Tryz.prog 22 3 (hpOf [cells0 k a, [ptr2, .int .i64 w], [.string s, .int .i64 0]]) argsR (xpost 3 Q) := by
 refine spec_X callR_ok mixed (by kernel_rfl) (by kernel_rfl) [(19, [0, 1, 132, 133]), (31, [0, 1, 203, 204]), (55, [0, 1, 330, 331])] (e_rd k a w s _ _) ?_
 simp only [true_and, and_true]
 refine pIfD (fun hk => absurd hk (by omega)) (fun n1 => ?_)
 refine pIfD (fun hk => ?_) (fun n2 => ?_)
 ·clear k1 k2
  subst hk
  replace hO : OK_r 2 2 a w s Q := hO
  replace hE : ER_r 2 w s Q := hE
  and_intros <;> try first | omega | decide | rfl
  rotate_left
  ·intro e ee
   and_intros <;> try first | omega | decide | rfl | exact hE e (by simp only [rdBody, shN, rdFs, rdF, Rs.bind, ee]) _ _ rfl
  intro v0 r0 e0
  have q0 := leT e0
  and_intros <;> try first | omega | decide | rfl
  rotate_left
  ·intro e ee
   and_intros <;> try first | omega | decide | rfl | exact hE e (by simp only [rdBody, shN, rdFs, rdF, Rs.bind, e0, ee]) _ _ rfl
  intro v1 r1 e1
  have q1 := leT e1
  and_intros <;> try first | omega | decide | rfl
  rotate_left
  ·intro e ee
   and_intros <;> try first | omega | decide | rfl | exact hE e (by simp only [rdBody, shN, rdFs, rdF, Rs.bind, e0, e1, ee]) _ _ rfl
  intro v2 r2 e2
  have q2 := leI e2
  and_intros <;> try first | omega | decide | rfl
  rotate_left
  ·intro e ee
   and_intros <;> try first | omega | decide | rfl | exact hE e (by simp only [rdBody, shN, rdFs, rdF, Rs.bind, e0, e1, e2, ee]) _ _ rfl
  intro v3 r3 e3
  have q3 := leI e3
  and_intros <;> try first | omega | decide | rfl
  rotate_left
  ·intro e ee
   and_intros <;> try first | omega | decide | rfl | exact hE e (by simp only [rdBody, shN, rdFs, rdF, Rs.bind, e0, e1, e2, e3, ee]) _ _ rfl
  intro v4 r4 e4
  have q4 := leI e4
  and_intros <;> try first | omega | decide | rfl
  rotate_left
  ·intro e ee
   and_intros <;> try first | omega | decide | rfl | exact hE e (by simp only [rdBody, shN, rdFs, rdF, Rs.bind, e0, e1, e2, e3, e4, ee]) _ _ rfl
  intro v5 r5 e5
  have q5 := leT e5
  have hz := fun c => hO [.s v0, .s v1, .i v2, .i v3, .i v4, .s v5] [] r5 (by simp only [rdBody, shN, rdFs, rdF, Rs.bind, e0, e1, e2, e3, e4, e5, rdLs, shE]) c
  and_intros <;> try first | omega | decide | rfl | exact hz _ (by repeat' (first | exact trivial | refine ⟨.inl rfl, ?_⟩ | refine ⟨.inr ⟨rfl, _, rfl⟩, ?_⟩))
 refine pIfD (fun hk => ?_) (fun n3 => ?_)
 ·clear k1 k2
  subst hk
  replace hO : OK_r 3 3 a w s Q := hO
  replace hE : ER_r 3 w s Q := hE
  and_intros <;> try first | omega | decide | rfl
  rotate_left
  ·intro e ee
   and_intros <;> try first | omega | decide | rfl | exact hE e (by simp only [rdBody, shN, rdFs, rdF, Rs.bind, ee]) _ _ rfl
  intro v0 r0 e0
  have q0 := leT e0
  and_intros <;> try first | omega | decide | rfl
  rotate_left
  ·intro e ee
   and_intros <;> try first | omega | decide | rfl | exact hE e (by simp only [rdBody, shN, rdFs, rdF, Rs.bind, e0, ee]) _ _ rfl
  intro v1 r1 e1
  have q1 := leT e1
  and_intros <;> try first | omega | decide | rfl
  rotate_left
  ·intro e ee
   and_intros <;> try first | omega | decide | rfl | exact hE e (by simp only [rdBody, shN, rdFs, rdF, Rs.bind, e0, e1, ee]) _ _ rfl
  intro v2 r2 e2
  have q2 := leT e2
  and_intros <;> try first | omega | decide | rfl
  rotate_left
  ·intro e ee
   and_intros <;> try first | omega | decide | rfl | exact hE e (by simp only [rdBody, shN, rdFs, rdF, Rs.bind, e0, e1, e2, ee]) _ _ rfl
  intro v3 r3 e3
  have q3 := leI e3
  and_intros <;> try first | omega | decide | rfl
  rotate_left
  ·intro e ee
   and_intros <;> try first | omega | decide | rfl | exact hE e (by simp only [rdBody, shN, rdFs, rdF, Rs.bind, e0, e1, e2, e3, ee]) _ _ rfl
  intro v4 r4 e4
  have q4 := leT e4
  have hz := fun c => hO [.s v0, .s v1, .s v2, .i v3, .s v4] [] r4 (by simp only [rdBody, shN, rdFs, rdF, Rs.bind, e0, e1, e2, e3, e4, rdLs, shE]) c
  and_intros <;> try first | omega | decide | rfl | exact hz _ (by repeat' (first | exact trivial | refine ⟨.inl rfl, ?_⟩ | refine ⟨.inr ⟨rfl, _, rfl⟩, ?_⟩))
 refine pIfD (fun hk => ?_) (fun n4 => ?_)
 ·clear k1 k2
  subst hk
  replace hO : OK_r 4 4 a w s Q := hO
  replace hE : ER_r 4 w s Q := hE
  and_intros <;> try first | omega | decide | rfl
  rotate_left
  ·intro e ee
   and_intros <;> try first | omega | decide | rfl | exact hE e (by simp only [rdBody, shN, rdFs, rdF, Rs.bind, ee]) _ _ rfl
  intro v0 r0 e0
  have q0 := leT e0
  and_intros <;> try first | omega | decide | rfl
  rotate_left
  ·intro e ee
   and_intros <;> try first | omega | decide | rfl | exact hE e (by simp only [rdBody, shN, rdFs, rdF, Rs.bind, e0, ee]) _ _ rfl
  intro v1 r1 e1
  have q1 := leT e1
  have hz := fun c => hO [.s v0, .s v1] [] r1 (by simp only [rdBody, shN, rdFs, rdF, Rs.bind, e0, e1, rdLs, shE]) c
  and_intros <;> try first | omega | decide | rfl | exact hz _ (by repeat' (first | exact trivial | refine ⟨.inl rfl, ?_⟩ | refine ⟨.inr ⟨rfl, _, rfl⟩, ?_⟩))
 refine pIfD (fun hk => ?_) (fun n5 => ?_)
 ·clear k1 k2
  subst hk
  replace hO : OK_r 5 5 a w s Q := hO
  replace hE : ER_r 5 w s Q := hE
  and_intros <;> try first | omega | decide | rfl
  rotate_left
  ·intro e ee
   and_intros <;> try first | omega | decide | rfl | exact hE e (by simp only [rdBody, shN, rdFs, rdF, Rs.bind, ee]) _ _ rfl
  intro v0 r0 e0
  have q0 := leT e0
  and_intros <;> try first | omega | decide | rfl
  rotate_left
  ·intro e ee
   and_intros <;> try first | omega | decide | rfl | exact hE e (by simp only [rdBody, shN, rdFs, rdF, Rs.bind, e0, ee]) _ _ rfl
  intro v1 r1 e1
  have q1 := leI e1
  and_intros <;> try first | omega | decide | rfl
  rotate_left
  ·intro e ee
   and_intros <;> try first | omega | decide | rfl | exact hE e (by simp only [rdBody, shN, rdFs, rdF, Rs.bind, e0, e1, rdLs, shE, ee]) _ _ rfl
  intro n rn en
  obtain ⟨qn, hn⟩ := leL en
  have hi : Int.ofNat n = (n : Int) := rfl
  have hz := fun es r (he : rdEs [.t, nF, nF, nF, .b] n rn = .ok es r) c => hO [.s v0, .i v1] es r (by simp only [rdBody, shN, rdFs, rdF, Rs.bind, e0, e1, rdLs, shE, en, he]) c
  have hy := fun e (he : rdEs [.t, nF, nF, nF, .b] n rn = .err e) c r => hE e (by simp only [rdBody, shN, rdFs, rdF, Rs.bind, e0, e1, rdLs, shE, en, he]) c r
  refine pIfN (fun h0 => ?_) (fun h0 => ?_)
  ·have hk := rl5 5 a w v1 v0 n (by omega) (Post := Q) n 0 rn (zrow n [.string ⟨#[]⟩, .int .i64 0, .int .i64 0, .int .i64 0, .bool false]) [] (by omega) rfl (by rw [zrow_len]; rfl) (NLs_zrow (fun v hv => List.all_eq_true.1 (show ([.string ⟨#[]⟩, .int .i64 0, .int .i64 0, .int .i64 0, .bool false] : List Value).all nl1 = true from rfl) v hv) n) (by rw [Nat.zero_mul]; rfl) (by omega) (fun es r he => hz es r he _ (by repeat' (first | exact trivial | refine ⟨.inl rfl, ?_⟩ | refine ⟨.inr ⟨rfl, _, rfl⟩, ?_⟩))) hy
   and_intros <;> try first | omega | decide | rfl | exact NLs_zrow (fun v hv => List.all_eq_true.1 (show ([.string ⟨#[]⟩, .int .i64 0, .int .i64 0, .int .i64 0, .bool false] : List Value).all nl1 = true from rfl) v hv) n | exact hk
  ·have h0 : n = 0 := by omega
   subst h0
   have hk := hz [] rn rfl
   refine ok_X callR_ok mixed [(19, [0, 1, 132, 133]), (31, [0, 1, 203, 204]), (55, [0, 1, 330, 331])] (z_rd5 5 a w v1 v0 rn _ _) ?_
   simp only [true_and, and_true]
   and_intros <;> try first | omega | decide | rfl | exact hk _ (by repeat' (first | exact trivial | refine ⟨.inl rfl, ?_⟩ | refine ⟨.inr ⟨rfl, _, rfl⟩, ?_⟩))
 refine pIfD (fun hk => ?_) (fun n6 => ?_)
 ·clear k1 k2
  subst hk
  replace hO : OK_r 6 6 a w s Q := hO
  replace hE : ER_r 6 w s Q := hE
  and_intros <;> try first | omega | decide | rfl
  rotate_left
  ·intro e ee
   and_intros <;> try first | omega | decide | rfl | exact hE e (by simp only [rdBody, shN, rdFs, rdF, Rs.bind, ee]) _ _ rfl
  intro v0 r0 e0
  have q0 := leT e0
  and_intros <;> try first | omega | decide | rfl
  rotate_left
  ·intro e ee
   and_intros <;> try first | omega | decide | rfl | exact hE e (by simp only [rdBody, shN, rdFs, rdF, Rs.bind, e0, ee]) _ _ rfl
  intro v1 r1 e1
  have q1 := leI e1
  and_intros <;> try first | omega | decide | rfl
  rotate_left
  ·intro e ee
   and_intros <;> try first | omega | decide | rfl | exact hE e (by simp only [rdBody, shN, rdFs, rdF, Rs.bind, e0, e1, rdLs, shE, ee]) _ _ rfl
  intro n rn en
  obtain ⟨qn, hn⟩ := leL en
  have hi : Int.ofNat n = (n : Int) := rfl
  have hz := fun es r (he : rdEs [.t] n rn = .ok es r) c => hO [.s v0, .i v1] es r (by simp only [rdBody, shN, rdFs, rdF, Rs.bind, e0, e1, rdLs, shE, en, he]) c
  have hy := fun e (he : rdEs [.t] n rn = .err e) c r => hE e (by simp only [rdBody, shN, rdFs, rdF, Rs.bind, e0, e1, rdLs, shE, en, he]) c r
  refine pIfN (fun h0 => ?_) (fun h0 => ?_)
  ·have hk := rl6 6 a w v1 v0 n (by omega) (Post := Q) n 0 rn (zrow n [.string ⟨#[]⟩]) [] (by omega) rfl (by rw [zrow_len]; rfl) (NLs_zrow (fun v hv => List.all_eq_true.1 (show ([.string ⟨#[]⟩] : List Value).all nl1 = true from rfl) v hv) n) (by rw [Nat.zero_mul]; rfl) (by omega) (fun es r he => hz es r he _ (by repeat' (first | exact trivial | refine ⟨.inl rfl, ?_⟩ | refine ⟨.inr ⟨rfl, _, rfl⟩, ?_⟩))) hy
   and_intros <;> try first | omega | decide | rfl | exact NLs_zrow (fun v hv => List.all_eq_true.1 (show ([.string ⟨#[]⟩] : List Value).all nl1 = true from rfl) v hv) n | exact hk
  ·have h0 : n = 0 := by omega
   subst h0
   have hk := hz [] rn rfl
   refine ok_X callR_ok mixed [(19, [0, 1, 132, 133]), (31, [0, 1, 203, 204]), (55, [0, 1, 330, 331])] (z_rd6 6 a w v1 v0 rn _ _) ?_
   simp only [true_and, and_true]
   and_intros <;> try first | omega | decide | rfl | exact hk _ (by repeat' (first | exact trivial | refine ⟨.inl rfl, ?_⟩ | refine ⟨.inr ⟨rfl, _, rfl⟩, ?_⟩))
 refine pIfD (fun hk => ?_) (fun n7 => ?_)
 ·clear k1 k2
  subst hk
  replace hO : OK_r 7 7 a w s Q := hO
  replace hE : ER_r 7 w s Q := hE
  and_intros <;> try first | omega | decide | rfl
  rotate_left
  ·intro e ee
   and_intros <;> try first | omega | decide | rfl | exact hE e (by simp only [rdBody, shN, rdFs, rdF, Rs.bind, ee]) _ _ rfl
  intro v0 r0 e0
  have q0 := leT e0
  have hz := fun c => hO [.s v0] [] r0 (by simp only [rdBody, shN, rdFs, rdF, Rs.bind, e0, rdLs, shE]) c
  and_intros <;> try first | omega | decide | rfl | exact hz _ (by repeat' (first | exact trivial | refine ⟨.inl rfl, ?_⟩ | refine ⟨.inr ⟨rfl, _, rfl⟩, ?_⟩))
 refine pIfD (fun hk => ?_) (fun n8 => ?_)
 ·clear k1 k2
  subst hk
  replace hO : OK_r 8 8 a w s Q := hO
  replace hE : ER_r 8 w s Q := hE
  and_intros <;> try first | omega | decide | rfl
  rotate_left
  ·intro e ee
   and_intros <;> try first | omega | decide | rfl | exact hE e (by simp only [rdBody, shN, rdFs, rdF, Rs.bind, ee]) _ _ rfl
  intro v0 r0 e0
  have q0 := leT e0
  have hz := fun c => hO [.s v0] [] r0 (by simp only [rdBody, shN, rdFs, rdF, Rs.bind, e0, rdLs, shE]) c
  and_intros <;> try first | omega | decide | rfl | exact hz _ (by repeat' (first | exact trivial | refine ⟨.inl rfl, ?_⟩ | refine ⟨.inr ⟨rfl, _, rfl⟩, ?_⟩))
 refine pIfD (fun hk => ?_) (fun n12 => ?_)
 ·clear k1 k2
  subst hk
  replace hO : OK_r 12 12 a w s Q := hO
  replace hE : ER_r 12 w s Q := hE
  and_intros <;> try first | omega | decide | rfl
  rotate_left
  ·intro e ee
   and_intros <;> try first | omega | decide | rfl | exact hE e (by simp only [rdBody, shN, rdFs, rdF, Rs.bind, ee]) _ _ rfl
  intro v0 r0 e0
  have q0 := leT e0
  have hz := fun c => hO [.s v0] [] r0 (by simp only [rdBody, shN, rdFs, rdF, Rs.bind, e0, rdLs, shE]) c
  and_intros <;> try first | omega | decide | rfl | exact hz _ (by repeat' (first | exact trivial | refine ⟨.inl rfl, ?_⟩ | refine ⟨.inr ⟨rfl, _, rfl⟩, ?_⟩))
 refine pIfD (fun hk => ?_) (fun n16 => ?_)
 ·clear k1 k2
  subst hk
  replace hO : OK_r 16 16 a w s Q := hO
  replace hE : ER_r 16 w s Q := hE
  and_intros <;> try first | omega | decide | rfl
  rotate_left
  ·intro e ee
   and_intros <;> try first | omega | decide | rfl | exact hE e (by simp only [rdBody, shN, rdFs, rdF, Rs.bind, ee]) _ _ rfl
  intro v0 r0 e0
  have q0 := leT e0
  have hz := fun c => hO [.s v0] [] r0 (by simp only [rdBody, shN, rdFs, rdF, Rs.bind, e0, rdLs, shE]) c
  and_intros <;> try first | omega | decide | rfl | exact hz _ (by repeat' (first | exact trivial | refine ⟨.inl rfl, ?_⟩ | refine ⟨.inr ⟨rfl, _, rfl⟩, ?_⟩))
 refine pIfD (fun hk => ?_) (fun n9 => ?_)
 ·clear k1 k2
  subst hk
  replace hO : OK_r 9 9 a w s Q := hO
  replace hE : ER_r 9 w s Q := hE
  and_intros <;> try first | omega | decide | rfl
  rotate_left
  ·intro e ee
   and_intros <;> try first | omega | decide | rfl | exact hE e (by simp only [rdBody, shN, rdFs, rdF, Rs.bind, ee]) _ _ rfl
  intro v0 r0 e0
  have q0 := leT e0
  and_intros <;> try first | omega | decide | rfl
  rotate_left
  ·intro e ee
   and_intros <;> try first | omega | decide | rfl | exact hE e (by simp only [rdBody, shN, rdFs, rdF, Rs.bind, e0, ee]) _ _ rfl
  intro v1 r1 e1
  have q1 := leT e1
  and_intros <;> try first | omega | decide | rfl
  rotate_left
  ·intro e ee
   and_intros <;> try first | omega | decide | rfl | exact hE e (by simp only [rdBody, shN, rdFs, rdF, Rs.bind, e0, e1, ee]) _ _ rfl
  intro v2 r2 e2
  have q2 := leT e2
  have hz := fun c => hO [.s v0, .s v1, .s v2] [] r2 (by simp only [rdBody, shN, rdFs, rdF, Rs.bind, e0, e1, e2, rdLs, shE]) c
  and_intros <;> try first | omega | decide | rfl | exact hz _ (by repeat' (first | exact trivial | refine ⟨.inl rfl, ?_⟩ | refine ⟨.inr ⟨rfl, _, rfl⟩, ?_⟩))
 refine pIfD (fun hk => ?_) (fun n11 => ?_)
 ·clear k1 k2
  subst hk
  replace hO : OK_r 11 11 a w s Q := hO
  replace hE : ER_r 11 w s Q := hE
  and_intros <;> try first | omega | decide | rfl
  rotate_left
  ·intro e ee
   and_intros <;> try first | omega | decide | rfl | exact hE e (by simp only [rdBody, shN, rdFs, rdF, Rs.bind, ee]) _ _ rfl
  intro v0 r0 e0
  have q0 := leT e0
  and_intros <;> try first | omega | decide | rfl
  rotate_left
  ·intro e ee
   and_intros <;> try first | omega | decide | rfl | exact hE e (by simp only [rdBody, shN, rdFs, rdF, Rs.bind, e0, ee]) _ _ rfl
  intro v1 r1 e1
  have q1 := leT e1
  and_intros <;> try first | omega | decide | rfl
  rotate_left
  ·intro e ee
   and_intros <;> try first | omega | decide | rfl | exact hE e (by simp only [rdBody, shN, rdFs, rdF, Rs.bind, e0, e1, ee]) _ _ rfl
  intro v2 r2 e2
  have q2 := leT e2
  have hz := fun c => hO [.s v0, .s v1, .s v2] [] r2 (by simp only [rdBody, shN, rdFs, rdF, Rs.bind, e0, e1, e2, rdLs, shE]) c
  and_intros <;> try first | omega | decide | rfl | exact hz _ (by repeat' (first | exact trivial | refine ⟨.inl rfl, ?_⟩ | refine ⟨.inr ⟨rfl, _, rfl⟩, ?_⟩))
 refine pIfD (fun hk => ?_) (fun n10 => ?_)
 ·clear k1 k2
  subst hk
  replace hO : OK_r 10 10 a w s Q := hO
  replace hE : ER_r 10 w s Q := hE
  and_intros <;> try first | omega | decide | rfl
  rotate_left
  ·intro e ee
   and_intros <;> try first | omega | decide | rfl | exact hE e (by simp only [rdBody, shN, rdFs, rdF, Rs.bind, ee]) _ _ rfl
  intro v0 r0 e0
  have q0 := leT e0
  and_intros <;> try first | omega | decide | rfl
  rotate_left
  ·intro e ee
   and_intros <;> try first | omega | decide | rfl | exact hE e (by simp only [rdBody, shN, rdFs, rdF, Rs.bind, e0, ee]) _ _ rfl
  intro v1 r1 e1
  have q1 := leI e1
  and_intros <;> try first | omega | decide | rfl
  rotate_left
  ·intro e ee
   and_intros <;> try first | omega | decide | rfl | exact hE e (by simp only [rdBody, shN, rdFs, rdF, Rs.bind, e0, e1, ee]) _ _ rfl
  intro v2 r2 e2
  have q2 := leB e2
  have hz := fun c => hO [.s v0, .i v1, .b v2] [] r2 (by simp only [rdBody, shN, rdFs, rdF, Rs.bind, e0, e1, e2, rdLs, shE]) c
  cases v2 <;> refine pIf_intro (fun hb => ?_) (fun hb => ?_) <;> first | (cases hb; done) | skip
  all_goals
   and_intros <;> try first | omega | decide | rfl | exact hz _ (by repeat' (first | exact trivial | refine ⟨.inl rfl, ?_⟩ | refine ⟨.inr ⟨rfl, _, rfl⟩, ?_⟩))
 refine pIfD (fun hk => ?_) (fun n13 => ?_)
 ·clear k1 k2
  subst hk
  replace hO : OK_r 13 13 a w s Q := hO
  replace hE : ER_r 13 w s Q := hE
  and_intros <;> try first | omega | decide | rfl
  rotate_left
  ·intro e ee
   and_intros <;> try first | omega | decide | rfl | exact hE e (by simp only [rdBody, shN, rdFs, rdF, Rs.bind, ee]) _ _ rfl
  intro v0 r0 e0
  have q0 := leT e0
  and_intros <;> try first | omega | decide | rfl
  rotate_left
  ·intro e ee
   and_intros <;> try first | omega | decide | rfl | exact hE e (by simp only [rdBody, shN, rdFs, rdF, Rs.bind, e0, ee]) _ _ rfl
  intro v1 r1 e1
  have q1 := leI e1
  and_intros <;> try first | omega | decide | rfl
  rotate_left
  ·intro e ee
   and_intros <;> try first | omega | decide | rfl | exact hE e (by simp only [rdBody, shN, rdFs, rdF, Rs.bind, e0, e1, ee]) _ _ rfl
  intro v2 r2 e2
  have q2 := leI e2
  and_intros <;> try first | omega | decide | rfl
  rotate_left
  ·intro e ee
   and_intros <;> try first | omega | decide | rfl | exact hE e (by simp only [rdBody, shN, rdFs, rdF, Rs.bind, e0, e1, e2, ee]) _ _ rfl
  intro v3 r3 e3
  have q3 := leI e3
  and_intros <;> try first | omega | decide | rfl
  rotate_left
  ·intro e ee
   and_intros <;> try first | omega | decide | rfl | exact hE e (by simp only [rdBody, shN, rdFs, rdF, Rs.bind, e0, e1, e2, e3, ee]) _ _ rfl
  intro v4 r4 e4
  have q4 := leI e4
  and_intros <;> try first | omega | decide | rfl
  rotate_left
  ·intro e ee
   and_intros <;> try first | omega | decide | rfl | exact hE e (by simp only [rdBody, shN, rdFs, rdF, Rs.bind, e0, e1, e2, e3, e4, ee]) _ _ rfl
  intro v5 r5 e5
  have q5 := leI e5
  have hz := fun c => hO [.s v0, .i v1, .i v2, .i v3, .i v4, .i v5] [] r5 (by simp only [rdBody, shN, rdFs, rdF, Rs.bind, e0, e1, e2, e3, e4, e5, rdLs, shE]) c
  and_intros <;> try first | omega | decide | rfl | exact hz _ (by repeat' (first | exact trivial | refine ⟨.inl rfl, ?_⟩ | refine ⟨.inr ⟨rfl, _, rfl⟩, ?_⟩))
 refine pIfD (fun hk => ?_) (fun n14 => ?_)
 ·clear k1 k2
  subst hk
  replace hO : OK_r 14 14 a w s Q := hO
  replace hE : ER_r 14 w s Q := hE
  and_intros <;> try first | omega | decide | rfl
  rotate_left
  ·intro e ee
   and_intros <;> try first | omega | decide | rfl | exact hE e (by simp only [rdBody, shN, rdFs, rdF, Rs.bind, ee]) _ _ rfl
  intro v0 r0 e0
  have q0 := leT e0
  and_intros <;> try first | omega | decide | rfl
  rotate_left
  ·intro e ee
   and_intros <;> try first | omega | decide | rfl | exact hE e (by simp only [rdBody, shN, rdFs, rdF, Rs.bind, e0, rdLs, shE, ee]) _ _ rfl
  intro n rn en
  obtain ⟨qn, hn⟩ := leL en
  have hi : Int.ofNat n = (n : Int) := rfl
  have hz := fun es r (he : rdEs [.t, nF, nF, nF] n rn = .ok es r) c => hO [.s v0] es r (by simp only [rdBody, shN, rdFs, rdF, Rs.bind, e0, rdLs, shE, en, he]) c
  have hy := fun e (he : rdEs [.t, nF, nF, nF] n rn = .err e) c r => hE e (by simp only [rdBody, shN, rdFs, rdF, Rs.bind, e0, rdLs, shE, en, he]) c r
  refine pIfN (fun h0 => ?_) (fun h0 => ?_)
  ·have hk := rl14 14 a w 0 v0 n (by omega) (Post := Q) n 0 rn (zrow n [.string ⟨#[]⟩, .int .i64 0, .int .i64 0, .int .i64 0]) [] (by omega) rfl (by rw [zrow_len]; rfl) (NLs_zrow (fun v hv => List.all_eq_true.1 (show ([.string ⟨#[]⟩, .int .i64 0, .int .i64 0, .int .i64 0] : List Value).all nl1 = true from rfl) v hv) n) (by rw [Nat.zero_mul]; rfl) (by omega) (fun es r he => hz es r he _ (by repeat' (first | exact trivial | refine ⟨.inl rfl, ?_⟩ | refine ⟨.inr ⟨rfl, _, rfl⟩, ?_⟩))) hy
   and_intros <;> try first | omega | decide | rfl | exact NLs_zrow (fun v hv => List.all_eq_true.1 (show ([.string ⟨#[]⟩, .int .i64 0, .int .i64 0, .int .i64 0] : List Value).all nl1 = true from rfl) v hv) n | exact hk
  ·have h0 : n = 0 := by omega
   subst h0
   have hk := hz [] rn rfl
   refine ok_X callR_ok mixed [(19, [0, 1, 132, 133]), (31, [0, 1, 203, 204]), (55, [0, 1, 330, 331])] (z_rd14 14 a w 0 v0 rn _ _) ?_
   simp only [true_and, and_true]
   and_intros <;> try first | omega | decide | rfl | exact hk _ (by repeat' (first | exact trivial | refine ⟨.inl rfl, ?_⟩ | refine ⟨.inr ⟨rfl, _, rfl⟩, ?_⟩))
 refine pIfD (fun hk => ?_) (fun n15 => ?_)
 ·clear k1 k2
  subst hk
  replace hO : OK_r 15 15 a w s Q := hO
  replace hE : ER_r 15 w s Q := hE
  and_intros <;> try first | omega | decide | rfl
  rotate_left
  ·intro e ee
   and_intros <;> try first | omega | decide | rfl | exact hE e (by simp only [rdBody, shN, rdFs, rdF, Rs.bind, ee]) _ _ rfl
  intro v0 r0 e0
  have q0 := leT e0
  and_intros <;> try first | omega | decide | rfl
  rotate_left
  ·intro e ee
   and_intros <;> try first | omega | decide | rfl | exact hE e (by simp only [rdBody, shN, rdFs, rdF, Rs.bind, e0, ee]) _ _ rfl
  intro v1 r1 e1
  have q1 := leI e1
  and_intros <;> try first | omega | decide | rfl
  rotate_left
  ·intro e ee
   and_intros <;> try first | omega | decide | rfl | exact hE e (by simp only [rdBody, shN, rdFs, rdF, Rs.bind, e0, e1, ee]) _ _ rfl
  intro v2 r2 e2
  have q2 := leI e2
  and_intros <;> try first | omega | decide | rfl
  rotate_left
  ·intro e ee
   and_intros <;> try first | omega | decide | rfl | exact hE e (by simp only [rdBody, shN, rdFs, rdF, Rs.bind, e0, e1, e2, ee]) _ _ rfl
  intro v3 r3 e3
  have q3 := leI e3
  have hz := fun c => hO [.s v0, .i v1, .i v2, .i v3] [] r3 (by simp only [rdBody, shN, rdFs, rdF, Rs.bind, e0, e1, e2, e3, rdLs, shE]) c
  and_intros <;> try first | omega | decide | rfl | exact hz _ (by repeat' (first | exact trivial | refine ⟨.inl rfl, ?_⟩ | refine ⟨.inr ⟨rfl, _, rfl⟩, ?_⟩))
 have hz := fun c => hO [] [] s (by
  have : k = 17 ∨ k = 18 := by omega
  rcases this with rfl | rfl <;> rfl) c
 have hm : mkEv k a [] [] = { evt0 with kind := k, at_ := a } := by
  have : k = 17 ∨ k = 18 := by omega
  rcases this with rfl | rfl <;> rfl
 rw [hm] at hz
 and_intros <;> try first | omega | decide | rfl | exact hz _ (by repeat' (first | exact trivial | refine ⟨.inl rfl, ?_⟩ | refine ⟨.inr ⟨rfl, _, rfl⟩, ?_⟩))
theorem lax_get : ∀ {c c' : List Value}, lax c c' → c'.length = c.length ∧ ∀ (j : Nat) (u : Value), c'[j]? = some u → ∃ v, c[j]? = some v ∧ (v = u ∨ (v = nilS ∧ ∃ sz, u = tree sz 0 #[]))
 | [], [], _ => ⟨rfl, fun j u h => by simp at h⟩
 | [], _ :: _, h => h.elim
 | _ :: _, [], h => h.elim
 | a :: c, b :: c', h => by
  obtain ⟨g1, g2⟩ := lax_get h.2
  refine ⟨by simp [g1], fun j u hj => ?_⟩
  cases j with
  | zero =>
   simp only [List.getElem?_cons_zero, Option.some.injEq] at hj
   subst hj
   exact ⟨a, rfl, h.1⟩
  | succ j => exact g2 j u (by simpa using hj)
theorem outs_put {hp : Tr AObj} {i : Nat} {x : Option AObj} : ∀ {n j : Nat}, i < j → outs (hp.put i x) j n = outs hp j n
 | 0, j, _ => rfl
 | n + 1, j, h => by
  simp only [outs]
  rw [Tr.get_put, if_neg (by omega), outs_put (n := n) (j := j + 1) (by omega)]
theorem specX_lax {P : Program} {f : FuncId} {N : Nat} {hp : Tr AObj} {args : List Value} {Q Q' : Out → List (List Value) → Prop} (h : SpecX P f (N + 1) hp args (xpost (N + 1) Q))
  (hq : ∀ r ls, Q r ls → ∃ c c' rest, ls = c :: rest ∧ lax c c' ∧ Q' r (c' :: rest)) : SpecX P f (N + 1) hp args (xpost (N + 1) Q') := by
 intro W ρ w args' h1 h2 h3
 refine (h W ρ w args' h1 h2 h3).mono ?_
 rintro e w' ⟨r, hp', nx', ρ', g1, g2, g3, g4⟩
 unfold xpost at g1
 split at g1
 case h_2 => exact g1.elim
 rename_i ls hls
 obtain ⟨c, c', rest, rfl, hl, hQ⟩ := hq r ls g1.2
 obtain ⟨l1, l2⟩ := lax_get hl
 have hok := g1.1
 simp only [outs] at hls
 split at hls
 case h_2 => cases hls
 rename_i c0 hc0
 split at hls
 case h_2 => cases hls
 rename_i ls0 hls0
 cases hls
 refine ⟨r, hp'.put 0 (some (.cells c' true)), nx', ρ', ?_, g2, ?_, g4⟩
 ·unfold xpost
  have e : outs (hp'.put 0 (some (.cells c' true))) 0 (N + 1) = some (c' :: rest) := by
   simp only [outs]
   rw [Tr.get_put, if_pos rfl, outs_put (by omega), hls0]
  rw [e]
  refine ⟨?_, hQ⟩
  simp only [okAll, Bool.and_eq_true] at hok ⊢
  refine ⟨List.all_eq_true.2 fun v hv => ?_, hok.2⟩
  obtain ⟨j, hj, rfl⟩ := List.getElem_of_mem hv
  obtain ⟨v, hv1, hv2⟩ := l2 j _ (List.getElem?_eq_getElem hj)
  rcases hv2 with rfl | ⟨_, sz, e⟩
  ·exact List.all_eq_true.1 hok.1 _ (List.mem_of_getElem? hv1)
  ·rw [e]; rfl
 ·refine g3.recell hc0 l1 fun cc s z cs t fz hpl hcs j u hj => ?_
  obtain ⟨ob, e1, e2⟩ := g3.obj 0 _ cc s z hc0 hpl
  rw [hcs] at e1
  cases e1
  obtain ⟨k1, k2, k3, k4, k5⟩ := e2
  obtain ⟨v, hv1, hv2⟩ := l2 j u hj
  obtain ⟨v', q1, q2⟩ := k4 j v hv1
  refine ⟨v', q1, ?_⟩
  rcases hv2 with rfl | ⟨rfl, sz, rfl⟩
  ·exact q2
  ·have h0 : VR0 ρ'.fr nilS v' := nl1_sound rfl q2
   cases h0
   exact VR0.lift (ρ := ρ') (.treeNil sz none 0)
def allN : Nat → (List Value → Prop) → Prop
 | 0, P => P []
 | n + 1, P => ∀ v, allN n fun l => P (v :: l)
theorem allN_get : ∀ {n : Nat} {P : List Value → Prop}, allN n P → ∀ l, l.length = n → P l
 | 0, P, h, [], _ => h
 | n + 1, P, h, v :: l, hl => allN_get (P := fun l => P (v :: l)) (h v) l (by simpa using hl)
 | 0, _, _, _ :: _, hl => by cases hl
 | _ + 1, _, _, [], hl => by cases hl
def c_vr (args : List Value) (conts : List (List Value)) (Post : Out → List (List Value) → Prop) : Prop :=
 ∃ (k a w : Int) (s : ByteArray), args = argsR ∧ conts = [cells0 k a, [ptr2, .int .i64 w], [.string s, .int .i64 0]] ∧ 2 ≤ k ∧ k ≤ 18 ∧ s.size < 4611686018427387904 ∧
  (∀ vs es r, rdBody k.toNat s = .ok (vs, es) r → ∀ x, x = mkEv k a vs es → Post retU [eventC x, [ptr2, .int .i64 w], [.string r, .int .i64 0]]) ∧
  ∀ e, rdBody k.toNat s = .err e → ∀ r, allN 40 fun c => Post (panE e) [c, [ptr2, .int .i64 w], [.string r, .int .i64 (.ofNat (e + 1))]]
theorem lax_refl : ∀ c : List Value, lax c c
 | [] => trivial
 | _ :: c => ⟨.inl rfl, lax_refl c⟩
theorem ok_vr : XEntOk Tryz.prog ⟨22, c_vr⟩ := by
 rintro args conts Post ⟨k, a, w, s, rfl, rfl, k1, k2, hs, hO, hE⟩
 refine specX_lax (N := 2) (Q := fun r ls => ∃ c c' rest, ls = c :: rest ∧ lax c c' ∧ Post r (c' :: rest)) (vr_X k1 k2 hs (fun vs es r h c hc => ?_) (fun e h c r hc => ?_)) fun r ls h => h
 ·exact ⟨c, _, _, rfl, hc, hO vs es r h _ rfl⟩
 ·exact ⟨c, c, _, rfl, lax_refl c, allN_get (hE e h r) c hc⟩
theorem rdHead_hd {kind most : Nat} {fl : Bool} {v : Nat} (hk : kind < 8) (hv : v < 18446744073709551616) (hm : v ≤ most) (t : ByteArray) (hf : fl = true → v ≤ t.size) : rdHead kind most fl (str (hd kind v) ++ t, 0) = (v, t, 0) := by
 unfold rdHead
 dsimp only
 rw [if_neg (by decide), pk_hd hk hv t (.inl rfl)]
 dsimp only
 rw [if_neg (by decide), if_neg (by omega), if_neg, ext_app']
 rw [ba_size, str_size, Nat.add_sub_cancel_left]
 rintro ⟨h1, h2⟩
 have := hf h1
 omega
theorem rsT_b {m : Nat} {t : ByteArray} (ht : t.size ≤ m) (hm : m < 18446744073709551616) (r : ByteArray) : rsT m (bText t ++ r) = .ok t r := by
 have h : rdText m (bText t ++ r, 0) = (t, r, 0) := by
  unfold rdText bText
  rw [ba_assoc, rdHead_hd (by decide) (by omega) ht (t ++ r) (fun _ => by rw [ba_size]; omega)]
  dsimp only
  have e1 : (t ++ r).extract 0 t.size = t := by
   refine ba_ext ?_
   rw [ext_list, app_list, List.drop_zero, size_list, Nat.sub_zero, List.take_left]
  have e2 : (t ++ r).extract t.size (t ++ r).size = r := by
   refine ba_ext ?_
   rw [ext_list, app_list, ba_size, size_list, List.drop_left, size_list, Nat.add_sub_cancel_left, List.take_length]
  rw [e1, e2]
 unfold rsT
 rw [h]
 rfl
theorem rsL_b {m n : Nat} (hn : n ≤ m) (hm : m < 18446744073709551616) (r : ByteArray) : rsL m (bList n ++ r) = .ok n r := by
 have h : rdList m (bList n ++ r, 0) = (n, r, 0) := rdHead_hd (by decide) (by omega) hn r (fun h => by cases h)
 unfold rsL
 rw [h]
 rfl
theorem rsI_b {lo hi x : Int} (h1 : -9223372036854775808 ≤ x) (h2 : x < 9223372036854775808) (hlo : lo ≤ x) (hhi : x ≤ hi) (r : ByteArray) : rsI lo hi (bInt x ++ r) = .ok x r := by
 have h : rdInt lo hi (bInt x ++ r, 0) = (x, r, 0) := by
  unfold rdInt bInt
  dsimp only
  rw [if_neg (by decide)]
  by_cases h : x < 0
  ·rw [if_pos h, pk_hd (by decide) (by omega) r (.inr rfl)]
   dsimp only
   rw [if_neg (by decide), if_neg (by omega), if_pos rfl, if_neg (by omega), ext_app']
   congr 1
   omega
  ·rw [if_neg h, pk_hd (by decide) (by omega) r (.inl rfl)]
   dsimp only
   rw [if_neg (by decide), if_neg (by omega)]
   simp only [show ¬ (0 : Nat) = 1 by decide, if_false]
   rw [if_neg (by omega), ext_app']
   congr 1
   omega
 unfold rsI
 rw [h]
 rfl
theorem rsB_b (b : Bool) (r : ByteArray) : rsB (bBool b ++ r) = .ok b r := by
 have hx : ∀ c : UInt8, ((⟨#[c]⟩ : ByteArray) ++ r).extract 1 ((⟨#[c]⟩ : ByteArray) ++ r).size = r := fun c => by
  have := ext_app' [c] r
  exact this
 have hs : ∀ c : UInt8, ¬ ((⟨#[c]⟩ : ByteArray) ++ r).size = 0 := fun c => by
  rw [ba_size]
  show ¬ (1 + r.size = 0)
  omega
 have h0 : ∀ c : UInt8, byte0 ((⟨#[c]⟩ : ByteArray) ++ r) = c := fun c => byte0_str c [] r
 cases b
 ·show rsB ((⟨#[244]⟩ : ByteArray) ++ r) = _
  unfold rsB
  rw [if_neg (hs _), h0, if_neg (by decide), if_pos rfl, hx]
 ·show rsB ((⟨#[245]⟩ : ByteArray) ++ r) = _
  unfold rsB
  rw [if_neg (hs _), h0, if_pos rfl, hx]
def okF : Fd → Prop
 | .n lo hi => -4611686018427387904 ≤ lo ∧ hi ≤ 4611686018427387904
 | _ => True
theorem rdF_b {f : Fd} {v : Va} (h : fit f v) (hf : okF f) (r : ByteArray) : rdF f (bVa v ++ r) = .ok v r := by
 cases f <;> cases v <;> simp only [fit] at h
 ·simp only [rdF, bVa, rsT_b h (by omega), Rs.bind]
 ·simp only [okF] at hf
  simp only [rdF, bVa, rsI_b (by omega) (by omega) h.1 h.2, Rs.bind]
 ·simp only [rdF, bVa, rsB_b, Rs.bind]
theorem rdFs_b : ∀ {fs : List Fd} {vs : List Va}, fits fs vs → (∀ f ∈ fs, okF f) → ∀ r, rdFs fs (bVs vs ++ r) = .ok vs r
 | [], [], _, _, r => by simp only [rdFs, bVs, ba_nil]
 | f :: fs, v :: vs, h, hf, r => by
  simp only [rdFs, bVs, ba_assoc]
  rw [rdF_b h.1 (hf f (by simp)), Rs.bind, rdFs_b h.2 (fun g hg => hf g (by simp [hg]))]
  rfl
 | [], _ :: _, h, _, _ => h.elim
 | _ :: _, [], h, _, _ => h.elim
theorem rdEs_b {fs : List Fd} (hf : ∀ f ∈ fs, okF f) : ∀ {es : List (List Va)}, (∀ v ∈ es, fits fs v) → ∀ r, rdEs fs es.length (bEs es ++ r) = .ok es r
 | [], _, r => by simp only [rdEs, bEs, ba_nil, List.length_nil]
 | v :: es, h, r => by
  simp only [rdEs, bEs, ba_assoc, List.length_cons]
  rw [rdFs_b (h v (by simp)) hf, Rs.bind, rdEs_b hf (fun u hu => h u (by simp [hu]))]
  rfl
theorem shN_ok : ∀ k, ∀ f ∈ shN k, okF f := by
 intro k
 unfold shN
 split <;> simp [okF]
theorem shE_ok {k m : Nat} {fs : List Fd} (h : shE k = some (m, fs)) : (∀ f ∈ fs, okF f) ∧ m < 18446744073709551616 := by
 unfold shE at h
 split at h <;> cases h <;> simp [okF]
theorem rdBody_b {x : Event} {k : Nat} (h1 : fits (shN k) (vaN x k)) (h2 : fitsL x k) (r : ByteArray) : rdBody k (bVs (vaN x k) ++ bLs x k ++ r) = .ok (vaN x k, match shE k with | none => [] | some _ => vaE x k) r := by
 unfold rdBody
 rw [ba_assoc, rdFs_b h1 (shN_ok k), Rs.bind]
 unfold rdLs bLs
 unfold fitsL at h2
 cases hE : shE k with
 | none => simp only [ba_nil, Rs.bind]
 | some p =>
  obtain ⟨m, fs⟩ := p
  rw [hE] at h2
  dsimp only at h2 ⊢
  obtain ⟨g1, g2⟩ := shE_ok hE
  rw [ba_assoc, rsL_b h2.1 g2, Rs.bind, rdEs_b g1 h2.2]
  rfl
theorem ftT {m : Nat} {s v r : ByteArray} (h : rsT m s = .ok v r) : v.size ≤ m := by
 obtain ⟨_, rfl, _⟩ := mkRs_ok h
 have := (rdHead_left 2 m true (s, 0)).2.1
 show ((rdHead 2 m true (s, 0)).2.1.extract 0 (rdHead 2 m true (s, 0)).1).size ≤ m
 rw [size_list, ext_list, List.drop_zero, List.length_take]
 omega
theorem ftI {lo hi v : Int} {s r : ByteArray} (h : rsI lo hi s = .ok v r) : lo ≤ v ∧ v ≤ hi := by
 obtain ⟨h0, rfl, _⟩ := mkRs_ok h
 revert h0
 unfold rdInt
 dsimp only
 split
 ·intro h; exact absurd rfl (by assumption)
 split
 ·intro h; exact absurd h (by assumption)
 split
 ·intro h; cases h
 generalize (if (pk s 0 1).1 = 1 then -1 - ((pk s 0 1).2.1 : Int) else ((pk s 0 1).2.1 : Int)) = y
 split
 ·intro h; cases h
 ·intro _; dsimp only; omega
def Cut {α : Type} (f : ByteArray → Rs α) (b : ByteArray) : Prop := ∀ p t : ByteArray, b = p ++ t → t.size ≠ 0 → f p = .err 2
theorem ba_two {b c p t : ByteArray} (h : b ++ c = p ++ t) (ht : t.size ≠ 0) : (∃ q : ByteArray, q.size ≠ 0 ∧ b = p ++ q) ∨ ∃ q : ByteArray, p = b ++ q ∧ c = q ++ t := by
 have h' : b.data.toList ++ c.data.toList = p.data.toList ++ t.data.toList := by rw [← app_list, ← app_list, h]
 rcases List.append_eq_append_iff.1 h' with ⟨l, h1, h2⟩ | ⟨l, h1, h2⟩
 ·exact .inr ⟨str l, ba_ext (by rw [app_list, str_list]; exact h1), ba_ext (by rw [app_list, str_list]; exact h2)⟩
 ·by_cases hl : l = []
  ·subst hl
   refine .inr ⟨str [], ba_ext (by rw [app_list, str_list, h1, List.append_nil, List.append_nil]), ba_ext (by rw [app_list, str_list, h2]; rfl)⟩
  ·refine .inl ⟨str l, ?_, ba_ext (by rw [app_list, str_list]; exact h1)⟩
   rw [str_size]
   exact fun h => hl (List.eq_nil_of_length_eq_zero h)
theorem Cut.fin {α β : Type} {f : ByteArray → Rs α} {b : ByteArray} (h : Cut f b) (g : α → ByteArray → Rs β) : Cut (fun s => (f s).bind g) b := fun p t hp ht => by
 show (f p).bind g = _
 rw [h p t hp ht]
 rfl
theorem Cut.bind {α β : Type} {f : ByteArray → Rs α} {g : α → ByteArray → Rs β} {b c : ByteArray} {v : α} (h1 : Cut f b) (h2 : ∀ r, f (b ++ r) = .ok v r) (h3 : Cut (g v) c) : Cut (fun s => (f s).bind g) (b ++ c) := by
 intro p t h ht
 rcases ba_two h ht with ⟨q, hq, hb⟩ | ⟨q, rfl, hc⟩
 ·exact h1.fin g p q hb hq
 ·show (f (b ++ q)).bind g = _
  rw [h2 q]
  exact h3 q t hc ht
theorem Cut.nil {α : Type} (f : ByteArray → Rs α) : Cut f ⟨#[]⟩ := fun p t h ht => by
 have := congrArg ByteArray.size h
 rw [ba_size] at this
 have h0 : (⟨#[]⟩ : ByteArray).size = 0 := rfl
 omega
theorem byte0_app {p t : ByteArray} (h : p.size ≠ 0) : byte0 (p ++ t) = byte0 p := by
 unfold byte0
 rw [Array.getD_eq_getD_getElem?, Array.getD_eq_getD_getElem?, ← Array.getElem?_toList, ← Array.getElem?_toList, app_list, List.getElem?_append_left (by rw [← size_list]; omega)]
theorem pk_cut_ge {k v : Nat} (j : Nat) (h : hd k v = UInt8.ofNat (32 * k + (24 + j)) :: be (2 ^ j) v) (hj : j ≤ 3) (hk : k < 8) {p t : ByteArray} (hp : str (hd k v) = p ++ t) (ht : t.size ≠ 0) {one two : Nat} (hk2 : k = one ∨ k = two) : pk p one two = (0, 0, 0, 3) := by
 by_cases h0 : p.size = 0
 ·unfold pk
  rw [if_pos h0]
 have hl : (hd k v).length = 1 + 2 ^ j := by rw [h, List.length_cons, be_len]; omega
 have hsz : p.size + t.size = 1 + 2 ^ j := by rw [← ba_size, ← hp, str_size, hl]
 have hb : (byte0 p).toNat = 32 * k + (24 + j) := by
  rw [← byte0_app (t := t) h0, ← hp, ← ba_nilr (str (hd k v)), h, byte0_str]
  exact u8_small (by omega)
 have hq : (32 * k + (24 + j)) / 32 = k := by omega
 have hr : (32 * k + (24 + j)) % 32 = 24 + j := by omega
 unfold pk
 rw [if_neg h0, hb, hq, hr, Nat.add_sub_cancel_left]
 generalize 2 ^ j = q at *
 rw [if_neg (by omega), if_neg (by omega), if_pos (by omega)]
theorem pk_cut {k v : Nat} (hk : k < 8) {p t : ByteArray} (hp : str (hd k v) = p ++ t) (ht : t.size ≠ 0) {one two : Nat} (hk2 : k = one ∨ k = two) : pk p one two = (0, 0, 0, 3) := by
 by_cases h24 : v < 24
 ·have h : hd k v = [UInt8.ofNat (32 * k + v)] := by unfold hd; rw [if_pos h24]
  have hsz : p.size + t.size = 1 := by rw [← ba_size, ← hp, str_size, h]; rfl
  unfold pk
  rw [if_pos (by omega)]
 by_cases h1 : v < 256
 ·exact pk_cut_ge 0 (by unfold hd; rw [if_neg h24, if_pos h1]) (by omega) hk hp ht hk2
 by_cases h2 : v < 65536
 ·exact pk_cut_ge 1 (by unfold hd; rw [if_neg h24, if_neg h1, if_pos h2]) (by omega) hk hp ht hk2
 by_cases h3 : v < 4294967296
 ·exact pk_cut_ge 2 (by unfold hd; rw [if_neg h24, if_neg h1, if_neg h2, if_pos h3]) (by omega) hk hp ht hk2
 ·exact pk_cut_ge 3 (by unfold hd; rw [if_neg h24, if_neg h1, if_neg h2, if_neg h3]) (by omega) hk hp ht hk2
theorem head_cut {k v m : Nat} {fl : Bool} (hk : k < 8) {p t : ByteArray} (hp : str (hd k v) = p ++ t) (ht : t.size ≠ 0) : rdHead k m fl (p, 0) = (0, p, 3) := by
 unfold rdHead
 dsimp only
 rw [if_neg (by decide), pk_cut hk hp ht (.inl rfl)]
 dsimp only
 rw [if_pos (by decide)]
theorem cutL (m n : Nat) : Cut (rsL m) (bList n) := fun p t hp ht => by
 unfold rsL rdList
 rw [head_cut (by decide) hp ht]
 rfl
theorem cutI (lo hi x : Int) : Cut (rsI lo hi) (bInt x) := fun p t hp ht => by
 have e : pk p 0 1 = (0, 0, 0, 3) := by
  unfold bInt at hp
  split at hp
  ·exact pk_cut (by decide) hp ht (.inr rfl)
  ·exact pk_cut (by decide) hp ht (.inl rfl)
 unfold rsI rdInt
 dsimp only
 rw [if_neg (by decide), e]
 dsimp only
 rw [if_pos (by decide)]
 rfl
theorem cutT {m : Nat} {x : ByteArray} (hx : x.size ≤ m) (hm : m < 18446744073709551616) : Cut (rsT m) (bText x) := fun p t hp ht => by
 unfold bText at hp
 unfold rsT rdText
 dsimp only
 rcases ba_two hp ht with ⟨q, hq, hb⟩ | ⟨q, rfl, hc⟩
 ·rw [head_cut (by decide) hb hq]
  rfl
 ·have hs : x.size = q.size + t.size := by rw [hc, ba_size]
  have e : rdHead 2 m true (str (hd 2 x.size) ++ q, 0) = (0, str (hd 2 x.size) ++ q, 3) := by
   unfold rdHead
   dsimp only
   rw [if_neg (by decide), pk_hd (by decide) (by omega) q (.inl rfl)]
   dsimp only
   rw [if_neg (by decide), if_neg (by omega), if_pos]
   refine ⟨rfl, ?_⟩
   rw [ba_size, str_size, Nat.add_sub_cancel_left]
   omega
  rw [e]
  rfl
theorem cutB (b : Bool) : Cut rsB (bBool b) := fun p t hp ht => by
 have h1 : (bBool b).size = 1 := by cases b <;> rfl
 have : p.size + t.size = 1 := by rw [← ba_size, ← hp, h1]
 unfold rsB
 rw [if_pos (by omega)]
theorem cutF {f : Fd} {v : Va} (h : fit f v) : Cut (rdF f) (bVa v) := by
 cases f <;> cases v <;> simp only [fit] at h
 ·exact (cutT h (by decide)).fin _
 ·exact (cutI _ _ _).fin _
 ·exact (cutB _).fin _
theorem cutFs : ∀ {fs : List Fd} {vs : List Va}, fits fs vs → (∀ f ∈ fs, okF f) → Cut (rdFs fs) (bVs vs)
 | [], [], _, _ => Cut.nil _
 | f :: fs, v :: vs, h, hf => Cut.bind (cutF h.1) (rdF_b h.1 (hf f (by simp))) ((cutFs h.2 fun g hg => hf g (by simp [hg])).fin _)
 | [], _ :: _, h, _ => h.elim
 | _ :: _, [], h, _ => h.elim
theorem cutEs {fs : List Fd} (hf : ∀ f ∈ fs, okF f) : ∀ {es : List (List Va)}, (∀ v ∈ es, fits fs v) → Cut (rdEs fs es.length) (bEs es)
 | [], _ => Cut.nil _
 | v :: es, h => Cut.bind (cutFs (h v (by simp)) hf) (rdFs_b (h v (by simp)) hf) ((cutEs hf fun u hu => h u (by simp [hu])).fin _)
theorem cutBody {x : Event} {k : Nat} (h1 : fits (shN k) (vaN x k)) (h2 : fitsL x k) : Cut (rdBody k) (bVs (vaN x k) ++ bLs x k) := by
 refine Cut.bind (cutFs h1 (shN_ok k)) (rdFs_b h1 (shN_ok k)) (Cut.fin ?_ _)
 unfold fitsL at h2
 unfold rdLs bLs
 cases hE : shE k with
 | none => exact Cut.nil _
 | some p =>
  obtain ⟨m, fs⟩ := p
  rw [hE] at h2
  dsimp only at h2 ⊢
  obtain ⟨g1, g2⟩ := shE_ok hE
  exact Cut.bind (cutL _ _) (rsL_b h2.1 g2) (cutEs g1 h2.2)
def rdX (k : Int) (s : ByteArray) : Rs Unit := if k = 1 then (rsT 1048576 s).bind fun _ r => .ok () r else (rdBody k.toNat s).bind fun _ r => .ok () r
def rdE (s : ByteArray) : Rs Unit := (rsI 1 18 s).bind fun k r => (rsI 0 1048576 r).bind fun a r => (rdX k r).bind fun _ r => if r.size = 0 then .ok () r else .err 3
theorem bBody_ge {x : Event} {k : Nat} (h : k ≠ 1) : bBody x k = bVs (vaN x k) ++ bLs x k := by
 unfold bBody
 split
 ·exact absurd rfl h
 ·rfl
theorem rdX_b {x : Event} (h1 : 1 ≤ x.kind) (hf : fits (shN x.kind.toNat) (vaN x x.kind.toNat)) (hL : fitsL x x.kind.toNat) (ho : x.kind = 1 → (bOrder x.order).size ≤ 1048576) : (∀ r, rdX x.kind (bBody x x.kind.toNat ++ r) = .ok () r) ∧ Cut (rdX x.kind) (bBody x x.kind.toNat) := by
 by_cases h : x.kind = 1
 ·have e : bBody x x.kind.toNat = bText (bOrder x.order) := by rw [h]; rfl
  have e2 : rdX x.kind = fun s => (rsT 1048576 s).bind fun _ r => .ok () r := by funext s; unfold rdX; rw [if_pos h]
  rw [e, e2]
  exact ⟨fun r => by dsimp only; rw [rsT_b (ho h) (by decide)]; rfl, (cutT (ho h) (by decide)).fin _⟩
 ·have e2 : rdX x.kind = fun s => (rdBody x.kind.toNat s).bind fun _ r => .ok () r := by funext s; unfold rdX; rw [if_neg h]
  rw [bBody_ge (by omega), e2]
  exact ⟨fun r => by dsimp only; rw [rdBody_b hf hL]; rfl, (cutBody hf hL).fin _⟩
theorem rdE_cut {x : Event} (h1 : 1 ≤ x.kind) (h2 : x.kind ≤ 18) (ha : 0 ≤ x.at_ ∧ x.at_ ≤ 1048576) (hf : fits (shN x.kind.toNat) (vaN x x.kind.toNat)) (hL : fitsL x x.kind.toNat) (ho : x.kind = 1 → (bOrder x.order).size ≤ 1048576) : Cut rdE (bEv x) ∧ ∀ r : ByteArray, r.size ≠ 0 → rdE (bEv x ++ r) = .err 3 := by
 obtain ⟨q1, q2⟩ := rdX_b h1 hf hL ho
 have k1 := rsI_b (lo := 1) (hi := 18) (x := x.kind) (by omega) (by omega) h1 h2
 have a1 := rsI_b (lo := 0) (hi := 1048576) (x := x.at_) (by omega) (by omega) ha.1 ha.2
 unfold bEv
 constructor
 ·rw [ba_assoc]
  exact Cut.bind (cutI _ _ _) k1 (Cut.bind (cutI _ _ _) a1 (q2.fin _))
 ·intro r hr
  unfold rdE
  rw [ba_assoc, ba_assoc, k1, Rs.bind, a1, Rs.bind, q1, Rs.bind, if_neg hr]
theorem ext_cut {s : ByteArray} {n : Nat} (h : n < s.size) {f : ByteArray → Rs Unit} (hc : Cut f s) : f (s.extract 0 n) = .err 2 := hc _ _ (split_at s n) (by rw [ext_size]; omega)
structure GotB (s : ByteArray) (e : Nat) (b r : ByteArray) (e' : Nat) : Prop where
 le : r.size ≤ s.size
 ok : e' = 0 → e = 0 ∧ s = b ++ r
theorem GotB.trans {s b r c t : ByteArray} {e e1 e2 : Nat} (h : GotB s e b r e1) (g : GotB r e1 c t e2) : GotB s e (b ++ c) t e2 :=
 ⟨Nat.le_trans g.le h.le, fun h2 => by
  obtain ⟨h1, rfl⟩ := g.ok h2
  obtain ⟨h0, rfl⟩ := h.ok h1
  exact ⟨h0, by rw [ba_assoc]⟩⟩
theorem GotB.refl (s : ByteArray) (e : Nat) : GotB s e ⟨#[]⟩ s e := ⟨Nat.le_refl _, fun h => ⟨h, by rw [ba_nil]⟩⟩
theorem GotB.cast {s b c r : ByteArray} {e e1 : Nat} (h : GotB s e b r e1) (hb : b = c) : GotB s e c r e1 := hb ▸ h
theorem GotB.bad {s b c r : ByteArray} {e e1 : Nat} (h : GotB s e b r e1) (h1 : e1 ≠ 0) : GotB s e c r e1 := ⟨h.le, fun h0 => absurd h0 h1⟩
theorem yHead {kind most : Nat} {fl : Bool} {s : ByteArray} {e : Nat} : GotB s e (str (hd kind (rdHead kind most fl (s, e)).1)) (rdHead kind most fl (s, e)).2.1 (rdHead kind most fl (s, e)).2.2 := by
 refine ⟨(rdHead_left kind most fl (s, e)).1, fun h => ?_⟩
 unfold rdHead at *
 dsimp only at *
 split at h
 ·exact absurd h (by assumption)
 rename_i he
 rcases pk_cases s kind kind with ⟨e', he', hp⟩ | ⟨k, v, n, hp, h1, h2, h3, h4, h5, h6⟩
 ·rw [hp] at h
  dsimp only at h
  rw [if_pos (by omega)] at h
  dsimp only at h
  omega
 ·have hk : k = kind := by omega
  subst hk
  rw [if_neg he]
  rw [hp] at h ⊢
  dsimp only at *
  rw [if_neg (by decide)] at h ⊢
  split at h
  ·cases h
  rename_i hm
  rw [if_neg hm]
  split at h
  ·cases h
  rename_i hf
  rw [if_neg hf]
  exact ⟨by omega, h6⟩
theorem yText {m : Nat} {s : ByteArray} {e : Nat} : GotB s e (bText (rdText m (s, e)).1) (rdText m (s, e)).2.1 (rdText m (s, e)).2.2 ∧ (rdText m (s, e)).1.size ≤ m := by
 have h := yHead (kind := 2) (most := m) (fl := true) (s := s) (e := e)
 obtain ⟨k1, k2, k3⟩ := rdHead_left 2 m true (s, e)
 have k3 := k3 rfl
 have hs : ((rdHead 2 m true (s, e)).2.1.extract 0 (rdHead 2 m true (s, e)).1).size = (rdHead 2 m true (s, e)).1 := by
  rw [size_list, ext_list, List.drop_zero, List.length_take, size_list] at *
  omega
 unfold rdText
 dsimp only
 refine ⟨⟨?_, fun h0 => ?_⟩, by rw [hs]; exact k2⟩
 ·rw [ext_size]
  exact Nat.le_trans (Nat.sub_le _ _) k1
 ·obtain ⟨h1, h2⟩ := h.ok h0
  refine ⟨h1, ?_⟩
  conv => lhs; rw [h2]
  unfold bText
  rw [hs, ba_assoc, ← split_at]
theorem yInt {lo hi : Int} (hl : -9223372036854775808 ≤ lo) (hh : hi ≤ 9223372036854775807) {s : ByteArray} {e : Nat} : GotB s e (bInt (rdInt lo hi (s, e)).1) (rdInt lo hi (s, e)).2.1 (rdInt lo hi (s, e)).2.2 ∧ In64 (rdInt lo hi (s, e)).1 := by
 have z : In64 0 := by unfold In64; omega
 unfold rdInt
 dsimp only
 split
 ·rename_i h
  exact ⟨⟨Nat.le_refl _, fun h0 => absurd h0 h⟩, z⟩
 rename_i he
 rcases pk_cases s 0 1 with ⟨e', he', hp⟩ | ⟨k, v, n, hp, h1, h2, h3, h4, h5, h6⟩
 ·rw [hp]
  dsimp only
  rw [if_pos (by omega)]
  exact ⟨⟨Nat.le_refl _, fun h0 => by dsimp only at h0; omega⟩, z⟩
 ·rw [hp]
  dsimp only
  rw [if_neg (by decide)]
  split
  ·exact ⟨⟨Nat.le_refl _, fun h0 => by cases h0⟩, z⟩
  rename_i hv
  generalize hx : (if k = 1 then (-1 - (v : Int)) else (v : Int)) = x
  split
  ·exact ⟨⟨Nat.le_refl _, fun h0 => by cases h0⟩, z⟩
  rename_i hr
  dsimp only
  refine ⟨⟨by rw [ext_size]; exact Nat.sub_le _ _, fun _ => ⟨by omega, ?_⟩⟩, by unfold In64; omega⟩
  have : bInt x = str (hd k v) := by
   unfold bInt
   rcases h3 with rfl | rfl
   ·rw [if_neg (by decide)] at hx
    rw [if_neg (by omega), ← hx]
    rfl
   ·rw [if_pos rfl] at hx
    rw [if_pos (by omega), show (-1 - x).toNat = v by omega]
  rw [this]
  exact h6
def y_T (args : List Value) (conts : List (List Value)) (Post : Value → List (List Value) → Prop) : Prop := match args, conts with
 | [.pointer (some ⟨0, 0, none⟩), .int .i64 (.ofNat m)], [[.string s, .int .i64 (.ofNat e)]] => s.size < 4611686018427387904 ∧ m < 4611686018427387904 ∧ ∀ v r e', GotB s e (bText v) r e' → v.size ≤ m → Post (.string v) [[.string r, .int .i64 (.ofNat e')]]
 | _, _ => False
def y_I (args : List Value) (conts : List (List Value)) (Post : Value → List (List Value) → Prop) : Prop := match args, conts with
 | [.pointer (some ⟨0, 0, none⟩), .int .i64 lo, .int .i64 hi], [[.string s, .int .i64 (.ofNat e)]] => s.size < 4611686018427387904 ∧ -9223372036854775808 ≤ lo ∧ hi ≤ 9223372036854775807 ∧ ∀ v r e', GotB s e (bInt v) r e' → In64 v → Post (.int .i64 v) [[.string r, .int .i64 (.ofNat e')]]
 | _, _ => False
def y_L (args : List Value) (conts : List (List Value)) (Post : Value → List (List Value) → Prop) : Prop := match args, conts with
 | [.pointer (some ⟨0, 0, none⟩), .int .i64 (.ofNat m)], [[.string s, .int .i64 (.ofNat e)]] => s.size < 4611686018427387904 ∧ m < 4611686018427387904 ∧ ∀ v r e', GotB s e (bList v) r e' → v ≤ m → Post (.int .i64 (.ofNat v)) [[.string r, .int .i64 (.ofNat e')]]
 | _, _ => False
theorem ok_yI : IEntOk Tryz.prog ⟨78, y_I⟩ := by
 intro args conts Post h
 unfold y_I at h
 dsimp only at h
 split at h
 case h_2 => exact h.elim
 rename_i lo hi s e
 obtain ⟨hs, h1, h2, h⟩ := h
 obtain ⟨q1, q2⟩ := yInt h1 h2 (s := s) (e := e)
 exact ok_RInt _ _ _ ⟨s, e, lo, hi, rfl, rfl, hs, h _ _ _ q1 q2⟩
theorem ok_yL : IEntOk Tryz.prog ⟨146, y_L⟩ := by
 intro args conts Post h
 unfold y_L at h
 dsimp only at h
 split at h
 case h_2 => exact h.elim
 rename_i m s e
 obtain ⟨hs, hm, h⟩ := h
 refine spec_I (vc := callCt) callCt_ok mixed (by kernel_rfl) (by kernel_rfl) _ (e_cListR s (e : Nat) m _ _) ?_
 simp only [true_and, and_true]
 exact ⟨s, e, 4, m, false, rfl, rfl, hs, hm, h _ _ _ yHead (rdHead_left 4 m false (s, e)).2.1⟩
theorem ok_yT : IEntOk Tryz.prog ⟨147, y_T⟩ := by
 intro args conts Post h
 unfold y_T at h
 dsimp only at h
 split at h
 case h_2 => exact h.elim
 rename_i m s e
 obtain ⟨hs, hm, h⟩ := h
 have h : Post (.string (rdText m (s, e)).1) [stC (rdText m (s, e)).2] := h _ _ _ yText.1 yText.2
 refine spec_I (vc := callCt) callCt_ok mixed (by kernel_rfl) (by kernel_rfl) _ (e_cTextR s (e : Nat) m _ _) ?_
 simp only [true_and, and_true, pIf_iff, decide_eq_true_eq, decide_eq_false_iff_not, Int.toNat_natCast]
 obtain ⟨h1, h2, h3⟩ := rdHead_left 2 m true (s, e)
 refine ⟨s, e, 2, m, true, rfl, rfl, hs, hm, fun h0 => ?_, fun h0 => ?_⟩
 ·have h0 : (rdHead 2 m true (s, e)).1 = 0 := by omega
  unfold rdText at h
  simp only [h0, ext_all, ext_none] at h
  exact h
 ·exact ⟨⟨by omega, Nat.zero_le _, h3 rfl⟩, ⟨by omega, h3 rfl, Nat.le_refl _⟩, by decide, h⟩
def tabY : List IEnt := [⟨147, y_T⟩, ⟨146, y_L⟩, ⟨78, y_I⟩]
theorem tabY_ok : ∀ e ∈ tabY, IEntOk Tryz.prog e := by
 intro e he
 simp only [tabY, List.mem_cons, List.not_mem_nil, or_false] at he
 rcases he with rfl | rfl | rfl
 ·exact ok_yT
 ·exact ok_yL
 ·exact ok_yI
def callY : VCall := inlCall Tryz.prog [155, 157, 80, 152, 151] (itabCall tabY noCall) 3
theorem callY_ok : VCallOk Tryz.prog callY := inlCall_ok mixed (itabCall_ok tabY_ok noCall_ok) 3
theorem e_yCor (s : ByteArray) (e : Nat) (H : HT) (Post : PI) : vcI Tryz.prog callY 156 [(3, [0, 3, 6, 7])] [[.string s, .int .i64 (.ofNat e)]] [ptr0] H Post = (T2 (True ∧ true = true ∧ s.size < 4611686018427387904 ∧ 32 < 4611686018427387904 ∧ ∀ (v : Nat) (r : ByteArray) (e' : Nat), GotB s e (bList v) r e' → v ≤ 32 → 1 = 1 ∧ T2 ((NLs [vs r, vi (Int.ofNat e')] ∧ True) ∧ H (lpC Tryz.prog 156 3) (lpK Tryz.prog 156 3) (stV [(0, some (pt 0)), (3, some (nS)), (6, some (vi (Int.ofNat v))), (7, some (vi 0))] [(0, some (AObj.cells [vs r, vi (Int.ofNat e')] true))] 1)))) := by kernel_rfl
theorem l_yCor0 (s : ByteArray) (e : Nat) (n i : Int) (H : HT) (Post : PI) : vcLI Tryz.prog callY 156 [ptr0] [(3, [0, 3, 6, 7])] 1 3 (stV [(0, some ptr0), (3, some (.slice none 0 0)), (6, some (.int .i64 n)), (7, some (.int .i64 i))] [(0, some (.cells [.string s, .int .i64 (.ofNat e)] true))] 1) H Post = (True ∧ pIf (decide (i < n)) (T2 (True ∧ true = true ∧ s.size < 4611686018427387904 ∧ toI (vi (-9223372036854775808)) ≤ -9223372036854775808 ∧ toI (vi 9223372036854775807) ≤ 9223372036854775807 ∧ ∀ (v : Int) (r : ByteArray) (e' : Nat), GotB s e (bInt v) r e' → -9223372036854775808 ≤ v ∧ v < 9223372036854775808 → 1 = 1 ∧ T4 (T2 (True ∧ true = true ∧ r.size < 4611686018427387904 ∧ toI (vi (-9223372036854775808)) ≤ -9223372036854775808 ∧ toI (vi 9223372036854775807) ≤ 9223372036854775807 ∧ ∀ (v_1 : Int) (r_1 : ByteArray) (e'_1 : Nat), GotB r e' (bInt v_1) r_1 e'_1 → -9223372036854775808 ≤ v_1 ∧ v_1 < 9223372036854775808 → 1 = 1 ∧ T2 (True ∧ 2 ≤ 2 ∧ 1 ≤ 33554432 ∧ true = true ∧ 2 = 2 ∧ T4 ((NLs [vs r_1, vi (Int.ofNat e'_1)] ∧ NLs [vi v, vi v_1] ∧ True) ∧ H (lpC Tryz.prog 156 3) (lpK Tryz.prog 156 3) (stV [(0, some (pt 0)), (3, some (Value.slice (some (Addr.mk 1 0 none)) 1 2)), (6, some (vi n)), (7, some (vi (IntKind.wrap IntKind.i64 (i + 1))))] [(0, some (AObj.cells [vs r_1, vi (Int.ofNat e'_1)] true)), (1, some (AObj.cells [vi v, vi v_1] true))] 2))))))) (T2 (True ∧ true = true ∧ Post (tree 2 0 #[]) [[vs s, vi (Int.ofNat e)]]))) := by kernel_rfl
theorem l_yCor1 (s : ByteArray) (e k : Nat) (n i : Int) (l : List Value) (H : HT) (Post : PI) : vcLI Tryz.prog callY 156 [ptr0] [(3, [0, 3, 6, 7])] 1 3 (stV [(0, some ptr0), (3, some (.slice (some ⟨1, 0, none⟩) k 2)), (6, some (.int .i64 n)), (7, some (.int .i64 i))] [(0, some (.cells [.string s, .int .i64 (.ofNat e)] true)), (1, some (.cells l true))] 2) H Post = (True ∧ pIf (decide (i < n)) (T2 (True ∧ true = true ∧ s.size < 4611686018427387904 ∧ toI (vi (-9223372036854775808)) ≤ -9223372036854775808 ∧ toI (vi 9223372036854775807) ≤ 9223372036854775807 ∧ ∀ (v : Int) (r : ByteArray) (e' : Nat), GotB s e (bInt v) r e' → -9223372036854775808 ≤ v ∧ v < 9223372036854775808 → 1 = 1 ∧ T4 (T2 (True ∧ true = true ∧ r.size < 4611686018427387904 ∧ toI (vi (-9223372036854775808)) ≤ -9223372036854775808 ∧ toI (vi 9223372036854775807) ≤ 9223372036854775807 ∧ ∀ (v_1 : Int) (r_1 : ByteArray) (e'_1 : Nat), GotB r e' (bInt v_1) r_1 e'_1 → -9223372036854775808 ≤ v_1 ∧ v_1 < 9223372036854775808 → 1 = 1 ∧ T2 (True ∧ 2 ≤ 2 ∧ k + 1 ≤ 33554432 ∧ true = true ∧ 2 = 2 ∧ 0 + k * 2 = List.length l ∧ T4 ((NLs [vs r_1, vi (Int.ofNat e'_1)] ∧ NLs (l ++ [vi v, vi v_1]) ∧ True) ∧ H (lpC Tryz.prog 156 3) (lpK Tryz.prog 156 3) (stV [(0, some (pt 0)), (3, some (Value.slice (some (Addr.mk 1 0 none)) (k + 1) 2)), (6, some (vi n)), (7, some (vi (IntKind.wrap IntKind.i64 (i + 1))))] [(0, some (AObj.cells [vs r_1, vi (Int.ofNat e'_1)] true)), (1, some (AObj.cells (l ++ [vi v, vi v_1]) true))] 2))))))) (T2 ((0 + k * 2 ≤ List.length l ∧ NLs l) ∧ true = true ∧ Post (tree 2 k (chunks 2 k (List.drop 0 l))) [[vs s, vi (Int.ofNat e)]]))) := by kernel_rfl
theorem yNls2 (v : Value) (w : Value) (hv : nl1 v = true) (hw : nl1 w = true) : NLs [v, w] := by
 intro u hu
 simp at hu
 rcases hu with rfl | rfl
 ·exact hv
 ·exact hw
theorem ySnoc {l : List Value} {v : Value} (h : NLs l) (hv : nl1 v = true) : NLs (l ++ [v]) := by
 intro u hu
 rcases List.mem_append.1 hu with hu | hu
 ·exact h u hu
 ·simp at hu; subst hu; exact hv
theorem ySnoc2 {l m : List Value} (h : NLs l) (hm : NLs m) : NLs (l ++ m) := fun u hu => (List.mem_append.1 hu).elim (h u) (hm u)
def accV (b : Nat) {α : Type} [Enc α] (l : List α) : Value := if l.length = 0 then .slice none 0 0 else .slice (some ⟨b, 0, none⟩) l.length (Enc.sz α)
def accH (b : Nat) {α : Type} [Enc α] (l : List α) : List (Nat × Option AObj) := if l.length = 0 then [] else [(b, some (.cells (rowC l) true))]
def accN (b : Nat) {α : Type} (l : List α) : Nat := if l.length = 0 then b else b + 1
theorem mem_snoc {α : Type} {P : α → Prop} {l : List α} {a : α} (h : ∀ x ∈ l, P x) (ha : P a) : ∀ x ∈ l ++ [a], P x := fun x hx => by
 rcases List.mem_append.1 hx with hx | hx
 ·exact h x hx
 ·simp at hx; subst hx; exact ha
abbrev bPtsN (n : Nat) (l : List Pt) : ByteArray := l.foldl (fun s p => s ++ (bInt p.x ++ bInt p.y)) (bList n)
abbrev OkYC (Post : Value → List (List Value) → Prop) (st : AS) : Prop := OkI Tryz.prog 156 [ptr0] 1 Post (lpC Tryz.prog 156 3) (lpK Tryz.prog 156 3) st
theorem yCor_loop (Post : Value → List (List Value) → Prop) (s0 : ByteArray) (e0 n : Nat) (hn : n ≤ 32) (h : ∀ l r e, GotB s0 e0 (bPts l) r e → l.length ≤ 32 → (∀ x ∈ l, InPt x) → Post (trPt l) [[.string r, .int .i64 (.ofNat e)]]) : ∀ (j i : Nat) (s : ByteArray) (e : Nat) (l : List Pt), i + j = n → l.length = i → s.size < 4611686018427387904 → GotB s0 e0 (bPtsN n l) s e → (∀ x ∈ l, InPt x) →
  OkYC Post (stV [(0, some ptr0), (3, some (accV 1 l)), (6, some (.int .i64 n)), (7, some (.int .i64 i))] ((0, some (.cells [.string s, .int .i64 (.ofNat e)] true)) :: accH 1 l) (accN 1 l)) := by
 intro j
 induction j with
 | zero =>
  intro i s e l hi hl hs hr hin
  have h := h l s e (by unfold bPts; rw [show l.length = n by omega]; exact hr) (by omega) hin
  unfold accV accH accN
  by_cases h0 : l.length = 0
  ·rw [if_pos h0, if_pos h0, if_pos h0]
   refine ok_I (vc := callY) callY_ok mixed _ (l_yCor0 s e n i _ _) ?_
   simp only [true_and, and_true, pIf_iff, decide_eq_true_eq, decide_eq_false_iff_not]
   rw [List.eq_nil_of_length_eq_zero h0] at h
   exact ⟨fun h' => by omega, fun _ => h⟩
  ·rw [if_neg h0, if_neg h0, if_neg h0]
   refine ok_I (vc := callY) callY_ok mixed _ (l_yCor1 s e l.length n i (rowC l) _ _) ?_
   simp only [true_and, and_true, pIf_iff, decide_eq_true_eq, decide_eq_false_iff_not]
   refine ⟨fun h' => by omega, fun _ => ⟨⟨by rw [rowC_len, Nat.zero_add]; exact Nat.le_refl _, rowC_nls l⟩, ?_⟩⟩
   have := chunks_row l
   rw [List.drop_zero, show chunks 2 l.length (rowC l) = encL l from this]
   exact h
 | succ j ih =>
  intro i s e l hi hl hs hr hin
  have nx := fun a s1 e1 (r1 : GotB s e (bInt a) s1 e1) (i1 : In64 a) b s2 e2 (r2 : GotB s1 e1 (bInt b) s2 e2) (i2 : In64 b) => ih (i + 1) s2 e2 (l ++ [⟨a, b⟩]) (by omega) (by simp [hl]) (Nat.lt_of_le_of_lt (Nat.le_trans r2.le r1.le) hs) (by unfold bPtsN; rw [List.foldl_append]; exact hr.trans (r1.trans r2)) (mem_snoc hin ⟨i1, i2⟩)
  unfold accV accH accN at nx ⊢
  simp only [List.length_append, List.length_cons, List.length_nil, Nat.zero_add, Nat.add_eq_zero_iff, Nat.one_ne_zero, and_false, if_false, rowC_snoc] at nx
  by_cases h0 : l.length = 0
  ·rw [if_pos h0, if_pos h0, if_pos h0]
   refine ok_I (vc := callY) callY_ok mixed _ (l_yCor0 s e n i _ _) ?_
   simp only [true_and, and_true, pIf_iff, decide_eq_true_eq, decide_eq_false_iff_not]
   have hl0 := List.eq_nil_of_length_eq_zero h0
   subst hl0
   rw [wrapSucc (by omega)]
   refine ⟨fun _ => ⟨hs, by decide, by decide, fun a s1 e1 r1 i1 => ⟨Nat.lt_of_le_of_lt r1.le hs, by decide, by decide, fun b s2 e2 r2 i2 => by and_intros <;> first | omega | decide | rfl | exact yNls2 _ _ rfl rfl | exact nx a s1 e1 r1 i1 b s2 e2 r2 i2⟩⟩, fun h' => by omega⟩
  ·rw [if_neg h0, if_neg h0, if_neg h0]
   refine ok_I (vc := callY) callY_ok mixed _ (l_yCor1 s e l.length n i (rowC l) _ _) ?_
   simp only [true_and, and_true, pIf_iff, decide_eq_true_eq, decide_eq_false_iff_not]
   rw [wrapSucc (by omega)]
   refine ⟨fun _ => ⟨hs, by decide, by decide, fun a s1 e1 r1 i1 => ⟨Nat.lt_of_le_of_lt r1.le hs, by decide, by decide, fun b s2 e2 r2 i2 => by and_intros <;> first | omega | decide | rfl | exact yNls2 _ _ rfl rfl | exact ySnoc2 (rowC_nls l) (yNls2 _ _ rfl rfl) | (rw [rowC_len, Nat.zero_add]; rfl) | exact nx a s1 e1 r1 i1 b s2 e2 r2 i2⟩⟩, fun h' => by omega⟩
def y_C (args : List Value) (conts : List (List Value)) (Post : Value → List (List Value) → Prop) : Prop := match args, conts with
 | [.pointer (some ⟨0, 0, none⟩)], [[.string s, .int .i64 (.ofNat e)]] => s.size < 4611686018427387904 ∧ ∀ l r e', GotB s e (bPts l) r e' → l.length ≤ 32 → (∀ x ∈ l, InPt x) → Post (trPt l) [[.string r, .int .i64 (.ofNat e')]]
 | _, _ => False
theorem ok_yC : IEntOk Tryz.prog ⟨156, y_C⟩ := by
 intro args conts Post h
 unfold y_C at h
 dsimp only at h
 split at h
 case h_2 => exact h.elim
 rename_i s e
 obtain ⟨hs, h⟩ := h
 refine spec_I (vc := callY) callY_ok mixed (by kernel_rfl) (by kernel_rfl) _ (e_yCor s e _ _) ?_
 simp only [true_and, and_true]
 refine ⟨hs, by decide, fun n r e1 r1 h1 => ⟨yNls2 _ _ rfl rfl, ?_⟩⟩
 exact yCor_loop Post s e n h1 h n 0 r e1 [] (Nat.zero_add _) rfl (Nat.lt_of_le_of_lt r1.le hs) r1 (fun x hx => by cases hx)
def callYp : VCall := inlCall Tryz.prog [155, 157, 80] (itabCall (⟨156, y_C⟩ :: tabY) noCall) 3
theorem callYp_ok : VCallOk Tryz.prog callYp := inlCall_ok mixed (itabCall_ok (by
 intro e he
 rcases List.mem_cons.1 he with rfl | he
 ·exact ok_yC
 ·exact tabY_ok e he) noCall_ok) 3
theorem e_yPart (s : ByteArray) (e : Nat) (H : HT) (Post : PI) : vcI Tryz.prog callYp 153 [(10, [0, 2, 3, 27, 28])] [[.string s, .int .i64 (.ofNat e)]] [ptr0] H Post = (T2 (True ∧ true = true ∧ s.size < 4611686018427387904 ∧ 64 < 4611686018427387904 ∧ ∀ (v r : ByteArray) (e' : Nat), GotB s e (bText v) r e' → v.size ≤ 64 → 1 = 1 ∧ True ∧ 1 ≤ 18 ∧ T2 (True ∧ true = true ∧ r.size < 4611686018427387904 ∧ toI (vi (-9223372036854775808)) ≤ -9223372036854775808 ∧ toI (vi 9223372036854775807) ≤ 9223372036854775807 ∧ ∀ (v_1 : Int) (r_1 : ByteArray) (e'_1 : Nat), GotB r e' (bInt v_1) r_1 e'_1 → -9223372036854775808 ≤ v_1 ∧ v_1 < 9223372036854775808 → 1 = 1 ∧ T2 (2 ≤ 18 ∧ T2 (True ∧ true = true ∧ r_1.size < 4611686018427387904 ∧ toI (vi (-9223372036854775808)) ≤ -9223372036854775808 ∧ toI (vi 9223372036854775807) ≤ 9223372036854775807 ∧ ∀ (v_2 : Int) (r : ByteArray) (e' : Nat), GotB r_1 e'_1 (bInt v_2) r e' → -9223372036854775808 ≤ v_2 ∧ v_2 < 9223372036854775808 → 1 = 1 ∧ T2 (3 ≤ 18 ∧ True ∧ true = true ∧ r.size < 4611686018427387904 ∧ 64 < 4611686018427387904 ∧ ∀ (v_3 r_2 : ByteArray) (e'_2 : Nat), GotB r e' (bText v_3) r_2 e'_2 → v_3.size ≤ 64 → 1 = 1 ∧ True ∧ 4 ≤ 18 ∧ True ∧ true = true ∧ r_2.size < 4611686018427387904 ∧ 16 < 4611686018427387904 ∧ ∀ (v_4 r : ByteArray) (e' : Nat), GotB r_2 e'_2 (bText v_4) r e' → v_4.size ≤ 16 → 1 = 1 ∧ True ∧ 5 ≤ 18 ∧ T2 (True ∧ true = true ∧ r.size < 4611686018427387904 ∧ toI (vi (-9223372036854775808)) ≤ -9223372036854775808 ∧ toI (vi 9223372036854775807) ≤ 9223372036854775807 ∧ ∀ (v_5 : Int) (r_3 : ByteArray) (e'_3 : Nat), GotB r e' (bInt v_5) r_3 e'_3 → -9223372036854775808 ≤ v_5 ∧ v_5 < 9223372036854775808 → 1 = 1 ∧ T2 (6 ≤ 18 ∧ True ∧ true = true ∧ r_3.size < 4611686018427387904 ∧ ∀ (l : List Pt) (r : ByteArray) (e' : Nat), GotB r_3 e'_3 (bPts l) r e' → List.length l ≤ 32 → (∀ (x : Pt), x ∈ l → (-9223372036854775808 ≤ x.x ∧ x.x < 9223372036854775808) ∧ -9223372036854775808 ≤ x.y ∧ x.y < 9223372036854775808) → 1 = 1 ∧ T2 (7 ≤ 18 ∧ True ∧ true = true ∧ r.size < 4611686018427387904 ∧ 8 < 4611686018427387904 ∧ ∀ (v_6 : Nat) (r_4 : ByteArray) (e'_4 : Nat), GotB r e' (bList v_6) r_4 e'_4 → v_6 ≤ 8 → 1 = 1 ∧ T2 ((NLs [vs r_4, vi (Int.ofNat e'_4)] ∧ T2 (True)) ∧ H (lpC Tryz.prog 153 10) (lpK Tryz.prog 153 10) (stV [(0, some (pt 0)), (2, some (pt 1)), (3, some (pt 2)), (27, some (vi (Int.ofNat v_6))), (28, some (vi 0))] [(0, some (AObj.cells [vs r_4, vi (Int.ofNat e'_4)] true)), (1, some (AObj.cells [vz, vi 0, vi 0, vz, vz, vi 0, nS, nS, vz, vi 0, vi 0, vi 0, vi 0, vi 0, vi 0, vi 0, vi 0, vi 0] true)), (2, some (AObj.cells [vs v, vi v_1, vi v_2, vs v_3, vs v_4, vi v_5, tree 2 l.length (encL l), nS, vz, vi 0, vi 0, vi 0, vi 0, vi 0, vi 0, vi 0, vi 0, vi 0] true))] 3))))))))))) := by kernel_rfl
theorem l_yPart0 (s : ByteArray) (e : Nat) (n i : Int) (id node grade : ByteArray) (rev kind thick : Int) (no : Nat) (oA : Array Value) (H : HT) (Post : PI) : vcLI Tryz.prog callYp 153 [ptr0] [(10, [0, 2, 3, 27, 28])] 1 10 (stV [(0, some ptr0), (2, some (.pointer (some ⟨1, 0, none⟩))), (3, some (.pointer (some ⟨2, 0, none⟩))), (27, some (.int .i64 n)), (28, some (.int .i64 i))] [(0, some (.cells [.string s, .int .i64 (.ofNat e)] true)), (1, some (.cells [.string ⟨#[]⟩, .int .i64 0, .int .i64 0, .string ⟨#[]⟩, .string ⟨#[]⟩, .int .i64 0, .slice none 0 0, .slice none 0 0, .string ⟨#[]⟩, .int .i64 0, .int .i64 0, .int .i64 0, .int .i64 0, .int .i64 0, .int .i64 0, .int .i64 0, .int .i64 0, .int .i64 0] true)), (2, some (.cells [.string id, .int .i64 rev, .int .i64 kind, .string node, .string grade, .int .i64 thick, tree 2 no oA, .slice none 0 0, .string ⟨#[]⟩, .int .i64 0, .int .i64 0, .int .i64 0, .int .i64 0, .int .i64 0, .int .i64 0, .int .i64 0, .int .i64 0, .int .i64 0] true))] 3) H Post = (let q2 := vi 9223372036854775807; let q1 := vi (-9223372036854775808); True ∧ pIf (decide (i < n)) (T4 (true = true ∧ s.size < 4611686018427387904 ∧ ∀ (l : List Pt) (r : ByteArray) (e' : Nat), GotB s e (bPts l) r e' → List.length l ≤ 32 → (∀ (x : Pt), x ∈ l → (-9223372036854775808 ≤ x.x ∧ x.x < 9223372036854775808) ∧ -9223372036854775808 ≤ x.y ∧ x.y < 9223372036854775808) → 1 = 1 ∧ ((nS = nS ∧ True) ∧ True) ∧ True ∧ 1 ≤ 1 ∧ 1 ≤ 33554432 ∧ true = true ∧ 1 = 1 ∧ T2 (True ∧ 8 ≤ 18 ∧ T4 ((NLs [vs r, vi (Int.ofNat e')] ∧ T2 (NLs [tree 2 l.length (encL l)] ∧ True)) ∧ H (lpC Tryz.prog 153 10) (lpK Tryz.prog 153 10) (stV [(0, some (pt 0)), (2, some (pt 1)), (3, some (pt 2)), (27, some (vi n)), (28, some (vi (IntKind.wrap IntKind.i64 (i + 1))))] [(0, some (AObj.cells [vs r, vi (Int.ofNat e')] true)), (1, some (AObj.cells [vz, vi 0, vi 0, vz, vz, vi 0, nS, nS, vz, vi 0, vi 0, vi 0, vi 0, vi 0, vi 0, vi 0, vi 0, vi 0] true)), (2, some (AObj.cells [vs id, vi rev, vi kind, vs node, vs grade, vi thick, tree 2 no oA, Value.slice (some (Addr.mk 3 0 none)) 1 1, vz, vi 0, vi 0, vi 0, vi 0, vi 0, vi 0, vi 0, vi 0, vi 0] true)), (3, some (AObj.cells [tree 2 l.length (encL l)] true))] 4))))) (True ∧ true = true ∧ s.size < 4611686018427387904 ∧ 16 < 4611686018427387904 ∧ ∀ (v r : ByteArray) (e' : Nat), GotB s e (bText v) r e' → v.size ≤ 16 → 1 = 1 ∧ True ∧ 9 ≤ 18 ∧ T2 (True ∧ true = true ∧ r.size < 4611686018427387904 ∧ toI q1 ≤ -9223372036854775808 ∧ toI q2 ≤ 9223372036854775807 ∧ ∀ (v_1 : Int) (r_1 : ByteArray) (e'_1 : Nat), GotB r e' (bInt v_1) r_1 e'_1 → -9223372036854775808 ≤ v_1 ∧ v_1 < 9223372036854775808 → 1 = 1 ∧ T2 (10 ≤ 18 ∧ T2 (True ∧ true = true ∧ r_1.size < 4611686018427387904 ∧ toI q1 ≤ -9223372036854775808 ∧ toI q2 ≤ 9223372036854775807 ∧ ∀ (v_2 : Int) (r : ByteArray) (e' : Nat), GotB r_1 e'_1 (bInt v_2) r e' → -9223372036854775808 ≤ v_2 ∧ v_2 < 9223372036854775808 → 1 = 1 ∧ T2 (11 ≤ 18 ∧ T4 (True ∧ true = true ∧ r.size < 4611686018427387904 ∧ toI q1 ≤ -9223372036854775808 ∧ toI q2 ≤ 9223372036854775807 ∧ ∀ (v_3 : Int) (r_2 : ByteArray) (e'_2 : Nat), GotB r e' (bInt v_3) r_2 e'_2 → -9223372036854775808 ≤ v_3 ∧ v_3 < 9223372036854775808 → 1 = 1 ∧ T4 (True ∧ true = true ∧ r_2.size < 4611686018427387904 ∧ toI q1 ≤ -9223372036854775808 ∧ toI q2 ≤ 9223372036854775807 ∧ ∀ (v_4 : Int) (r : ByteArray) (e' : Nat), GotB r_2 e'_2 (bInt v_4) r e' → -9223372036854775808 ≤ v_4 ∧ v_4 < 9223372036854775808 → 1 = 1 ∧ T4 (T2 (True ∧ true = true ∧ r.size < 4611686018427387904 ∧ toI q1 ≤ -9223372036854775808 ∧ toI q2 ≤ 9223372036854775807 ∧ ∀ (v_5 : Int) (r_3 : ByteArray) (e'_3 : Nat), GotB r e' (bInt v_5) r_3 e'_3 → -9223372036854775808 ≤ v_5 ∧ v_5 < 9223372036854775808 → 1 = 1 ∧ T2 (3 ≤ 3 ∧ True ∧ 14 ≤ 18 ∧ T4 (True ∧ true = true ∧ r_3.size < 4611686018427387904 ∧ toI q1 ≤ -9223372036854775808 ∧ toI q2 ≤ 9223372036854775807 ∧ ∀ (v_6 : Int) (r : ByteArray) (e' : Nat), GotB r_3 e'_3 (bInt v_6) r e' → -9223372036854775808 ≤ v_6 ∧ v_6 < 9223372036854775808 → 1 = 1 ∧ T4 (True ∧ true = true ∧ r.size < 4611686018427387904 ∧ toI q1 ≤ -9223372036854775808 ∧ toI q2 ≤ 9223372036854775807 ∧ ∀ (v_7 : Int) (r_4 : ByteArray) (e'_4 : Nat), GotB r e' (bInt v_7) r_4 e'_4 → -9223372036854775808 ≤ v_7 ∧ v_7 < 9223372036854775808 → 1 = 1 ∧ T4 (T2 (True ∧ true = true ∧ r_4.size < 4611686018427387904 ∧ toI q1 ≤ -9223372036854775808 ∧ toI q2 ≤ 9223372036854775807 ∧ ∀ (v_8 : Int) (r : ByteArray) (e' : Nat), GotB r_4 e'_4 (bInt v_8) r e' → -9223372036854775808 ≤ v_8 ∧ v_8 < 9223372036854775808 → 1 = 1 ∧ T2 (3 ≤ 3 ∧ T2 (17 ≤ 18 ∧ T2 (True ∧ true = true ∧ r.size < 4611686018427387904 ∧ toI q1 ≤ -9223372036854775808 ∧ toI q2 ≤ 9223372036854775807 ∧ ∀ (v_9 : Int) (r_5 : ByteArray) (e'_5 : Nat), GotB r e' (bInt v_9) r_5 e'_5 → -9223372036854775808 ≤ v_9 ∧ v_9 < 9223372036854775808 → 1 = 1 ∧ T2 (True ∧ 18 ≤ 18 ∧ T8 (T2 (True ∧ pIf (!decide (Int.ofNat e'_5 = 0)) (True ∧ 18 ≤ 18 ∧ (T16 (T2 (True))) ∧ true = true ∧ Post (Value.agg #[vz, vi 0, vi 0, vz, vz, vi 0, tree 2 0 #[], tree 1 0 #[], vz, vi 0, vi 0, vi 0, vi 0, vi 0, vi 0, vi 0, vi 0, vi 0]) [[vs r_5, vi (Int.ofNat e'_5)]]) (True ∧ 18 ≤ 18 ∧ (T16 (T2 (True))) ∧ true = true ∧ Post (Value.agg #[vs id, vi rev, vi kind, vs node, vs grade, vi thick, tree 2 no oA, tree 1 0 #[], vs v, vi v_1, vi v_2, vi v_3, vi v_4, vi v_5, vi v_6, vi v_7, vi v_8, vi v_9]) [[vs r_5, vi (Int.ofNat e'_5)]])))))))))))))))))))))) := by kernel_rfl
theorem l_yPart1 (s : ByteArray) (e : Nat) (n i : Int) (id node grade : ByteArray) (rev kind thick : Int) (no : Nat) (oA : Array Value) (k : Nat) (l : List Value) (H : HT) (Post : PI) : vcLI Tryz.prog callYp 153 [ptr0] [(10, [0, 2, 3, 27, 28])] 1 10 (stV [(0, some ptr0), (2, some (.pointer (some ⟨1, 0, none⟩))), (3, some (.pointer (some ⟨2, 0, none⟩))), (27, some (.int .i64 n)), (28, some (.int .i64 i))] [(0, some (.cells [.string s, .int .i64 (.ofNat e)] true)), (1, some (.cells [.string ⟨#[]⟩, .int .i64 0, .int .i64 0, .string ⟨#[]⟩, .string ⟨#[]⟩, .int .i64 0, .slice none 0 0, .slice none 0 0, .string ⟨#[]⟩, .int .i64 0, .int .i64 0, .int .i64 0, .int .i64 0, .int .i64 0, .int .i64 0, .int .i64 0, .int .i64 0, .int .i64 0] true)), (2, some (.cells [.string id, .int .i64 rev, .int .i64 kind, .string node, .string grade, .int .i64 thick, tree 2 no oA, .slice (some ⟨3, 0, none⟩) k 1, .string ⟨#[]⟩, .int .i64 0, .int .i64 0, .int .i64 0, .int .i64 0, .int .i64 0, .int .i64 0, .int .i64 0, .int .i64 0, .int .i64 0] true)), (3, some (.cells l true))] 4) H Post = (let q2 := vi 9223372036854775807; let q1 := vi (-9223372036854775808); True ∧ pIf (decide (i < n)) (T4 (true = true ∧ s.size < 4611686018427387904 ∧ ∀ (l_1 : List Pt) (r : ByteArray) (e' : Nat), GotB s e (bPts l_1) r e' → List.length l_1 ≤ 32 → (∀ (x : Pt), x ∈ l_1 → (-9223372036854775808 ≤ x.x ∧ x.x < 9223372036854775808) ∧ -9223372036854775808 ≤ x.y ∧ x.y < 9223372036854775808) → 1 = 1 ∧ ((Value.slice (some (Addr.mk 3 0 none)) k 1 = Value.slice (some (Addr.mk 3 0 none)) k 1 ∧ True) ∧ True) ∧ True ∧ 1 ≤ 1 ∧ k + 1 ≤ 33554432 ∧ true = true ∧ 1 = 1 ∧ 0 + k * 1 = List.length l ∧ T2 (True ∧ 8 ≤ 18 ∧ T4 ((NLs [vs r, vi (Int.ofNat e')] ∧ T2 (NLs (l ++ [tree 2 l_1.length (encL l_1)]) ∧ True)) ∧ H (lpC Tryz.prog 153 10) (lpK Tryz.prog 153 10) (stV [(0, some (pt 0)), (2, some (pt 1)), (3, some (pt 2)), (27, some (vi n)), (28, some (vi (IntKind.wrap IntKind.i64 (i + 1))))] [(0, some (AObj.cells [vs r, vi (Int.ofNat e')] true)), (1, some (AObj.cells [vz, vi 0, vi 0, vz, vz, vi 0, nS, nS, vz, vi 0, vi 0, vi 0, vi 0, vi 0, vi 0, vi 0, vi 0, vi 0] true)), (2, some (AObj.cells [vs id, vi rev, vi kind, vs node, vs grade, vi thick, tree 2 no oA, Value.slice (some (Addr.mk 3 0 none)) (k + 1) 1, vz, vi 0, vi 0, vi 0, vi 0, vi 0, vi 0, vi 0, vi 0, vi 0] true)), (3, some (AObj.cells (l ++ [tree 2 l_1.length (encL l_1)]) true))] 4))))) (True ∧ true = true ∧ s.size < 4611686018427387904 ∧ 16 < 4611686018427387904 ∧ ∀ (v r : ByteArray) (e' : Nat), GotB s e (bText v) r e' → v.size ≤ 16 → 1 = 1 ∧ True ∧ 9 ≤ 18 ∧ T2 (True ∧ true = true ∧ r.size < 4611686018427387904 ∧ toI q1 ≤ -9223372036854775808 ∧ toI q2 ≤ 9223372036854775807 ∧ ∀ (v_1 : Int) (r_1 : ByteArray) (e'_1 : Nat), GotB r e' (bInt v_1) r_1 e'_1 → -9223372036854775808 ≤ v_1 ∧ v_1 < 9223372036854775808 → 1 = 1 ∧ T2 (10 ≤ 18 ∧ T2 (True ∧ true = true ∧ r_1.size < 4611686018427387904 ∧ toI q1 ≤ -9223372036854775808 ∧ toI q2 ≤ 9223372036854775807 ∧ ∀ (v_2 : Int) (r : ByteArray) (e' : Nat), GotB r_1 e'_1 (bInt v_2) r e' → -9223372036854775808 ≤ v_2 ∧ v_2 < 9223372036854775808 → 1 = 1 ∧ T2 (11 ≤ 18 ∧ T4 (True ∧ true = true ∧ r.size < 4611686018427387904 ∧ toI q1 ≤ -9223372036854775808 ∧ toI q2 ≤ 9223372036854775807 ∧ ∀ (v_3 : Int) (r_2 : ByteArray) (e'_2 : Nat), GotB r e' (bInt v_3) r_2 e'_2 → -9223372036854775808 ≤ v_3 ∧ v_3 < 9223372036854775808 → 1 = 1 ∧ T4 (True ∧ true = true ∧ r_2.size < 4611686018427387904 ∧ toI q1 ≤ -9223372036854775808 ∧ toI q2 ≤ 9223372036854775807 ∧ ∀ (v_4 : Int) (r : ByteArray) (e' : Nat), GotB r_2 e'_2 (bInt v_4) r e' → -9223372036854775808 ≤ v_4 ∧ v_4 < 9223372036854775808 → 1 = 1 ∧ T4 (T2 (True ∧ true = true ∧ r.size < 4611686018427387904 ∧ toI q1 ≤ -9223372036854775808 ∧ toI q2 ≤ 9223372036854775807 ∧ ∀ (v_5 : Int) (r_3 : ByteArray) (e'_3 : Nat), GotB r e' (bInt v_5) r_3 e'_3 → -9223372036854775808 ≤ v_5 ∧ v_5 < 9223372036854775808 → 1 = 1 ∧ T2 (3 ≤ 3 ∧ True ∧ 14 ≤ 18 ∧ T4 (True ∧ true = true ∧ r_3.size < 4611686018427387904 ∧ toI q1 ≤ -9223372036854775808 ∧ toI q2 ≤ 9223372036854775807 ∧ ∀ (v_6 : Int) (r : ByteArray) (e' : Nat), GotB r_3 e'_3 (bInt v_6) r e' → -9223372036854775808 ≤ v_6 ∧ v_6 < 9223372036854775808 → 1 = 1 ∧ T4 (True ∧ true = true ∧ r.size < 4611686018427387904 ∧ toI q1 ≤ -9223372036854775808 ∧ toI q2 ≤ 9223372036854775807 ∧ ∀ (v_7 : Int) (r_4 : ByteArray) (e'_4 : Nat), GotB r e' (bInt v_7) r_4 e'_4 → -9223372036854775808 ≤ v_7 ∧ v_7 < 9223372036854775808 → 1 = 1 ∧ T4 (T2 (True ∧ true = true ∧ r_4.size < 4611686018427387904 ∧ toI q1 ≤ -9223372036854775808 ∧ toI q2 ≤ 9223372036854775807 ∧ ∀ (v_8 : Int) (r : ByteArray) (e' : Nat), GotB r_4 e'_4 (bInt v_8) r e' → -9223372036854775808 ≤ v_8 ∧ v_8 < 9223372036854775808 → 1 = 1 ∧ T2 (3 ≤ 3 ∧ T2 (17 ≤ 18 ∧ T2 (True ∧ true = true ∧ r.size < 4611686018427387904 ∧ toI q1 ≤ -9223372036854775808 ∧ toI q2 ≤ 9223372036854775807 ∧ ∀ (v_9 : Int) (r_5 : ByteArray) (e'_5 : Nat), GotB r e' (bInt v_9) r_5 e'_5 → -9223372036854775808 ≤ v_9 ∧ v_9 < 9223372036854775808 → 1 = 1 ∧ T2 (True ∧ 18 ≤ 18 ∧ T8 (T2 (True ∧ pIf (!decide (Int.ofNat e'_5 = 0)) (True ∧ 18 ≤ 18 ∧ (T16 (T2 (True))) ∧ true = true ∧ Post (Value.agg #[vz, vi 0, vi 0, vz, vz, vi 0, tree 2 0 #[], tree 1 0 #[], vz, vi 0, vi 0, vi 0, vi 0, vi 0, vi 0, vi 0, vi 0, vi 0]) [[vs r_5, vi (Int.ofNat e'_5)]]) (True ∧ 18 ≤ 18 ∧ (T4 (T2 (True ∧ (0 + k * 1 ≤ List.length l ∧ NLs l) ∧ T8 (T2 (True))))) ∧ true = true ∧ Post (Value.agg #[vs id, vi rev, vi kind, vs node, vs grade, vi thick, tree 2 no oA, tree 1 k (chunks 1 k (List.drop 0 l)), vs v, vi v_1, vi v_2, vi v_3, vi v_4, vi v_5, vi v_6, vi v_7, vi v_8, vi v_9]) [[vs r_5, vi (Int.ofNat e'_5)]])))))))))))))))))))))) := by kernel_rfl
structure FitP (p : Part) : Prop where
 id : p.id.size ≤ 64
 node : p.node.size ≤ 64
 grade : p.grade.size ≤ 16
 sect : p.sect.size ≤ 16
 outer : p.outer.length ≤ 32
 holes : p.holes.length ≤ 8
 all : ∀ h ∈ p.holes, h.length ≤ 32
def y_P (args : List Value) (conts : List (List Value)) (Post : Value → List (List Value) → Prop) : Prop := match args, conts with
 | [.pointer (some ⟨0, 0, none⟩)], [[.string s, .int .i64 (.ofNat e)]] => s.size < 4611686018427387904 ∧ ∀ p r e', GotB s e (bPart p) r e' → InPart p → FitP p → Post (partV p) [[.string r, .int .i64 (.ofNat e')]]
 | _, _ => False
end Go.Proofs.YtegjnjmimfgijaaGreatDoor
