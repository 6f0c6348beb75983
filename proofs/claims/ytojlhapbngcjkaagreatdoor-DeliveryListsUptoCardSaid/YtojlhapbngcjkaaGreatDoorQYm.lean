/-
  Put together out of several texts, each in its own namespace's block. Conditions: as each theorem states them.
-/
import Derived.Test.YtojlhapbngcjkaaGreatDoorQSr
import Derived.Test.YtojlhapbngcjkaaGreatDoorQYg
noncomputable section
namespace Go.Proofs.YtojlhapbngcjkaaGreatDoor
open Go Go.RowKit
set_option maxRecDepth 100000
set_option maxHeartbeats 8000000
abbrev mapW : List Ment := [(.int .i64 2, .string ⟨#[119, 101, 108, 100, 101, 100]⟩, 0), (.int .i64 3, .string ⟨#[102, 97, 105, 108, 101, 100]⟩, 1), (.int .i64 4, .string ⟨#[97, 99, 99, 101, 112, 116, 101, 100]⟩, 2), (.int .i64 5, .string ⟨#[114, 101, 106, 101, 99, 116, 101, 100]⟩, 3)]
theorem e_wel (s : StateD) (H : Code → List Fr → AS → Option ByteArray → Prop) (Post : PX) : B.vcWl Tryz.prog 9 callM mkM [(5, [1, 3, 4, 23, 24, 25]), (14, [1, 3, 4, 7, 23, 24, 25, 66, 67, 68])] [true, true] [stateDV s] H Post = (let q8 := ByteArray.mk #[32]; let q7 := ByteArray.mk #[87, 69, 76, 68, 83]; let q6 := StateD.stock s; let q3 := StateD.design s; let q1 := List.map toS [(vs q7), (vs (Design6.hull q3))]; let q5 := joinB q1 q8 ++ ByteArray.mk #[10]; let q4 := Design6.seams q3; let q2 := [(vi 2, vs (ByteArray.mk #[119, 101, 108, 100, 101, 100]), 0), (vi 3, vs (ByteArray.mk #[102, 97, 105, 108, 101, 100]), 1), (vi 4, vs (ByteArray.mk #[97, 99, 99, 101, 112, 116, 101, 100]), 2), (vi 5, vs (ByteArray.mk #[114, 101, 106, 101, 99, 116, 101, 100]), 3)]; T8 (T2 (((2 ≤ 2 ∧ NLs [vs q7, vs (Design6.hull q3)]) ∧ True ∧ True) ∧ true = true ∧ 2 ≤ 140737488355328 ∧ ByteArray.size (joinB q1 q8) ≤ 140737488355328 ∧ True ∧ ByteArray.size (joinB q1 q8) + 1 ≤ 9223372036854775807 ∧ 0 + ByteArray.size q5 ≤ 140737488355328 ∧ T8 (T2 ((T2 ((∀ (e : Value × Value × Nat), e ∈ q2 → nl1 (Prod.fst (Prod.snd e)) = true) ∧ True)) ∧ H (lpC Tryz.prog 9 5) (lpK Tryz.prog 9 5) (stV [(1, some (pt 0)), (3, some (pt 1)), (4, some (Value.map (some (0 + 1 + 1)))), (23, some (tree 6 (List.length q4) (encL q4))), (24, some (vi (↑(List.length q4) : Int))), (25, some (vi 0))] [(0, some (AObj.cells [vi (StateD.now s), vs (Design6.hull q3), tree 3 (List.length (Design6.nodes q3)) (encL (Design6.nodes q3)), tree 18 (List.length (Design6.parts q3)) (encL (Design6.parts q3)), tree 6 (List.length q4) (encL q4), tree 5 (List.length (Design6.packs q3)) (encL (Design6.packs q3)), tree 3 (List.length (Design6.needs q3)) (encL (Design6.needs q3)), tree 1 (List.length (StateD.orders s)) (encL (StateD.orders s)), tree 6 (List.length (Stock2.sheets q6)) (encL (Stock2.sheets q6)), tree 5 (List.length (Stock2.bars q6)) (encL (Stock2.bars q6)), tree 6 (List.length (StateD.pieces s)) (encL (StateD.pieces s)), tree 6 (List.length (StateD.scrap s)) (encL (StateD.scrap s)), tree 8 (List.length (StateD.welds s)) (encL (StateD.welds s)), tree 1 (List.length (StateD.done s)) (encL (StateD.done s)), tree 8 (List.length (StateD.weighs s)) (encL (StateD.weighs s)), tree 3 (List.length (StateD.raised s)) (encL (StateD.raised s)), tree 4 (List.length (StateD.permits s)) (encL (StateD.permits s)), tree 3 (List.length (StateD.tests s)) (encL (StateD.tests s)), vi (StateD.launched s), vi (StateD.delivered s)] true)), (1, some (AObj.cells [] false)), (2, some (AObj.map (q2) 4))] 3) (some (ByteArray.empty ++ q5))))))) := by kernel_rfl
theorem l_wel (s : StateD) (n : Nat) (A : Array Value) (S : ByteArray) (k : Int) (H : Code → List Fr → AS → Option ByteArray → Prop) (Post : PX) : B.vcLWl Tryz.prog 9 mkM [stateDV s] [(5, [1, 3, 4, 23, 24, 25]), (14, [1, 3, 4, 7, 23, 24, 25, 66, 67, 68])] [true, true] 5 (stV [(1, some (.pointer (some ⟨0, 0, none⟩))), (3, some (.pointer (some ⟨1, 0, none⟩))), (4, some (.map (some 2))), (23, some (tree 6 n A)), (24, some (.int .i64 n)), (25, some (.int .i64 k))] [(0, some (.cells (stateDC s) true)), (1, some (.cells [] false)), (2, some (.map mapW 4))] 3) (some S) H Post = (let q38 := toI (cellAt A (Int.toNat k) 5); let q37 := StateD.tests s; let q36 := StateD.welds s; let q35 := StateD.scrap s; let q34 := (23, some (tree 6 n A)); let q33 := StateD.raised s; let q32 := StateD.weighs s; let q31 := StateD.pieces s; let q13 := StateD.stock s; let q30 := Stock2.bars q13; let q29 := StateD.orders s; let q28 := StateD.permits s; let q5 := StateD.design s; let q27 := Design6.needs q5; let q26 := Design6.packs q5; let q25 := Design6.seams q5; let q24 := Design6.parts q5; let q23 := Design6.nodes q5; let q22 := (24, some (vi (↑n : Int))); let q21 := Stock2.sheets q13; let q20 := (2, some (AObj.map mapW 4)); let q19 := ByteArray.mk #[117, 110, 107, 110, 111, 119, 110]; let q18 := (7, some (Value.slice (some (Addr.mk 3 0 none)) 13 1)); let q17 := (1, some (AObj.cells [] false)); let q16 := ByteArray.mk #[97, 116]; let q15 := ByteArray.mk #[98, 121]; let q14 := (4, some (Value.map (some (0 + 1 + 1)))); let q12 := ByteArray.mk #[119, 105, 116, 104]; let q11 := ByteArray.mk #[32]; let q10 := ByteArray.mk #[112, 97, 115, 115, 101, 100]; let q9 := ByteArray.mk #[110, 111, 110, 101]; let q8 := ByteArray.mk #[111, 112, 101, 110]; let q7 := ByteArray.mk #[114, 101, 112, 97, 105, 114, 115]; let q1 := (0, some (AObj.cells [vi (StateD.now s), vs (Design6.hull q5), tree 3 (List.length q23) (encL q23), tree 18 (List.length q24) (encL q24), tree 6 (List.length q25) (encL q25), tree 5 (List.length q26) (encL q26), tree 3 (List.length q27) (encL q27), tree 1 (List.length q29) (encL q29), tree 6 (List.length q21) (encL q21), tree 5 (List.length q30) (encL q30), tree 6 (List.length q31) (encL q31), tree 6 (List.length q35) (encL q35), tree 8 (List.length q36) (encL q36), tree 1 (List.length (StateD.done s)) (encL (StateD.done s)), tree 8 (List.length q32) (encL q32), tree 3 (List.length q33) (encL q33), tree 4 (List.length q28) (encL q28), tree 3 (List.length q37) (encL q37), vi (StateD.launched s), vi (StateD.delivered s)] true)); let q6 := stV [(1, some (pt 0)), (3, some (pt 1)), q14, q34, q22, (25, some (vi (IntKind.wrap IntKind.i64 (k + 1))))] [q1, q17, q20] 3; let q4 := [(2, ByteArray.mk #[119, 101, 108, 100, 101, 100]), (3, ByteArray.mk #[102, 97, 105, 108, 101, 100]), (4, ByteArray.mk #[97, 99, 99, 101, 112, 116, 101, 100]), (5, ByteArray.mk #[114, 101, 106, 101, 99, 116, 101, 100])]; let q3 := ByteArray.mk #[99, 108, 97, 115, 115]; let q2 := toS (cellAt A (Int.toNat k) 0); True ∧ pIf (decide (k < (↑n : Int))) ((0 ≤ k ∧ k < (↑n : Int)) ∧ (cellAt A (Int.toNat k) 0 = vs q2 ∧ cellAt A (Int.toNat k) 1 = vs (toS (cellAt A (Int.toNat k) 1)) ∧ cellAt A (Int.toNat k) 2 = vs (toS (cellAt A (Int.toNat k) 2)) ∧ cellAt A (Int.toNat k) 3 = vi (toI (cellAt A (Int.toNat k) 3)) ∧ cellAt A (Int.toNat k) 4 = vi (toI (cellAt A (Int.toNat k) 4)) ∧ cellAt A (Int.toNat k) 5 = vi q38 ∧ True) ∧ True ∧ 6 ≤ 6 ∧ T4 ((True ∧ True) ∧ ∃ (n_1 : Int), eqL [vi q38] [vi n_1] ∧ (-9223372036854775808 ≤ n_1 ∧ n_1 < 9223372036854775808) ∧ ((vs q2 = vs q2 ∧ True) ∧ True) ∧ T4 (True ∧ ((T16 (T4 (True))) ∧ True ∧ True) ∧ ∃ (s_1 : StateD), ∃ (id : ByteArray), eqL [Value.agg #[vi (StateD.now s), vs (Design6.hull q5), tree 3 (List.length q23) (encL q23), tree 18 (List.length q24) (encL q24), tree 6 (List.length q25) (encL q25), tree 5 (List.length q26) (encL q26), tree 3 (List.length q27) (encL q27), tree 1 (List.length q29) (encL q29), tree 6 (List.length q21) (encL q21), tree 5 (List.length q30) (encL q30), tree 6 (List.length q31) (encL q31), tree 6 (List.length q35) (encL q35), tree 8 (List.length q36) (encL q36), tree 1 (List.length (StateD.done s)) (encL (StateD.done s)), tree 8 (List.length q32) (encL q32), tree 3 (List.length q33) (encL q33), tree 4 (List.length q28) (encL q28), tree 3 (List.length q37) (encL q37), vi (StateD.launched s), vi (StateD.delivered s)], vs q2] [stateDV s_1, vs id] ∧ List.length (StateD.welds s_1) ≤ 1048576 ∧ (∀ (x : Weld8), x ∈ StateD.welds s_1 → List.length (Weld8.passed x) ≤ 1048576) ∧ (∀ (x : Weld8), weldAt s_1 id = some x → T4 (8 ≤ 8 ∧ T4 (T2 (True ∧ pIf (decide (Weld8.state x = 1)) (T2 (True ∧ 1 ≤ 1 ∧ 4 ≤ 33554432 ∧ true = true ∧ 1 = 1 ∧ 3 = 3 ∧ T4 (T2 (((4 ≤ 4 ∧ NLs [vs q2, vs q3, vs (decB n_1), vs q8]) ∧ True ∧ True) ∧ true = true ∧ 4 ≤ 140737488355328 ∧ ByteArray.size (joinB (List.map toS [(vs q2), (vs q3), (vs (decB n_1)), (vs q8)]) q11) ≤ 140737488355328 ∧ True ∧ ByteArray.size (joinB (List.map toS [(vs q2), (vs q3), (vs (decB n_1)), (vs q8)]) q11) + 1 ≤ 9223372036854775807 ∧ S.size + ByteArray.size (joinB (List.map toS [(vs q2), (vs q3), (vs (decB n_1)), (vs q8)]) q11 ++ ByteArray.mk #[10]) ≤ 140737488355328 ∧ T4 ((T2 ((∀ (e : Value × Value × Nat), e ∈ mapW → nl1 (Prod.fst (Prod.snd e)) = true) ∧ True)) ∧ H (lpC Tryz.prog 9 5) (lpK Tryz.prog 9 5) q6 (some (S ++ (joinB (List.map toS [(vs q2), (vs q3), (vs (decB n_1)), (vs q8)]) q11 ++ ByteArray.mk #[10])))))))) (T8 (pIf (lookB (Weld8.state x) q4) (T8 (T4 (T2 ((True ∧ True) ∧ ∃ (n_2 : Int), eqL [vi (Weld8.at_ x)] [vi n_2] ∧ (-9223372036854775808 ≤ n_2 ∧ n_2 < 9223372036854775808) ∧ ((vi (Weld8.repairs x) = vi (Weld8.repairs x) ∧ True) ∧ (vs (Weld8.proc x) = vs (Weld8.proc x) ∧ True) ∧ (vs (Weld8.by_ x) = vs (Weld8.by_ x) ∧ True) ∧ True) ∧ (True ∧ True) ∧ ∃ (n_3 : Int), eqL [vi (Weld8.repairs x)] [vi n_3] ∧ (-9223372036854775808 ≤ n_3 ∧ n_3 < 9223372036854775808) ∧ ((vs (Weld8.proc x) = vs (Weld8.proc x) ∧ True) ∧ (vs (Weld8.by_ x) = vs (Weld8.by_ x) ∧ True) ∧ True) ∧ True ∧ 10 ≤ 10 ∧ 13 ≤ 33554432 ∧ true = true ∧ 10 = 10 ∧ 3 = 3 ∧ T4 (T2 (True ∧ (T2 ((∀ (e : Value × Value × Nat), e ∈ mapW → nl1 (Prod.fst (Prod.snd e)) = true) ∧ NLs [vs q2, vs q3, vs (decB n_1), vs (lookS e0 (Weld8.state x) q4), vs q15, vs (Weld8.by_ x), vs q12, vs (Weld8.proc x), vs q16, vs (decB n_2), vs q7, vs (decB n_3), vs q10] ∧ True)) ∧ H (lpC Tryz.prog 9 14) (lpK Tryz.prog 9 14) (stV [(1, some (pt 0)), (3, some (pt 1)), q14, q18, q34, q22, (25, some (vi k)), (66, some (tree 1 (List.length (Weld8.passed x)) (encL (Weld8.passed x)))), (67, some (vi (↑(List.length (Weld8.passed x)) : Int))), (68, some (vi 0))] [q1, q17, q20, (3, some (AObj.cells [vs q2, vs q3, vs (decB n_1), vs (lookS e0 (Weld8.state x) q4), vs q15, vs (Weld8.by_ x), vs q12, vs (Weld8.proc x), vs q16, vs (decB n_2), vs q7, vs (decB n_3), vs q10] true))] 4) (some S))))))) (T8 (T4 (T2 (True ∧ (True ∧ True) ∧ ∃ (n_2 : Int), eqL [vi (Weld8.at_ x)] [vi n_2] ∧ (-9223372036854775808 ≤ n_2 ∧ n_2 < 9223372036854775808) ∧ ((vi (Weld8.repairs x) = vi (Weld8.repairs x) ∧ True) ∧ (vs (Weld8.proc x) = vs (Weld8.proc x) ∧ True) ∧ (vs (Weld8.by_ x) = vs (Weld8.by_ x) ∧ True) ∧ True) ∧ (True ∧ True) ∧ ∃ (n_3 : Int), eqL [vi (Weld8.repairs x)] [vi n_3] ∧ (-9223372036854775808 ≤ n_3 ∧ n_3 < 9223372036854775808) ∧ ((vs (Weld8.proc x) = vs (Weld8.proc x) ∧ True) ∧ (vs (Weld8.by_ x) = vs (Weld8.by_ x) ∧ True) ∧ True) ∧ True ∧ 10 ≤ 10 ∧ 13 ≤ 33554432 ∧ true = true ∧ 10 = 10 ∧ 3 = 3 ∧ T4 (T2 (True ∧ (T2 ((∀ (e : Value × Value × Nat), e ∈ mapW → nl1 (Prod.fst (Prod.snd e)) = true) ∧ NLs [vs q2, vs q3, vs (decB n_1), vs q19, vs q15, vs (Weld8.by_ x), vs q12, vs (Weld8.proc x), vs q16, vs (decB n_2), vs q7, vs (decB n_3), vs q10] ∧ True)) ∧ H (lpC Tryz.prog 9 14) (lpK Tryz.prog 9 14) (stV [(1, some (pt 0)), (3, some (pt 1)), q14, q18, q34, q22, (25, some (vi k)), (66, some (tree 1 (List.length (Weld8.passed x)) (encL (Weld8.passed x)))), (67, some (vi (↑(List.length (Weld8.passed x)) : Int))), (68, some (vi 0))] [q1, q17, q20, (3, some (AObj.cells [vs q2, vs q3, vs (decB n_1), vs q19, vs q15, vs (Weld8.by_ x), vs q12, vs (Weld8.proc x), vs q16, vs (decB n_2), vs q7, vs (decB n_3), vs q10] true))] 4) (some S))))))))))))) ∧ (weldAt s_1 id = none → T4 (8 ≤ 8 ∧ T4 (T2 (1 ≤ 1 ∧ 4 ≤ 33554432 ∧ true = true ∧ 1 = 1 ∧ 3 = 3 ∧ T4 (T2 (((4 ≤ 4 ∧ NLs [vs q2, vs q3, vs (decB n_1), vs q9]) ∧ True ∧ True) ∧ true = true ∧ 4 ≤ 140737488355328 ∧ ByteArray.size (joinB (List.map toS [(vs q2), (vs q3), (vs (decB n_1)), (vs q9)]) q11) ≤ 140737488355328 ∧ True ∧ ByteArray.size (joinB (List.map toS [(vs q2), (vs q3), (vs (decB n_1)), (vs q9)]) q11) + 1 ≤ 9223372036854775807 ∧ S.size + ByteArray.size (joinB (List.map toS [(vs q2), (vs q3), (vs (decB n_1)), (vs q9)]) q11 ++ ByteArray.mk #[10]) ≤ 140737488355328 ∧ T4 ((T2 ((∀ (e : Value × Value × Nat), e ∈ mapW → nl1 (Prod.fst (Prod.snd e)) = true) ∧ True)) ∧ H (lpC Tryz.prog 9 5) (lpK Tryz.prog 9 5) q6 (some (S ++ (joinB (List.map toS [(vs q2), (vs q3), (vs (decB n_1)), (vs q9)]) q11 ++ ByteArray.mk #[10]))))))))))))) (True ∧ 0 < S.size ∧ True ∧ (True ∧ True) ∧ true = true ∧ Post (Out.ret (vs S)) [])) := by kernel_rfl
theorem l_welp (s : StateD) (n : Nat) (A : Array Value) (S : ByteArray) (k : Int) (m q : Nat) (C : Array Value) (L : List Value) (j : Int) (H : Code → List Fr → AS → Option ByteArray → Prop) (Post : PX) : B.vcLWl Tryz.prog 9 mkM [stateDV s] [(5, [1, 3, 4, 23, 24, 25]), (14, [1, 3, 4, 7, 23, 24, 25, 66, 67, 68])] [true, true] 14 (stV [(1, some (.pointer (some ⟨0, 0, none⟩))), (3, some (.pointer (some ⟨1, 0, none⟩))), (4, some (.map (some 2))), (7, some (.slice (some ⟨3, 0, none⟩) q 1)), (23, some (tree 6 n A)), (24, some (.int .i64 n)), (25, some (.int .i64 k)), (66, some (tree 1 m C)), (67, some (.int .i64 m)), (68, some (.int .i64 j))] [(0, some (.cells (stateDC s) true)), (1, some (.cells [] false)), (2, some (.map mapW 4)), (3, some (.cells L true))] 4) (some S) H Post = (let q10 := (1, some (AObj.cells [] false)); let q9 := toI (cellAt C (Int.toNat j) 0); let q8 := ByteArray.mk #[32]; let q7 := StateD.stock s; let q6 := (4, some (Value.map (some (0 + 1 + 1)))); let q4 := chunks 1 q (List.drop 0 L); let q2 := List.map toS (Array.toList q4); let q5 := joinB q2 q8 ++ ByteArray.mk #[10]; let q3 := StateD.design s; let q1 := (0, some (AObj.cells [vi (StateD.now s), vs (Design6.hull q3), tree 3 (List.length (Design6.nodes q3)) (encL (Design6.nodes q3)), tree 18 (List.length (Design6.parts q3)) (encL (Design6.parts q3)), tree 6 (List.length (Design6.seams q3)) (encL (Design6.seams q3)), tree 5 (List.length (Design6.packs q3)) (encL (Design6.packs q3)), tree 3 (List.length (Design6.needs q3)) (encL (Design6.needs q3)), tree 1 (List.length (StateD.orders s)) (encL (StateD.orders s)), tree 6 (List.length (Stock2.sheets q7)) (encL (Stock2.sheets q7)), tree 5 (List.length (Stock2.bars q7)) (encL (Stock2.bars q7)), tree 6 (List.length (StateD.pieces s)) (encL (StateD.pieces s)), tree 6 (List.length (StateD.scrap s)) (encL (StateD.scrap s)), tree 8 (List.length (StateD.welds s)) (encL (StateD.welds s)), tree 1 (List.length (StateD.done s)) (encL (StateD.done s)), tree 8 (List.length (StateD.weighs s)) (encL (StateD.weighs s)), tree 3 (List.length (StateD.raised s)) (encL (StateD.raised s)), tree 4 (List.length (StateD.permits s)) (encL (StateD.permits s)), tree 3 (List.length (StateD.tests s)) (encL (StateD.tests s)), vi (StateD.launched s), vi (StateD.delivered s)] true)); True ∧ pIf (decide (j < (↑m : Int))) ((0 ≤ j ∧ j < (↑m : Int)) ∧ cellAt C (Int.toNat j) 0 = vi q9 ∧ T2 (True ∧ (True ∧ True) ∧ ∃ (n_1 : Int), eqL [vi q9] [vi n_1] ∧ (-9223372036854775808 ≤ n_1 ∧ n_1 < 9223372036854775808) ∧ True ∧ 1 ≤ 1 ∧ q + 1 ≤ 33554432 ∧ true = true ∧ 1 = 1 ∧ 0 + q * 1 = List.length L ∧ T4 ((T2 ((∀ (e : Value × Value × Nat), e ∈ mapW → nl1 (Prod.fst (Prod.snd e)) = true) ∧ NLs (L ++ [vs (decB n_1)]) ∧ True)) ∧ H (lpC Tryz.prog 9 14) (lpK Tryz.prog 9 14) (stV [(1, some (pt 0)), (3, some (pt 1)), q6, (7, some (Value.slice (some (Addr.mk 3 0 none)) (q + 1) 1)), (23, some (tree 6 n A)), (24, some (vi (↑n : Int))), (25, some (vi k)), (66, some (tree 1 m C)), (67, some (vi (↑m : Int))), (68, some (vi (IntKind.wrap IntKind.i64 (j + 1))))] [q1, q10, (2, some (AObj.map mapW 4)), (3, some (AObj.cells (L ++ [vs (decB n_1)]) true))] 4) (some S)))) (T4 (True ∧ ((0 + q * 1 ≤ List.length L ∧ NLs L) ∧ True ∧ True) ∧ (true && true && Nat.beq q (Array.size q4) && List.all (Array.toList q4) isStr) = true ∧ Array.size q4 ≤ 140737488355328 ∧ ByteArray.size (joinB q2 q8) ≤ 140737488355328 ∧ True ∧ ByteArray.size (joinB q2 q8) + 1 ≤ 9223372036854775807 ∧ S.size + ByteArray.size q5 ≤ 140737488355328 ∧ T4 ((T2 ((∀ (e : Value × Value × Nat), e ∈ mapW → nl1 (Prod.fst (Prod.snd e)) = true) ∧ True)) ∧ H (lpC Tryz.prog 9 5) (lpK Tryz.prog 9 5) (stV [(1, some (pt 0)), (3, some (pt 1)), q6, (23, some (tree 6 n A)), (24, some (vi (↑n : Int))), (25, some (vi (IntKind.wrap IntKind.i64 (k + 1))))] [q1, q10, (2, some (AObj.map mapW 4))] 3) (some (S ++ q5)))))) := by kernel_rfl
theorem e_rwel (s : StateD) (H : HT) (Post : PV) : vcP Tryz.prog vcRm 10 [(3, [1, 3, 4]), (14, [1, 3, 4, 6, 8])] [stateDV s] H Post = (let q2 := StateD.stock s; let q1 := StateD.design s; T4 (True ∧ 6 + ByteArray.size (Design6.hull q1) ≤ 9223372036854775807 ∧ ByteArray.size (ByteArray.mk #[87, 69, 76, 68, 83, 32] ++ Design6.hull q1) + 1 ≤ 9223372036854775807 ∧ T2 (True ∧ (True ∧ True) ∧ H (lpC Tryz.prog 10 3) (lpK Tryz.prog 10 3) (stV [(1, some (pt 0)), (3, some (vs (ByteArray.mk #[87, 69, 76, 68, 83, 32] ++ Design6.hull q1 ++ ByteArray.mk #[10]))), (4, some (vi 0))] [(0, some (AObj.cells [vi (StateD.now s), vs (Design6.hull q1), tree 3 (List.length (Design6.nodes q1)) (encL (Design6.nodes q1)), tree 18 (List.length (Design6.parts q1)) (encL (Design6.parts q1)), tree 6 (List.length (Design6.seams q1)) (encL (Design6.seams q1)), tree 5 (List.length (Design6.packs q1)) (encL (Design6.packs q1)), tree 3 (List.length (Design6.needs q1)) (encL (Design6.needs q1)), tree 1 (List.length (StateD.orders s)) (encL (StateD.orders s)), tree 6 (List.length (Stock2.sheets q2)) (encL (Stock2.sheets q2)), tree 5 (List.length (Stock2.bars q2)) (encL (Stock2.bars q2)), tree 6 (List.length (StateD.pieces s)) (encL (StateD.pieces s)), tree 6 (List.length (StateD.scrap s)) (encL (StateD.scrap s)), tree 8 (List.length (StateD.welds s)) (encL (StateD.welds s)), tree 1 (List.length (StateD.done s)) (encL (StateD.done s)), tree 8 (List.length (StateD.weighs s)) (encL (StateD.weighs s)), tree 3 (List.length (StateD.raised s)) (encL (StateD.raised s)), tree 4 (List.length (StateD.permits s)) (encL (StateD.permits s)), tree 3 (List.length (StateD.tests s)) (encL (StateD.tests s)), vi (StateD.launched s), vi (StateD.delivered s)] true))] 1)))) := by kernel_rfl
theorem l_rwel (s : StateD) (S : ByteArray) (k : Int) (H : HT) (Post : PV) : vcLP Tryz.prog vcRm 10 [stateDV s] [(3, [1, 3, 4]), (14, [1, 3, 4, 6, 8])] 3 (stV [(1, some (.pointer (some ⟨0, 0, none⟩))), (3, some (.string S)), (4, some (.int .i64 k))] [(0, some (.cells (stateDC s) true))] 1) H Post = (let q22 := StateD.tests s; let q21 := StateD.welds s; let q20 := StateD.scrap s; let q5 := StateD.stock s; let q19 := Stock2.bars q5; let q4 := StateD.design s; let q3 := Design6.seams q4; let q18 := toI (cellAt (encL q3) (Int.toNat k) 5); let q17 := List.length q3; let q16 := StateD.raised s; let q15 := StateD.weighs s; let q14 := StateD.pieces s; let q13 := StateD.orders s; let q12 := StateD.permits s; let q11 := Stock2.sheets q5; let q10 := Design6.needs q4; let q9 := Design6.packs q4; let q8 := Design6.parts q4; let q7 := Design6.nodes q4; let q6 := (4, some (vi (IntKind.wrap IntKind.i64 (k + 1)))); let q2 := cellAt (encL q3) (Int.toNat k) 0; let q1 := (0, some (AObj.cells [vi (StateD.now s), vs (Design6.hull q4), tree 3 (List.length q7) (encL q7), tree 18 (List.length q8) (encL q8), tree 6 q17 (encL q3), tree 5 (List.length q9) (encL q9), tree 3 (List.length q10) (encL q10), tree 1 (List.length q13) (encL q13), tree 6 (List.length q11) (encL q11), tree 5 (List.length q19) (encL q19), tree 6 (List.length q14) (encL q14), tree 6 (List.length q20) (encL q20), tree 8 (List.length q21) (encL q21), tree 1 (List.length (StateD.done s)) (encL (StateD.done s)), tree 8 (List.length q15) (encL q15), tree 3 (List.length q16) (encL q16), tree 4 (List.length q12) (encL q12), tree 3 (List.length q22) (encL q22), vi (StateD.launched s), vi (StateD.delivered s)] true)); T4 (T2 (pIf (decide (k < (↑q17 : Int))) (T4 ((0 ≤ k ∧ k < (↑q17 : Int)) ∧ (cellAt (encL q3) (Int.toNat k) 0 = vs (toS q2) ∧ cellAt (encL q3) (Int.toNat k) 1 = vs (toS (cellAt (encL q3) (Int.toNat k) 1)) ∧ cellAt (encL q3) (Int.toNat k) 2 = vs (toS (cellAt (encL q3) (Int.toNat k) 2)) ∧ cellAt (encL q3) (Int.toNat k) 3 = vi (toI (cellAt (encL q3) (Int.toNat k) 3)) ∧ cellAt (encL q3) (Int.toNat k) 4 = vi (toI (cellAt (encL q3) (Int.toNat k) 4)) ∧ cellAt (encL q3) (Int.toNat k) 5 = vi q18 ∧ True) ∧ True ∧ 6 ≤ 6 ∧ T2 (True ∧ S.size + ByteArray.size (toS q2) ≤ 9223372036854775807 ∧ ByteArray.size (S ++ toS q2) + 7 ≤ 9223372036854775807 ∧ T2 (∃ (n : Int), eqL [vi q18] [vi n] ∧ (-9223372036854775808 ≤ n ∧ n < 9223372036854775808) ∧ True ∧ ByteArray.size (S ++ toS q2 ++ ByteArray.mk #[32, 99, 108, 97, 115, 115, 32]) + ByteArray.size (decB n) ≤ 9223372036854775807 ∧ T4 (∃ (s_1 : StateD), ∃ (id : ByteArray), eqL [Value.agg #[vi (StateD.now s), vs (Design6.hull q4), tree 3 (List.length q7) (encL q7), tree 18 (List.length q8) (encL q8), tree 6 q17 (encL q3), tree 5 (List.length q9) (encL q9), tree 3 (List.length q10) (encL q10), tree 1 (List.length q13) (encL q13), tree 6 (List.length q11) (encL q11), tree 5 (List.length q19) (encL q19), tree 6 (List.length q14) (encL q14), tree 6 (List.length q20) (encL q20), tree 8 (List.length q21) (encL q21), tree 1 (List.length (StateD.done s)) (encL (StateD.done s)), tree 8 (List.length q15) (encL q15), tree 3 (List.length q16) (encL q16), tree 4 (List.length q12) (encL q12), tree 3 (List.length q22) (encL q22), vi (StateD.launched s), vi (StateD.delivered s)], vs (toS q2)] [stateDV s_1, vs id] ∧ List.length (StateD.welds s_1) ≤ 1048576 ∧ (∀ (x : Weld8), x ∈ StateD.welds s_1 → List.length (Weld8.passed x) ≤ 1048576) ∧ (∀ (x : Weld8), weldAt s_1 id = some x → T4 (8 ≤ 8 ∧ T4 (T2 (pIf (decide (Weld8.state x = 1)) (True ∧ ByteArray.size (S ++ toS q2 ++ ByteArray.mk #[32, 99, 108, 97, 115, 115, 32] ++ decB n) + 5 ≤ 9223372036854775807 ∧ T2 (ByteArray.size (S ++ toS q2 ++ ByteArray.mk #[32, 99, 108, 97, 115, 115, 32] ++ decB n ++ ByteArray.mk #[32, 111, 112, 101, 110]) + 1 ≤ 9223372036854775807 ∧ T4 (True ∧ (True ∧ True) ∧ H (lpC Tryz.prog 10 3) (lpK Tryz.prog 10 3) (stV [(1, some (pt 0)), (3, some (vs (S ++ toS q2 ++ ByteArray.mk #[32, 99, 108, 97, 115, 115, 32] ++ decB n ++ ByteArray.mk #[32, 111, 112, 101, 110] ++ ByteArray.mk #[10]))), q6] [q1] 1)))) (True ∧ ByteArray.size (S ++ toS q2 ++ ByteArray.mk #[32, 99, 108, 97, 115, 115, 32] ++ decB n) + 1 ≤ 9223372036854775807 ∧ T8 (T2 (∃ (n_1 : Int), eqL [vi (Weld8.state x)] [vi n_1] ∧ True ∧ ByteArray.size (S ++ toS q2 ++ ByteArray.mk #[32, 99, 108, 97, 115, 115, 32] ++ decB n ++ ByteArray.mk #[32]) + ByteArray.size (howW n_1) ≤ 9223372036854775807 ∧ ByteArray.size (S ++ toS q2 ++ ByteArray.mk #[32, 99, 108, 97, 115, 115, 32] ++ decB n ++ ByteArray.mk #[32] ++ howW n_1) + 4 ≤ 9223372036854775807 ∧ ByteArray.size (S ++ toS q2 ++ ByteArray.mk #[32, 99, 108, 97, 115, 115, 32] ++ decB n ++ ByteArray.mk #[32] ++ howW n_1 ++ ByteArray.mk #[32, 98, 121, 32]) + ByteArray.size (Weld8.by_ x) ≤ 9223372036854775807 ∧ ByteArray.size (S ++ toS q2 ++ ByteArray.mk #[32, 99, 108, 97, 115, 115, 32] ++ decB n ++ ByteArray.mk #[32] ++ howW n_1 ++ ByteArray.mk #[32, 98, 121, 32] ++ Weld8.by_ x) + 6 ≤ 9223372036854775807 ∧ ByteArray.size (S ++ toS q2 ++ ByteArray.mk #[32, 99, 108, 97, 115, 115, 32] ++ decB n ++ ByteArray.mk #[32] ++ howW n_1 ++ ByteArray.mk #[32, 98, 121, 32] ++ Weld8.by_ x ++ ByteArray.mk #[32, 119, 105, 116, 104, 32]) + ByteArray.size (Weld8.proc x) ≤ 9223372036854775807 ∧ ByteArray.size (S ++ toS q2 ++ ByteArray.mk #[32, 99, 108, 97, 115, 115, 32] ++ decB n ++ ByteArray.mk #[32] ++ howW n_1 ++ ByteArray.mk #[32, 98, 121, 32] ++ Weld8.by_ x ++ ByteArray.mk #[32, 119, 105, 116, 104, 32] ++ Weld8.proc x) + 4 ≤ 9223372036854775807 ∧ ∃ (n_2 : Int), eqL [vi (Weld8.at_ x)] [vi n_2] ∧ (-9223372036854775808 ≤ n_2 ∧ n_2 < 9223372036854775808) ∧ True ∧ ByteArray.size (S ++ toS q2 ++ ByteArray.mk #[32, 99, 108, 97, 115, 115, 32] ++ decB n ++ ByteArray.mk #[32] ++ howW n_1 ++ ByteArray.mk #[32, 98, 121, 32] ++ Weld8.by_ x ++ ByteArray.mk #[32, 119, 105, 116, 104, 32] ++ Weld8.proc x ++ ByteArray.mk #[32, 97, 116, 32]) + ByteArray.size (decB n_2) ≤ 9223372036854775807 ∧ ByteArray.size (S ++ toS q2 ++ ByteArray.mk #[32, 99, 108, 97, 115, 115, 32] ++ decB n ++ ByteArray.mk #[32] ++ howW n_1 ++ ByteArray.mk #[32, 98, 121, 32] ++ Weld8.by_ x ++ ByteArray.mk #[32, 119, 105, 116, 104, 32] ++ Weld8.proc x ++ ByteArray.mk #[32, 97, 116, 32] ++ decB n_2) + 9 ≤ 9223372036854775807 ∧ ∃ (n_3 : Int), eqL [vi (Weld8.repairs x)] [vi n_3] ∧ (-9223372036854775808 ≤ n_3 ∧ n_3 < 9223372036854775808) ∧ True ∧ ByteArray.size (S ++ toS q2 ++ ByteArray.mk #[32, 99, 108, 97, 115, 115, 32] ++ decB n ++ ByteArray.mk #[32] ++ howW n_1 ++ ByteArray.mk #[32, 98, 121, 32] ++ Weld8.by_ x ++ ByteArray.mk #[32, 119, 105, 116, 104, 32] ++ Weld8.proc x ++ ByteArray.mk #[32, 97, 116, 32] ++ decB n_2 ++ ByteArray.mk #[32, 114, 101, 112, 97, 105, 114, 115, 32]) + ByteArray.size (decB n_3) ≤ 9223372036854775807 ∧ ByteArray.size (S ++ toS q2 ++ ByteArray.mk #[32, 99, 108, 97, 115, 115, 32] ++ decB n ++ ByteArray.mk #[32] ++ howW n_1 ++ ByteArray.mk #[32, 98, 121, 32] ++ Weld8.by_ x ++ ByteArray.mk #[32, 119, 105, 116, 104, 32] ++ Weld8.proc x ++ ByteArray.mk #[32, 97, 116, 32] ++ decB n_2 ++ ByteArray.mk #[32, 114, 101, 112, 97, 105, 114, 115, 32] ++ decB n_3) + 7 ≤ 9223372036854775807 ∧ T2 (True ∧ (T2 (True)) ∧ H (lpC Tryz.prog 10 14) (lpK Tryz.prog 10 14) (stV [(1, some (pt 0)), (3, some (vs (S ++ toS q2 ++ ByteArray.mk #[32, 99, 108, 97, 115, 115, 32] ++ decB n ++ ByteArray.mk #[32] ++ howW n_1 ++ ByteArray.mk #[32, 98, 121, 32] ++ Weld8.by_ x ++ ByteArray.mk #[32, 119, 105, 116, 104, 32] ++ Weld8.proc x ++ ByteArray.mk #[32, 97, 116, 32] ++ decB n_2 ++ ByteArray.mk #[32, 114, 101, 112, 97, 105, 114, 115, 32] ++ decB n_3 ++ ByteArray.mk #[32, 112, 97, 115, 115, 101, 100]))), (4, some (vi k)), (6, some (pt 1)), (8, some (vi 0))] [q1, (1, some (AObj.cells [vs (Weld8.seam x), vi (Weld8.state x), vi (Weld8.cls x), vs (Weld8.proc x), vs (Weld8.by_ x), vi (Weld8.at_ x), vi (Weld8.repairs x), tree 1 (List.length (Weld8.passed x)) (encL (Weld8.passed x))] true))] 2))))))))) ∧ (weldAt s_1 id = none → T4 (8 ≤ 8 ∧ T4 (ByteArray.size (S ++ toS q2 ++ ByteArray.mk #[32, 99, 108, 97, 115, 115, 32] ++ decB n) + 5 ≤ 9223372036854775807 ∧ T2 (ByteArray.size (S ++ toS q2 ++ ByteArray.mk #[32, 99, 108, 97, 115, 115, 32] ++ decB n ++ ByteArray.mk #[32, 110, 111, 110, 101]) + 1 ≤ 9223372036854775807 ∧ T4 (True ∧ (True ∧ True) ∧ H (lpC Tryz.prog 10 3) (lpK Tryz.prog 10 3) (stV [(1, some (pt 0)), (3, some (vs (S ++ toS q2 ++ ByteArray.mk #[32, 99, 108, 97, 115, 115, 32] ++ decB n ++ ByteArray.mk #[32, 110, 111, 110, 101] ++ ByteArray.mk #[10]))), q6] [q1] 1))))))))))) (T2 (True ∧ Post (vs S)))))) := by kernel_rfl
theorem l_rwelp (s : StateD) (S : ByteArray) (k : Int) (w : Weld8) (j : Int) (H : HT) (Post : PV) : vcLP Tryz.prog vcRm 10 [stateDV s] [(3, [1, 3, 4]), (14, [1, 3, 4, 6, 8])] 14 (stV [(1, some (.pointer (some ⟨0, 0, none⟩))), (3, some (.string S)), (4, some (.int .i64 k)), (6, some (.pointer (some ⟨1, 0, none⟩))), (8, some (.int .i64 j))] [(0, some (.cells (stateDC s) true)), (1, some (.cells (weld8C w) true))] 2) H Post = (let q5 := StateD.stock s; let q3 := Weld8.passed w; let q4 := toI (cellAt (encL q3) (Int.toNat j) 0); let q2 := StateD.design s; let q1 := (0, some (AObj.cells [vi (StateD.now s), vs (Design6.hull q2), tree 3 (List.length (Design6.nodes q2)) (encL (Design6.nodes q2)), tree 18 (List.length (Design6.parts q2)) (encL (Design6.parts q2)), tree 6 (List.length (Design6.seams q2)) (encL (Design6.seams q2)), tree 5 (List.length (Design6.packs q2)) (encL (Design6.packs q2)), tree 3 (List.length (Design6.needs q2)) (encL (Design6.needs q2)), tree 1 (List.length (StateD.orders s)) (encL (StateD.orders s)), tree 6 (List.length (Stock2.sheets q5)) (encL (Stock2.sheets q5)), tree 5 (List.length (Stock2.bars q5)) (encL (Stock2.bars q5)), tree 6 (List.length (StateD.pieces s)) (encL (StateD.pieces s)), tree 6 (List.length (StateD.scrap s)) (encL (StateD.scrap s)), tree 8 (List.length (StateD.welds s)) (encL (StateD.welds s)), tree 1 (List.length (StateD.done s)) (encL (StateD.done s)), tree 8 (List.length (StateD.weighs s)) (encL (StateD.weighs s)), tree 3 (List.length (StateD.raised s)) (encL (StateD.raised s)), tree 4 (List.length (StateD.permits s)) (encL (StateD.permits s)), tree 3 (List.length (StateD.tests s)) (encL (StateD.tests s)), vi (StateD.launched s), vi (StateD.delivered s)] true)); T4 (True ∧ pIf (decide (j < (↑(List.length q3) : Int))) (True ∧ S.size + 1 ≤ 9223372036854775807 ∧ T2 (True ∧ (0 ≤ j ∧ j < (↑(List.length q3) : Int)) ∧ cellAt (encL q3) (Int.toNat j) 0 = vi q4 ∧ ∃ (n : Int), eqL [vi q4] [vi n] ∧ (-9223372036854775808 ≤ n ∧ n < 9223372036854775808) ∧ ByteArray.size (S ++ ByteArray.mk #[32]) + ByteArray.size (decB n) ≤ 9223372036854775807 ∧ T4 (True ∧ (T2 (True)) ∧ H (lpC Tryz.prog 10 14) (lpK Tryz.prog 10 14) (stV [(1, some (pt 0)), (3, some (vs (S ++ ByteArray.mk #[32] ++ decB n))), (4, some (vi k)), (6, some (pt 1)), (8, some (vi (IntKind.wrap IntKind.i64 (j + 1))))] [q1, (1, some (AObj.cells [vs (Weld8.seam w), vi (Weld8.state w), vi (Weld8.cls w), vs (Weld8.proc w), vs (Weld8.by_ w), vi (Weld8.at_ w), vi (Weld8.repairs w), tree 1 (List.length q3) (encL q3)] true))] 2)))) (True ∧ S.size + 1 ≤ 9223372036854775807 ∧ T4 (True ∧ (True ∧ True) ∧ H (lpC Tryz.prog 10 3) (lpK Tryz.prog 10 3) (stV [(1, some (pt 0)), (3, some (vs (S ++ ByteArray.mk #[10]))), (4, some (vi (IntKind.wrap IntKind.i64 (k + 1))))] [q1] 1))))) := by kernel_rfl
theorem cell_PartY {l : List Part} {i : Nat} (h : i < l.length) : cellAt (encL l) i 0 = .string l[i].id ∧ cellAt (encL l) i 1 = .int .i64 l[i].rev ∧ cellAt (encL l) i 2 = .int .i64 l[i].kind ∧ cellAt (encL l) i 3 = .string l[i].node ∧ cellAt (encL l) i 4 = .string l[i].grade ∧ cellAt (encL l) i 5 = .int .i64 l[i].thick ∧ cellAt (encL l) i 6 = tree 2 l[i].outer.length (encL l[i].outer) ∧ cellAt (encL l) i 7 = tree 1 l[i].holes.length (encL l[i].holes) ∧ cellAt (encL l) i 8 = .string l[i].sect ∧ cellAt (encL l) i 9 = .int .i64 l[i].long ∧ cellAt (encL l) i 10 = .int .i64 l[i].mass ∧ cellAt (encL l) i 11 = .int .i64 l[i].centre.x ∧ cellAt (encL l) i 12 = .int .i64 l[i].centre.y ∧ cellAt (encL l) i 13 = .int .i64 l[i].centre.z ∧ cellAt (encL l) i 14 = .int .i64 l[i].at_.x ∧ cellAt (encL l) i 15 = .int .i64 l[i].at_.y ∧ cellAt (encL l) i 16 = .int .i64 l[i].at_.z ∧ cellAt (encL l) i 17 = .int .i64 l[i].turn := by
 rw [cellAt_encL' h, cellAt_encL' h, cellAt_encL' h, cellAt_encL' h, cellAt_encL' h, cellAt_encL' h, cellAt_encL' h, cellAt_encL' h, cellAt_encL' h, cellAt_encL' h, cellAt_encL' h, cellAt_encL' h, cellAt_encL' h, cellAt_encL' h, cellAt_encL' h, cellAt_encL' h, cellAt_encL' h, cellAt_encL' h]
 exact ⟨rfl, rfl, rfl, rfl, rfl, rfl, rfl, rfl, rfl, rfl, rfl, rfl, rfl, rfl, rfl, rfl, rfl, rfl⟩
theorem nY1 : (2 ≤ 140737488355328) = True := eq_true (by decide)
theorem nY2 : (4 ≤ 140737488355328) = True := eq_true (by decide)
theorem nY3 : (8 ≤ 140737488355328) = True := eq_true (by decide)
theorem nY4 : (4 ≤ 33554432) = True := eq_true (by decide)
theorem nY5 : (8 ≤ 33554432) = True := eq_true (by decide)
theorem nY6 : (5 ≤ 33554432) = True := eq_true (by decide)
theorem nlsY {l : List Value} (h : l.all nl1 = true) : NLs l := fun v hv => List.all_eq_true.1 h v hv
abbrev nlY : ByteArray := ⟨#[10]⟩
theorem baseM_ok (hr : EntOk Tryz.prog ⟨22, c_text⟩) : PCallOk Tryz.prog baseM := ofV_ok (tabCallF_ok (by
 intro e he
 simp only [List.mem_cons, List.not_mem_nil, or_false] at he
 rcases he with rfl | rfl | rfl | rfl | rfl
 ·exact ok_joinV
 ·exact hr
 ·exact ok_piece
 ·exact ok_weld
 ·exact ok_shown) noCall_ok)
theorem callM_ok : PCallOk Tryz.prog callM := inlP_ok mixed (baseM_ok ok_text) 6
theorem mkM_ok (W0 : Base) (c kb : Nat) : GCallOk Tryz.prog (HidO W0 c) kb (c, 0, 2) (mkM kb) := mkW_ok mixed (baseM_ok ok_text) W0 c kb
def c_mat (args : List Value) (Post : Value → Prop) : Prop := ∃ s : StateD, args = [stateDV s] ∧ FitS s ∧ Post (.string (matB s s.design.parts.length))
abbrev stM (s : StateD) (k : Nat) : AS := stV [(1, some (.pointer (some ⟨0, 0, none⟩))), (3, some (.pointer (some ⟨1, 0, none⟩))), (17, some (tree 18 s.design.parts.length (encL s.design.parts))), (18, some (.int .i64 s.design.parts.length)), (19, some (.int .i64 (k : Nat)))] [(0, some (.cells (stateDC s) true)), (1, some (.cells [] false))] 2
theorem ok_mat : EntOk Tryz.prog ⟨7, c_mat⟩ := by
 rintro args Post ⟨s, rfl, hf, h⟩
 refine B.pure_of_X (B.spec_Wl callM_ok mkM_ok mixed (by kernel_rfl) _ (by decide) (e_mat s _ _) ?_)
 have e0 : ByteArray.empty ++ (joinB [⟨#[77, 65, 84, 69, 82, 73, 65, 76, 83]⟩, s.design.hull] ⟨#[32]⟩ ++ ⟨#[10]⟩) = matB s 0 := by
  apply ba_eq
  unfold matB
  rw [List.take_zero, List.foldl_nil]
  simp [joinB_toList, ba_app]
 have z0 := congrArg ByteArray.size e0
 have z1 := matB_size hf 0
 simp only [ByteArray.size_append] at z0
 have z2 : ByteArray.empty.size = 0 := rfl
 have z3 : (⟨#[10]⟩ : ByteArray).size = 1 := rfl
 simp only [true_and, and_true, Nat.le_refl, List.map_cons, List.map_nil, toS_string, nY1, nY2, nY3, nY4, nY5, nY6, eq_self]
 refine ⟨nlsY rfl, by omega, by omega, by rw [ByteArray.size_append]; omega, ?_⟩
 rw [e0]
 refine down (n := s.design.parts.length) (p := fun k => B.OkWl 7 [stateDV s] [true, true] (B.retV Post) (lpC Tryz.prog 7 4) (lpK Tryz.prog 7 4) (stM s k) (some (matB s k))) ?_ (fun k h1 ih => ?_)
 ·refine B.ok_Wl mkM_ok mixed _ (by decide) (l_mat s _ _ _ _ _ _) ?_
  simp only [true_and, and_true]
  exact ifC (fun h' => by omega) (fun _ => ⟨matB_pos s _, h⟩)
 ·refine B.ok_Wl mkM_ok mixed _ (by decide) (l_mat s _ _ _ _ _ _) ?_
  have hk : ((k : Nat) : Int).toNat = k := Int.toNat_natCast k
  have hl := hf.parts.1
  obtain ⟨hid, hin⟩ := hf.parts.2 _ (List.getElem_mem h1)
  have key : ∀ J : ByteArray, matB s k ++ (J ++ nlY) = matB s (k + 1) → J.size ≤ 140737488355328 ∧ J.size + 1 ≤ 9223372036854775807 ∧ (matB s k).size + (J ++ nlY).size ≤ 140737488355328 ∧ B.OkWl 7 [stateDV s] [true, true] (B.retV Post) (lpC Tryz.prog 7 4) (lpK Tryz.prog 7 4) (stM s (k + 1)) (some (matB s k ++ (J ++ nlY))) := fun J e => by
   have y0 := congrArg ByteArray.size e
   have y1 := matB_size hf (k + 1)
   simp only [ByteArray.size_append] at y0
   exact ⟨by omega, by omega, by rw [ByteArray.size_append]; omega, by rw [e]; exact ih⟩
  obtain ⟨c0, c1, c2, c3, c4, c5, c6, c7, c8, c9, c10, c11, c12, c13, c14, c15, c16, c17⟩ := cell_PartY h1
  simp only [true_and, and_true, Nat.le_refl, nY1, nY2, nY3, nY4, nY5, nY6, eq_self, hk, c0, c1, c2, c3, c4, c5, c6, c7, c8, c9, c10, c11, c12, c13, c14, c15, c16, c17, toI_int, toS_string, toN_tree, toE_tree, wrapSucc (show k < 2 ^ 62 by omega), List.map_cons, List.map_nil]
  refine ifC (fun _ => ⟨⟨by omega, by omega⟩, s.design.parts[k].rev, rfl, hin, s, s.design.parts[k].id, rfl, hf.pieces.1, fun x hx => ?_, fun hn => ?_⟩) (fun h' => by omega)
  ·refine ifC (fun e1 => ⟨x.from_, rfl, x.heat, rfl, nlsY rfl, key _ ?_⟩) fun e1 => ifC (fun e2 => ⟨x.from_, rfl, x.heat, rfl, nlsY rfl, key _ ?_⟩) fun e2 => ⟨x.from_, rfl, x.heat, rfl, nlsY rfl, key _ ?_⟩
   all_goals
    rw [matB_next h1]
    unfold matL
    rw [hx]
    apply ba_eq
    simp [joinB_toList, ba_app, howP, *]
  ·refine ⟨nlsY rfl, key _ ?_⟩
   rw [matB_next h1]
   unfold matL
   rw [hn]
   apply ba_eq
   simp [joinB_toList, ba_app]
theorem vcRm_ok (ht : EntOk Tryz.prog ⟨26, c_text⟩) : VCallOk Tryz.prog vcRm := tabCall_ok (by
 intro e he
 simp only [List.mem_cons, List.not_mem_nil, or_false] at he
 rcases he with rfl | rfl | rfl | rfl | rfl
 ·exact ht
 ·exact ok_rpiece
 ·exact ok_rweld
 ·exact ok_dash
 ·exact ok_stOf) noCall_ok
abbrev stMr (s : StateD) (S : ByteArray) (k : Nat) : AS := stV [(1, some (.pointer (some ⟨0, 0, none⟩))), (3, some (.string S)), (4, some (.int .i64 (k : Nat)))] [(0, some (.cells (stateDC s) true))] 1
theorem ok_rmat (ht : EntOk Tryz.prog ⟨26, c_text⟩) : EntOk Tryz.prog ⟨8, c_mat⟩ := by
 rintro args Post ⟨s, rfl, hf, h⟩
 refine pure_P (vcRm_ok ht) mixed (by kernel_rfl) (by kernel_rfl) _ (e_rmat s _ _) ?_
 have hh := hf.hull
 have e0 : (⟨#[77, 65, 84, 69, 82, 73, 65, 76, 83, 32]⟩ : ByteArray) ++ s.design.hull ++ nlY = matB s 0 := ba_assoc _ _ _
 have z0 : (⟨#[77, 65, 84, 69, 82, 73, 65, 76, 83, 32]⟩ : ByteArray).size = 10 := rfl
 simp only [true_and, and_true]
 refine ⟨by omega, by rw [ByteArray.size_append]; omega, ?_⟩
 rw [e0]
 refine down (n := s.design.parts.length) (p := fun k => OkP 8 [stateDV s] 3 Post (stMr s (matB s k) k)) ?_ (fun k h1 ih => ?_)
 ·refine ok_P (vcRm_ok ht) mixed _ (l_rmat s _ _ _ _) ?_
  simp only [true_and, and_true]
  exact ifC (fun h' => by omega) (fun _ => h)
 ·refine ok_P (vcRm_ok ht) mixed _ (l_rmat s _ _ _ _) ?_
  have hk : ((k : Nat) : Int).toNat = k := Int.toNat_natCast k
  have hl := hf.parts.1
  obtain ⟨hid, hin⟩ := hf.parts.2 _ (List.getElem_mem h1)
  have hS := matB_size hf k
  have hd := decB_size hin
  have ih' : ∀ T : ByteArray, T = matB s (k + 1) → OkP 8 [stateDV s] 3 Post (stMr s T (k + 1)) := fun T e => by rw [e]; exact ih
  obtain ⟨c0, c1, c2, c3, c4, c5, c6, c7, c8, c9, c10, c11, c12, c13, c14, c15, c16, c17⟩ := cell_PartY h1
  have w5 : (⟨#[32, 114, 101, 118, 32]⟩ : ByteArray).size = 5 := rfl
  have w6 : (⟨#[32, 102, 114, 111, 109, 32]⟩ : ByteArray).size = 6 := rfl
  have w7 : (⟨#[32, 104, 101, 97, 116, 32]⟩ : ByteArray).size = 6 := rfl
  have w8 : (⟨#[32]⟩ : ByteArray).size = 1 := rfl
  have w9 : (⟨#[99, 117, 116]⟩ : ByteArray).size = 3 := rfl
  have wa : (⟨#[102, 105, 116, 116, 101, 100]⟩ : ByteArray).size = 6 := rfl
  have wb : (⟨#[117, 110, 107, 110, 111, 119, 110]⟩ : ByteArray).size = 7 := rfl
  simp only [true_and, and_true, Nat.le_refl, nY1, nY2, nY3, nY4, nY5, nY6, eq_self, hk, c0, c1, c2, c3, c4, c5, c6, c7, c8, c9, c10, c11, c12, c13, c14, c15, c16, c17, toI_int, toS_string, toN_tree, toE_tree, wrapSucc (show k < 2 ^ 62 by omega), ByteArray.size_append, w5, w6, w7, w8, w9, wa, wb]
  refine ifC (fun _ => ⟨⟨by omega, by omega⟩, by omega, by omega, s.design.parts[k].rev, rfl, hin, by omega, s, s.design.parts[k].id, rfl, hf.pieces.1, fun x hx => ?_, fun hn => ?_⟩) (fun h' => by omega)
  ·obtain ⟨g1, g2⟩ := hf.pieces.2 x (pieceAt_mem hx)
   have g3 := shownB_size x.from_
   have g4 := shownB_size x.heat
   refine ifC (fun e1 => ifC (fun e2 => by omega) fun e2 => ⟨by omega, x.from_, rfl, by omega, by omega, x.heat, rfl, ?_⟩) fun e1 => ifC (fun e2 => ⟨by omega, x.from_, rfl, by omega, by omega, x.heat, rfl, ?_⟩) fun e2 => ⟨by omega, x.from_, rfl, by omega, by omega, x.heat, rfl, ?_⟩
   all_goals
    and_intros
    all_goals first
    | omega
    | (refine ih' _ ?_; rw [matB_next h1]; unfold matL; rw [hx]; apply ba_eq; simp [ba_app, howP, *])
  ·and_intros
   all_goals first
   | omega
   | (refine ih' _ ?_; rw [matB_next h1]; unfold matL; rw [hn]; apply ba_eq; simp [ba_app])
theorem cell_SeamY {l : List Seam6} {i : Nat} (h : i < l.length) : cellAt (encL l) i 0 = .string l[i].id ∧ cellAt (encL l) i 1 = .string l[i].a ∧ cellAt (encL l) i 2 = .string l[i].b ∧ cellAt (encL l) i 3 = .int .i64 l[i].kind ∧ cellAt (encL l) i 4 = .int .i64 l[i].long ∧ cellAt (encL l) i 5 = .int .i64 l[i].cls := by
 rw [cellAt_encL' h, cellAt_encL' h, cellAt_encL' h, cellAt_encL' h, cellAt_encL' h, cellAt_encL' h]
 exact ⟨rfl, rfl, rfl, rfl, rfl, rfl⟩
theorem cell_intY {l : List Int} {i : Nat} (h : i < l.length) : cellAt (encL l) i 0 = .int .i64 l[i] := by
 rw [cellAt_encL' h]
 rfl
abbrev lstW : List (Int × ByteArray) := [(2, ⟨#[119, 101, 108, 100, 101, 100]⟩), (3, ⟨#[102, 97, 105, 108, 101, 100]⟩), (4, ⟨#[97, 99, 99, 101, 112, 116, 101, 100]⟩), (5, ⟨#[114, 101, 106, 101, 99, 116, 101, 100]⟩)]
theorem look_yes {n : Int} (h : lookB n lstW = true) : lookS ⟨#[]⟩ n lstW = howW n := by
 unfold howW
 by_cases h2 : n = 2
 ·subst h2; rfl
 by_cases h3 : n = 3
 ·subst h3; rfl
 by_cases h4 : n = 4
 ·subst h4; rfl
 by_cases h5 : n = 5
 ·subst h5; rfl
 simp [lookB, h2, h3, h4, h5] at h
theorem look_no {n : Int} (h : lookB n lstW = false) : ⟨#[117, 110, 107, 110, 111, 119, 110]⟩ = howW n := by
 unfold howW
 by_cases h2 : n = 2
 ·subst h2; cases h
 by_cases h3 : n = 3
 ·subst h3; cases h
 by_cases h4 : n = 4
 ·subst h4; cases h
 by_cases h5 : n = 5
 ·subst h5; cases h
 rw [if_neg h2, if_neg h3, if_neg h4, if_neg h5]
theorem nY7 : (13 ≤ 33554432) = True := eq_true (by decide)
theorem hmapW : ∀ e ∈ mapW, nl1 e.2.1 = true := by
 intro e he
 simp only [List.mem_cons, List.not_mem_nil, or_false] at he
 rcases he with rfl | rfl | rfl | rfl <;> rfl
def WLi (m : Seam6) (how : ByteArray) (w : Weld8) : List ByteArray := [m.id, ⟨#[99, 108, 97, 115, 115]⟩, decB m.cls, how, ⟨#[98, 121]⟩, w.by_, ⟨#[119, 105, 116, 104]⟩, w.proc, ⟨#[97, 116]⟩, decB w.at_, ⟨#[114, 101, 112, 97, 105, 114, 115]⟩, decB w.repairs, ⟨#[112, 97, 115, 115, 101, 100]⟩]
def lj (m : Seam6) (how : ByteArray) (w : Weld8) (j : Nat) : List ByteArray := WLi m how w ++ (w.passed.map decB).take j
theorem lj_len {m : Seam6} {how : ByteArray} {w : Weld8} {j : Nat} (h : j ≤ w.passed.length) : (lj m how w j).length = 13 + j := by
 unfold lj
 rw [List.length_append, List.length_take, List.length_map]
 show 13 + _ = _
 omega
theorem lj_next {m : Seam6} {how : ByteArray} {w : Weld8} {j : Nat} (h : j < w.passed.length) : lj m how w (j + 1) = lj m how w j ++ [decB w.passed[j]] := by
 unfold lj
 rw [List.take_add_one, List.getElem?_map, List.getElem?_eq_getElem h, List.append_assoc]
 rfl
theorem passH_words (m : Seam6) (w : Weld8) : joinB (WLi m (howW w.state) w) ⟨#[32]⟩ = passH m w := by
 apply ba_eq
 unfold WLi passH seamH
 simp [joinB_toList, ba_app]
theorem lj_join (m : Seam6) (w : Weld8) (j : Nat) : joinB (lj m (howW w.state) w j) ⟨#[32]⟩ = tailB spB (passH m w) ((w.passed.map decB).take j) := by
 rw [← passH_words]
 exact joinB_tail _ _ _ _
theorem tailB_snoc (s t x : ByteArray) (l : List ByteArray) : tailB s t (l ++ [x]) = tailB s t l ++ (s ++ x) := by
 unfold tailB
 rw [List.foldl_append]
 rfl
theorem chunksY {l : List ByteArray} {q : Nat} (h : q = l.length) : chunks 1 q (List.drop 0 (SY l)) = (SY l).toArray := by
 subst h
 show ((List.drop 0 (SY l)).take l.length).toArray = _
 rw [List.drop_zero, List.take_of_length_le (by rw [SY_len]; exact Nat.le_refl _)]
theorem SY_strs (l : List ByteArray) : (SY l).all isStr = true := by
 rw [List.all_eq_true]
 intro v hv
 obtain ⟨a, _, rfl⟩ := List.mem_map.1 hv
 rfl
theorem SY_back (l : List ByteArray) : (SY l).map toS = l := by
 unfold SY
 rw [List.map_map]
 exact (List.map_congr_left fun a _ => rfl).trans (List.map_id _)
def c_wel (args : List Value) (Post : Value → Prop) : Prop := ∃ s : StateD, args = [stateDV s] ∧ FitS s ∧ Post (.string (weldB s s.design.seams.length))
abbrev stW (s : StateD) (k : Nat) : AS := stV [(1, some (.pointer (some ⟨0, 0, none⟩))), (3, some (.pointer (some ⟨1, 0, none⟩))), (4, some (.map (some 2))), (23, some (tree 6 s.design.seams.length (encL s.design.seams))), (24, some (.int .i64 s.design.seams.length)), (25, some (.int .i64 (k : Nat)))] [(0, some (.cells (stateDC s) true)), (1, some (.cells [] false)), (2, some (.map mapW 4))] 3
abbrev stWp (s : StateD) (k : Nat) (w : Weld8) (l : List ByteArray) (q : Nat) (j : Nat) : AS := stV [(1, some (.pointer (some ⟨0, 0, none⟩))), (3, some (.pointer (some ⟨1, 0, none⟩))), (4, some (.map (some 2))), (7, some (.slice (some ⟨3, 0, none⟩) q 1)), (23, some (tree 6 s.design.seams.length (encL s.design.seams))), (24, some (.int .i64 s.design.seams.length)), (25, some (.int .i64 (k : Nat))), (66, some (tree 1 w.passed.length (encL w.passed))), (67, some (.int .i64 w.passed.length)), (68, some (.int .i64 (j : Nat)))] [(0, some (.cells (stateDC s) true)), (1, some (.cells [] false)), (2, some (.map mapW 4)), (3, some (.cells (SY l) true))] 4
abbrev okW (s : StateD) (Post : Value → Prop) (r : Nat) : AS → Option ByteArray → Prop := B.OkWl 9 [stateDV s] [true, true] (B.retV Post) (lpC Tryz.prog 9 r) (lpK Tryz.prog 9 r)
theorem keyW {s : StateD} (hf : FitS s) {Post : Value → Prop} {k : Nat} (ih : okW s Post 5 (stW s (k + 1)) (some (weldB s (k + 1)))) (J : ByteArray) (e : weldB s k ++ (J ++ nlY) = weldB s (k + 1)) :
  J.size ≤ 140737488355328 ∧ J.size + 1 ≤ 9223372036854775807 ∧ (weldB s k).size + (J ++ nlY).size ≤ 140737488355328 ∧ (∀ e ∈ mapW, nl1 e.2.1 = true) ∧ okW s Post 5 (stW s (k + 1)) (some (weldB s k ++ (J ++ nlY))) := by
 have y0 := congrArg ByteArray.size e
 have y1 := weldB_size hf (k + 1)
 simp only [ByteArray.size_append] at y0
 exact ⟨by omega, by omega, by rw [ByteArray.size_append]; omega, hmapW, by rw [e]; exact ih⟩
theorem wel_in {s : StateD} (hf : FitS s) {Post : Value → Prop} {k : Nat} (h1 : k < s.design.seams.length) {w : Weld8} (hw : weldAt s s.design.seams[k].id = some w) (hs : ¬ w.state = 1) (ih : okW s Post 5 (stW s (k + 1)) (some (weldB s (k + 1)))) :
  ∀ j, j ≤ w.passed.length → okW s Post 14 (stWp s k w (lj s.design.seams[k] (howW w.state) w j) (13 + j) j) (some (weldB s k)) := by
 obtain ⟨g1, g2, g3, g4, g5, g6⟩ := hf.welds.2 w (weldAt_mem hw)
 have hl := hf.seams.1
 have text : weldB s k ++ (joinB (lj s.design.seams[k] (howW w.state) w w.passed.length) ⟨#[32]⟩ ++ nlY) = weldB s (k + 1) := by
  rw [weldB_next h1]
  unfold weldL
  rw [hw]
  dsimp only
  rw [if_neg hs, lj_join]
  congr 2
  rw [List.take_of_length_le (by rw [List.length_map]; exact Nat.le_refl _)]
 intro j hj
 induction hn : w.passed.length - j generalizing j with
 | zero =>
  obtain rfl : j = w.passed.length := by omega
  refine B.ok_Wl mkM_ok mixed _ (by decide) (l_welp s _ _ _ _ _ _ _ _ _ _ _) ?_
  have hll := lj_len (m := s.design.seams[k]) (how := howW w.state) (w := w) (j := w.passed.length) (Nat.le_refl _)
  have hc := chunksY hll.symm
  have kW := keyW hf ih _ text
  simp only [true_and, and_true, hc, SY_back, SY_strs, wrapSucc (show k < 2 ^ 62 by omega)]
  refine ifC (fun h' => by omega) (fun _ => ⟨⟨by rw [SY_len]; omega, SY_nls _⟩, ?_, ?_, kW⟩)
  ·rw [show (SY (lj s.design.seams[k] (howW w.state) w w.passed.length)).toArray.size = 13 + w.passed.length by rw [List.size_toArray, SY_len, hll]]
   simp
  ·rw [List.size_toArray, SY_len]
   omega
 | succ n ihn =>
  have hjl : j < w.passed.length := by omega
  have nx := ihn (j + 1) (by omega) (by omega)
  rw [lj_next hjl] at nx
  have hll := lj_len (m := s.design.seams[k]) (how := howW w.state) (w := w) (j := j) (by omega)
  refine B.ok_Wl mkM_ok mixed _ (by decide) (l_welp s _ _ _ _ _ _ _ _ _ _ _) ?_
  have hk : ((j : Nat) : Int).toNat = j := Int.toNat_natCast j
  simp only [true_and, and_true, Nat.le_refl, hk, cell_intY hjl, toI_int, wrapSucc (show j < 2 ^ 62 by omega), SY_add]
  refine ifC (fun _ => ⟨⟨by omega, by omega⟩, w.passed[j], rfl, ?_⟩) (fun h' => by omega)
  exact ⟨g6 _ (List.getElem_mem hjl), by omega, by rw [SY_len]; omega, ⟨hmapW, SY_nls _⟩, nx⟩
theorem ok_wel : EntOk Tryz.prog ⟨9, c_wel⟩ := by
 rintro args Post ⟨s, rfl, hf, h⟩
 refine B.pure_of_X (B.spec_Wl callM_ok mkM_ok mixed (by kernel_rfl) _ (by decide) (e_wel s _ _) ?_)
 have e0 : ByteArray.empty ++ (joinB [⟨#[87, 69, 76, 68, 83]⟩, s.design.hull] ⟨#[32]⟩ ++ ⟨#[10]⟩) = weldB s 0 := by
  apply ba_eq
  unfold weldB
  rw [List.take_zero, List.foldl_nil]
  simp [joinB_toList, ba_app]
 have z0 := congrArg ByteArray.size e0
 have z1 := weldB_size hf 0
 simp only [ByteArray.size_append] at z0
 have z2 : ByteArray.empty.size = 0 := rfl
 have z3 : (⟨#[10]⟩ : ByteArray).size = 1 := rfl
 simp only [true_and, and_true, Nat.le_refl, List.map_cons, List.map_nil, toS_string, nY1, nY2, nY3, nY4, nY5, nY6, eq_self]
 refine ⟨nlsY rfl, by omega, by omega, by rw [ByteArray.size_append]; omega, hmapW, ?_⟩
 rw [e0]
 refine down (n := s.design.seams.length) (p := fun k => okW s Post 5 (stW s k) (some (weldB s k))) ?_ (fun k h1 ih => ?_)
 ·refine B.ok_Wl mkM_ok mixed _ (by decide) (l_wel s _ _ _ _ _ _) ?_
  simp only [true_and, and_true]
  exact ifC (fun h' => by omega) (fun _ => ⟨weldB_pos s _, h⟩)
 ·refine B.ok_Wl mkM_ok mixed _ (by decide) (l_wel s _ _ _ _ _ _) ?_
  have hk : ((k : Nat) : Int).toNat = k := Int.toNat_natCast k
  have hl := hf.seams.1
  obtain ⟨hid, hin⟩ := hf.seams.2 _ (List.getElem_mem h1)
  have key := keyW hf ih
  obtain ⟨c0, c1, c2, c3, c4, c5⟩ := cell_SeamY h1
  simp only [true_and, and_true, Nat.le_refl, nY1, nY2, nY3, nY4, nY5, nY6, nY7, eq_self, hk, c0, c1, c2, c3, c4, c5, toI_int, toS_string, toN_tree, toE_tree, wrapSucc (show k < 2 ^ 62 by omega), List.map_cons, List.map_nil]
  refine ifC (fun _ => ⟨⟨by omega, by omega⟩, s.design.seams[k].cls, rfl, hin, s, s.design.seams[k].id, rfl, hf.welds.1, fun x hx => (hf.welds.2 x hx).2.2.2.2.1, fun x hx => ?_, fun hn => ?_⟩) (fun h' => by omega)
  ·obtain ⟨g1, g2, g3, g4, g5, g6⟩ := hf.welds.2 x (weldAt_mem hx)
   refine ifC (fun e1 => ⟨nlsY rfl, key _ ?_⟩) fun e1 => ?_
   ·rw [weldB_next h1]
    unfold weldL
    rw [hx]
    dsimp only
    rw [if_pos e1]
    unfold seamH
    apply ba_eq
    simp [joinB_toList, ba_app]
   have hin := wel_in hf h1 hx e1 ih 0 (Nat.zero_le _)
   refine pIf_intro (fun hb => ?_) (fun hb => ?_)
   ·rw [look_yes hb]
    exact ⟨x.at_, rfl, g3, x.repairs, rfl, g4, ⟨hmapW, nlsY rfl⟩, hin⟩
   ·rw [look_no hb]
    exact ⟨x.at_, rfl, g3, x.repairs, rfl, g4, ⟨hmapW, nlsY rfl⟩, hin⟩
  ·refine ⟨nlsY rfl, key _ ?_⟩
   rw [weldB_next h1]
   unfold weldL
   rw [hn]
   unfold seamH
   apply ba_eq
   simp [joinB_toList, ba_app]
theorem text_in {s : StateD} {k : Nat} (h1 : k < s.design.seams.length) {w : Weld8} (hw : weldAt s s.design.seams[k].id = some w) (hs : ¬ w.state = 1) : weldB s k ++ tailB spB (passH s.design.seams[k] w) ((w.passed.map decB).take w.passed.length) ++ nlY = weldB s (k + 1) := by
 rw [weldB_next h1]
 unfold weldL
 rw [hw]
 dsimp only
 rw [if_neg hs, List.take_of_length_le (by rw [List.length_map]; exact Nat.le_refl _)]
 exact ba_assoc _ _ _
abbrev stWr (s : StateD) (S : ByteArray) (k : Nat) : AS := stV [(1, some (.pointer (some ⟨0, 0, none⟩))), (3, some (.string S)), (4, some (.int .i64 (k : Nat)))] [(0, some (.cells (stateDC s) true))] 1
abbrev stWrp (s : StateD) (S : ByteArray) (k : Nat) (w : Weld8) (j : Nat) : AS := stV [(1, some (.pointer (some ⟨0, 0, none⟩))), (3, some (.string S)), (4, some (.int .i64 (k : Nat))), (6, some (.pointer (some ⟨1, 0, none⟩))), (8, some (.int .i64 (j : Nat)))] [(0, some (.cells (stateDC s) true)), (1, some (.cells (weld8C w) true))] 2
theorem rwel_in (ht : EntOk Tryz.prog ⟨26, c_text⟩) {s : StateD} (hf : FitS s) {Post : Value → Prop} {k : Nat} (h1 : k < s.design.seams.length) {w : Weld8} (hw : weldAt s s.design.seams[k].id = some w) (hs : ¬ w.state = 1) (ih : OkP 10 [stateDV s] 3 Post (stWr s (weldB s (k + 1)) (k + 1))) :
  ∀ j, j ≤ w.passed.length → OkP 10 [stateDV s] 14 Post (stWrp s (weldB s k ++ tailB spB (passH s.design.seams[k] w) ((w.passed.map decB).take j)) k w j) := by
 have hwm := weldAt_mem hw
 obtain ⟨g1, g2, g3, g4, g5, g6⟩ := hf.welds.2 w hwm
 have hl := hf.seams.1
 have z1 := weldB_size hf k
 have z2 := passH_size hf (List.getElem_mem h1) hwm
 intro j hj
 have z3 := pass_size hf hwm (passH s.design.seams[k] w) j
 induction hn : w.passed.length - j generalizing j with
 | zero =>
  obtain rfl : j = w.passed.length := by omega
  refine ok_P (vcRm_ok ht) mixed _ (l_rwelp s _ _ _ _ _ _) ?_
  simp only [true_and, and_true, Nat.le_refl, ByteArray.size_append, wrapSucc (show k < 2 ^ 62 by omega)]
  refine ifC (fun h' => by omega) (fun _ => ⟨by omega, ?_⟩)
  rw [text_in h1 hw hs]
  exact ih
 | succ n ihn =>
  have hjl : j < w.passed.length := by omega
  have nx := ihn (j + 1) (by omega) (pass_size hf hwm _ _) (by omega)
  rw [List.take_add_one, List.getElem?_map, List.getElem?_eq_getElem hjl] at nx
  rw [show (Option.map decB (some w.passed[j])).toList = [decB w.passed[j]] from rfl, tailB_snoc] at nx
  have hin := g6 _ (List.getElem_mem hjl)
  have hd := decB_size hin
  refine ok_P (vcRm_ok ht) mixed _ (l_rwelp s _ _ _ _ _ _) ?_
  have hk : ((j : Nat) : Int).toNat = j := Int.toNat_natCast j
  have w1 : (⟨#[32]⟩ : ByteArray).size = 1 := rfl
  simp only [true_and, and_true, Nat.le_refl, hk, cell_intY hjl, toI_int, wrapSucc (show j < 2 ^ 62 by omega), ByteArray.size_append, w1]
  refine ifC (fun _ => ⟨by omega, ⟨by omega, by omega⟩, _, rfl, hin, by omega, ?_⟩) (fun h' => by omega)
  rw [ba_assoc, ba_assoc]
  exact nx
theorem ok_rwel (ht : EntOk Tryz.prog ⟨26, c_text⟩) : EntOk Tryz.prog ⟨10, c_wel⟩ := by
 rintro args Post ⟨s, rfl, hf, h⟩
 refine pure_P (vcRm_ok ht) mixed (by kernel_rfl) (by kernel_rfl) _ (e_rwel s _ _) ?_
 have hh := hf.hull
 have e0 : (⟨#[87, 69, 76, 68, 83, 32]⟩ : ByteArray) ++ s.design.hull ++ nlY = weldB s 0 := ba_assoc _ _ _
 have z0 : (⟨#[87, 69, 76, 68, 83, 32]⟩ : ByteArray).size = 6 := rfl
 simp only [true_and, and_true]
 refine ⟨by omega, by rw [ByteArray.size_append]; omega, ?_⟩
 rw [e0]
 refine down (n := s.design.seams.length) (p := fun k => OkP 10 [stateDV s] 3 Post (stWr s (weldB s k) k)) ?_ (fun k h1 ih => ?_)
 ·refine ok_P (vcRm_ok ht) mixed _ (l_rwel s _ _ _ _) ?_
  simp only [true_and, and_true]
  exact ifC (fun h' => by omega) (fun _ => h)
 ·refine ok_P (vcRm_ok ht) mixed _ (l_rwel s _ _ _ _) ?_
  have hk : ((k : Nat) : Int).toNat = k := Int.toNat_natCast k
  have hl := hf.seams.1
  obtain ⟨hid, hin⟩ := hf.seams.2 _ (List.getElem_mem h1)
  have hS := weldB_size hf k
  have hd := decB_size hin
  have ih' : ∀ T : ByteArray, T = weldB s (k + 1) → OkP 10 [stateDV s] 3 Post (stWr s T (k + 1)) := fun T e => by rw [e]; exact ih
  obtain ⟨c0, c1, c2, c3, c4, c5⟩ := cell_SeamY h1
  have w0 : (⟨#[32, 99, 108, 97, 115, 115, 32]⟩ : ByteArray).size = 7 := rfl
  have w1 : (⟨#[32, 111, 112, 101, 110]⟩ : ByteArray).size = 5 := rfl
  have w2 : (⟨#[32]⟩ : ByteArray).size = 1 := rfl
  have w3 : (⟨#[32, 98, 121, 32]⟩ : ByteArray).size = 4 := rfl
  have w4 : (⟨#[32, 119, 105, 116, 104, 32]⟩ : ByteArray).size = 6 := rfl
  have w5 : (⟨#[32, 97, 116, 32]⟩ : ByteArray).size = 4 := rfl
  have w6 : (⟨#[32, 114, 101, 112, 97, 105, 114, 115, 32]⟩ : ByteArray).size = 9 := rfl
  have w7 : (⟨#[32, 112, 97, 115, 115, 101, 100]⟩ : ByteArray).size = 7 := rfl
  have w8 : (⟨#[32, 110, 111, 110, 101]⟩ : ByteArray).size = 5 := rfl
  simp only [true_and, and_true, Nat.le_refl, hk, c0, c1, c2, c3, c4, c5, toI_int, toS_string, toN_tree, toE_tree, wrapSucc (show k < 2 ^ 62 by omega), ByteArray.size_append, w0, w1, w2, w3, w4, w5, w6, w7, w8]
  refine ifC (fun _ => ⟨⟨by omega, by omega⟩, by omega, by omega, s.design.seams[k].cls, rfl, hin, by omega, s, s.design.seams[k].id, rfl, hf.welds.1, fun x hx => (hf.welds.2 x hx).2.2.2.2.1, fun x hx => ?_, fun hn => ?_⟩) (fun h' => by omega)
  ·obtain ⟨g1, g2, g3, g4, g5, g6⟩ := hf.welds.2 x (weldAt_mem hx)
   have a2 := decB_size g3
   have a3 := decB_size g4
   have a4 := howW_size x.state
   refine ifC (fun e1 => ⟨by omega, by omega, ih' _ ?_⟩) fun e1 => ?_
   ·rw [weldB_next h1]
    unfold weldL
    rw [hx]
    dsimp only
    rw [if_pos e1]
    unfold seamH
    apply ba_eq
    simp [ba_app]
   have nx := rwel_in ht hf h1 hx e1 ih 0 (Nat.zero_le _)
   have nx' : ∀ T : ByteArray, T = weldB s k ++ tailB spB (passH s.design.seams[k] x) ((x.passed.map decB).take 0) → OkP 10 [stateDV s] 14 Post (stWrp s T k x 0) := fun T e => by rw [e]; exact nx
   refine ⟨by omega, x.state, rfl, by omega, by omega, by omega, by omega, by omega, by omega, x.at_, rfl, g3, by omega, by omega, x.repairs, rfl, g4, by omega, by omega, nx' _ ?_⟩
   unfold passH seamH
   apply ba_eq
   simp [ba_app, tailB]
  ·refine ⟨by omega, by omega, ih' _ ?_⟩
   rw [weldB_next h1]
   unfold weldL
   rw [hn]
   unfold seamH
   apply ba_eq
   simp [ba_app]
theorem cell_Pack5 {l : List Pack5} {i : Nat} (h : i < l.length) : cellAt (encL l) i 0 = .string l[i].id ∧ cellAt (encL l) i 1 = .string l[i].block ∧ cellAt (encL l) i 2 = tree 1 l[i].parts.length (encL l[i].parts) ∧ cellAt (encL l) i 3 = .int .i64 l[i].hours ∧ cellAt (encL l) i 4 = tree 1 l[i].after.length (encL l[i].after) := by
 rw [cellAt_encL' h, cellAt_encL' h, cellAt_encL' h, cellAt_encL' h, cellAt_encL' h]
 exact ⟨rfl, rfl, rfl, rfl, rfl⟩
theorem cell_Test3 {l : List Test3} {i : Nat} (h : i < l.length) : cellAt (encL l) i 0 = .string l[i].id ∧ cellAt (encL l) i 1 = tree 1 l[i].after.length (encL l[i].after) ∧ cellAt (encL l) i 2 = .bool l[i].done := by
 rw [cellAt_encL' h, cellAt_encL' h, cellAt_encL' h]
 exact ⟨rfl, rfl, rfl⟩
def rst5 (s : StateD) : List ByteArray := if s.launched = -1 then [⟨#[104, 117, 108, 108, 32, 105, 115, 32, 110, 111, 116, 32, 108, 97, 117, 110, 99, 104, 101, 100]⟩] else []
def rst4 (s : StateD) : List ByteArray := stg notPass ptT s.tests ++ rst5 s
def rst3 (s : StateD) : List ByteArray := stg (notDone s) ptK s.design.packs ++ rst4 s
def rst2 (s : StateD) : List ByteArray := stg (notAcc s) ptS s.design.seams ++ rst3 s
def rst1 (s : StateD) : List ByteArray := stg (notFit s) ptP s.design.parts ++ rst2 s
theorem blocks_len {s : StateD} (hf : FitS s) : (blocksOf s.design).length ≤ 1048576 := Nat.le_trans (stg_len _) hf.nodes.1
theorem blocks_size {s : StateD} (hf : FitS s) {b : ByteArray} (h : b ∈ blocksOf s.design) : b.size ≤ 1048576 := by
 unfold blocksOf stg at h
 obtain ⟨n, hn, rfl⟩ := List.mem_map.1 h
 exact hf.nodes.2 n (List.mem_filter.1 hn).1
theorem jw0 (b : ByteArray) : joinB [⟨#[98, 108, 111, 99, 107]⟩, b, ⟨#[105, 115, 32, 110, 111, 116, 32, 101, 114, 101, 99, 116, 101, 100]⟩] ⟨#[32]⟩ = ptB b := by
 apply ba_eq
 unfold ptB
 simp [joinB_toList, ba_app]
theorem rw0 (b : ByteArray) : ⟨#[98, 108, 111, 99, 107, 32]⟩ ++ b ++ ⟨#[32, 105, 115, 32, 110, 111, 116, 32, 101, 114, 101, 99, 116, 101, 100]⟩ = ptB b := ba_assoc _ _ _
theorem sw0 (b : ByteArray) : (ptB b).size = 21 + b.size := by
 unfold ptB
 rw [ByteArray.size_append, ByteArray.size_append]
 show 6 + (_ + 15) = _
 omega
theorem jw1 (b : Part) : joinB [⟨#[112, 97, 114, 116]⟩, b.id, ⟨#[105, 115, 32, 110, 111, 116, 32, 97, 115, 115, 101, 109, 98, 108, 101, 100]⟩] ⟨#[32]⟩ = ptP b := by
 apply ba_eq
 unfold ptP
 simp [joinB_toList, ba_app]
theorem rw1 (b : Part) : ⟨#[112, 97, 114, 116, 32]⟩ ++ b.id ++ ⟨#[32, 105, 115, 32, 110, 111, 116, 32, 97, 115, 115, 101, 109, 98, 108, 101, 100]⟩ = ptP b := ba_assoc _ _ _
theorem sw1 (b : Part) : (ptP b).size = 22 + b.id.size := by
 unfold ptP
 rw [ByteArray.size_append, ByteArray.size_append]
 show 5 + (_ + 17) = _
 omega
theorem jw2 (b : Seam6) : joinB [⟨#[115, 101, 97, 109]⟩, b.id, ⟨#[105, 115, 32, 110, 111, 116, 32, 97, 99, 99, 101, 112, 116, 101, 100]⟩] ⟨#[32]⟩ = ptS b := by
 apply ba_eq
 unfold ptS
 simp [joinB_toList, ba_app]
theorem rw2 (b : Seam6) : ⟨#[115, 101, 97, 109, 32]⟩ ++ b.id ++ ⟨#[32, 105, 115, 32, 110, 111, 116, 32, 97, 99, 99, 101, 112, 116, 101, 100]⟩ = ptS b := ba_assoc _ _ _
theorem sw2 (b : Seam6) : (ptS b).size = 21 + b.id.size := by
 unfold ptS
 rw [ByteArray.size_append, ByteArray.size_append]
 show 5 + (_ + 16) = _
 omega
theorem jw3 (b : Pack5) : joinB [⟨#[112, 97, 99, 107, 97, 103, 101]⟩, b.id, ⟨#[105, 115, 32, 110, 111, 116, 32, 100, 111, 110, 101]⟩] ⟨#[32]⟩ = ptK b := by
 apply ba_eq
 unfold ptK
 simp [joinB_toList, ba_app]
theorem rw3 (b : Pack5) : ⟨#[112, 97, 99, 107, 97, 103, 101, 32]⟩ ++ b.id ++ ⟨#[32, 105, 115, 32, 110, 111, 116, 32, 100, 111, 110, 101]⟩ = ptK b := ba_assoc _ _ _
theorem sw3 (b : Pack5) : (ptK b).size = 20 + b.id.size := by
 unfold ptK
 rw [ByteArray.size_append, ByteArray.size_append]
 show 8 + (_ + 12) = _
 omega
theorem jw4 (b : Test3) : joinB [⟨#[116, 101, 115, 116]⟩, b.id, ⟨#[105, 115, 32, 110, 111, 116, 32, 112, 97, 115, 115, 101, 100]⟩] ⟨#[32]⟩ = ptT b := by
 apply ba_eq
 unfold ptT
 simp [joinB_toList, ba_app]
theorem rw4 (b : Test3) : ⟨#[116, 101, 115, 116, 32]⟩ ++ b.id ++ ⟨#[32, 105, 115, 32, 110, 111, 116, 32, 112, 97, 115, 115, 101, 100]⟩ = ptT b := ba_assoc _ _ _
theorem sw4 (b : Test3) : (ptT b).size = 19 + b.id.size := by
 unfold ptT
 rw [ByteArray.size_append, ByteArray.size_append]
 show 5 + (_ + 14) = _
 omega
def stO0 (s : StateD) (acc : List ByteArray) (k : Nat) : AS := match acc with
 | [] => stV [(3, some (.pointer (some ⟨0, 0, none⟩))), (5, some (.pointer (some ⟨1, 0, none⟩))), (6, some fnOp), (24, some (tree 1 (blocksOf s.design).length (encL (blocksOf s.design)))), (25, some (.int .i64 (blocksOf s.design).length)), (26, some (.int .i64 ((k : Nat) : Int)))] [(0, some (.cells (stateDC s) true)), (1, some (.cells [.slice none 0 0] true))] 2
 | a :: r => stV [(3, some (.pointer (some ⟨0, 0, none⟩))), (5, some (.pointer (some ⟨1, 0, none⟩))), (6, some fnOp), (24, some (tree 1 (blocksOf s.design).length (encL (blocksOf s.design)))), (25, some (.int .i64 (blocksOf s.design).length)), (26, some (.int .i64 ((k : Nat) : Int)))] [(0, some (.cells (stateDC s) true)), (1, some (.cells [.slice (some ⟨2, 0, none⟩) (a :: r).length 1] true)), (2, some (.cells (SY (a :: r)) true))] 3
theorem stO0_own (s : StateD) (acc : List ByteArray) (y : ByteArray) (k : Nat) : stO0 s (acc ++ [y]) k = stV [(3, some (.pointer (some ⟨0, 0, none⟩))), (5, some (.pointer (some ⟨1, 0, none⟩))), (6, some fnOp), (24, some (tree 1 (blocksOf s.design).length (encL (blocksOf s.design)))), (25, some (.int .i64 (blocksOf s.design).length)), (26, some (.int .i64 ((k : Nat) : Int)))] [(0, some (.cells (stateDC s) true)), (1, some (.cells [.slice (some ⟨2, 0, none⟩) (acc.length + 1) 1] true)), (2, some (.cells (SY acc ++ [.string y]) true))] 3 := by
 rw [SY_add]
 cases acc with
 | nil => rfl
 | cons a r =>
  show stV _ _ _ = _
  rw [show (a :: (r.append [y])).length = (a :: r).length + 1 from @List.length_append _ (a :: r) [y]]
  rfl
def stO1 (s : StateD) (acc : List ByteArray) (k : Nat) : AS := match acc with
 | [] => stV [(3, some (.pointer (some ⟨0, 0, none⟩))), (5, some (.pointer (some ⟨1, 0, none⟩))), (6, some fnOp), (42, some (tree 18 s.design.parts.length (encL s.design.parts))), (43, some (.int .i64 s.design.parts.length)), (44, some (.int .i64 ((k : Nat) : Int)))] [(0, some (.cells (stateDC s) true)), (1, some (.cells [.slice none 0 0] true))] 2
 | a :: r => stV [(3, some (.pointer (some ⟨0, 0, none⟩))), (5, some (.pointer (some ⟨1, 0, none⟩))), (6, some fnOp), (42, some (tree 18 s.design.parts.length (encL s.design.parts))), (43, some (.int .i64 s.design.parts.length)), (44, some (.int .i64 ((k : Nat) : Int)))] [(0, some (.cells (stateDC s) true)), (1, some (.cells [.slice (some ⟨2, 0, none⟩) (a :: r).length 1] true)), (2, some (.cells (SY (a :: r)) true))] 3
theorem stO1_own (s : StateD) (acc : List ByteArray) (y : ByteArray) (k : Nat) : stO1 s (acc ++ [y]) k = stV [(3, some (.pointer (some ⟨0, 0, none⟩))), (5, some (.pointer (some ⟨1, 0, none⟩))), (6, some fnOp), (42, some (tree 18 s.design.parts.length (encL s.design.parts))), (43, some (.int .i64 s.design.parts.length)), (44, some (.int .i64 ((k : Nat) : Int)))] [(0, some (.cells (stateDC s) true)), (1, some (.cells [.slice (some ⟨2, 0, none⟩) (acc.length + 1) 1] true)), (2, some (.cells (SY acc ++ [.string y]) true))] 3 := by
 rw [SY_add]
 cases acc with
 | nil => rfl
 | cons a r =>
  show stV _ _ _ = _
  rw [show (a :: (r.append [y])).length = (a :: r).length + 1 from @List.length_append _ (a :: r) [y]]
  rfl
def stO2 (s : StateD) (acc : List ByteArray) (k : Nat) : AS := match acc with
 | [] => stV [(3, some (.pointer (some ⟨0, 0, none⟩))), (5, some (.pointer (some ⟨1, 0, none⟩))), (6, some fnOp), (66, some (tree 6 s.design.seams.length (encL s.design.seams))), (67, some (.int .i64 s.design.seams.length)), (68, some (.int .i64 ((k : Nat) : Int)))] [(0, some (.cells (stateDC s) true)), (1, some (.cells [.slice none 0 0] true))] 2
 | a :: r => stV [(3, some (.pointer (some ⟨0, 0, none⟩))), (5, some (.pointer (some ⟨1, 0, none⟩))), (6, some fnOp), (66, some (tree 6 s.design.seams.length (encL s.design.seams))), (67, some (.int .i64 s.design.seams.length)), (68, some (.int .i64 ((k : Nat) : Int)))] [(0, some (.cells (stateDC s) true)), (1, some (.cells [.slice (some ⟨2, 0, none⟩) (a :: r).length 1] true)), (2, some (.cells (SY (a :: r)) true))] 3
theorem stO2_own (s : StateD) (acc : List ByteArray) (y : ByteArray) (k : Nat) : stO2 s (acc ++ [y]) k = stV [(3, some (.pointer (some ⟨0, 0, none⟩))), (5, some (.pointer (some ⟨1, 0, none⟩))), (6, some fnOp), (66, some (tree 6 s.design.seams.length (encL s.design.seams))), (67, some (.int .i64 s.design.seams.length)), (68, some (.int .i64 ((k : Nat) : Int)))] [(0, some (.cells (stateDC s) true)), (1, some (.cells [.slice (some ⟨2, 0, none⟩) (acc.length + 1) 1] true)), (2, some (.cells (SY acc ++ [.string y]) true))] 3 := by
 rw [SY_add]
 cases acc with
 | nil => rfl
 | cons a r =>
  show stV _ _ _ = _
  rw [show (a :: (r.append [y])).length = (a :: r).length + 1 from @List.length_append _ (a :: r) [y]]
  rfl
def stO3 (s : StateD) (acc : List ByteArray) (k : Nat) : AS := match acc with
 | [] => stV [(3, some (.pointer (some ⟨0, 0, none⟩))), (5, some (.pointer (some ⟨1, 0, none⟩))), (6, some fnOp), (90, some (tree 5 s.design.packs.length (encL s.design.packs))), (91, some (.int .i64 s.design.packs.length)), (92, some (.int .i64 ((k : Nat) : Int)))] [(0, some (.cells (stateDC s) true)), (1, some (.cells [.slice none 0 0] true))] 2
 | a :: r => stV [(3, some (.pointer (some ⟨0, 0, none⟩))), (5, some (.pointer (some ⟨1, 0, none⟩))), (6, some fnOp), (90, some (tree 5 s.design.packs.length (encL s.design.packs))), (91, some (.int .i64 s.design.packs.length)), (92, some (.int .i64 ((k : Nat) : Int)))] [(0, some (.cells (stateDC s) true)), (1, some (.cells [.slice (some ⟨2, 0, none⟩) (a :: r).length 1] true)), (2, some (.cells (SY (a :: r)) true))] 3
theorem stO3_own (s : StateD) (acc : List ByteArray) (y : ByteArray) (k : Nat) : stO3 s (acc ++ [y]) k = stV [(3, some (.pointer (some ⟨0, 0, none⟩))), (5, some (.pointer (some ⟨1, 0, none⟩))), (6, some fnOp), (90, some (tree 5 s.design.packs.length (encL s.design.packs))), (91, some (.int .i64 s.design.packs.length)), (92, some (.int .i64 ((k : Nat) : Int)))] [(0, some (.cells (stateDC s) true)), (1, some (.cells [.slice (some ⟨2, 0, none⟩) (acc.length + 1) 1] true)), (2, some (.cells (SY acc ++ [.string y]) true))] 3 := by
 rw [SY_add]
 cases acc with
 | nil => rfl
 | cons a r =>
  show stV _ _ _ = _
  rw [show (a :: (r.append [y])).length = (a :: r).length + 1 from @List.length_append _ (a :: r) [y]]
  rfl
def stO4 (s : StateD) (acc : List ByteArray) (k : Nat) : AS := match acc with
 | [] => stV [(3, some (.pointer (some ⟨0, 0, none⟩))), (5, some (.pointer (some ⟨1, 0, none⟩))), (6, some fnOp), (109, some (tree 3 s.tests.length (encL s.tests))), (110, some (.int .i64 s.tests.length)), (111, some (.int .i64 ((k : Nat) : Int)))] [(0, some (.cells (stateDC s) true)), (1, some (.cells [.slice none 0 0] true))] 2
 | a :: r => stV [(3, some (.pointer (some ⟨0, 0, none⟩))), (5, some (.pointer (some ⟨1, 0, none⟩))), (6, some fnOp), (109, some (tree 3 s.tests.length (encL s.tests))), (110, some (.int .i64 s.tests.length)), (111, some (.int .i64 ((k : Nat) : Int)))] [(0, some (.cells (stateDC s) true)), (1, some (.cells [.slice (some ⟨2, 0, none⟩) (a :: r).length 1] true)), (2, some (.cells (SY (a :: r)) true))] 3
theorem stO4_own (s : StateD) (acc : List ByteArray) (y : ByteArray) (k : Nat) : stO4 s (acc ++ [y]) k = stV [(3, some (.pointer (some ⟨0, 0, none⟩))), (5, some (.pointer (some ⟨1, 0, none⟩))), (6, some fnOp), (109, some (tree 3 s.tests.length (encL s.tests))), (110, some (.int .i64 s.tests.length)), (111, some (.int .i64 ((k : Nat) : Int)))] [(0, some (.cells (stateDC s) true)), (1, some (.cells [.slice (some ⟨2, 0, none⟩) (acc.length + 1) 1] true)), (2, some (.cells (SY acc ++ [.string y]) true))] 3 := by
 rw [SY_add]
 cases acc with
 | nil => rfl
 | cons a r =>
  show stV _ _ _ = _
  rw [show (a :: (r.append [y])).length = (a :: r).length + 1 from @List.length_append _ (a :: r) [y]]
  rfl
def stR0 (s : StateD) (acc : List ByteArray) (k : Nat) : AS := match acc with
 | [] => stV [(3, some (.pointer (some ⟨0, 0, none⟩))), (5, some (.slice none 0 0)), (6, some (.pointer (some ⟨1, 0, none⟩))), (7, some (tree 1 (blocksOf s.design).length (encL (blocksOf s.design)))), (8, some (.int .i64 ((k : Nat) : Int)))] [(0, some (.cells (stateDC s) true)), (1, some (.cells (design6C s.design) true))] 2
 | a :: r => stV [(3, some (.pointer (some ⟨0, 0, none⟩))), (5, some (.slice (some ⟨1, 0, none⟩) (a :: r).length 1)), (6, some (.pointer (some ⟨2, 0, none⟩))), (7, some (tree 1 (blocksOf s.design).length (encL (blocksOf s.design)))), (8, some (.int .i64 ((k : Nat) : Int)))] [(0, some (.cells (stateDC s) true)), (1, some (.cells (SY (a :: r)) true)), (2, some (.cells (design6C s.design) true))] 3
theorem stR0_own (s : StateD) (acc : List ByteArray) (y : ByteArray) (k : Nat) : stR0 s (acc ++ [y]) k = stV [(3, some (.pointer (some ⟨0, 0, none⟩))), (5, some (.slice (some ⟨1, 0, none⟩) (acc.length + 1) 1)), (6, some (.pointer (some ⟨2, 0, none⟩))), (7, some (tree 1 (blocksOf s.design).length (encL (blocksOf s.design)))), (8, some (.int .i64 ((k : Nat) : Int)))] [(0, some (.cells (stateDC s) true)), (1, some (.cells (SY acc ++ [.string y]) true)), (2, some (.cells (design6C s.design) true))] 3 := by
 rw [SY_add]
 cases acc with
 | nil => rfl
 | cons a r =>
  show stV _ _ _ = _
  rw [show (a :: (r.append [y])).length = (a :: r).length + 1 from @List.length_append _ (a :: r) [y]]
  rfl
def stR1 (s : StateD) (acc : List ByteArray) (k : Nat) : AS := match acc with
 | [] => stV [(3, some (.pointer (some ⟨0, 0, none⟩))), (5, some (.slice none 0 0)), (6, some (.pointer (some ⟨1, 0, none⟩))), (9, some (.int .i64 ((k : Nat) : Int)))] [(0, some (.cells (stateDC s) true)), (1, some (.cells (design6C s.design) true))] 2
 | a :: r => stV [(3, some (.pointer (some ⟨0, 0, none⟩))), (5, some (.slice (some ⟨1, 0, none⟩) (a :: r).length 1)), (6, some (.pointer (some ⟨2, 0, none⟩))), (9, some (.int .i64 ((k : Nat) : Int)))] [(0, some (.cells (stateDC s) true)), (1, some (.cells (SY (a :: r)) true)), (2, some (.cells (design6C s.design) true))] 3
theorem stR1_own (s : StateD) (acc : List ByteArray) (y : ByteArray) (k : Nat) : stR1 s (acc ++ [y]) k = stV [(3, some (.pointer (some ⟨0, 0, none⟩))), (5, some (.slice (some ⟨1, 0, none⟩) (acc.length + 1) 1)), (6, some (.pointer (some ⟨2, 0, none⟩))), (9, some (.int .i64 ((k : Nat) : Int)))] [(0, some (.cells (stateDC s) true)), (1, some (.cells (SY acc ++ [.string y]) true)), (2, some (.cells (design6C s.design) true))] 3 := by
 rw [SY_add]
 cases acc with
 | nil => rfl
 | cons a r =>
  show stV _ _ _ = _
  rw [show (a :: (r.append [y])).length = (a :: r).length + 1 from @List.length_append _ (a :: r) [y]]
  rfl
def stR2 (s : StateD) (acc : List ByteArray) (k : Nat) : AS := match acc with
 | [] => stV [(3, some (.pointer (some ⟨0, 0, none⟩))), (5, some (.slice none 0 0)), (6, some (.pointer (some ⟨1, 0, none⟩))), (12, some (.int .i64 ((k : Nat) : Int)))] [(0, some (.cells (stateDC s) true)), (1, some (.cells (design6C s.design) true))] 2
 | a :: r => stV [(3, some (.pointer (some ⟨0, 0, none⟩))), (5, some (.slice (some ⟨1, 0, none⟩) (a :: r).length 1)), (6, some (.pointer (some ⟨2, 0, none⟩))), (12, some (.int .i64 ((k : Nat) : Int)))] [(0, some (.cells (stateDC s) true)), (1, some (.cells (SY (a :: r)) true)), (2, some (.cells (design6C s.design) true))] 3
theorem stR2_own (s : StateD) (acc : List ByteArray) (y : ByteArray) (k : Nat) : stR2 s (acc ++ [y]) k = stV [(3, some (.pointer (some ⟨0, 0, none⟩))), (5, some (.slice (some ⟨1, 0, none⟩) (acc.length + 1) 1)), (6, some (.pointer (some ⟨2, 0, none⟩))), (12, some (.int .i64 ((k : Nat) : Int)))] [(0, some (.cells (stateDC s) true)), (1, some (.cells (SY acc ++ [.string y]) true)), (2, some (.cells (design6C s.design) true))] 3 := by
 rw [SY_add]
 cases acc with
 | nil => rfl
 | cons a r =>
  show stV _ _ _ = _
  rw [show (a :: (r.append [y])).length = (a :: r).length + 1 from @List.length_append _ (a :: r) [y]]
  rfl
def stR3 (s : StateD) (acc : List ByteArray) (k : Nat) : AS := match acc with
 | [] => stV [(3, some (.pointer (some ⟨0, 0, none⟩))), (5, some (.slice none 0 0)), (6, some (.pointer (some ⟨1, 0, none⟩))), (15, some (.int .i64 ((k : Nat) : Int)))] [(0, some (.cells (stateDC s) true)), (1, some (.cells (design6C s.design) true))] 2
 | a :: r => stV [(3, some (.pointer (some ⟨0, 0, none⟩))), (5, some (.slice (some ⟨1, 0, none⟩) (a :: r).length 1)), (6, some (.pointer (some ⟨2, 0, none⟩))), (15, some (.int .i64 ((k : Nat) : Int)))] [(0, some (.cells (stateDC s) true)), (1, some (.cells (SY (a :: r)) true)), (2, some (.cells (design6C s.design) true))] 3
theorem stR3_own (s : StateD) (acc : List ByteArray) (y : ByteArray) (k : Nat) : stR3 s (acc ++ [y]) k = stV [(3, some (.pointer (some ⟨0, 0, none⟩))), (5, some (.slice (some ⟨1, 0, none⟩) (acc.length + 1) 1)), (6, some (.pointer (some ⟨2, 0, none⟩))), (15, some (.int .i64 ((k : Nat) : Int)))] [(0, some (.cells (stateDC s) true)), (1, some (.cells (SY acc ++ [.string y]) true)), (2, some (.cells (design6C s.design) true))] 3 := by
 rw [SY_add]
 cases acc with
 | nil => rfl
 | cons a r =>
  show stV _ _ _ = _
  rw [show (a :: (r.append [y])).length = (a :: r).length + 1 from @List.length_append _ (a :: r) [y]]
  rfl
def stR4 (s : StateD) (acc : List ByteArray) (k : Nat) : AS := match acc with
 | [] => stV [(3, some (.pointer (some ⟨0, 0, none⟩))), (5, some (.slice none 0 0)), (16, some (.int .i64 ((k : Nat) : Int)))] [(0, some (.cells (stateDC s) true))] 1
 | a :: r => stV [(3, some (.pointer (some ⟨0, 0, none⟩))), (5, some (.slice (some ⟨1, 0, none⟩) (a :: r).length 1)), (16, some (.int .i64 ((k : Nat) : Int)))] [(0, some (.cells (stateDC s) true)), (1, some (.cells (SY (a :: r)) true))] 2
theorem stR4_own (s : StateD) (acc : List ByteArray) (y : ByteArray) (k : Nat) : stR4 s (acc ++ [y]) k = stV [(3, some (.pointer (some ⟨0, 0, none⟩))), (5, some (.slice (some ⟨1, 0, none⟩) (acc.length + 1) 1)), (16, some (.int .i64 ((k : Nat) : Int)))] [(0, some (.cells (stateDC s) true)), (1, some (.cells (SY acc ++ [.string y]) true))] 2 := by
 rw [SY_add]
 cases acc with
 | nil => rfl
 | cons a r =>
  show stV _ _ _ = _
  rw [show (a :: (r.append [y])).length = (a :: r).length + 1 from @List.length_append _ (a :: r) [y]]
  rfl
theorem baseO_ok : PCallOk Tryz.prog baseO := xtabCall_ok (by
 intro e he
 simp only [List.mem_cons, List.not_mem_nil, or_false] at he
 subst he
 exact ok_idxRs) (ofV_ok (tabCallF_ok (by
 intro e he
 simp only [List.mem_cons, List.not_mem_nil, or_false] at he
 rcases he with rfl | rfl | rfl | rfl | rfl
 ·exact ok_joinV
 ·exact ok_blks
 ·exact ok_piece
 ·exact ok_weld
 ·exact ok_conS) noCall_ok))
theorem callO_ok : PCallOk Tryz.prog callO := inlP_ok mixed baseO_ok 6
theorem vcRo_ok : VCallOk Tryz.prog vcRo := tabCall_ok (by
 intro e he
 simp only [List.mem_cons, List.not_mem_nil, or_false] at he
 rcases he with rfl | rfl | rfl | rfl | rfl
 ·exact ok_rblks
 ·exact ok_rraised
 ·exact ok_rpiece
 ·exact ok_rweld
 ·exact ok_rhas) noCall_ok
abbrev OKo (x : SetupD) (s : StateD) (Post : Out → List (List Value) → Prop) (r : Nat) : AS → Prop := OkX Tryz.prog 12 [setupDV x, stateDV s] 0 Post (lpC Tryz.prog 12 r) (lpK Tryz.prog 12 r)
abbrev PLo (Post : Out → List (List Value) → Prop) (l : List ByteArray) : Prop := Post (.ret (trY l)) []
abbrev OKr (x : SetupD) (s : StateD) (Post : Value → Prop) (r : Nat) : AS → Prop := OkP 13 [setupDV x, stateDV s] r Post
abbrev PLr (Post : Value → Prop) (l : List ByteArray) : Prop := Post (trY l)
theorem SY_all' (l : List ByteArray) {n : Nat} (hn : n = l.length) : tree 1 n (chunks 1 n (SY l)) = trY l := by
 have := SY_end l hn
 rwa [List.drop_zero] at this
theorem op4 {x : SetupD} {s : StateD} (hf : FitS s) {Post : Out → List (List Value) → Prop} : ∀ k, k ≤ s.tests.length → ∀ acc : List ByteArray, acc.length ≤ 4194304 + k → PLo Post (acc ++ (stg notPass ptT (s.tests.drop k) ++ rst5 s)) → OKo x s Post 26 (stO4 s acc k) := by
 have hl := hf.tests.1
 have hra := hf.raised
 have hdo := hf.done
 intro k hkn
 induction hn : s.tests.length - k generalizing k with
 | zero =>
  obtain rfl : k = s.tests.length := by omega
  intro acc ha hp
  rw [stg_end, List.nil_append] at hp
  cases acc with
  | nil =>
   refine ok_X callO_ok mixed _ (l_op26a x s s.tests.length (encL s.tests) s.tests.length _ _) ?_
   simp only [true_and, and_true, Nat.le_refl, eq_self, List.map_cons, List.map_nil, toS_string, joinB_one, List.drop_zero, SY_add]
   unfold rst5 at hp
   refine ifC (fun h' => by omega) (fun _ => ifC (fun e => ?_) (fun e => ?_))
   ·rw [if_pos e] at hp
    and_intros
    all_goals first
    | rfl
    | exact nlsY rfl
    | exact SY_nls _
    | (rw [SY_add]; exact SY_nls _)
    | (rw [SY_len]; omega)
    | omega
    | (simp only [ByteArray.size_append]; omega)
    | exact hp
   ·rw [if_neg e] at hp
    exact hp
  | cons a r =>
   refine ok_X callO_ok mixed _ (l_op26b x s s.tests.length (encL s.tests) s.tests.length _ _ _ _) ?_
   simp only [true_and, and_true, Nat.le_refl, eq_self, List.map_cons, List.map_nil, toS_string, joinB_one, List.drop_zero, SY_add]
   unfold rst5 at hp
   refine ifC (fun h' => by omega) (fun _ => ifC (fun e => ?_) (fun e => ?_))
   ·rw [if_pos e] at hp
    have e5 := SY_all' (n := (a :: r).length + 1) (a :: r ++ [⟨#[104, 117, 108, 108, 32, 105, 115, 32, 110, 111, 116, 32, 108, 97, 117, 110, 99, 104, 101, 100]⟩]) (by rw [List.length_append]; rfl)
    and_intros
    all_goals first
    | rfl
    | exact nlsY rfl
    | exact SY_nls _
    | (rw [SY_add]; exact SY_nls _)
    | (rw [SY_len]; omega)
    | (rw [SY_len, List.length_append, List.length_singleton]; omega)
    | omega
    | (simp only [ByteArray.size_append]; omega)
    | exact Eq.mp (congrArg (fun v => Post (.ret v) []) e5.symm) hp
   ·rw [if_neg e, List.append_nil] at hp
    rw [SY_all' _ rfl]
    exact ⟨⟨by rw [SY_len]; omega, SY_nls _⟩, hp⟩
 | succ n ihn =>
  intro acc ha hp
  have h1 : k < s.tests.length := by omega
  have hk : ((k : Nat) : Int).toNat = k := Int.toNat_natCast k
  have hz := hf.tests.2 _ (List.getElem_mem h1)
  have hs := sw4 s.tests[k]
  rw [stg_drop h1] at hp
  have yes : notPass s.tests[k] → OKo x s Post 26 (stO4 s (acc ++ [ptT s.tests[k]]) (k + 1)) := fun hb => ihn (k + 1) (by omega) (by omega) _ (by rw [List.length_append, List.length_singleton]; omega) (by rw [if_pos hb] at hp; rw [List.append_assoc]; exact hp)
  have no : ¬ notPass s.tests[k] → OKo x s Post 26 (stO4 s acc (k + 1)) := fun hb => ihn (k + 1) (by omega) (by omega) _ (by omega) (by rw [if_neg hb] at hp; exact hp)
  rw [stO4_own] at yes
  have hcs := cell_Test3 h1
  obtain ⟨c0, c1, c2⟩ := hcs
  clear ihn hp
  cases acc with
  | nil =>
   refine ok_X callO_ok mixed _ (l_op26a x s s.tests.length (encL s.tests) k _ _) ?_
   simp only [true_and, and_true, Nat.le_refl, eq_self, hk, c0, c1, c2, toI_int, toS_string, toN_tree, toE_tree, toB_bool, wrapSucc (show k < 2 ^ 62 by omega), List.map_cons, List.map_nil, jw4, rw4]
   refine ifC (fun _ => ⟨⟨by omega, by omega⟩, ?_⟩) (fun h' => by omega)
   refine pIf_intro (fun e => ?_) (fun e => ?_)
   ·have hno := no (fun hp => by rw [hp] at e; cases e)
    and_intros
    all_goals first
    | rfl
    | exact nlsY rfl
    | exact SY_nls _
    | (rw [SY_add]; exact SY_nls _)
    | (rw [SY_len]; omega)
    | omega
    | (simp only [ByteArray.size_append]; omega)
    | exact hno
   ·have hyes := yes e
    and_intros
    all_goals first
    | rfl
    | exact nlsY rfl
    | exact SY_nls _
    | (rw [SY_add]; exact SY_nls _)
    | (rw [SY_len]; omega)
    | omega
    | (simp only [ByteArray.size_append]; omega)
    | exact hyes
  | cons a r =>
   refine ok_X callO_ok mixed _ (l_op26b x s s.tests.length (encL s.tests) k _ _ _ _) ?_
   simp only [true_and, and_true, Nat.le_refl, eq_self, hk, c0, c1, c2, toI_int, toS_string, toN_tree, toE_tree, toB_bool, wrapSucc (show k < 2 ^ 62 by omega), List.map_cons, List.map_nil, jw4, rw4]
   refine ifC (fun _ => ⟨⟨by omega, by omega⟩, ?_⟩) (fun h' => by omega)
   refine pIf_intro (fun e => ?_) (fun e => ?_)
   ·have hno := no (fun hp => by rw [hp] at e; cases e)
    and_intros
    all_goals first
    | rfl
    | exact nlsY rfl
    | exact SY_nls _
    | (rw [SY_add]; exact SY_nls _)
    | (rw [SY_len]; omega)
    | omega
    | (simp only [ByteArray.size_append]; omega)
    | exact hno
   ·have hyes := yes e
    and_intros
    all_goals first
    | rfl
    | exact nlsY rfl
    | exact SY_nls _
    | (rw [SY_add]; exact SY_nls _)
    | (rw [SY_len]; omega)
    | omega
    | (simp only [ByteArray.size_append]; omega)
    | exact hyes
theorem op3 {x : SetupD} {s : StateD} (hf : FitS s) {Post : Out → List (List Value) → Prop} (next : ∀ acc : List ByteArray, acc.length ≤ 4194304 → PLo Post (acc ++ rst4 s) → OKo x s Post 26 (stO4 s acc 0)) : ∀ k, k ≤ s.design.packs.length → ∀ acc : List ByteArray, acc.length ≤ 3145728 + k → PLo Post (acc ++ (stg (notDone s) ptK (s.design.packs.drop k) ++ rst4 s)) → OKo x s Post 21 (stO3 s acc k) := by
 have hl := hf.packs.1
 have hra := hf.raised
 have hdo := hf.done
 intro k hkn
 induction hn : s.design.packs.length - k generalizing k with
 | zero =>
  obtain rfl : k = s.design.packs.length := by omega
  intro acc ha hp
  rw [stg_end, List.nil_append] at hp
  have nx := next acc (by omega) hp
  cases acc with
  | nil =>
   refine ok_X callO_ok mixed _ (l_op21a x s s.design.packs.length (encL s.design.packs) s.design.packs.length _ _) ?_
   simp only [true_and, and_true, Nat.le_refl, eq_self, List.map_cons, List.map_nil, toS_string]
   exact ifC (fun h' => by omega) (fun _ => nx)
  | cons a r =>
   refine ok_X callO_ok mixed _ (l_op21b x s s.design.packs.length (encL s.design.packs) s.design.packs.length _ _ _ _) ?_
   simp only [true_and, and_true, Nat.le_refl, eq_self, List.map_cons, List.map_nil, toS_string]
   exact ifC (fun h' => by omega) (fun _ => ⟨SY_nls _, nx⟩)
 | succ n ihn =>
  intro acc ha hp
  have h1 : k < s.design.packs.length := by omega
  have hk : ((k : Nat) : Int).toNat = k := Int.toNat_natCast k
  have hz := hf.packs.2 _ (List.getElem_mem h1)
  have hs := sw3 s.design.packs[k]
  rw [stg_drop h1] at hp
  have yes : (notDone s) s.design.packs[k] → OKo x s Post 21 (stO3 s (acc ++ [ptK s.design.packs[k]]) (k + 1)) := fun hb => ihn (k + 1) (by omega) (by omega) _ (by rw [List.length_append, List.length_singleton]; omega) (by rw [if_pos hb] at hp; rw [List.append_assoc]; exact hp)
  have no : ¬ (notDone s) s.design.packs[k] → OKo x s Post 21 (stO3 s acc (k + 1)) := fun hb => ihn (k + 1) (by omega) (by omega) _ (by omega) (by rw [if_neg hb] at hp; exact hp)
  rw [stO3_own] at yes
  have hcs := cell_Pack5 h1
  obtain ⟨c0, c1, c2, c3, c4⟩ := hcs
  clear ihn hp
  cases acc with
  | nil =>
   refine ok_X callO_ok mixed _ (l_op21a x s s.design.packs.length (encL s.design.packs) k _ _) ?_
   simp only [true_and, and_true, Nat.le_refl, eq_self, hk, c0, c1, c2, c3, c4, toI_int, toS_string, toN_tree, toE_tree, toB_bool, wrapSucc (show k < 2 ^ 62 by omega), List.map_cons, List.map_nil, jw3, rw3]
   refine ifC (fun _ => ⟨⟨by omega, by omega⟩, ?_⟩) (fun h' => by omega)
   refine ⟨s.done, _, rfl, show _ < _ by omega, ifC (fun e => ?_) (fun e => ?_)⟩
   ·have hno := no (fun hp => hp e)
    and_intros
    all_goals first
    | rfl
    | exact nlsY rfl
    | exact SY_nls _
    | (rw [SY_add]; exact SY_nls _)
    | (rw [SY_len]; omega)
    | omega
    | (simp only [ByteArray.size_append]; omega)
    | exact hno
   ·have hyes := yes e
    and_intros
    all_goals first
    | rfl
    | exact nlsY rfl
    | exact SY_nls _
    | (rw [SY_add]; exact SY_nls _)
    | (rw [SY_len]; omega)
    | omega
    | (simp only [ByteArray.size_append]; omega)
    | exact hyes
  | cons a r =>
   refine ok_X callO_ok mixed _ (l_op21b x s s.design.packs.length (encL s.design.packs) k _ _ _ _) ?_
   simp only [true_and, and_true, Nat.le_refl, eq_self, hk, c0, c1, c2, c3, c4, toI_int, toS_string, toN_tree, toE_tree, toB_bool, wrapSucc (show k < 2 ^ 62 by omega), List.map_cons, List.map_nil, jw3, rw3]
   refine ifC (fun _ => ⟨⟨by omega, by omega⟩, ?_⟩) (fun h' => by omega)
   refine ⟨s.done, _, rfl, show _ < _ by omega, ifC (fun e => ?_) (fun e => ?_)⟩
   ·have hno := no (fun hp => hp e)
    and_intros
    all_goals first
    | rfl
    | exact nlsY rfl
    | exact SY_nls _
    | (rw [SY_add]; exact SY_nls _)
    | (rw [SY_len]; omega)
    | omega
    | (simp only [ByteArray.size_append]; omega)
    | exact hno
   ·have hyes := yes e
    and_intros
    all_goals first
    | rfl
    | exact nlsY rfl
    | exact SY_nls _
    | (rw [SY_add]; exact SY_nls _)
    | (rw [SY_len]; omega)
    | omega
    | (simp only [ByteArray.size_append]; omega)
    | exact hyes
theorem op2 {x : SetupD} {s : StateD} (hf : FitS s) {Post : Out → List (List Value) → Prop} (next : ∀ acc : List ByteArray, acc.length ≤ 3145728 → PLo Post (acc ++ rst3 s) → OKo x s Post 21 (stO3 s acc 0)) : ∀ k, k ≤ s.design.seams.length → ∀ acc : List ByteArray, acc.length ≤ 2097152 + k → PLo Post (acc ++ (stg (notAcc s) ptS (s.design.seams.drop k) ++ rst3 s)) → OKo x s Post 15 (stO2 s acc k) := by
 have hl := hf.seams.1
 have hra := hf.raised
 have hdo := hf.done
 intro k hkn
 induction hn : s.design.seams.length - k generalizing k with
 | zero =>
  obtain rfl : k = s.design.seams.length := by omega
  intro acc ha hp
  rw [stg_end, List.nil_append] at hp
  have nx := next acc (by omega) hp
  cases acc with
  | nil =>
   refine ok_X callO_ok mixed _ (l_op15a x s s.design.seams.length (encL s.design.seams) s.design.seams.length _ _) ?_
   simp only [true_and, and_true, Nat.le_refl, eq_self, List.map_cons, List.map_nil, toS_string]
   exact ifC (fun h' => by omega) (fun _ => nx)
  | cons a r =>
   refine ok_X callO_ok mixed _ (l_op15b x s s.design.seams.length (encL s.design.seams) s.design.seams.length _ _ _ _) ?_
   simp only [true_and, and_true, Nat.le_refl, eq_self, List.map_cons, List.map_nil, toS_string]
   exact ifC (fun h' => by omega) (fun _ => ⟨SY_nls _, nx⟩)
 | succ n ihn =>
  intro acc ha hp
  have h1 : k < s.design.seams.length := by omega
  have hk : ((k : Nat) : Int).toNat = k := Int.toNat_natCast k
  have hz := (hf.seams.2 _ (List.getElem_mem h1)).1
  have hs := sw2 s.design.seams[k]
  rw [stg_drop h1] at hp
  have yes : (notAcc s) s.design.seams[k] → OKo x s Post 15 (stO2 s (acc ++ [ptS s.design.seams[k]]) (k + 1)) := fun hb => ihn (k + 1) (by omega) (by omega) _ (by rw [List.length_append, List.length_singleton]; omega) (by rw [if_pos hb] at hp; rw [List.append_assoc]; exact hp)
  have no : ¬ (notAcc s) s.design.seams[k] → OKo x s Post 15 (stO2 s acc (k + 1)) := fun hb => ihn (k + 1) (by omega) (by omega) _ (by omega) (by rw [if_neg hb] at hp; exact hp)
  rw [stO2_own] at yes
  have hcs := cell_SeamY h1
  obtain ⟨c0, c1, c2, c3, c4, c5⟩ := hcs
  clear ihn hp
  cases acc with
  | nil =>
   refine ok_X callO_ok mixed _ (l_op15a x s s.design.seams.length (encL s.design.seams) k _ _) ?_
   simp only [true_and, and_true, Nat.le_refl, eq_self, hk, c0, c1, c2, c3, c4, c5, toI_int, toS_string, toN_tree, toE_tree, toB_bool, wrapSucc (show k < 2 ^ 62 by omega), List.map_cons, List.map_nil, jw2, rw2]
   refine ifC (fun _ => ⟨⟨by omega, by omega⟩, ?_⟩) (fun h' => by omega)
   refine ⟨s, _, rfl, hf.welds.1, fun x hx => (hf.welds.2 x hx).2.2.2.2.1, fun y hy => pIf_intro (fun e => ?_) (fun e => ?_), fun hn => ?_⟩
   ·have hyes := yes (fun z hz => by
     have e1 := hy.symm.trans hz
     cases e1
     simpa using e)
    and_intros
    all_goals first
    | rfl
    | exact nlsY rfl
    | exact SY_nls _
    | (rw [SY_add]; exact SY_nls _)
    | (rw [SY_len]; omega)
    | omega
    | (simp only [ByteArray.size_append]; omega)
    | exact hyes
   ·have hno := no (fun hp => hp y hy (by simpa using e))
    and_intros
    all_goals first
    | rfl
    | exact nlsY rfl
    | exact SY_nls _
    | (rw [SY_add]; exact SY_nls _)
    | (rw [SY_len]; omega)
    | omega
    | (simp only [ByteArray.size_append]; omega)
    | exact hno
   ·have hyes := yes (fun z hz => by
     have e1 := hn.symm.trans hz
     cases e1)
    and_intros
    all_goals first
    | rfl
    | exact nlsY rfl
    | exact SY_nls _
    | (rw [SY_add]; exact SY_nls _)
    | (rw [SY_len]; omega)
    | omega
    | (simp only [ByteArray.size_append]; omega)
    | exact hyes
  | cons a r =>
   refine ok_X callO_ok mixed _ (l_op15b x s s.design.seams.length (encL s.design.seams) k _ _ _ _) ?_
   simp only [true_and, and_true, Nat.le_refl, eq_self, hk, c0, c1, c2, c3, c4, c5, toI_int, toS_string, toN_tree, toE_tree, toB_bool, wrapSucc (show k < 2 ^ 62 by omega), List.map_cons, List.map_nil, jw2, rw2]
   refine ifC (fun _ => ⟨⟨by omega, by omega⟩, ?_⟩) (fun h' => by omega)
   refine ⟨s, _, rfl, hf.welds.1, fun x hx => (hf.welds.2 x hx).2.2.2.2.1, fun y hy => pIf_intro (fun e => ?_) (fun e => ?_), fun hn => ?_⟩
   ·have hyes := yes (fun z hz => by
     have e1 := hy.symm.trans hz
     cases e1
     simpa using e)
    and_intros
    all_goals first
    | rfl
    | exact nlsY rfl
    | exact SY_nls _
    | (rw [SY_add]; exact SY_nls _)
    | (rw [SY_len]; omega)
    | omega
    | (simp only [ByteArray.size_append]; omega)
    | exact hyes
   ·have hno := no (fun hp => hp y hy (by simpa using e))
    and_intros
    all_goals first
    | rfl
    | exact nlsY rfl
    | exact SY_nls _
    | (rw [SY_add]; exact SY_nls _)
    | (rw [SY_len]; omega)
    | omega
    | (simp only [ByteArray.size_append]; omega)
    | exact hno
   ·have hyes := yes (fun z hz => by
     have e1 := hn.symm.trans hz
     cases e1)
    and_intros
    all_goals first
    | rfl
    | exact nlsY rfl
    | exact SY_nls _
    | (rw [SY_add]; exact SY_nls _)
    | (rw [SY_len]; omega)
    | omega
    | (simp only [ByteArray.size_append]; omega)
    | exact hyes
theorem op1 {x : SetupD} {s : StateD} (hf : FitS s) {Post : Out → List (List Value) → Prop} (next : ∀ acc : List ByteArray, acc.length ≤ 2097152 → PLo Post (acc ++ rst2 s) → OKo x s Post 15 (stO2 s acc 0)) : ∀ k, k ≤ s.design.parts.length → ∀ acc : List ByteArray, acc.length ≤ 1048576 + k → PLo Post (acc ++ (stg (notFit s) ptP (s.design.parts.drop k) ++ rst2 s)) → OKo x s Post 9 (stO1 s acc k) := by
 have hl := hf.parts.1
 have hra := hf.raised
 have hdo := hf.done
 intro k hkn
 induction hn : s.design.parts.length - k generalizing k with
 | zero =>
  obtain rfl : k = s.design.parts.length := by omega
  intro acc ha hp
  rw [stg_end, List.nil_append] at hp
  have nx := next acc (by omega) hp
  cases acc with
  | nil =>
   refine ok_X callO_ok mixed _ (l_op9a x s s.design.parts.length (encL s.design.parts) s.design.parts.length _ _) ?_
   simp only [true_and, and_true, Nat.le_refl, eq_self, List.map_cons, List.map_nil, toS_string]
   exact ifC (fun h' => by omega) (fun _ => nx)
  | cons a r =>
   refine ok_X callO_ok mixed _ (l_op9b x s s.design.parts.length (encL s.design.parts) s.design.parts.length _ _ _ _) ?_
   simp only [true_and, and_true, Nat.le_refl, eq_self, List.map_cons, List.map_nil, toS_string]
   exact ifC (fun h' => by omega) (fun _ => ⟨SY_nls _, nx⟩)
 | succ n ihn =>
  intro acc ha hp
  have h1 : k < s.design.parts.length := by omega
  have hk : ((k : Nat) : Int).toNat = k := Int.toNat_natCast k
  have hz := (hf.parts.2 _ (List.getElem_mem h1)).1
  have hs := sw1 s.design.parts[k]
  rw [stg_drop h1] at hp
  have yes : (notFit s) s.design.parts[k] → OKo x s Post 9 (stO1 s (acc ++ [ptP s.design.parts[k]]) (k + 1)) := fun hb => ihn (k + 1) (by omega) (by omega) _ (by rw [List.length_append, List.length_singleton]; omega) (by rw [if_pos hb] at hp; rw [List.append_assoc]; exact hp)
  have no : ¬ (notFit s) s.design.parts[k] → OKo x s Post 9 (stO1 s acc (k + 1)) := fun hb => ihn (k + 1) (by omega) (by omega) _ (by omega) (by rw [if_neg hb] at hp; exact hp)
  rw [stO1_own] at yes
  have hcs := cell_PartY h1
  obtain ⟨c0, c1, c2, c3, c4, c5, c6, c7, c8, c9, c10, c11, c12, c13, c14, c15, c16, c17⟩ := hcs
  clear ihn hp
  cases acc with
  | nil =>
   refine ok_X callO_ok mixed _ (l_op9a x s s.design.parts.length (encL s.design.parts) k _ _) ?_
   simp only [true_and, and_true, Nat.le_refl, eq_self, hk, c0, c1, c2, c3, c4, c5, c6, c7, c8, c9, c10, c11, c12, c13, c14, c15, c16, c17, toI_int, toS_string, toN_tree, toE_tree, toB_bool, wrapSucc (show k < 2 ^ 62 by omega), List.map_cons, List.map_nil, jw1, rw1]
   refine ifC (fun _ => ⟨⟨by omega, by omega⟩, ?_⟩) (fun h' => by omega)
   refine ⟨s, _, rfl, hf.pieces.1, fun y hy => pIf_intro (fun e => ?_) (fun e => ?_), fun hn => ?_⟩
   ·have hyes := yes (fun z hz => by
     have e1 := hy.symm.trans hz
     cases e1
     simpa using e)
    and_intros
    all_goals first
    | rfl
    | exact nlsY rfl
    | exact SY_nls _
    | (rw [SY_add]; exact SY_nls _)
    | (rw [SY_len]; omega)
    | omega
    | (simp only [ByteArray.size_append]; omega)
    | exact hyes
   ·have hno := no (fun hp => hp y hy (by simpa using e))
    and_intros
    all_goals first
    | rfl
    | exact nlsY rfl
    | exact SY_nls _
    | (rw [SY_add]; exact SY_nls _)
    | (rw [SY_len]; omega)
    | omega
    | (simp only [ByteArray.size_append]; omega)
    | exact hno
   ·have hyes := yes (fun z hz => by
     have e1 := hn.symm.trans hz
     cases e1)
    and_intros
    all_goals first
    | rfl
    | exact nlsY rfl
    | exact SY_nls _
    | (rw [SY_add]; exact SY_nls _)
    | (rw [SY_len]; omega)
    | omega
    | (simp only [ByteArray.size_append]; omega)
    | exact hyes
  | cons a r =>
   refine ok_X callO_ok mixed _ (l_op9b x s s.design.parts.length (encL s.design.parts) k _ _ _ _) ?_
   simp only [true_and, and_true, Nat.le_refl, eq_self, hk, c0, c1, c2, c3, c4, c5, c6, c7, c8, c9, c10, c11, c12, c13, c14, c15, c16, c17, toI_int, toS_string, toN_tree, toE_tree, toB_bool, wrapSucc (show k < 2 ^ 62 by omega), List.map_cons, List.map_nil, jw1, rw1]
   refine ifC (fun _ => ⟨⟨by omega, by omega⟩, ?_⟩) (fun h' => by omega)
   refine ⟨s, _, rfl, hf.pieces.1, fun y hy => pIf_intro (fun e => ?_) (fun e => ?_), fun hn => ?_⟩
   ·have hyes := yes (fun z hz => by
     have e1 := hy.symm.trans hz
     cases e1
     simpa using e)
    and_intros
    all_goals first
    | rfl
    | exact nlsY rfl
    | exact SY_nls _
    | (rw [SY_add]; exact SY_nls _)
    | (rw [SY_len]; omega)
    | omega
    | (simp only [ByteArray.size_append]; omega)
    | exact hyes
   ·have hno := no (fun hp => hp y hy (by simpa using e))
    and_intros
    all_goals first
    | rfl
    | exact nlsY rfl
    | exact SY_nls _
    | (rw [SY_add]; exact SY_nls _)
    | (rw [SY_len]; omega)
    | omega
    | (simp only [ByteArray.size_append]; omega)
    | exact hno
   ·have hyes := yes (fun z hz => by
     have e1 := hn.symm.trans hz
     cases e1)
    and_intros
    all_goals first
    | rfl
    | exact nlsY rfl
    | exact SY_nls _
    | (rw [SY_add]; exact SY_nls _)
    | (rw [SY_len]; omega)
    | omega
    | (simp only [ByteArray.size_append]; omega)
    | exact hyes
theorem op0 {x : SetupD} {s : StateD} (hf : FitS s) {Post : Out → List (List Value) → Prop} (next : ∀ acc : List ByteArray, acc.length ≤ 1048576 → PLo Post (acc ++ rst1 s) → OKo x s Post 9 (stO1 s acc 0)) : ∀ k, k ≤ (blocksOf s.design).length → ∀ acc : List ByteArray, acc.length ≤ 0 + k → PLo Post (acc ++ (stg (notUp s) ptB ((blocksOf s.design).drop k) ++ rst1 s)) → OKo x s Post 4 (stO0 s acc k) := by
 have hl := blocks_len hf
 have hra := hf.raised
 have hdo := hf.done
 intro k hkn
 induction hn : (blocksOf s.design).length - k generalizing k with
 | zero =>
  obtain rfl : k = (blocksOf s.design).length := by omega
  intro acc ha hp
  rw [stg_end, List.nil_append] at hp
  have nx := next acc (by omega) hp
  cases acc with
  | nil =>
   refine ok_X callO_ok mixed _ (l_op4a x s (blocksOf s.design).length (encL (blocksOf s.design)) (blocksOf s.design).length _ _) ?_
   simp only [true_and, and_true, Nat.le_refl, eq_self, List.map_cons, List.map_nil, toS_string]
   exact ifC (fun h' => by omega) (fun _ => nx)
  | cons a r =>
   refine ok_X callO_ok mixed _ (l_op4b x s (blocksOf s.design).length (encL (blocksOf s.design)) (blocksOf s.design).length _ _ _ _) ?_
   simp only [true_and, and_true, Nat.le_refl, eq_self, List.map_cons, List.map_nil, toS_string]
   exact ifC (fun h' => by omega) (fun _ => ⟨SY_nls _, nx⟩)
 | succ n ihn =>
  intro acc ha hp
  have h1 : k < (blocksOf s.design).length := by omega
  have hk : ((k : Nat) : Int).toNat = k := Int.toNat_natCast k
  have hz := blocks_size hf (List.getElem_mem h1)
  have hs := sw0 (blocksOf s.design)[k]
  rw [stg_drop h1] at hp
  have yes : (notUp s) (blocksOf s.design)[k] → OKo x s Post 4 (stO0 s (acc ++ [ptB (blocksOf s.design)[k]]) (k + 1)) := fun hb => ihn (k + 1) (by omega) (by omega) _ (by rw [List.length_append, List.length_singleton]; omega) (by rw [if_pos hb] at hp; rw [List.append_assoc]; exact hp)
  have no : ¬ (notUp s) (blocksOf s.design)[k] → OKo x s Post 4 (stO0 s acc (k + 1)) := fun hb => ihn (k + 1) (by omega) (by omega) _ (by omega) (by rw [if_neg hb] at hp; exact hp)
  rw [stO0_own] at yes
  have c0 := cell_str h1
  clear ihn hp
  cases acc with
  | nil =>
   refine ok_X callO_ok mixed _ (l_op4a x s (blocksOf s.design).length (encL (blocksOf s.design)) k _ _) ?_
   simp only [true_and, and_true, Nat.le_refl, eq_self, hk, c0, toI_int, toS_string, toN_tree, toE_tree, toB_bool, wrapSucc (show k < 2 ^ 62 by omega), List.map_cons, List.map_nil, jw0, rw0]
   refine ifC (fun _ => ⟨⟨by omega, by omega⟩, ?_⟩) (fun h' => by omega)
   refine ⟨s.raised, _, rfl, rfl, show _ < _ by omega, fun i hi => ifC (fun h0 => ?_) (fun h0 => ?_)⟩
   ·obtain ⟨j, hj, _, hq, _⟩ := hi.yes (by omega)
    have hno := no (fun hp => hp ⟨_, List.getElem_mem hj, hq⟩)
    and_intros
    all_goals first
    | rfl
    | exact nlsY rfl
    | exact SY_nls _
    | (rw [SY_add]; exact SY_nls _)
    | (rw [SY_len]; omega)
    | omega
    | (simp only [ByteArray.size_append]; omega)
    | exact hno
   ·have hyes := yes (fun ⟨r, hr, e⟩ => hi.no (by omega) r hr e)
    and_intros
    all_goals first
    | rfl
    | exact nlsY rfl
    | exact SY_nls _
    | (rw [SY_add]; exact SY_nls _)
    | (rw [SY_len]; omega)
    | omega
    | (simp only [ByteArray.size_append]; omega)
    | exact hyes
  | cons a r =>
   refine ok_X callO_ok mixed _ (l_op4b x s (blocksOf s.design).length (encL (blocksOf s.design)) k _ _ _ _) ?_
   simp only [true_and, and_true, Nat.le_refl, eq_self, hk, c0, toI_int, toS_string, toN_tree, toE_tree, toB_bool, wrapSucc (show k < 2 ^ 62 by omega), List.map_cons, List.map_nil, jw0, rw0]
   refine ifC (fun _ => ⟨⟨by omega, by omega⟩, ?_⟩) (fun h' => by omega)
   refine ⟨s.raised, _, rfl, rfl, show _ < _ by omega, fun i hi => ifC (fun h0 => ?_) (fun h0 => ?_)⟩
   ·obtain ⟨j, hj, _, hq, _⟩ := hi.yes (by omega)
    have hno := no (fun hp => hp ⟨_, List.getElem_mem hj, hq⟩)
    and_intros
    all_goals first
    | rfl
    | exact nlsY rfl
    | exact SY_nls _
    | (rw [SY_add]; exact SY_nls _)
    | (rw [SY_len]; omega)
    | omega
    | (simp only [ByteArray.size_append]; omega)
    | exact hno
   ·have hyes := yes (fun ⟨r, hr, e⟩ => hi.no (by omega) r hr e)
    and_intros
    all_goals first
    | rfl
    | exact nlsY rfl
    | exact SY_nls _
    | (rw [SY_add]; exact SY_nls _)
    | (rw [SY_len]; omega)
    | omega
    | (simp only [ByteArray.size_append]; omega)
    | exact hyes
theorem rop4 {x : SetupD} {s : StateD} (hf : FitS s) {Post : Value → Prop} : ∀ k, k ≤ s.tests.length → ∀ acc : List ByteArray, acc.length ≤ 4194304 + k → PLr Post (acc ++ (stg notPass ptT (s.tests.drop k) ++ rst5 s)) → OKr x s Post 27 (stR4 s acc k) := by
 have hl := hf.tests.1
 have hra := hf.raised
 have hdo := hf.done
 intro k hkn
 induction hn : s.tests.length - k generalizing k with
 | zero =>
  obtain rfl : k = s.tests.length := by omega
  intro acc ha hp
  rw [stg_end, List.nil_append] at hp
  cases acc with
  | nil =>
   refine ok_P vcRo_ok mixed _ (l_rop27a x s s.tests.length _ _) ?_
   simp only [true_and, and_true, Nat.le_refl, eq_self, List.map_cons, List.map_nil, toS_string, joinB_one, List.drop_zero, SY_add]
   unfold rst5 at hp
   refine ifC (fun h' => by omega) (fun _ => ifC (fun e => ?_) (fun e => ?_))
   ·rw [if_pos e] at hp
    and_intros
    all_goals first
    | rfl
    | exact nlsY rfl
    | exact SY_nls _
    | (rw [SY_add]; exact SY_nls _)
    | (rw [SY_len]; omega)
    | omega
    | (simp only [ByteArray.size_append]; omega)
    | exact hp
   ·rw [if_neg e] at hp
    exact hp
  | cons a r =>
   refine ok_P vcRo_ok mixed _ (l_rop27b x s s.tests.length _ _ _ _) ?_
   simp only [true_and, and_true, Nat.le_refl, eq_self, List.map_cons, List.map_nil, toS_string, joinB_one, List.drop_zero, SY_add]
   unfold rst5 at hp
   refine ifC (fun h' => by omega) (fun _ => ifC (fun e => ?_) (fun e => ?_))
   ·rw [if_pos e] at hp
    have e5 := SY_all' (n := (a :: r).length + 1) (a :: r ++ [⟨#[104, 117, 108, 108, 32, 105, 115, 32, 110, 111, 116, 32, 108, 97, 117, 110, 99, 104, 101, 100]⟩]) (by rw [List.length_append]; rfl)
    and_intros
    all_goals first
    | rfl
    | exact nlsY rfl
    | exact SY_nls _
    | (rw [SY_add]; exact SY_nls _)
    | (rw [SY_len]; omega)
    | (rw [SY_len, List.length_append, List.length_singleton]; omega)
    | omega
    | (simp only [ByteArray.size_append]; omega)
    | exact Eq.mp (congrArg Post e5.symm) hp
   ·rw [if_neg e, List.append_nil] at hp
    rw [SY_all' _ rfl]
    exact ⟨⟨by rw [SY_len]; omega, SY_nls _⟩, hp⟩
 | succ n ihn =>
  intro acc ha hp
  have h1 : k < s.tests.length := by omega
  have hk : ((k : Nat) : Int).toNat = k := Int.toNat_natCast k
  have hz := hf.tests.2 _ (List.getElem_mem h1)
  have hs := sw4 s.tests[k]
  rw [stg_drop h1] at hp
  have yes : notPass s.tests[k] → OKr x s Post 27 (stR4 s (acc ++ [ptT s.tests[k]]) (k + 1)) := fun hb => ihn (k + 1) (by omega) (by omega) _ (by rw [List.length_append, List.length_singleton]; omega) (by rw [if_pos hb] at hp; rw [List.append_assoc]; exact hp)
  have no : ¬ notPass s.tests[k] → OKr x s Post 27 (stR4 s acc (k + 1)) := fun hb => ihn (k + 1) (by omega) (by omega) _ (by omega) (by rw [if_neg hb] at hp; exact hp)
  rw [stR4_own] at yes
  have hcs := cell_Test3 h1
  obtain ⟨c0, c1, c2⟩ := hcs
  have w1 : (⟨#[116, 101, 115, 116, 32]⟩ : ByteArray).size = 5 := rfl
  clear ihn hp
  cases acc with
  | nil =>
   refine ok_P vcRo_ok mixed _ (l_rop27a x s k _ _) ?_
   simp only [true_and, and_true, Nat.le_refl, eq_self, hk, c0, c1, c2, toI_int, toS_string, toN_tree, toE_tree, toB_bool, wrapSucc (show k < 2 ^ 62 by omega), List.map_cons, List.map_nil, jw4, rw4]
   refine ifC (fun _ => ⟨⟨by omega, by omega⟩, ?_⟩) (fun h' => by omega)
   refine pIf_intro (fun e => ?_) (fun e => ?_)
   ·have hno := no (fun hp => by rw [hp] at e; cases e)
    and_intros
    all_goals first
    | rfl
    | exact nlsY rfl
    | exact SY_nls _
    | (rw [SY_add]; exact SY_nls _)
    | (rw [SY_len]; omega)
    | omega
    | (simp only [ByteArray.size_append]; omega)
    | exact hno
   ·have hyes := yes e
    and_intros
    all_goals first
    | rfl
    | exact nlsY rfl
    | exact SY_nls _
    | (rw [SY_add]; exact SY_nls _)
    | (rw [SY_len]; omega)
    | omega
    | (simp only [ByteArray.size_append]; omega)
    | exact hyes
  | cons a r =>
   refine ok_P vcRo_ok mixed _ (l_rop27b x s k _ _ _ _) ?_
   simp only [true_and, and_true, Nat.le_refl, eq_self, hk, c0, c1, c2, toI_int, toS_string, toN_tree, toE_tree, toB_bool, wrapSucc (show k < 2 ^ 62 by omega), List.map_cons, List.map_nil, jw4, rw4]
   refine ifC (fun _ => ⟨⟨by omega, by omega⟩, ?_⟩) (fun h' => by omega)
   refine pIf_intro (fun e => ?_) (fun e => ?_)
   ·have hno := no (fun hp => by rw [hp] at e; cases e)
    and_intros
    all_goals first
    | rfl
    | exact nlsY rfl
    | exact SY_nls _
    | (rw [SY_add]; exact SY_nls _)
    | (rw [SY_len]; omega)
    | omega
    | (simp only [ByteArray.size_append]; omega)
    | exact hno
   ·have hyes := yes e
    and_intros
    all_goals first
    | rfl
    | exact nlsY rfl
    | exact SY_nls _
    | (rw [SY_add]; exact SY_nls _)
    | (rw [SY_len]; omega)
    | omega
    | (simp only [ByteArray.size_append]; omega)
    | exact hyes
theorem rop3 {x : SetupD} {s : StateD} (hf : FitS s) {Post : Value → Prop} (next : ∀ acc : List ByteArray, acc.length ≤ 4194304 → PLr Post (acc ++ rst4 s) → OKr x s Post 27 (stR4 s acc 0)) : ∀ k, k ≤ s.design.packs.length → ∀ acc : List ByteArray, acc.length ≤ 3145728 + k → PLr Post (acc ++ (stg (notDone s) ptK (s.design.packs.drop k) ++ rst4 s)) → OKr x s Post 22 (stR3 s acc k) := by
 have hl := hf.packs.1
 have hra := hf.raised
 have hdo := hf.done
 intro k hkn
 induction hn : s.design.packs.length - k generalizing k with
 | zero =>
  obtain rfl : k = s.design.packs.length := by omega
  intro acc ha hp
  rw [stg_end, List.nil_append] at hp
  have nx := next acc (by omega) hp
  cases acc with
  | nil =>
   refine ok_P vcRo_ok mixed _ (l_rop22a x s s.design.packs.length _ _) ?_
   simp only [true_and, and_true, Nat.le_refl, eq_self, List.map_cons, List.map_nil, toS_string]
   exact ifC (fun h' => by omega) (fun _ => nx)
  | cons a r =>
   refine ok_P vcRo_ok mixed _ (l_rop22b x s s.design.packs.length _ _ _ _) ?_
   simp only [true_and, and_true, Nat.le_refl, eq_self, List.map_cons, List.map_nil, toS_string]
   exact ifC (fun h' => by omega) (fun _ => ⟨SY_nls _, nx⟩)
 | succ n ihn =>
  intro acc ha hp
  have h1 : k < s.design.packs.length := by omega
  have hk : ((k : Nat) : Int).toNat = k := Int.toNat_natCast k
  have hz := hf.packs.2 _ (List.getElem_mem h1)
  have hs := sw3 s.design.packs[k]
  rw [stg_drop h1] at hp
  have yes : (notDone s) s.design.packs[k] → OKr x s Post 22 (stR3 s (acc ++ [ptK s.design.packs[k]]) (k + 1)) := fun hb => ihn (k + 1) (by omega) (by omega) _ (by rw [List.length_append, List.length_singleton]; omega) (by rw [if_pos hb] at hp; rw [List.append_assoc]; exact hp)
  have no : ¬ (notDone s) s.design.packs[k] → OKr x s Post 22 (stR3 s acc (k + 1)) := fun hb => ihn (k + 1) (by omega) (by omega) _ (by omega) (by rw [if_neg hb] at hp; exact hp)
  rw [stR3_own] at yes
  have hcs := cell_Pack5 h1
  obtain ⟨c0, c1, c2, c3, c4⟩ := hcs
  have w1 : (⟨#[112, 97, 99, 107, 97, 103, 101, 32]⟩ : ByteArray).size = 8 := rfl
  clear ihn hp
  cases acc with
  | nil =>
   refine ok_P vcRo_ok mixed _ (l_rop22a x s k _ _) ?_
   simp only [true_and, and_true, Nat.le_refl, eq_self, hk, c0, c1, c2, c3, c4, toI_int, toS_string, toN_tree, toE_tree, toB_bool, wrapSucc (show k < 2 ^ 62 by omega), List.map_cons, List.map_nil, jw3, rw3]
   refine ifC (fun _ => ⟨⟨by omega, by omega⟩, ?_⟩) (fun h' => by omega)
   refine ⟨s.done, _, rfl, show _ < _ by omega, ifC (fun e => ?_) (fun e => ?_)⟩
   ·have hno := no (fun hp => hp e)
    and_intros
    all_goals first
    | rfl
    | exact nlsY rfl
    | exact SY_nls _
    | (rw [SY_add]; exact SY_nls _)
    | (rw [SY_len]; omega)
    | omega
    | (simp only [ByteArray.size_append]; omega)
    | exact hno
   ·have hyes := yes e
    and_intros
    all_goals first
    | rfl
    | exact nlsY rfl
    | exact SY_nls _
    | (rw [SY_add]; exact SY_nls _)
    | (rw [SY_len]; omega)
    | omega
    | (simp only [ByteArray.size_append]; omega)
    | exact hyes
  | cons a r =>
   refine ok_P vcRo_ok mixed _ (l_rop22b x s k _ _ _ _) ?_
   simp only [true_and, and_true, Nat.le_refl, eq_self, hk, c0, c1, c2, c3, c4, toI_int, toS_string, toN_tree, toE_tree, toB_bool, wrapSucc (show k < 2 ^ 62 by omega), List.map_cons, List.map_nil, jw3, rw3]
   refine ifC (fun _ => ⟨⟨by omega, by omega⟩, ?_⟩) (fun h' => by omega)
   refine ⟨s.done, _, rfl, show _ < _ by omega, ifC (fun e => ?_) (fun e => ?_)⟩
   ·have hno := no (fun hp => hp e)
    and_intros
    all_goals first
    | rfl
    | exact nlsY rfl
    | exact SY_nls _
    | (rw [SY_add]; exact SY_nls _)
    | (rw [SY_len]; omega)
    | omega
    | (simp only [ByteArray.size_append]; omega)
    | exact hno
   ·have hyes := yes e
    and_intros
    all_goals first
    | rfl
    | exact nlsY rfl
    | exact SY_nls _
    | (rw [SY_add]; exact SY_nls _)
    | (rw [SY_len]; omega)
    | omega
    | (simp only [ByteArray.size_append]; omega)
    | exact hyes
theorem rop2 {x : SetupD} {s : StateD} (hf : FitS s) {Post : Value → Prop} (next : ∀ acc : List ByteArray, acc.length ≤ 3145728 → PLr Post (acc ++ rst3 s) → OKr x s Post 22 (stR3 s acc 0)) : ∀ k, k ≤ s.design.seams.length → ∀ acc : List ByteArray, acc.length ≤ 2097152 + k → PLr Post (acc ++ (stg (notAcc s) ptS (s.design.seams.drop k) ++ rst3 s)) → OKr x s Post 16 (stR2 s acc k) := by
 have hl := hf.seams.1
 have hra := hf.raised
 have hdo := hf.done
 intro k hkn
 induction hn : s.design.seams.length - k generalizing k with
 | zero =>
  obtain rfl : k = s.design.seams.length := by omega
  intro acc ha hp
  rw [stg_end, List.nil_append] at hp
  have nx := next acc (by omega) hp
  cases acc with
  | nil =>
   refine ok_P vcRo_ok mixed _ (l_rop16a x s s.design.seams.length _ _) ?_
   simp only [true_and, and_true, Nat.le_refl, eq_self, List.map_cons, List.map_nil, toS_string]
   exact ifC (fun h' => by omega) (fun _ => nx)
  | cons a r =>
   refine ok_P vcRo_ok mixed _ (l_rop16b x s s.design.seams.length _ _ _ _) ?_
   simp only [true_and, and_true, Nat.le_refl, eq_self, List.map_cons, List.map_nil, toS_string]
   exact ifC (fun h' => by omega) (fun _ => ⟨SY_nls _, nx⟩)
 | succ n ihn =>
  intro acc ha hp
  have h1 : k < s.design.seams.length := by omega
  have hk : ((k : Nat) : Int).toNat = k := Int.toNat_natCast k
  have hz := (hf.seams.2 _ (List.getElem_mem h1)).1
  have hs := sw2 s.design.seams[k]
  rw [stg_drop h1] at hp
  have yes : (notAcc s) s.design.seams[k] → OKr x s Post 16 (stR2 s (acc ++ [ptS s.design.seams[k]]) (k + 1)) := fun hb => ihn (k + 1) (by omega) (by omega) _ (by rw [List.length_append, List.length_singleton]; omega) (by rw [if_pos hb] at hp; rw [List.append_assoc]; exact hp)
  have no : ¬ (notAcc s) s.design.seams[k] → OKr x s Post 16 (stR2 s acc (k + 1)) := fun hb => ihn (k + 1) (by omega) (by omega) _ (by omega) (by rw [if_neg hb] at hp; exact hp)
  rw [stR2_own] at yes
  have hcs := cell_SeamY h1
  obtain ⟨c0, c1, c2, c3, c4, c5⟩ := hcs
  have w1 : (⟨#[115, 101, 97, 109, 32]⟩ : ByteArray).size = 5 := rfl
  clear ihn hp
  cases acc with
  | nil =>
   refine ok_P vcRo_ok mixed _ (l_rop16a x s k _ _) ?_
   simp only [true_and, and_true, Nat.le_refl, eq_self, hk, c0, c1, c2, c3, c4, c5, toI_int, toS_string, toN_tree, toE_tree, toB_bool, wrapSucc (show k < 2 ^ 62 by omega), List.map_cons, List.map_nil, jw2, rw2]
   refine ifC (fun _ => ⟨⟨by omega, by omega⟩, ?_⟩) (fun h' => by omega)
   refine ⟨s, _, rfl, hf.welds.1, fun x hx => (hf.welds.2 x hx).2.2.2.2.1, fun y hy => pIf_intro (fun e => ?_) (fun e => ?_), fun hn => ?_⟩
   ·have hyes := yes (fun z hz => by
     have e1 := hy.symm.trans hz
     cases e1
     simpa using e)
    and_intros
    all_goals first
    | rfl
    | exact nlsY rfl
    | exact SY_nls _
    | (rw [SY_add]; exact SY_nls _)
    | (rw [SY_len]; omega)
    | omega
    | (simp only [ByteArray.size_append]; omega)
    | exact hyes
   ·have hno := no (fun hp => hp y hy (by simpa using e))
    and_intros
    all_goals first
    | rfl
    | exact nlsY rfl
    | exact SY_nls _
    | (rw [SY_add]; exact SY_nls _)
    | (rw [SY_len]; omega)
    | omega
    | (simp only [ByteArray.size_append]; omega)
    | exact hno
   ·have hyes := yes (fun z hz => by
     have e1 := hn.symm.trans hz
     cases e1)
    and_intros
    all_goals first
    | rfl
    | exact nlsY rfl
    | exact SY_nls _
    | (rw [SY_add]; exact SY_nls _)
    | (rw [SY_len]; omega)
    | omega
    | (simp only [ByteArray.size_append]; omega)
    | exact hyes
  | cons a r =>
   refine ok_P vcRo_ok mixed _ (l_rop16b x s k _ _ _ _) ?_
   simp only [true_and, and_true, Nat.le_refl, eq_self, hk, c0, c1, c2, c3, c4, c5, toI_int, toS_string, toN_tree, toE_tree, toB_bool, wrapSucc (show k < 2 ^ 62 by omega), List.map_cons, List.map_nil, jw2, rw2]
   refine ifC (fun _ => ⟨⟨by omega, by omega⟩, ?_⟩) (fun h' => by omega)
   refine ⟨s, _, rfl, hf.welds.1, fun x hx => (hf.welds.2 x hx).2.2.2.2.1, fun y hy => pIf_intro (fun e => ?_) (fun e => ?_), fun hn => ?_⟩
   ·have hyes := yes (fun z hz => by
     have e1 := hy.symm.trans hz
     cases e1
     simpa using e)
    and_intros
    all_goals first
    | rfl
    | exact nlsY rfl
    | exact SY_nls _
    | (rw [SY_add]; exact SY_nls _)
    | (rw [SY_len]; omega)
    | omega
    | (simp only [ByteArray.size_append]; omega)
    | exact hyes
   ·have hno := no (fun hp => hp y hy (by simpa using e))
    and_intros
    all_goals first
    | rfl
    | exact nlsY rfl
    | exact SY_nls _
    | (rw [SY_add]; exact SY_nls _)
    | (rw [SY_len]; omega)
    | omega
    | (simp only [ByteArray.size_append]; omega)
    | exact hno
   ·have hyes := yes (fun z hz => by
     have e1 := hn.symm.trans hz
     cases e1)
    and_intros
    all_goals first
    | rfl
    | exact nlsY rfl
    | exact SY_nls _
    | (rw [SY_add]; exact SY_nls _)
    | (rw [SY_len]; omega)
    | omega
    | (simp only [ByteArray.size_append]; omega)
    | exact hyes
theorem rop1 {x : SetupD} {s : StateD} (hf : FitS s) {Post : Value → Prop} (next : ∀ acc : List ByteArray, acc.length ≤ 2097152 → PLr Post (acc ++ rst2 s) → OKr x s Post 16 (stR2 s acc 0)) : ∀ k, k ≤ s.design.parts.length → ∀ acc : List ByteArray, acc.length ≤ 1048576 + k → PLr Post (acc ++ (stg (notFit s) ptP (s.design.parts.drop k) ++ rst2 s)) → OKr x s Post 10 (stR1 s acc k) := by
 have hl := hf.parts.1
 have hra := hf.raised
 have hdo := hf.done
 intro k hkn
 induction hn : s.design.parts.length - k generalizing k with
 | zero =>
  obtain rfl : k = s.design.parts.length := by omega
  intro acc ha hp
  rw [stg_end, List.nil_append] at hp
  have nx := next acc (by omega) hp
  cases acc with
  | nil =>
   refine ok_P vcRo_ok mixed _ (l_rop10a x s s.design.parts.length _ _) ?_
   simp only [true_and, and_true, Nat.le_refl, eq_self, List.map_cons, List.map_nil, toS_string]
   exact ifC (fun h' => by omega) (fun _ => nx)
  | cons a r =>
   refine ok_P vcRo_ok mixed _ (l_rop10b x s s.design.parts.length _ _ _ _) ?_
   simp only [true_and, and_true, Nat.le_refl, eq_self, List.map_cons, List.map_nil, toS_string]
   exact ifC (fun h' => by omega) (fun _ => ⟨SY_nls _, nx⟩)
 | succ n ihn =>
  intro acc ha hp
  have h1 : k < s.design.parts.length := by omega
  have hk : ((k : Nat) : Int).toNat = k := Int.toNat_natCast k
  have hz := (hf.parts.2 _ (List.getElem_mem h1)).1
  have hs := sw1 s.design.parts[k]
  rw [stg_drop h1] at hp
  have yes : (notFit s) s.design.parts[k] → OKr x s Post 10 (stR1 s (acc ++ [ptP s.design.parts[k]]) (k + 1)) := fun hb => ihn (k + 1) (by omega) (by omega) _ (by rw [List.length_append, List.length_singleton]; omega) (by rw [if_pos hb] at hp; rw [List.append_assoc]; exact hp)
  have no : ¬ (notFit s) s.design.parts[k] → OKr x s Post 10 (stR1 s acc (k + 1)) := fun hb => ihn (k + 1) (by omega) (by omega) _ (by omega) (by rw [if_neg hb] at hp; exact hp)
  rw [stR1_own] at yes
  have hcs := cell_PartY h1
  obtain ⟨c0, c1, c2, c3, c4, c5, c6, c7, c8, c9, c10, c11, c12, c13, c14, c15, c16, c17⟩ := hcs
  have w1 : (⟨#[112, 97, 114, 116, 32]⟩ : ByteArray).size = 5 := rfl
  clear ihn hp
  cases acc with
  | nil =>
   refine ok_P vcRo_ok mixed _ (l_rop10a x s k _ _) ?_
   simp only [true_and, and_true, Nat.le_refl, eq_self, hk, c0, c1, c2, c3, c4, c5, c6, c7, c8, c9, c10, c11, c12, c13, c14, c15, c16, c17, toI_int, toS_string, toN_tree, toE_tree, toB_bool, wrapSucc (show k < 2 ^ 62 by omega), List.map_cons, List.map_nil, jw1, rw1]
   refine ifC (fun _ => ⟨⟨by omega, by omega⟩, ?_⟩) (fun h' => by omega)
   refine ⟨s, _, rfl, hf.pieces.1, fun y hy => pIf_intro (fun e => ?_) (fun e => ?_), fun hn => ?_⟩
   ·have hyes := yes (fun z hz => by
     have e1 := hy.symm.trans hz
     cases e1
     simpa using e)
    and_intros
    all_goals first
    | rfl
    | exact nlsY rfl
    | exact SY_nls _
    | (rw [SY_add]; exact SY_nls _)
    | (rw [SY_len]; omega)
    | omega
    | (simp only [ByteArray.size_append]; omega)
    | exact hyes
   ·have hno := no (fun hp => hp y hy (by simpa using e))
    and_intros
    all_goals first
    | rfl
    | exact nlsY rfl
    | exact SY_nls _
    | (rw [SY_add]; exact SY_nls _)
    | (rw [SY_len]; omega)
    | omega
    | (simp only [ByteArray.size_append]; omega)
    | exact hno
   ·have hyes := yes (fun z hz => by
     have e1 := hn.symm.trans hz
     cases e1)
    and_intros
    all_goals first
    | rfl
    | exact nlsY rfl
    | exact SY_nls _
    | (rw [SY_add]; exact SY_nls _)
    | (rw [SY_len]; omega)
    | omega
    | (simp only [ByteArray.size_append]; omega)
    | exact hyes
  | cons a r =>
   refine ok_P vcRo_ok mixed _ (l_rop10b x s k _ _ _ _) ?_
   simp only [true_and, and_true, Nat.le_refl, eq_self, hk, c0, c1, c2, c3, c4, c5, c6, c7, c8, c9, c10, c11, c12, c13, c14, c15, c16, c17, toI_int, toS_string, toN_tree, toE_tree, toB_bool, wrapSucc (show k < 2 ^ 62 by omega), List.map_cons, List.map_nil, jw1, rw1]
   refine ifC (fun _ => ⟨⟨by omega, by omega⟩, ?_⟩) (fun h' => by omega)
   refine ⟨s, _, rfl, hf.pieces.1, fun y hy => pIf_intro (fun e => ?_) (fun e => ?_), fun hn => ?_⟩
   ·have hyes := yes (fun z hz => by
     have e1 := hy.symm.trans hz
     cases e1
     simpa using e)
    and_intros
    all_goals first
    | rfl
    | exact nlsY rfl
    | exact SY_nls _
    | (rw [SY_add]; exact SY_nls _)
    | (rw [SY_len]; omega)
    | omega
    | (simp only [ByteArray.size_append]; omega)
    | exact hyes
   ·have hno := no (fun hp => hp y hy (by simpa using e))
    and_intros
    all_goals first
    | rfl
    | exact nlsY rfl
    | exact SY_nls _
    | (rw [SY_add]; exact SY_nls _)
    | (rw [SY_len]; omega)
    | omega
    | (simp only [ByteArray.size_append]; omega)
    | exact hno
   ·have hyes := yes (fun z hz => by
     have e1 := hn.symm.trans hz
     cases e1)
    and_intros
    all_goals first
    | rfl
    | exact nlsY rfl
    | exact SY_nls _
    | (rw [SY_add]; exact SY_nls _)
    | (rw [SY_len]; omega)
    | omega
    | (simp only [ByteArray.size_append]; omega)
    | exact hyes
theorem rop0 {x : SetupD} {s : StateD} (hf : FitS s) {Post : Value → Prop} (next : ∀ acc : List ByteArray, acc.length ≤ 1048576 → PLr Post (acc ++ rst1 s) → OKr x s Post 10 (stR1 s acc 0)) : ∀ k, k ≤ (blocksOf s.design).length → ∀ acc : List ByteArray, acc.length ≤ 0 + k → PLr Post (acc ++ (stg (notUp s) ptB ((blocksOf s.design).drop k) ++ rst1 s)) → OKr x s Post 5 (stR0 s acc k) := by
 have hl := blocks_len hf
 have hra := hf.raised
 have hdo := hf.done
 intro k hkn
 induction hn : (blocksOf s.design).length - k generalizing k with
 | zero =>
  obtain rfl : k = (blocksOf s.design).length := by omega
  intro acc ha hp
  rw [stg_end, List.nil_append] at hp
  have nx := next acc (by omega) hp
  cases acc with
  | nil =>
   refine ok_P vcRo_ok mixed _ (l_rop5a x s (blocksOf s.design).length (encL (blocksOf s.design)) (blocksOf s.design).length _ _) ?_
   simp only [true_and, and_true, Nat.le_refl, eq_self, List.map_cons, List.map_nil, toS_string]
   exact ifC (fun h' => by omega) (fun _ => nx)
  | cons a r =>
   refine ok_P vcRo_ok mixed _ (l_rop5b x s (blocksOf s.design).length (encL (blocksOf s.design)) (blocksOf s.design).length _ _ _ _) ?_
   simp only [true_and, and_true, Nat.le_refl, eq_self, List.map_cons, List.map_nil, toS_string]
   exact ifC (fun h' => by omega) (fun _ => ⟨SY_nls _, nx⟩)
 | succ n ihn =>
  intro acc ha hp
  have h1 : k < (blocksOf s.design).length := by omega
  have hk : ((k : Nat) : Int).toNat = k := Int.toNat_natCast k
  have hz := blocks_size hf (List.getElem_mem h1)
  have hs := sw0 (blocksOf s.design)[k]
  rw [stg_drop h1] at hp
  have yes : (notUp s) (blocksOf s.design)[k] → OKr x s Post 5 (stR0 s (acc ++ [ptB (blocksOf s.design)[k]]) (k + 1)) := fun hb => ihn (k + 1) (by omega) (by omega) _ (by rw [List.length_append, List.length_singleton]; omega) (by rw [if_pos hb] at hp; rw [List.append_assoc]; exact hp)
  have no : ¬ (notUp s) (blocksOf s.design)[k] → OKr x s Post 5 (stR0 s acc (k + 1)) := fun hb => ihn (k + 1) (by omega) (by omega) _ (by omega) (by rw [if_neg hb] at hp; exact hp)
  rw [stR0_own] at yes
  have c0 := cell_str h1
  have w1 : (⟨#[98, 108, 111, 99, 107, 32]⟩ : ByteArray).size = 6 := rfl
  clear ihn hp
  cases acc with
  | nil =>
   refine ok_P vcRo_ok mixed _ (l_rop5a x s (blocksOf s.design).length (encL (blocksOf s.design)) k _ _) ?_
   simp only [true_and, and_true, Nat.le_refl, eq_self, hk, c0, toI_int, toS_string, toN_tree, toE_tree, toB_bool, wrapSucc (show k < 2 ^ 62 by omega), List.map_cons, List.map_nil, jw0, rw0]
   refine ifC (fun _ => ⟨⟨by omega, by omega⟩, ?_⟩) (fun h' => by omega)
   refine ⟨s, _, rfl, hf.raised, ifC (fun e => ?_) (fun e => ?_)⟩
   ·have hno := no (fun hp => hp e)
    and_intros
    all_goals first
    | rfl
    | exact nlsY rfl
    | exact SY_nls _
    | (rw [SY_add]; exact SY_nls _)
    | (rw [SY_len]; omega)
    | omega
    | (simp only [ByteArray.size_append]; omega)
    | exact hno
   ·have hyes := yes e
    and_intros
    all_goals first
    | rfl
    | exact nlsY rfl
    | exact SY_nls _
    | (rw [SY_add]; exact SY_nls _)
    | (rw [SY_len]; omega)
    | omega
    | (simp only [ByteArray.size_append]; omega)
    | exact hyes
  | cons a r =>
   refine ok_P vcRo_ok mixed _ (l_rop5b x s (blocksOf s.design).length (encL (blocksOf s.design)) k _ _ _ _) ?_
   simp only [true_and, and_true, Nat.le_refl, eq_self, hk, c0, toI_int, toS_string, toN_tree, toE_tree, toB_bool, wrapSucc (show k < 2 ^ 62 by omega), List.map_cons, List.map_nil, jw0, rw0]
   refine ifC (fun _ => ⟨⟨by omega, by omega⟩, ?_⟩) (fun h' => by omega)
   refine ⟨s, _, rfl, hf.raised, ifC (fun e => ?_) (fun e => ?_)⟩
   ·have hno := no (fun hp => hp e)
    and_intros
    all_goals first
    | rfl
    | exact nlsY rfl
    | exact SY_nls _
    | (rw [SY_add]; exact SY_nls _)
    | (rw [SY_len]; omega)
    | omega
    | (simp only [ByteArray.size_append]; omega)
    | exact hno
   ·have hyes := yes e
    and_intros
    all_goals first
    | rfl
    | exact nlsY rfl
    | exact SY_nls _
    | (rw [SY_add]; exact SY_nls _)
    | (rw [SY_len]; omega)
    | omega
    | (simp only [ByteArray.size_append]; omega)
    | exact hyes
def c_open (args : List Value) (Post : Value → Prop) : Prop := ∃ (x : SetupD) (s : StateD), args = [setupDV x, stateDV s] ∧ FitS s ∧ Post (trY (openL s))
theorem ok_open : EntOk Tryz.prog ⟨12, c_open⟩ := by
 rintro args Post ⟨x, s, rfl, hf, h⟩
 refine pureX ?_
 refine spec_X (conts := []) callO_ok mixed (by kernel_rfl) (by kernel_rfl) _ (e_op x s _ _) ?_
 simp only [true_and, and_true, Nat.le_refl]
 refine ⟨s.design, rfl, hf.nodes.1, ?_⟩
 exact op0 hf (fun acc ha hp => op1 hf (fun acc ha hp => op2 hf (fun acc ha hp => op3 hf (fun acc ha hp => op4 hf 0 (Nat.zero_le _) acc ha hp) 0 (Nat.zero_le _) acc ha hp) 0 (Nat.zero_le _) acc ha hp) 0 (Nat.zero_le _) acc ha hp) 0 (Nat.zero_le _) [] (Nat.zero_le _) h
theorem ok_ropen : EntOk Tryz.prog ⟨13, c_open⟩ := by
 rintro args Post ⟨x, s, rfl, hf, h⟩
 refine pure_P vcRo_ok mixed (by kernel_rfl) (by kernel_rfl) _ (e_rop x s _ _) ?_
 simp only [true_and, and_true, Nat.le_refl]
 refine ⟨s.design, rfl, hf.nodes.1, ?_⟩
 exact rop0 hf (fun acc ha hp => rop1 hf (fun acc ha hp => rop2 hf (fun acc ha hp => rop3 hf (fun acc ha hp => rop4 hf 0 (Nat.zero_le _) acc ha hp) 0 (Nat.zero_le _) acc ha hp) 0 (Nat.zero_le _) acc ha hp) 0 (Nat.zero_le _) acc ha hp) 0 (Nat.zero_le _) [] (Nat.zero_le _) h
end Go.Proofs.YtojlhapbngcjkaaGreatDoor
