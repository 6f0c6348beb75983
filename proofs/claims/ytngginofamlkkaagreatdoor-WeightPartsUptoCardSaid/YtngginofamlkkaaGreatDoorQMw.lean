/-
  Put together out of several texts, each in its own namespace's block. Conditions: as each theorem states them.
-/
import Derived.Test.YtngginofamlkkaaGreatDoorQSgb
import Derived.Test.YtngginofamlkkaaGreatDoorQMe
import Derived.Test.YtngginofamlkkaaGreatDoorQLb
import Derived.Test.YtngginofamlkkaaGreatDoorRows
import Derived.Test.YtngginofamlkkaaGreatDoorQPwd
import Derived.Test.YtngginofamlkkaaGreatDoorChecked
import Derived.Test.YtngginofamlkkaaGreatDoorQEva
import Derived.MakeChecks
import Derived.OpenShut
import Derived.ChangeBears2
noncomputable section
namespace Go.Proofs.YtngginofamlkkaaGreatDoor
open Go Go.RowKit
set_option maxRecDepth 100000
set_option maxHeartbeats 8000000
theorem awake_yields : yields Tryz.prog 300 39 = true := by kernel_rfl
def c_awake (args : List Value) (Post : Value → Prop) : Prop := args = [] ∧ Post (.bool true)
theorem ok_awake : EntOk Tryz.prog ⟨39, c_awake⟩ := pure_yields mixed awake_yields
def few17 (d : Design6) (n : Int) : Prop := (d.nodes.length : Int) ≤ n ∧ (d.parts.length : Int) ≤ n ∧ (d.seams.length : Int) ≤ n ∧ (d.packs.length : Int) ≤ n ∧ (d.needs.length : Int) ≤ n ∧ ∀ p ∈ d.packs, (p.parts.length : Int) ≤ n ∧ (p.after.length : Int) ≤ n
instance (d : Design6) (n : Int) : Decidable (few17 d n) := by unfold few17; infer_instance
def c_few17 (args : List Value) (Post : Value → Prop) : Prop := ∃ (d : Design6) (n : Int), args = [design6V d, .int .i64 n] ∧ n ≤ 1000 ∧ Post (.bool (decide (few17 d n)))
theorem e_few17 (d : Design6) (n : Int) (H : HT) (Post : PV) : vcP Tryz.prog noCall 38 [(4, [1, 2, 5])] [design6V d, .int .i64 n] H Post = (T4 (T2 (True ∧ pIf (decide ((↑(List.length (Design6.nodes d)) : Int) > n)) (T8 (T2 (Post (vb false)))) (T4 (T2 (pIf (decide ((↑(List.length (Design6.parts d)) : Int) > n)) (T8 (True ∧ Post (vb false))) (T4 (T2 (True ∧ pIf (decide ((↑(List.length (Design6.seams d)) : Int) > n)) (T4 (T2 (True ∧ Post (vb false)))) (T4 (T2 (True ∧ pIf (decide ((↑(List.length (Design6.packs d)) : Int) > n)) (T4 (True ∧ Post (vb false))) (T4 (T2 (True ∧ pIf (decide ((↑(List.length (Design6.needs d)) : Int) > n)) (T2 (True ∧ Post (vb false))) (T2 (True ∧ (True ∧ True) ∧ H (lpC Tryz.prog 38 4) (lpK Tryz.prog 38 4) (stV [(1, some (vi n)), (2, some (pt 0)), (5, some (vi 0))] [(0, some (AObj.cells [vs (Design6.hull d), tree 3 (List.length (Design6.nodes d)) (encL (Design6.nodes d)), tree 18 (List.length (Design6.parts d)) (encL (Design6.parts d)), tree 6 (List.length (Design6.seams d)) (encL (Design6.seams d)), tree 5 (List.length (Design6.packs d)) (encL (Design6.packs d)), tree 3 (List.length (Design6.needs d)) (encL (Design6.needs d))] true))] 1)))))))))))))))))) := by kernel_rfl
theorem l_few17 (d : Design6) (n k : Int) (H : HT) (Post : PV) : vcLP Tryz.prog noCall 38 [design6V d, .int .i64 n] [(4, [1, 2, 5])] 4 (stV [(1, some (.int .i64 n)), (2, some (.pointer (some ⟨0, 0, none⟩))), (5, some (.int .i64 k))] [(0, some (.cells (design6C d) true))] 1) H Post = (let q2 := List.length (Design6.packs d); let q1 := encL (Design6.packs d); T4 (True ∧ pIf (decide (k < (↑q2 : Int))) (T2 (True ∧ (0 ≤ k ∧ k < (↑q2 : Int)) ∧ True ∧ cellAt q1 (Int.toNat k) 2 = tree 1 (toN (cellAt q1 (Int.toNat k) 2)) (toE (cellAt q1 (Int.toNat k) 2)) ∧ T2 (True ∧ pIf (decide ((↑(toN (cellAt q1 (Int.toNat k) 2)) : Int) > n)) (T4 (Post (vb false))) (T4 ((0 ≤ k ∧ k < (↑q2 : Int)) ∧ True ∧ cellAt q1 (Int.toNat k) 4 = tree 1 (toN (cellAt q1 (Int.toNat k) 4)) (toE (cellAt q1 (Int.toNat k) 4)) ∧ T2 (True ∧ pIf (decide ((↑(toN (cellAt q1 (Int.toNat k) 4)) : Int) > n)) (T2 (True ∧ Post (vb false))) (T4 (True ∧ (True ∧ True) ∧ H (lpC Tryz.prog 38 4) (lpK Tryz.prog 38 4) (stV [(1, some (vi n)), (2, some (pt 0)), (5, some (vi (IntKind.wrap IntKind.i64 (k + 1))))] [(0, some (AObj.cells [vs (Design6.hull d), tree 3 (List.length (Design6.nodes d)) (encL (Design6.nodes d)), tree 18 (List.length (Design6.parts d)) (encL (Design6.parts d)), tree 6 (List.length (Design6.seams d)) (encL (Design6.seams d)), tree 5 q2 q1, tree 3 (List.length (Design6.needs d)) (encL (Design6.needs d))] true))] 1))))))))) (T2 (Post (vb true))))) := by kernel_rfl
theorem cell_pack {l : List Pack5} {k : Nat} (h : k < l.length) (j : Nat) : cellAt (encL l) k j = ((pack5C l[k])[j]?).getD undef := cellAt_encL' h
theorem ok_few17 : EntOk Tryz.prog ⟨38, c_few17⟩ := by
 rintro args Post ⟨d, n, rfl, hn, h⟩
 refine pure_P noCall_ok mixed (by kernel_rfl) (by kernel_rfl) _ (e_few17 d n _ _) ?_
 simp only [true_and]
 have no : ¬ few17 d n → Post (.bool false) := fun hq => by rwa [decide_eq_false hq] at h
 have yes : few17 d n → Post (.bool true) := fun hq => by rwa [decide_eq_true hq] at h
 refine ifD (fun g1 => no fun hq => by have := hq.1; omega) (fun g1 => ifD (fun g2 => no fun hq => by have := hq.2.1; omega) (fun g2 => ifD (fun g3 => no fun hq => by have := hq.2.2.1; omega) (fun g3 => ifD (fun g4 => no fun hq => by have := hq.2.2.2.1; omega) (fun g4 => ifD (fun g5 => no fun hq => by have := hq.2.2.2.2.1; omega) (fun g5 => ?_)))))
 refine down (n := d.packs.length) (p := fun k => (∀ i (hi : i < d.packs.length), i < k → ((d.packs[i].parts.length : Int) ≤ n ∧ (d.packs[i].after.length : Int) ≤ n)) → OkP 38 [design6V d, .int .i64 n] 4 Post (stV [(1, some (.int .i64 n)), (2, some (.pointer (some ⟨0, 0, none⟩))), (5, some (.int .i64 k))] [(0, some (.cells (design6C d) true))] 1)) (fun hall => ?_) (fun k k1 ih hall => ?_) (fun i _ hi => by omega)
 ·refine ok_P noCall_ok mixed _ (l_few17 d n d.packs.length _ _) ?_
  simp only [true_and]
  refine ifD (fun hlt => by omega) (fun _ => yes ⟨by omega, by omega, by omega, by omega, by omega, fun p hp => ?_⟩)
  obtain ⟨i, hi, rfl⟩ := List.mem_iff_getElem.1 hp
  exact hall i hi hi
 ·refine ok_P noCall_ok mixed _ (l_few17 d n k _ _) ?_
  have hk : ((k : Nat) : Int).toNat = k := Int.toNat_natCast k
  simp only [hk, cell_pack k1]
  have hm := List.getElem_mem k1
  have hnx := fun hq : ((d.packs[k].parts.length : Int) ≤ n ∧ (d.packs[k].after.length : Int) ≤ n) => ih fun i hi hi2 => by
   rcases Nat.lt_or_ge i k with h' | h'
   ·exact hall i hi h'
   ·obtain rfl : i = k := by omega
    exact hq
  have hbad : ∀ q : Prop, (few17 d n → ((d.packs[k].parts.length : Int) ≤ n ∧ (d.packs[k].after.length : Int) ≤ n)) := fun _ hq => hq.2.2.2.2.2 _ hm
  clear ih hall
  generalize d.packs[k] = p at *
  simp only [pack5C, toN_tree, toE_tree, true_and, and_true, wrapSucc (show k < 2 ^ 62 by omega), List.getElem?_cons_zero, List.getElem?_cons_succ, Option.getD_some]
  exact ifD (fun _ => ⟨⟨by omega, by omega⟩, ifD (fun g => no fun hq => by have := (hbad True hq).1; omega) (fun g => ⟨⟨by omega, by omega⟩, ifD (fun g' => no fun hq => by have := (hbad True hq).2; omega) (fun g' => hnx ⟨by omega, by omega⟩)⟩)⟩) (fun h' => by omega)
theorem wErr_z {w : Wt} (h : okWt w) : wErr w = 0 := by
 unfold wErr
 rw [if_pos h]
def c_rwsum (args : List Value) (Post : Value → Prop) : Prop := ∃ ws : List Wt, args = [tree 5 ws.length (encL ws)] ∧ ws.length ≤ 65536 ∧ (∀ w ∈ ws, okWt w) ∧ Post (.tuple #[wtV (sumW ws), .int .i64 (sumWE ws)])
def vcRs49 : VCall := tabCallF Tryz.prog [⟨176, c_wchk⟩, ⟨177, c_sum⟩] noCall
abbrev lpRs49 : List (Nat × List Nat) := [(3, [0, 2, 4, 5, 6, 7, 8, 9])]
theorem e_rsum49 (n : Nat) (A : Array Value) (H : HT) (Post : PV) : vcP Tryz.prog vcRs49 109 lpRs49 [tree 5 n A] H Post = (T8 (True ∧ (True ∧ True) ∧ H (lpC Tryz.prog 109 3) (lpK Tryz.prog 109 3) (stV [(0, some (tree 5 n A)), (2, some (pt 0)), (4, some (nS)), (5, some (nS)), (6, some (nS)), (7, some (nS)), (8, some (nS)), (9, some (vi 0))] [(0, some (AObj.cells [vi 0, vi 0, vi 0, vi 0, vi 0] true))] 1))) := by kernel_rfl
theorem l_rsum49a (n : Nat) (k : Int) (A : Array Value) (H : HT) (Post : PV) : vcLP Tryz.prog vcRs49 109 [tree 5 n A] lpRs49 3 (stV [(0, some (tree 5 n A)), (2, some (.pointer (some ⟨0, 0, none⟩))), (4, some (.slice none 0 0)), (5, some (.slice none 0 0)), (6, some (.slice none 0 0)), (7, some (.slice none 0 0)), (8, some (.slice none 0 0)), (9, some (.int .i64 k))] [(0, some (.cells zeroW true))] 1) H Post = (let q10 := (T4 (True ∧ True)) ∧ True ∧ True; let q3 := toI (cellAt A (Int.toNat k) 3); let q9 := vi q3 = vi q3 ∧ cellAt A (Int.toNat k) 3 = vi q3; let q8 := (0 ≤ k ∧ k < (↑n : Int)); let q7 := toI (cellAt A (Int.toNat k) 0); let q2 := toI (cellAt A (Int.toNat k) 4); let q6 := vi q2 = vi q2 ∧ cellAt A (Int.toNat k) 4 = vi q2; let q5 := toI (cellAt A (Int.toNat k) 1); let q4 := toI (cellAt A (Int.toNat k) 2); let q1 := 5 ≤ 5 ∧ True ∧ q10 ∧ Post (Value.tuple #[Value.agg #[vi 0, vi 0, vi 0, vi 0, vi 0], vi 21]); T4 (pIf (decide (k < (↑n : Int))) (T2 (q8 ∧ (cellAt A (Int.toNat k) 0 = vi q7 ∧ cellAt A (Int.toNat k) 1 = vi q5 ∧ cellAt A (Int.toNat k) 2 = vi q4 ∧ cellAt A (Int.toNat k) 3 = vi q3 ∧ cellAt A (Int.toNat k) 4 = vi q2 ∧ True) ∧ ((T4 (True ∧ True)) ∧ True) ∧ ∃ (w : Wt), eqL [Value.agg #[vi q7, vi q5, vi q4, vi q3, vi q2]] [wtV w] ∧ True ∧ pIf (!decide (wErr w = 0)) (True ∧ 5 ≤ 5 ∧ True ∧ q10 ∧ Post (Value.tuple #[Value.agg #[vi 0, vi 0, vi 0, vi 0, vi 0], vi 9])) (T2 (True ∧ q8 ∧ True ∧ cellAt A (Int.toNat k) 0 = vi q7 ∧ T4 (q8 ∧ True ∧ cellAt A (Int.toNat k) 1 = vi q5 ∧ T4 (q8 ∧ True ∧ cellAt A (Int.toNat k) 2 = vi q4 ∧ T4 (q8 ∧ True ∧ cellAt A (Int.toNat k) 3 = vi q3 ∧ T4 (q8 ∧ True ∧ cellAt A (Int.toNat k) 4 = vi q2 ∧ True ∧ 1 ≤ 1 ∧ 1 ≤ 33554432 ∧ true = true ∧ 1 = 1 ∧ (q6 ∧ q9 ∧ (vi q4 = vi q4 ∧ cellAt A (Int.toNat k) 2 = vi q4) ∧ (vi q5 = vi q5 ∧ cellAt A (Int.toNat k) 1 = vi q5) ∧ True) ∧ 1 ≤ 1 ∧ 1 ≤ 33554432 ∧ true = true ∧ 1 = 1 ∧ (q6 ∧ q9 ∧ (vi q4 = vi q4 ∧ cellAt A (Int.toNat k) 2 = vi q4) ∧ True) ∧ 1 ≤ 1 ∧ 1 ≤ 33554432 ∧ true = true ∧ 1 = 1 ∧ (q6 ∧ q9 ∧ True) ∧ 1 ≤ 1 ∧ 1 ≤ 33554432 ∧ true = true ∧ 1 = 1 ∧ (q6 ∧ True) ∧ 1 ≤ 1 ∧ 1 ≤ 33554432 ∧ true = true ∧ 1 = 1 ∧ T8 (T2 ((True ∧ NLs [vi q7] ∧ NLs [vi q5] ∧ NLs [vi q4] ∧ NLs [vi q3] ∧ NLs [vi q2] ∧ True) ∧ H (lpC Tryz.prog 109 3) (lpK Tryz.prog 109 3) (stV [(0, some (tree 5 n A)), (2, some (pt 0)), (4, some (Value.slice (some (Addr.mk 1 0 none)) 1 1)), (5, some (Value.slice (some (Addr.mk 2 0 none)) 1 1)), (6, some (Value.slice (some (Addr.mk 3 0 none)) 1 1)), (7, some (Value.slice (some (Addr.mk 4 0 none)) 1 1)), (8, some (Value.slice (some (Addr.mk 5 0 none)) 1 1)), (9, some (vi (IntKind.wrap IntKind.i64 (k + 1))))] [(0, some (AObj.cells [vi 0, vi 0, vi 0, vi 0, vi 0] true)), (1, some (AObj.cells [vi q7] true)), (2, some (AObj.cells [vi q5] true)), (3, some (AObj.cells [vi q4] true)), (4, some (AObj.cells [vi q3] true)), (5, some (AObj.cells [vi q2] true))] 6))))))))))) (True ∧ (True ∧ True) ∧ ∃ (l : List Int), eqL [tree 1 0 #[]] [tree 1 l.length (encL l)] ∧ List.length l ≤ 65536 ∧ (∀ (x : Int), x ∈ l → -9223372036854775808 ≤ x ∧ x < 9223372036854775808) ∧ T4 (T2 ((True ∧ True) ∧ ∃ (l_1 : List Int), eqL [tree 1 0 #[]] [tree 1 l_1.length (encL l_1)] ∧ List.length l_1 ≤ 65536 ∧ (∀ (x : Int), x ∈ l_1 → -9223372036854775808 ≤ x ∧ x < 9223372036854775808) ∧ T4 (T2 ((True ∧ True) ∧ ∃ (l_2 : List Int), eqL [tree 1 0 #[]] [tree 1 l_2.length (encL l_2)] ∧ List.length l_2 ≤ 65536 ∧ (∀ (x : Int), x ∈ l_2 → -9223372036854775808 ≤ x ∧ x < 9223372036854775808) ∧ T4 (T2 ((True ∧ True) ∧ ∃ (l_3 : List Int), eqL [tree 1 0 #[]] [tree 1 l_3.length (encL l_3)] ∧ List.length l_3 ≤ 65536 ∧ (∀ (x : Int), x ∈ l_3 → -9223372036854775808 ≤ x ∧ x < 9223372036854775808) ∧ T4 (T2 ((True ∧ True) ∧ ∃ (l_4 : List Int), eqL [tree 1 0 #[]] [tree 1 l_4.length (encL l_4)] ∧ List.length l_4 ≤ 65536 ∧ (∀ (x : Int), x ∈ l_4 → -9223372036854775808 ≤ x ∧ x < 9223372036854775808) ∧ T8 (T4 (5 ≤ 5 ∧ T2 (pIf (!decide (sumE l = 0)) (T8 (T2 (True ∧ 5 ≤ 5 ∧ True ∧ q10 ∧ Post (Value.tuple #[Value.agg #[vi 0, vi 0, vi 0, vi 0, vi 0], vi 21])))) (T2 (True ∧ pIf (!decide (sumE l_1 = 0)) (T8 (T2 q1)) (T4 (pIf (!decide (sumE l_2 = 0)) (T8 q1) (T4 (pIf (!decide (sumE l_3 = 0)) (T4 (T2 q1)) (T4 (pIf (!decide (sumE l_4 = 0)) (T4 q1) (T2 (True ∧ ((T4 (True ∧ True)) ∧ True) ∧ ∃ (w : Wt), eqL [Value.agg #[vi (sumV l), vi (sumV l_1), vi (sumV l_2), vi (sumV l_3), vi (sumV l_4)]] [wtV w] ∧ True ∧ pIf (!decide (wErr w = 0)) (T2 q1) (T2 (5 ≤ 5 ∧ True ∧ q10 ∧ Post (Value.tuple #[Value.agg #[vi (sumV l), vi (sumV l_1), vi (sumV l_2), vi (sumV l_3), vi (sumV l_4)], vi 0]))))))))))))))))))))))))))) := by kernel_rfl
theorem l_rsum49b (n j : Nat) (k : Int) (A : Array Value) (l0 l1 l2 l3 l4 : List Value) (H : HT) (Post : PV) : vcLP Tryz.prog vcRs49 109 [tree 5 n A] lpRs49 3 (stV [(0, some (tree 5 n A)), (2, some (.pointer (some ⟨0, 0, none⟩))), (4, some (.slice (some ⟨1, 0, none⟩) j 1)), (5, some (.slice (some ⟨2, 0, none⟩) j 1)), (6, some (.slice (some ⟨3, 0, none⟩) j 1)), (7, some (.slice (some ⟨4, 0, none⟩) j 1)), (8, some (.slice (some ⟨5, 0, none⟩) j 1)), (9, some (.int .i64 k))] [(0, some (.cells zeroW true)), (1, some (.cells l0 true)), (2, some (.cells l1 true)), (3, some (.cells l2 true)), (4, some (.cells l3 true)), (5, some (.cells l4 true))] 6) H Post = (let q10 := (T4 (True ∧ True)) ∧ True ∧ True; let q3 := toI (cellAt A (Int.toNat k) 3); let q9 := vi q3 = vi q3 ∧ cellAt A (Int.toNat k) 3 = vi q3; let q8 := (0 ≤ k ∧ k < (↑n : Int)); let q7 := toI (cellAt A (Int.toNat k) 0); let q2 := toI (cellAt A (Int.toNat k) 4); let q6 := vi q2 = vi q2 ∧ cellAt A (Int.toNat k) 4 = vi q2; let q5 := toI (cellAt A (Int.toNat k) 1); let q4 := toI (cellAt A (Int.toNat k) 2); let q1 := 5 ≤ 5 ∧ True ∧ q10 ∧ Post (Value.tuple #[Value.agg #[vi 0, vi 0, vi 0, vi 0, vi 0], vi 21]); T4 (pIf (decide (k < (↑n : Int))) (T2 (q8 ∧ (cellAt A (Int.toNat k) 0 = vi q7 ∧ cellAt A (Int.toNat k) 1 = vi q5 ∧ cellAt A (Int.toNat k) 2 = vi q4 ∧ cellAt A (Int.toNat k) 3 = vi q3 ∧ cellAt A (Int.toNat k) 4 = vi q2 ∧ True) ∧ ((T4 (True ∧ True)) ∧ True) ∧ ∃ (w : Wt), eqL [Value.agg #[vi q7, vi q5, vi q4, vi q3, vi q2]] [wtV w] ∧ True ∧ pIf (!decide (wErr w = 0)) (True ∧ 5 ≤ 5 ∧ True ∧ q10 ∧ Post (Value.tuple #[Value.agg #[vi 0, vi 0, vi 0, vi 0, vi 0], vi 9])) (T2 (True ∧ q8 ∧ True ∧ cellAt A (Int.toNat k) 0 = vi q7 ∧ T4 (q8 ∧ True ∧ cellAt A (Int.toNat k) 1 = vi q5 ∧ T4 (q8 ∧ True ∧ cellAt A (Int.toNat k) 2 = vi q4 ∧ T4 (q8 ∧ True ∧ cellAt A (Int.toNat k) 3 = vi q3 ∧ T4 (q8 ∧ True ∧ cellAt A (Int.toNat k) 4 = vi q2 ∧ True ∧ 1 ≤ 1 ∧ j + 1 ≤ 33554432 ∧ true = true ∧ 1 = 1 ∧ 0 + j * 1 = List.length l0 ∧ (q6 ∧ q9 ∧ (vi q4 = vi q4 ∧ cellAt A (Int.toNat k) 2 = vi q4) ∧ (vi q5 = vi q5 ∧ cellAt A (Int.toNat k) 1 = vi q5) ∧ True) ∧ 1 ≤ 1 ∧ j + 1 ≤ 33554432 ∧ true = true ∧ 1 = 1 ∧ 0 + j * 1 = List.length l1 ∧ (q6 ∧ q9 ∧ (vi q4 = vi q4 ∧ cellAt A (Int.toNat k) 2 = vi q4) ∧ True) ∧ 1 ≤ 1 ∧ j + 1 ≤ 33554432 ∧ true = true ∧ 1 = 1 ∧ 0 + j * 1 = List.length l2 ∧ (q6 ∧ q9 ∧ True) ∧ 1 ≤ 1 ∧ j + 1 ≤ 33554432 ∧ true = true ∧ 1 = 1 ∧ 0 + j * 1 = List.length l3 ∧ (q6 ∧ True) ∧ 1 ≤ 1 ∧ j + 1 ≤ 33554432 ∧ true = true ∧ 1 = 1 ∧ 0 + j * 1 = List.length l4 ∧ T8 (T2 ((True ∧ NLs (l0 ++ [vi q7]) ∧ NLs (l1 ++ [vi q5]) ∧ NLs (l2 ++ [vi q4]) ∧ NLs (l3 ++ [vi q3]) ∧ NLs (l4 ++ [vi q2]) ∧ True) ∧ H (lpC Tryz.prog 109 3) (lpK Tryz.prog 109 3) (stV [(0, some (tree 5 n A)), (2, some (pt 0)), (4, some (Value.slice (some (Addr.mk 1 0 none)) (j + 1) 1)), (5, some (Value.slice (some (Addr.mk 2 0 none)) (j + 1) 1)), (6, some (Value.slice (some (Addr.mk 3 0 none)) (j + 1) 1)), (7, some (Value.slice (some (Addr.mk 4 0 none)) (j + 1) 1)), (8, some (Value.slice (some (Addr.mk 5 0 none)) (j + 1) 1)), (9, some (vi (IntKind.wrap IntKind.i64 (k + 1))))] [(0, some (AObj.cells [vi 0, vi 0, vi 0, vi 0, vi 0] true)), (1, some (AObj.cells (l0 ++ [vi q7]) true)), (2, some (AObj.cells (l1 ++ [vi q5]) true)), (3, some (AObj.cells (l2 ++ [vi q4]) true)), (4, some (AObj.cells (l3 ++ [vi q3]) true)), (5, some (AObj.cells (l4 ++ [vi q2]) true))] 6))))))))))) (True ∧ ((0 + j * 1 ≤ List.length l0 ∧ NLs l0) ∧ True) ∧ ∃ (l : List Int), eqL [tree 1 j (chunks 1 j (List.drop 0 l0))] [tree 1 l.length (encL l)] ∧ List.length l ≤ 65536 ∧ (∀ (x : Int), x ∈ l → -9223372036854775808 ≤ x ∧ x < 9223372036854775808) ∧ T4 (T2 (((0 + j * 1 ≤ List.length l1 ∧ NLs l1) ∧ True) ∧ ∃ (l_1 : List Int), eqL [tree 1 j (chunks 1 j (List.drop 0 l1))] [tree 1 l_1.length (encL l_1)] ∧ List.length l_1 ≤ 65536 ∧ (∀ (x : Int), x ∈ l_1 → -9223372036854775808 ≤ x ∧ x < 9223372036854775808) ∧ T4 (T2 (((0 + j * 1 ≤ List.length l2 ∧ NLs l2) ∧ True) ∧ ∃ (l_2 : List Int), eqL [tree 1 j (chunks 1 j (List.drop 0 l2))] [tree 1 l_2.length (encL l_2)] ∧ List.length l_2 ≤ 65536 ∧ (∀ (x : Int), x ∈ l_2 → -9223372036854775808 ≤ x ∧ x < 9223372036854775808) ∧ T4 (T2 (((0 + j * 1 ≤ List.length l3 ∧ NLs l3) ∧ True) ∧ ∃ (l_3 : List Int), eqL [tree 1 j (chunks 1 j (List.drop 0 l3))] [tree 1 l_3.length (encL l_3)] ∧ List.length l_3 ≤ 65536 ∧ (∀ (x : Int), x ∈ l_3 → -9223372036854775808 ≤ x ∧ x < 9223372036854775808) ∧ T4 (T2 (((0 + j * 1 ≤ List.length l4 ∧ NLs l4) ∧ True) ∧ ∃ (l_4 : List Int), eqL [tree 1 j (chunks 1 j (List.drop 0 l4))] [tree 1 l_4.length (encL l_4)] ∧ List.length l_4 ≤ 65536 ∧ (∀ (x : Int), x ∈ l_4 → -9223372036854775808 ≤ x ∧ x < 9223372036854775808) ∧ T8 (T4 (5 ≤ 5 ∧ T2 (pIf (!decide (sumE l = 0)) (T8 (T2 (True ∧ 5 ≤ 5 ∧ True ∧ q10 ∧ Post (Value.tuple #[Value.agg #[vi 0, vi 0, vi 0, vi 0, vi 0], vi 21])))) (T2 (True ∧ pIf (!decide (sumE l_1 = 0)) (T8 (T2 q1)) (T4 (pIf (!decide (sumE l_2 = 0)) (T8 q1) (T4 (pIf (!decide (sumE l_3 = 0)) (T4 (T2 q1)) (T4 (pIf (!decide (sumE l_4 = 0)) (T4 q1) (T2 (True ∧ ((T4 (True ∧ True)) ∧ True) ∧ ∃ (w : Wt), eqL [Value.agg #[vi (sumV l), vi (sumV l_1), vi (sumV l_2), vi (sumV l_3), vi (sumV l_4)]] [wtV w] ∧ True ∧ pIf (!decide (wErr w = 0)) (T2 q1) (T2 (5 ≤ 5 ∧ True ∧ q10 ∧ Post (Value.tuple #[Value.agg #[vi (sumV l), vi (sumV l_1), vi (sumV l_2), vi (sumV l_3), vi (sumV l_4)], vi 0]))))))))))))))))))))))))))) := by kernel_rfl
def vcRof : VCall := tabCallF Tryz.prog [⟨108, c_spart⟩, ⟨23, c_rWeight⟩, ⟨109, c_rwsum⟩] noCall
abbrev lpRof : List (Nat × List Nat) := [(2, [2, 3, 4, 6, 8]), (9, [2, 3, 4, 6, 11, 12])]
theorem e_rof (d : Design6) (m : Mats) (n : Nat) (A : Array Value) (H : HT) (Post : PV) : vcP Tryz.prog vcRof 41 lpRof [design6V d, matsV m, tree 1 n A] H Post = (T4 (T2 ((T2 (True ∧ True)) ∧ H (lpC Tryz.prog 41 2) (lpK Tryz.prog 41 2) (stV [(2, some (tree 1 n A)), (3, some (pt 0)), (4, some (pt 1)), (6, some (pt 2)), (8, some (vi 0))] [(0, some (AObj.cells [vs (Design6.hull d), tree 3 (List.length (Design6.nodes d)) (encL (Design6.nodes d)), tree 18 (List.length (Design6.parts d)) (encL (Design6.parts d)), tree 6 (List.length (Design6.seams d)) (encL (Design6.seams d)), tree 5 (List.length (Design6.packs d)) (encL (Design6.packs d)), tree 3 (List.length (Design6.needs d)) (encL (Design6.needs d))] true)), (1, some (AObj.cells [tree 4 (List.length (Mats.grades m)) (encL (Mats.grades m)), tree 4 (List.length (Mats.sects m)) (encL (Mats.sects m))] true)), (2, some (AObj.cells [vi 0, vi 0, vi 0, vi 0, vi 0] true))] 3)))) := by kernel_rfl
theorem l_rof (d : Design6) (m : Mats) (n : Nat) (k : Int) (A : Array Value) (H : HT) (Post : PV) : vcLP Tryz.prog vcRof 41 [design6V d, matsV m, tree 1 n A] lpRof 2 (stV [(2, some (tree 1 n A)), (3, some (.pointer (some ⟨0, 0, none⟩))), (4, some (.pointer (some ⟨1, 0, none⟩))), (6, some (.pointer (some ⟨2, 0, none⟩))), (8, some (.int .i64 k))] [(0, some (.cells (design6C d) true)), (1, some (.cells (matsC m) true)), (2, some (.cells zeroW true))] 3) H Post = (let q1 := [(0, some (AObj.cells [vs (Design6.hull d), tree 3 (List.length (Design6.nodes d)) (encL (Design6.nodes d)), tree 18 (List.length (Design6.parts d)) (encL (Design6.parts d)), tree 6 (List.length (Design6.seams d)) (encL (Design6.seams d)), tree 5 (List.length (Design6.packs d)) (encL (Design6.packs d)), tree 3 (List.length (Design6.needs d)) (encL (Design6.needs d))] true)), (1, some (AObj.cells [tree 4 (List.length (Mats.grades m)) (encL (Mats.grades m)), tree 4 (List.length (Mats.sects m)) (encL (Mats.sects m))] true)), (2, some (AObj.cells [vi 0, vi 0, vi 0, vi 0, vi 0] true))]; T4 (pIf (decide (k < (↑n : Int))) (T2 (True ∧ (0 ≤ k ∧ k < (↑n : Int)) ∧ cellAt A (Int.toNat k) 0 = vs (toS (cellAt A (Int.toNat k) 0)) ∧ True ∧ ((T4 (T2 (True))) ∧ True ∧ True) ∧ ∃ (d_1 : Design6), ∃ (s : ByteArray), eqL [Value.agg #[vs (Design6.hull d), tree 3 (List.length (Design6.nodes d)) (encL (Design6.nodes d)), tree 18 (List.length (Design6.parts d)) (encL (Design6.parts d)), tree 6 (List.length (Design6.seams d)) (encL (Design6.seams d)), tree 5 (List.length (Design6.packs d)) (encL (Design6.packs d)), tree 3 (List.length (Design6.needs d)) (encL (Design6.needs d))], vs (toS (cellAt A (Int.toNat k) 0))] [design6V d_1, vs s] ∧ FitD d_1 ∧ T4 (pIf (Option.isSome (partOf d_1 s)) (18 ≤ 18 ∧ T8 ((T2 (True ∧ True)) ∧ H (lpC Tryz.prog 41 2) (lpK Tryz.prog 41 2) (stV [(2, some (tree 1 n A)), (3, some (pt 0)), (4, some (pt 1)), (6, some (pt 2)), (8, some (vi (IntKind.wrap IntKind.i64 (k + 1))))] q1 3))) (18 ≤ 18 ∧ T4 (True ∧ 5 ≤ 5 ∧ True ∧ ((T4 (True ∧ True)) ∧ True ∧ True) ∧ Post (Value.tuple #[Value.agg #[vi 0, vi 0, vi 0, vi 0, vi 0], vi 8])))))) (T2 (True ∧ (T2 (True ∧ True)) ∧ H (lpC Tryz.prog 41 9) (lpK Tryz.prog 41 9) (stV [(2, some (tree 1 n A)), (3, some (pt 0)), (4, some (pt 1)), (6, some (pt 2)), (11, some (nS)), (12, some (vi 0))] q1 3))))) := by kernel_rfl
theorem m_rofa (d : Design6) (m : Mats) (n : Nat) (k : Int) (A : Array Value) (H : HT) (Post : PV) : vcLP Tryz.prog vcRof 41 [design6V d, matsV m, tree 1 n A] lpRof 9 (stV [(2, some (tree 1 n A)), (3, some (.pointer (some ⟨0, 0, none⟩))), (4, some (.pointer (some ⟨1, 0, none⟩))), (6, some (.pointer (some ⟨2, 0, none⟩))), (11, some (.slice none 0 0)), (12, some (.int .i64 k))] [(0, some (.cells (design6C d) true)), (1, some (.cells (matsC m) true)), (2, some (.cells zeroW true))] 3) H Post = (let q4 := #[tree 4 (List.length (Mats.grades m)) (encL (Mats.grades m)), tree 4 (List.length (Mats.sects m)) (encL (Mats.sects m))]; let q3 := (1, some (AObj.cells [tree 4 (List.length (Mats.grades m)) (encL (Mats.grades m)), tree 4 (List.length (Mats.sects m)) (encL (Mats.sects m))] true)); let q2 := [(2, some (tree 1 n A)), (3, some (pt 0)), (4, some (pt 1)), (6, some (pt 2)), (11, some (Value.slice (some (Addr.mk 3 0 none)) 1 5)), (12, some (vi (IntKind.wrap IntKind.i64 (k + 1))))]; let q1 := (0, some (AObj.cells [vs (Design6.hull d), tree 3 (List.length (Design6.nodes d)) (encL (Design6.nodes d)), tree 18 (List.length (Design6.parts d)) (encL (Design6.parts d)), tree 6 (List.length (Design6.seams d)) (encL (Design6.seams d)), tree 5 (List.length (Design6.packs d)) (encL (Design6.packs d)), tree 3 (List.length (Design6.needs d)) (encL (Design6.needs d))] true)); T4 (pIf (decide (k < (↑n : Int))) (T2 (True ∧ (0 ≤ k ∧ k < (↑n : Int)) ∧ cellAt A (Int.toNat k) 0 = vs (toS (cellAt A (Int.toNat k) 0)) ∧ True ∧ ((T4 (T2 (True))) ∧ True ∧ True) ∧ ∃ (d_1 : Design6), ∃ (s : ByteArray), eqL [Value.agg #[vs (Design6.hull d), tree 3 (List.length (Design6.nodes d)) (encL (Design6.nodes d)), tree 18 (List.length (Design6.parts d)) (encL (Design6.parts d)), tree 6 (List.length (Design6.seams d)) (encL (Design6.seams d)), tree 5 (List.length (Design6.packs d)) (encL (Design6.packs d)), tree 3 (List.length (Design6.needs d)) (encL (Design6.needs d))], vs (toS (cellAt A (Int.toNat k) 0))] [design6V d_1, vs s] ∧ FitD d_1 ∧ T4 (pIf (Option.isSome (partOf d_1 s)) (18 ≤ 18 ∧ T4 (((T16 (T2 (True))) ∧ (T2 (True)) ∧ True) ∧ ∃ (p : Part), ∃ (m_1 : Mats), eqL [Value.agg #[vs (Part.id (Option.getD (partOf d_1 s) part0)), vi (Part.rev (Option.getD (partOf d_1 s) part0)), vi (Part.kind (Option.getD (partOf d_1 s) part0)), vs (Part.node (Option.getD (partOf d_1 s) part0)), vs (Part.grade (Option.getD (partOf d_1 s) part0)), vi (Part.thick (Option.getD (partOf d_1 s) part0)), trPt (Part.outer (Option.getD (partOf d_1 s) part0)), trPts (Part.holes (Option.getD (partOf d_1 s) part0)), vs (Part.sect (Option.getD (partOf d_1 s) part0)), vi (Part.long (Option.getD (partOf d_1 s) part0)), vi (Part.mass (Option.getD (partOf d_1 s) part0)), vi (Vec3.x (Part.centre (Option.getD (partOf d_1 s) part0))), vi (Vec3.y (Part.centre (Option.getD (partOf d_1 s) part0))), vi (Vec3.z (Part.centre (Option.getD (partOf d_1 s) part0))), vi (Vec3.x (Part.at_ (Option.getD (partOf d_1 s) part0))), vi (Vec3.y (Part.at_ (Option.getD (partOf d_1 s) part0))), vi (Vec3.z (Part.at_ (Option.getD (partOf d_1 s) part0))), vi (Part.turn (Option.getD (partOf d_1 s) part0))], Value.agg q4] [partV p, matsV m_1] ∧ FitR p ∧ FewR m_1 ∧ T4 (5 ≤ 5 ∧ T2 (True ∧ pIf (!decide (checkP p m_1 = 0)) (T2 (5 ≤ 5 ∧ True ∧ ((T4 (True ∧ True)) ∧ True ∧ True) ∧ Post (Value.tuple #[Value.agg #[vi 0, vi 0, vi 0, vi 0, vi 0], vi (checkP p m_1)]))) (T2 (True ∧ 5 ≤ 5 ∧ 1 ≤ 33554432 ∧ true = true ∧ 5 = 5 ∧ T4 (True ∧ (T2 (True ∧ NLs [vi (Wt.m (weightP p m_1)), vi (Wt.x (weightP p m_1)), vi (Wt.y (weightP p m_1)), vi (Wt.z (weightP p m_1)), vi (Wt.v (weightP p m_1))] ∧ True)) ∧ H (lpC Tryz.prog 41 9) (lpK Tryz.prog 41 9) (stV q2 [q1, q3, (2, some (AObj.cells [vi 0, vi 0, vi 0, vi 0, vi 0] true)), (3, some (AObj.cells [vi (Wt.m (weightP p m_1)), vi (Wt.x (weightP p m_1)), vi (Wt.y (weightP p m_1)), vi (Wt.z (weightP p m_1)), vi (Wt.v (weightP p m_1))] true))] 4)))))))) (18 ≤ 18 ∧ T4 (((T16 (T2 (True))) ∧ (T2 (True)) ∧ True) ∧ ∃ (p : Part), ∃ (m_1 : Mats), eqL [Value.agg #[vs (Part.id (Option.getD (partOf d_1 s) part0)), vi (Part.rev (Option.getD (partOf d_1 s) part0)), vi (Part.kind (Option.getD (partOf d_1 s) part0)), vs (Part.node (Option.getD (partOf d_1 s) part0)), vs (Part.grade (Option.getD (partOf d_1 s) part0)), vi (Part.thick (Option.getD (partOf d_1 s) part0)), trPt (Part.outer (Option.getD (partOf d_1 s) part0)), trPts (Part.holes (Option.getD (partOf d_1 s) part0)), vs (Part.sect (Option.getD (partOf d_1 s) part0)), vi (Part.long (Option.getD (partOf d_1 s) part0)), vi (Part.mass (Option.getD (partOf d_1 s) part0)), vi (Vec3.x (Part.centre (Option.getD (partOf d_1 s) part0))), vi (Vec3.y (Part.centre (Option.getD (partOf d_1 s) part0))), vi (Vec3.z (Part.centre (Option.getD (partOf d_1 s) part0))), vi (Vec3.x (Part.at_ (Option.getD (partOf d_1 s) part0))), vi (Vec3.y (Part.at_ (Option.getD (partOf d_1 s) part0))), vi (Vec3.z (Part.at_ (Option.getD (partOf d_1 s) part0))), vi (Part.turn (Option.getD (partOf d_1 s) part0))], Value.agg q4] [partV p, matsV m_1] ∧ FitR p ∧ FewR m_1 ∧ T4 (5 ≤ 5 ∧ T2 (True ∧ pIf (!decide (checkP p m_1 = 0)) (T2 (5 ≤ 5 ∧ True ∧ ((T4 (True ∧ True)) ∧ True ∧ True) ∧ Post (Value.tuple #[Value.agg #[vi 0, vi 0, vi 0, vi 0, vi 0], vi (checkP p m_1)]))) (T2 (True ∧ 5 ≤ 5 ∧ 1 ≤ 33554432 ∧ true = true ∧ 5 = 5 ∧ T4 (True ∧ (T2 (True ∧ NLs [vi (Wt.m (weightP p m_1)), vi (Wt.x (weightP p m_1)), vi (Wt.y (weightP p m_1)), vi (Wt.z (weightP p m_1)), vi (Wt.v (weightP p m_1))] ∧ True)) ∧ H (lpC Tryz.prog 41 9) (lpK Tryz.prog 41 9) (stV q2 [q1, q3, (2, some (AObj.cells [vi 0, vi 0, vi 0, vi 0, vi 0] true)), (3, some (AObj.cells [vi (Wt.m (weightP p m_1)), vi (Wt.x (weightP p m_1)), vi (Wt.y (weightP p m_1)), vi (Wt.z (weightP p m_1)), vi (Wt.v (weightP p m_1))] true))] 4))))))))))) (True ∧ (True ∧ True) ∧ ∃ (ws : List Wt), eqL [tree 5 0 #[]] [tree 5 ws.length (encL ws)] ∧ List.length ws ≤ 65536 ∧ (∀ (w : Wt), w ∈ ws → (0 ≤ Wt.m w ∧ Wt.m w ≤ 1099511627776) ∧ (-1152921504606846976 ≤ Wt.x w ∧ Wt.x w ≤ 1152921504606846976) ∧ (-1152921504606846976 ≤ Wt.y w ∧ Wt.y w ≤ 1152921504606846976) ∧ (-1152921504606846976 ≤ Wt.z w ∧ Wt.z w ≤ 1152921504606846976) ∧ 0 ≤ Wt.v w ∧ Wt.v w ≤ 1152921504606846976) ∧ T2 (5 ≤ 5 ∧ True ∧ ((T4 (True ∧ True)) ∧ True ∧ True) ∧ Post (Value.tuple #[Value.agg #[vi (Wt.m (sumW ws)), vi (Wt.x (sumW ws)), vi (Wt.y (sumW ws)), vi (Wt.z (sumW ws)), vi (Wt.v (sumW ws))], vi (sumWE ws)]))))) := by kernel_rfl
theorem m_rofb (d : Design6) (m : Mats) (n j : Nat) (k : Int) (A : Array Value) (l : List Value) (H : HT) (Post : PV) : vcLP Tryz.prog vcRof 41 [design6V d, matsV m, tree 1 n A] lpRof 9 (stV [(2, some (tree 1 n A)), (3, some (.pointer (some ⟨0, 0, none⟩))), (4, some (.pointer (some ⟨1, 0, none⟩))), (6, some (.pointer (some ⟨2, 0, none⟩))), (11, some (.slice (some ⟨3, 0, none⟩) j 5)), (12, some (.int .i64 k))] [(0, some (.cells (design6C d) true)), (1, some (.cells (matsC m) true)), (2, some (.cells zeroW true)), (3, some (.cells l true))] 4) H Post = (let q4 := #[tree 4 (List.length (Mats.grades m)) (encL (Mats.grades m)), tree 4 (List.length (Mats.sects m)) (encL (Mats.sects m))]; let q3 := (1, some (AObj.cells [tree 4 (List.length (Mats.grades m)) (encL (Mats.grades m)), tree 4 (List.length (Mats.sects m)) (encL (Mats.sects m))] true)); let q2 := [(2, some (tree 1 n A)), (3, some (pt 0)), (4, some (pt 1)), (6, some (pt 2)), (11, some (Value.slice (some (Addr.mk 3 0 none)) (j + 1) 5)), (12, some (vi (IntKind.wrap IntKind.i64 (k + 1))))]; let q1 := (0, some (AObj.cells [vs (Design6.hull d), tree 3 (List.length (Design6.nodes d)) (encL (Design6.nodes d)), tree 18 (List.length (Design6.parts d)) (encL (Design6.parts d)), tree 6 (List.length (Design6.seams d)) (encL (Design6.seams d)), tree 5 (List.length (Design6.packs d)) (encL (Design6.packs d)), tree 3 (List.length (Design6.needs d)) (encL (Design6.needs d))] true)); T4 (pIf (decide (k < (↑n : Int))) (T2 (True ∧ (0 ≤ k ∧ k < (↑n : Int)) ∧ cellAt A (Int.toNat k) 0 = vs (toS (cellAt A (Int.toNat k) 0)) ∧ True ∧ ((T4 (T2 (True))) ∧ True ∧ True) ∧ ∃ (d_1 : Design6), ∃ (s : ByteArray), eqL [Value.agg #[vs (Design6.hull d), tree 3 (List.length (Design6.nodes d)) (encL (Design6.nodes d)), tree 18 (List.length (Design6.parts d)) (encL (Design6.parts d)), tree 6 (List.length (Design6.seams d)) (encL (Design6.seams d)), tree 5 (List.length (Design6.packs d)) (encL (Design6.packs d)), tree 3 (List.length (Design6.needs d)) (encL (Design6.needs d))], vs (toS (cellAt A (Int.toNat k) 0))] [design6V d_1, vs s] ∧ FitD d_1 ∧ T4 (pIf (Option.isSome (partOf d_1 s)) (18 ≤ 18 ∧ T4 (((T16 (T2 (True))) ∧ (T2 (True)) ∧ True) ∧ ∃ (p : Part), ∃ (m_1 : Mats), eqL [Value.agg #[vs (Part.id (Option.getD (partOf d_1 s) part0)), vi (Part.rev (Option.getD (partOf d_1 s) part0)), vi (Part.kind (Option.getD (partOf d_1 s) part0)), vs (Part.node (Option.getD (partOf d_1 s) part0)), vs (Part.grade (Option.getD (partOf d_1 s) part0)), vi (Part.thick (Option.getD (partOf d_1 s) part0)), trPt (Part.outer (Option.getD (partOf d_1 s) part0)), trPts (Part.holes (Option.getD (partOf d_1 s) part0)), vs (Part.sect (Option.getD (partOf d_1 s) part0)), vi (Part.long (Option.getD (partOf d_1 s) part0)), vi (Part.mass (Option.getD (partOf d_1 s) part0)), vi (Vec3.x (Part.centre (Option.getD (partOf d_1 s) part0))), vi (Vec3.y (Part.centre (Option.getD (partOf d_1 s) part0))), vi (Vec3.z (Part.centre (Option.getD (partOf d_1 s) part0))), vi (Vec3.x (Part.at_ (Option.getD (partOf d_1 s) part0))), vi (Vec3.y (Part.at_ (Option.getD (partOf d_1 s) part0))), vi (Vec3.z (Part.at_ (Option.getD (partOf d_1 s) part0))), vi (Part.turn (Option.getD (partOf d_1 s) part0))], Value.agg q4] [partV p, matsV m_1] ∧ FitR p ∧ FewR m_1 ∧ T4 (5 ≤ 5 ∧ T2 (True ∧ pIf (!decide (checkP p m_1 = 0)) (T2 (5 ≤ 5 ∧ True ∧ ((T4 (True ∧ True)) ∧ True ∧ True) ∧ Post (Value.tuple #[Value.agg #[vi 0, vi 0, vi 0, vi 0, vi 0], vi (checkP p m_1)]))) (T2 (True ∧ 5 ≤ 5 ∧ j + 1 ≤ 33554432 ∧ true = true ∧ 5 = 5 ∧ 0 + j * 5 = List.length l ∧ T4 (True ∧ (T2 (True ∧ NLs (l ++ [vi (Wt.m (weightP p m_1)), vi (Wt.x (weightP p m_1)), vi (Wt.y (weightP p m_1)), vi (Wt.z (weightP p m_1)), vi (Wt.v (weightP p m_1))]) ∧ True)) ∧ H (lpC Tryz.prog 41 9) (lpK Tryz.prog 41 9) (stV q2 [q1, q3, (2, some (AObj.cells [vi 0, vi 0, vi 0, vi 0, vi 0] true)), (3, some (AObj.cells (l ++ [vi (Wt.m (weightP p m_1)), vi (Wt.x (weightP p m_1)), vi (Wt.y (weightP p m_1)), vi (Wt.z (weightP p m_1)), vi (Wt.v (weightP p m_1))]) true))] 4)))))))) (18 ≤ 18 ∧ T4 (((T16 (T2 (True))) ∧ (T2 (True)) ∧ True) ∧ ∃ (p : Part), ∃ (m_1 : Mats), eqL [Value.agg #[vs (Part.id (Option.getD (partOf d_1 s) part0)), vi (Part.rev (Option.getD (partOf d_1 s) part0)), vi (Part.kind (Option.getD (partOf d_1 s) part0)), vs (Part.node (Option.getD (partOf d_1 s) part0)), vs (Part.grade (Option.getD (partOf d_1 s) part0)), vi (Part.thick (Option.getD (partOf d_1 s) part0)), trPt (Part.outer (Option.getD (partOf d_1 s) part0)), trPts (Part.holes (Option.getD (partOf d_1 s) part0)), vs (Part.sect (Option.getD (partOf d_1 s) part0)), vi (Part.long (Option.getD (partOf d_1 s) part0)), vi (Part.mass (Option.getD (partOf d_1 s) part0)), vi (Vec3.x (Part.centre (Option.getD (partOf d_1 s) part0))), vi (Vec3.y (Part.centre (Option.getD (partOf d_1 s) part0))), vi (Vec3.z (Part.centre (Option.getD (partOf d_1 s) part0))), vi (Vec3.x (Part.at_ (Option.getD (partOf d_1 s) part0))), vi (Vec3.y (Part.at_ (Option.getD (partOf d_1 s) part0))), vi (Vec3.z (Part.at_ (Option.getD (partOf d_1 s) part0))), vi (Part.turn (Option.getD (partOf d_1 s) part0))], Value.agg q4] [partV p, matsV m_1] ∧ FitR p ∧ FewR m_1 ∧ T4 (5 ≤ 5 ∧ T2 (True ∧ pIf (!decide (checkP p m_1 = 0)) (T2 (5 ≤ 5 ∧ True ∧ ((T4 (True ∧ True)) ∧ True ∧ True) ∧ Post (Value.tuple #[Value.agg #[vi 0, vi 0, vi 0, vi 0, vi 0], vi (checkP p m_1)]))) (T2 (True ∧ 5 ≤ 5 ∧ j + 1 ≤ 33554432 ∧ true = true ∧ 5 = 5 ∧ 0 + j * 5 = List.length l ∧ T4 (True ∧ (T2 (True ∧ NLs (l ++ [vi (Wt.m (weightP p m_1)), vi (Wt.x (weightP p m_1)), vi (Wt.y (weightP p m_1)), vi (Wt.z (weightP p m_1)), vi (Wt.v (weightP p m_1))]) ∧ True)) ∧ H (lpC Tryz.prog 41 9) (lpK Tryz.prog 41 9) (stV q2 [q1, q3, (2, some (AObj.cells [vi 0, vi 0, vi 0, vi 0, vi 0] true)), (3, some (AObj.cells (l ++ [vi (Wt.m (weightP p m_1)), vi (Wt.x (weightP p m_1)), vi (Wt.y (weightP p m_1)), vi (Wt.z (weightP p m_1)), vi (Wt.v (weightP p m_1))]) true))] 4))))))))))) (True ∧ ((0 + j * 5 ≤ List.length l ∧ NLs l) ∧ True) ∧ ∃ (ws : List Wt), eqL [tree 5 j (chunks 5 j (List.drop 0 l))] [tree 5 ws.length (encL ws)] ∧ List.length ws ≤ 65536 ∧ (∀ (w : Wt), w ∈ ws → (0 ≤ Wt.m w ∧ Wt.m w ≤ 1099511627776) ∧ (-1152921504606846976 ≤ Wt.x w ∧ Wt.x w ≤ 1152921504606846976) ∧ (-1152921504606846976 ≤ Wt.y w ∧ Wt.y w ≤ 1152921504606846976) ∧ (-1152921504606846976 ≤ Wt.z w ∧ Wt.z w ≤ 1152921504606846976) ∧ 0 ≤ Wt.v w ∧ Wt.v w ≤ 1152921504606846976) ∧ T2 (5 ≤ 5 ∧ True ∧ ((T4 (True ∧ True)) ∧ True ∧ True) ∧ Post (Value.tuple #[Value.agg #[vi (Wt.m (sumW ws)), vi (Wt.x (sumW ws)), vi (Wt.y (sumW ws)), vi (Wt.z (sumW ws)), vi (Wt.v (sumW ws))], vi (sumWE ws)]))))) := by kernel_rfl
theorem downAt {n : Nat} {p : Nat → Prop} (h : p n) (s : ∀ k, k < n → p (k + 1) → p k) (k : Nat) (hk : k ≤ n) : p k := by
 induction hm : n - k generalizing k with
 | zero => rwa [show k = n by omega]
 | succ m ih => exact s k (by omega) (ih (k + 1) (by omega) (by omega))
theorem vcRs49_ok : VCallOk Tryz.prog vcRs49 := tabCallF_ok (by
 intro e he
 simp only [List.mem_cons, List.not_mem_nil, or_false] at he
 rcases he with rfl | rfl
 ·exact ok_rwchk
 ·exact ok_rsum) noCall_ok
def fL (i : Nat) (ws : List Wt) : List Value := ws.map fun w => .int .i64 (fldW i w)
theorem fL_len (i : Nat) (ws : List Wt) : (fL i ws).length = ws.length := List.length_map _
theorem fL_snoc {i : Nat} {ws : List Wt} {k : Nat} (h : k < ws.length) : fL i (ws.take (k + 1)) = fL i (ws.take k) ++ [.int .i64 (fldW i ws[k])] := by
 unfold fL
 rw [List.take_add_one, List.getElem?_eq_getElem h, List.map_append]
 rfl
theorem fL_nls (i : Nat) (ws : List Wt) : NLs (fL i ws) := fun v hv => by
 obtain ⟨a, _, rfl⟩ := List.mem_map.1 hv
 rfl
theorem fL_end (i : Nat) (ws : List Wt) : tree 1 ws.length (chunks 1 ws.length (List.drop 0 (fL i ws))) = tree 1 (ws.map (fldW i)).length (encL (ws.map (fldW i))) := by
 rw [List.length_map]
 congr 1
 show ((List.drop 0 (fL i ws)).take ws.length).toArray = _
 rw [List.drop_zero, List.take_of_length_le (by rw [fL_len]; exact Nat.le_refl _)]
 unfold fL encL
 rw [List.map_map]
 rfl
theorem fl_fits {ws : List Wt} (hk : ∀ w ∈ ws, okWt w) (i : Nat) : ∀ x ∈ ws.map (fldW i), fits64 x := fun x hx => by
 obtain ⟨w, hw, rfl⟩ := List.mem_map.1 hx
 exact okWt_fits (hk w hw) i
theorem ok_rwsum : EntOk Tryz.prog ⟨109, c_rwsum⟩ := by
 rintro args Post ⟨ws, rfl, hl, hk, h⟩
 refine pure_P vcRs49_ok mixed (by kernel_rfl) (by kernel_rfl) _ (e_rsum49 ws.length (encL ws) _ _) ?_
 simp only [true_and]
 have bad : ¬ okWt (totW ws) → Post (.tuple #[.agg #[.int .i64 0, .int .i64 0, .int .i64 0, .int .i64 0, .int .i64 0], .int .i64 21]) := fun hn => by
  unfold sumW sumWE at h
  rw [if_neg hn, if_neg hn] at h
  exact h
 have fz : okWt (totW ws) → ∀ i, sumE (ws.map (fldW i)) = 0 := fun hk i => (sum_good (by
  have := okWt_fits hk i
  rcases i with _ | _ | _ | _ | i <;> exact this)).2
 have tail : ∀ {X0 X1 X2 X3 X4 X5 : Prop}, (Post (.tuple #[.agg #[.int .i64 0, .int .i64 0, .int .i64 0, .int .i64 0, .int .i64 0], .int .i64 21]) → X0 ∧ X1 ∧ X2 ∧ X3 ∧ X4 ∧ X5) → True := fun _ => trivial
 clear tail
 by_cases hz : ws = []
 ·subst hz
  refine ok_P vcRs49_ok mixed _ (l_rsum49a _ 0 _ _ _) ?_
  simp only [true_and, and_true, Nat.le_refl]
  refine ifD (fun hlt => absurd hlt (by decide)) (fun _ => ?_)
  have e0 : sumE [] = 0 := by decide
  refine ⟨[], rfl, by decide, (fun x hx => by cases hx), [], rfl, by decide, (fun x hx => by cases hx), [], rfl, by decide, (fun x hx => by cases hx), [], rfl, by decide, (fun x hx => by cases hx), [], rfl, by decide, (fun x hx => by cases hx), ?_⟩
  exact ifN (fun hn => absurd e0 hn) (fun _ => ifN (fun hn => absurd e0 hn) (fun _ => ifN (fun hn => absurd e0 hn) (fun _ => ifN (fun hn => absurd e0 hn) (fun _ => ifN (fun hn => absurd e0 hn) (fun _ => ⟨wt0, rfl, ifN (fun hn => absurd (by decide) hn) (fun _ => h)⟩)))))
 have hpos : 0 < ws.length := (List.length_pos_iff.2 hz)
 have key : ∀ k, 1 ≤ k → k ≤ ws.length → OkP 109 [tree 5 ws.length (encL ws)] 3 Post (stV [(0, some (tree 5 ws.length (encL ws))), (2, some (.pointer (some ⟨0, 0, none⟩))), (4, some (.slice (some ⟨1, 0, none⟩) k 1)), (5, some (.slice (some ⟨2, 0, none⟩) k 1)), (6, some (.slice (some ⟨3, 0, none⟩) k 1)), (7, some (.slice (some ⟨4, 0, none⟩) k 1)), (8, some (.slice (some ⟨5, 0, none⟩) k 1)), (9, some (.int .i64 (((k : Nat)) : Int)))] [(0, some (.cells zeroW true)), (1, some (.cells (fL 0 (ws.take k)) true)), (2, some (.cells (fL 1 (ws.take k)) true)), (3, some (.cells (fL 2 (ws.take k)) true)), (4, some (.cells (fL 3 (ws.take k)) true)), (5, some (.cells (fL 4 (ws.take k)) true))] 6) := by
  intro k h1 h2
  revert h1
  refine downAt (n := ws.length) (p := fun k => 1 ≤ k → OkP 109 [tree 5 ws.length (encL ws)] 3 Post (stV [(0, some (tree 5 ws.length (encL ws))), (2, some (.pointer (some ⟨0, 0, none⟩))), (4, some (.slice (some ⟨1, 0, none⟩) k 1)), (5, some (.slice (some ⟨2, 0, none⟩) k 1)), (6, some (.slice (some ⟨3, 0, none⟩) k 1)), (7, some (.slice (some ⟨4, 0, none⟩) k 1)), (8, some (.slice (some ⟨5, 0, none⟩) k 1)), (9, some (.int .i64 (((k : Nat)) : Int)))] [(0, some (.cells zeroW true)), (1, some (.cells (fL 0 (ws.take k)) true)), (2, some (.cells (fL 1 (ws.take k)) true)), (3, some (.cells (fL 2 (ws.take k)) true)), (4, some (.cells (fL 3 (ws.take k)) true)), (5, some (.cells (fL 4 (ws.take k)) true))] 6)) (fun h1 => ?_) (fun k k1 ih h1 => ?_) k h2
  ·refine ok_P vcRs49_ok mixed _ (l_rsum49b ws.length ws.length ws.length (encL ws) _ _ _ _ _ _ _) ?_
   rw [List.take_length]
   simp only [true_and, and_true, Nat.le_refl]
   refine ifD (fun hlt => by omega) (fun _ => ?_)
   have hlen : ∀ i, (ws.map (fldW i)).length ≤ 65536 := fun i => by rw [List.length_map]; exact hl
   refine ⟨⟨by rw [fL_len]; omega, fL_nls _ _⟩, ws.map (fldW 0), by rw [fL_end], hlen 0, fl_fits hk 0, ⟨by rw [fL_len]; omega, fL_nls _ _⟩, ws.map (fldW 1), by rw [fL_end], hlen 1, fl_fits hk 1, ⟨by rw [fL_len]; omega, fL_nls _ _⟩, ws.map (fldW 2), by rw [fL_end], hlen 2, fl_fits hk 2, ⟨by rw [fL_len]; omega, fL_nls _ _⟩, ws.map (fldW 3), by rw [fL_end], hlen 3, fl_fits hk 3, ⟨by rw [fL_len]; omega, fL_nls _ _⟩, ws.map (fldW 4), by rw [fL_end], hlen 4, fl_fits hk 4, ?_⟩
   refine ifN (fun hn => bad fun q => hn (fz q 0)) (fun z0 => ifN (fun hn => bad fun q => hn (fz q 1)) (fun z1 => ifN (fun hn => bad fun q => hn (fz q 2)) (fun z2 => ifN (fun hn => bad fun q => hn (fz q 3)) (fun z3 => ifN (fun hn => bad fun q => hn (fz q 4)) (fun z4 => ?_)))))
   rw [sumE_zero] at z0 z1 z2 z3 z4
   refine ⟨⟨sumV (ws.map (fldW 0)), sumV (ws.map (fldW 1)), sumV (ws.map (fldW 2)), sumV (ws.map (fldW 3)), sumV (ws.map (fldW 4))⟩, rfl, ?_⟩
   rw [(sum_good z0).1, (sum_good z1).1, (sum_good z2).1, (sum_good z3).1, (sum_good z4).1]
   have e : (⟨(ws.map (fldW 0)).sum, (ws.map (fldW 1)).sum, (ws.map (fldW 2)).sum, (ws.map (fldW 3)).sum, (ws.map (fldW 4)).sum⟩ : Wt) = totW ws := rfl
   rw [e]
   refine ifN (fun hn => bad fun q => hn (by unfold wErr; rw [if_pos q])) (fun he => ?_)
   by_cases q : okWt (totW ws)
   ·unfold sumW sumWE at h
    rw [if_pos q, if_pos q] at h
    exact h
   ·unfold wErr at he
    rw [if_neg q] at he
    exact absurd he (by decide)
  ·refine ok_P vcRs49_ok mixed _ (l_rsum49b ws.length k k (encL ws) _ _ _ _ _ _ _) ?_
   have hn : ((k : Nat) : Int).toNat = k := Int.toNat_natCast k
   obtain ⟨c0, c1, c2, c3, c4⟩ := cell_wt k1
   have nx := ih (by omega)
   have wz := wErr_z (hk _ (List.getElem_mem k1))
   have fs : ∀ i, fL i (ws.take k) ++ [.int .i64 (fldW i ws[k])] = fL i (ws.take (k + 1)) := fun i => (fL_snoc k1).symm
   have f0 := fs 0
   have f1 := fs 1
   have f2 := fs 2
   have f3 := fs 3
   have f4 := fs 4
   simp only [fldW] at f0 f1 f2 f3 f4
   have ln : ∀ i, (fL i (ws.take k)).length = k := fun i => by rw [fL_len, List.length_take]; omega
   simp only [hn, c0, c1, c2, c3, c4, toI_int, true_and, and_true, Nat.le_refl, wrapSucc (show k < 2 ^ 62 by omega), f0, f1, f2, f3, f4, ln]
   exact ifD (fun _ => ⟨⟨by omega, by omega⟩, ws[k], rfl, ifN (fun hn => absurd wz hn) (fun _ => ⟨⟨by omega, by omega⟩, ⟨by omega, by omega⟩, ⟨by omega, by omega⟩, ⟨by omega, by omega⟩, ⟨by omega, by omega⟩, by omega, by omega, by omega, by omega, by omega, by omega, by omega, by omega, by omega, by omega, ⟨fL_nls _ _, fL_nls _ _, fL_nls _ _, fL_nls _ _, fL_nls _ _⟩, nx⟩)⟩) (fun h' => by omega)
 refine ok_P vcRs49_ok mixed _ (l_rsum49a ws.length 0 (encL ws) _ _) ?_
 have hn : ((0 : Nat) : Int).toNat = 0 := rfl
 have hn' : (0 : Int).toNat = 0 := rfl
 obtain ⟨c0, c1, c2, c3, c4⟩ := cell_wt hpos
 have nx := key 1 (Nat.le_refl _) hpos
 have wz := wErr_z (hk _ (List.getElem_mem hpos))
 have fs : ∀ i, fL i (ws.take 1) = [.int .i64 (fldW i ws[0])] := fun i => (fL_snoc hpos).trans rfl
 simp only [fs, fldW] at nx
 have w1 : IntKind.i64.wrap (0 + 1) = 1 := by decide
 simp only [hn', c0, c1, c2, c3, c4, toI_int, true_and, and_true, Nat.le_refl, w1]
 have nn : ∀ x : Int, NLs [.int .i64 x] := fun x v hv => by
  simp only [List.mem_cons, List.not_mem_nil, or_false] at hv
  subst hv
  rfl
 exact ifD (fun _ => ⟨⟨by omega, by omega⟩, ws[0], rfl, ifN (fun hn => absurd wz hn) (fun _ => ⟨⟨by omega, by omega⟩, ⟨by omega, by omega⟩, ⟨by omega, by omega⟩, ⟨by omega, by omega⟩, ⟨by omega, by omega⟩, by decide, by decide, by decide, by decide, by decide, ⟨nn _, nn _, nn _, nn _, nn _⟩, nx⟩)⟩) (fun h' => by omega)
structure FitP (d : Design6) : Prop where
 f : ∀ p ∈ d.parts, FitR p
theorem part0_R : FitR part0 := { part0_fit with id := by decide, node := by decide }
theorem getR {d : Design6} (hf : FitP d) (s : ByteArray) : FitR ((partOf d s).getD part0) := by
 cases hp : partOf d s with
 | none => exact part0_R
 | some p => exact hf.f p (List.mem_of_find?_eq_some hp)
def c_rof (args : List Value) (Post : Value → Prop) : Prop := ∃ (d : Design6) (m : Mats) (l : List ByteArray), args = [design6V d, matsV m, trS l] ∧ FitD d ∧ FitP d ∧ FewR m ∧ l.length ≤ 65536 ∧ Post (.tuple #[wtV (ofW d m l), .int .i64 (ofE d m l)])
theorem vcRof_ok : VCallOk Tryz.prog vcRof := tabCallF_ok (by
 intro e he
 simp only [List.mem_cons, List.not_mem_nil, or_false] at he
 rcases he with rfl | rfl | rfl
 ·exact ok_rpart17
 ·exact ok_r16weight
 ·exact ok_rwsum) noCall_ok
theorem ok_rof : EntOk Tryz.prog ⟨41, c_rof⟩ := by
 rintro args Post ⟨d, m, l, rfl, hd, hf, hm, hl, h⟩
 have nope : ¬ allOf d l → Post (.tuple #[.agg #[.int .i64 0, .int .i64 0, .int .i64 0, .int .i64 0, .int .i64 0], .int .i64 8]) := fun hn => by
  unfold ofW ofE at h
  rw [if_pos hn, if_pos hn] at h
  exact h
 refine pure_P vcRof_ok mixed (by kernel_rfl) (by kernel_rfl) _ (e_rof d m l.length (encL l) _ _) ?_
 simp only [true_and, and_true, Nat.le_refl]
 have hp := partsOf_len d l
 have second : allOf d l → OkP 41 [design6V d, matsV m, trS l] 9 Post (stV [(2, some (trS l)), (3, some (.pointer (some ⟨0, 0, none⟩))), (4, some (.pointer (some ⟨1, 0, none⟩))), (6, some (.pointer (some ⟨2, 0, none⟩))), (11, some (.slice none 0 0)), (12, some (.int .i64 0))] [(0, some (.cells (design6C d) true)), (1, some (.cells (matsC m) true)), (2, some (.cells zeroW true))] 3) := fun hall => by
  unfold ofW ofE at h
  have hna : ¬ ¬ allOf d l := fun hn => hn hall
  rw [if_neg hna, if_neg hna] at h
  by_cases hz : l = []
  ·subst hz
   refine ok_P vcRof_ok mixed _ (m_rofa d m 0 0 _ _ _) ?_
   simp only [true_and, and_true, Nat.le_refl]
   have ez : ¬ errP m (partsOf d []) ≠ 0 := fun hn => hn rfl
   rw [if_neg ez, if_neg ez] at h
   exact ifD (fun hlt => absurd hlt (by decide)) (fun _ => ⟨[], rfl, by decide, (fun w hw => by cases hw), h⟩)
  have hpos : 0 < l.length := List.length_pos_iff.2 hz
  have key : ∀ k, k ≤ l.length → 1 ≤ k → (∀ i, i < k → checkP ((partsOf d l).getD i part0) m = 0) → OkP 41 [design6V d, matsV m, trS l] 9 Post (stV [(2, some (trS l)), (3, some (.pointer (some ⟨0, 0, none⟩))), (4, some (.pointer (some ⟨1, 0, none⟩))), (6, some (.pointer (some ⟨2, 0, none⟩))), (11, some (.slice (some ⟨3, 0, none⟩) k 5)), (12, some (.int .i64 ((k : Nat) : Int)))] [(0, some (.cells (design6C d) true)), (1, some (.cells (matsC m) true)), (2, some (.cells zeroW true)), (3, some (.cells (rowE (((partsOf d l).take k).map fun p => weightP p m)) true))] 4) := by
   intro k h2
   refine downAt (n := l.length) (p := fun k => 1 ≤ k → (∀ i, i < k → checkP ((partsOf d l).getD i part0) m = 0) → OkP 41 [design6V d, matsV m, trS l] 9 Post (stV [(2, some (trS l)), (3, some (.pointer (some ⟨0, 0, none⟩))), (4, some (.pointer (some ⟨1, 0, none⟩))), (6, some (.pointer (some ⟨2, 0, none⟩))), (11, some (.slice (some ⟨3, 0, none⟩) k 5)), (12, some (.int .i64 ((k : Nat) : Int)))] [(0, some (.cells (design6C d) true)), (1, some (.cells (matsC m) true)), (2, some (.cells zeroW true)), (3, some (.cells (rowE (((partsOf d l).take k).map fun p => weightP p m)) true))] 4)) (fun h1 hok => ?_) (fun k k1 ih h1 hok => ?_) k h2
   ·refine ok_P vcRof_ok mixed _ (m_rofb d m l.length l.length l.length (encL l) _ _ _) ?_
    have tk : (partsOf d l).take l.length = partsOf d l := by rw [← hp, List.take_length]
    rw [tk]
    have ez : errP m (partsOf d l) = 0 := firstErr_zero.2 (by rw [hp]; exact hok)
    have hne : ¬ errP m (partsOf d l) ≠ 0 := fun hn => hn ez
    rw [if_neg hne, if_neg hne] at h
    have hlen := rowE_len ((partsOf d l).map fun p => weightP p m)
    have hsz : Enc.sz Wt = 5 := rfl
    rw [hsz, List.length_map, hp] at hlen
    simp only [true_and, and_true, Nat.le_refl]
    have ml : ((partsOf d l).map fun p => weightP p m).length = l.length := by rw [List.length_map, hp]
    refine ifD (fun hlt => by omega) (fun _ => ⟨⟨by omega, rowE_nls _⟩, (partsOf d l).map (fun p => weightP p m), ?_, by rw [ml]; exact hl, fun w hw => ?_, h⟩)
    ·have := chunks_rowE ((partsOf d l).map fun p => weightP p m)
     rw [hsz, ml] at this
     rw [List.drop_zero, ml, this]
    ·obtain ⟨p, hp2, rfl⟩ := List.mem_map.1 hw
     exact weight_ok (errP_zero.1 ez p hp2)
   ·refine ok_P vcRof_ok mixed _ (m_rofb d m l.length k k (encL l) _ _ _) ?_
    have hn : ((k : Nat) : Int).toNat = k := Int.toNat_natCast k
    have gd : (partOf d l[k]).getD part0 = (partsOf d l)[k]'(by rw [partsOf_len]; exact k1) := (partsOf_at _).symm
    have hsome : (partOf d l[k]).isSome = true := hall _ (List.getElem_mem k1)
    have fr : FitR ((partOf d l[k]).getD part0) := getR hf _
    have bad : checkP ((partOf d l[k]).getD part0) m ≠ 0 → Post (.tuple #[.agg #[.int .i64 0, .int .i64 0, .int .i64 0, .int .i64 0, .int .i64 0], .int .i64 (checkP ((partOf d l[k]).getD part0) m)]) := fun hne => by
     have e : errP m (partsOf d l) = checkP ((partOf d l[k]).getD part0) m := by
      unfold errP
      rw [firstErr_at (k := k) (by rw [partsOf_len]; exact k1) hok (by rw [getD_at (by rw [partsOf_len]; exact k1), ← gd]; exact hne), getD_at (by rw [partsOf_len]; exact k1), gd]
     have hnz : errP m (partsOf d l) ≠ 0 := by rw [e]; exact hne
     rw [if_pos hnz, if_pos hnz, e] at h
     exact h
    have nx := fun hzero : checkP ((partOf d l[k]).getD part0) m = 0 => ih (by omega) (fun i hi => by
     rcases Nat.lt_or_ge i k with h' | h'
     ·exact hok i h'
     ·rw [show i = k by omega, getD_at (by rw [hp]; exact k1), ← gd]; exact hzero)
    have et : rowE (((partsOf d l).take (k + 1)).map fun p => weightP p m) = rowE (((partsOf d l).take k).map fun p => weightP p m) ++ Enc.cells (weightP ((partOf d l[k]).getD part0) m) := by
     rw [List.take_add_one, List.getElem?_eq_getElem (by rw [hp]; exact k1), List.map_append, gd]
     exact rowE_snoc _ _
    have hlen := rowE_len (((partsOf d l).take k).map fun p => weightP p m)
    have hsz : Enc.sz Wt = 5 := rfl
    rw [hsz, List.length_map, List.length_take, hp] at hlen
    have hnls := rowE_nls (((partsOf d l).take (k + 1)).map fun p => weightP p m)
    rw [et] at hnls nx
    simp only [true_and, and_true, Nat.le_refl, hn, cell_id k1, toS_string, wrapSucc (show k < 2 ^ 62 by omega)]
    refine ifD (fun _ => ⟨⟨by omega, by omega⟩, d, l[k], rfl, hd, pIf_intro (fun _ => ?_) (fun hs => by rw [hsome] at hs; cases hs)⟩) (fun h' => by omega)
    exact ⟨_, m, rfl, fr, hm, ifN (fun hne => bad hne) (fun hzero => ⟨by omega, by omega, hnls, nx hzero⟩)⟩
  refine ok_P vcRof_ok mixed _ (m_rofa d m l.length 0 (encL l) _ _) ?_
  have hn : (0 : Int).toNat = 0 := rfl
  have gd : (partOf d l[0]).getD part0 = (partsOf d l)[0]'(by rw [partsOf_len]; exact hpos) := (partsOf_at _).symm
  have hsome : (partOf d l[0]).isSome = true := hall _ (List.getElem_mem hpos)
  have fr : FitR ((partOf d l[0]).getD part0) := getR hf _
  have bad : checkP ((partOf d l[0]).getD part0) m ≠ 0 → Post (.tuple #[.agg #[.int .i64 0, .int .i64 0, .int .i64 0, .int .i64 0, .int .i64 0], .int .i64 (checkP ((partOf d l[0]).getD part0) m)]) := fun hne => by
   have e : errP m (partsOf d l) = checkP ((partOf d l[0]).getD part0) m := by
    unfold errP
    rw [firstErr_at (k := 0) (by rw [partsOf_len]; exact hpos) (fun i hi => by omega) (by rw [getD_at (by rw [partsOf_len]; exact hpos), ← gd]; exact hne), getD_at (by rw [partsOf_len]; exact hpos), gd]
   have hnz : errP m (partsOf d l) ≠ 0 := by rw [e]; exact hne
   rw [if_pos hnz, if_pos hnz, e] at h
   exact h
  have nx := fun hzero : checkP ((partOf d l[0]).getD part0) m = 0 => key 1 hpos (Nat.le_refl _) (fun i hi => by
   rw [show i = 0 by omega, getD_at (by rw [hp]; exact hpos), ← gd]; exact hzero)
  have et : rowE (((partsOf d l).take 1).map fun p => weightP p m) = Enc.cells (weightP ((partOf d l[0]).getD part0) m) := by
   rw [List.take_add_one, List.getElem?_eq_getElem (by rw [hp]; exact hpos), gd]
   rfl
  have hnls := rowE_nls (((partsOf d l).take 1).map fun p => weightP p m)
  rw [et] at hnls nx
  have w1 : IntKind.i64.wrap (0 + 1) = 1 := by decide
  simp only [true_and, and_true, Nat.le_refl, hn, cell_id hpos, toS_string, w1]
  refine ifD (fun _ => ⟨⟨by omega, by omega⟩, d, l[0], rfl, hd, pIf_intro (fun _ => ?_) (fun hs => by rw [hsome] at hs; cases hs)⟩) (fun h' => by omega)
  exact ⟨_, m, rfl, fr, hm, ifN (fun hne => bad hne) (fun hzero => ⟨by decide, hnls, nx hzero⟩)⟩
 refine down (n := l.length) (p := fun k => allOf d (l.take k) → OkP 41 [design6V d, matsV m, trS l] 2 Post (stV [(2, some (trS l)), (3, some (.pointer (some ⟨0, 0, none⟩))), (4, some (.pointer (some ⟨1, 0, none⟩))), (6, some (.pointer (some ⟨2, 0, none⟩))), (8, some (.int .i64 k))] [(0, some (.cells (design6C d) true)), (1, some (.cells (matsC m) true)), (2, some (.cells zeroW true))] 3)) (fun hall => ?_) (fun k k1 ih hall => ?_) (fun s hs => by simp at hs)
 ·refine ok_P vcRof_ok mixed _ (l_rof d m l.length l.length (encL l) _ _) ?_
  rw [List.take_length] at hall
  simp only [true_and, and_true]
  exact ifD (fun hlt => by omega) (fun _ => second hall)
 ·refine ok_P vcRof_ok mixed _ (l_rof d m l.length k (encL l) _ _) ?_
  have hk : ((k : Nat) : Int).toNat = k := Int.toNat_natCast k
  have tk : l.take (k + 1) = l.take k ++ [l[k]] := by
   rw [List.take_add_one, List.getElem?_eq_getElem k1]
   rfl
  have hnext := fun hs : (partOf d l[k]).isSome = true => ih (by
   rw [tk]
   intro s hs2
   rcases List.mem_append.1 hs2 with h' | h'
   ·exact hall s h'
   ·simp at h'
    rw [h']
    exact hs)
  simp only [true_and, and_true, Nat.le_refl, hk, cell_id k1, toS_string, wrapSucc (show k < 2 ^ 62 by omega)]
  refine ifD (fun _ => ⟨⟨by omega, by omega⟩, d, l[k], rfl, hd, pIf_intro (fun hs => hnext hs) (fun hs => nope fun hn => ?_)⟩) (fun h' => by omega)
  have := hn _ (List.getElem_mem k1)
  rw [hs] at this
  cases this
end Go.Proofs.YtngginofamlkkaaGreatDoor
noncomputable section
namespace Go.Proofs.YtngginofamlkkaaGreatDoor
open Go Go.RowKit Go.ChangeShapes Go.WideShapes Go.ChangeAt Go.Deep Go.Joins
class Vol (α : Type) where
 vol : α → Nat
 pos : ∀ a, 1 ≤ vol a
instance : Vol Int := ⟨fun _ => 1, fun _ => Nat.le_refl _⟩
instance : Vol Bool := ⟨fun _ => 1, fun _ => Nat.le_refl _⟩
instance : Vol ByteArray := ⟨fun s => 1 + s.size, fun s => Nat.le_add_right _ _⟩
instance {α : Type} [Vol α] : Vol (List α) := ⟨fun l => 1 + (l.map Vol.vol).sum, fun s => Nat.le_add_right _ _⟩
instance {α β : Type} [Vol α] [Vol β] : Vol (α × β) := ⟨fun p => 1 + (Vol.vol p.1 + (Vol.vol p.2 + 0)), fun s => Nat.le_add_right _ _⟩
theorem vol_len {α : Type} [Vol α] (l : List α) : l.length + 1 ≤ Vol.vol l := by
 show _ ≤ 1 + (l.map Vol.vol).sum
 induction l with
 | nil => simp
 | cons a l ih =>
  have := Vol.pos a
  simp only [List.length_cons, List.map_cons, List.sum_cons]
  omega
theorem bulk_pos {H : Type} (d : DataW H) : 1 ≤ Rows.uptoBulk d := by
 cases d with
 | lit l => cases l <;> simp [Rows.uptoBulk]
 | nil => simp [Rows.uptoBulk]
 | ptr d => simp [Rows.uptoBulk]
 | slice elems spare => simp [Rows.uptoBulk]
 | agg parts => simp [Rows.uptoBulk]
 | iface t d => simp [Rows.uptoBulk]
 | map entries => simp [Rows.uptoBulk]
 | held h => simp [Rows.uptoBulk]
theorem bulk_append {H : Type} (l r : List (DataW H)) : Rows.uptoBulkAll (l ++ r) = Rows.uptoBulkAll l + Rows.uptoBulkAll r := by
 induction l with
 | nil => simp [Rows.uptoBulkAll]
 | cons x l ih => simp only [List.cons_append, Rows.uptoBulkAll, ih]; omega
def BK {H : Type} (xs : List (DataW H × List MemPlace)) (k s : Nat) : Prop := s ≤ Rows.uptoBulkAll ((xs.drop k).map (·.1))
def BK1 {H : Type} (xs : List (DataW H × List MemPlace)) (k v : Nat) : Prop := ∃ y, xs[k]? = some y ∧ v ≤ Rows.uptoBulk y.1
theorem BK1.next {H : Type} {xs : List (DataW H × List MemPlace)} {k v s : Nat} (h : BK1 xs k v) (r : BK xs (k + 1) s) : BK xs k (v + s) := by
 obtain ⟨y, h1, h2⟩ := h
 unfold BK at r ⊢
 have hk : k < xs.length := by
  rcases Nat.lt_or_ge k xs.length with h | h
  ·exact h
  ·rw [List.getElem?_eq_none h] at h1; cases h1
 rw [List.drop_eq_getElem_cons hk, List.map_cons]
 rw [List.getElem?_eq_getElem hk] at h1
 cases h1
 simp only [Rows.uptoBulkAll]
 omega
theorem BK.done {H : Type} {xs : List (DataW H × List MemPlace)} {k : Nat} : BK xs k 0 := Nat.zero_le _
theorem BK.agg {H : Type} {xs : List (DataW H × List MemPlace)} {s : Nat} (h : BK xs 0 s) : 1 + s ≤ Rows.uptoBulk (.agg (xs.map (·.1))) := by
 unfold BK at h
 simp only [List.drop_zero] at h
 simp only [Rows.uptoBulk]
 omega
def OpensB (P : Program) (w : World) (t : TypeId) (α : Type) [Enc α] [Vol α] (Ok : α → Prop) : Prop :=
 ∀ (H : Type) (enc : TypeId × Value → H) (base : Nat) (spare : Nat → Bool) (held : Bool) (fuel : Nat) (cs : List Value) (x : DataW H × List MemPlace), DataW.trod enc P w base spare held fuel t cs = some x → ∃ a : α, Ok a ∧ Vol.vol a ≤ Rows.uptoBulk x.1 ∧ VRC (frW w) (Enc.cells a) cs
section
variable {P : Program} {w : World}
theorem opensB_int {t : TypeId} (ht : P.underlying t = some (.int .i64)) : OpensB P w t Int In64 := fun H enc base spare held fuel cs x h => by
 obtain ⟨n, rfl, rfl, hw⟩ := DataW.trod_int ht h
 simp [Lit.wf, IntKind.min, IntKind.max, IntKind.signed, IntKind.bits] at hw
 exact ⟨n, ⟨by omega, by omega⟩, bulk_pos _, .one (.int _ _)⟩
theorem opensB_string {t : TypeId} (ht : P.underlying t = some .string) : OpensB P w t ByteArray fun s => s.size ≤ maxLen := fun H enc base spare held fuel cs x h => by
 obtain ⟨s, rfl, rfl, hs⟩ := DataW.trod_string ht h
 refine ⟨s, hs, ?_, .one (.string _)⟩
 show 1 + s.size ≤ _
 have e : s.data.toList.length = s.size := by rw [Array.length_toList]; rfl
 simp only [Rows.uptoBulk, e]
 omega
theorem tree_open {α : Type} [Enc α] (hz : 0 < Enc.sz α) {a : Addr} {len cap : Nat} {l : List α} (hlen : l.length = len) (hl : len ≤ cap) (h0 : 0 < len)
  (hcl : ∀ (i : Nat) (b : α), l[i]? = some b → ∀ (j : Nat) (v : Value), (Enc.cells b)[j]? = some v → ∃ v', w.cell? ((a.add (i * Enc.sz α)).add j) = some v' ∧ VR0 (frW w) v v') :
  VR0 (frW w) (tree (Enc.sz α) l.length (encL l)) (.slice (some a) len cap) := by
 have cell : ∀ (i j : Nat), i < len → j < Enc.sz α → ∃ v v', (∃ b, l[i]? = some b ∧ (Enc.cells b)[j]? = some v) ∧ w.cell? (a.add (i * Enc.sz α + j)) = some v' ∧ VR0 (frW w) v v' := fun i j hi hj => by
  have hb : l[i]? = some (l[i]'(by omega)) := List.getElem?_eq_getElem (by omega)
  have hv : (Enc.cells (l[i]'(by omega)))[j]? = some ((Enc.cells (l[i]'(by omega)))[j]'(by rw [Enc.len]; exact hj)) := List.getElem?_eq_getElem _
  obtain ⟨v', h1, h2⟩ := hcl i _ hb j _ hv
  rw [Go.Deep.add_add] at h1
  exact ⟨_, v', ⟨_, hb, hv⟩, h1, h2⟩
 obtain ⟨_, v0, _, hv0, _⟩ := cell 0 0 h0 hz
 obtain ⟨cs, ct, fz, hheap, _, hsp⟩ := cell_at hv0
 have hsp := hsp (by omega)
 have at_ : ∀ i j, i < len → j < Enc.sz α → ∃ v v', (∃ b, l[i]? = some b ∧ (Enc.cells b)[j]? = some v) ∧ cs[a.off + (i * Enc.sz α + j)]? = some v' ∧ VR0 (frW w) v v' := fun i j hi hj => by
  obtain ⟨v, v', h1, h2, h3⟩ := cell i j hi hj
  obtain ⟨cs', ct', fz', g1, g2, _⟩ := cell_at h2
  rw [hheap] at g1
  cases g1
  exact ⟨v, v', h1, g2, h3⟩
 obtain ⟨blk, off, spot⟩ := a
 simp only at hsp
 subst hsp
 have hsz : off + len * Enc.sz α ≤ cs.size := by
  obtain ⟨_, v', _, h2, _⟩ := at_ (len - 1) (Enc.sz α - 1) (by omega) (by omega)
  have hlt : off + ((len - 1) * Enc.sz α + (Enc.sz α - 1)) < cs.size := (Array.getElem?_eq_some_iff.1 h2).1
  have : len * Enc.sz α = (len - 1) * Enc.sz α + Enc.sz α := by
   obtain ⟨k, rfl⟩ : ∃ k, len = k + 1 := ⟨len - 1, by omega⟩
   rw [Nat.succ_mul]
   simp
  omega
 have hget : ∀ (i : Nat) (u : Value), (encL l)[i]? = some u → ∃ b, l[i]? = some b ∧ u = elt (Enc.cells b) := fun i u hu => by
  unfold encL at hu
  simp only [List.getElem?_toArray, List.getElem?_map, Option.map_eq_some_iff] at hu
  obtain ⟨b, h1, h2⟩ := hu
  exact ⟨b, h1, h2.symm⟩
 rw [hlen]
 refine VR0.tree (c := blk) (o := off) (cs := cs) (t := ct) (fz := fz) hheap (by simp [encL, hlen]) hl hsz (fun i u hu => ?_) (fun i j u v v' hu hv hv' => ?_)
 ·obtain ⟨b, _, rfl⟩ := hget i u hu
  simp [elt_cells (Enc.nl b), Enc.len]
 ·obtain ⟨b, hb, rfl⟩ := hget i u hu
  have hv2 : (Enc.cells b)[j]? = some v := by simpa [elt_cells (Enc.nl b)] using hv
  have hil : i < len := by
   rcases Nat.lt_or_ge i len with h' | h'
   ·exact h'
   ·rw [List.getElem?_eq_none (by omega)] at hb; cases hb
  have hjl : j < Enc.sz α := by
   rw [← Enc.len b]
   rcases Nat.lt_or_ge j (Enc.cells b).length with h' | h'
   ·exact h'
   ·rw [List.getElem?_eq_none h'] at hv2; cases hv2
  obtain ⟨v1, v1', ⟨b1, e1, e2⟩, e3, e4⟩ := at_ i j hil hjl
  rw [hb] at e1
  cases e1
  rw [hv2] at e2
  cases e2
  rw [show off + i * Enc.sz α + j = off + (i * Enc.sz α + j) by omega] at hv'
  have : v1' = v' := by
   have e3' : cs[off + (i * Enc.sz α + j)]? = some v1' := e3
   rw [hv'] at e3'
   cases e3'
   rfl
  subst this
  exact e4
theorem opensB_slice {t e : TypeId} {α : Type} [Enc α] [Vol α] {Ok : α → Prop} (ht : P.underlying t = some (.slice e)) (he : OpensB P w e α Ok) (hc : P.cellsOf e = Enc.sz α) (hz : 0 < Enc.sz α) :
  OpensB P w t (List α) fun l => l.length ≤ maxLen ∧ ∀ a ∈ l, Ok a := fun H enc base spare held fuel cs x h => by
 rcases open_slice ht h with ⟨rfl, rfl⟩ | ⟨a, len, cap, m, n, D, Pl, rfl, _, hl, hm, hmm, rfl, hi⟩
 ·exact ⟨[], ⟨Nat.zero_le _, fun a ha => by cases ha⟩, bulk_pos _, .one (.treeNil _ _ _)⟩
 rw [hc] at hi
 have hlm : len ≤ m := by rw [hmm]; split <;> omega
 have key : ∀ i, i < len → ∃ b : α, Ok b ∧ Vol.vol b ≤ Rows.uptoBulk (D i) ∧ ∀ (j : Nat) (v : Value), (Enc.cells b)[j]? = some v → ∃ v', w.cell? ((a.add (i * Enc.sz α)).add j) = some v' ∧ VR0 (frW w) v v' := by
  intro i hil
  obtain ⟨cs', h1, h2⟩ := hi i (by omega)
  obtain ⟨_, h3, h4⟩ := World.cells?_some h1
  obtain ⟨b, hb, hbv, hv⟩ := he H enc _ _ _ _ _ _ h2
  refine ⟨b, hb, hbv, fun j v hj => ?_⟩
  have hjl : j < Enc.sz α := by
   rw [← Enc.len b]
   rcases Nat.lt_or_ge j (Enc.cells b).length with h' | h'
   ·exact h'
   ·rw [List.getElem?_eq_none h'] at hj; cases hj
  have hj' : cs'[j]? = some (cs'[j]'(by omega)) := List.getElem?_eq_getElem (by omega)
  exact ⟨_, (h4 j hjl).trans hj', hv.2 j v _ hj hj'⟩
 have build : ∀ k, k ≤ len → ∃ l : List α, l.length = k ∧ (∀ b ∈ l, Ok b) ∧ (l.map Vol.vol).sum ≤ Rows.uptoBulkAll ((List.range k).map D) ∧ ∀ (i : Nat) (b : α), l[i]? = some b → ∀ (j : Nat) (v : Value), (Enc.cells b)[j]? = some v → ∃ v', w.cell? ((a.add (i * Enc.sz α)).add j) = some v' ∧ VR0 (frW w) v v' := by
  intro k
  induction k with
  | zero => exact fun _ => ⟨[], rfl, by simp, by simp, by simp⟩
  | succ k ih =>
   intro hk
   obtain ⟨l, e1, hin, hbu, hcl⟩ := ih (by omega)
   obtain ⟨b, hb, hbv, hbc⟩ := key k (by omega)
   refine ⟨l ++ [b], by simp [e1], fun x hx => ?_, ?_, fun i x hx => ?_⟩
   ·rcases List.mem_append.1 hx with hx | hx
    ·exact hin x hx
    ·simp at hx; subst hx; exact hb
   ·simp only [List.range_succ, List.map_append, bulk_append, List.sum_append, List.map_cons, List.map_nil, List.sum_cons, List.sum_nil, Rows.uptoBulkAll]
    omega
   ·rcases Nat.lt_or_ge i k with hik | hik
    ·rw [List.getElem?_append_left (by omega)] at hx
     exact hcl i x hx
    ·rw [List.getElem?_append_right (by omega), e1] at hx
     have : i = k := by
      rcases Nat.lt_or_ge k i with h' | h'
      ·rw [List.getElem?_eq_none (by simp; omega)] at hx; cases hx
      ·omega
     subst this
     simp at hx
     subst hx
     exact hbc
 obtain ⟨l, hlen, hok, hbu, hcl⟩ := build len (Nat.le_refl _)
 refine ⟨l, ⟨by omega, hok⟩, ?_, .one ?_⟩
 ·show 1 + (l.map Vol.vol).sum ≤ _
  simp only [Rows.uptoBulk]
  omega
 rcases Nat.eq_zero_or_pos len with h0 | h0
 ·subst h0
  have : l = [] := List.eq_nil_of_length_eq_zero hlen
  subst this
  exact .treeNil _ _ _
 exact tree_open hz hlen hl h0 hcl
theorem fieldB {t : TypeId} {α : Type} [Enc α] [Vol α] {Ok : α → Prop} (ho : OpensB P w t α Ok) {H : Type} {enc : TypeId × Value → H} {base : Nat} {spare : Nat → Bool} {held : Bool} {fuel : Nat} {cs : List Value} {xs : List (DataW H × List MemPlace)} {i : Nat}
  (h : DataW.trod enc P w base spare held fuel t cs = xs[i]?) (hi : i < xs.length) : ∃ a : α, Ok a ∧ BK1 xs i (Vol.vol a) ∧ VRC (frW w) (Enc.cells a) cs := by
 have hg := List.getElem?_eq_getElem hi
 obtain ⟨a, h1, h2, h3⟩ := ho H enc _ _ _ _ _ _ (h.trans hg)
 exact ⟨a, h1, ⟨_, hg, h2⟩, h3⟩
theorem open_argB {t : TypeId} {α : Type} [Enc α] [Vol α] {Ok : α → Prop} (ho : OpensB P w t α Ok) {H : Type} {enc : TypeId × Value → H} {base : Nat} {spare : Nat → Bool} {held : Bool} {v : Value} {d : DataW H} {p : List MemPlace} (h : DataW.Trod enc P w base spare held t v d p) :
  ∃ a : α, Ok a ∧ Vol.vol a ≤ Rows.uptoBulk d ∧ VRC (frW w) (Enc.cells a) v.cells.toList := by
 obtain ⟨fuel, hf⟩ := h
 exact ho H enc _ _ _ _ _ _ hf
end
end Go.Proofs.YtngginofamlkkaaGreatDoor

noncomputable section
namespace Go.Proofs.YtngginofamlkkaaGreatDoor
open Go Go.RowKit Go.ChangeShapes Go.WideShapes Go.ChangeAt Go.Deep Go.Joins
set_option maxRecDepth 100000
instance : Vol Pt := ⟨fun p => 1 + (Vol.vol p.x + (Vol.vol p.y + (0))), fun _ => Nat.le_add_right _ _⟩
def okPt (p : Pt) : Prop := In64 p.x ∧ In64 p.y
theorem opensB_Pt {w : World} : OpensB Tryz.prog w 53 Pt okPt := fun H enc base spare held fuel cs x h => by
 obtain ⟨xs, n, _, rfl, hlen, hxs, hf⟩ := DataW.trod_struct Tryz.underlying53 h
 have hc : Tryz.prog.cellsOf 53 = 2 := by kernel_rfl
 obtain ⟨b0, k0, u0, v0⟩ := fieldB (opensB_int Tryz.underlying3) (hf 0 _ rfl) (by rw [hxs]; decide)
 obtain ⟨b1, k1, u1, v1⟩ := fieldB (opensB_int Tryz.underlying3) (hf 1 _ rfl) (by rw [hxs]; decide)
 have hb := BK.agg (u0.next (u1.next (BK.done)))
 refine ⟨⟨b0, b1⟩, ⟨k0, k1⟩, hb, v0.next (v1.next (VRC.done (n := 2) (hlen.trans hc)))⟩
theorem opensB_Pts {w : World} : OpensB Tryz.prog w 22 (List Pt) fun l => l.length ≤ maxLen ∧ ∀ a ∈ l, okPt a := opensB_slice Tryz.underlying22 opensB_Pt (by kernel_rfl) (by decide)
instance : Vol Vec3 := ⟨fun p => 1 + (Vol.vol p.x + (Vol.vol p.y + (Vol.vol p.z + (0)))), fun _ => Nat.le_add_right _ _⟩
def okVec3 (p : Vec3) : Prop := In64 p.x ∧ In64 p.y ∧ In64 p.z
theorem opensB_Vec3 {w : World} : OpensB Tryz.prog w 27 Vec3 okVec3 := fun H enc base spare held fuel cs x h => by
 obtain ⟨xs, n, _, rfl, hlen, hxs, hf⟩ := DataW.trod_struct Tryz.underlying27 h
 have hc : Tryz.prog.cellsOf 27 = 3 := by kernel_rfl
 obtain ⟨b0, k0, u0, v0⟩ := fieldB (opensB_int Tryz.underlying3) (hf 0 _ rfl) (by rw [hxs]; decide)
 obtain ⟨b1, k1, u1, v1⟩ := fieldB (opensB_int Tryz.underlying3) (hf 1 _ rfl) (by rw [hxs]; decide)
 obtain ⟨b2, k2, u2, v2⟩ := fieldB (opensB_int Tryz.underlying3) (hf 2 _ rfl) (by rw [hxs]; decide)
 have hb := BK.agg (u0.next (u1.next (u2.next (BK.done))))
 refine ⟨⟨b0, b1, b2⟩, ⟨k0, k1, k2⟩, hb, v0.next (v1.next (v2.next (VRC.done (n := 3) (hlen.trans hc))))⟩
theorem opensB_shape {w : World} : OpensB Tryz.prog w 25 (List Pt × List (List Pt)) fun p => (p.1.length ≤ maxLen ∧ ∀ a ∈ p.1, okPt a) ∧ (p.2.length ≤ maxLen ∧ ∀ l ∈ p.2, l.length ≤ maxLen ∧ ∀ a ∈ l, okPt a) := fun H enc base spare held fuel cs x h => by
 obtain ⟨xs, n, _, rfl, hlen, hxs, hf⟩ := DataW.trod_struct Tryz.underlying25 h
 have hc : Tryz.prog.cellsOf 25 = 2 := by kernel_rfl
 obtain ⟨b0, k0, u0, v0⟩ := fieldB opensB_Pts (hf 0 _ rfl) (by rw [hxs]; decide)
 obtain ⟨b1, k1, u1, v1⟩ := fieldB (opensB_slice Tryz.underlying23 opensB_Pts (by kernel_rfl) (by decide)) (hf 1 _ rfl) (by rw [hxs]; decide)
 have hb := BK.agg (u0.next (u1.next BK.done))
 exact ⟨⟨b0, b1⟩, ⟨k0, k1⟩, hb, v0.next (v1.next (VRC.done (n := 2) (hlen.trans hc)))⟩
theorem opensB_place {w : World} : OpensB Tryz.prog w 29 (Vec3 × Int) fun p => okVec3 p.1 ∧ In64 p.2 := fun H enc base spare held fuel cs x h => by
 obtain ⟨xs, n, _, rfl, hlen, hxs, hf⟩ := DataW.trod_struct Tryz.underlying29 h
 have hc : Tryz.prog.cellsOf 29 = 4 := by kernel_rfl
 obtain ⟨b0, k0, u0, v0⟩ := fieldB opensB_Vec3 (hf 0 _ rfl) (by rw [hxs]; decide)
 obtain ⟨b1, k1, u1, v1⟩ := fieldB (opensB_int Tryz.underlying3) (hf 1 _ rfl) (by rw [hxs]; decide)
 have hb := BK.agg (u0.next (u1.next BK.done))
 exact ⟨⟨b0, b1⟩, ⟨k0, k1⟩, hb, v0.next (v1.next (VRC.done (n := 4) (hlen.trans hc)))⟩
instance : Vol Part := ⟨fun p => 1 + (Vol.vol p.id + (Vol.vol p.rev + (Vol.vol p.kind + (Vol.vol p.node + (Vol.vol p.grade + (Vol.vol p.thick + (Vol.vol p.outer + (Vol.vol p.holes + (Vol.vol p.sect + (Vol.vol p.long + (Vol.vol p.mass + (Vol.vol p.centre + (Vol.vol p.at_ + (Vol.vol p.turn + (0))))))))))))))), fun _ => Nat.le_add_right _ _⟩
abbrev okPart (p : Part) : Prop := InPart p
set_option maxHeartbeats 2000000 in
theorem opensB_Part {w : World} : OpensB Tryz.prog w 31 Part okPart := fun H enc base spare held fuel cs x h => by
 obtain ⟨xs, n, _, rfl, hlen, hxs, hf⟩ := DataW.trod_struct Tryz.underlying31 h
 have hc : Tryz.prog.cellsOf 31 = 18 := by kernel_rfl
 obtain ⟨b0, k0, u0, v0⟩ := fieldB (opensB_string Tryz.underlying9) (hf 0 _ rfl) (by rw [hxs]; decide)
 obtain ⟨b1, k1, u1, v1⟩ := fieldB (opensB_int Tryz.underlying3) (hf 1 _ rfl) (by rw [hxs]; decide)
 obtain ⟨b2, k2, u2, v2⟩ := fieldB (opensB_int Tryz.underlying3) (hf 2 _ rfl) (by rw [hxs]; decide)
 obtain ⟨b3, k3, u3, v3⟩ := fieldB (opensB_string Tryz.underlying9) (hf 3 _ rfl) (by rw [hxs]; decide)
 obtain ⟨b4, k4, u4, v4⟩ := fieldB (opensB_string Tryz.underlying9) (hf 4 _ rfl) (by rw [hxs]; decide)
 obtain ⟨b5, k5, u5, v5⟩ := fieldB (opensB_int Tryz.underlying3) (hf 5 _ rfl) (by rw [hxs]; decide)
 obtain ⟨b6, k6, u6, v6⟩ := fieldB opensB_shape (hf 6 _ rfl) (by rw [hxs]; decide)
 obtain ⟨b7, k7, u7, v7⟩ := fieldB (opensB_string Tryz.underlying9) (hf 7 _ rfl) (by rw [hxs]; decide)
 obtain ⟨b8, k8, u8, v8⟩ := fieldB (opensB_int Tryz.underlying3) (hf 8 _ rfl) (by rw [hxs]; decide)
 obtain ⟨b9, k9, u9, v9⟩ := fieldB (opensB_int Tryz.underlying3) (hf 9 _ rfl) (by rw [hxs]; decide)
 obtain ⟨b10, k10, u10, v10⟩ := fieldB opensB_Vec3 (hf 10 _ rfl) (by rw [hxs]; decide)
 obtain ⟨b11, k11, u11, v11⟩ := fieldB opensB_place (hf 11 _ rfl) (by rw [hxs]; decide)
 have hb := BK.agg (u0.next (u1.next (u2.next (u3.next (u4.next (u5.next (u6.next (u7.next (u8.next (u9.next (u10.next (u11.next (BK.done)))))))))))))
 refine ⟨⟨b0, b1, b2, b3, b4, b5, b6.1, b6.2, b7, b8, b9, b10, b11.1, b11.2⟩, ⟨k1, k2, k5, k6.1.2, fun l hl => (k6.2.2 l hl).2, k8, k9, k10, k11.1, k11.2, k0, k3, k4, k7⟩, ?_, ?_⟩
 ·refine Nat.le_trans ?_ hb
  clear hb u0 u1 u2 u3 u4 u5 u6 u7 u8 u9 u10 u11 v0 v1 v2 v3 v4 v5 v6 v7 v8 v9 v10 v11
  have e6 : Vol.vol b6 = 1 + (Vol.vol b6.1 + (Vol.vol b6.2 + 0)) := rfl
  have e11 : Vol.vol b11 = 1 + (Vol.vol b11.1 + (Vol.vol b11.2 + 0)) := rfl
  show 1 + (Vol.vol b0 + (Vol.vol b1 + (Vol.vol b2 + (Vol.vol b3 + (Vol.vol b4 + (Vol.vol b5 + (Vol.vol b6.1 + (Vol.vol b6.2 + (Vol.vol b7 + (Vol.vol b8 + (Vol.vol b9 + (Vol.vol b10 + (Vol.vol b11.1 + (Vol.vol b11.2 + (0))))))))))))))) ≤ _
  rw [e6, e11]
  clear e6 e11
  generalize Vol.vol b0 = a0
  generalize Vol.vol b1 = a1
  generalize Vol.vol b2 = a2
  generalize Vol.vol b3 = a3
  generalize Vol.vol b4 = a4
  generalize Vol.vol b5 = a5
  generalize Vol.vol b6.1 = a6
  generalize Vol.vol b6.2 = a7
  generalize Vol.vol b7 = a8
  generalize Vol.vol b8 = a9
  generalize Vol.vol b9 = a10
  generalize Vol.vol b10 = a11
  generalize Vol.vol b11.1 = a12
  generalize Vol.vol b11.2 = a13
  omega
 ·exact v0.next (v1.next (v2.next (v3.next (v4.next (v5.next (v6.next (v7.next (v8.next (v9.next (v10.next (v11.next (VRC.done (n := 18) (hlen.trans hc)))))))))))))
instance : Vol Node3 := ⟨fun p => 1 + (Vol.vol p.id + (Vol.vol p.kind + (Vol.vol p.parent + (0)))), fun _ => Nat.le_add_right _ _⟩
def okNode3 (p : Node3) : Prop := p.id.size ≤ maxLen ∧ In64 p.kind ∧ p.parent.size ≤ maxLen
theorem opensB_Node3 {w : World} : OpensB Tryz.prog w 197 Node3 okNode3 := fun H enc base spare held fuel cs x h => by
 obtain ⟨xs, n, _, rfl, hlen, hxs, hf⟩ := DataW.trod_struct Tryz.underlying197 h
 have hc : Tryz.prog.cellsOf 197 = 3 := by kernel_rfl
 obtain ⟨b0, k0, u0, v0⟩ := fieldB (opensB_string Tryz.underlying9) (hf 0 _ rfl) (by rw [hxs]; decide)
 obtain ⟨b1, k1, u1, v1⟩ := fieldB (opensB_int Tryz.underlying3) (hf 1 _ rfl) (by rw [hxs]; decide)
 obtain ⟨b2, k2, u2, v2⟩ := fieldB (opensB_string Tryz.underlying9) (hf 2 _ rfl) (by rw [hxs]; decide)
 have hb := BK.agg (u0.next (u1.next (u2.next (BK.done))))
 refine ⟨⟨b0, b1, b2⟩, ⟨k0, k1, k2⟩, hb, v0.next (v1.next (v2.next (VRC.done (n := 3) (hlen.trans hc))))⟩
instance : Vol Seam6 := ⟨fun p => 1 + (Vol.vol p.id + (Vol.vol p.a + (Vol.vol p.b + (Vol.vol p.kind + (Vol.vol p.long + (Vol.vol p.cls + (0))))))), fun _ => Nat.le_add_right _ _⟩
def okSeam6 (p : Seam6) : Prop := p.id.size ≤ maxLen ∧ p.a.size ≤ maxLen ∧ p.b.size ≤ maxLen ∧ In64 p.kind ∧ In64 p.long ∧ In64 p.cls
theorem opensB_Seam6 {w : World} : OpensB Tryz.prog w 205 Seam6 okSeam6 := fun H enc base spare held fuel cs x h => by
 obtain ⟨xs, n, _, rfl, hlen, hxs, hf⟩ := DataW.trod_struct Tryz.underlying205 h
 have hc : Tryz.prog.cellsOf 205 = 6 := by kernel_rfl
 obtain ⟨b0, k0, u0, v0⟩ := fieldB (opensB_string Tryz.underlying9) (hf 0 _ rfl) (by rw [hxs]; decide)
 obtain ⟨b1, k1, u1, v1⟩ := fieldB (opensB_string Tryz.underlying9) (hf 1 _ rfl) (by rw [hxs]; decide)
 obtain ⟨b2, k2, u2, v2⟩ := fieldB (opensB_string Tryz.underlying9) (hf 2 _ rfl) (by rw [hxs]; decide)
 obtain ⟨b3, k3, u3, v3⟩ := fieldB (opensB_int Tryz.underlying3) (hf 3 _ rfl) (by rw [hxs]; decide)
 obtain ⟨b4, k4, u4, v4⟩ := fieldB (opensB_int Tryz.underlying3) (hf 4 _ rfl) (by rw [hxs]; decide)
 obtain ⟨b5, k5, u5, v5⟩ := fieldB (opensB_int Tryz.underlying3) (hf 5 _ rfl) (by rw [hxs]; decide)
 have hb := BK.agg (u0.next (u1.next (u2.next (u3.next (u4.next (u5.next (BK.done)))))))
 refine ⟨⟨b0, b1, b2, b3, b4, b5⟩, ⟨k0, k1, k2, k3, k4, k5⟩, hb, v0.next (v1.next (v2.next (v3.next (v4.next (v5.next (VRC.done (n := 6) (hlen.trans hc)))))))⟩
instance : Vol Pack5 := ⟨fun p => 1 + (Vol.vol p.id + (Vol.vol p.block + (Vol.vol p.parts + (Vol.vol p.hours + (Vol.vol p.after + (0)))))), fun _ => Nat.le_add_right _ _⟩
def okPack5 (p : Pack5) : Prop := p.id.size ≤ maxLen ∧ p.block.size ≤ maxLen ∧ (p.parts.length ≤ maxLen ∧ ∀ a ∈ p.parts, a.size ≤ maxLen) ∧ In64 p.hours ∧ (p.after.length ≤ maxLen ∧ ∀ a ∈ p.after, a.size ≤ maxLen)
theorem opensB_Pack5 {w : World} : OpensB Tryz.prog w 125 Pack5 okPack5 := fun H enc base spare held fuel cs x h => by
 obtain ⟨xs, n, _, rfl, hlen, hxs, hf⟩ := DataW.trod_struct Tryz.underlying125 h
 have hc : Tryz.prog.cellsOf 125 = 5 := by kernel_rfl
 obtain ⟨b0, k0, u0, v0⟩ := fieldB (opensB_string Tryz.underlying9) (hf 0 _ rfl) (by rw [hxs]; decide)
 obtain ⟨b1, k1, u1, v1⟩ := fieldB (opensB_string Tryz.underlying9) (hf 1 _ rfl) (by rw [hxs]; decide)
 obtain ⟨b2, k2, u2, v2⟩ := fieldB (opensB_slice Tryz.underlying72 (opensB_string Tryz.underlying9) (by kernel_rfl) (by decide)) (hf 2 _ rfl) (by rw [hxs]; decide)
 obtain ⟨b3, k3, u3, v3⟩ := fieldB (opensB_int Tryz.underlying3) (hf 3 _ rfl) (by rw [hxs]; decide)
 obtain ⟨b4, k4, u4, v4⟩ := fieldB (opensB_slice Tryz.underlying72 (opensB_string Tryz.underlying9) (by kernel_rfl) (by decide)) (hf 4 _ rfl) (by rw [hxs]; decide)
 have hb := BK.agg (u0.next (u1.next (u2.next (u3.next (u4.next (BK.done))))))
 refine ⟨⟨b0, b1, b2, b3, b4⟩, ⟨k0, k1, k2, k3, k4⟩, hb, v0.next (v1.next (v2.next (v3.next (v4.next (VRC.done (n := 5) (hlen.trans hc))))))⟩
instance : Vol Need3 := ⟨fun p => 1 + (Vol.vol p.kind + (Vol.vol p.block + (Vol.vol p.on + (0)))), fun _ => Nat.le_add_right _ _⟩
def okNeed3 (p : Need3) : Prop := In64 p.kind ∧ p.block.size ≤ maxLen ∧ p.on.size ≤ maxLen
theorem opensB_Need3 {w : World} : OpensB Tryz.prog w 194 Need3 okNeed3 := fun H enc base spare held fuel cs x h => by
 obtain ⟨xs, n, _, rfl, hlen, hxs, hf⟩ := DataW.trod_struct Tryz.underlying194 h
 have hc : Tryz.prog.cellsOf 194 = 3 := by kernel_rfl
 obtain ⟨b0, k0, u0, v0⟩ := fieldB (opensB_int Tryz.underlying3) (hf 0 _ rfl) (by rw [hxs]; decide)
 obtain ⟨b1, k1, u1, v1⟩ := fieldB (opensB_string Tryz.underlying9) (hf 1 _ rfl) (by rw [hxs]; decide)
 obtain ⟨b2, k2, u2, v2⟩ := fieldB (opensB_string Tryz.underlying9) (hf 2 _ rfl) (by rw [hxs]; decide)
 have hb := BK.agg (u0.next (u1.next (u2.next (BK.done))))
 refine ⟨⟨b0, b1, b2⟩, ⟨k0, k1, k2⟩, hb, v0.next (v1.next (v2.next (VRC.done (n := 3) (hlen.trans hc))))⟩
instance : Vol Design6 := ⟨fun p => 1 + (Vol.vol p.hull + (Vol.vol p.nodes + (Vol.vol p.parts + (Vol.vol p.seams + (Vol.vol p.packs + (Vol.vol p.needs + (0))))))), fun _ => Nat.le_add_right _ _⟩
def okDesign6 (p : Design6) : Prop := p.hull.size ≤ maxLen ∧ (p.nodes.length ≤ maxLen ∧ ∀ a ∈ p.nodes, okNode3 a) ∧ (p.parts.length ≤ maxLen ∧ ∀ a ∈ p.parts, okPart a) ∧ (p.seams.length ≤ maxLen ∧ ∀ a ∈ p.seams, okSeam6 a) ∧ (p.packs.length ≤ maxLen ∧ ∀ a ∈ p.packs, okPack5 a) ∧ (p.needs.length ≤ maxLen ∧ ∀ a ∈ p.needs, okNeed3 a)
theorem opensB_Design6 {w : World} : OpensB Tryz.prog w 71 Design6 okDesign6 := fun H enc base spare held fuel cs x h => by
 obtain ⟨xs, n, _, rfl, hlen, hxs, hf⟩ := DataW.trod_struct Tryz.underlying71 h
 have hc : Tryz.prog.cellsOf 71 = 6 := by kernel_rfl
 obtain ⟨b0, k0, u0, v0⟩ := fieldB (opensB_string Tryz.underlying9) (hf 0 _ rfl) (by rw [hxs]; decide)
 obtain ⟨b1, k1, u1, v1⟩ := fieldB (opensB_slice Tryz.underlying65 opensB_Node3 (by kernel_rfl) (by decide)) (hf 1 _ rfl) (by rw [hxs]; decide)
 obtain ⟨b2, k2, u2, v2⟩ := fieldB (opensB_slice Tryz.underlying66 opensB_Part (by kernel_rfl) (by decide)) (hf 2 _ rfl) (by rw [hxs]; decide)
 obtain ⟨b3, k3, u3, v3⟩ := fieldB (opensB_slice Tryz.underlying67 opensB_Seam6 (by kernel_rfl) (by decide)) (hf 3 _ rfl) (by rw [hxs]; decide)
 obtain ⟨b4, k4, u4, v4⟩ := fieldB (opensB_slice Tryz.underlying68 opensB_Pack5 (by kernel_rfl) (by decide)) (hf 4 _ rfl) (by rw [hxs]; decide)
 obtain ⟨b5, k5, u5, v5⟩ := fieldB (opensB_slice Tryz.underlying69 opensB_Need3 (by kernel_rfl) (by decide)) (hf 5 _ rfl) (by rw [hxs]; decide)
 have hb := BK.agg (u0.next (u1.next (u2.next (u3.next (u4.next (u5.next (BK.done)))))))
 refine ⟨⟨b0, b1, b2, b3, b4, b5⟩, ⟨k0, k1, k2, k3, k4, k5⟩, hb, v0.next (v1.next (v2.next (v3.next (v4.next (v5.next (VRC.done (n := 6) (hlen.trans hc)))))))⟩
instance : Vol Grade4 := ⟨fun p => 1 + (Vol.vol p.name + (Vol.vol p.dens + (Vol.vol p.yld + (Vol.vol p.gauges + (0))))), fun _ => Nat.le_add_right _ _⟩
def okGrade4 (p : Grade4) : Prop := p.name.size ≤ maxLen ∧ In64 p.dens ∧ In64 p.yld ∧ (p.gauges.length ≤ maxLen ∧ ∀ a ∈ p.gauges, In64 a)
theorem opensB_Grade4 {w : World} : OpensB Tryz.prog w 90 Grade4 okGrade4 := fun H enc base spare held fuel cs x h => by
 obtain ⟨xs, n, _, rfl, hlen, hxs, hf⟩ := DataW.trod_struct Tryz.underlying90 h
 have hc : Tryz.prog.cellsOf 90 = 4 := by kernel_rfl
 obtain ⟨b0, k0, u0, v0⟩ := fieldB (opensB_string Tryz.underlying9) (hf 0 _ rfl) (by rw [hxs]; decide)
 obtain ⟨b1, k1, u1, v1⟩ := fieldB (opensB_int Tryz.underlying3) (hf 1 _ rfl) (by rw [hxs]; decide)
 obtain ⟨b2, k2, u2, v2⟩ := fieldB (opensB_int Tryz.underlying3) (hf 2 _ rfl) (by rw [hxs]; decide)
 obtain ⟨b3, k3, u3, v3⟩ := fieldB (opensB_slice Tryz.underlying88 (opensB_int Tryz.underlying3) (by kernel_rfl) (by decide)) (hf 3 _ rfl) (by rw [hxs]; decide)
 have hb := BK.agg (u0.next (u1.next (u2.next (u3.next (BK.done)))))
 refine ⟨⟨b0, b1, b2, b3⟩, ⟨k0, k1, k2, k3⟩, hb, v0.next (v1.next (v2.next (v3.next (VRC.done (n := 4) (hlen.trans hc)))))⟩
instance : Vol Sect4 := ⟨fun p => 1 + (Vol.vol p.name + (Vol.vol p.area + (Vol.vol p.height + (Vol.vol p.stock + (0))))), fun _ => Nat.le_add_right _ _⟩
def okSect4 (p : Sect4) : Prop := p.name.size ≤ maxLen ∧ In64 p.area ∧ In64 p.height ∧ In64 p.stock
theorem opensB_Sect4 {w : World} : OpensB Tryz.prog w 94 Sect4 okSect4 := fun H enc base spare held fuel cs x h => by
 obtain ⟨xs, n, _, rfl, hlen, hxs, hf⟩ := DataW.trod_struct Tryz.underlying94 h
 have hc : Tryz.prog.cellsOf 94 = 4 := by kernel_rfl
 obtain ⟨b0, k0, u0, v0⟩ := fieldB (opensB_string Tryz.underlying9) (hf 0 _ rfl) (by rw [hxs]; decide)
 obtain ⟨b1, k1, u1, v1⟩ := fieldB (opensB_int Tryz.underlying3) (hf 1 _ rfl) (by rw [hxs]; decide)
 obtain ⟨b2, k2, u2, v2⟩ := fieldB (opensB_int Tryz.underlying3) (hf 2 _ rfl) (by rw [hxs]; decide)
 obtain ⟨b3, k3, u3, v3⟩ := fieldB (opensB_int Tryz.underlying3) (hf 3 _ rfl) (by rw [hxs]; decide)
 have hb := BK.agg (u0.next (u1.next (u2.next (u3.next (BK.done)))))
 refine ⟨⟨b0, b1, b2, b3⟩, ⟨k0, k1, k2, k3⟩, hb, v0.next (v1.next (v2.next (v3.next (VRC.done (n := 4) (hlen.trans hc)))))⟩
instance : Vol Mats := ⟨fun p => 1 + (Vol.vol p.grades + (Vol.vol p.sects + (0))), fun _ => Nat.le_add_right _ _⟩
def okMats (p : Mats) : Prop := (p.grades.length ≤ maxLen ∧ ∀ a ∈ p.grades, okGrade4 a) ∧ (p.sects.length ≤ maxLen ∧ ∀ a ∈ p.sects, okSect4 a)
theorem opensB_Mats {w : World} : OpensB Tryz.prog w 35 Mats okMats := fun H enc base spare held fuel cs x h => by
 obtain ⟨xs, n, _, rfl, hlen, hxs, hf⟩ := DataW.trod_struct Tryz.underlying35 h
 have hc : Tryz.prog.cellsOf 35 = 2 := by kernel_rfl
 obtain ⟨b0, k0, u0, v0⟩ := fieldB (opensB_slice Tryz.underlying32 opensB_Grade4 (by kernel_rfl) (by decide)) (hf 0 _ rfl) (by rw [hxs]; decide)
 obtain ⟨b1, k1, u1, v1⟩ := fieldB (opensB_slice Tryz.underlying33 opensB_Sect4 (by kernel_rfl) (by decide)) (hf 1 _ rfl) (by rw [hxs]; decide)
 have hb := BK.agg (u0.next (u1.next (BK.done)))
 refine ⟨⟨b0, b1⟩, ⟨k0, k1⟩, hb, v0.next (v1.next (VRC.done (n := 2) (hlen.trans hc)))⟩
theorem opensB_names {w : World} : OpensB Tryz.prog w 72 (List ByteArray) fun l => l.length ≤ maxLen ∧ ∀ a ∈ l, a.size ≤ maxLen := opensB_slice Tryz.underlying72 (opensB_string Tryz.underlying9) (by kernel_rfl) (by decide)
end Go.Proofs.YtngginofamlkkaaGreatDoor

noncomputable section
namespace Go.Proofs.YtngginofamlkkaaGreatDoor
open Go Go.RowKit
set_option maxRecDepth 100000
set_option maxHeartbeats 8000000
theorem vol_mem {α : Type} [Vol α] {l : List α} {a : α} (h : a ∈ l) : Vol.vol a < Vol.vol l := by
 show _ < 1 + (l.map Vol.vol).sum
 induction l with
 | nil => cases h
 | cons b l ih =>
  rw [List.map_cons, List.sum_cons]
  rcases List.mem_cons.1 h with rfl | h'
  ·omega
  ·have := ih h'
   omega
theorem vol_pos_len {α : Type} [Vol α] (l : List α) {n : Nat} (h : Vol.vol l ≤ n) : l.length ≤ n := by
 have := vol_len l
 omega
theorem vol_size (s : ByteArray) {n : Nat} (h : Vol.vol s ≤ n) : s.size ≤ n := by
 have e : Vol.vol s = 1 + s.size := rfl
 omega
structure Blk6 (d : Design6) : Prop where
 dd : FitD d
 p : FitP d
 o : FitO d
 t : ∀ x ∈ d.nodes, x.id.size < 16777000
 s : ∀ x ∈ d.seams, x.id.size < 16777000 ∧ x.a.size < 16777000 ∧ x.b.size < 16777000
 k : ∀ x ∈ d.packs, x.id.size < 16777000
theorem part_bulk {p : Part} (h : Vol.vol p ≤ 1048576) : FitW p ∧ FitR p := by
 have e : Vol.vol p = 1 + (Vol.vol p.id + (Vol.vol p.rev + (Vol.vol p.kind + (Vol.vol p.node + (Vol.vol p.grade + (Vol.vol p.thick + (Vol.vol p.outer + (Vol.vol p.holes + (Vol.vol p.sect + (Vol.vol p.long + (Vol.vol p.mass + (Vol.vol p.centre + (Vol.vol p.at_ + (Vol.vol p.turn + (0))))))))))))))) := rfl
 have h1 := vol_size p.id (n := 1048576) (by omega)
 have h2 := vol_size p.node (n := 1048576) (by omega)
 have h3 := vol_pos_len p.outer (n := 1048576) (by omega)
 have h4 := vol_pos_len p.holes (n := 1048576) (by omega)
 have h5 : ∀ a ∈ p.holes, a.length ≤ 1048576 := fun a ha => vol_pos_len a (by have := vol_mem ha; omega)
 clear e h
 have sh : ∀ {α : Type} {l : List α}, l.length ≤ 1048576 → Short l := fun hl => Nat.lt_of_le_of_lt hl (by decide)
 exact ⟨⟨by omega, by omega, fun a ha => by have := h5 a ha; omega⟩, { outer := sh h3, holes := sh h4, all := fun a ha => sh (h5 a ha), sum := by omega, id := by omega, node := by omega }⟩
theorem bulk_design {d : Design6} (h : Vol.vol d ≤ 1048576) : Blk6 d := by
 have e : Vol.vol d = 1 + (Vol.vol d.hull + (Vol.vol d.nodes + (Vol.vol d.parts + (Vol.vol d.seams + (Vol.vol d.packs + (Vol.vol d.needs + (0))))))) := rfl
 have hp : ∀ p ∈ d.parts, FitW p ∧ FitR p := fun p hp => part_bulk (by have := vol_mem hp; omega)
 have hl : Short d.parts := Nat.lt_of_le_of_lt (vol_pos_len d.parts (n := 1048576) (by omega)) (by decide)
 have hd : FitD d := ⟨hl, fun p h => (hp p h).1⟩
 refine ⟨hd, ⟨fun p h => (hp p h).2⟩, { hd with fq := fun p h => (hp p h).2.toFitQ }, fun x hx => ?_, fun x hx => ?_, fun x hx => ?_⟩
 ·have h1 := vol_mem hx
  have e1 : Vol.vol x = 1 + (Vol.vol x.id + (Vol.vol x.kind + (Vol.vol x.parent + (0)))) := rfl
  have := vol_size x.id (n := 1048576) (by omega)
  omega
 ·have h1 := vol_mem hx
  have e1 : Vol.vol x = 1 + (Vol.vol x.id + (Vol.vol x.a + (Vol.vol x.b + (Vol.vol x.kind + (Vol.vol x.long + (Vol.vol x.cls + (0))))))) := rfl
  have := vol_size x.id (n := 1048576) (by omega)
  have := vol_size x.a (n := 1048576) (by omega)
  have := vol_size x.b (n := 1048576) (by omega)
  omega
 ·have h1 := vol_mem hx
  have e1 : Vol.vol x = 1 + (Vol.vol x.id + (Vol.vol x.block + (Vol.vol x.parts + (Vol.vol x.hours + (Vol.vol x.after + (0)))))) := rfl
  have := vol_size x.id (n := 1048576) (by omega)
  omega
theorem bulk_mats {m : Mats} (h : Vol.vol m ≤ 1048576) : FewR m := by
 have e : Vol.vol m = 1 + (Vol.vol m.grades + (Vol.vol m.sects + (0))) := rfl
 have h1 := vol_pos_len m.grades (n := 1048576) (by omega)
 have h2 := vol_pos_len m.sects (n := 1048576) (by omega)
 have h3 : ∀ g ∈ m.grades, g.gauges.length ≤ 1048576 := fun g hg => by
  have q := vol_mem hg
  have e1 : Vol.vol g = 1 + (Vol.vol g.name + (Vol.vol g.dens + (Vol.vol g.yld + (Vol.vol g.gauges + (0))))) := rfl
  exact vol_pos_len _ (by omega)
 exact { gr := Nat.lt_of_le_of_lt h1 (by decide), se := Nat.lt_of_le_of_lt h2 (by decide), ga := fun g hg => by have := h3 g hg; omega, gr25 := fun g hg => by have := h3 g hg; omega }
def vcWP : VCall := tabCall [⟨38, c_few17⟩, ⟨40, c_of⟩, ⟨41, c_rof⟩, ⟨39, c_awake⟩] noCall
theorem e_WeightParts (d : Design6) (m : Mats) (n : Nat) (A : Array Value) (H : HT) (Post : PV) : vcP Tryz.prog vcWP 11 [] [design6V d, matsV m, tree 1 n A] H Post = (let q1 := #[vs (Design6.hull d), tree 3 (List.length (Design6.nodes d)) (encL (Design6.nodes d)), tree 18 (List.length (Design6.parts d)) (encL (Design6.parts d)), tree 6 (List.length (Design6.seams d)) (encL (Design6.seams d)), tree 5 (List.length (Design6.packs d)) (encL (Design6.packs d)), tree 3 (List.length (Design6.needs d)) (encL (Design6.needs d))]; let q2 := [Value.agg q1, Value.agg #[tree 4 (List.length (Mats.grades m)) (encL (Mats.grades m)), tree 4 (List.length (Mats.sects m)) (encL (Mats.sects m))], tree 1 n A]; T4 (∃ (d_1 : Design6), ∃ (n_1 : Int), eqL [Value.agg q1, vi 60] [design6V d_1, vi n_1] ∧ n_1 ≤ 1000 ∧ pIf (decide (few17 d_1 n_1)) (T4 (True ∧ pIf (decide ((↑n : Int) > 100)) (True ∧ eqL [] [] ∧ T2 (Post (vb true))) (T4 (∃ (d_2 : Design6), ∃ (m_1 : Mats), ∃ (l : List ByteArray), eqL q2 [design6V d_2, matsV m_1, tree 1 l.length (encL l)] ∧ FitO d_2 ∧ FewM m_1 ∧ List.length l ≤ 65536 ∧ T4 (5 ≤ 5 ∧ T4 (∃ (d_3 : Design6), ∃ (m_2 : Mats), ∃ (l_1 : List ByteArray), eqL q2 [design6V d_3, matsV m_2, tree 1 l_1.length (encL l_1)] ∧ FitD d_3 ∧ FitP d_3 ∧ FewR m_2 ∧ List.length l_1 ≤ 65536 ∧ T4 (5 ≤ 5 ∧ T4 (pIf (decide (Wt.m (ofW d_2 m_1 l) = Wt.m (ofW d_3 m_2 l_1)) && (decide (Wt.x (ofW d_2 m_1 l) = Wt.x (ofW d_3 m_2 l_1)) && (decide (Wt.y (ofW d_2 m_1 l) = Wt.y (ofW d_3 m_2 l_1)) && (decide (Wt.z (ofW d_2 m_1 l) = Wt.z (ofW d_3 m_2 l_1)) && (decide (Wt.v (ofW d_2 m_1 l) = Wt.v (ofW d_3 m_2 l_1)) && true))))) (T4 (pIf (decide (ofE d_2 m_1 l = ofE d_3 m_2 l_1)) (T2 (eqL [] [] ∧ T2 (True ∧ Post (vb true)))) (T4 (True ∧ Post (vb false))))) (T4 (T2 (Post (vb false)))))))))))) (T2 (True ∧ eqL [] [] ∧ T2 (Post (vb true)))))) := by kernel_rfl
theorem vcWP_ok : VCallOk Tryz.prog vcWP := tabCall_ok (by
 intro e he
 simp only [List.mem_cons, List.not_mem_nil, or_false] at he
 rcases he with rfl | rfl | rfl | rfl
 ·exact ok_few17
 ·exact ok_of
 ·exact ok_rof
 ·exact ok_awake) noCall_ok
theorem law_WeightParts {d : Design6} {m : Mats} (hd : Vol.vol d ≤ 1048576) (hm : Vol.vol m ≤ 1048576) (l : List ByteArray) : Pure Tryz.prog 11 [design6V d, matsV m, trS l] fun v => v = .bool true := by
 have b := bulk_design hd
 have f := bulk_mats hm
 refine pure_P vcWP_ok mixed (by kernel_rfl) (by kernel_rfl) _ (e_WeightParts d m l.length (encL l) _ _) ?_
 simp only [true_and, and_true, Nat.le_refl]
 refine ⟨d, 60, rfl, by decide, pIf_intro (fun _ => ifD (fun _ => (by first | trivial | exact ⟨rfl, rfl⟩)) (fun hn => ?_)) (fun _ => by first | trivial | exact ⟨rfl, rfl⟩)⟩
 have hl : l.length ≤ 65536 := by omega
 refine ⟨d, m, l, rfl, b.o, f.toFewM, hl, d, m, l, rfl, b.dd, b.p, f, hl, ?_⟩
 simp
end Go.Proofs.YtngginofamlkkaaGreatDoor
namespace Go.Proofs.YtngginofamlkkaaGreatDoor
open Go Go.RowKit Go.ChangeShapes
set_option maxRecDepth 100000
theorem cs_pieces {z : Nat} : ∀ {c : List (List Value)} {cs : List Value}, cs.length = c.length * z → (∀ i p, c[i]? = some p → (cs.drop (i * z)).take z = p) → cs = c.flatten
 | [], cs, hl, _ => by simp at hl; simp [hl]
 | a :: c, cs, hl, h => by
  have h0 := h 0 a rfl
  simp only [Nat.zero_mul, List.drop_zero] at h0
  have ih := cs_pieces (z := z) (c := c) (cs := cs.drop z) (by rw [List.length_drop, hl, List.length_cons, Nat.succ_mul]; omega) fun i p hp => by
   rw [List.drop_drop]
   have := h (i + 1) p (by simpa using hp)
   rwa [Nat.succ_mul, Nat.add_comm] at this
  rw [List.flatten_cons, ← ih, ← h0, List.take_append_drop]
def flat1 : DataW Unit → List Value
 | .lit (.string b) => [.string ⟨b.toArray⟩]
 | .lit (.int k n) => [.int k n]
 | _ => []
section
variable {enc : TypeId × Value → Unit} {P : Program} {w : World} {base : Nat} {spare : Nat → Bool} {held : Bool} {fuel : Nat} {t e : TypeId} {cs : List Value} {x : DataW Unit × List MemPlace}
theorem flat_int {k : IntKind} (ht : P.underlying t = some (.int k)) (h : DataW.trod enc P w base spare held fuel t cs = some x) : cs = flat1 x.1 := by
 obtain ⟨s, rfl, rfl, _⟩ := DataW.trod_int ht h
 rfl
theorem flat_array {n : Nat} {F : DataW Unit → List Value} (ht : P.underlying t = some (.array n e)) (hz : P.cellsOf t = n * P.cellsOf e) (h : DataW.trod enc P w base spare held fuel t cs = some x)
  (hF : ∀ fuel cs x, DataW.trod enc P w base spare held fuel e cs = some x → cs = F x.1) : ∃ l, x.1 = .agg l ∧ cs = (l.map F).flatten := by
 obtain ⟨xs, m, _, rfl, hl, hxl, hi⟩ := DataW.trod_array ht h
 refine ⟨_, rfl, cs_pieces (z := P.cellsOf e) (by rw [List.length_map, List.length_map, hxl, hl, hz]) fun i p hp => ?_⟩
 rw [List.getElem?_map, List.getElem?_map] at hp
 cases hx : xs[i]? with
 | none => rw [hx] at hp; cases hp
 | some y =>
  rw [hx] at hp
  simp only [Option.map_some, Option.some.injEq] at hp
  subst hp
  have hin : i < n := by
   rw [← hxl]
   rcases Nat.lt_or_ge i xs.length with h' | h'
   ·exact h'
   ·rw [List.getElem?_eq_none h'] at hx; cases hx
  exact hF _ _ _ ((hi i hin).trans hx)
end
theorem glob_laid {W : World} (h : laidMetH Tryz.prog Rows.weightDisjointRow.laid W) : ∀ g cs, glob g = some cs → ∃ t fz, W.heap[g]? = some (.cells cs t fz) := by
 rw [MakeChecks.laidMetH_plain _ _ _ (by kernel_rfl)] at h
 obtain ⟨ps, ⟨g, t, cs, fuel, p, q, hg, ht, hv, htr, _⟩, _, _⟩ := h
 have heap : ∀ {n : String} {g : Nat} {cs : Array Value}, Tryz.prog.globalNamed n = some g → W.var? Tryz.prog n = some cs → ∃ t fz, W.heap[g]? = some (.cells cs t fz) := fun {n g cs} hg hv => by
  simp only [World.var?, hg, Option.bind_some] at hv
  split at hv
  ·rename_i c t fz hh
   cases hv
   exact ⟨t, fz, hh⟩
  ·cases hv
 obtain rfl : 3 = g := Option.some.inj ((show Tryz.prog.globalNamed "math/bits.deBruijn64tab" = some 3 by kernel_rfl).symm.trans hg)
 obtain rfl : 268 = t := Option.some.inj ((show (Tryz.prog.globals[3]?).map (·.type) = some 268 by kernel_rfl).symm.trans ht)
 obtain ⟨l, hl, hc⟩ := flat_array (F := flat1) Tryz.underlying268 (by kernel_rfl) htr fun fuel cs x hx => flat_int Tryz.underlying5 hx
 cases hl
 intro k c hk
 unfold glob at hk
 cases h1 : k.beq 3 with
 | false => rw [h1] at hk; cases hk
 | true =>
  rw [h1, cond_true] at hk
  obtain rfl := Nat.eq_of_beq_eq_true h1
  cases hk
  have := heap hg hv
  rwa [show cs = _ from Array.toList_inj.1 (hc.trans (by kernel_rfl))] at this
end Go.Proofs.YtngginofamlkkaaGreatDoor

namespace Go.Proofs.YtngginofamlkkaaGreatDoor
open Go Go.RowKit Go.ChangeShapes Go.WideShapes Go.ChangeAt Go.Deep Go.Joins
theorem Tryz.own : ownKnob Tryz.prog.godebug = none := by kernel_rfl
theorem Tryz.laidOut : laidOutB Tryz.prog = true := by kernel_rfl
theorem trodAll_stays {H : Type} {enc : TypeId × Value → H} {P : Program} {W W' : World} {sp' : Nat → Bool} (hl : laidOutB P = true) : ∀ {ts : List TypeId} {vs : List Value} {ds : List (DataW H)} {ps : List MemPlace},
  (ts.all fun t => P.readableRec t && decide (t < P.types.size)) = true → DataW.TrodAll enc P W 0 (fun _ => true) true ts vs ds ps → (∀ p ∈ ps, W.sameAt W' p) → (∀ p ∈ ps, sp' p.block = true) →
  DataW.TrodAll enc P W' 0 sp' true ts vs ds ps := by
 intro ts
 induction ts with
 | nil =>
  intro vs ds ps _ h _ _
  obtain ⟨rfl, rfl, rfl⟩ := trodAll_nil h
  exact trodAll_mk0
 | cons t ts ih =>
  intro vs ds ps hr h hs hp
  obtain ⟨v, vs', d, ds', p, q, rfl, rfl, rfl, hd, hrest⟩ := trodAll_cons h
  simp only [List.all_cons, Bool.and_eq_true, decide_eq_true_eq] at hr
  exact trodAll_cons_mk (WideElems.Trod_stays hl hr.1.1 hr.1.2 hd (fun x hx => hs x (by simp [hx])) (fun x hx => hp x (by simp [hx])))
   (ih hr.2 hrest (fun x hx => hs x (by simp [hx])) (fun x hx => hp x (by simp [hx])))
end Go.Proofs.YtngginofamlkkaaGreatDoor

