/-
  Put together out of several texts, each in its own namespace's block. Conditions: as each theorem states them.
-/
import Derived.Test.YtegjnjmimfgijaaGreatDoorQWre
import Derived.Test.YtegjnjmimfgijaaGreatDoorQPk
import Derived.Test.YtegjnjmimfgijaaGreatDoorQBld
import Derived.Test.YtegjnjmimfgijaaGreatDoorQVa
import Derived.Test.YtegjnjmimfgijaaGreatDoorRows
import Derived.Test.YtegjnjmimfgijaaGreatDoorChecked
import Derived.Test.YtegjnjmimfgijaaGreatDoorQEva
import Derived.MakeChecks
import Derived.OpenShut
import Derived.ChangeBears2
import Derived.Test.YtegjnjmimfgijaaGreatDoorQSj
noncomputable section
namespace Go.Proofs.YtegjnjmimfgijaaGreatDoor
open Go Go.RowKit
set_option maxRecDepth 100000
set_option maxHeartbeats 8000000
def c_k (Q : Int → Prop) [∀ k, Decidable (Q k)] (args : List Value) (Post : Value → Prop) : Prop := match args with
 | [.int .i64 k] => Post (.bool (decide (Q k)))
 | _ => False
theorem e_item (k : Int) (H : HT) (Post : PV) : vcP Tryz.prog noCall 24 [] [.int .i64 k] H Post = (let q1 := T2 (True ∧ Post (vb true)); T2 (True ∧ pIf (decide (k = 4)) q1 (T2 (pIf (decide (k = 7)) q1 (T2 (pIf (decide (k = 8)) q1 (T2 (pIf (decide (k = 12)) q1 (T2 (pIf (decide (k = 16)) q1 (T2 (pIf (decide (k = 9)) q1 (T2 (pIf (decide (k = 11)) q1 (T2 (pIf (decide (k = 10)) q1 (T2 (True ∧ Post (vb false))))))))))))))))))) := by kernel_rfl
theorem e_of (k : Int) (H : Code → List Fr → AS → Prop) (Post : Value → Prop) : vcP Tryz.prog noCall 26 [] [.int .i64 k] H Post = (True ∧ True ∧ True ∧ pIf (decide (k = 9)) (True ∧ True ∧ True ∧ True ∧ Post (Value.bool true)) (True ∧ True ∧ True ∧ pIf (decide (k = 11)) (True ∧ True ∧ True ∧ Post (Value.bool true)) (True ∧ True ∧ True ∧ Post (Value.bool false)))) := by kernel_rfl
theorem e_by (k : Int) (H : HT) (Post : PV) : vcP Tryz.prog (inlCall Tryz.prog [26] noCall 1) 28 [] [.int .i64 k] H Post = (T4 (True ∧ pIf (decide (k = 9)) (T4 (T2 (True ∧ Post (vb true)))) (T2 (True ∧ pIf (decide (k = 11)) (T4 (T2 (Post (vb true)))) (T4 (True ∧ pIf (decide (k = 4)) (T2 (True ∧ Post (vb true))) (T2 (True ∧ Post (vb false))))))))) := by kernel_rfl
theorem k_leaf {Q : Int → Prop} [∀ k, Decidable (Q k)] {k : Int} {Post : Value → Prop} (h : Post (.bool (decide (Q k)))) {b : Bool} (e : b = true ↔ Q k) : Post (.bool b) := of_b h (by cases b <;> simp_all)
theorem ok_item : EntOk Tryz.prog ⟨24, c_k isItem⟩ := by
 intro args Post h
 unfold c_k at h
 dsimp only at h
 split at h
 case h_2 => exact h.elim
 rename_i k
 refine pure_P (vc := noCall) noCall_ok mixed (by kernel_rfl) (by kernel_rfl) _ (e_item k _ _) ?_
 simp only [true_and, and_true]
 repeat' (first | refine pIfD (fun hh => ?_) (fun hh => ?_) | (refine k_leaf h ?_; unfold isItem; simp; omega) | (refine k_leaf h ?_; unfold isItem; simp [*]; done))
theorem ok_of : EntOk Tryz.prog ⟨26, c_k isOf⟩ := by
 intro args Post h
 unfold c_k at h
 dsimp only at h
 split at h
 case h_2 => exact h.elim
 rename_i k
 refine pure_P (vc := noCall) noCall_ok mixed (by kernel_rfl) (by kernel_rfl) _ (e_of k _ _) ?_
 simp only [true_and, and_true]
 repeat' (first | refine pIfD (fun hh => ?_) (fun hh => ?_) | (refine k_leaf h ?_; unfold isOf; simp; omega) | (refine k_leaf h ?_; unfold isOf; simp [*]; done))
theorem ok_by : EntOk Tryz.prog ⟨28, c_k isBy⟩ := by
 intro args Post h
 unfold c_k at h
 dsimp only at h
 split at h
 case h_2 => exact h.elim
 rename_i k
 refine pure_P (vc := inlCall Tryz.prog [26] noCall 1) (inlCall_ok mixed noCall_ok 1) mixed (by kernel_rfl) (by kernel_rfl) _ (e_by k _ _) ?_
 simp only [true_and, and_true]
 repeat' (first | refine pIfD (fun hh => ?_) (fun hh => ?_) | (refine k_leaf h ?_; unfold isBy; simp; omega) | (refine k_leaf h ?_; unfold isBy; simp [*]; done))
def tabRC : List Ent := [⟨23, c_rplain⟩, ⟨17, c_rSame⟩, ⟨25, c_id⟩, ⟨27, c_name⟩, ⟨29, c_estrs⟩, ⟨30, c_enums⟩, ⟨24, c_k isItem⟩, ⟨26, c_k isOf⟩, ⟨28, c_k isBy⟩]
def callRC : VCall := tabCall tabRC noCall
theorem callRC_ok : VCallOk Tryz.prog callRC := tabCall_ok (by
 intro e he
 simp only [tabRC, List.mem_cons, List.not_mem_nil, or_false] at he
 rcases he with rfl | rfl | rfl | rfl | rfl | rfl | rfl | rfl | rfl
 ·exact ok_rplain
 ·exact ok_rSame
 ·exact ok_rid
 ·exact ok_rName
 ·exact ok_estrs
 ·exact ok_enums
 ·exact ok_item
 ·exact ok_of
 ·exact ok_by) noCall_ok
theorem e_rcheck (x : Event) (H : HT) (Post : PV) : vcP Tryz.prog callRC 11 [(11, [1, 3, 4]), (19, [1, 5, 6])] [eventV x] H Post = (let q2 := [Value.agg (evK x.kind x).toArray]; let q1 := [(0, some (AObj.cells (evK x.kind x) true))]; T4 (True ∧ pIf (decide (x.kind < 1)) (T4 (Post (vi 10))) (T4 (pIf (decide (x.kind > 18)) (T2 (True ∧ Post (vi 10))) (T4 (pIf (decide (x.at_ < 0)) (T4 (Post (vi 15))) (T4 (pIf (decide (x.at_ > 1048576)) (T2 (True ∧ Post (vi 15))) (T2 (True ∧ ∃ (x_1 : Event), eqL q2 [eventV x_1] ∧ 1 ≤ x_1.kind ∧ x_1.kind ≤ 18 ∧ True ∧ ∃ (a : Event), ∃ (b : Event), eqL [Value.agg (evK x.kind x).toArray, eventV (plainK x_1.kind x_1)] [eventV a, eventV b] ∧ ShortEv a ∧ pIf (decide (a = b)) (T4 (pIf (decide (isItem x.kind)) (T2 (True ∧ ∃ (s : ByteArray), eqL [vs x.item] [vs s] ∧ s.size < 16777000 ∧ pIf (decide (idOk s)) (T4 (True ∧ pIf (decide (isOf x.kind)) (T2 (True ∧ pIf (decide (nameOk x.of_)) (T4 (T2 (pIf (decide (isBy x.kind)) (T2 (True ∧ pIf (decide (nameOk x.by_)) (T4 (∃ (x_2 : Event), eqL q2 [eventV x_2] ∧ Few1k x_2 ∧ T2 (True ∧ (True ∧ True) ∧ H (lpC Tryz.prog 11 11) (lpK Tryz.prog 11 11) (stV [(1, some (pt 0)), (3, some (tree 1 (List.length (strL x_2)) (encL (strL x_2)))), (4, some (vi 0))] q1 1)))) (T4 (True ∧ Post (vi 6))))) (T4 (∃ (x_2 : Event), eqL q2 [eventV x_2] ∧ Few1k x_2 ∧ T2 (True ∧ (True ∧ True) ∧ H (lpC Tryz.prog 11 11) (lpK Tryz.prog 11 11) (stV [(1, some (pt 0)), (3, some (tree 1 (List.length (strL x_2)) (encL (strL x_2)))), (4, some (vi 0))] q1 1))))))) (T4 (T2 (True ∧ Post (vi 6)))))) (T4 (T2 (pIf (decide (isBy x.kind)) (T2 (True ∧ pIf (decide (nameOk x.by_)) (T4 (∃ (x_2 : Event), eqL q2 [eventV x_2] ∧ Few1k x_2 ∧ T2 (True ∧ (True ∧ True) ∧ H (lpC Tryz.prog 11 11) (lpK Tryz.prog 11 11) (stV [(1, some (pt 0)), (3, some (tree 1 (List.length (strL x_2)) (encL (strL x_2)))), (4, some (vi 0))] q1 1)))) (T4 (True ∧ Post (vi 6))))) (T4 (∃ (x_2 : Event), eqL q2 [eventV x_2] ∧ Few1k x_2 ∧ T2 (True ∧ (True ∧ True) ∧ H (lpC Tryz.prog 11 11) (lpK Tryz.prog 11 11) (stV [(1, some (pt 0)), (3, some (tree 1 (List.length (strL x_2)) (encL (strL x_2)))), (4, some (vi 0))] q1 1))))))))) (T8 (Post (vi 6))))) (T4 (True ∧ pIf (decide (isOf x.kind)) (T2 (True ∧ pIf (decide (nameOk x.of_)) (T4 (T2 (pIf (decide (isBy x.kind)) (T2 (True ∧ pIf (decide (nameOk x.by_)) (T4 (∃ (x_2 : Event), eqL q2 [eventV x_2] ∧ Few1k x_2 ∧ T2 (True ∧ (True ∧ True) ∧ H (lpC Tryz.prog 11 11) (lpK Tryz.prog 11 11) (stV [(1, some (pt 0)), (3, some (tree 1 (List.length (strL x_2)) (encL (strL x_2)))), (4, some (vi 0))] q1 1)))) (T4 (True ∧ Post (vi 6))))) (T4 (∃ (x_2 : Event), eqL q2 [eventV x_2] ∧ Few1k x_2 ∧ T2 (True ∧ (True ∧ True) ∧ H (lpC Tryz.prog 11 11) (lpK Tryz.prog 11 11) (stV [(1, some (pt 0)), (3, some (tree 1 (List.length (strL x_2)) (encL (strL x_2)))), (4, some (vi 0))] q1 1))))))) (T4 (T2 (True ∧ Post (vi 6)))))) (T4 (T2 (pIf (decide (isBy x.kind)) (T2 (True ∧ pIf (decide (nameOk x.by_)) (T4 (∃ (x_2 : Event), eqL q2 [eventV x_2] ∧ Few1k x_2 ∧ T2 (True ∧ (True ∧ True) ∧ H (lpC Tryz.prog 11 11) (lpK Tryz.prog 11 11) (stV [(1, some (pt 0)), (3, some (tree 1 (List.length (strL x_2)) (encL (strL x_2)))), (4, some (vi 0))] q1 1)))) (T4 (True ∧ Post (vi 6))))) (T4 (∃ (x_2 : Event), eqL q2 [eventV x_2] ∧ Few1k x_2 ∧ T2 (True ∧ (True ∧ True) ∧ H (lpC Tryz.prog 11 11) (lpK Tryz.prog 11 11) (stV [(1, some (pt 0)), (3, some (tree 1 (List.length (strL x_2)) (encL (strL x_2)))), (4, some (vi 0))] q1 1))))))))))) (T4 (Post (vi 2))))))))))))) := by kernel_rfl
theorem l_rck1 (x : Event) (n : Nat) (A : Array Value) (i : Int) (H : HT) (Post : PV) : vcLP Tryz.prog callRC 11 [eventV x] [(11, [1, 3, 4]), (19, [1, 5, 6])] 11 (stV [(1, some (.pointer (some ⟨0, 0, none⟩))), (3, some (tree 1 n A)), (4, some (.int .i64 i))] [(0, some (.cells (eventC x) true))] 1) H Post = (T4 (pIf (decide (i < (↑n : Int))) (T2 ((0 ≤ i ∧ i < (↑n : Int)) ∧ cellAt A (Int.toNat i) 0 = vs (toS (cellAt A (Int.toNat i) 0)) ∧ T2 (pIf (decide ((↑(ByteArray.size (toS (cellAt A (Int.toNat i) 0))) : Int) > 64)) (T2 (Post (vi 4))) (T4 ((True ∧ True) ∧ H (lpC Tryz.prog 11 11) (lpK Tryz.prog 11 11) (stV [(1, some (pt 0)), (3, some (tree 1 n A)), (4, some (vi (IntKind.wrap IntKind.i64 (i + 1))))] [(0, some (AObj.cells (evK x.kind x) true))] 1)))))) (T4 (True ∧ pIf (decide ((↑x.order.edits.length : Int) > 32)) (T8 (Post (vi 4))) (T4 (T2 (pIf (decide ((↑x.nest.spots.length : Int) > 32)) (T4 (T2 (True ∧ Post (vi 4)))) (T4 (T2 (True ∧ pIf (decide ((↑x.saw.parts.length : Int) > 24)) (T4 (True ∧ Post (vi 4))) (T4 (T2 (True ∧ pIf (decide ((↑x.lift.hooks.length : Int) > 2)) (T2 (True ∧ Post (vi 4))) (T2 (∃ (x_1 : Event), eqL [Value.agg (evK x.kind x).toArray] [eventV x_1] ∧ Few1k x_1 ∧ T2 (True ∧ (True ∧ True) ∧ H (lpC Tryz.prog 11 19) (lpK Tryz.prog 11 19) (stV [(1, some (pt 0)), (5, some (tree 1 (List.length (numL x_1)) (encL (numL x_1)))), (6, some (vi 0))] [(0, some (AObj.cells (evK x.kind x) true))] 1))))))))))))))))) := by kernel_rfl
theorem l_rck2 (x : Event) (n : Nat) (A : Array Value) (i : Int) (H : HT) (Post : PV) : vcLP Tryz.prog callRC 11 [eventV x] [(11, [1, 3, 4]), (19, [1, 5, 6])] 19 (stV [(1, some (.pointer (some ⟨0, 0, none⟩))), (5, some (tree 1 n A)), (6, some (.int .i64 i))] [(0, some (.cells (eventC x) true))] 1) H Post = (T4 (pIf (decide (i < (↑n : Int))) (T2 ((0 ≤ i ∧ i < (↑n : Int)) ∧ cellAt A (Int.toNat i) 0 = vi (toI (cellAt A (Int.toNat i) 0)) ∧ True ∧ pIf (decide (toI (cellAt A (Int.toNat i) 0) < -1099511627776)) (T4 (Post (vi 9))) (T2 (True ∧ (0 ≤ i ∧ i < (↑n : Int)) ∧ cellAt A (Int.toNat i) 0 = vi (toI (cellAt A (Int.toNat i) 0)) ∧ True ∧ pIf (decide (toI (cellAt A (Int.toNat i) 0) > 1099511627776)) (T2 (True ∧ Post (vi 9))) (T4 (True ∧ (True ∧ True) ∧ H (lpC Tryz.prog 11 19) (lpK Tryz.prog 11 19) (stV [(1, some (pt 0)), (5, some (tree 1 n A)), (6, some (vi (IntKind.wrap IntKind.i64 (i + 1))))] [(0, some (AObj.cells (evK x.kind x) true))] 1))))))) (T2 (True ∧ pIf (decide (x.kind = 10)) (T4 (pIf (decide (x.n < 1)) (T4 (True ∧ Post (vi 9))) (T4 (pIf (decide (x.n > 5)) (T4 (Post (vi 9))) (T4 (Post (vi 0))))))) (T4 (Post (vi 0))))))) := by kernel_rfl
def refLong (x : Event) : Bool := (strL x).any big || (decide (32 < x.order.edits.length) || (decide (32 < x.nest.spots.length) || (decide (24 < x.saw.parts.length) || decide (2 < x.lift.hooks.length))))
def refFar (x : Event) : Bool := (numL x).any off || (decide (x.kind = 10) && (decide (x.n < 1) || decide (5 < x.n)))
def refE (x : Event) : Int :=
 if ¬ (1 ≤ x.kind ∧ x.kind ≤ 18) then 10
 else if x.at_ < 0 ∨ 1048576 < x.at_ then 15
 else if ¬ x = plainK x.kind x then 2
 else if ¬ namedOk x then 6
 else if refLong x = true then 4
 else if refFar x = true then 9
 else 0
def c_rcheck (args : List Value) (Post : Value → Prop) : Prop := ∃ x : Event, args = [eventV x] ∧ ShortEv x ∧ Few1k x ∧ x.item.size < 16777000 ∧ Post (.int .i64 (refE x))
theorem cell_intL {l : List Int} {i : Nat} (h : i < l.length) : cellAt (encL l) i 0 = .int .i64 l[i] := by
 have := cellAt_encL' h (j := 0)
 exact this
theorem ok_rcheck : EntOk Tryz.prog ⟨11, c_rcheck⟩ := by
 rintro args Post ⟨x, rfl, hs, hf, hz, h⟩
 have hE : ∀ v, refE x = v → Post (.int .i64 v) := fun v e => by subst e; exact h
 clear h
 have r2 : (1 ≤ x.kind ∧ x.kind ≤ 18) → ¬ (x.at_ < 0 ∨ 1048576 < x.at_) → x = plainK x.kind x → namedOk x → refLong x = false → OkP 11 [eventV x] 19 Post (stV [(1, some (.pointer (some ⟨0, 0, none⟩))), (5, some (tree 1 (numL x).length (encL (numL x)))), (6, some (.int .i64 (0 : Nat)))] [(0, some (.cells (eventC x) true))] 1) := fun hk ha hp hn hl => by
  have yes : refFar x = true → Post (.int .i64 9) := fun e => hE _ (by unfold refE; rw [if_neg (by simpa using hk), if_neg ha, if_neg (by simpa using hp), if_neg (by simpa using hn), if_neg (by simp [hl]), if_pos e])
  have no : refFar x = false → Post (.int .i64 0) := fun e => hE _ (by unfold refE; rw [if_neg (by simpa using hk), if_neg ha, if_neg (by simpa using hp), if_neg (by simpa using hn), if_neg (by simp [hl]), if_neg (by simp [e])])
  have nl : (numL x).length < 2 ^ 62 := by
   have f1 := hf.spots
   have f3 := hf.hooks
   unfold numL numL0
   simp only [List.length_append, List.length_flatMap, List.length_cons, List.length_nil, List.map_const', List.sum_replicate_nat]
   omega
  refine down (n := (numL x).length) (p := fun k => ((numL x).take k).any off = false → OkP 11 [eventV x] 19 Post (stV [(1, some (.pointer (some ⟨0, 0, none⟩))), (5, some (tree 1 (numL x).length (encL (numL x)))), (6, some (.int .i64 k))] [(0, some (.cells (eventC x) true))] 1)) (fun hall => ?_) (fun k hk1 ih hall => ?_) rfl
  ·rw [List.take_of_length_le (Nat.le_refl _)] at hall
   refine ok_P (vc := callRC) callRC_ok mixed _ (l_rck2 x _ _ _ _ _) ?_
   simp only [true_and, and_true]
   refine pIfD (fun hh => absurd hh (by omega)) (fun _ => ?_)
   exact pIfD (fun g1 => pIfD (fun g2 => yes (by simp [refFar, g1, g2])) (fun g2 => pIfD (fun g3 => yes (by simp [refFar, g1, g3])) (fun g3 => no (by unfold refFar; rw [hall]; simp [g1]; omega)))) (fun g1 => no (by unfold refFar; rw [hall]; simp [g1]))
  ·refine ok_P (vc := callRC) callRC_ok mixed _ (l_rck2 x _ _ _ _ _) ?_
   have ek : ((k : Nat) : Int).toNat = k := by omega
   simp only [true_and, and_true, ek, cell_intL hk1, toI, wrapSucc (show k < 2 ^ 62 by omega)]
   have bad : off (numL x)[k] = true → Post (.int .i64 9) := fun e => yes (by
    unfold refFar
    rw [List.any_eq_true.2 ⟨_, List.getElem_mem hk1, e⟩]; rfl)
   refine pIfD (fun _ => ⟨⟨by omega, by omega⟩, ?_⟩) (fun hh => absurd hh (by omega))
   refine pIfD (fun h1 => bad (by simp [off, h1])) (fun h1 => ⟨⟨by omega, by omega⟩, pIfD (fun h2 => bad (by simp [off, h2])) (fun h2 => ?_)⟩)
   exact ih (by rw [any_take hk1, hall]; simp [off, h1, h2])
 have r1 : (1 ≤ x.kind ∧ x.kind ≤ 18) → ¬ (x.at_ < 0 ∨ 1048576 < x.at_) → x = plainK x.kind x → namedOk x → OkP 11 [eventV x] 11 Post (stV [(1, some (.pointer (some ⟨0, 0, none⟩))), (3, some (tree 1 (strL x).length (encL (strL x)))), (4, some (.int .i64 (0 : Nat)))] [(0, some (.cells (eventC x) true))] 1) := fun hk ha hp hn => by
  have yes : refLong x = true → Post (.int .i64 4) := fun e => hE _ (by unfold refE; rw [if_neg (by simpa using hk), if_neg ha, if_neg (by simpa using hp), if_neg (by simpa using hn), if_pos e])
  have nl : (strL x).length < 2 ^ 62 := by
   have f1 := hf.spots
   have f2 := hf.saw
   have f3 := hf.hooks
   unfold strL strL0
   simp only [List.length_append, List.length_map, List.length_cons, List.length_nil]
   omega
  refine down (n := (strL x).length) (p := fun k => ((strL x).take k).any big = false → OkP 11 [eventV x] 11 Post (stV [(1, some (.pointer (some ⟨0, 0, none⟩))), (3, some (tree 1 (strL x).length (encL (strL x)))), (4, some (.int .i64 k))] [(0, some (.cells (eventC x) true))] 1)) (fun hall => ?_) (fun k hk1 ih hall => ?_) rfl
  ·rw [List.take_of_length_le (Nat.le_refl _)] at hall
   refine ok_P (vc := callRC) callRC_ok mixed _ (l_rck1 x _ _ _ _ _) ?_
   simp only [true_and, and_true]
   refine pIfD (fun hh => absurd hh (by omega)) (fun _ => ?_)
   refine pIfD (fun g1 => yes (by simp [refLong]; omega)) (fun g1 => pIfD (fun g2 => yes (by simp [refLong]; omega)) (fun g2 => pIfD (fun g3 => yes (by simp [refLong]; omega)) (fun g3 => pIfD (fun g4 => yes (by simp [refLong]; omega)) (fun g4 => ?_))))
   exact ⟨x, rfl, hf, r2 hk ha hp hn (by unfold refLong; rw [hall]; simp; omega)⟩
  ·refine ok_P (vc := callRC) callRC_ok mixed _ (l_rck1 x _ _ _ _ _) ?_
   have ek : ((k : Nat) : Int).toNat = k := by omega
   simp only [true_and, and_true, ek, cell_str hk1, toS, wrapSucc (show k < 2 ^ 62 by omega)]
   have bad : big (strL x)[k] = true → Post (.int .i64 4) := fun e => yes (by
    unfold refLong
    rw [List.any_eq_true.2 ⟨_, List.getElem_mem hk1, e⟩]; rfl)
   refine pIfD (fun _ => ⟨⟨by omega, by omega⟩, ?_⟩) (fun hh => absurd hh (by omega))
   exact pIfD (fun h1 => bad (by simp [big]; omega)) (fun h1 => ih (by rw [any_take hk1, hall]; simp [big]; omega))
 refine pure_P (vc := callRC) callRC_ok mixed (by kernel_rfl) (by kernel_rfl) _ (e_rcheck x _ _) ?_
 simp only [true_and, and_true]
 refine pIfD (fun h1 => hE _ (by unfold refE; rw [if_pos (by omega)])) (fun h1 => pIfD (fun h2 => hE _ (by unfold refE; rw [if_pos (by omega)])) (fun h2 => ?_))
 have hk : 1 ≤ x.kind ∧ x.kind ≤ 18 := by omega
 refine pIfD (fun h3 => hE _ (by unfold refE; rw [if_neg (by simpa using hk), if_pos (.inl h3)])) (fun h3 => pIfD (fun h4 => hE _ (by unfold refE; rw [if_neg (by simpa using hk), if_pos (.inr h4)])) (fun h4 => ?_))
 have ha : ¬ (x.at_ < 0 ∨ 1048576 < x.at_) := by omega
 refine ⟨x, rfl, hk.1, hk.2, x, plainK x.kind x, rfl, hs, pIfD (fun hp => ?_) (fun hp => hE _ (by unfold refE; rw [if_neg (by simpa using hk), if_neg ha, if_pos hp]))⟩
 have hno : ¬ namedOk x → Post (.int .i64 6) := fun hn => hE _ (by unfold refE; rw [if_neg (by simpa using hk), if_neg ha, if_neg (by simpa using hp), if_pos hn])
 have hyes := r1 hk ha hp
 unfold namedOk at hno hyes
 repeat' (first
  | refine pIfD (fun hh => ?_) (fun hh => ?_)
  | refine ⟨x.item, rfl, hz, ?_⟩
  | exact hno fun f => absurd (f.1 (by assumption)) (by assumption)
  | exact hno fun f => absurd (f.2.1 (by assumption)) (by assumption)
  | exact hno fun f => absurd (f.2.2 (by assumption)) (by assumption)
  | exact ⟨x, rfl, hf, hyes ⟨fun hi => by first | assumption | exact absurd hi (by assumption), fun hi => by first | assumption | exact absurd hi (by assumption), fun hi => by first | assumption | exact absurd hi (by assumption)⟩⟩)
theorem ok_wI' : EntOk Tryz.prog ⟨57, w_I⟩ := by
 intro args Post h
 dsimp only [w_I] at h
 split at h
 case h_2 => exact h.elim
 exact ok_rInt _ _ ⟨_, rfl, h⟩
theorem ok_wT' : EntOk Tryz.prog ⟨58, w_T⟩ := by
 intro args Post h
 dsimp only [w_T] at h
 split at h
 case h_2 => exact h.elim
 exact ok_rText _ _ ⟨_, rfl, h⟩
theorem ok_wL' : EntOk Tryz.prog ⟨76, w_L⟩ := by
 intro args Post h
 dsimp only [w_L] at h
 split at h
 case h_2 => exact h.elim
 rename_i n
 obtain ⟨h1, h2⟩ := h
 obtain ⟨m, rfl⟩ := Int.eq_ofNat_of_zero_le h1.1
 exact ok_rList _ _ ⟨m, rfl, by omega, h2⟩
def tabRf : List Ent := [⟨57, w_I⟩, ⟨58, w_T⟩, ⟨76, w_L⟩, ⟨59, c_Order⟩]
theorem tabRf_ok : ∀ e ∈ tabRf, EntOk Tryz.prog e := by
 intro e he
 simp only [tabRf, List.mem_cons, List.not_mem_nil, or_false] at he
 rcases he with rfl | rfl | rfl | rfl
 ·exact ok_wI'
 ·exact ok_wT'
 ·exact ok_wL'
 ·exact ok_rchEnc
abbrev pt0 : Value := .pointer (some ⟨0, 0, none⟩)
def callRf : PCall := inlP Tryz.prog [34, 60] (ofV (tabCall tabRf noCall)) 3
theorem callRf_ok : PCallOk Tryz.prog callRf := inlP_ok mixed (ofV_ok (tabCall_ok tabRf_ok noCall_ok)) 3
theorem e_ls (x : Event) (H : HT) (Post : PX) : vcX Tryz.prog callRf 61 [(6, [1, 3, 4]), (13, [1, 3, 6]), (19, [1, 3, 7])] [] [eventV x] H Post = (let q3 := [(0, some (AObj.cells (evK x.kind x) true))]; let q2 := tree 1 x.saw.parts.length (encL x.saw.parts) = tree 1 x.saw.parts.length (encL x.saw.parts) ∧ True; let q1 := tree 5 x.nest.spots.length (encL x.nest.spots) = tree 5 x.nest.spots.length (encL x.nest.spots) ∧ True; T4 (T2 (pIf (decide (x.kind = 5)) (T8 (T2 (True ∧ x.nest.sheet.size ≤ 16000000 ∧ (q1 ∧ (vi x.nest.gap = vi x.nest.gap ∧ True) ∧ True) ∧ (-9223372036854775808 ≤ x.nest.gap ∧ x.nest.gap < 9223372036854775808) ∧ (q1 ∧ True) ∧ ByteArray.size (bText x.nest.sheet) + ByteArray.size (bInt x.nest.gap) ≤ 9223372036854775807 ∧ (0 ≤ (↑x.nest.spots.length : Int) ∧ (↑x.nest.spots.length : Int) < 9223372036854775808) ∧ True ∧ ByteArray.size (bText x.nest.sheet ++ bInt x.nest.gap) + ByteArray.size (bList (Int.toNat (↑x.nest.spots.length : Int))) ≤ 9223372036854775807 ∧ T2 (True ∧ (True ∧ True) ∧ H (lpC Tryz.prog 61 6) (lpK Tryz.prog 61 6) (stV [(1, some (pt 0)), (3, some (vs (bText x.nest.sheet ++ bInt x.nest.gap ++ bList (Int.toNat (↑x.nest.spots.length : Int))))), (4, some (vi 0))] q3 1))))) (T2 (pIf (decide (x.kind = 6)) (T8 (T2 (True ∧ x.saw.bar.size ≤ 16000000 ∧ (q2 ∧ (vi x.saw.kerf = vi x.saw.kerf ∧ True) ∧ True) ∧ (-9223372036854775808 ≤ x.saw.kerf ∧ x.saw.kerf < 9223372036854775808) ∧ (q2 ∧ True) ∧ ByteArray.size (bText x.saw.bar) + ByteArray.size (bInt x.saw.kerf) ≤ 9223372036854775807 ∧ (0 ≤ (↑x.saw.parts.length : Int) ∧ (↑x.saw.parts.length : Int) < 9223372036854775808) ∧ True ∧ ByteArray.size (bText x.saw.bar ++ bInt x.saw.kerf) + ByteArray.size (bList (Int.toNat (↑x.saw.parts.length : Int))) ≤ 9223372036854775807 ∧ T2 (True ∧ (True ∧ True) ∧ H (lpC Tryz.prog 61 13) (lpK Tryz.prog 61 13) (stV [(1, some (pt 0)), (3, some (vs (bText x.saw.bar ++ bInt x.saw.kerf ++ bList (Int.toNat (↑x.saw.parts.length : Int))))), (6, some (vi 0))] q3 1))))) (T2 (pIf (decide (x.kind = 14)) (T8 (x.lift.block.size ≤ 16000000 ∧ ((tree 4 x.lift.hooks.length (encL x.lift.hooks) = tree 4 x.lift.hooks.length (encL x.lift.hooks) ∧ True) ∧ True) ∧ (0 ≤ (↑x.lift.hooks.length : Int) ∧ (↑x.lift.hooks.length : Int) < 9223372036854775808) ∧ True ∧ ByteArray.size (bText x.lift.block) + ByteArray.size (bList (Int.toNat (↑x.lift.hooks.length : Int))) ≤ 9223372036854775807 ∧ T2 (True ∧ (True ∧ True) ∧ H (lpC Tryz.prog 61 19) (lpK Tryz.prog 61 19) (stV [(1, some (pt 0)), (3, some (vs (bText x.lift.block ++ bList (Int.toNat (↑x.lift.hooks.length : Int))))), (7, some (vi 0))] q3 1)))) (T2 (True ∧ (True ∧ True) ∧ true = true ∧ Post (Out.ret (vz)) []))))))))) := by kernel_rfl
theorem l_ls5 (x : Event) (s : ByteArray) (i : Int) (H : HT) (Post : PX) : vcLX Tryz.prog callRf 61 [eventV x] [(6, [1, 3, 4]), (13, [1, 3, 6]), (19, [1, 3, 7])] 0 6 (stV [(1, some pt0), (3, some (.string s)), (4, some (.int .i64 i))] [(0, some (.cells (eventC x) true))] 1) H Post = (let q8 := (toI (vi 0) ≤ IntKind.wrap IntKind.i64 (0 + 1) ∧ toI (vi (IntKind.wrap IntKind.i64 (0 + 1))) < (↑3 : Int)); let q7 := (toI (vi 0) ≤ IntKind.wrap IntKind.i64 (IntKind.wrap IntKind.i64 (0 + 1) + 1) ∧ toI (vi (IntKind.wrap IntKind.i64 (IntKind.wrap IntKind.i64 (0 + 1) + 1))) < (↑3 : Int)); let q6 := toB (cellAt (encL x.nest.spots) (Int.toNat i) 4); let q5 := cellAt (encL x.nest.spots) (Int.toNat i) 3; let q4 := toS (cellAt (encL x.nest.spots) (Int.toNat i) 0); let q3 := cellAt (encL x.nest.spots) (Int.toNat i) 2; let q2 := cellAt (encL x.nest.spots) (Int.toNat i) 1; let q1 := ByteArray.mk #[] ++ bInt (toI q2) ++ bInt (toI q3) ++ bInt (toI q5); T4 (T2 (pIf (decide (i < (↑x.nest.spots.length : Int))) (T4 ((0 ≤ i ∧ i < (↑x.nest.spots.length : Int)) ∧ (cellAt (encL x.nest.spots) (Int.toNat i) 0 = vs q4 ∧ cellAt (encL x.nest.spots) (Int.toNat i) 1 = vi (toI q2) ∧ cellAt (encL x.nest.spots) (Int.toNat i) 2 = vi (toI q3) ∧ cellAt (encL x.nest.spots) (Int.toNat i) 3 = vi (toI q5) ∧ cellAt (encL x.nest.spots) (Int.toNat i) 4 = vb q6 ∧ True) ∧ True ∧ 5 ≤ 5 ∧ T8 (T4 (T2 (pIf q6 (ByteArray.size q4 ≤ 16000000 ∧ ((vb q6 = vb true ∧ True) ∧ (vi (toI q5) = vi (toI q5) ∧ True) ∧ (vi (toI q3) = vi (toI q3) ∧ True) ∧ (vi (toI q2) = vi (toI q2) ∧ True) ∧ True) ∧ s.size + ByteArray.size (bText q4) ≤ 9223372036854775807 ∧ T8 (T2 ((toI (vi 0) ≤ 0 ∧ toI (vi 0) < (↑3 : Int)) ∧ True ∧ (-9223372036854775808 ≤ toI q2 ∧ toI q2 < 9223372036854775808) ∧ 0 + ByteArray.size (bInt (toI q2)) ≤ 9223372036854775807 ∧ T8 (T2 (True ∧ q8 ∧ True ∧ (-9223372036854775808 ≤ toI q3 ∧ toI q3 < 9223372036854775808) ∧ ByteArray.size (ByteArray.mk #[] ++ bInt (toI q2)) + ByteArray.size (bInt (toI q3)) ≤ 9223372036854775807 ∧ T8 (T2 (True ∧ q7 ∧ True ∧ (-9223372036854775808 ≤ toI q5 ∧ toI q5 < 9223372036854775808) ∧ ByteArray.size (ByteArray.mk #[] ++ bInt (toI q2) ++ bInt (toI q3)) + ByteArray.size (bInt (toI q5)) ≤ 9223372036854775807 ∧ T8 (T2 (((vb q6 = vb true ∧ True) ∧ True) ∧ ByteArray.size (s ++ bText q4) + ByteArray.size q1 ≤ 9223372036854775807 ∧ T4 (ByteArray.size (s ++ bText q4 ++ q1) + 1 ≤ 9223372036854775807 ∧ T4 (True ∧ (True ∧ True) ∧ H (lpC Tryz.prog 61 6) (lpK Tryz.prog 61 6) (stV [(1, some (pt 0)), (3, some (vs (s ++ bText q4 ++ q1 ++ ByteArray.mk #[245]))), (4, some (vi (IntKind.wrap IntKind.i64 (i + 1))))] [(0, some (AObj.cells (evK x.kind x) true))] 1)))))))))))) (ByteArray.size q4 ≤ 16000000 ∧ ((vb q6 = vb false ∧ True) ∧ (vi (toI q5) = vi (toI q5) ∧ True) ∧ (vi (toI q3) = vi (toI q3) ∧ True) ∧ (vi (toI q2) = vi (toI q2) ∧ True) ∧ True) ∧ s.size + ByteArray.size (bText q4) ≤ 9223372036854775807 ∧ T8 (T2 ((toI (vi 0) ≤ 0 ∧ toI (vi 0) < (↑3 : Int)) ∧ True ∧ (-9223372036854775808 ≤ toI q2 ∧ toI q2 < 9223372036854775808) ∧ 0 + ByteArray.size (bInt (toI q2)) ≤ 9223372036854775807 ∧ T8 (T2 (True ∧ q8 ∧ True ∧ (-9223372036854775808 ≤ toI q3 ∧ toI q3 < 9223372036854775808) ∧ ByteArray.size (ByteArray.mk #[] ++ bInt (toI q2)) + ByteArray.size (bInt (toI q3)) ≤ 9223372036854775807 ∧ T8 (T2 (True ∧ q7 ∧ True ∧ (-9223372036854775808 ≤ toI q5 ∧ toI q5 < 9223372036854775808) ∧ ByteArray.size (ByteArray.mk #[] ++ bInt (toI q2) ++ bInt (toI q3)) + ByteArray.size (bInt (toI q5)) ≤ 9223372036854775807 ∧ T8 (T2 (((vb q6 = vb false ∧ True) ∧ True) ∧ ByteArray.size (s ++ bText q4) + ByteArray.size q1 ≤ 9223372036854775807 ∧ T4 (ByteArray.size (s ++ bText q4 ++ q1) + 1 ≤ 9223372036854775807 ∧ T4 (True ∧ (True ∧ True) ∧ H (lpC Tryz.prog 61 6) (lpK Tryz.prog 61 6) (stV [(1, some (pt 0)), (3, some (vs (s ++ bText q4 ++ q1 ++ ByteArray.mk #[244]))), (4, some (vi (IntKind.wrap IntKind.i64 (i + 1))))] [(0, some (AObj.cells (evK x.kind x) true))] 1))))))))))))))))) (T2 ((True ∧ True) ∧ true = true ∧ Post (Out.ret (vs s)) []))))) := by kernel_rfl
theorem l_ls6 (x : Event) (s : ByteArray) (i : Int) (H : HT) (Post : PX) : vcLX Tryz.prog callRf 61 [eventV x] [(6, [1, 3, 4]), (13, [1, 3, 6]), (19, [1, 3, 7])] 0 13 (stV [(1, some pt0), (3, some (.string s)), (6, some (.int .i64 i))] [(0, some (.cells (eventC x) true))] 1) H Post = (let q1 := toS (cellAt (encL x.saw.parts) (Int.toNat i) 0); T4 (T2 (pIf (decide (i < (↑x.saw.parts.length : Int))) (T4 (True ∧ (0 ≤ i ∧ i < (↑x.saw.parts.length : Int)) ∧ cellAt (encL x.saw.parts) (Int.toNat i) 0 = vs q1 ∧ ByteArray.size q1 ≤ 16000000 ∧ s.size + ByteArray.size (bText q1) ≤ 9223372036854775807 ∧ T4 (True ∧ (True ∧ True) ∧ H (lpC Tryz.prog 61 13) (lpK Tryz.prog 61 13) (stV [(1, some (pt 0)), (3, some (vs (s ++ bText q1))), (6, some (vi (IntKind.wrap IntKind.i64 (i + 1))))] [(0, some (AObj.cells (evK x.kind x) true))] 1)))) (T2 ((True ∧ True) ∧ true = true ∧ Post (Out.ret (vs s)) []))))) := by kernel_rfl
theorem l_ls14 (x : Event) (s : ByteArray) (i : Int) (H : HT) (Post : PX) : vcLX Tryz.prog callRf 61 [eventV x] [(6, [1, 3, 4]), (13, [1, 3, 6]), (19, [1, 3, 7])] 0 19 (stV [(1, some pt0), (3, some (.string s)), (7, some (.int .i64 i))] [(0, some (.cells (eventC x) true))] 1) H Post = (let q4 := toS (cellAt (encL x.lift.hooks) (Int.toNat i) 0); let q3 := cellAt (encL x.lift.hooks) (Int.toNat i) 3; let q2 := cellAt (encL x.lift.hooks) (Int.toNat i) 2; let q1 := cellAt (encL x.lift.hooks) (Int.toNat i) 1; T4 (T2 (pIf (decide (i < (↑x.lift.hooks.length : Int))) (T4 ((0 ≤ i ∧ i < (↑x.lift.hooks.length : Int)) ∧ (cellAt (encL x.lift.hooks) (Int.toNat i) 0 = vs q4 ∧ cellAt (encL x.lift.hooks) (Int.toNat i) 1 = vi (toI q1) ∧ cellAt (encL x.lift.hooks) (Int.toNat i) 2 = vi (toI q2) ∧ cellAt (encL x.lift.hooks) (Int.toNat i) 3 = vi (toI q3) ∧ True) ∧ True ∧ 4 ≤ 4 ∧ T8 (T4 (ByteArray.size q4 ≤ 16000000 ∧ ((vi (toI q3) = vi (toI q3) ∧ True) ∧ (vi (toI q2) = vi (toI q2) ∧ True) ∧ (vi (toI q1) = vi (toI q1) ∧ True) ∧ True) ∧ s.size + ByteArray.size (bText q4) ≤ 9223372036854775807 ∧ T8 (T2 ((toI (vi 0) ≤ 0 ∧ toI (vi 0) < (↑3 : Int)) ∧ True ∧ (-9223372036854775808 ≤ toI q1 ∧ toI q1 < 9223372036854775808) ∧ 0 + ByteArray.size (bInt (toI q1)) ≤ 9223372036854775807 ∧ T8 (T2 (True ∧ (toI (vi 0) ≤ IntKind.wrap IntKind.i64 (0 + 1) ∧ toI (vi (IntKind.wrap IntKind.i64 (0 + 1))) < (↑3 : Int)) ∧ True ∧ (-9223372036854775808 ≤ toI q2 ∧ toI q2 < 9223372036854775808) ∧ ByteArray.size (ByteArray.mk #[] ++ bInt (toI q1)) + ByteArray.size (bInt (toI q2)) ≤ 9223372036854775807 ∧ T8 (T2 (True ∧ (toI (vi 0) ≤ IntKind.wrap IntKind.i64 (IntKind.wrap IntKind.i64 (0 + 1) + 1) ∧ toI (vi (IntKind.wrap IntKind.i64 (IntKind.wrap IntKind.i64 (0 + 1) + 1))) < (↑3 : Int)) ∧ True ∧ (-9223372036854775808 ≤ toI q3 ∧ toI q3 < 9223372036854775808) ∧ ByteArray.size (ByteArray.mk #[] ++ bInt (toI q1) ++ bInt (toI q2)) + ByteArray.size (bInt (toI q3)) ≤ 9223372036854775807 ∧ T8 (T2 (True ∧ ByteArray.size (s ++ bText q4) + ByteArray.size (ByteArray.mk #[] ++ bInt (toI q1) ++ bInt (toI q2) ++ bInt (toI q3)) ≤ 9223372036854775807 ∧ T4 (True ∧ (True ∧ True) ∧ H (lpC Tryz.prog 61 19) (lpK Tryz.prog 61 19) (stV [(1, some (pt 0)), (3, some (vs (s ++ bText q4 ++ (ByteArray.mk #[] ++ bInt (toI q1) ++ bInt (toI q2) ++ bInt (toI q3))))), (7, some (vi (IntKind.wrap IntKind.i64 (i + 1))))] [(0, some (AObj.cells (evK x.kind x) true))] 1)))))))))))))) (T2 ((True ∧ True) ∧ true = true ∧ Post (Out.ret (vs s)) []))))) := by kernel_rfl
def listsB (x : Event) : ByteArray := if x.kind = 5 ∨ x.kind = 6 ∨ x.kind = 14 then bVs (vaN x x.kind.toNat) ++ bLs x x.kind.toNat else ⟨#[]⟩
structure FitEv (x : Event) : Prop where
 fit : fits (shN x.kind.toNat) (vaN x x.kind.toNat)
 lists : fitsL x x.kind.toNat
def c_lists (args : List Value) (Post : Value → Prop) : Prop := ∃ x : Event, args = [eventV x] ∧ FitEv x ∧ Post (.string (listsB x))
def c_fields (args : List Value) (Post : Value → Prop) : Prop := ∃ x : Event, args = [eventV x] ∧ 1 ≤ x.kind ∧ x.kind ≤ 18 ∧ FitEv x ∧ InOrder x.order ∧ FewO x.order ∧ (bOrder x.order).size ≤ 16000000 ∧ Post (.string (bBody x x.kind.toNat))
def callRg : PCall := inlP Tryz.prog [34, 60] (ofV (tabCall (⟨61, c_lists⟩ :: tabRf) noCall)) 3
def callRh : PCall := inlP Tryz.prog [34] (ofV (tabCall (⟨11, c_rcheck⟩ :: ⟨35, c_fields⟩ :: tabRf) noCall)) 3
theorem e_fs (x : Event) (H : HT) (Post : PX) : vcX Tryz.prog callRg 35 [] [] [eventV x] H Post = (let q11 := vs x.sheet.heat = vs x.sheet.heat ∧ True; let q10 := ByteArray.mk #[] ++ bInt x.permit.kind ++ bInt x.permit.time.a ++ bInt x.permit.time.b; let q3 := IntKind.wrap IntKind.i64 (0 + 1) + 1; let q9 := IntKind.wrap IntKind.i64 q3 + 1; let q8 := (toI (vi 0) ≤ IntKind.wrap IntKind.i64 q3 ∧ toI (vi (IntKind.wrap IntKind.i64 q3)) < (↑3 : Int)); let q7 := vs x.bar.heat = vs x.bar.heat ∧ True; let q6 := (toI (vi 0) ≤ IntKind.wrap IntKind.i64 (0 + 1) ∧ toI (vi (IntKind.wrap IntKind.i64 (0 + 1))) < (↑3 : Int)); let q5 := ByteArray.mk #[] ++ bInt x.weig.mass ++ bInt x.weig.centre.x ++ bInt x.weig.centre.y ++ bInt x.weig.centre.z ++ bInt x.weig.sigma; let q4 := ByteArray.mk #[] ++ bInt x.sheet.thick ++ bInt x.sheet.long ++ bInt x.sheet.width; let q2 := T2 (True ∧ x.item.size ≤ 16000000 ∧ True ∧ (True ∧ True) ∧ true = true ∧ Post (Out.ret (vs (bText x.item))) []); let q1 := T4 (T2 (True ∧ x.item.size ≤ 16000000 ∧ ((vs x.by_ = vs x.by_ ∧ True) ∧ (vs x.of_ = vs x.of_ ∧ True) ∧ True) ∧ x.of_.size ≤ 16000000 ∧ ((vs x.by_ = vs x.by_ ∧ True) ∧ True) ∧ ByteArray.size (bText x.item) + ByteArray.size (bText x.of_) ≤ 9223372036854775807 ∧ x.by_.size ≤ 16000000 ∧ True ∧ ByteArray.size (bText x.item ++ bText x.of_) + ByteArray.size (bText x.by_) ≤ 9223372036854775807 ∧ True ∧ (True ∧ True) ∧ true = true ∧ Post (Out.ret (vs (bText x.item ++ bText x.of_ ++ bText x.by_))) [])); T4 (True ∧ pIf (decide (x.kind = 1)) (T2 (True ∧ ∃ (o : Order2), eqL [Value.agg #[vs x.order.id, tree 38 x.order.edits.length (encL x.order.edits)]] [order2V o] ∧ InOrder o ∧ FewO o ∧ ByteArray.size (bOrder o) ≤ 16000000 ∧ True ∧ (True ∧ True) ∧ true = true ∧ Post (Out.ret (vs (bText (bOrder o)))) [])) (T2 (pIf (decide (x.kind = 2)) (T16 (T4 (x.sheet.id.size ≤ 16000000 ∧ (q11 ∧ (vi x.sheet.width = vi x.sheet.width ∧ True) ∧ (vi x.sheet.long = vi x.sheet.long ∧ True) ∧ (vi x.sheet.thick = vi x.sheet.thick ∧ True) ∧ (vs x.sheet.grade = vs x.sheet.grade ∧ True) ∧ True) ∧ x.sheet.grade.size ≤ 16000000 ∧ (q11 ∧ (vi x.sheet.width = vi x.sheet.width ∧ True) ∧ (vi x.sheet.long = vi x.sheet.long ∧ True) ∧ (vi x.sheet.thick = vi x.sheet.thick ∧ True) ∧ True) ∧ ByteArray.size (bText x.sheet.id) + ByteArray.size (bText x.sheet.grade) ≤ 9223372036854775807 ∧ T8 (T2 ((toI (vi 0) ≤ 0 ∧ toI (vi 0) < (↑3 : Int)) ∧ True ∧ (-9223372036854775808 ≤ x.sheet.thick ∧ x.sheet.thick < 9223372036854775808) ∧ 0 + ByteArray.size (bInt x.sheet.thick) ≤ 9223372036854775807 ∧ T8 (T2 (True ∧ q6 ∧ True ∧ (-9223372036854775808 ≤ x.sheet.long ∧ x.sheet.long < 9223372036854775808) ∧ ByteArray.size (ByteArray.mk #[] ++ bInt x.sheet.thick) + ByteArray.size (bInt x.sheet.long) ≤ 9223372036854775807 ∧ T8 (T2 (True ∧ q8 ∧ True ∧ (-9223372036854775808 ≤ x.sheet.width ∧ x.sheet.width < 9223372036854775808) ∧ ByteArray.size (ByteArray.mk #[] ++ bInt x.sheet.thick ++ bInt x.sheet.long) + ByteArray.size (bInt x.sheet.width) ≤ 9223372036854775807 ∧ T8 (T2 ((q11 ∧ True) ∧ ByteArray.size (bText x.sheet.id ++ bText x.sheet.grade) + ByteArray.size q4 ≤ 9223372036854775807 ∧ x.sheet.heat.size ≤ 16000000 ∧ True ∧ ByteArray.size (bText x.sheet.id ++ bText x.sheet.grade ++ q4) + ByteArray.size (bText x.sheet.heat) ≤ 9223372036854775807 ∧ True ∧ (True ∧ True) ∧ true = true ∧ Post (Out.ret (vs (bText x.sheet.id ++ bText x.sheet.grade ++ q4 ++ bText x.sheet.heat))) []))))))))))) (T2 (pIf (decide (x.kind = 3)) (T16 (x.bar.id.size ≤ 16000000 ∧ (q7 ∧ (vi x.bar.long = vi x.bar.long ∧ True) ∧ (vs x.bar.grade = vs x.bar.grade ∧ True) ∧ (vs x.bar.sect = vs x.bar.sect ∧ True) ∧ True) ∧ x.bar.sect.size ≤ 16000000 ∧ (q7 ∧ (vi x.bar.long = vi x.bar.long ∧ True) ∧ (vs x.bar.grade = vs x.bar.grade ∧ True) ∧ True) ∧ ByteArray.size (bText x.bar.id) + ByteArray.size (bText x.bar.sect) ≤ 9223372036854775807 ∧ x.bar.grade.size ≤ 16000000 ∧ (q7 ∧ (vi x.bar.long = vi x.bar.long ∧ True) ∧ True) ∧ ByteArray.size (bText x.bar.id ++ bText x.bar.sect) + ByteArray.size (bText x.bar.grade) ≤ 9223372036854775807 ∧ (-9223372036854775808 ≤ x.bar.long ∧ x.bar.long < 9223372036854775808) ∧ (q7 ∧ True) ∧ ByteArray.size (bText x.bar.id ++ bText x.bar.sect ++ bText x.bar.grade) + ByteArray.size (bInt x.bar.long) ≤ 9223372036854775807 ∧ x.bar.heat.size ≤ 16000000 ∧ True ∧ ByteArray.size (bText x.bar.id ++ bText x.bar.sect ++ bText x.bar.grade ++ bInt x.bar.long) + ByteArray.size (bText x.bar.heat) ≤ 9223372036854775807 ∧ True ∧ (True ∧ True) ∧ true = true ∧ Post (Out.ret (vs (bText x.bar.id ++ bText x.bar.sect ++ bText x.bar.grade ++ bInt x.bar.long ++ bText x.bar.heat))) [])) (T2 (pIf (decide (x.kind = 4)) (T4 (True ∧ x.item.size ≤ 16000000 ∧ ((vs x.by_ = vs x.by_ ∧ True) ∧ True) ∧ x.by_.size ≤ 16000000 ∧ True ∧ ByteArray.size (bText x.item) + ByteArray.size (bText x.by_) ≤ 9223372036854775807 ∧ True ∧ (True ∧ True) ∧ true = true ∧ Post (Out.ret (vs (bText x.item ++ bText x.by_))) [])) (T2 (pIf (decide (x.kind = 7)) q2 (T2 (pIf (decide (x.kind = 8)) q2 (T2 (pIf (decide (x.kind = 12)) q2 (T2 (pIf (decide (x.kind = 16)) q2 (T2 (pIf (decide (x.kind = 9)) q1 (T2 (pIf (decide (x.kind = 11)) q1 (T2 (pIf (decide (x.kind = 10)) (T4 (T2 (True ∧ pIf x.pass (x.item.size ≤ 16000000 ∧ ((vb x.pass = vb true ∧ True) ∧ (vi x.n = vi x.n ∧ True) ∧ True) ∧ (-9223372036854775808 ≤ x.n ∧ x.n < 9223372036854775808) ∧ ((vb x.pass = vb true ∧ True) ∧ True) ∧ ByteArray.size (bText x.item) + ByteArray.size (bInt x.n) ≤ 9223372036854775807 ∧ T4 (ByteArray.size (bText x.item ++ bInt x.n) + 1 ≤ 9223372036854775807 ∧ True ∧ (True ∧ True) ∧ true = true ∧ Post (Out.ret (vs (bText x.item ++ bInt x.n ++ ByteArray.mk #[245]))) [])) (x.item.size ≤ 16000000 ∧ ((vb x.pass = vb false ∧ True) ∧ (vi x.n = vi x.n ∧ True) ∧ True) ∧ (-9223372036854775808 ≤ x.n ∧ x.n < 9223372036854775808) ∧ ((vb x.pass = vb false ∧ True) ∧ True) ∧ ByteArray.size (bText x.item) + ByteArray.size (bInt x.n) ≤ 9223372036854775807 ∧ T4 (ByteArray.size (bText x.item ++ bInt x.n) + 1 ≤ 9223372036854775807 ∧ True ∧ (True ∧ True) ∧ true = true ∧ Post (Out.ret (vs (bText x.item ++ bInt x.n ++ ByteArray.mk #[244]))) []))))) (T2 (pIf (decide (x.kind = 13)) (T16 (T4 (T2 (True ∧ x.weig.block.size ≤ 16000000 ∧ ((vi x.weig.sigma = vi x.weig.sigma ∧ True) ∧ (vi x.weig.centre.z = vi x.weig.centre.z ∧ True) ∧ (vi x.weig.centre.y = vi x.weig.centre.y ∧ True) ∧ (vi x.weig.centre.x = vi x.weig.centre.x ∧ True) ∧ (vi x.weig.mass = vi x.weig.mass ∧ True) ∧ True) ∧ T8 (T2 ((toI (vi 0) ≤ 0 ∧ toI (vi 0) < (↑5 : Int)) ∧ True ∧ (-9223372036854775808 ≤ x.weig.mass ∧ x.weig.mass < 9223372036854775808) ∧ 0 + ByteArray.size (bInt x.weig.mass) ≤ 9223372036854775807 ∧ T8 (T2 (True ∧ (toI (vi 0) ≤ IntKind.wrap IntKind.i64 (0 + 1) ∧ toI (vi (IntKind.wrap IntKind.i64 (0 + 1))) < (↑5 : Int)) ∧ True ∧ (-9223372036854775808 ≤ x.weig.centre.x ∧ x.weig.centre.x < 9223372036854775808) ∧ ByteArray.size (ByteArray.mk #[] ++ bInt x.weig.mass) + ByteArray.size (bInt x.weig.centre.x) ≤ 9223372036854775807 ∧ T8 (T2 (True ∧ (toI (vi 0) ≤ IntKind.wrap IntKind.i64 q3 ∧ toI (vi (IntKind.wrap IntKind.i64 q3)) < (↑5 : Int)) ∧ True ∧ (-9223372036854775808 ≤ x.weig.centre.y ∧ x.weig.centre.y < 9223372036854775808) ∧ ByteArray.size (ByteArray.mk #[] ++ bInt x.weig.mass ++ bInt x.weig.centre.x) + ByteArray.size (bInt x.weig.centre.y) ≤ 9223372036854775807 ∧ T8 (T2 (True ∧ (toI (vi 0) ≤ IntKind.wrap IntKind.i64 q9 ∧ toI (vi (IntKind.wrap IntKind.i64 q9)) < (↑5 : Int)) ∧ True ∧ (-9223372036854775808 ≤ x.weig.centre.z ∧ x.weig.centre.z < 9223372036854775808) ∧ ByteArray.size (ByteArray.mk #[] ++ bInt x.weig.mass ++ bInt x.weig.centre.x ++ bInt x.weig.centre.y) + ByteArray.size (bInt x.weig.centre.z) ≤ 9223372036854775807 ∧ T8 (T2 (True ∧ (toI (vi 0) ≤ IntKind.wrap IntKind.i64 (IntKind.wrap IntKind.i64 q9 + 1) ∧ toI (vi (IntKind.wrap IntKind.i64 (IntKind.wrap IntKind.i64 q9 + 1))) < (↑5 : Int)) ∧ True ∧ (-9223372036854775808 ≤ x.weig.sigma ∧ x.weig.sigma < 9223372036854775808) ∧ ByteArray.size (ByteArray.mk #[] ++ bInt x.weig.mass ++ bInt x.weig.centre.x ++ bInt x.weig.centre.y ++ bInt x.weig.centre.z) + ByteArray.size (bInt x.weig.sigma) ≤ 9223372036854775807 ∧ T8 (T2 (True ∧ ByteArray.size (bText x.weig.block) + ByteArray.size q5 ≤ 9223372036854775807 ∧ True ∧ (True ∧ True) ∧ true = true ∧ Post (Out.ret (vs (bText x.weig.block ++ q5))) [])))))))))))))))) (T2 (pIf (decide (x.kind = 15)) (T16 (x.permit.id.size ≤ 16000000 ∧ ((vi x.permit.time.b = vi x.permit.time.b ∧ True) ∧ (vi x.permit.time.a = vi x.permit.time.a ∧ True) ∧ (vi x.permit.kind = vi x.permit.kind ∧ True) ∧ True) ∧ T8 (T2 ((toI (vi 0) ≤ 0 ∧ toI (vi 0) < (↑3 : Int)) ∧ True ∧ (-9223372036854775808 ≤ x.permit.kind ∧ x.permit.kind < 9223372036854775808) ∧ 0 + ByteArray.size (bInt x.permit.kind) ≤ 9223372036854775807 ∧ T8 (T2 (True ∧ q6 ∧ True ∧ (-9223372036854775808 ≤ x.permit.time.a ∧ x.permit.time.a < 9223372036854775808) ∧ ByteArray.size (ByteArray.mk #[] ++ bInt x.permit.kind) + ByteArray.size (bInt x.permit.time.a) ≤ 9223372036854775807 ∧ T8 (T2 (True ∧ q8 ∧ True ∧ (-9223372036854775808 ≤ x.permit.time.b ∧ x.permit.time.b < 9223372036854775808) ∧ ByteArray.size (ByteArray.mk #[] ++ bInt x.permit.kind ++ bInt x.permit.time.a) + ByteArray.size (bInt x.permit.time.b) ≤ 9223372036854775807 ∧ T8 (T2 (True ∧ ByteArray.size (bText x.permit.id) + ByteArray.size q10 ≤ 9223372036854775807 ∧ True ∧ (True ∧ True) ∧ true = true ∧ Post (Out.ret (vs (bText x.permit.id ++ q10))) [])))))))))) (T2 (∃ (x_1 : Event), eqL [Value.agg (evK x.kind x).toArray] [eventV x_1] ∧ FitEv x_1 ∧ True ∧ (True ∧ True) ∧ true = true ∧ Post (Out.ret (vs (listsB x_1))) [])))))))))))))))))))))))))))) := by kernel_rfl
theorem e_renc (x : Event) (H : HT) (Post : PX) : vcX Tryz.prog callRh 15 [] [] [eventV x] H Post = (T4 (∃ (x_1 : Event), eqL [Value.agg (evK x.kind x).toArray] [eventV x_1] ∧ ShortEv x_1 ∧ Few1k x_1 ∧ x_1.item.size < 16777000 ∧ T2 (True ∧ pIf (!decide (refE x_1 = 0)) (T2 (True ∧ (T2 (True ∧ True)) ∧ true = true ∧ Post (Out.ret (Value.tuple #[vz, vi (refE x_1)])) [])) (T16 ((toI (vi 0) ≤ 0 ∧ toI (vi 0) < (↑2 : Int)) ∧ True ∧ (-9223372036854775808 ≤ x.kind ∧ x.kind < 9223372036854775808) ∧ 0 + ByteArray.size (bInt x.kind) ≤ 9223372036854775807 ∧ T8 (T2 (True ∧ (toI (vi 0) ≤ IntKind.wrap IntKind.i64 (0 + 1) ∧ toI (vi (IntKind.wrap IntKind.i64 (0 + 1))) < (↑2 : Int)) ∧ True ∧ (-9223372036854775808 ≤ x.at_ ∧ x.at_ < 9223372036854775808) ∧ ByteArray.size (ByteArray.mk #[] ++ bInt x.kind) + ByteArray.size (bInt x.at_) ≤ 9223372036854775807 ∧ T8 (T2 (((Value.agg (evK x.kind x).toArray = Value.agg (evK x.kind x).toArray ∧ True) ∧ True) ∧ ∃ (x_2 : Event), eqL [Value.agg (evK x.kind x).toArray] [eventV x_2] ∧ 1 ≤ x_2.kind ∧ x_2.kind ≤ 18 ∧ FitEv x_2 ∧ InOrder x_2.order ∧ FewO x_2.order ∧ ByteArray.size (bOrder x_2.order) ≤ 16000000 ∧ True ∧ ByteArray.size (ByteArray.mk #[] ++ bInt x.kind ++ bInt x.at_) + ByteArray.size (bBody x_2 (Int.toNat x_2.kind)) ≤ 9223372036854775807 ∧ T2 ((T2 (True ∧ True)) ∧ true = true ∧ Post (Out.ret (Value.tuple #[vs (ByteArray.mk #[] ++ bInt x.kind ++ bInt x.at_ ++ bBody x_2 (Int.toNat x_2.kind)), vi 0])) [])))))))))) := by kernel_rfl
theorem bT2 : (⟨#[245]⟩ : ByteArray) = bBool true := rfl
theorem bF2 : (⟨#[244]⟩ : ByteArray) = bBool false := rfl
theorem FitEv.fitK {x : Event} (h : FitEv x) {k : Nat} (hk : x.kind = k) : fits (shN k) (vaN x k) := by
 have := h.fit
 rw [hk] at this
 exact this
theorem FitEv.listK {x : Event} (h : FitEv x) {k : Nat} (hk : x.kind = k) : fitsL x k := by
 have := h.lists
 rw [hk] at this
 exact this
theorem ll5 {x : Event} (hL : fitsL x 5) {Q : Out → List (List Value) → Prop} (B : ByteArray) (hB : B.size ≤ 4000000000) (hP : Q (.ret (.string (B ++ bEs (vaE x 5)))) []) : OkX Tryz.prog 61 [eventV x] 0 Q (lpC Tryz.prog 61 6) (lpK Tryz.prog 61 6) (stV [(1, some pt0), (3, some (.string B)), (4, some (.int .i64 0))] [(0, some (.cells (eventC x) true))] 1) := by
 simp only [fitsL, shE, vaE, List.length_map] at hL
 have hlen : (vaE x 5).length = x.nest.spots.length := by simp [vaE]
 have key := down (n := x.nest.spots.length) (p := fun k => ∀ C, C = B ++ bEs ((vaE x 5).take k) → C.size ≤ 4000000000 + 200 * k → OkX Tryz.prog 61 [eventV x] 0 Q (lpC Tryz.prog 61 6) (lpK Tryz.prog 61 6) (stV [(1, some pt0), (3, some (.string C)), (4, some (.int .i64 k))] [(0, some (.cells (eventC x) true))] 1)) (fun C hC _ => ?_) (fun k hk ih C hC hs => ?_)
 ·have := key B (by rw [List.take_zero]; exact (ba_nilr B).symm) (by omega)
  exact this
 ·refine ok_X callRf_ok mixed [(6, [1, 3, 4]), (13, [1, 3, 6]), (19, [1, 3, 7])] (l_ls5 x C _ _ _) ?_
  simp only [true_and, and_true]
  refine pIfD (fun hh => absurd hh (by omega)) (fun _ => ?_)
  have e : C = B ++ bEs (vaE x 5) := by rw [hC, ← hlen, List.take_length]
  rw [e]
  repeat' (first | exact rfl | refine And.intro ?_ ?_ | trivial | exact hP)
 ·refine ok_X callRf_ok mixed [(6, [1, 3, 4]), (13, [1, 3, 6]), (19, [1, 3, 7])] (l_ls5 x C _ _ _) ?_
  have ek : ((k : Nat) : Int).toNat = k := by omega
  have el : x.nest.spots[k] ∈ x.nest.spots := List.getElem_mem hk
  have hf := hL.2 _ (List.mem_map_of_mem el)
  simp only [vaSpot, fits, fit] at hf
  have := bText_size x.nest.spots[k].part
  have := bInt_size x.nest.spots[k].at_.x
  have := bInt_size x.nest.spots[k].at_.y
  have := bInt_size x.nest.spots[k].turn
  have ht := bEs_take (l := vaE x 5) (k := k) (by omega)
  have hX : ∀ C', C' = C ++ bVs (vaE x 5)[k] → C'.size ≤ 4000000000 + 200 * (k + 1) → OkX Tryz.prog 61 [eventV x] 0 Q (lpC Tryz.prog 61 6) (lpK Tryz.prog 61 6) (stV [(1, some pt0), (3, some (.string C')), (4, some (.int .i64 ((k + 1 : Nat) : Int)))] [(0, some (.cells (eventC x) true))] 1) := fun C' h1 h2 => ih C' (by rw [h1, hC, ht, ba_assoc]) h2
  clear ih hP hC ht
  have eV : (vaE x 5)[k] = vaSpot x.nest.spots[k] := by simp [vaE]
  rw [eV] at hX
  simp only [true_and, and_true, bT2, bF2, ek, wrapSucc (show k < 2 ^ 62 by omega), cell_spot hk, spotC, List.getElem?_cons_succ, List.getElem?_cons_zero, Option.getD_some, toI, toS, toB, ba_nil]
  refine pIfD (fun _ => ?_) (fun hh => absurd hh (by omega))
  repeat' (first | exact rfl | refine And.intro ?_ ?_ | trivial | decide | omega | exact .cons ⟨_, rfl⟩ .nil | exact congrArg Value.bool hb | (simp only [ba_size]; omega) | (simp only [ba_size, one_size]; omega) | refine pIf_intro (fun hb => ?_) (fun hb => ?_) | (refine hX _ ?_ ?_ <;> first | (simp only [bVs, bVa, ba_assoc, ba_nilr, vaSpot]; done) | (simp only [bVs, bVa, hb, ba_assoc, ba_nilr, vaSpot]; done) | (simp only [ba_size]; omega) | (simp only [ba_size, one_size]; omega)))
theorem ll6 {x : Event} (hL : fitsL x 6) {Q : Out → List (List Value) → Prop} (B : ByteArray) (hB : B.size ≤ 4000000000) (hP : Q (.ret (.string (B ++ bEs (vaE x 6)))) []) : OkX Tryz.prog 61 [eventV x] 0 Q (lpC Tryz.prog 61 13) (lpK Tryz.prog 61 13) (stV [(1, some pt0), (3, some (.string B)), (6, some (.int .i64 0))] [(0, some (.cells (eventC x) true))] 1) := by
 simp only [fitsL, shE, vaE, List.length_map] at hL
 have hlen : (vaE x 6).length = x.saw.parts.length := by simp [vaE]
 have key := down (n := x.saw.parts.length) (p := fun k => ∀ C, C = B ++ bEs ((vaE x 6).take k) → C.size ≤ 4000000000 + 200 * k → OkX Tryz.prog 61 [eventV x] 0 Q (lpC Tryz.prog 61 13) (lpK Tryz.prog 61 13) (stV [(1, some pt0), (3, some (.string C)), (6, some (.int .i64 k))] [(0, some (.cells (eventC x) true))] 1)) (fun C hC _ => ?_) (fun k hk ih C hC hs => ?_)
 ·have := key B (by rw [List.take_zero]; exact (ba_nilr B).symm) (by omega)
  exact this
 ·refine ok_X callRf_ok mixed [(6, [1, 3, 4]), (13, [1, 3, 6]), (19, [1, 3, 7])] (l_ls6 x C _ _ _) ?_
  simp only [true_and, and_true]
  refine pIfD (fun hh => absurd hh (by omega)) (fun _ => ?_)
  have e : C = B ++ bEs (vaE x 6) := by rw [hC, ← hlen, List.take_length]
  rw [e]
  repeat' (first | exact rfl | refine And.intro ?_ ?_ | trivial | exact hP)
 ·refine ok_X callRf_ok mixed [(6, [1, 3, 4]), (13, [1, 3, 6]), (19, [1, 3, 7])] (l_ls6 x C _ _ _) ?_
  have ek : ((k : Nat) : Int).toNat = k := by omega
  have el : x.saw.parts[k] ∈ x.saw.parts := List.getElem_mem hk
  have hf := hL.2 _ (List.mem_map_of_mem el)
  simp only [fits, fit] at hf
  have := bText_size x.saw.parts[k]
  have ht := bEs_take (l := vaE x 6) (k := k) (by omega)
  have hX : ∀ C', C' = C ++ bVs (vaE x 6)[k] → C'.size ≤ 4000000000 + 200 * (k + 1) → OkX Tryz.prog 61 [eventV x] 0 Q (lpC Tryz.prog 61 13) (lpK Tryz.prog 61 13) (stV [(1, some pt0), (3, some (.string C')), (6, some (.int .i64 ((k + 1 : Nat) : Int)))] [(0, some (.cells (eventC x) true))] 1) := fun C' h1 h2 => ih C' (by rw [h1, hC, ht, ba_assoc]) h2
  clear ih hP hC ht
  have eV : (vaE x 6)[k] = [.s x.saw.parts[k]] := by simp [vaE]
  rw [eV] at hX
  simp only [true_and, and_true, ek, wrapSucc (show k < 2 ^ 62 by omega), cell_name hk, List.getElem?_cons_zero, Option.getD_some, toS]
  refine pIfD (fun _ => ?_) (fun hh => absurd hh (by omega))
  repeat' (first | exact rfl | refine And.intro ?_ ?_ | trivial | decide | omega | exact .cons ⟨_, rfl⟩ .nil | exact congrArg Value.bool hb | (simp only [ba_size]; omega) | (simp only [ba_size, one_size]; omega) | refine pIf_intro (fun hb => ?_) (fun hb => ?_) | (refine hX _ ?_ ?_ <;> first | (simp only [bVs, bVa, ba_assoc, ba_nilr]; done) | (simp only [bVs, bVa, hb, ba_assoc, ba_nilr]; done) | (simp only [ba_size]; omega) | (simp only [ba_size, one_size]; omega)))
theorem ll14 {x : Event} (hL : fitsL x 14) {Q : Out → List (List Value) → Prop} (B : ByteArray) (hB : B.size ≤ 4000000000) (hP : Q (.ret (.string (B ++ bEs (vaE x 14)))) []) : OkX Tryz.prog 61 [eventV x] 0 Q (lpC Tryz.prog 61 19) (lpK Tryz.prog 61 19) (stV [(1, some pt0), (3, some (.string B)), (7, some (.int .i64 0))] [(0, some (.cells (eventC x) true))] 1) := by
 simp only [fitsL, shE, vaE, List.length_map] at hL
 have hlen : (vaE x 14).length = x.lift.hooks.length := by simp [vaE]
 have key := down (n := x.lift.hooks.length) (p := fun k => ∀ C, C = B ++ bEs ((vaE x 14).take k) → C.size ≤ 4000000000 + 200 * k → OkX Tryz.prog 61 [eventV x] 0 Q (lpC Tryz.prog 61 19) (lpK Tryz.prog 61 19) (stV [(1, some pt0), (3, some (.string C)), (7, some (.int .i64 k))] [(0, some (.cells (eventC x) true))] 1)) (fun C hC _ => ?_) (fun k hk ih C hC hs => ?_)
 ·have := key B (by rw [List.take_zero]; exact (ba_nilr B).symm) (by omega)
  exact this
 ·refine ok_X callRf_ok mixed [(6, [1, 3, 4]), (13, [1, 3, 6]), (19, [1, 3, 7])] (l_ls14 x C _ _ _) ?_
  simp only [true_and, and_true]
  refine pIfD (fun hh => absurd hh (by omega)) (fun _ => ?_)
  have e : C = B ++ bEs (vaE x 14) := by rw [hC, ← hlen, List.take_length]
  rw [e]
  repeat' (first | exact rfl | refine And.intro ?_ ?_ | trivial | exact hP)
 ·refine ok_X callRf_ok mixed [(6, [1, 3, 4]), (13, [1, 3, 6]), (19, [1, 3, 7])] (l_ls14 x C _ _ _) ?_
  have ek : ((k : Nat) : Int).toNat = k := by omega
  have el : x.lift.hooks[k] ∈ x.lift.hooks := List.getElem_mem hk
  have hf := hL.2 _ (List.mem_map_of_mem el)
  simp only [vaHook, fits, fit] at hf
  have := bText_size x.lift.hooks[k].crane
  have := bInt_size x.lift.hooks[k].at_.x
  have := bInt_size x.lift.hooks[k].at_.y
  have := bInt_size x.lift.hooks[k].radius
  have ht := bEs_take (l := vaE x 14) (k := k) (by omega)
  have hX : ∀ C', C' = C ++ bVs (vaE x 14)[k] → C'.size ≤ 4000000000 + 200 * (k + 1) → OkX Tryz.prog 61 [eventV x] 0 Q (lpC Tryz.prog 61 19) (lpK Tryz.prog 61 19) (stV [(1, some pt0), (3, some (.string C')), (7, some (.int .i64 ((k + 1 : Nat) : Int)))] [(0, some (.cells (eventC x) true))] 1) := fun C' h1 h2 => ih C' (by rw [h1, hC, ht, ba_assoc]) h2
  clear ih hP hC ht
  have eV : (vaE x 14)[k] = vaHook x.lift.hooks[k] := by simp [vaE]
  rw [eV] at hX
  simp only [true_and, and_true, ek, wrapSucc (show k < 2 ^ 62 by omega), cell_hook hk, hook4C, List.getElem?_cons_succ, List.getElem?_cons_zero, Option.getD_some, toI, toS, ba_nil]
  refine pIfD (fun _ => ?_) (fun hh => absurd hh (by omega))
  repeat' (first | exact rfl | refine And.intro ?_ ?_ | trivial | decide | omega | exact .cons ⟨_, rfl⟩ .nil | exact congrArg Value.bool hb | (simp only [ba_size]; omega) | (simp only [ba_size, one_size]; omega) | refine pIf_intro (fun hb => ?_) (fun hb => ?_) | (refine hX _ ?_ ?_ <;> first | (simp only [bVs, bVa, ba_assoc, ba_nilr, vaHook]; done) | (simp only [bVs, bVa, hb, ba_assoc, ba_nilr, vaHook]; done) | (simp only [ba_size]; omega) | (simp only [ba_size, one_size]; omega)))
theorem ok_lists : EntOk Tryz.prog ⟨61, c_lists⟩ := by
 rintro args Post ⟨x, rfl, hg, h⟩
 refine B.pure_of_X ?_
 refine spec_X (conts := []) callRf_ok mixed (by kernel_rfl) (by kernel_rfl) [(6, [1, 3, 4]), (13, [1, 3, 6]), (19, [1, 3, 7])] (e_ls x _ _) ?_
 simp only [true_and, and_true, Int.toNat_natCast]
 refine pIfD (fun hk => ?_) (fun n5 => ?_)
 ·have hf := hg.fitK (k := 5) hk
  have hL := hg.listK (k := 5) hk
  simp only [shN, vaN, fits, fit] at hf
  have hL2 := hL
  simp only [fitsL, shE, vaE, List.length_map] at hL2
  have := bList_size x.nest.spots.length
  have := bText_size x.nest.sheet
  have := bInt_size x.nest.gap
  have e : listsB x = bVs (vaN x 5) ++ bLs x 5 := by unfold listsB; rw [if_pos (by omega), hk]; rfl
  rw [e] at h
  simp only [bLs, shE, vaN, bVs, bVa, ba_nilr, vaE, List.length_map] at h
  repeat' (first | exact rfl | refine And.intro ?_ ?_ | trivial | decide | omega | (simp only [ba_size]; omega) | refine ll5 hL _ ?_ ?_ | (simp only [vaE, ba_assoc] at h ⊢; exact h))
 refine pIfD (fun hk => ?_) (fun n6 => ?_)
 ·have hf := hg.fitK (k := 6) hk
  have hL := hg.listK (k := 6) hk
  simp only [shN, vaN, fits, fit] at hf
  have hL2 := hL
  simp only [fitsL, shE, vaE, List.length_map] at hL2
  have := bList_size x.saw.parts.length
  have := bText_size x.saw.bar
  have := bInt_size x.saw.kerf
  have e : listsB x = bVs (vaN x 6) ++ bLs x 6 := by unfold listsB; rw [if_pos (by omega), hk]; rfl
  rw [e] at h
  simp only [bLs, shE, vaN, bVs, bVa, ba_nilr, vaE, List.length_map] at h
  repeat' (first | exact rfl | refine And.intro ?_ ?_ | trivial | decide | omega | (simp only [ba_size]; omega) | refine ll6 hL _ ?_ ?_ | (simp only [vaE, ba_assoc] at h ⊢; exact h))
 refine pIfD (fun hk => ?_) (fun n14 => ?_)
 ·have hf := hg.fitK (k := 14) hk
  have hL := hg.listK (k := 14) hk
  simp only [shN, vaN, fits, fit] at hf
  have hL2 := hL
  simp only [fitsL, shE, vaE, List.length_map] at hL2
  have := bList_size x.lift.hooks.length
  have := bText_size x.lift.block
  have e : listsB x = bVs (vaN x 14) ++ bLs x 14 := by unfold listsB; rw [if_pos (by omega), hk]; rfl
  rw [e] at h
  simp only [bLs, shE, vaN, bVs, bVa, ba_nilr, vaE, List.length_map] at h
  repeat' (first | exact rfl | refine And.intro ?_ ?_ | trivial | decide | omega | (simp only [ba_size]; omega) | refine ll14 hL _ ?_ ?_ | (simp only [vaE, ba_assoc] at h ⊢; exact h))
 have e : listsB x = ⟨#[]⟩ := by unfold listsB; rw [if_neg (by omega)]
 rw [e] at h
 repeat' (first | exact rfl | refine And.intro ?_ ?_ | trivial | exact h)
theorem callRg_ok : PCallOk Tryz.prog callRg := inlP_ok mixed (ofV_ok (tabCall_ok (by
 intro e he
 rcases List.mem_cons.1 he with rfl | he
 ·exact ok_lists
 ·exact tabRf_ok e he) noCall_ok)) 3
theorem ok_fields : EntOk Tryz.prog ⟨35, c_fields⟩ := by
 rintro args Post ⟨x, rfl, k1, k2, hg, hi, hfo, hbo, h⟩
 refine B.pure_of_X ?_
 refine spec_X (conts := []) callRg_ok mixed (by kernel_rfl) (by kernel_rfl) [] (e_fs x _ _) ?_
 have hkind := kinds k1 k2
 simp only [true_and, and_true, ba_nil, bT2, bF2, ba_assoc]
 refine pIfD (fun hk => ?_) (fun n1 => ?_)
 ·clear hkind
  rw [hk] at h
  repeat' (first | exact rfl | refine And.intro ?_ ?_ | trivial | exact ⟨x.order, rfl, hi, hfo, hbo, h⟩ | exact ⟨x.order, rfl, hi, hfo, hbo, trivial, rfl, h⟩ | exact ⟨x.order, rfl, hi, hfo, hbo, rfl, h⟩)
 refine pIfD (fun hk => ?_) (fun n2 => ?_)
 ·clear hkind
  rw [hk] at h
  have hf := hg.fitK (k := 2) hk
  simp only [shN, vaN, fits, fit] at hf
  have := bText_size x.sheet.id
  have := bText_size x.sheet.grade
  have := bInt_size x.sheet.thick
  have := bInt_size x.sheet.long
  have := bInt_size x.sheet.width
  have := bText_size x.sheet.heat
  replace h : Post (.string (bVs (vaN x 2) ++ bLs x 2)) := h
  simp only [vaN, bVs, bVa, bLs, shE, ba_assoc, ba_nilr] at h
  and_intros <;> try first | omega | decide | (simp only [ba_size]; omega) | exact h | rfl
 refine pIfD (fun hk => ?_) (fun n3 => ?_)
 ·clear hkind
  rw [hk] at h
  have hf := hg.fitK (k := 3) hk
  simp only [shN, vaN, fits, fit] at hf
  have := bText_size x.bar.id
  have := bText_size x.bar.sect
  have := bText_size x.bar.grade
  have := bInt_size x.bar.long
  have := bText_size x.bar.heat
  replace h : Post (.string (bVs (vaN x 3) ++ bLs x 3)) := h
  simp only [vaN, bVs, bVa, bLs, shE, ba_assoc, ba_nilr] at h
  and_intros <;> try first | omega | decide | (simp only [ba_size]; omega) | exact h | rfl
 refine pIfD (fun hk => ?_) (fun n4 => ?_)
 ·clear hkind
  rw [hk] at h
  have hf := hg.fitK (k := 4) hk
  simp only [shN, vaN, fits, fit] at hf
  have := bText_size x.item
  have := bText_size x.by_
  replace h : Post (.string (bVs (vaN x 4) ++ bLs x 4)) := h
  simp only [vaN, bVs, bVa, bLs, shE, ba_assoc, ba_nilr] at h
  and_intros <;> try first | omega | decide | (simp only [ba_size]; omega) | exact h | rfl
 refine pIfD (fun hk => ?_) (fun n7 => ?_)
 ·clear hkind
  rw [hk] at h
  have hf := hg.fitK (k := 7) hk
  simp only [shN, vaN, fits, fit] at hf
  have := bText_size x.item
  replace h : Post (.string (bVs (vaN x 7) ++ bLs x 7)) := h
  simp only [vaN, bVs, bVa, bLs, shE, ba_assoc, ba_nilr] at h
  and_intros <;> try first | omega | decide | (simp only [ba_size]; omega) | exact h | rfl
 refine pIfD (fun hk => ?_) (fun n8 => ?_)
 ·clear hkind
  rw [hk] at h
  have hf := hg.fitK (k := 8) hk
  simp only [shN, vaN, fits, fit] at hf
  have := bText_size x.item
  replace h : Post (.string (bVs (vaN x 8) ++ bLs x 8)) := h
  simp only [vaN, bVs, bVa, bLs, shE, ba_assoc, ba_nilr] at h
  and_intros <;> try first | omega | decide | (simp only [ba_size]; omega) | exact h | rfl
 refine pIfD (fun hk => ?_) (fun n12 => ?_)
 ·clear hkind
  rw [hk] at h
  have hf := hg.fitK (k := 12) hk
  simp only [shN, vaN, fits, fit] at hf
  have := bText_size x.item
  replace h : Post (.string (bVs (vaN x 12) ++ bLs x 12)) := h
  simp only [vaN, bVs, bVa, bLs, shE, ba_assoc, ba_nilr] at h
  and_intros <;> try first | omega | decide | (simp only [ba_size]; omega) | exact h | rfl
 refine pIfD (fun hk => ?_) (fun n16 => ?_)
 ·clear hkind
  rw [hk] at h
  have hf := hg.fitK (k := 16) hk
  simp only [shN, vaN, fits, fit] at hf
  have := bText_size x.item
  replace h : Post (.string (bVs (vaN x 16) ++ bLs x 16)) := h
  simp only [vaN, bVs, bVa, bLs, shE, ba_assoc, ba_nilr] at h
  and_intros <;> try first | omega | decide | (simp only [ba_size]; omega) | exact h | rfl
 refine pIfD (fun hk => ?_) (fun n9 => ?_)
 ·clear hkind
  rw [hk] at h
  have hf := hg.fitK (k := 9) hk
  simp only [shN, vaN, fits, fit] at hf
  have := bText_size x.item
  have := bText_size x.of_
  have := bText_size x.by_
  replace h : Post (.string (bVs (vaN x 9) ++ bLs x 9)) := h
  simp only [vaN, bVs, bVa, bLs, shE, ba_assoc, ba_nilr] at h
  and_intros <;> try first | omega | decide | (simp only [ba_size]; omega) | exact h | rfl
 refine pIfD (fun hk => ?_) (fun n11 => ?_)
 ·clear hkind
  rw [hk] at h
  have hf := hg.fitK (k := 11) hk
  simp only [shN, vaN, fits, fit] at hf
  have := bText_size x.item
  have := bText_size x.of_
  have := bText_size x.by_
  replace h : Post (.string (bVs (vaN x 11) ++ bLs x 11)) := h
  simp only [vaN, bVs, bVa, bLs, shE, ba_assoc, ba_nilr] at h
  and_intros <;> try first | omega | decide | (simp only [ba_size]; omega) | exact h | rfl
 refine pIfD (fun hk => ?_) (fun n10 => ?_)
 ·clear hkind
  rw [hk] at h
  have hf := hg.fitK (k := 10) hk
  simp only [shN, vaN, fits, fit] at hf
  have := bText_size x.item
  have := bInt_size x.n
  replace h : Post (.string (bVs (vaN x 10) ++ bLs x 10)) := h
  simp only [vaN, bVs, bVa, bLs, shE, ba_assoc, ba_nilr] at h
  repeat' (first | exact rfl | refine And.intro ?_ ?_ | trivial | decide | omega | exact .cons ⟨_, rfl⟩ .nil | exact congrArg Value.bool hb | (simp only [ba_size]; omega) | (simp only [ba_size, one_size]; omega) | refine pIf_intro (fun hb => ?_) (fun hb => ?_) | exact h | (rw [hb] at h; exact h))
 refine pIfD (fun hk => ?_) (fun n13 => ?_)
 ·clear hkind
  rw [hk] at h
  have hf := hg.fitK (k := 13) hk
  simp only [shN, vaN, fits, fit] at hf
  have := bText_size x.weig.block
  have := bInt_size x.weig.mass
  have := bInt_size x.weig.centre.x
  have := bInt_size x.weig.centre.y
  have := bInt_size x.weig.centre.z
  have := bInt_size x.weig.sigma
  replace h : Post (.string (bVs (vaN x 13) ++ bLs x 13)) := h
  simp only [vaN, bVs, bVa, bLs, shE, ba_assoc, ba_nilr] at h
  and_intros <;> try first | omega | decide | (simp only [ba_size]; omega) | exact h | rfl
 refine pIfD (fun hk => ?_) (fun n15 => ?_)
 ·clear hkind
  rw [hk] at h
  have hf := hg.fitK (k := 15) hk
  simp only [shN, vaN, fits, fit] at hf
  have := bText_size x.permit.id
  have := bInt_size x.permit.kind
  have := bInt_size x.permit.time.a
  have := bInt_size x.permit.time.b
  replace h : Post (.string (bVs (vaN x 15) ++ bLs x 15)) := h
  simp only [vaN, bVs, bVa, bLs, shE, ba_assoc, ba_nilr] at h
  and_intros <;> try first | omega | decide | (simp only [ba_size]; omega) | exact h | rfl
 have e : bBody x x.kind.toNat = listsB x := by
  have : x.kind = 5 ∨ x.kind = 6 ∨ x.kind = 14 ∨ x.kind = 17 ∨ x.kind = 18 := by omega
  unfold listsB
  rcases this with hk | hk | hk | hk | hk <;> rw [hk] <;> rfl
 rw [e] at h
 repeat' (first | exact rfl | refine And.intro ?_ ?_ | trivial | exact ⟨x, rfl, hg, h⟩ | exact ⟨x, rfl, hg, trivial, rfl, h⟩ | exact ⟨x, rfl, hg, rfl, h⟩)
theorem bVs_size : ∀ {fs : List Fd} {vs : List Va}, fits fs vs → (bVs vs).size ≤ 80 * fs.length
 | [], [], _ => by decide
 | f :: fs, v :: vs, h => by
  have h1 := bVs_size h.2
  have h2 : (bVa v).size ≤ 80 := by
   have h0 := h.1
   cases f <;> cases v <;> simp only [fit] at h0
   ·rename_i s; have := bText_size s; show (bText s).size ≤ 80; omega
   ·rename_i n; have := bInt_size n; show (bInt n).size ≤ 80; omega
   ·exact Nat.le_trans (Nat.le_of_eq one_size) (by decide)
  simp only [bVs, ba_size, List.length_cons]
  omega
 | [], _ :: _, h => h.elim
 | _ :: _, [], h => h.elim
theorem bEs_size {fs : List Fd} (hn : fs.length ≤ 10) : ∀ {es : List (List Va)}, (∀ v ∈ es, fits fs v) → (bEs es).size ≤ 800 * es.length
 | [], _ => by decide
 | v :: es, h => by
  have h1 := bEs_size hn (es := es) fun u hu => h u (by simp [hu])
  have h2 := bVs_size (h v (by simp))
  simp only [bEs, ba_size, List.length_cons]
  omega
theorem shN_len (k : Nat) : (shN k).length ≤ 6 := by
 unfold shN
 split <;> decide
theorem body_size {x : Event} (k1 : 1 ≤ x.kind) (k2 : x.kind ≤ 18) (hg : FitEv x) (hb : (bOrder x.order).size ≤ 16000000) : (bBody x x.kind.toNat).size ≤ 4000000000 := by
 have h1 := bVs_size hg.fit
 have h2 := shN_len x.kind.toNat
 have h3 := hg.lists
 have hl : (bLs x x.kind.toNat).size ≤ 100000 := by
  unfold bLs
  unfold fitsL at h3
  cases hE : shE x.kind.toNat with
  | none => dsimp only; decide
  | some p =>
   obtain ⟨m, fs⟩ := p
   rw [hE] at h3
   dsimp only at h3 ⊢
   have hm : m ≤ 32 ∧ fs.length ≤ 10 := by
    unfold shE at hE
    split at hE <;> cases hE <;> decide
   have h4 := bEs_size hm.2 h3.2
   have h5 := bList_size (vaE x x.kind.toNat).length
   rw [ba_size]
   omega
 unfold bBody
 split
 ·have := bText_size (bOrder x.order); omega
 ·rw [ba_size]; omega
theorem callRh_ok : PCallOk Tryz.prog callRh := inlP_ok mixed (ofV_ok (tabCall_ok (by
 intro e he
 rcases List.mem_cons.1 he with rfl | he
 ·exact ok_rcheck
 rcases List.mem_cons.1 he with rfl | he
 ·exact ok_fields
 ·exact tabRf_ok e he) noCall_ok)) 3
def rencR (x : Event) : ByteArray × Int := if refE x = 0 then (bEv x, 0) else (⟨#[]⟩, refE x)
def c_renc (args : List Value) (Post : Value → Prop) : Prop := ∃ x : Event, args = [eventV x] ∧ ShortEv x ∧ Few1k x ∧ x.item.size < 16777000 ∧ InOrder x.order ∧ FewO x.order ∧ (bOrder x.order).size ≤ 16000000 ∧ (refE x = 0 → 1 ≤ x.kind ∧ x.kind ≤ 18 ∧ 0 ≤ x.at_ ∧ x.at_ ≤ 1048576 ∧ FitEv x) ∧ Post (.tuple #[.string (rencR x).1, .int .i64 (rencR x).2])
theorem ok_renc : EntOk Tryz.prog ⟨15, c_renc⟩ := by
 rintro args Post ⟨x, rfl, hs, h1k, hz, hi, hfo, hbo, hok, h⟩
 refine B.pure_of_X ?_
 refine spec_X (conts := []) callRh_ok mixed (by kernel_rfl) (by kernel_rfl) [] (e_renc x _ _) ?_
 have hC : ¬ refE x = 0 → B.retV Post (.ret (.tuple #[.string ⟨#[]⟩, .int .i64 (refE x)])) [] := fun c => by
  unfold rencR at h
  rw [if_neg c] at h
  exact h
 have hO : refE x = 0 → B.retV Post (.ret (.tuple #[.string (bEv x), .int .i64 0])) [] := fun c => by
  unfold rencR at h
  rw [if_pos c] at h
  exact h
 clear h
 simp only [true_and, and_true, ba_nil]
 refine ⟨x, rfl, hs, h1k, hz, pIfN (fun c => ?_) (fun c => ?_)⟩
 ·repeat' (first | exact rfl | refine And.intro ?_ ?_ | trivial | exact hC c)
 obtain ⟨k1, k2, a1, a2, hg⟩ := hok c
 have hO := hO c
 have i1 := bInt_size x.kind
 have i2 := bInt_size x.at_
 have hbs : (bBody x x.kind.toNat).size ≤ 4000000000 := body_size k1 k2 hg hbo
 repeat' (first | exact rfl | refine And.intro ?_ ?_ | trivial | decide | omega | (simp only [ba_size]; omega) | exact hO | refine ⟨x, rfl, k1, k2, hg, hi, hfo, hbo, ?_⟩)
theorem size_nil : (⟨#[]⟩ : ByteArray).size = 0 := rfl
theorem offSpot_eq : offSpot = fun s => (off s.at_.x || off s.at_.y || off s.turn) := rfl
theorem offHook_eq : offHook = fun h => (off h.at_.x || off h.at_.y || off h.radius) := rfl
theorem big_eq : big = fun s => decide (64 < s.size) := rfl
theorem law_long {x : Event} (h1 : 1 ≤ x.kind) (h2 : x.kind ≤ 18) (hp : x = plainK x.kind x) : refLong x = longK x.kind x := by
 have h := ev_iff.1 hp
 rcases kinds h1 h2 with hk | hk | hk | hk | hk | hk | hk | hk | hk | hk | hk | hk | hk | hk | hk | hk | hk | hk <;>
  (simp [plainK, evt0, hk, weig_iff] at h; simp [refLong, strL, strL0, longK, hk, h, big_eq, size_nil, List.any_append, List.any_map, Function.comp_def]; try grind)
theorem law_far {x : Event} (h1 : 1 ≤ x.kind) (h2 : x.kind ≤ 18) (hp : x = plainK x.kind x) : refFar x = farK x.kind x := by
 have h := ev_iff.1 hp
 rcases kinds h1 h2 with hk | hk | hk | hk | hk | hk | hk | hk | hk | hk | hk | hk | hk | hk | hk | hk | hk | hk <;>
  (simp [plainK, evt0, hk, weig_iff] at h; simp [refFar, numL, numL0, farK, hk, h, off, List.any_append, List.any_flatMap, offSpot_eq, offHook_eq, Bool.or_assoc]; try grind)
def inlW : List FuncId := inlA ++ [36, 64, 78, 80, 81, 90, 91, 145, 146, 147, 149,
 63, 79, 141, 142, 143, 144]
def baseW : PCall := xtabCall [⟨14, c_EncA⟩] baseA
theorem baseW_ok : PCallOk Tryz.prog baseW := xtabCall_ok (by
 intro e he
 simp only [List.mem_cons, List.not_mem_nil, or_false] at he
 subst he
 exact ok_EncA) baseA_ok
def innerW : PCall := inlP Tryz.prog inlW baseW 12
theorem innerW_ok : PCallOk Tryz.prog innerW := inlP_ok mixed baseW_ok 12
def callWb : PCall := inlP Tryz.prog (16 :: inlW) (inlD Tryz.prog [37] innerW baseW) 12
theorem callWb_ok : PCallOk Tryz.prog callWb := inlP_ok mixed (inlD_ok mixed innerW_ok baseW_ok) 12
abbrev nmA : Array Value := #[Value.agg #[Value.string (ByteArray.mk #[]), Value.string (ByteArray.mk #[111, 114, 100, 101, 114]), Value.string (ByteArray.mk #[115, 104, 101, 101, 116]), Value.string (ByteArray.mk #[98, 97, 114]), Value.string (ByteArray.mk #[98, 117, 121]), Value.string (ByteArray.mk #[110, 101, 115, 116]), Value.string (ByteArray.mk #[115, 97, 119]), Value.string (ByteArray.mk #[115, 99, 114, 97, 112]), Value.string (ByteArray.mk #[102, 105, 116]), Value.string (ByteArray.mk #[119, 101, 108, 100]), Value.string (ByteArray.mk #[105, 110, 115, 112, 101, 99, 116]), Value.string (ByteArray.mk #[114, 101, 112, 97, 105, 114]), Value.string (ByteArray.mk #[112, 97, 99, 107, 97, 103, 101]), Value.string (ByteArray.mk #[119, 101, 105, 103, 104]), Value.string (ByteArray.mk #[101, 114, 101, 99, 116]), Value.string (ByteArray.mk #[112, 101, 114, 109, 105, 116]), Value.string (ByteArray.mk #[116, 101, 115, 116]), Value.string (ByteArray.mk #[108, 97, 117, 110, 99, 104]), Value.string (ByteArray.mk #[100, 101, 108, 105, 118, 101, 114])]]
abbrev bx (s : ByteArray) (a b : Nat) : ByteArray := s.extract a b
abbrev bz (s : ByteArray) : Nat := s.size
abbrev bo (w : Nat) (i : Int) : BitVec w := BitVec.ofInt w i
theorem e_awake  (H : HT) (Post : PX) : vcX Tryz.prog callWb 9 [] [] [] H Post = (let t20 := [vz, vi 0, nS, vz, vi 0, nS, vz, vi 0, vi 0, vi 0, vi 0, vi 0, vi 0, nS, vz, nS, vz, vi 0, vi 0, vi 0]; let t3 := vz :: vz :: vi 0 :: vb false :: vz :: nS :: vz :: vz :: vi 0 :: vi 0 :: vi 0 :: vz :: vz :: vz :: vz :: vi 0 :: vz :: t20; let h20 := fun (t : List Value) => vi 17 :: vi 5 :: vz :: vz :: vz :: vi 0 :: vb false :: vz :: nS :: vz :: vz :: vi 0 :: vi 0 :: vi 0 :: vz :: vz :: vz :: vz :: vi 0 :: vz :: t; let q13 := [Value.agg #[vz, tree 38 0 #[]]]; let q12 := IntKind.bits IntKind.u8; let q8 := ByteArray.mk #[8, 24, 100, 66, 80, 49]; let q3 := bx q8 (Int.toNat 1) (bz q8); let q9 := (w64 (IntKind.wrap IntKind.u8 (↑(BitVec.toNat (bo q12 (↑(UInt8.toNat (Array.getD (ByteArray.data q3) (Int.toNat 0) 0)) : Int) &&& bo q12 31)) : Int)) - 24); let q2 := 1 + w64 (1 * 2 ^ min (Int.toNat (w64 q9)) (IntKind.bits IntKind.i64)); let q11 := bx q3 (Int.toNat (w64 q2)) (bz q3); let q5 := (IntKind.wrap IntKind.u64 (w64 (IntKind.wrap IntKind.u8 (↑(BitVec.toNat (bo q12 (↑(UInt8.toNat (Array.getD (ByteArray.data q11) (Int.toNat 0) 0)) : Int) &&& bo q12 31)) : Int)))); let q1 := bx (bx q11 (Int.toNat 1) (bz q11)) 0 (Int.toNat (w64 q5)); let q4 := ((↑(Lib.countByte (Array.toList (ByteArray.data q1)) 46) : Int) + 1); let q10 := (if w64 ((↑(bz q1) : Int) + 1) < w64 q4 then w64 ((↑(bz q1) : Int) + 1) else w64 q4); let q7 := (Value.agg #[vz, vi 0, vi 0, vi 0, vi 0, vi 0, vi 0, nS] = Value.agg #[vz, vi 0, vi 0, vi 0, vi 0, vi 0, vi 0, nS] ∧ True) ∧ True; let q6 := (IntKind.wrap IntKind.u64 (w64 (IntKind.wrap IntKind.u8 (↑(BitVec.toNat (bo q12 (↑(UInt8.toNat (Array.getD (ByteArray.data q8) (Int.toNat 0) 0)) : Int) &&& bo q12 31)) : Int)))); T2 (eqL [Value.agg (h20 t20).toArray] [Value.agg #[nilV (vi evtL.kind), nilV (vi evtL.at_), nilV (vs evtL.item), nilV (vs evtL.of_), nilV (vs evtL.by_), nilV (vi evtL.n), nilV (vb evtL.pass), nilV (vs evtL.order.id), nilV (tree 38 0 (encL evtL.order.edits)), nilV (vs evtL.sheet.id), nilV (vs evtL.sheet.grade), nilV (vi evtL.sheet.thick), nilV (vi evtL.sheet.long), nilV (vi evtL.sheet.width), nilV (vs evtL.sheet.heat), nilV (vs evtL.bar.id), nilV (vs evtL.bar.sect), nilV (vs evtL.bar.grade), nilV (vi evtL.bar.long), nilV (vs evtL.bar.heat), nilV (vs evtL.nest.sheet), nilV (vi evtL.nest.gap), nilV (tree 5 0 (encL evtL.nest.spots)), nilV (vs evtL.saw.bar), nilV (vi evtL.saw.kerf), nilV (tree 1 0 (encL evtL.saw.parts)), nilV (vs evtL.weig.block), nilV (vi evtL.weig.at_), nilV (vi evtL.weig.mass), nilV (vi evtL.weig.centre.x), nilV (vi evtL.weig.centre.y), nilV (vi evtL.weig.centre.z), nilV (vi evtL.weig.sigma), nilV (tree 1 0 (encL evtL.weig.parts)), nilV (vs evtL.lift.block), nilV (tree 4 0 (encL evtL.lift.hooks)), nilV (vs evtL.permit.id), nilV (vi evtL.permit.kind), nilV (vi evtL.permit.time.a), nilV (vi evtL.permit.time.b)]] ∧ 0 = 0 ∧ T4 (T2 (eqL [Value.agg (vi 8 :: vi 100 :: vs (ByteArray.mk #[80, 49]) :: t3).toArray] [Value.agg #[nilV (vi evtF.kind), nilV (vi evtF.at_), nilV (vs evtF.item), nilV (vs evtF.of_), nilV (vs evtF.by_), nilV (vi evtF.n), nilV (vb evtF.pass), nilV (vs evtF.order.id), nilV (tree 38 0 (encL evtF.order.edits)), nilV (vs evtF.sheet.id), nilV (vs evtF.sheet.grade), nilV (vi evtF.sheet.thick), nilV (vi evtF.sheet.long), nilV (vi evtF.sheet.width), nilV (vs evtF.sheet.heat), nilV (vs evtF.bar.id), nilV (vs evtF.bar.sect), nilV (vs evtF.bar.grade), nilV (vi evtF.bar.long), nilV (vs evtF.bar.heat), nilV (vs evtF.nest.sheet), nilV (vi evtF.nest.gap), nilV (tree 5 0 (encL evtF.nest.spots)), nilV (vs evtF.saw.bar), nilV (vi evtF.saw.kerf), nilV (tree 1 0 (encL evtF.saw.parts)), nilV (vs evtF.weig.block), nilV (vi evtF.weig.at_), nilV (vi evtF.weig.mass), nilV (vi evtF.weig.centre.x), nilV (vi evtF.weig.centre.y), nilV (vi evtF.weig.centre.z), nilV (vi evtF.weig.sigma), nilV (tree 1 0 (encL evtF.weig.parts)), nilV (vs evtF.lift.block), nilV (tree 4 0 (encL evtF.lift.hooks)), nilV (vs evtF.permit.id), nilV (vi evtF.permit.kind), nilV (vi evtF.permit.time.a), nilV (vi evtF.permit.time.b)]] ∧ 0 = 0 ∧ T32 (T16 (T8 (T4 (True ∧ (toI (vi 0) ≤ 0 ∧ toI (vi 0) < (↑(bz q8) : Int)) ∧ toI (vi 0) ≤ 5 ∧ T4 (T2 (True ∧ (toI (vi 0) ≤ 0 ∧ toI (vi 0) < (↑(bz q8) : Int)) ∧ T32 (T2 (toI (vi 0) ≤ 63 ∧ T16 (T8 (2 ≤ 2 ∧ T8 (True ∧ (True ∧ toI (vi 0) ≤ 1 ∧ 1 ≤ 6 ∧ 6 ≤ 6) ∧ T2 (True ∧ 1 ≤ 2 ∧ T2 (True ∧ 1 ≤ 40 ∧ T32 (T16 (T8 (True ∧ (toI (vi 0) ≤ 0 ∧ toI (vi 0) < (↑(bz q3) : Int)) ∧ toI (vi 0) ≤ 5 ∧ T4 (T2 (True ∧ (toI (vi 0) ≤ 0 ∧ toI (vi 0) < (↑(bz q3) : Int)) ∧ T16 (toI (vi 0) ≤ w64 q9 ∧ T16 ((toI (vi 0) ≤ w64 q2 ∧ toI (vi 0) ≤ 1 ∧ 1 ≤ 2 ∧ 2 ≤ 5) ∧ T4 ((toI (vi 0) ≤ 0 ∧ toI (vi 0) < (↑(bz (bx q3 (Int.toNat 1) (Int.toNat (w64 q2)))) : Int)) ∧ T2 (True ∧ toI (vi 0) ≤ 8 ∧ T8 (T4 (T2 (True ∧ (toI (vi 0) ≤ w64 q2 ∧ True ∧ 0 ≤ 2 ∧ 2 ≤ 5) ∧ T2 (toI (vi 0) ≤ 5 ∧ T8 (T2 (toI (vi 0) ≤ 0 ∧ toI (vi 0) ≤ IntKind.wrap IntKind.u64 (8 * 2 ^ min (Int.toNat 0) (IntKind.bits IntKind.u64)) ∧ T8 (True ∧ 1 ≤ 1 ∧ 1 ≤ 33554432 ∧ true = true ∧ 1 = 1 ∧ T2 (toI (vi 0) ≤ 0 ∧ T4 (T2 (True ∧ toI (vi 0) ≤ w64 (w64 (8 * 2 ^ min (Int.toNat 0) (IntKind.bits IntKind.i64)) - 8) ∧ T2 (1 ≤ 1 ∧ 2 ≤ 33554432 ∧ true = true ∧ 1 = 1 ∧ 1 = 1 ∧ T8 (((vs (bx q8 1 6) = vs (bx q8 1 6) ∧ True) ∧ True) ∧ (2 ≤ 2 ∧ AllU8 [Value.int IntKind.u8 (IntKind.wrap IntKind.u8 (↑24 : Int)), Value.int IntKind.u8 (IntKind.wrap IntKind.u8 (Int.fdiv (IntKind.wrap IntKind.u64 (↑100 : Int)) (2 ^ 0)))]) ∧ T16 (T4 (True ∧ toI (vi 0) ≤ 63 ∧ T16 (T8 (2 ≤ 2 ∧ T8 (True ∧ (True ∧ toI (vi 0) ≤ w64 q2 ∧ 2 ≤ 5 ∧ 5 ≤ 5) ∧ T2 (True ∧ 1 ≤ 2 ∧ T2 (True ∧ 2 ≤ 40 ∧ T32 (T32 (T16 (T4 (T2 (True ∧ (toI (vi 0) ≤ 0 ∧ toI (vi 0) < (↑(bz q11) : Int)) ∧ toI (vi 0) ≤ 5 ∧ T4 (T2 (True ∧ (toI (vi 0) ≤ 0 ∧ toI (vi 0) < (↑(bz q11) : Int)) ∧ T32 (T16 (T8 (T4 (T2 (2 ≤ 2 ∧ T8 (True ∧ (True ∧ toI (vi 0) ≤ 1 ∧ 1 ≤ 3 ∧ 3 ≤ 3) ∧ T2 (True ∧ 1 ≤ 2 ∧ T8 (T4 ((toI (vi 0) ≤ w64 q5 ∧ True ∧ 0 ≤ 2 ∧ 2 ≤ 2) ∧ T8 ((True ∧ toI (vi 0) ≤ w64 q5 ∧ 2 ≤ 2 ∧ 2 ≤ 2) ∧ T2 (True ∧ 1 ≤ 2 ∧ T2 (True ∧ 3 ≤ 40 ∧ T32 (T16 (T8 (T4 (40 ≤ 40 ∧ True ∧ 1 ≤ 1 ∧ T4 (T2 (True ∧ 40 ≤ 40 ∧ T16 ((toI (vi 0) ≤ w64 q6 ∧ toI (vi (w64 q6)) < (↑19 : Int)) ∧ vs (ByteArray.mk #[102, 105, 116]) = vs (toS (cellAt nmA 0 (0 + 8))) ∧ T32 (T8 (T4 (T2 (True ∧ 3 ≤ 40 ∧ T2 (1 ≤ 40 ∧ True ∧ 2 ≤ 40 ∧ T8 (T2 (True ∧ 8 ≤ 8 ∧ q7 ∧ 8 ≤ 8 ∧ T32 (T32 (T32 (T32 (T32 (T32 (T32 (T8 (T2 (((T2 (True)) ∧ True) ∧ ∃ (o : Order2), eqL q13 [order2V o] ∧ InOrder o ∧ FewO o ∧ ((Value.agg #[vz, nS] = Value.agg #[vz, nS] ∧ True) ∧ True) ∧ ((T2 (True)) ∧ True) ∧ ∃ (o_1 : Order2), eqL q13 [order2V o_1] ∧ InOrder o_1 ∧ FewO o_1 ∧ T2 (pIf (decide (bOrder o = bOrder o_1)) (T32 (T8 ((T2 (True)) ∧ ByteArray.mk #[46] = dot ∧ T8 (True ∧ ((toI (vi 0) ≤ if w64 ((↑(bz q1) : Int) + 1) < w64 q4 then w64 ((↑(bz q1) : Int) + 1) else w64 q4) ∧ (toI (vi q10) ≤ if w64 ((↑(bz q1) : Int) + 1) < w64 q4 then w64 ((↑(bz q1) : Int) + 1) else w64 q4) ∧ toI (vi q10) ≤ 2 ^ 25) ∧ T8 (T2 (True ∧ (toI (vi 0) ≤ 0 ∧ toI (vi 0) < (↑(Int.toNat q10) : Int)) ∧ 1 ≤ 1 ∧ T2 (True ∧ (toI (vi 0) ≤ w64 (0 + 1) ∧ True ∧ 0 ≤ 1 ∧ 1 ≤ 1) ∧ T8 (T2 (True ∧ (toI (vi 0) ≤ 0 ∧ toI (vi 0) < (↑(Int.toNat (w64 (0 + 1)) - 0) : Int)) ∧ T32 (T32 (T32 (T32 (T16 (T8 (T2 (True ∧ 1 ≤ 2 ∧ T8 (T4 (40 ≤ 40 ∧ T4 (True ∧ 40 ≤ 40 ∧ T32 (T4 (T2 ((toI (vi 0) ≤ 14 ∧ toI (vi 14) < (↑19 : Int)) ∧ vs (ByteArray.mk #[101, 114, 101, 99, 116]) = vs (toS (cellAt nmA 0 (0 + 14))) ∧ T16 (True ∧ (toI (vi 0) ≤ 8 ∧ toI (vi 8) < (↑19 : Int)) ∧ vs (ByteArray.mk #[102, 105, 116]) = vs (toS (cellAt nmA 0 (0 + 8))) ∧ T32 (T8 (T4 (T2 (True ∧ 3 ≤ 40 ∧ T2 (1 ≤ 40 ∧ True ∧ 2 ≤ 40 ∧ T8 (T2 (True ∧ 8 ≤ 8 ∧ q7 ∧ 8 ≤ 8 ∧ T32 (T32 (T4 (8 ≤ 8 ∧ q7 ∧ 8 ≤ 8 ∧ T32 (T32 (T32 (T32 (T32 (T32 (T32 (T8 (T2 (((T2 (True)) ∧ True) ∧ ∃ (o : Order2), eqL q13 [order2V o] ∧ InOrder o ∧ FewO o ∧ ((Value.agg #[vz, nS] = Value.agg #[vz, nS] ∧ True) ∧ True) ∧ ((T2 (True)) ∧ True) ∧ ∃ (o_2 : Order2), eqL q13 [order2V o_2] ∧ InOrder o_2 ∧ FewO o_2 ∧ T2 (pIf (decide (bOrder o = bOrder o_2)) (T4 ((True ∧ True) ∧ true = true ∧ Post (Out.ret (vb true)) [])) (T4 ((True ∧ True) ∧ true = true ∧ Post (Out.ret (vb false)) []))))))))))))))))))))))))))))))))))))))))))))) (T8 (T2 (True ∧ 40 ≤ 40 ∧ T4 (True ∧ 40 ≤ 40 ∧ T16 (T8 (T2 ((True ∧ True) ∧ true = true ∧ Post (Out.ret (vb false)) []))))))))))))))))))))))))))))))))))))))))))))))))))))))))))))))))))))))))))))))))))))))))))))))) := by kernel_rfl
theorem spec_awake : SpecX Tryz.prog 9 0 (hpOf []) [] (xpost 0 fun r c => r = .ret (.bool true) ∧ c = []) := by
 refine spec_X (conts := []) callWb_ok mixed (by kernel_rfl) (by kernel_rfl) [] (e_awake _ _) ?_
 repeat' (first
  | exact rfl
  | refine And.intro ?_ ?_
  | refine ⟨⟨⟨#[]⟩, []⟩, ?_, zero_inO, zero_fewO, ?_⟩
  | refine pIf_same ?_
  | trivial
  | exact AllU8.nil
  | refine AllU8.cons ⟨_, rfl⟩ ?_
  | decide
  | kernel_rfl)
def c_awake (args : List Value) (Post : Value → Prop) : Prop := args = [] ∧ Post (.bool true)
theorem ok_awake : EntOk Tryz.prog ⟨9, c_awake⟩ := by
 rintro args Post ⟨rfl, h⟩
 refine B.pure_of_X ?_
 intro W ρ w args' h1 h2 h3
 refine (spec_awake W ρ w args' h1 h2 h3).mono fun e w' ⟨r, hp', nx', ρ', g1, g2⟩ => ⟨r, hp', nx', ρ', ?_, g2⟩
 unfold xpost at g1 ⊢
 split at g1
 ·obtain ⟨k1, rfl, rfl⟩ := g1
  exact ⟨k1, h⟩
 ·exact g1.elim
theorem check_eq (x : Event) : refE x = checkE x := by
 unfold refE checkE
 split
 ·rfl
 rename_i hk
 have hk : 1 ≤ x.kind ∧ x.kind ≤ 18 := Decidable.not_not.1 hk
 split
 ·rfl
 split
 ·rfl
 rename_i hp
 have hp := Decidable.not_not.1 hp
 rw [law_long hk.1 hk.2 hp, law_far hk.1 hk.2 hp]
theorem vol_item (x : Event) : Vol.vol x.item ≤ Vol.vol x := by
 have e : Vol.vol x = 1 + (Vol.vol x.kind + (Vol.vol x.at_ + (Vol.vol x.item + (Vol.vol x.of_ + (Vol.vol x.by_ + (Vol.vol x.n + (Vol.vol x.pass + (Vol.vol x.order + (Vol.vol x.sheet + (Vol.vol x.bar + (Vol.vol x.nest + (Vol.vol x.saw + (Vol.vol x.weig + (Vol.vol x.lift + (Vol.vol x.permit + 0))))))))))))))) := rfl
 omega
theorem GoodEv.item {x : Event} (h : GoodEv x) : x.item.size < 16777000 := by
 have h1 : 1 + x.item.size ≤ 1048576 := Nat.le_trans (vol_item x) h.vol
 omega
theorem few_1k {x : Event} {m : Int} (f : few59 x m) (hm : m ≤ 1000) : Few1k x := by
 obtain ⟨_, f4, f5, f6, _⟩ := f
 exact ⟨by omega, by omega, by omega⟩
structure U16 where
 n : Int
instance : Enc U16 where
 sz := 1
 cells a := [.int .u16 a.n]
 len _ := rfl
 nl p := fun v hv => List.all_eq_true.1 (show ([.int .u16 p.n] : List Value).all nl1 = true from rfl) v hv
instance : Vol U16 := ⟨fun _ => 1, fun _ => Nat.le_refl _⟩
theorem opensB_u16 {P : Program} {w : World} {t : TypeId} (ht : P.underlying t = some (.int .u16)) : OpensB P w t U16 fun a => 0 ≤ a.n ∧ a.n < 65536 := fun H enc base spare held fuel cs x h => by
 obtain ⟨n, rfl, rfl, hw⟩ := DataW.trod_int ht h
 simp [Lit.wf, IntKind.min, IntKind.max, IntKind.signed, IntKind.bits] at hw
 exact ⟨⟨n⟩, ⟨by show 0 ≤ n; omega, by show n < 65536; omega⟩, bulk_pos _, .one (.int _ _)⟩
def callCu : PCall := tabNil Tryz.prog [⟨17, c_rSame⟩] (ofV (tabCall [⟨8, c_Few59⟩, ⟨15, c_renc⟩, ⟨16, c_decE⟩, ⟨9, c_awake⟩] noCall))
theorem callCu_ok : PCallOk Tryz.prog callCu := tabNil_ok (by
 intro e he
 simp only [List.mem_cons, List.not_mem_nil, or_false] at he
 subst he
 exact ok_rSame) (ofV_ok (tabCall_ok (by
 intro e he
 simp only [List.mem_cons, List.not_mem_nil, or_false] at he
 rcases he with rfl | rfl | rfl | rfl
 ·exact ok_few59
 ·exact ok_renc
 ·exact ok_decE
 ·exact ok_awake) noCall_ok))
theorem e_EventCuts (x : Event) (n : Int) (H : HT) (Post : PX) : vcX Tryz.prog callCu 6 [] [] [eventV x, .int .u16 n] H Post = (let t20 := [vs evt0.nest.sheet, vi evt0.nest.gap, tree 5 0 #[], vs evt0.saw.bar, vi evt0.saw.kerf, tree 1 0 #[], vs evt0.weig.block, vi evt0.weig.at_, vi evt0.weig.mass, vi evt0.weig.centre.x, vi evt0.weig.centre.y, vi evt0.weig.centre.z, vi evt0.weig.sigma, tree 1 0 #[], vs evt0.lift.block, tree 4 0 #[], vs evt0.permit.id, vi evt0.permit.kind, vi evt0.permit.time.a, vi evt0.permit.time.b]; let h20 := fun (t : List Value) => vi evt0.kind :: vi evt0.at_ :: vs evt0.item :: vs evt0.of_ :: vs evt0.by_ :: vi evt0.n :: vb false :: vs evt0.order.id :: tree 38 0 #[] :: vs evt0.sheet.id :: vs evt0.sheet.grade :: vi evt0.sheet.thick :: vi evt0.sheet.long :: vi evt0.sheet.width :: vs evt0.sheet.heat :: vs evt0.bar.id :: vs evt0.bar.sect :: vs evt0.bar.grade :: vi evt0.bar.long :: vs evt0.bar.heat :: t; let q4 := True ∧ eqL [] [] ∧ True ∧ (True ∧ True) ∧ true = true ∧ Post (Out.ret (vb true)) []; let q3 := IntKind.wrap IntKind.i64 n; let q2 := (True ∧ True) ∧ true = true ∧ Post (Out.ret (vb false)) []; let q1 := [Value.agg (h20 t20).toArray, Value.agg ([vi 0, vi 0, vz, vz, vz, vi 0, vb false, vz, tree 38 0 #[], vz, vz, vi 0, vi 0, vi 0, vz, vz, vz, vz, vi 0, vz, vz, vi 0, tree 5 0 #[], vz, vi 0, tree 1 0 #[], vz, vi 0, vi 0, vi 0, vi 0, vi 0, vi 0, tree 1 0 #[], vz, tree 4 0 #[], vz, vi 0, vi 0, vi 0]).toArray]; T2 (True ∧ ∃ (x_1 : Event), ∃ (m : Int), eqL [Value.agg (evK x.kind x).toArray, vi 12] [eventV x_1, vi m] ∧ m ≤ 1000 ∧ pIf (decide (few59 x_1 m)) (T2 (∃ (x_2 : Event), eqL [Value.agg (evK x.kind x).toArray] [eventV x_2] ∧ ShortEv x_2 ∧ Few1k x_2 ∧ x_2.item.size < 16777000 ∧ InOrder x_2.order ∧ FewO x_2.order ∧ ByteArray.size (bOrder x_2.order) ≤ 16000000 ∧ (refE x_2 = 0 → 1 ≤ x_2.kind ∧ x_2.kind ≤ 18 ∧ 0 ≤ x_2.at_ ∧ x_2.at_ ≤ 1048576 ∧ FitEv x_2) ∧ T4 (T2 (True ∧ pIf (!decide (Prod.snd (rencR x_2) = 0)) (T2 (eqL [] [] ∧ True ∧ (True ∧ True) ∧ true = true ∧ Post (Out.ret (vb true)) [])) (T4 (pIf (decide ((↑(ByteArray.size (Prod.fst (rencR x_2))) : Int) > 65536)) q4 (T4 (T2 (((↑(ByteArray.size (Prod.fst (rencR x_2))) : Int) = 0 → False) ∧ (0 ≤ Int.tmod q3 (↑(ByteArray.size (Prod.fst (rencR x_2))) : Int) ∧ True ∧ 0 ≤ Int.toNat (Int.tmod q3 (↑(ByteArray.size (Prod.fst (rencR x_2))) : Int)) ∧ Int.toNat (Int.tmod q3 (↑(ByteArray.size (Prod.fst (rencR x_2))) : Int)) ≤ ByteArray.size (Prod.fst (rencR x_2))) ∧ ByteArray.size (ByteArray.extract (Prod.fst (rencR x_2)) 0 (Int.toNat (Int.tmod q3 (↑(ByteArray.size (Prod.fst (rencR x_2))) : Int)))) < 4611686018427387904 ∧ ∃ (e : Nat), rdE (ByteArray.extract (Prod.fst (rencR x_2)) 0 (Int.toNat (Int.tmod q3 (↑(ByteArray.size (Prod.fst (rencR x_2))) : Int)))) = Rs.err e ∧ T4 (40 ≤ 40 ∧ T2 (ByteArray.size (Prod.fst (rencR x_2)) + 1 ≤ 9223372036854775807 ∧ ByteArray.size (Prod.fst (rencR x_2) ++ ByteArray.mk #[0]) < 4611686018427387904 ∧ ∃ (e_1 : Nat), rdE (Prod.fst (rencR x_2) ++ ByteArray.mk #[0]) = Rs.err e_1 ∧ T4 (40 ≤ 40 ∧ T2 (True ∧ pIf (decide (Int.ofNat (e + 1) = 3)) (T2 (True ∧ pIf (decide (Int.ofNat (e_1 + 1) = 4)) (T4 (((T32 (T8 (True))) ∧ (T32 (T8 (True))) ∧ True) ∧ ∃ (a : Event), ∃ (b : Event), eqL q1 [eventV a, eventV b] ∧ ShortEv a ∧ pIf (decide (a = b)) (T4 (((T32 (T8 (True))) ∧ (T32 (T8 (True))) ∧ True) ∧ ∃ (a : Event), ∃ (b : Event), eqL q1 [eventV a, eventV b] ∧ ShortEv a ∧ pIf (decide (a = b)) (T2 (eqL [] [] ∧ T2 ((True ∧ True) ∧ true = true ∧ Post (Out.ret (vb true)) []))) (T4 q2))) (T4 (T2 q2)))) (T8 q2))) (T8 (True ∧ (True ∧ True) ∧ true = true ∧ Post (Out.ret (vb false)) []))))))))))))))) q4)) := by kernel_rfl
theorem order_size12 {x : Event} (hx : GoodEv x) (h1 : few59 x 12) (f : FewO x.order) : (bOrder x.order).size ≤ 16000000 := by
 obtain ⟨⟨_, f2, _⟩, _⟩ := h1
 have hv : volO x.order ≤ 1048576 := Nat.le_trans (volO_le x.order) (Nat.le_trans (vol_order x) hx.vol)
 have hb := bEdits_size f x.order.edits.length
 clear hx
 generalize volO x.order = v at hv hb
 unfold bOrder
 omega
theorem cut_at {n : Int} {k : Nat} (h0 : 0 ≤ n) (h1 : n < 65536) (hk : 0 < k) : 0 ≤ Int.tmod (IntKind.wrap .i64 n) k ∧ (Int.tmod (IntKind.wrap .i64 n) k).toNat < k := by
 have e : IntKind.wrap .i64 n = n := by
  obtain ⟨m, rfl⟩ := Int.eq_ofNat_of_zero_le h0
  exact wrapNat (by omega)
 rw [e]
 have h2 := Int.tmod_lt_of_pos n (show (0 : Int) < k by omega)
 have h3 := Int.tmod_nonneg k h0
 omega
theorem eventCuts_pure (x : Event) (a : U16) (hx : GoodEv x) (ha : 0 ≤ a.n ∧ a.n < 65536) : Pure Tryz.prog 6 [eventV x, .int .u16 a.n] fun v => v = .bool true := by
 refine B.pure_of_X ?_
 refine spec_X (conts := []) callCu_ok mixed (by kernel_rfl) (by kernel_rfl) [] (e_EventCuts x a.n _ _) ?_
 simp only [true_and, and_true]
 refine ⟨x, 12, rfl, by decide, pIf_intro (fun h1 => ?_) (fun _ => ?_)⟩
 case refine_2 => repeat' (first | exact rfl | exact trivial | refine And.intro ?_ ?_)
 have h1 := of_decide_eq_true h1
 have s := few_shortEv h1 (by decide)
 have f := few_fewO hx h1 (by decide)
 have k := few_1k h1 (by decide)
 have hb := order_size12 hx h1 f
 have hg : checkE x = 0 → 1 ≤ x.kind ∧ x.kind ≤ 18 ∧ 0 ≤ x.at_ ∧ x.at_ ≤ 1048576 ∧ FitEv x := fun c => by
  obtain ⟨k1, k2, a1, a2, _, hl, hf⟩ := check0 c
  exact ⟨k1, k2, a1, a2, ⟨(fits_all k1 k2 hl hf).1, (fits_all k1 k2 hl hf).2⟩⟩
 refine ⟨x, rfl, s, k, hx.item, hx.inO, f, hb, fun c => hg (by rw [← check_eq]; exact c), ?_⟩
 have en : rencR x = encR x := by
  unfold rencR encR
  rw [check_eq]
 rw [en]
 refine pIfN (fun hh => ?_) (fun hh => pIfD (fun hk => ?_) (fun hk => ?_))
 ·repeat' (first | exact rfl | exact trivial | refine And.intro ?_ ?_)
 ·repeat' (first | exact rfl | exact trivial | refine And.intro ?_ ?_)
 have c : checkE x = 0 := by
  unfold encR at hh
  split at hh
  ·assumption
  ·exact hh
 have he : encR x = (bEv x, 0) := by unfold encR; rw [if_pos c]
 obtain ⟨k1, k2, a1, a2, hf⟩ := hg c
 rw [he] at hk ⊢
 dsimp only at hk ⊢
 have hsz : (bEv x).size ≤ 65536 := by omega
 have i1 := bInt_pos x.kind
 have hpos : 0 < (bEv x).size := by
  unfold bEv
  simp only [ba_size]
  omega
 have ho : x.kind = 1 → (bOrder x.order).size ≤ 1048576 := fun h1 => by
  have hs : (bBody x x.kind.toNat).size ≤ 65536 := by
   unfold bEv at hsz
   simp only [ba_size] at hsz
   omega
  rw [h1] at hs
  have : bBody x (1 : Int).toNat = bText (bOrder x.order) := rfl
  rw [this] at hs
  unfold bText at hs
  rw [ba_size] at hs
  omega
 obtain ⟨g1, g2⟩ := rdE_cut k1 k2 ⟨a1, a2⟩ hf.fit hf.lists ho
 obtain ⟨c1, c2⟩ := cut_at ha.1 ha.2 hpos
 refine ⟨fun h0 => by omega, ⟨by omega, by omega, by omega⟩, ?_, 2, ext_cut c2 g1, by decide, by omega, ?_, 3, g2 _ (by decide), by decide, ?_⟩
 ·rw [ByteArray.size_extract]
  omega
 ·rw [ba_size]
  have : (⟨#[0]⟩ : ByteArray).size = 1 := rfl
  omega
 have s0 : ShortEv evt0 := by
  refine ⟨⟨?_, ?_⟩, ?_, ?_, ?_, ?_⟩
  all_goals simp [evt0, Short]
 refine pIfD (fun _ => ?_) (fun h0 => absurd rfl h0)
 refine pIfD (fun _ => ?_) (fun h0 => absurd rfl h0)
 repeat' (first
  | exact rfl
  | exact trivial
  | refine pIfD (fun _ => ?_) (fun hh => absurd rfl hh)
  | refine ⟨evt0, evt0, rfl, s0, ?_⟩
  | refine And.intro ?_ ?_)
end Go.Proofs.YtegjnjmimfgijaaGreatDoor
namespace Go.Proofs.YtegjnjmimfgijaaGreatDoor
open Go Go.RowKit Go.ChangeShapes
set_option maxRecDepth 100000
theorem cs_pieces {z : Nat} : ∀ {c : List (List Value)} {cs : List Value}, cs.length = c.length * z → (∀ i p, c[i]? = some p → (cs.drop (i * z)).take z = p) → cs = c.flatten
 | [], cs, hl, _ => by simp at hl; simp [hl]
 | a :: c, cs, hl, h => by
  have h0 := h 0 a rfl
  simp only [Nat.zero_mul, List.drop_zero] at h0
  have ih := cs_pieces (z := z) (c := c) (cs := cs.drop z) (by rw [List.length_drop, hl, List.length_cons, Nat.succ_mul]; omega) fun i p hp => by
   rw [List.drop_drop]
   have := h (i + 1) p (by simpa using hp)
   rwa [Nat.succ_mul, Nat.add_comm] at this
  rw [List.flatten_cons, ← ih, ← h0, List.take_append_drop]
def flat1 : DataW Unit → List Value
 | .lit (.string b) => [.string ⟨b.toArray⟩]
 | .lit (.int k n) => [.int k n]
 | _ => []
def flat2 : DataW Unit → List Value
 | .agg l => l.flatMap flat1
 | d => flat1 d
section
variable {enc : TypeId × Value → Unit} {P : Program} {w : World} {base : Nat} {spare : Nat → Bool} {held : Bool} {fuel : Nat} {t e : TypeId} {cs : List Value} {x : DataW Unit × List MemPlace}
theorem flat_string (ht : P.underlying t = some .string) (h : DataW.trod enc P w base spare held fuel t cs = some x) : cs = flat1 x.1 := by
 obtain ⟨s, rfl, rfl, _⟩ := DataW.trod_string ht h
 simp [flat1]
theorem flat_int {k : IntKind} (ht : P.underlying t = some (.int k)) (h : DataW.trod enc P w base spare held fuel t cs = some x) : cs = flat1 x.1 := by
 obtain ⟨s, rfl, rfl, _⟩ := DataW.trod_int ht h
 rfl
theorem flat_array {n : Nat} {F : DataW Unit → List Value} (ht : P.underlying t = some (.array n e)) (hz : P.cellsOf t = n * P.cellsOf e) (h : DataW.trod enc P w base spare held fuel t cs = some x)
  (hF : ∀ fuel cs x, DataW.trod enc P w base spare held fuel e cs = some x → cs = F x.1) : ∃ l, x.1 = .agg l ∧ cs = (l.map F).flatten := by
 obtain ⟨xs, m, _, rfl, hl, hxl, hi⟩ := DataW.trod_array ht h
 refine ⟨_, rfl, cs_pieces (z := P.cellsOf e) (by rw [List.length_map, List.length_map, hxl, hl, hz]) fun i p hp => ?_⟩
 rw [List.getElem?_map, List.getElem?_map] at hp
 cases hx : xs[i]? with
 | none => rw [hx] at hp; cases hp
 | some y =>
  rw [hx] at hp
  simp only [Option.map_some, Option.some.injEq] at hp
  subst hp
  have hin : i < n := by
   rw [← hxl]
   rcases Nat.lt_or_ge i xs.length with h' | h'
   ·exact h'
   ·rw [List.getElem?_eq_none h'] at hx; cases hx
  exact hF _ _ _ ((hi i hin).trans hx)
theorem flat_pair {f0 f1 : Field} (ht : P.underlying t = some (.struct #[f0, f1])) (hz : P.cellsOf t = 2) (h0 : f0.offset = 0) (h1 : f1.offset = 1) (c0 : P.cellsOf f0.type = 1) (c1 : P.cellsOf f1.type = 1) {k : IntKind}
  (u0 : P.underlying f0.type = some (.int k)) (u1 : P.underlying f1.type = some (.int k)) (h : DataW.trod enc P w base spare held fuel t cs = some x) : cs = flat2 x.1 := by
 obtain ⟨y0, y1, n, rfl, hl, g0, g1⟩ := trod_struct2 ht h
 rw [h0, c0] at g0
 rw [h1, c1] at g1
 have e0 := flat_int u0 g0
 have e1 := flat_int u1 g1
 match cs, hl.trans hz with
 | [a, b], _ =>
  simp at e0 e1
  show [a, b] = [y0.1, y1.1].flatMap flat1
  simp [← e0, ← e1]
end
theorem glob_laid {W : World} (h : laidMetH Tryz.prog Rows.eventSamesRow.laid W) : ∀ g cs, glob g = some cs → ∃ t fz, W.heap[g]? = some (.cells cs t fz) := by
 rw [MakeChecks.laidMetH_plain _ _ _ (by kernel_rfl)] at h
 obtain ⟨ps, ⟨g, t, cs, fuel, p, q, hg, ht, hv, htr, ⟨g', t', cs', fuel', p', q', hg', ht', hv', htr', _⟩, _⟩, _, _⟩ := h
 have heap : ∀ {n : String} {g : Nat} {cs : Array Value}, Tryz.prog.globalNamed n = some g → W.var? Tryz.prog n = some cs → ∃ t fz, W.heap[g]? = some (.cells cs t fz) := fun {n g cs} hg hv => by
  simp only [World.var?, hg, Option.bind_some] at hv
  split at hv
  ·rename_i c t fz hh
   cases hv
   exact ⟨t, fz, hh⟩
  ·cases hv
 obtain rfl : 3 = g := Option.some.inj ((show Tryz.prog.globalNamed "unicode/utf8.acceptRanges" = some 3 by kernel_rfl).symm.trans hg)
 obtain rfl : 0 = g' := Option.some.inj ((show Tryz.prog.globalNamed "shipyard/event.names" = some 0 by kernel_rfl).symm.trans hg')
 obtain rfl : 195 = t := Option.some.inj ((show (Tryz.prog.globals[3]?).map (·.type) = some 195 by kernel_rfl).symm.trans ht)
 obtain rfl : 73 = t' := Option.some.inj ((show (Tryz.prog.globals[0]?).map (·.type) = some 73 by kernel_rfl).symm.trans ht')
 obtain ⟨l, hl, hc⟩ := flat_array (F := flat2) Tryz.underlying195 (by kernel_rfl) htr fun fuel cs x hx => flat_pair Tryz.underlying194 (by kernel_rfl) rfl rfl (by kernel_rfl) (by kernel_rfl) Tryz.underlying5 Tryz.underlying5 hx
 obtain ⟨l', hl', hc'⟩ := flat_array (F := flat1) Tryz.underlying73 (by kernel_rfl) htr' fun fuel cs x hx => flat_string Tryz.underlying9 hx
 cases hl
 cases hl'
 intro k c hk
 unfold glob at hk
 cases h0 : k.beq 0 with
 | true =>
  rw [h0, cond_true] at hk
  obtain rfl := Nat.eq_of_beq_eq_true h0
  cases hk
  have := heap hg' hv'
  rwa [show cs' = _ from Array.toList_inj.1 (hc'.trans (by kernel_rfl))] at this
 | false =>
  rw [h0, cond_false] at hk
  cases h1 : k.beq 3 with
  | false => rw [h1] at hk; cases hk
  | true =>
   rw [h1, cond_true] at hk
   obtain rfl := Nat.eq_of_beq_eq_true h1
   cases hk
   have := heap hg hv
   rwa [show cs = _ from Array.toList_inj.1 (hc.trans (by kernel_rfl))] at this
end Go.Proofs.YtegjnjmimfgijaaGreatDoor

namespace Go.Proofs.YtegjnjmimfgijaaGreatDoor
open Go Go.RowKit Go.ChangeShapes Go.WideShapes Go.ChangeAt Go.Deep Go.Joins
theorem Tryz.own : ownKnob Tryz.prog.godebug = none := by kernel_rfl
theorem Tryz.laidOut : laidOutB Tryz.prog = true := by kernel_rfl
theorem trodAll_stays {H : Type} {enc : TypeId × Value → H} {P : Program} {W W' : World} {sp' : Nat → Bool} (hl : laidOutB P = true) : ∀ {ts : List TypeId} {vs : List Value} {ds : List (DataW H)} {ps : List MemPlace},
  (ts.all fun t => P.readableRec t && decide (t < P.types.size)) = true → DataW.TrodAll enc P W 0 (fun _ => true) true ts vs ds ps → (∀ p ∈ ps, W.sameAt W' p) → (∀ p ∈ ps, sp' p.block = true) →
  DataW.TrodAll enc P W' 0 sp' true ts vs ds ps := by
 intro ts
 induction ts with
 | nil =>
  intro vs ds ps _ h _ _
  obtain ⟨rfl, rfl, rfl⟩ := trodAll_nil h
  exact trodAll_mk0
 | cons t ts ih =>
  intro vs ds ps hr h hs hp
  obtain ⟨v, vs', d, ds', p, q, rfl, rfl, rfl, hd, hrest⟩ := trodAll_cons h
  simp only [List.all_cons, Bool.and_eq_true, decide_eq_true_eq] at hr
  exact trodAll_cons_mk (WideElems.Trod_stays hl hr.1.1 hr.1.2 hd (fun x hx => hs x (by simp [hx])) (fun x hx => hp x (by simp [hx])))
   (ih hr.2 hrest (fun x hx => hs x (by simp [hx])) (fun x hx => hp x (by simp [hx])))
end Go.Proofs.YtegjnjmimfgijaaGreatDoor

