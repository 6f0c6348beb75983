/-
  Put together out of several texts, each in its own namespace's block. Conditions: as each theorem states them.
-/
import Derived.Test.YtngginofamlkkaaGreatDoorQPta
import Derived.Test.YtngginofamlkkaaGreatDoorQSl
import Derived.Test.YtngginofamlkkaaGreatDoorQPwc
import Derived.Test.YtngginofamlkkaaGreatDoorRows
import Derived.Test.YtngginofamlkkaaGreatDoorChecked
import Derived.Test.YtngginofamlkkaaGreatDoorQEva
import Derived.MakeChecks
import Derived.OpenShut
import Derived.ChangeBears2
noncomputable section
namespace Go.Proofs.YtngginofamlkkaaGreatDoor
open Go Go.RowKit
set_option maxRecDepth 100000
set_option maxHeartbeats 8000000
def totW (ws : List Wt) : Wt := ⟨(ws.map (fldW 0)).sum, (ws.map (fldW 1)).sum, (ws.map (fldW 2)).sum, (ws.map (fldW 3)).sum, (ws.map (fldW 4)).sum⟩
def sumW (ws : List Wt) : Wt := if okWt (totW ws) then totW ws else wt0
def sumWE (ws : List Wt) : Int := if okWt (totW ws) then 0 else 21
def c_wsum (args : List Value) (Post : Value → Prop) : Prop := ∃ ws : List Wt, args = [tree 5 ws.length (encL ws)] ∧ ws.length ≤ 65536 ∧ (∀ w ∈ ws, ∀ i, fits64 (fldW i w)) ∧ Post (.tuple #[wtV (sumW ws), .int .i64 (sumWE ws)])
theorem vcSw_ok : VCallOk Tryz.prog vcSw := inlCall_ok mixed (tabCall_ok (by
 intro e he
 simp only [List.mem_cons, List.not_mem_nil, or_false] at he
 rcases he with rfl | rfl
 ·exact ok_total
 ·exact ok_wchk) noCall_ok) 2
theorem ok_wsum : EntOk Tryz.prog ⟨107, c_wsum⟩ := by
 rintro args Post ⟨ws, rfl, hl, hx, h⟩
 refine pure_P vcSw_ok mixed (by kernel_rfl) (by kernel_rfl) _ (e_wsum ws.length (encL ws) _ _) ?_
 have le1 : (1 ≤ 5) = True := eq_true (by decide)
 have le2 : (2 ≤ 5) = True := eq_true (by decide)
 have le3 : (3 ≤ 5) = True := eq_true (by decide)
 have le4 : (4 ≤ 5) = True := eq_true (by decide)
 simp only [true_and, and_true, Nat.le_refl, le1, le2, le3, le4]
 have bad : ¬ okWt (totW ws) → Post (.tuple #[.agg #[.int .i64 0, .int .i64 0, .int .i64 0, .int .i64 0, .int .i64 0], .int .i64 21]) := fun hn => by
  unfold sumW sumWE at h
  rw [if_neg hn, if_neg hn] at h
  exact h
 have f0 : okWt (totW ws) → fits64 (ws.map (fldW 0)).sum := fun hk => by unfold okWt totW at hk; unfold fits64; dsimp only at hk; omega
 have f1 : okWt (totW ws) → fits64 (ws.map (fldW 1)).sum := fun hk => by unfold okWt totW at hk; unfold fits64; dsimp only at hk; omega
 have f2 : okWt (totW ws) → fits64 (ws.map (fldW 2)).sum := fun hk => by unfold okWt totW at hk; unfold fits64; dsimp only at hk; omega
 have f3 : okWt (totW ws) → fits64 (ws.map (fldW 3)).sum := fun hk => by unfold okWt totW at hk; unfold fits64; dsimp only at hk; omega
 have f4 : okWt (totW ws) → fits64 (ws.map (fldW 4)).sum := fun hk => by unfold okWt totW at hk; unfold fits64; dsimp only at hk; omega
 have h0 : ∀ w ∈ ws, fits64 (fldW 0 w) := fun w hw => hx w hw 0
 have h1 : ∀ w ∈ ws, fits64 (fldW 1 w) := fun w hw => hx w hw 1
 have h2 : ∀ w ∈ ws, fits64 (fldW 2 w) := fun w hw => hx w hw 2
 have h3 : ∀ w ∈ ws, fits64 (fldW 3 w) := fun w hw => hx w hw 3
 have h4 : ∀ w ∈ ws, fits64 (fldW 4 w) := fun w hw => hx w hw 4
 refine ⟨ws, 0, by decide, rfl, hl, h0, ifD (fun g0 => ?_) (fun n0 => ?_)⟩
 ·refine ⟨ws, 1, by decide, rfl, hl, h1, ifD (fun g1 => ?_) (fun n1 => ?_)⟩
  ·refine ⟨ws, 2, by decide, rfl, hl, h2, ifD (fun g2 => ?_) (fun n2 => ?_)⟩
   ·refine ⟨ws, 3, by decide, rfl, hl, h3, ifD (fun g3 => ?_) (fun n3 => ?_)⟩
    ·refine ⟨ws, 4, by decide, rfl, hl, h4, ifD (fun g4 => ?_) (fun n4 => bad fun hk => n4 (f4 hk))⟩
     refine ⟨⟨sumV (ws.map (fldW 0)), sumV (ws.map (fldW 1)), sumV (ws.map (fldW 2)), sumV (ws.map (fldW 3)), sumV (ws.map (fldW 4))⟩, rfl, ?_⟩
     rw [(sum_good g0).1, (sum_good g1).1, (sum_good g2).1, (sum_good g3).1, (sum_good g4).1]
     have e : (⟨(ws.map (fldW 0)).sum, (ws.map (fldW 1)).sum, (ws.map (fldW 2)).sum, (ws.map (fldW 3)).sum, (ws.map (fldW 4)).sum⟩ : Wt) = totW ws := rfl
     rw [e]
     refine ifN (fun hn => bad fun hk => hn (by unfold wErr; rw [if_pos hk])) (fun he => ?_)
     by_cases hk : okWt (totW ws)
     ·unfold sumW sumWE at h
      rw [if_pos hk, if_pos hk] at h
      exact h
     ·unfold wErr at he
      rw [if_neg hk] at he
      exact absurd he (by decide)
    ·have hb := bad fun hk => n3 (f3 hk)
     exact ⟨ws, 4, by decide, rfl, hl, h4, ifD (fun _ => hb) (fun _ => hb)⟩
   ·have hb := bad fun hk => n2 (f2 hk)
    refine ⟨ws, 3, by decide, rfl, hl, h3, ifD (fun _ => ?_) (fun _ => ?_)⟩
    all_goals exact ⟨ws, 4, by decide, rfl, hl, h4, ifD (fun _ => hb) (fun _ => hb)⟩
  ·have hb := bad fun hk => n1 (f1 hk)
   refine ⟨ws, 2, by decide, rfl, hl, h2, ifD (fun _ => ?_) (fun _ => ?_)⟩
   all_goals refine ⟨ws, 3, by decide, rfl, hl, h3, ifD (fun _ => ?_) (fun _ => ?_)⟩
   all_goals exact ⟨ws, 4, by decide, rfl, hl, h4, ifD (fun _ => hb) (fun _ => hb)⟩
 ·have hb := bad fun hk => n0 (f0 hk)
  refine ⟨ws, 1, by decide, rfl, hl, h1, ifD (fun _ => ?_) (fun _ => ?_)⟩
  all_goals refine ⟨ws, 2, by decide, rfl, hl, h2, ifD (fun _ => ?_) (fun _ => ?_)⟩
  all_goals refine ⟨ws, 3, by decide, rfl, hl, h3, ifD (fun _ => ?_) (fun _ => ?_)⟩
  all_goals exact ⟨ws, 4, by decide, rfl, hl, h4, ifD (fun _ => hb) (fun _ => hb)⟩
abbrev zeroW : List Value := [.int .i64 0, .int .i64 0, .int .i64 0, .int .i64 0, .int .i64 0]
abbrev trS (l : List ByteArray) : Value := tree 1 l.length (encL l)
def vcOf : VCall := tabCallF Tryz.prog [⟨106, c_spart⟩, ⟨22, c_Weight⟩, ⟨107, c_wsum⟩] noCall
abbrev lpOf : List (Nat × List Nat) := [(3, [3, 4, 6, 8, 21, 22, 23]), (12, [4, 6, 13, 1044, 45, 46])]
theorem e_of (d : Design6) (m : Mats) (n : Nat) (A : Array Value) (H : HT) (Post : PV) : vcP Tryz.prog vcOf 40 lpOf [design6V d, matsV m, tree 1 n A] H Post = (T4 (T2 ((toI (vi 0) ≤ 0 ∧ 0 ≤ (↑n : Int) ∧ (↑n : Int) ≤ 2 ^ 25) ∧ T4 (True ∧ (T2 (True ∧ NLs [] ∧ True)) ∧ H (lpC Tryz.prog 40 3) (lpK Tryz.prog 40 3) (stV [(3, some (pt 0)), (4, some (pt 1)), (6, some (pt 2)), (8, some (Value.slice (some (Addr.mk 3 0 none)) 0 18)), (21, some (tree 1 n A)), (22, some (vi (↑n : Int))), (23, some (vi 0))] [(0, some (AObj.cells [vs (Design6.hull d), tree 3 (List.length (Design6.nodes d)) (encL (Design6.nodes d)), tree 18 (List.length (Design6.parts d)) (encL (Design6.parts d)), tree 6 (List.length (Design6.seams d)) (encL (Design6.seams d)), tree 5 (List.length (Design6.packs d)) (encL (Design6.packs d)), tree 3 (List.length (Design6.needs d)) (encL (Design6.needs d))] true)), (1, some (AObj.cells [tree 4 (List.length (Mats.grades m)) (encL (Mats.grades m)), tree 4 (List.length (Mats.sects m)) (encL (Mats.sects m))] true)), (2, some (AObj.cells [vi 0, vi 0, vi 0, vi 0, vi 0] true)), (3, some (AObj.cells [] true))] 4))))) := by kernel_rfl
theorem l_of (d : Design6) (m : Mats) (n j : Nat) (k : Int) (l : List Value) (A : Array Value) (H : HT) (Post : PV) : vcLP Tryz.prog vcOf 40 [design6V d, matsV m, tree 1 n A] lpOf 3 (stV [(3, some (.pointer (some ⟨0, 0, none⟩))), (4, some (.pointer (some ⟨1, 0, none⟩))), (6, some (.pointer (some ⟨2, 0, none⟩))), (8, some (.slice (some ⟨3, 0, none⟩) j 18)), (21, some (tree 1 n A)), (22, some (.int .i64 n)), (23, some (.int .i64 k))] [(0, some (.cells (design6C d) true)), (1, some (.cells (matsC m) true)), (2, some (.cells zeroW true)), (3, some (.cells l true))] 4) H Post = (let q1 := AObj.cells [tree 4 (List.length (Mats.grades m)) (encL (Mats.grades m)), tree 4 (List.length (Mats.sects m)) (encL (Mats.sects m))] true; True ∧ pIf (decide (k < (↑n : Int))) ((0 ≤ k ∧ k < (↑n : Int)) ∧ cellAt A (Int.toNat k) 0 = vs (toS (cellAt A (Int.toNat k) 0)) ∧ T2 (True ∧ ((T4 (T2 (True))) ∧ True ∧ True) ∧ ∃ (d_1 : Design6), ∃ (s : ByteArray), eqL [Value.agg #[vs (Design6.hull d), tree 3 (List.length (Design6.nodes d)) (encL (Design6.nodes d)), tree 18 (List.length (Design6.parts d)) (encL (Design6.parts d)), tree 6 (List.length (Design6.seams d)) (encL (Design6.seams d)), tree 5 (List.length (Design6.packs d)) (encL (Design6.packs d)), tree 3 (List.length (Design6.needs d)) (encL (Design6.needs d))], vs (toS (cellAt A (Int.toNat k) 0))] [design6V d_1, vs s] ∧ FitD d_1 ∧ T2 (True ∧ pIf (Option.isSome (partOf d_1 s)) (True ∧ 18 ≤ 18 ∧ T4 (T2 (18 ≤ 18 ∧ j + 1 ≤ 33554432 ∧ true = true ∧ 18 = 18 ∧ 0 + j * 18 = List.length l ∧ T4 ((T2 (True ∧ NLs (l ++ [vs (Part.id (Option.getD (partOf d_1 s) part0)), vi (Part.rev (Option.getD (partOf d_1 s) part0)), vi (Part.kind (Option.getD (partOf d_1 s) part0)), vs (Part.node (Option.getD (partOf d_1 s) part0)), vs (Part.grade (Option.getD (partOf d_1 s) part0)), vi (Part.thick (Option.getD (partOf d_1 s) part0)), tree 2 (List.length (Part.outer (Option.getD (partOf d_1 s) part0))) (encL (Part.outer (Option.getD (partOf d_1 s) part0))), tree 1 (List.length (Part.holes (Option.getD (partOf d_1 s) part0))) (encL (Part.holes (Option.getD (partOf d_1 s) part0))), vs (Part.sect (Option.getD (partOf d_1 s) part0)), vi (Part.long (Option.getD (partOf d_1 s) part0)), vi (Part.mass (Option.getD (partOf d_1 s) part0)), vi (Vec3.x (Part.centre (Option.getD (partOf d_1 s) part0))), vi (Vec3.y (Part.centre (Option.getD (partOf d_1 s) part0))), vi (Vec3.z (Part.centre (Option.getD (partOf d_1 s) part0))), vi (Vec3.x (Part.at_ (Option.getD (partOf d_1 s) part0))), vi (Vec3.y (Part.at_ (Option.getD (partOf d_1 s) part0))), vi (Vec3.z (Part.at_ (Option.getD (partOf d_1 s) part0))), vi (Part.turn (Option.getD (partOf d_1 s) part0))]) ∧ True)) ∧ H (lpC Tryz.prog 40 3) (lpK Tryz.prog 40 3) (stV [(3, some (pt 0)), (4, some (pt 1)), (6, some (pt 2)), (8, some (Value.slice (some (Addr.mk 3 0 none)) (j + 1) 18)), (21, some (tree 1 n A)), (22, some (vi (↑n : Int))), (23, some (vi (IntKind.wrap IntKind.i64 (k + 1))))] [(0, some (AObj.cells [vs (Design6.hull d), tree 3 (List.length (Design6.nodes d)) (encL (Design6.nodes d)), tree 18 (List.length (Design6.parts d)) (encL (Design6.parts d)), tree 6 (List.length (Design6.seams d)) (encL (Design6.seams d)), tree 5 (List.length (Design6.packs d)) (encL (Design6.packs d)), tree 3 (List.length (Design6.needs d)) (encL (Design6.needs d))] true)), (1, some q1), (2, some (AObj.cells [vi 0, vi 0, vi 0, vi 0, vi 0] true)), (3, some (AObj.cells (l ++ [vs (Part.id (Option.getD (partOf d_1 s) part0)), vi (Part.rev (Option.getD (partOf d_1 s) part0)), vi (Part.kind (Option.getD (partOf d_1 s) part0)), vs (Part.node (Option.getD (partOf d_1 s) part0)), vs (Part.grade (Option.getD (partOf d_1 s) part0)), vi (Part.thick (Option.getD (partOf d_1 s) part0)), tree 2 (List.length (Part.outer (Option.getD (partOf d_1 s) part0))) (encL (Part.outer (Option.getD (partOf d_1 s) part0))), tree 1 (List.length (Part.holes (Option.getD (partOf d_1 s) part0))) (encL (Part.holes (Option.getD (partOf d_1 s) part0))), vs (Part.sect (Option.getD (partOf d_1 s) part0)), vi (Part.long (Option.getD (partOf d_1 s) part0)), vi (Part.mass (Option.getD (partOf d_1 s) part0)), vi (Vec3.x (Part.centre (Option.getD (partOf d_1 s) part0))), vi (Vec3.y (Part.centre (Option.getD (partOf d_1 s) part0))), vi (Vec3.z (Part.centre (Option.getD (partOf d_1 s) part0))), vi (Vec3.x (Part.at_ (Option.getD (partOf d_1 s) part0))), vi (Vec3.y (Part.at_ (Option.getD (partOf d_1 s) part0))), vi (Vec3.z (Part.at_ (Option.getD (partOf d_1 s) part0))), vi (Part.turn (Option.getD (partOf d_1 s) part0))]) true))] 4))))) (True ∧ 18 ≤ 18 ∧ T4 (5 ≤ 5 ∧ True ∧ ((T4 (True ∧ True)) ∧ True ∧ True) ∧ Post (Value.tuple #[Value.agg #[vi 0, vi 0, vi 0, vi 0, vi 0], vi 8])))))) (T2 ((toI (vi 0) ≤ 0 ∧ 0 ≤ (↑j : Int) ∧ (↑j : Int) ≤ 2 ^ 25) ∧ T4 (((0 + j * 18 ≤ List.length l ∧ NLs l) ∧ True) ∧ (T2 (NLs [] ∧ True)) ∧ H (lpC Tryz.prog 40 12) (lpK Tryz.prog 40 12) (stV [(4, some (pt 0)), (6, some (pt 1)), (13, some (Value.slice (some (Addr.mk 2 0 none)) 0 5)), (44, some (tree 18 j (chunks 18 j (List.drop 0 l)))), (45, some (vi (↑j : Int))), (46, some (vi 0))] [(0, some q1), (1, some (AObj.cells [vi 0, vi 0, vi 0, vi 0, vi 0] true)), (2, some (AObj.cells [] true))] 3))))) := by kernel_rfl
theorem m_of (d : Design6) (m : Mats) (n q j : Nat) (k : Int) (l : List Value) (A B : Array Value) (H : HT) (Post : PV) : vcLP Tryz.prog vcOf 40 [design6V d, matsV m, tree 1 n A] lpOf 12 (stV [(4, some (.pointer (some ⟨0, 0, none⟩))), (6, some (.pointer (some ⟨1, 0, none⟩))), (13, some (.slice (some ⟨2, 0, none⟩) j 5)), (44, some (tree 18 q B)), (45, some (.int .i64 q)), (46, some (.int .i64 k))] [(0, some (.cells (matsC m) true)), (1, some (.cells zeroW true)), (2, some (.cells l true))] 3) H Post = (True ∧ pIf (decide (k < (↑q : Int))) ((0 ≤ k ∧ k < (↑q : Int)) ∧ (cellAt B (Int.toNat k) 0 = vs (toS (cellAt B (Int.toNat k) 0)) ∧ cellAt B (Int.toNat k) 1 = vi (toI (cellAt B (Int.toNat k) 1)) ∧ cellAt B (Int.toNat k) 2 = vi (toI (cellAt B (Int.toNat k) 2)) ∧ cellAt B (Int.toNat k) 3 = vs (toS (cellAt B (Int.toNat k) 3)) ∧ cellAt B (Int.toNat k) 4 = vs (toS (cellAt B (Int.toNat k) 4)) ∧ cellAt B (Int.toNat k) 5 = vi (toI (cellAt B (Int.toNat k) 5)) ∧ cellAt B (Int.toNat k) 6 = tree 2 (toN (cellAt B (Int.toNat k) 6)) (toE (cellAt B (Int.toNat k) 6)) ∧ cellAt B (Int.toNat k) 7 = tree 1 (toN (cellAt B (Int.toNat k) 7)) (toE (cellAt B (Int.toNat k) 7)) ∧ cellAt B (Int.toNat k) 8 = vs (toS (cellAt B (Int.toNat k) 8)) ∧ cellAt B (Int.toNat k) 9 = vi (toI (cellAt B (Int.toNat k) 9)) ∧ cellAt B (Int.toNat k) 10 = vi (toI (cellAt B (Int.toNat k) 10)) ∧ cellAt B (Int.toNat k) 11 = vi (toI (cellAt B (Int.toNat k) 11)) ∧ cellAt B (Int.toNat k) 12 = vi (toI (cellAt B (Int.toNat k) 12)) ∧ cellAt B (Int.toNat k) 13 = vi (toI (cellAt B (Int.toNat k) 13)) ∧ cellAt B (Int.toNat k) 14 = vi (toI (cellAt B (Int.toNat k) 14)) ∧ cellAt B (Int.toNat k) 15 = vi (toI (cellAt B (Int.toNat k) 15)) ∧ cellAt B (Int.toNat k) 16 = vi (toI (cellAt B (Int.toNat k) 16)) ∧ cellAt B (Int.toNat k) 17 = vi (toI (cellAt B (Int.toNat k) 17)) ∧ True) ∧ True ∧ 18 ≤ 18 ∧ T2 (((T16 (T2 (True))) ∧ (T2 (True)) ∧ True) ∧ ∃ (p : Part), ∃ (m_1 : Mats), eqL [Value.agg #[vs (toS (cellAt B (Int.toNat k) 0)), vi (toI (cellAt B (Int.toNat k) 1)), vi (toI (cellAt B (Int.toNat k) 2)), vs (toS (cellAt B (Int.toNat k) 3)), vs (toS (cellAt B (Int.toNat k) 4)), vi (toI (cellAt B (Int.toNat k) 5)), tree 2 (toN (cellAt B (Int.toNat k) 6)) (toE (cellAt B (Int.toNat k) 6)), tree 1 (toN (cellAt B (Int.toNat k) 7)) (toE (cellAt B (Int.toNat k) 7)), vs (toS (cellAt B (Int.toNat k) 8)), vi (toI (cellAt B (Int.toNat k) 9)), vi (toI (cellAt B (Int.toNat k) 10)), vi (toI (cellAt B (Int.toNat k) 11)), vi (toI (cellAt B (Int.toNat k) 12)), vi (toI (cellAt B (Int.toNat k) 13)), vi (toI (cellAt B (Int.toNat k) 14)), vi (toI (cellAt B (Int.toNat k) 15)), vi (toI (cellAt B (Int.toNat k) 16)), vi (toI (cellAt B (Int.toNat k) 17))], Value.agg #[tree 4 (List.length (Mats.grades m)) (encL (Mats.grades m)), tree 4 (List.length (Mats.sects m)) (encL (Mats.sects m))]] [partV p, matsV m_1] ∧ FitQ p ∧ FewM m_1 ∧ T4 (5 ≤ 5 ∧ T2 (True ∧ pIf (!decide (checkP p m_1 = 0)) (T2 (5 ≤ 5 ∧ True ∧ ((T4 (True ∧ True)) ∧ True ∧ True) ∧ Post (Value.tuple #[Value.agg #[vi 0, vi 0, vi 0, vi 0, vi 0], vi (checkP p m_1)]))) (T2 (True ∧ 5 ≤ 5 ∧ j + 1 ≤ 33554432 ∧ true = true ∧ 5 = 5 ∧ 0 + j * 5 = List.length l ∧ T2 (True ∧ (True ∧ True) ∧ (T2 (NLs (l ++ [vi (Wt.m (weightP p m_1)), vi (Wt.x (weightP p m_1)), vi (Wt.y (weightP p m_1)), vi (Wt.z (weightP p m_1)), vi (Wt.v (weightP p m_1))]) ∧ True)) ∧ H (lpC Tryz.prog 40 12) (lpK Tryz.prog 40 12) (stV [(4, some (pt 0)), (6, some (pt 1)), (13, some (Value.slice (some (Addr.mk 2 0 none)) (j + 1) 5)), (44, some (tree 18 q B)), (45, some (vi (↑q : Int))), (46, some (vi (IntKind.wrap IntKind.i64 (k + 1))))] [(0, some (AObj.cells [tree 4 (List.length (Mats.grades m)) (encL (Mats.grades m)), tree 4 (List.length (Mats.sects m)) (encL (Mats.sects m))] true)), (1, some (AObj.cells [vi 0, vi 0, vi 0, vi 0, vi 0] true)), (2, some (AObj.cells (l ++ [vi (Wt.m (weightP p m_1)), vi (Wt.x (weightP p m_1)), vi (Wt.y (weightP p m_1)), vi (Wt.z (weightP p m_1)), vi (Wt.v (weightP p m_1))]) true))] 3)))))))) (True ∧ ((0 + j * 5 ≤ List.length l ∧ NLs l) ∧ True) ∧ ∃ (ws : List Wt), eqL [tree 5 j (chunks 5 j (List.drop 0 l))] [tree 5 ws.length (encL ws)] ∧ List.length ws ≤ 65536 ∧ (∀ (w : Wt), w ∈ ws → ∀ (i : Nat), -9223372036854775808 ≤ fldW i w ∧ fldW i w < 9223372036854775808) ∧ T2 (5 ≤ 5 ∧ True ∧ ((T4 (True ∧ True)) ∧ True ∧ True) ∧ Post (Value.tuple #[Value.agg #[vi (Wt.m (sumW ws)), vi (Wt.x (sumW ws)), vi (Wt.y (sumW ws)), vi (Wt.z (sumW ws)), vi (Wt.v (sumW ws))], vi (sumWE ws)])))) := by kernel_rfl
def rowE {α : Type} [Enc α] (l : List α) : List Value := l.flatMap Enc.cells
theorem rowE_snoc {α : Type} [Enc α] (l : List α) (a : α) : rowE (l ++ [a]) = rowE l ++ Enc.cells a := by simp [rowE]
theorem rowE_len {α : Type} [Enc α] : ∀ l : List α, (rowE l).length = l.length * Enc.sz α
 | [] => by simp [rowE]
 | a :: l => by
  have := rowE_len l
  unfold rowE at *
  rw [List.flatMap_cons, List.length_append, this, Enc.len, List.length_cons, Nat.succ_mul, Nat.add_comm]
theorem rowE_nls {α : Type} [Enc α] (l : List α) : NLs (rowE l) := by
 intro v hv
 obtain ⟨a, _, ha⟩ := List.mem_flatMap.1 hv
 exact Enc.nl a v ha
theorem chunks_rowE {α : Type} [Enc α] (l : List α) : chunks (Enc.sz α) l.length (rowE l) = encL l := by
 unfold chunks encL
 cases hs : (Enc.sz α).beq 1 with
 | true =>
  have h1 := Nat.eq_of_beq_eq_true hs
  rw [cond_true]
  have : rowE l = l.map fun a => elt (Enc.cells a) := by
   clear hs
   induction l with
   | nil => rfl
   | cons a l ih =>
    unfold rowE at *
    rw [List.flatMap_cons, ih, List.map_cons]
    have := Enc.len a
    rw [h1] at this
    obtain ⟨v, hv⟩ := List.length_eq_one_iff.1 this
    rw [hv]
    rfl
  rw [this, List.take_of_length_le (by rw [List.length_map]; exact Nat.le_refl _)]
 | false =>
  rw [cond_false]
  congr 1
  have hne : Enc.sz α ≠ 1 := fun e => by rw [e] at hs; cases hs
  have helt : ∀ a : α, elt (Enc.cells a) = .agg (Enc.cells a).toArray := fun a => by
   have := Enc.len a
   match h : Enc.cells a with
   | [] => rfl
   | [v] => rw [h] at this; exact absurd this.symm hne
   | _ :: _ :: _ => rfl
  clear hs
  induction l with
  | nil => rfl
  | cons a l ih =>
   rw [List.length_cons, List.range_succ_eq_map, List.map_cons, List.map_cons, List.map_map, ← ih, helt]
   congr 1
   ·unfold rowE
    rw [List.flatMap_cons, Nat.zero_mul, List.drop_zero, List.take_left' (Enc.len a)]
   ·apply List.map_congr_left
    intro i _
    show Value.agg _ = Value.agg _
    congr 3
    unfold rowE
    rw [List.flatMap_cons, show (i + 1) * Enc.sz α = (Enc.cells a).length + i * Enc.sz α by rw [Enc.len, Nat.succ_mul, Nat.add_comm], List.drop_append, List.drop_eq_nil_of_le (Nat.le_add_right _ _), Nat.add_sub_cancel_left, List.nil_append]
def allOf (d : Design6) (l : List ByteArray) : Prop := ∀ s ∈ l, (partOf d s).isSome = true
instance (d : Design6) (l : List ByteArray) : Decidable (allOf d l) := by unfold allOf; infer_instance
def partsOf (d : Design6) (l : List ByteArray) : List Part := l.map fun s => (partOf d s).getD part0
def errP (m : Mats) (ps : List Part) : Int := firstErr (fun i => checkP (ps.getD i part0) m) ps.length
def ofW (d : Design6) (m : Mats) (l : List ByteArray) : Wt := if ¬ allOf d l then wt0 else if errP m (partsOf d l) ≠ 0 then wt0 else sumW ((partsOf d l).map fun p => weightP p m)
def ofE (d : Design6) (m : Mats) (l : List ByteArray) : Int := if ¬ allOf d l then 8 else if errP m (partsOf d l) ≠ 0 then errP m (partsOf d l) else sumWE ((partsOf d l).map fun p => weightP p m)
structure FitO (d : Design6) : Prop extends FitD d where
 fq : ∀ p ∈ d.parts, FitQ p
def c_of (args : List Value) (Post : Value → Prop) : Prop := ∃ (d : Design6) (m : Mats) (l : List ByteArray), args = [design6V d, matsV m, trS l] ∧ FitO d ∧ FewM m ∧ l.length ≤ 65536 ∧ Post (.tuple #[wtV (ofW d m l), .int .i64 (ofE d m l)])
theorem vcOf_ok : VCallOk Tryz.prog vcOf := tabCallF_ok (by
 intro e he
 simp only [List.mem_cons, List.not_mem_nil, or_false] at he
 rcases he with rfl | rfl | rfl
 ·exact ok_spart
 ·exact ok_Weight
 ·exact ok_wsum) noCall_ok
theorem cell_id {l : List ByteArray} {k : Nat} (h : k < l.length) : cellAt (encL l) k 0 = .string l[k] := by
 rw [cellAt_encL' h]
 rfl
theorem part0_fit : FitQ part0 := ⟨by decide, by decide, (fun h hh => by cases hh), by decide⟩
theorem getD_fit {d : Design6} (hf : FitO d) (s : ByteArray) : FitQ ((partOf d s).getD part0) := by
 cases hp : partOf d s with
 | none => exact part0_fit
 | some p => exact hf.fq p (List.mem_of_find?_eq_some hp)
theorem partsOf_len (d : Design6) (l : List ByteArray) : (partsOf d l).length = l.length := List.length_map _
theorem ceil_bd {a : Int} (h0 : 0 ≤ a) (h1 : a ≤ 1099511627776) : 0 ≤ ceilP a 50000 ∧ ceilP a 50000 ≤ 22000000 := by
 unfold ceilP
 obtain ⟨f1, f2⟩ := fdiv_char (a := -a) (b := 50000) (by decide)
 omega
theorem weight_ok {p : Part} {m : Mats} (h : checkP p m = 0) : okWt (weightP p m) := by
 have hm := mass_bd p m
 have hc := centre_in h
 have ha := check_at h
 have ht := turn_inV hc p.turn
 obtain ⟨c0, c1⟩ := ceil_bd hm.1 hm.2
 have hv := mul_bd (a := ceilP (massP p m) 50000) (b := ceilP (massP p m) 50000) (A := 22000000) (B := 22000000) (by omega) (by omega)
 have hv0 := Int.mul_nonneg c0 c0
 unfold weightP
 rw [if_pos h, apply_at ha hc]
 unfold inV at ha ht
 obtain ⟨e1, b1⟩ := mom_no_wrap (a := massP p m) (x := (turnV (centreP p m) p.turn).x + p.at_.x) hm (by omega)
 obtain ⟨e2, b2⟩ := mom_no_wrap (a := massP p m) (x := (turnV (centreP p m) p.turn).y + p.at_.y) hm (by omega)
 obtain ⟨e3, b3⟩ := mom_no_wrap (a := massP p m) (x := (turnV (centreP p m) p.turn).z + p.at_.z) hm (by omega)
 unfold okWt
 dsimp only
 rw [e1, e2, e3, wr64_eq (n := ceilP (massP p m) 50000 * ceilP (massP p m) 50000) (by omega) (by omega)]
 omega
theorem okWt_fits {w : Wt} (h : okWt w) (i : Nat) : fits64 (fldW i w) := by
 unfold okWt at h
 unfold fits64
 rcases i with _ | _ | _ | _ | i
 ·show -9223372036854775808 ≤ w.m ∧ w.m < 9223372036854775808; omega
 ·show -9223372036854775808 ≤ w.x ∧ w.x < 9223372036854775808; omega
 ·show -9223372036854775808 ≤ w.y ∧ w.y < 9223372036854775808; omega
 ·show -9223372036854775808 ≤ w.z ∧ w.z < 9223372036854775808; omega
 ·show -9223372036854775808 ≤ w.v ∧ w.v < 9223372036854775808; omega
theorem errP_zero {m : Mats} {ps : List Part} : errP m ps = 0 ↔ ∀ p ∈ ps, checkP p m = 0 := by
 unfold errP
 rw [firstErr_zero]
 constructor
 ·intro h p hp
  obtain ⟨i, hi, rfl⟩ := List.mem_iff_getElem.1 hp
  have := h i hi
  rwa [getD_at hi] at this
 ·intro h i hi
  rw [getD_at hi]
  exact h _ (List.getElem_mem hi)
theorem ok_of : EntOk Tryz.prog ⟨40, c_of⟩ := by
 rintro args Post ⟨d, m, l, rfl, hf, hm, hl, h⟩
 have nope : ¬ allOf d l → Post (.tuple #[.agg #[.int .i64 0, .int .i64 0, .int .i64 0, .int .i64 0, .int .i64 0], .int .i64 8]) := fun hn => by
  unfold ofW ofE at h
  rw [if_pos hn, if_pos hn] at h
  exact h
 refine pure_P vcOf_ok mixed (by kernel_rfl) (by kernel_rfl) _ (e_of d m l.length (encL l) _ _) ?_
 have p25 : (2 : Int) ^ 25 = 33554432 := by decide
 simp only [true_and, and_true, p25]
 refine ⟨⟨by decide, by omega, by omega⟩, (fun v hv => by cases hv), ?_⟩
 -- the second loop
 have second : allOf d l → OkP 40 [design6V d, matsV m, trS l] 12 Post (stV [(4, some (.pointer (some ⟨0, 0, none⟩))), (6, some (.pointer (some ⟨1, 0, none⟩))), (13, some (.slice (some ⟨2, 0, none⟩) 0 5)), (44, some (tree 18 (partsOf d l).length (encL (partsOf d l)))), (45, some (.int .i64 (partsOf d l).length)), (46, some (.int .i64 0))] [(0, some (.cells (matsC m) true)), (1, some (.cells zeroW true)), (2, some (.cells [] true))] 3) := fun hall => by
  have hp := partsOf_len d l
  unfold ofW ofE at h
  have hna : ¬ ¬ allOf d l := fun hn => hn hall
  rw [if_neg hna, if_neg hna] at h
  have fq : ∀ p ∈ partsOf d l, FitQ p := fun p hp => by
   obtain ⟨s, _, rfl⟩ := List.mem_map.1 hp
   exact getD_fit hf s
  generalize partsOf d l = ps at *
  have e0 : ([] : List Value) = rowE ((ps.take 0).map fun p => weightP p m) := rfl
  have key : ∀ j : Nat, j = ((ps.take 0).map fun p => weightP p m).length → OkP 40 [design6V d, matsV m, trS l] 12 Post (stV [(4, some (.pointer (some ⟨0, 0, none⟩))), (6, some (.pointer (some ⟨1, 0, none⟩))), (13, some (.slice (some ⟨2, 0, none⟩) j 5)), (44, some (tree 18 ps.length (encL ps))), (45, some (.int .i64 ps.length)), (46, some (.int .i64 ((0 : Nat) : Int)))] [(0, some (.cells (matsC m) true)), (1, some (.cells zeroW true)), (2, some (.cells (rowE ((ps.take 0).map fun p => weightP p m)) true))] 3) := by
   refine down (n := ps.length) (p := fun k => (∀ i, i < k → checkP (ps.getD i part0) m = 0) → ∀ j : Nat, j = ((ps.take k).map fun p => weightP p m).length → OkP 40 [design6V d, matsV m, trS l] 12 Post (stV [(4, some (.pointer (some ⟨0, 0, none⟩))), (6, some (.pointer (some ⟨1, 0, none⟩))), (13, some (.slice (some ⟨2, 0, none⟩) j 5)), (44, some (tree 18 ps.length (encL ps))), (45, some (.int .i64 ps.length)), (46, some (.int .i64 k))] [(0, some (.cells (matsC m) true)), (1, some (.cells zeroW true)), (2, some (.cells (rowE ((ps.take k).map fun p => weightP p m)) true))] 3)) (fun hok j hj => ?_) (fun k k1 ih hok j hj => ?_) (fun i hi => by omega)
   ·refine ok_P vcOf_ok mixed _ (m_of d m l.length ps.length j ps.length _ (encL l) (encL ps) _ _) ?_
    rw [List.take_length] at hj ⊢
    have ez : errP m ps = 0 := firstErr_zero.2 hok
    have hne : ¬ errP m ps ≠ 0 := fun hn => hn ez
    rw [if_neg hne, if_neg hne] at h
    have hlen := rowE_len (ps.map fun p => weightP p m)
    have hsz : Enc.sz Wt = 5 := rfl
    rw [hsz, ← hj] at hlen
    simp only [true_and, and_true, Nat.le_refl]
    refine ifD (fun hlt => by omega) (fun _ => ⟨⟨by omega, rowE_nls _⟩, ps.map (fun p => weightP p m), ?_, ?_, fun w hw i => ?_, h⟩)
    ·rw [List.drop_zero, hj]
     have := chunks_rowE (ps.map fun p => weightP p m)
     rw [hsz] at this
     rw [this]
    ·rw [List.length_map]; omega
    ·obtain ⟨p, hp2, rfl⟩ := List.mem_map.1 hw
     exact okWt_fits (weight_ok (errP_zero.1 ez p hp2)) i
   ·refine ok_P vcOf_ok mixed _ (m_of d m l.length ps.length j k _ (encL l) (encL ps) _ _) ?_
    have hk : ((k : Nat) : Int).toNat = k := Int.toNat_natCast k
    have hfq := fq _ (List.getElem_mem k1)
    have gd : ps.getD k part0 = ps[k] := getD_at k1
    have hbad : checkP ps[k] m ≠ 0 → Post (.tuple #[.agg #[.int .i64 0, .int .i64 0, .int .i64 0, .int .i64 0, .int .i64 0], .int .i64 (checkP ps[k] m)]) := fun hne => by
     have e : errP m ps = checkP ps[k] m := by
      unfold errP
      rw [firstErr_at k1 hok (by rw [gd]; exact hne), gd]
     have hnz : errP m ps ≠ 0 := by rw [e]; exact hne
     rw [if_pos hnz, if_pos hnz, e] at h
     exact h
    have hnext := fun hz : checkP ps[k] m = 0 => ih (fun i hi => by
     rcases Nat.lt_or_ge i k with h' | h'
     ·exact hok i h'
     ·rw [show i = k by omega, gd]; exact hz) (j + 1) (by
     rw [hj, List.length_map, List.length_map, List.length_take, List.length_take]
     omega)
    have et : rowE ((ps.take (k + 1)).map fun p => weightP p m) = rowE ((ps.take k).map fun p => weightP p m) ++ Enc.cells (weightP ps[k] m) := by
     rw [List.take_add_one, List.getElem?_eq_getElem k1, List.map_append]
     exact rowE_snoc _ _
    have hlen := rowE_len ((ps.take k).map fun p => weightP p m)
    have hsz : Enc.sz Wt = 5 := rfl
    rw [hsz, ← hj] at hlen
    have hnls := rowE_nls ((ps.take (k + 1)).map fun p => weightP p m)
    rw [et] at hnls hnext
    have hjl : j ≤ 65536 := by
     rw [hj, List.length_map, List.length_take]
     omega
    simp only [hk, cell_part k1]
    clear ih hok h et
    generalize ps[k] = p at *
    simp only [partC, toI_int, toS_string, toN_tree, toE_tree, true_and, and_true, Nat.le_refl, wrapSucc (show k < 2 ^ 62 by omega), List.getElem?_cons_zero, List.getElem?_cons_succ, Option.getD_some]
    exact ifD (fun _ => ⟨⟨by omega, by omega⟩, p, m, rfl, hfq, hm, ifN (fun hne => hbad hne) (fun hz => ⟨by omega, by omega, hnls, hnext hz⟩)⟩) (fun h' => by omega)
  exact key 0 rfl
 -- the first loop
 have key : ∀ j : Nat, j = (partsOf d (l.take 0)).length → OkP 40 [design6V d, matsV m, trS l] 3 Post (stV [(3, some (.pointer (some ⟨0, 0, none⟩))), (4, some (.pointer (some ⟨1, 0, none⟩))), (6, some (.pointer (some ⟨2, 0, none⟩))), (8, some (.slice (some ⟨3, 0, none⟩) j 18)), (21, some (trS l)), (22, some (.int .i64 l.length)), (23, some (.int .i64 ((0 : Nat) : Int)))] [(0, some (.cells (design6C d) true)), (1, some (.cells (matsC m) true)), (2, some (.cells zeroW true)), (3, some (.cells (rowE (partsOf d (l.take 0))) true))] 4) := by
  refine down (n := l.length) (p := fun k => allOf d (l.take k) → ∀ j : Nat, j = (partsOf d (l.take k)).length → OkP 40 [design6V d, matsV m, trS l] 3 Post (stV [(3, some (.pointer (some ⟨0, 0, none⟩))), (4, some (.pointer (some ⟨1, 0, none⟩))), (6, some (.pointer (some ⟨2, 0, none⟩))), (8, some (.slice (some ⟨3, 0, none⟩) j 18)), (21, some (trS l)), (22, some (.int .i64 l.length)), (23, some (.int .i64 k))] [(0, some (.cells (design6C d) true)), (1, some (.cells (matsC m) true)), (2, some (.cells zeroW true)), (3, some (.cells (rowE (partsOf d (l.take k))) true))] 4)) (fun hall j hj => ?_) (fun k k1 ih hall j hj => ?_) (fun s hs => by simp at hs)
  ·refine ok_P vcOf_ok mixed _ (l_of d m l.length j l.length _ (encL l) _ _) ?_
   rw [List.take_length] at hall hj ⊢
   have hlen := rowE_len (partsOf d l)
   have hsz : Enc.sz Part = 18 := rfl
   rw [hsz, ← hj] at hlen
   have hj2 := hj
   rw [partsOf_len] at hj2
   simp only [true_and, and_true, p25]
   refine ifD (fun hlt => by omega) (fun _ => ⟨⟨by decide, by omega, by omega⟩, ⟨by omega, rowE_nls _⟩, (fun v hv => by cases hv), ?_⟩)
   have := chunks_rowE (partsOf d l)
   rw [hsz, ← hj] at this
   rw [List.drop_zero, this, hj]
   exact second hall
  ·refine ok_P vcOf_ok mixed _ (l_of d m l.length j k _ (encL l) _ _) ?_
   have hk : ((k : Nat) : Int).toNat = k := Int.toNat_natCast k
   have tk : l.take (k + 1) = l.take k ++ [l[k]] := by
    rw [List.take_add_one, List.getElem?_eq_getElem k1]
    rfl
   have hj2 := hj
   rw [partsOf_len, List.length_take] at hj2
   have et : rowE (partsOf d (l.take (k + 1))) = rowE (partsOf d (l.take k)) ++ Enc.cells ((partOf d l[k]).getD part0) := by
    rw [tk]
    unfold partsOf
    rw [List.map_append]
    exact rowE_snoc _ _
   have hlen := rowE_len (partsOf d (l.take k))
   have hsz : Enc.sz Part = 18 := rfl
   rw [hsz, ← hj] at hlen
   have hnls := rowE_nls (partsOf d (l.take (k + 1)))
   have hnext := fun hs : (partOf d l[k]).isSome = true => ih (by
    rw [tk]
    intro s hs2
    rcases List.mem_append.1 hs2 with h' | h'
    ·exact hall s h'
    ·simp at h'
     rw [h']
     exact hs) (j + 1) (by rw [partsOf_len, List.length_take]; omega)
   rw [et] at hnls hnext
   simp only [true_and, and_true, Nat.le_refl, hk, cell_id k1, toS_string, wrapSucc (show k < 2 ^ 62 by omega)]
   refine ifD (fun _ => ⟨⟨by omega, by omega⟩, d, l[k], rfl, hf.toFitD, pIf_intro (fun hs => ⟨by omega, by omega, hnls, hnext hs⟩) (fun hs => nope fun hn => ?_)⟩) (fun h' => by omega)
   have := hn _ (List.getElem_mem k1)
   rw [hs] at this
   cases this
 exact key 0 rfl
theorem awake_yields : yields Tryz.prog 300 39 = true := by kernel_rfl
def c_awake (args : List Value) (Post : Value → Prop) : Prop := args = [] ∧ Post (.bool true)
theorem ok_awake : EntOk Tryz.prog ⟨39, c_awake⟩ := pure_yields mixed awake_yields
def few17 (d : Design6) (n : Int) : Prop := (d.nodes.length : Int) ≤ n ∧ (d.parts.length : Int) ≤ n ∧ (d.seams.length : Int) ≤ n ∧ (d.packs.length : Int) ≤ n ∧ (d.needs.length : Int) ≤ n ∧ ∀ p ∈ d.packs, (p.parts.length : Int) ≤ n ∧ (p.after.length : Int) ≤ n
instance (d : Design6) (n : Int) : Decidable (few17 d n) := by unfold few17; infer_instance
def c_few17 (args : List Value) (Post : Value → Prop) : Prop := ∃ (d : Design6) (n : Int), args = [design6V d, .int .i64 n] ∧ n ≤ 1000 ∧ Post (.bool (decide (few17 d n)))
theorem e_few17 (d : Design6) (n : Int) (H : HT) (Post : PV) : vcP Tryz.prog noCall 38 [(4, [1, 2, 5])] [design6V d, .int .i64 n] H Post = (T4 (T2 (True ∧ pIf (decide ((↑(List.length (Design6.nodes d)) : Int) > n)) (T8 (T2 (Post (vb false)))) (T4 (T2 (pIf (decide ((↑(List.length (Design6.parts d)) : Int) > n)) (T8 (True ∧ Post (vb false))) (T4 (T2 (True ∧ pIf (decide ((↑(List.length (Design6.seams d)) : Int) > n)) (T4 (T2 (True ∧ Post (vb false)))) (T4 (T2 (True ∧ pIf (decide ((↑(List.length (Design6.packs d)) : Int) > n)) (T4 (True ∧ Post (vb false))) (T4 (T2 (True ∧ pIf (decide ((↑(List.length (Design6.needs d)) : Int) > n)) (T2 (True ∧ Post (vb false))) (T2 (True ∧ (True ∧ True) ∧ H (lpC Tryz.prog 38 4) (lpK Tryz.prog 38 4) (stV [(1, some (vi n)), (2, some (pt 0)), (5, some (vi 0))] [(0, some (AObj.cells [vs (Design6.hull d), tree 3 (List.length (Design6.nodes d)) (encL (Design6.nodes d)), tree 18 (List.length (Design6.parts d)) (encL (Design6.parts d)), tree 6 (List.length (Design6.seams d)) (encL (Design6.seams d)), tree 5 (List.length (Design6.packs d)) (encL (Design6.packs d)), tree 3 (List.length (Design6.needs d)) (encL (Design6.needs d))] true))] 1)))))))))))))))))) := by kernel_rfl
theorem l_few17 (d : Design6) (n k : Int) (H : HT) (Post : PV) : vcLP Tryz.prog noCall 38 [design6V d, .int .i64 n] [(4, [1, 2, 5])] 4 (stV [(1, some (.int .i64 n)), (2, some (.pointer (some ⟨0, 0, none⟩))), (5, some (.int .i64 k))] [(0, some (.cells (design6C d) true))] 1) H Post = (let q2 := List.length (Design6.packs d); let q1 := encL (Design6.packs d); T4 (True ∧ pIf (decide (k < (↑q2 : Int))) (T2 (True ∧ (0 ≤ k ∧ k < (↑q2 : Int)) ∧ True ∧ cellAt q1 (Int.toNat k) 2 = tree 1 (toN (cellAt q1 (Int.toNat k) 2)) (toE (cellAt q1 (Int.toNat k) 2)) ∧ T2 (True ∧ pIf (decide ((↑(toN (cellAt q1 (Int.toNat k) 2)) : Int) > n)) (T4 (Post (vb false))) (T4 ((0 ≤ k ∧ k < (↑q2 : Int)) ∧ True ∧ cellAt q1 (Int.toNat k) 4 = tree 1 (toN (cellAt q1 (Int.toNat k) 4)) (toE (cellAt q1 (Int.toNat k) 4)) ∧ T2 (True ∧ pIf (decide ((↑(toN (cellAt q1 (Int.toNat k) 4)) : Int) > n)) (T2 (True ∧ Post (vb false))) (T4 (True ∧ (True ∧ True) ∧ H (lpC Tryz.prog 38 4) (lpK Tryz.prog 38 4) (stV [(1, some (vi n)), (2, some (pt 0)), (5, some (vi (IntKind.wrap IntKind.i64 (k + 1))))] [(0, some (AObj.cells [vs (Design6.hull d), tree 3 (List.length (Design6.nodes d)) (encL (Design6.nodes d)), tree 18 (List.length (Design6.parts d)) (encL (Design6.parts d)), tree 6 (List.length (Design6.seams d)) (encL (Design6.seams d)), tree 5 q2 q1, tree 3 (List.length (Design6.needs d)) (encL (Design6.needs d))] true))] 1))))))))) (T2 (Post (vb true))))) := by kernel_rfl
def c_wadd (args : List Value) (Post : Value → Prop) : Prop := ∃ a b : Wt, args = [wtV a, wtV b] ∧ okWt a ∧ okWt b ∧ Post (.tuple #[wtV (sumW [a, b]), .int .i64 (sumWE [a, b])])
def vcAd : VCall := inlCall Tryz.prog [100] (tabCallF Tryz.prog [⟨105, c_wchk⟩, ⟨107, c_wsum⟩] noCall) 2
theorem e_wadd (a b : Wt) (H : HT) (Post : PV) : vcP Tryz.prog vcAd 42 [] [wtV a, wtV b] H Post = (let q1 := True ∧ 5 ≤ 5 ∧ T2 (True ∧ 5 ≤ 5 ∧ True ∧ ((T4 (True ∧ True)) ∧ True ∧ True) ∧ Post (Value.tuple #[Value.agg #[vi 0, vi 0, vi 0, vi 0, vi 0], vi 9])); T8 (T4 (True ∧ (toI (vi 0) ≤ 0 ∧ toI (vi 0) < (↑2 : Int)) ∧ T2 (5 ≤ 5 ∧ True ∧ ((T4 (True ∧ True)) ∧ True) ∧ ∃ (w : Wt), eqL [Value.agg #[vi (Wt.m a), vi (Wt.x a), vi (Wt.y a), vi (Wt.z a), vi (Wt.v a)]] [wtV w] ∧ True ∧ pIf (!decide (wErr w = 0)) q1 (T2 (True ∧ (toI (vi 0) ≤ IntKind.wrap IntKind.i64 (0 + 1) ∧ toI (vi (IntKind.wrap IntKind.i64 (0 + 1))) < (↑2 : Int)) ∧ T2 (5 ≤ 5 ∧ True ∧ ((T4 (True ∧ True)) ∧ True) ∧ ∃ (w : Wt), eqL [Value.agg #[vi (Wt.m b), vi (Wt.x b), vi (Wt.y b), vi (Wt.z b), vi (Wt.v b)]] [wtV w] ∧ True ∧ pIf (!decide (wErr w = 0)) q1 (T4 (((10 ≤ 10 ∧ NLs [vi (Wt.m a), vi (Wt.x a), vi (Wt.y a), vi (Wt.z a), vi (Wt.v a), vi (Wt.m b), vi (Wt.x b), vi (Wt.y b), vi (Wt.z b), vi (Wt.v b)]) ∧ True) ∧ ∃ (ws : List Wt), eqL [tree 5 2 #[Value.agg #[vi (Wt.m a), vi (Wt.x a), vi (Wt.y a), vi (Wt.z a), vi (Wt.v a)], Value.agg #[vi (Wt.m b), vi (Wt.x b), vi (Wt.y b), vi (Wt.z b), vi (Wt.v b)]]] [tree 5 ws.length (encL ws)] ∧ List.length ws ≤ 65536 ∧ (∀ (w : Wt), w ∈ ws → ∀ (i : Nat), -9223372036854775808 ≤ fldW i w ∧ fldW i w < 9223372036854775808) ∧ T2 (5 ≤ 5 ∧ T2 (True ∧ 5 ≤ 5 ∧ True ∧ ((T4 (True ∧ True)) ∧ True ∧ True) ∧ Post (Value.tuple #[Value.agg #[vi (Wt.m (sumW ws)), vi (Wt.x (sumW ws)), vi (Wt.y (sumW ws)), vi (Wt.z (sumW ws)), vi (Wt.v (sumW ws))], vi (sumWE ws)])))))))))))) := by kernel_rfl
def vcWD : VCall := tabCall [⟨38, c_few17⟩, ⟨40, c_of⟩, ⟨42, c_wadd⟩, ⟨39, c_awake⟩] noCall
theorem e_WeightDisjoint (d : Design6) (m : Mats) (n : Nat) (A : Array Value) (H : HT) (Post : PV) : vcP Tryz.prog vcWD 12 [] [design6V d, matsV m, tree 1 n A] H Post = (let q4 := True ∧ eqL [] [] ∧ T2 (Post (vb true)); let q3 := #[tree 4 (List.length (Mats.grades m)) (encL (Mats.grades m)), tree 4 (List.length (Mats.sects m)) (encL (Mats.sects m))]; let q2 := (IntKind.wrap IntKind.i64 (Int.tdiv (↑n : Int) 2)); let q1 := #[vs (Design6.hull d), tree 3 (List.length (Design6.nodes d)) (encL (Design6.nodes d)), tree 18 (List.length (Design6.parts d)) (encL (Design6.parts d)), tree 6 (List.length (Design6.seams d)) (encL (Design6.seams d)), tree 5 (List.length (Design6.packs d)) (encL (Design6.packs d)), tree 3 (List.length (Design6.needs d)) (encL (Design6.needs d))]; T4 (∃ (d_1 : Design6), ∃ (n_1 : Int), eqL [Value.agg q1, vi 60] [design6V d_1, vi n_1] ∧ n_1 ≤ 1000 ∧ pIf (decide (few17 d_1 n_1)) (T4 (True ∧ pIf (decide ((↑n : Int) > 100)) q4 (T2 (True ∧ (toI (vi 2) = 0 → False) ∧ T4 (True ∧ (0 ≤ IntKind.wrap IntKind.i64 (Int.tdiv (↑n : Int) 2) ∧ True ∧ 0 ≤ Int.toNat q2 ∧ Int.toNat q2 ≤ n) ∧ True ∧ ∃ (d_2 : Design6), ∃ (m_1 : Mats), ∃ (l : List ByteArray), eqL [Value.agg q1, Value.agg q3, tree 1 (Int.toNat q2 - 0) (Array.extract A 0 (Int.toNat q2))] [design6V d_2, matsV m_1, tree 1 l.length (encL l)] ∧ FitO d_2 ∧ FewM m_1 ∧ List.length l ≤ 65536 ∧ T4 (5 ≤ 5 ∧ T4 (T2 ((True ∧ 0 ≤ IntKind.wrap IntKind.i64 (Int.tdiv (↑n : Int) 2) ∧ Int.toNat q2 ≤ n ∧ n ≤ n) ∧ True ∧ ∃ (d_3 : Design6), ∃ (m_2 : Mats), ∃ (l_1 : List ByteArray), eqL [Value.agg q1, Value.agg q3, tree 1 (n - Int.toNat q2) (Array.extract A (Int.toNat q2) n)] [design6V d_3, matsV m_2, tree 1 l_1.length (encL l_1)] ∧ FitO d_3 ∧ FewM m_2 ∧ List.length l_1 ≤ 65536 ∧ T4 (5 ≤ 5 ∧ T4 (True ∧ ∃ (d_4 : Design6), ∃ (m_3 : Mats), ∃ (l_2 : List ByteArray), eqL [Value.agg q1, Value.agg q3, tree 1 n A] [design6V d_4, matsV m_3, tree 1 l_2.length (encL l_2)] ∧ FitO d_4 ∧ FewM m_3 ∧ List.length l_2 ≤ 65536 ∧ T4 (5 ≤ 5 ∧ T2 (True ∧ pIf (!decide (ofE d_2 m_1 l = 0)) (T4 (eqL [] [] ∧ T2 (Post (vb true)))) (T2 (True ∧ pIf (!decide (ofE d_3 m_2 l_1 = 0)) (T2 q4) (T4 (pIf (!decide (ofE d_4 m_3 l_2 = 0)) q4 (T2 (True ∧ ∃ (a : Wt), ∃ (b : Wt), eqL [Value.agg #[vi (Wt.m (ofW d_2 m_1 l)), vi (Wt.x (ofW d_2 m_1 l)), vi (Wt.y (ofW d_2 m_1 l)), vi (Wt.z (ofW d_2 m_1 l)), vi (Wt.v (ofW d_2 m_1 l))], Value.agg #[vi (Wt.m (ofW d_3 m_2 l_1)), vi (Wt.x (ofW d_3 m_2 l_1)), vi (Wt.y (ofW d_3 m_2 l_1)), vi (Wt.z (ofW d_3 m_2 l_1)), vi (Wt.v (ofW d_3 m_2 l_1))]] [wtV a, wtV b] ∧ ((0 ≤ Wt.m a ∧ Wt.m a ≤ 1099511627776) ∧ (-1152921504606846976 ≤ Wt.x a ∧ Wt.x a ≤ 1152921504606846976) ∧ (-1152921504606846976 ≤ Wt.y a ∧ Wt.y a ≤ 1152921504606846976) ∧ (-1152921504606846976 ≤ Wt.z a ∧ Wt.z a ≤ 1152921504606846976) ∧ 0 ≤ Wt.v a ∧ Wt.v a ≤ 1152921504606846976) ∧ ((0 ≤ Wt.m b ∧ Wt.m b ≤ 1099511627776) ∧ (-1152921504606846976 ≤ Wt.x b ∧ Wt.x b ≤ 1152921504606846976) ∧ (-1152921504606846976 ≤ Wt.y b ∧ Wt.y b ≤ 1152921504606846976) ∧ (-1152921504606846976 ≤ Wt.z b ∧ Wt.z b ≤ 1152921504606846976) ∧ 0 ≤ Wt.v b ∧ Wt.v b ≤ 1152921504606846976) ∧ T4 (5 ≤ 5 ∧ T2 (True ∧ pIf (decide (sumWE [a, b] = 0)) (T4 (pIf (decide (Wt.m (sumW [a, b]) = Wt.m (ofW d_4 m_3 l_2)) && (decide (Wt.x (sumW [a, b]) = Wt.x (ofW d_4 m_3 l_2)) && (decide (Wt.y (sumW [a, b]) = Wt.y (ofW d_4 m_3 l_2)) && (decide (Wt.z (sumW [a, b]) = Wt.z (ofW d_4 m_3 l_2)) && (decide (Wt.v (sumW [a, b]) = Wt.v (ofW d_4 m_3 l_2)) && true))))) (T2 (eqL [] [] ∧ T2 (True ∧ Post (vb true)))) (T4 (True ∧ Post (vb false))))) (T4 (T2 (Post (vb false)))))))))))))))))))))))) (T2 q4))) := by kernel_rfl
theorem encL_drop {α : Type} [Enc α] (l : List α) (k : Nat) : Array.extract (encL l) k l.length = encL (l.drop k) := by
 unfold encL
 rw [List.extract_toArray, List.extract_eq_take_drop, List.take_of_length_le (by simp), List.map_drop]
theorem cell_pack {l : List Pack5} {k : Nat} (h : k < l.length) (j : Nat) : cellAt (encL l) k j = ((pack5C l[k])[j]?).getD undef := cellAt_encL' h
theorem ok_few17 : EntOk Tryz.prog ⟨38, c_few17⟩ := by
 rintro args Post ⟨d, n, rfl, hn, h⟩
 refine pure_P noCall_ok mixed (by kernel_rfl) (by kernel_rfl) _ (e_few17 d n _ _) ?_
 simp only [true_and]
 have no : ¬ few17 d n → Post (.bool false) := fun hq => by rwa [decide_eq_false hq] at h
 have yes : few17 d n → Post (.bool true) := fun hq => by rwa [decide_eq_true hq] at h
 refine ifD (fun g1 => no fun hq => by have := hq.1; omega) (fun g1 => ifD (fun g2 => no fun hq => by have := hq.2.1; omega) (fun g2 => ifD (fun g3 => no fun hq => by have := hq.2.2.1; omega) (fun g3 => ifD (fun g4 => no fun hq => by have := hq.2.2.2.1; omega) (fun g4 => ifD (fun g5 => no fun hq => by have := hq.2.2.2.2.1; omega) (fun g5 => ?_)))))
 refine down (n := d.packs.length) (p := fun k => (∀ i (hi : i < d.packs.length), i < k → ((d.packs[i].parts.length : Int) ≤ n ∧ (d.packs[i].after.length : Int) ≤ n)) → OkP 38 [design6V d, .int .i64 n] 4 Post (stV [(1, some (.int .i64 n)), (2, some (.pointer (some ⟨0, 0, none⟩))), (5, some (.int .i64 k))] [(0, some (.cells (design6C d) true))] 1)) (fun hall => ?_) (fun k k1 ih hall => ?_) (fun i _ hi => by omega)
 ·refine ok_P noCall_ok mixed _ (l_few17 d n d.packs.length _ _) ?_
  simp only [true_and]
  refine ifD (fun hlt => by omega) (fun _ => yes ⟨by omega, by omega, by omega, by omega, by omega, fun p hp => ?_⟩)
  obtain ⟨i, hi, rfl⟩ := List.mem_iff_getElem.1 hp
  exact hall i hi hi
 ·refine ok_P noCall_ok mixed _ (l_few17 d n k _ _) ?_
  have hk : ((k : Nat) : Int).toNat = k := Int.toNat_natCast k
  simp only [hk, cell_pack k1]
  have hm := List.getElem_mem k1
  have hnx := fun hq : ((d.packs[k].parts.length : Int) ≤ n ∧ (d.packs[k].after.length : Int) ≤ n) => ih fun i hi hi2 => by
   rcases Nat.lt_or_ge i k with h' | h'
   ·exact hall i hi h'
   ·obtain rfl : i = k := by omega
    exact hq
  have hbad : ∀ q : Prop, (few17 d n → ((d.packs[k].parts.length : Int) ≤ n ∧ (d.packs[k].after.length : Int) ≤ n)) := fun _ hq => hq.2.2.2.2.2 _ hm
  clear ih hall
  generalize d.packs[k] = p at *
  simp only [pack5C, toN_tree, toE_tree, true_and, and_true, wrapSucc (show k < 2 ^ 62 by omega), List.getElem?_cons_zero, List.getElem?_cons_succ, Option.getD_some]
  exact ifD (fun _ => ⟨⟨by omega, by omega⟩, ifD (fun g => no fun hq => by have := (hbad True hq).1; omega) (fun g => ⟨⟨by omega, by omega⟩, ifD (fun g' => no fun hq => by have := (hbad True hq).2; omega) (fun g' => hnx ⟨by omega, by omega⟩)⟩)⟩) (fun h' => by omega)
theorem vcAd_ok : VCallOk Tryz.prog vcAd := inlCall_ok mixed (tabCallF_ok (by
 intro e he
 simp only [List.mem_cons, List.not_mem_nil, or_false] at he
 rcases he with rfl | rfl
 ·exact ok_wchk
 ·exact ok_wsum) noCall_ok) 2
theorem wErr_z {w : Wt} (h : okWt w) : wErr w = 0 := by
 unfold wErr
 rw [if_pos h]
theorem ok_wadd : EntOk Tryz.prog ⟨42, c_wadd⟩ := by
 rintro args Post ⟨a, b, rfl, ha, hb, h⟩
 refine pure_P vcAd_ok mixed (by kernel_rfl) (by kernel_rfl) _ (e_wadd a b _ _) ?_
 simp only [true_and, and_true, Nat.le_refl]
 refine ⟨⟨by decide, by decide⟩, a, rfl, ifN (fun hn => absurd (wErr_z ha) hn) (fun _ => ⟨⟨by decide, by decide⟩, b, rfl, ifN (fun hn => absurd (wErr_z hb) hn) (fun _ => ⟨fun v hv => List.all_eq_true.1 (show ([.int .i64 a.m, .int .i64 a.x, .int .i64 a.y, .int .i64 a.z, .int .i64 a.v, .int .i64 b.m, .int .i64 b.x, .int .i64 b.y, .int .i64 b.z, .int .i64 b.v] : List Value).all nl1 = true from rfl) v hv, [a, b], rfl, (by show 2 ≤ 65536; decide), fun w hw i => ?_, h⟩)⟩)⟩
 simp only [List.mem_cons, List.not_mem_nil, or_false] at hw
 rcases hw with rfl | rfl
 ·exact okWt_fits ha i
 ·exact okWt_fits hb i
theorem totW_append (l r : List Wt) : totW [totW l, totW r] = totW (l ++ r) := by
 unfold totW
 simp [fldW, List.sum_append]
theorem partsOf_append (d : Design6) (l r : List ByteArray) : partsOf d (l ++ r) = partsOf d l ++ partsOf d r := List.map_append
theorem of_zero {d : Design6} {m : Mats} {l : List ByteArray} (h : ofE d m l = 0) : ofW d m l = totW ((partsOf d l).map fun p => weightP p m) ∧ okWt (ofW d m l) := by
 unfold ofE at h
 unfold ofW
 by_cases ha : allOf d l
 ·have hna : ¬ ¬ allOf d l := fun hn => hn ha
  rw [if_neg hna] at h ⊢
  by_cases he : errP m (partsOf d l) ≠ 0
  ·rw [if_pos he] at h
   exact absurd h he
  ·rw [if_neg he] at h ⊢
   unfold sumWE at h
   unfold sumW
   by_cases hk : okWt (totW ((partsOf d l).map fun p => weightP p m))
   ·rw [if_pos hk]
    exact ⟨rfl, hk⟩
   ·rw [if_neg hk] at h
    exact absurd h (by decide)
 ·rw [if_pos ha] at h
  exact absurd h (by decide)
theorem of_halves {d : Design6} {m : Mats} {l : List ByteArray} (k : Nat) (h1 : ofE d m (l.take k) = 0) (h2 : ofE d m (l.drop k) = 0) (h3 : ofE d m l = 0) : sumW [ofW d m (l.take k), ofW d m (l.drop k)] = ofW d m l ∧ sumWE [ofW d m (l.take k), ofW d m (l.drop k)] = 0 := by
 obtain ⟨e1, _⟩ := of_zero h1
 obtain ⟨e2, _⟩ := of_zero h2
 obtain ⟨e3, o3⟩ := of_zero h3
 have key : totW [ofW d m (l.take k), ofW d m (l.drop k)] = ofW d m l := by
  rw [e1, e2, e3, totW_append, ← List.map_append, ← partsOf_append, List.take_append_drop]
 unfold sumW sumWE
 rw [key, if_pos o3, if_pos o3]
 exact ⟨rfl, rfl⟩
theorem vcWD_ok : VCallOk Tryz.prog vcWD := tabCall_ok (by
 intro e he
 simp only [List.mem_cons, List.not_mem_nil, or_false] at he
 rcases he with rfl | rfl | rfl | rfl
 ·exact ok_few17
 ·exact ok_of
 ·exact ok_wadd
 ·exact ok_awake) noCall_ok
theorem law_WeightDisjoint {d : Design6} {m : Mats} {l : List ByteArray} (hf : FitO d) (hm : FewM m) : Pure Tryz.prog 12 [design6V d, matsV m, trS l] fun v => v = .bool true := by
 refine pure_P vcWD_ok mixed (by kernel_rfl) (by kernel_rfl) _ (e_WeightDisjoint d m l.length (encL l) _ _) ?_
 simp only [true_and, and_true, Nat.le_refl]
 refine ⟨d, 60, rfl, by decide, pIf_intro (fun _ => ifD (fun _ => (by first | trivial | exact ⟨rfl, rfl⟩)) (fun hn => ?_)) (fun _ => by first | trivial | exact ⟨rfl, rfl⟩)⟩
 have hw : IntKind.i64.wrap (Int.tdiv (l.length : Int) 2) = ((l.length / 2 : Nat) : Int) := by
  rw [show Int.tdiv (l.length : Int) 2 = ((l.length / 2 : Nat) : Int) from rfl, IntKind.wrap_i64]
  omega
 have hh : l.length / 2 ≤ l.length := Nat.div_le_self _ _
 simp only [hw, Int.toNat_natCast]
 generalize l.length / 2 = k at *
 have e1 : tree 1 (k - 0) (Array.extract (encL l) 0 k) = trS (l.take k) := by
  rw [encL_take, Nat.sub_zero]
  unfold trS
  rw [List.length_take, Nat.min_eq_left hh]
 have e2 : tree 1 (l.length - k) (Array.extract (encL l) k l.length) = trS (l.drop k) := by
  rw [encL_drop]
  unfold trS
  rw [List.length_drop]
 have t1 : (l.take k).length ≤ 65536 := by rw [List.length_take]; omega
 have t2 : (l.drop k).length ≤ 65536 := by rw [List.length_drop]; omega
 simp only [e1, e2]
 refine ⟨by decide, ⟨by omega, by omega, by omega⟩, d, m, l.take k, rfl, hf, hm, t1, ⟨by omega, by omega⟩, d, m, l.drop k, rfl, hf, hm, t2, d, m, l, rfl, hf, hm, by omega, ifN (fun _ => by first | trivial | exact ⟨rfl, rfl⟩) (fun z1 => ifN (fun _ => by first | trivial | exact ⟨rfl, rfl⟩) (fun z2 => ifN (fun _ => by first | trivial | exact ⟨rfl, rfl⟩) (fun z3 => ?_)))⟩
 obtain ⟨s1, s2⟩ := of_halves k z1 z2 z3
 refine ⟨ofW d m (l.take k), ofW d m (l.drop k), rfl, (of_zero z1).2, (of_zero z2).2, ifD (fun _ => pIf_intro (fun _ => by first | trivial | exact ⟨rfl, rfl⟩) (fun hb => ?_)) (fun hq => absurd s2 hq)⟩
 rw [s1] at hb
 simp at hb
end Go.Proofs.YtngginofamlkkaaGreatDoor
noncomputable section
namespace Go.Proofs.YtngginofamlkkaaGreatDoor
open Go Go.RowKit Go.ChangeShapes Go.WideShapes Go.ChangeAt Go.Deep Go.Joins
set_option maxRecDepth 100000
def inNode3 (p : Node3) : Prop := p.id.size ≤ maxLen ∧ In64 p.kind ∧ p.parent.size ≤ maxLen
theorem opensNode3_ {w : World} : Opens Tryz.prog w 197 Node3 inNode3 := fun H enc base spare held fuel cs x h => by
 obtain ⟨xs, n, _, _, hlen, hxs, hf⟩ := DataW.trod_struct Tryz.underlying197 h
 have hc : Tryz.prog.cellsOf 197 = 3 := by kernel_rfl
 obtain ⟨b0, k0, v0⟩ := field_open (opens_string Tryz.underlying9) (hf 0 _ rfl) (by rw [hxs]; decide)
 obtain ⟨b1, k1, v1⟩ := field_open (opens_int Tryz.underlying3) (hf 1 _ rfl) (by rw [hxs]; decide)
 obtain ⟨b2, k2, v2⟩ := field_open (opens_string Tryz.underlying9) (hf 2 _ rfl) (by rw [hxs]; decide)
 exact ⟨⟨b0, b1, b2⟩, ⟨k0, k1, k2⟩, v0.next (v1.next (v2.next (VRC.done (n := 3) (hlen.trans hc))))⟩
def inSeam6 (p : Seam6) : Prop := p.id.size ≤ maxLen ∧ p.a.size ≤ maxLen ∧ p.b.size ≤ maxLen ∧ In64 p.kind ∧ In64 p.long ∧ In64 p.cls
theorem opensSeam6_ {w : World} : Opens Tryz.prog w 205 Seam6 inSeam6 := fun H enc base spare held fuel cs x h => by
 obtain ⟨xs, n, _, _, hlen, hxs, hf⟩ := DataW.trod_struct Tryz.underlying205 h
 have hc : Tryz.prog.cellsOf 205 = 6 := by kernel_rfl
 obtain ⟨b0, k0, v0⟩ := field_open (opens_string Tryz.underlying9) (hf 0 _ rfl) (by rw [hxs]; decide)
 obtain ⟨b1, k1, v1⟩ := field_open (opens_string Tryz.underlying9) (hf 1 _ rfl) (by rw [hxs]; decide)
 obtain ⟨b2, k2, v2⟩ := field_open (opens_string Tryz.underlying9) (hf 2 _ rfl) (by rw [hxs]; decide)
 obtain ⟨b3, k3, v3⟩ := field_open (opens_int Tryz.underlying3) (hf 3 _ rfl) (by rw [hxs]; decide)
 obtain ⟨b4, k4, v4⟩ := field_open (opens_int Tryz.underlying3) (hf 4 _ rfl) (by rw [hxs]; decide)
 obtain ⟨b5, k5, v5⟩ := field_open (opens_int Tryz.underlying3) (hf 5 _ rfl) (by rw [hxs]; decide)
 exact ⟨⟨b0, b1, b2, b3, b4, b5⟩, ⟨k0, k1, k2, k3, k4, k5⟩, v0.next (v1.next (v2.next (v3.next (v4.next (v5.next (VRC.done (n := 6) (hlen.trans hc)))))))⟩
def inPack5 (p : Pack5) : Prop := p.id.size ≤ maxLen ∧ p.block.size ≤ maxLen ∧ (p.parts.length ≤ maxLen ∧ ∀ a ∈ p.parts, a.size ≤ maxLen) ∧ In64 p.hours ∧ (p.after.length ≤ maxLen ∧ ∀ a ∈ p.after, a.size ≤ maxLen)
theorem opensPack5_ {w : World} : Opens Tryz.prog w 125 Pack5 inPack5 := fun H enc base spare held fuel cs x h => by
 obtain ⟨xs, n, _, _, hlen, hxs, hf⟩ := DataW.trod_struct Tryz.underlying125 h
 have hc : Tryz.prog.cellsOf 125 = 5 := by kernel_rfl
 obtain ⟨b0, k0, v0⟩ := field_open (opens_string Tryz.underlying9) (hf 0 _ rfl) (by rw [hxs]; decide)
 obtain ⟨b1, k1, v1⟩ := field_open (opens_string Tryz.underlying9) (hf 1 _ rfl) (by rw [hxs]; decide)
 obtain ⟨b2, k2, v2⟩ := field_open (opens_slice Tryz.underlying72 (opens_string Tryz.underlying9) (by kernel_rfl) (by decide)) (hf 2 _ rfl) (by rw [hxs]; decide)
 obtain ⟨b3, k3, v3⟩ := field_open (opens_int Tryz.underlying3) (hf 3 _ rfl) (by rw [hxs]; decide)
 obtain ⟨b4, k4, v4⟩ := field_open (opens_slice Tryz.underlying72 (opens_string Tryz.underlying9) (by kernel_rfl) (by decide)) (hf 4 _ rfl) (by rw [hxs]; decide)
 exact ⟨⟨b0, b1, b2, b3, b4⟩, ⟨k0, k1, k2, k3, k4⟩, v0.next (v1.next (v2.next (v3.next (v4.next (VRC.done (n := 5) (hlen.trans hc))))))⟩
def inNeed3 (p : Need3) : Prop := In64 p.kind ∧ p.block.size ≤ maxLen ∧ p.on.size ≤ maxLen
theorem opensNeed3_ {w : World} : Opens Tryz.prog w 194 Need3 inNeed3 := fun H enc base spare held fuel cs x h => by
 obtain ⟨xs, n, _, _, hlen, hxs, hf⟩ := DataW.trod_struct Tryz.underlying194 h
 have hc : Tryz.prog.cellsOf 194 = 3 := by kernel_rfl
 obtain ⟨b0, k0, v0⟩ := field_open (opens_int Tryz.underlying3) (hf 0 _ rfl) (by rw [hxs]; decide)
 obtain ⟨b1, k1, v1⟩ := field_open (opens_string Tryz.underlying9) (hf 1 _ rfl) (by rw [hxs]; decide)
 obtain ⟨b2, k2, v2⟩ := field_open (opens_string Tryz.underlying9) (hf 2 _ rfl) (by rw [hxs]; decide)
 exact ⟨⟨b0, b1, b2⟩, ⟨k0, k1, k2⟩, v0.next (v1.next (v2.next (VRC.done (n := 3) (hlen.trans hc))))⟩
end Go.Proofs.YtngginofamlkkaaGreatDoor

noncomputable section
namespace Go.Proofs.YtngginofamlkkaaGreatDoor
open Go Go.RowKit Go.ChangeShapes Go.WideShapes Go.ChangeAt Go.Deep Go.Joins
set_option maxRecDepth 100000
section
variable {P : Program} {w : World}
theorem weights_agg {H : Type} {t : TypeId} {fs : Array Field} {parts : List (DataW H)} (ht : P.underlying t = some (.struct fs)) : (DataW.agg parts).weights P t = DataW.weightsEach P (fs.toList.map (·.type)) parts := by
 simp only [DataW.weights, ht]
theorem weights_slice {H : Type} {t e : TypeId} {l sp : List (DataW H)} (ht : P.underlying t = some (.slice e)) : (DataW.slice l sp).weights P t = (l.length + sp.length) * P.bytesOf e :: (DataW.weightsAll P e l ++ DataW.weightsAll P e sp) := by
 simp only [DataW.weights, ht]
theorem each_mem {H : Type} : ∀ {ts : List TypeId} {ds : List (DataW H)} {i : Nat} {t : TypeId} {d : DataW H} {n : Nat}, ts[i]? = some t → ds[i]? = some d → n ∈ d.weights P t → n ∈ DataW.weightsEach P ts ds
 | [], _, _, _, _, _, h, _, _ => by simp at h
 | _ :: _, [], _, _, _, _, _, h, _ => by simp at h
 | _ :: _, _ :: _, 0, _, _, _, h1, h2, h3 => by
  simp at h1 h2
  subst h1 h2
  simp only [DataW.weightsEach]
  exact List.mem_append_left _ h3
 | _ :: _, _ :: _, i + 1, _, _, _, h1, h2, h3 => by
  simp only [DataW.weightsEach]
  exact List.mem_append_right _ (each_mem (i := i) (by simpa using h1) (by simpa using h2) h3)
theorem all_mem {H : Type} {e : TypeId} : ∀ {ds : List (DataW H)} {i : Nat} {d : DataW H} {n : Nat}, ds[i]? = some d → n ∈ d.weights P e → n ∈ DataW.weightsAll P e ds
 | [], _, _, _, h, _ => by simp at h
 | _ :: _, 0, _, _, h2, h3 => by
  simp at h2
  subst h2
  simp only [DataW.weightsAll]
  exact List.mem_append_left _ h3
 | _ :: _, i + 1, _, _, h2, h3 => by
  simp only [DataW.weightsAll]
  exact List.mem_append_right _ (all_mem (i := i) (by simpa using h2) h3)
def HeldIn (P : Program) {H : Type} (t : TypeId) (d : DataW H) : Prop := ∀ n ∈ d.weights P t, n ≤ reachBytes
def OpensW (P : Program) (w : World) (t : TypeId) (α : Type) [Enc α] (Ok : α → Prop) : Prop :=
 ∀ (H : Type) (enc : TypeId × Value → H) (base : Nat) (spare : Nat → Bool) (held : Bool) (fuel : Nat) (cs : List Value) (x : DataW H × List MemPlace), DataW.trod enc P w base spare held fuel t cs = some x → HeldIn P t x.1 → ∃ a : α, Ok a ∧ VRC (frW w) (Enc.cells a) cs
theorem Opens.toW {t : TypeId} {α : Type} [Enc α] {Ok : α → Prop} (h : Opens P w t α Ok) : OpensW P w t α Ok := fun H enc base spare held fuel cs x hx _ => h H enc base spare held fuel cs x hx
theorem opensW_slice {t e : TypeId} {α : Type} [Enc α] {Ok : α → Prop} (ht : P.underlying t = some (.slice e)) (he : OpensW P w e α Ok) (hc : P.cellsOf e = Enc.sz α) (hz : 0 < Enc.sz α) :
  OpensW P w t (List α) fun l => l.length ≤ maxLen ∧ l.length * P.bytesOf e ≤ reachBytes ∧ ∀ a ∈ l, Ok a := fun H enc base spare held fuel cs x h hw => by
 rcases open_slice ht h with ⟨rfl, rfl⟩ | ⟨a, len, cap, m, n, D, Pl, rfl, _, hl, hm, hmm, rfl, hi⟩
 ·exact ⟨[], ⟨Nat.zero_le _, by simp, fun a ha => by cases ha⟩, .one (.treeNil _ _ _)⟩
 rw [hc] at hi
 unfold HeldIn at hw
 rw [weights_slice ht] at hw
 have hlm : len ≤ m := by rw [hmm]; split <;> omega
 have key : ∀ i, i < len → ∃ b : α, Ok b ∧ ∀ (j : Nat) (v : Value), (Enc.cells b)[j]? = some v → ∃ v', w.cell? ((a.add (i * Enc.sz α)).add j) = some v' ∧ VR0 (frW w) v v' := by
  intro i hil
  obtain ⟨cs', h1, h2⟩ := hi i (by omega)
  obtain ⟨_, h3, h4⟩ := World.cells?_some h1
  obtain ⟨b, hb, hv⟩ := he H enc _ _ _ _ _ _ h2 fun n hn => hw n (List.mem_cons_of_mem _ (List.mem_append_left _ (all_mem (i := i) (by simp [hil]) hn)))
  refine ⟨b, hb, fun j v hj => ?_⟩
  have hjl : j < Enc.sz α := by
   rw [← Enc.len b]
   rcases Nat.lt_or_ge j (Enc.cells b).length with h' | h'
   ·exact h'
   ·rw [List.getElem?_eq_none h'] at hj; cases hj
  have hj' : cs'[j]? = some (cs'[j]'(by omega)) := List.getElem?_eq_getElem (by omega)
  exact ⟨_, (h4 j hjl).trans hj', hv.2 j v _ hj hj'⟩
 have build : ∀ k, k ≤ len → ∃ l : List α, l.length = k ∧ (∀ b ∈ l, Ok b) ∧ ∀ (i : Nat) (b : α), l[i]? = some b → ∀ (j : Nat) (v : Value), (Enc.cells b)[j]? = some v → ∃ v', w.cell? ((a.add (i * Enc.sz α)).add j) = some v' ∧ VR0 (frW w) v v' := by
  intro k
  induction k with
  | zero => exact fun _ => ⟨[], rfl, by simp, by simp⟩
  | succ k ih =>
   intro hk
   obtain ⟨l, e1, hin, hcl⟩ := ih (by omega)
   obtain ⟨b, hb, hbc⟩ := key k (by omega)
   refine ⟨l ++ [b], by simp [e1], fun x hx => ?_, fun i x hx => ?_⟩
   ·rcases List.mem_append.1 hx with hx | hx
    ·exact hin x hx
    ·simp at hx; subst hx; exact hb
   ·rcases Nat.lt_or_ge i k with hik | hik
    ·rw [List.getElem?_append_left (by omega)] at hx
     exact hcl i x hx
    ·rw [List.getElem?_append_right (by omega), e1] at hx
     have : i = k := by
      rcases Nat.lt_or_ge k i with h' | h'
      ·rw [List.getElem?_eq_none (by simp; omega)] at hx; cases hx
      ·omega
     subst this
     simp at hx
     subst hx
     exact hbc
 obtain ⟨l, hlen, hok, hcl⟩ := build len (Nat.le_refl _)
 refine ⟨l, ⟨by omega, ?_, hok⟩, .one ?_⟩
 ·have h1 := hw _ List.mem_cons_self
  refine Nat.le_trans (Nat.mul_le_mul_right _ ?_) h1
  simp only [List.length_map, List.length_range]
  omega
 rcases Nat.eq_zero_or_pos len with h0 | h0
 ·subst h0
  have : l = [] := List.eq_nil_of_length_eq_zero hlen
  subst this
  exact .treeNil _ _ _
 have cell : ∀ (i j : Nat), i < len → j < Enc.sz α → ∃ v v', (∃ b, l[i]? = some b ∧ (Enc.cells b)[j]? = some v) ∧ w.cell? (a.add (i * Enc.sz α + j)) = some v' ∧ VR0 (frW w) v v' := fun i j hi hj => by
  have hb : l[i]? = some (l[i]'(by omega)) := List.getElem?_eq_getElem (by omega)
  have hv : (Enc.cells (l[i]'(by omega)))[j]? = some ((Enc.cells (l[i]'(by omega)))[j]'(by rw [Enc.len]; exact hj)) := List.getElem?_eq_getElem _
  obtain ⟨v', h1, h2⟩ := hcl i _ hb j _ hv
  rw [Go.Deep.add_add] at h1
  exact ⟨_, v', ⟨_, hb, hv⟩, h1, h2⟩
 obtain ⟨_, v0, _, hv0, _⟩ := cell 0 0 h0 hz
 obtain ⟨cs, ct, fz, hheap, _, hsp⟩ := cell_at hv0
 have hsp := hsp (by omega)
 have at_ : ∀ i j, i < len → j < Enc.sz α → ∃ v v', (∃ b, l[i]? = some b ∧ (Enc.cells b)[j]? = some v) ∧ cs[a.off + (i * Enc.sz α + j)]? = some v' ∧ VR0 (frW w) v v' := fun i j hi hj => by
  obtain ⟨v, v', h1, h2, h3⟩ := cell i j hi hj
  obtain ⟨cs', ct', fz', g1, g2, _⟩ := cell_at h2
  rw [hheap] at g1
  cases g1
  exact ⟨v, v', h1, g2, h3⟩
 obtain ⟨blk, off, spot⟩ := a
 simp only at hsp
 subst hsp
 have hsz : off + len * Enc.sz α ≤ cs.size := by
  obtain ⟨_, v', _, h2, _⟩ := at_ (len - 1) (Enc.sz α - 1) (by omega) (by omega)
  have hlt : off + ((len - 1) * Enc.sz α + (Enc.sz α - 1)) < cs.size := (Array.getElem?_eq_some_iff.1 h2).1
  have : len * Enc.sz α = (len - 1) * Enc.sz α + Enc.sz α := by
   obtain ⟨k, rfl⟩ : ∃ k, len = k + 1 := ⟨len - 1, by omega⟩
   rw [Nat.succ_mul]
   simp
  omega
 have hget : ∀ (i : Nat) (u : Value), (encL l)[i]? = some u → ∃ b, l[i]? = some b ∧ u = elt (Enc.cells b) := fun i u hu => by
  unfold encL at hu
  simp only [List.getElem?_toArray, List.getElem?_map, Option.map_eq_some_iff] at hu
  obtain ⟨b, h1, h2⟩ := hu
  exact ⟨b, h1, h2.symm⟩
 rw [hlen]
 refine VR0.tree (c := blk) (o := off) (cs := cs) (t := ct) (fz := fz) hheap (by simp [encL, hlen]) hl hsz (fun i u hu => ?_) (fun i j u v v' hu hv hv' => ?_)
 ·obtain ⟨b, _, rfl⟩ := hget i u hu
  simp [elt_cells (Enc.nl b), Enc.len]
 ·obtain ⟨b, hb, rfl⟩ := hget i u hu
  have hv2 : (Enc.cells b)[j]? = some v := by simpa [elt_cells (Enc.nl b)] using hv
  have hil : i < len := by
   rcases Nat.lt_or_ge i len with h' | h'
   ·exact h'
   ·rw [List.getElem?_eq_none (by omega)] at hb; cases hb
  have hjl : j < Enc.sz α := by
   rw [← Enc.len b]
   rcases Nat.lt_or_ge j (Enc.cells b).length with h' | h'
   ·exact h'
   ·rw [List.getElem?_eq_none h'] at hv2; cases hv2
  obtain ⟨v1, v1', ⟨b1, e1, e2⟩, e3, e4⟩ := at_ i j hil hjl
  rw [hb] at e1
  cases e1
  rw [hv2] at e2
  cases e2
  rw [show off + i * Enc.sz α + j = off + (i * Enc.sz α + j) by omega] at hv'
  have : v1' = v' := by
   have e3' : cs[off + (i * Enc.sz α + j)]? = some v1' := e3
   rw [hv'] at e3'
   cases e3'
   rfl
  subst this
  exact e4
theorem fieldW {t0 t : TypeId} {fs : Array Field} {α : Type} [Enc α] {Ok : α → Prop} (ho : OpensW P w t α Ok) {H : Type} {enc : TypeId × Value → H} {base : Nat} {spare : Nat → Bool} {held : Bool} {fuel : Nat} {cs : List Value} {xs : List (DataW H × List MemPlace)} {i : Nat}
  (ht : P.underlying t0 = some (.struct fs)) (hw : HeldIn P t0 (.agg (xs.map (·.1)))) (hi : (fs.toList.map (·.type))[i]? = some t) (h : DataW.trod enc P w base spare held fuel t cs = xs[i]?) (hx : i < xs.length) : ∃ a : α, Ok a ∧ VRC (frW w) (Enc.cells a) cs := by
 have hg := List.getElem?_eq_getElem hx
 refine ho H enc _ _ _ _ _ _ (h.trans hg) fun n hn => hw n ?_
 rw [weights_agg ht]
 exact each_mem hi (by rw [List.getElem?_map, hg]; rfl) hn
theorem open_argW {t : TypeId} {α : Type} [Enc α] {Ok : α → Prop} (ho : OpensW P w t α Ok) {H : Type} {enc : TypeId × Value → H} {base : Nat} {spare : Nat → Bool} {held : Bool} {v : Value} {d : DataW H} {p : List MemPlace} (h : DataW.Trod enc P w base spare held t v d p) (hw : HeldIn P t d) :
  ∃ a : α, Ok a ∧ VRC (frW w) (Enc.cells a) v.cells.toList := by
 obtain ⟨fuel, hf⟩ := h
 exact ho H enc _ _ _ _ _ _ hf hw
end
end Go.Proofs.YtngginofamlkkaaGreatDoor

noncomputable section
namespace Go.Proofs.YtngginofamlkkaaGreatDoor
open Go Go.RowKit Go.ChangeShapes Go.WideShapes Go.ChangeAt Go.Deep Go.Joins
set_option maxRecDepth 100000
set_option maxHeartbeats 4000000
theorem reach_eq : reachBytes = 140737488355327 - 4095 := by decide
theorem bytes_pt : Tryz.prog.bytesOf 53 = 16 := by kernel_rfl
theorem bytes_pts : Tryz.prog.bytesOf 22 = 24 := by kernel_rfl
theorem bytes_int : Tryz.prog.bytesOf 3 = 8 := by kernel_rfl
theorem bytes_part : 8 ≤ Tryz.prog.bytesOf 31 := by decide +kernel
theorem bytes_grade : 8 ≤ Tryz.prog.bytesOf 90 := by decide +kernel
theorem bytes_sect : 8 ≤ Tryz.prog.bytesOf 94 := by decide +kernel
theorem short_of {α : Type} {l : List α} {b : Nat} (h : l.length * b ≤ reachBytes) (hb : 8 ≤ b) : Short l := by
 have h1 := Nat.le_trans (Nat.mul_le_mul_left l.length hb) h
 rw [reach_eq] at h1
 show l.length < 2 ^ 62
 omega
theorem opensW_pts {w : World} : OpensW Tryz.prog w 22 (List Pt) fun l => l.length ≤ maxLen ∧ l.length * Tryz.prog.bytesOf 53 ≤ reachBytes ∧ ∀ a ∈ l, InPt a := opensW_slice Tryz.underlying22 (Opens.toW opens_pt) (by kernel_rfl) (by decide)
theorem opensW_shape {w : World} : OpensW Tryz.prog w 25 (List Pt × List (List Pt)) (fun p => p.1.length * 16 ≤ reachBytes ∧ p.2.length * 24 ≤ reachBytes ∧ ∀ a ∈ p.2, a.length * 16 ≤ reachBytes) := fun H enc base spare held fuel cs x h hw => by
 obtain ⟨xs, n, _, rfl, hlen, hxs, hf⟩ := DataW.trod_struct Tryz.underlying25 h
 have hc : Tryz.prog.cellsOf 25 = 2 := by kernel_rfl
 obtain ⟨b0, k0, v0⟩ := fieldW opensW_pts Tryz.underlying25 hw (i := 0) rfl (hf 0 _ rfl) (by rw [hxs]; decide)
 obtain ⟨b1, k1, v1⟩ := fieldW (opensW_slice Tryz.underlying23 opensW_pts (by kernel_rfl) (by decide)) Tryz.underlying25 hw (i := 1) rfl (hf 1 _ rfl) (by rw [hxs]; decide)
 exact ⟨⟨b0, b1⟩, ⟨by rw [← bytes_pt]; exact k0.2.1, by rw [← bytes_pts]; exact k1.2.1, fun a ha => by rw [← bytes_pt]; exact (k1.2.2 a ha).2.1⟩, v0.next (v1.next (VRC.done (n := 2) (hlen.trans hc)))⟩
def okWP (p : Part) : Prop := FitW p ∧ FitQ p
theorem okWP_of {p : Part} (h : p.outer.length * 16 ≤ reachBytes ∧ p.holes.length * 24 ≤ reachBytes ∧ ∀ a ∈ p.holes, a.length * 16 ≤ reachBytes) : okWP p := by
 obtain ⟨h1, h2, h3⟩ := h
 have s1 := short_of h1 (by decide)
 have s2 := short_of h2 (by decide)
 have s3 := fun a ha => short_of (h3 a ha) (by decide)
 rw [reach_eq] at h1 h2 h3
 exact ⟨⟨by omega, by omega, fun a ha => by have := h3 a ha; omega⟩, ⟨s1, s2, s3, by omega⟩⟩
theorem opensW_part {w : World} : OpensW Tryz.prog w 31 Part okWP := fun H enc base spare held fuel cs x h hw => by
 obtain ⟨xs, n, _, rfl, hlen, hxs, hf⟩ := DataW.trod_struct Tryz.underlying31 h
 have hc : Tryz.prog.cellsOf 31 = 18 := by kernel_rfl
 obtain ⟨b0, k0, v0⟩ := fieldW (Opens.toW (opens_string Tryz.underlying9)) Tryz.underlying31 hw (i := 0) rfl (hf 0 _ rfl) (by rw [hxs]; decide)
 obtain ⟨b1, k1, v1⟩ := fieldW (Opens.toW (opens_int Tryz.underlying3)) Tryz.underlying31 hw (i := 1) rfl (hf 1 _ rfl) (by rw [hxs]; decide)
 obtain ⟨b2, k2, v2⟩ := fieldW (Opens.toW (opens_int Tryz.underlying3)) Tryz.underlying31 hw (i := 2) rfl (hf 2 _ rfl) (by rw [hxs]; decide)
 obtain ⟨b3, k3, v3⟩ := fieldW (Opens.toW (opens_string Tryz.underlying9)) Tryz.underlying31 hw (i := 3) rfl (hf 3 _ rfl) (by rw [hxs]; decide)
 obtain ⟨b4, k4, v4⟩ := fieldW (Opens.toW (opens_string Tryz.underlying9)) Tryz.underlying31 hw (i := 4) rfl (hf 4 _ rfl) (by rw [hxs]; decide)
 obtain ⟨b5, k5, v5⟩ := fieldW (Opens.toW (opens_int Tryz.underlying3)) Tryz.underlying31 hw (i := 5) rfl (hf 5 _ rfl) (by rw [hxs]; decide)
 obtain ⟨b6, k6, v6⟩ := fieldW opensW_shape Tryz.underlying31 hw (i := 6) rfl (hf 6 _ rfl) (by rw [hxs]; decide)
 obtain ⟨b7, k7, v7⟩ := fieldW (Opens.toW (opens_string Tryz.underlying9)) Tryz.underlying31 hw (i := 7) rfl (hf 7 _ rfl) (by rw [hxs]; decide)
 obtain ⟨b8, k8, v8⟩ := fieldW (Opens.toW (opens_int Tryz.underlying3)) Tryz.underlying31 hw (i := 8) rfl (hf 8 _ rfl) (by rw [hxs]; decide)
 obtain ⟨b9, k9, v9⟩ := fieldW (Opens.toW (opens_int Tryz.underlying3)) Tryz.underlying31 hw (i := 9) rfl (hf 9 _ rfl) (by rw [hxs]; decide)
 obtain ⟨b10, k10, v10⟩ := fieldW (Opens.toW opens_vec) Tryz.underlying31 hw (i := 10) rfl (hf 10 _ rfl) (by rw [hxs]; decide)
 obtain ⟨b11, k11, v11⟩ := fieldW (Opens.toW opens_place) Tryz.underlying31 hw (i := 11) rfl (hf 11 _ rfl) (by rw [hxs]; decide)
 exact ⟨⟨b0, b1, b2, b3, b4, b5, b6.1, b6.2, b7, b8, b9, b10, b11.1, b11.2⟩, okWP_of k6, v0.next (v1.next (v2.next (v3.next (v4.next (v5.next (v6.next (v7.next (v8.next (v9.next (v10.next (v11.next (VRC.done (n := 18) (hlen.trans hc)))))))))))))⟩
theorem opensW_Design6 {w : World} : OpensW Tryz.prog w 71 Design6 FitO := fun H enc base spare held fuel cs x h hw => by
 obtain ⟨xs, n, _, rfl, hlen, hxs, hf⟩ := DataW.trod_struct Tryz.underlying71 h
 have hc : Tryz.prog.cellsOf 71 = 6 := by kernel_rfl
 obtain ⟨b0, k0, v0⟩ := fieldW (Opens.toW (opens_string Tryz.underlying9)) Tryz.underlying71 hw (i := 0) rfl (hf 0 _ rfl) (by rw [hxs]; decide)
 obtain ⟨b1, k1, v1⟩ := fieldW (Opens.toW (opens_slice Tryz.underlying65 opensNode3_ (by kernel_rfl) (by decide))) Tryz.underlying71 hw (i := 1) rfl (hf 1 _ rfl) (by rw [hxs]; decide)
 obtain ⟨b2, k2, v2⟩ := fieldW (opensW_slice Tryz.underlying66 opensW_part (by kernel_rfl) (by decide)) Tryz.underlying71 hw (i := 2) rfl (hf 2 _ rfl) (by rw [hxs]; decide)
 obtain ⟨b3, k3, v3⟩ := fieldW (Opens.toW (opens_slice Tryz.underlying67 opensSeam6_ (by kernel_rfl) (by decide))) Tryz.underlying71 hw (i := 3) rfl (hf 3 _ rfl) (by rw [hxs]; decide)
 obtain ⟨b4, k4, v4⟩ := fieldW (Opens.toW (opens_slice Tryz.underlying68 opensPack5_ (by kernel_rfl) (by decide))) Tryz.underlying71 hw (i := 4) rfl (hf 4 _ rfl) (by rw [hxs]; decide)
 obtain ⟨b5, k5, v5⟩ := fieldW (Opens.toW (opens_slice Tryz.underlying69 opensNeed3_ (by kernel_rfl) (by decide))) Tryz.underlying71 hw (i := 5) rfl (hf 5 _ rfl) (by rw [hxs]; decide)
 exact ⟨⟨b0, b1, b2, b3, b4, b5⟩, { len := short_of k2.2.1 bytes_part, fit := fun p hp => (k2.2.2 p hp).1, fq := fun p hp => (k2.2.2 p hp).2 }, v0.next (v1.next (v2.next (v3.next (v4.next (v5.next (VRC.done (n := 6) (hlen.trans hc)))))))⟩
theorem opensW_grade {w : World} : OpensW Tryz.prog w 90 Grade4 (fun g => g.gauges.length ≤ 17592186044416) := fun H enc base spare held fuel cs x h hw => by
 obtain ⟨xs, n, _, rfl, hlen, hxs, hf⟩ := DataW.trod_struct Tryz.underlying90 h
 have hc : Tryz.prog.cellsOf 90 = 4 := by kernel_rfl
 obtain ⟨b0, k0, v0⟩ := fieldW (Opens.toW (opens_string Tryz.underlying9)) Tryz.underlying90 hw (i := 0) rfl (hf 0 _ rfl) (by rw [hxs]; decide)
 obtain ⟨b1, k1, v1⟩ := fieldW (Opens.toW (opens_int Tryz.underlying3)) Tryz.underlying90 hw (i := 1) rfl (hf 1 _ rfl) (by rw [hxs]; decide)
 obtain ⟨b2, k2, v2⟩ := fieldW (Opens.toW (opens_int Tryz.underlying3)) Tryz.underlying90 hw (i := 2) rfl (hf 2 _ rfl) (by rw [hxs]; decide)
 obtain ⟨b3, k3, v3⟩ := fieldW (opensW_slice Tryz.underlying88 (Opens.toW (opens_int Tryz.underlying3)) (by kernel_rfl) (by decide)) Tryz.underlying90 hw (i := 3) rfl (hf 3 _ rfl) (by rw [hxs]; decide)
 exact ⟨⟨b0, b1, b2, b3⟩, by have := k3.2.1; rw [bytes_int, reach_eq] at this; show b3.length ≤ _; omega, v0.next (v1.next (v2.next (v3.next (VRC.done (n := 4) (hlen.trans hc)))))⟩
theorem opensW_mats {w : World} : OpensW Tryz.prog w 35 Mats FewM := fun H enc base spare held fuel cs x h hw => by
 obtain ⟨xs, n, _, rfl, hlen, hxs, hf⟩ := DataW.trod_struct Tryz.underlying35 h
 have hc : Tryz.prog.cellsOf 35 = 2 := by kernel_rfl
 obtain ⟨b0, k0, v0⟩ := fieldW (opensW_slice Tryz.underlying32 opensW_grade (by kernel_rfl) (by decide)) Tryz.underlying35 hw (i := 0) rfl (hf 0 _ rfl) (by rw [hxs]; decide)
 obtain ⟨b1, k1, v1⟩ := fieldW (opensW_slice Tryz.underlying33 (Opens.toW opens_sect) (by kernel_rfl) (by decide)) Tryz.underlying35 hw (i := 1) rfl (hf 1 _ rfl) (by rw [hxs]; decide)
 exact ⟨⟨b0, b1⟩, ⟨short_of k0.2.1 bytes_grade, short_of k1.2.1 bytes_sect, fun g hg => k0.2.2 g hg⟩, v0.next (v1.next (VRC.done (n := 2) (hlen.trans hc)))⟩
theorem opensW_names {w : World} : Opens Tryz.prog w 72 (List ByteArray) fun l => l.length ≤ maxLen ∧ ∀ a ∈ l, a.size ≤ maxLen := opens_slice Tryz.underlying72 (opens_string Tryz.underlying9) (by kernel_rfl) (by decide)
end Go.Proofs.YtngginofamlkkaaGreatDoor

namespace Go.Proofs.YtngginofamlkkaaGreatDoor
open Go Go.RowKit Go.ChangeShapes
set_option maxRecDepth 100000
theorem cs_pieces {z : Nat} : ∀ {c : List (List Value)} {cs : List Value}, cs.length = c.length * z → (∀ i p, c[i]? = some p → (cs.drop (i * z)).take z = p) → cs = c.flatten
 | [], cs, hl, _ => by simp at hl; simp [hl]
 | a :: c, cs, hl, h => by
  have h0 := h 0 a rfl
  simp only [Nat.zero_mul, List.drop_zero] at h0
  have ih := cs_pieces (z := z) (c := c) (cs := cs.drop z) (by rw [List.length_drop, hl, List.length_cons, Nat.succ_mul]; omega) fun i p hp => by
   rw [List.drop_drop]
   have := h (i + 1) p (by simpa using hp)
   rwa [Nat.succ_mul, Nat.add_comm] at this
  rw [List.flatten_cons, ← ih, ← h0, List.take_append_drop]
def flat1 : DataW Unit → List Value
 | .lit (.string b) => [.string ⟨b.toArray⟩]
 | .lit (.int k n) => [.int k n]
 | _ => []
section
variable {enc : TypeId × Value → Unit} {P : Program} {w : World} {base : Nat} {spare : Nat → Bool} {held : Bool} {fuel : Nat} {t e : TypeId} {cs : List Value} {x : DataW Unit × List MemPlace}
theorem flat_int {k : IntKind} (ht : P.underlying t = some (.int k)) (h : DataW.trod enc P w base spare held fuel t cs = some x) : cs = flat1 x.1 := by
 obtain ⟨s, rfl, rfl, _⟩ := DataW.trod_int ht h
 rfl
theorem flat_array {n : Nat} {F : DataW Unit → List Value} (ht : P.underlying t = some (.array n e)) (hz : P.cellsOf t = n * P.cellsOf e) (h : DataW.trod enc P w base spare held fuel t cs = some x)
  (hF : ∀ fuel cs x, DataW.trod enc P w base spare held fuel e cs = some x → cs = F x.1) : ∃ l, x.1 = .agg l ∧ cs = (l.map F).flatten := by
 obtain ⟨xs, m, _, rfl, hl, hxl, hi⟩ := DataW.trod_array ht h
 refine ⟨_, rfl, cs_pieces (z := P.cellsOf e) (by rw [List.length_map, List.length_map, hxl, hl, hz]) fun i p hp => ?_⟩
 rw [List.getElem?_map, List.getElem?_map] at hp
 cases hx : xs[i]? with
 | none => rw [hx] at hp; cases hp
 | some y =>
  rw [hx] at hp
  simp only [Option.map_some, Option.some.injEq] at hp
  subst hp
  have hin : i < n := by
   rw [← hxl]
   rcases Nat.lt_or_ge i xs.length with h' | h'
   ·exact h'
   ·rw [List.getElem?_eq_none h'] at hx; cases hx
  exact hF _ _ _ ((hi i hin).trans hx)
end
theorem glob_laid {W : World} (h : laidMetH Tryz.prog Rows.weightDisjointRow.laid W) : ∀ g cs, glob g = some cs → ∃ t fz, W.heap[g]? = some (.cells cs t fz) := by
 rw [MakeChecks.laidMetH_plain _ _ _ (by kernel_rfl)] at h
 obtain ⟨ps, ⟨g, t, cs, fuel, p, q, hg, ht, hv, htr, _⟩, _, _⟩ := h
 have heap : ∀ {n : String} {g : Nat} {cs : Array Value}, Tryz.prog.globalNamed n = some g → W.var? Tryz.prog n = some cs → ∃ t fz, W.heap[g]? = some (.cells cs t fz) := fun {n g cs} hg hv => by
  simp only [World.var?, hg, Option.bind_some] at hv
  split at hv
  ·rename_i c t fz hh
   cases hv
   exact ⟨t, fz, hh⟩
  ·cases hv
 obtain rfl : 3 = g := Option.some.inj ((show Tryz.prog.globalNamed "math/bits.deBruijn64tab" = some 3 by kernel_rfl).symm.trans hg)
 obtain rfl : 268 = t := Option.some.inj ((show (Tryz.prog.globals[3]?).map (·.type) = some 268 by kernel_rfl).symm.trans ht)
 obtain ⟨l, hl, hc⟩ := flat_array (F := flat1) Tryz.underlying268 (by kernel_rfl) htr fun fuel cs x hx => flat_int Tryz.underlying5 hx
 cases hl
 intro k c hk
 unfold glob at hk
 cases h1 : k.beq 3 with
 | false => rw [h1] at hk; cases hk
 | true =>
  rw [h1, cond_true] at hk
  obtain rfl := Nat.eq_of_beq_eq_true h1
  cases hk
  have := heap hg hv
  rwa [show cs = _ from Array.toList_inj.1 (hc.trans (by kernel_rfl))] at this
end Go.Proofs.YtngginofamlkkaaGreatDoor

namespace Go.Proofs.YtngginofamlkkaaGreatDoor
open Go Go.RowKit Go.ChangeShapes Go.WideShapes Go.ChangeAt Go.Deep Go.Joins
theorem Tryz.own : ownKnob Tryz.prog.godebug = none := by kernel_rfl
theorem Tryz.laidOut : laidOutB Tryz.prog = true := by kernel_rfl
theorem trodAll_stays {H : Type} {enc : TypeId × Value → H} {P : Program} {W W' : World} {sp' : Nat → Bool} (hl : laidOutB P = true) : ∀ {ts : List TypeId} {vs : List Value} {ds : List (DataW H)} {ps : List MemPlace},
  (ts.all fun t => P.readableRec t && decide (t < P.types.size)) = true → DataW.TrodAll enc P W 0 (fun _ => true) true ts vs ds ps → (∀ p ∈ ps, W.sameAt W' p) → (∀ p ∈ ps, sp' p.block = true) →
  DataW.TrodAll enc P W' 0 sp' true ts vs ds ps := by
 intro ts
 induction ts with
 | nil =>
  intro vs ds ps _ h _ _
  obtain ⟨rfl, rfl, rfl⟩ := trodAll_nil h
  exact trodAll_mk0
 | cons t ts ih =>
  intro vs ds ps hr h hs hp
  obtain ⟨v, vs', d, ds', p, q, rfl, rfl, rfl, hd, hrest⟩ := trodAll_cons h
  simp only [List.all_cons, Bool.and_eq_true, decide_eq_true_eq] at hr
  exact trodAll_cons_mk (WideElems.Trod_stays hl hr.1.1 hr.1.2 hd (fun x hx => hs x (by simp [hx])) (fun x hx => hp x (by simp [hx])))
   (ih hr.2 hrest (fun x hx => hs x (by simp [hx])) (fun x hx => hp x (by simp [hx])))
end Go.Proofs.YtngginofamlkkaaGreatDoor

