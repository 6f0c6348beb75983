/-
  Put together out of several texts, each in its own namespace's block. Conditions: as each theorem states them.
-/
import Derived.Test.YtngginofamlkkaaGreatDoorQPux
import Derived.Test.YtngginofamlkkaaGreatDoorQPwa
import Derived.Test.YtngginofamlkkaaGreatDoorQSh
import Derived.Shelf.Slices.Clone
import Derived.Handy
import Derived.Below
import Derived.Laws.OwnMore
import Derived.Deep.AppendLies
import Derived.Deep.Draws
import Derived.Laws.Rows
import Derived.Lib.Hide
import Derived.Lib.SmallJoins
import Derived.Deep.Slices
import Derived.Deep.Fields
import Derived.ChangeSame
import Derived.ProofKit
import Derived.LaidMore
import Derived.OpenShut
import Derived.Stop.Joined
import Derived.Test.YtngginofamlkkaaGreatDoorChecked
import Derived.Test.YtngginofamlkkaaGreatDoorQGb
noncomputable section
namespace Go.Proofs.YtngginofamlkkaaGreatDoor
open Go Go.RowKit
set_option maxRecDepth 100000
set_option maxHeartbeats 8000000
def c_rchk (args : List Value) (Post : Value → Prop) : Prop := ∃ (o : List Pt) (hs : List (List Pt)), args = [shapeV o hs] ∧ Short o ∧ Short hs ∧ (∀ h ∈ hs, Short h) ∧ Post (.int .i64 (shapeCheck o hs))
def vcRc : VCall := tabCall [⟨120, c_pchk⟩, ⟨121, c_par2⟩, ⟨122, c_within⟩, ⟨123, c_apart⟩] noCall
abbrev ltRc : List (Nat × List Nat) := [(9, [1, 24, 25, 26]), (17, [1, 5, 24, 25, 26, 49, 50, 51])]
theorem e_rchk (n m : Nat) (A B : Array Value) (H : HT) (Post : PV) : vcP Tryz.prog vcRc 51 ltRc [.agg #[tree 2 n A, tree 1 m B]] H Post = (T4 (T2 (pIf (decide ((↑m : Int) > 8)) (T2 (Post (vi 12))) (T2 (∃ (l : List Pt), eqL [tree 2 n A] [trPt l] ∧ Short l ∧ T2 (True ∧ pIf (!decide (polyCheck l = 0)) (T2 (True ∧ Post (vi (polyCheck l)))) (T2 (∃ (l : List Pt), eqL [tree 2 n A] [trPt l] ∧ Short l ∧ True ∧ pIf (decide (area2P l ≤ 0)) (T2 (Post (vi 17))) (T4 (True ∧ (True ∧ True) ∧ H (lpC Tryz.prog 51 9) (lpK Tryz.prog 51 9) (stV [(1, some (pt 0)), (24, some (tree 1 m B)), (25, some (vi (↑m : Int))), (26, some (vi 0))] [(0, some (AObj.cells [tree 2 n A, tree 1 m B] true))] 1))))))))))) := by kernel_rfl
theorem l_rchk (n m : Nat) (k : Int) (A B : Array Value) (H : HT) (Post : PV) : vcLP Tryz.prog vcRc 51 [.agg #[tree 2 n A, tree 1 m B]] ltRc 9 (stV [(1, some (.pointer (some ⟨0, 0, none⟩))), (24, some (tree 1 m B)), (25, some (.int .i64 m)), (26, some (.int .i64 k))] [(0, some (.cells [tree 2 n A, tree 1 m B] true))] 1) H Post = (let q1 := cellAt B (Int.toNat k) 0; True ∧ pIf (decide (k < (↑m : Int))) (True ∧ (0 ≤ k ∧ k < (↑m : Int)) ∧ cellAt B (Int.toNat k) 0 = tree 2 (toN q1) (toE q1) ∧ T2 (True ∧ ∃ (l : List Pt), eqL [tree 2 (toN q1) (toE q1)] [trPt l] ∧ Short l ∧ T2 (True ∧ pIf (!decide (polyCheck l = 0)) (T2 (True ∧ Post (vi (polyCheck l)))) (True ∧ ∃ (l : List Pt), eqL [tree 2 (toN q1) (toE q1)] [trPt l] ∧ Short l ∧ True ∧ pIf (decide (area2P l ≥ 0)) (T4 (Post (vi 17))) (T4 (∃ (h : List Pt), ∃ (o : List Pt), eqL [tree 2 (toN q1) (toE q1), tree 2 n A] [trPt h, trPt o] ∧ List.length h ≤ 32 ∧ List.length o ≤ 32 ∧ (∀ (x : Pt), x ∈ h → Nr x) ∧ (∀ (x : Pt), x ∈ o → Nr x) ∧ pIf (decide (withinC h o)) (T4 (True ∧ (0 ≤ k ∧ True ∧ 0 ≤ Int.toNat k ∧ Int.toNat k ≤ m) ∧ T2 (True ∧ (True ∧ True) ∧ H (lpC Tryz.prog 51 17) (lpK Tryz.prog 51 17) (stV [(1, some (pt 0)), (5, some (tree 2 (toN q1) (toE q1))), (24, some (tree 1 m B)), (25, some (vi (↑m : Int))), (26, some (vi k)), (49, some (tree 1 (Int.toNat k - 0) (Array.extract B 0 (Int.toNat k)))), (50, some (vi (↑(Int.toNat k - 0) : Int))), (51, some (vi 0))] [(0, some (AObj.cells [tree 2 n A, tree 1 m B] true))] 1)))) (T4 (Post (vi 17))))))))) (T2 (Post (vi 0)))) := by kernel_rfl
theorem m_rchk (n m p r : Nat) (k j : Int) (A B C D : Array Value) (H : HT) (Post : PV) : vcLP Tryz.prog vcRc 51 [.agg #[tree 2 n A, tree 1 m B]] ltRc 17 (stV [(1, some (.pointer (some ⟨0, 0, none⟩))), (5, some (tree 2 p C)), (24, some (tree 1 m B)), (25, some (.int .i64 m)), (26, some (.int .i64 k)), (49, some (tree 1 r D)), (50, some (.int .i64 r)), (51, some (.int .i64 j))] [(0, some (.cells [tree 2 n A, tree 1 m B] true))] 1) H Post = (True ∧ pIf (decide (j < (↑r : Int))) ((0 ≤ j ∧ j < (↑r : Int)) ∧ cellAt D (Int.toNat j) 0 = tree 2 (toN (cellAt D (Int.toNat j) 0)) (toE (cellAt D (Int.toNat j) 0)) ∧ T2 (True ∧ ∃ (p_1 : List Pt), ∃ (q : List Pt), eqL [tree 2 p C, tree 2 (toN (cellAt D (Int.toNat j) 0)) (toE (cellAt D (Int.toNat j) 0))] [trPt p_1, trPt q] ∧ 0 < List.length p_1 ∧ 0 < List.length q ∧ List.length p_1 ≤ 32 ∧ List.length q ≤ 32 ∧ (∀ (x : Pt), x ∈ p_1 → Nr x) ∧ (∀ (x : Pt), x ∈ q → Nr x) ∧ pIf (decide (apartC p_1 q)) (T4 ((True ∧ True) ∧ H (lpC Tryz.prog 51 17) (lpK Tryz.prog 51 17) (stV [(1, some (pt 0)), (5, some (tree 2 p C)), (24, some (tree 1 m B)), (25, some (vi (↑m : Int))), (26, some (vi k)), (49, some (tree 1 r D)), (50, some (vi (↑r : Int))), (51, some (vi (IntKind.wrap IntKind.i64 (j + 1))))] [(0, some (AObj.cells [tree 2 n A, tree 1 m B] true))] 1))) (T2 (True ∧ Post (vi 17))))) (T2 (True ∧ (True ∧ True) ∧ H (lpC Tryz.prog 51 9) (lpK Tryz.prog 51 9) (stV [(1, some (pt 0)), (24, some (tree 1 m B)), (25, some (vi (↑m : Int))), (26, some (vi (IntKind.wrap IntKind.i64 (k + 1))))] [(0, some (AObj.cells [tree 2 n A, tree 1 m B] true))] 1)))) := by kernel_rfl
def c_cont (args : List Value) (Post : Value → Prop) : Prop := ∃ (o : List Pt) (hs : List (List Pt)), args = [shapeV o hs] ∧ hs.length ≤ 8 ∧ Post (trPts (o :: hs))
theorem e_cont (n m : Nat) (A B : Array Value) (H : HT) (Post : PV) : vcP Tryz.prog noCall 139 [] [.agg #[tree 2 n A, tree 1 m B]] H Post = (T8 (pIf (Nat.beq m 0) (true = true ∧ True ∧ (1 ≤ 1 ∧ NLs [tree 2 n A]) ∧ Post (tree 1 1 #[tree 2 n A])) (1 + m ≤ 33554432 ∧ List.all (List.flatMap (fun (u : Value) => Array.toList (Value.cells u)) (Array.toList B)) single = true ∧ List.length (List.flatMap (fun (u : Value) => Array.toList (Value.cells u)) (Array.toList B)) = m * 1 ∧ 1 = 1 ∧ True ∧ (0 + (1 + m) * 1 ≤ List.length ([(tree 2 n A)] ++ List.flatMap (fun (u : Value) => Array.toList (Value.cells u)) (Array.toList B)) ∧ NLs (tree 2 n A :: (List.flatMap (fun (u : Value) => Array.toList (Value.cells u)) (Array.toList B)))) ∧ Post (tree 1 (1 + m) (chunks 1 (1 + m) (List.drop 0 ([(tree 2 n A)] ++ List.flatMap (fun (u : Value) => Array.toList (Value.cells u)) (Array.toList B)))))))) := by kernel_rfl
def vcRa : VCall := tabCall [⟨51, c_rchk⟩, ⟨139, c_cont⟩, ⟨121, c_par2⟩, ⟨141, c_pmom⟩] noCall
theorem e_rar2 (n m : Nat) (A B : Array Value) (H : HT) (Post : PV) : vcP Tryz.prog vcRa 64 [(5, [3, 10, 11, 12])] [.agg #[tree 2 n A, tree 1 m B]] H Post = (T2 (True ∧ ∃ (o : List Pt), ∃ (hs : List (List Pt)), eqL [Value.agg #[tree 2 n A, tree 1 m B]] [shapeV o hs] ∧ Short o ∧ Short hs ∧ (∀ (h : List Pt), h ∈ hs → Short h) ∧ True ∧ pIf (!decide (shapeCheck o hs = 0)) (T2 (Post (vi 0))) (T2 (∃ (o : List Pt), ∃ (hs : List (List Pt)), eqL [Value.agg #[tree 2 n A, tree 1 m B]] [shapeV o hs] ∧ List.length hs ≤ 8 ∧ T4 (H (lpC Tryz.prog 64 5) (lpK Tryz.prog 64 5) (stV [(3, some (vi 0)), (10, some (tree 1 (List.length (o :: hs)) (encL (o :: hs)))), (11, some (vi (↑(List.length (o :: hs)) : Int))), (12, some (vi 0))] [] 0)))))) := by kernel_rfl
theorem l_rar2 (n m q : Nat) (k s : Int) (A B C : Array Value) (H : HT) (Post : PV) : vcLP Tryz.prog vcRa 64 [.agg #[tree 2 n A, tree 1 m B]] [(5, [3, 10, 11, 12])] 5 (stV [(3, some (.int .i64 s)), (10, some (tree 1 q C)), (11, some (.int .i64 q)), (12, some (.int .i64 k))] [] 0) H Post = (True ∧ pIf (decide (k < (↑q : Int))) ((0 ≤ k ∧ k < (↑q : Int)) ∧ cellAt C (Int.toNat k) 0 = tree 2 (toN (cellAt C (Int.toNat k) 0)) (toE (cellAt C (Int.toNat k) 0)) ∧ T2 (True ∧ ∃ (l : List Pt), eqL [tree 2 (toN (cellAt C (Int.toNat k) 0)) (toE (cellAt C (Int.toNat k) 0))] [trPt l] ∧ Short l ∧ T4 (T2 (H (lpC Tryz.prog 64 5) (lpK Tryz.prog 64 5) (stV [(3, some (vi (IntKind.wrap IntKind.i64 (s + area2P l)))), (10, some (tree 1 q C)), (11, some (vi (↑q : Int))), (12, some (vi (IntKind.wrap IntKind.i64 (k + 1))))] [] 0))))) (T2 (True ∧ Post (vi s)))) := by kernel_rfl
theorem e_rmom (n m : Nat) (A B : Array Value) (H : HT) (Post : PV) : vcP Tryz.prog vcRa 68 [(5, [4, 5, 14, 15, 16])] [.agg #[tree 2 n A, tree 1 m B]] H Post = (T4 (∃ (o : List Pt), ∃ (hs : List (List Pt)), eqL [Value.agg #[tree 2 n A, tree 1 m B]] [shapeV o hs] ∧ Short o ∧ Short hs ∧ (∀ (h : List Pt), h ∈ hs → Short h) ∧ True ∧ pIf (!decide (shapeCheck o hs = 0)) (T2 ((T2 (True)) ∧ Post (Value.tuple #[vi 0, vi 0]))) (T2 (True ∧ ∃ (o : List Pt), ∃ (hs : List (List Pt)), eqL [Value.agg #[tree 2 n A, tree 1 m B]] [shapeV o hs] ∧ List.length hs ≤ 8 ∧ T4 (H (lpC Tryz.prog 68 5) (lpK Tryz.prog 68 5) (stV [(4, some (vi 0)), (5, some (vi 0)), (14, some (tree 1 (List.length (o :: hs)) (encL (o :: hs)))), (15, some (vi (↑(List.length (o :: hs)) : Int))), (16, some (vi 0))] [] 0)))))) := by kernel_rfl
theorem l_rmom (n m q : Nat) (k s t : Int) (A B C : Array Value) (H : HT) (Post : PV) : vcLP Tryz.prog vcRa 68 [.agg #[tree 2 n A, tree 1 m B]] [(5, [4, 5, 14, 15, 16])] 5 (stV [(4, some (.int .i64 s)), (5, some (.int .i64 t)), (14, some (tree 1 q C)), (15, some (.int .i64 q)), (16, some (.int .i64 k))] [] 0) H Post = (True ∧ pIf (decide (k < (↑q : Int))) ((0 ≤ k ∧ k < (↑q : Int)) ∧ cellAt C (Int.toNat k) 0 = tree 2 (toN (cellAt C (Int.toNat k) 0)) (toE (cellAt C (Int.toNat k) 0)) ∧ T2 (∃ (l : List Pt), eqL [tree 2 (toN (cellAt C (Int.toNat k) 0)) (toE (cellAt C (Int.toNat k) 0))] [trPt l] ∧ Short l ∧ T16 (True ∧ H (lpC Tryz.prog 68 5) (lpK Tryz.prog 68 5) (stV [(4, some (vi (IntKind.wrap IntKind.i64 (s + mom6X l)))), (5, some (vi (IntKind.wrap IntKind.i64 (t + mom6Y l)))), (14, some (tree 1 q C)), (15, some (vi (↑q : Int))), (16, some (vi (IntKind.wrap IntKind.i64 (k + 1))))] [] 0)))) (T4 ((T2 (True)) ∧ Post (Value.tuple #[vi s, vi t])))) := by kernel_rfl
theorem encL_take {α : Type} [Enc α] (l : List α) (k : Nat) : Array.extract (encL l) 0 k = encL (l.take k) := by
 unfold encL
 rw [List.extract_toArray, List.extract_eq_take_drop, Nat.sub_zero, List.drop_zero, List.map_take]
theorem vcRc_ok : VCallOk Tryz.prog vcRc := tabCall_ok (by
 intro e he
 simp only [List.mem_cons, List.not_mem_nil, or_false] at he
 rcases he with rfl | rfl | rfl | rfl
 ·exact ok_pchk
 ·exact ok_par2
 ·exact ok_within
 ·exact ok_apart) noCall_ok
theorem firstErr_at {f : Nat → Int} {k : Nat} : ∀ {n : Nat}, k < n → (∀ i, i < k → f i = 0) → f k ≠ 0 → firstErr f n = f k
 | 0, h, _, _ => by omega
 | n + 1, h, h0, hk => by
  unfold firstErr
  rcases Nat.lt_or_ge k n with h1 | h1
  ·rw [firstErr_at h1 h0 hk, if_pos hk]
  ·have : k = n := by omega
   subst this
   rw [if_neg (by rw [firstErr_zero.2 h0]; exact fun h => h rfl)]
theorem shapeCheck_at {o : List Pt} {hs : List (List Pt)} (h1 : ¬ 8 < hs.length) (h2 : polyCheck o = 0) (h3 : ¬ area2P o ≤ 0) : shapeCheck o hs = firstErr (holeErr o hs) hs.length := by
 unfold shapeCheck
 rw [if_neg h1, if_neg (fun h => h h2), if_neg h3]
theorem ok_rchk : EntOk Tryz.prog ⟨51, c_rchk⟩ := by
 rintro args Post ⟨o, hs, rfl, so, ss, sh, h⟩
 refine pure_P vcRc_ok mixed (by kernel_rfl) (by kernel_rfl) _ (e_rchk o.length hs.length (encL o) (encL hs) _ _) ?_
 simp only [true_and]
 refine ifD (fun h1 => ?_) (fun h1 => ⟨o, rfl, so, ifN (fun h2 => ?_) (fun h2 => ⟨o, rfl, so, ifD (fun h3 => ?_) (fun h3 => ?_)⟩)⟩)
 ·unfold shapeCheck at h
  rwa [if_pos (by omega)] at h
 ·unfold shapeCheck at h
  rwa [if_neg (by omega), if_pos h2] at h
 ·unfold shapeCheck at h
  rwa [if_neg (by omega), if_neg (fun h => h h2), if_pos h3] at h
 rw [shapeCheck_at (by omega) h2 h3] at h
 obtain ⟨_, o32, on⟩ := check_near h2
 refine down (n := hs.length) (p := fun k => (∀ i, i < k → holeErr o hs i = 0) → OkP 51 [shapeV o hs] 9 Post (stV [(1, some (.pointer (some ⟨0, 0, none⟩))), (24, some (trPts hs)), (25, some (.int .i64 hs.length)), (26, some (.int .i64 k))] [(0, some (.cells [trPt o, trPts hs] true))] 1)) (fun hall => ?_) (fun k k1 ih hall => ?_) (fun i hi => by omega)
 ·refine ok_P vcRc_ok mixed _ (l_rchk o.length hs.length hs.length (encL o) (encL hs) _ _) ?_
  rw [firstErr_zero.2 hall] at h
  simp only [true_and]
  exact ifD (fun hlt => by omega) (fun _ => h)
 ·refine ok_P vcRc_ok mixed _ (l_rchk o.length hs.length k (encL o) (encL hs) _ _) ?_
  have hk : ((k : Nat) : Int).toNat = k := Int.toNat_natCast k
  have bad : ∀ e : Int, holeErr o hs k = e → e ≠ 0 → Post (.int .i64 e) := fun e he hn => by
   rw [firstErr_at k1 hall (by rw [he]; exact hn), he] at h
   exact h
  simp only [true_and, and_true, hk, cell_pts k1, toN_tree, toE_tree, encL_take]
  have gd : hs.getD k [] = hs[k] := getD_at k1
  unfold holeErr at bad
  rw [gd] at bad
  refine ifD (fun _ => ⟨⟨by omega, by omega⟩, hs[k], rfl, sh _ (List.getElem_mem k1), ifN (fun g1 => bad _ (by rw [if_pos g1]) g1) (fun g1 => ?_)⟩) (fun h' => by omega)
  obtain ⟨k3, k32, kn⟩ := check_near g1
  have nz : ¬ (polyCheck hs[k] ≠ 0) := fun h => h g1
  rw [if_neg nz] at bad
  refine ⟨hs[k], rfl, sh _ (List.getElem_mem k1), ifD (fun g2 => bad 17 (by rw [if_pos (.inl g2)]) (by decide)) (fun g2 => ⟨hs[k], o, rfl, k32, o32, kn, on, ifD (fun g3 => ?_) (fun g3 => bad 17 (by rw [if_pos (.inr (.inl g3))]) (by decide))⟩)⟩
  have lt : (hs.take k).length = k := by rw [List.length_take]; omega
  refine ⟨⟨by omega, by omega, by omega⟩, ?_⟩
  rw [Nat.sub_zero]
  have all : ∀ i, i < k → (polyCheck hs[i]! = 0) := fun i hi => by
   have := (holeErr_zero.1 (hall i hi)).1
   rw [getD_at (show i < hs.length by omega)] at this
   rw [getElem!_pos hs i (by omega)]
   exact this
  have key := down (n := k) (p := fun j => (∀ t, t < j → ∀ (ht : t < hs.length), apartC hs[k] hs[t]) → OkP 51 [shapeV o hs] 17 Post (stV [(1, some (.pointer (some ⟨0, 0, none⟩))), (5, some (trPt hs[k])), (24, some (trPts hs)), (25, some (.int .i64 hs.length)), (26, some (.int .i64 k)), (49, some (tree 1 k (encL (hs.take k)))), (50, some (.int .i64 k)), (51, some (.int .i64 j))] [(0, some (.cells [trPt o, trPts hs] true))] 1)) (fun hin => by
   refine ok_P vcRc_ok mixed _ (m_rchk o.length hs.length hs[k].length k k k (encL o) (encL hs) (encL hs[k]) (encL (hs.take k)) _ _) ?_
   simp only [true_and, and_true, wrapSucc (show k < 2 ^ 62 by omega)]
   refine ifD (fun hlt => by omega) (fun _ => ih fun i hi => ?_)
   rcases Nat.lt_or_ge i k with h' | h'
   ·exact hall i h'
   ·rw [show i = k by omega]
    refine holeErr_zero.2 ?_
    rw [gd]
    refine ⟨g1, ?_, g3, fun t ht => ?_⟩
    ·unfold area2P at g2
     rw [if_pos g1] at g2
     omega
    ·rw [getD_at (show t < hs.length by omega)]
     exact hin t ht (by omega)) (fun j j1 jh hin => by
   refine ok_P vcRc_ok mixed _ (m_rchk o.length hs.length hs[k].length k k j (encL o) (encL hs) (encL hs[k]) (encL (hs.take k)) _ _) ?_
   have hj : ((j : Nat) : Int).toNat = j := Int.toNat_natCast j
   have jl : j < (hs.take k).length := by omega
   have je : (hs.take k)[j] = hs[j] := List.getElem_take
   have jz : polyCheck hs[j] = 0 := by
    have := all j j1
    rwa [getElem!_pos hs j (by omega)] at this
   obtain ⟨j3, j32, jn⟩ := check_near jz
   simp only [true_and, and_true, hj, cell_pts jl, je, toN_tree, toE_tree, wrapSucc (show j < 2 ^ 62 by omega)]
   refine ifD (fun _ => ⟨⟨by omega, by omega⟩, hs[k], hs[j], rfl, by omega, by omega, k32, j32, kn, jn, ifD (fun ha => jh fun t ht tl => ?_) (fun ha => bad 17 ?_ (by decide))⟩) (fun h' => by omega)
   ·rcases Nat.lt_or_ge t j with h' | h'
    ·exact hin t h' tl
    ·have : t = j := by omega
     subst this
     exact ha
   ·rw [if_pos (.inr (.inr ⟨j, j1, by rw [getD_at (show j < hs.length by omega)]; exact ha⟩))]) (fun t ht => by omega)
  exact key
theorem flat_pts (l : List (List Pt)) : List.flatMap (fun u : Value => u.cells.toList) (encL l).toList = l.map fun a => trPt a := by
 unfold encL
 rw [List.toList_toArray]
 induction l with
 | nil => rfl
 | cons a l ih =>
  rw [List.map_cons, List.flatMap_cons, ih, List.map_cons]
  rfl
theorem ok_cont : EntOk Tryz.prog ⟨139, c_cont⟩ := by
 rintro args Post ⟨o, hs, rfl, h8, h⟩
 refine pure_P noCall_ok mixed (by kernel_rfl) (by kernel_rfl) _ (e_cont o.length hs.length (encL o) (encL hs) _ _) ?_
 simp only [true_and, flat_pts]
 have en : encL (o :: hs) = (trPt o :: hs.map fun a => trPt a).toArray := by
  unfold encL
  rw [List.map_cons]
  rfl
 refine pIf_intro (fun hm => ?_) (fun hm => ?_)
 ·have : hs = [] := List.eq_nil_of_length_eq_zero (Nat.eq_of_beq_eq_true hm)
  subst this
  refine ⟨⟨Nat.le_refl _, fun v hv => ?_⟩, h⟩
  simp only [List.mem_cons, List.not_mem_nil, or_false] at hv
  subst hv
  rfl
 ·have nls : NLs (trPt o :: hs.map fun a => trPt a) := fun v hv => by
   rcases List.mem_cons.1 hv with rfl | hv
   ·rfl
   ·obtain ⟨a, _, rfl⟩ := List.mem_map.1 hv
    rfl
  refine ⟨by omega, ?_, by rw [List.length_map, Nat.mul_one], ⟨?_, nls⟩, ?_⟩
  ·rw [List.all_eq_true]
   intro v hv
   obtain ⟨a, _, rfl⟩ := List.mem_map.1 hv
   rfl
  ·simp
   omega
  ·have e : tree 1 (1 + hs.length) (chunks 1 (1 + hs.length) (List.drop 0 ([trPt o] ++ hs.map fun a => trPt a))) = trPts (o :: hs) := by
    have ec : chunks 1 (1 + hs.length) (List.drop 0 ([trPt o] ++ hs.map fun a => trPt a)) = encL (o :: hs) := by
     rw [en]
     show ((List.drop 0 (trPt o :: hs.map fun a => trPt a)).take (1 + hs.length)).toArray = _
     rw [List.drop_zero, List.take_of_length_le (by simp; omega)]
    rw [ec, Nat.add_comm]
    rfl
   rw [e]
   exact h
def overC (g : List Pt → Int) (o : List Pt) (hs : List (List Pt)) (i : Nat) : Int := g ((o :: hs).getD i [])
def rArea (o : List Pt) (hs : List (List Pt)) : Int := if shapeCheck o hs = 0 then sumTo (overC area2P o hs) (hs.length + 1) else 0
def rMomX (o : List Pt) (hs : List (List Pt)) : Int := if shapeCheck o hs = 0 then sumTo (overC mom6X o hs) (hs.length + 1) else 0
def rMomY (o : List Pt) (hs : List (List Pt)) : Int := if shapeCheck o hs = 0 then sumTo (overC mom6Y o hs) (hs.length + 1) else 0
def c_rar2 (args : List Value) (Post : Value → Prop) : Prop := ∃ (o : List Pt) (hs : List (List Pt)), args = [shapeV o hs] ∧ Short o ∧ Short hs ∧ (∀ h ∈ hs, Short h) ∧ Post (.int .i64 (rArea o hs))
def c_rmom (args : List Value) (Post : Value → Prop) : Prop := ∃ (o : List Pt) (hs : List (List Pt)), args = [shapeV o hs] ∧ Short o ∧ Short hs ∧ (∀ h ∈ hs, Short h) ∧ Post (.tuple #[.int .i64 (rMomX o hs), .int .i64 (rMomY o hs)])
theorem sumTo_32 {f : Nat → Int} {M : Int} (hM : 0 ≤ M) (h : ∀ k, -M ≤ f k ∧ f k ≤ M) {n : Nat} (hn : n ≤ 32) : -(M * 32) ≤ sumTo f n ∧ sumTo f n ≤ M * 32 := by
 have h2 := sumTo_bd h n
 have h3 := Int.mul_le_mul_of_nonneg_left (show (n : Int) ≤ 32 by omega) hM
 omega
theorem area2_bd (l : List Pt) : -68719476736 ≤ area2P l ∧ area2P l ≤ 68719476736 := by
 unfold area2P
 split
 ·rename_i h
  obtain ⟨h3, h32, hn⟩ := check_near h
  have := sumTo_32 (by decide) (shareP_bd hn (by omega)) h32
  unfold areaP
  omega
 ·omega
theorem mom6X_bd (l : List Pt) : -4503599627370496 ≤ mom6X l ∧ mom6X l ≤ 4503599627370496 := by
 unfold mom6X
 split
 ·rename_i h
  obtain ⟨h3, h32, hn⟩ := check_near h
  have := sumTo_32 (by decide) (momX_bd hn (by omega)) h32
  omega
 ·omega
theorem mom6Y_bd (l : List Pt) : -4503599627370496 ≤ mom6Y l ∧ mom6Y l ≤ 4503599627370496 := by
 unfold mom6Y
 split
 ·rename_i h
  obtain ⟨h3, h32, hn⟩ := check_near h
  have := sumTo_32 (by decide) (momY_bd hn (by omega)) h32
  omega
 ·omega
theorem over_wrap {g : List Pt → Int} {o : List Pt} {hs : List (List Pt)} (h : ∀ l, -4503599627370496 ≤ g l ∧ g l ≤ 4503599627370496) {k : Nat} (hk : k < 32) : IntKind.wrap .i64 (sumTo (overC g o hs) k + overC g o hs k) = sumTo (overC g o hs) (k + 1) := by
 have h1 : -4503599627370496 ≤ overC g o hs k ∧ overC g o hs k ≤ 4503599627370496 := h _
 have h2 := sumTo_bd (f := overC g o hs) (M := 4503599627370496) (fun i => h _) k
 rw [wrap64 (by omega) (by omega)]
 rfl
theorem vcRa_ok : VCallOk Tryz.prog vcRa := tabCall_ok (by
 intro e he
 simp only [List.mem_cons, List.not_mem_nil, or_false] at he
 rcases he with rfl | rfl | rfl | rfl
 ·exact ok_rchk
 ·exact ok_cont
 ·exact ok_par2
 ·exact ok_pmom) noCall_ok
theorem short_all {o : List Pt} {hs : List (List Pt)} (so : Short o) (sh : ∀ h ∈ hs, Short h) : ∀ h ∈ o :: hs, Short h := fun h hh => by
 rcases List.mem_cons.1 hh with rfl | hh
 ·exact so
 ·exact sh h hh
theorem ok_rar2 : EntOk Tryz.prog ⟨64, c_rar2⟩ := by
 rintro args Post ⟨o, hs, rfl, so, ss, sh, h⟩
 refine pure_P vcRa_ok mixed (by kernel_rfl) (by kernel_rfl) _ (e_rar2 o.length hs.length (encL o) (encL hs) _ _) ?_
 simp only [true_and]
 unfold rArea at h
 refine ⟨o, hs, rfl, so, ss, sh, ifN (fun h1 => ?_) (fun h1 => ?_)⟩
 ·rwa [if_neg h1] at h
 rw [if_pos h1] at h
 have h8 := ((shapeCheck_zero o hs).1 h1).few
 refine ⟨o, hs, rfl, h8, ?_⟩
 refine down (n := (o :: hs).length) (p := fun k => OkP 64 [shapeV o hs] 5 Post (stV [(3, some (.int .i64 (sumTo (overC area2P o hs) k))), (10, some (trPts (o :: hs))), (11, some (.int .i64 (o :: hs).length)), (12, some (.int .i64 k))] [] 0)) ?_ (fun k k1 ih => ?_)
 ·refine ok_P vcRa_ok mixed _ (l_rar2 o.length hs.length (o :: hs).length (o :: hs).length (sumTo (overC area2P o hs) (o :: hs).length) (encL o) (encL hs) (encL (o :: hs)) _ _) ?_
  simp only [true_and]
  exact ifD (fun hlt => by omega) (fun _ => h)
 ·refine ok_P vcRa_ok mixed _ (l_rar2 o.length hs.length (o :: hs).length k (sumTo (overC area2P o hs) k) (encL o) (encL hs) (encL (o :: hs)) _ _) ?_
  have hk : ((k : Nat) : Int).toNat = k := Int.toNat_natCast k
  have kl : k < 32 := by rw [List.length_cons] at k1; omega
  simp only [true_and, and_true, hk, cell_pts k1, toN_tree, toE_tree, wrapSucc (show k < 2 ^ 62 by omega)]
  refine ifD (fun _ => ⟨⟨by omega, by omega⟩, (o :: hs)[k], rfl, short_all so sh _ (List.getElem_mem k1), ?_⟩) (fun h' => by omega)
  have e : area2P (o :: hs)[k] = overC area2P o hs k := by unfold overC; rw [getD_at k1]
  rw [e, over_wrap (fun l => by have := area2_bd l; omega) kl]
  exact ih
theorem ok_rmom : EntOk Tryz.prog ⟨68, c_rmom⟩ := by
 rintro args Post ⟨o, hs, rfl, so, ss, sh, h⟩
 refine pure_P vcRa_ok mixed (by kernel_rfl) (by kernel_rfl) _ (e_rmom o.length hs.length (encL o) (encL hs) _ _) ?_
 simp only [true_and]
 unfold rMomX rMomY at h
 refine ⟨o, hs, rfl, so, ss, sh, ifN (fun h1 => ?_) (fun h1 => ?_)⟩
 ·rwa [if_neg h1, if_neg h1] at h
 rw [if_pos h1, if_pos h1] at h
 have h8 := ((shapeCheck_zero o hs).1 h1).few
 refine ⟨o, hs, rfl, h8, ?_⟩
 refine down (n := (o :: hs).length) (p := fun k => OkP 68 [shapeV o hs] 5 Post (stV [(4, some (.int .i64 (sumTo (overC mom6X o hs) k))), (5, some (.int .i64 (sumTo (overC mom6Y o hs) k))), (14, some (trPts (o :: hs))), (15, some (.int .i64 (o :: hs).length)), (16, some (.int .i64 k))] [] 0)) ?_ (fun k k1 ih => ?_)
 ·refine ok_P vcRa_ok mixed _ (l_rmom o.length hs.length (o :: hs).length (o :: hs).length (sumTo (overC mom6X o hs) (o :: hs).length) (sumTo (overC mom6Y o hs) (o :: hs).length) (encL o) (encL hs) (encL (o :: hs)) _ _) ?_
  simp only [true_and]
  exact ifD (fun hlt => by omega) (fun _ => h)
 ·refine ok_P vcRa_ok mixed _ (l_rmom o.length hs.length (o :: hs).length k (sumTo (overC mom6X o hs) k) (sumTo (overC mom6Y o hs) k) (encL o) (encL hs) (encL (o :: hs)) _ _) ?_
  have hk : ((k : Nat) : Int).toNat = k := Int.toNat_natCast k
  have kl : k < 32 := by rw [List.length_cons] at k1; omega
  simp only [true_and, and_true, hk, cell_pts k1, toN_tree, toE_tree, wrapSucc (show k < 2 ^ 62 by omega)]
  refine ifD (fun _ => ⟨⟨by omega, by omega⟩, (o :: hs)[k], rfl, short_all so sh _ (List.getElem_mem k1), ?_⟩) (fun h' => by omega)
  have e : mom6X (o :: hs)[k] = overC mom6X o hs k := by unfold overC; rw [getD_at k1]
  have e2 : mom6Y (o :: hs)[k] = overC mom6Y o hs k := by unfold overC; rw [getD_at k1]
  rw [e, e2, over_wrap mom6X_bd kl, over_wrap mom6Y_bd kl]
  exact ih
theorem sumTo_list {α : Type} (d : α) (g : α → Int) (l : List α) : sumTo (fun i => g (l.getD i d)) l.length = (l.map g).sum := by
 rw [sumTo_isum]
 exact isum_list d g l
theorem over_sum {g g' : List Pt → Int} {o : List Pt} {hs : List (List Pt)} (h : ∀ l ∈ o :: hs, g l = g' l) : sumTo (overC g o hs) (hs.length + 1) = g' o + (hs.map g').sum := by
 have e := sumTo_list [] g (o :: hs)
 have e2 : (fun i => g ((o :: hs).getD i [])) = overC g o hs := rfl
 rw [e2, List.length_cons] at e
 rw [e, List.map_cons, List.sum_cons, h o (by simp)]
 congr 2
 exact List.map_congr_left fun l hl => h l (by simp [hl])
theorem ShapeOk.all {o : List Pt} {hs : List (List Pt)} (h : ShapeOk o hs) : ∀ l ∈ o :: hs, polyCheck l = 0 := fun l hl => by
 rcases List.mem_cons.1 hl with rfl | hl
 ·exact h.out
 ·exact (h.hole l hl).1
theorem ShapeOk.rArea {o : List Pt} {hs : List (List Pt)} (h : ShapeOk o hs) : Go.Proofs.YtngginofamlkkaaGreatDoor.rArea o hs = areaP o + (hs.map areaP).sum := by
 unfold Go.Proofs.YtngginofamlkkaaGreatDoor.rArea
 rw [if_pos ((shapeCheck_zero o hs).2 h)]
 exact over_sum (g := area2P) (g' := areaP) fun l hl => by unfold area2P; rw [if_pos (h.all l hl)]
theorem ShapeOk.rMomX {o : List Pt} {hs : List (List Pt)} (h : ShapeOk o hs) : Go.Proofs.YtngginofamlkkaaGreatDoor.rMomX o hs = sumTo (momX o) o.length + (hs.map fun l => sumTo (momX l) l.length).sum := by
 unfold Go.Proofs.YtngginofamlkkaaGreatDoor.rMomX
 rw [if_pos ((shapeCheck_zero o hs).2 h)]
 exact over_sum (g := mom6X) (g' := fun l => sumTo (momX l) l.length) fun l hl => by unfold mom6X; rw [if_pos (h.all l hl)]
theorem ShapeOk.rMomY {o : List Pt} {hs : List (List Pt)} (h : ShapeOk o hs) : Go.Proofs.YtngginofamlkkaaGreatDoor.rMomY o hs = sumTo (momY o) o.length + (hs.map fun l => sumTo (momY l) l.length).sum := by
 unfold Go.Proofs.YtngginofamlkkaaGreatDoor.rMomY
 rw [if_pos ((shapeCheck_zero o hs).2 h)]
 exact over_sum (g := mom6Y) (g' := fun l => sumTo (momY l) l.length) fun l hl => by unfold mom6Y; rw [if_pos (h.all l hl)]
end Go.Proofs.YtngginofamlkkaaGreatDoor
noncomputable section
namespace Go.Proofs.YtngginofamlkkaaGreatDoor
open Go Go.RowKit Go.Shelf
set_option maxRecDepth 100000
set_option maxHeartbeats 4000000
def renC : Ren := ⟨fun x => if x = 15 then 136 else x, fun x => if x = 22 then 88 else if x = 3 then 3 else if x = 4 then 4 else x, fun x => x⟩
theorem laysC : Lays2.n15 Tryz.prog renC where
 mixed := by kernel_rfl
 f15 := by kernel_rfl
 t3 := by kernel_rfl
 a3 := fun w => by kernel_rfl
 z3 := fun w => by kernel_rfl
 v3 := fun w => by kernel_rfl
 t4 := by kernel_rfl
 a4 := fun w => by kernel_rfl
 z4 := fun w => by kernel_rfl
 v4 := fun w => by kernel_rfl
 t22 := by kernel_rfl
 a22 := fun w => by kernel_rfl
 z22 := fun w => by kernel_rfl
 v22 := fun w => by kernel_rfl
 i3 := by kernel_rfl
def c_clone (args : List Value) (Post : Value → Prop) : Prop := ∃ l : List Int, args = [tree 1 l.length (encL l)] ∧ l.length ≤ 17592186044416 ∧ Post (tree 1 l.length (encL l))
theorem encInt {l : List Int} {i : Nat} {u : Value} (h : (encL l)[i]? = some u) : ∃ (hi : i < l.length), u = .int .i64 l[i] := by
 have e : encL l = (l.map fun n => Value.int .i64 n).toArray := rfl
 rw [e, List.getElem?_toArray, List.getElem?_map] at h
 rcases Nat.lt_or_ge i l.length with hi | hi
 ·rw [List.getElem?_eq_getElem hi] at h
  cases h
  exact ⟨hi, rfl⟩
 ·rw [List.getElem?_eq_none hi] at h
  cases h
theorem cellInt {u v : Value} {n : Int} {j : Nat} (hu : u = .int .i64 n) (h : u.cells[j]? = some v) : j = 0 ∧ v = .int .i64 n := by
 subst hu
 have e : (Value.int .i64 n).cells = #[.int .i64 n] := rfl
 rw [e] at h
 cases j with
 | zero => simp at h; exact ⟨rfl, h.symm⟩
 | succ j => simp at h
theorem freezeNew {ρ : Place} {W : Base} {w w' : World} (h : Rel ρ W .e 0 w') {g : Nat} {ob : Obj} (hg : w.heap.size ≤ g) (hw : W.w.heap.size ≤ w.heap.size) (hf : ∀ x, ρ.fr g = some x → False) (ho : w'.heap[g]? = some ob) :
  Rel (ρ.freeze g ob) W .e 0 w' ∧ (ρ.freeze g ob).fr g = some ob ∧ StepG 0 ρ (ρ.freeze g ob) := by
 have hn : ρ.fr g = none := by
  cases hx : ρ.fr g with
  | none => rfl
  | some x => exact (hf x hx).elim
 have key : ∀ c x, (ρ.freeze g ob).fr c = some x → ρ.fr c = some x ∨ (c = g ∧ x = ob) := fun c x hc => by
  have hc : (match ρ.fr c with | some o => some o | none => if c = g then some ob else none) = some x := hc
  cases hx : ρ.fr c with
  | some y => rw [hx] at hc; exact .inl hc
  | none =>
   rw [hx] at hc
   dsimp only at hc
   split at hc
   ·cases hc; exact .inr ⟨by assumption, rfl⟩
   ·cases hc
 have gg : (ρ.freeze g ob).fr g = some ob := by
  show (match ρ.fr g with | some o => some o | none => if g = g then some ob else none) = _
  rw [hn]
  dsimp only
  rw [if_pos rfl]
 have le : ∀ c x, ρ.fr c = some x → (ρ.freeze g ob).fr c = some x := fun c x hc => by
  show (match ρ.fr c with | some o => some o | none => if c = g then some ob else none) = _
  rw [hc]
 have he : ∀ b, (Tr.e : Tr AObj).get b = none := fun b => by simp [Tr.get]
 refine ⟨⟨h.dom, fun b o c s z hb => (by rw [he] at hb; cases hb), fun b b' x x' o o' hb => (by rw [he] at hb; cases hb), h.fresh, h.below, fun c x hc => ?_, fun b o c s z hb => (by rw [he] at hb; cases hb), fun c x hc => ?_⟩, gg, ⟨fun b x hb => by omega, le⟩⟩
 ·rcases key c x hc with h1 | ⟨rfl, rfl⟩
  ·exact h.frz c x h1
  ·exact ho
 ·rcases key c x hc with h1 | ⟨rfl, rfl⟩
  ·exact h.frn c x h1
  ·exact .inr fun ho => by have := ho.1; omega
theorem ok_clone : EntOk Tryz.prog ⟨136, c_clone⟩ := by
 rintro args Post ⟨l, rfl, hl, h⟩
 intro W ρ w args' hrel hargs
 cases hargs with
 | cons hv hnil =>
 cases hnil
 generalize hn' : l.length = n' at hv
 generalize he' : encL l = els' at hv
 cases hv with
 | @tree sz n cap c o els cs t fz hb h1 h2 h3 h4 h5 =>
  subst hn' he'
  have hheap := hrel.frz c _ hb
  have cells : ∀ j, j < l.length → w.cell? ⟨c, o + j, none⟩ = some (.int .i64 (l.getD j 0)) := fun j hj => by
   have hlt : o + j < cs.size := by omega
   have e : (encL l)[j]? = some (.int .i64 l[j]) := by
    have e : encL l = (l.map fun n => Value.int .i64 n).toArray := rfl
    rw [e, List.getElem?_toArray, List.getElem?_map, List.getElem?_eq_getElem hj]
    rfl
   have r := h5 j 0 _ (.int .i64 l[j]) cs[o + j] e rfl (by rw [Nat.mul_one, Nat.add_zero]; exact Array.getElem?_eq_getElem hlt)
   unfold World.cell?
   dsimp only
   rw [hheap]
   dsimp only
   rw [Array.getElem?_eq_getElem hlt, List.getD_eq_getElem?_getD, List.getElem?_eq_getElem hj]
   generalize cs[o + j] = q at r
   cases r
   rfl
  have key : Calls Tryz.prog 136 #[.slice (some ⟨c, o, none⟩) l.length cap] w _ := Any.slices_Clone_int laysC c o l.length cap l w (Nat.le_refl _) (by omega) cells
  refine key.mono ?_
  rintro e w' ⟨v', rfl, ⟨hlen, hown⟩, hne, hbel⟩
  rcases hown with ⟨rfl, h0⟩ | ⟨g, cap', cur, rfl, hg, hcur, hn, hcap, hsz, htk⟩
  ·exact absurd rfl hne
  have hr1 := hrel.later hbel
  obtain ⟨r1, r2, r3⟩ := freezeNew hr1 hg hrel.below.size (fun x hx => by
   have := hrel.frz g x hx
   rw [Array.getElem?_eq_none hg] at this
   cases this) hcur
  refine ⟨tree 1 l.length (encL l), .e, 0, _, _, h, rfl, VR0.tree r2 (by rw [show (encL l).size = l.length by unfold encL; simp]) hn (by omega) (fun i u hu => ?_) (fun i j u v v' hu hv hv' => ?_), r1, r3⟩
  ·obtain ⟨hi, rfl⟩ := encInt hu
   rfl
  ·obtain ⟨hi, e⟩ := encInt hu
   obtain ⟨rfl, rfl⟩ := cellInt e hv
   have hc : cur.toList[i]? = some (.int .i64 l[i]) := by
    have : (cur.toList.take (l.length * 1))[i]? = some (.int .i64 l[i]) := by
     rw [htk, List.take_length, List.getElem?_map, List.getElem?_eq_getElem hi]
     rfl
    rw [List.getElem?_take, if_pos (by omega)] at this
    exact this
   rw [Nat.mul_one, Nat.add_zero, Nat.zero_add, ← Array.getElem?_toList, hc] at hv'
   cases hv'
   exact .int _ _
 | treeNil sz a cap =>
  have l0 : l = [] := List.eq_nil_of_length_eq_zero hn'
  subst l0
  have back : ∀ (a : Option Addr) (cap : Nat), VR0 ρ.fr (tree 1 ([] : List Int).length (encL ([] : List Int))) (.slice a 0 cap) := fun a cap => .treeNil _ _ _
  cases a with
  | none =>
   have key : Calls Tryz.prog 136 #[.slice none 0 cap] w _ := Any.slices_Clone_int_nil laysC 0 cap w
   refine key.mono ?_
   rintro e w' ⟨rfl, rfl⟩
   exact ⟨_, .e, 0, _, ρ, h, rfl, back _ _, hrel, .refl _ _⟩
  | some a =>
   have key : Calls Tryz.prog 136 #[.slice (some a) 0 cap] w _ := Any.slices_Clone_int_zero laysC a cap w
   refine key.mono ?_
   rintro e w' ⟨v', rfl, ⟨hlen, hown⟩, hne, hbel⟩
   rcases hown with ⟨rfl, h0⟩ | ⟨g, cap', cur, rfl, hg, hcur, hn, hcap, hsz, htk⟩
   ·exact absurd rfl hne
   ·exact ⟨_, .e, 0, _, ρ, h, rfl, back _ _, hrel.later hbel, .refl _ _⟩
end Go.Proofs.YtngginofamlkkaaGreatDoor

namespace Go.Proofs.YtngginofamlkkaaGreatDoor
open Go Go.RowKit
theorem block_of_add (a : Addr) (n : Nat) : (a.add n).block = a.block := by unfold Addr.add; split <;> rfl
theorem add_of_add (a : Addr) (i j : Nat) : (a.add i).add j = a.add (i + j) := by
 unfold Addr.add
 by_cases hi : i = 0 <;> by_cases hj : j = 0 <;> simp [hi, hj, Nat.add_assoc]
def Reads (w : World) (B size : Nat) (A : Option Addr) (n : Nat) (xs : List Value) : Prop :=
 xs.length = n * size ∧ (0 < n → ∃ ad, A = some ad ∧ ad.block < B ∧ ∀ j u, xs[j]? = some u → w.cell? (ad.add j) = some u)
section
variable {w w' : World} {B B' size n : Nat} {A : Option Addr} {xs : List Value}
theorem Reads.at_ {k : Nat} (h : Reads w B 1 A n xs) (hk : k < n) : ∃ ad u, A = some ad ∧ ad.block < B ∧ xs[k]? = some u ∧ w.cell? (ad.add k) = some u := by
 obtain ⟨ad, e, hb, hc⟩ := h.2 (by omega)
 have hl : k < xs.length := by have := h.1; omega
 exact ⟨ad, xs[k], e, hb, List.getElem?_eq_getElem hl, hc k _ (List.getElem?_eq_getElem hl)⟩
theorem Reads.keep (h : Reads w B size A n xs) (hk : ∀ p : Addr, p.block < B → w'.cell? p = w.cell? p) : Reads w' B size A n xs :=
 ⟨h.1, fun hn => by
  obtain ⟨ad, e, hb, hc⟩ := h.2 hn
  exact ⟨ad, e, hb, fun j u hu => (hk _ (by rw [block_of_add]; exact hb)).trans (hc j u hu)⟩⟩
theorem Reads.more (h : Reads w B size A n xs) (hB : B ≤ B') : Reads w B' size A n xs :=
 ⟨h.1, fun hn => by
  obtain ⟨ad, e, hb, hc⟩ := h.2 hn
  exact ⟨ad, e, by omega, hc⟩⟩
theorem Reads.below (h : Reads w B size A n xs) (hb : Below B w w') : Reads w' B size A n xs := h.keep fun _ hp => hb.cell hp
theorem Reads.drew (h : Reads w B size A n xs) : Reads w.drew B size A n xs := h
theorem Reads.alloc (h : Reads w B size A n xs) (hB : B ≤ w.heap.size) (o : Obj) : Reads (w.alloc o) B size A n xs := h.keep fun p hp => World.cell?_alloc_lt w o p (by omega)
theorem Reads.setCell (h : Reads w B size A n xs) {p : Addr} (hB : B ≤ p.block) (u : Value) : Reads (w.setCell p u) B size A n xs :=
 h.keep fun q hq => World.cell?_setCell_other w p q u (fun e => by subst e; omega)
theorem Reads.cut (h : Reads w B size A n xs) {k cap : Nat} (hk : k ≤ n) (hc : n ≤ cap) :
  Reads w B size (if cap = k then A else A.map (·.add (k * size))) (n - k) (xs.drop (k * size)) := by
 refine ⟨by rw [List.length_drop, h.1, Nat.sub_mul], fun hn => ?_⟩
 obtain ⟨ad, rfl, hb, hcell⟩ := h.2 (by omega)
 rw [if_neg (by omega)]
 refine ⟨ad.add (k * size), rfl, by rw [block_of_add]; exact hb, fun j u hu => ?_⟩
 rw [add_of_add]
 exact hcell _ u (by rw [← hu, List.getElem?_drop])
end
def Blk (w : World) (g : Nat) (t : TypeId) (cs : Array Value) : Prop := w.heap[g]? = some (.cells cs t (0, 0))
section
variable {w w' : World} {g : Nat} {t : TypeId} {cs : Array Value}
theorem Blk.lt (h : Blk w g t cs) : g < w.heap.size := by
 rcases Nat.lt_or_ge g w.heap.size with hlt | hge
 ·exact hlt
 ·unfold Blk at h; rw [Array.getElem?_eq_none hge] at h; cases h
theorem Blk.cell (h : Blk w g t cs) (i : Nat) : w.cell? ⟨g, i, none⟩ = cs[i]? := cell_of_row w g i cs t (0, 0) h
theorem Blk.frozen (h : Blk w g t cs) (i : Nat) : w.frozen? ⟨g, i, none⟩ = false := by
 unfold Blk at h
 simp [World.frozen?, h]
theorem Blk.new (w : World) (t : TypeId) (cs : Array Value) : Blk (w.alloc (.cells cs t)) w.heap.size t cs := heap_alloc_new w _
theorem Blk.drew (h : Blk w g t cs) : Blk w.drew g t cs := h
theorem Blk.alloc (h : Blk w g t cs) (o : Obj) : Blk (w.alloc o) g t cs := (Below.heap_alloc w o g h.lt).trans h
theorem Blk.far (h : Blk w g t cs) {p : Addr} (hp : g ≠ p.block) (u : Value) : Blk (w.setCell p u) g t cs := (Below.heap_setCell w p u g hp).trans h
theorem Blk.below {B : Nat} (h : Blk w g t cs) (hb : Below B w w') (hg : g < B) : Blk w' g t cs := (hb.block g hg).trans h
end
end Go.Proofs.YtngginofamlkkaaGreatDoor

namespace Go.Proofs.YtngginofamlkkaaGreatDoor
open Go Go.RowKit Go.ChangeShapes Go.WideShapes Go.ChangeAt Go.Deep Go.Joins
section
variable {H : Type} {enc : TypeId × Value → H} {P : Program} {w : World} {base : Nat} {spare : Nat → Bool} {held : Bool}
theorem post_of_below {f : Func} {s : ChangeSpec} {apart fresh handsOn again : Bool} {W W' : World} {args : Array Value} {v : Value} {ds gs : List (DataW H)} {before pa pv : List MemPlace}
  (hW : DataW.Whole enc P f.params.toList s.vars apart W args.toList ds gs before)
  (hres : ∀ (b : Nat) (sp : Nat → Bool) (hd : Bool), DataW.TrodAll enc P W' b sp hd f.resultTypes.toList (v.resultList f.resultTypes.size) (s.fn H (ds ++ gs)).results [])
  (hargs : ∀ sp : Nat → Bool, (∀ p ∈ before, sp p.block = true) → DataW.TrodAll enc P W' 0 sp true f.params.toList args.toList (s.fn H (ds ++ gs)).args pa)
  (hvars : ∀ sp : Nat → Bool, (∀ p ∈ before, sp p.block = true) → DataW.TrodVars enc P W' sp s.vars (s.fn H (ds ++ gs)).vars pv)
  (hps : before = pa ++ pv) (hb : Below W.heap.size W W')
  (hok : ∀ (j : Nat) (t : TypeId) (r : Value), f.resultTypes[j]? = some t → (v.resultList f.resultTypes.size)[j]? = some r → Value.okWide P W' .any 0 t r) :
  s.post enc P f apart fresh handsOn again W args v W' := by
 have hlt : ∀ p ∈ before, p.block < W.heap.size := fun p hp => hW.lt p hp
 have hold : ∀ p ∈ before, (fun b => decide (b < W.heap.size)) p.block = true := fun p hp => by simpa using hlt p hp
 refine ⟨ds, gs, before, [], pa, pv, hW, hres _ _ _, hargs _ hold, hvars _ hold, World.keptBut_mono (fun p hp => ⟨hp, ?_⟩) (hb.frame (· ∈ before)), fun _ => ?_⟩
 ·rw [hps, List.mem_append] at hp
  exact Or.inr hp
 ·obtain ⟨_, _, _, _, _, hz, hn⟩ := hW
  refine ⟨hok, _, _, ([] ++ pa) ++ pv, ⟨[] ++ pa, pv, trodAll_append (hargs _ (fun _ _ => rfl)) (hres _ _ _), hvars _ (fun _ _ => rfl), rfl, ?_, ?_⟩, ?_⟩
  ·intro b off hp
   have hin : MemPlace.cell b off ∈ before := by rw [hps]; simpa using hp
   rw [hb.frozen (hlt _ hin)]
   exact hz b off hin
  ·intro ha
   have := hn ha
   rw [hps] at this
   simpa using this
  ·intro p hp _
   rw [hps]
   simpa using hp
end
end Go.Proofs.YtngginofamlkkaaGreatDoor

noncomputable section
namespace Go.Proofs.YtngginofamlkkaaGreatDoor
open Go Go.RowKit Go.ChangeShapes Go.WideShapes Go.ChangeAt Go.Deep Go.Joins
def frW (w : World) : Nat → Option Obj := fun c => w.heap[c]?
def VRC (fr : Nat → Option Obj) (l cs : List Value) : Prop := l.length = cs.length ∧ ∀ (i : Nat) (v v' : Value), l[i]? = some v → cs[i]? = some v' → VR0 fr v v'
theorem VRC.one {fr : Nat → Option Obj} {v v' : Value} (h : VR0 fr v v') : VRC fr [v] [v'] := ⟨rfl, fun i a b ha hb => by
 cases i with
 | zero => simp at ha hb; subst ha hb; exact h
 | succ i => simp at ha⟩
theorem VRC.append {fr : Nat → Option Obj} {l m cs ds : List Value} (h : VRC fr l cs) (k : VRC fr m ds) : VRC fr (l ++ m) (cs ++ ds) := by
 refine ⟨by rw [List.length_append, List.length_append, h.1, k.1], fun i a b ha hb => ?_⟩
 rcases Nat.lt_or_ge i l.length with hi | hi
 ·rw [List.getElem?_append_left hi] at ha
  rw [List.getElem?_append_left (by rw [← h.1]; exact hi)] at hb
  exact h.2 i a b ha hb
 ·rw [List.getElem?_append_right hi] at ha
  rw [List.getElem?_append_right (by rw [← h.1]; exact hi), ← h.1] at hb
  exact k.2 _ a b ha hb
theorem VRC.step {fr : Nat → Option Obj} {l m cs : List Value} {o k : Nat} (h : VRC fr l ((cs.drop o).take k)) (r : VRC fr m (cs.drop (o + k))) : VRC fr (l ++ m) (cs.drop o) := by
 have := h.append r
 rwa [← List.drop_drop, List.take_append_drop] at this
theorem VRC.next {fr : Nat → Option Obj} {l m cs : List Value} {o k : Nat} (h : VRC fr l ((cs.drop o).take k)) (r : VRC fr m (cs.drop (o + l.length))) : VRC fr (l ++ m) (cs.drop o) := by
 have e : (cs.drop o).take k = (cs.drop o).take l.length := by
  have h1 := h.1
  rw [List.length_take] at h1
  rcases Nat.le_total k (cs.drop o).length with hk | hk
  ·rw [show l.length = k by omega]
  ·rw [List.take_of_length_le hk, List.take_of_length_le (by omega)]
 rw [e] at h
 exact h.step r
theorem VRC.done {fr : Nat → Option Obj} {cs : List Value} {n : Nat} (h : cs.length = n) : VRC fr [] (cs.drop n) := by
 rw [List.drop_eq_nil_of_le (by omega)]
 exact ⟨rfl, fun i a b ha => by simp at ha⟩
def Opens (P : Program) (w : World) (t : TypeId) (α : Type) [Enc α] (Ok : α → Prop) : Prop :=
 ∀ (H : Type) (enc : TypeId × Value → H) (base : Nat) (spare : Nat → Bool) (held : Bool) (fuel : Nat) (cs : List Value) (x : DataW H × List MemPlace), DataW.trod enc P w base spare held fuel t cs = some x → ∃ a : α, Ok a ∧ VRC (frW w) (Enc.cells a) cs
def In64 (n : Int) : Prop := -9223372036854775808 ≤ n ∧ n < 9223372036854775808
section
variable {P : Program} {w : World}
theorem opens_int {t : TypeId} (ht : P.underlying t = some (.int .i64)) : Opens P w t Int In64 := fun H enc base spare held fuel cs x h => by
 obtain ⟨n, rfl, _, hw⟩ := DataW.trod_int ht h
 simp [Lit.wf, IntKind.min, IntKind.max, IntKind.signed, IntKind.bits] at hw
 exact ⟨n, ⟨by omega, by omega⟩, .one (.int _ _)⟩
theorem opens_string {t : TypeId} (ht : P.underlying t = some .string) : Opens P w t ByteArray fun s => s.size ≤ maxLen := fun H enc base spare held fuel cs x h => by
 obtain ⟨s, rfl, _, hs⟩ := DataW.trod_string ht h
 exact ⟨s, hs, .one (.string _)⟩
theorem cell_at {a : Addr} {i : Nat} {v : Value} (h : w.cell? (a.add i) = some v) : ∃ cs t fz, w.heap[a.block]? = some (.cells cs t fz) ∧ cs[a.off + i]? = some v ∧ (i = 0 → a.spot = none) := by
 unfold World.cell? at h
 have hb : (a.add i).block = a.block := by unfold Addr.add; split <;> rfl
 rw [hb] at h
 split at h
 ·rename_i cs t fz hc
  refine ⟨cs, t, fz, hc, ?_, fun h0 => ?_⟩
  ·split at h
   ·cases h
   ·have : (a.add i).off = a.off + i := by unfold Addr.add; split <;> simp_all
    rw [this] at h
    exact h
  ·subst h0
   split at h
   ·cases h
   ·rename_i hs
    have : (a.add 0) = a := rfl
    rw [this] at hs
    cases hsp : a.spot with
    | none => rfl
    | some s => rw [hsp] at hs; simp at hs
 ·cases h
theorem opens_slice {t e : TypeId} {α : Type} [Enc α] {Ok : α → Prop} (ht : P.underlying t = some (.slice e)) (he : Opens P w e α Ok) (hc : P.cellsOf e = Enc.sz α) (hz : 0 < Enc.sz α) :
  Opens P w t (List α) fun l => l.length ≤ maxLen ∧ ∀ a ∈ l, Ok a := fun H enc base spare held fuel cs x h => by
 rcases open_slice ht h with ⟨rfl, _⟩ | ⟨a, len, cap, m, n, D, Pl, rfl, _, hl, hm, hmm, _, hi⟩
 ·exact ⟨[], ⟨Nat.zero_le _, fun a ha => by cases ha⟩, .one (.treeNil _ _ _)⟩
 rw [hc] at hi
 have hlm : len ≤ m := by rw [hmm]; split <;> omega
 have key : ∀ i, i < len → ∃ b : α, Ok b ∧ ∀ (j : Nat) (v : Value), (Enc.cells b)[j]? = some v → ∃ v', w.cell? ((a.add (i * Enc.sz α)).add j) = some v' ∧ VR0 (frW w) v v' := by
  intro i hil
  obtain ⟨cs', h1, h2⟩ := hi i (by omega)
  obtain ⟨_, h3, h4⟩ := World.cells?_some h1
  obtain ⟨b, hb, hv⟩ := he H enc _ _ _ _ _ _ h2
  refine ⟨b, hb, fun j v hj => ?_⟩
  have hjl : j < Enc.sz α := by
   rw [← Enc.len b]
   rcases Nat.lt_or_ge j (Enc.cells b).length with h' | h'
   ·exact h'
   ·rw [List.getElem?_eq_none h'] at hj; cases hj
  have hj' : cs'[j]? = some (cs'[j]'(by omega)) := List.getElem?_eq_getElem (by omega)
  exact ⟨_, (h4 j hjl).trans hj', hv.2 j v _ hj hj'⟩
 have build : ∀ k, k ≤ len → ∃ l : List α, l.length = k ∧ (∀ b ∈ l, Ok b) ∧ ∀ (i : Nat) (b : α), l[i]? = some b → ∀ (j : Nat) (v : Value), (Enc.cells b)[j]? = some v → ∃ v', w.cell? ((a.add (i * Enc.sz α)).add j) = some v' ∧ VR0 (frW w) v v' := by
  intro k
  induction k with
  | zero => exact fun _ => ⟨[], rfl, by simp, by simp⟩
  | succ k ih =>
   intro hk
   obtain ⟨l, e1, hin, hcl⟩ := ih (by omega)
   obtain ⟨b, hb, hbc⟩ := key k (by omega)
   refine ⟨l ++ [b], by simp [e1], fun x hx => ?_, fun i x hx => ?_⟩
   ·rcases List.mem_append.1 hx with hx | hx
    ·exact hin x hx
    ·simp at hx; subst hx; exact hb
   ·rcases Nat.lt_or_ge i k with hik | hik
    ·rw [List.getElem?_append_left (by omega)] at hx
     exact hcl i x hx
    ·rw [List.getElem?_append_right (by omega), e1] at hx
     have : i = k := by
      rcases Nat.lt_or_ge k i with h' | h'
      ·rw [List.getElem?_eq_none (by simp; omega)] at hx; cases hx
      ·omega
     subst this
     simp at hx
     subst hx
     exact hbc
 obtain ⟨l, hlen, hok, hcl⟩ := build len (Nat.le_refl _)
 refine ⟨l, ⟨by omega, hok⟩, .one ?_⟩
 rcases Nat.eq_zero_or_pos len with h0 | h0
 ·subst h0
  have : l = [] := List.eq_nil_of_length_eq_zero hlen
  subst this
  exact .treeNil _ _ _
 have cell : ∀ (i j : Nat), i < len → j < Enc.sz α → ∃ v v', (∃ b, l[i]? = some b ∧ (Enc.cells b)[j]? = some v) ∧ w.cell? (a.add (i * Enc.sz α + j)) = some v' ∧ VR0 (frW w) v v' := fun i j hi hj => by
  have hb : l[i]? = some (l[i]'(by omega)) := List.getElem?_eq_getElem (by omega)
  have hv : (Enc.cells (l[i]'(by omega)))[j]? = some ((Enc.cells (l[i]'(by omega)))[j]'(by rw [Enc.len]; exact hj)) := List.getElem?_eq_getElem _
  obtain ⟨v', h1, h2⟩ := hcl i _ hb j _ hv
  rw [Go.Deep.add_add] at h1
  exact ⟨_, v', ⟨_, hb, hv⟩, h1, h2⟩
 obtain ⟨_, v0, _, hv0, _⟩ := cell 0 0 h0 hz
 obtain ⟨cs, ct, fz, hheap, _, hsp⟩ := cell_at hv0
 have hsp := hsp (by omega)
 have at_ : ∀ i j, i < len → j < Enc.sz α → ∃ v v', (∃ b, l[i]? = some b ∧ (Enc.cells b)[j]? = some v) ∧ cs[a.off + (i * Enc.sz α + j)]? = some v' ∧ VR0 (frW w) v v' := fun i j hi hj => by
  obtain ⟨v, v', h1, h2, h3⟩ := cell i j hi hj
  obtain ⟨cs', ct', fz', g1, g2, _⟩ := cell_at h2
  rw [hheap] at g1
  cases g1
  exact ⟨v, v', h1, g2, h3⟩
 obtain ⟨blk, off, spot⟩ := a
 simp only at hsp
 subst hsp
 have hsz : off + len * Enc.sz α ≤ cs.size := by
  obtain ⟨_, v', _, h2, _⟩ := at_ (len - 1) (Enc.sz α - 1) (by omega) (by omega)
  have hlt : off + ((len - 1) * Enc.sz α + (Enc.sz α - 1)) < cs.size := (Array.getElem?_eq_some_iff.1 h2).1
  have : len * Enc.sz α = (len - 1) * Enc.sz α + Enc.sz α := by
   obtain ⟨k, rfl⟩ : ∃ k, len = k + 1 := ⟨len - 1, by omega⟩
   rw [Nat.succ_mul]
   simp
  omega
 have hget : ∀ (i : Nat) (u : Value), (encL l)[i]? = some u → ∃ b, l[i]? = some b ∧ u = elt (Enc.cells b) := fun i u hu => by
  unfold encL at hu
  simp only [List.getElem?_toArray, List.getElem?_map, Option.map_eq_some_iff] at hu
  obtain ⟨b, h1, h2⟩ := hu
  exact ⟨b, h1, h2.symm⟩
 rw [hlen]
 refine VR0.tree (c := blk) (o := off) (cs := cs) (t := ct) (fz := fz) hheap (by simp [encL, hlen]) hl hsz (fun i u hu => ?_) (fun i j u v v' hu hv hv' => ?_)
 ·obtain ⟨b, _, rfl⟩ := hget i u hu
  simp [elt_cells (Enc.nl b), Enc.len]
 ·obtain ⟨b, hb, rfl⟩ := hget i u hu
  have hv2 : (Enc.cells b)[j]? = some v := by simpa [elt_cells (Enc.nl b)] using hv
  have hil : i < len := by
   rcases Nat.lt_or_ge i len with h' | h'
   ·exact h'
   ·rw [List.getElem?_eq_none (by omega)] at hb; cases hb
  have hjl : j < Enc.sz α := by
   rw [← Enc.len b]
   rcases Nat.lt_or_ge j (Enc.cells b).length with h' | h'
   ·exact h'
   ·rw [List.getElem?_eq_none h'] at hv2; cases hv2
  obtain ⟨v1, v1', ⟨b1, e1, e2⟩, e3, e4⟩ := at_ i j hil hjl
  rw [hb] at e1
  cases e1
  rw [hv2] at e2
  cases e2
  rw [show off + i * Enc.sz α + j = off + (i * Enc.sz α + j) by omega] at hv'
  have : v1' = v' := by
   have e3' : cs[off + (i * Enc.sz α + j)]? = some v1' := e3
   rw [hv'] at e3'
   cases e3'
   rfl
  subst this
  exact e4
theorem field_open {t : TypeId} {α : Type} [Enc α] {Ok : α → Prop} (ho : Opens P w t α Ok) {H : Type} {enc : TypeId × Value → H} {base : Nat} {spare : Nat → Bool} {held : Bool} {fuel : Nat} {cs : List Value} {xs : List (DataW H × List MemPlace)} {i : Nat}
  (h : DataW.trod enc P w base spare held fuel t cs = xs[i]?) (hi : i < xs.length) : ∃ a : α, Ok a ∧ VRC (frW w) (Enc.cells a) cs :=
 ho H enc _ _ _ _ _ _ (h.trans (List.getElem?_eq_getElem hi))
theorem open_arg {t : TypeId} {α : Type} [Enc α] {Ok : α → Prop} (ho : Opens P w t α Ok) {H : Type} {enc : TypeId × Value → H} {base : Nat} {spare : Nat → Bool} {held : Bool} {v : Value} {d : DataW H} {p : List MemPlace} (h : DataW.Trod enc P w base spare held t v d p) :
  ∃ a : α, Ok a ∧ VRC (frW w) (Enc.cells a) v.cells.toList := by
 obtain ⟨fuel, hf⟩ := h
 exact ho H enc _ _ _ _ _ _ hf
theorem VRC.agg {l : List Value} {c : Array Value} (h : VRC (frW w) l c.toList) : VR0 (frW w) (.agg l.toArray) (.agg c) :=
 .agg (by simp [h.1]) fun i v v' a b => h.2 i v v' (by simpa using a) (by simpa using b)
theorem Pure.at {f : FuncId} {args : List Value} {Post : Value → Prop} (h : Pure P f args Post) (hg : ∀ g cs, glob g = some cs → ∃ t fz, w.heap[g]? = some (.cells cs t fz)) (hn : args.all nl = true) {args' : List Value} (hargs : VRC (frW w) args args') :
  Calls P f args'.toArray w fun e w' => ∃ v v', Post v ∧ e = .returned v' ∧ (closed v = true → v' = v) ∧ Below w.heap.size w w' := by
 refine (h.call hn (W := ⟨w, fun _ => False, frW w, []⟩) (ρ := ⟨fun _ => none, frW w, hg⟩) (hp := .e) (nx := 0) (w := w) ⟨fun b x hb => (by cases hb), fun b o c s z ho => (by cases ho), fun b b' x x' o o' ho => (by cases ho), fun b _ => rfl, ⟨rfl, rfl, rfl, Nat.le_refl _, fun _ _ => rfl⟩, fun c ob hc => hc, fun b o c s z ho => (by cases ho), fun c ob hc => .inl hc⟩ (.of hargs.1 fun i v v' a b => VR0.lift (ρ := ⟨fun _ => none, frW w, hg⟩) (hargs.2 i v v' a b))).mono ?_
 rintro e w' ⟨v, v', ρ', hP, rfl, hv, _, _, _, hb⟩
 exact ⟨v, v', hP, rfl, fun hc => closed_eq hc hv, hb⟩
end
end Go.Proofs.YtngginofamlkkaaGreatDoor

noncomputable section
namespace Go.Proofs.YtngginofamlkkaaGreatDoor
open Go Go.RowKit Go.ChangeShapes Go.WideShapes Go.ChangeAt Go.Deep Go.Joins
set_option maxRecDepth 100000
instance : Enc Vec3 where
 sz := 3
 cells p := [.int .i64 p.x, .int .i64 p.y, .int .i64 p.z]
 len _ := rfl
 nl p := by intro v hv; simp at hv; rcases hv with rfl | rfl | rfl <;> rfl
instance : Enc Part where
 sz := 18
 cells := partC
 len _ := rfl
 nl p := by intro v hv; simp [partC] at hv; rcases hv with rfl | rfl | rfl | rfl | rfl | rfl | rfl | rfl | rfl | rfl | rfl | rfl | rfl | rfl | rfl | rfl | rfl | rfl <;> rfl
def InPt (p : Pt) : Prop := In64 p.x ∧ In64 p.y
def InV (p : Vec3) : Prop := In64 p.x ∧ In64 p.y ∧ In64 p.z
structure InPart (p : Part) : Prop where
 rev : In64 p.rev
 kind : In64 p.kind
 thick : In64 p.thick
 outer : ∀ x ∈ p.outer, InPt x
 holes : ∀ l ∈ p.holes, ∀ x ∈ l, InPt x
 long : In64 p.long
 mass : In64 p.mass
 centre : InV p.centre
 at_ : InV p.at_
 turn : In64 p.turn
 id : p.id.size ≤ maxLen
 node : p.node.size ≤ maxLen
 grade : p.grade.size ≤ maxLen
 sect : p.sect.size ≤ maxLen
variable {w : World}
theorem opens_pt : Opens Tryz.prog w 53 Pt InPt := fun H enc base spare held fuel cs x h => by
 obtain ⟨xs, n, _, _, hlen, hxs, hf⟩ := DataW.trod_struct Tryz.underlying53 h
 have hc : Tryz.prog.cellsOf 53 = 2 := by kernel_rfl
 obtain ⟨b0, k0, v0⟩ := field_open (opens_int Tryz.underlying3) (hf 0 _ rfl) (by rw [hxs]; decide)
 obtain ⟨b1, k1, v1⟩ := field_open (opens_int Tryz.underlying3) (hf 1 _ rfl) (by rw [hxs]; decide)
 exact ⟨⟨b0, b1⟩, ⟨k0, k1⟩, v0.next (v1.next (VRC.done (n := 2) (hlen.trans hc)))⟩
theorem opens_vec : Opens Tryz.prog w 27 Vec3 InV := fun H enc base spare held fuel cs x h => by
 obtain ⟨xs, n, _, _, hlen, hxs, hf⟩ := DataW.trod_struct Tryz.underlying27 h
 have hc : Tryz.prog.cellsOf 27 = 3 := by kernel_rfl
 obtain ⟨b0, k0, v0⟩ := field_open (opens_int Tryz.underlying3) (hf 0 _ rfl) (by rw [hxs]; decide)
 obtain ⟨b1, k1, v1⟩ := field_open (opens_int Tryz.underlying3) (hf 1 _ rfl) (by rw [hxs]; decide)
 obtain ⟨b2, k2, v2⟩ := field_open (opens_int Tryz.underlying3) (hf 2 _ rfl) (by rw [hxs]; decide)
 exact ⟨⟨b0, b1, b2⟩, ⟨k0, k1, k2⟩, v0.next (v1.next (v2.next (VRC.done (n := 3) (hlen.trans hc))))⟩
theorem opens_pts : Opens Tryz.prog w 22 (List Pt) fun l => l.length ≤ maxLen ∧ ∀ a ∈ l, InPt a := opens_slice Tryz.underlying22 opens_pt (by kernel_rfl) (by decide)
theorem opens_holes : Opens Tryz.prog w 23 (List (List Pt)) fun l => l.length ≤ maxLen ∧ ∀ a ∈ l, a.length ≤ maxLen ∧ ∀ b ∈ a, InPt b := opens_slice Tryz.underlying23 opens_pts (by kernel_rfl) (by decide)
theorem opens_shape : Opens Tryz.prog w 25 (List Pt × List (List Pt)) fun p => (p.1.length ≤ maxLen ∧ ∀ a ∈ p.1, InPt a) ∧ p.2.length ≤ maxLen ∧ ∀ a ∈ p.2, a.length ≤ maxLen ∧ ∀ b ∈ a, InPt b := fun H enc base spare held fuel cs x h => by
 obtain ⟨xs, n, _, _, hlen, hxs, hf⟩ := DataW.trod_struct Tryz.underlying25 h
 have hc : Tryz.prog.cellsOf 25 = 2 := by kernel_rfl
 obtain ⟨b0, k0, v0⟩ := field_open opens_pts (hf 0 _ rfl) (by rw [hxs]; decide)
 obtain ⟨b1, k1, v1⟩ := field_open opens_holes (hf 1 _ rfl) (by rw [hxs]; decide)
 exact ⟨⟨b0, b1⟩, ⟨k0, k1⟩, v0.next (v1.next (VRC.done (n := 2) (hlen.trans hc)))⟩
theorem opens_place : Opens Tryz.prog w 29 (Vec3 × Int) fun p => InV p.1 ∧ In64 p.2 := fun H enc base spare held fuel cs x h => by
 obtain ⟨xs, n, _, _, hlen, hxs, hf⟩ := DataW.trod_struct Tryz.underlying29 h
 have hc : Tryz.prog.cellsOf 29 = 4 := by kernel_rfl
 obtain ⟨b0, k0, v0⟩ := field_open opens_vec (hf 0 _ rfl) (by rw [hxs]; decide)
 obtain ⟨b1, k1, v1⟩ := field_open (opens_int Tryz.underlying3) (hf 1 _ rfl) (by rw [hxs]; decide)
 exact ⟨⟨b0, b1⟩, ⟨k0, k1⟩, v0.next (v1.next (VRC.done (n := 4) (hlen.trans hc)))⟩
theorem opens_part : Opens Tryz.prog w 31 Part InPart := fun H enc base spare held fuel cs x h => by
 obtain ⟨xs, n, _, _, hlen, hxs, hf⟩ := DataW.trod_struct Tryz.underlying31 h
 have hc : Tryz.prog.cellsOf 31 = 18 := by kernel_rfl
 obtain ⟨b0, k0, v0⟩ := field_open (opens_string Tryz.underlying9) (hf 0 _ rfl) (by rw [hxs]; decide)
 obtain ⟨b1, k1, v1⟩ := field_open (opens_int Tryz.underlying3) (hf 1 _ rfl) (by rw [hxs]; decide)
 obtain ⟨b2, k2, v2⟩ := field_open (opens_int Tryz.underlying3) (hf 2 _ rfl) (by rw [hxs]; decide)
 obtain ⟨b3, k3, v3⟩ := field_open (opens_string Tryz.underlying9) (hf 3 _ rfl) (by rw [hxs]; decide)
 obtain ⟨b4, k4, v4⟩ := field_open (opens_string Tryz.underlying9) (hf 4 _ rfl) (by rw [hxs]; decide)
 obtain ⟨b5, k5, v5⟩ := field_open (opens_int Tryz.underlying3) (hf 5 _ rfl) (by rw [hxs]; decide)
 obtain ⟨b6, k6, v6⟩ := field_open opens_shape (hf 6 _ rfl) (by rw [hxs]; decide)
 obtain ⟨b7, k7, v7⟩ := field_open (opens_string Tryz.underlying9) (hf 7 _ rfl) (by rw [hxs]; decide)
 obtain ⟨b8, k8, v8⟩ := field_open (opens_int Tryz.underlying3) (hf 8 _ rfl) (by rw [hxs]; decide)
 obtain ⟨b9, k9, v9⟩ := field_open (opens_int Tryz.underlying3) (hf 9 _ rfl) (by rw [hxs]; decide)
 obtain ⟨b10, k10, v10⟩ := field_open opens_vec (hf 10 _ rfl) (by rw [hxs]; decide)
 obtain ⟨b11, k11, v11⟩ := field_open opens_place (hf 11 _ rfl) (by rw [hxs]; decide)
 refine ⟨⟨b0, b1, b2, b3, b4, b5, b6.1, b6.2, b7, b8, b9, b10, b11.1, b11.2⟩, ⟨k1, k2, k5, k6.1.2, fun l hl => (k6.2.2 l hl).2, k8, k9, k10, k11.1, k11.2, k0, k3, k4, k7⟩, ?_⟩
 exact v0.next (v1.next (v2.next (v3.next (v4.next (v5.next (v6.next (v7.next (v8.next (v9.next (v10.next (v11.next (VRC.done (n := 18) (hlen.trans hc)))))))))))))
end Go.Proofs.YtngginofamlkkaaGreatDoor

noncomputable section
namespace Go.Proofs.YtngginofamlkkaaGreatDoor
open Go Go.RowKit Go.ChangeShapes Go.WideShapes Go.ChangeAt Go.Deep Go.Joins
set_option maxRecDepth 100000
structure Grade4 where
 name : ByteArray
 dens : Int
 yld : Int
 gauges : List Int
 deriving DecidableEq
structure Sect4 where
 name : ByteArray
 area : Int
 height : Int
 stock : Int
 deriving DecidableEq
structure Mats where
 grades : List Grade4
 sects : List Sect4
 deriving DecidableEq
instance : Enc Grade4 where
 sz := 4
 cells p := [.string p.name, .int .i64 p.dens, .int .i64 p.yld, tree 1 p.gauges.length (encL p.gauges)]
 len _ := rfl
 nl p := by intro v hv; simp at hv; rcases hv with rfl | rfl | rfl | rfl <;> rfl
instance : Enc Sect4 where
 sz := 4
 cells p := [.string p.name, .int .i64 p.area, .int .i64 p.height, .int .i64 p.stock]
 len _ := rfl
 nl p := by intro v hv; simp at hv; rcases hv with rfl | rfl | rfl | rfl <;> rfl
def matsC (m : Mats) : List Value := [tree 4 m.grades.length (encL m.grades), tree 4 m.sects.length (encL m.sects)]
abbrev matsV (m : Mats) : Value := .agg (matsC m).toArray
instance : Enc Mats where
 sz := 2
 cells := matsC
 len _ := rfl
 nl p := by intro v hv; simp [matsC] at hv; rcases hv with rfl | rfl <;> rfl
structure InGrade (p : Grade4) : Prop where
 name : p.name.size ≤ maxLen
 dens : In64 p.dens
 yld : In64 p.yld
 len : p.gauges.length ≤ maxLen
 gauges : ∀ x ∈ p.gauges, In64 x
structure InSect (p : Sect4) : Prop where
 name : p.name.size ≤ maxLen
 area : In64 p.area
 height : In64 p.height
 stock : In64 p.stock
structure InMats (m : Mats) : Prop where
 glen : m.grades.length ≤ maxLen
 grades : ∀ x ∈ m.grades, InGrade x
 slen : m.sects.length ≤ maxLen
 sects : ∀ x ∈ m.sects, InSect x
variable {w : World}
theorem opens_grade : Opens Tryz.prog w 90 Grade4 InGrade := fun H enc base spare held fuel cs x h => by
 obtain ⟨xs, n, _, _, hlen, hxs, hf⟩ := DataW.trod_struct Tryz.underlying90 h
 have hc : Tryz.prog.cellsOf 90 = 4 := by kernel_rfl
 obtain ⟨b0, k0, v0⟩ := field_open (opens_string Tryz.underlying9) (hf 0 _ rfl) (by rw [hxs]; decide)
 obtain ⟨b1, k1, v1⟩ := field_open (opens_int Tryz.underlying3) (hf 1 _ rfl) (by rw [hxs]; decide)
 obtain ⟨b2, k2, v2⟩ := field_open (opens_int Tryz.underlying3) (hf 2 _ rfl) (by rw [hxs]; decide)
 obtain ⟨b3, k3, v3⟩ := field_open (opens_slice Tryz.underlying88 (opens_int Tryz.underlying3) (by kernel_rfl) (by decide)) (hf 3 _ rfl) (by rw [hxs]; decide)
 exact ⟨⟨b0, b1, b2, b3⟩, ⟨k0, k1, k2, k3.1, k3.2⟩, v0.next (v1.next (v2.next (v3.next (VRC.done (n := 4) (hlen.trans hc)))))⟩
theorem opens_sect : Opens Tryz.prog w 94 Sect4 InSect := fun H enc base spare held fuel cs x h => by
 obtain ⟨xs, n, _, _, hlen, hxs, hf⟩ := DataW.trod_struct Tryz.underlying94 h
 have hc : Tryz.prog.cellsOf 94 = 4 := by kernel_rfl
 obtain ⟨b0, k0, v0⟩ := field_open (opens_string Tryz.underlying9) (hf 0 _ rfl) (by rw [hxs]; decide)
 obtain ⟨b1, k1, v1⟩ := field_open (opens_int Tryz.underlying3) (hf 1 _ rfl) (by rw [hxs]; decide)
 obtain ⟨b2, k2, v2⟩ := field_open (opens_int Tryz.underlying3) (hf 2 _ rfl) (by rw [hxs]; decide)
 obtain ⟨b3, k3, v3⟩ := field_open (opens_int Tryz.underlying3) (hf 3 _ rfl) (by rw [hxs]; decide)
 exact ⟨⟨b0, b1, b2, b3⟩, ⟨k0, k1, k2, k3⟩, v0.next (v1.next (v2.next (v3.next (VRC.done (n := 4) (hlen.trans hc)))))⟩
theorem opens_mats : Opens Tryz.prog w 35 Mats InMats := fun H enc base spare held fuel cs x h => by
 obtain ⟨xs, n, _, _, hlen, hxs, hf⟩ := DataW.trod_struct Tryz.underlying35 h
 have hc : Tryz.prog.cellsOf 35 = 2 := by kernel_rfl
 obtain ⟨b0, k0, v0⟩ := field_open (opens_slice Tryz.underlying32 opens_grade (by kernel_rfl) (by decide)) (hf 0 _ rfl) (by rw [hxs]; decide)
 obtain ⟨b1, k1, v1⟩ := field_open (opens_slice Tryz.underlying33 opens_sect (by kernel_rfl) (by decide)) (hf 1 _ rfl) (by rw [hxs]; decide)
 exact ⟨⟨b0, b1⟩, ⟨k0.1, k0.2, k1.1, k1.2⟩, v0.next (v1.next (VRC.done (n := 2) (hlen.trans hc)))⟩
end Go.Proofs.YtngginofamlkkaaGreatDoor

noncomputable section
namespace Go.Proofs.YtngginofamlkkaaGreatDoor
open Go Go.RowKit
set_option maxRecDepth 100000
set_option maxHeartbeats 8000000
abbrev gradeV (g : Grade4) : Value := .agg #[.string g.name, .int .i64 g.dens, .int .i64 g.yld, tree 1 g.gauges.length (encL g.gauges)]
abbrev sectV (s : Sect4) : Value := .agg #[.string s.name, .int .i64 s.area, .int .i64 s.height, .int .i64 s.stock]
def grade0 : Grade4 := ⟨⟨#[]⟩, 0, 0, []⟩
def sect0 : Sect4 := ⟨⟨#[]⟩, 0, 0, 0⟩
structure First {α : Type} (l : List α) (p : α → Prop) (i : Int) : Prop where
 no : i < 0 → ∀ a ∈ l, ¬ p a
 yes : 0 ≤ i → ∃ k, ∃ hk : k < l.length, i = (k : Int) ∧ p l[k] ∧ ∀ j (hj : j < l.length), j < k → ¬ p l[j]
abbrev fnG : Value := .func (.func 135) #[] #[.pointer (some ⟨0, 0, none⟩)]
abbrev fnS : Value := .func (.func 138) #[] #[.pointer (some ⟨0, 0, none⟩)]
def c_idxG (args : List Value) (conts : List (List Value)) (Post : Out → List (List Value) → Prop) : Prop := ∃ (l : List Grade4) (s : ByteArray), args = [tree 4 l.length (encL l), fnG] ∧ conts = [[.string s]] ∧ Short l ∧ ∀ i : Int, First l (fun g => g.name = s) i → Post (.ret (.int .i64 i)) [[.string s]]
def c_idxS (args : List Value) (conts : List (List Value)) (Post : Out → List (List Value) → Prop) : Prop := ∃ (l : List Sect4) (s : ByteArray), args = [tree 4 l.length (encL l), fnS] ∧ conts = [[.string s]] ∧ Short l ∧ ∀ i : Int, First l (fun g => g.name = s) i → Post (.ret (.int .i64 i)) [[.string s]]
def callIG : PCall := inlP Tryz.prog [135, 138] (ofV noCall) 2
theorem e_idxG (n : Nat) (s : ByteArray) (A : Array Value) (H : HT) (Post : PX) : vcX Tryz.prog callIG 134 [(2, [0, 1, 7, 8])] [[.string s]] [tree 4 n A, fnG] H Post = (T4 (True ∧ (True ∧ True) ∧ H (lpC Tryz.prog 134 2) (lpK Tryz.prog 134 2) (stV [(0, some (tree 4 n A)), (1, some (Value.func (Fn.func 135) #[] #[pt 0])), (7, some (vi (↑n : Int))), (8, some (vi 0))] [(0, some (AObj.cells [vs s] true))] 1))) := by kernel_rfl
theorem l_idxG (n : Nat) (s : ByteArray) (k : Int) (A : Array Value) (H : HT) (Post : PX) : vcLX Tryz.prog callIG 134 [tree 4 n A, fnG] [(2, [0, 1, 7, 8])] 1 2 (stV [(0, some (tree 4 n A)), (1, some fnG), (7, some (.int .i64 n)), (8, some (.int .i64 k))] [(0, some (.cells [.string s] true))] 1) H Post = (True ∧ pIf (decide (k < (↑n : Int))) (T4 (True ∧ (0 ≤ k ∧ k < (↑n : Int)) ∧ (cellAt A (Int.toNat k) 0 = vs (toS (cellAt A (Int.toNat k) 0)) ∧ cellAt A (Int.toNat k) 1 = vi (toI (cellAt A (Int.toNat k) 1)) ∧ cellAt A (Int.toNat k) 2 = vi (toI (cellAt A (Int.toNat k) 2)) ∧ cellAt A (Int.toNat k) 3 = tree 1 (toN (cellAt A (Int.toNat k) 3)) (toE (cellAt A (Int.toNat k) 3)) ∧ True) ∧ T4 (T2 (pIf (decide (toS (cellAt A (Int.toNat k) 0) = s)) (T2 (True ∧ (((True ∧ True) ∧ True) ∧ True) ∧ true = true ∧ Post (Out.ret (vi k)) [[vs s]])) (T4 ((True ∧ True) ∧ H (lpC Tryz.prog 134 2) (lpK Tryz.prog 134 2) (stV [(0, some (tree 4 n A)), (1, some (Value.func (Fn.func 135) #[] #[pt 0])), (7, some (vi (↑n : Int))), (8, some (vi (IntKind.wrap IntKind.i64 (k + 1))))] [(0, some (AObj.cells [vs s] true))] 1))))))) (True ∧ (((True ∧ True) ∧ True) ∧ True) ∧ true = true ∧ Post (Out.ret (vi (-1))) [[vs s]])) := by kernel_rfl
theorem e_idxS (n : Nat) (s : ByteArray) (A : Array Value) (H : HT) (Post : PX) : vcX Tryz.prog callIG 137 [(2, [0, 1, 7, 8])] [[.string s]] [tree 4 n A, fnS] H Post = (T4 (True ∧ (True ∧ True) ∧ H (lpC Tryz.prog 137 2) (lpK Tryz.prog 137 2) (stV [(0, some (tree 4 n A)), (1, some (Value.func (Fn.func 138) #[] #[pt 0])), (7, some (vi (↑n : Int))), (8, some (vi 0))] [(0, some (AObj.cells [vs s] true))] 1))) := by kernel_rfl
theorem l_idxS (n : Nat) (s : ByteArray) (k : Int) (A : Array Value) (H : HT) (Post : PX) : vcLX Tryz.prog callIG 137 [tree 4 n A, fnS] [(2, [0, 1, 7, 8])] 1 2 (stV [(0, some (tree 4 n A)), (1, some fnS), (7, some (.int .i64 n)), (8, some (.int .i64 k))] [(0, some (.cells [.string s] true))] 1) H Post = (True ∧ pIf (decide (k < (↑n : Int))) (T4 (True ∧ (0 ≤ k ∧ k < (↑n : Int)) ∧ (cellAt A (Int.toNat k) 0 = vs (toS (cellAt A (Int.toNat k) 0)) ∧ cellAt A (Int.toNat k) 1 = vi (toI (cellAt A (Int.toNat k) 1)) ∧ cellAt A (Int.toNat k) 2 = vi (toI (cellAt A (Int.toNat k) 2)) ∧ cellAt A (Int.toNat k) 3 = vi (toI (cellAt A (Int.toNat k) 3)) ∧ True) ∧ T4 (T2 (pIf (decide (toS (cellAt A (Int.toNat k) 0) = s)) (T2 (True ∧ (((True ∧ True) ∧ True) ∧ True) ∧ true = true ∧ Post (Out.ret (vi k)) [[vs s]])) (T4 ((True ∧ True) ∧ H (lpC Tryz.prog 137 2) (lpK Tryz.prog 137 2) (stV [(0, some (tree 4 n A)), (1, some (Value.func (Fn.func 138) #[] #[pt 0])), (7, some (vi (↑n : Int))), (8, some (vi (IntKind.wrap IntKind.i64 (k + 1))))] [(0, some (AObj.cells [vs s] true))] 1))))))) (True ∧ (((True ∧ True) ∧ True) ∧ True) ∧ true = true ∧ Post (Out.ret (vi (-1))) [[vs s]])) := by kernel_rfl
def findG (m : Mats) (s : ByteArray) : Option Grade4 := m.grades.find? fun g => decide (g.name = s)
def findS (m : Mats) (s : ByteArray) : Option Sect4 := m.sects.find? fun g => decide (g.name = s)
structure FewM (m : Mats) : Prop where
 gr : Short m.grades
 se : Short m.sects
 ga : ∀ g ∈ m.grades, g.gauges.length ≤ 17592186044416
def gradeOf (m : Mats) (s : ByteArray) : Grade4 := (findG m s).getD grade0
def sectOf (m : Mats) (s : ByteArray) : Sect4 := (findS m s).getD sect0
def hasG (m : Mats) (s : ByteArray) : Prop := (findG m s).isSome = true
def hasS (m : Mats) (s : ByteArray) : Prop := (findS m s).isSome = true
instance (m : Mats) (s : ByteArray) : Decidable (hasG m s) := by unfold hasG; infer_instance
instance (m : Mats) (s : ByteArray) : Decidable (hasS m s) := by unfold hasS; infer_instance
def c_Grade (args : List Value) (Post : Value → Prop) : Prop := ∃ (m : Mats) (s : ByteArray), args = [matsV m, .string s] ∧ FewM m ∧ Post (.tuple #[gradeV (gradeOf m s), .bool (decide (hasG m s))])
def c_Sect (args : List Value) (Post : Value → Prop) : Prop := ∃ (m : Mats) (s : ByteArray), args = [matsV m, .string s] ∧ FewM m ∧ Post (.tuple #[sectV (sectOf m s), .bool (decide (hasS m s))])
def rolled (m : Mats) (s : ByteArray) (t : Int) : Prop := hasG m s ∧ t ∈ (gradeOf m s).gauges
instance (m : Mats) (s : ByteArray) (t : Int) : Decidable (rolled m s t) := by unfold rolled; infer_instance
def c_Rolled (args : List Value) (Post : Value → Prop) : Prop := ∃ (m : Mats) (s : ByteArray) (t : Int), args = [matsV m, .string s, .int .i64 t] ∧ FewM m ∧ Post (.bool (decide (rolled m s t)))
def c_idxI (args : List Value) (Post : Value → Prop) : Prop := ∃ (l : List Int) (v : Int), args = [tree 1 l.length (encL l), .int .i64 v] ∧ Short l ∧ ∀ i : Int, (0 ≤ i ↔ v ∈ l) → Post (.int .i64 i)
def c_conI (args : List Value) (Post : Value → Prop) : Prop := ∃ (l : List Int) (v : Int), args = [tree 1 l.length (encL l), .int .i64 v] ∧ Short l ∧ Post (.bool (decide (v ∈ l)))
def callGr : PCall := xtabCall [⟨134, c_idxG⟩, ⟨137, c_idxS⟩] (ofV (tabCall [⟨136, c_clone⟩] noCall))
theorem e_Grade (n m : Nat) (s : ByteArray) (A B : Array Value) (H : HT) (Post : PX) : vcX Tryz.prog callGr 62 [] [] [.agg #[tree 4 n A, tree 4 m B], .string s] H Post = (T4 (T2 (True ∧ ∃ (l : List Grade4), ∃ (s_1 : ByteArray), eqL [tree 4 n A, Value.func (Fn.func 135) #[] #[pt 0]] [tree 4 l.length (encL l), Value.func (Fn.func 135) #[] #[pt 0]] ∧ [[vs s]] = [[vs s_1]] ∧ Short l ∧ ∀ (i : Int), First l (fun (g : Grade4) => Grade4.name g = s_1) i → 1 = 1 ∧ T2 (True ∧ pIf (decide (i < 0)) (True ∧ 4 ≤ 4 ∧ True ∧ (True ∧ (T4 (True)) ∧ True ∧ True) ∧ true = true ∧ Post (Out.ret (Value.tuple #[Value.agg #[vz, vi 0, vi 0, tree 1 0 #[]], vb false])) []) (T2 (True ∧ (0 ≤ i ∧ i < (↑n : Int)) ∧ (cellAt A (Int.toNat i) 0 = vs (toS (cellAt A (Int.toNat i) 0)) ∧ cellAt A (Int.toNat i) 1 = vi (toI (cellAt A (Int.toNat i) 1)) ∧ cellAt A (Int.toNat i) 2 = vi (toI (cellAt A (Int.toNat i) 2)) ∧ cellAt A (Int.toNat i) 3 = tree 1 (toN (cellAt A (Int.toNat i) 3)) (toE (cellAt A (Int.toNat i) 3)) ∧ True) ∧ 4 ≤ 4 ∧ T2 (∃ (l : List Int), eqL [tree 1 (toN (cellAt A (Int.toNat i) 3)) (toE (cellAt A (Int.toNat i) 3))] [tree 1 l.length (encL l)] ∧ List.length l ≤ 17592186044416 ∧ True ∧ 4 ≤ 4 ∧ True ∧ 4 ≤ 4 ∧ True ∧ (True ∧ (T4 (True)) ∧ True ∧ True) ∧ true = true ∧ Post (Out.ret (Value.tuple #[Value.agg #[vs (toS (cellAt A (Int.toNat i) 0)), vi (toI (cellAt A (Int.toNat i) 1)), vi (toI (cellAt A (Int.toNat i) 2)), tree 1 l.length (encL l)], vb true])) []))))))) := by kernel_rfl
theorem e_Sect (n m : Nat) (s : ByteArray) (A B : Array Value) (H : HT) (Post : PX) : vcX Tryz.prog callGr 63 [] [] [.agg #[tree 4 n A, tree 4 m B], .string s] H Post = (T4 (T2 (True ∧ ∃ (l : List Sect4), ∃ (s_1 : ByteArray), eqL [tree 4 m B, Value.func (Fn.func 138) #[] #[pt 0]] [tree 4 l.length (encL l), Value.func (Fn.func 138) #[] #[pt 0]] ∧ [[vs s]] = [[vs s_1]] ∧ Short l ∧ ∀ (i : Int), First l (fun (g : Sect4) => Sect4.name g = s_1) i → 1 = 1 ∧ T2 (True ∧ pIf (decide (i < 0)) (True ∧ 4 ≤ 4 ∧ True ∧ (True ∧ (T4 (True)) ∧ True ∧ True) ∧ true = true ∧ Post (Out.ret (Value.tuple #[Value.agg #[vz, vi 0, vi 0, vi 0], vb false])) []) (T2 (True ∧ (0 ≤ i ∧ i < (↑m : Int)) ∧ (cellAt B (Int.toNat i) 0 = vs (toS (cellAt B (Int.toNat i) 0)) ∧ cellAt B (Int.toNat i) 1 = vi (toI (cellAt B (Int.toNat i) 1)) ∧ cellAt B (Int.toNat i) 2 = vi (toI (cellAt B (Int.toNat i) 2)) ∧ cellAt B (Int.toNat i) 3 = vi (toI (cellAt B (Int.toNat i) 3)) ∧ True) ∧ 4 ≤ 4 ∧ True ∧ (True ∧ (T4 (True)) ∧ True ∧ True) ∧ true = true ∧ Post (Out.ret (Value.tuple #[Value.agg #[vs (toS (cellAt B (Int.toNat i) 0)), vi (toI (cellAt B (Int.toNat i) 1)), vi (toI (cellAt B (Int.toNat i) 2)), vi (toI (cellAt B (Int.toNat i) 3))], vb true])) [])))))) := by kernel_rfl
theorem e_idxI (n : Nat) (v : Int) (A : Array Value) (H : HT) (Post : PV) : vcP Tryz.prog noCall 227 [(2, [0, 1, 7, 8])] [tree 1 n A, .int .i64 v] H Post = (T4 (T2 (H (lpC Tryz.prog 227 2) (lpK Tryz.prog 227 2) (stV [(0, some (tree 1 n A)), (1, some (vi v)), (7, some (vi (↑n : Int))), (8, some (vi 0))] [] 0)))) := by kernel_rfl
theorem l_idxI (n : Nat) (v k : Int) (A : Array Value) (H : HT) (Post : PV) : vcLP Tryz.prog noCall 227 [tree 1 n A, .int .i64 v] [(2, [0, 1, 7, 8])] 2 (stV [(0, some (tree 1 n A)), (1, some (.int .i64 v)), (7, some (.int .i64 n)), (8, some (.int .i64 k))] [] 0) H Post = (True ∧ pIf (decide (k < (↑n : Int))) (T4 (True ∧ (0 ≤ k ∧ k < (↑n : Int)) ∧ cellAt A (Int.toNat k) 0 = vi (toI (cellAt A (Int.toNat k) 0)) ∧ True ∧ pIf (decide (v = toI (cellAt A (Int.toNat k) 0))) (T2 (True ∧ Post (vi k))) (T4 (H (lpC Tryz.prog 227 2) (lpK Tryz.prog 227 2) (stV [(0, some (tree 1 n A)), (1, some (vi v)), (7, some (vi (↑n : Int))), (8, some (vi (IntKind.wrap IntKind.i64 (k + 1))))] [] 0))))) (T2 (Post (vi (-1))))) := by kernel_rfl
theorem e_conI (n : Nat) (v : Int) (A : Array Value) (H : HT) (Post : PV) : vcP Tryz.prog (tabCall [⟨227, c_idxI⟩] noCall) 194 [] [tree 1 n A, .int .i64 v] H Post = (T2 (True ∧ ∃ (l : List Int), ∃ (v_1 : Int), eqL [tree 1 n A, vi v] [tree 1 l.length (encL l), vi v_1] ∧ Short l ∧ ∀ (i : Int), (0 ≤ i ↔ v_1 ∈ l) → True ∧ pIf (decide (i ≥ 0)) (T2 (Post (vb true))) (T2 (Post (vb false))))) := by kernel_rfl
theorem e_Rolled (n m : Nat) (s : ByteArray) (t : Int) (A B : Array Value) (H : HT) (Post : PV) : vcP Tryz.prog (tabCall [⟨62, c_Grade⟩, ⟨194, c_conI⟩] noCall) 119 [] [.agg #[tree 4 n A, tree 4 m B], .string s, .int .i64 t] H Post = (T4 (∃ (m_1 : Mats), ∃ (s_1 : ByteArray), eqL [Value.agg #[tree 4 n A, tree 4 m B], vs s] [matsV m_1, vs s_1] ∧ FewM m_1 ∧ T2 (True ∧ pIf (decide (hasG m_1 s_1)) (True ∧ 4 ≤ 4 ∧ T4 (T2 (∃ (l : List Int), ∃ (v : Int), eqL [tree 1 (List.length (Grade4.gauges (gradeOf m_1 s_1))) (encL (Grade4.gauges (gradeOf m_1 s_1))), vi t] [tree 1 l.length (encL l), vi v] ∧ Short l ∧ pIf (decide (v ∈ l)) (T2 (True ∧ Post (vb true))) (T2 (True ∧ Post (vb false)))))) (True ∧ 4 ≤ 4 ∧ T4 (T2 (Post (vb false))))))) := by kernel_rfl
structure FewR (m : Mats) : Prop extends FewM m where
 gr25 : ∀ g ∈ m.grades, g.gauges.length ≤ 33554432
theorem cell_grade {l : List Grade4} {i : Nat} (h : i < l.length) : cellAt (encL l) i 0 = .string l[i].name ∧ cellAt (encL l) i 1 = .int .i64 l[i].dens ∧ cellAt (encL l) i 2 = .int .i64 l[i].yld ∧ cellAt (encL l) i 3 = tree 1 l[i].gauges.length (encL l[i].gauges) := by
 rw [cellAt_encL' h, cellAt_encL' h, cellAt_encL' h, cellAt_encL' h]
 exact ⟨rfl, rfl, rfl, rfl⟩
theorem cell_sect {l : List Sect4} {i : Nat} (h : i < l.length) : cellAt (encL l) i 0 = .string l[i].name ∧ cellAt (encL l) i 1 = .int .i64 l[i].area ∧ cellAt (encL l) i 2 = .int .i64 l[i].height ∧ cellAt (encL l) i 3 = .int .i64 l[i].stock := by
 rw [cellAt_encL' h, cellAt_encL' h, cellAt_encL' h, cellAt_encL' h]
 exact ⟨rfl, rfl, rfl, rfl⟩
theorem cell_gau {l : List Int} {i : Nat} (h : i < l.length) : cellAt (encL l) i 0 = .int .i64 l[i] := by
 rw [cellAt_encL' h]
 rfl
theorem First.none {α : Type} {l : List α} {p : α → Prop} [DecidablePred p] {i : Int} (h : First l p i) (hi : i < 0) : l.find? (fun a => decide (p a)) = Option.none := by
 rw [List.find?_eq_none]
 intro a ha
 have := h.no hi a ha
 simpa using this
theorem find_at {α : Type} {l : List α} {p : α → Prop} [DecidablePred p] {k : Nat} (hk : k < l.length) (hp : p l[k]) (hb : ∀ j (hj : j < l.length), j < k → ¬ p l[j]) : l.find? (fun a => decide (p a)) = some l[k] := by
 rw [List.find?_eq_some_iff_getElem]
 exact ⟨by simpa using hp, k, hk, rfl, fun j hj => by simpa using hb j (by omega) hj⟩
theorem callIG_ok : PCallOk Tryz.prog callIG := inlP_ok mixed (ofV_ok noCall_ok) 2
theorem ok_idxG : XEntOk Tryz.prog ⟨134, c_idxG⟩ := by
 rintro args conts Post ⟨l, s, rfl, rfl, hl, h⟩
 refine spec_X (conts := [[.string s]]) callIG_ok mixed (by kernel_rfl) (by kernel_rfl) _ (e_idxG l.length s (encL l) _ _) ?_
 simp only [true_and]
 refine down (n := l.length) (p := fun k => (∀ i (hi : i < l.length), i < k → ¬ l[i].name = s) → OkX Tryz.prog 134 [tree 4 l.length (encL l), fnG] 1 Post (lpC Tryz.prog 134 2) (lpK Tryz.prog 134 2) (stV [(0, some (tree 4 l.length (encL l))), (1, some fnG), (7, some (.int .i64 l.length)), (8, some (.int .i64 k))] [(0, some (.cells [.string s] true))] 1)) (fun hall => ?_) (fun k h1 ih hall => ?_) (fun i hi h0 => by omega)
 ·refine ok_X callIG_ok mixed _ (l_idxG l.length s l.length (encL l) _ _) ?_
  simp only [true_and]
  refine ifD (fun hlt => by omega) (fun _ => h (-1) ⟨fun _ a ha => ?_, fun h => by omega⟩)
  obtain ⟨i, hi, rfl⟩ := List.mem_iff_getElem.1 ha
  exact hall i hi hi
 ·refine ok_X callIG_ok mixed _ (l_idxG l.length s k (encL l) _ _) ?_
  have hk : ((k : Nat) : Int).toNat = k := Int.toNat_natCast k
  obtain ⟨c0, c1, c2, c3⟩ := cell_grade h1
  simp only [true_and, and_true, hk, c0, c1, c2, c3, toI_int, toS_string, toN_tree, toE_tree, wrapSucc (show k < 2 ^ 62 by omega)]
  refine ifD (fun _ => ⟨⟨by omega, by omega⟩, ifD (fun hn => h k ⟨fun h => by omega, fun _ => ⟨k, h1, rfl, hn, hall⟩⟩) (fun hn => ih fun i hi hik => ?_)⟩) (fun h' => by omega)
  rcases Nat.lt_or_ge i k with h' | h'
  ·exact hall i hi h'
  ·have : i = k := by omega
   subst this
   exact hn
theorem ok_idxS : XEntOk Tryz.prog ⟨137, c_idxS⟩ := by
 rintro args conts Post ⟨l, s, rfl, rfl, hl, h⟩
 refine spec_X (conts := [[.string s]]) callIG_ok mixed (by kernel_rfl) (by kernel_rfl) _ (e_idxS l.length s (encL l) _ _) ?_
 simp only [true_and]
 refine down (n := l.length) (p := fun k => (∀ i (hi : i < l.length), i < k → ¬ l[i].name = s) → OkX Tryz.prog 137 [tree 4 l.length (encL l), fnS] 1 Post (lpC Tryz.prog 137 2) (lpK Tryz.prog 137 2) (stV [(0, some (tree 4 l.length (encL l))), (1, some fnS), (7, some (.int .i64 l.length)), (8, some (.int .i64 k))] [(0, some (.cells [.string s] true))] 1)) (fun hall => ?_) (fun k h1 ih hall => ?_) (fun i hi h0 => by omega)
 ·refine ok_X callIG_ok mixed _ (l_idxS l.length s l.length (encL l) _ _) ?_
  simp only [true_and]
  refine ifD (fun hlt => by omega) (fun _ => h (-1) ⟨fun _ a ha => ?_, fun h => by omega⟩)
  obtain ⟨i, hi, rfl⟩ := List.mem_iff_getElem.1 ha
  exact hall i hi hi
 ·refine ok_X callIG_ok mixed _ (l_idxS l.length s k (encL l) _ _) ?_
  have hk : ((k : Nat) : Int).toNat = k := Int.toNat_natCast k
  obtain ⟨c0, c1, c2, c3⟩ := cell_sect h1
  simp only [true_and, and_true, hk, c0, c1, c2, c3, toI_int, toS_string, toN_tree, toE_tree, wrapSucc (show k < 2 ^ 62 by omega)]
  refine ifD (fun _ => ⟨⟨by omega, by omega⟩, ifD (fun hn => h k ⟨fun h => by omega, fun _ => ⟨k, h1, rfl, hn, hall⟩⟩) (fun hn => ih fun i hi hik => ?_)⟩) (fun h' => by omega)
  rcases Nat.lt_or_ge i k with h' | h'
  ·exact hall i hi h'
  ·have : i = k := by omega
   subst this
   exact hn
theorem callGr_ok : PCallOk Tryz.prog callGr := xtabCall_ok (by
 intro e he
 simp only [List.mem_cons, List.not_mem_nil, or_false] at he
 rcases he with rfl | rfl
 ·exact ok_idxG
 ·exact ok_idxS) (ofV_ok (tabCall_ok (by
 intro e he
 simp only [List.mem_cons, List.not_mem_nil, or_false] at he
 subst he
 exact ok_clone) noCall_ok))
theorem ok_Grade : EntOk Tryz.prog ⟨62, c_Grade⟩ := by
 rintro args Post ⟨m, s, rfl, hf, h⟩
 refine pureX ?_
 refine spec_X (conts := []) callGr_ok mixed (by kernel_rfl) (by kernel_rfl) [] (e_Grade m.grades.length m.sects.length s (encL m.grades) (encL m.sects) _ _) ?_
 simp only [true_and, and_true]
 refine ⟨m.grades, s, rfl, rfl, hf.gr, fun i hi => ifD (fun h0 => ⟨by decide, ?_⟩) (fun h0 => ?_)⟩
 ·have e : findG m s = none := hi.none h0
  have e1 : gradeOf m s = grade0 := by unfold gradeOf; rw [e]; rfl
  have e2 : ¬ hasG m s := by unfold hasG; rw [e]; decide
  rw [e1, decide_eq_false e2] at h
  exact h
 ·obtain ⟨k, hk, rfl, hp, hb⟩ := hi.yes (by omega)
  have e : findG m s = some m.grades[k] := find_at hk hp hb
  have e1 : gradeOf m s = m.grades[k] := by unfold gradeOf; rw [e]; rfl
  have e2 : hasG m s := by unfold hasG; rw [e]; rfl
  rw [e1, decide_eq_true e2] at h
  have hk' : ((k : Nat) : Int).toNat = k := Int.toNat_natCast k
  obtain ⟨c0, c1, c2, c3⟩ := cell_grade hk
  simp only [hk', c0, c1, c2, c3, toI_int, toS_string, toN_tree, toE_tree, true_and, and_true]
  have := hf.ga _ (List.getElem_mem hk)
  refine ⟨⟨by omega, by omega⟩, by decide, m.grades[k].gauges, rfl, by omega, by decide, by decide, ?_⟩
  exact h
theorem ok_Sect : EntOk Tryz.prog ⟨63, c_Sect⟩ := by
 rintro args Post ⟨m, s, rfl, hf, h⟩
 refine pureX ?_
 refine spec_X (conts := []) callGr_ok mixed (by kernel_rfl) (by kernel_rfl) [] (e_Sect m.grades.length m.sects.length s (encL m.grades) (encL m.sects) _ _) ?_
 simp only [true_and, and_true]
 refine ⟨m.sects, s, rfl, rfl, hf.se, fun i hi => ifD (fun h0 => ⟨by decide, ?_⟩) (fun h0 => ?_)⟩
 ·have e : findS m s = none := hi.none h0
  have e1 : sectOf m s = sect0 := by unfold sectOf; rw [e]; rfl
  have e2 : ¬ hasS m s := by unfold hasS; rw [e]; decide
  rw [e1, decide_eq_false e2] at h
  exact h
 ·obtain ⟨k, hk, rfl, hp, hb⟩ := hi.yes (by omega)
  have e : findS m s = some m.sects[k] := find_at hk hp hb
  have e1 : sectOf m s = m.sects[k] := by unfold sectOf; rw [e]; rfl
  have e2 : hasS m s := by unfold hasS; rw [e]; rfl
  rw [e1, decide_eq_true e2] at h
  have hk' : ((k : Nat) : Int).toNat = k := Int.toNat_natCast k
  obtain ⟨c0, c1, c2, c3⟩ := cell_sect hk
  simp only [hk', c0, c1, c2, c3, toI_int, toS_string, true_and, and_true]
  exact ⟨⟨by omega, by omega⟩, by decide, h⟩
theorem ok_idxI : EntOk Tryz.prog ⟨227, c_idxI⟩ := by
 rintro args Post ⟨l, v, rfl, hl, h⟩
 refine pure_P noCall_ok mixed (by kernel_rfl) (by kernel_rfl) _ (e_idxI l.length v (encL l) _ _) ?_
 simp only [true_and]
 refine down (n := l.length) (p := fun k => (∀ i (hi : i < l.length), i < k → ¬ v = l[i]) → OkP 227 [tree 1 l.length (encL l), .int .i64 v] 2 Post (stV [(0, some (tree 1 l.length (encL l))), (1, some (.int .i64 v)), (7, some (.int .i64 l.length)), (8, some (.int .i64 k))] [] 0)) (fun hall => ?_) (fun k h1 ih hall => ?_) (fun i hi h0 => by omega)
 ·refine ok_P noCall_ok mixed _ (l_idxI l.length v l.length (encL l) _ _) ?_
  simp only [true_and]
  refine ifD (fun hlt => by omega) (fun _ => h (-1) ⟨fun h => by omega, fun hv => ?_⟩)
  obtain ⟨i, hi, e⟩ := List.mem_iff_getElem.1 hv
  exact absurd e.symm (hall i hi hi)
 ·refine ok_P noCall_ok mixed _ (l_idxI l.length v k (encL l) _ _) ?_
  have hk : ((k : Nat) : Int).toNat = k := Int.toNat_natCast k
  simp only [true_and, and_true, hk, cell_gau h1, toI_int, wrapSucc (show k < 2 ^ 62 by omega)]
  refine ifD (fun _ => ⟨⟨by omega, by omega⟩, ifD (fun hn => h k ⟨fun _ => by rw [hn]; exact List.getElem_mem h1, fun _ => by omega⟩) (fun hn => ih fun i hi hik => ?_)⟩) (fun h' => by omega)
  rcases Nat.lt_or_ge i k with h' | h'
  ·exact hall i hi h'
  ·have : i = k := by omega
   subst this
   exact hn
theorem ok_conI : EntOk Tryz.prog ⟨194, c_conI⟩ := by
 rintro args Post ⟨l, v, rfl, hl, h⟩
 refine pure_P (tabCall_ok (by
  intro e he
  simp only [List.mem_cons, List.not_mem_nil, or_false] at he
  subst he
  exact ok_idxI) noCall_ok) mixed (by kernel_rfl) (by kernel_rfl) _ (e_conI l.length v (encL l) _ _) ?_
 simp only [true_and]
 refine ⟨l, v, rfl, hl, fun i hi => ifD (fun h1 => ?_) (fun h1 => ?_)⟩
 ·rwa [decide_eq_true (hi.1 h1)] at h
 ·rwa [decide_eq_false (fun hp => h1 (hi.2 hp))] at h
theorem gauge_few {m : Mats} (hf : FewM m) (s : ByteArray) : (gradeOf m s).gauges.length ≤ 17592186044416 := by
 unfold gradeOf findG
 cases h : m.grades.find? fun g => decide (g.name = s) with
 | none => exact Nat.zero_le _
 | some g => exact hf.ga g (List.mem_of_find?_eq_some h)
theorem ok_Rolled : EntOk Tryz.prog ⟨119, c_Rolled⟩ := by
 rintro args Post ⟨m, s, t, rfl, hf, h⟩
 refine pure_P (tabCall_ok (by
  intro e he
  simp only [List.mem_cons, List.not_mem_nil, or_false] at he
  rcases he with rfl | rfl
  ·exact ok_Grade
  ·exact ok_conI) noCall_ok) mixed (by kernel_rfl) (by kernel_rfl) _ (e_Rolled m.grades.length m.sects.length s t (encL m.grades) (encL m.sects) _ _) ?_
 simp only [true_and]
 have hg := gauge_few hf s
 refine ⟨m, s, rfl, hf, ifD (fun h1 => ⟨by decide, (gradeOf m s).gauges, t, rfl, show _ < _ by omega, ifD (fun h2 => ?_) (fun h2 => ?_)⟩) (fun h1 => ⟨by decide, ?_⟩)⟩
 ·rwa [decide_eq_true (show rolled m s t from ⟨h1, h2⟩)] at h
 ·rwa [decide_eq_false (fun hp : rolled m s t => h2 hp.2)] at h
 ·rwa [decide_eq_false (fun hp : rolled m s t => h1 hp.1)] at h
abbrev vecV (v : Vec3) : Value := .agg #[.int .i64 v.x, .int .i64 v.y, .int .i64 v.z]
def inV (v : Vec3) (n : Int) : Prop := (-n ≤ v.x ∧ v.x ≤ n) ∧ (-n ≤ v.y ∧ v.y ≤ n) ∧ (-n ≤ v.z ∧ v.z ≤ n)
instance (v : Vec3) (n : Int) : Decidable (inV v n) := by unfold inV; infer_instance
structure Lim (n : Int) : Prop where
 h : 0 ≤ n ∧ n ≤ 1099511627776
def c_vin (args : List Value) (Post : Value → Prop) : Prop := ∃ (v : Vec3) (n : Int), args = [vecV v, .int .i64 n] ∧ Lim n ∧ Post (.bool (decide (inV v n)))
def turnNo (k : Int) : Int := if k < 0 ∨ 24 ≤ k then 0 else k
def c_num (args : List Value) (Post : Value → Prop) : Prop := match args with
 | [.int .i64 k] => Post (.int .i64 (turnNo k))
 | _ => False
def validP (at_ : Vec3) (k : Int) : Prop := inV at_ 524288 ∧ k = turnNo k
instance (at_ : Vec3) (k : Int) : Decidable (validP at_ k) := by unfold validP; infer_instance
abbrev placeV (at_ : Vec3) (k : Int) : Value := .agg #[.int .i64 at_.x, .int .i64 at_.y, .int .i64 at_.z, .int .i64 k]
def c_vvalid (args : List Value) (Post : Value → Prop) : Prop := ∃ (a : Vec3) (k : Int), args = [placeV a k] ∧ Post (.bool (decide (validP a k)))
theorem e_vin (v : Vec3) (n : Int) (H : HT) (Post : PV) : vcP Tryz.prog noCall 124 [] [vecV v, .int .i64 n] H Post = (T16 (True ∧ pIf (decide (v.x < IntKind.wrap IntKind.i64 (0 - n))) (T4 (Post (vb false))) (T4 (pIf (decide (v.x > n)) (T2 (True ∧ Post (vb false))) (T8 (T2 (pIf (decide (v.y < IntKind.wrap IntKind.i64 (0 - n))) (T4 (Post (vb false))) (T4 (pIf (decide (v.y > n)) (T2 (True ∧ Post (vb false))) (T8 (T2 (pIf (decide (v.z < IntKind.wrap IntKind.i64 (0 - n))) (T4 (Post (vb false))) (T4 (pIf (decide (v.z > n)) (T2 (True ∧ Post (vb false))) (T4 (T2 (Post (vb true)))))))))))))))))) := by kernel_rfl
theorem e_num (n : Int) (H : HT) (Post : PV) : vcP Tryz.prog noCall 125 [] [.int .i64 n] H Post = (T2 (True ∧ pIf (decide (n < 0)) (T4 (Post (vi 0))) (T2 (True ∧ pIf (decide (n ≥ 24)) (T2 (True ∧ Post (vi 0))) (T4 (Post (vi n))))))) := by kernel_rfl
theorem e_vvalid (a : Vec3) (k : Int) (H : HT) (Post : PV) : vcP Tryz.prog (tabCall [⟨124, c_vin⟩, ⟨125, c_num⟩] noCall) 53 [] [placeV a k] H Post = (T4 (∃ (v : Vec3), ∃ (n : Int), eqL [Value.agg #[vi a.x, vi a.y, vi a.z], vi 524288] [vecV v, vi n] ∧ Lim n ∧ pIf (decide (inV v n)) (T8 (pIf (decide (k = turnNo k)) (T2 (True ∧ Post (vb true))) (T2 (True ∧ Post (vb false))))) (T4 (True ∧ Post (vb false))))) := by kernel_rfl
def roundP (a b : Int) : Int := (2 * a + b).fdiv (2 * b)
structure Quo (a b : Int) : Prop where
 h : -2305843009213693952 ≤ a ∧ a ≤ 2305843009213693952 ∧ 1 ≤ b ∧ b ≤ 1152921504606846976
def c_floor (args : List Value) (Post : Value → Prop) : Prop := ∃ a b : Int, args = [.int .i64 a, .int .i64 b] ∧ Quo a b ∧ Post (.tuple #[.int .i64 (a.fdiv b), .int .i64 0])
def c_round (args : List Value) (Post : Value → Prop) : Prop := ∃ a b : Int, args = [.int .i64 a, .int .i64 b] ∧ Quo a b ∧ Post (.tuple #[.int .i64 (roundP a b), .int .i64 0])
theorem e_floor (a b : Int) (H : HT) (Post : PV) : vcP Tryz.prog (inlCall Tryz.prog [147] noCall 2) 211 [] [.int .i64 a, .int .i64 b] H Post = (let q3 := T8 (True ∧ (T2 (True)) ∧ Post (Value.tuple #[vi (IntKind.wrap IntKind.i64 (IntKind.wrap IntKind.i64 (Int.tdiv a b) - 1)), vi 0])); let q2 := T4 (T2 ((T2 (True)) ∧ Post (Value.tuple #[vi (IntKind.wrap IntKind.i64 (Int.tdiv a b)), vi 0]))); let q1 := (b = 0 → False) ∧ T8 (T4 (pIf (!decide (Int.tmod a b = 0)) (T2 (True ∧ pIf (decide (Int.tmod a b < 0)) (T2 (pIf (decide (b < 0)) q2 q3)) (T2 (pIf (decide (b < 0)) q3 q2)))) q2)); T8 (True ∧ pIf (decide (b = 0)) (T16 (T2 (True ∧ (T2 (True)) ∧ Post (Value.tuple #[vi 0, vi 22])))) (T2 (True ∧ pIf (decide (a = -9223372036854775808)) (T2 (True ∧ pIf (decide (b = -1)) (T16 (T4 ((T2 (True)) ∧ Post (Value.tuple #[vi 0, vi 21])))) (T4 ((b = 0 → False) ∧ T2 q1)))) (T4 (True ∧ (b = 0 → False) ∧ T2 q1)))))) := by kernel_rfl
theorem e_round (a b : Int) (H : HT) (Post : PV) : vcP Tryz.prog (inlCall Tryz.prog [212] (tabCall [⟨211, c_floor⟩] noCall) 2) 142 [] [.int .i64 a, .int .i64 b] H Post = (T4 (∃ (a_1 : Int), ∃ (b_1 : Int), eqL [vi a, vi b] [vi a_1, vi b_1] ∧ Quo a_1 b_1 ∧ T8 (T4 (T2 (True ∧ pIf (decide (IntKind.wrap IntKind.i64 (a - IntKind.wrap IntKind.i64 (Int.fdiv a_1 b_1 * b)) < 0)) (T8 (T2 (pIf (decide (b < 0)) (T4 (T2 (True ∧ pIf (decide (IntKind.wrap IntKind.u64 (0 - IntKind.wrap IntKind.u64 (IntKind.wrap IntKind.i64 (a - IntKind.wrap IntKind.i64 (Int.fdiv a_1 b_1 * b)))) ≥ IntKind.wrap IntKind.u64 (IntKind.wrap IntKind.u64 (0 - IntKind.wrap IntKind.u64 b) - IntKind.wrap IntKind.u64 (0 - IntKind.wrap IntKind.u64 (IntKind.wrap IntKind.i64 (a - IntKind.wrap IntKind.i64 (Int.fdiv a_1 b_1 * b))))))) (T4 (T2 ((T2 (True)) ∧ Post (Value.tuple #[vi (IntKind.wrap IntKind.i64 (Int.fdiv a_1 b_1 + 1)), vi 0])))) (T2 (True ∧ (T2 (True)) ∧ Post (Value.tuple #[vi (Int.fdiv a_1 b_1), vi 0])))))) (T4 (T2 (pIf (decide (IntKind.wrap IntKind.u64 (0 - IntKind.wrap IntKind.u64 (IntKind.wrap IntKind.i64 (a - IntKind.wrap IntKind.i64 (Int.fdiv a_1 b_1 * b)))) ≥ IntKind.wrap IntKind.u64 (IntKind.wrap IntKind.u64 b - IntKind.wrap IntKind.u64 (0 - IntKind.wrap IntKind.u64 (IntKind.wrap IntKind.i64 (a - IntKind.wrap IntKind.i64 (Int.fdiv a_1 b_1 * b))))))) (T4 (T2 ((T2 (True)) ∧ Post (Value.tuple #[vi (IntKind.wrap IntKind.i64 (Int.fdiv a_1 b_1 + 1)), vi 0])))) (T2 (True ∧ (T2 (True)) ∧ Post (Value.tuple #[vi (Int.fdiv a_1 b_1), vi 0]))))))))) (T8 (True ∧ pIf (decide (b < 0)) (T4 (T2 (True ∧ pIf (decide (IntKind.wrap IntKind.u64 (IntKind.wrap IntKind.i64 (a - IntKind.wrap IntKind.i64 (Int.fdiv a_1 b_1 * b))) ≥ IntKind.wrap IntKind.u64 (IntKind.wrap IntKind.u64 (0 - IntKind.wrap IntKind.u64 b) - IntKind.wrap IntKind.u64 (IntKind.wrap IntKind.i64 (a - IntKind.wrap IntKind.i64 (Int.fdiv a_1 b_1 * b)))))) (T4 (T2 ((T2 (True)) ∧ Post (Value.tuple #[vi (IntKind.wrap IntKind.i64 (Int.fdiv a_1 b_1 + 1)), vi 0])))) (T2 (True ∧ (T2 (True)) ∧ Post (Value.tuple #[vi (Int.fdiv a_1 b_1), vi 0])))))) (T4 (T2 (pIf (decide (IntKind.wrap IntKind.u64 (IntKind.wrap IntKind.i64 (a - IntKind.wrap IntKind.i64 (Int.fdiv a_1 b_1 * b))) ≥ IntKind.wrap IntKind.u64 (IntKind.wrap IntKind.u64 b - IntKind.wrap IntKind.u64 (IntKind.wrap IntKind.i64 (a - IntKind.wrap IntKind.i64 (Int.fdiv a_1 b_1 * b)))))) (T4 (T2 ((T2 (True)) ∧ Post (Value.tuple #[vi (IntKind.wrap IntKind.i64 (Int.fdiv a_1 b_1 + 1)), vi 0])))) (T2 (True ∧ (T2 (True)) ∧ Post (Value.tuple #[vi (Int.fdiv a_1 b_1), vi 0]))))))))))))) := by kernel_rfl
end Go.Proofs.YtngginofamlkkaaGreatDoor
