/-
  Put together out of several texts, each in its own namespace's block. Conditions: as each theorem states them.
-/
import Derived.Test.YtngginofamlkkaaGreatDoorQPux
import Derived.Test.YtngginofamlkkaaGreatDoorQSgb
import Derived.Shelf.Slices.Clone
import Derived.Test.YtngginofamlkkaaGreatDoorQGb
import Derived.Test.YtngginofamlkkaaGreatDoorProg
import Derived.WalkSpells
import Derived.WalkLawsBesides
import Derived.Deep.QuietTactic
import Derived.BigQuiet
import Derived.Lib.Bytealg
noncomputable section
namespace Go.Proofs.YtngginofamlkkaaGreatDoor
open Go Go.RowKit
set_option maxRecDepth 100000
set_option maxHeartbeats 8000000
theorem ok_r13turn : EntOk Tryz.prog ⟨237, c_rturn⟩ := by
 rintro args Post ⟨a, b, c, rfl, ha, hb, hc, h⟩
 refine pure_P (vc := noCall) noCall_ok mixed (by kernel_rfl) (by kernel_rfl) _ (e_r13turn a b c _ _) ?_
 simp only [true_and, cross_wrap ha hb hc]
 rcases sgnZ_cases (crossP a b c) with ⟨h1, e⟩ | ⟨h1, e⟩ | ⟨h1, e⟩
 ·rw [e] at h
  exact ifD (fun _ => by omega) (fun _ => ifD (fun _ => h) (fun _ => by omega))
 ·rw [e] at h
  exact ifD (fun _ => by omega) (fun _ => ifD (fun _ => by omega) (fun _ => h))
 ·rw [e] at h
  exact ifD (fun _ => h) (fun _ => by omega)
theorem ok_r13on : EntOk Tryz.prog ⟨236, c_onP⟩ := by
 rintro args Post ⟨a, b, q, rfl, ha, hb, hq, h⟩
 refine pure_P (tabCall_ok (by
  intro e he
  simp only [List.mem_cons, List.not_mem_nil, or_false] at he
  subst he
  exact ok_r13turn) noCall_ok) mixed (by kernel_rfl) (by kernel_rfl) _ (e_r13on a b q _ _) ?_
 simp only [true_and, min_if, max_if, sgnZ_zero]
 have yes : onP a b q → Post (.bool true) := fun hp => by rwa [decide_eq_true hp] at h
 have no : ¬ onP a b q → Post (.bool false) := fun hp => by rwa [decide_eq_false hp] at h
 refine ⟨a, b, q, rfl, ha, hb, hq, ifD (fun h1 => ?_) (fun h1 => no fun hp => h1 hp.1)⟩
 refine ifD (fun h2 => ?_) (fun h2 => no fun hp => h2 hp.2.1)
 refine ifD (fun h3 => ?_) (fun h3 => no fun hp => h3 hp.2.2.1)
 refine ifD (fun h4 => ?_) (fun h4 => no fun hp => h4 hp.2.2.2.1)
 exact ifD (fun h5 => yes ⟨h1, h2, h3, h4, h5⟩) (fun h5 => no fun hp => h5 hp.2.2.2.2)
theorem vcRt_ok : VCallOk Tryz.prog vcRt := tabCall_ok (by
 intro e he
 simp only [List.mem_cons, List.not_mem_nil, or_false] at he
 rcases he with rfl | rfl
 ·exact ok_r13turn
 ·exact ok_r13on) noCall_ok
theorem ok_r13meet : EntOk Tryz.prog ⟨207, c_meetP⟩ := by
 rintro args Post ⟨a, b, c, d, rfl, ha, hb, hc, hd, h⟩
 refine pure_P vcRt_ok mixed (by kernel_rfl) (by kernel_rfl) _ (e_r13meet a b c d _ _) ?_
 simp only [true_and, sgn_opp]
 have yes : meetP a b c d → Post (.bool true) := fun hp => by rwa [decide_eq_true hp] at h
 have no : ¬ meetP a b c d → Post (.bool false) := fun hp => by rwa [decide_eq_false hp] at h
 refine ⟨a, b, c, rfl, ha, hb, hc, ifD (fun h1 => yes (.inl h1)) (fun h1 => ?_)⟩
 refine ⟨a, b, d, rfl, ha, hb, hd, ifD (fun h2 => yes (.inr (.inl h2))) (fun h2 => ?_)⟩
 refine ⟨c, d, a, rfl, hc, hd, ha, ifD (fun h3 => yes (.inr (.inr (.inl h3)))) (fun h3 => ?_)⟩
 refine ⟨c, d, b, rfl, hc, hd, hb, ifD (fun h4 => yes (.inr (.inr (.inr (.inl h4))))) (fun h4 => ?_)⟩
 have never : ¬ (oppP (crossP a b c) (crossP a b d) ∧ oppP (crossP c d a) (crossP c d b)) → Post (.bool false) := fun hn => no (by
  rintro (h | h | h | h | h)
  ·exact h1 h
  ·exact h2 h
  ·exact h3 h
  ·exact h4 h
  ·exact hn h)
 refine ⟨a, b, c, rfl, ha, hb, hc, a, b, d, rfl, ha, hb, hd, ifD (fun h5 => ?_) (fun h5 => never fun h => h5 h.1)⟩
 exact ⟨c, d, a, rfl, hc, hd, ha, c, d, b, rfl, hc, hd, hb, ifD (fun h6 => yes (.inr (.inr (.inr (.inr ⟨h5, h6⟩))))) (fun h6 => never fun h => h6 h.2)⟩
theorem vcRx_ok : VCallOk Tryz.prog vcRx := tabCall_ok (by
 intro e he
 simp only [List.mem_cons, List.not_mem_nil, or_false] at he
 subst he
 exact ok_r13meet) noCall_ok
theorem ok_rcr : EntOk Tryz.prog ⟨132, c_rcr⟩ := by
 rintro args Post ⟨p, q, rfl, hp, hq, np, nq, h⟩
 have yes : crossC p q → Post (.bool true) := fun hp => by rwa [decide_eq_true hp] at h
 have no : ¬ crossC p q → Post (.bool false) := fun hp => by rwa [decide_eq_false hp] at h
 refine pure_P vcRx_ok mixed (by kernel_rfl) (by kernel_rfl) _ (e_rcr p.length q.length (encL p) (encL q) _ _) ?_
 simp only [true_and]
 refine down (n := p.length) (p := fun k => (∀ i, i < k → ∀ t, t < q.length → ¬ meetP (cyc p i) (cyc p (i + 1)) (cyc q t) (cyc q (t + 1))) → OkP 132 [trPt p, trPt q] 2 Post (stV [(0, some (trPt p)), (1, some (trPt q)), (5, some (.int .i64 k))] [] 0)) (fun hall => ?_) (fun k h1 ih hall => ?_) (fun i hi => by omega)
 ·refine ok_P vcRx_ok mixed _ (l_rcr p.length q.length p.length (encL p) (encL q) _ _) ?_
  simp only [true_and]
  refine ifD (fun hlt => by omega) (fun _ => no ?_)
  rintro ⟨i, hi, t, ht, hm⟩
  exact hall i hi t ht hm
 ·have h0 : 0 < p.length := by omega
  refine ok_P vcRx_ok mixed _ (l_rcr p.length q.length k (encL p) (encL q) _ _) ?_
  simp only [true_and]
  refine ifD (fun _ => ?_) (fun h' => by omega)
  refine down (n := q.length) (p := fun j => (∀ t, t < j → ¬ meetP (cyc p k) (cyc p (k + 1)) (cyc q t) (cyc q (t + 1))) → OkP 132 [trPt p, trPt q] 5 Post (stV [(0, some (trPt p)), (1, some (trPt q)), (5, some (.int .i64 k)), (6, some (.int .i64 j))] [] 0)) (fun hin => ?_) (fun j j1 jh hin => ?_) (fun i hi => by omega)
  ·refine ok_P vcRx_ok mixed _ (m_rcr p.length q.length k q.length (encL p) (encL q) _ _) ?_
   simp only [true_and, and_true, wrapSucc (show k < 2 ^ 62 by omega)]
   refine ifD (fun hlt => by omega) (fun _ => ih fun i hi t ht => ?_)
   rcases Nat.lt_or_ge i k with h' | h'
   ·exact hall i h' t ht
   ·rw [show i = k by omega]; exact hin t ht
  ·have q0 : 0 < q.length := by omega
   have hk : ((k : Nat) : Int).toNat = k := Int.toNat_natCast k
   have hk1 : (((k + 1) % p.length : Nat) : Int).toNat = (k + 1) % p.length := Int.toNat_natCast _
   have hj : ((j : Nat) : Int).toNat = j := Int.toNat_natCast j
   have hj1 : (((j + 1) % q.length : Nat) : Int).toNat = (j + 1) % q.length := Int.toNat_natCast _
   have hm := Nat.mod_lt (k + 1) h0
   have hmj := Nat.mod_lt (j + 1) q0
   obtain ⟨c0, c1⟩ := cell_cyc0 h1
   obtain ⟨d0, d1⟩ := cell_cyc h0 (k + 1)
   obtain ⟨f0, f1⟩ := cell_cyc0 j1
   obtain ⟨g0, g1⟩ := cell_cyc q0 (j + 1)
   refine ok_P vcRx_ok mixed _ (m_rcr p.length q.length k j (encL p) (encL q) _ _) ?_
   simp only [true_and, and_true, hk, hj, tmN, hk1, hj1, c0, c1, d0, d1, f0, f1, g0, g1, toI_int, wrapSucc (show k < 2 ^ 62 by omega), wrapSucc (show j < 2 ^ 62 by omega)]
   refine ifD (fun _ => ⟨⟨by omega, by omega⟩, fun h => by omega, ⟨by omega, by omega⟩, ⟨by omega, by omega⟩, fun h => by omega, ⟨by omega, by omega⟩, cyc p k, cyc p (k + 1), cyc q j, cyc q (j + 1), rfl, near_cyc np h0 k, near_cyc np h0 (k + 1), near_cyc nq q0 j, near_cyc nq q0 (j + 1), ifD (fun hm => yes ⟨k, h1, j, j1, hm⟩) (fun hm => jh fun t ht => ?_)⟩) (fun h' => by omega)
   rcases Nat.lt_or_ge t j with h' | h'
   ·exact hin t h'
   ·rw [show t = j by omega]; exact hm
theorem vcRy_ok : VCallOk Tryz.prog vcRy := tabCall_ok (by
 intro e he
 simp only [List.mem_cons, List.not_mem_nil, or_false] at he
 rcases he with rfl | rfl | rfl | rfl
 ·exact ok_rpchk
 ·exact ok_rpar2
 ·exact ok_rcr
 ·exact ok_rpwhere) noCall_ok
theorem cell_cor {l : List Pt} (h : 0 < l.length) : cellAt (encL l) 0 0 = .int .i64 (cor l 0).x ∧ cellAt (encL l) 0 1 = .int .i64 (cor l 0).y := by
 have := cell_cyc0 h
 rwa [cyc_lt h] at this
theorem rholeErr_eq (o : List Pt) (hs : List (List Pt)) (i : Nat) : rholeErr o hs i = if polyCheck (hs.getD i []) ≠ 0 then polyCheck (hs.getD i []) else if 0 ≤ area2P (hs.getD i []) ∨ crossC o (hs.getD i []) ∨ whereP o (cor (hs.getD i []) 0) ≠ 1 ∨ ∃ k, k < i ∧ (crossC (hs.getD i []) (hs.getD k []) ∨ whereP (hs.getD i []) (cor (hs.getD k []) 0) ≠ -1 ∨ whereP (hs.getD k []) (cor (hs.getD i []) 0) ≠ -1) then 17 else 0 := by
 unfold rholeErr
 simp only [polyCheck_eq, area2_eq, where_eq]
theorem rholeErr_zero {o : List Pt} {hs : List (List Pt)} {i : Nat} (h : rholeErr o hs i = 0) : polyCheck (hs.getD i []) = 0 := by
 rw [rholeErr_eq] at h
 by_cases h1 : polyCheck (hs.getD i []) = 0
 ·exact h1
 ·rw [if_pos h1] at h; exact absurd h h1
theorem ok_r13chk : EntOk Tryz.prog ⟨57, c_rchk⟩ := by
 rintro args Post ⟨o, hs, rfl, so, ss, sh, h⟩
 refine pure_P vcRy_ok mixed (by kernel_rfl) (by kernel_rfl) _ (e_r13chk o.length hs.length (encL o) (encL hs) _ _) ?_
 simp only [true_and]
 rw [shapeCheck_eq] at h
 unfold rshapeCheck at h
 rw [← polyCheck_eq, ← area2_eq] at h
 refine ifD (fun h1 => ?_) (fun h1 => ⟨o, rfl, so, ifN (fun h2 => ?_) (fun h2 => ⟨o, rfl, so, ifD (fun h3 => ?_) (fun h3 => ?_)⟩)⟩)
 ·rwa [if_pos (by omega)] at h
 ·rwa [if_neg (by omega), if_pos h2] at h
 ·rwa [if_neg (by omega), if_neg (fun h => h h2), if_pos h3] at h
 rw [if_neg (by omega), if_neg (fun h => h h2), if_neg h3] at h
 obtain ⟨o3, o32, on⟩ := check_near h2
 refine down (n := hs.length) (p := fun k => (∀ i, i < k → rholeErr o hs i = 0) → OkP 57 [shapeV o hs] 9 Post (stV [(1, some (.pointer (some ⟨0, 0, none⟩))), (4, some (.int .i64 k))] [(0, some (.cells [trPt o, trPts hs] true))] 1)) (fun hall => ?_) (fun k k1 ih hall => ?_) (fun i hi => by omega)
 ·refine ok_P vcRy_ok mixed _ (l_r13chk o.length hs.length hs.length (encL o) (encL hs) _ _) ?_
  rw [firstErr_zero.2 hall] at h
  simp only [true_and]
  exact ifD (fun hlt => by omega) (fun _ => h)
 ·refine ok_P vcRy_ok mixed _ (l_r13chk o.length hs.length k (encL o) (encL hs) _ _) ?_
  have hk : ((k : Nat) : Int).toNat = k := Int.toNat_natCast k
  have bad : ∀ e : Int, rholeErr o hs k = e → e ≠ 0 → Post (.int .i64 e) := fun e he hn => by
   rw [firstErr_at k1 hall (by rw [he]; exact hn), he] at h
   exact h
  have gd : hs.getD k [] = hs[k] := getD_at k1
  rw [rholeErr_eq, gd] at bad
  have sk := sh _ (List.getElem_mem k1)
  simp only [true_and, and_true, hk, cell_pts k1, toN_tree, toE_tree]
  refine ifD (fun _ => ⟨⟨by omega, by omega⟩, hs[k], rfl, sk, ifN (fun g1 => bad _ (by rw [if_pos g1]) g1) (fun g1 => ?_)⟩) (fun h' => by omega)
  obtain ⟨k3, k32, kn⟩ := check_near g1
  rw [if_neg (fun h => h g1)] at bad
  obtain ⟨c0, c1⟩ := cell_cor (l := hs[k]) (by omega)
  simp only [c0, c1, toI_int, true_and, and_true]
  have b17 : (0 ≤ area2P hs[k] ∨ crossC o hs[k] ∨ whereP o (cor hs[k] 0) ≠ 1 ∨ ∃ j, j < k ∧ (crossC hs[k] (hs.getD j []) ∨ whereP hs[k] (cor (hs.getD j []) 0) ≠ -1 ∨ whereP (hs.getD j []) (cor hs[k] 0) ≠ -1)) → Post (.int .i64 17) := fun hb => bad 17 (by rw [if_pos hb]) (by decide)
  refine ⟨hs[k], rfl, sk, ifD (fun g2 => b17 (.inl g2)) (fun g2 => ⟨o, hs[k], rfl, o32, k32, on, kn, ifD (fun g3 => b17 (.inr (.inl g3))) (fun g3 => ⟨⟨by omega, by omega⟩, o, cor hs[k] 0, rfl, so, ifN (fun g4 => b17 (.inr (.inr (.inl g4)))) (fun g4 => ?_)⟩)⟩)⟩
  refine down (n := k) (p := fun j => (∀ t, t < j → ¬ (crossC hs[k] (hs.getD t []) ∨ whereP hs[k] (cor (hs.getD t []) 0) ≠ -1 ∨ whereP (hs.getD t []) (cor hs[k] 0) ≠ -1)) → OkP 57 [shapeV o hs] 18 Post (stV [(1, some (.pointer (some ⟨0, 0, none⟩))), (4, some (.int .i64 k)), (5, some (trPt hs[k])), (7, some (.int .i64 j))] [(0, some (.cells [trPt o, trPts hs] true))] 1)) (fun hin => ?_) (fun j j1 jh hin => ?_) (fun i hi => by omega)
  ·refine ok_P vcRy_ok mixed _ (m_r13chk o.length hs.length hs[k].length k k (encL o) (encL hs) (encL hs[k]) _ _) ?_
   simp only [true_and, wrapSucc (show k < 2 ^ 62 by omega)]
   refine ifD (fun hlt => by omega) (fun _ => ih fun i hi => ?_)
   rcases Nat.lt_or_ge i k with h' | h'
   ·exact hall i h'
   ·rw [show i = k by omega, rholeErr_eq, gd, if_neg (fun h => h g1), if_neg]
    rintro (h | h | h | ⟨t, ht, h⟩)
    ·exact g2 h
    ·exact g3 h
    ·exact h g4
    ·exact hin t ht h
  ·have jl : j < hs.length := by omega
   have jd : hs.getD j [] = hs[j] := getD_at jl
   have jz : polyCheck hs[j] = 0 := by rw [← jd]; exact rholeErr_zero (hall j j1)
   obtain ⟨j3, j32, jn⟩ := check_near jz
   have hj : ((j : Nat) : Int).toNat = j := Int.toNat_natCast j
   obtain ⟨d0, d1⟩ := cell_cor (l := hs[j]) (by omega)
   refine ok_P vcRy_ok mixed _ (m_r13chk o.length hs.length hs[k].length k j (encL o) (encL hs) (encL hs[k]) _ _) ?_
   simp only [true_and, and_true, hj, cell_pts jl, toN_tree, toE_tree, c0, c1, d0, d1, toI_int, wrapSucc (show j < 2 ^ 62 by omega)]
   have b2 : (crossC hs[k] hs[j] ∨ whereP hs[k] (cor hs[j] 0) ≠ -1 ∨ whereP hs[j] (cor hs[k] 0) ≠ -1) → Post (.int .i64 17) := fun hb => b17 (.inr (.inr (.inr ⟨j, j1, by rw [jd]; exact hb⟩)))
   refine ifD (fun _ => ⟨⟨by omega, by omega⟩, hs[k], hs[j], rfl, k32, j32, kn, jn, ifD (fun a1 => b2 (.inl a1)) (fun a1 => ⟨⟨by omega, by omega⟩, ⟨by omega, by omega⟩, hs[k], cor hs[j] 0, rfl, sk, ifN (fun a2 => b2 (.inr (.inl a2))) (fun a2 => ⟨⟨by omega, by omega⟩, ⟨by omega, by omega⟩, hs[j], cor hs[k] 0, rfl, sh _ (List.getElem_mem jl), ifN (fun a3 => b2 (.inr (.inr a3))) (fun a3 => jh fun t ht => ?_)⟩)⟩)⟩) (fun h' => by omega)
   rcases Nat.lt_or_ge t j with h' | h'
   ·exact hin t h'
   ·rw [show t = j by omega, jd]
    rintro (h | h | h)
    ·exact a1 h
    ·exact h a2
    ·exact h a3
theorem ok_r13cont : EntOk Tryz.prog ⟨140, c_cont⟩ := by
 rintro args Post ⟨o, hs, rfl, h8, h⟩
 refine pure_P noCall_ok mixed (by kernel_rfl) (by kernel_rfl) _ (e_r13cont o.length hs.length (encL o) (encL hs) _ _) ?_
 simp only [true_and, flat_pts]
 have en : encL (o :: hs) = (trPt o :: hs.map fun a => trPt a).toArray := by
  unfold encL
  rw [List.map_cons]
  rfl
 refine pIf_intro (fun hm => ?_) (fun hm => ?_)
 ·have : hs = [] := List.eq_nil_of_length_eq_zero (Nat.eq_of_beq_eq_true hm)
  subst this
  refine ⟨⟨Nat.le_refl _, fun v hv => ?_⟩, h⟩
  simp only [List.mem_cons, List.not_mem_nil, or_false] at hv
  subst hv
  rfl
 ·have nls : NLs (trPt o :: hs.map fun a => trPt a) := fun v hv => by
   rcases List.mem_cons.1 hv with rfl | hv
   ·rfl
   ·obtain ⟨a, _, rfl⟩ := List.mem_map.1 hv
    rfl
  refine ⟨by omega, ?_, by rw [List.length_map, Nat.mul_one], ⟨?_, nls⟩, ?_⟩
  ·rw [List.all_eq_true]
   intro v hv
   obtain ⟨a, _, rfl⟩ := List.mem_map.1 hv
   rfl
  ·simp
   omega
  ·have e : tree 1 (1 + hs.length) (chunks 1 (1 + hs.length) (List.drop 0 ([trPt o] ++ hs.map fun a => trPt a))) = trPts (o :: hs) := by
    have ec : chunks 1 (1 + hs.length) (List.drop 0 ([trPt o] ++ hs.map fun a => trPt a)) = encL (o :: hs) := by
     rw [en]
     show ((List.drop 0 (trPt o :: hs.map fun a => trPt a)).take (1 + hs.length)).toArray = _
     rw [List.drop_zero, List.take_of_length_le (by simp; omega)]
    rw [ec, Nat.add_comm]
    rfl
   rw [e]
   exact h
theorem vcRz_ok : VCallOk Tryz.prog vcRz := tabCall_ok (by
 intro e he
 simp only [List.mem_cons, List.not_mem_nil, or_false] at he
 rcases he with rfl | rfl | rfl | rfl
 ·exact ok_r13chk
 ·exact ok_r13cont
 ·exact ok_rpar2
 ·exact ok_rpmom) noCall_ok
theorem ok_r13ar2 : EntOk Tryz.prog ⟨67, c_rar2⟩ := by
 rintro args Post ⟨o, hs, rfl, so, ss, sh, h⟩
 refine pure_P vcRz_ok mixed (by kernel_rfl) (by kernel_rfl) _ (e_r13ar2 o.length hs.length (encL o) (encL hs) _ _) ?_
 simp only [true_and]
 unfold rArea at h
 refine ⟨o, hs, rfl, so, ss, sh, ifN (fun h1 => ?_) (fun h1 => ?_)⟩
 ·rwa [if_neg h1] at h
 rw [if_pos h1] at h
 have h8 := ((shapeCheck_zero o hs).1 h1).few
 refine ⟨o, hs, rfl, h8, ?_⟩
 refine down (n := (o :: hs).length) (p := fun k => OkP 67 [shapeV o hs] 6 Post (stV [(3, some (.int .i64 (sumTo (overC area2P o hs) k))), (4, some (trPts (o :: hs))), (5, some (.int .i64 k))] [] 0)) ?_ (fun k k1 ih => ?_)
 ·refine ok_P vcRz_ok mixed _ (l_r13ar2 o.length hs.length (o :: hs).length (o :: hs).length (sumTo (overC area2P o hs) (o :: hs).length) (encL o) (encL hs) (encL (o :: hs)) _ _) ?_
  simp only [true_and]
  exact ifD (fun hlt => by omega) (fun _ => h)
 ·refine ok_P vcRz_ok mixed _ (l_r13ar2 o.length hs.length (o :: hs).length k (sumTo (overC area2P o hs) k) (encL o) (encL hs) (encL (o :: hs)) _ _) ?_
  have hk : ((k : Nat) : Int).toNat = k := Int.toNat_natCast k
  have kl : k < 32 := by rw [List.length_cons] at k1; omega
  simp only [true_and, and_true, hk, cell_pts k1, toN_tree, toE_tree, wrapSucc (show k < 2 ^ 62 by omega)]
  refine ifD (fun _ => ⟨⟨by omega, by omega⟩, (o :: hs)[k], rfl, short_all so sh _ (List.getElem_mem k1), ?_⟩) (fun h' => by omega)
  have e : area2P (o :: hs)[k] = overC area2P o hs k := by unfold overC; rw [getD_at k1]
  rw [e, over_wrap (fun l => by have := area2_bd l; omega) kl]
  exact ih
theorem ok_r13mom : EntOk Tryz.prog ⟨70, c_rmom⟩ := by
 rintro args Post ⟨o, hs, rfl, so, ss, sh, h⟩
 refine pure_P vcRz_ok mixed (by kernel_rfl) (by kernel_rfl) _ (e_r13mom o.length hs.length (encL o) (encL hs) _ _) ?_
 simp only [true_and]
 unfold rMomX rMomY at h
 refine ⟨o, hs, rfl, so, ss, sh, ifN (fun h1 => ?_) (fun h1 => ?_)⟩
 ·rwa [if_neg h1, if_neg h1] at h
 rw [if_pos h1, if_pos h1] at h
 have h8 := ((shapeCheck_zero o hs).1 h1).few
 refine ⟨o, hs, rfl, h8, ?_⟩
 refine down (n := (o :: hs).length) (p := fun k => OkP 70 [shapeV o hs] 6 Post (stV [(4, some (.int .i64 (sumTo (overC mom6X o hs) k))), (5, some (.int .i64 (sumTo (overC mom6Y o hs) k))), (6, some (trPts (o :: hs))), (7, some (.int .i64 k))] [] 0)) ?_ (fun k k1 ih => ?_)
 ·refine ok_P vcRz_ok mixed _ (l_r13mom o.length hs.length (o :: hs).length (o :: hs).length (sumTo (overC mom6X o hs) (o :: hs).length) (sumTo (overC mom6Y o hs) (o :: hs).length) (encL o) (encL hs) (encL (o :: hs)) _ _) ?_
  simp only [true_and]
  exact ifD (fun hlt => by omega) (fun _ => h)
 ·refine ok_P vcRz_ok mixed _ (l_r13mom o.length hs.length (o :: hs).length k (sumTo (overC mom6X o hs) k) (sumTo (overC mom6Y o hs) k) (encL o) (encL hs) (encL (o :: hs)) _ _) ?_
  have hk : ((k : Nat) : Int).toNat = k := Int.toNat_natCast k
  have kl : k < 32 := by rw [List.length_cons] at k1; omega
  simp only [true_and, and_true, hk, cell_pts k1, toN_tree, toE_tree, wrapSucc (show k < 2 ^ 62 by omega)]
  refine ifD (fun _ => ⟨⟨by omega, by omega⟩, (o :: hs)[k], rfl, short_all so sh _ (List.getElem_mem k1), ?_⟩) (fun h' => by omega)
  have e : mom6X (o :: hs)[k] = overC mom6X o hs k := by unfold overC; rw [getD_at k1]
  have e2 : mom6Y (o :: hs)[k] = overC mom6Y o hs k := by unfold overC; rw [getD_at k1]
  rw [e, e2, over_wrap mom6X_bd kl, over_wrap mom6Y_bd kl]
  exact ih
end Go.Proofs.YtngginofamlkkaaGreatDoor
noncomputable section
namespace Go.Proofs.YtngginofamlkkaaGreatDoor
open Go Go.RowKit Go.Shelf
set_option maxRecDepth 100000
set_option maxHeartbeats 4000000
def renC : Ren := ⟨fun x => if x = 15 then 136 else x, fun x => if x = 22 then 88 else if x = 3 then 3 else if x = 4 then 4 else x, fun x => x⟩
theorem laysC : Lays2.n15 Tryz.prog renC where
 mixed := by kernel_rfl
 f15 := by kernel_rfl
 t3 := by kernel_rfl
 a3 := fun w => by kernel_rfl
 z3 := fun w => by kernel_rfl
 v3 := fun w => by kernel_rfl
 t4 := by kernel_rfl
 a4 := fun w => by kernel_rfl
 z4 := fun w => by kernel_rfl
 v4 := fun w => by kernel_rfl
 t22 := by kernel_rfl
 a22 := fun w => by kernel_rfl
 z22 := fun w => by kernel_rfl
 v22 := fun w => by kernel_rfl
 i3 := by kernel_rfl
def c_clone (args : List Value) (Post : Value → Prop) : Prop := ∃ l : List Int, args = [tree 1 l.length (encL l)] ∧ l.length ≤ 17592186044416 ∧ Post (tree 1 l.length (encL l))
theorem encInt {l : List Int} {i : Nat} {u : Value} (h : (encL l)[i]? = some u) : ∃ (hi : i < l.length), u = .int .i64 l[i] := by
 have e : encL l = (l.map fun n => Value.int .i64 n).toArray := rfl
 rw [e, List.getElem?_toArray, List.getElem?_map] at h
 rcases Nat.lt_or_ge i l.length with hi | hi
 ·rw [List.getElem?_eq_getElem hi] at h
  cases h
  exact ⟨hi, rfl⟩
 ·rw [List.getElem?_eq_none hi] at h
  cases h
theorem cellInt {u v : Value} {n : Int} {j : Nat} (hu : u = .int .i64 n) (h : u.cells[j]? = some v) : j = 0 ∧ v = .int .i64 n := by
 subst hu
 have e : (Value.int .i64 n).cells = #[.int .i64 n] := rfl
 rw [e] at h
 cases j with
 | zero => simp at h; exact ⟨rfl, h.symm⟩
 | succ j => simp at h
theorem freezeNew {ρ : Place} {W : Base} {w w' : World} (h : Rel ρ W .e 0 w') {g : Nat} {ob : Obj} (hg : w.heap.size ≤ g) (hw : W.w.heap.size ≤ w.heap.size) (hf : ∀ x, ρ.fr g = some x → False) (ho : w'.heap[g]? = some ob) :
  Rel (ρ.freeze g ob) W .e 0 w' ∧ (ρ.freeze g ob).fr g = some ob ∧ StepG 0 ρ (ρ.freeze g ob) := by
 have hn : ρ.fr g = none := by
  cases hx : ρ.fr g with
  | none => rfl
  | some x => exact (hf x hx).elim
 have key : ∀ c x, (ρ.freeze g ob).fr c = some x → ρ.fr c = some x ∨ (c = g ∧ x = ob) := fun c x hc => by
  have hc : (match ρ.fr c with | some o => some o | none => if c = g then some ob else none) = some x := hc
  cases hx : ρ.fr c with
  | some y => rw [hx] at hc; exact .inl hc
  | none =>
   rw [hx] at hc
   dsimp only at hc
   split at hc
   ·cases hc; exact .inr ⟨by assumption, rfl⟩
   ·cases hc
 have gg : (ρ.freeze g ob).fr g = some ob := by
  show (match ρ.fr g with | some o => some o | none => if g = g then some ob else none) = _
  rw [hn]
  dsimp only
  rw [if_pos rfl]
 have le : ∀ c x, ρ.fr c = some x → (ρ.freeze g ob).fr c = some x := fun c x hc => by
  show (match ρ.fr c with | some o => some o | none => if c = g then some ob else none) = _
  rw [hc]
 have he : ∀ b, (Tr.e : Tr AObj).get b = none := fun b => by simp [Tr.get]
 refine ⟨⟨h.dom, fun b o c s z hb => (by rw [he] at hb; cases hb), fun b b' x x' o o' hb => (by rw [he] at hb; cases hb), h.fresh, h.below, fun c x hc => ?_, fun b o c s z hb => (by rw [he] at hb; cases hb), fun c x hc => ?_⟩, gg, ⟨fun b x hb => by omega, le⟩⟩
 ·rcases key c x hc with h1 | ⟨rfl, rfl⟩
  ·exact h.frz c x h1
  ·exact ho
 ·rcases key c x hc with h1 | ⟨rfl, rfl⟩
  ·exact h.frn c x h1
  ·exact .inr fun ho => by have := ho.1; omega
theorem ok_clone : EntOk Tryz.prog ⟨136, c_clone⟩ := by
 rintro args Post ⟨l, rfl, hl, h⟩
 intro W ρ w args' hrel hargs
 cases hargs with
 | cons hv hnil =>
 cases hnil
 generalize hn' : l.length = n' at hv
 generalize he' : encL l = els' at hv
 cases hv with
 | @tree sz n cap c o els cs t fz hb h1 h2 h3 h4 h5 =>
  subst hn' he'
  have hheap := hrel.frz c _ hb
  have cells : ∀ j, j < l.length → w.cell? ⟨c, o + j, none⟩ = some (.int .i64 (l.getD j 0)) := fun j hj => by
   have hlt : o + j < cs.size := by omega
   have e : (encL l)[j]? = some (.int .i64 l[j]) := by
    have e : encL l = (l.map fun n => Value.int .i64 n).toArray := rfl
    rw [e, List.getElem?_toArray, List.getElem?_map, List.getElem?_eq_getElem hj]
    rfl
   have r := h5 j 0 _ (.int .i64 l[j]) cs[o + j] e rfl (by rw [Nat.mul_one, Nat.add_zero]; exact Array.getElem?_eq_getElem hlt)
   unfold World.cell?
   dsimp only
   rw [hheap]
   dsimp only
   rw [Array.getElem?_eq_getElem hlt, List.getD_eq_getElem?_getD, List.getElem?_eq_getElem hj]
   generalize cs[o + j] = q at r
   cases r
   rfl
  have key : Calls Tryz.prog 136 #[.slice (some ⟨c, o, none⟩) l.length cap] w _ := Any.slices_Clone_int laysC c o l.length cap l w (Nat.le_refl _) (by omega) cells
  refine key.mono ?_
  rintro e w' ⟨v', rfl, ⟨hlen, hown⟩, hne, hbel⟩
  rcases hown with ⟨rfl, h0⟩ | ⟨g, cap', cur, rfl, hg, hcur, hn, hcap, hsz, htk⟩
  ·exact absurd rfl hne
  have hr1 := hrel.later hbel
  obtain ⟨r1, r2, r3⟩ := freezeNew hr1 hg hrel.below.size (fun x hx => by
   have := hrel.frz g x hx
   rw [Array.getElem?_eq_none hg] at this
   cases this) hcur
  refine ⟨tree 1 l.length (encL l), .e, 0, _, _, h, rfl, VR0.tree r2 (by rw [show (encL l).size = l.length by unfold encL; simp]) hn (by omega) (fun i u hu => ?_) (fun i j u v v' hu hv hv' => ?_), r1, r3⟩
  ·obtain ⟨hi, rfl⟩ := encInt hu
   rfl
  ·obtain ⟨hi, e⟩ := encInt hu
   obtain ⟨rfl, rfl⟩ := cellInt e hv
   have hc : cur.toList[i]? = some (.int .i64 l[i]) := by
    have : (cur.toList.take (l.length * 1))[i]? = some (.int .i64 l[i]) := by
     rw [htk, List.take_length, List.getElem?_map, List.getElem?_eq_getElem hi]
     rfl
    rw [List.getElem?_take, if_pos (by omega)] at this
    exact this
   rw [Nat.mul_one, Nat.add_zero, Nat.zero_add, ← Array.getElem?_toList, hc] at hv'
   cases hv'
   exact .int _ _
 | treeNil sz a cap =>
  have l0 : l = [] := List.eq_nil_of_length_eq_zero hn'
  subst l0
  have back : ∀ (a : Option Addr) (cap : Nat), VR0 ρ.fr (tree 1 ([] : List Int).length (encL ([] : List Int))) (.slice a 0 cap) := fun a cap => .treeNil _ _ _
  cases a with
  | none =>
   have key : Calls Tryz.prog 136 #[.slice none 0 cap] w _ := Any.slices_Clone_int_nil laysC 0 cap w
   refine key.mono ?_
   rintro e w' ⟨rfl, rfl⟩
   exact ⟨_, .e, 0, _, ρ, h, rfl, back _ _, hrel, .refl _ _⟩
  | some a =>
   have key : Calls Tryz.prog 136 #[.slice (some a) 0 cap] w _ := Any.slices_Clone_int_zero laysC a cap w
   refine key.mono ?_
   rintro e w' ⟨v', rfl, ⟨hlen, hown⟩, hne, hbel⟩
   rcases hown with ⟨rfl, h0⟩ | ⟨g, cap', cur, rfl, hg, hcur, hn, hcap, hsz, htk⟩
   ·exact absurd rfl hne
   ·exact ⟨_, .e, 0, _, ρ, h, rfl, back _ _, hrel.later hbel, .refl _ _⟩
end Go.Proofs.YtngginofamlkkaaGreatDoor

noncomputable section
namespace Go.Proofs.YtngginofamlkkaaGreatDoor
open Go Go.RowKit Go.ChangeShapes Go.WideShapes Go.ChangeAt Go.Deep Go.Joins
set_option maxRecDepth 100000
structure Grade4 where
 name : ByteArray
 dens : Int
 yld : Int
 gauges : List Int
 deriving DecidableEq
structure Sect4 where
 name : ByteArray
 area : Int
 height : Int
 stock : Int
 deriving DecidableEq
structure Mats where
 grades : List Grade4
 sects : List Sect4
 deriving DecidableEq
instance : Enc Grade4 where
 sz := 4
 cells p := [.string p.name, .int .i64 p.dens, .int .i64 p.yld, tree 1 p.gauges.length (encL p.gauges)]
 len _ := rfl
 nl p := by intro v hv; simp at hv; rcases hv with rfl | rfl | rfl | rfl <;> rfl
instance : Enc Sect4 where
 sz := 4
 cells p := [.string p.name, .int .i64 p.area, .int .i64 p.height, .int .i64 p.stock]
 len _ := rfl
 nl p := by intro v hv; simp at hv; rcases hv with rfl | rfl | rfl | rfl <;> rfl
def matsC (m : Mats) : List Value := [tree 4 m.grades.length (encL m.grades), tree 4 m.sects.length (encL m.sects)]
abbrev matsV (m : Mats) : Value := .agg (matsC m).toArray
instance : Enc Mats where
 sz := 2
 cells := matsC
 len _ := rfl
 nl p := by intro v hv; simp [matsC] at hv; rcases hv with rfl | rfl <;> rfl
variable {w : World}
end Go.Proofs.YtngginofamlkkaaGreatDoor

noncomputable section
namespace Go.Proofs.YtngginofamlkkaaGreatDoor
open Go Go.RowKit
set_option maxRecDepth 100000
set_option maxHeartbeats 8000000
abbrev gradeV (g : Grade4) : Value := .agg #[.string g.name, .int .i64 g.dens, .int .i64 g.yld, tree 1 g.gauges.length (encL g.gauges)]
abbrev sectV (s : Sect4) : Value := .agg #[.string s.name, .int .i64 s.area, .int .i64 s.height, .int .i64 s.stock]
def grade0 : Grade4 := ⟨⟨#[]⟩, 0, 0, []⟩
def sect0 : Sect4 := ⟨⟨#[]⟩, 0, 0, 0⟩
structure First {α : Type} (l : List α) (p : α → Prop) (i : Int) : Prop where
 no : i < 0 → ∀ a ∈ l, ¬ p a
 yes : 0 ≤ i → ∃ k, ∃ hk : k < l.length, i = (k : Int) ∧ p l[k] ∧ ∀ j (hj : j < l.length), j < k → ¬ p l[j]
abbrev fnG : Value := .func (.func 135) #[] #[.pointer (some ⟨0, 0, none⟩)]
abbrev fnS : Value := .func (.func 138) #[] #[.pointer (some ⟨0, 0, none⟩)]
def c_idxG (args : List Value) (conts : List (List Value)) (Post : Out → List (List Value) → Prop) : Prop := ∃ (l : List Grade4) (s : ByteArray), args = [tree 4 l.length (encL l), fnG] ∧ conts = [[.string s]] ∧ Short l ∧ ∀ i : Int, First l (fun g => g.name = s) i → Post (.ret (.int .i64 i)) [[.string s]]
def c_idxS (args : List Value) (conts : List (List Value)) (Post : Out → List (List Value) → Prop) : Prop := ∃ (l : List Sect4) (s : ByteArray), args = [tree 4 l.length (encL l), fnS] ∧ conts = [[.string s]] ∧ Short l ∧ ∀ i : Int, First l (fun g => g.name = s) i → Post (.ret (.int .i64 i)) [[.string s]]
def callIG : PCall := inlP Tryz.prog [135, 138] (ofV noCall) 2
theorem e_idxG (n : Nat) (s : ByteArray) (A : Array Value) (H : HT) (Post : PX) : vcX Tryz.prog callIG 134 [(2, [0, 1, 7, 8])] [[.string s]] [tree 4 n A, fnG] H Post = (T4 (True ∧ (True ∧ True) ∧ H (lpC Tryz.prog 134 2) (lpK Tryz.prog 134 2) (stV [(0, some (tree 4 n A)), (1, some (Value.func (Fn.func 135) #[] #[pt 0])), (7, some (vi (↑n : Int))), (8, some (vi 0))] [(0, some (AObj.cells [vs s] true))] 1))) := by kernel_rfl
theorem l_idxG (n : Nat) (s : ByteArray) (k : Int) (A : Array Value) (H : HT) (Post : PX) : vcLX Tryz.prog callIG 134 [tree 4 n A, fnG] [(2, [0, 1, 7, 8])] 1 2 (stV [(0, some (tree 4 n A)), (1, some fnG), (7, some (.int .i64 n)), (8, some (.int .i64 k))] [(0, some (.cells [.string s] true))] 1) H Post = (True ∧ pIf (decide (k < (↑n : Int))) (T4 (True ∧ (0 ≤ k ∧ k < (↑n : Int)) ∧ (cellAt A (Int.toNat k) 0 = vs (toS (cellAt A (Int.toNat k) 0)) ∧ cellAt A (Int.toNat k) 1 = vi (toI (cellAt A (Int.toNat k) 1)) ∧ cellAt A (Int.toNat k) 2 = vi (toI (cellAt A (Int.toNat k) 2)) ∧ cellAt A (Int.toNat k) 3 = tree 1 (toN (cellAt A (Int.toNat k) 3)) (toE (cellAt A (Int.toNat k) 3)) ∧ True) ∧ T4 (T2 (pIf (decide (toS (cellAt A (Int.toNat k) 0) = s)) (T2 (True ∧ (((True ∧ True) ∧ True) ∧ True) ∧ true = true ∧ Post (Out.ret (vi k)) [[vs s]])) (T4 ((True ∧ True) ∧ H (lpC Tryz.prog 134 2) (lpK Tryz.prog 134 2) (stV [(0, some (tree 4 n A)), (1, some (Value.func (Fn.func 135) #[] #[pt 0])), (7, some (vi (↑n : Int))), (8, some (vi (IntKind.wrap IntKind.i64 (k + 1))))] [(0, some (AObj.cells [vs s] true))] 1))))))) (True ∧ (((True ∧ True) ∧ True) ∧ True) ∧ true = true ∧ Post (Out.ret (vi (-1))) [[vs s]])) := by kernel_rfl
theorem e_idxS (n : Nat) (s : ByteArray) (A : Array Value) (H : HT) (Post : PX) : vcX Tryz.prog callIG 137 [(2, [0, 1, 7, 8])] [[.string s]] [tree 4 n A, fnS] H Post = (T4 (True ∧ (True ∧ True) ∧ H (lpC Tryz.prog 137 2) (lpK Tryz.prog 137 2) (stV [(0, some (tree 4 n A)), (1, some (Value.func (Fn.func 138) #[] #[pt 0])), (7, some (vi (↑n : Int))), (8, some (vi 0))] [(0, some (AObj.cells [vs s] true))] 1))) := by kernel_rfl
theorem l_idxS (n : Nat) (s : ByteArray) (k : Int) (A : Array Value) (H : HT) (Post : PX) : vcLX Tryz.prog callIG 137 [tree 4 n A, fnS] [(2, [0, 1, 7, 8])] 1 2 (stV [(0, some (tree 4 n A)), (1, some fnS), (7, some (.int .i64 n)), (8, some (.int .i64 k))] [(0, some (.cells [.string s] true))] 1) H Post = (True ∧ pIf (decide (k < (↑n : Int))) (T4 (True ∧ (0 ≤ k ∧ k < (↑n : Int)) ∧ (cellAt A (Int.toNat k) 0 = vs (toS (cellAt A (Int.toNat k) 0)) ∧ cellAt A (Int.toNat k) 1 = vi (toI (cellAt A (Int.toNat k) 1)) ∧ cellAt A (Int.toNat k) 2 = vi (toI (cellAt A (Int.toNat k) 2)) ∧ cellAt A (Int.toNat k) 3 = vi (toI (cellAt A (Int.toNat k) 3)) ∧ True) ∧ T4 (T2 (pIf (decide (toS (cellAt A (Int.toNat k) 0) = s)) (T2 (True ∧ (((True ∧ True) ∧ True) ∧ True) ∧ true = true ∧ Post (Out.ret (vi k)) [[vs s]])) (T4 ((True ∧ True) ∧ H (lpC Tryz.prog 137 2) (lpK Tryz.prog 137 2) (stV [(0, some (tree 4 n A)), (1, some (Value.func (Fn.func 138) #[] #[pt 0])), (7, some (vi (↑n : Int))), (8, some (vi (IntKind.wrap IntKind.i64 (k + 1))))] [(0, some (AObj.cells [vs s] true))] 1))))))) (True ∧ (((True ∧ True) ∧ True) ∧ True) ∧ true = true ∧ Post (Out.ret (vi (-1))) [[vs s]])) := by kernel_rfl
def findG (m : Mats) (s : ByteArray) : Option Grade4 := m.grades.find? fun g => decide (g.name = s)
def findS (m : Mats) (s : ByteArray) : Option Sect4 := m.sects.find? fun g => decide (g.name = s)
structure FewM (m : Mats) : Prop where
 gr : Short m.grades
 se : Short m.sects
 ga : ∀ g ∈ m.grades, g.gauges.length ≤ 17592186044416
def gradeOf (m : Mats) (s : ByteArray) : Grade4 := (findG m s).getD grade0
def sectOf (m : Mats) (s : ByteArray) : Sect4 := (findS m s).getD sect0
def hasG (m : Mats) (s : ByteArray) : Prop := (findG m s).isSome = true
def hasS (m : Mats) (s : ByteArray) : Prop := (findS m s).isSome = true
instance (m : Mats) (s : ByteArray) : Decidable (hasG m s) := by unfold hasG; infer_instance
instance (m : Mats) (s : ByteArray) : Decidable (hasS m s) := by unfold hasS; infer_instance
def c_Grade (args : List Value) (Post : Value → Prop) : Prop := ∃ (m : Mats) (s : ByteArray), args = [matsV m, .string s] ∧ FewM m ∧ Post (.tuple #[gradeV (gradeOf m s), .bool (decide (hasG m s))])
def c_Sect (args : List Value) (Post : Value → Prop) : Prop := ∃ (m : Mats) (s : ByteArray), args = [matsV m, .string s] ∧ FewM m ∧ Post (.tuple #[sectV (sectOf m s), .bool (decide (hasS m s))])
def rolled (m : Mats) (s : ByteArray) (t : Int) : Prop := hasG m s ∧ t ∈ (gradeOf m s).gauges
instance (m : Mats) (s : ByteArray) (t : Int) : Decidable (rolled m s t) := by unfold rolled; infer_instance
def c_Rolled (args : List Value) (Post : Value → Prop) : Prop := ∃ (m : Mats) (s : ByteArray) (t : Int), args = [matsV m, .string s, .int .i64 t] ∧ FewM m ∧ Post (.bool (decide (rolled m s t)))
def c_idxI (args : List Value) (Post : Value → Prop) : Prop := ∃ (l : List Int) (v : Int), args = [tree 1 l.length (encL l), .int .i64 v] ∧ Short l ∧ ∀ i : Int, (0 ≤ i ↔ v ∈ l) → Post (.int .i64 i)
def c_conI (args : List Value) (Post : Value → Prop) : Prop := ∃ (l : List Int) (v : Int), args = [tree 1 l.length (encL l), .int .i64 v] ∧ Short l ∧ Post (.bool (decide (v ∈ l)))
def callGr : PCall := xtabCall [⟨134, c_idxG⟩, ⟨137, c_idxS⟩] (ofV (tabCall [⟨136, c_clone⟩] noCall))
theorem e_Grade (n m : Nat) (s : ByteArray) (A B : Array Value) (H : HT) (Post : PX) : vcX Tryz.prog callGr 62 [] [] [.agg #[tree 4 n A, tree 4 m B], .string s] H Post = (T4 (T2 (True ∧ ∃ (l : List Grade4), ∃ (s_1 : ByteArray), eqL [tree 4 n A, Value.func (Fn.func 135) #[] #[pt 0]] [tree 4 l.length (encL l), Value.func (Fn.func 135) #[] #[pt 0]] ∧ [[vs s]] = [[vs s_1]] ∧ Short l ∧ ∀ (i : Int), First l (fun (g : Grade4) => Grade4.name g = s_1) i → 1 = 1 ∧ T2 (True ∧ pIf (decide (i < 0)) (True ∧ 4 ≤ 4 ∧ True ∧ (True ∧ (T4 (True)) ∧ True ∧ True) ∧ true = true ∧ Post (Out.ret (Value.tuple #[Value.agg #[vz, vi 0, vi 0, tree 1 0 #[]], vb false])) []) (T2 (True ∧ (0 ≤ i ∧ i < (↑n : Int)) ∧ (cellAt A (Int.toNat i) 0 = vs (toS (cellAt A (Int.toNat i) 0)) ∧ cellAt A (Int.toNat i) 1 = vi (toI (cellAt A (Int.toNat i) 1)) ∧ cellAt A (Int.toNat i) 2 = vi (toI (cellAt A (Int.toNat i) 2)) ∧ cellAt A (Int.toNat i) 3 = tree 1 (toN (cellAt A (Int.toNat i) 3)) (toE (cellAt A (Int.toNat i) 3)) ∧ True) ∧ 4 ≤ 4 ∧ T2 (∃ (l : List Int), eqL [tree 1 (toN (cellAt A (Int.toNat i) 3)) (toE (cellAt A (Int.toNat i) 3))] [tree 1 l.length (encL l)] ∧ List.length l ≤ 17592186044416 ∧ True ∧ 4 ≤ 4 ∧ True ∧ 4 ≤ 4 ∧ True ∧ (True ∧ (T4 (True)) ∧ True ∧ True) ∧ true = true ∧ Post (Out.ret (Value.tuple #[Value.agg #[vs (toS (cellAt A (Int.toNat i) 0)), vi (toI (cellAt A (Int.toNat i) 1)), vi (toI (cellAt A (Int.toNat i) 2)), tree 1 l.length (encL l)], vb true])) []))))))) := by kernel_rfl
theorem e_Sect (n m : Nat) (s : ByteArray) (A B : Array Value) (H : HT) (Post : PX) : vcX Tryz.prog callGr 63 [] [] [.agg #[tree 4 n A, tree 4 m B], .string s] H Post = (T4 (T2 (True ∧ ∃ (l : List Sect4), ∃ (s_1 : ByteArray), eqL [tree 4 m B, Value.func (Fn.func 138) #[] #[pt 0]] [tree 4 l.length (encL l), Value.func (Fn.func 138) #[] #[pt 0]] ∧ [[vs s]] = [[vs s_1]] ∧ Short l ∧ ∀ (i : Int), First l (fun (g : Sect4) => Sect4.name g = s_1) i → 1 = 1 ∧ T2 (True ∧ pIf (decide (i < 0)) (True ∧ 4 ≤ 4 ∧ True ∧ (True ∧ (T4 (True)) ∧ True ∧ True) ∧ true = true ∧ Post (Out.ret (Value.tuple #[Value.agg #[vz, vi 0, vi 0, vi 0], vb false])) []) (T2 (True ∧ (0 ≤ i ∧ i < (↑m : Int)) ∧ (cellAt B (Int.toNat i) 0 = vs (toS (cellAt B (Int.toNat i) 0)) ∧ cellAt B (Int.toNat i) 1 = vi (toI (cellAt B (Int.toNat i) 1)) ∧ cellAt B (Int.toNat i) 2 = vi (toI (cellAt B (Int.toNat i) 2)) ∧ cellAt B (Int.toNat i) 3 = vi (toI (cellAt B (Int.toNat i) 3)) ∧ True) ∧ 4 ≤ 4 ∧ True ∧ (True ∧ (T4 (True)) ∧ True ∧ True) ∧ true = true ∧ Post (Out.ret (Value.tuple #[Value.agg #[vs (toS (cellAt B (Int.toNat i) 0)), vi (toI (cellAt B (Int.toNat i) 1)), vi (toI (cellAt B (Int.toNat i) 2)), vi (toI (cellAt B (Int.toNat i) 3))], vb true])) [])))))) := by kernel_rfl
theorem e_idxI (n : Nat) (v : Int) (A : Array Value) (H : HT) (Post : PV) : vcP Tryz.prog noCall 227 [(2, [0, 1, 7, 8])] [tree 1 n A, .int .i64 v] H Post = (T4 (T2 (H (lpC Tryz.prog 227 2) (lpK Tryz.prog 227 2) (stV [(0, some (tree 1 n A)), (1, some (vi v)), (7, some (vi (↑n : Int))), (8, some (vi 0))] [] 0)))) := by kernel_rfl
theorem l_idxI (n : Nat) (v k : Int) (A : Array Value) (H : HT) (Post : PV) : vcLP Tryz.prog noCall 227 [tree 1 n A, .int .i64 v] [(2, [0, 1, 7, 8])] 2 (stV [(0, some (tree 1 n A)), (1, some (.int .i64 v)), (7, some (.int .i64 n)), (8, some (.int .i64 k))] [] 0) H Post = (True ∧ pIf (decide (k < (↑n : Int))) (T4 (True ∧ (0 ≤ k ∧ k < (↑n : Int)) ∧ cellAt A (Int.toNat k) 0 = vi (toI (cellAt A (Int.toNat k) 0)) ∧ True ∧ pIf (decide (v = toI (cellAt A (Int.toNat k) 0))) (T2 (True ∧ Post (vi k))) (T4 (H (lpC Tryz.prog 227 2) (lpK Tryz.prog 227 2) (stV [(0, some (tree 1 n A)), (1, some (vi v)), (7, some (vi (↑n : Int))), (8, some (vi (IntKind.wrap IntKind.i64 (k + 1))))] [] 0))))) (T2 (Post (vi (-1))))) := by kernel_rfl
theorem e_conI (n : Nat) (v : Int) (A : Array Value) (H : HT) (Post : PV) : vcP Tryz.prog (tabCall [⟨227, c_idxI⟩] noCall) 194 [] [tree 1 n A, .int .i64 v] H Post = (T2 (True ∧ ∃ (l : List Int), ∃ (v_1 : Int), eqL [tree 1 n A, vi v] [tree 1 l.length (encL l), vi v_1] ∧ Short l ∧ ∀ (i : Int), (0 ≤ i ↔ v_1 ∈ l) → True ∧ pIf (decide (i ≥ 0)) (T2 (Post (vb true))) (T2 (Post (vb false))))) := by kernel_rfl
theorem e_Rolled (n m : Nat) (s : ByteArray) (t : Int) (A B : Array Value) (H : HT) (Post : PV) : vcP Tryz.prog (tabCall [⟨62, c_Grade⟩, ⟨194, c_conI⟩] noCall) 119 [] [.agg #[tree 4 n A, tree 4 m B], .string s, .int .i64 t] H Post = (T4 (∃ (m_1 : Mats), ∃ (s_1 : ByteArray), eqL [Value.agg #[tree 4 n A, tree 4 m B], vs s] [matsV m_1, vs s_1] ∧ FewM m_1 ∧ T2 (True ∧ pIf (decide (hasG m_1 s_1)) (True ∧ 4 ≤ 4 ∧ T4 (T2 (∃ (l : List Int), ∃ (v : Int), eqL [tree 1 (List.length (Grade4.gauges (gradeOf m_1 s_1))) (encL (Grade4.gauges (gradeOf m_1 s_1))), vi t] [tree 1 l.length (encL l), vi v] ∧ Short l ∧ pIf (decide (v ∈ l)) (T2 (True ∧ Post (vb true))) (T2 (True ∧ Post (vb false)))))) (True ∧ 4 ≤ 4 ∧ T4 (T2 (Post (vb false))))))) := by kernel_rfl
theorem e_rGrade (n m : Nat) (s : ByteArray) (A B : Array Value) (H : HT) (Post : PV) : vcP Tryz.prog noCall 65 [(2, [1, 2, 4, 6])] [.agg #[tree 4 n A, tree 4 m B], .string s] H Post = (T4 (True ∧ (T2 (True)) ∧ H (lpC Tryz.prog 65 2) (lpK Tryz.prog 65 2) (stV [(1, some (vs s)), (2, some (pt 0)), (4, some (pt 1)), (6, some (vi 0))] [(0, some (AObj.cells [tree 4 n A, tree 4 m B] true)), (1, some (AObj.cells [vz, vi 0, vi 0, nS] true))] 2))) := by kernel_rfl
theorem l_rGrade (n m : Nat) (s : ByteArray) (k : Int) (A B : Array Value) (H : HT) (Post : PV) : vcLP Tryz.prog noCall 65 [.agg #[tree 4 n A, tree 4 m B], .string s] [(2, [1, 2, 4, 6])] 2 (stV [(1, some (.string s)), (2, some (.pointer (some ⟨0, 0, none⟩))), (4, some (.pointer (some ⟨1, 0, none⟩))), (6, some (.int .i64 k))] [(0, some (.cells [tree 4 n A, tree 4 m B] true)), (1, some (.cells [.string ⟨#[]⟩, .int .i64 0, .int .i64 0, .slice none 0 0] true))] 2) H Post = (let q2 := cellAt A (Int.toNat k) 0; let q1 := cellAt A (Int.toNat k) 3; T4 (True ∧ pIf (decide (k < (↑n : Int))) (T2 (True ∧ (0 ≤ k ∧ k < (↑n : Int)) ∧ True ∧ cellAt A (Int.toNat k) 0 = vs (toS q2) ∧ T2 (pIf (decide (toS q2 = s)) (T2 (True ∧ (0 ≤ k ∧ k < (↑n : Int)) ∧ (cellAt A (Int.toNat k) 0 = vs (toS q2) ∧ cellAt A (Int.toNat k) 1 = vi (toI (cellAt A (Int.toNat k) 1)) ∧ cellAt A (Int.toNat k) 2 = vi (toI (cellAt A (Int.toNat k) 2)) ∧ cellAt A (Int.toNat k) 3 = tree 1 (toN q1) (toE q1) ∧ True) ∧ True ∧ 4 ≤ 4 ∧ T4 (pIf (Nat.beq (toN q1) 0) (true = true ∧ True ∧ 4 ≤ 4 ∧ True ∧ 4 ≤ 4 ∧ True ∧ ((T2 (True ∧ (0 ≤ 0 ∧ NLs []) ∧ True)) ∧ True ∧ True) ∧ Post (Value.tuple #[Value.agg #[vs (toS q2), vi (toI (cellAt A (Int.toNat k) 1)), vi (toI (cellAt A (Int.toNat k) 2)), tree 1 0 #[]], vb true])) (0 + toN q1 ≤ 33554432 ∧ List.all (List.flatMap (fun (u : Value) => Array.toList (Value.cells u)) (Array.toList (toE q1))) single = true ∧ List.length (List.flatMap (fun (u : Value) => Array.toList (Value.cells u)) (Array.toList (toE q1))) = toN q1 * 1 ∧ 0 = 0 ∧ True ∧ 4 ≤ 4 ∧ True ∧ 4 ≤ 4 ∧ True ∧ ((T2 (True ∧ (0 + (0 + toN q1) * 1 ≤ List.length ([] ++ List.flatMap (fun (u : Value) => Array.toList (Value.cells u)) (Array.toList (toE q1))) ∧ NLs (List.drop 0 ([] ++ List.flatMap (fun (u : Value) => Array.toList (Value.cells u)) (Array.toList (toE q1))))) ∧ True)) ∧ True ∧ True) ∧ Post (Value.tuple #[Value.agg #[vs (toS q2), vi (toI (cellAt A (Int.toNat k) 1)), vi (toI (cellAt A (Int.toNat k) 2)), tree 1 (0 + toN q1) (chunks 1 (0 + toN q1) (List.drop 0 ([] ++ List.flatMap (fun (u : Value) => Array.toList (Value.cells u)) (Array.toList (toE q1)))))], vb true]))))) (T4 ((T2 (True)) ∧ H (lpC Tryz.prog 65 2) (lpK Tryz.prog 65 2) (stV [(1, some (vs s)), (2, some (pt 0)), (4, some (pt 1)), (6, some (vi (IntKind.wrap IntKind.i64 (k + 1))))] [(0, some (AObj.cells [tree 4 n A, tree 4 m B] true)), (1, some (AObj.cells [vz, vi 0, vi 0, nS] true))] 2)))))) (True ∧ 4 ≤ 4 ∧ True ∧ ((T4 (True)) ∧ True ∧ True) ∧ Post (Value.tuple #[Value.agg #[vz, vi 0, vi 0, tree 1 0 #[]], vb false])))) := by kernel_rfl
theorem e_rSect (n m : Nat) (s : ByteArray) (A B : Array Value) (H : HT) (Post : PV) : vcP Tryz.prog noCall 66 [(2, [1, 2, 4, 6])] [.agg #[tree 4 n A, tree 4 m B], .string s] H Post = (T4 (True ∧ (T2 (True)) ∧ H (lpC Tryz.prog 66 2) (lpK Tryz.prog 66 2) (stV [(1, some (vs s)), (2, some (pt 0)), (4, some (pt 1)), (6, some (vi 0))] [(0, some (AObj.cells [tree 4 n A, tree 4 m B] true)), (1, some (AObj.cells [vz, vi 0, vi 0, vi 0] true))] 2))) := by kernel_rfl
theorem l_rSect (n m : Nat) (s : ByteArray) (k : Int) (A B : Array Value) (H : HT) (Post : PV) : vcLP Tryz.prog noCall 66 [.agg #[tree 4 n A, tree 4 m B], .string s] [(2, [1, 2, 4, 6])] 2 (stV [(1, some (.string s)), (2, some (.pointer (some ⟨0, 0, none⟩))), (4, some (.pointer (some ⟨1, 0, none⟩))), (6, some (.int .i64 k))] [(0, some (.cells [tree 4 n A, tree 4 m B] true)), (1, some (.cells [.string ⟨#[]⟩, .int .i64 0, .int .i64 0, .int .i64 0] true))] 2) H Post = (T4 (True ∧ pIf (decide (k < (↑m : Int))) (T2 (True ∧ (0 ≤ k ∧ k < (↑m : Int)) ∧ True ∧ cellAt B (Int.toNat k) 0 = vs (toS (cellAt B (Int.toNat k) 0)) ∧ T2 (pIf (decide (toS (cellAt B (Int.toNat k) 0) = s)) (T2 (True ∧ (0 ≤ k ∧ k < (↑m : Int)) ∧ (cellAt B (Int.toNat k) 0 = vs (toS (cellAt B (Int.toNat k) 0)) ∧ cellAt B (Int.toNat k) 1 = vi (toI (cellAt B (Int.toNat k) 1)) ∧ cellAt B (Int.toNat k) 2 = vi (toI (cellAt B (Int.toNat k) 2)) ∧ cellAt B (Int.toNat k) 3 = vi (toI (cellAt B (Int.toNat k) 3)) ∧ True) ∧ 4 ≤ 4 ∧ True ∧ ((T4 (True)) ∧ True ∧ True) ∧ Post (Value.tuple #[Value.agg #[vs (toS (cellAt B (Int.toNat k) 0)), vi (toI (cellAt B (Int.toNat k) 1)), vi (toI (cellAt B (Int.toNat k) 2)), vi (toI (cellAt B (Int.toNat k) 3))], vb true]))) (T4 ((T2 (True)) ∧ H (lpC Tryz.prog 66 2) (lpK Tryz.prog 66 2) (stV [(1, some (vs s)), (2, some (pt 0)), (4, some (pt 1)), (6, some (vi (IntKind.wrap IntKind.i64 (k + 1))))] [(0, some (AObj.cells [tree 4 n A, tree 4 m B] true)), (1, some (AObj.cells [vz, vi 0, vi 0, vi 0] true))] 2)))))) (True ∧ 4 ≤ 4 ∧ True ∧ ((T4 (True)) ∧ True ∧ True) ∧ Post (Value.tuple #[Value.agg #[vz, vi 0, vi 0, vi 0], vb false])))) := by kernel_rfl
structure FewR (m : Mats) : Prop extends FewM m where
 gr25 : ∀ g ∈ m.grades, g.gauges.length ≤ 33554432
def c_rGrade (args : List Value) (Post : Value → Prop) : Prop := ∃ (m : Mats) (s : ByteArray), args = [matsV m, .string s] ∧ FewR m ∧ Post (.tuple #[gradeV (gradeOf m s), .bool (decide (hasG m s))])
def c_rRolled (args : List Value) (Post : Value → Prop) : Prop := ∃ (m : Mats) (s : ByteArray) (t : Int), args = [matsV m, .string s, .int .i64 t] ∧ FewR m ∧ Post (.bool (decide (rolled m s t)))
def vcRr : VCall := tabCall [⟨65, c_rGrade⟩] noCall
theorem e_rRolled (n m : Nat) (s : ByteArray) (t : Int) (A B : Array Value) (H : HT) (Post : PV) : vcP Tryz.prog vcRr 129 [(3, [2, 7, 9])] [.agg #[tree 4 n A, tree 4 m B], .string s, .int .i64 t] H Post = (T4 (∃ (m_1 : Mats), ∃ (s_1 : ByteArray), eqL [Value.agg #[tree 4 n A, tree 4 m B], vs s] [matsV m_1, vs s_1] ∧ FewR m_1 ∧ T2 (True ∧ pIf (decide (hasG m_1 s_1)) (True ∧ 4 ≤ 4 ∧ T2 (True ∧ (True ∧ True) ∧ H (lpC Tryz.prog 129 3) (lpK Tryz.prog 129 3) (stV [(2, some (vi t)), (7, some (pt 0)), (9, some (vi 0))] [(0, some (AObj.cells [vs (Grade4.name (gradeOf m_1 s_1)), vi (Grade4.dens (gradeOf m_1 s_1)), vi (Grade4.yld (gradeOf m_1 s_1)), tree 1 (List.length (Grade4.gauges (gradeOf m_1 s_1))) (encL (Grade4.gauges (gradeOf m_1 s_1)))] true))] 1))) (True ∧ 4 ≤ 4 ∧ T2 (True ∧ (True ∧ True) ∧ H (lpC Tryz.prog 129 3) (lpK Tryz.prog 129 3) (stV [(2, some (vi t)), (7, some (pt 0)), (9, some (vi 0))] [(0, some (AObj.cells [vs (Grade4.name (gradeOf m_1 s_1)), vi (Grade4.dens (gradeOf m_1 s_1)), vi (Grade4.yld (gradeOf m_1 s_1)), tree 1 (List.length (Grade4.gauges (gradeOf m_1 s_1))) (encL (Grade4.gauges (gradeOf m_1 s_1)))] true))] 1)))))) := by kernel_rfl
theorem l_rRolled (n m q : Nat) (s u : ByteArray) (t d y k : Int) (A B C : Array Value) (H : HT) (Post : PV) : vcLP Tryz.prog vcRr 129 [.agg #[tree 4 n A, tree 4 m B], .string s, .int .i64 t] [(3, [2, 7, 9])] 3 (stV [(2, some (.int .i64 t)), (7, some (.pointer (some ⟨0, 0, none⟩))), (9, some (.int .i64 k))] [(0, some (.cells [.string u, .int .i64 d, .int .i64 y, tree 1 q C] true))] 1) H Post = (T4 (True ∧ pIf (decide (k < (↑q : Int))) (T2 (True ∧ (0 ≤ k ∧ k < (↑q : Int)) ∧ cellAt C (Int.toNat k) 0 = vi (toI (cellAt C (Int.toNat k) 0)) ∧ T2 (pIf (decide (toI (cellAt C (Int.toNat k) 0) = t)) (T2 (Post (vb true))) (T4 ((True ∧ True) ∧ H (lpC Tryz.prog 129 3) (lpK Tryz.prog 129 3) (stV [(2, some (vi t)), (7, some (pt 0)), (9, some (vi (IntKind.wrap IntKind.i64 (k + 1))))] [(0, some (AObj.cells [vs u, vi d, vi y, tree 1 q C] true))] 1)))))) (T2 (Post (vb false))))) := by kernel_rfl
theorem cell_grade {l : List Grade4} {i : Nat} (h : i < l.length) : cellAt (encL l) i 0 = .string l[i].name ∧ cellAt (encL l) i 1 = .int .i64 l[i].dens ∧ cellAt (encL l) i 2 = .int .i64 l[i].yld ∧ cellAt (encL l) i 3 = tree 1 l[i].gauges.length (encL l[i].gauges) := by
 rw [cellAt_encL' h, cellAt_encL' h, cellAt_encL' h, cellAt_encL' h]
 exact ⟨rfl, rfl, rfl, rfl⟩
theorem cell_sect {l : List Sect4} {i : Nat} (h : i < l.length) : cellAt (encL l) i 0 = .string l[i].name ∧ cellAt (encL l) i 1 = .int .i64 l[i].area ∧ cellAt (encL l) i 2 = .int .i64 l[i].height ∧ cellAt (encL l) i 3 = .int .i64 l[i].stock := by
 rw [cellAt_encL' h, cellAt_encL' h, cellAt_encL' h, cellAt_encL' h]
 exact ⟨rfl, rfl, rfl, rfl⟩
theorem cell_gau {l : List Int} {i : Nat} (h : i < l.length) : cellAt (encL l) i 0 = .int .i64 l[i] := by
 rw [cellAt_encL' h]
 rfl
theorem First.none {α : Type} {l : List α} {p : α → Prop} [DecidablePred p] {i : Int} (h : First l p i) (hi : i < 0) : l.find? (fun a => decide (p a)) = Option.none := by
 rw [List.find?_eq_none]
 intro a ha
 have := h.no hi a ha
 simpa using this
theorem find_at {α : Type} {l : List α} {p : α → Prop} [DecidablePred p] {k : Nat} (hk : k < l.length) (hp : p l[k]) (hb : ∀ j (hj : j < l.length), j < k → ¬ p l[j]) : l.find? (fun a => decide (p a)) = some l[k] := by
 rw [List.find?_eq_some_iff_getElem]
 exact ⟨by simpa using hp, k, hk, rfl, fun j hj => by simpa using hb j (by omega) hj⟩
theorem callIG_ok : PCallOk Tryz.prog callIG := inlP_ok mixed (ofV_ok noCall_ok) 2
theorem ok_idxG : XEntOk Tryz.prog ⟨134, c_idxG⟩ := by
 rintro args conts Post ⟨l, s, rfl, rfl, hl, h⟩
 refine spec_X (conts := [[.string s]]) callIG_ok mixed (by kernel_rfl) (by kernel_rfl) _ (e_idxG l.length s (encL l) _ _) ?_
 simp only [true_and]
 refine down (n := l.length) (p := fun k => (∀ i (hi : i < l.length), i < k → ¬ l[i].name = s) → OkX Tryz.prog 134 [tree 4 l.length (encL l), fnG] 1 Post (lpC Tryz.prog 134 2) (lpK Tryz.prog 134 2) (stV [(0, some (tree 4 l.length (encL l))), (1, some fnG), (7, some (.int .i64 l.length)), (8, some (.int .i64 k))] [(0, some (.cells [.string s] true))] 1)) (fun hall => ?_) (fun k h1 ih hall => ?_) (fun i hi h0 => by omega)
 ·refine ok_X callIG_ok mixed _ (l_idxG l.length s l.length (encL l) _ _) ?_
  simp only [true_and]
  refine ifD (fun hlt => by omega) (fun _ => h (-1) ⟨fun _ a ha => ?_, fun h => by omega⟩)
  obtain ⟨i, hi, rfl⟩ := List.mem_iff_getElem.1 ha
  exact hall i hi hi
 ·refine ok_X callIG_ok mixed _ (l_idxG l.length s k (encL l) _ _) ?_
  have hk : ((k : Nat) : Int).toNat = k := Int.toNat_natCast k
  obtain ⟨c0, c1, c2, c3⟩ := cell_grade h1
  simp only [true_and, and_true, hk, c0, c1, c2, c3, toI_int, toS_string, toN_tree, toE_tree, wrapSucc (show k < 2 ^ 62 by omega)]
  refine ifD (fun _ => ⟨⟨by omega, by omega⟩, ifD (fun hn => h k ⟨fun h => by omega, fun _ => ⟨k, h1, rfl, hn, hall⟩⟩) (fun hn => ih fun i hi hik => ?_)⟩) (fun h' => by omega)
  rcases Nat.lt_or_ge i k with h' | h'
  ·exact hall i hi h'
  ·have : i = k := by omega
   subst this
   exact hn
theorem ok_idxS : XEntOk Tryz.prog ⟨137, c_idxS⟩ := by
 rintro args conts Post ⟨l, s, rfl, rfl, hl, h⟩
 refine spec_X (conts := [[.string s]]) callIG_ok mixed (by kernel_rfl) (by kernel_rfl) _ (e_idxS l.length s (encL l) _ _) ?_
 simp only [true_and]
 refine down (n := l.length) (p := fun k => (∀ i (hi : i < l.length), i < k → ¬ l[i].name = s) → OkX Tryz.prog 137 [tree 4 l.length (encL l), fnS] 1 Post (lpC Tryz.prog 137 2) (lpK Tryz.prog 137 2) (stV [(0, some (tree 4 l.length (encL l))), (1, some fnS), (7, some (.int .i64 l.length)), (8, some (.int .i64 k))] [(0, some (.cells [.string s] true))] 1)) (fun hall => ?_) (fun k h1 ih hall => ?_) (fun i hi h0 => by omega)
 ·refine ok_X callIG_ok mixed _ (l_idxS l.length s l.length (encL l) _ _) ?_
  simp only [true_and]
  refine ifD (fun hlt => by omega) (fun _ => h (-1) ⟨fun _ a ha => ?_, fun h => by omega⟩)
  obtain ⟨i, hi, rfl⟩ := List.mem_iff_getElem.1 ha
  exact hall i hi hi
 ·refine ok_X callIG_ok mixed _ (l_idxS l.length s k (encL l) _ _) ?_
  have hk : ((k : Nat) : Int).toNat = k := Int.toNat_natCast k
  obtain ⟨c0, c1, c2, c3⟩ := cell_sect h1
  simp only [true_and, and_true, hk, c0, c1, c2, c3, toI_int, toS_string, toN_tree, toE_tree, wrapSucc (show k < 2 ^ 62 by omega)]
  refine ifD (fun _ => ⟨⟨by omega, by omega⟩, ifD (fun hn => h k ⟨fun h => by omega, fun _ => ⟨k, h1, rfl, hn, hall⟩⟩) (fun hn => ih fun i hi hik => ?_)⟩) (fun h' => by omega)
  rcases Nat.lt_or_ge i k with h' | h'
  ·exact hall i hi h'
  ·have : i = k := by omega
   subst this
   exact hn
theorem callGr_ok : PCallOk Tryz.prog callGr := xtabCall_ok (by
 intro e he
 simp only [List.mem_cons, List.not_mem_nil, or_false] at he
 rcases he with rfl | rfl
 ·exact ok_idxG
 ·exact ok_idxS) (ofV_ok (tabCall_ok (by
 intro e he
 simp only [List.mem_cons, List.not_mem_nil, or_false] at he
 subst he
 exact ok_clone) noCall_ok))
theorem ok_Grade : EntOk Tryz.prog ⟨62, c_Grade⟩ := by
 rintro args Post ⟨m, s, rfl, hf, h⟩
 refine pureX ?_
 refine spec_X (conts := []) callGr_ok mixed (by kernel_rfl) (by kernel_rfl) [] (e_Grade m.grades.length m.sects.length s (encL m.grades) (encL m.sects) _ _) ?_
 simp only [true_and, and_true]
 refine ⟨m.grades, s, rfl, rfl, hf.gr, fun i hi => ifD (fun h0 => ⟨by decide, ?_⟩) (fun h0 => ?_)⟩
 ·have e : findG m s = none := hi.none h0
  have e1 : gradeOf m s = grade0 := by unfold gradeOf; rw [e]; rfl
  have e2 : ¬ hasG m s := by unfold hasG; rw [e]; decide
  rw [e1, decide_eq_false e2] at h
  exact h
 ·obtain ⟨k, hk, rfl, hp, hb⟩ := hi.yes (by omega)
  have e : findG m s = some m.grades[k] := find_at hk hp hb
  have e1 : gradeOf m s = m.grades[k] := by unfold gradeOf; rw [e]; rfl
  have e2 : hasG m s := by unfold hasG; rw [e]; rfl
  rw [e1, decide_eq_true e2] at h
  have hk' : ((k : Nat) : Int).toNat = k := Int.toNat_natCast k
  obtain ⟨c0, c1, c2, c3⟩ := cell_grade hk
  simp only [hk', c0, c1, c2, c3, toI_int, toS_string, toN_tree, toE_tree, true_and, and_true]
  have := hf.ga _ (List.getElem_mem hk)
  refine ⟨⟨by omega, by omega⟩, by decide, m.grades[k].gauges, rfl, by omega, by decide, by decide, ?_⟩
  exact h
theorem ok_Sect : EntOk Tryz.prog ⟨63, c_Sect⟩ := by
 rintro args Post ⟨m, s, rfl, hf, h⟩
 refine pureX ?_
 refine spec_X (conts := []) callGr_ok mixed (by kernel_rfl) (by kernel_rfl) [] (e_Sect m.grades.length m.sects.length s (encL m.grades) (encL m.sects) _ _) ?_
 simp only [true_and, and_true]
 refine ⟨m.sects, s, rfl, rfl, hf.se, fun i hi => ifD (fun h0 => ⟨by decide, ?_⟩) (fun h0 => ?_)⟩
 ·have e : findS m s = none := hi.none h0
  have e1 : sectOf m s = sect0 := by unfold sectOf; rw [e]; rfl
  have e2 : ¬ hasS m s := by unfold hasS; rw [e]; decide
  rw [e1, decide_eq_false e2] at h
  exact h
 ·obtain ⟨k, hk, rfl, hp, hb⟩ := hi.yes (by omega)
  have e : findS m s = some m.sects[k] := find_at hk hp hb
  have e1 : sectOf m s = m.sects[k] := by unfold sectOf; rw [e]; rfl
  have e2 : hasS m s := by unfold hasS; rw [e]; rfl
  rw [e1, decide_eq_true e2] at h
  have hk' : ((k : Nat) : Int).toNat = k := Int.toNat_natCast k
  obtain ⟨c0, c1, c2, c3⟩ := cell_sect hk
  simp only [hk', c0, c1, c2, c3, toI_int, toS_string, true_and, and_true]
  exact ⟨⟨by omega, by omega⟩, by decide, h⟩
theorem ok_idxI : EntOk Tryz.prog ⟨227, c_idxI⟩ := by
 rintro args Post ⟨l, v, rfl, hl, h⟩
 refine pure_P noCall_ok mixed (by kernel_rfl) (by kernel_rfl) _ (e_idxI l.length v (encL l) _ _) ?_
 simp only [true_and]
 refine down (n := l.length) (p := fun k => (∀ i (hi : i < l.length), i < k → ¬ v = l[i]) → OkP 227 [tree 1 l.length (encL l), .int .i64 v] 2 Post (stV [(0, some (tree 1 l.length (encL l))), (1, some (.int .i64 v)), (7, some (.int .i64 l.length)), (8, some (.int .i64 k))] [] 0)) (fun hall => ?_) (fun k h1 ih hall => ?_) (fun i hi h0 => by omega)
 ·refine ok_P noCall_ok mixed _ (l_idxI l.length v l.length (encL l) _ _) ?_
  simp only [true_and]
  refine ifD (fun hlt => by omega) (fun _ => h (-1) ⟨fun h => by omega, fun hv => ?_⟩)
  obtain ⟨i, hi, e⟩ := List.mem_iff_getElem.1 hv
  exact absurd e.symm (hall i hi hi)
 ·refine ok_P noCall_ok mixed _ (l_idxI l.length v k (encL l) _ _) ?_
  have hk : ((k : Nat) : Int).toNat = k := Int.toNat_natCast k
  simp only [true_and, and_true, hk, cell_gau h1, toI_int, wrapSucc (show k < 2 ^ 62 by omega)]
  refine ifD (fun _ => ⟨⟨by omega, by omega⟩, ifD (fun hn => h k ⟨fun _ => by rw [hn]; exact List.getElem_mem h1, fun _ => by omega⟩) (fun hn => ih fun i hi hik => ?_)⟩) (fun h' => by omega)
  rcases Nat.lt_or_ge i k with h' | h'
  ·exact hall i hi h'
  ·have : i = k := by omega
   subst this
   exact hn
theorem ok_conI : EntOk Tryz.prog ⟨194, c_conI⟩ := by
 rintro args Post ⟨l, v, rfl, hl, h⟩
 refine pure_P (tabCall_ok (by
  intro e he
  simp only [List.mem_cons, List.not_mem_nil, or_false] at he
  subst he
  exact ok_idxI) noCall_ok) mixed (by kernel_rfl) (by kernel_rfl) _ (e_conI l.length v (encL l) _ _) ?_
 simp only [true_and]
 refine ⟨l, v, rfl, hl, fun i hi => ifD (fun h1 => ?_) (fun h1 => ?_)⟩
 ·rwa [decide_eq_true (hi.1 h1)] at h
 ·rwa [decide_eq_false (fun hp => h1 (hi.2 hp))] at h
theorem gauge_few {m : Mats} (hf : FewM m) (s : ByteArray) : (gradeOf m s).gauges.length ≤ 17592186044416 := by
 unfold gradeOf findG
 cases h : m.grades.find? fun g => decide (g.name = s) with
 | none => exact Nat.zero_le _
 | some g => exact hf.ga g (List.mem_of_find?_eq_some h)
theorem ok_Rolled : EntOk Tryz.prog ⟨119, c_Rolled⟩ := by
 rintro args Post ⟨m, s, t, rfl, hf, h⟩
 refine pure_P (tabCall_ok (by
  intro e he
  simp only [List.mem_cons, List.not_mem_nil, or_false] at he
  rcases he with rfl | rfl
  ·exact ok_Grade
  ·exact ok_conI) noCall_ok) mixed (by kernel_rfl) (by kernel_rfl) _ (e_Rolled m.grades.length m.sects.length s t (encL m.grades) (encL m.sects) _ _) ?_
 simp only [true_and]
 have hg := gauge_few hf s
 refine ⟨m, s, rfl, hf, ifD (fun h1 => ⟨by decide, (gradeOf m s).gauges, t, rfl, show _ < _ by omega, ifD (fun h2 => ?_) (fun h2 => ?_)⟩) (fun h1 => ⟨by decide, ?_⟩)⟩
 ·rwa [decide_eq_true (show rolled m s t from ⟨h1, h2⟩)] at h
 ·rwa [decide_eq_false (fun hp : rolled m s t => h2 hp.2)] at h
 ·rwa [decide_eq_false (fun hp : rolled m s t => h1 hp.1)] at h
theorem flat_ints (l : List Int) : List.flatMap (fun u : Value => u.cells.toList) (encL l).toList = l.map fun n => .int .i64 n := by
 unfold encL
 rw [List.toList_toArray]
 induction l with
 | nil => rfl
 | cons a l ih =>
  rw [List.map_cons, List.flatMap_cons, ih, List.map_cons]
  rfl
theorem app_ints {l : List Int} (hl : l.length ≤ 33554432) {Y Z : Prop} {P : Value → Prop} (hY : l = [] → P (tree 1 l.length (encL l)) → Y) (hZ : P (tree 1 l.length (encL l)) → (0 + l.length ≤ 33554432 ∧ List.all (l.map fun n => Value.int .i64 n) single = true ∧ (l.map fun n => Value.int .i64 n).length = l.length * 1 ∧ ((0 + (0 + l.length) * 1 ≤ ([] ++ l.map fun n => Value.int .i64 n).length ∧ NLs (List.drop 0 ([] ++ l.map fun n => Value.int .i64 n)))) ∧ P (tree 1 (0 + l.length) (chunks 1 (0 + l.length) (List.drop 0 ([] ++ l.map fun n => Value.int .i64 n))))) → Z) (h : P (tree 1 l.length (encL l))) : pIf (Nat.beq l.length 0) Y Z := by
 refine pIf_intro (fun hm => ?_) (fun hm => ?_)
 ·exact hY (List.eq_nil_of_length_eq_zero (Nat.eq_of_beq_eq_true hm)) h
 ·have key : ∀ n ∈ l.map (fun n => Value.int .i64 n), ∃ m, n = .int .i64 m := fun n hn => by
   obtain ⟨a, _, rfl⟩ := List.mem_map.1 hn
   exact ⟨a, rfl⟩
  refine hZ h ⟨by omega, ?_, by rw [List.length_map, Nat.mul_one], ⟨by simp, ?_⟩, ?_⟩
  ·rw [List.all_eq_true]
   intro v hv
   obtain ⟨a, rfl⟩ := key v hv
   rfl
  ·intro v hv
   rw [List.drop_zero, List.nil_append] at hv
   obtain ⟨a, rfl⟩ := key v hv
   rfl
  ·have ec : chunks 1 (0 + l.length) (List.drop 0 ([] ++ l.map fun n => Value.int .i64 n)) = encL l := by
    show ((List.drop 0 ([] ++ l.map fun n => Value.int .i64 n)).take (0 + l.length)).toArray = _
    rw [List.drop_zero, List.nil_append, List.take_of_length_le (by simp)]
    rfl
   rw [ec, Nat.zero_add]
   exact h
theorem ok_rGrade : EntOk Tryz.prog ⟨65, c_rGrade⟩ := by
 rintro args Post ⟨m, s, rfl, hf, h⟩
 refine pure_P noCall_ok mixed (by kernel_rfl) (by kernel_rfl) _ (e_rGrade m.grades.length m.sects.length s (encL m.grades) (encL m.sects) _ _) ?_
 simp only [true_and]
 refine down (n := m.grades.length) (p := fun k => (∀ j (hj : j < m.grades.length), j < k → ¬ m.grades[j].name = s) → OkP 65 [matsV m, .string s] 2 Post (stV [(1, some (.string s)), (2, some (.pointer (some ⟨0, 0, none⟩))), (4, some (.pointer (some ⟨1, 0, none⟩))), (6, some (.int .i64 k))] [(0, some (.cells [tree 4 m.grades.length (encL m.grades), tree 4 m.sects.length (encL m.sects)] true)), (1, some (.cells [.string ⟨#[]⟩, .int .i64 0, .int .i64 0, .slice none 0 0] true))] 2)) (fun hall => ?_) (fun k k1 ih hall => ?_) (fun i hi => by omega)
 ·refine ok_P noCall_ok mixed _ (l_rGrade m.grades.length m.sects.length s m.grades.length (encL m.grades) (encL m.sects) _ _) ?_
  simp only [true_and]
  have e : findG m s = none := by
   unfold findG
   rw [List.find?_eq_none]
   intro g hg
   obtain ⟨i, hi, rfl⟩ := List.mem_iff_getElem.1 hg
   simpa using hall i hi hi
  have e1 : gradeOf m s = grade0 := by unfold gradeOf; rw [e]; rfl
  have e2 : ¬ hasG m s := by unfold hasG; rw [e]; decide
  rw [e1, decide_eq_false e2] at h
  exact ifD (fun hlt => by omega) (fun _ => ⟨by decide, h⟩)
 ·refine ok_P noCall_ok mixed _ (l_rGrade m.grades.length m.sects.length s k (encL m.grades) (encL m.sects) _ _) ?_
  have hk' : ((k : Nat) : Int).toNat = k := Int.toNat_natCast k
  obtain ⟨c0, c1, c2, c3⟩ := cell_grade k1
  have ks := hf.gr
  simp only [hk', c0, c1, c2, c3, toI_int, toS_string, toN_tree, toE_tree, true_and, and_true, flat_ints, wrapSucc (show k < 2 ^ 62 by omega)]
  refine ifD (fun _ => ⟨⟨by omega, by omega⟩, ifD (fun hp => ⟨⟨by omega, by omega⟩, by decide, ?_⟩) (fun hp => ih fun j hj hjk => ?_)⟩) (fun h' => by omega)
  ·have e : findG m s = some m.grades[k] := find_at k1 hp (fun j hj hjk => hall j hj hjk)
   have e1 : gradeOf m s = m.grades[k] := by unfold gradeOf; rw [e]; rfl
   have e2 : hasG m s := by unfold hasG; rw [e]; rfl
   rw [e1, decide_eq_true e2] at h
   refine app_ints (hf.gr25 _ (List.getElem_mem k1)) (P := fun v => Post (.tuple #[.agg #[.string m.grades[k].name, .int .i64 m.grades[k].dens, .int .i64 m.grades[k].yld, v], .bool true])) (fun hz hv => ?_) (fun _ ⟨z1, z2, z3, z4, z5⟩ => ?_) h
   ·rw [hz] at hv
    exact ⟨by decide, by decide, ⟨Nat.le_refl _, fun v hv => by cases hv⟩, hv⟩
   ·exact ⟨z1, z2, z3, by decide, by decide, z4, z5⟩
  ·rcases Nat.lt_or_ge j k with h' | h'
   ·exact hall j hj h'
   ·have : j = k := by omega
    subst this
    exact hp
theorem ok_rSect : EntOk Tryz.prog ⟨66, c_Sect⟩ := by
 rintro args Post ⟨m, s, rfl, hf, h⟩
 refine pure_P noCall_ok mixed (by kernel_rfl) (by kernel_rfl) _ (e_rSect m.grades.length m.sects.length s (encL m.grades) (encL m.sects) _ _) ?_
 simp only [true_and]
 refine down (n := m.sects.length) (p := fun k => (∀ j (hj : j < m.sects.length), j < k → ¬ m.sects[j].name = s) → OkP 66 [matsV m, .string s] 2 Post (stV [(1, some (.string s)), (2, some (.pointer (some ⟨0, 0, none⟩))), (4, some (.pointer (some ⟨1, 0, none⟩))), (6, some (.int .i64 k))] [(0, some (.cells [tree 4 m.grades.length (encL m.grades), tree 4 m.sects.length (encL m.sects)] true)), (1, some (.cells [.string ⟨#[]⟩, .int .i64 0, .int .i64 0, .int .i64 0] true))] 2)) (fun hall => ?_) (fun k k1 ih hall => ?_) (fun i hi => by omega)
 ·refine ok_P noCall_ok mixed _ (l_rSect m.grades.length m.sects.length s m.sects.length (encL m.grades) (encL m.sects) _ _) ?_
  simp only [true_and]
  have e : findS m s = none := by
   unfold findS
   rw [List.find?_eq_none]
   intro g hg
   obtain ⟨i, hi, rfl⟩ := List.mem_iff_getElem.1 hg
   simpa using hall i hi hi
  have e1 : sectOf m s = sect0 := by unfold sectOf; rw [e]; rfl
  have e2 : ¬ hasS m s := by unfold hasS; rw [e]; decide
  rw [e1, decide_eq_false e2] at h
  exact ifD (fun hlt => by omega) (fun _ => ⟨by decide, h⟩)
 ·refine ok_P noCall_ok mixed _ (l_rSect m.grades.length m.sects.length s k (encL m.grades) (encL m.sects) _ _) ?_
  have hk' : ((k : Nat) : Int).toNat = k := Int.toNat_natCast k
  obtain ⟨c0, c1, c2, c3⟩ := cell_sect k1
  have ks := hf.se
  simp only [hk', c0, c1, c2, c3, toI_int, toS_string, true_and, and_true, wrapSucc (show k < 2 ^ 62 by omega)]
  refine ifD (fun _ => ⟨⟨by omega, by omega⟩, ifD (fun hp => ⟨⟨by omega, by omega⟩, by decide, ?_⟩) (fun hp => ih fun j hj hjk => ?_)⟩) (fun h' => by omega)
  ·have e : findS m s = some m.sects[k] := find_at k1 hp (fun j hj hjk => hall j hj hjk)
   have e1 : sectOf m s = m.sects[k] := by unfold sectOf; rw [e]; rfl
   have e2 : hasS m s := by unfold hasS; rw [e]; rfl
   rw [e1, decide_eq_true e2] at h
   exact h
  ·rcases Nat.lt_or_ge j k with h' | h'
   ·exact hall j hj h'
   ·have : j = k := by omega
    subst this
    exact hp
theorem cell_gauge {l : List Int} {k : Nat} (h : k < l.length) : cellAt (encL l) k 0 = .int .i64 l[k] := by
 rw [cellAt_encL' h]
 rfl
theorem ok_rRolled : EntOk Tryz.prog ⟨129, c_rRolled⟩ := by
 rintro args Post ⟨m, s, t, rfl, hf, h⟩
 have hok : VCallOk Tryz.prog vcRr := tabCall_ok (by
  intro e he
  simp only [List.mem_cons, List.not_mem_nil, or_false] at he
  subst he
  exact ok_rGrade) noCall_ok
 refine pure_P hok mixed (by kernel_rfl) (by kernel_rfl) _ (e_rRolled m.grades.length m.sects.length s t (encL m.grades) (encL m.sects) _ _) ?_
 simp only [true_and]
 have sm : rolled m s t ↔ t ∈ (gradeOf m s).gauges := by
  unfold rolled
  by_cases hg : hasG m s
  ·simp [hg]
  ·have e : findG m s = none := by
    unfold hasG at hg
    cases hx : findG m s with
    | none => rfl
    | some g => rw [hx] at hg; exact absurd rfl hg
   have : (gradeOf m s).gauges = [] := by unfold gradeOf; rw [e]; rfl
   simp [hg, this]
 have yes : t ∈ (gradeOf m s).gauges → Post (.bool true) := fun hp => by rwa [decide_eq_true (sm.2 hp)] at h
 have no : ¬ t ∈ (gradeOf m s).gauges → Post (.bool false) := fun hp => by rwa [decide_eq_false (fun hr => hp (sm.1 hr))] at h
 have sl : (gradeOf m s).gauges.length ≤ 33554432 := by
  unfold gradeOf
  cases hx : findG m s with
  | none => show ([] : List Int).length ≤ _; decide
  | some g => exact hf.gr25 g (List.mem_of_find?_eq_some hx)
 have go : OkP 129 [matsV m, .string s, .int .i64 t] 3 Post (stV [(2, some (.int .i64 t)), (7, some (.pointer (some ⟨0, 0, none⟩))), (9, some (.int .i64 0))] [(0, some (.cells [.string (gradeOf m s).name, .int .i64 (gradeOf m s).dens, .int .i64 (gradeOf m s).yld, tree 1 (gradeOf m s).gauges.length (encL (gradeOf m s).gauges)] true))] 1) := by
  generalize gradeOf m s = g at *
  refine down (n := g.gauges.length) (p := fun k => (∀ j (hj : j < g.gauges.length), j < k → g.gauges[j] ≠ t) → OkP 129 [matsV m, .string s, .int .i64 t] 3 Post (stV [(2, some (.int .i64 t)), (7, some (.pointer (some ⟨0, 0, none⟩))), (9, some (.int .i64 k))] [(0, some (.cells [.string g.name, .int .i64 g.dens, .int .i64 g.yld, tree 1 g.gauges.length (encL g.gauges)] true))] 1)) (fun hall => ?_) (fun k k1 ih hall => ?_) (fun i hi => by omega)
  ·refine ok_P hok mixed _ (l_rRolled m.grades.length m.sects.length g.gauges.length s g.name t g.dens g.yld g.gauges.length (encL m.grades) (encL m.sects) (encL g.gauges) _ _) ?_
   simp only [true_and]
   refine ifD (fun hlt => by omega) (fun _ => no fun hm => ?_)
   obtain ⟨j, hj, e⟩ := List.mem_iff_getElem.1 hm
   exact hall j hj hj e
  ·refine ok_P hok mixed _ (l_rRolled m.grades.length m.sects.length g.gauges.length s g.name t g.dens g.yld k (encL m.grades) (encL m.sects) (encL g.gauges) _ _) ?_
   have hk' : ((k : Nat) : Int).toNat = k := Int.toNat_natCast k
   simp only [true_and, hk', cell_gauge k1, toI_int, wrapSucc (show k < 2 ^ 62 by omega)]
   refine ifD (fun _ => ⟨⟨by omega, by omega⟩, ifD (fun he => yes (by rw [← he]; exact List.getElem_mem k1)) (fun he => ih fun j hj hjk => ?_)⟩) (fun h' => by omega)
   rcases Nat.lt_or_ge j k with h' | h'
   ·exact hall j hj h'
   ·have : j = k := by omega
    subst this
    exact he
 exact ⟨m, s, rfl, hf, ifD (fun _ => ⟨by decide, go⟩) (fun _ => ⟨by decide, go⟩)⟩
abbrev vecV (v : Vec3) : Value := .agg #[.int .i64 v.x, .int .i64 v.y, .int .i64 v.z]
def inV (v : Vec3) (n : Int) : Prop := (-n ≤ v.x ∧ v.x ≤ n) ∧ (-n ≤ v.y ∧ v.y ≤ n) ∧ (-n ≤ v.z ∧ v.z ≤ n)
instance (v : Vec3) (n : Int) : Decidable (inV v n) := by unfold inV; infer_instance
structure VLim (v : Vec3) : Prop where
 h : inV v 1099511627776
structure Lim (n : Int) : Prop where
 h : 0 ≤ n ∧ n ≤ 1099511627776
def c_vin (args : List Value) (Post : Value → Prop) : Prop := ∃ (v : Vec3) (n : Int), args = [vecV v, .int .i64 n] ∧ Lim n ∧ Post (.bool (decide (inV v n)))
def turnNo (k : Int) : Int := if k < 0 ∨ 24 ≤ k then 0 else k
def c_num (args : List Value) (Post : Value → Prop) : Prop := match args with
 | [.int .i64 k] => Post (.int .i64 (turnNo k))
 | _ => False
def quart : Nat → Vec3 → Vec3
 | 0, v => v
 | n + 1, v => ⟨-(quart n v).y, (quart n v).x, (quart n v).z⟩
def tiltV (v : Vec3) (n : Int) : Vec3 := if n = 1 then ⟨v.x, -v.z, v.y⟩ else if n = 2 then ⟨v.x, -v.y, -v.z⟩ else if n = 3 then ⟨v.x, v.z, -v.y⟩ else if n = 4 then ⟨v.z, v.y, -v.x⟩ else if n = 5 then ⟨-v.z, v.y, v.x⟩ else v
def turnV (v : Vec3) (k : Int) : Vec3 := tiltV (quart ((turnNo k).tmod 4).toNat v) ((turnNo k).tdiv 4)
def c_turned (args : List Value) (Post : Value → Prop) : Prop := ∃ (v : Vec3) (k : Int), args = [vecV v, .int .i64 k] ∧ VLim v ∧ Post (vecV (turnV v k))
def validP (at_ : Vec3) (k : Int) : Prop := inV at_ 524288 ∧ k = turnNo k
instance (at_ : Vec3) (k : Int) : Decidable (validP at_ k) := by unfold validP; infer_instance
abbrev placeV (at_ : Vec3) (k : Int) : Value := .agg #[.int .i64 at_.x, .int .i64 at_.y, .int .i64 at_.z, .int .i64 k]
def c_vvalid (args : List Value) (Post : Value → Prop) : Prop := ∃ (a : Vec3) (k : Int), args = [placeV a k] ∧ Post (.bool (decide (validP a k)))
def applyV (a : Vec3) (k : Int) (v : Vec3) : Vec3 := if ¬ inV a 1099511627776 ∨ ¬ inV v 1099511627776 then ⟨0, 0, 0⟩ else ⟨(turnV v k).x + a.x, (turnV v k).y + a.y, (turnV v k).z + a.z⟩
def c_vapply (args : List Value) (Post : Value → Prop) : Prop := ∃ (a : Vec3) (k : Int) (v : Vec3), args = [placeV a k, vecV v] ∧ Post (vecV (applyV a k v))
theorem e_vin (v : Vec3) (n : Int) (H : HT) (Post : PV) : vcP Tryz.prog noCall 124 [] [vecV v, .int .i64 n] H Post = (T16 (True ∧ pIf (decide (v.x < IntKind.wrap IntKind.i64 (0 - n))) (T4 (Post (vb false))) (T4 (pIf (decide (v.x > n)) (T2 (True ∧ Post (vb false))) (T8 (T2 (pIf (decide (v.y < IntKind.wrap IntKind.i64 (0 - n))) (T4 (Post (vb false))) (T4 (pIf (decide (v.y > n)) (T2 (True ∧ Post (vb false))) (T8 (T2 (pIf (decide (v.z < IntKind.wrap IntKind.i64 (0 - n))) (T4 (Post (vb false))) (T4 (pIf (decide (v.z > n)) (T2 (True ∧ Post (vb false))) (T4 (T2 (Post (vb true)))))))))))))))))) := by kernel_rfl
theorem e_num (n : Int) (H : HT) (Post : PV) : vcP Tryz.prog noCall 125 [] [.int .i64 n] H Post = (T2 (True ∧ pIf (decide (n < 0)) (T4 (Post (vi 0))) (T2 (True ∧ pIf (decide (n ≥ 24)) (T2 (True ∧ Post (vi 0))) (T4 (Post (vi n))))))) := by kernel_rfl
def vcTu : VCall := tabCall [⟨125, c_num⟩] noCall
theorem e_turned (v : Vec3) (k : Int) (H : HT) (Post : PV) : vcP Tryz.prog vcTu 146 [(3, [1, 2, 4, 8, 9])] [vecV v, .int .i64 k] H Post = (T4 (True ∧ (toI (vi 4) = 0 → False) ∧ T2 ((T2 (True)) ∧ H (lpC Tryz.prog 146 3) (lpK Tryz.prog 146 3) (stV [(1, some (vi (turnNo k))), (2, some (pt 0)), (4, some (pt 1)), (8, some (vi (Int.tmod (turnNo k) 4))), (9, some (vi 0))] [(0, some (AObj.cells [vi v.x, vi v.y, vi v.z] true)), (1, some (AObj.cells [vi 0, vi 0, vi 0] true))] 2)))) := by kernel_rfl
theorem l_turned (u v : Vec3) (k n m i : Int) (H : HT) (Post : PV) : vcLP Tryz.prog vcTu 146 [vecV u, .int .i64 k] [(3, [1, 2, 4, 8, 9])] 3 (stV [(1, some (.int .i64 n)), (2, some (.pointer (some ⟨0, 0, none⟩))), (4, some (.pointer (some ⟨1, 0, none⟩))), (8, some (.int .i64 m)), (9, some (.int .i64 i))] [(0, some (.cells [.int .i64 v.x, .int .i64 v.y, .int .i64 v.z] true)), (1, some (.cells [.int .i64 0, .int .i64 0, .int .i64 0] true))] 2) H Post = (True ∧ pIf (decide (i < m)) (T8 (3 ≤ 3 ∧ T2 (True ∧ (T2 (True)) ∧ H (lpC Tryz.prog 146 3) (lpK Tryz.prog 146 3) (stV [(1, some (vi n)), (2, some (pt 0)), (4, some (pt 1)), (8, some (vi m)), (9, some (vi (IntKind.wrap IntKind.i64 (i + 1))))] [(0, some (AObj.cells [vi (IntKind.wrap IntKind.i64 (0 - v.y)), vi v.x, vi v.z] true)), (1, some (AObj.cells [vi 0, vi 0, vi 0] true))] 2)))) (True ∧ (toI (vi 4) = 0 → False) ∧ True ∧ pIf (decide (IntKind.wrap IntKind.i64 (Int.tdiv n 4) = 1)) (T8 (True ∧ 3 ≤ 3 ∧ (T2 (True ∧ True)) ∧ Post (Value.agg #[vi v.x, vi (IntKind.wrap IntKind.i64 (0 - v.z)), vi v.y]))) (T2 (pIf (decide (IntKind.wrap IntKind.i64 (Int.tdiv n 4) = 2)) (T8 (T2 (3 ≤ 3 ∧ (T2 (True ∧ True)) ∧ Post (Value.agg #[vi v.x, vi (IntKind.wrap IntKind.i64 (0 - v.y)), vi (IntKind.wrap IntKind.i64 (0 - v.z))])))) (T2 (pIf (decide (IntKind.wrap IntKind.i64 (Int.tdiv n 4) = 3)) (T8 (True ∧ 3 ≤ 3 ∧ (T2 (True ∧ True)) ∧ Post (Value.agg #[vi v.x, vi v.z, vi (IntKind.wrap IntKind.i64 (0 - v.y))]))) (T2 (pIf (decide (IntKind.wrap IntKind.i64 (Int.tdiv n 4) = 4)) (T8 (True ∧ 3 ≤ 3 ∧ (T2 (True ∧ True)) ∧ Post (Value.agg #[vi v.z, vi v.y, vi (IntKind.wrap IntKind.i64 (0 - v.x))]))) (T2 (pIf (decide (IntKind.wrap IntKind.i64 (Int.tdiv n 4) = 5)) (T8 (True ∧ 3 ≤ 3 ∧ (T2 (True ∧ True)) ∧ Post (Value.agg #[vi (IntKind.wrap IntKind.i64 (0 - v.z)), vi v.y, vi v.x]))) (T2 (3 ≤ 3 ∧ (T2 (True ∧ True)) ∧ Post (Value.agg #[vi v.x, vi v.y, vi v.z]))))))))))))) := by kernel_rfl
theorem e_vvalid (a : Vec3) (k : Int) (H : HT) (Post : PV) : vcP Tryz.prog (tabCall [⟨124, c_vin⟩, ⟨125, c_num⟩] noCall) 53 [] [placeV a k] H Post = (T4 (∃ (v : Vec3), ∃ (n : Int), eqL [Value.agg #[vi a.x, vi a.y, vi a.z], vi 524288] [vecV v, vi n] ∧ Lim n ∧ pIf (decide (inV v n)) (T8 (pIf (decide (k = turnNo k)) (T2 (True ∧ Post (vb true))) (T2 (True ∧ Post (vb false))))) (T4 (True ∧ Post (vb false))))) := by kernel_rfl
theorem e_vapply (a : Vec3) (k : Int) (v : Vec3) (H : HT) (Post : PV) : vcP Tryz.prog (inlCall Tryz.prog [145] (tabCall [⟨124, c_vin⟩, ⟨146, c_turned⟩] noCall) 2) 72 [] [placeV a k, vecV v] H Post = (T4 (True ∧ ∃ (v_1 : Vec3), ∃ (n : Int), eqL [Value.agg #[vi a.x, vi a.y, vi a.z], vi 1099511627776] [vecV v_1, vi n] ∧ Lim n ∧ pIf (decide (inV v_1 n)) (T2 (True ∧ ∃ (v_2 : Vec3), ∃ (n : Int), eqL [Value.agg #[vi v.x, vi v.y, vi v.z], vi 1099511627776] [vecV v_2, vi n] ∧ Lim n ∧ pIf (decide (inV v_2 n)) (T4 (T2 (True ∧ ∃ (v_3 : Vec3), ∃ (k_1 : Int), eqL [Value.agg #[vi v.x, vi v.y, vi v.z], vi k] [vecV v_3, vi k_1] ∧ VLim v_3 ∧ T16 (T4 (3 ≤ 3 ∧ True ∧ 3 ≤ 3 ∧ True ∧ (T2 (True ∧ True)) ∧ Post (Value.agg #[vi (IntKind.wrap IntKind.i64 (Vec3.x (turnV v_3 k_1) + a.x)), vi (IntKind.wrap IntKind.i64 (Vec3.y (turnV v_3 k_1) + a.y)), vi (IntKind.wrap IntKind.i64 (Vec3.z (turnV v_3 k_1) + a.z))])))))) (T2 (True ∧ 3 ≤ 3 ∧ (T2 (True ∧ True)) ∧ Post (Value.agg #[vi 0, vi 0, vi 0]))))) (T4 (3 ≤ 3 ∧ (T2 (True ∧ True)) ∧ Post (Value.agg #[vi 0, vi 0, vi 0]))))) := by kernel_rfl
theorem e_rvalid (a : Vec3) (k : Int) (H : HT) (Post : PV) : vcP Tryz.prog (inlCall Tryz.prog [151] noCall 2) 59 [] [placeV a k] H Post = (let q1 := True ∧ Post (vb false); T4 (T2 (pIf (decide (a.x ≥ -524288)) (T4 (True ∧ pIf (decide (a.x ≤ 524288)) (T4 (T2 (pIf (decide (a.y ≥ -524288)) (T4 (T2 (pIf (decide (a.y ≤ 524288)) (T4 (T2 (pIf (decide (a.z ≥ -524288)) (T4 (T2 (pIf (decide (a.z ≤ 524288)) (T4 (T2 (True ∧ pIf (decide (k ≥ 0)) (T4 (True ∧ pIf (decide (k ≤ 23)) (T2 (True ∧ Post (vb true))) (T2 q1))) (T4 q1)))) (T8 q1)))) (T8 (T2 q1))))) (T8 (T4 q1))))) (T8 (T4 (T2 q1)))))) (T16 q1))) (T16 (T2 (Post (vb false))))))) := by kernel_rfl
theorem e_rot (n : Int) (H : HT) (Post : PV) : vcP Tryz.prog noCall 151 [] [.int .i64 n] H Post = (T2 (True ∧ pIf (decide (n < 0)) (T4 (Post (vi 0))) (T2 (True ∧ pIf (decide (n > 23)) (T2 (True ∧ Post (vi 0))) (T4 (Post (vi n))))))) := by kernel_rfl
def c_quart (args : List Value) (Post : Value → Prop) : Prop := ∃ (v : Vec3) (k : Int), args = [vecV v, .int .i64 k] ∧ VLim v ∧ k ≤ 4 ∧ Post (vecV (quart k.toNat v))
theorem e_quart (v : Vec3) (k : Int) (H : HT) (Post : PV) : vcP Tryz.prog noCall 214 [(2, [1, 2, 4, 5])] [vecV v, .int .i64 k] H Post = (T4 ((T2 (True)) ∧ H (lpC Tryz.prog 214 2) (lpK Tryz.prog 214 2) (stV [(1, some (vi k)), (2, some (pt 0)), (4, some (pt 1)), (5, some (vi 0))] [(0, some (AObj.cells [vi v.x, vi v.y, vi v.z] true)), (1, some (AObj.cells [vi 0, vi 0, vi 0] true))] 2))) := by kernel_rfl
theorem l_quart (u v : Vec3) (k i : Int) (H : HT) (Post : PV) : vcLP Tryz.prog noCall 214 [vecV u, .int .i64 k] [(2, [1, 2, 4, 5])] 2 (stV [(1, some (.int .i64 k)), (2, some (.pointer (some ⟨0, 0, none⟩))), (4, some (.pointer (some ⟨1, 0, none⟩))), (5, some (.int .i64 i))] [(0, some (.cells [.int .i64 v.x, .int .i64 v.y, .int .i64 v.z] true)), (1, some (.cells [.int .i64 0, .int .i64 0, .int .i64 0] true))] 2) H Post = (T2 (True ∧ pIf (decide (i < k)) (T8 (3 ≤ 3 ∧ T4 ((T2 (True)) ∧ H (lpC Tryz.prog 214 2) (lpK Tryz.prog 214 2) (stV [(1, some (vi k)), (2, some (pt 0)), (4, some (pt 1)), (5, some (vi (IntKind.wrap IntKind.i64 (i + 1))))] [(0, some (AObj.cells [vi (IntKind.wrap IntKind.i64 (0 - v.y)), vi v.x, vi v.z] true)), (1, some (AObj.cells [vi 0, vi 0, vi 0] true))] 2)))) (True ∧ 3 ≤ 3 ∧ (T2 (True ∧ True)) ∧ Post (Value.agg #[vi v.x, vi v.y, vi v.z])))) := by kernel_rfl
def c_tilt (args : List Value) (Post : Value → Prop) : Prop := ∃ (v : Vec3) (k : Int), args = [vecV v, .int .i64 k] ∧ VLim v ∧ Post (vecV (tiltV v k))
theorem e_tilt (v : Vec3) (k : Int) (H : HT) (Post : PV) : vcP Tryz.prog noCall 213 [] [vecV v, .int .i64 k] H Post = (T4 (pIf (decide (k = 1)) (T8 (True ∧ 3 ≤ 3 ∧ (T2 (True ∧ True)) ∧ Post (Value.agg #[vi v.x, vi (IntKind.wrap IntKind.i64 (0 - v.z)), vi v.y]))) (T2 (pIf (decide (k = 2)) (T8 (T2 (3 ≤ 3 ∧ (T2 (True ∧ True)) ∧ Post (Value.agg #[vi v.x, vi (IntKind.wrap IntKind.i64 (0 - v.y)), vi (IntKind.wrap IntKind.i64 (0 - v.z))])))) (T2 (pIf (decide (k = 3)) (T8 (True ∧ 3 ≤ 3 ∧ (T2 (True ∧ True)) ∧ Post (Value.agg #[vi v.x, vi v.z, vi (IntKind.wrap IntKind.i64 (0 - v.y))]))) (T2 (pIf (decide (k = 4)) (T8 (True ∧ 3 ≤ 3 ∧ (T2 (True ∧ True)) ∧ Post (Value.agg #[vi v.z, vi v.y, vi (IntKind.wrap IntKind.i64 (0 - v.x))]))) (T2 (pIf (decide (k = 5)) (T8 (True ∧ 3 ≤ 3 ∧ (T2 (True ∧ True)) ∧ Post (Value.agg #[vi (IntKind.wrap IntKind.i64 (0 - v.z)), vi v.y, vi v.x]))) (T2 (3 ≤ 3 ∧ (T2 (True ∧ True)) ∧ Post (Value.agg #[vi v.x, vi v.y, vi v.z]))))))))))))) := by kernel_rfl
def c_rturned (args : List Value) (Post : Value → Prop) : Prop := ∃ (v : Vec3) (k : Int), args = [vecV v, .int .i64 k] ∧ VLim v ∧ 0 ≤ k ∧ k < 24 ∧ Post (vecV (turnV v k))
theorem e_rturned (v : Vec3) (k : Int) (H : HT) (Post : PV) : vcP Tryz.prog (tabCall [⟨214, c_quart⟩, ⟨213, c_tilt⟩] noCall) 150 [] [vecV v, .int .i64 k] H Post = (T4 ((toI (vi 4) = 0 → False) ∧ ∃ (v_1 : Vec3), ∃ (k_1 : Int), eqL [Value.agg #[vi v.x, vi v.y, vi v.z], vi (Int.tmod k 4)] [vecV v_1, vi k_1] ∧ VLim v_1 ∧ k_1 ≤ 4 ∧ True ∧ (toI (vi 4) = 0 → False) ∧ ∃ (v : Vec3), ∃ (k_2 : Int), eqL [vecV (quart (Int.toNat k_1) v_1), vi (IntKind.wrap IntKind.i64 (Int.tdiv k 4))] [vecV v, vi k_2] ∧ VLim v ∧ 3 ≤ 3 ∧ (T2 (True ∧ True)) ∧ Post (Value.agg #[vi (Vec3.x (tiltV v k_2)), vi (Vec3.y (tiltV v k_2)), vi (Vec3.z (tiltV v k_2))]))) := by kernel_rfl
theorem e_rapply (a : Vec3) (k : Int) (v : Vec3) (H : HT) (Post : PV) : vcP Tryz.prog (inlCall Tryz.prog [149, 148] (tabCall [⟨151, c_num⟩, ⟨150, c_rturned⟩] noCall) 2) 74 [] [placeV a k, vecV v] H Post = (let q2 := 3 ≤ 3 ∧ (T2 (True ∧ True)) ∧ Post (Value.agg #[vi 0, vi 0, vi 0]); let q1 := True ∧ 3 ≤ 3 ∧ (T2 (True ∧ True)) ∧ Post (Value.agg #[vi 0, vi 0, vi 0]); T8 (T2 (pIf (decide (a.x ≥ -1099511627776)) (T4 (pIf (decide (a.x ≤ 1099511627776)) (T4 (True ∧ pIf (decide (a.y ≥ -1099511627776)) (T4 (True ∧ pIf (decide (a.y ≤ 1099511627776)) (T4 (True ∧ pIf (decide (a.z ≥ -1099511627776)) (T4 (True ∧ pIf (decide (a.z ≤ 1099511627776)) (T8 (T2 (pIf (decide (v.x ≥ -1099511627776)) (T4 (pIf (decide (v.x ≤ 1099511627776)) (T4 (True ∧ pIf (decide (v.y ≥ -1099511627776)) (T4 (True ∧ pIf (decide (v.y ≤ 1099511627776)) (T4 (True ∧ pIf (decide (v.z ≥ -1099511627776)) (T4 (True ∧ pIf (decide (v.z ≤ 1099511627776)) (T8 (T2 (∃ (v_1 : Vec3), ∃ (k_1 : Int), eqL [Value.agg #[vi v.x, vi v.y, vi v.z], vi (turnNo k)] [vecV v_1, vi k_1] ∧ VLim v_1 ∧ 0 ≤ k_1 ∧ k_1 < 24 ∧ T16 (T4 (3 ≤ 3 ∧ True ∧ 3 ≤ 3 ∧ True ∧ (T2 (True ∧ True)) ∧ Post (Value.agg #[vi (IntKind.wrap IntKind.i64 (Vec3.x (turnV v_1 k_1) + a.x)), vi (IntKind.wrap IntKind.i64 (Vec3.y (turnV v_1 k_1) + a.y)), vi (IntKind.wrap IntKind.i64 (Vec3.z (turnV v_1 k_1) + a.z))])))))) (T4 q1))) (T4 (T2 q1)))) (T8 q1))) (T8 (T2 q1)))) (T8 (T4 q1)))) (T8 (T4 (T2 q2)))))) (T4 (T2 q2)))) (T8 q2))) (T8 (T2 q2)))) (T8 (T4 q2)))) (T8 (T4 (T2 q2))))) (T8 (T4 (T2 q1)))))) := by kernel_rfl
def ceilP (a b : Int) : Int := -((-a).fdiv b)
def roundP (a b : Int) : Int := (2 * a + b).fdiv (2 * b)
structure Quo (a b : Int) : Prop where
 h : -2305843009213693952 ≤ a ∧ a ≤ 2305843009213693952 ∧ 1 ≤ b ∧ b ≤ 1152921504606846976
def c_floor (args : List Value) (Post : Value → Prop) : Prop := ∃ a b : Int, args = [.int .i64 a, .int .i64 b] ∧ Quo a b ∧ Post (.tuple #[.int .i64 (a.fdiv b), .int .i64 0])
def c_ceil (args : List Value) (Post : Value → Prop) : Prop := ∃ a b : Int, args = [.int .i64 a, .int .i64 b] ∧ Quo a b ∧ Post (.tuple #[.int .i64 (ceilP a b), .int .i64 0])
def c_round (args : List Value) (Post : Value → Prop) : Prop := ∃ a b : Int, args = [.int .i64 a, .int .i64 b] ∧ Quo a b ∧ Post (.tuple #[.int .i64 (roundP a b), .int .i64 0])
theorem e_floor (a b : Int) (H : HT) (Post : PV) : vcP Tryz.prog (inlCall Tryz.prog [147] noCall 2) 211 [] [.int .i64 a, .int .i64 b] H Post = (let q3 := T8 (True ∧ (T2 (True)) ∧ Post (Value.tuple #[vi (IntKind.wrap IntKind.i64 (IntKind.wrap IntKind.i64 (Int.tdiv a b) - 1)), vi 0])); let q2 := T4 (T2 ((T2 (True)) ∧ Post (Value.tuple #[vi (IntKind.wrap IntKind.i64 (Int.tdiv a b)), vi 0]))); let q1 := (b = 0 → False) ∧ T8 (T4 (pIf (!decide (Int.tmod a b = 0)) (T2 (True ∧ pIf (decide (Int.tmod a b < 0)) (T2 (pIf (decide (b < 0)) q2 q3)) (T2 (pIf (decide (b < 0)) q3 q2)))) q2)); T8 (True ∧ pIf (decide (b = 0)) (T16 (T2 (True ∧ (T2 (True)) ∧ Post (Value.tuple #[vi 0, vi 22])))) (T2 (True ∧ pIf (decide (a = -9223372036854775808)) (T2 (True ∧ pIf (decide (b = -1)) (T16 (T4 ((T2 (True)) ∧ Post (Value.tuple #[vi 0, vi 21])))) (T4 ((b = 0 → False) ∧ T2 q1)))) (T4 (True ∧ (b = 0 → False) ∧ T2 q1)))))) := by kernel_rfl
theorem e_ceil (a b : Int) (H : HT) (Post : PV) : vcP Tryz.prog (inlCall Tryz.prog [147] noCall 2) 73 [] [.int .i64 a, .int .i64 b] H Post = (let q3 := T8 (True ∧ (T2 (True)) ∧ Post (Value.tuple #[vi (IntKind.wrap IntKind.i64 (IntKind.wrap IntKind.i64 (Int.tdiv a b) + 1)), vi 0])); let q2 := T4 (T2 ((T2 (True)) ∧ Post (Value.tuple #[vi (IntKind.wrap IntKind.i64 (Int.tdiv a b)), vi 0]))); let q1 := (b = 0 → False) ∧ T8 (T4 (pIf (!decide (Int.tmod a b = 0)) (T2 (True ∧ pIf (decide (Int.tmod a b < 0)) (T2 (pIf (decide (b < 0)) q3 q2)) (T2 (pIf (decide (b < 0)) q2 q3)))) q2)); T8 (True ∧ pIf (decide (b = 0)) (T16 (T2 (True ∧ (T2 (True)) ∧ Post (Value.tuple #[vi 0, vi 22])))) (T2 (True ∧ pIf (decide (a = -9223372036854775808)) (T2 (True ∧ pIf (decide (b = -1)) (T16 (T4 ((T2 (True)) ∧ Post (Value.tuple #[vi 0, vi 21])))) (T4 ((b = 0 → False) ∧ T2 q1)))) (T4 (True ∧ (b = 0 → False) ∧ T2 q1)))))) := by kernel_rfl
theorem e_round (a b : Int) (H : HT) (Post : PV) : vcP Tryz.prog (inlCall Tryz.prog [212] (tabCall [⟨211, c_floor⟩] noCall) 2) 142 [] [.int .i64 a, .int .i64 b] H Post = (T4 (∃ (a_1 : Int), ∃ (b_1 : Int), eqL [vi a, vi b] [vi a_1, vi b_1] ∧ Quo a_1 b_1 ∧ T8 (T4 (T2 (True ∧ pIf (decide (IntKind.wrap IntKind.i64 (a - IntKind.wrap IntKind.i64 (Int.fdiv a_1 b_1 * b)) < 0)) (T8 (T2 (pIf (decide (b < 0)) (T4 (T2 (True ∧ pIf (decide (IntKind.wrap IntKind.u64 (0 - IntKind.wrap IntKind.u64 (IntKind.wrap IntKind.i64 (a - IntKind.wrap IntKind.i64 (Int.fdiv a_1 b_1 * b)))) ≥ IntKind.wrap IntKind.u64 (IntKind.wrap IntKind.u64 (0 - IntKind.wrap IntKind.u64 b) - IntKind.wrap IntKind.u64 (0 - IntKind.wrap IntKind.u64 (IntKind.wrap IntKind.i64 (a - IntKind.wrap IntKind.i64 (Int.fdiv a_1 b_1 * b))))))) (T4 (T2 ((T2 (True)) ∧ Post (Value.tuple #[vi (IntKind.wrap IntKind.i64 (Int.fdiv a_1 b_1 + 1)), vi 0])))) (T2 (True ∧ (T2 (True)) ∧ Post (Value.tuple #[vi (Int.fdiv a_1 b_1), vi 0])))))) (T4 (T2 (pIf (decide (IntKind.wrap IntKind.u64 (0 - IntKind.wrap IntKind.u64 (IntKind.wrap IntKind.i64 (a - IntKind.wrap IntKind.i64 (Int.fdiv a_1 b_1 * b)))) ≥ IntKind.wrap IntKind.u64 (IntKind.wrap IntKind.u64 b - IntKind.wrap IntKind.u64 (0 - IntKind.wrap IntKind.u64 (IntKind.wrap IntKind.i64 (a - IntKind.wrap IntKind.i64 (Int.fdiv a_1 b_1 * b))))))) (T4 (T2 ((T2 (True)) ∧ Post (Value.tuple #[vi (IntKind.wrap IntKind.i64 (Int.fdiv a_1 b_1 + 1)), vi 0])))) (T2 (True ∧ (T2 (True)) ∧ Post (Value.tuple #[vi (Int.fdiv a_1 b_1), vi 0]))))))))) (T8 (True ∧ pIf (decide (b < 0)) (T4 (T2 (True ∧ pIf (decide (IntKind.wrap IntKind.u64 (IntKind.wrap IntKind.i64 (a - IntKind.wrap IntKind.i64 (Int.fdiv a_1 b_1 * b))) ≥ IntKind.wrap IntKind.u64 (IntKind.wrap IntKind.u64 (0 - IntKind.wrap IntKind.u64 b) - IntKind.wrap IntKind.u64 (IntKind.wrap IntKind.i64 (a - IntKind.wrap IntKind.i64 (Int.fdiv a_1 b_1 * b)))))) (T4 (T2 ((T2 (True)) ∧ Post (Value.tuple #[vi (IntKind.wrap IntKind.i64 (Int.fdiv a_1 b_1 + 1)), vi 0])))) (T2 (True ∧ (T2 (True)) ∧ Post (Value.tuple #[vi (Int.fdiv a_1 b_1), vi 0])))))) (T4 (T2 (pIf (decide (IntKind.wrap IntKind.u64 (IntKind.wrap IntKind.i64 (a - IntKind.wrap IntKind.i64 (Int.fdiv a_1 b_1 * b))) ≥ IntKind.wrap IntKind.u64 (IntKind.wrap IntKind.u64 b - IntKind.wrap IntKind.u64 (IntKind.wrap IntKind.i64 (a - IntKind.wrap IntKind.i64 (Int.fdiv a_1 b_1 * b)))))) (T4 (T2 ((T2 (True)) ∧ Post (Value.tuple #[vi (IntKind.wrap IntKind.i64 (Int.fdiv a_1 b_1 + 1)), vi 0])))) (T2 (True ∧ (T2 (True)) ∧ Post (Value.tuple #[vi (Int.fdiv a_1 b_1), vi 0]))))))))))))) := by kernel_rfl
theorem e_rfloor (a b : Int) (H : HT) (Post : PV) : vcP Tryz.prog noCall 152 [] [.int .i64 a, .int .i64 b] H Post = (let q3 := T8 ((T2 (True)) ∧ Post (Value.tuple #[vi (IntKind.wrap IntKind.i64 (IntKind.wrap IntKind.i64 (Int.tdiv a b) - 1)), vi 0])); let q2 := T4 (True ∧ (T2 (True)) ∧ Post (Value.tuple #[vi (IntKind.wrap IntKind.i64 (Int.tdiv a b)), vi 0])); let q1 := True ∧ (b = 0 → False) ∧ True ∧ pIf (!decide (Int.tmod a b = 0)) (T2 (True ∧ pIf (decide (a < 0)) (T2 (pIf (decide (b < 0)) q2 q3)) (T2 (pIf (decide (b < 0)) q3 q2)))) q2; T4 (pIf (decide (b = 0)) (T2 ((T2 (True)) ∧ Post (Value.tuple #[vi 0, vi 22]))) (T2 (pIf (decide (a = -9223372036854775808)) (T2 (True ∧ pIf (decide (b = -1)) (T2 (True ∧ (T2 (True)) ∧ Post (Value.tuple #[vi 0, vi 21]))) (T2 (True ∧ (b = 0 → False) ∧ T2 q1)))) (T4 ((b = 0 → False) ∧ T2 q1)))))) := by kernel_rfl
theorem e_rceil (a b : Int) (H : HT) (Post : PV) : vcP Tryz.prog (tabCall [⟨152, c_floor⟩] noCall) 75 [] [.int .i64 a, .int .i64 b] H Post = (T4 (∃ (a_1 : Int), ∃ (b_1 : Int), eqL [vi a, vi b] [vi a_1, vi b_1] ∧ Quo a_1 b_1 ∧ T8 (True ∧ (b = 0 → False) ∧ True ∧ pIf (!decide (Int.tmod a b = 0)) (T4 (T2 ((T2 (True)) ∧ Post (Value.tuple #[vi (IntKind.wrap IntKind.i64 (Int.fdiv a_1 b_1 + 1)), vi 0])))) (T2 (True ∧ (T2 (True)) ∧ Post (Value.tuple #[vi (Int.fdiv a_1 b_1), vi 0])))))) := by kernel_rfl
theorem e_rround (a b : Int) (H : HT) (Post : PV) : vcP Tryz.prog (tabCall [⟨152, c_floor⟩] noCall) 144 [] [.int .i64 a, .int .i64 b] H Post = (T4 (∃ (a_1 : Int), ∃ (b_1 : Int), eqL [vi a, vi b] [vi a_1, vi b_1] ∧ Quo a_1 b_1 ∧ T8 (T4 (T2 (True ∧ pIf (decide (b > 0)) (T4 (T2 (pIf (decide (IntKind.wrap IntKind.i64 (a - IntKind.wrap IntKind.i64 (Int.fdiv a_1 b_1 * b)) ≥ IntKind.wrap IntKind.i64 (b - IntKind.wrap IntKind.i64 (a - IntKind.wrap IntKind.i64 (Int.fdiv a_1 b_1 * b))))) (T8 (True ∧ (T2 (True)) ∧ Post (Value.tuple #[vi (IntKind.wrap IntKind.i64 (Int.fdiv a_1 b_1 + 1)), vi 0]))) (T4 (pIf (decide (b < 0)) (T4 (T2 (pIf (decide (IntKind.wrap IntKind.i64 (a - IntKind.wrap IntKind.i64 (Int.fdiv a_1 b_1 * b)) ≤ IntKind.wrap IntKind.i64 (b - IntKind.wrap IntKind.i64 (a - IntKind.wrap IntKind.i64 (Int.fdiv a_1 b_1 * b))))) (T8 ((T2 (True)) ∧ Post (Value.tuple #[vi (IntKind.wrap IntKind.i64 (Int.fdiv a_1 b_1 + 1)), vi 0]))) (T4 (True ∧ (T2 (True)) ∧ Post (Value.tuple #[vi (Int.fdiv a_1 b_1), vi 0])))))) (T4 (T2 ((T2 (True)) ∧ Post (Value.tuple #[vi (Int.fdiv a_1 b_1), vi 0]))))))))) (T4 (True ∧ pIf (decide (b < 0)) (T4 (T2 (pIf (decide (IntKind.wrap IntKind.i64 (a - IntKind.wrap IntKind.i64 (Int.fdiv a_1 b_1 * b)) ≤ IntKind.wrap IntKind.i64 (b - IntKind.wrap IntKind.i64 (a - IntKind.wrap IntKind.i64 (Int.fdiv a_1 b_1 * b))))) (T8 ((T2 (True)) ∧ Post (Value.tuple #[vi (IntKind.wrap IntKind.i64 (Int.fdiv a_1 b_1 + 1)), vi 0]))) (T4 (True ∧ (T2 (True)) ∧ Post (Value.tuple #[vi (Int.fdiv a_1 b_1), vi 0])))))) (T4 (T2 ((T2 (True)) ∧ Post (Value.tuple #[vi (Int.fdiv a_1 b_1), vi 0]))))))))))) := by kernel_rfl
theorem wrapU {n : Int} (h1 : 0 ≤ n) (h2 : n < 18446744073709551616) : IntKind.u64.wrap n = n := by
 have e : IntKind.u64.wrap n = n % 18446744073709551616 := by
  unfold IntKind.wrap
  simp [IntKind.signed, IntKind.bits]
 rw [e]
 omega
theorem fdiv_char {a b : Int} (hb : 0 < b) : b * a.fdiv b ≤ a ∧ a < b * a.fdiv b + b := by
 have h1 := Int.mul_fdiv_add_fmod a b
 have h2 := Int.fmod_nonneg_of_pos a hb
 have h3 := Int.fmod_lt_of_pos a hb
 omega
theorem fdiv_eq {a b x : Int} (hb : 0 < b) (h1 : b * x ≤ a) (h2 : a < b * x + b) : a.fdiv b = x := by
 obtain ⟨h3, h4⟩ := fdiv_char (a := a) hb
 generalize a.fdiv b = f at *
 have k1 : b * x < b * (f + 1) := by rw [Int.mul_add, Int.mul_one]; omega
 have k2 : b * f < b * (x + 1) := by rw [Int.mul_add, Int.mul_one]; omega
 have := Int.lt_of_mul_lt_mul_left k1 (by omega)
 have := Int.lt_of_mul_lt_mul_left k2 (by omega)
 omega
theorem fdiv_bd {a b : Int} (hb : 0 < b) : (0 ≤ a.fdiv b → a.fdiv b ≤ a) ∧ (a.fdiv b < 0 → a ≤ a.fdiv b) := by
 obtain ⟨h3, h4⟩ := fdiv_char (a := a) hb
 generalize a.fdiv b = f at *
 constructor
 ·intro h
  have := Int.mul_le_mul_of_nonneg_right (show 1 ≤ b by omega) h
  omega
 ·intro h
  have := Int.mul_le_mul_of_nonpos_right (show 1 ≤ b by omega) (show f + 1 ≤ 0 by omega)
  rw [Int.mul_add] at this
  omega
theorem tfacts {a b : Int} (hb : 0 < b) : b * a.tdiv b + a.tmod b = a ∧ -b < a.tmod b ∧ a.tmod b < b ∧ (0 ≤ a → 0 ≤ a.tmod b) ∧ (a ≤ 0 → a.tmod b ≤ 0) := by
 have h1 := Int.mul_tdiv_add_tmod a b
 have h2 := Int.tmod_lt_of_pos a hb
 have h3 := Int.tmod_lt_of_pos (-a) hb
 have h4 : (-a).tmod b = -(a.tmod b) := Int.neg_tmod a b
 refine ⟨h1, by omega, h2, fun h => Int.tmod_nonneg b h, fun h => ?_⟩
 have := Int.tmod_nonneg b (show 0 ≤ -a by omega)
 omega
theorem ok_floor : EntOk Tryz.prog ⟨211, c_floor⟩ := by
 rintro args Post ⟨a, b, rfl, hq, h⟩
 refine pure_P (inlCall_ok mixed noCall_ok 2) mixed (by kernel_rfl) (by kernel_rfl) _ (e_floor a b _ _) ?_
 obtain ⟨q1, q2, q3, q4⟩ := hq.h
 obtain ⟨t1, t2, t3, t4, t5⟩ := tfacts (a := a) (b := b) (by omega)
 have t6 : (a.tdiv b).natAbs ≤ a.natAbs := Int.natAbs_tdiv_le_natAbs a b
 have yes : ∀ x, x = a.fdiv b → Post (.tuple #[.int .i64 x, .int .i64 0]) := fun x e => by rw [e]; exact h
 have e1 : b * (a.tdiv b - 1) = b * a.tdiv b - b := by rw [Int.mul_sub, Int.mul_one]
 have k0 : 0 ≤ a.tmod b → Post (.tuple #[.int .i64 (IntKind.i64.wrap (a.tdiv b)), .int .i64 0]) := fun h0 => yes _ (by rw [wrap64 (by omega) (by omega), fdiv_eq (x := a.tdiv b) (by omega) (by omega) (by omega)])
 have k1 : a.tmod b < 0 → Post (.tuple #[.int .i64 (IntKind.i64.wrap (IntKind.i64.wrap (a.tdiv b) - 1)), .int .i64 0]) := fun h0 => yes _ (by rw [wrap64 (n := a.tdiv b) (by omega) (by omega), wrap64 (by omega) (by omega), fdiv_eq (x := a.tdiv b - 1) (by omega) (by omega) (by omega)])
 simp only [true_and]
 repeat' (first
  | refine ifD (fun _ => ?_) (fun _ => ?_)
  | refine ifN (fun _ => ?_) (fun _ => ?_)
  | (exfalso; omega)
  | refine And.intro (fun _ => ?_) ?_
  | exact k0 (by omega)
  | exact k1 (by omega))
theorem ok_rfloor : EntOk Tryz.prog ⟨152, c_floor⟩ := by
 rintro args Post ⟨a, b, rfl, hq, h⟩
 refine pure_P noCall_ok mixed (by kernel_rfl) (by kernel_rfl) _ (e_rfloor a b _ _) ?_
 obtain ⟨q1, q2, q3, q4⟩ := hq.h
 obtain ⟨t1, t2, t3, t4, t5⟩ := tfacts (a := a) (b := b) (by omega)
 have t6 : (a.tdiv b).natAbs ≤ a.natAbs := Int.natAbs_tdiv_le_natAbs a b
 have yes : ∀ x, x = a.fdiv b → Post (.tuple #[.int .i64 x, .int .i64 0]) := fun x e => by rw [e]; exact h
 have e1 : b * (a.tdiv b - 1) = b * a.tdiv b - b := by rw [Int.mul_sub, Int.mul_one]
 have k0 : 0 ≤ a.tmod b → Post (.tuple #[.int .i64 (IntKind.i64.wrap (a.tdiv b)), .int .i64 0]) := fun h0 => yes _ (by rw [wrap64 (by omega) (by omega), fdiv_eq (x := a.tdiv b) (by omega) (by omega) (by omega)])
 have k1 : a.tmod b < 0 → Post (.tuple #[.int .i64 (IntKind.i64.wrap (IntKind.i64.wrap (a.tdiv b) - 1)), .int .i64 0]) := fun h0 => yes _ (by rw [wrap64 (n := a.tdiv b) (by omega) (by omega), wrap64 (by omega) (by omega), fdiv_eq (x := a.tdiv b - 1) (by omega) (by omega) (by omega)])
 simp only [true_and]
 repeat' (first
  | refine ifD (fun _ => ?_) (fun _ => ?_)
  | refine ifN (fun _ => ?_) (fun _ => ?_)
  | (exfalso; omega)
  | refine And.intro (fun _ => ?_) ?_
  | exact k0 (by omega)
  | exact k1 (by omega))
theorem ceil_eq {a b x : Int} (hb : 0 < b) (h1 : b * x - b < a) (h2 : a ≤ b * x) : ceilP a b = x := by
 unfold ceilP
 rw [fdiv_eq (x := -x) hb (by rw [Int.mul_neg]; omega) (by rw [Int.mul_neg]; omega)]
 omega
theorem ok_ceil : EntOk Tryz.prog ⟨73, c_ceil⟩ := by
 rintro args Post ⟨a, b, rfl, hq, h⟩
 refine pure_P (inlCall_ok mixed noCall_ok 2) mixed (by kernel_rfl) (by kernel_rfl) _ (e_ceil a b _ _) ?_
 obtain ⟨q1, q2, q3, q4⟩ := hq.h
 obtain ⟨t1, t2, t3, t4, t5⟩ := tfacts (a := a) (b := b) (by omega)
 have t6 : (a.tdiv b).natAbs ≤ a.natAbs := Int.natAbs_tdiv_le_natAbs a b
 have yes : ∀ x, x = ceilP a b → Post (.tuple #[.int .i64 x, .int .i64 0]) := fun x e => by rw [e]; exact h
 have e1 : b * (a.tdiv b + 1) = b * a.tdiv b + b := by rw [Int.mul_add, Int.mul_one]
 have k0 : a.tmod b ≤ 0 → Post (.tuple #[.int .i64 (IntKind.i64.wrap (a.tdiv b)), .int .i64 0]) := fun h0 => yes _ (by rw [wrap64 (by omega) (by omega), ceil_eq (x := a.tdiv b) (by omega) (by omega) (by omega)])
 have k1 : 0 < a.tmod b → Post (.tuple #[.int .i64 (IntKind.i64.wrap (IntKind.i64.wrap (a.tdiv b) + 1)), .int .i64 0]) := fun h0 => yes _ (by rw [wrap64 (n := a.tdiv b) (by omega) (by omega), wrap64 (by omega) (by omega), ceil_eq (x := a.tdiv b + 1) (by omega) (by omega) (by omega)])
 simp only [true_and]
 repeat' (first
  | refine ifD (fun _ => ?_) (fun _ => ?_)
  | refine ifN (fun _ => ?_) (fun _ => ?_)
  | (exfalso; omega)
  | refine And.intro (fun _ => ?_) ?_
  | exact k0 (by omega)
  | exact k1 (by omega))
theorem round_facts {a b : Int} (hq : Quo a b) : IntKind.i64.wrap (a - IntKind.i64.wrap (a.fdiv b * b)) = a - a.fdiv b * b ∧ 0 ≤ a - a.fdiv b * b ∧ a - a.fdiv b * b < b ∧ -2305843009213693953 ≤ a.fdiv b ∧ a.fdiv b ≤ 2305843009213693952 := by
 obtain ⟨q1, q2, q3, q4⟩ := hq.h
 obtain ⟨f1, f2⟩ := fdiv_char (a := a) (b := b) (by omega)
 obtain ⟨f3, f4⟩ := fdiv_bd (a := a) (b := b) (by omega)
 rw [Int.mul_comm] at f1 f2
 refine ⟨?_, by omega, by omega, by omega, by omega⟩
 rw [wrap64 (n := a.fdiv b * b) (by omega) (by omega), wrap64 (by omega) (by omega)]
theorem round_eq {a b : Int} (hb : 0 < b) : (b ≤ 2 * (a - a.fdiv b * b) → roundP a b = a.fdiv b + 1) ∧ (2 * (a - a.fdiv b * b) < b → roundP a b = a.fdiv b) := by
 obtain ⟨f1, f2⟩ := fdiv_char (a := a) hb
 unfold roundP
 generalize a.fdiv b = f at *
 rw [Int.mul_comm] at f1 f2
 have e1 : 2 * b * (f + 1) = 2 * (f * b) + 2 * b := by rw [Int.mul_add, Int.mul_one, Int.mul_assoc, Int.mul_comm b f]
 have e2 : 2 * b * f = 2 * (f * b) := by rw [Int.mul_assoc, Int.mul_comm b f]
 exact ⟨fun h => fdiv_eq (by omega) (by omega) (by omega), fun h => fdiv_eq (by omega) (by omega) (by omega)⟩
theorem ok_round : EntOk Tryz.prog ⟨142, c_round⟩ := by
 rintro args Post ⟨a, b, rfl, hq, h⟩
 refine pure_P (inlCall_ok mixed (tabCall_ok (by
  intro e he
  simp only [List.mem_cons, List.not_mem_nil, or_false] at he
  subst he
  exact ok_floor) noCall_ok) 2) mixed (by kernel_rfl) (by kernel_rfl) _ (e_round a b _ _) ?_
 obtain ⟨q1, q2, q3, q4⟩ := hq.h
 obtain ⟨r1, r2, r3, r4, r5⟩ := round_facts hq
 obtain ⟨g1, g2⟩ := round_eq (a := a) (b := b) (by omega)
 simp only [true_and]
 refine ⟨a, b, rfl, hq, ?_⟩
 rw [r1]
 generalize hr : a - a.fdiv b * b = r at *
 have u1 : IntKind.u64.wrap r = r := wrapU (by omega) (by omega)
 have u2 : IntKind.u64.wrap b = b := wrapU (by omega) (by omega)
 have u3 : IntKind.u64.wrap (b - r) = b - r := wrapU (by omega) (by omega)
 have w1 : IntKind.i64.wrap (a.fdiv b + 1) = a.fdiv b + 1 := wrap64 (by omega) (by omega)
 rw [u1, u2, u3, w1]
 refine ifD (fun _ => by exfalso; omega) (fun _ => ifD (fun _ => by exfalso; omega) (fun _ => ifD (fun h1 => ?_) (fun h1 => ?_)))
 ·rwa [g1 (by omega)] at h
 ·rwa [g2 (by omega)] at h
theorem ok_rround : EntOk Tryz.prog ⟨144, c_round⟩ := by
 rintro args Post ⟨a, b, rfl, hq, h⟩
 refine pure_P (tabCall_ok (by
  intro e he
  simp only [List.mem_cons, List.not_mem_nil, or_false] at he
  subst he
  exact ok_rfloor) noCall_ok) mixed (by kernel_rfl) (by kernel_rfl) _ (e_rround a b _ _) ?_
 obtain ⟨q1, q2, q3, q4⟩ := hq.h
 obtain ⟨r1, r2, r3, r4, r5⟩ := round_facts hq
 obtain ⟨g1, g2⟩ := round_eq (a := a) (b := b) (by omega)
 simp only [true_and]
 refine ⟨a, b, rfl, hq, ?_⟩
 rw [r1]
 generalize hr : a - a.fdiv b * b = r at *
 have u3 : IntKind.i64.wrap (b - r) = b - r := wrap64 (by omega) (by omega)
 have w1 : IntKind.i64.wrap (a.fdiv b + 1) = a.fdiv b + 1 := wrap64 (by omega) (by omega)
 rw [u3, w1]
 refine ifD (fun _ => ifD (fun h1 => ?_) (fun h1 => ifD (fun _ => by exfalso; omega) (fun _ => ?_))) (fun _ => by exfalso; omega)
 ·rwa [g1 (by omega)] at h
 ·rwa [g2 (by omega)] at h
theorem ok_rceil : EntOk Tryz.prog ⟨75, c_ceil⟩ := by
 rintro args Post ⟨a, b, rfl, hq, h⟩
 refine pure_P (tabCall_ok (by
  intro e he
  simp only [List.mem_cons, List.not_mem_nil, or_false] at he
  subst he
  exact ok_rfloor) noCall_ok) mixed (by kernel_rfl) (by kernel_rfl) _ (e_rceil a b _ _) ?_
 obtain ⟨q1, q2, q3, q4⟩ := hq.h
 obtain ⟨r1, r2, r3, r4, r5⟩ := round_facts hq
 obtain ⟨f1, f2⟩ := fdiv_char (a := a) (b := b) (by omega)
 obtain ⟨t1, t2, t3, t4, t5⟩ := tfacts (a := a) (b := b) (by omega)
 have w1 : IntKind.i64.wrap (a.fdiv b + 1) = a.fdiv b + 1 := wrap64 (by omega) (by omega)
 have e1 : b * (a.fdiv b + 1) = b * a.fdiv b + b := by rw [Int.mul_add, Int.mul_one]
 simp only [true_and]
 refine ⟨a, b, rfl, hq, fun _ => by omega, ?_⟩
 rw [w1]
 refine ifN (fun h1 => ?_) (fun h1 => ?_)
 ·have ne : b * a.fdiv b ≠ a := fun e => h1 (by
   have e2 : (b * a.fdiv b).tmod b = 0 := Int.mul_tmod_right b _
   rwa [e] at e2)
  rwa [ceil_eq (x := a.fdiv b + 1) (by omega) (by omega) (by
   rw [e1]; omega)] at h
 ·rwa [ceil_eq (x := a.fdiv b) (by omega) (by omega) (by
   have : b * a.fdiv b = a := by
    rw [fdiv_eq (x := a.tdiv b) (by omega) (by omega) (by omega)]; omega
   omega)] at h
theorem ok_vin : EntOk Tryz.prog ⟨124, c_vin⟩ := by
 rintro args Post ⟨v, n, rfl, hn, h⟩
 refine pure_P noCall_ok mixed (by kernel_rfl) (by kernel_rfl) _ (e_vin v n _ _) ?_
 have hl := hn.h
 have yes : inV v n → Post (.bool true) := fun hp => by rwa [decide_eq_true hp] at h
 have no : ¬ inV v n → Post (.bool false) := fun hp => by rwa [decide_eq_false hp] at h
 have w1 : IntKind.i64.wrap (0 - n) = -n := by rw [wrap64 (by omega) (by omega)]; omega
 simp only [true_and, w1]
 unfold inV at yes no
 repeat' (first
  | refine ifD (fun _ => ?_) (fun _ => ?_)
  | exact yes (by omega)
  | exact no (by omega))
theorem ok_num : EntOk Tryz.prog ⟨125, c_num⟩ := by
 intro args Post hc
 unfold c_num at hc
 dsimp only at hc
 split at hc
 case h_2 => exact hc.elim
 rename_i n
 refine pure_P noCall_ok mixed (by kernel_rfl) (by kernel_rfl) _ (e_num n _ _) ?_
 unfold turnNo at hc
 simp only [true_and]
 refine ifD (fun h1 => ?_) (fun h1 => ifD (fun h2 => ?_) (fun h2 => ?_))
 ·rwa [if_pos (by omega)] at hc
 ·rwa [if_pos (by omega)] at hc
 ·rwa [if_neg (by omega)] at hc
theorem ok_rot : EntOk Tryz.prog ⟨151, c_num⟩ := by
 intro args Post hc
 unfold c_num at hc
 dsimp only at hc
 split at hc
 case h_2 => exact hc.elim
 rename_i n
 refine pure_P noCall_ok mixed (by kernel_rfl) (by kernel_rfl) _ (e_rot n _ _) ?_
 unfold turnNo at hc
 simp only [true_and]
 refine ifD (fun h1 => ?_) (fun h1 => ifD (fun h2 => ?_) (fun h2 => ?_))
 ·rwa [if_pos (by omega)] at hc
 ·rwa [if_pos (by omega)] at hc
 ·rwa [if_neg (by omega)] at hc
theorem negW {n : Int} (h1 : -1099511627776 ≤ n) (h2 : n ≤ 1099511627776) : IntKind.i64.wrap (0 - n) = -n := by
 rw [wrap64 (by omega) (by omega)]; omega
theorem quart_in {v : Vec3} (h : VLim v) : ∀ n, VLim (quart n v)
 | 0 => h
 | n + 1 => by
  have := (quart_in h n).h
  unfold inV at this
  constructor
  unfold quart inV
  dsimp only
  omega
theorem turnNo_bd (k : Int) : 0 ≤ turnNo k ∧ turnNo k < 24 := by
 unfold turnNo
 split <;> omega
theorem tdiv4 {n : Int} (h1 : 0 ≤ n) (h2 : n < 24) : 0 ≤ n.tdiv 4 ∧ n.tdiv 4 < 6 ∧ 0 ≤ n.tmod 4 ∧ n.tmod 4 < 4 ∧ IntKind.i64.wrap (n.tdiv 4) = n.tdiv 4 := by
 have e := tfacts (a := n) (b := 4) (by decide)
 refine ⟨by omega, by omega, by omega, by omega, wrap64 (by omega) (by omega)⟩
theorem tilt_Post {v : Vec3} (_ : VLim v) {n : Int} {Post : Value → Prop} (h : Post (vecV (tiltV v n))) :
  pIf (decide (n = 1)) (Post (vecV ⟨v.x, -v.z, v.y⟩)) (pIf (decide (n = 2)) (Post (vecV ⟨v.x, -v.y, -v.z⟩)) (pIf (decide (n = 3)) (Post (vecV ⟨v.x, v.z, -v.y⟩)) (pIf (decide (n = 4)) (Post (vecV ⟨v.z, v.y, -v.x⟩)) (pIf (decide (n = 5)) (Post (vecV ⟨-v.z, v.y, v.x⟩)) (Post (vecV v)))))) := by
 unfold tiltV at h
 refine ifD (fun h1 => ?_) (fun h1 => ?_)
 ·rwa [if_pos h1] at h
 rw [if_neg h1] at h
 refine ifD (fun h2 => ?_) (fun h2 => ?_)
 ·rwa [if_pos h2] at h
 rw [if_neg h2] at h
 refine ifD (fun h3 => ?_) (fun h3 => ?_)
 ·rwa [if_pos h3] at h
 rw [if_neg h3] at h
 refine ifD (fun h4 => ?_) (fun h4 => ?_)
 ·rwa [if_pos h4] at h
 rw [if_neg h4] at h
 refine ifD (fun h5 => ?_) (fun h5 => ?_)
 ·rwa [if_pos h5] at h
 ·rwa [if_neg h5] at h
theorem ok_turned : EntOk Tryz.prog ⟨146, c_turned⟩ := by
 rintro args Post ⟨v, k, rfl, hv, h⟩
 have hok : VCallOk Tryz.prog vcTu := tabCall_ok (by
  intro e he
  simp only [List.mem_cons, List.not_mem_nil, or_false] at he
  subst he
  exact ok_num) noCall_ok
 refine pure_P hok mixed (by kernel_rfl) (by kernel_rfl) _ (e_turned v k _ _) ?_
 obtain ⟨t1, t2⟩ := turnNo_bd k
 obtain ⟨d1, d2, d3, d4, d5⟩ := tdiv4 t1 t2
 obtain ⟨m, hm⟩ := Int.eq_ofNat_of_zero_le d3
 simp only [true_and, toI_int]
 refine ⟨fun h => by omega, ?_⟩
 rw [hm]
 unfold turnV at h
 rw [hm, Int.toNat_natCast] at h
 refine down (n := m) (p := fun i => OkP 146 [vecV v, .int .i64 k] 3 Post (stV [(1, some (.int .i64 (turnNo k))), (2, some (.pointer (some ⟨0, 0, none⟩))), (4, some (.pointer (some ⟨1, 0, none⟩))), (8, some (.int .i64 m)), (9, some (.int .i64 i))] [(0, some (.cells [.int .i64 (quart i v).x, .int .i64 (quart i v).y, .int .i64 (quart i v).z] true)), (1, some (.cells [.int .i64 0, .int .i64 0, .int .i64 0] true))] 2)) ?_ (fun i i1 ih => ?_)
 ·refine ok_P hok mixed _ (l_turned v (quart m v) k (turnNo k) m m _ _) ?_
  have hq := (quart_in hv m).h
  unfold inV at hq
  simp only [true_and, toI_int, d5, negW (n := (quart m v).x) (by omega) (by omega), negW (n := (quart m v).y) (by omega) (by omega), negW (n := (quart m v).z) (by omega) (by omega), show (3 ≤ 3) = True from eq_true (by decide)]
  exact ifD (fun hlt => by omega) (fun _ => ⟨fun h => by omega, tilt_Post (quart_in hv m) h⟩)
 ·refine ok_P hok mixed _ (l_turned v (quart i v) k (turnNo k) m i _ _) ?_
  have hq := (quart_in hv i).h
  unfold inV at hq
  simp only [true_and, negW (n := (quart i v).y) (by omega) (by omega), wrapSucc (show i < 2 ^ 62 by omega)]
  exact ifD (fun _ => ⟨by decide, ih⟩) (fun h' => by omega)
theorem ok_quart : EntOk Tryz.prog ⟨214, c_quart⟩ := by
 rintro args Post ⟨v, k, rfl, hv, hk, h⟩
 refine pure_P noCall_ok mixed (by kernel_rfl) (by kernel_rfl) _ (e_quart v k _ _) ?_
 simp only [true_and]
 refine down (n := k.toNat) (p := fun i => OkP 214 [vecV v, .int .i64 k] 2 Post (stV [(1, some (.int .i64 k)), (2, some (.pointer (some ⟨0, 0, none⟩))), (4, some (.pointer (some ⟨1, 0, none⟩))), (5, some (.int .i64 i))] [(0, some (.cells [.int .i64 (quart i v).x, .int .i64 (quart i v).y, .int .i64 (quart i v).z] true)), (1, some (.cells [.int .i64 0, .int .i64 0, .int .i64 0] true))] 2)) ?_ (fun i i1 ih => ?_)
 ·refine ok_P noCall_ok mixed _ (l_quart v (quart k.toNat v) k k.toNat _ _) ?_
  simp only [true_and]
  exact ifD (fun hlt => by omega) (fun _ => ⟨by decide, h⟩)
 ·refine ok_P noCall_ok mixed _ (l_quart v (quart i v) k i _ _) ?_
  have hq := (quart_in hv i).h
  unfold inV at hq
  simp only [true_and, negW (n := (quart i v).y) (by omega) (by omega), wrapSucc (show i < 2 ^ 62 by omega)]
  exact ifD (fun _ => ⟨by decide, ih⟩) (fun h' => by omega)
theorem ok_tilt : EntOk Tryz.prog ⟨213, c_tilt⟩ := by
 rintro args Post ⟨v, k, rfl, hv, h⟩
 refine pure_P noCall_ok mixed (by kernel_rfl) (by kernel_rfl) _ (e_tilt v k _ _) ?_
 have hq := hv.h
 unfold inV at hq
 simp only [true_and, negW (n := v.x) (by omega) (by omega), negW (n := v.y) (by omega) (by omega), negW (n := v.z) (by omega) (by omega), show (3 ≤ 3) = True from eq_true (by decide)]
 exact tilt_Post hv h
theorem ok_rturned : EntOk Tryz.prog ⟨150, c_rturned⟩ := by
 rintro args Post ⟨v, k, rfl, hv, k0, k1, h⟩
 refine pure_P (tabCall_ok (by
  intro e he
  simp only [List.mem_cons, List.not_mem_nil, or_false] at he
  rcases he with rfl | rfl
  ·exact ok_quart
  ·exact ok_tilt) noCall_ok) mixed (by kernel_rfl) (by kernel_rfl) _ (e_rturned v k _ _) ?_
 obtain ⟨d1, d2, d3, d4, d5⟩ := tdiv4 k0 k1
 have e : turnNo k = k := by unfold turnNo; rw [if_neg (by omega)]
 unfold turnV at h
 rw [e] at h
 simp only [true_and, toI_int, d5]
 exact ⟨fun h => by omega, v, k.tmod 4, rfl, hv, by omega, fun h => by omega, quart (k.tmod 4).toNat v, k.tdiv 4, rfl, quart_in hv _, by decide, h⟩
theorem ok_vvalid : EntOk Tryz.prog ⟨53, c_vvalid⟩ := by
 rintro args Post ⟨a, k, rfl, h⟩
 refine pure_P (tabCall_ok (by
  intro e he
  simp only [List.mem_cons, List.not_mem_nil, or_false] at he
  rcases he with rfl | rfl
  ·exact ok_vin
  ·exact ok_num) noCall_ok) mixed (by kernel_rfl) (by kernel_rfl) _ (e_vvalid a k _ _) ?_
 simp only [true_and]
 refine ⟨a, 524288, rfl, ⟨by decide⟩, ifD (fun h1 => ifD (fun h2 => ?_) (fun h2 => ?_)) (fun h1 => ?_)⟩
 ·rwa [decide_eq_true (show validP a k from ⟨h1, h2⟩)] at h
 ·rwa [decide_eq_false (fun hp : validP a k => h2 hp.2)] at h
 ·rwa [decide_eq_false (fun hp : validP a k => h1 hp.1)] at h
theorem ok_rvalid : EntOk Tryz.prog ⟨59, c_vvalid⟩ := by
 rintro args Post ⟨a, k, rfl, h⟩
 refine pure_P (inlCall_ok mixed noCall_ok 2) mixed (by kernel_rfl) (by kernel_rfl) _ (e_rvalid a k _ _) ?_
 simp only [true_and]
 have yes : validP a k → Post (.bool true) := fun hp => by rwa [decide_eq_true hp] at h
 have no : ¬ validP a k → Post (.bool false) := fun hp => by rwa [decide_eq_false hp] at h
 unfold validP inV turnNo at yes no
 repeat' (first
  | refine ifD (fun _ => ?_) (fun _ => ?_)
  | exact yes ⟨by omega, by rw [if_neg (by omega)]⟩
  | exact no (fun hp => by
    obtain ⟨h1, h2⟩ := hp
    split at h2 <;> omega))
theorem tilt_in {v : Vec3} (h : VLim v) (n : Int) : VLim (tiltV v n) := by
 have := h.h
 unfold inV at this
 constructor
 unfold tiltV inV
 repeat' split
 all_goals ((try dsimp only); omega)
theorem turn_in {v : Vec3} (h : VLim v) (k : Int) : VLim (turnV v k) := tilt_in (quart_in h _) _
theorem apply_Post {a v : Vec3} {k : Int} (ha : inV a 1099511627776) (hv : inV v 1099511627776) {Post : Value → Prop} (h : Post (vecV (applyV a k v))) :
  Post (.agg #[.int .i64 (IntKind.i64.wrap ((turnV v k).x + a.x)), .int .i64 (IntKind.i64.wrap ((turnV v k).y + a.y)), .int .i64 (IntKind.i64.wrap ((turnV v k).z + a.z))]) := by
 unfold applyV at h
 rw [if_neg (by rintro (h | h); exact h ha; exact h hv)] at h
 have h1 := (turn_in ⟨hv⟩ k).h
 have h2 := ha
 unfold inV at h1 h2
 rw [wrap64 (n := (turnV v k).x + a.x) (by omega) (by omega), wrap64 (n := (turnV v k).y + a.y) (by omega) (by omega), wrap64 (n := (turnV v k).z + a.z) (by omega) (by omega)]
 exact h
theorem apply_zero {a v : Vec3} {k : Int} (hn : ¬ inV a 1099511627776 ∨ ¬ inV v 1099511627776) {Post : Value → Prop} (h : Post (vecV (applyV a k v))) : Post (.agg #[.int .i64 0, .int .i64 0, .int .i64 0]) := by
 unfold applyV at h
 rw [if_pos hn] at h
 exact h
theorem ok_vapply : EntOk Tryz.prog ⟨72, c_vapply⟩ := by
 rintro args Post ⟨a, k, v, rfl, h⟩
 refine pure_P (inlCall_ok mixed (tabCall_ok (by
  intro e he
  simp only [List.mem_cons, List.not_mem_nil, or_false] at he
  rcases he with rfl | rfl
  ·exact ok_vin
  ·exact ok_turned) noCall_ok) 2) mixed (by kernel_rfl) (by kernel_rfl) _ (e_vapply a k v _ _) ?_
 simp only [true_and]
 refine ⟨a, 1099511627776, rfl, ⟨by decide⟩, ifD (fun h1 => ⟨v, 1099511627776, rfl, ⟨by decide⟩, ifD (fun h2 => ⟨v, k, rfl, ⟨h2⟩, by decide, by decide, apply_Post h1 h2 h⟩) (fun h2 => ⟨by decide, apply_zero (.inr h2) h⟩)⟩) (fun h1 => ⟨by decide, apply_zero (.inl h1) h⟩)⟩
theorem turnV_no (v : Vec3) (k : Int) : turnV v (turnNo k) = turnV v k := by
 obtain ⟨t1, t2⟩ := turnNo_bd k
 have e : turnNo (turnNo k) = turnNo k := by
  generalize turnNo k = n at *
  unfold turnNo
  rw [if_neg (by omega)]
 unfold turnV
 rw [e]
theorem ok_rapply : EntOk Tryz.prog ⟨74, c_vapply⟩ := by
 rintro args Post ⟨a, k, v, rfl, h⟩
 refine pure_P (inlCall_ok mixed (tabCall_ok (by
  intro e he
  simp only [List.mem_cons, List.not_mem_nil, or_false] at he
  rcases he with rfl | rfl
  ·exact ok_rot
  ·exact ok_rturned) noCall_ok) 2) mixed (by kernel_rfl) (by kernel_rfl) _ (e_rapply a k v _ _) ?_
 simp only [true_and]
 obtain ⟨t1, t2⟩ := turnNo_bd k
 repeat' (first
  | refine ifD (fun _ => ?_) (fun _ => ?_)
  | exact ⟨by decide, apply_zero (.inl (fun hp => by unfold inV at hp; omega)) h⟩
  | exact ⟨by decide, apply_zero (.inr (fun hp => by unfold inV at hp; omega)) h⟩
  | refine ⟨v, turnNo k, rfl, ⟨by unfold inV; omega⟩, t1, t2, by decide, by decide, ?_⟩
  | fail)
 rw [turnV_no]
 exact apply_Post (by unfold inV; omega) (by unfold inV; omega) h
theorem closedL {ρ : Place} {l l' : List Value} (hl : l.all closed = true) (h : VRL ρ l l') : l' = l := by
 refine List.ext_getElem? fun i => ?_
 have hlen := h.len
 rcases Nat.lt_or_ge i l.length with hi | hi
 ·have h1 : l[i]? = some l[i] := List.getElem?_eq_getElem hi
  have h2 : l'[i]? = some (l'[i]'(by omega)) := List.getElem?_eq_getElem (by omega)
  have hr := h.get h1 h2
  rw [h1, h2, closed_eq (List.all_eq_true.1 hl _ (List.getElem_mem hi)) hr]
 ·rw [List.getElem?_eq_none hi, List.getElem?_eq_none (by omega)]
theorem pure_of_calls {P : Program} {f : FuncId} {args : List Value} {Post : Value → Prop} {v : Value} (ha : args.all closed = true) (hv : nl1 v = true) (hr : ∀ ρ, VR ρ v v) (h : ∀ w, Calls P f args.toArray w fun e w' => e = .returned v ∧ w' = w) (hP : Post v) : Pure P f args Post := by
 intro W ρ w args' hrel hargs
 obtain rfl := closedL ha hargs
 refine (h w).mono fun e w' ⟨he, hw⟩ => ?_
 subst he hw
 exact ⟨v, .e, 0, v, ρ, hP, rfl, nl1_sound hv (hr ρ), hrel, .refl _ _⟩
def dot : ByteArray := ⟨#[46]⟩
theorem run_cnt (s : ByteArray) (w : World) : (callFunc 247 #[.string s, .int .u8 46]).run Tryz.prog w = .ok (.value (.int .i64 (Lib.countByte s.data.toList 46))) w := by
 rw [run_callFunc_extern Tryz.func247 (by kernel_rfl) (by kernel_rfl) (by kernel_rfl) (e := Extern.BytealgCount.count) (by kernel_rfl), Lib.run_countString]
 rfl
theorem run_idx (s : ByteArray) (w : World) : (callFunc 269 #[.string s, .int .u8 46]).run Tryz.prog w = .ok (.value (.int .i64 (Lib.indexByte s.data.toList 46))) w := by
 rw [run_callFunc_extern Tryz.func269 (by kernel_rfl) (by kernel_rfl) (by kernel_rfl) (e := Extern.BytealgIndexByte.indexByte) (by kernel_rfl), Lib.run_indexByteString]
 rfl
set_option maxHeartbeats 1000000 in
theorem count_walk (s : ByteArray) (w : World) : Calls Tryz.prog 225 #[.string s, .string dot] w fun e w' => e = .returned (.int .i64 (Lib.countByte s.data.toList 46)) ∧ w' = w := by
 unfold dot
 go_enter Tryz.func225, Tryz.ntmps225
 go_wp2
 erw [run_cnt]
 go_wp2
 go_ret
 exact ⟨rfl, rfl⟩
set_option maxHeartbeats 1000000 in
theorem index_walk (s : ByteArray) (w : World) : Calls Tryz.prog 260 #[.string s, .int .u8 46] w fun e w' => e = .returned (.int .i64 (Lib.indexByte s.data.toList 46)) ∧ w' = w := by
 go_enter Tryz.func260, Tryz.ntmps260
 go_wp2
 rw [run_idx]
 go_wp2
 go_ret
 exact ⟨rfl, rfl⟩
def c_Cnt (args : List Value) (Post : Value → Prop) : Prop := match args with
 | [.string s, .string d] => d = dot ∧ Post (.int .i64 (Lib.countByte s.data.toList 46))
 | _ => False
def c_Idx (args : List Value) (Post : Value → Prop) : Prop := match args with
 | [.string s, .int .u8 k] => k = 46 ∧ Post (.int .i64 (Lib.indexByte s.data.toList 46))
 | _ => False
theorem ok_Cnt : EntOk Tryz.prog ⟨225, c_Cnt⟩ := by
 intro args Post h
 unfold c_Cnt at h
 dsimp only at h
 split at h
 ·obtain ⟨rfl, h⟩ := h
  exact pure_of_calls rfl rfl (fun ρ => .int _ _) (fun w => count_walk _ w) h
 ·exact h.elim
theorem ok_Idx : EntOk Tryz.prog ⟨260, c_Idx⟩ := by
 intro args Post h
 unfold c_Idx at h
 dsimp only at h
 split at h
 ·obtain ⟨rfl, h⟩ := h
  exact pure_of_calls rfl rfl (fun ρ => .int _ _) (fun w => index_walk _ w) h
 ·exact h.elim
def be : Nat → Nat → List UInt8
 | 0, _ => []
 | n + 1, v => UInt8.ofNat (v / 256 ^ n) :: be n v
def hd (k v : Nat) : List UInt8 :=
 if v < 24 then [UInt8.ofNat (32 * k + v)]
 else if v < 256 then UInt8.ofNat (32 * k + 24) :: be 1 v
 else if v < 65536 then UInt8.ofNat (32 * k + 25) :: be 2 v
 else if v < 4294967296 then UInt8.ofNat (32 * k + 26) :: be 4 v
 else UInt8.ofNat (32 * k + 27) :: be 8 v
def b8 (x : UInt8) : Value := .int .u8 x.toNat
def str (l : List UInt8) : ByteArray := ⟨l.toArray⟩
theorem ba_ext {a b : ByteArray} (h : a.data.toList = b.data.toList) : a = b := by
 cases a; cases b; congr 1; exact Array.toList_inj.1 h
def byte0 (s : ByteArray) : UInt8 := Array.getD s.data 0 0
def ofBE (l : List UInt8) : Nat := l.foldl (fun v b => 256 * v + b.toNat) 0
def pk (s : ByteArray) (one two : Nat) : Nat × Nat × Nat × Nat :=
 if s.size = 0 then (0, 0, 0, 3)
 else if ((byte0 s).toNat / 32 ≠ one ∧ (byte0 s).toNat / 32 ≠ two) ∨ (byte0 s).toNat % 32 > 27 then (0, 0, 0, 5)
 else if (byte0 s).toNat % 32 < 24 then ((byte0 s).toNat / 32, (byte0 s).toNat % 32, 1, 0)
 else if s.size < 1 + 2 ^ ((byte0 s).toNat % 32 - 24) then (0, 0, 0, 3)
 else if str (hd ((byte0 s).toNat / 32) (ofBE (s.extract 1 (1 + 2 ^ ((byte0 s).toNat % 32 - 24))).data.toList)) ≠ s.extract 0 (1 + 2 ^ ((byte0 s).toNat % 32 - 24)) then (0, 0, 0, 5)
 else ((byte0 s).toNat / 32, ofBE (s.extract 1 (1 + 2 ^ ((byte0 s).toNat % 32 - 24))).data.toList, 1 + 2 ^ ((byte0 s).toNat % 32 - 24), 0)
end Go.Proofs.YtngginofamlkkaaGreatDoor
