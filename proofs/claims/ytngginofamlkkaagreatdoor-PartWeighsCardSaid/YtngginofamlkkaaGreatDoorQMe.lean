/-
  Put together out of several texts, each in its own namespace's block. Conditions: as each theorem states them.
-/
import Derived.Test.YtngginofamlkkaaGreatDoorQSl
import Derived.Test.YtngginofamlkkaaGreatDoorQVll
import Derived.Test.YtngginofamlkkaaGreatDoorQPrc
import Derived.Test.YtngginofamlkkaaGreatDoorChecked
noncomputable section
namespace Go.Proofs.YtngginofamlkkaaGreatDoor
open Go Go.RowKit
set_option maxRecDepth 100000
set_option maxHeartbeats 8000000
theorem alive_yields : yields Tryz.prog 1000 17 = true := by kernel_rfl
def c_true (args : List Value) (Post : Value → Prop) : Prop := args = [] ∧ Post (.bool true)
theorem ok_alive : EntOk Tryz.prog ⟨17, c_true⟩ := pure_yields mixed alive_yields
def few15 (m : Mats) : Prop := m.grades.length ≤ 40 ∧ m.sects.length ≤ 40 ∧ (∀ g ∈ m.grades, g.gauges.length ≤ 30 ∧ g.name.size ≤ 40) ∧ ∀ s ∈ m.sects, s.name.size ≤ 40
instance (m : Mats) : Decidable (few15 m) := by unfold few15; infer_instance
def c_Few15 (args : List Value) (Post : Value → Prop) : Prop := ∃ m : Mats, args = [matsV m] ∧ Post (.bool (decide (few15 m)))
abbrev lpF15 : List (Nat × List Nat) := [(2, [1, 3]), (7, [1, 4])]
theorem e_few15 (n m : Nat) (A B : Array Value) (H : HT) (Post : PV) : vcP Tryz.prog noCall 45 lpF15 [.agg #[tree 4 n A, tree 4 m B]] H Post = (T4 ((True ∧ True) ∧ H (lpC Tryz.prog 45 2) (lpK Tryz.prog 45 2) (stV [(1, some (pt 0)), (3, some (vi 0))] [(0, some (AObj.cells [tree 4 n A, tree 4 m B] true))] 1))) := by kernel_rfl
theorem l_few15 (n m : Nat) (k : Int) (A B : Array Value) (H : HT) (Post : PV) : vcLP Tryz.prog noCall 45 [.agg #[tree 4 n A, tree 4 m B]] lpF15 2 (stV [(1, some (.pointer (some ⟨0, 0, none⟩))), (3, some (.int .i64 k))] [(0, some (.cells [tree 4 n A, tree 4 m B] true))] 1) H Post = (let q1 := [(0, some (AObj.cells [tree 4 n A, tree 4 m B] true))]; T4 (True ∧ pIf (decide (k < (↑n : Int))) (T2 (True ∧ pIf (decide (k < 41)) (T4 ((0 ≤ k ∧ k < (↑n : Int)) ∧ True ∧ cellAt A (Int.toNat k) 3 = tree 1 (toN (cellAt A (Int.toNat k) 3)) (toE (cellAt A (Int.toNat k) 3)) ∧ T2 (pIf (decide ((↑(toN (cellAt A (Int.toNat k) 3)) : Int) > 30)) (T4 (Post (vb false))) (T4 ((0 ≤ k ∧ k < (↑n : Int)) ∧ True ∧ cellAt A (Int.toNat k) 0 = vs (toS (cellAt A (Int.toNat k) 0)) ∧ T2 (pIf (decide ((↑(ByteArray.size (toS (cellAt A (Int.toNat k) 0))) : Int) > 40)) (T2 (True ∧ Post (vb false))) (T4 (True ∧ (True ∧ True) ∧ H (lpC Tryz.prog 45 2) (lpK Tryz.prog 45 2) (stV [(1, some (pt 0)), (3, some (vi (IntKind.wrap IntKind.i64 (k + 1))))] q1 1))))))))) (T2 (True ∧ (True ∧ True) ∧ H (lpC Tryz.prog 45 7) (lpK Tryz.prog 45 7) (stV [(1, some (pt 0)), (4, some (vi 0))] q1 1))))) (T4 ((True ∧ True) ∧ H (lpC Tryz.prog 45 7) (lpK Tryz.prog 45 7) (stV [(1, some (pt 0)), (4, some (vi 0))] q1 1))))) := by kernel_rfl
theorem m_few15 (n m : Nat) (k : Int) (A B : Array Value) (H : HT) (Post : PV) : vcLP Tryz.prog noCall 45 [.agg #[tree 4 n A, tree 4 m B]] lpF15 7 (stV [(1, some (.pointer (some ⟨0, 0, none⟩))), (4, some (.int .i64 k))] [(0, some (.cells [tree 4 n A, tree 4 m B] true))] 1) H Post = (let q1 := (T4 (True ∧ pIf (decide ((↑m : Int) ≤ 40)) (T2 (True ∧ Post (vb true))) (T2 (True ∧ Post (vb false))))); T4 (True ∧ pIf (decide (k < (↑m : Int))) (T2 (True ∧ pIf (decide (k < 41)) (T4 ((0 ≤ k ∧ k < (↑m : Int)) ∧ True ∧ cellAt B (Int.toNat k) 0 = vs (toS (cellAt B (Int.toNat k) 0)) ∧ T2 (pIf (decide ((↑(ByteArray.size (toS (cellAt B (Int.toNat k) 0))) : Int) > 40)) (T2 (Post (vb false))) (T4 ((True ∧ True) ∧ H (lpC Tryz.prog 45 7) (lpK Tryz.prog 45 7) (stV [(1, some (pt 0)), (4, some (vi (IntKind.wrap IntKind.i64 (k + 1))))] [(0, some (AObj.cells [tree 4 n A, tree 4 m B] true))] 1)))))) (T4 (True ∧ pIf (decide ((↑n : Int) ≤ 40)) q1 (T4 (Post (vb false))))))) (T4 (T2 (pIf (decide ((↑n : Int) ≤ 40)) q1 (T4 (Post (vb false)))))))) := by kernel_rfl
def vcPW : VCall := inlCall Tryz.prog [14] (tabCall [⟨24, c_Few16⟩, ⟨45, c_Few15⟩, ⟨18, c_Mass⟩, ⟨19, c_rMass⟩, ⟨20, c_Centre⟩, ⟨21, c_rCentre⟩, ⟨22, c_Weight⟩, ⟨23, c_rWeight⟩, ⟨17, c_true⟩] noCall) 2
theorem e_PartWeighs (p : Part) (m : Mats) (H : HT) (Post : PV) : vcP Tryz.prog vcPW 4 [] [partV p, matsV m] H Post = (let q4 := True ∧ Post (vb false); let q3 := #[tree 4 (List.length (Mats.grades m)) (encL (Mats.grades m)), tree 4 (List.length (Mats.sects m)) (encL (Mats.sects m))]; let q2 := #[vs p.id, vi p.rev, vi p.kind, vs p.node, vs p.grade, vi p.thick, trPt p.outer, trPts p.holes, vs p.sect, vi p.long, vi p.mass, vi p.centre.x, vi p.centre.y, vi p.centre.z, vi p.at_.x, vi p.at_.y, vi p.at_.z, vi p.turn]; let q1 := [Value.agg q2, Value.agg q3]; T8 (True ∧ ∃ (p_1 : Part), eqL [Value.agg q2] [partV p_1] ∧ pIf (decide (few16 p_1)) (T2 (∃ (m_1 : Mats), eqL [Value.agg q3] [matsV m_1] ∧ pIf (decide (few15 m_1)) (T4 (True ∧ ∃ (p_2 : Part), ∃ (m_2 : Mats), eqL q1 [partV p_2, matsV m_2] ∧ FitQ p_2 ∧ FewM m_2 ∧ T4 (T2 (True ∧ ∃ (p_3 : Part), ∃ (m_3 : Mats), eqL q1 [partV p_3, matsV m_3] ∧ FitR p_3 ∧ FewR m_3 ∧ T4 (T2 (True ∧ ∃ (p_4 : Part), ∃ (m_4 : Mats), eqL q1 [partV p_4, matsV m_4] ∧ FitQ p_4 ∧ FewM m_4 ∧ T4 (3 ≤ 3 ∧ T2 (True ∧ ∃ (p_5 : Part), ∃ (m_5 : Mats), eqL q1 [partV p_5, matsV m_5] ∧ FitR p_5 ∧ FewR m_5 ∧ T4 (3 ≤ 3 ∧ T2 (True ∧ ∃ (p_6 : Part), ∃ (m_6 : Mats), eqL q1 [partV p_6, matsV m_6] ∧ FitQ p_6 ∧ FewM m_6 ∧ T4 (5 ≤ 5 ∧ T2 (True ∧ ∃ (p_7 : Part), ∃ (m_7 : Mats), eqL q1 [partV p_7, matsV m_7] ∧ FitR p_7 ∧ FewR m_7 ∧ T4 (5 ≤ 5 ∧ T4 (pIf (decide (massP p_2 m_2 = massP p_3 m_3)) (T4 (pIf (decide (checkP p_2 m_2 = checkP p_3 m_3)) (T4 (True ∧ pIf (decide (Vec3.x (centreP p_4 m_4) = Vec3.x (centreP p_5 m_5)) && (decide (Vec3.y (centreP p_4 m_4) = Vec3.y (centreP p_5 m_5)) && (decide (Vec3.z (centreP p_4 m_4) = Vec3.z (centreP p_5 m_5)) && true))) (T4 (True ∧ pIf (decide (checkP p_4 m_4 = checkP p_5 m_5)) (T4 (True ∧ pIf (decide (Wt.m (weightP p_6 m_6) = Wt.m (weightP p_7 m_7)) && (decide (Wt.x (weightP p_6 m_6) = Wt.x (weightP p_7 m_7)) && (decide (Wt.y (weightP p_6 m_6) = Wt.y (weightP p_7 m_7)) && (decide (Wt.z (weightP p_6 m_6) = Wt.z (weightP p_7 m_7)) && (decide (Wt.v (weightP p_6 m_6) = Wt.v (weightP p_7 m_7)) && true))))) (T4 (True ∧ pIf (decide (checkP p_6 m_6 = checkP p_7 m_7)) (T2 (eqL [] [] ∧ T2 (True ∧ Post (vb true)))) (T4 q4))) (T4 (T2 q4)))) (T8 q4))) (T8 (T2 q4)))) (T8 (T4 q4)))) (T8 (T4 (T2 (Post (vb false))))))))))))))))))) (T2 (True ∧ eqL [] [] ∧ T2 (Post (vb true)))))) (T4 (eqL [] [] ∧ T2 (Post (vb true)))))) := by kernel_rfl
theorem ok_Few15 : EntOk Tryz.prog ⟨45, c_Few15⟩ := by
 rintro args Post ⟨m, rfl, h⟩
 have yes : few15 m → Post (.bool true) := fun hp => of_b h (decide_eq_true hp)
 have no : ¬ few15 m → Post (.bool false) := fun hp => of_b h (decide_eq_false hp)
 refine pure_P noCall_ok mixed (by kernel_rfl) (by kernel_rfl) _ (e_few15 m.grades.length m.sects.length (encL m.grades) (encL m.sects) _ _) ?_
 simp only [true_and]
 -- the sections
 have second : (m.grades.length ≤ 40 → ∀ g ∈ m.grades, g.gauges.length ≤ 30 ∧ g.name.size ≤ 40) → OkP 45 [matsV m] 7 Post (stV [(1, some (.pointer (some ⟨0, 0, none⟩))), (4, some (.int .i64 0))] [(0, some (.cells [tree 4 m.grades.length (encL m.grades), tree 4 m.sects.length (encL m.sects)] true))] 1) := fun hg => by
  have fin : (m.sects.length ≤ 40 → ∀ s ∈ m.sects, s.name.size ≤ 40) → pIf (decide (((m.grades.length : Nat) : Int) ≤ 40)) (pIf (decide (((m.sects.length : Nat) : Int) ≤ 40)) (Post (.bool true)) (Post (.bool false))) (Post (.bool false)) := fun hs => ifD (fun h1 => ifD (fun h2 => yes ⟨by omega, by omega, hg (by omega), hs (by omega)⟩) (fun h2 => no fun hf => h2 (by have := hf.2.1; omega))) (fun h1 => no fun hf => h1 (by have := hf.1; omega))
  refine down (n := min m.sects.length 41) (p := fun k => (∀ i (hi : i < m.sects.length), i < k → m.sects[i].name.size ≤ 40) → OkP 45 [matsV m] 7 Post (stV [(1, some (.pointer (some ⟨0, 0, none⟩))), (4, some (.int .i64 k))] [(0, some (.cells [tree 4 m.grades.length (encL m.grades), tree 4 m.sects.length (encL m.sects)] true))] 1)) (fun hall => ?_) (fun k k1 ih hall => ?_) (fun i _ hi => by omega)
  ·refine ok_P noCall_ok mixed _ (m_few15 m.grades.length m.sects.length ((min m.sects.length 41 : Nat) : Int) (encL m.grades) (encL m.sects) _ _) ?_
   simp only [true_and]
   have hs : m.sects.length ≤ 40 → ∀ s ∈ m.sects, s.name.size ≤ 40 := fun hl s hm => by
    obtain ⟨i, hi, rfl⟩ := List.mem_iff_getElem.1 hm
    exact hall i hi (by omega)
   exact ifD (fun h1 => ifD (fun h2 => by omega) (fun _ => fin hs)) (fun _ => fin hs)
  ·have kl : k < m.sects.length := by omega
   refine ok_P noCall_ok mixed _ (m_few15 m.grades.length m.sects.length k (encL m.grades) (encL m.sects) _ _) ?_
   have hk : ((k : Nat) : Int).toNat = k := Int.toNat_natCast k
   obtain ⟨c0, c1, c2, c3⟩ := cell_sect kl
   simp only [true_and, hk, c0, toS_string, wrapSucc (show k < 2 ^ 62 by omega)]
   refine ifD (fun _ => ifD (fun _ => ⟨⟨by omega, by omega⟩, ifD (fun hb => no fun hf => ?_) (fun hb => ih fun i hi hik => ?_)⟩) (fun h' => by omega)) (fun h' => by omega)
   ·have := hf.2.2.2 _ (List.getElem_mem kl)
    omega
   ·rcases Nat.lt_or_ge i k with h' | h'
    ·exact hall i hi h'
    ·have : i = k := by omega
     subst this
     omega
 refine down (n := min m.grades.length 41) (p := fun k => (∀ i (hi : i < m.grades.length), i < k → m.grades[i].gauges.length ≤ 30 ∧ m.grades[i].name.size ≤ 40) → OkP 45 [matsV m] 2 Post (stV [(1, some (.pointer (some ⟨0, 0, none⟩))), (3, some (.int .i64 k))] [(0, some (.cells [tree 4 m.grades.length (encL m.grades), tree 4 m.sects.length (encL m.sects)] true))] 1)) (fun hall => ?_) (fun k k1 ih hall => ?_) (fun i _ hi => by omega)
 ·refine ok_P noCall_ok mixed _ (l_few15 m.grades.length m.sects.length ((min m.grades.length 41 : Nat) : Int) (encL m.grades) (encL m.sects) _ _) ?_
  simp only [true_and]
  have hg : m.grades.length ≤ 40 → ∀ g ∈ m.grades, g.gauges.length ≤ 30 ∧ g.name.size ≤ 40 := fun hl s hm => by
   obtain ⟨i, hi, rfl⟩ := List.mem_iff_getElem.1 hm
   exact hall i hi (by omega)
  exact ifD (fun h1 => ifD (fun h2 => by omega) (fun _ => second hg)) (fun _ => second hg)
 ·have kl : k < m.grades.length := by omega
  refine ok_P noCall_ok mixed _ (l_few15 m.grades.length m.sects.length k (encL m.grades) (encL m.sects) _ _) ?_
  have hk : ((k : Nat) : Int).toNat = k := Int.toNat_natCast k
  obtain ⟨c0, c1, c2, c3⟩ := cell_grade kl
  simp only [true_and, hk, c0, c3, toS_string, toN_tree, toE_tree, wrapSucc (show k < 2 ^ 62 by omega)]
  refine ifD (fun _ => ifD (fun _ => ⟨⟨by omega, by omega⟩, ifD (fun ha => no fun hf => ?_) (fun ha => ⟨⟨by omega, by omega⟩, ifD (fun hb => no fun hf => ?_) (fun hb => ih fun i hi hik => ?_)⟩)⟩) (fun h' => by omega)) (fun h' => by omega)
  ·have := (hf.2.2.1 _ (List.getElem_mem kl)).1
   omega
  ·have := (hf.2.2.1 _ (List.getElem_mem kl)).2
   omega
  ·rcases Nat.lt_or_ge i k with h' | h'
   ·exact hall i hi h'
   ·have : i = k := by omega
    subst this
    omega
theorem few_fitr {p : Part} (h : few16 p) : FitR p := by
 obtain ⟨h1, h2, _, _, h5, h6, h7⟩ := h
 exact ⟨⟨by show p.outer.length < 2 ^ 62; omega, by show p.holes.length < 2 ^ 62; omega, fun x hx => by have := h7 x hx; show x.length < 2 ^ 62; omega, by omega⟩, by omega, by omega⟩
theorem few_fitq {p : Part} (h : few16 p) : FitQ p := (few_fitr h).toFitQ
theorem few_matr {m : Mats} (h : few15 m) : FewR m := by
 obtain ⟨h1, h2, h3, _⟩ := h
 exact ⟨⟨by show m.grades.length < 2 ^ 62; omega, by show m.sects.length < 2 ^ 62; omega, fun g hg => by have := (h3 g hg).1; omega⟩, fun g hg => by have := (h3 g hg).1; omega⟩
theorem few_mats {m : Mats} (h : few15 m) : FewM m := (few_matr h).toFewM
theorem vcPW_ok : VCallOk Tryz.prog vcPW := inlCall_ok mixed (tabCall_ok (by
 intro e he
 simp only [List.mem_cons, List.not_mem_nil, or_false] at he
 rcases he with rfl | rfl | rfl | rfl | rfl | rfl | rfl | rfl | rfl
 ·exact ok_Few16
 ·exact ok_Few15
 ·exact ok_Mass
 ·exact ok_r16mass
 ·exact ok_Centre
 ·exact ok_r16centre
 ·exact ok_Weight
 ·exact ok_r16weight
 ·exact ok_alive) noCall_ok) 2
theorem partWeighs_pure (p : Part) (m : Mats) : Pure Tryz.prog 4 [partV p, matsV m] fun v => v = .bool true := by
 refine pure_P vcPW_ok mixed (by kernel_rfl) (by kernel_rfl) _ (e_PartWeighs p m _ _) ?_
 have tt : True := trivial
 simp only [true_and, Nat.le_refl]
 refine ⟨p, rfl, ifD (fun h1 => ⟨m, rfl, ifD (fun h2 => ?_) (fun _ => tt)⟩) (fun _ => tt)⟩
 have q := few_fitq h1
 have f := few_mats h2
 have qr := few_fitr h1
 have fr := few_matr h2
 refine ⟨p, m, rfl, q, f, p, m, rfl, qr, fr, p, m, rfl, q, f, p, m, rfl, qr, fr, p, m, rfl, q, f, p, m, rfl, qr, fr, ?_⟩
 refine ifD (fun _ => ifD (fun _ => pIf_intro (fun _ => ifD (fun _ => pIf_intro (fun _ => ifD (fun _ => tt) (fun hn => absurd rfl hn)) (fun hn => ?_)) (fun hn => absurd rfl hn)) (fun hn => ?_)) (fun hn => absurd rfl hn)) (fun hn => absurd rfl hn)
 ·simp at hn
 ·simp at hn
end Go.Proofs.YtngginofamlkkaaGreatDoor
namespace Go.Proofs.YtngginofamlkkaaGreatDoor
open Go Go.RowKit Go.ChangeShapes Go.WideShapes Go.ChangeAt Go.Deep Go.Joins
theorem Tryz.own : ownKnob Tryz.prog.godebug = none := by kernel_rfl
theorem Tryz.laidOut : laidOutB Tryz.prog = true := by kernel_rfl
theorem trodAll_stays {H : Type} {enc : TypeId × Value → H} {P : Program} {W W' : World} {sp' : Nat → Bool} (hl : laidOutB P = true) : ∀ {ts : List TypeId} {vs : List Value} {ds : List (DataW H)} {ps : List MemPlace},
  (ts.all fun t => P.readableRec t && decide (t < P.types.size)) = true → DataW.TrodAll enc P W 0 (fun _ => true) true ts vs ds ps → (∀ p ∈ ps, W.sameAt W' p) → (∀ p ∈ ps, sp' p.block = true) →
  DataW.TrodAll enc P W' 0 sp' true ts vs ds ps := by
 intro ts
 induction ts with
 | nil =>
  intro vs ds ps _ h _ _
  obtain ⟨rfl, rfl, rfl⟩ := trodAll_nil h
  exact trodAll_mk0
 | cons t ts ih =>
  intro vs ds ps hr h hs hp
  obtain ⟨v, vs', d, ds', p, q, rfl, rfl, rfl, hd, hrest⟩ := trodAll_cons h
  simp only [List.all_cons, Bool.and_eq_true, decide_eq_true_eq] at hr
  exact trodAll_cons_mk (WideElems.Trod_stays hl hr.1.1 hr.1.2 hd (fun x hx => hs x (by simp [hx])) (fun x hx => hp x (by simp [hx])))
   (ih hr.2 hrest (fun x hx => hs x (by simp [hx])) (fun x hx => hp x (by simp [hx])))
end Go.Proofs.YtngginofamlkkaaGreatDoor

