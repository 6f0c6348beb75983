/-
  Put together out of several texts, each in its own namespace's block. Conditions: as each theorem states them.
-/
import Derived.Test.YtngginofamlkkaaGreatDoorQPrc
import Derived.Test.YtngginofamlkkaaGreatDoorQPvb
import Derived.Test.YtngginofamlkkaaGreatDoorQSh
import Derived.Test.YtngginofamlkkaaGreatDoorChecked
noncomputable section
namespace Go.Proofs.YtngginofamlkkaaGreatDoor
open Go Go.RowKit
set_option maxRecDepth 100000
set_option maxHeartbeats 8000000
structure FitR (p : Part) : Prop extends FitQ p where
 id : p.id.size < 16777000
 node : p.node.size < 16777000
theorem form_one {k : Int} : formP k = 1 ↔ k = 1 := by
 unfold formP
 repeat' split
 all_goals omega
theorem alive_yields : yields Tryz.prog 1000 17 = true := by kernel_rfl
def c_true (args : List Value) (Post : Value → Prop) : Prop := args = [] ∧ Post (.bool true)
theorem ok_alive : EntOk Tryz.prog ⟨17, c_true⟩ := pure_yields mixed alive_yields
def few15 (m : Mats) : Prop := m.grades.length ≤ 40 ∧ m.sects.length ≤ 40 ∧ (∀ g ∈ m.grades, g.gauges.length ≤ 30 ∧ g.name.size ≤ 40) ∧ ∀ s ∈ m.sects, s.name.size ≤ 40
instance (m : Mats) : Decidable (few15 m) := by unfold few15; infer_instance
def c_Few15 (args : List Value) (Post : Value → Prop) : Prop := ∃ m : Mats, args = [matsV m] ∧ Post (.bool (decide (few15 m)))
abbrev lpF15 : List (Nat × List Nat) := [(2, [1, 3]), (7, [1, 4])]
theorem e_few15 (n m : Nat) (A B : Array Value) (H : HT) (Post : PV) : vcP Tryz.prog noCall 45 lpF15 [.agg #[tree 4 n A, tree 4 m B]] H Post = (T4 ((True ∧ True) ∧ H (lpC Tryz.prog 45 2) (lpK Tryz.prog 45 2) (stV [(1, some (pt 0)), (3, some (vi 0))] [(0, some (AObj.cells [tree 4 n A, tree 4 m B] true))] 1))) := by kernel_rfl
theorem l_few15 (n m : Nat) (k : Int) (A B : Array Value) (H : HT) (Post : PV) : vcLP Tryz.prog noCall 45 [.agg #[tree 4 n A, tree 4 m B]] lpF15 2 (stV [(1, some (.pointer (some ⟨0, 0, none⟩))), (3, some (.int .i64 k))] [(0, some (.cells [tree 4 n A, tree 4 m B] true))] 1) H Post = (let q1 := [(0, some (AObj.cells [tree 4 n A, tree 4 m B] true))]; T4 (True ∧ pIf (decide (k < (↑n : Int))) (T2 (True ∧ pIf (decide (k < 41)) (T4 ((0 ≤ k ∧ k < (↑n : Int)) ∧ True ∧ cellAt A (Int.toNat k) 3 = tree 1 (toN (cellAt A (Int.toNat k) 3)) (toE (cellAt A (Int.toNat k) 3)) ∧ T2 (pIf (decide ((↑(toN (cellAt A (Int.toNat k) 3)) : Int) > 30)) (T4 (Post (vb false))) (T4 ((0 ≤ k ∧ k < (↑n : Int)) ∧ True ∧ cellAt A (Int.toNat k) 0 = vs (toS (cellAt A (Int.toNat k) 0)) ∧ T2 (pIf (decide ((↑(ByteArray.size (toS (cellAt A (Int.toNat k) 0))) : Int) > 40)) (T2 (True ∧ Post (vb false))) (T4 (True ∧ (True ∧ True) ∧ H (lpC Tryz.prog 45 2) (lpK Tryz.prog 45 2) (stV [(1, some (pt 0)), (3, some (vi (IntKind.wrap IntKind.i64 (k + 1))))] q1 1))))))))) (T2 (True ∧ (True ∧ True) ∧ H (lpC Tryz.prog 45 7) (lpK Tryz.prog 45 7) (stV [(1, some (pt 0)), (4, some (vi 0))] q1 1))))) (T4 ((True ∧ True) ∧ H (lpC Tryz.prog 45 7) (lpK Tryz.prog 45 7) (stV [(1, some (pt 0)), (4, some (vi 0))] q1 1))))) := by kernel_rfl
theorem m_few15 (n m : Nat) (k : Int) (A B : Array Value) (H : HT) (Post : PV) : vcLP Tryz.prog noCall 45 [.agg #[tree 4 n A, tree 4 m B]] lpF15 7 (stV [(1, some (.pointer (some ⟨0, 0, none⟩))), (4, some (.int .i64 k))] [(0, some (.cells [tree 4 n A, tree 4 m B] true))] 1) H Post = (let q1 := (T4 (True ∧ pIf (decide ((↑m : Int) ≤ 40)) (T2 (True ∧ Post (vb true))) (T2 (True ∧ Post (vb false))))); T4 (True ∧ pIf (decide (k < (↑m : Int))) (T2 (True ∧ pIf (decide (k < 41)) (T4 ((0 ≤ k ∧ k < (↑m : Int)) ∧ True ∧ cellAt B (Int.toNat k) 0 = vs (toS (cellAt B (Int.toNat k) 0)) ∧ T2 (pIf (decide ((↑(ByteArray.size (toS (cellAt B (Int.toNat k) 0))) : Int) > 40)) (T2 (Post (vb false))) (T4 ((True ∧ True) ∧ H (lpC Tryz.prog 45 7) (lpK Tryz.prog 45 7) (stV [(1, some (pt 0)), (4, some (vi (IntKind.wrap IntKind.i64 (k + 1))))] [(0, some (AObj.cells [tree 4 n A, tree 4 m B] true))] 1)))))) (T4 (True ∧ pIf (decide ((↑n : Int) ≤ 40)) q1 (T4 (Post (vb false))))))) (T4 (T2 (pIf (decide ((↑n : Int) ≤ 40)) q1 (T4 (Post (vb false)))))))) := by kernel_rfl
theorem ok_Few15 : EntOk Tryz.prog ⟨45, c_Few15⟩ := by
 rintro args Post ⟨m, rfl, h⟩
 have yes : few15 m → Post (.bool true) := fun hp => of_b h (decide_eq_true hp)
 have no : ¬ few15 m → Post (.bool false) := fun hp => of_b h (decide_eq_false hp)
 refine pure_P noCall_ok mixed (by kernel_rfl) (by kernel_rfl) _ (e_few15 m.grades.length m.sects.length (encL m.grades) (encL m.sects) _ _) ?_
 simp only [true_and]
 -- the sections
 have second : (m.grades.length ≤ 40 → ∀ g ∈ m.grades, g.gauges.length ≤ 30 ∧ g.name.size ≤ 40) → OkP 45 [matsV m] 7 Post (stV [(1, some (.pointer (some ⟨0, 0, none⟩))), (4, some (.int .i64 0))] [(0, some (.cells [tree 4 m.grades.length (encL m.grades), tree 4 m.sects.length (encL m.sects)] true))] 1) := fun hg => by
  have fin : (m.sects.length ≤ 40 → ∀ s ∈ m.sects, s.name.size ≤ 40) → pIf (decide (((m.grades.length : Nat) : Int) ≤ 40)) (pIf (decide (((m.sects.length : Nat) : Int) ≤ 40)) (Post (.bool true)) (Post (.bool false))) (Post (.bool false)) := fun hs => ifD (fun h1 => ifD (fun h2 => yes ⟨by omega, by omega, hg (by omega), hs (by omega)⟩) (fun h2 => no fun hf => h2 (by have := hf.2.1; omega))) (fun h1 => no fun hf => h1 (by have := hf.1; omega))
  refine down (n := min m.sects.length 41) (p := fun k => (∀ i (hi : i < m.sects.length), i < k → m.sects[i].name.size ≤ 40) → OkP 45 [matsV m] 7 Post (stV [(1, some (.pointer (some ⟨0, 0, none⟩))), (4, some (.int .i64 k))] [(0, some (.cells [tree 4 m.grades.length (encL m.grades), tree 4 m.sects.length (encL m.sects)] true))] 1)) (fun hall => ?_) (fun k k1 ih hall => ?_) (fun i _ hi => by omega)
  ·refine ok_P noCall_ok mixed _ (m_few15 m.grades.length m.sects.length ((min m.sects.length 41 : Nat) : Int) (encL m.grades) (encL m.sects) _ _) ?_
   simp only [true_and]
   have hs : m.sects.length ≤ 40 → ∀ s ∈ m.sects, s.name.size ≤ 40 := fun hl s hm => by
    obtain ⟨i, hi, rfl⟩ := List.mem_iff_getElem.1 hm
    exact hall i hi (by omega)
   exact ifD (fun h1 => ifD (fun h2 => by omega) (fun _ => fin hs)) (fun _ => fin hs)
  ·have kl : k < m.sects.length := by omega
   refine ok_P noCall_ok mixed _ (m_few15 m.grades.length m.sects.length k (encL m.grades) (encL m.sects) _ _) ?_
   have hk : ((k : Nat) : Int).toNat = k := Int.toNat_natCast k
   obtain ⟨c0, c1, c2, c3⟩ := cell_sect kl
   simp only [true_and, hk, c0, toS_string, wrapSucc (show k < 2 ^ 62 by omega)]
   refine ifD (fun _ => ifD (fun _ => ⟨⟨by omega, by omega⟩, ifD (fun hb => no fun hf => ?_) (fun hb => ih fun i hi hik => ?_)⟩) (fun h' => by omega)) (fun h' => by omega)
   ·have := hf.2.2.2 _ (List.getElem_mem kl)
    omega
   ·rcases Nat.lt_or_ge i k with h' | h'
    ·exact hall i hi h'
    ·have : i = k := by omega
     subst this
     omega
 refine down (n := min m.grades.length 41) (p := fun k => (∀ i (hi : i < m.grades.length), i < k → m.grades[i].gauges.length ≤ 30 ∧ m.grades[i].name.size ≤ 40) → OkP 45 [matsV m] 2 Post (stV [(1, some (.pointer (some ⟨0, 0, none⟩))), (3, some (.int .i64 k))] [(0, some (.cells [tree 4 m.grades.length (encL m.grades), tree 4 m.sects.length (encL m.sects)] true))] 1)) (fun hall => ?_) (fun k k1 ih hall => ?_) (fun i _ hi => by omega)
 ·refine ok_P noCall_ok mixed _ (l_few15 m.grades.length m.sects.length ((min m.grades.length 41 : Nat) : Int) (encL m.grades) (encL m.sects) _ _) ?_
  simp only [true_and]
  have hg : m.grades.length ≤ 40 → ∀ g ∈ m.grades, g.gauges.length ≤ 30 ∧ g.name.size ≤ 40 := fun hl s hm => by
   obtain ⟨i, hi, rfl⟩ := List.mem_iff_getElem.1 hm
   exact hall i hi (by omega)
  exact ifD (fun h1 => ifD (fun h2 => by omega) (fun _ => second hg)) (fun _ => second hg)
 ·have kl : k < m.grades.length := by omega
  refine ok_P noCall_ok mixed _ (l_few15 m.grades.length m.sects.length k (encL m.grades) (encL m.sects) _ _) ?_
  have hk : ((k : Nat) : Int).toNat = k := Int.toNat_natCast k
  obtain ⟨c0, c1, c2, c3⟩ := cell_grade kl
  simp only [true_and, hk, c0, c3, toS_string, toN_tree, toE_tree, wrapSucc (show k < 2 ^ 62 by omega)]
  refine ifD (fun _ => ifD (fun _ => ⟨⟨by omega, by omega⟩, ifD (fun ha => no fun hf => ?_) (fun ha => ⟨⟨by omega, by omega⟩, ifD (fun hb => no fun hf => ?_) (fun hb => ih fun i hi hik => ?_)⟩)⟩) (fun h' => by omega)) (fun h' => by omega)
  ·have := (hf.2.2.1 _ (List.getElem_mem kl)).1
   omega
  ·have := (hf.2.2.1 _ (List.getElem_mem kl)).2
   omega
  ·rcases Nat.lt_or_ge i k with h' | h'
   ·exact hall i hi h'
   ·have : i = k := by omega
    subst this
    omega
theorem few_fitr {p : Part} (h : few16 p) : FitR p := by
 obtain ⟨h1, h2, _, _, h5, h6, h7⟩ := h
 exact ⟨⟨by show p.outer.length < 2 ^ 62; omega, by show p.holes.length < 2 ^ 62; omega, fun x hx => by have := h7 x hx; show x.length < 2 ^ 62; omega, by omega⟩, by omega, by omega⟩
theorem few_fitq {p : Part} (h : few16 p) : FitQ p := (few_fitr h).toFitQ
theorem few_matr {m : Mats} (h : few15 m) : FewR m := by
 obtain ⟨h1, h2, h3, _⟩ := h
 exact ⟨⟨by show m.grades.length < 2 ^ 62; omega, by show m.sects.length < 2 ^ 62; omega, fun g hg => by have := (h3 g hg).1; omega⟩, fun g hg => by have := (h3 g hg).1; omega⟩
theorem few_mats {m : Mats} (h : few15 m) : FewM m := (few_matr h).toFewM
theorem round_bd {a b L U : Int} (hb : 0 < b) (h1 : L * b ≤ a) (h2 : a ≤ U * b) : L ≤ roundP a b ∧ roundP a b ≤ U := by
 unfold roundP
 obtain ⟨f1, f2⟩ := fdiv_char (a := 2 * a + b) (b := 2 * b) (by omega)
 generalize (2 * a + b).fdiv (2 * b) = f at *
 have e1 : 2 * b * f = 2 * (f * b) := by rw [Int.mul_assoc, Int.mul_comm b f]
 rw [e1] at f1 f2
 constructor
 ·refine Decidable.by_contra fun hn => ?_
  have := Int.mul_le_mul_of_nonneg_right (show f + 1 ≤ L by omega) (Int.le_of_lt hb)
  rw [Int.add_mul, Int.one_mul] at this
  omega
 ·refine Decidable.by_contra fun hn => ?_
  have := Int.mul_le_mul_of_nonneg_right (show U + 1 ≤ f by omega) (Int.le_of_lt hb)
  rw [Int.add_mul, Int.one_mul] at this
  omega
theorem shape_centre {o : List Pt} {hs : List (List Pt)} (h : ShapeOk o hs) {L U : Int} (hb : ∀ c ∈ o, L ≤ c.x ∧ c.x ≤ U) : (L ≤ roundP (rMomX o hs) (3 * rArea o hs) ∧ roundP (rMomX o hs) (3 * rArea o hs) ≤ U) ∧ (-32769 ≤ roundP (rMomY o hs) (3 * rArea o hs) ∧ roundP (rMomY o hs) (3 * rArea o hs) ≤ 32769) := by
 have ha := h.area
 have hx := h.centre hb
 have hy := h.centreY
 rw [h.rArea, h.rMomX, h.rMomY]
 generalize areaP o + (hs.map areaP).sum = A at *
 generalize sumTo (momX o) o.length + (hs.map fun l => sumTo (momX l) l.length).sum = X at *
 generalize sumTo (momY o) o.length + (hs.map fun l => sumTo (momY l) l.length).sum = Y at *
 have e1 : L * (3 * A) = 3 * L * A := by rw [Int.mul_comm 3 L, Int.mul_assoc]
 have e2 : U * (3 * A) = 3 * U * A := by rw [Int.mul_comm 3 U, Int.mul_assoc]
 exact ⟨round_bd (by omega) (by omega) (by omega), round_bd (by omega) (by omega) (by omega)⟩
def vcPH : VCall := inlCall Tryz.prog [14] (tabCallF Tryz.prog [⟨24, c_Few16⟩, ⟨45, c_Few15⟩, ⟨15, c_pcheck⟩, ⟨18, c_Mass⟩, ⟨20, c_Centre⟩, ⟨17, c_true⟩] noCall) 2
abbrev withHs (p : Part) (v : Value) : List Value := [.string p.id, .int .i64 p.rev, .int .i64 p.kind, .string p.node, .string p.grade, .int .i64 p.thick, trPt p.outer, v, .string p.sect, .int .i64 p.long, .int .i64 p.mass, .int .i64 p.centre.x, .int .i64 p.centre.y, .int .i64 p.centre.z, .int .i64 p.at_.x, .int .i64 p.at_.y, .int .i64 p.at_.z, .int .i64 p.turn]
abbrev lpPH : List (Nat × List Nat) := [(6, [2, 3, 4, 7, 8]), (17, [7, 9, 10, 11, 12, 13, 14, 15, 16, 17])]
theorem e_PartHoles (p : Part) (m : Mats) (k : Int) (H : HT) (Post : PV) : vcP Tryz.prog vcPH 8 lpPH [partV p, matsV m, .int .i64 k] H Post = (let q3 := eqL [] [] ∧ T2 (Post (vb true)); let q2 := #[tree 4 (List.length (Mats.grades m)) (encL (Mats.grades m)), tree 4 (List.length (Mats.sects m)) (encL (Mats.sects m))]; let q1 := #[vs p.id, vi p.rev, vi p.kind, vs p.node, vs p.grade, vi p.thick, trPt p.outer, trPts p.holes, vs p.sect, vi p.long, vi p.mass, vi p.centre.x, vi p.centre.y, vi p.centre.z, vi p.at_.x, vi p.at_.y, vi p.at_.z, vi p.turn]; T8 (True ∧ ((T16 (T2 (True))) ∧ True) ∧ ∃ (p_1 : Part), eqL [Value.agg q1] [partV p_1] ∧ pIf (decide (few16 p_1)) (T2 (((T2 (True)) ∧ True) ∧ ∃ (m_1 : Mats), eqL [Value.agg q2] [matsV m_1] ∧ pIf (decide (few15 m_1)) (T4 (T2 (True ∧ pIf (!decide (p.kind = 1)) (T8 q3) (T4 (((T16 (T2 (True))) ∧ (T2 (True)) ∧ True) ∧ ∃ (p_2 : Part), ∃ (m_2 : Mats), eqL [Value.agg q1, Value.agg q2] [partV p_2, matsV m_2] ∧ FitQ p_2 ∧ FewM m_2 ∧ True ∧ pIf (!decide (checkP p_2 m_2 = 0)) (T4 (T2 q3)) (T4 (pIf (decide (k < 0)) (T4 q3) (T8 (pIf (decide (k ≥ (↑p.holes.length : Int))) (T2 q3) (T2 (True ∧ 18 ≤ 18 ∧ T2 (8 ≤ 18 ∧ T2 ((T2 (True ∧ True)) ∧ H (lpC Tryz.prog 8 6) (lpK Tryz.prog 8 6) (stV [(2, some (vi k)), (3, some (pt 0)), (4, some (pt 1)), (7, some (pt 2)), (8, some (vi 0))] [(0, some (AObj.cells [vs p.id, vi p.rev, vi p.kind, vs p.node, vs p.grade, vi p.thick, tree 2 p.outer.length (encL p.outer), tree 1 p.holes.length (encL p.holes), vs p.sect, vi p.long, vi p.mass, vi p.centre.x, vi p.centre.y, vi p.centre.z, vi p.at_.x, vi p.at_.y, vi p.at_.z, vi p.turn] true)), (1, some (AObj.cells [tree 4 (List.length (Mats.grades m)) (encL (Mats.grades m)), tree 4 (List.length (Mats.sects m)) (encL (Mats.sects m))] true)), (2, some (AObj.cells [vs p.id, vi p.rev, vi p.kind, vs p.node, vs p.grade, vi p.thick, tree 2 p.outer.length (encL p.outer), nS, vs p.sect, vi p.long, vi p.mass, vi p.centre.x, vi p.centre.y, vi p.centre.z, vi p.at_.x, vi p.at_.y, vi p.at_.z, vi p.turn] true))] 3)))))))))))))) (T8 (T4 q3)))) (T8 (T4 (True ∧ eqL [] [] ∧ T2 (Post (vb true))))))) := by kernel_rfl
theorem l_PartHoles0 (p : Part) (m : Mats) (k i : Int) (H : HT) (Post : PV) : vcLP Tryz.prog vcPH 8 [partV p, matsV m, .int .i64 k] lpPH 6 (stV [(2, some (.int .i64 k)), (3, some (.pointer (some ⟨0, 0, none⟩))), (4, some (.pointer (some ⟨1, 0, none⟩))), (7, some (.pointer (some ⟨2, 0, none⟩))), (8, some (.int .i64 i))] [(0, some (.cells (withHs p (trPts p.holes)) true)), (1, some (.cells (matsC m) true)), (2, some (.cells (withHs p (.slice none 0 0)) true))] 3) H Post = (let q8 := toI (cellAt (encL p.outer) 0 0); let q7 := #[tree 4 (List.length (Mats.grades m)) (encL (Mats.grades m)), tree 4 (List.length (Mats.sects m)) (encL (Mats.sects m))]; let q6 := [(2, some (vi k)), (3, some (pt 0)), (4, some (pt 1)), (7, some (pt 2)), (8, some (vi (IntKind.wrap IntKind.i64 (i + 1))))]; let q5 := (1, some (AObj.cells [tree 4 (List.length (Mats.grades m)) (encL (Mats.grades m)), tree 4 (List.length (Mats.sects m)) (encL (Mats.sects m))] true)); let q4 := cellAt (encL p.holes) (Int.toNat i) 0; let q3 := AObj.cells [vs p.id, vi p.rev, vi p.kind, vs p.node, vs p.grade, vi p.thick, tree 2 p.outer.length (encL p.outer), nS, vs p.sect, vi p.long, vi p.mass, vi p.centre.x, vi p.centre.y, vi p.centre.z, vi p.at_.x, vi p.at_.y, vi p.at_.z, vi p.turn] true; let q2 := (0, some (AObj.cells [vs p.id, vi p.rev, vi p.kind, vs p.node, vs p.grade, vi p.thick, tree 2 p.outer.length (encL p.outer), tree 1 p.holes.length (encL p.holes), vs p.sect, vi p.long, vi p.mass, vi p.centre.x, vi p.centre.y, vi p.centre.z, vi p.at_.x, vi p.at_.y, vi p.at_.z, vi p.turn] true)); let q1 := [Value.agg #[vs p.id, vi p.rev, vi p.kind, vs p.node, vs p.grade, vi p.thick, trPt p.outer, tree 1 0 #[], vs p.sect, vi p.long, vi p.mass, vi p.centre.x, vi p.centre.y, vi p.centre.z, vi p.at_.x, vi p.at_.y, vi p.at_.z, vi p.turn], Value.agg q7]; T4 (T2 (pIf (decide (i < (↑p.holes.length : Int))) (T2 (True ∧ pIf (!decide (i = k)) (T4 (T2 (True ∧ (0 ≤ i ∧ i < (↑p.holes.length : Int)) ∧ cellAt (encL p.holes) (Int.toNat i) 0 = tree 2 (toN q4) (toE q4) ∧ True ∧ 1 ≤ 1 ∧ 1 ≤ 33554432 ∧ true = true ∧ 1 = 1 ∧ T2 (True ∧ 8 ≤ 18 ∧ T4 (True ∧ (T2 (True ∧ NLs [tree 2 (toN q4) (toE q4)] ∧ True)) ∧ H (lpC Tryz.prog 8 6) (lpK Tryz.prog 8 6) (stV q6 [q2, q5, (2, some (AObj.cells [vs p.id, vi p.rev, vi p.kind, vs p.node, vs p.grade, vi p.thick, tree 2 p.outer.length (encL p.outer), Value.slice (some (Addr.mk 3 0 none)) 1 1, vs p.sect, vi p.long, vi p.mass, vi p.centre.x, vi p.centre.y, vi p.centre.z, vi p.at_.x, vi p.at_.y, vi p.at_.z, vi p.turn] true)), (3, some (AObj.cells [tree 2 (toN q4) (toE q4)] true))] 4)))))) (T4 ((T2 (True ∧ True)) ∧ H (lpC Tryz.prog 8 6) (lpK Tryz.prog 8 6) (stV q6 [q2, q5, (2, some q3)] 3))))) (T2 (((T16 (T2 (True))) ∧ (T2 (True)) ∧ True) ∧ ∃ (p_1 : Part), ∃ (m_1 : Mats), eqL [Value.agg #[vs p.id, vi p.rev, vi p.kind, vs p.node, vs p.grade, vi p.thick, trPt p.outer, trPts p.holes, vs p.sect, vi p.long, vi p.mass, vi p.centre.x, vi p.centre.y, vi p.centre.z, vi p.at_.x, vi p.at_.y, vi p.at_.z, vi p.turn], Value.agg q7] [partV p_1, matsV m_1] ∧ FitQ p_1 ∧ FewM m_1 ∧ T4 (T2 (True ∧ ((T16 (T2 (True))) ∧ (T2 (True)) ∧ True) ∧ ∃ (p_2 : Part), ∃ (m_2 : Mats), eqL q1 [partV p_2, matsV m_2] ∧ FitQ p_2 ∧ FewM m_2 ∧ T4 (T2 (True ∧ ((T16 (T2 (True))) ∧ (T2 (True)) ∧ True) ∧ ∃ (p_3 : Part), ∃ (m_3 : Mats), eqL q1 [partV p_3, matsV m_3] ∧ FitQ p_3 ∧ FewM m_3 ∧ T4 (3 ≤ 3 ∧ T4 (T2 (pIf (decide ((↑p.outer.length : Int) = 0)) (T2 (Post (vb false))) (T2 (True ∧ (toI (vi 0) ≤ 0 ∧ 0 < (↑p.outer.length : Int)) ∧ True ∧ cellAt (encL p.outer) 0 0 = vi q8 ∧ T2 (True ∧ (toI (vi 0) ≤ 0 ∧ 0 < (↑p.outer.length : Int)) ∧ True ∧ cellAt (encL p.outer) 0 0 = vi q8 ∧ T4 ((T2 (True)) ∧ H (lpC Tryz.prog 8 17) (lpK Tryz.prog 8 17) (stV [(7, some (pt 0)), (9, some (vi (massP p_1 m_1))), (10, some (vi (checkP p_1 m_1))), (11, some (vi (massP p_2 m_2))), (12, some (vi (checkP p_2 m_2))), (13, some (pt 1)), (14, some (vi (checkP p_3 m_3))), (15, some (vi q8)), (16, some (vi q8)), (17, some (vi 0))] [(0, some q3), (1, some (AObj.cells [vi (Vec3.x (centreP p_3 m_3)), vi (Vec3.y (centreP p_3 m_3)), vi (Vec3.z (centreP p_3 m_3))] true))] 2))))))))))))))))) := by kernel_rfl
theorem l_PartHoles1 (p : Part) (m : Mats) (k i : Int) (n : Nat) (l : List Value) (H : HT) (Post : PV) : vcLP Tryz.prog vcPH 8 [partV p, matsV m, .int .i64 k] lpPH 6 (stV [(2, some (.int .i64 k)), (3, some (.pointer (some ⟨0, 0, none⟩))), (4, some (.pointer (some ⟨1, 0, none⟩))), (7, some (.pointer (some ⟨2, 0, none⟩))), (8, some (.int .i64 i))] [(0, some (.cells (withHs p (trPts p.holes)) true)), (1, some (.cells (matsC m) true)), (2, some (.cells (withHs p (.slice (some ⟨3, 0, none⟩) n 1)) true)), (3, some (.cells l true))] 4) H Post = (let q8 := toI (cellAt (encL p.outer) 0 0); let q7 := (T4 (T2 (True ∧ (0 + n * 1 ≤ List.length l ∧ NLs l) ∧ T8 (T2 (True))))) ∧ (T2 (True)) ∧ True; let q6 := #[tree 4 (List.length (Mats.grades m)) (encL (Mats.grades m)), tree 4 (List.length (Mats.sects m)) (encL (Mats.sects m))]; let q5 := [(2, some (vi k)), (3, some (pt 0)), (4, some (pt 1)), (7, some (pt 2)), (8, some (vi (IntKind.wrap IntKind.i64 (i + 1))))]; let q4 := (1, some (AObj.cells [tree 4 (List.length (Mats.grades m)) (encL (Mats.grades m)), tree 4 (List.length (Mats.sects m)) (encL (Mats.sects m))] true)); let q3 := cellAt (encL p.holes) (Int.toNat i) 0; let q2 := (0, some (AObj.cells [vs p.id, vi p.rev, vi p.kind, vs p.node, vs p.grade, vi p.thick, tree 2 p.outer.length (encL p.outer), tree 1 p.holes.length (encL p.holes), vs p.sect, vi p.long, vi p.mass, vi p.centre.x, vi p.centre.y, vi p.centre.z, vi p.at_.x, vi p.at_.y, vi p.at_.z, vi p.turn] true)); let q1 := [Value.agg #[vs p.id, vi p.rev, vi p.kind, vs p.node, vs p.grade, vi p.thick, trPt p.outer, tree 1 n (chunks 1 n (List.drop 0 l)), vs p.sect, vi p.long, vi p.mass, vi p.centre.x, vi p.centre.y, vi p.centre.z, vi p.at_.x, vi p.at_.y, vi p.at_.z, vi p.turn], Value.agg q6]; T4 (T2 (pIf (decide (i < (↑p.holes.length : Int))) (T2 (True ∧ pIf (!decide (i = k)) (T4 (T2 (True ∧ (0 ≤ i ∧ i < (↑p.holes.length : Int)) ∧ cellAt (encL p.holes) (Int.toNat i) 0 = tree 2 (toN q3) (toE q3) ∧ True ∧ 1 ≤ 1 ∧ n + 1 ≤ 33554432 ∧ true = true ∧ 1 = 1 ∧ 0 + n * 1 = List.length l ∧ T2 (True ∧ 8 ≤ 18 ∧ T4 (True ∧ (T2 (True ∧ NLs (l ++ [tree 2 (toN q3) (toE q3)]) ∧ True)) ∧ H (lpC Tryz.prog 8 6) (lpK Tryz.prog 8 6) (stV q5 [q2, q4, (2, some (AObj.cells [vs p.id, vi p.rev, vi p.kind, vs p.node, vs p.grade, vi p.thick, tree 2 p.outer.length (encL p.outer), Value.slice (some (Addr.mk 3 0 none)) (n + 1) 1, vs p.sect, vi p.long, vi p.mass, vi p.centre.x, vi p.centre.y, vi p.centre.z, vi p.at_.x, vi p.at_.y, vi p.at_.z, vi p.turn] true)), (3, some (AObj.cells (l ++ [tree 2 (toN q3) (toE q3)]) true))] 4)))))) (T4 ((T2 (True ∧ NLs l ∧ True)) ∧ H (lpC Tryz.prog 8 6) (lpK Tryz.prog 8 6) (stV q5 [q2, q4, (2, some (AObj.cells [vs p.id, vi p.rev, vi p.kind, vs p.node, vs p.grade, vi p.thick, tree 2 p.outer.length (encL p.outer), Value.slice (some (Addr.mk 3 0 none)) n 1, vs p.sect, vi p.long, vi p.mass, vi p.centre.x, vi p.centre.y, vi p.centre.z, vi p.at_.x, vi p.at_.y, vi p.at_.z, vi p.turn] true)), (3, some (AObj.cells l true))] 4))))) (T2 (((T16 (T2 (True))) ∧ (T2 (True)) ∧ True) ∧ ∃ (p_1 : Part), ∃ (m_1 : Mats), eqL [Value.agg #[vs p.id, vi p.rev, vi p.kind, vs p.node, vs p.grade, vi p.thick, trPt p.outer, trPts p.holes, vs p.sect, vi p.long, vi p.mass, vi p.centre.x, vi p.centre.y, vi p.centre.z, vi p.at_.x, vi p.at_.y, vi p.at_.z, vi p.turn], Value.agg q6] [partV p_1, matsV m_1] ∧ FitQ p_1 ∧ FewM m_1 ∧ T4 (T2 (True ∧ q7 ∧ ∃ (p_2 : Part), ∃ (m_2 : Mats), eqL q1 [partV p_2, matsV m_2] ∧ FitQ p_2 ∧ FewM m_2 ∧ T4 (T2 (True ∧ q7 ∧ ∃ (p_3 : Part), ∃ (m_3 : Mats), eqL q1 [partV p_3, matsV m_3] ∧ FitQ p_3 ∧ FewM m_3 ∧ T4 (3 ≤ 3 ∧ T4 (T2 (pIf (decide ((↑p.outer.length : Int) = 0)) (T2 (Post (vb false))) (T2 (True ∧ (toI (vi 0) ≤ 0 ∧ 0 < (↑p.outer.length : Int)) ∧ True ∧ cellAt (encL p.outer) 0 0 = vi q8 ∧ T2 (True ∧ (toI (vi 0) ≤ 0 ∧ 0 < (↑p.outer.length : Int)) ∧ True ∧ cellAt (encL p.outer) 0 0 = vi q8 ∧ T4 ((T2 (NLs l ∧ True)) ∧ H (lpC Tryz.prog 8 17) (lpK Tryz.prog 8 17) (stV [(7, some (pt 0)), (9, some (vi (massP p_1 m_1))), (10, some (vi (checkP p_1 m_1))), (11, some (vi (massP p_2 m_2))), (12, some (vi (checkP p_2 m_2))), (13, some (pt 1)), (14, some (vi (checkP p_3 m_3))), (15, some (vi q8)), (16, some (vi q8)), (17, some (vi 0))] [(0, some (AObj.cells [vs p.id, vi p.rev, vi p.kind, vs p.node, vs p.grade, vi p.thick, tree 2 p.outer.length (encL p.outer), Value.slice (some (Addr.mk 2 0 none)) n 1, vs p.sect, vi p.long, vi p.mass, vi p.centre.x, vi p.centre.y, vi p.centre.z, vi p.at_.x, vi p.at_.y, vi p.at_.z, vi p.turn] true)), (1, some (AObj.cells [vi (Vec3.x (centreP p_3 m_3)), vi (Vec3.y (centreP p_3 m_3)), vi (Vec3.z (centreP p_3 m_3))] true)), (2, some (AObj.cells l true))] 3))))))))))))))))) := by kernel_rfl
theorem l_PartHoles2 (p : Part) (m : Mats) (k i a b e f g lo hi : Int) (c : Vec3) (H : HT) (Post : PV) : vcLP Tryz.prog vcPH 8 [partV p, matsV m, .int .i64 k] lpPH 17 (stV [(7, some (.pointer (some ⟨0, 0, none⟩))), (9, some (.int .i64 a)), (10, some (.int .i64 e)), (11, some (.int .i64 b)), (12, some (.int .i64 f)), (13, some (.pointer (some ⟨1, 0, none⟩))), (14, some (.int .i64 g)), (15, some (.int .i64 lo)), (16, some (.int .i64 hi)), (17, some (.int .i64 i))] [(0, some (.cells (withHs p (.slice none 0 0)) true)), (1, some (.cells [.int .i64 c.x, .int .i64 c.y, .int .i64 c.z] true))] 2) H Post = (let q2 := True ∧ Post (vb false); let q1 := cellAt (encL p.outer) (Int.toNat i) 0; T4 (T2 (pIf (decide (i < (↑p.outer.length : Int))) (T4 (True ∧ (0 ≤ i ∧ i < (↑p.outer.length : Int)) ∧ True ∧ cellAt (encL p.outer) (Int.toNat i) 0 = vi (toI q1) ∧ T4 (T2 ((0 ≤ i ∧ i < (↑p.outer.length : Int)) ∧ True ∧ cellAt (encL p.outer) (Int.toNat i) 0 = vi (toI q1) ∧ T4 (T2 (True ∧ (T2 (True)) ∧ H (lpC Tryz.prog 8 17) (lpK Tryz.prog 8 17) (stV [(7, some (pt 0)), (9, some (vi a)), (10, some (vi e)), (11, some (vi b)), (12, some (vi f)), (13, some (pt 1)), (14, some (vi g)), (15, some (vi (if toI q1 < lo then toI q1 else lo))), (16, some (vi (if toI q1 > hi then toI q1 else hi))), (17, some (vi (IntKind.wrap IntKind.i64 (i + 1))))] [(0, some (AObj.cells [vs p.id, vi p.rev, vi p.kind, vs p.node, vs p.grade, vi p.thick, tree 2 p.outer.length (encL p.outer), nS, vs p.sect, vi p.long, vi p.mass, vi p.centre.x, vi p.centre.y, vi p.centre.z, vi p.at_.x, vi p.at_.y, vi p.at_.z, vi p.turn] true)), (1, some (AObj.cells [vi c.x, vi c.y, vi c.z] true))] 2))))))) (T2 (pIf (decide (e = 0)) (T2 (True ∧ pIf (decide (f = 0)) (T4 (pIf (decide (g = 0)) (T4 (True ∧ pIf (decide (a ≤ b)) (T4 (T2 (pIf (decide (c.x ≥ lo)) (T4 (T2 (pIf (decide (c.x ≤ hi)) (T2 (True ∧ eqL [] [] ∧ T2 (True ∧ Post (vb true)))) (T4 q2)))) (T4 (T2 q2))))) (T8 q2))) (T8 (T2 q2)))) (T8 (T4 q2)))) (T8 (T4 (T2 (Post (vb false)))))))))) := by kernel_rfl
theorem l_PartHoles3 (p : Part) (m : Mats) (k i a b e f g lo hi : Int) (c : Vec3) (n : Nat) (l : List Value) (H : HT) (Post : PV) : vcLP Tryz.prog vcPH 8 [partV p, matsV m, .int .i64 k] lpPH 17 (stV [(7, some (.pointer (some ⟨0, 0, none⟩))), (9, some (.int .i64 a)), (10, some (.int .i64 e)), (11, some (.int .i64 b)), (12, some (.int .i64 f)), (13, some (.pointer (some ⟨1, 0, none⟩))), (14, some (.int .i64 g)), (15, some (.int .i64 lo)), (16, some (.int .i64 hi)), (17, some (.int .i64 i))] [(0, some (.cells (withHs p (.slice (some ⟨2, 0, none⟩) n 1)) true)), (1, some (.cells [.int .i64 c.x, .int .i64 c.y, .int .i64 c.z] true)), (2, some (.cells l true))] 3) H Post = (let q2 := True ∧ Post (vb false); let q1 := cellAt (encL p.outer) (Int.toNat i) 0; T4 (T2 (pIf (decide (i < (↑p.outer.length : Int))) (T4 (True ∧ (0 ≤ i ∧ i < (↑p.outer.length : Int)) ∧ True ∧ cellAt (encL p.outer) (Int.toNat i) 0 = vi (toI q1) ∧ T4 (T2 ((0 ≤ i ∧ i < (↑p.outer.length : Int)) ∧ True ∧ cellAt (encL p.outer) (Int.toNat i) 0 = vi (toI q1) ∧ T4 (T2 (True ∧ (T2 (NLs l ∧ True)) ∧ H (lpC Tryz.prog 8 17) (lpK Tryz.prog 8 17) (stV [(7, some (pt 0)), (9, some (vi a)), (10, some (vi e)), (11, some (vi b)), (12, some (vi f)), (13, some (pt 1)), (14, some (vi g)), (15, some (vi (if toI q1 < lo then toI q1 else lo))), (16, some (vi (if toI q1 > hi then toI q1 else hi))), (17, some (vi (IntKind.wrap IntKind.i64 (i + 1))))] [(0, some (AObj.cells [vs p.id, vi p.rev, vi p.kind, vs p.node, vs p.grade, vi p.thick, tree 2 p.outer.length (encL p.outer), Value.slice (some (Addr.mk 2 0 none)) n 1, vs p.sect, vi p.long, vi p.mass, vi p.centre.x, vi p.centre.y, vi p.centre.z, vi p.at_.x, vi p.at_.y, vi p.at_.z, vi p.turn] true)), (1, some (AObj.cells [vi c.x, vi c.y, vi c.z] true)), (2, some (AObj.cells l true))] 3))))))) (T2 (pIf (decide (e = 0)) (T2 (True ∧ pIf (decide (f = 0)) (T4 (pIf (decide (g = 0)) (T4 (True ∧ pIf (decide (a ≤ b)) (T4 (T2 (pIf (decide (c.x ≥ lo)) (T4 (T2 (pIf (decide (c.x ≤ hi)) (T2 (True ∧ eqL [] [] ∧ T2 (True ∧ Post (vb true)))) (T4 q2)))) (T4 (T2 q2))))) (T8 q2))) (T8 (T2 q2)))) (T8 (T4 q2)))) (T8 (T4 (T2 (Post (vb false)))))))))) := by kernel_rfl
def holesP (p : Part) (ks : List (List Pt)) : Part := { p with holes := ks }
theorem check_ids {p : Part} {m : Mats} (h : checkP p m = 0) : idOk p.id ∧ idOk p.node := by
 unfold checkP at h
 by_cases h1 : ¬ idOk p.id ∨ ¬ idOk p.node
 ·rw [if_pos h1] at h; omega
 ·refine ⟨?_, ?_⟩
  ·exact Decidable.by_contra fun hn => h1 (.inl hn)
  ·exact Decidable.by_contra fun hn => h1 (.inr hn)
theorem check_of {p : Part} {m : Mats} (h1 : idOk p.id ∧ idOk p.node) (h2 : 1 ≤ p.rev ∧ p.rev ≤ 1000) (h3 : formP p.kind ≠ 0) (h4 : ¬ spareP p) (h5 : madeP p m) (h6 : bodyErr p = 0) (h7 : validP p.at_ p.turn) : checkP p m = 0 := by
 unfold checkP
 rw [if_neg (by rintro (h | h); exact h h1.1; exact h h1.2), if_neg (by omega), if_neg h3, if_neg h4, if_neg (fun h => h h5), if_neg (fun h => h h6), if_neg (fun h => h h7)]
theorem holes_check {p : Part} {m : Mats} {ks : List (List Pt)} (k1 : p.kind = 1) (h : checkP p m = 0) (hk : ks.Sublist p.holes) : checkP (holesP p ks) m = 0 := by
 obtain ⟨f0, s, md, b, v, r1, r2⟩ := check_made h
 have f1 : formP p.kind = 1 := form_one.2 k1
 have ho := (plate_ok h f1).1
 refine check_of (p := holesP p ks) (show idOk p.id ∧ idOk p.node from check_ids h) ⟨r1, r2⟩ f0 (fun hs => s ?_) md ?_ v
 ·rcases hs with ⟨g1, g2⟩ | ⟨g1, _⟩ | ⟨g1, _⟩
  ·exact .inl ⟨g1, g2⟩
  ·have g1 : formP p.kind = 2 := g1
   omega
  ·exact absurd f1 g1
 ·show (if formP p.kind = 1 then shapeCheck p.outer ks else _) = 0
  rw [if_pos f1]
  exact (shapeCheck_zero _ _).2 (ho.less hk)
theorem sum_sub {ks hs : List (List Pt)} (hk : ks.Sublist hs) (hn : ∀ h ∈ hs, areaP h < 0) : (hs.map areaP).sum ≤ (ks.map areaP).sum := by
 induction hk with
 | slnil => exact Int.le_refl _
 | cons a _ ih =>
  have := ih fun h hh => hn h (by simp [hh])
  have h2 := hn a (by simp)
  rw [List.map_cons, List.sum_cons]
  omega
 | cons_cons a _ ih =>
  have := ih fun h hh => hn h (by simp [hh])
  rw [List.map_cons, List.sum_cons, List.map_cons, List.sum_cons]
  omega
theorem plate_mass {p : Part} {m : Mats} (h : checkP p m = 0) (f1 : formP p.kind = 1) : massP p m = rArea p.outer p.holes * p.thick * (gradeOf m p.grade).dens / 2000000 := by
 obtain ⟨ho, t1, t2, d1, d2⟩ := plate_ok h f1
 have ha := ho.rArea_bd
 unfold massP massRaw
 rw [if_pos h, if_pos f1]
 obtain ⟨b1, b2, b3, b4⟩ := mul3_bd (a := rArea p.outer p.holes) (b := p.thick) (c := (gradeOf m p.grade).dens) (A := 618475290624) (B := 120) (C := 20000) (by omega) (by omega) (by omega)
 rw [wr64_eq (n := rArea p.outer p.holes * p.thick) (by omega) (by omega), wr64_eq (n := rArea p.outer p.holes * p.thick * (gradeOf m p.grade).dens) (by omega) (by omega), Int.tdiv_eq_ediv_of_nonneg b3]
 rw [wr64_eq (by omega) (by omega)]
theorem holes_mass {p : Part} {m : Mats} {ks : List (List Pt)} (k1 : p.kind = 1) (h : checkP p m = 0) (hk : ks.Sublist p.holes) : massP p m ≤ massP (holesP p ks) m := by
 have f1 : formP p.kind = 1 := form_one.2 k1
 have hq := holes_check k1 h hk
 obtain ⟨ho, t1, t2, d1, d2⟩ := plate_ok h f1
 rw [plate_mass h f1, plate_mass hq f1]
 have e : rArea p.outer p.holes ≤ rArea p.outer ks := by
  rw [ho.rArea, (ho.less hk).rArea]
  have := sum_sub hk fun x hx => (ho.hole x hx).2.1
  omega
 show _ ≤ rArea p.outer ks * p.thick * (gradeOf m p.grade).dens / 2000000
 refine Int.ediv_le_ediv (by decide) ?_
 exact Int.mul_le_mul_of_nonneg_right (Int.mul_le_mul_of_nonneg_right e (by omega)) (by omega)
theorem holes_centre {p : Part} {m : Mats} (k1 : p.kind = 1) (h : checkP p m = 0) {L U : Int} (hb : ∀ c ∈ p.outer, L ≤ c.x ∧ c.x ≤ U) : L ≤ (centreP p m).x ∧ (centreP p m).x ≤ U := by
 have f1 : formP p.kind = 1 := form_one.2 k1
 obtain ⟨ho, _⟩ := plate_ok h f1
 unfold centreP centreRaw
 rw [if_pos h, if_pos f1]
 exact (shape_centre ho hb).1
theorem erase_step {α : Type} (l : List α) {i : Nat} (k : Nat) (hi : i < l.length) : (l.take (i + 1)).eraseIdx k = if i = k then (l.take i).eraseIdx k else (l.take i).eraseIdx k ++ [l[i]] := by
 rw [List.take_add_one, List.getElem?_eq_getElem hi]
 show (l.take i ++ [l[i]]).eraseIdx k = _
 have hl : (l.take i).length = i := by rw [List.length_take]; omega
 by_cases hk : k < i
 ·rw [if_neg (by omega), List.eraseIdx_append_of_lt_length (by omega)]
 ·rw [List.eraseIdx_append_of_length_le (by omega), hl, List.eraseIdx_of_length_le (l := l.take i) (by omega)]
  by_cases e : i = k
  ·subst e
   rw [if_pos rfl, Nat.sub_self]
   simp
  ·rw [if_neg e, List.eraseIdx_of_length_le (by simp; omega)]
theorem chunks_pts (ks : List (List Pt)) : chunks 1 ks.length (List.drop 0 (ks.map fun a => trPt a)) = encL ks := by
 show ((List.drop 0 (ks.map fun a => trPt a)).take ks.length).toArray = _
 rw [List.drop_zero, List.take_of_length_le (by simp)]
 rfl
theorem nls_pts (ks : List (List Pt)) : NLs (ks.map fun a => trPt a) := fun v hv => by
 obtain ⟨a, _, rfl⟩ := List.mem_map.1 hv
 rfl
theorem vcPH_ok : VCallOk Tryz.prog vcPH := inlCall_ok mixed (tabCallF_ok (by
 intro e he
 simp only [List.mem_cons, List.not_mem_nil, or_false] at he
 rcases he with rfl | rfl | rfl | rfl | rfl | rfl
 ·exact ok_Few16
 ·exact ok_Few15
 ·exact ok_pcheck
 ·exact ok_Mass
 ·exact ok_Centre
 ·exact ok_alive) noCall_ok) 2
abbrev okV (v : Value) : Prop := v = .bool true
abbrev argsPH (p : Part) (m : Mats) (k : Nat) : List Value := [partV p, matsV m, .int .i64 k]
theorem loop2 {p : Part} {m : Mats} {k : Nat} {a b : Int} {c : Vec3} (h0 : 0 < p.outer.length) (hs : Short p.outer) (hab : a ≤ b) (hc : ∀ L U : Int, (∀ q ∈ p.outer, L ≤ q.x ∧ q.x ≤ U) → L ≤ c.x ∧ c.x ≤ U) : OkP 8 (argsPH p m k) 17 okV (stV [(7, some (.pointer (some ⟨0, 0, none⟩))), (9, some (.int .i64 a)), (10, some (.int .i64 0)), (11, some (.int .i64 b)), (12, some (.int .i64 0)), (13, some (.pointer (some ⟨1, 0, none⟩))), (14, some (.int .i64 0)), (15, some (.int .i64 (cyc p.outer 0).x)), (16, some (.int .i64 (cyc p.outer 0).x)), (17, some (.int .i64 0))] [(0, some (.cells (withHs p (.slice none 0 0)) true)), (1, some (.cells [.int .i64 c.x, .int .i64 c.y, .int .i64 c.z] true))] 2) := by
 refine down (n := p.outer.length) (p := fun i => ∀ lo hi : Int, (∀ j, j < i → lo ≤ (cyc p.outer j).x ∧ (cyc p.outer j).x ≤ hi) → OkP 8 (argsPH p m k) 17 okV (stV [(7, some (.pointer (some ⟨0, 0, none⟩))), (9, some (.int .i64 a)), (10, some (.int .i64 0)), (11, some (.int .i64 b)), (12, some (.int .i64 0)), (13, some (.pointer (some ⟨1, 0, none⟩))), (14, some (.int .i64 0)), (15, some (.int .i64 lo)), (16, some (.int .i64 hi)), (17, some (.int .i64 i))] [(0, some (.cells (withHs p (.slice none 0 0)) true)), (1, some (.cells [.int .i64 c.x, .int .i64 c.y, .int .i64 c.z] true))] 2)) (fun lo hi hall => ?_) (fun i i1 ih lo hi hall => ?_) _ _ (fun j hj => by omega)
 ·refine ok_P vcPH_ok mixed _ (l_PartHoles2 p m k p.outer.length a b 0 0 0 lo hi c _ _) ?_
  have hb := hc lo hi fun q hq => by
   obtain ⟨j, hj, rfl⟩ := List.mem_iff_getElem.1 hq
   have := hall j hj
   rwa [cyc_at hj] at this
  simp only [true_and]
  refine ifD (fun hlt => by omega) (fun _ => ifD (fun _ => ifD (fun _ => ifD (fun _ => ifD (fun _ => ifD (fun _ => ifD (fun _ => trivial) (fun hn => by omega)) (fun hn => by omega)) (fun hn => by omega)) (fun hn => absurd trivial hn)) (fun hn => absurd trivial hn)) (fun hn => absurd trivial hn))
 ·refine ok_P vcPH_ok mixed _ (l_PartHoles2 p m k i a b 0 0 0 lo hi c _ _) ?_
  have hk : ((i : Nat) : Int).toNat = i := Int.toNat_natCast i
  obtain ⟨c0, c1⟩ := cell_cyc0 i1
  simp only [true_and, and_true, hk, c0, toI_int, wrapSucc (show i < 2 ^ 62 by omega)]
  refine ifD (fun _ => ⟨⟨by omega, by omega⟩, ⟨by omega, by omega⟩, ih _ _ fun j hj => ?_⟩) (fun h' => by omega)
  by_cases hj' : j = i
  ·subst hj'
   constructor
   ·split <;> omega
   ·split <;> omega
  ·have := hall j (by omega)
   constructor
   ·split <;> omega
   ·split <;> omega
theorem loop3 {p : Part} {m : Mats} {k : Nat} {a b : Int} {c : Vec3} {n : Nat} {l : List Value} (hl : NLs l) (h0 : 0 < p.outer.length) (hs : Short p.outer) (hab : a ≤ b) (hc : ∀ L U : Int, (∀ q ∈ p.outer, L ≤ q.x ∧ q.x ≤ U) → L ≤ c.x ∧ c.x ≤ U) : OkP 8 (argsPH p m k) 17 okV (stV [(7, some (.pointer (some ⟨0, 0, none⟩))), (9, some (.int .i64 a)), (10, some (.int .i64 0)), (11, some (.int .i64 b)), (12, some (.int .i64 0)), (13, some (.pointer (some ⟨1, 0, none⟩))), (14, some (.int .i64 0)), (15, some (.int .i64 (cyc p.outer 0).x)), (16, some (.int .i64 (cyc p.outer 0).x)), (17, some (.int .i64 0))] [(0, some (.cells (withHs p (.slice (some ⟨2, 0, none⟩) n 1)) true)), (1, some (.cells [.int .i64 c.x, .int .i64 c.y, .int .i64 c.z] true)), (2, some (.cells l true))] 3) := by
 refine down (n := p.outer.length) (p := fun i => ∀ lo hi : Int, (∀ j, j < i → lo ≤ (cyc p.outer j).x ∧ (cyc p.outer j).x ≤ hi) → OkP 8 (argsPH p m k) 17 okV (stV [(7, some (.pointer (some ⟨0, 0, none⟩))), (9, some (.int .i64 a)), (10, some (.int .i64 0)), (11, some (.int .i64 b)), (12, some (.int .i64 0)), (13, some (.pointer (some ⟨1, 0, none⟩))), (14, some (.int .i64 0)), (15, some (.int .i64 lo)), (16, some (.int .i64 hi)), (17, some (.int .i64 i))] [(0, some (.cells (withHs p (.slice (some ⟨2, 0, none⟩) n 1)) true)), (1, some (.cells [.int .i64 c.x, .int .i64 c.y, .int .i64 c.z] true)), (2, some (.cells l true))] 3)) (fun lo hi hall => ?_) (fun i i1 ih lo hi hall => ?_) _ _ (fun j hj => by omega)
 ·refine ok_P vcPH_ok mixed _ (l_PartHoles3 p m k p.outer.length a b 0 0 0 lo hi c n l _ _) ?_
  have hb := hc lo hi fun q hq => by
   obtain ⟨j, hj, rfl⟩ := List.mem_iff_getElem.1 hq
   have := hall j hj
   rwa [cyc_at hj] at this
  simp only [true_and]
  refine ifD (fun hlt => by omega) (fun _ => ifD (fun _ => ifD (fun _ => ifD (fun _ => ifD (fun _ => ifD (fun _ => ifD (fun _ => trivial) (fun hn => by omega)) (fun hn => by omega)) (fun hn => by omega)) (fun hn => absurd trivial hn)) (fun hn => absurd trivial hn)) (fun hn => absurd trivial hn))
 ·refine ok_P vcPH_ok mixed _ (l_PartHoles3 p m k i a b 0 0 0 lo hi c n l _ _) ?_
  have hk : ((i : Nat) : Int).toNat = i := Int.toNat_natCast i
  obtain ⟨c0, c1⟩ := cell_cyc0 i1
  simp only [true_and, and_true, hk, c0, toI_int, wrapSucc (show i < 2 ^ 62 by omega)]
  refine ifD (fun _ => ⟨⟨by omega, by omega⟩, ⟨by omega, by omega⟩, hl, ih _ _ fun j hj => ?_⟩) (fun h' => by omega)
  by_cases hj' : j = i
  ·subst hj'
   constructor
   ·split <;> omega
   ·split <;> omega
  ·have := hall j (by omega)
   constructor
   ·split <;> omega
   ·split <;> omega
def stPH (p : Part) (m : Mats) (k i : Nat) : List (List Pt) → AS
 | [] => (stV [(2, some (.int .i64 k)), (3, some (.pointer (some ⟨0, 0, none⟩))), (4, some (.pointer (some ⟨1, 0, none⟩))), (7, some (.pointer (some ⟨2, 0, none⟩))), (8, some (.int .i64 i))] [(0, some (.cells (withHs p (trPts p.holes)) true)), (1, some (.cells (matsC m) true)), (2, some (.cells (withHs p (.slice none 0 0)) true))] 3)
 | h :: ks => (stV [(2, some (.int .i64 k)), (3, some (.pointer (some ⟨0, 0, none⟩))), (4, some (.pointer (some ⟨1, 0, none⟩))), (7, some (.pointer (some ⟨2, 0, none⟩))), (8, some (.int .i64 i))] [(0, some (.cells (withHs p (trPts p.holes)) true)), (1, some (.cells (matsC m) true)), (2, some (.cells (withHs p (.slice (some ⟨3, 0, none⟩) (h :: ks).length 1)) true)), (3, some (.cells ((h :: ks).map fun a => trPt a) true))] 4)
theorem partHoles_loop {p : Part} {m : Mats} {k : Nat} (h16 : few16 p) (h15 : few15 m) (k1 : p.kind = 1) (hc : checkP p m = 0) : OkP 8 (argsPH p m k) 6 okV (stPH p m k 0 []) := by
 have q := few_fitq h16
 have f := few_mats h15
 have h12 := h16.2.2.2.2.2.1
 have s0 := q.holes
 obtain ⟨ho, _⟩ := plate_ok hc (form_one.2 k1)
 have o3 := (check_near ho.out).1
 have fin : ∀ ks : List (List Pt), ks.Sublist p.holes → FitQ (holesP p ks) ∧ checkP (holesP p ks) m = 0 ∧ massP p m ≤ massP (holesP p ks) m ∧ ∀ L U : Int, (∀ q ∈ p.outer, L ≤ q.x ∧ q.x ≤ U) → L ≤ (centreP (holesP p ks) m).x ∧ (centreP (holesP p ks) m).x ≤ U := fun ks hk => by
  have hq := holes_check k1 hc hk
  have hl := hk.length_le
  refine ⟨⟨q.outer, ?_, fun h hh => q.all h (hk.subset hh), ?_⟩, hq, holes_mass k1 hc hk, fun L U hb => holes_centre (p := holesP p ks) k1 hq hb⟩
  ·show ks.length < 2 ^ 62
   omega
  ·have := q.sum
   show p.outer.length + ks.length < _
   omega
 have e0 : (p.holes.take 0).eraseIdx k = [] := by simp
 rw [← e0]
 refine down (n := p.holes.length) (p := fun i => OkP 8 (argsPH p m k) 6 okV (stPH p m k i ((p.holes.take i).eraseIdx k))) ?_ (fun i i1 ih => ?_)
 ·have hsub : ((p.holes.take p.holes.length).eraseIdx k).Sublist p.holes := by
   rw [List.take_length]
   exact List.eraseIdx_sublist _ _
  generalize (p.holes.take p.holes.length).eraseIdx k = ks at *
  obtain ⟨fq, fc, fm, fb⟩ := fin ks hsub
  obtain ⟨c0, c1⟩ := cell_cyc0 (l := p.outer) (k := 0) (by omega)
  cases ks with
  | nil =>
   refine ok_P vcPH_ok mixed _ (l_PartHoles0 p m k p.holes.length _ _) ?_
   simp only [true_and, and_true, Nat.le_refl, c0, toI_int]
   refine ifD (fun hlt => by omega) (fun _ => ⟨p, m, rfl, q, f, holesP p [], m, rfl, fq, f, holesP p [], m, rfl, fq, f, ifD (fun hz => by omega) (fun _ => ⟨⟨by decide, by omega⟩, ⟨by decide, by omega⟩, ?_⟩)⟩)
   rw [hc, fc]
   exact loop2 (by omega) q.outer fm fb
  | cons h ks =>
   refine ok_P vcPH_ok mixed _ (l_PartHoles1 p m k p.holes.length (h :: ks).length ((h :: ks).map fun a => trPt a) _ _) ?_
   simp only [true_and, and_true, Nat.le_refl, c0, toI_int]
   have nl := nls_pts (h :: ks)
   have len : 0 + (h :: ks).length * 1 ≤ ((h :: ks).map fun a => trPt a).length := by simp
   refine ifD (fun hlt => by omega) (fun _ => ⟨p, m, rfl, q, f, ⟨len, nl⟩, holesP p (h :: ks), m, ?_, fq, f, ⟨len, nl⟩, holesP p (h :: ks), m, ?_, fq, f, ifD (fun hz => by omega) (fun _ => ⟨⟨by decide, by omega⟩, ⟨by decide, by omega⟩, nl, ?_⟩)⟩)
   ·rw [chunks_pts]
    rfl
   ·rw [chunks_pts]
    rfl
   rw [hc, fc]
   exact loop3 nl (by omega) q.outer fm fb
 ·have step := erase_step p.holes k i1
  rw [step] at ih
  have hlen : ((p.holes.take i).eraseIdx k).length ≤ 12 := by
   have := List.length_eraseIdx_le (p.holes.take i) k
   rw [List.length_take] at this
   omega
  generalize (p.holes.take i).eraseIdx k = ks at *
  have hk : ((i : Nat) : Int).toNat = i := Int.toNat_natCast i
  cases ks with
  | nil =>
   refine ok_P vcPH_ok mixed _ (l_PartHoles0 p m k i _ _) ?_
   simp only [true_and, and_true, Nat.le_refl, hk, cell_pts i1, toN_tree, toE_tree, wrapSucc (show i < 2 ^ 62 by omega)]
   refine ifD (fun _ => ifN (fun hne => ⟨⟨by omega, by omega⟩, by decide, by decide, nls_pts [p.holes[i]], ?_⟩) (fun he => ?_)) (fun h' => by omega)
   ·rw [if_neg (by omega)] at ih
    exact ih
   ·rw [if_pos (by omega)] at ih
    exact ih
  | cons h ks =>
   refine ok_P vcPH_ok mixed _ (l_PartHoles1 p m k i (h :: ks).length ((h :: ks).map fun a => trPt a) _ _) ?_
   simp only [true_and, and_true, Nat.le_refl, hk, cell_pts i1, toN_tree, toE_tree, wrapSucc (show i < 2 ^ 62 by omega)]
   have em : (h :: ks).map (fun a => trPt a) ++ [trPt p.holes[i]] = (h :: (ks ++ [p.holes[i]])).map fun a => trPt a := by simp
   have el : (h :: ks).length + 1 = (h :: (ks ++ [p.holes[i]])).length := by simp
   refine ifD (fun _ => ifN (fun hne => ⟨⟨by omega, by omega⟩, by omega, by simp, by decide, ?_, ?_⟩) (fun he => ⟨nls_pts _, ?_⟩)) (fun h' => by omega)
   ·rw [em]
    exact nls_pts _
   ·rw [if_neg (by omega)] at ih
    have ih : OkP 8 (argsPH p m k) 6 okV (stPH p m k (i + 1) (h :: (ks ++ [p.holes[i]]))) := ih
    rw [em, el]
    exact ih
   ·rw [if_pos (by omega)] at ih
    exact ih
theorem partHoles_pure (p : Part) (m : Mats) (k : Int) : Pure Tryz.prog 8 [partV p, matsV m, .int .i64 k] fun v => v = .bool true := by
 refine pure_P vcPH_ok mixed (by kernel_rfl) (by kernel_rfl) _ (e_PartHoles p m k _ _) ?_
 have tt : True := trivial
 simp only [true_and, and_true, Nat.le_refl]
 refine ⟨p, rfl, ifD (fun h1 => ⟨m, rfl, ifD (fun h2 => ifN (fun _ => tt) (fun k1 => ?_)) (fun _ => tt)⟩) (fun _ => tt)⟩
 refine ⟨p, m, rfl, few_fitq h1, few_mats h2, ifN (fun _ => tt) (fun hc => ifD (fun _ => tt) (fun b1 => ifD (fun _ => tt) (fun b2 => ⟨by decide, ?_⟩)))⟩
 obtain ⟨n, rfl⟩ := Int.eq_ofNat_of_zero_le (show 0 ≤ k by omega)
 exact partHoles_loop h1 h2 k1 hc
end Go.Proofs.YtngginofamlkkaaGreatDoor
namespace Go.Proofs.YtngginofamlkkaaGreatDoor
open Go Go.RowKit Go.ChangeShapes Go.WideShapes Go.ChangeAt Go.Deep Go.Joins
theorem Tryz.own : ownKnob Tryz.prog.godebug = none := by kernel_rfl
theorem Tryz.laidOut : laidOutB Tryz.prog = true := by kernel_rfl
theorem trodAll_stays {H : Type} {enc : TypeId × Value → H} {P : Program} {W W' : World} {sp' : Nat → Bool} (hl : laidOutB P = true) : ∀ {ts : List TypeId} {vs : List Value} {ds : List (DataW H)} {ps : List MemPlace},
  (ts.all fun t => P.readableRec t && decide (t < P.types.size)) = true → DataW.TrodAll enc P W 0 (fun _ => true) true ts vs ds ps → (∀ p ∈ ps, W.sameAt W' p) → (∀ p ∈ ps, sp' p.block = true) →
  DataW.TrodAll enc P W' 0 sp' true ts vs ds ps := by
 intro ts
 induction ts with
 | nil =>
  intro vs ds ps _ h _ _
  obtain ⟨rfl, rfl, rfl⟩ := trodAll_nil h
  exact trodAll_mk0
 | cons t ts ih =>
  intro vs ds ps hr h hs hp
  obtain ⟨v, vs', d, ds', p, q, rfl, rfl, rfl, hd, hrest⟩ := trodAll_cons h
  simp only [List.all_cons, Bool.and_eq_true, decide_eq_true_eq] at hr
  exact trodAll_cons_mk (WideElems.Trod_stays hl hr.1.1 hr.1.2 hd (fun x hx => hs x (by simp [hx])) (fun x hx => hp x (by simp [hx])))
   (ih hr.2 hrest (fun x hx => hs x (by simp [hx])) (fun x hx => hp x (by simp [hx])))
end Go.Proofs.YtngginofamlkkaaGreatDoor

