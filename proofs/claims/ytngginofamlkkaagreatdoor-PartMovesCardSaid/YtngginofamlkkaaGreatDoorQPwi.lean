/-
  Put together out of several texts, each in its own namespace's block. Conditions: as each theorem states them.
-/
import Derived.Test.YtngginofamlkkaaGreatDoorQVll
import Derived.Test.YtngginofamlkkaaGreatDoorQPrd
import Derived.Test.YtngginofamlkkaaGreatDoorChecked
noncomputable section
namespace Go.Proofs.YtngginofamlkkaaGreatDoor
open Go Go.RowKit
set_option maxRecDepth 100000
set_option maxHeartbeats 8000000
theorem ok_Few15 : EntOk Tryz.prog ⟨45, c_Few15⟩ := by
 rintro args Post ⟨m, rfl, h⟩
 have yes : few15 m → Post (.bool true) := fun hp => of_b h (decide_eq_true hp)
 have no : ¬ few15 m → Post (.bool false) := fun hp => of_b h (decide_eq_false hp)
 refine pure_P noCall_ok mixed (by kernel_rfl) (by kernel_rfl) _ (e_few15 m.grades.length m.sects.length (encL m.grades) (encL m.sects) _ _) ?_
 simp only [true_and]
 -- the sections
 have second : (m.grades.length ≤ 40 → ∀ g ∈ m.grades, g.gauges.length ≤ 30 ∧ g.name.size ≤ 40) → OkP 45 [matsV m] 7 Post (stV [(1, some (.pointer (some ⟨0, 0, none⟩))), (4, some (.int .i64 0))] [(0, some (.cells [tree 4 m.grades.length (encL m.grades), tree 4 m.sects.length (encL m.sects)] true))] 1) := fun hg => by
  have fin : (m.sects.length ≤ 40 → ∀ s ∈ m.sects, s.name.size ≤ 40) → pIf (decide (((m.grades.length : Nat) : Int) ≤ 40)) (pIf (decide (((m.sects.length : Nat) : Int) ≤ 40)) (Post (.bool true)) (Post (.bool false))) (Post (.bool false)) := fun hs => ifD (fun h1 => ifD (fun h2 => yes ⟨by omega, by omega, hg (by omega), hs (by omega)⟩) (fun h2 => no fun hf => h2 (by have := hf.2.1; omega))) (fun h1 => no fun hf => h1 (by have := hf.1; omega))
  refine down (n := min m.sects.length 41) (p := fun k => (∀ i (hi : i < m.sects.length), i < k → m.sects[i].name.size ≤ 40) → OkP 45 [matsV m] 7 Post (stV [(1, some (.pointer (some ⟨0, 0, none⟩))), (4, some (.int .i64 k))] [(0, some (.cells [tree 4 m.grades.length (encL m.grades), tree 4 m.sects.length (encL m.sects)] true))] 1)) (fun hall => ?_) (fun k k1 ih hall => ?_) (fun i _ hi => by omega)
  ·refine ok_P noCall_ok mixed _ (m_few15 m.grades.length m.sects.length ((min m.sects.length 41 : Nat) : Int) (encL m.grades) (encL m.sects) _ _) ?_
   simp only [true_and]
   have hs : m.sects.length ≤ 40 → ∀ s ∈ m.sects, s.name.size ≤ 40 := fun hl s hm => by
    obtain ⟨i, hi, rfl⟩ := List.mem_iff_getElem.1 hm
    exact hall i hi (by omega)
   exact ifD (fun h1 => ifD (fun h2 => by omega) (fun _ => fin hs)) (fun _ => fin hs)
  ·have kl : k < m.sects.length := by omega
   refine ok_P noCall_ok mixed _ (m_few15 m.grades.length m.sects.length k (encL m.grades) (encL m.sects) _ _) ?_
   have hk : ((k : Nat) : Int).toNat = k := Int.toNat_natCast k
   obtain ⟨c0, c1, c2, c3⟩ := cell_sect kl
   simp only [true_and, hk, c0, toS_string, wrapSucc (show k < 2 ^ 62 by omega)]
   refine ifD (fun _ => ifD (fun _ => ⟨⟨by omega, by omega⟩, ifD (fun hb => no fun hf => ?_) (fun hb => ih fun i hi hik => ?_)⟩) (fun h' => by omega)) (fun h' => by omega)
   ·have := hf.2.2.2 _ (List.getElem_mem kl)
    omega
   ·rcases Nat.lt_or_ge i k with h' | h'
    ·exact hall i hi h'
    ·have : i = k := by omega
     subst this
     omega
 refine down (n := min m.grades.length 41) (p := fun k => (∀ i (hi : i < m.grades.length), i < k → m.grades[i].gauges.length ≤ 30 ∧ m.grades[i].name.size ≤ 40) → OkP 45 [matsV m] 2 Post (stV [(1, some (.pointer (some ⟨0, 0, none⟩))), (3, some (.int .i64 k))] [(0, some (.cells [tree 4 m.grades.length (encL m.grades), tree 4 m.sects.length (encL m.sects)] true))] 1)) (fun hall => ?_) (fun k k1 ih hall => ?_) (fun i _ hi => by omega)
 ·refine ok_P noCall_ok mixed _ (l_few15 m.grades.length m.sects.length ((min m.grades.length 41 : Nat) : Int) (encL m.grades) (encL m.sects) _ _) ?_
  simp only [true_and]
  have hg : m.grades.length ≤ 40 → ∀ g ∈ m.grades, g.gauges.length ≤ 30 ∧ g.name.size ≤ 40 := fun hl s hm => by
   obtain ⟨i, hi, rfl⟩ := List.mem_iff_getElem.1 hm
   exact hall i hi (by omega)
  exact ifD (fun h1 => ifD (fun h2 => by omega) (fun _ => second hg)) (fun _ => second hg)
 ·have kl : k < m.grades.length := by omega
  refine ok_P noCall_ok mixed _ (l_few15 m.grades.length m.sects.length k (encL m.grades) (encL m.sects) _ _) ?_
  have hk : ((k : Nat) : Int).toNat = k := Int.toNat_natCast k
  obtain ⟨c0, c1, c2, c3⟩ := cell_grade kl
  simp only [true_and, hk, c0, c3, toS_string, toN_tree, toE_tree, wrapSucc (show k < 2 ^ 62 by omega)]
  refine ifD (fun _ => ifD (fun _ => ⟨⟨by omega, by omega⟩, ifD (fun ha => no fun hf => ?_) (fun ha => ⟨⟨by omega, by omega⟩, ifD (fun hb => no fun hf => ?_) (fun hb => ih fun i hi hik => ?_)⟩)⟩) (fun h' => by omega)) (fun h' => by omega)
  ·have := (hf.2.2.1 _ (List.getElem_mem kl)).1
   omega
  ·have := (hf.2.2.1 _ (List.getElem_mem kl)).2
   omega
  ·rcases Nat.lt_or_ge i k with h' | h'
   ·exact hall i hi h'
   ·have : i = k := by omega
    subst this
    omega
theorem few_fitr {p : Part} (h : few16 p) : FitR p := by
 obtain ⟨h1, h2, _, _, h5, h6, h7⟩ := h
 exact ⟨⟨by show p.outer.length < 2 ^ 62; omega, by show p.holes.length < 2 ^ 62; omega, fun x hx => by have := h7 x hx; show x.length < 2 ^ 62; omega, by omega⟩, by omega, by omega⟩
theorem few_fitq {p : Part} (h : few16 p) : FitQ p := (few_fitr h).toFitQ
theorem few_matr {m : Mats} (h : few15 m) : FewR m := by
 obtain ⟨h1, h2, h3, _⟩ := h
 exact ⟨⟨by show m.grades.length < 2 ^ 62; omega, by show m.sects.length < 2 ^ 62; omega, fun g hg => by have := (h3 g hg).1; omega⟩, fun g hg => by have := (h3 g hg).1; omega⟩
theorem few_mats {m : Mats} (h : few15 m) : FewM m := (few_matr h).toFewM
theorem vcPW_ok : VCallOk Tryz.prog vcPW := inlCall_ok mixed (tabCall_ok (by
 intro e he
 simp only [List.mem_cons, List.not_mem_nil, or_false] at he
 rcases he with rfl | rfl | rfl | rfl | rfl | rfl | rfl | rfl | rfl
 ·exact ok_Few16
 ·exact ok_Few15
 ·exact ok_Mass
 ·exact ok_r16mass
 ·exact ok_Centre
 ·exact ok_r16centre
 ·exact ok_Weight
 ·exact ok_r16weight
 ·exact ok_alive) noCall_ok) 2
theorem quart_inV {v : Vec3} {b : Int} (h : inV v b) : ∀ n, inV (quart n v) b
 | 0 => h
 | n + 1 => by
  have := quart_inV h n
  unfold inV at *
  unfold quart
  dsimp only
  omega
theorem turn_inV {v : Vec3} {b : Int} (h : inV v b) (k : Int) : inV (turnV v k) b := by
 have h1 := quart_inV h ((turnNo k).tmod 4).toNat
 unfold turnV
 generalize quart ((turnNo k).tmod 4).toNat v = u at *
 unfold inV at *
 unfold tiltV
 repeat' split
 all_goals ((try dsimp only); omega)
theorem round_bd {a b L U : Int} (hb : 0 < b) (h1 : L * b ≤ a) (h2 : a ≤ U * b) : L ≤ roundP a b ∧ roundP a b ≤ U := by
 unfold roundP
 obtain ⟨f1, f2⟩ := fdiv_char (a := 2 * a + b) (b := 2 * b) (by omega)
 generalize (2 * a + b).fdiv (2 * b) = f at *
 have e1 : 2 * b * f = 2 * (f * b) := by rw [Int.mul_assoc, Int.mul_comm b f]
 rw [e1] at f1 f2
 constructor
 ·refine Decidable.by_contra fun hn => ?_
  have := Int.mul_le_mul_of_nonneg_right (show f + 1 ≤ L by omega) (Int.le_of_lt hb)
  rw [Int.add_mul, Int.one_mul] at this
  omega
 ·refine Decidable.by_contra fun hn => ?_
  have := Int.mul_le_mul_of_nonneg_right (show U + 1 ≤ f by omega) (Int.le_of_lt hb)
  rw [Int.add_mul, Int.one_mul] at this
  omega
theorem shape_centre {o : List Pt} {hs : List (List Pt)} (h : ShapeOk o hs) {L U : Int} (hb : ∀ c ∈ o, L ≤ c.x ∧ c.x ≤ U) : (L ≤ roundP (rMomX o hs) (3 * rArea o hs) ∧ roundP (rMomX o hs) (3 * rArea o hs) ≤ U) ∧ (-32769 ≤ roundP (rMomY o hs) (3 * rArea o hs) ∧ roundP (rMomY o hs) (3 * rArea o hs) ≤ 32769) := by
 have ha := h.area
 have hx := h.centre hb
 have hy := h.centreY
 rw [h.rArea, h.rMomX, h.rMomY]
 generalize areaP o + (hs.map areaP).sum = A at *
 generalize sumTo (momX o) o.length + (hs.map fun l => sumTo (momX l) l.length).sum = X at *
 generalize sumTo (momY o) o.length + (hs.map fun l => sumTo (momY l) l.length).sum = Y at *
 have e1 : L * (3 * A) = 3 * L * A := by rw [Int.mul_comm 3 L, Int.mul_assoc]
 have e2 : U * (3 * A) = 3 * U * A := by rw [Int.mul_comm 3 U, Int.mul_assoc]
 exact ⟨round_bd (by omega) (by omega) (by omega), round_bd (by omega) (by omega) (by omega)⟩
theorem check_near_x {l : List Pt} (h : polyCheck l = 0) : ∀ c ∈ l, -32768 ≤ c.x ∧ c.x ≤ 32768 := fun c hc => by
 have := ((check_near h).2.2 c hc).h
 omega
theorem centre_in {p : Part} {m : Mats} (h : checkP p m = 0) : inV (centreP p m) 524288 := by
 unfold centreP centreRaw
 rw [if_pos h]
 by_cases f1 : formP p.kind = 1
 ·rw [if_pos f1]
  obtain ⟨ho, t1, t2, _⟩ := plate_ok h f1
  have hc := shape_centre ho (check_near_x ho.out)
  have hz := round_bd (a := p.thick) (b := 2) (L := 0) (U := 120) (by decide) (by omega) (by omega)
  unfold inV
  dsimp only
  omega
 rw [if_neg f1]
 by_cases f2 : formP p.kind = 2
 ·rw [if_pos f2]
  obtain ⟨l, _, t, _⟩ := beam_ok h f2
  have hx := round_bd (a := p.long) (b := 2) (L := 0) (U := 32768) (by decide) (by omega) (by omega)
  have hz := round_bd (a := (sectOf m p.sect).height) (b := 2) (L := 0) (U := 2000) (by decide) (by omega) (by omega)
  unfold inV
  dsimp only
  omega
 ·rw [if_neg f2]
  exact (item_ok h f1 f2).2.2
def movedP (p : Part) (v : Vec3) : Part := { p with at_ := ⟨wr64 (p.at_.x + v.x), wr64 (p.at_.y + v.y), wr64 (p.at_.z + v.z)⟩ }
theorem check_at {p : Part} {m : Mats} (h : checkP p m = 0) : inV p.at_ 524288 := (check_made h).2.2.2.2.1.1
theorem moved_mass {p : Part} {m : Mats} {v : Vec3} (h : checkP p m = 0) (k : checkP (movedP p v) m = 0) : massP (movedP p v) m = massP p m := by
 unfold massP
 rw [if_pos h, if_pos k]
 rfl
theorem moved_centre {p : Part} {m : Mats} {v : Vec3} (h : checkP p m = 0) (k : checkP (movedP p v) m = 0) : centreP (movedP p v) m = centreP p m := by
 unfold centreP
 rw [if_pos h, if_pos k]
 rfl
theorem apply_at {a c : Vec3} {k : Int} (ha : inV a 524288) (hc : inV c 524288) : applyV a k c = ⟨(turnV c k).x + a.x, (turnV c k).y + a.y, (turnV c k).z + a.z⟩ := by
 unfold applyV
 rw [if_neg]
 unfold inV at *
 omega
theorem mom_no_wrap {a x : Int} (ha : 0 ≤ a ∧ a ≤ 1099511627776) (hx : -1048576 ≤ x ∧ x ≤ 1048576) : wr64 (a * x) = a * x ∧ -1152921504606846976 ≤ a * x ∧ a * x ≤ 1152921504606846976 := by
 have := mul_bd (a := a) (b := x) (A := 1099511627776) (B := 1048576) (by omega) hx
 refine ⟨wrap64 (by omega) (by omega), by omega, by omega⟩
theorem mom_move {a t b d : Int} (ha : 0 ≤ a ∧ a ≤ 1099511627776) (ht : -524288 ≤ t ∧ t ≤ 524288) (hb : -524288 ≤ b ∧ b ≤ 524288) (hd : -1048576 ≤ d ∧ d ≤ 1048576) (hbd : -524288 ≤ b + d ∧ b + d ≤ 524288) : wr64 (a * (t + (b + d))) = wr64 (wr64 (a * (t + b)) + wr64 (a * d)) := by
 obtain ⟨e1, b1⟩ := mom_no_wrap (a := a) (x := t + (b + d)) ha (by omega)
 obtain ⟨e2, b2⟩ := mom_no_wrap (a := a) (x := t + b) ha (by omega)
 obtain ⟨e3, b3⟩ := mom_no_wrap (a := a) (x := d) ha hd
 rw [e1, e2, e3, wr64_eq (by omega) (by omega)]
 rw [← Int.mul_add]
 congr 1
 omega
theorem moved_weight {p : Part} {m : Mats} {v : Vec3} (hv : inV v 1048576) (h : checkP p m = 0) (k : checkP (movedP p v) m = 0) :
  weightP (movedP p v) m = ⟨massP p m, wr64 ((weightP p m).x + wr64 (massP p m * v.x)), wr64 ((weightP p m).y + wr64 (massP p m * v.y)), wr64 ((weightP p m).z + wr64 (massP p m * v.z)), (weightP p m).v⟩ := by
 have hm := mass_bd p m
 have hc := centre_in h
 have ha := check_at h
 have ka := check_at k
 have ht := turn_inV hc p.turn
 have e0 : (movedP p v).at_ = ⟨p.at_.x + v.x, p.at_.y + v.y, p.at_.z + v.z⟩ := by
  unfold movedP
  unfold inV at ha hv
  dsimp only
  rw [wr64_eq (n := p.at_.x + v.x) (by omega) (by omega), wr64_eq (n := p.at_.y + v.y) (by omega) (by omega), wr64_eq (n := p.at_.z + v.z) (by omega) (by omega)]
 have et : (movedP p v).turn = p.turn := rfl
 unfold weightP
 rw [if_pos h, if_pos k, moved_mass h k, moved_centre h k, et, apply_at ka hc, apply_at ha hc, e0]
 rw [e0] at ka
 unfold inV at ha ka ht hv
 dsimp only at ka ⊢
 rw [mom_move hm ht.1 ha.1 hv.1 ka.1, mom_move hm ht.2.1 ha.2.1 hv.2.1 ka.2.1, mom_move hm ht.2.2 ha.2.2 hv.2.2 ka.2.2]
theorem weight_m {p : Part} {m : Mats} (h : checkP p m = 0) : (weightP p m).m = massP p m := by
 unfold weightP
 rw [if_pos h]
theorem weight_zero {p : Part} {m : Mats} (h : checkP p m ≠ 0) : weightP p m = wt0 := by
 unfold weightP
 rw [if_neg h]
theorem wt0_eq {w : Wt} (h : w = wt0) : (decide (w.m = 0) && (decide (w.x = 0) && (decide (w.y = 0) && (decide (w.z = 0) && (decide (w.v = 0) && true))))) = true := by
 subst h
 rfl
theorem partMoves_pure (p : Part) (m : Mats) (v : Vec3) : Pure Tryz.prog 7 [partV p, matsV m, vecV v] fun v => v = .bool true := by
 refine pure_P vcPW_ok mixed (by kernel_rfl) (by kernel_rfl) _ (e_PartMoves p m v _ _) ?_
 have tt : True := trivial
 simp only [true_and, Nat.le_refl]
 refine ⟨p, rfl, ifD (fun h1 => ⟨m, rfl, ifD (fun h2 => ?_) (fun _ => tt)⟩) (fun _ => tt)⟩
 refine ifD (fun _ => tt) (fun b1 => ifD (fun _ => tt) (fun b2 => ifD (fun _ => tt) (fun b3 => ifD (fun _ => tt) (fun b4 => ifD (fun _ => tt) (fun b5 => ifD (fun _ => tt) (fun b6 => ?_))))))
 have hv : inV v 1048576 := by unfold inV; omega
 have q := few_fitq h1
 have f := few_mats h2
 have q2 : FitQ (movedP p v) := ⟨q.outer, q.holes, q.all, q.sum⟩
 refine ⟨p, m, rfl, q, f, by decide, movedP p v, m, rfl, q2, f, ?_⟩
 have zp : checkP p m ≠ 0 → weightP p m = wt0 := weight_zero
 have zq : checkP (movedP p v) m ≠ 0 → weightP (movedP p v) m = wt0 := weight_zero
 have two : checkP p m ≠ 0 ∨ checkP (movedP p v) m ≠ 0 → ∀ X : Prop, X → (checkP p m = 0 → X) := fun _ _ x _ => x
 clear two
 refine ifN (fun n1 => ?_) (fun n1 => ifN (fun n2 => ?_) (fun n2 => ?_))
 ·refine ifD (fun y => absurd y n1) (fun _ => pIf_intro (fun _ => ifD (fun _ => tt) (fun n2 => pIf_intro (fun _ => tt) (fun hf => ?_))) (fun hf => ?_))
  ·rw [wt0_eq (zq n2)] at hf; cases hf
  ·rw [wt0_eq (zp n1)] at hf; cases hf
 ·refine ifD (fun _ => ifD (fun y => absurd y n2) (fun _ => pIf_intro (fun _ => tt) (fun hf => ?_))) (fun n => absurd n1 n)
  rw [wt0_eq (zq n2)] at hf; cases hf
 have em := moved_mass n1 n2
 have ec := moved_centre n1 n2
 have ew := moved_weight hv n1 n2
 have hm := mass_bd p m
 refine ⟨p, m, rfl, q, f, movedP p v, m, rfl, q2, f, p, m, rfl, q, f, movedP p v, m, rfl, q2, f, ?_⟩
 rw [em, ec, ew, weight_m n1]
 dsimp only
 refine ifN (fun n => absurd n1 n) (fun _ => ifN (fun n => absurd n2 n) (fun _ => ifN (fun n => absurd n1 n) (fun _ => ifN (fun n => absurd n2 n) (fun _ => ?_))))
 refine ifN (fun n => absurd rfl n) (fun _ => pIf_intro (fun hf => ?_) (fun _ => ifN (fun n => absurd rfl n) (fun _ => ifD (fun n => by omega) (fun _ => ifD (fun n => by omega) (fun _ => pIf_intro (fun _ => tt) (fun hf => ?_))))))
 ·simp at hf
 ·simp at hf
end Go.Proofs.YtngginofamlkkaaGreatDoor
namespace Go.Proofs.YtngginofamlkkaaGreatDoor
open Go Go.RowKit Go.ChangeShapes Go.WideShapes Go.ChangeAt Go.Deep Go.Joins
theorem Tryz.own : ownKnob Tryz.prog.godebug = none := by kernel_rfl
theorem Tryz.laidOut : laidOutB Tryz.prog = true := by kernel_rfl
theorem trodAll_stays {H : Type} {enc : TypeId × Value → H} {P : Program} {W W' : World} {sp' : Nat → Bool} (hl : laidOutB P = true) : ∀ {ts : List TypeId} {vs : List Value} {ds : List (DataW H)} {ps : List MemPlace},
  (ts.all fun t => P.readableRec t && decide (t < P.types.size)) = true → DataW.TrodAll enc P W 0 (fun _ => true) true ts vs ds ps → (∀ p ∈ ps, W.sameAt W' p) → (∀ p ∈ ps, sp' p.block = true) →
  DataW.TrodAll enc P W' 0 sp' true ts vs ds ps := by
 intro ts
 induction ts with
 | nil =>
  intro vs ds ps _ h _ _
  obtain ⟨rfl, rfl, rfl⟩ := trodAll_nil h
  exact trodAll_mk0
 | cons t ts ih =>
  intro vs ds ps hr h hs hp
  obtain ⟨v, vs', d, ds', p, q, rfl, rfl, rfl, hd, hrest⟩ := trodAll_cons h
  simp only [List.all_cons, Bool.and_eq_true, decide_eq_true_eq] at hr
  exact trodAll_cons_mk (WideElems.Trod_stays hl hr.1.1 hr.1.2 hd (fun x hx => hs x (by simp [hx])) (fun x hx => hp x (by simp [hx])))
   (ih hr.2 hrest (fun x hx => hs x (by simp [hx])) (fun x hx => hp x (by simp [hx])))
end Go.Proofs.YtngginofamlkkaaGreatDoor

