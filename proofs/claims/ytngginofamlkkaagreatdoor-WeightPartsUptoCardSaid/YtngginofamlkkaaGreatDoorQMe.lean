/-
  Put together out of several texts, each in its own namespace's block. Conditions: as each theorem states them.
-/
import Derived.Test.YtngginofamlkkaaGreatDoorQSgb
import Derived.Test.YtngginofamlkkaaGreatDoorQLb
noncomputable section
namespace Go.Proofs.YtngginofamlkkaaGreatDoor
open Go Go.RowKit
set_option maxRecDepth 100000
set_option maxHeartbeats 8000000
def few15 (m : Mats) : Prop := m.grades.length ≤ 40 ∧ m.sects.length ≤ 40 ∧ (∀ g ∈ m.grades, g.gauges.length ≤ 30 ∧ g.name.size ≤ 40) ∧ ∀ s ∈ m.sects, s.name.size ≤ 40
instance (m : Mats) : Decidable (few15 m) := by unfold few15; infer_instance
theorem quart_inV {v : Vec3} {b : Int} (h : inV v b) : ∀ n, inV (quart n v) b
 | 0 => h
 | n + 1 => by
  have := quart_inV h n
  unfold inV at *
  unfold quart
  dsimp only
  omega
theorem turn_inV {v : Vec3} {b : Int} (h : inV v b) (k : Int) : inV (turnV v k) b := by
 have h1 := quart_inV h ((turnNo k).tmod 4).toNat
 unfold turnV
 generalize quart ((turnNo k).tmod 4).toNat v = u at *
 unfold inV at *
 unfold tiltV
 repeat' split
 all_goals ((try dsimp only); omega)
theorem round_bd {a b L U : Int} (hb : 0 < b) (h1 : L * b ≤ a) (h2 : a ≤ U * b) : L ≤ roundP a b ∧ roundP a b ≤ U := by
 unfold roundP
 obtain ⟨f1, f2⟩ := fdiv_char (a := 2 * a + b) (b := 2 * b) (by omega)
 generalize (2 * a + b).fdiv (2 * b) = f at *
 have e1 : 2 * b * f = 2 * (f * b) := by rw [Int.mul_assoc, Int.mul_comm b f]
 rw [e1] at f1 f2
 constructor
 ·refine Decidable.by_contra fun hn => ?_
  have := Int.mul_le_mul_of_nonneg_right (show f + 1 ≤ L by omega) (Int.le_of_lt hb)
  rw [Int.add_mul, Int.one_mul] at this
  omega
 ·refine Decidable.by_contra fun hn => ?_
  have := Int.mul_le_mul_of_nonneg_right (show U + 1 ≤ f by omega) (Int.le_of_lt hb)
  rw [Int.add_mul, Int.one_mul] at this
  omega
theorem shape_centre {o : List Pt} {hs : List (List Pt)} (h : ShapeOk o hs) {L U : Int} (hb : ∀ c ∈ o, L ≤ c.x ∧ c.x ≤ U) : (L ≤ roundP (rMomX o hs) (3 * rArea o hs) ∧ roundP (rMomX o hs) (3 * rArea o hs) ≤ U) ∧ (-32769 ≤ roundP (rMomY o hs) (3 * rArea o hs) ∧ roundP (rMomY o hs) (3 * rArea o hs) ≤ 32769) := by
 have ha := h.area
 have hx := h.centre hb
 have hy := h.centreY
 rw [h.rArea, h.rMomX, h.rMomY]
 generalize areaP o + (hs.map areaP).sum = A at *
 generalize sumTo (momX o) o.length + (hs.map fun l => sumTo (momX l) l.length).sum = X at *
 generalize sumTo (momY o) o.length + (hs.map fun l => sumTo (momY l) l.length).sum = Y at *
 have e1 : L * (3 * A) = 3 * L * A := by rw [Int.mul_comm 3 L, Int.mul_assoc]
 have e2 : U * (3 * A) = 3 * U * A := by rw [Int.mul_comm 3 U, Int.mul_assoc]
 exact ⟨round_bd (by omega) (by omega) (by omega), round_bd (by omega) (by omega) (by omega)⟩
theorem check_near_x {l : List Pt} (h : polyCheck l = 0) : ∀ c ∈ l, -32768 ≤ c.x ∧ c.x ≤ 32768 := fun c hc => by
 have := ((check_near h).2.2 c hc).h
 omega
theorem centre_in {p : Part} {m : Mats} (h : checkP p m = 0) : inV (centreP p m) 524288 := by
 unfold centreP centreRaw
 rw [if_pos h]
 by_cases f1 : formP p.kind = 1
 ·rw [if_pos f1]
  obtain ⟨ho, t1, t2, _⟩ := plate_ok h f1
  have hc := shape_centre ho (check_near_x ho.out)
  have hz := round_bd (a := p.thick) (b := 2) (L := 0) (U := 120) (by decide) (by omega) (by omega)
  unfold inV
  dsimp only
  omega
 rw [if_neg f1]
 by_cases f2 : formP p.kind = 2
 ·rw [if_pos f2]
  obtain ⟨l, _, t, _⟩ := beam_ok h f2
  have hx := round_bd (a := p.long) (b := 2) (L := 0) (U := 32768) (by decide) (by omega) (by omega)
  have hz := round_bd (a := (sectOf m p.sect).height) (b := 2) (L := 0) (U := 2000) (by decide) (by omega) (by omega)
  unfold inV
  dsimp only
  omega
 ·rw [if_neg f2]
  exact (item_ok h f1 f2).2.2
theorem check_at {p : Part} {m : Mats} (h : checkP p m = 0) : inV p.at_ 524288 := (check_made h).2.2.2.2.1.1
theorem apply_at {a c : Vec3} {k : Int} (ha : inV a 524288) (hc : inV c 524288) : applyV a k c = ⟨(turnV c k).x + a.x, (turnV c k).y + a.y, (turnV c k).z + a.z⟩ := by
 unfold applyV
 rw [if_neg]
 unfold inV at *
 omega
theorem mom_no_wrap {a x : Int} (ha : 0 ≤ a ∧ a ≤ 1099511627776) (hx : -1048576 ≤ x ∧ x ≤ 1048576) : wr64 (a * x) = a * x ∧ -1152921504606846976 ≤ a * x ∧ a * x ≤ 1152921504606846976 := by
 have := mul_bd (a := a) (b := x) (A := 1099511627776) (B := 1048576) (by omega) hx
 refine ⟨wrap64 (by omega) (by omega), by omega, by omega⟩
theorem chunks_pts (ks : List (List Pt)) : chunks 1 ks.length (List.drop 0 (ks.map fun a => trPt a)) = encL ks := by
 show ((List.drop 0 (ks.map fun a => trPt a)).take ks.length).toArray = _
 rw [List.drop_zero, List.take_of_length_le (by simp)]
 rfl
theorem nls_pts (ks : List (List Pt)) : NLs (ks.map fun a => trPt a) := fun v hv => by
 obtain ⟨a, _, rfl⟩ := List.mem_map.1 hv
 rfl
abbrev withHs (p : Part) (v : Value) : List Value := [.string p.id, .int .i64 p.rev, .int .i64 p.kind, .string p.node, .string p.grade, .int .i64 p.thick, trPt p.outer, v, .string p.sect, .int .i64 p.long, .int .i64 p.mass, .int .i64 p.centre.x, .int .i64 p.centre.y, .int .i64 p.centre.z, .int .i64 p.at_.x, .int .i64 p.at_.y, .int .i64 p.at_.z, .int .i64 p.turn]
def part0 : Part := ⟨⟨#[]⟩, 0, 0, ⟨#[]⟩, ⟨#[]⟩, 0, [], [], ⟨#[]⟩, 0, 0, ⟨0, 0, 0⟩, ⟨0, 0, 0⟩, 0⟩
def partOf (d : Design6) (s : ByteArray) : Option Part := d.parts.find? fun p => decide (p.id = s)
structure FitW (p : Part) : Prop where
 outer : p.outer.length * 16 ≤ 140737488355328
 holes : p.holes.length * 24 ≤ 140737488355328
 all : ∀ h ∈ p.holes, h.length * 16 ≤ 140737488355328
structure FitD (d : Design6) : Prop where
 len : Short d.parts
 fit : ∀ p ∈ d.parts, FitW p
def c_spart (args : List Value) (Post : Value → Prop) : Prop := ∃ (d : Design6) (s : ByteArray), args = [design6V d, .string s] ∧ FitD d ∧ Post (.tuple #[partV ((partOf d s).getD part0), .bool (partOf d s).isSome])
abbrev zeroP : List Value := [.string ⟨#[]⟩, .int .i64 0, .int .i64 0, .string ⟨#[]⟩, .string ⟨#[]⟩, .int .i64 0, .slice none 0 0, .slice none 0 0, .string ⟨#[]⟩, .int .i64 0, .int .i64 0, .int .i64 0, .int .i64 0, .int .i64 0, .int .i64 0, .int .i64 0, .int .i64 0, .int .i64 0]
def vcSp : VCall := cloneCall [(168, 1, 24)] (tabCall [⟨167, c_cloneT Pt 16⟩] noCall)
abbrev lpSp : List (Nat × List Nat) := [(2, [1, 4, 5, 11, 12, 13]), (7, [4, 7, 35, 36, 37])]
theorem e_spart (d : Design6) (s : ByteArray) (H : HT) (Post : PV) : vcP Tryz.prog vcSp 106 lpSp [design6V d, .string s] H Post = (T8 ((True ∧ True) ∧ H (lpC Tryz.prog 106 2) (lpK Tryz.prog 106 2) (stV [(1, some (vs s)), (4, some (pt 0)), (5, some (vb false)), (11, some (tree 18 (List.length (Design6.parts d)) (encL (Design6.parts d)))), (12, some (vi (↑(List.length (Design6.parts d)) : Int))), (13, some (vi 0))] [(0, some (AObj.cells [vz, vi 0, vi 0, vz, vz, vi 0, nS, nS, vz, vi 0, vi 0, vi 0, vi 0, vi 0, vi 0, vi 0, vi 0, vi 0] true))] 1))) := by kernel_rfl
theorem l_spart (d : Design6) (s : ByteArray) (n : Nat) (k : Int) (A : Array Value) (H : HT) (Post : PV) : vcLP Tryz.prog vcSp 106 [design6V d, .string s] lpSp 2 (stV [(1, some (.string s)), (4, some (.pointer (some ⟨0, 0, none⟩))), (5, some (.bool false)), (11, some (tree 18 n A)), (12, some (.int .i64 n)), (13, some (.int .i64 k))] [(0, some (.cells zeroP true))] 1) H Post = (let q2 := cellAt A (Int.toNat k) 7; let q1 := (0, some (AObj.cells [vz, vi 0, vi 0, vz, vz, vi 0, nS, nS, vz, vi 0, vi 0, vi 0, vi 0, vi 0, vi 0, vi 0, vi 0, vi 0] true)); True ∧ pIf (decide (k < (↑n : Int))) ((0 ≤ k ∧ k < (↑n : Int)) ∧ (cellAt A (Int.toNat k) 0 = vs (toS (cellAt A (Int.toNat k) 0)) ∧ cellAt A (Int.toNat k) 1 = vi (toI (cellAt A (Int.toNat k) 1)) ∧ cellAt A (Int.toNat k) 2 = vi (toI (cellAt A (Int.toNat k) 2)) ∧ cellAt A (Int.toNat k) 3 = vs (toS (cellAt A (Int.toNat k) 3)) ∧ cellAt A (Int.toNat k) 4 = vs (toS (cellAt A (Int.toNat k) 4)) ∧ cellAt A (Int.toNat k) 5 = vi (toI (cellAt A (Int.toNat k) 5)) ∧ cellAt A (Int.toNat k) 6 = tree 2 (toN (cellAt A (Int.toNat k) 6)) (toE (cellAt A (Int.toNat k) 6)) ∧ cellAt A (Int.toNat k) 7 = tree 1 (toN q2) (toE q2) ∧ cellAt A (Int.toNat k) 8 = vs (toS (cellAt A (Int.toNat k) 8)) ∧ cellAt A (Int.toNat k) 9 = vi (toI (cellAt A (Int.toNat k) 9)) ∧ cellAt A (Int.toNat k) 10 = vi (toI (cellAt A (Int.toNat k) 10)) ∧ cellAt A (Int.toNat k) 11 = vi (toI (cellAt A (Int.toNat k) 11)) ∧ cellAt A (Int.toNat k) 12 = vi (toI (cellAt A (Int.toNat k) 12)) ∧ cellAt A (Int.toNat k) 13 = vi (toI (cellAt A (Int.toNat k) 13)) ∧ cellAt A (Int.toNat k) 14 = vi (toI (cellAt A (Int.toNat k) 14)) ∧ cellAt A (Int.toNat k) 15 = vi (toI (cellAt A (Int.toNat k) 15)) ∧ cellAt A (Int.toNat k) 16 = vi (toI (cellAt A (Int.toNat k) 16)) ∧ cellAt A (Int.toNat k) 17 = vi (toI (cellAt A (Int.toNat k) 17)) ∧ True) ∧ True ∧ 18 ≤ 18 ∧ T4 (pIf (decide (toS (cellAt A (Int.toNat k) 0) = s)) (T4 (T2 (∃ (l : List Pt), eqL [tree 2 (toN (cellAt A (Int.toNat k) 6)) (toE (cellAt A (Int.toNat k) 6))] [tree 2 l.length (encL l)] ∧ List.length l * 16 ≤ 140737488355328 ∧ T2 (True ∧ (toN q2 * 24 ≤ 140737488355328 ∧ NLs (flatEls (toE q2))) ∧ (toN q2 = 0 → True ∧ 7 ≤ 18 ∧ T2 (True ∧ 8 ≤ 18 ∧ T4 (T2 (True ∧ (T2 (True)) ∧ H (lpC Tryz.prog 106 7) (lpK Tryz.prog 106 7) (stV [(4, some (pt 0)), (7, some (pt 1)), (35, some (tree 1 0 #[])), (36, some (vi (↑0 : Int))), (37, some (vi 0))] [q1, (1, some (AObj.cells [vs (toS (cellAt A (Int.toNat k) 0)), vi (toI (cellAt A (Int.toNat k) 1)), vi (toI (cellAt A (Int.toNat k) 2)), vs (toS (cellAt A (Int.toNat k) 3)), vs (toS (cellAt A (Int.toNat k) 4)), vi (toI (cellAt A (Int.toNat k) 5)), tree 2 l.length (encL l), tree 1 0 #[], vs (toS (cellAt A (Int.toNat k) 8)), vi (toI (cellAt A (Int.toNat k) 9)), vi (toI (cellAt A (Int.toNat k) 10)), vi (toI (cellAt A (Int.toNat k) 11)), vi (toI (cellAt A (Int.toNat k) 12)), vi (toI (cellAt A (Int.toNat k) 13)), vi (toI (cellAt A (Int.toNat k) 14)), vi (toI (cellAt A (Int.toNat k) 15)), vi (toI (cellAt A (Int.toNat k) 16)), vi (toI (cellAt A (Int.toNat k) 17))] true))] 2))))) ∧ (0 < toN q2 → True ∧ 7 ≤ 18 ∧ T2 (True ∧ 8 ≤ 18 ∧ T4 (T2 (True ∧ (T2 (NLs (flatEls (toE q2)) ∧ True)) ∧ H (lpC Tryz.prog 106 7) (lpK Tryz.prog 106 7) (stV [(4, some (pt 0)), (7, some (pt 1)), (35, some (Value.slice (some (Addr.mk 2 0 none)) (toN q2) 1)), (36, some (vi (↑(toN q2) : Int))), (37, some (vi 0))] [q1, (1, some (AObj.cells [vs (toS (cellAt A (Int.toNat k) 0)), vi (toI (cellAt A (Int.toNat k) 1)), vi (toI (cellAt A (Int.toNat k) 2)), vs (toS (cellAt A (Int.toNat k) 3)), vs (toS (cellAt A (Int.toNat k) 4)), vi (toI (cellAt A (Int.toNat k) 5)), tree 2 l.length (encL l), Value.slice (some (Addr.mk 2 0 none)) (toN q2) 1, vs (toS (cellAt A (Int.toNat k) 8)), vi (toI (cellAt A (Int.toNat k) 9)), vi (toI (cellAt A (Int.toNat k) 10)), vi (toI (cellAt A (Int.toNat k) 11)), vi (toI (cellAt A (Int.toNat k) 12)), vi (toI (cellAt A (Int.toNat k) 13)), vi (toI (cellAt A (Int.toNat k) 14)), vi (toI (cellAt A (Int.toNat k) 15)), vi (toI (cellAt A (Int.toNat k) 16)), vi (toI (cellAt A (Int.toNat k) 17))] true)), (2, some (AObj.cells (flatEls (toE q2)) true))] 3))))))))) (T2 (True ∧ (True ∧ True) ∧ H (lpC Tryz.prog 106 2) (lpK Tryz.prog 106 2) (stV [(1, some (vs s)), (4, some (pt 0)), (5, some (vb false)), (11, some (tree 18 n A)), (12, some (vi (↑n : Int))), (13, some (vi (IntKind.wrap IntKind.i64 (k + 1))))] [q1] 1))))) (((T16 (T2 (True))) ∧ True ∧ True) ∧ Post (Value.tuple #[Value.agg #[vz, vi 0, vi 0, vz, vz, vi 0, tree 2 0 #[], tree 1 0 #[], vz, vi 0, vi 0, vi 0, vi 0, vi 0, vi 0, vi 0, vi 0, vi 0], vb false]))) := by kernel_rfl
theorem m_spart0 (d : Design6) (s : ByteArray) (p : Part) (k : Int) (H : HT) (Post : PV) : vcLP Tryz.prog vcSp 106 [design6V d, .string s] lpSp 7 (stV [(4, some (.pointer (some ⟨0, 0, none⟩))), (7, some (.pointer (some ⟨1, 0, none⟩))), (35, some (tree 1 0 #[])), (36, some (.int .i64 0)), (37, some (.int .i64 k))] [(0, some (.cells zeroP true)), (1, some (.cells (withHs p (tree 1 0 #[])) true))] 2) H Post = (True ∧ pIf (decide (k < 0)) (True ∧ (0 ≤ k ∧ k < (↑0 : Int)) ∧ False) (True ∧ 18 ≤ 18 ∧ True ∧ ((T16 (T2 (True))) ∧ True ∧ True) ∧ Post (Value.tuple #[Value.agg #[vs p.id, vi p.rev, vi p.kind, vs p.node, vs p.grade, vi p.thick, tree 2 p.outer.length (encL p.outer), tree 1 0 #[], vs p.sect, vi p.long, vi p.mass, vi p.centre.x, vi p.centre.y, vi p.centre.z, vi p.at_.x, vi p.at_.y, vi p.at_.z, vi p.turn], vb true]))) := by kernel_rfl
theorem m_spart1 (d : Design6) (s : ByteArray) (p : Part) (n : Nat) (k : Int) (l : List Value) (H : HT) (Post : PV) : vcLP Tryz.prog vcSp 106 [design6V d, .string s] lpSp 7 (stV [(4, some (.pointer (some ⟨0, 0, none⟩))), (7, some (.pointer (some ⟨1, 0, none⟩))), (35, some (.slice (some ⟨2, 0, none⟩) n 1)), (36, some (.int .i64 n)), (37, some (.int .i64 k))] [(0, some (.cells zeroP true)), (1, some (.cells (withHs p (.slice (some ⟨2, 0, none⟩) n 1)) true)), (2, some (.cells l true))] 3) H Post = (let q1 := List.getD l (0 + Int.toNat k * 1) undef; True ∧ pIf (decide (k < (↑n : Int))) (True ∧ (0 ≤ k ∧ k < (↑n : Int)) ∧ List.getD l (0 + Int.toNat k * 1) undef = tree 2 (toN q1) (toE q1) ∧ T4 (T2 (True ∧ ∃ (l_1 : List Pt), eqL [tree 2 (toN q1) (toE q1)] [tree 2 l_1.length (encL l_1)] ∧ List.length l_1 * 16 ≤ 140737488355328 ∧ True ∧ (0 ≤ k ∧ k < (↑n : Int)) ∧ 0 + Int.toNat k * 1 + 1 ≤ List.length l ∧ T4 ((T2 (NLs (setFrom l (0 + Int.toNat k * 1) [tree 2 l_1.length (encL l_1)]) ∧ True)) ∧ H (lpC Tryz.prog 106 7) (lpK Tryz.prog 106 7) (stV [(4, some (pt 0)), (7, some (pt 1)), (35, some (Value.slice (some (Addr.mk 2 0 none)) n 1)), (36, some (vi (↑n : Int))), (37, some (vi (IntKind.wrap IntKind.i64 (k + 1))))] [(0, some (AObj.cells [vz, vi 0, vi 0, vz, vz, vi 0, nS, nS, vz, vi 0, vi 0, vi 0, vi 0, vi 0, vi 0, vi 0, vi 0, vi 0] true)), (1, some (AObj.cells [vs p.id, vi p.rev, vi p.kind, vs p.node, vs p.grade, vi p.thick, tree 2 p.outer.length (encL p.outer), Value.slice (some (Addr.mk 2 0 none)) n 1, vs p.sect, vi p.long, vi p.mass, vi p.centre.x, vi p.centre.y, vi p.centre.z, vi p.at_.x, vi p.at_.y, vi p.at_.z, vi p.turn] true)), (2, some (AObj.cells (setFrom l (0 + Int.toNat k * 1) [tree 2 l_1.length (encL l_1)]) true))] 3))))) (True ∧ 18 ≤ 18 ∧ True ∧ ((T4 (T2 (True ∧ (0 + n * 1 ≤ List.length l ∧ NLs l) ∧ T8 (T2 (True))))) ∧ True ∧ True) ∧ Post (Value.tuple #[Value.agg #[vs p.id, vi p.rev, vi p.kind, vs p.node, vs p.grade, vi p.thick, tree 2 p.outer.length (encL p.outer), tree 1 n (chunks 1 n (List.drop 0 l)), vs p.sect, vi p.long, vi p.mass, vi p.centre.x, vi p.centre.y, vi p.centre.z, vi p.at_.x, vi p.at_.y, vi p.at_.z, vi p.turn], vb true]))) := by kernel_rfl
theorem vcSp_ok : VCallOk Tryz.prog vcSp := cloneCall_ok (by
 intro e he
 simp only [List.mem_cons, List.not_mem_nil, or_false] at he
 subst he
 exact cloneFH) (tabCall_ok (by
 intro e he
 simp only [List.mem_cons, List.not_mem_nil, or_false] at he
 subst he
 exact ok_cloneP) noCall_ok)
theorem cell_part {l : List Part} {k : Nat} (h : k < l.length) (j : Nat) : cellAt (encL l) k j = ((partC l[k])[j]?).getD undef := cellAt_encL' h
theorem flatE_pts (l : List (List Pt)) : flatEls (encL l) = l.map fun a => trPt a := flat_pts l
theorem set_same {l : List Value} {k : Nat} {v : Value} (h : l[k]? = some v) : setFrom l k [v] = l := by
 show l.set k v = l
 obtain ⟨hk, rfl⟩ := List.getElem?_eq_some_iff.1 h
 exact List.set_getElem_self hk
theorem partOf_at {d : Design6} {s : ByteArray} {k : Nat} (hk : k < d.parts.length) (hp : d.parts[k].id = s) (hb : ∀ j (hj : j < d.parts.length), j < k → ¬ d.parts[j].id = s) : partOf d s = some d.parts[k] := find_at hk hp hb
theorem ok_spart : EntOk Tryz.prog ⟨106, c_spart⟩ := by
 rintro args Post ⟨d, s, rfl, hf, h⟩
 refine pure_P vcSp_ok mixed (by kernel_rfl) (by kernel_rfl) _ (e_spart d s _ _) ?_
 simp only [true_and]
 refine down (n := d.parts.length) (p := fun k => (∀ j (hj : j < d.parts.length), j < k → ¬ d.parts[j].id = s) → OkP 106 [design6V d, .string s] 2 Post (stV [(1, some (.string s)), (4, some (.pointer (some ⟨0, 0, none⟩))), (5, some (.bool false)), (11, some (tree 18 d.parts.length (encL d.parts))), (12, some (.int .i64 d.parts.length)), (13, some (.int .i64 k))] [(0, some (.cells zeroP true))] 1)) (fun hall => ?_) (fun k k1 ih hall => ?_) (fun i _ hi => by omega)
 ·refine ok_P vcSp_ok mixed _ (l_spart d s d.parts.length d.parts.length (encL d.parts) _ _) ?_
  simp only [true_and]
  have e : partOf d s = none := by
   unfold partOf
   rw [List.find?_eq_none]
   intro g hg
   obtain ⟨i, hi, rfl⟩ := List.mem_iff_getElem.1 hg
   simpa using hall i hi hi
  rw [e] at h
  exact ifD (fun hlt => by omega) (fun _ => h)
 ·refine ok_P vcSp_ok mixed _ (l_spart d s d.parts.length k (encL d.parts) _ _) ?_
  have hk : ((k : Nat) : Int).toNat = k := Int.toNat_natCast k
  have ks := hf.len
  have fp := hf.fit _ (List.getElem_mem k1)
  simp only [hk, cell_part k1]
  have hp : ∀ p : Part, p = d.parts[k] → FitW p := fun p hp => by rw [hp]; exact fp
  have hfound : d.parts[k].id = s → Post (.tuple #[partV d.parts[k], .bool true]) := fun he => by
   have e := partOf_at k1 he (fun j hj hjk => hall j hj hjk)
   rw [e] at h
   exact h
  have hnext : ¬ d.parts[k].id = s → OkP 106 [design6V d, .string s] 2 Post (stV [(1, some (.string s)), (4, some (.pointer (some ⟨0, 0, none⟩))), (5, some (.bool false)), (11, some (tree 18 d.parts.length (encL d.parts))), (12, some (.int .i64 d.parts.length)), (13, some (.int .i64 ((k + 1 : Nat) : Int)))] [(0, some (.cells zeroP true))] 1) := fun he => ih fun j hj hjk => by
   rcases Nat.lt_or_ge j k with h' | h'
   ·exact hall j hj h'
   ·have : j = k := by omega
    subst this
    exact he
  clear ih hall h
  generalize d.parts[k] = p at *
  simp only [partC, toI_int, toS_string, toN_tree, toE_tree, true_and, and_true, Nat.le_refl, wrapSucc (show k < 2 ^ 62 by omega), flatE_pts, List.getElem?_cons_zero, List.getElem?_cons_succ, Option.getD_some]
  refine ifD (fun _ => ⟨⟨by omega, by omega⟩, ifD (fun he => ⟨p.outer, rfl, fp.outer, ⟨fp.holes, nls_pts _⟩, fun h0 => ⟨by decide, by decide, ?_⟩, fun h0 => ⟨by decide, by decide, nls_pts _, ?_⟩⟩) (fun he => hnext he)⟩) (fun h' => by omega)
  ·refine ok_P vcSp_ok mixed _ (m_spart0 d s p 0 _ _) ?_
   simp only [true_and, and_true, Nat.le_refl]
   refine ifD (fun hlt => by omega) (fun _ => ?_)
   have e : p.holes = [] := List.eq_nil_of_length_eq_zero h0
   have hp := hfound he
   have e2 : tree 1 0 #[] = trPts p.holes := by rw [e]; rfl
   rw [e2]
   exact hp
  ·refine down (n := p.holes.length) (p := fun j => OkP 106 [design6V d, .string s] 7 Post (stV [(4, some (.pointer (some ⟨0, 0, none⟩))), (7, some (.pointer (some ⟨1, 0, none⟩))), (35, some (.slice (some ⟨2, 0, none⟩) p.holes.length 1)), (36, some (.int .i64 p.holes.length)), (37, some (.int .i64 j))] [(0, some (.cells zeroP true)), (1, some (.cells (withHs p (.slice (some ⟨2, 0, none⟩) p.holes.length 1)) true)), (2, some (.cells (p.holes.map fun a => trPt a) true))] 3)) ?_ (fun j j1 jh => ?_)
   ·refine ok_P vcSp_ok mixed _ (m_spart1 d s p p.holes.length p.holes.length (p.holes.map fun a => trPt a) _ _) ?_
    simp only [true_and, and_true, Nat.le_refl]
    refine ifD (fun hlt => by omega) (fun _ => ⟨⟨by simp, nls_pts _⟩, ?_⟩)
    rw [chunks_pts]
    exact hfound he
   ·refine ok_P vcSp_ok mixed _ (m_spart1 d s p p.holes.length j (p.holes.map fun a => trPt a) _ _) ?_
    have hj : ((j : Nat) : Int).toNat = j := Int.toNat_natCast j
    have hg : (p.holes.map fun a => trPt a)[j]? = some (trPt p.holes[j]) := by rw [List.getElem?_map, List.getElem?_eq_getElem j1]; rfl
    have hd : (p.holes.map fun a => trPt a).getD j undef = trPt p.holes[j] := by rw [List.getD_eq_getElem?_getD, hg]; rfl
    have hl := fp.holes
    simp only [true_and, and_true, Nat.le_refl, hj, Nat.zero_add, Nat.mul_one, hd, toN_tree, toE_tree, wrapSucc (show j < 2 ^ 62 by omega)]
    refine ifD (fun _ => ⟨⟨by omega, by omega⟩, p.holes[j], rfl, fp.all _ (List.getElem_mem j1), ⟨by omega, by omega⟩, by simp; omega, ?_, ?_⟩) (fun h' => by omega)
    ·rw [set_same hg]
     exact nls_pts _
    ·rw [set_same hg]
     exact jh
theorem e_rpart (d : Design6) (s : ByteArray) (H : HT) (Post : PV) : vcP Tryz.prog noCall 108 [(2, [1, 2, 4, 6])] [design6V d, .string s] H Post = (T4 (True ∧ (T2 (True)) ∧ H (lpC Tryz.prog 108 2) (lpK Tryz.prog 108 2) (stV [(1, some (vs s)), (2, some (pt 0)), (4, some (pt 1)), (6, some (vi 0))] [(0, some (AObj.cells [vs (Design6.hull d), tree 3 (List.length (Design6.nodes d)) (encL (Design6.nodes d)), tree 18 (List.length (Design6.parts d)) (encL (Design6.parts d)), tree 6 (List.length (Design6.seams d)) (encL (Design6.seams d)), tree 5 (List.length (Design6.packs d)) (encL (Design6.packs d)), tree 3 (List.length (Design6.needs d)) (encL (Design6.needs d))] true)), (1, some (AObj.cells [vz, vi 0, vi 0, vz, vz, vi 0, nS, nS, vz, vi 0, vi 0, vi 0, vi 0, vi 0, vi 0, vi 0, vi 0, vi 0] true))] 2))) := by kernel_rfl
theorem l_rpart (d : Design6) (s : ByteArray) (k : Int) (H : HT) (Post : PV) : vcLP Tryz.prog noCall 108 [design6V d, .string s] [(2, [1, 2, 4, 6])] 2 (stV [(1, some (.string s)), (2, some (.pointer (some ⟨0, 0, none⟩))), (4, some (.pointer (some ⟨1, 0, none⟩))), (6, some (.int .i64 k))] [(0, some (.cells (design6C d) true)), (1, some (.cells zeroP true))] 2) H Post = (let q2 := List.length (Design6.parts d); let q1 := encL (Design6.parts d); T4 (True ∧ pIf (decide (k < (↑q2 : Int))) (T2 (True ∧ (0 ≤ k ∧ k < (↑q2 : Int)) ∧ True ∧ cellAt q1 (Int.toNat k) 0 = vs (toS (cellAt q1 (Int.toNat k) 0)) ∧ T2 (pIf (decide (toS (cellAt q1 (Int.toNat k) 0) = s)) (T2 (True ∧ (0 ≤ k ∧ k < (↑q2 : Int)) ∧ (cellAt q1 (Int.toNat k) 0 = vs (toS (cellAt q1 (Int.toNat k) 0)) ∧ cellAt q1 (Int.toNat k) 1 = vi (toI (cellAt q1 (Int.toNat k) 1)) ∧ cellAt q1 (Int.toNat k) 2 = vi (toI (cellAt q1 (Int.toNat k) 2)) ∧ cellAt q1 (Int.toNat k) 3 = vs (toS (cellAt q1 (Int.toNat k) 3)) ∧ cellAt q1 (Int.toNat k) 4 = vs (toS (cellAt q1 (Int.toNat k) 4)) ∧ cellAt q1 (Int.toNat k) 5 = vi (toI (cellAt q1 (Int.toNat k) 5)) ∧ cellAt q1 (Int.toNat k) 6 = tree 2 (toN (cellAt q1 (Int.toNat k) 6)) (toE (cellAt q1 (Int.toNat k) 6)) ∧ cellAt q1 (Int.toNat k) 7 = tree 1 (toN (cellAt q1 (Int.toNat k) 7)) (toE (cellAt q1 (Int.toNat k) 7)) ∧ cellAt q1 (Int.toNat k) 8 = vs (toS (cellAt q1 (Int.toNat k) 8)) ∧ cellAt q1 (Int.toNat k) 9 = vi (toI (cellAt q1 (Int.toNat k) 9)) ∧ cellAt q1 (Int.toNat k) 10 = vi (toI (cellAt q1 (Int.toNat k) 10)) ∧ cellAt q1 (Int.toNat k) 11 = vi (toI (cellAt q1 (Int.toNat k) 11)) ∧ cellAt q1 (Int.toNat k) 12 = vi (toI (cellAt q1 (Int.toNat k) 12)) ∧ cellAt q1 (Int.toNat k) 13 = vi (toI (cellAt q1 (Int.toNat k) 13)) ∧ cellAt q1 (Int.toNat k) 14 = vi (toI (cellAt q1 (Int.toNat k) 14)) ∧ cellAt q1 (Int.toNat k) 15 = vi (toI (cellAt q1 (Int.toNat k) 15)) ∧ cellAt q1 (Int.toNat k) 16 = vi (toI (cellAt q1 (Int.toNat k) 16)) ∧ cellAt q1 (Int.toNat k) 17 = vi (toI (cellAt q1 (Int.toNat k) 17)) ∧ True) ∧ 18 ≤ 18 ∧ True ∧ ((T16 (T2 (True))) ∧ True ∧ True) ∧ Post (Value.tuple #[Value.agg #[vs (toS (cellAt q1 (Int.toNat k) 0)), vi (toI (cellAt q1 (Int.toNat k) 1)), vi (toI (cellAt q1 (Int.toNat k) 2)), vs (toS (cellAt q1 (Int.toNat k) 3)), vs (toS (cellAt q1 (Int.toNat k) 4)), vi (toI (cellAt q1 (Int.toNat k) 5)), tree 2 (toN (cellAt q1 (Int.toNat k) 6)) (toE (cellAt q1 (Int.toNat k) 6)), tree 1 (toN (cellAt q1 (Int.toNat k) 7)) (toE (cellAt q1 (Int.toNat k) 7)), vs (toS (cellAt q1 (Int.toNat k) 8)), vi (toI (cellAt q1 (Int.toNat k) 9)), vi (toI (cellAt q1 (Int.toNat k) 10)), vi (toI (cellAt q1 (Int.toNat k) 11)), vi (toI (cellAt q1 (Int.toNat k) 12)), vi (toI (cellAt q1 (Int.toNat k) 13)), vi (toI (cellAt q1 (Int.toNat k) 14)), vi (toI (cellAt q1 (Int.toNat k) 15)), vi (toI (cellAt q1 (Int.toNat k) 16)), vi (toI (cellAt q1 (Int.toNat k) 17))], vb true]))) (T4 ((T2 (True)) ∧ H (lpC Tryz.prog 108 2) (lpK Tryz.prog 108 2) (stV [(1, some (vs s)), (2, some (pt 0)), (4, some (pt 1)), (6, some (vi (IntKind.wrap IntKind.i64 (k + 1))))] [(0, some (AObj.cells [vs (Design6.hull d), tree 3 (List.length (Design6.nodes d)) (encL (Design6.nodes d)), tree 18 q2 q1, tree 6 (List.length (Design6.seams d)) (encL (Design6.seams d)), tree 5 (List.length (Design6.packs d)) (encL (Design6.packs d)), tree 3 (List.length (Design6.needs d)) (encL (Design6.needs d))] true)), (1, some (AObj.cells [vz, vi 0, vi 0, vz, vz, vi 0, nS, nS, vz, vi 0, vi 0, vi 0, vi 0, vi 0, vi 0, vi 0, vi 0, vi 0] true))] 2)))))) (True ∧ 18 ≤ 18 ∧ True ∧ ((T16 (T2 (True))) ∧ True ∧ True) ∧ Post (Value.tuple #[Value.agg #[vz, vi 0, vi 0, vz, vz, vi 0, tree 2 0 #[], tree 1 0 #[], vz, vi 0, vi 0, vi 0, vi 0, vi 0, vi 0, vi 0, vi 0, vi 0], vb false])))) := by kernel_rfl
instance : Enc Wt where
 sz := 5
 cells w := [.int .i64 w.m, .int .i64 w.x, .int .i64 w.y, .int .i64 w.z, .int .i64 w.v]
 len _ := rfl
 nl p := by intro v hv; simp at hv; rcases hv with rfl | rfl | rfl | rfl | rfl <;> rfl
def okWt (w : Wt) : Prop := (0 ≤ w.m ∧ w.m ≤ 1099511627776) ∧ (-1152921504606846976 ≤ w.x ∧ w.x ≤ 1152921504606846976) ∧ (-1152921504606846976 ≤ w.y ∧ w.y ≤ 1152921504606846976) ∧ (-1152921504606846976 ≤ w.z ∧ w.z ≤ 1152921504606846976) ∧ (0 ≤ w.v ∧ w.v ≤ 1152921504606846976)
instance (w : Wt) : Decidable (okWt w) := by unfold okWt; infer_instance
def wErr (w : Wt) : Int := if okWt w then 0 else 9
def c_wchk (args : List Value) (Post : Value → Prop) : Prop := ∃ w : Wt, args = [wtV w] ∧ Post (.int .i64 (wErr w))
theorem e_wchk (w : Wt) (H : HT) (Post : PV) : vcP Tryz.prog (inlCall Tryz.prog [164] noCall 2) 105 [] [wtV w] H Post = (T8 (pIf (decide (Wt.m w ≥ 0)) (T4 (pIf (decide (Wt.m w ≤ 1099511627776)) (T8 (T2 (pIf (decide (Wt.v w ≥ 0)) (T4 (pIf (decide (Wt.v w ≤ 1152921504606846976)) (T16 (T4 (pIf (decide (Wt.x w ≥ -1152921504606846976)) (T4 (pIf (decide (Wt.x w ≤ 1152921504606846976)) (T8 (T4 (True ∧ pIf (decide (Wt.y w ≥ -1152921504606846976)) (T4 (pIf (decide (Wt.y w ≤ 1152921504606846976)) (T8 (T4 (True ∧ pIf (decide (Wt.z w ≥ -1152921504606846976)) (T4 (pIf (decide (Wt.z w ≤ 1152921504606846976)) (T8 (Post (vi 0))) (T4 (True ∧ Post (vi 9))))) (T4 (T2 (Post (vi 9))))))) (T4 (True ∧ Post (vi 9))))) (T4 (T2 (Post (vi 9))))))) (T4 (True ∧ Post (vi 9))))) (T4 (T2 (Post (vi 9))))))) (T4 (T2 (Post (vi 9)))))) (T4 (T2 (True ∧ Post (vi 9))))))) (T4 (T2 (True ∧ Post (vi 9)))))) (T8 (Post (vi 9))))) := by kernel_rfl
theorem e_rwchk (w : Wt) (H : HT) (Post : PV) : vcP Tryz.prog noCall 176 [] [wtV w] H Post = (let q1 := T2 (True ∧ Post (vi 9)); T4 (True ∧ pIf (decide (Wt.m w < 0)) (T16 (T4 (Post (vi 9)))) (T4 (pIf (decide (Wt.m w > 1099511627776)) (T16 q1) (T4 (True ∧ pIf (decide (Wt.x w < -1152921504606846976)) (T16 (True ∧ Post (vi 9))) (T4 (True ∧ pIf (decide (Wt.x w > 1152921504606846976)) (T8 (T4 q1)) (T4 (True ∧ pIf (decide (Wt.y w < -1152921504606846976)) (T8 (T4 (True ∧ Post (vi 9)))) (T4 (True ∧ pIf (decide (Wt.y w > 1152921504606846976)) (T8 q1) (T4 (True ∧ pIf (decide (Wt.z w < -1152921504606846976)) (T8 (True ∧ Post (vi 9))) (T4 (True ∧ pIf (decide (Wt.z w > 1152921504606846976)) (T4 q1) (T4 (True ∧ pIf (decide (Wt.v w < 0)) (T4 (True ∧ Post (vi 9))) (T4 (True ∧ pIf (decide (Wt.v w > 1152921504606846976)) q1 (T2 (True ∧ Post (vi 0))))))))))))))))))))))) := by kernel_rfl
def fits64 (n : Int) : Prop := -9223372036854775808 ≤ n ∧ n < 9223372036854775808
instance (n : Int) : Decidable (fits64 n) := by unfold fits64; infer_instance
def sumV (l : List Int) : Int := if fits64 l.sum then l.sum else 0
def sumE (l : List Int) : Int := if fits64 l.sum then 0 else 21
def c_sum (args : List Value) (Post : Value → Prop) : Prop := ∃ l : List Int, args = [tree 1 l.length (encL l)] ∧ l.length ≤ 65536 ∧ (∀ x ∈ l, fits64 x) ∧ Post (.tuple #[.int .i64 (sumV l), .int .i64 (sumE l)])
def vcSu : VCall := noCall
theorem e_nsum (n : Nat) (A : Array Value) (H : HT) (Post : PV) : vcP Tryz.prog vcSu 220 [(3, [4, 5, 11, 12, 13])] [tree 1 n A] H Post = (T8 (True ∧ H (lpC Tryz.prog 220 3) (lpK Tryz.prog 220 3) (stV [(4, some (vi 0)), (5, some (Value.int IntKind.u64 0)), (11, some (tree 1 n A)), (12, some (vi (↑n : Int))), (13, some (vi 0))] [] 0))) := by kernel_rfl
theorem l_nsum (n : Nat) (hi lo k : Int) (A : Array Value) (H : HT) (Post : PV) : vcLP Tryz.prog vcSu 220 [tree 1 n A] [(3, [4, 5, 11, 12, 13])] 3 (stV [(4, some (.int .i64 hi)), (5, some (.int .u64 lo)), (11, some (tree 1 n A)), (12, some (.int .i64 n)), (13, some (.int .i64 k))] [] 0) H Post = (let q2 := lo + IntKind.wrap IntKind.u64 (toI (cellAt A (Int.toNat k) 0)) + 0; let q1 := T2 (True ∧ pIf (decide (IntKind.wrap IntKind.i64 lo < 0)) (T4 (True ∧ (T2 (True)) ∧ Post (Value.tuple #[vi (IntKind.wrap IntKind.i64 lo), vi 0]))) (T4 ((T2 (True)) ∧ Post (Value.tuple #[vi 0, vi 21])))); True ∧ pIf (decide (k < (↑n : Int))) ((0 ≤ k ∧ k < (↑n : Int)) ∧ cellAt A (Int.toNat k) 0 = vi (toI (cellAt A (Int.toNat k) 0)) ∧ T4 ((ExtIs Tryz.prog 244 add64Entry ∧ 0 ≤ lo ∧ 0 ≤ IntKind.wrap IntKind.u64 (toI (cellAt A (Int.toNat k) 0)) ∧ toI (vi 0) ≤ 0 ∧ toI (vi 0) ≤ 1) ∧ T8 (T4 (T2 (pIf (decide (toI (cellAt A (Int.toNat k) 0) < 0)) (T4 (T2 (True ∧ H (lpC Tryz.prog 220 3) (lpK Tryz.prog 220 3) (stV [(4, some (vi (IntKind.wrap IntKind.i64 (IntKind.wrap IntKind.i64 (hi + IntKind.wrap IntKind.i64 (q2 / 18446744073709551616)) - 1)))), (5, some (Value.int IntKind.u64 (q2 % 18446744073709551616))), (11, some (tree 1 n A)), (12, some (vi (↑n : Int))), (13, some (vi (IntKind.wrap IntKind.i64 (k + 1))))] [] 0)))) (T4 (H (lpC Tryz.prog 220 3) (lpK Tryz.prog 220 3) (stV [(4, some (vi (IntKind.wrap IntKind.i64 (hi + IntKind.wrap IntKind.i64 (q2 / 18446744073709551616))))), (5, some (Value.int IntKind.u64 (q2 % 18446744073709551616))), (11, some (tree 1 n A)), (12, some (vi (↑n : Int))), (13, some (vi (IntKind.wrap IntKind.i64 (k + 1))))] [] 0)))))))) (T4 (True ∧ pIf (decide (hi = 0)) (T2 (True ∧ pIf (decide (IntKind.wrap IntKind.i64 lo ≥ 0)) (T4 (T2 ((T2 (True)) ∧ Post (Value.tuple #[vi (IntKind.wrap IntKind.i64 lo), vi 0])))) (T4 (pIf (decide (hi = -1)) q1 (T4 (True ∧ (T2 (True)) ∧ Post (Value.tuple #[vi 0, vi 21]))))))) (T4 (True ∧ pIf (decide (hi = -1)) q1 (T4 (True ∧ (T2 (True)) ∧ Post (Value.tuple #[vi 0, vi 21])))))))) := by kernel_rfl
theorem e_rsum (n : Nat) (A : Array Value) (H : HT) (Post : PV) : vcP Tryz.prog noCall 177 [(3, [0, 4, 5, 6])] [tree 1 n A] H Post = (T4 (T2 (True ∧ H (lpC Tryz.prog 177 3) (lpK Tryz.prog 177 3) (stV [(0, some (tree 1 n A)), (4, some (vi 0)), (5, some (vi 0)), (6, some (vi 0))] [] 0)))) := by kernel_rfl
theorem l_rsum (n : Nat) (hi lo k : Int) (A : Array Value) (H : HT) (Post : PV) : vcLP Tryz.prog noCall 177 [tree 1 n A] [(3, [0, 4, 5, 6])] 3 (stV [(0, some (tree 1 n A)), (4, some (.int .i64 hi)), (5, some (.int .i64 lo)), (6, some (.int .i64 k))] [] 0) H Post = (let q1 := toI (cellAt A (Int.toNat k) 0); T4 (pIf (decide (k < (↑n : Int))) (T2 (True ∧ (0 ≤ k ∧ k < (↑n : Int)) ∧ cellAt A (Int.toNat k) 0 = vi q1 ∧ toI (vi 0) ≤ 32 ∧ T4 (True ∧ (0 ≤ k ∧ k < (↑n : Int)) ∧ cellAt A (Int.toNat k) 0 = vi q1 ∧ T8 (H (lpC Tryz.prog 177 3) (lpK Tryz.prog 177 3) (stV [(0, some (tree 1 n A)), (4, some (vi (IntKind.wrap IntKind.i64 (hi + Int.fdiv q1 (2 ^ 32))))), (5, some (vi (IntKind.wrap IntKind.i64 (lo + IntKind.wrap IntKind.i64 (↑(BitVec.toNat (BitVec.ofInt 64 q1 &&& BitVec.ofInt 64 4294967295)) : Int))))), (6, some (vi (IntKind.wrap IntKind.i64 (k + 1))))] [] 0))))) (T2 (toI (vi 0) ≤ 32 ∧ T4 (pIf (decide (IntKind.wrap IntKind.i64 (hi + Int.fdiv lo (2 ^ 32)) < -2147483648)) (T4 ((T2 (True)) ∧ Post (Value.tuple #[vi 0, vi 21]))) (T2 (True ∧ pIf (decide (IntKind.wrap IntKind.i64 (hi + Int.fdiv lo (2 ^ 32)) ≥ 2147483648)) (T2 (True ∧ (T2 (True)) ∧ Post (Value.tuple #[vi 0, vi 21]))) (T2 (toI (vi 0) ≤ 32 ∧ T4 (True ∧ (T2 (True)) ∧ Post (Value.tuple #[vi (IntKind.wrap IntKind.i64 (IntKind.wrap IntKind.i64 (IntKind.wrap IntKind.i64 (hi + Int.fdiv lo (2 ^ 32)) * 2 ^ 32) + IntKind.wrap IntKind.i64 (↑(BitVec.toNat (BitVec.ofInt 64 lo &&& BitVec.ofInt 64 4294967295)) : Int))), vi 0]))))))))))) := by kernel_rfl
def fldW : Nat → Wt → Int
 | 0 => (·.m) | 1 => (·.x) | 2 => (·.y) | 3 => (·.z) | _ => (·.v)
abbrev fnT (f n : Nat) (A : Array Value) : Value := .func (.func f) #[tree 5 n A] #[]
def vcTo : VCall := inlCall Tryz.prog [171, 172, 173, 174, 175] (tabCallF Tryz.prog [⟨220, c_sum⟩] noCall) 2
theorem e_total0 (n : Nat) (A : Array Value) (H : HT) (Post : PV) : vcP Tryz.prog vcTo 170 [(3, [1, 6, 13, 14])] [.int .i64 n, fnT 171 n A] H Post = (T2 (True ∧ (0 ≤ (↑n : Int) ∧ (↑n : Int) ≤ (↑n : Int) ∧ (↑n : Int) ≤ 2 ^ 25) ∧ T4 (True ∧ (NLs (zrow (Int.toNat (↑n : Int)) [vi 0]) ∧ True) ∧ H (lpC Tryz.prog 170 3) (lpK Tryz.prog 170 3) (stV [(1, some (Value.func (Fn.func 171) #[tree 5 n A] #[])), (6, some (Value.slice (some (Addr.mk 0 0 none)) (Int.toNat (↑n : Int)) 1)), (13, some (vi (↑(Int.toNat (↑n : Int)) : Int))), (14, some (vi 0))] [(0, some (AObj.cells (zrow (Int.toNat (↑n : Int)) [vi 0]) true))] 1)))) := by kernel_rfl
theorem l_total0 (n : Nat) (k : Int) (l : List Value) (A : Array Value) (H : HT) (Post : PV) : vcLP Tryz.prog vcTo 170 [.int .i64 n, fnT 171 n A] [(3, [1, 6, 13, 14])] 3 (stV [(1, some (fnT 171 n A)), (6, some (.slice (some ⟨0, 0, none⟩) n 1)), (13, some (.int .i64 n)), (14, some (.int .i64 k))] [(0, some (.cells l true))] 1) H Post = (True ∧ pIf (decide (k < (↑n : Int))) (T8 (True ∧ (0 ≤ k ∧ k < (↑n : Int)) ∧ True ∧ cellAt A (Int.toNat k) 0 = vi (toI (cellAt A (Int.toNat k) 0)) ∧ True ∧ (0 ≤ k ∧ k < (↑n : Int)) ∧ 0 + Int.toNat k * 1 + 1 ≤ List.length l ∧ T2 (True ∧ (NLs (setFrom l (0 + Int.toNat k * 1) [vi (toI (cellAt A (Int.toNat k) 0))]) ∧ True) ∧ H (lpC Tryz.prog 170 3) (lpK Tryz.prog 170 3) (stV [(1, some (Value.func (Fn.func 171) #[tree 5 n A] #[])), (6, some (Value.slice (some (Addr.mk 0 0 none)) n 1)), (13, some (vi (↑n : Int))), (14, some (vi (IntKind.wrap IntKind.i64 (k + 1))))] [(0, some (AObj.cells (setFrom l (0 + Int.toNat k * 1) [vi (toI (cellAt A (Int.toNat k) 0))]) true))] 1)))) (True ∧ ((0 + n * 1 ≤ List.length l ∧ NLs l) ∧ True) ∧ ∃ (l_1 : List Int), eqL [tree 1 n (chunks 1 n (List.drop 0 l))] [tree 1 l_1.length (encL l_1)] ∧ List.length l_1 ≤ 65536 ∧ (∀ (x : Int), x ∈ l_1 → -9223372036854775808 ≤ x ∧ x < 9223372036854775808) ∧ T8 (pIf (decide (sumE l_1 = 0)) (T2 ((T2 (True)) ∧ Post (Value.tuple #[vi (sumV l_1), vb true]))) (T2 ((T2 (True)) ∧ Post (Value.tuple #[vi (sumV l_1), vb false])))))) := by kernel_rfl
theorem e_total1 (n : Nat) (A : Array Value) (H : HT) (Post : PV) : vcP Tryz.prog vcTo 170 [(3, [1, 6, 13, 14])] [.int .i64 n, fnT 172 n A] H Post = (T2 (True ∧ (0 ≤ (↑n : Int) ∧ (↑n : Int) ≤ (↑n : Int) ∧ (↑n : Int) ≤ 2 ^ 25) ∧ T4 (True ∧ (NLs (zrow (Int.toNat (↑n : Int)) [vi 0]) ∧ True) ∧ H (lpC Tryz.prog 170 3) (lpK Tryz.prog 170 3) (stV [(1, some (Value.func (Fn.func 172) #[tree 5 n A] #[])), (6, some (Value.slice (some (Addr.mk 0 0 none)) (Int.toNat (↑n : Int)) 1)), (13, some (vi (↑(Int.toNat (↑n : Int)) : Int))), (14, some (vi 0))] [(0, some (AObj.cells (zrow (Int.toNat (↑n : Int)) [vi 0]) true))] 1)))) := by kernel_rfl
theorem l_total1 (n : Nat) (k : Int) (l : List Value) (A : Array Value) (H : HT) (Post : PV) : vcLP Tryz.prog vcTo 170 [.int .i64 n, fnT 172 n A] [(3, [1, 6, 13, 14])] 3 (stV [(1, some (fnT 172 n A)), (6, some (.slice (some ⟨0, 0, none⟩) n 1)), (13, some (.int .i64 n)), (14, some (.int .i64 k))] [(0, some (.cells l true))] 1) H Post = (True ∧ pIf (decide (k < (↑n : Int))) (T8 (True ∧ (0 ≤ k ∧ k < (↑n : Int)) ∧ True ∧ cellAt A (Int.toNat k) 1 = vi (toI (cellAt A (Int.toNat k) 1)) ∧ True ∧ (0 ≤ k ∧ k < (↑n : Int)) ∧ 0 + Int.toNat k * 1 + 1 ≤ List.length l ∧ T2 (True ∧ (NLs (setFrom l (0 + Int.toNat k * 1) [vi (toI (cellAt A (Int.toNat k) 1))]) ∧ True) ∧ H (lpC Tryz.prog 170 3) (lpK Tryz.prog 170 3) (stV [(1, some (Value.func (Fn.func 172) #[tree 5 n A] #[])), (6, some (Value.slice (some (Addr.mk 0 0 none)) n 1)), (13, some (vi (↑n : Int))), (14, some (vi (IntKind.wrap IntKind.i64 (k + 1))))] [(0, some (AObj.cells (setFrom l (0 + Int.toNat k * 1) [vi (toI (cellAt A (Int.toNat k) 1))]) true))] 1)))) (True ∧ ((0 + n * 1 ≤ List.length l ∧ NLs l) ∧ True) ∧ ∃ (l_1 : List Int), eqL [tree 1 n (chunks 1 n (List.drop 0 l))] [tree 1 l_1.length (encL l_1)] ∧ List.length l_1 ≤ 65536 ∧ (∀ (x : Int), x ∈ l_1 → -9223372036854775808 ≤ x ∧ x < 9223372036854775808) ∧ T8 (pIf (decide (sumE l_1 = 0)) (T2 ((T2 (True)) ∧ Post (Value.tuple #[vi (sumV l_1), vb true]))) (T2 ((T2 (True)) ∧ Post (Value.tuple #[vi (sumV l_1), vb false])))))) := by kernel_rfl
theorem e_total2 (n : Nat) (A : Array Value) (H : HT) (Post : PV) : vcP Tryz.prog vcTo 170 [(3, [1, 6, 13, 14])] [.int .i64 n, fnT 173 n A] H Post = (T2 (True ∧ (0 ≤ (↑n : Int) ∧ (↑n : Int) ≤ (↑n : Int) ∧ (↑n : Int) ≤ 2 ^ 25) ∧ T4 (True ∧ (NLs (zrow (Int.toNat (↑n : Int)) [vi 0]) ∧ True) ∧ H (lpC Tryz.prog 170 3) (lpK Tryz.prog 170 3) (stV [(1, some (Value.func (Fn.func 173) #[tree 5 n A] #[])), (6, some (Value.slice (some (Addr.mk 0 0 none)) (Int.toNat (↑n : Int)) 1)), (13, some (vi (↑(Int.toNat (↑n : Int)) : Int))), (14, some (vi 0))] [(0, some (AObj.cells (zrow (Int.toNat (↑n : Int)) [vi 0]) true))] 1)))) := by kernel_rfl
theorem l_total2 (n : Nat) (k : Int) (l : List Value) (A : Array Value) (H : HT) (Post : PV) : vcLP Tryz.prog vcTo 170 [.int .i64 n, fnT 173 n A] [(3, [1, 6, 13, 14])] 3 (stV [(1, some (fnT 173 n A)), (6, some (.slice (some ⟨0, 0, none⟩) n 1)), (13, some (.int .i64 n)), (14, some (.int .i64 k))] [(0, some (.cells l true))] 1) H Post = (True ∧ pIf (decide (k < (↑n : Int))) (T8 (True ∧ (0 ≤ k ∧ k < (↑n : Int)) ∧ True ∧ cellAt A (Int.toNat k) 2 = vi (toI (cellAt A (Int.toNat k) 2)) ∧ True ∧ (0 ≤ k ∧ k < (↑n : Int)) ∧ 0 + Int.toNat k * 1 + 1 ≤ List.length l ∧ T2 (True ∧ (NLs (setFrom l (0 + Int.toNat k * 1) [vi (toI (cellAt A (Int.toNat k) 2))]) ∧ True) ∧ H (lpC Tryz.prog 170 3) (lpK Tryz.prog 170 3) (stV [(1, some (Value.func (Fn.func 173) #[tree 5 n A] #[])), (6, some (Value.slice (some (Addr.mk 0 0 none)) n 1)), (13, some (vi (↑n : Int))), (14, some (vi (IntKind.wrap IntKind.i64 (k + 1))))] [(0, some (AObj.cells (setFrom l (0 + Int.toNat k * 1) [vi (toI (cellAt A (Int.toNat k) 2))]) true))] 1)))) (True ∧ ((0 + n * 1 ≤ List.length l ∧ NLs l) ∧ True) ∧ ∃ (l_1 : List Int), eqL [tree 1 n (chunks 1 n (List.drop 0 l))] [tree 1 l_1.length (encL l_1)] ∧ List.length l_1 ≤ 65536 ∧ (∀ (x : Int), x ∈ l_1 → -9223372036854775808 ≤ x ∧ x < 9223372036854775808) ∧ T8 (pIf (decide (sumE l_1 = 0)) (T2 ((T2 (True)) ∧ Post (Value.tuple #[vi (sumV l_1), vb true]))) (T2 ((T2 (True)) ∧ Post (Value.tuple #[vi (sumV l_1), vb false])))))) := by kernel_rfl
theorem e_total3 (n : Nat) (A : Array Value) (H : HT) (Post : PV) : vcP Tryz.prog vcTo 170 [(3, [1, 6, 13, 14])] [.int .i64 n, fnT 174 n A] H Post = (T2 (True ∧ (0 ≤ (↑n : Int) ∧ (↑n : Int) ≤ (↑n : Int) ∧ (↑n : Int) ≤ 2 ^ 25) ∧ T4 (True ∧ (NLs (zrow (Int.toNat (↑n : Int)) [vi 0]) ∧ True) ∧ H (lpC Tryz.prog 170 3) (lpK Tryz.prog 170 3) (stV [(1, some (Value.func (Fn.func 174) #[tree 5 n A] #[])), (6, some (Value.slice (some (Addr.mk 0 0 none)) (Int.toNat (↑n : Int)) 1)), (13, some (vi (↑(Int.toNat (↑n : Int)) : Int))), (14, some (vi 0))] [(0, some (AObj.cells (zrow (Int.toNat (↑n : Int)) [vi 0]) true))] 1)))) := by kernel_rfl
theorem l_total3 (n : Nat) (k : Int) (l : List Value) (A : Array Value) (H : HT) (Post : PV) : vcLP Tryz.prog vcTo 170 [.int .i64 n, fnT 174 n A] [(3, [1, 6, 13, 14])] 3 (stV [(1, some (fnT 174 n A)), (6, some (.slice (some ⟨0, 0, none⟩) n 1)), (13, some (.int .i64 n)), (14, some (.int .i64 k))] [(0, some (.cells l true))] 1) H Post = (True ∧ pIf (decide (k < (↑n : Int))) (T8 (True ∧ (0 ≤ k ∧ k < (↑n : Int)) ∧ True ∧ cellAt A (Int.toNat k) 3 = vi (toI (cellAt A (Int.toNat k) 3)) ∧ True ∧ (0 ≤ k ∧ k < (↑n : Int)) ∧ 0 + Int.toNat k * 1 + 1 ≤ List.length l ∧ T2 (True ∧ (NLs (setFrom l (0 + Int.toNat k * 1) [vi (toI (cellAt A (Int.toNat k) 3))]) ∧ True) ∧ H (lpC Tryz.prog 170 3) (lpK Tryz.prog 170 3) (stV [(1, some (Value.func (Fn.func 174) #[tree 5 n A] #[])), (6, some (Value.slice (some (Addr.mk 0 0 none)) n 1)), (13, some (vi (↑n : Int))), (14, some (vi (IntKind.wrap IntKind.i64 (k + 1))))] [(0, some (AObj.cells (setFrom l (0 + Int.toNat k * 1) [vi (toI (cellAt A (Int.toNat k) 3))]) true))] 1)))) (True ∧ ((0 + n * 1 ≤ List.length l ∧ NLs l) ∧ True) ∧ ∃ (l_1 : List Int), eqL [tree 1 n (chunks 1 n (List.drop 0 l))] [tree 1 l_1.length (encL l_1)] ∧ List.length l_1 ≤ 65536 ∧ (∀ (x : Int), x ∈ l_1 → -9223372036854775808 ≤ x ∧ x < 9223372036854775808) ∧ T8 (pIf (decide (sumE l_1 = 0)) (T2 ((T2 (True)) ∧ Post (Value.tuple #[vi (sumV l_1), vb true]))) (T2 ((T2 (True)) ∧ Post (Value.tuple #[vi (sumV l_1), vb false])))))) := by kernel_rfl
theorem e_total4 (n : Nat) (A : Array Value) (H : HT) (Post : PV) : vcP Tryz.prog vcTo 170 [(3, [1, 6, 13, 14])] [.int .i64 n, fnT 175 n A] H Post = (T2 (True ∧ (0 ≤ (↑n : Int) ∧ (↑n : Int) ≤ (↑n : Int) ∧ (↑n : Int) ≤ 2 ^ 25) ∧ T4 (True ∧ (NLs (zrow (Int.toNat (↑n : Int)) [vi 0]) ∧ True) ∧ H (lpC Tryz.prog 170 3) (lpK Tryz.prog 170 3) (stV [(1, some (Value.func (Fn.func 175) #[tree 5 n A] #[])), (6, some (Value.slice (some (Addr.mk 0 0 none)) (Int.toNat (↑n : Int)) 1)), (13, some (vi (↑(Int.toNat (↑n : Int)) : Int))), (14, some (vi 0))] [(0, some (AObj.cells (zrow (Int.toNat (↑n : Int)) [vi 0]) true))] 1)))) := by kernel_rfl
theorem l_total4 (n : Nat) (k : Int) (l : List Value) (A : Array Value) (H : HT) (Post : PV) : vcLP Tryz.prog vcTo 170 [.int .i64 n, fnT 175 n A] [(3, [1, 6, 13, 14])] 3 (stV [(1, some (fnT 175 n A)), (6, some (.slice (some ⟨0, 0, none⟩) n 1)), (13, some (.int .i64 n)), (14, some (.int .i64 k))] [(0, some (.cells l true))] 1) H Post = (True ∧ pIf (decide (k < (↑n : Int))) (T8 (True ∧ (0 ≤ k ∧ k < (↑n : Int)) ∧ True ∧ cellAt A (Int.toNat k) 4 = vi (toI (cellAt A (Int.toNat k) 4)) ∧ True ∧ (0 ≤ k ∧ k < (↑n : Int)) ∧ 0 + Int.toNat k * 1 + 1 ≤ List.length l ∧ T2 (True ∧ (NLs (setFrom l (0 + Int.toNat k * 1) [vi (toI (cellAt A (Int.toNat k) 4))]) ∧ True) ∧ H (lpC Tryz.prog 170 3) (lpK Tryz.prog 170 3) (stV [(1, some (Value.func (Fn.func 175) #[tree 5 n A] #[])), (6, some (Value.slice (some (Addr.mk 0 0 none)) n 1)), (13, some (vi (↑n : Int))), (14, some (vi (IntKind.wrap IntKind.i64 (k + 1))))] [(0, some (AObj.cells (setFrom l (0 + Int.toNat k * 1) [vi (toI (cellAt A (Int.toNat k) 4))]) true))] 1)))) (True ∧ ((0 + n * 1 ≤ List.length l ∧ NLs l) ∧ True) ∧ ∃ (l_1 : List Int), eqL [tree 1 n (chunks 1 n (List.drop 0 l))] [tree 1 l_1.length (encL l_1)] ∧ List.length l_1 ≤ 65536 ∧ (∀ (x : Int), x ∈ l_1 → -9223372036854775808 ≤ x ∧ x < 9223372036854775808) ∧ T8 (pIf (decide (sumE l_1 = 0)) (T2 ((T2 (True)) ∧ Post (Value.tuple #[vi (sumV l_1), vb true]))) (T2 ((T2 (True)) ∧ Post (Value.tuple #[vi (sumV l_1), vb false])))))) := by kernel_rfl
def mthW : Nat → Nat
 | 0 => 171 | 1 => 172 | 2 => 173 | 3 => 174 | _ => 175
def c_total (args : List Value) (Post : Value → Prop) : Prop := ∃ (ws : List Wt) (i : Nat), i < 5 ∧ args = [.int .i64 ws.length, fnT (mthW i) ws.length (encL ws)] ∧ ws.length ≤ 65536 ∧ (∀ w ∈ ws, fits64 (fldW i w)) ∧ Post (.tuple #[.int .i64 (sumV (ws.map (fldW i))), .bool (decide (fits64 (ws.map (fldW i)).sum))])
def vcSw : VCall := inlCall Tryz.prog [169] (tabCall [⟨170, c_total⟩, ⟨105, c_wchk⟩] noCall) 2
theorem e_wsum (n : Nat) (A : Array Value) (H : HT) (Post : PV) : vcP Tryz.prog vcSw 107 [] [tree 5 n A] H Post = (let q5 := True ∧ 5 ≤ 5 ∧ True ∧ ((T4 (True ∧ True)) ∧ True ∧ True) ∧ Post (Value.tuple #[Value.agg #[vi 0, vi 0, vi 0, vi 0, vi 0], vi 21]); let q4 := [vi (↑n : Int), Value.func (Fn.func 173) #[tree 5 n A] #[]]; let q3 := [vi (↑n : Int), Value.func (Fn.func 174) #[tree 5 n A] #[]]; let q2 := [vi (↑n : Int), Value.func (Fn.func 175) #[tree 5 n A] #[]]; let q1 := T4 (True ∧ 5 ≤ 5 ∧ T2 (True ∧ 1 ≤ 1 ∧ T4 q5)); T4 (T2 (1 ≤ 1 ∧ 1 ≤ 1 ∧ T8 (∃ (ws : List Wt), ∃ (i : Nat), i < 5 ∧ eqL [vi (↑n : Int), Value.func (Fn.func 171) #[tree 5 n A] #[]] [vi (↑ws.length : Int), Value.func (Fn.func (mthW i)) #[tree 5 ws.length (encL ws)] #[]] ∧ List.length ws ≤ 65536 ∧ (∀ (w : Wt), w ∈ ws → -9223372036854775808 ≤ fldW i w ∧ fldW i w < 9223372036854775808) ∧ T2 (True ∧ pIf (decide (fits64 (List.sum (List.map (fldW i) ws)))) (T4 (True ∧ 1 ≤ 5 ∧ T4 (1 ≤ 1 ∧ T4 (T2 (∃ (ws_1 : List Wt), ∃ (i_1 : Nat), i_1 < 5 ∧ eqL [vi (↑n : Int), Value.func (Fn.func 172) #[tree 5 n A] #[]] [vi (↑ws_1.length : Int), Value.func (Fn.func (mthW i_1)) #[tree 5 ws_1.length (encL ws_1)] #[]] ∧ List.length ws_1 ≤ 65536 ∧ (∀ (w : Wt), w ∈ ws_1 → -9223372036854775808 ≤ fldW i_1 w ∧ fldW i_1 w < 9223372036854775808) ∧ T2 (True ∧ pIf (decide (fits64 (List.sum (List.map (fldW i_1) ws_1)))) (T4 (True ∧ 2 ≤ 5 ∧ T4 (1 ≤ 1 ∧ T4 (T2 (∃ (ws_2 : List Wt), ∃ (i_2 : Nat), i_2 < 5 ∧ eqL q4 [vi (↑ws_2.length : Int), Value.func (Fn.func (mthW i_2)) #[tree 5 ws_2.length (encL ws_2)] #[]] ∧ List.length ws_2 ≤ 65536 ∧ (∀ (w : Wt), w ∈ ws_2 → -9223372036854775808 ≤ fldW i_2 w ∧ fldW i_2 w < 9223372036854775808) ∧ T2 (True ∧ pIf (decide (fits64 (List.sum (List.map (fldW i_2) ws_2)))) (T4 (True ∧ 3 ≤ 5 ∧ T4 (1 ≤ 1 ∧ T4 (T2 (∃ (ws_3 : List Wt), ∃ (i_3 : Nat), i_3 < 5 ∧ eqL q3 [vi (↑ws_3.length : Int), Value.func (Fn.func (mthW i_3)) #[tree 5 ws_3.length (encL ws_3)] #[]] ∧ List.length ws_3 ≤ 65536 ∧ (∀ (w : Wt), w ∈ ws_3 → -9223372036854775808 ≤ fldW i_3 w ∧ fldW i_3 w < 9223372036854775808) ∧ T2 (True ∧ pIf (decide (fits64 (List.sum (List.map (fldW i_3) ws_3)))) (T4 (True ∧ 4 ≤ 5 ∧ T4 (1 ≤ 1 ∧ T4 (T2 (∃ (ws_4 : List Wt), ∃ (i_4 : Nat), i_4 < 5 ∧ eqL q2 [vi (↑ws_4.length : Int), Value.func (Fn.func (mthW i_4)) #[tree 5 ws_4.length (encL ws_4)] #[]] ∧ List.length ws_4 ≤ 65536 ∧ (∀ (w : Wt), w ∈ ws_4 → -9223372036854775808 ≤ fldW i_4 w ∧ fldW i_4 w < 9223372036854775808) ∧ T2 (True ∧ pIf (decide (fits64 (List.sum (List.map (fldW i_4) ws_4)))) (T4 (True ∧ 5 ≤ 5 ∧ T4 (1 ≤ 1 ∧ T4 (∃ (w : Wt), eqL [Value.agg #[vi (sumV (List.map (fldW i) ws)), vi (sumV (List.map (fldW i_1) ws_1)), vi (sumV (List.map (fldW i_2) ws_2)), vi (sumV (List.map (fldW i_3) ws_3)), vi (sumV (List.map (fldW i_4) ws_4))]] [wtV w] ∧ True ∧ pIf (!decide (wErr w = 0)) (T2 (5 ≤ 5 ∧ True ∧ ((T4 (True ∧ True)) ∧ True ∧ True) ∧ Post (Value.tuple #[Value.agg #[vi 0, vi 0, vi 0, vi 0, vi 0], vi 21]))) (T2 (5 ≤ 5 ∧ True ∧ ((T4 (True ∧ True)) ∧ True ∧ True) ∧ Post (Value.tuple #[Value.agg #[vi (sumV (List.map (fldW i) ws)), vi (sumV (List.map (fldW i_1) ws_1)), vi (sumV (List.map (fldW i_2) ws_2)), vi (sumV (List.map (fldW i_3) ws_3)), vi (sumV (List.map (fldW i_4) ws_4))], vi 0]))))))) (T4 (True ∧ 5 ≤ 5 ∧ T4 (1 ≤ 1 ∧ T4 q5))))))))) (T4 (True ∧ 4 ≤ 5 ∧ T4 (1 ≤ 1 ∧ T4 (T2 (∃ (ws : List Wt), ∃ (i : Nat), i < 5 ∧ eqL q2 [vi (↑ws.length : Int), Value.func (Fn.func (mthW i)) #[tree 5 ws.length (encL ws)] #[]] ∧ List.length ws ≤ 65536 ∧ (∀ (w : Wt), w ∈ ws → -9223372036854775808 ≤ fldW i w ∧ fldW i w < 9223372036854775808) ∧ T2 (True ∧ pIf (decide (fits64 (List.sum (List.map (fldW i) ws)))) q1 q1)))))))))))) (T4 (True ∧ 3 ≤ 5 ∧ T4 (1 ≤ 1 ∧ T4 (T2 (∃ (ws : List Wt), ∃ (i : Nat), i < 5 ∧ eqL q3 [vi (↑ws.length : Int), Value.func (Fn.func (mthW i)) #[tree 5 ws.length (encL ws)] #[]] ∧ List.length ws ≤ 65536 ∧ (∀ (w : Wt), w ∈ ws → -9223372036854775808 ≤ fldW i w ∧ fldW i w < 9223372036854775808) ∧ T2 (True ∧ pIf (decide (fits64 (List.sum (List.map (fldW i) ws)))) (T4 (True ∧ 4 ≤ 5 ∧ T2 (True ∧ 1 ≤ 1 ∧ T4 (T2 (∃ (ws : List Wt), ∃ (i : Nat), i < 5 ∧ eqL q2 [vi (↑ws.length : Int), Value.func (Fn.func (mthW i)) #[tree 5 ws.length (encL ws)] #[]] ∧ List.length ws ≤ 65536 ∧ (∀ (w : Wt), w ∈ ws → -9223372036854775808 ≤ fldW i w ∧ fldW i w < 9223372036854775808) ∧ T2 (True ∧ pIf (decide (fits64 (List.sum (List.map (fldW i) ws)))) q1 q1)))))) (T4 (True ∧ 4 ≤ 5 ∧ T2 (True ∧ 1 ≤ 1 ∧ T4 (T2 (∃ (ws : List Wt), ∃ (i : Nat), i < 5 ∧ eqL q2 [vi (↑ws.length : Int), Value.func (Fn.func (mthW i)) #[tree 5 ws.length (encL ws)] #[]] ∧ List.length ws ≤ 65536 ∧ (∀ (w : Wt), w ∈ ws → -9223372036854775808 ≤ fldW i w ∧ fldW i w < 9223372036854775808) ∧ T2 (True ∧ pIf (decide (fits64 (List.sum (List.map (fldW i) ws)))) q1 q1)))))))))))))))))) (T4 (True ∧ 2 ≤ 5 ∧ T4 (1 ≤ 1 ∧ T4 (T2 (∃ (ws : List Wt), ∃ (i : Nat), i < 5 ∧ eqL q4 [vi (↑ws.length : Int), Value.func (Fn.func (mthW i)) #[tree 5 ws.length (encL ws)] #[]] ∧ List.length ws ≤ 65536 ∧ (∀ (w : Wt), w ∈ ws → -9223372036854775808 ≤ fldW i w ∧ fldW i w < 9223372036854775808) ∧ T2 (True ∧ pIf (decide (fits64 (List.sum (List.map (fldW i) ws)))) (T4 (True ∧ 3 ≤ 5 ∧ T2 (True ∧ 1 ≤ 1 ∧ T4 (T2 (∃ (ws : List Wt), ∃ (i : Nat), i < 5 ∧ eqL q3 [vi (↑ws.length : Int), Value.func (Fn.func (mthW i)) #[tree 5 ws.length (encL ws)] #[]] ∧ List.length ws ≤ 65536 ∧ (∀ (w : Wt), w ∈ ws → -9223372036854775808 ≤ fldW i w ∧ fldW i w < 9223372036854775808) ∧ T2 (True ∧ pIf (decide (fits64 (List.sum (List.map (fldW i) ws)))) (T4 (True ∧ 4 ≤ 5 ∧ T2 (True ∧ 1 ≤ 1 ∧ T4 (T2 (∃ (ws : List Wt), ∃ (i : Nat), i < 5 ∧ eqL q2 [vi (↑ws.length : Int), Value.func (Fn.func (mthW i)) #[tree 5 ws.length (encL ws)] #[]] ∧ List.length ws ≤ 65536 ∧ (∀ (w : Wt), w ∈ ws → -9223372036854775808 ≤ fldW i w ∧ fldW i w < 9223372036854775808) ∧ T2 (True ∧ pIf (decide (fits64 (List.sum (List.map (fldW i) ws)))) q1 q1)))))) (T4 (True ∧ 4 ≤ 5 ∧ T2 (True ∧ 1 ≤ 1 ∧ T4 (T2 (∃ (ws : List Wt), ∃ (i : Nat), i < 5 ∧ eqL q2 [vi (↑ws.length : Int), Value.func (Fn.func (mthW i)) #[tree 5 ws.length (encL ws)] #[]] ∧ List.length ws ≤ 65536 ∧ (∀ (w : Wt), w ∈ ws → -9223372036854775808 ≤ fldW i w ∧ fldW i w < 9223372036854775808) ∧ T2 (True ∧ pIf (decide (fits64 (List.sum (List.map (fldW i) ws)))) q1 q1)))))))))))) (T4 (True ∧ 3 ≤ 5 ∧ T2 (True ∧ 1 ≤ 1 ∧ T4 (T2 (∃ (ws : List Wt), ∃ (i : Nat), i < 5 ∧ eqL q3 [vi (↑ws.length : Int), Value.func (Fn.func (mthW i)) #[tree 5 ws.length (encL ws)] #[]] ∧ List.length ws ≤ 65536 ∧ (∀ (w : Wt), w ∈ ws → -9223372036854775808 ≤ fldW i w ∧ fldW i w < 9223372036854775808) ∧ T2 (True ∧ pIf (decide (fits64 (List.sum (List.map (fldW i) ws)))) (T4 (True ∧ 4 ≤ 5 ∧ T2 (True ∧ 1 ≤ 1 ∧ T4 (T2 (∃ (ws : List Wt), ∃ (i : Nat), i < 5 ∧ eqL q2 [vi (↑ws.length : Int), Value.func (Fn.func (mthW i)) #[tree 5 ws.length (encL ws)] #[]] ∧ List.length ws ≤ 65536 ∧ (∀ (w : Wt), w ∈ ws → -9223372036854775808 ≤ fldW i w ∧ fldW i w < 9223372036854775808) ∧ T2 (True ∧ pIf (decide (fits64 (List.sum (List.map (fldW i) ws)))) q1 q1)))))) (T4 (True ∧ 4 ≤ 5 ∧ T2 (True ∧ 1 ≤ 1 ∧ T4 (T2 (∃ (ws : List Wt), ∃ (i : Nat), i < 5 ∧ eqL q2 [vi (↑ws.length : Int), Value.func (Fn.func (mthW i)) #[tree 5 ws.length (encL ws)] #[]] ∧ List.length ws ≤ 65536 ∧ (∀ (w : Wt), w ∈ ws → -9223372036854775808 ≤ fldW i w ∧ fldW i w < 9223372036854775808) ∧ T2 (True ∧ pIf (decide (fits64 (List.sum (List.map (fldW i) ws)))) q1 q1)))))))))))))))))))))))) (T4 (True ∧ 1 ≤ 5 ∧ T4 (1 ≤ 1 ∧ T4 (T2 (∃ (ws : List Wt), ∃ (i : Nat), i < 5 ∧ eqL [vi (↑n : Int), Value.func (Fn.func 172) #[tree 5 n A] #[]] [vi (↑ws.length : Int), Value.func (Fn.func (mthW i)) #[tree 5 ws.length (encL ws)] #[]] ∧ List.length ws ≤ 65536 ∧ (∀ (w : Wt), w ∈ ws → -9223372036854775808 ≤ fldW i w ∧ fldW i w < 9223372036854775808) ∧ T2 (True ∧ pIf (decide (fits64 (List.sum (List.map (fldW i) ws)))) (T4 (True ∧ 2 ≤ 5 ∧ T2 (True ∧ 1 ≤ 1 ∧ T4 (T2 (∃ (ws : List Wt), ∃ (i : Nat), i < 5 ∧ eqL q4 [vi (↑ws.length : Int), Value.func (Fn.func (mthW i)) #[tree 5 ws.length (encL ws)] #[]] ∧ List.length ws ≤ 65536 ∧ (∀ (w : Wt), w ∈ ws → -9223372036854775808 ≤ fldW i w ∧ fldW i w < 9223372036854775808) ∧ T2 (True ∧ pIf (decide (fits64 (List.sum (List.map (fldW i) ws)))) (T4 (True ∧ 3 ≤ 5 ∧ T2 (True ∧ 1 ≤ 1 ∧ T4 (T2 (∃ (ws : List Wt), ∃ (i : Nat), i < 5 ∧ eqL q3 [vi (↑ws.length : Int), Value.func (Fn.func (mthW i)) #[tree 5 ws.length (encL ws)] #[]] ∧ List.length ws ≤ 65536 ∧ (∀ (w : Wt), w ∈ ws → -9223372036854775808 ≤ fldW i w ∧ fldW i w < 9223372036854775808) ∧ T2 (True ∧ pIf (decide (fits64 (List.sum (List.map (fldW i) ws)))) (T4 (True ∧ 4 ≤ 5 ∧ T2 (True ∧ 1 ≤ 1 ∧ T4 (T2 (∃ (ws : List Wt), ∃ (i : Nat), i < 5 ∧ eqL q2 [vi (↑ws.length : Int), Value.func (Fn.func (mthW i)) #[tree 5 ws.length (encL ws)] #[]] ∧ List.length ws ≤ 65536 ∧ (∀ (w : Wt), w ∈ ws → -9223372036854775808 ≤ fldW i w ∧ fldW i w < 9223372036854775808) ∧ T2 (True ∧ pIf (decide (fits64 (List.sum (List.map (fldW i) ws)))) q1 q1)))))) (T4 (True ∧ 4 ≤ 5 ∧ T2 (True ∧ 1 ≤ 1 ∧ T4 (T2 (∃ (ws : List Wt), ∃ (i : Nat), i < 5 ∧ eqL q2 [vi (↑ws.length : Int), Value.func (Fn.func (mthW i)) #[tree 5 ws.length (encL ws)] #[]] ∧ List.length ws ≤ 65536 ∧ (∀ (w : Wt), w ∈ ws → -9223372036854775808 ≤ fldW i w ∧ fldW i w < 9223372036854775808) ∧ T2 (True ∧ pIf (decide (fits64 (List.sum (List.map (fldW i) ws)))) q1 q1)))))))))))) (T4 (True ∧ 3 ≤ 5 ∧ T2 (True ∧ 1 ≤ 1 ∧ T4 (T2 (∃ (ws : List Wt), ∃ (i : Nat), i < 5 ∧ eqL q3 [vi (↑ws.length : Int), Value.func (Fn.func (mthW i)) #[tree 5 ws.length (encL ws)] #[]] ∧ List.length ws ≤ 65536 ∧ (∀ (w : Wt), w ∈ ws → -9223372036854775808 ≤ fldW i w ∧ fldW i w < 9223372036854775808) ∧ T2 (True ∧ pIf (decide (fits64 (List.sum (List.map (fldW i) ws)))) (T4 (True ∧ 4 ≤ 5 ∧ T2 (True ∧ 1 ≤ 1 ∧ T4 (T2 (∃ (ws : List Wt), ∃ (i : Nat), i < 5 ∧ eqL q2 [vi (↑ws.length : Int), Value.func (Fn.func (mthW i)) #[tree 5 ws.length (encL ws)] #[]] ∧ List.length ws ≤ 65536 ∧ (∀ (w : Wt), w ∈ ws → -9223372036854775808 ≤ fldW i w ∧ fldW i w < 9223372036854775808) ∧ T2 (True ∧ pIf (decide (fits64 (List.sum (List.map (fldW i) ws)))) q1 q1)))))) (T4 (True ∧ 4 ≤ 5 ∧ T2 (True ∧ 1 ≤ 1 ∧ T4 (T2 (∃ (ws : List Wt), ∃ (i : Nat), i < 5 ∧ eqL q2 [vi (↑ws.length : Int), Value.func (Fn.func (mthW i)) #[tree 5 ws.length (encL ws)] #[]] ∧ List.length ws ≤ 65536 ∧ (∀ (w : Wt), w ∈ ws → -9223372036854775808 ≤ fldW i w ∧ fldW i w < 9223372036854775808) ∧ T2 (True ∧ pIf (decide (fits64 (List.sum (List.map (fldW i) ws)))) q1 q1)))))))))))))))))) (T4 (True ∧ 2 ≤ 5 ∧ T2 (True ∧ 1 ≤ 1 ∧ T4 (T2 (∃ (ws : List Wt), ∃ (i : Nat), i < 5 ∧ eqL q4 [vi (↑ws.length : Int), Value.func (Fn.func (mthW i)) #[tree 5 ws.length (encL ws)] #[]] ∧ List.length ws ≤ 65536 ∧ (∀ (w : Wt), w ∈ ws → -9223372036854775808 ≤ fldW i w ∧ fldW i w < 9223372036854775808) ∧ T2 (True ∧ pIf (decide (fits64 (List.sum (List.map (fldW i) ws)))) (T4 (True ∧ 3 ≤ 5 ∧ T2 (True ∧ 1 ≤ 1 ∧ T4 (T2 (∃ (ws : List Wt), ∃ (i : Nat), i < 5 ∧ eqL q3 [vi (↑ws.length : Int), Value.func (Fn.func (mthW i)) #[tree 5 ws.length (encL ws)] #[]] ∧ List.length ws ≤ 65536 ∧ (∀ (w : Wt), w ∈ ws → -9223372036854775808 ≤ fldW i w ∧ fldW i w < 9223372036854775808) ∧ T2 (True ∧ pIf (decide (fits64 (List.sum (List.map (fldW i) ws)))) (T4 (True ∧ 4 ≤ 5 ∧ T2 (True ∧ 1 ≤ 1 ∧ T4 (T2 (∃ (ws : List Wt), ∃ (i : Nat), i < 5 ∧ eqL q2 [vi (↑ws.length : Int), Value.func (Fn.func (mthW i)) #[tree 5 ws.length (encL ws)] #[]] ∧ List.length ws ≤ 65536 ∧ (∀ (w : Wt), w ∈ ws → -9223372036854775808 ≤ fldW i w ∧ fldW i w < 9223372036854775808) ∧ T2 (True ∧ pIf (decide (fits64 (List.sum (List.map (fldW i) ws)))) q1 q1)))))) (T4 (True ∧ 4 ≤ 5 ∧ T2 (True ∧ 1 ≤ 1 ∧ T4 (T2 (∃ (ws : List Wt), ∃ (i : Nat), i < 5 ∧ eqL q2 [vi (↑ws.length : Int), Value.func (Fn.func (mthW i)) #[tree 5 ws.length (encL ws)] #[]] ∧ List.length ws ≤ 65536 ∧ (∀ (w : Wt), w ∈ ws → -9223372036854775808 ≤ fldW i w ∧ fldW i w < 9223372036854775808) ∧ T2 (True ∧ pIf (decide (fits64 (List.sum (List.map (fldW i) ws)))) q1 q1)))))))))))) (T4 (True ∧ 3 ≤ 5 ∧ T2 (True ∧ 1 ≤ 1 ∧ T4 (T2 (∃ (ws : List Wt), ∃ (i : Nat), i < 5 ∧ eqL q3 [vi (↑ws.length : Int), Value.func (Fn.func (mthW i)) #[tree 5 ws.length (encL ws)] #[]] ∧ List.length ws ≤ 65536 ∧ (∀ (w : Wt), w ∈ ws → -9223372036854775808 ≤ fldW i w ∧ fldW i w < 9223372036854775808) ∧ T2 (True ∧ pIf (decide (fits64 (List.sum (List.map (fldW i) ws)))) (T4 (True ∧ 4 ≤ 5 ∧ T2 (True ∧ 1 ≤ 1 ∧ T4 (T2 (∃ (ws : List Wt), ∃ (i : Nat), i < 5 ∧ eqL q2 [vi (↑ws.length : Int), Value.func (Fn.func (mthW i)) #[tree 5 ws.length (encL ws)] #[]] ∧ List.length ws ≤ 65536 ∧ (∀ (w : Wt), w ∈ ws → -9223372036854775808 ≤ fldW i w ∧ fldW i w < 9223372036854775808) ∧ T2 (True ∧ pIf (decide (fits64 (List.sum (List.map (fldW i) ws)))) q1 q1)))))) (T4 (True ∧ 4 ≤ 5 ∧ T2 (True ∧ 1 ≤ 1 ∧ T4 (T2 (∃ (ws : List Wt), ∃ (i : Nat), i < 5 ∧ eqL q2 [vi (↑ws.length : Int), Value.func (Fn.func (mthW i)) #[tree 5 ws.length (encL ws)] #[]] ∧ List.length ws ≤ 65536 ∧ (∀ (w : Wt), w ∈ ws → -9223372036854775808 ≤ fldW i w ∧ fldW i w < 9223372036854775808) ∧ T2 (True ∧ pIf (decide (fits64 (List.sum (List.map (fldW i) ws)))) q1 q1))))))))))))))))))))))))))))) := by kernel_rfl
theorem ok_wchk : EntOk Tryz.prog ⟨105, c_wchk⟩ := by
 rintro args Post ⟨w, rfl, h⟩
 refine pure_P (inlCall_ok mixed noCall_ok 2) mixed (by kernel_rfl) (by kernel_rfl) _ (e_wchk w _ _) ?_
 simp only [true_and]
 have yes : okWt w → Post (.int .i64 0) := fun hp => by unfold wErr at h; rwa [if_pos hp] at h
 have no : ¬ okWt w → Post (.int .i64 9) := fun hp => by unfold wErr at h; rwa [if_neg hp] at h
 clear h
 unfold okWt at yes no
 repeat' (first
  | refine ifD (fun _ => ?_) (fun _ => ?_)
  | exact yes (by omega)
  | exact no (by omega))
theorem ok_rwchk : EntOk Tryz.prog ⟨176, c_wchk⟩ := by
 rintro args Post ⟨w, rfl, h⟩
 refine pure_P noCall_ok mixed (by kernel_rfl) (by kernel_rfl) _ (e_rwchk w _ _) ?_
 simp only [true_and]
 have yes : okWt w → Post (.int .i64 0) := fun hp => by unfold wErr at h; rwa [if_pos hp] at h
 have no : ¬ okWt w → Post (.int .i64 9) := fun hp => by unfold wErr at h; rwa [if_neg hp] at h
 clear h
 unfold okWt at yes no
 repeat' (first
  | refine ifD (fun _ => ?_) (fun _ => ?_)
  | exact yes (by omega)
  | exact no (by omega))
theorem ok_rpart17 : EntOk Tryz.prog ⟨108, c_spart⟩ := by
 rintro args Post ⟨d, s, rfl, hf, h⟩
 refine pure_P noCall_ok mixed (by kernel_rfl) (by kernel_rfl) _ (e_rpart d s _ _) ?_
 simp only [true_and]
 refine down (n := d.parts.length) (p := fun k => (∀ j (hj : j < d.parts.length), j < k → ¬ d.parts[j].id = s) → OkP 108 [design6V d, .string s] 2 Post (stV [(1, some (.string s)), (2, some (.pointer (some ⟨0, 0, none⟩))), (4, some (.pointer (some ⟨1, 0, none⟩))), (6, some (.int .i64 k))] [(0, some (.cells (design6C d) true)), (1, some (.cells zeroP true))] 2)) (fun hall => ?_) (fun k k1 ih hall => ?_) (fun i _ hi => by omega)
 ·refine ok_P noCall_ok mixed _ (l_rpart d s d.parts.length _ _) ?_
  simp only [true_and, and_true, Nat.le_refl]
  have e : partOf d s = none := by
   unfold partOf
   rw [List.find?_eq_none]
   intro g hg
   obtain ⟨i, hi, rfl⟩ := List.mem_iff_getElem.1 hg
   simpa using hall i hi hi
  rw [e] at h
  exact ifD (fun hlt => by omega) (fun _ => h)
 ·refine ok_P noCall_ok mixed _ (l_rpart d s k _ _) ?_
  have hk : ((k : Nat) : Int).toNat = k := Int.toNat_natCast k
  have ks := hf.len
  simp only [hk, cell_part k1]
  have hfound : d.parts[k].id = s → Post (.tuple #[partV d.parts[k], .bool true]) := fun he => by
   have e := partOf_at k1 he (fun j hj hjk => hall j hj hjk)
   rw [e] at h
   exact h
  have hnext : ¬ d.parts[k].id = s → OkP 108 [design6V d, .string s] 2 Post (stV [(1, some (.string s)), (2, some (.pointer (some ⟨0, 0, none⟩))), (4, some (.pointer (some ⟨1, 0, none⟩))), (6, some (.int .i64 ((k + 1 : Nat) : Int)))] [(0, some (.cells (design6C d) true)), (1, some (.cells zeroP true))] 2) := fun he => ih fun j hj hjk => by
   rcases Nat.lt_or_ge j k with h' | h'
   ·exact hall j hj h'
   ·have : j = k := by omega
    subst this
    exact he
  clear ih hall h
  generalize d.parts[k] = p at *
  simp only [partC, toI_int, toS_string, toN_tree, toE_tree, true_and, and_true, Nat.le_refl, wrapSucc (show k < 2 ^ 62 by omega), List.getElem?_cons_zero, List.getElem?_cons_succ, Option.getD_some]
  exact ifD (fun _ => ⟨⟨by omega, by omega⟩, ifD (fun he => ⟨⟨by omega, by omega⟩, hfound he⟩) (fun he => hnext he)⟩) (fun h' => by omega)
theorem take_sumZ {l : List Int} {k : Nat} (h : k < l.length) : (l.take (k + 1)).sum = (l.take k).sum + l[k] := by
 have e : l.take (k + 1) = l.take k ++ [l[k]] := by
  rw [List.take_add_one, List.getElem?_eq_getElem h]
  rfl
 rw [e, List.sum_append, List.sum_cons, List.sum_nil]
 omega
theorem sum_bdZ {l : List Int} (h : ∀ x ∈ l, fits64 x) : -(9223372036854775808 * (l.length : Int)) ≤ l.sum ∧ l.sum ≤ 9223372036854775808 * (l.length : Int) := by
 induction l with
 | nil => simp
 | cons a l ih =>
  have := ih fun x hx => h x (by simp [hx])
  have h1 := h a (by simp)
  unfold fits64 at h1
  rw [List.sum_cons, List.length_cons]
  omega
theorem sum_take_bd {l : List Int} (h : ∀ x ∈ l, fits64 x) (k : Nat) (hk : k ≤ 65536) : -(9223372036854775808 * 65536) ≤ (l.take k).sum ∧ (l.take k).sum ≤ 9223372036854775808 * 65536 := by
 have h1 := sum_bdZ (l := l.take k) fun x hx => h x (List.mem_of_mem_take hx)
 have h2 : (l.take k).length ≤ 65536 := by rw [List.length_take]; omega
 omega
theorem and32 (x : Int) : (((BitVec.ofInt 64 x &&& BitVec.ofInt 64 4294967295).toNat : Nat) : Int) = x % 4294967296 := by
 rw [BitVec.toNat_and, BitVec.toNat_ofInt, BitVec.toNat_ofInt]
 have e : ((4294967295 : Int) % ((2 ^ 64 : Nat) : Int)).toNat = 2 ^ 32 - 1 := by decide
 rw [e, Nat.and_two_pow_sub_one_eq_mod]
 omega
theorem ext_add : ExtIs Tryz.prog 244 add64Entry := ⟨fun args w => run_callFunc_extern Tryz.func244 (by kernel_rfl) (by kernel_rfl) (by kernel_rfl) (by kernel_rfl) args w⟩
theorem cell_num {l : List Int} {k : Nat} (h : k < l.length) : cellAt (encL l) k 0 = .int .i64 l[k] := by
 rw [cellAt_encL' h]
 rfl
theorem wrapU_mod (n : Int) : IntKind.u64.wrap n = n % 18446744073709551616 := by rw [IntKind.wrap_u64]
theorem wrapI64 (n : Int) : -9223372036854775808 ≤ IntKind.i64.wrap n ∧ IntKind.i64.wrap n < 9223372036854775808 ∧ ∃ q, IntKind.i64.wrap n = n + 18446744073709551616 * q := by
 rw [IntKind.wrap_i64]
 refine ⟨by omega, by omega, ?_⟩
 by_cases h : n % 18446744073709551616 < 9223372036854775808
 ·exact ⟨-(n / 18446744073709551616), by omega⟩
 ·exact ⟨-(n / 18446744073709551616) - 1, by omega⟩
theorem sum_good {l : List Int} (h : fits64 l.sum) : sumV l = l.sum ∧ sumE l = 0 := by
 unfold sumV sumE
 rw [if_pos h, if_pos h]
 exact ⟨rfl, rfl⟩
theorem sum_bad {l : List Int} (h : ¬ fits64 l.sum) : sumV l = 0 ∧ sumE l = 21 := by
 unfold sumV sumE
 rw [if_neg h, if_neg h]
 exact ⟨rfl, rfl⟩
theorem ok_nsum : EntOk Tryz.prog ⟨220, c_sum⟩ := by
 rintro args Post ⟨l, rfl, hl, hx, h⟩
 refine pure_P noCall_ok mixed (by kernel_rfl) (by kernel_rfl) _ (e_nsum l.length (encL l) _ _) ?_
 simp only [true_and]
 refine down (n := l.length) (p := fun k => OkP 220 [tree 1 l.length (encL l)] 3 Post (stV [(4, some (.int .i64 ((l.take k).sum / 18446744073709551616))), (5, some (.int .u64 ((l.take k).sum % 18446744073709551616))), (11, some (tree 1 l.length (encL l))), (12, some (.int .i64 l.length)), (13, some (.int .i64 k))] [] 0)) ?_ (fun k k1 ih => ?_)
 ·refine ok_P noCall_ok mixed _ (l_nsum l.length _ _ l.length (encL l) _ _) ?_
  rw [List.take_length]
  have hb := sum_take_bd hx l.length hl
  rw [List.take_length] at hb
  have good : ∀ r : Int, (-9223372036854775808 ≤ r ∧ r < 9223372036854775808) → r = l.sum → Post (.tuple #[.int .i64 r, .int .i64 0]) := fun r hr e => by
   obtain ⟨s1, s2⟩ := sum_good (l := l) (by rw [← e]; exact hr)
   rw [s1, s2] at h
   rw [e]
   exact h
  have bad : ¬ (-9223372036854775808 ≤ l.sum ∧ l.sum < 9223372036854775808) → Post (.tuple #[.int .i64 0, .int .i64 21]) := fun e => by
   obtain ⟨s1, s2⟩ := sum_bad (l := l) e
   rw [s1, s2] at h
   exact h
  clear h
  generalize l.sum = S at *
  obtain ⟨b1, b2, q, b3⟩ := wrapI64 (S % 18446744073709551616)
  generalize IntKind.i64.wrap (S % 18446744073709551616) = r at *
  simp only [true_and]
  refine ifD (fun hlt => by omega) (fun _ => ?_)
  repeat' (first
   | refine ifD (fun _ => ?_) (fun _ => ?_)
   | exact good _ (by omega) (by omega)
   | exact bad (by omega))
 ·refine ok_P noCall_ok mixed _ (l_nsum l.length _ _ k (encL l) _ _) ?_
  have hk : ((k : Nat) : Int).toNat = k := Int.toNat_natCast k
  have hb := sum_take_bd hx k (by omega)
  have hb2 := sum_take_bd hx (k + 1) (by omega)
  have hv := hx _ (List.getElem_mem k1)
  unfold fits64 at hv
  rw [take_sumZ k1] at ih hb2
  simp only [true_and, hk, cell_num k1, toI_int, wrapU_mod, wrapSucc (show k < 2 ^ 62 by omega)]
  generalize l[k] = x at *
  generalize (l.take k).sum = S at *
  have e2 : (S % 18446744073709551616 + x % 18446744073709551616 + 0) % 18446744073709551616 = (S + x) % 18446744073709551616 := by omega
  rw [e2]
  have hc : IntKind.i64.wrap ((S % 18446744073709551616 + x % 18446744073709551616 + 0) / 18446744073709551616) = (S % 18446744073709551616 + x % 18446744073709551616 + 0) / 18446744073709551616 := wrap64 (by omega) (by omega)
  rw [hc]
  have ha : IntKind.i64.wrap (S / 18446744073709551616 + (S % 18446744073709551616 + x % 18446744073709551616 + 0) / 18446744073709551616) = S / 18446744073709551616 + (S % 18446744073709551616 + x % 18446744073709551616 + 0) / 18446744073709551616 := wrap64 (by omega) (by omega)
  rw [ha]
  refine ifD (fun _ => ⟨⟨by omega, by omega⟩, ⟨ext_add, by omega, by omega, by decide, by decide⟩, ifD (fun hn => ?_) (fun hn => ?_)⟩) (fun h' => by omega)
  ·rw [wrap64 (by omega) (by omega)]
   have e3 : S / 18446744073709551616 + (S % 18446744073709551616 + x % 18446744073709551616 + 0) / 18446744073709551616 - 1 = (S + x) / 18446744073709551616 := by omega
   rw [e3]
   exact ih
  ·have e3 : S / 18446744073709551616 + (S % 18446744073709551616 + x % 18446744073709551616 + 0) / 18446744073709551616 = (S + x) / 18446744073709551616 := by omega
   rw [e3]
   exact ih
def hiSum (l : List Int) (k : Nat) : Int := ((l.take k).map fun x => x.fdiv 4294967296).sum
def loSum (l : List Int) (k : Nat) : Int := ((l.take k).map fun x => x % 4294967296).sum
theorem hi_step {l : List Int} {k : Nat} (h : k < l.length) : hiSum l (k + 1) = hiSum l k + (l[k]).fdiv 4294967296 ∧ loSum l (k + 1) = loSum l k + l[k] % 4294967296 := by
 have e : l.take (k + 1) = l.take k ++ [l[k]] := by
  rw [List.take_add_one, List.getElem?_eq_getElem h]
  rfl
 unfold hiSum loSum
 rw [e, List.map_append, List.map_append, List.sum_append, List.sum_append]
 simp only [List.map_cons, List.map_nil, List.sum_cons, List.sum_nil, Int.add_zero, and_self]
theorem hilo {l : List Int} (hx : ∀ x ∈ l, fits64 x) : ∀ k, k ≤ l.length → k ≤ 65536 → hiSum l k * 4294967296 + loSum l k = (l.take k).sum ∧ (-(2147483648 * (k : Int)) ≤ hiSum l k ∧ hiSum l k ≤ 2147483648 * (k : Int)) ∧ 0 ≤ loSum l k ∧ loSum l k ≤ 4294967296 * (k : Int)
 | 0, _, _ => by simp [hiSum, loSum]
 | k + 1, hk, hb => by
  have ih := hilo hx k (by omega) (by omega)
  have hv := hx _ (List.getElem_mem (show k < l.length by omega))
  unfold fits64 at hv
  obtain ⟨e1, e2⟩ := hi_step (show k < l.length by omega)
  rw [e1, e2, take_sumZ (show k < l.length by omega)]
  have hf : (l[k]).fdiv 4294967296 = l[k] / 4294967296 := Int.fdiv_eq_ediv_of_nonneg _ (by decide)
  rw [hf]
  generalize l[k] = x at *
  omega
theorem ok_rsum : EntOk Tryz.prog ⟨177, c_sum⟩ := by
 rintro args Post ⟨l, rfl, hl, hx, h⟩
 refine pure_P noCall_ok mixed (by kernel_rfl) (by kernel_rfl) _ (e_rsum l.length (encL l) _ _) ?_
 simp only [true_and]
 refine down (n := l.length) (p := fun k => OkP 177 [tree 1 l.length (encL l)] 3 Post (stV [(0, some (tree 1 l.length (encL l))), (4, some (.int .i64 (hiSum l k))), (5, some (.int .i64 (loSum l k))), (6, some (.int .i64 k))] [] 0)) ?_ (fun k k1 ih => ?_)
 ·refine ok_P noCall_ok mixed _ (l_rsum l.length _ _ l.length (encL l) _ _) ?_
  obtain ⟨g1, g2, g3, g4⟩ := hilo hx l.length (Nat.le_refl _) hl
  rw [List.take_length] at g1
  have good : ∀ r : Int, (-9223372036854775808 ≤ r ∧ r < 9223372036854775808) → r = l.sum → Post (.tuple #[.int .i64 r, .int .i64 0]) := fun r hr e => by
   obtain ⟨s1, s2⟩ := sum_good (l := l) (by rw [← e]; exact hr)
   rw [s1, s2] at h
   rw [e]
   exact h
  have bad : ¬ (-9223372036854775808 ≤ l.sum ∧ l.sum < 9223372036854775808) → Post (.tuple #[.int .i64 0, .int .i64 21]) := fun e => by
   obtain ⟨s1, s2⟩ := sum_bad (l := l) e
   rw [s1, s2] at h
   exact h
  clear h
  generalize l.sum = S at *
  generalize hiSum l l.length = H at *
  generalize loSum l l.length = L at *
  have p32 : (2 : Int) ^ 32 = 4294967296 := by decide
  have hf : L.fdiv 4294967296 = L / 4294967296 := Int.fdiv_eq_ediv_of_nonneg _ (by decide)
  have w1 : IntKind.i64.wrap (H + L / 4294967296) = H + L / 4294967296 := wrap64 (by omega) (by omega)
  simp only [true_and, p32, hf, w1, and32, toI_int]
  refine ifD (fun hlt => by omega) (fun _ => ⟨by decide, ifD (fun n1 => ?_) (fun n1 => ifD (fun n2 => ?_) (fun n2 => ⟨by decide, ?_⟩))⟩)
  ·exact bad (by omega)
  ·exact bad (by omega)
  ·rw [wrap64 (n := (H + L / 4294967296) * 4294967296) (by omega) (by omega), wrap64 (n := L % 4294967296) (by omega) (by omega), wrap64 (by omega) (by omega)]
   exact good _ (by omega) (by omega)
 ·refine ok_P noCall_ok mixed _ (l_rsum l.length _ _ k (encL l) _ _) ?_
  have hk : ((k : Nat) : Int).toNat = k := Int.toNat_natCast k
  have hv := hx _ (List.getElem_mem k1)
  unfold fits64 at hv
  obtain ⟨g1, g2, g3, g4⟩ := hilo hx k (by omega) (by omega)
  obtain ⟨e1, e2⟩ := hi_step k1
  rw [e1, e2] at ih
  have p32 : (2 : Int) ^ 32 = 4294967296 := by decide
  have hf : (l[k]).fdiv 4294967296 = l[k] / 4294967296 := Int.fdiv_eq_ediv_of_nonneg _ (by decide)
  simp only [true_and, hk, cell_num k1, toI_int, p32, and32, wrapSucc (show k < 2 ^ 62 by omega)]
  rw [hf] at ih ⊢
  generalize l[k] = x at *
  rw [wrap64 (n := x % 4294967296) (by omega) (by omega), wrap64 (n := hiSum l k + x / 4294967296) (by omega) (by omega), wrap64 (n := loSum l k + x % 4294967296) (by omega) (by omega)]
  exact ifD (fun _ => ⟨⟨by omega, by omega⟩, by decide, ⟨by omega, by omega⟩, ih⟩) (fun h' => by omega)
theorem vcTo_ok : VCallOk Tryz.prog vcTo := inlCall_ok mixed (tabCallF_ok (by
 intro e he
 simp only [List.mem_cons, List.not_mem_nil, or_false] at he
 subst he
 exact ok_nsum) noCall_ok) 2
def midL (f : Wt → Int) (ws : List Wt) (k : Nat) : List Value := ((ws.take k).map fun w => .int .i64 (f w)) ++ List.replicate (ws.length - k) (.int .i64 0)
theorem zrow_rep (v : Value) : ∀ n, zrow n [v] = List.replicate n v
 | 0 => rfl
 | n + 1 => by rw [zrow, zrow_rep v n]; rfl
theorem midL_zero (f : Wt → Int) (ws : List Wt) : midL f ws 0 = zrow ws.length [.int .i64 0] := by
 rw [zrow_rep]
 rfl
theorem midL_len {f : Wt → Int} {ws : List Wt} {k : Nat} (h : k ≤ ws.length) : (midL f ws k).length = ws.length := by
 unfold midL
 rw [List.length_append, List.length_map, List.length_take, List.length_replicate]
 omega
theorem midL_step {f : Wt → Int} {ws : List Wt} {k : Nat} (h : k < ws.length) : setFrom (midL f ws k) k [.int .i64 (f ws[k])] = midL f ws (k + 1) := by
 show (midL f ws k).set k _ = _
 unfold midL
 have hl : ((ws.take k).map fun w => Value.int .i64 (f w)).length = k := by rw [List.length_map, List.length_take]; omega
 rw [List.set_append_right _ _ (by omega), hl, Nat.sub_self, List.take_add_one, List.getElem?_eq_getElem h, List.map_append, List.append_assoc]
 have e : ws.length - k = (ws.length - (k + 1)) + 1 := by omega
 rw [e, List.replicate_succ]
 rfl
theorem midL_nls (f : Wt → Int) (ws : List Wt) (k : Nat) : NLs (midL f ws k) := fun v hv => by
 unfold midL at hv
 rcases List.mem_append.1 hv with h | h
 ·obtain ⟨a, _, rfl⟩ := List.mem_map.1 h
  rfl
 ·rw [(List.mem_replicate.1 h).2]
  rfl
theorem midL_end (f : Wt → Int) (ws : List Wt) : chunks 1 ws.length (List.drop 0 (midL f ws ws.length)) = encL (ws.map f) := by
 show ((List.drop 0 (midL f ws ws.length)).take ws.length).toArray = _
 unfold midL encL
 rw [List.take_length, Nat.sub_self, List.drop_zero, List.replicate_zero, List.append_nil, List.take_of_length_le (by simp), List.map_map]
 rfl
theorem cell_wt {ws : List Wt} {k : Nat} (h : k < ws.length) : cellAt (encL ws) k 0 = .int .i64 ws[k].m ∧ cellAt (encL ws) k 1 = .int .i64 ws[k].x ∧ cellAt (encL ws) k 2 = .int .i64 ws[k].y ∧ cellAt (encL ws) k 3 = .int .i64 ws[k].z ∧ cellAt (encL ws) k 4 = .int .i64 ws[k].v := by
 refine ⟨?_, ?_, ?_, ?_, ?_⟩ <;> (rw [cellAt_encL' h]; rfl)
theorem sumE_zero (l : List Int) : (sumE l = 0) = fits64 l.sum := by
 unfold sumE
 by_cases h : fits64 l.sum
 ·rw [if_pos h]; simp [h]
 ·rw [if_neg h]; simp [h]
theorem total_0 {ws : List Wt} {Post : Value → Prop} (hl : ws.length ≤ 65536) (hx : ∀ w ∈ ws, fits64 (fldW 0 w)) (h : Post (.tuple #[.int .i64 (sumV (ws.map (fldW 0))), .bool (decide (fits64 (ws.map (fldW 0)).sum))])) : Pure Tryz.prog 170 [.int .i64 ws.length, fnT 171 ws.length (encL ws)] Post := by
 refine pure_P vcTo_ok mixed (by kernel_rfl) (by kernel_rfl) _ (e_total0 ws.length (encL ws) _ _) ?_
 have hn : ((ws.length : Nat) : Int).toNat = ws.length := Int.toNat_natCast _
 simp only [true_and, and_true, hn]
 refine ⟨⟨by omega, by omega, by omega⟩, by rw [← midL_zero (fldW 0)]; exact midL_nls _ _ _, ?_⟩
 rw [← midL_zero (fldW 0)]
 refine down (n := ws.length) (p := fun k => OkP 170 [.int .i64 ws.length, fnT 171 ws.length (encL ws)] 3 Post (stV [(1, some (fnT 171 ws.length (encL ws))), (6, some (.slice (some ⟨0, 0, none⟩) ws.length 1)), (13, some (.int .i64 ws.length)), (14, some (.int .i64 k))] [(0, some (.cells (midL (fldW 0) ws k) true))] 1)) ?_ (fun k k1 ih => ?_)
 ·refine ok_P vcTo_ok mixed _ (l_total0 ws.length ws.length (midL (fldW 0) ws ws.length) (encL ws) _ _) ?_
  simp only [true_and, and_true]
  refine ifD (fun hlt => by omega) (fun _ => ⟨⟨by rw [midL_len (Nat.le_refl _)]; omega, midL_nls _ _ _⟩, ws.map (fldW 0), ?_, ?_, fun x hm => ?_, ?_⟩)
  ·rw [midL_end]
   have e : (ws.map (fldW 0)).length = ws.length := List.length_map _
   rw [e]
  ·rw [List.length_map]; exact hl
  ·obtain ⟨w, hw, rfl⟩ := List.mem_map.1 hm
   exact hx w hw
  ·refine ifD (fun e => ?_) (fun e => ?_)
   ·rw [sumE_zero] at e
    rwa [decide_eq_true e] at h
   ·rw [sumE_zero] at e
    rwa [decide_eq_false e] at h
 ·refine ok_P vcTo_ok mixed _ (l_total0 ws.length k (midL (fldW 0) ws k) (encL ws) _ _) ?_
  have hk : ((k : Nat) : Int).toNat = k := Int.toNat_natCast k
  obtain ⟨c0, c1, c2, c3, c4⟩ := cell_wt k1
  have e : setFrom (midL (fldW 0) ws k) k [.int .i64 ws[k].m] = midL (fldW 0) ws (k + 1) := midL_step (f := (fldW 0)) k1
  simp only [true_and, and_true, hk, Nat.zero_add, Nat.mul_one, c0, c1, c2, c3, c4, toI_int, e, wrapSucc (show k < 2 ^ 62 by omega)]
  exact ifD (fun _ => ⟨⟨by omega, by omega⟩, ⟨by omega, by omega⟩, by rw [midL_len (Nat.le_of_lt k1)]; exact k1, midL_nls _ _ _, ih⟩) (fun h' => by omega)
theorem total_1 {ws : List Wt} {Post : Value → Prop} (hl : ws.length ≤ 65536) (hx : ∀ w ∈ ws, fits64 (fldW 1 w)) (h : Post (.tuple #[.int .i64 (sumV (ws.map (fldW 1))), .bool (decide (fits64 (ws.map (fldW 1)).sum))])) : Pure Tryz.prog 170 [.int .i64 ws.length, fnT 172 ws.length (encL ws)] Post := by
 refine pure_P vcTo_ok mixed (by kernel_rfl) (by kernel_rfl) _ (e_total1 ws.length (encL ws) _ _) ?_
 have hn : ((ws.length : Nat) : Int).toNat = ws.length := Int.toNat_natCast _
 simp only [true_and, and_true, hn]
 refine ⟨⟨by omega, by omega, by omega⟩, by rw [← midL_zero (fldW 1)]; exact midL_nls _ _ _, ?_⟩
 rw [← midL_zero (fldW 1)]
 refine down (n := ws.length) (p := fun k => OkP 170 [.int .i64 ws.length, fnT 172 ws.length (encL ws)] 3 Post (stV [(1, some (fnT 172 ws.length (encL ws))), (6, some (.slice (some ⟨0, 0, none⟩) ws.length 1)), (13, some (.int .i64 ws.length)), (14, some (.int .i64 k))] [(0, some (.cells (midL (fldW 1) ws k) true))] 1)) ?_ (fun k k1 ih => ?_)
 ·refine ok_P vcTo_ok mixed _ (l_total1 ws.length ws.length (midL (fldW 1) ws ws.length) (encL ws) _ _) ?_
  simp only [true_and, and_true]
  refine ifD (fun hlt => by omega) (fun _ => ⟨⟨by rw [midL_len (Nat.le_refl _)]; omega, midL_nls _ _ _⟩, ws.map (fldW 1), ?_, ?_, fun x hm => ?_, ?_⟩)
  ·rw [midL_end]
   have e : (ws.map (fldW 1)).length = ws.length := List.length_map _
   rw [e]
  ·rw [List.length_map]; exact hl
  ·obtain ⟨w, hw, rfl⟩ := List.mem_map.1 hm
   exact hx w hw
  ·refine ifD (fun e => ?_) (fun e => ?_)
   ·rw [sumE_zero] at e
    rwa [decide_eq_true e] at h
   ·rw [sumE_zero] at e
    rwa [decide_eq_false e] at h
 ·refine ok_P vcTo_ok mixed _ (l_total1 ws.length k (midL (fldW 1) ws k) (encL ws) _ _) ?_
  have hk : ((k : Nat) : Int).toNat = k := Int.toNat_natCast k
  obtain ⟨c0, c1, c2, c3, c4⟩ := cell_wt k1
  have e : setFrom (midL (fldW 1) ws k) k [.int .i64 ws[k].x] = midL (fldW 1) ws (k + 1) := midL_step (f := (fldW 1)) k1
  simp only [true_and, and_true, hk, Nat.zero_add, Nat.mul_one, c0, c1, c2, c3, c4, toI_int, e, wrapSucc (show k < 2 ^ 62 by omega)]
  exact ifD (fun _ => ⟨⟨by omega, by omega⟩, ⟨by omega, by omega⟩, by rw [midL_len (Nat.le_of_lt k1)]; exact k1, midL_nls _ _ _, ih⟩) (fun h' => by omega)
theorem total_2 {ws : List Wt} {Post : Value → Prop} (hl : ws.length ≤ 65536) (hx : ∀ w ∈ ws, fits64 (fldW 2 w)) (h : Post (.tuple #[.int .i64 (sumV (ws.map (fldW 2))), .bool (decide (fits64 (ws.map (fldW 2)).sum))])) : Pure Tryz.prog 170 [.int .i64 ws.length, fnT 173 ws.length (encL ws)] Post := by
 refine pure_P vcTo_ok mixed (by kernel_rfl) (by kernel_rfl) _ (e_total2 ws.length (encL ws) _ _) ?_
 have hn : ((ws.length : Nat) : Int).toNat = ws.length := Int.toNat_natCast _
 simp only [true_and, and_true, hn]
 refine ⟨⟨by omega, by omega, by omega⟩, by rw [← midL_zero (fldW 2)]; exact midL_nls _ _ _, ?_⟩
 rw [← midL_zero (fldW 2)]
 refine down (n := ws.length) (p := fun k => OkP 170 [.int .i64 ws.length, fnT 173 ws.length (encL ws)] 3 Post (stV [(1, some (fnT 173 ws.length (encL ws))), (6, some (.slice (some ⟨0, 0, none⟩) ws.length 1)), (13, some (.int .i64 ws.length)), (14, some (.int .i64 k))] [(0, some (.cells (midL (fldW 2) ws k) true))] 1)) ?_ (fun k k1 ih => ?_)
 ·refine ok_P vcTo_ok mixed _ (l_total2 ws.length ws.length (midL (fldW 2) ws ws.length) (encL ws) _ _) ?_
  simp only [true_and, and_true]
  refine ifD (fun hlt => by omega) (fun _ => ⟨⟨by rw [midL_len (Nat.le_refl _)]; omega, midL_nls _ _ _⟩, ws.map (fldW 2), ?_, ?_, fun x hm => ?_, ?_⟩)
  ·rw [midL_end]
   have e : (ws.map (fldW 2)).length = ws.length := List.length_map _
   rw [e]
  ·rw [List.length_map]; exact hl
  ·obtain ⟨w, hw, rfl⟩ := List.mem_map.1 hm
   exact hx w hw
  ·refine ifD (fun e => ?_) (fun e => ?_)
   ·rw [sumE_zero] at e
    rwa [decide_eq_true e] at h
   ·rw [sumE_zero] at e
    rwa [decide_eq_false e] at h
 ·refine ok_P vcTo_ok mixed _ (l_total2 ws.length k (midL (fldW 2) ws k) (encL ws) _ _) ?_
  have hk : ((k : Nat) : Int).toNat = k := Int.toNat_natCast k
  obtain ⟨c0, c1, c2, c3, c4⟩ := cell_wt k1
  have e : setFrom (midL (fldW 2) ws k) k [.int .i64 ws[k].y] = midL (fldW 2) ws (k + 1) := midL_step (f := (fldW 2)) k1
  simp only [true_and, and_true, hk, Nat.zero_add, Nat.mul_one, c0, c1, c2, c3, c4, toI_int, e, wrapSucc (show k < 2 ^ 62 by omega)]
  exact ifD (fun _ => ⟨⟨by omega, by omega⟩, ⟨by omega, by omega⟩, by rw [midL_len (Nat.le_of_lt k1)]; exact k1, midL_nls _ _ _, ih⟩) (fun h' => by omega)
theorem total_3 {ws : List Wt} {Post : Value → Prop} (hl : ws.length ≤ 65536) (hx : ∀ w ∈ ws, fits64 (fldW 3 w)) (h : Post (.tuple #[.int .i64 (sumV (ws.map (fldW 3))), .bool (decide (fits64 (ws.map (fldW 3)).sum))])) : Pure Tryz.prog 170 [.int .i64 ws.length, fnT 174 ws.length (encL ws)] Post := by
 refine pure_P vcTo_ok mixed (by kernel_rfl) (by kernel_rfl) _ (e_total3 ws.length (encL ws) _ _) ?_
 have hn : ((ws.length : Nat) : Int).toNat = ws.length := Int.toNat_natCast _
 simp only [true_and, and_true, hn]
 refine ⟨⟨by omega, by omega, by omega⟩, by rw [← midL_zero (fldW 3)]; exact midL_nls _ _ _, ?_⟩
 rw [← midL_zero (fldW 3)]
 refine down (n := ws.length) (p := fun k => OkP 170 [.int .i64 ws.length, fnT 174 ws.length (encL ws)] 3 Post (stV [(1, some (fnT 174 ws.length (encL ws))), (6, some (.slice (some ⟨0, 0, none⟩) ws.length 1)), (13, some (.int .i64 ws.length)), (14, some (.int .i64 k))] [(0, some (.cells (midL (fldW 3) ws k) true))] 1)) ?_ (fun k k1 ih => ?_)
 ·refine ok_P vcTo_ok mixed _ (l_total3 ws.length ws.length (midL (fldW 3) ws ws.length) (encL ws) _ _) ?_
  simp only [true_and, and_true]
  refine ifD (fun hlt => by omega) (fun _ => ⟨⟨by rw [midL_len (Nat.le_refl _)]; omega, midL_nls _ _ _⟩, ws.map (fldW 3), ?_, ?_, fun x hm => ?_, ?_⟩)
  ·rw [midL_end]
   have e : (ws.map (fldW 3)).length = ws.length := List.length_map _
   rw [e]
  ·rw [List.length_map]; exact hl
  ·obtain ⟨w, hw, rfl⟩ := List.mem_map.1 hm
   exact hx w hw
  ·refine ifD (fun e => ?_) (fun e => ?_)
   ·rw [sumE_zero] at e
    rwa [decide_eq_true e] at h
   ·rw [sumE_zero] at e
    rwa [decide_eq_false e] at h
 ·refine ok_P vcTo_ok mixed _ (l_total3 ws.length k (midL (fldW 3) ws k) (encL ws) _ _) ?_
  have hk : ((k : Nat) : Int).toNat = k := Int.toNat_natCast k
  obtain ⟨c0, c1, c2, c3, c4⟩ := cell_wt k1
  have e : setFrom (midL (fldW 3) ws k) k [.int .i64 ws[k].z] = midL (fldW 3) ws (k + 1) := midL_step (f := (fldW 3)) k1
  simp only [true_and, and_true, hk, Nat.zero_add, Nat.mul_one, c0, c1, c2, c3, c4, toI_int, e, wrapSucc (show k < 2 ^ 62 by omega)]
  exact ifD (fun _ => ⟨⟨by omega, by omega⟩, ⟨by omega, by omega⟩, by rw [midL_len (Nat.le_of_lt k1)]; exact k1, midL_nls _ _ _, ih⟩) (fun h' => by omega)
theorem total_4 {ws : List Wt} {Post : Value → Prop} (hl : ws.length ≤ 65536) (hx : ∀ w ∈ ws, fits64 (fldW 4 w)) (h : Post (.tuple #[.int .i64 (sumV (ws.map (fldW 4))), .bool (decide (fits64 (ws.map (fldW 4)).sum))])) : Pure Tryz.prog 170 [.int .i64 ws.length, fnT 175 ws.length (encL ws)] Post := by
 refine pure_P vcTo_ok mixed (by kernel_rfl) (by kernel_rfl) _ (e_total4 ws.length (encL ws) _ _) ?_
 have hn : ((ws.length : Nat) : Int).toNat = ws.length := Int.toNat_natCast _
 simp only [true_and, and_true, hn]
 refine ⟨⟨by omega, by omega, by omega⟩, by rw [← midL_zero (fldW 4)]; exact midL_nls _ _ _, ?_⟩
 rw [← midL_zero (fldW 4)]
 refine down (n := ws.length) (p := fun k => OkP 170 [.int .i64 ws.length, fnT 175 ws.length (encL ws)] 3 Post (stV [(1, some (fnT 175 ws.length (encL ws))), (6, some (.slice (some ⟨0, 0, none⟩) ws.length 1)), (13, some (.int .i64 ws.length)), (14, some (.int .i64 k))] [(0, some (.cells (midL (fldW 4) ws k) true))] 1)) ?_ (fun k k1 ih => ?_)
 ·refine ok_P vcTo_ok mixed _ (l_total4 ws.length ws.length (midL (fldW 4) ws ws.length) (encL ws) _ _) ?_
  simp only [true_and, and_true]
  refine ifD (fun hlt => by omega) (fun _ => ⟨⟨by rw [midL_len (Nat.le_refl _)]; omega, midL_nls _ _ _⟩, ws.map (fldW 4), ?_, ?_, fun x hm => ?_, ?_⟩)
  ·rw [midL_end]
   have e : (ws.map (fldW 4)).length = ws.length := List.length_map _
   rw [e]
  ·rw [List.length_map]; exact hl
  ·obtain ⟨w, hw, rfl⟩ := List.mem_map.1 hm
   exact hx w hw
  ·refine ifD (fun e => ?_) (fun e => ?_)
   ·rw [sumE_zero] at e
    rwa [decide_eq_true e] at h
   ·rw [sumE_zero] at e
    rwa [decide_eq_false e] at h
 ·refine ok_P vcTo_ok mixed _ (l_total4 ws.length k (midL (fldW 4) ws k) (encL ws) _ _) ?_
  have hk : ((k : Nat) : Int).toNat = k := Int.toNat_natCast k
  obtain ⟨c0, c1, c2, c3, c4⟩ := cell_wt k1
  have e : setFrom (midL (fldW 4) ws k) k [.int .i64 ws[k].v] = midL (fldW 4) ws (k + 1) := midL_step (f := (fldW 4)) k1
  simp only [true_and, and_true, hk, Nat.zero_add, Nat.mul_one, c0, c1, c2, c3, c4, toI_int, e, wrapSucc (show k < 2 ^ 62 by omega)]
  exact ifD (fun _ => ⟨⟨by omega, by omega⟩, ⟨by omega, by omega⟩, by rw [midL_len (Nat.le_of_lt k1)]; exact k1, midL_nls _ _ _, ih⟩) (fun h' => by omega)
theorem ok_total : EntOk Tryz.prog ⟨170, c_total⟩ := by
 rintro args Post ⟨ws, i, hi, rfl, hl, hx, h⟩
 rcases i with _ | _ | _ | _ | _ | i
 ·exact total_0 hl hx h
 ·exact total_1 hl hx h
 ·exact total_2 hl hx h
 ·exact total_3 hl hx h
 ·exact total_4 hl hx h
 ·omega
def totW (ws : List Wt) : Wt := ⟨(ws.map (fldW 0)).sum, (ws.map (fldW 1)).sum, (ws.map (fldW 2)).sum, (ws.map (fldW 3)).sum, (ws.map (fldW 4)).sum⟩
def sumW (ws : List Wt) : Wt := if okWt (totW ws) then totW ws else wt0
def sumWE (ws : List Wt) : Int := if okWt (totW ws) then 0 else 21
def c_wsum (args : List Value) (Post : Value → Prop) : Prop := ∃ ws : List Wt, args = [tree 5 ws.length (encL ws)] ∧ ws.length ≤ 65536 ∧ (∀ w ∈ ws, ∀ i, fits64 (fldW i w)) ∧ Post (.tuple #[wtV (sumW ws), .int .i64 (sumWE ws)])
theorem vcSw_ok : VCallOk Tryz.prog vcSw := inlCall_ok mixed (tabCall_ok (by
 intro e he
 simp only [List.mem_cons, List.not_mem_nil, or_false] at he
 rcases he with rfl | rfl
 ·exact ok_total
 ·exact ok_wchk) noCall_ok) 2
theorem ok_wsum : EntOk Tryz.prog ⟨107, c_wsum⟩ := by
 rintro args Post ⟨ws, rfl, hl, hx, h⟩
 refine pure_P vcSw_ok mixed (by kernel_rfl) (by kernel_rfl) _ (e_wsum ws.length (encL ws) _ _) ?_
 have le1 : (1 ≤ 5) = True := eq_true (by decide)
 have le2 : (2 ≤ 5) = True := eq_true (by decide)
 have le3 : (3 ≤ 5) = True := eq_true (by decide)
 have le4 : (4 ≤ 5) = True := eq_true (by decide)
 simp only [true_and, and_true, Nat.le_refl, le1, le2, le3, le4]
 have bad : ¬ okWt (totW ws) → Post (.tuple #[.agg #[.int .i64 0, .int .i64 0, .int .i64 0, .int .i64 0, .int .i64 0], .int .i64 21]) := fun hn => by
  unfold sumW sumWE at h
  rw [if_neg hn, if_neg hn] at h
  exact h
 have f0 : okWt (totW ws) → fits64 (ws.map (fldW 0)).sum := fun hk => by unfold okWt totW at hk; unfold fits64; dsimp only at hk; omega
 have f1 : okWt (totW ws) → fits64 (ws.map (fldW 1)).sum := fun hk => by unfold okWt totW at hk; unfold fits64; dsimp only at hk; omega
 have f2 : okWt (totW ws) → fits64 (ws.map (fldW 2)).sum := fun hk => by unfold okWt totW at hk; unfold fits64; dsimp only at hk; omega
 have f3 : okWt (totW ws) → fits64 (ws.map (fldW 3)).sum := fun hk => by unfold okWt totW at hk; unfold fits64; dsimp only at hk; omega
 have f4 : okWt (totW ws) → fits64 (ws.map (fldW 4)).sum := fun hk => by unfold okWt totW at hk; unfold fits64; dsimp only at hk; omega
 have h0 : ∀ w ∈ ws, fits64 (fldW 0 w) := fun w hw => hx w hw 0
 have h1 : ∀ w ∈ ws, fits64 (fldW 1 w) := fun w hw => hx w hw 1
 have h2 : ∀ w ∈ ws, fits64 (fldW 2 w) := fun w hw => hx w hw 2
 have h3 : ∀ w ∈ ws, fits64 (fldW 3 w) := fun w hw => hx w hw 3
 have h4 : ∀ w ∈ ws, fits64 (fldW 4 w) := fun w hw => hx w hw 4
 refine ⟨ws, 0, by decide, rfl, hl, h0, ifD (fun g0 => ?_) (fun n0 => ?_)⟩
 ·refine ⟨ws, 1, by decide, rfl, hl, h1, ifD (fun g1 => ?_) (fun n1 => ?_)⟩
  ·refine ⟨ws, 2, by decide, rfl, hl, h2, ifD (fun g2 => ?_) (fun n2 => ?_)⟩
   ·refine ⟨ws, 3, by decide, rfl, hl, h3, ifD (fun g3 => ?_) (fun n3 => ?_)⟩
    ·refine ⟨ws, 4, by decide, rfl, hl, h4, ifD (fun g4 => ?_) (fun n4 => bad fun hk => n4 (f4 hk))⟩
     refine ⟨⟨sumV (ws.map (fldW 0)), sumV (ws.map (fldW 1)), sumV (ws.map (fldW 2)), sumV (ws.map (fldW 3)), sumV (ws.map (fldW 4))⟩, rfl, ?_⟩
     rw [(sum_good g0).1, (sum_good g1).1, (sum_good g2).1, (sum_good g3).1, (sum_good g4).1]
     have e : (⟨(ws.map (fldW 0)).sum, (ws.map (fldW 1)).sum, (ws.map (fldW 2)).sum, (ws.map (fldW 3)).sum, (ws.map (fldW 4)).sum⟩ : Wt) = totW ws := rfl
     rw [e]
     refine ifN (fun hn => bad fun hk => hn (by unfold wErr; rw [if_pos hk])) (fun he => ?_)
     by_cases hk : okWt (totW ws)
     ·unfold sumW sumWE at h
      rw [if_pos hk, if_pos hk] at h
      exact h
     ·unfold wErr at he
      rw [if_neg hk] at he
      exact absurd he (by decide)
    ·have hb := bad fun hk => n3 (f3 hk)
     exact ⟨ws, 4, by decide, rfl, hl, h4, ifD (fun _ => hb) (fun _ => hb)⟩
   ·have hb := bad fun hk => n2 (f2 hk)
    refine ⟨ws, 3, by decide, rfl, hl, h3, ifD (fun _ => ?_) (fun _ => ?_)⟩
    all_goals exact ⟨ws, 4, by decide, rfl, hl, h4, ifD (fun _ => hb) (fun _ => hb)⟩
  ·have hb := bad fun hk => n1 (f1 hk)
   refine ⟨ws, 2, by decide, rfl, hl, h2, ifD (fun _ => ?_) (fun _ => ?_)⟩
   all_goals refine ⟨ws, 3, by decide, rfl, hl, h3, ifD (fun _ => ?_) (fun _ => ?_)⟩
   all_goals exact ⟨ws, 4, by decide, rfl, hl, h4, ifD (fun _ => hb) (fun _ => hb)⟩
 ·have hb := bad fun hk => n0 (f0 hk)
  refine ⟨ws, 1, by decide, rfl, hl, h1, ifD (fun _ => ?_) (fun _ => ?_)⟩
  all_goals refine ⟨ws, 2, by decide, rfl, hl, h2, ifD (fun _ => ?_) (fun _ => ?_)⟩
  all_goals refine ⟨ws, 3, by decide, rfl, hl, h3, ifD (fun _ => ?_) (fun _ => ?_)⟩
  all_goals exact ⟨ws, 4, by decide, rfl, hl, h4, ifD (fun _ => hb) (fun _ => hb)⟩
abbrev zeroW : List Value := [.int .i64 0, .int .i64 0, .int .i64 0, .int .i64 0, .int .i64 0]
abbrev trS (l : List ByteArray) : Value := tree 1 l.length (encL l)
def vcOf : VCall := tabCallF Tryz.prog [⟨106, c_spart⟩, ⟨22, c_Weight⟩, ⟨107, c_wsum⟩] noCall
abbrev lpOf : List (Nat × List Nat) := [(3, [3, 4, 6, 8, 21, 22, 23]), (12, [4, 6, 13, 1044, 45, 46])]
theorem e_of (d : Design6) (m : Mats) (n : Nat) (A : Array Value) (H : HT) (Post : PV) : vcP Tryz.prog vcOf 40 lpOf [design6V d, matsV m, tree 1 n A] H Post = (T4 (T2 ((toI (vi 0) ≤ 0 ∧ 0 ≤ (↑n : Int) ∧ (↑n : Int) ≤ 2 ^ 25) ∧ T4 (True ∧ (T2 (True ∧ NLs [] ∧ True)) ∧ H (lpC Tryz.prog 40 3) (lpK Tryz.prog 40 3) (stV [(3, some (pt 0)), (4, some (pt 1)), (6, some (pt 2)), (8, some (Value.slice (some (Addr.mk 3 0 none)) 0 18)), (21, some (tree 1 n A)), (22, some (vi (↑n : Int))), (23, some (vi 0))] [(0, some (AObj.cells [vs (Design6.hull d), tree 3 (List.length (Design6.nodes d)) (encL (Design6.nodes d)), tree 18 (List.length (Design6.parts d)) (encL (Design6.parts d)), tree 6 (List.length (Design6.seams d)) (encL (Design6.seams d)), tree 5 (List.length (Design6.packs d)) (encL (Design6.packs d)), tree 3 (List.length (Design6.needs d)) (encL (Design6.needs d))] true)), (1, some (AObj.cells [tree 4 (List.length (Mats.grades m)) (encL (Mats.grades m)), tree 4 (List.length (Mats.sects m)) (encL (Mats.sects m))] true)), (2, some (AObj.cells [vi 0, vi 0, vi 0, vi 0, vi 0] true)), (3, some (AObj.cells [] true))] 4))))) := by kernel_rfl
theorem l_of (d : Design6) (m : Mats) (n j : Nat) (k : Int) (l : List Value) (A : Array Value) (H : HT) (Post : PV) : vcLP Tryz.prog vcOf 40 [design6V d, matsV m, tree 1 n A] lpOf 3 (stV [(3, some (.pointer (some ⟨0, 0, none⟩))), (4, some (.pointer (some ⟨1, 0, none⟩))), (6, some (.pointer (some ⟨2, 0, none⟩))), (8, some (.slice (some ⟨3, 0, none⟩) j 18)), (21, some (tree 1 n A)), (22, some (.int .i64 n)), (23, some (.int .i64 k))] [(0, some (.cells (design6C d) true)), (1, some (.cells (matsC m) true)), (2, some (.cells zeroW true)), (3, some (.cells l true))] 4) H Post = (let q1 := AObj.cells [tree 4 (List.length (Mats.grades m)) (encL (Mats.grades m)), tree 4 (List.length (Mats.sects m)) (encL (Mats.sects m))] true; True ∧ pIf (decide (k < (↑n : Int))) ((0 ≤ k ∧ k < (↑n : Int)) ∧ cellAt A (Int.toNat k) 0 = vs (toS (cellAt A (Int.toNat k) 0)) ∧ T2 (True ∧ ((T4 (T2 (True))) ∧ True ∧ True) ∧ ∃ (d_1 : Design6), ∃ (s : ByteArray), eqL [Value.agg #[vs (Design6.hull d), tree 3 (List.length (Design6.nodes d)) (encL (Design6.nodes d)), tree 18 (List.length (Design6.parts d)) (encL (Design6.parts d)), tree 6 (List.length (Design6.seams d)) (encL (Design6.seams d)), tree 5 (List.length (Design6.packs d)) (encL (Design6.packs d)), tree 3 (List.length (Design6.needs d)) (encL (Design6.needs d))], vs (toS (cellAt A (Int.toNat k) 0))] [design6V d_1, vs s] ∧ FitD d_1 ∧ T2 (True ∧ pIf (Option.isSome (partOf d_1 s)) (True ∧ 18 ≤ 18 ∧ T4 (T2 (18 ≤ 18 ∧ j + 1 ≤ 33554432 ∧ true = true ∧ 18 = 18 ∧ 0 + j * 18 = List.length l ∧ T4 ((T2 (True ∧ NLs (l ++ [vs (Part.id (Option.getD (partOf d_1 s) part0)), vi (Part.rev (Option.getD (partOf d_1 s) part0)), vi (Part.kind (Option.getD (partOf d_1 s) part0)), vs (Part.node (Option.getD (partOf d_1 s) part0)), vs (Part.grade (Option.getD (partOf d_1 s) part0)), vi (Part.thick (Option.getD (partOf d_1 s) part0)), tree 2 (List.length (Part.outer (Option.getD (partOf d_1 s) part0))) (encL (Part.outer (Option.getD (partOf d_1 s) part0))), tree 1 (List.length (Part.holes (Option.getD (partOf d_1 s) part0))) (encL (Part.holes (Option.getD (partOf d_1 s) part0))), vs (Part.sect (Option.getD (partOf d_1 s) part0)), vi (Part.long (Option.getD (partOf d_1 s) part0)), vi (Part.mass (Option.getD (partOf d_1 s) part0)), vi (Vec3.x (Part.centre (Option.getD (partOf d_1 s) part0))), vi (Vec3.y (Part.centre (Option.getD (partOf d_1 s) part0))), vi (Vec3.z (Part.centre (Option.getD (partOf d_1 s) part0))), vi (Vec3.x (Part.at_ (Option.getD (partOf d_1 s) part0))), vi (Vec3.y (Part.at_ (Option.getD (partOf d_1 s) part0))), vi (Vec3.z (Part.at_ (Option.getD (partOf d_1 s) part0))), vi (Part.turn (Option.getD (partOf d_1 s) part0))]) ∧ True)) ∧ H (lpC Tryz.prog 40 3) (lpK Tryz.prog 40 3) (stV [(3, some (pt 0)), (4, some (pt 1)), (6, some (pt 2)), (8, some (Value.slice (some (Addr.mk 3 0 none)) (j + 1) 18)), (21, some (tree 1 n A)), (22, some (vi (↑n : Int))), (23, some (vi (IntKind.wrap IntKind.i64 (k + 1))))] [(0, some (AObj.cells [vs (Design6.hull d), tree 3 (List.length (Design6.nodes d)) (encL (Design6.nodes d)), tree 18 (List.length (Design6.parts d)) (encL (Design6.parts d)), tree 6 (List.length (Design6.seams d)) (encL (Design6.seams d)), tree 5 (List.length (Design6.packs d)) (encL (Design6.packs d)), tree 3 (List.length (Design6.needs d)) (encL (Design6.needs d))] true)), (1, some q1), (2, some (AObj.cells [vi 0, vi 0, vi 0, vi 0, vi 0] true)), (3, some (AObj.cells (l ++ [vs (Part.id (Option.getD (partOf d_1 s) part0)), vi (Part.rev (Option.getD (partOf d_1 s) part0)), vi (Part.kind (Option.getD (partOf d_1 s) part0)), vs (Part.node (Option.getD (partOf d_1 s) part0)), vs (Part.grade (Option.getD (partOf d_1 s) part0)), vi (Part.thick (Option.getD (partOf d_1 s) part0)), tree 2 (List.length (Part.outer (Option.getD (partOf d_1 s) part0))) (encL (Part.outer (Option.getD (partOf d_1 s) part0))), tree 1 (List.length (Part.holes (Option.getD (partOf d_1 s) part0))) (encL (Part.holes (Option.getD (partOf d_1 s) part0))), vs (Part.sect (Option.getD (partOf d_1 s) part0)), vi (Part.long (Option.getD (partOf d_1 s) part0)), vi (Part.mass (Option.getD (partOf d_1 s) part0)), vi (Vec3.x (Part.centre (Option.getD (partOf d_1 s) part0))), vi (Vec3.y (Part.centre (Option.getD (partOf d_1 s) part0))), vi (Vec3.z (Part.centre (Option.getD (partOf d_1 s) part0))), vi (Vec3.x (Part.at_ (Option.getD (partOf d_1 s) part0))), vi (Vec3.y (Part.at_ (Option.getD (partOf d_1 s) part0))), vi (Vec3.z (Part.at_ (Option.getD (partOf d_1 s) part0))), vi (Part.turn (Option.getD (partOf d_1 s) part0))]) true))] 4))))) (True ∧ 18 ≤ 18 ∧ T4 (5 ≤ 5 ∧ True ∧ ((T4 (True ∧ True)) ∧ True ∧ True) ∧ Post (Value.tuple #[Value.agg #[vi 0, vi 0, vi 0, vi 0, vi 0], vi 8])))))) (T2 ((toI (vi 0) ≤ 0 ∧ 0 ≤ (↑j : Int) ∧ (↑j : Int) ≤ 2 ^ 25) ∧ T4 (((0 + j * 18 ≤ List.length l ∧ NLs l) ∧ True) ∧ (T2 (NLs [] ∧ True)) ∧ H (lpC Tryz.prog 40 12) (lpK Tryz.prog 40 12) (stV [(4, some (pt 0)), (6, some (pt 1)), (13, some (Value.slice (some (Addr.mk 2 0 none)) 0 5)), (44, some (tree 18 j (chunks 18 j (List.drop 0 l)))), (45, some (vi (↑j : Int))), (46, some (vi 0))] [(0, some q1), (1, some (AObj.cells [vi 0, vi 0, vi 0, vi 0, vi 0] true)), (2, some (AObj.cells [] true))] 3))))) := by kernel_rfl
theorem m_of (d : Design6) (m : Mats) (n q j : Nat) (k : Int) (l : List Value) (A B : Array Value) (H : HT) (Post : PV) : vcLP Tryz.prog vcOf 40 [design6V d, matsV m, tree 1 n A] lpOf 12 (stV [(4, some (.pointer (some ⟨0, 0, none⟩))), (6, some (.pointer (some ⟨1, 0, none⟩))), (13, some (.slice (some ⟨2, 0, none⟩) j 5)), (44, some (tree 18 q B)), (45, some (.int .i64 q)), (46, some (.int .i64 k))] [(0, some (.cells (matsC m) true)), (1, some (.cells zeroW true)), (2, some (.cells l true))] 3) H Post = (True ∧ pIf (decide (k < (↑q : Int))) ((0 ≤ k ∧ k < (↑q : Int)) ∧ (cellAt B (Int.toNat k) 0 = vs (toS (cellAt B (Int.toNat k) 0)) ∧ cellAt B (Int.toNat k) 1 = vi (toI (cellAt B (Int.toNat k) 1)) ∧ cellAt B (Int.toNat k) 2 = vi (toI (cellAt B (Int.toNat k) 2)) ∧ cellAt B (Int.toNat k) 3 = vs (toS (cellAt B (Int.toNat k) 3)) ∧ cellAt B (Int.toNat k) 4 = vs (toS (cellAt B (Int.toNat k) 4)) ∧ cellAt B (Int.toNat k) 5 = vi (toI (cellAt B (Int.toNat k) 5)) ∧ cellAt B (Int.toNat k) 6 = tree 2 (toN (cellAt B (Int.toNat k) 6)) (toE (cellAt B (Int.toNat k) 6)) ∧ cellAt B (Int.toNat k) 7 = tree 1 (toN (cellAt B (Int.toNat k) 7)) (toE (cellAt B (Int.toNat k) 7)) ∧ cellAt B (Int.toNat k) 8 = vs (toS (cellAt B (Int.toNat k) 8)) ∧ cellAt B (Int.toNat k) 9 = vi (toI (cellAt B (Int.toNat k) 9)) ∧ cellAt B (Int.toNat k) 10 = vi (toI (cellAt B (Int.toNat k) 10)) ∧ cellAt B (Int.toNat k) 11 = vi (toI (cellAt B (Int.toNat k) 11)) ∧ cellAt B (Int.toNat k) 12 = vi (toI (cellAt B (Int.toNat k) 12)) ∧ cellAt B (Int.toNat k) 13 = vi (toI (cellAt B (Int.toNat k) 13)) ∧ cellAt B (Int.toNat k) 14 = vi (toI (cellAt B (Int.toNat k) 14)) ∧ cellAt B (Int.toNat k) 15 = vi (toI (cellAt B (Int.toNat k) 15)) ∧ cellAt B (Int.toNat k) 16 = vi (toI (cellAt B (Int.toNat k) 16)) ∧ cellAt B (Int.toNat k) 17 = vi (toI (cellAt B (Int.toNat k) 17)) ∧ True) ∧ True ∧ 18 ≤ 18 ∧ T2 (((T16 (T2 (True))) ∧ (T2 (True)) ∧ True) ∧ ∃ (p : Part), ∃ (m_1 : Mats), eqL [Value.agg #[vs (toS (cellAt B (Int.toNat k) 0)), vi (toI (cellAt B (Int.toNat k) 1)), vi (toI (cellAt B (Int.toNat k) 2)), vs (toS (cellAt B (Int.toNat k) 3)), vs (toS (cellAt B (Int.toNat k) 4)), vi (toI (cellAt B (Int.toNat k) 5)), tree 2 (toN (cellAt B (Int.toNat k) 6)) (toE (cellAt B (Int.toNat k) 6)), tree 1 (toN (cellAt B (Int.toNat k) 7)) (toE (cellAt B (Int.toNat k) 7)), vs (toS (cellAt B (Int.toNat k) 8)), vi (toI (cellAt B (Int.toNat k) 9)), vi (toI (cellAt B (Int.toNat k) 10)), vi (toI (cellAt B (Int.toNat k) 11)), vi (toI (cellAt B (Int.toNat k) 12)), vi (toI (cellAt B (Int.toNat k) 13)), vi (toI (cellAt B (Int.toNat k) 14)), vi (toI (cellAt B (Int.toNat k) 15)), vi (toI (cellAt B (Int.toNat k) 16)), vi (toI (cellAt B (Int.toNat k) 17))], Value.agg #[tree 4 (List.length (Mats.grades m)) (encL (Mats.grades m)), tree 4 (List.length (Mats.sects m)) (encL (Mats.sects m))]] [partV p, matsV m_1] ∧ FitQ p ∧ FewM m_1 ∧ T4 (5 ≤ 5 ∧ T2 (True ∧ pIf (!decide (checkP p m_1 = 0)) (T2 (5 ≤ 5 ∧ True ∧ ((T4 (True ∧ True)) ∧ True ∧ True) ∧ Post (Value.tuple #[Value.agg #[vi 0, vi 0, vi 0, vi 0, vi 0], vi (checkP p m_1)]))) (T2 (True ∧ 5 ≤ 5 ∧ j + 1 ≤ 33554432 ∧ true = true ∧ 5 = 5 ∧ 0 + j * 5 = List.length l ∧ T2 (True ∧ (True ∧ True) ∧ (T2 (NLs (l ++ [vi (Wt.m (weightP p m_1)), vi (Wt.x (weightP p m_1)), vi (Wt.y (weightP p m_1)), vi (Wt.z (weightP p m_1)), vi (Wt.v (weightP p m_1))]) ∧ True)) ∧ H (lpC Tryz.prog 40 12) (lpK Tryz.prog 40 12) (stV [(4, some (pt 0)), (6, some (pt 1)), (13, some (Value.slice (some (Addr.mk 2 0 none)) (j + 1) 5)), (44, some (tree 18 q B)), (45, some (vi (↑q : Int))), (46, some (vi (IntKind.wrap IntKind.i64 (k + 1))))] [(0, some (AObj.cells [tree 4 (List.length (Mats.grades m)) (encL (Mats.grades m)), tree 4 (List.length (Mats.sects m)) (encL (Mats.sects m))] true)), (1, some (AObj.cells [vi 0, vi 0, vi 0, vi 0, vi 0] true)), (2, some (AObj.cells (l ++ [vi (Wt.m (weightP p m_1)), vi (Wt.x (weightP p m_1)), vi (Wt.y (weightP p m_1)), vi (Wt.z (weightP p m_1)), vi (Wt.v (weightP p m_1))]) true))] 3)))))))) (True ∧ ((0 + j * 5 ≤ List.length l ∧ NLs l) ∧ True) ∧ ∃ (ws : List Wt), eqL [tree 5 j (chunks 5 j (List.drop 0 l))] [tree 5 ws.length (encL ws)] ∧ List.length ws ≤ 65536 ∧ (∀ (w : Wt), w ∈ ws → ∀ (i : Nat), -9223372036854775808 ≤ fldW i w ∧ fldW i w < 9223372036854775808) ∧ T2 (5 ≤ 5 ∧ True ∧ ((T4 (True ∧ True)) ∧ True ∧ True) ∧ Post (Value.tuple #[Value.agg #[vi (Wt.m (sumW ws)), vi (Wt.x (sumW ws)), vi (Wt.y (sumW ws)), vi (Wt.z (sumW ws)), vi (Wt.v (sumW ws))], vi (sumWE ws)])))) := by kernel_rfl
def rowE {α : Type} [Enc α] (l : List α) : List Value := l.flatMap Enc.cells
theorem rowE_snoc {α : Type} [Enc α] (l : List α) (a : α) : rowE (l ++ [a]) = rowE l ++ Enc.cells a := by simp [rowE]
theorem rowE_len {α : Type} [Enc α] : ∀ l : List α, (rowE l).length = l.length * Enc.sz α
 | [] => by simp [rowE]
 | a :: l => by
  have := rowE_len l
  unfold rowE at *
  rw [List.flatMap_cons, List.length_append, this, Enc.len, List.length_cons, Nat.succ_mul, Nat.add_comm]
theorem rowE_nls {α : Type} [Enc α] (l : List α) : NLs (rowE l) := by
 intro v hv
 obtain ⟨a, _, ha⟩ := List.mem_flatMap.1 hv
 exact Enc.nl a v ha
theorem chunks_rowE {α : Type} [Enc α] (l : List α) : chunks (Enc.sz α) l.length (rowE l) = encL l := by
 unfold chunks encL
 cases hs : (Enc.sz α).beq 1 with
 | true =>
  have h1 := Nat.eq_of_beq_eq_true hs
  rw [cond_true]
  have : rowE l = l.map fun a => elt (Enc.cells a) := by
   clear hs
   induction l with
   | nil => rfl
   | cons a l ih =>
    unfold rowE at *
    rw [List.flatMap_cons, ih, List.map_cons]
    have := Enc.len a
    rw [h1] at this
    obtain ⟨v, hv⟩ := List.length_eq_one_iff.1 this
    rw [hv]
    rfl
  rw [this, List.take_of_length_le (by rw [List.length_map]; exact Nat.le_refl _)]
 | false =>
  rw [cond_false]
  congr 1
  have hne : Enc.sz α ≠ 1 := fun e => by rw [e] at hs; cases hs
  have helt : ∀ a : α, elt (Enc.cells a) = .agg (Enc.cells a).toArray := fun a => by
   have := Enc.len a
   match h : Enc.cells a with
   | [] => rfl
   | [v] => rw [h] at this; exact absurd this.symm hne
   | _ :: _ :: _ => rfl
  clear hs
  induction l with
  | nil => rfl
  | cons a l ih =>
   rw [List.length_cons, List.range_succ_eq_map, List.map_cons, List.map_cons, List.map_map, ← ih, helt]
   congr 1
   ·unfold rowE
    rw [List.flatMap_cons, Nat.zero_mul, List.drop_zero, List.take_left' (Enc.len a)]
   ·apply List.map_congr_left
    intro i _
    show Value.agg _ = Value.agg _
    congr 3
    unfold rowE
    rw [List.flatMap_cons, show (i + 1) * Enc.sz α = (Enc.cells a).length + i * Enc.sz α by rw [Enc.len, Nat.succ_mul, Nat.add_comm], List.drop_append, List.drop_eq_nil_of_le (Nat.le_add_right _ _), Nat.add_sub_cancel_left, List.nil_append]
def allOf (d : Design6) (l : List ByteArray) : Prop := ∀ s ∈ l, (partOf d s).isSome = true
instance (d : Design6) (l : List ByteArray) : Decidable (allOf d l) := by unfold allOf; infer_instance
def partsOf (d : Design6) (l : List ByteArray) : List Part := l.map fun s => (partOf d s).getD part0
def errP (m : Mats) (ps : List Part) : Int := firstErr (fun i => checkP (ps.getD i part0) m) ps.length
def ofW (d : Design6) (m : Mats) (l : List ByteArray) : Wt := if ¬ allOf d l then wt0 else if errP m (partsOf d l) ≠ 0 then wt0 else sumW ((partsOf d l).map fun p => weightP p m)
def ofE (d : Design6) (m : Mats) (l : List ByteArray) : Int := if ¬ allOf d l then 8 else if errP m (partsOf d l) ≠ 0 then errP m (partsOf d l) else sumWE ((partsOf d l).map fun p => weightP p m)
structure FitO (d : Design6) : Prop extends FitD d where
 fq : ∀ p ∈ d.parts, FitQ p
def c_of (args : List Value) (Post : Value → Prop) : Prop := ∃ (d : Design6) (m : Mats) (l : List ByteArray), args = [design6V d, matsV m, trS l] ∧ FitO d ∧ FewM m ∧ l.length ≤ 65536 ∧ Post (.tuple #[wtV (ofW d m l), .int .i64 (ofE d m l)])
theorem vcOf_ok : VCallOk Tryz.prog vcOf := tabCallF_ok (by
 intro e he
 simp only [List.mem_cons, List.not_mem_nil, or_false] at he
 rcases he with rfl | rfl | rfl
 ·exact ok_spart
 ·exact ok_Weight
 ·exact ok_wsum) noCall_ok
theorem cell_id {l : List ByteArray} {k : Nat} (h : k < l.length) : cellAt (encL l) k 0 = .string l[k] := by
 rw [cellAt_encL' h]
 rfl
theorem part0_fit : FitQ part0 := ⟨by decide, by decide, (fun h hh => by cases hh), by decide⟩
theorem getD_fit {d : Design6} (hf : FitO d) (s : ByteArray) : FitQ ((partOf d s).getD part0) := by
 cases hp : partOf d s with
 | none => exact part0_fit
 | some p => exact hf.fq p (List.mem_of_find?_eq_some hp)
theorem partsOf_len (d : Design6) (l : List ByteArray) : (partsOf d l).length = l.length := List.length_map _
theorem partsOf_at {d : Design6} {l : List ByteArray} {k : Nat} (h : k < (partsOf d l).length) : (partsOf d l)[k] = (partOf d (l[k]'(by rw [partsOf_len] at h; exact h))).getD part0 := List.getElem_map _
theorem ceil_bd {a : Int} (h0 : 0 ≤ a) (h1 : a ≤ 1099511627776) : 0 ≤ ceilP a 50000 ∧ ceilP a 50000 ≤ 22000000 := by
 unfold ceilP
 obtain ⟨f1, f2⟩ := fdiv_char (a := -a) (b := 50000) (by decide)
 omega
theorem weight_ok {p : Part} {m : Mats} (h : checkP p m = 0) : okWt (weightP p m) := by
 have hm := mass_bd p m
 have hc := centre_in h
 have ha := check_at h
 have ht := turn_inV hc p.turn
 obtain ⟨c0, c1⟩ := ceil_bd hm.1 hm.2
 have hv := mul_bd (a := ceilP (massP p m) 50000) (b := ceilP (massP p m) 50000) (A := 22000000) (B := 22000000) (by omega) (by omega)
 have hv0 := Int.mul_nonneg c0 c0
 unfold weightP
 rw [if_pos h, apply_at ha hc]
 unfold inV at ha ht
 obtain ⟨e1, b1⟩ := mom_no_wrap (a := massP p m) (x := (turnV (centreP p m) p.turn).x + p.at_.x) hm (by omega)
 obtain ⟨e2, b2⟩ := mom_no_wrap (a := massP p m) (x := (turnV (centreP p m) p.turn).y + p.at_.y) hm (by omega)
 obtain ⟨e3, b3⟩ := mom_no_wrap (a := massP p m) (x := (turnV (centreP p m) p.turn).z + p.at_.z) hm (by omega)
 unfold okWt
 dsimp only
 rw [e1, e2, e3, wr64_eq (n := ceilP (massP p m) 50000 * ceilP (massP p m) 50000) (by omega) (by omega)]
 omega
theorem okWt_fits {w : Wt} (h : okWt w) (i : Nat) : fits64 (fldW i w) := by
 unfold okWt at h
 unfold fits64
 rcases i with _ | _ | _ | _ | i
 ·show -9223372036854775808 ≤ w.m ∧ w.m < 9223372036854775808; omega
 ·show -9223372036854775808 ≤ w.x ∧ w.x < 9223372036854775808; omega
 ·show -9223372036854775808 ≤ w.y ∧ w.y < 9223372036854775808; omega
 ·show -9223372036854775808 ≤ w.z ∧ w.z < 9223372036854775808; omega
 ·show -9223372036854775808 ≤ w.v ∧ w.v < 9223372036854775808; omega
theorem errP_zero {m : Mats} {ps : List Part} : errP m ps = 0 ↔ ∀ p ∈ ps, checkP p m = 0 := by
 unfold errP
 rw [firstErr_zero]
 constructor
 ·intro h p hp
  obtain ⟨i, hi, rfl⟩ := List.mem_iff_getElem.1 hp
  have := h i hi
  rwa [getD_at hi] at this
 ·intro h i hi
  rw [getD_at hi]
  exact h _ (List.getElem_mem hi)
theorem ok_of : EntOk Tryz.prog ⟨40, c_of⟩ := by
 rintro args Post ⟨d, m, l, rfl, hf, hm, hl, h⟩
 have nope : ¬ allOf d l → Post (.tuple #[.agg #[.int .i64 0, .int .i64 0, .int .i64 0, .int .i64 0, .int .i64 0], .int .i64 8]) := fun hn => by
  unfold ofW ofE at h
  rw [if_pos hn, if_pos hn] at h
  exact h
 refine pure_P vcOf_ok mixed (by kernel_rfl) (by kernel_rfl) _ (e_of d m l.length (encL l) _ _) ?_
 have p25 : (2 : Int) ^ 25 = 33554432 := by decide
 simp only [true_and, and_true, p25]
 refine ⟨⟨by decide, by omega, by omega⟩, (fun v hv => by cases hv), ?_⟩
 -- the second loop
 have second : allOf d l → OkP 40 [design6V d, matsV m, trS l] 12 Post (stV [(4, some (.pointer (some ⟨0, 0, none⟩))), (6, some (.pointer (some ⟨1, 0, none⟩))), (13, some (.slice (some ⟨2, 0, none⟩) 0 5)), (44, some (tree 18 (partsOf d l).length (encL (partsOf d l)))), (45, some (.int .i64 (partsOf d l).length)), (46, some (.int .i64 0))] [(0, some (.cells (matsC m) true)), (1, some (.cells zeroW true)), (2, some (.cells [] true))] 3) := fun hall => by
  have hp := partsOf_len d l
  unfold ofW ofE at h
  have hna : ¬ ¬ allOf d l := fun hn => hn hall
  rw [if_neg hna, if_neg hna] at h
  have fq : ∀ p ∈ partsOf d l, FitQ p := fun p hp => by
   obtain ⟨s, _, rfl⟩ := List.mem_map.1 hp
   exact getD_fit hf s
  generalize partsOf d l = ps at *
  have e0 : ([] : List Value) = rowE ((ps.take 0).map fun p => weightP p m) := rfl
  have key : ∀ j : Nat, j = ((ps.take 0).map fun p => weightP p m).length → OkP 40 [design6V d, matsV m, trS l] 12 Post (stV [(4, some (.pointer (some ⟨0, 0, none⟩))), (6, some (.pointer (some ⟨1, 0, none⟩))), (13, some (.slice (some ⟨2, 0, none⟩) j 5)), (44, some (tree 18 ps.length (encL ps))), (45, some (.int .i64 ps.length)), (46, some (.int .i64 ((0 : Nat) : Int)))] [(0, some (.cells (matsC m) true)), (1, some (.cells zeroW true)), (2, some (.cells (rowE ((ps.take 0).map fun p => weightP p m)) true))] 3) := by
   refine down (n := ps.length) (p := fun k => (∀ i, i < k → checkP (ps.getD i part0) m = 0) → ∀ j : Nat, j = ((ps.take k).map fun p => weightP p m).length → OkP 40 [design6V d, matsV m, trS l] 12 Post (stV [(4, some (.pointer (some ⟨0, 0, none⟩))), (6, some (.pointer (some ⟨1, 0, none⟩))), (13, some (.slice (some ⟨2, 0, none⟩) j 5)), (44, some (tree 18 ps.length (encL ps))), (45, some (.int .i64 ps.length)), (46, some (.int .i64 k))] [(0, some (.cells (matsC m) true)), (1, some (.cells zeroW true)), (2, some (.cells (rowE ((ps.take k).map fun p => weightP p m)) true))] 3)) (fun hok j hj => ?_) (fun k k1 ih hok j hj => ?_) (fun i hi => by omega)
   ·refine ok_P vcOf_ok mixed _ (m_of d m l.length ps.length j ps.length _ (encL l) (encL ps) _ _) ?_
    rw [List.take_length] at hj ⊢
    have ez : errP m ps = 0 := firstErr_zero.2 hok
    have hne : ¬ errP m ps ≠ 0 := fun hn => hn ez
    rw [if_neg hne, if_neg hne] at h
    have hlen := rowE_len (ps.map fun p => weightP p m)
    have hsz : Enc.sz Wt = 5 := rfl
    rw [hsz, ← hj] at hlen
    simp only [true_and, and_true, Nat.le_refl]
    refine ifD (fun hlt => by omega) (fun _ => ⟨⟨by omega, rowE_nls _⟩, ps.map (fun p => weightP p m), ?_, ?_, fun w hw i => ?_, h⟩)
    ·rw [List.drop_zero, hj]
     have := chunks_rowE (ps.map fun p => weightP p m)
     rw [hsz] at this
     rw [this]
    ·rw [List.length_map]; omega
    ·obtain ⟨p, hp2, rfl⟩ := List.mem_map.1 hw
     exact okWt_fits (weight_ok (errP_zero.1 ez p hp2)) i
   ·refine ok_P vcOf_ok mixed _ (m_of d m l.length ps.length j k _ (encL l) (encL ps) _ _) ?_
    have hk : ((k : Nat) : Int).toNat = k := Int.toNat_natCast k
    have hfq := fq _ (List.getElem_mem k1)
    have gd : ps.getD k part0 = ps[k] := getD_at k1
    have hbad : checkP ps[k] m ≠ 0 → Post (.tuple #[.agg #[.int .i64 0, .int .i64 0, .int .i64 0, .int .i64 0, .int .i64 0], .int .i64 (checkP ps[k] m)]) := fun hne => by
     have e : errP m ps = checkP ps[k] m := by
      unfold errP
      rw [firstErr_at k1 hok (by rw [gd]; exact hne), gd]
     have hnz : errP m ps ≠ 0 := by rw [e]; exact hne
     rw [if_pos hnz, if_pos hnz, e] at h
     exact h
    have hnext := fun hz : checkP ps[k] m = 0 => ih (fun i hi => by
     rcases Nat.lt_or_ge i k with h' | h'
     ·exact hok i h'
     ·rw [show i = k by omega, gd]; exact hz) (j + 1) (by
     rw [hj, List.length_map, List.length_map, List.length_take, List.length_take]
     omega)
    have et : rowE ((ps.take (k + 1)).map fun p => weightP p m) = rowE ((ps.take k).map fun p => weightP p m) ++ Enc.cells (weightP ps[k] m) := by
     rw [List.take_add_one, List.getElem?_eq_getElem k1, List.map_append]
     exact rowE_snoc _ _
    have hlen := rowE_len ((ps.take k).map fun p => weightP p m)
    have hsz : Enc.sz Wt = 5 := rfl
    rw [hsz, ← hj] at hlen
    have hnls := rowE_nls ((ps.take (k + 1)).map fun p => weightP p m)
    rw [et] at hnls hnext
    have hjl : j ≤ 65536 := by
     rw [hj, List.length_map, List.length_take]
     omega
    simp only [hk, cell_part k1]
    clear ih hok h et
    generalize ps[k] = p at *
    simp only [partC, toI_int, toS_string, toN_tree, toE_tree, true_and, and_true, Nat.le_refl, wrapSucc (show k < 2 ^ 62 by omega), List.getElem?_cons_zero, List.getElem?_cons_succ, Option.getD_some]
    exact ifD (fun _ => ⟨⟨by omega, by omega⟩, p, m, rfl, hfq, hm, ifN (fun hne => hbad hne) (fun hz => ⟨by omega, by omega, hnls, hnext hz⟩)⟩) (fun h' => by omega)
  exact key 0 rfl
 -- the first loop
 have key : ∀ j : Nat, j = (partsOf d (l.take 0)).length → OkP 40 [design6V d, matsV m, trS l] 3 Post (stV [(3, some (.pointer (some ⟨0, 0, none⟩))), (4, some (.pointer (some ⟨1, 0, none⟩))), (6, some (.pointer (some ⟨2, 0, none⟩))), (8, some (.slice (some ⟨3, 0, none⟩) j 18)), (21, some (trS l)), (22, some (.int .i64 l.length)), (23, some (.int .i64 ((0 : Nat) : Int)))] [(0, some (.cells (design6C d) true)), (1, some (.cells (matsC m) true)), (2, some (.cells zeroW true)), (3, some (.cells (rowE (partsOf d (l.take 0))) true))] 4) := by
  refine down (n := l.length) (p := fun k => allOf d (l.take k) → ∀ j : Nat, j = (partsOf d (l.take k)).length → OkP 40 [design6V d, matsV m, trS l] 3 Post (stV [(3, some (.pointer (some ⟨0, 0, none⟩))), (4, some (.pointer (some ⟨1, 0, none⟩))), (6, some (.pointer (some ⟨2, 0, none⟩))), (8, some (.slice (some ⟨3, 0, none⟩) j 18)), (21, some (trS l)), (22, some (.int .i64 l.length)), (23, some (.int .i64 k))] [(0, some (.cells (design6C d) true)), (1, some (.cells (matsC m) true)), (2, some (.cells zeroW true)), (3, some (.cells (rowE (partsOf d (l.take k))) true))] 4)) (fun hall j hj => ?_) (fun k k1 ih hall j hj => ?_) (fun s hs => by simp at hs)
  ·refine ok_P vcOf_ok mixed _ (l_of d m l.length j l.length _ (encL l) _ _) ?_
   rw [List.take_length] at hall hj ⊢
   have hlen := rowE_len (partsOf d l)
   have hsz : Enc.sz Part = 18 := rfl
   rw [hsz, ← hj] at hlen
   have hj2 := hj
   rw [partsOf_len] at hj2
   simp only [true_and, and_true, p25]
   refine ifD (fun hlt => by omega) (fun _ => ⟨⟨by decide, by omega, by omega⟩, ⟨by omega, rowE_nls _⟩, (fun v hv => by cases hv), ?_⟩)
   have := chunks_rowE (partsOf d l)
   rw [hsz, ← hj] at this
   rw [List.drop_zero, this, hj]
   exact second hall
  ·refine ok_P vcOf_ok mixed _ (l_of d m l.length j k _ (encL l) _ _) ?_
   have hk : ((k : Nat) : Int).toNat = k := Int.toNat_natCast k
   have tk : l.take (k + 1) = l.take k ++ [l[k]] := by
    rw [List.take_add_one, List.getElem?_eq_getElem k1]
    rfl
   have hj2 := hj
   rw [partsOf_len, List.length_take] at hj2
   have et : rowE (partsOf d (l.take (k + 1))) = rowE (partsOf d (l.take k)) ++ Enc.cells ((partOf d l[k]).getD part0) := by
    rw [tk]
    unfold partsOf
    rw [List.map_append]
    exact rowE_snoc _ _
   have hlen := rowE_len (partsOf d (l.take k))
   have hsz : Enc.sz Part = 18 := rfl
   rw [hsz, ← hj] at hlen
   have hnls := rowE_nls (partsOf d (l.take (k + 1)))
   have hnext := fun hs : (partOf d l[k]).isSome = true => ih (by
    rw [tk]
    intro s hs2
    rcases List.mem_append.1 hs2 with h' | h'
    ·exact hall s h'
    ·simp at h'
     rw [h']
     exact hs) (j + 1) (by rw [partsOf_len, List.length_take]; omega)
   rw [et] at hnls hnext
   simp only [true_and, and_true, Nat.le_refl, hk, cell_id k1, toS_string, wrapSucc (show k < 2 ^ 62 by omega)]
   refine ifD (fun _ => ⟨⟨by omega, by omega⟩, d, l[k], rfl, hf.toFitD, pIf_intro (fun hs => ⟨by omega, by omega, hnls, hnext hs⟩) (fun hs => nope fun hn => ?_)⟩) (fun h' => by omega)
   have := hn _ (List.getElem_mem k1)
   rw [hs] at this
   cases this
 exact key 0 rfl
end Go.Proofs.YtngginofamlkkaaGreatDoor
