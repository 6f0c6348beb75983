/-
  Put together out of several texts, each in its own namespace's block. Conditions: as each theorem states them.
-/
import Derived.Test.YtegjnjmimfgijaaGreatDoorQSj
import Derived.Test.YtegjnjmimfgijaaGreatDoorProg
import Derived.WalkSpells
import Derived.WalkLawsBesides
import Derived.Deep.QuietTactic
import Derived.BigQuiet
import Derived.Lib.Bytealg
noncomputable section
namespace Go.Proofs.YtegjnjmimfgijaaGreatDoor
open Go Go.RowKit
set_option maxRecDepth 100000
set_option maxHeartbeats 8000000
def vcS13 : VCall := tabCall [⟨100, c_Same13⟩] noCall
theorem vcS13_ok : VCallOk Tryz.prog vcS13 := tabCall_ok (by
 intro e he
 simp only [List.mem_cons, List.not_mem_nil, or_false] at he
 rcases he with rfl
 exact ok_Same13) noCall_ok
theorem e_Same16 (p q : Part) (H : HT) (Post : PV) : vcP Tryz.prog vcS13 92 [] [partV p, partV q] H Post = (let q1 := True ∧ Post (vb false); T8 (pIf (!decide (p.id = q.id)) (T8 (T4 (Post (vb false)))) (T4 (T2 (pIf (!decide (p.rev = q.rev)) (T8 (T2 q1)) (T4 (T2 (True ∧ pIf (!decide (p.kind = q.kind)) (T8 q1) (T4 (T2 (True ∧ pIf (!decide (p.node = q.node)) (T4 (T2 q1)) (T4 (T2 (True ∧ pIf (!decide (p.grade = q.grade)) (T4 q1) (T4 (T2 (True ∧ pIf (!decide (p.thick = q.thick)) (T2 q1) (T4 (True ∧ ∃ (o : List Pt), ∃ (h : List (List Pt)), ∃ (p_1 : List Pt), ∃ (g : List (List Pt)), eqL [Value.agg #[trPt p.outer, trPts p.holes], Value.agg #[trPt q.outer, trPts q.holes]] [shapeV o h, shapeV p_1 g] ∧ Short o ∧ Short h ∧ (∀ (x : List Pt), x ∈ h → Short x) ∧ pIf (decide (o = p_1 ∧ h = g)) (T4 (T2 (pIf (decide (p.sect = q.sect)) (T4 (T2 (True ∧ pIf (decide (p.long = q.long)) (T4 (T2 (True ∧ pIf (decide (p.mass = q.mass)) (T4 (T2 (True ∧ pIf (decide (p.centre.x = q.centre.x) && (decide (p.centre.y = q.centre.y) && (decide (p.centre.z = q.centre.z) && true))) (T4 (T2 (True ∧ pIf (decide (p.at_.x = q.at_.x) && (decide (p.at_.y = q.at_.y) && (decide (p.at_.z = q.at_.z) && true)) && (decide (p.turn = q.turn) && true)) (T2 (True ∧ Post (vb true))) (T2 q1)))) (T4 q1)))) (T4 (T2 q1))))) (T8 q1)))) (T8 (T2 q1))))) (T8 (T4 (Post (vb false))))))))))))))))))))))) := by kernel_rfl
structure ShortP (p : Part) : Prop where
 outer : Short p.outer
 holes : Short p.holes
 all : ∀ x ∈ p.holes, Short x
theorem Vec3.ext' {p q : Vec3} (h1 : p.x = q.x) (h2 : p.y = q.y) (h3 : p.z = q.z) : p = q := by
 cases p; cases q; cases h1; cases h2; cases h3; rfl
theorem Part.ext' {p q : Part} (h1 : p.id = q.id) (h2 : p.rev = q.rev) (h3 : p.kind = q.kind) (h4 : p.node = q.node) (h5 : p.grade = q.grade) (h6 : p.thick = q.thick) (h7 : p.outer = q.outer) (h8 : p.holes = q.holes) (h9 : p.sect = q.sect)
  (h10 : p.long = q.long) (h11 : p.mass = q.mass) (h12 : p.centre = q.centre) (h13 : p.at_ = q.at_) (h14 : p.turn = q.turn) : p = q := by
 cases p; cases q
 simp only at h1 h2 h3 h4 h5 h6 h7 h8 h9 h10 h11 h12 h13 h14
 simp only [h1, h2, h3, h4, h5, h6, h7, h8, h9, h10, h11, h12, h13, h14]
def c_Same (args : List Value) (Post : Value → Prop) : Prop := ∃ p q : Part, args = [partV p, partV q] ∧ ShortP p ∧ Post (.bool (decide (p = q)))
theorem ok_Same16 : EntOk Tryz.prog ⟨92, c_Same⟩ := by
 rintro args Post ⟨p, q, rfl, hs, hP⟩
 refine pure_P (vc := vcS13) vcS13_ok mixed (by kernel_rfl) (by kernel_rfl) _ (e_Same16 p q _ _) ?_
 simp only [true_and, pIf_iff]
 have no : p ≠ q → Post (.bool false) := fun hn => of_b hP (decide_eq_false hn)
 refine ⟨fun h => no fun e => by subst e; simp at h, fun h1 => ?_⟩
 refine ⟨fun h => no fun e => by subst e; simp at h, fun h2 => ?_⟩
 refine ⟨fun h => no fun e => by subst e; simp at h, fun h3 => ?_⟩
 refine ⟨fun h => no fun e => by subst e; simp at h, fun h4 => ?_⟩
 refine ⟨fun h => no fun e => by subst e; simp at h, fun h5 => ?_⟩
 refine ⟨fun h => no fun e => by subst e; simp at h, fun h6 => ?_⟩
 refine ⟨p.outer, p.holes, q.outer, q.holes, rfl, hs.outer, hs.holes, hs.all, fun k => ?_, fun h => no fun e => by subst e; simp at h⟩
 refine ⟨fun h7 => ?_, fun h => no fun e => by subst e; simp at h⟩
 refine ⟨fun h8 => ?_, fun h => no fun e => by subst e; simp at h⟩
 refine ⟨fun h9 => ?_, fun h => no fun e => by subst e; simp at h⟩
 refine ⟨fun h10 => ?_, fun h => no fun e => by subst e; simp at h⟩
 refine ⟨fun h11 => ?_, fun h => no fun e => by subst e; simp at h⟩
 simp only [Bool.not_eq_false', Bool.and_eq_true, decide_eq_true_eq, and_true] at *
 exact of_b hP (decide_eq_true (Part.ext' h1 h2 h3 h4 h5 h6 k.1 k.2 h7 h8 h9 (Vec3.ext' h10.1 h10.2.1 h10.2.2) (Vec3.ext' h11.1.1 h11.1.2.1 h11.1.2.2) h11.2))
def tabE : List Ent := [⟨69, c_cText⟩, ⟨70, c_cList⟩, ⟨94, c_pts⟩]
def tabEF : List Ent := [⟨93, c_ints⟩]
def callE : VCall := tabCallF Tryz.prog tabEF (tabCall tabE noCall)
theorem e_Encode (p : Part) (H : HT) (Post : PV) : vcP Tryz.prog callE 84 [(3, [1, 3, 42, 43, 44])] [partV p] H Post = (T16 (T4 (T2 (True ∧ ∃ (s : ByteArray), eqL [vs p.id] [vs s] ∧ s.size ≤ 16000000 ∧ True ∧ ((2 ≤ 2 ∧ NLs [vi p.rev, vi p.kind]) ∧ True) ∧ ∃ (l : List Int), eqL [tree 1 2 #[vi p.rev, vi p.kind]] [tree 1 l.length (encI l)] ∧ List.length l ≤ 1000 ∧ (∀ (n : Int), n ∈ l → -9223372036854775808 ≤ n ∧ n < 9223372036854775808) ∧ True ∧ ByteArray.size (bText s) + ByteArray.size (bInts l) ≤ 9223372036854775807 ∧ ∃ (s_1 : ByteArray), eqL [vs p.node] [vs s_1] ∧ s_1.size ≤ 16000000 ∧ True ∧ ByteArray.size (bText s ++ bInts l) + ByteArray.size (bText s_1) ≤ 9223372036854775807 ∧ ∃ (s_2 : ByteArray), eqL [vs p.grade] [vs s_2] ∧ s_2.size ≤ 16000000 ∧ True ∧ ByteArray.size (bText s ++ bInts l ++ bText s_1) + ByteArray.size (bText s_2) ≤ 9223372036854775807 ∧ ((1 ≤ 1 ∧ NLs [vi p.thick]) ∧ True) ∧ ∃ (l_1 : List Int), eqL [tree 1 1 #[vi p.thick]] [tree 1 l_1.length (encI l_1)] ∧ List.length l_1 ≤ 1000 ∧ (∀ (n : Int), n ∈ l_1 → -9223372036854775808 ≤ n ∧ n < 9223372036854775808) ∧ True ∧ ByteArray.size (bText s ++ bInts l ++ bText s_1 ++ bText s_2) + ByteArray.size (bInts l_1) ≤ 9223372036854775807 ∧ ∃ (l_2 : List Pt), eqL [trPt p.outer] [trPt l_2] ∧ List.length l_2 ≤ 1000 ∧ (∀ (p : Pt), p ∈ l_2 → (-9223372036854775808 ≤ p.x ∧ p.x < 9223372036854775808) ∧ -9223372036854775808 ≤ p.y ∧ p.y < 9223372036854775808) ∧ True ∧ ByteArray.size (bText s ++ bInts l ++ bText s_1 ++ bText s_2 ++ bInts l_1) + ByteArray.size (bPts l_2) ≤ 9223372036854775807 ∧ ∃ (n : Nat), eqL [vi (↑p.holes.length : Int)] [vi (↑n : Int)] ∧ n < 9223372036854775808 ∧ True ∧ ByteArray.size (bText s ++ bInts l ++ bText s_1 ++ bText s_2 ++ bInts l_1 ++ bPts l_2) + ByteArray.size (bList n) ≤ 9223372036854775807 ∧ T4 (T2 (True ∧ (True ∧ True) ∧ H (lpC Tryz.prog 84 3) (lpK Tryz.prog 84 3) (stV [(1, some (pt 0)), (3, some (vs (bText s ++ bInts l ++ bText s_1 ++ bText s_2 ++ bInts l_1 ++ bPts l_2 ++ bList n))), (42, some (tree 1 p.holes.length (encL p.holes))), (43, some (vi (↑p.holes.length : Int))), (44, some (vi 0))] [(0, some (AObj.cells [vs p.id, vi p.rev, vi p.kind, vs p.node, vs p.grade, vi p.thick, tree 2 p.outer.length (encL p.outer), tree 1 p.holes.length (encL p.holes), vs p.sect, vi p.long, vi p.mass, vi p.centre.x, vi p.centre.y, vi p.centre.z, vi p.at_.x, vi p.at_.y, vi p.at_.z, vi p.turn] true))] 1))))))) := by kernel_rfl
theorem l_Encode (p : Part) (s : ByteArray) (i : Int) (H : HT) (Post : PV) : vcLP Tryz.prog callE 84 [partV p] [(3, [1, 3, 42, 43, 44])] 3 (stV [(1, some (.pointer (some ⟨0, 0, none⟩))), (3, some (.string s)), (42, some (trPts p.holes)), (43, some (.int .i64 p.holes.length)), (44, some (.int .i64 i))] [(0, some (.cells (partC p) true))] 1) H Post = (True ∧ pIf (decide (i < (↑p.holes.length : Int))) ((0 ≤ i ∧ i < (↑p.holes.length : Int)) ∧ cellAt (encL p.holes) (Int.toNat i) 0 = tree 2 (toN (cellAt (encL p.holes) (Int.toNat i) 0)) (toE (cellAt (encL p.holes) (Int.toNat i) 0)) ∧ T2 (True ∧ ∃ (l : List Pt), eqL [tree 2 (toN (cellAt (encL p.holes) (Int.toNat i) 0)) (toE (cellAt (encL p.holes) (Int.toNat i) 0))] [trPt l] ∧ List.length l ≤ 1000 ∧ (∀ (p : Pt), p ∈ l → (-9223372036854775808 ≤ p.x ∧ p.x < 9223372036854775808) ∧ -9223372036854775808 ≤ p.y ∧ p.y < 9223372036854775808) ∧ s.size + ByteArray.size (bPts l) ≤ 9223372036854775807 ∧ T4 ((True ∧ True) ∧ H (lpC Tryz.prog 84 3) (lpK Tryz.prog 84 3) (stV [(1, some (pt 0)), (3, some (vs (s ++ bPts l))), (42, some (tree 1 p.holes.length (encL p.holes))), (43, some (vi (↑p.holes.length : Int))), (44, some (vi (IntKind.wrap IntKind.i64 (i + 1))))] [(0, some (AObj.cells [vs p.id, vi p.rev, vi p.kind, vs p.node, vs p.grade, vi p.thick, tree 2 p.outer.length (encL p.outer), tree 1 p.holes.length (encL p.holes), vs p.sect, vi p.long, vi p.mass, vi p.centre.x, vi p.centre.y, vi p.centre.z, vi p.at_.x, vi p.at_.y, vi p.at_.z, vi p.turn] true))] 1)))) (T2 (True ∧ ∃ (s_1 : ByteArray), eqL [vs p.sect] [vs s_1] ∧ s_1.size ≤ 16000000 ∧ s.size + ByteArray.size (bText s_1) ≤ 9223372036854775807 ∧ T16 (T8 (T4 (T2 (True ∧ ((9 ≤ 9 ∧ NLs [vi p.long, vi p.mass, vi p.centre.x, vi p.centre.y, vi p.centre.z, vi p.at_.x, vi p.at_.y, vi p.at_.z, vi p.turn]) ∧ True) ∧ ∃ (l : List Int), eqL [tree 1 9 #[vi p.long, vi p.mass, vi p.centre.x, vi p.centre.y, vi p.centre.z, vi p.at_.x, vi p.at_.y, vi p.at_.z, vi p.turn]] [tree 1 l.length (encI l)] ∧ List.length l ≤ 1000 ∧ (∀ (n : Int), n ∈ l → -9223372036854775808 ≤ n ∧ n < 9223372036854775808) ∧ ByteArray.size (s ++ bText s_1) + ByteArray.size (bInts l) ≤ 9223372036854775807 ∧ T2 (Post (vs (s ++ bText s_1 ++ bInts l)))))))))) := by kernel_rfl
def bFront (p : Part) : ByteArray := bText p.id ++ bInts [p.rev, p.kind] ++ bText p.node ++ bText p.grade ++ bInts [p.thick] ++ bPts p.outer ++ bList p.holes.length
def bHoles (p : Part) (i : Nat) : ByteArray := (p.holes.take i).foldl (fun s h => s ++ bPts h) (bFront p)
def bRear (p : Part) : List Int := [p.long, p.mass, p.centre.x, p.centre.y, p.centre.z, p.at_.x, p.at_.y, p.at_.z, p.turn]
def bPart (p : Part) : ByteArray := bHoles p p.holes.length ++ bText p.sect ++ bInts (bRear p)
theorem bInts_size (l : List Int) : (bInts l).size ≤ 9 * l.length := by
 have h := fold_size (fun s (n : Int) => s ++ bInt n) 9 (fun s n => by
  rw [ba_size]
  have := bInt_size n
  omega) l ⟨#[]⟩
 have h0 : (⟨#[]⟩ : ByteArray).size = 0 := rfl
 unfold bInts
 omega
theorem fold_size' {α : Type} (f : ByteArray → α → ByteArray) (c : Nat) : ∀ (l : List α) (s : ByteArray), (∀ s, ∀ a ∈ l, (f s a).size ≤ s.size + c) → (l.foldl f s).size ≤ s.size + c * l.length
 | [], s, _ => by simp
 | a :: l, s, hf => by
  have h1 := fold_size' f c l (f s a) (fun s b hb => hf s b (by simp [hb]))
  have h2 := hf s a (by simp)
  simp only [List.foldl_cons, List.length_cons, Nat.mul_add, Nat.mul_one]
  omega
theorem nls_ints (l : List Int) : NLs (l.map (Value.int .i64)) := by
 intro v hv
 obtain ⟨x, _, rfl⟩ := List.mem_map.1 hv
 rfl
theorem tabE_ok : VCallOk Tryz.prog callE := tabCallF_ok (by
 intro e he
 simp only [tabEF, List.mem_cons, List.not_mem_nil, or_false] at he
 rcases he with rfl
 exact ok_ints) (tabCall_ok (by
 intro e he
 simp only [tabE, List.mem_cons, List.not_mem_nil, or_false] at he
 rcases he with rfl | rfl | rfl
 ·exact ok_cText
 ·exact ok_cList
 ·exact ok_corners) noCall_ok)
theorem ofBE_be : ∀ (n v : Nat), ofBE (be n v) = v % 256 ^ n := by
 intro n
 have key : ∀ (n v a : Nat), (be n v).foldl (fun v b => 256 * v + b.toNat) a = a * 256 ^ n + v % 256 ^ n := by
  intro n
  induction n with
  | zero => intro v a; simp [be, Nat.mod_one]
  | succ n ih =>
   intro v a
   simp only [be, List.foldl_cons, ih]
   have h1 : (UInt8.ofNat (v / 256 ^ n)).toNat = v / 256 ^ n % 256 := by simp
   rw [h1, Nat.pow_succ, Nat.mod_mul, Nat.add_mul]
   rw [show 256 * a * 256 ^ n = a * (256 ^ n * 256) by rw [Nat.mul_comm 256 a, Nat.mul_assoc, Nat.mul_comm 256]]
   rw [Nat.mul_comm (v / 256 ^ n % 256)]
   try omega
 intro v
 have := key n v 0
 simpa [ofBE] using this
theorem str_list (l : List UInt8) : (str l).data.toList = l := rfl
theorem ext_list (s : ByteArray) (a b : Nat) : (s.extract a b).data.toList = (s.data.toList.drop a).take (b - a) := by
 rw [ByteArray.data_extract, Array.toList_extract]
theorem app_list (s t : ByteArray) : (s ++ t).data.toList = s.data.toList ++ t.data.toList := by rw [ByteArray.data_append, Array.toList_append]
theorem size_list (s : ByteArray) : s.size = s.data.toList.length := rfl
theorem byte0_str (b : UInt8) (l : List UInt8) (t : ByteArray) : byte0 (str (b :: l) ++ t) = b := by
 unfold byte0
 rw [Array.getD_eq_getD_getElem?, ← Array.getElem?_toList, app_list]
 rfl
theorem split_at (s : ByteArray) (n : Nat) : s = s.extract 0 n ++ s.extract n s.size := by
 refine ba_ext ?_
 rw [app_list, ext_list, ext_list, List.drop_zero, Nat.sub_zero, List.take_of_length_le (l := s.data.toList.drop n) (by rw [List.length_drop]; exact Nat.le_refl _), List.take_append_drop]
theorem ext_app (l : List UInt8) (t : ByteArray) : (str l ++ t).extract 0 l.length = str l := by
 refine ba_ext ?_
 rw [ext_list, app_list, List.drop_zero, Nat.sub_zero]
 exact List.take_left ..
theorem ext_mid (b : UInt8) (l : List UInt8) (t : ByteArray) : ((str (b :: l) ++ t).extract 1 (1 + l.length)).data.toList = l := by
 rw [ext_list, app_list, str_list, Nat.add_sub_cancel_left]
 simp
theorem hd_ge {k v : Nat} (j : Nat) (hj : j ≤ 3) (h : hd k v = UInt8.ofNat (32 * k + (24 + j)) :: be (2 ^ j) v) (hk : k < 8) (hv : v < 256 ^ 2 ^ j) (t : ByteArray) (one two : Nat) (hk2 : k = one ∨ k = two) : pk (str (hd k v) ++ t) one two = (k, v, (hd k v).length, 0) := by
 have hl : (hd k v).length = 1 + 2 ^ j := by rw [h, List.length_cons, be_len]; omega
 have h0 : (byte0 (str (hd k v) ++ t)).toNat = 32 * k + (24 + j) := by rw [h, byte0_str]; exact u8_small (by omega)
 have hq : (32 * k + (24 + j)) / 32 = k := by omega
 have hr : (32 * k + (24 + j)) % 32 = 24 + j := by omega
 have hs : (str (hd k v) ++ t).size = 1 + 2 ^ j + t.size := by rw [ba_size, str_size, hl]
 have hv2 : ofBE ((str (hd k v) ++ t).extract 1 (1 + 2 ^ j)).data.toList = v := by
  have := ext_mid (UInt8.ofNat (32 * k + (24 + j))) (be (2 ^ j) v) t
  rw [be_len] at this
  rw [h, this, ofBE_be, Nat.mod_eq_of_lt hv]
 have hx : (str (hd k v) ++ t).extract 0 (1 + 2 ^ j) = str (hd k v) := by rw [← hl]; exact ext_app _ _
 unfold pk
 rw [h0, hq, hr, Nat.add_sub_cancel_left, hv2, hl, hs, hx]
 generalize 2 ^ j = q
 rw [if_neg (by omega), if_neg (by omega), if_neg (by omega), if_neg (by omega), if_neg (by simp)]
theorem pk_hd {k v : Nat} (hk : k < 8) (hv : v < 18446744073709551616) (t : ByteArray) {one two : Nat} (hk2 : k = one ∨ k = two) : pk (str (hd k v) ++ t) one two = (k, v, (hd k v).length, 0) := by
 by_cases h24 : v < 24
 ·have h : hd k v = [UInt8.ofNat (32 * k + v)] := by unfold hd; rw [if_pos h24]
  have h0 : (byte0 (str (hd k v) ++ t)).toNat = 32 * k + v := by rw [h, byte0_str]; exact u8_small (by omega)
  have hs : (str (hd k v) ++ t).size = 1 + t.size := by rw [ba_size, str_size, h]; rfl
  unfold pk
  rw [h0, show (32 * k + v) / 32 = k by omega, show (32 * k + v) % 32 = v by omega, hs, if_neg (by omega), if_neg (by omega), if_pos h24, h]
  rfl
 by_cases h1 : v < 256
 ·exact hd_ge 0 (by omega) (by unfold hd; rw [if_neg h24, if_pos h1]) hk h1 t one two hk2
 by_cases h2 : v < 65536
 ·exact hd_ge 1 (by omega) (by unfold hd; rw [if_neg h24, if_neg h1, if_pos h2]) hk h2 t one two hk2
 by_cases h3 : v < 4294967296
 ·exact hd_ge 2 (by omega) (by unfold hd; rw [if_neg h24, if_neg h1, if_neg h2, if_pos h3]) hk h3 t one two hk2
 ·exact hd_ge 3 (by omega) (by unfold hd; rw [if_neg h24, if_neg h1, if_neg h2, if_neg h3]) hk hv t one two hk2
theorem pk_cases (s : ByteArray) (one two : Nat) : (∃ e, (e = 3 ∨ e = 5) ∧ pk s one two = (0, 0, 0, e)) ∨ ∃ k v n, pk s one two = (k, v, n, 0) ∧ k < 8 ∧ v < 18446744073709551616 ∧ (k = one ∨ k = two) ∧ n = (hd k v).length ∧ n ≤ s.size ∧ s = str (hd k v) ++ s.extract n s.size := by
 have hb := (byte0 s).toNat_lt
 unfold pk
 by_cases h0 : s.size = 0
 ·rw [if_pos h0]; exact .inl ⟨3, .inl rfl, rfl⟩
 rw [if_neg h0]
 by_cases h1 : ((byte0 s).toNat / 32 ≠ one ∧ (byte0 s).toNat / 32 ≠ two) ∨ (byte0 s).toNat % 32 > 27
 ·rw [if_pos h1]; exact .inl ⟨5, .inr rfl, rfl⟩
 rw [if_neg h1]
 have hk2 : (byte0 s).toNat / 32 = one ∨ (byte0 s).toNat / 32 = two := by omega
 by_cases h2 : (byte0 s).toNat % 32 < 24
 ·rw [if_pos h2]
  refine .inr ⟨_, _, _, rfl, by omega, by omega, hk2, ?_, by omega, ?_⟩
  ·unfold hd; rw [if_pos h2]; rfl
  ·refine ba_ext ?_
   have : hd ((byte0 s).toNat / 32) ((byte0 s).toNat % 32) = [byte0 s] := by
    unfold hd
    rw [if_pos h2, show 32 * ((byte0 s).toNat / 32) + (byte0 s).toNat % 32 = (byte0 s).toNat by omega, UInt8.ofNat_toNat]
   rw [this, app_list, ext_list, str_list, List.take_of_length_le (by rw [List.length_drop]; exact Nat.le_refl _)]
   have hl : s.data.toList ≠ [] := fun e => h0 (by rw [size_list, e]; rfl)
   have : byte0 s = s.data.toList.head hl := by
    unfold byte0
    rw [Array.getD_eq_getD_getElem?, ← Array.getElem?_toList, ← List.head?_eq_getElem?, List.head?_eq_some_head hl]
    rfl
   rw [this, List.drop_one]
   exact (List.cons_head_tail hl).symm
 rw [if_neg h2]
 by_cases h3 : s.size < 1 + 2 ^ ((byte0 s).toNat % 32 - 24)
 ·rw [if_pos h3]; exact .inl ⟨3, .inl rfl, rfl⟩
 rw [if_neg h3]
 generalize hj : (byte0 s).toNat % 32 - 24 = j at h3 ⊢
 have hpj : 0 < 2 ^ j := Nat.two_pow_pos j
 generalize hV : ofBE (s.extract 1 (1 + 2 ^ j)).data.toList = v
 by_cases h4 : str (hd ((byte0 s).toNat / 32) v) ≠ s.extract 0 (1 + 2 ^ j)
 ·rw [if_pos h4]; exact .inl ⟨5, .inr rfl, rfl⟩
 rw [if_neg h4]
 have h4 : str (hd ((byte0 s).toNat / 32) v) = s.extract 0 (1 + 2 ^ j) := Classical.byContradiction h4
 have hsz : (s.extract 0 (1 + 2 ^ j)).size = 1 + 2 ^ j := by
  rw [size_list, ext_list, List.drop_zero, List.length_take]
  rw [size_list] at h3
  omega
 refine .inr ⟨_, v, _, rfl, by omega, ?_, hk2, ?_, by omega, ?_⟩
 ·have hl : (s.extract 1 (1 + 2 ^ j)).data.toList.length = 2 ^ j := by
   rw [ext_list, List.length_take, List.length_drop]
   rw [size_list] at h3
   omega
  have := ofBE_lt (2 ^ j) _ hl
  rw [hV] at this
  have hj3 : j = 0 ∨ j = 1 ∨ j = 2 ∨ j = 3 := by omega
  rcases hj3 with rfl | rfl | rfl | rfl
  ·exact Nat.lt_trans this (by decide)
  ·exact Nat.lt_trans this (by decide)
  ·exact Nat.lt_trans this (by decide)
  ·exact this
 ·rw [← str_size, h4, hsz]
 ·rw [h4]
  exact split_at s _
abbrev St := ByteArray × Nat
def rdInt (low high : Int) (s : St) : Int × St :=
 if s.2 ≠ 0 then (0, s) else
 let r := pk s.1 0 1
 if r.2.2.2 ≠ 0 then (0, s.1, r.2.2.2) else
 if 9223372036854775808 ≤ r.2.1 then (0, s.1, 5) else
 let x : Int := if r.1 = 1 then -1 - (r.2.1 : Int) else r.2.1
 if x < low ∨ high < x then (0, s.1, 9) else (x, s.1.extract r.2.2.1 s.1.size, 0)
def rdHead (kind : Nat) (most : Nat) (follow : Bool) (s : St) : Nat × St :=
 if s.2 ≠ 0 then (0, s) else
 let r := pk s.1 kind kind
 if r.2.2.2 ≠ 0 then (0, s.1, r.2.2.2) else
 if most < r.2.1 then (0, s.1, 4) else
 if follow = true ∧ s.1.size - r.2.2.1 < r.2.1 then (0, s.1, 3) else (r.2.1, s.1.extract r.2.2.1 s.1.size, 0)
def rdText (most : Nat) (s : St) : ByteArray × St :=
 let r := rdHead 2 most true s
 (r.2.1.extract 0 r.1, r.2.1.extract r.1 r.2.1.size, r.2.2)
def rdList (most : Nat) (s : St) : Nat × St := rdHead 4 most false s
abbrev ptr0 : Value := .pointer (some ⟨0, 0, none⟩)
def c_peek3 (args : List Value) (conts : List (List Value)) (Post : Value → List (List Value) → Prop) : Prop :=
 ∃ (s : ByteArray) (e : Int) (one two : Nat), args = [ptr0, .int .i64 one, .int .i64 two] ∧ conts = [[.string s, .int .i64 e]] ∧ s.size < 2 ^ 62 ∧
  (pk s one two = (0, 0, 0, 3) → Post (.tuple [.int .i64 0, .int .u64 0, .int .i64 0, .int .i64 3].toArray) conts) ∧ (pk s one two = (0, 0, 0, 5) → Post (.tuple [.int .i64 0, .int .u64 0, .int .i64 0, .int .i64 5].toArray) conts) ∧
  ∀ k v n : Nat, pk s one two = (k, v, n, 0) → Post (.tuple [.int .i64 k, .int .u64 v, .int .i64 n, .int .i64 0].toArray) conts
theorem ok_peek3 : IEntOk Tryz.prog ⟨91, c_peek3⟩ := by
 rintro args conts Post ⟨s, e, one, two, h1, h2, h3, h4, h5, h6⟩
 refine ok_peek args conts Post ⟨s, e, one, two, h1, h2, h3, ?_⟩
 rcases pk_cases s one two with ⟨e', he | he, hp⟩ | ⟨k, v, n, hp, _⟩
 ·subst he; rw [hp]; exact h4 hp
 ·subst he; rw [hp]; exact h5 hp
 ·rw [hp]; exact h6 k v n hp
def tabPk : List IEnt := [⟨91, c_peek3⟩]
def callPk : VCall := inlCall Tryz.prog [90] (itabCall tabPk noCall) 2
theorem callPk_ok : VCallOk Tryz.prog callPk := inlCall_ok mixed (itabCall_ok (by
 intro e he
 simp only [tabPk, List.mem_cons, List.not_mem_nil, or_false] at he
 rcases he with rfl
 exact ok_peek3) noCall_ok) 2
theorem e_count (s : ByteArray) (e kind most : Int) (fl : Bool) (H : HT) (Post : PI) : vcI Tryz.prog callPk 149 [] [[.string s, .int .i64 e]] [ptr0, .int .i64 kind, .int .i64 most, .bool fl] H Post = (T8 (T4 (pIf (decide (e = 0)) (T4 (T2 (true = true ∧ ∃ (s_1 : ByteArray), ∃ (e_1 : Int), ∃ (one : Nat), ∃ (two : Nat), eqL [pt 0, vi kind, vi kind] [pt 0, vi (↑one : Int), vi (↑two : Int)] ∧ [[vs s, vi e]] = [[vs s_1, vi e_1]] ∧ s_1.size < 4611686018427387904 ∧ (pk s_1 one two = (0, 0, 0, 3) → 1 = 1 ∧ T16 (True ∧ 2 ≤ 2 ∧ T4 (true = true ∧ Post (vi 0) [[vs s, vi 3]]))) ∧ (pk s_1 one two = (0, 0, 0, 5) → 1 = 1 ∧ T16 (True ∧ 2 ≤ 2 ∧ T4 (true = true ∧ Post (vi 0) [[vs s, vi 5]]))) ∧ ∀ (k v n : Nat), pk s_1 one two = (k, v, n, 0) → 1 = 1 ∧ T8 (T4 (T2 (pIf (decide (most < 0)) (T8 (True ∧ 2 ≤ 2 ∧ T4 (true = true ∧ Post (vi 0) [[vs s, vi 4]]))) (T4 (True ∧ pIf (decide ((↑v : Int) > IntKind.wrap IntKind.u64 most)) (T8 (2 ≤ 2 ∧ T4 (true = true ∧ Post (vi 0) [[vs s, vi 4]]))) (T2 (True ∧ pIf fl (T8 (T4 (pIf (decide ((↑v : Int) > IntKind.wrap IntKind.u64 (IntKind.wrap IntKind.i64 ((↑s.size : Int) - (↑n : Int))))) (T8 (2 ≤ 2 ∧ T4 (true = true ∧ Post (vi 0) [[vs s, vi 3]]))) (T4 (T2 (True ∧ 2 ≤ 2 ∧ T8 (True ∧ (True ∧ 0 ≤ (↑n : Int) ∧ Int.toNat (↑n : Int) ≤ s.size ∧ s.size ≤ s.size) ∧ T2 (True ∧ 1 ≤ 2 ∧ T4 (true = true ∧ Post (vi (IntKind.wrap IntKind.i64 (↑v : Int))) [[vs (ByteArray.extract s (Int.toNat (↑n : Int)) s.size), vi 0]]))))))))) (T8 (2 ≤ 2 ∧ T8 (True ∧ (True ∧ 0 ≤ (↑n : Int) ∧ Int.toNat (↑n : Int) ≤ s.size ∧ s.size ≤ s.size) ∧ T2 (True ∧ 1 ≤ 2 ∧ T4 (true = true ∧ Post (vi (IntKind.wrap IntKind.i64 (↑v : Int))) [[vs (ByteArray.extract s (Int.toNat (↑n : Int)) s.size), vi 0]]))))))))))))))) (T4 (True ∧ true = true ∧ Post (vi 0) [[vs s, vi e]]))))) := by kernel_rfl
theorem e_RInt (s : ByteArray) (e low high : Int) (H : HT) (Post : PI) : vcI Tryz.prog callPk 78 [] [[.string s, .int .i64 e]] [ptr0, .int .i64 low, .int .i64 high] H Post = (let q3 := true = true ∧ Post (vi 0) [[vs s, vi 5]]; let q2 := true = true ∧ Post (vi 0) [[vs s, vi 9]]; let q1 := if IntKind.signed IntKind.i64 = true then -1 else IntKind.max IntKind.i64; T8 (T4 (pIf (decide (e = 0)) (T4 (true = true ∧ ∃ (s_1 : ByteArray), ∃ (e_1 : Int), ∃ (one : Nat), ∃ (two : Nat), eqL [pt 0, vi 0, vi 1] [pt 0, vi (↑one : Int), vi (↑two : Int)] ∧ [[vs s, vi e]] = [[vs s_1, vi e_1]] ∧ s_1.size < 4611686018427387904 ∧ (pk s_1 one two = (0, 0, 0, 3) → 1 = 1 ∧ T16 (T8 (T2 (True ∧ 2 ≤ 2 ∧ T4 (true = true ∧ Post (vi 0) [[vs s, vi 3]]))))) ∧ (pk s_1 one two = (0, 0, 0, 5) → 1 = 1 ∧ T16 (T8 (T2 (True ∧ 2 ≤ 2 ∧ T4 q3)))) ∧ ∀ (k v n : Nat), pk s_1 one two = (k, v, n, 0) → 1 = 1 ∧ T8 (T4 (True ∧ toI (vi 0) ≤ 63 ∧ True ∧ pIf (!decide (Int.fdiv (↑v : Int) (2 ^ 63) = 0)) (T4 (T2 (True ∧ pIf (decide ((↑k : Int) = 1)) (T8 (T4 (2 ≤ 2 ∧ T4 q3))) (T8 (True ∧ 2 ≤ 2 ∧ T4 q3))))) (T4 (T2 (pIf (decide ((↑k : Int) = 1)) (T8 (True ∧ pIf (decide (IntKind.wrap IntKind.i64 (↑(BitVec.toNat (BitVec.ofInt 64 q1 ^^^ BitVec.ofInt 64 (IntKind.wrap IntKind.i64 (↑v : Int)))) : Int) < low)) (T8 (True ∧ 2 ≤ 2 ∧ T4 q2)) (T4 (pIf (decide (IntKind.wrap IntKind.i64 (↑(BitVec.toNat (BitVec.ofInt 64 q1 ^^^ BitVec.ofInt 64 (IntKind.wrap IntKind.i64 (↑v : Int)))) : Int) > high)) (T8 (2 ≤ 2 ∧ T4 q2)) (T4 (T2 (True ∧ 2 ≤ 2 ∧ T8 (True ∧ (True ∧ 0 ≤ (↑n : Int) ∧ Int.toNat (↑n : Int) ≤ s.size ∧ s.size ≤ s.size) ∧ T2 (True ∧ 1 ≤ 2 ∧ T2 (True ∧ true = true ∧ Post (vi (IntKind.wrap IntKind.i64 (↑(BitVec.toNat (BitVec.ofInt 64 q1 ^^^ BitVec.ofInt 64 (IntKind.wrap IntKind.i64 (↑v : Int)))) : Int))) [[vs (ByteArray.extract s (Int.toNat (↑n : Int)) s.size), vi 0]])))))))))) (T4 (T2 (pIf (decide (IntKind.wrap IntKind.i64 (↑v : Int) < low)) (T8 (True ∧ 2 ≤ 2 ∧ T4 q2)) (T4 (pIf (decide (IntKind.wrap IntKind.i64 (↑v : Int) > high)) (T8 (2 ≤ 2 ∧ T4 q2)) (T4 (T2 (True ∧ 2 ≤ 2 ∧ T8 (True ∧ (True ∧ 0 ≤ (↑n : Int) ∧ Int.toNat (↑n : Int) ≤ s.size ∧ s.size ≤ s.size) ∧ T2 (True ∧ 1 ≤ 2 ∧ T2 (True ∧ true = true ∧ Post (vi (IntKind.wrap IntKind.i64 (↑v : Int))) [[vs (ByteArray.extract s (Int.toNat (↑n : Int)) s.size), vi 0]])))))))))))))))))) (T4 (True ∧ true = true ∧ Post (vi 0) [[vs s, vi e]]))))) := by kernel_rfl
theorem wrap64_hi {n : Int} (h1 : 9223372036854775808 ≤ n) (h2 : n < 18446744073709551616) : IntKind.i64.wrap n = n - 18446744073709551616 := by
 have e : IntKind.i64.wrap n = if (n % 18446744073709551616 : Int) ≥ 9223372036854775808 then n % 18446744073709551616 - 18446744073709551616 else n % 18446744073709551616 := by
  unfold IntKind.wrap
  simp [IntKind.signed, IntKind.bits]
 rw [e]
 split <;> omega
theorem notNat {v : Nat} (h : v < 9223372036854775808) : IntKind.i64.wrap (((BitVec.ofInt 64 (if IntKind.signed IntKind.i64 = true then -1 else IntKind.max IntKind.i64) ^^^ BitVec.ofInt 64 ((v : Nat) : Int)).toNat : Nat) : Int) = -1 - (v : Int) := by
 have e0 : (BitVec.ofInt 64 (if IntKind.signed IntKind.i64 = true then -1 else IntKind.max IntKind.i64)) = BitVec.allOnes 64 := by decide
 rw [e0, BitVec.allOnes_xor]
 have e1 : (~~~ BitVec.ofInt 64 ((v : Nat) : Int)).toNat = 18446744073709551615 - v := by
  rw [BitVec.toNat_not, BitVec.toNat_ofInt]
  omega
 rw [e1, wrap64_hi (by omega) (by omega)]
 omega
def stC (st : St) : List Value := [.string st.1, .int .i64 st.2]
def c_RInt (args : List Value) (conts : List (List Value)) (Post : Value → List (List Value) → Prop) : Prop :=
 ∃ (s : ByteArray) (e : Nat) (low high : Int), args = [ptr0, .int .i64 low, .int .i64 high] ∧ conts = [[.string s, .int .i64 e]] ∧ s.size < 2 ^ 62 ∧ Post (.int .i64 (rdInt low high (s, e)).1) [stC (rdInt low high (s, e)).2]
def c_count (args : List Value) (conts : List (List Value)) (Post : Value → List (List Value) → Prop) : Prop :=
 ∃ (s : ByteArray) (e kind most : Nat) (fl : Bool), args = [ptr0, .int .i64 kind, .int .i64 most, .bool fl] ∧ conts = [[.string s, .int .i64 e]] ∧ s.size < 2 ^ 62 ∧ most < 2 ^ 62 ∧ Post (.int .i64 (rdHead kind most fl (s, e)).1) [stC (rdHead kind most fl (s, e)).2]
theorem fdiv63 {v : Nat} : (Int.fdiv (v : Int) (2 ^ 63) = 0) ↔ v < 9223372036854775808 := by
 rw [fdivNat]
 have : (2 : Nat) ^ 63 = 9223372036854775808 := by decide
 omega
theorem pk_size {s : ByteArray} {one two k v n : Nat} (h : pk s one two = (k, v, n, 0)) : n ≤ s.size ∧ v < 18446744073709551616 := by
 rcases pk_cases s one two with ⟨e, he | he, hp⟩ | ⟨k', v', n', hp, h1, h2, h3, h4, h5, h6⟩
 ·rw [hp] at h; subst he; cases h
 ·rw [hp] at h; subst he; cases h
 ·rw [hp] at h; cases h; exact ⟨h5, h2⟩
theorem ok_RInt : IEntOk Tryz.prog ⟨78, c_RInt⟩ := by
 rintro args conts Post ⟨s, e, low, high, rfl, rfl, hs, h⟩
 refine spec_I (vc := callPk) callPk_ok mixed (by kernel_rfl) (by kernel_rfl) _ (e_RInt s e low high _ _) ?_
 simp only [true_and, and_true, pIf_iff, decide_eq_true_eq, decide_eq_false_iff_not, Bool.not_eq_true', Bool.not_eq_false', Int.toNat_natCast]
 refine ⟨fun h0 => ⟨s, e, 0, 1, rfl, rfl, hs, fun hp => ?_, fun hp => ?_, fun k v n hp => ⟨by decide, fun h1 => ?_, fun h1 => ?_⟩⟩, fun h0 => ?_⟩
 ·unfold rdInt at h
  rw [if_neg (show ¬ e ≠ 0 by omega)] at h
  simp only [hp] at h
  exact ⟨Nat.le_refl _, h⟩
 ·unfold rdInt at h
  rw [if_neg (show ¬ e ≠ 0 by omega)] at h
  simp only [hp] at h
  exact ⟨Nat.le_refl _, h⟩
 ·rw [fdiv63] at h1
  unfold rdInt at h
  rw [if_neg (show ¬ e ≠ 0 by omega)] at h
  simp only [hp] at h
  rw [if_neg (by decide), if_pos (by omega)] at h
  exact ⟨fun _ => ⟨Nat.le_refl _, h⟩, fun _ => ⟨Nat.le_refl _, h⟩⟩
 ·rw [fdiv63] at h1
  obtain ⟨hn, hv⟩ := pk_size hp
  unfold rdInt at h
  rw [if_neg (show ¬ e ≠ 0 by omega)] at h
  simp only [hp] at h
  rw [if_neg (by decide), if_neg (by omega)] at h
  rw [wrap64 (n := (v : Int)) (by omega) (by omega), notNat h1]
  refine ⟨fun hk => ?_, fun hk => ?_⟩
  ·rw [if_pos (show k = 1 by omega)] at h
   refine ⟨fun h2 => ?_, fun h2 => ⟨fun h3 => ?_, fun h3 => ?_⟩⟩
   ·rw [if_pos (.inl h2)] at h; exact ⟨Nat.le_refl _, h⟩
   ·rw [if_pos (.inr h3)] at h; exact ⟨Nat.le_refl _, h⟩
   ·rw [if_neg (by omega)] at h; exact ⟨Nat.le_refl _, ⟨by omega, hn, Nat.le_refl _⟩, by decide, h⟩
  ·rw [if_neg (show ¬ k = 1 by omega)] at h
   refine ⟨fun h2 => ?_, fun h2 => ⟨fun h3 => ?_, fun h3 => ?_⟩⟩
   ·rw [if_pos (.inl h2)] at h; exact ⟨Nat.le_refl _, h⟩
   ·rw [if_pos (.inr h3)] at h; exact ⟨Nat.le_refl _, h⟩
   ·rw [if_neg (by omega)] at h; exact ⟨Nat.le_refl _, ⟨by omega, hn, Nat.le_refl _⟩, by decide, h⟩
 ·unfold rdInt at h
  rw [if_pos (show e ≠ 0 by omega)] at h
  exact h
theorem ok_count : IEntOk Tryz.prog ⟨149, c_count⟩ := by
 rintro args conts Post ⟨s, e, kind, most, fl, rfl, rfl, hs, hm, h⟩
 refine spec_I (vc := callPk) callPk_ok mixed (by kernel_rfl) (by kernel_rfl) _ (e_count s e kind most fl _ _) ?_
 simp only [true_and, and_true, pIf_iff, decide_eq_true_eq, decide_eq_false_iff_not, Bool.not_eq_true', Bool.not_eq_false', Int.toNat_natCast]
 refine ⟨fun h0 => ⟨s, e, kind, kind, rfl, rfl, hs, fun hp => ?_, fun hp => ?_, fun k v n hp => ?_⟩, fun h0 => ?_⟩
 ·unfold rdHead at h
  rw [if_neg (show ¬ e ≠ 0 by omega)] at h
  simp only [hp] at h
  exact ⟨Nat.le_refl _, h⟩
 ·unfold rdHead at h
  rw [if_neg (show ¬ e ≠ 0 by omega)] at h
  simp only [hp] at h
  exact ⟨Nat.le_refl _, h⟩
 ·obtain ⟨hn, hv⟩ := pk_size hp
  unfold rdHead at h
  rw [if_neg (show ¬ e ≠ 0 by omega)] at h
  simp only [hp] at h
  rw [if_neg (by decide)] at h
  rw [wrapU64 (n := most) (by omega), show ((s.size : Nat) : Int) - (n : Int) = ((s.size - n : Nat) : Int) by omega, wrapNat (n := s.size - n) (by omega), wrapU64 (n := s.size - n) (by omega)]
  refine ⟨fun h1 => by omega, fun h1 => ⟨fun h2 => ?_, fun h2 => ⟨fun h3 => ⟨fun h4 => ?_, fun h4 => ?_⟩, fun h3 => ?_⟩⟩⟩
  ·rw [if_pos (by omega)] at h; exact ⟨Nat.le_refl _, h⟩
  ·rw [if_neg (by omega), if_pos ⟨h3, by omega⟩] at h; exact ⟨Nat.le_refl _, h⟩
  ·rw [if_neg (by omega), if_neg (fun hh => by omega)] at h
   rw [wrapNat (n := v) (by omega)]
   exact ⟨Nat.le_refl _, ⟨by omega, hn, Nat.le_refl _⟩, by decide, h⟩
  ·rw [if_neg (by omega), if_neg (fun hh => by rw [h3] at hh; cases hh.1)] at h
   rw [wrapNat (n := v) (by omega)]
   exact ⟨Nat.le_refl _, ⟨by omega, hn, Nat.le_refl _⟩, by decide, h⟩
 ·unfold rdHead at h
  rw [if_pos (show e ≠ 0 by omega)] at h
  exact h
theorem closedL {ρ : Place} {l l' : List Value} (hl : l.all closed = true) (h : VRL ρ l l') : l' = l := by
 refine List.ext_getElem? fun i => ?_
 have hlen := h.len
 rcases Nat.lt_or_ge i l.length with hi | hi
 ·have h1 : l[i]? = some l[i] := List.getElem?_eq_getElem hi
  have h2 : l'[i]? = some (l'[i]'(by omega)) := List.getElem?_eq_getElem (by omega)
  have hr := h.get h1 h2
  rw [h1, h2, closed_eq (List.all_eq_true.1 hl _ (List.getElem_mem hi)) hr]
 ·rw [List.getElem?_eq_none hi, List.getElem?_eq_none (by omega)]
theorem pure_of_calls {P : Program} {f : FuncId} {args : List Value} {Post : Value → Prop} {v : Value} (ha : args.all closed = true) (hv : nl1 v = true) (hr : ∀ ρ, VR ρ v v) (h : ∀ w, Calls P f args.toArray w fun e w' => e = .returned v ∧ w' = w) (hP : Post v) : Pure P f args Post := by
 intro W ρ w args' hrel hargs
 obtain rfl := closedL ha hargs
 refine (h w).mono fun e w' ⟨he, hw⟩ => ?_
 subst he hw
 exact ⟨v, .e, 0, v, ρ, hP, rfl, nl1_sound hv (hr ρ), hrel, .refl _ _⟩
def dot : ByteArray := ⟨#[46]⟩
theorem run_cnt (s : ByteArray) (w : World) : (callFunc 103 #[.string s, .int .u8 46]).run Tryz.prog w = .ok (.value (.int .i64 (Lib.countByte s.data.toList 46))) w := by
 rw [run_callFunc_extern Tryz.func103 (by kernel_rfl) (by kernel_rfl) (by kernel_rfl) (e := Extern.BytealgCount.count) (by kernel_rfl), Lib.run_countString]
 rfl
theorem run_idx (s : ByteArray) (w : World) : (callFunc 111 #[.string s, .int .u8 46]).run Tryz.prog w = .ok (.value (.int .i64 (Lib.indexByte s.data.toList 46))) w := by
 rw [run_callFunc_extern Tryz.func111 (by kernel_rfl) (by kernel_rfl) (by kernel_rfl) (e := Extern.BytealgIndexByte.indexByte) (by kernel_rfl), Lib.run_indexByteString]
 rfl
set_option maxHeartbeats 1000000 in
theorem count_walk (s : ByteArray) (w : World) : Calls Tryz.prog 96 #[.string s, .string dot] w fun e w' => e = .returned (.int .i64 (Lib.countByte s.data.toList 46)) ∧ w' = w := by
 unfold dot
 go_enter Tryz.func96, Tryz.ntmps96
 go_wp2
 erw [run_cnt]
 go_wp2
 go_ret
 exact ⟨rfl, rfl⟩
set_option maxHeartbeats 1000000 in
theorem index_walk (s : ByteArray) (w : World) : Calls Tryz.prog 107 #[.string s, .int .u8 46] w fun e w' => e = .returned (.int .i64 (Lib.indexByte s.data.toList 46)) ∧ w' = w := by
 go_enter Tryz.func107, Tryz.ntmps107
 go_wp2
 rw [run_idx]
 go_wp2
 go_ret
 exact ⟨rfl, rfl⟩
def c_Cnt (args : List Value) (Post : Value → Prop) : Prop := match args with
 | [.string s, .string d] => d = dot ∧ Post (.int .i64 (Lib.countByte s.data.toList 46))
 | _ => False
def c_Idx (args : List Value) (Post : Value → Prop) : Prop := match args with
 | [.string s, .int .u8 k] => k = 46 ∧ Post (.int .i64 (Lib.indexByte s.data.toList 46))
 | _ => False
theorem ok_Cnt : EntOk Tryz.prog ⟨96, c_Cnt⟩ := by
 intro args Post h
 unfold c_Cnt at h
 dsimp only at h
 split at h
 ·obtain ⟨rfl, h⟩ := h
  exact pure_of_calls rfl rfl (fun ρ => .int _ _) (fun w => count_walk _ w) h
 ·exact h.elim
theorem ok_Idx : EntOk Tryz.prog ⟨107, c_Idx⟩ := by
 intro args Post h
 unfold c_Idx at h
 dsimp only at h
 split at h
 ·obtain ⟨rfl, h⟩ := h
  exact pure_of_calls rfl rfl (fun ρ => .int _ _) (fun w => index_walk _ w) h
 ·exact h.elim
def callSp : VCall := inlCall Tryz.prog [97, 104] (tabCall [⟨96, c_Cnt⟩, ⟨107, c_Idx⟩] noCall) 3
theorem callSp_ok : VCallOk Tryz.prog callSp := inlCall_ok mixed (tabCall_ok (by
 intro e he
 simp only [List.mem_cons, List.not_mem_nil, or_false] at he
 rcases he with rfl | rfl
 ·exact ok_Cnt
 ·exact ok_Idx) noCall_ok) 3
theorem e_gs (s : ByteArray) (H : HT) (Post : PV) : vcP Tryz.prog callSp 86 [(11, [0, 1, 2, 3, 9, 10])] [.string s, .string dot, .int .i64 0, .int .i64 (-1)] H Post = (let q2 := ((↑(Lib.countByte (Array.toList (ByteArray.data s)) 46) : Int) + 1); let q1 := (if IntKind.wrap IntKind.i64 ((↑s.size : Int) + 1) < IntKind.wrap IntKind.i64 q2 then IntKind.wrap IntKind.i64 ((↑s.size : Int) + 1) else IntKind.wrap IntKind.i64 q2); T8 (True ∧ dot = dot ∧ T8 (True ∧ ((0 ≤ if IntKind.wrap IntKind.i64 ((↑s.size : Int) + 1) < IntKind.wrap IntKind.i64 q2 then IntKind.wrap IntKind.i64 ((↑s.size : Int) + 1) else IntKind.wrap IntKind.i64 q2) ∧ (q1 ≤ if IntKind.wrap IntKind.i64 ((↑s.size : Int) + 1) < IntKind.wrap IntKind.i64 q2 then IntKind.wrap IntKind.i64 ((↑s.size : Int) + 1) else IntKind.wrap IntKind.i64 q2) ∧ q1 ≤ 2 ^ 25) ∧ T4 (T2 ((NLs (zrow (Int.toNat q1) [vz]) ∧ True) ∧ H (lpC Tryz.prog 86 11) (lpK Tryz.prog 86 11) (stV [(0, some (vs s)), (1, some (vs dot)), (2, some (vi 0)), (3, some (vi (IntKind.wrap IntKind.i64 (q1 - 1)))), (9, some (Value.slice (some (Addr.mk 0 0 none)) (Int.toNat q1) 1)), (10, some (vi 0))] [(0, some (AObj.cells (zrow (Int.toNat q1) [vz]) true))] 1)))))) := by kernel_rfl
theorem l_gs (s r : ByteArray) (L : List Value) (N : Nat) (c i : Int) (H : HT) (Post : PV) : vcLP Tryz.prog callSp 86 [.string s, .string dot, .int .i64 0, .int .i64 (-1)] [(11, [0, 1, 2, 3, 9, 10])] 11 (stV [(0, some (.string r)), (1, some (.string dot)), (2, some (.int .i64 0)), (3, some (.int .i64 c)), (9, some (.slice (some ⟨0, 0, none⟩) N 1)), (10, some (.int .i64 i))] [(0, some (.cells L true))] 1) H Post = (let q4 := Array.toList (ByteArray.data r); let q3 := IntKind.wrap IntKind.i64 (i + 1); let q2 := IntKind.wrap IntKind.i64 (Lib.indexByte q4 46 + 0); let q1 := (T2 (True ∧ (0 ≤ i ∧ i < (↑N : Int)) ∧ 0 + Int.toNat i * 1 + 1 ≤ List.length L ∧ T2 (True ∧ (0 ≤ IntKind.wrap IntKind.i64 (i + 1) ∧ True ∧ 0 ≤ Int.toNat q3 ∧ Int.toNat q3 ≤ N) ∧ True ∧ (0 + (Int.toNat q3 - 0) * 1 ≤ List.length (setFrom L (0 + Int.toNat i * 1) [vs r]) ∧ NLs (List.drop 0 (setFrom L (0 + Int.toNat i * 1) [vs r]))) ∧ Post (tree 1 (Int.toNat q3 - 0) (chunks 1 (Int.toNat q3 - 0) (List.drop 0 (setFrom L (0 + Int.toNat i * 1) [vs r]))))))); T2 (True ∧ pIf (decide (i < c)) (T8 (T4 (T2 (True ∧ pIf (decide (dot = r)) (T8 (T4 (True ∧ (toI (vi 0) ≤ IntKind.wrap IntKind.i64 (0 + 0) ∧ True ∧ 0 ≤ 0 ∧ 0 ≤ r.size) ∧ (0 ≤ i ∧ i < (↑N : Int)) ∧ 0 + Int.toNat i * 1 + 1 ≤ List.length L ∧ T4 (True ∧ (True ∧ toI (vi 0) ≤ IntKind.wrap IntKind.i64 (0 + (↑dot.size : Int)) ∧ 1 ≤ r.size ∧ r.size ≤ r.size) ∧ T4 (True ∧ (NLs (setFrom L (0 + Int.toNat i * 1) [vs (ByteArray.extract r 0 0)]) ∧ True) ∧ H (lpC Tryz.prog 86 11) (lpK Tryz.prog 86 11) (stV [(0, some (vs (ByteArray.extract r 1 r.size))), (1, some (vs dot)), (2, some (vi 0)), (3, some (vi c)), (9, some (Value.slice (some (Addr.mk 0 0 none)) N 1)), (10, some (vi q3))] [(0, some (AObj.cells (setFrom L (0 + Int.toNat i * 1) [vs (ByteArray.extract r 0 0)]) true))] 1)))))) (T4 (T2 (True ∧ (toI (vi 0) ≤ 0 ∧ toI (vi 0) < (↑dot.size : Int)) ∧ toI (vi (↑(UInt8.toNat (Array.getD (ByteArray.data dot) (Int.toNat 0) 0)) : Int)) = 46 ∧ T4 (True ∧ pIf (decide (Lib.indexByte q4 46 < 0)) q1 (T4 (T2 ((0 ≤ IntKind.wrap IntKind.i64 (Lib.indexByte q4 46 + 0) ∧ True ∧ 0 ≤ Int.toNat q2 ∧ Int.toNat q2 ≤ r.size) ∧ (0 ≤ i ∧ i < (↑N : Int)) ∧ 0 + Int.toNat i * 1 + 1 ≤ List.length L ∧ T4 (True ∧ (True ∧ 0 ≤ IntKind.wrap IntKind.i64 (Lib.indexByte q4 46 + (↑1 : Int)) ∧ Int.toNat (IntKind.wrap IntKind.i64 (Lib.indexByte q4 46 + (↑1 : Int))) ≤ r.size ∧ r.size ≤ r.size) ∧ T4 (True ∧ (NLs (setFrom L (0 + Int.toNat i * 1) [vs (ByteArray.extract r 0 (Int.toNat q2))]) ∧ True) ∧ H (lpC Tryz.prog 86 11) (lpK Tryz.prog 86 11) (stV [(0, some (vs (ByteArray.extract r (Int.toNat (IntKind.wrap IntKind.i64 (Lib.indexByte q4 46 + (↑1 : Int)))) r.size))), (1, some (vs dot)), (2, some (vi 0)), (3, some (vi c)), (9, some (Value.slice (some (Addr.mk 0 0 none)) N 1)), (10, some (vi q3))] [(0, some (AObj.cells (setFrom L (0 + Int.toNat i * 1) [vs (ByteArray.extract r 0 (Int.toNat q2))]) true))] 1)))))))))))))) q1)) := by kernel_rfl
def splitL : List UInt8 → List (List UInt8)
 | [] => [[]]
 | c :: l => if c = 46 then [] :: splitL l else match splitL l with
  | p :: ps => (c :: p) :: ps
  | [] => [[c]]
def pieces (s : ByteArray) : List ByteArray := (splitL s.data.toList).map fun l => ⟨l.toArray⟩
theorem splitL_none : ∀ {l : List UInt8}, Lib.countByte l 46 = 0 → splitL l = [l]
 | [], _ => rfl
 | c :: l, h => by
  unfold Lib.countByte at h
  rw [List.count_cons] at h
  by_cases hc : c = 46
  ·subst hc; simp at h
  ·have h0 : Lib.countByte l 46 = 0 := by unfold Lib.countByte; omega
   simp only [splitL, hc, if_false, splitL_none h0]
theorem idx_neg : ∀ {l : List UInt8}, Lib.indexByte l 46 < 0 → Lib.countByte l 46 = 0
 | [], _ => rfl
 | c :: l, h => by
  unfold Lib.indexByte at h
  by_cases hc : c = 46
  ·subst hc; simp at h
  ·have hb : (c == 46) = false := by simp [hc]
   rw [hb] at h
   simp only [Bool.false_eq_true, if_false] at h
   have hge := Lib.indexByte_ge l 46
   split at h
   ·rename_i h1
    have ih := idx_neg (l := l) (by rw [beq_iff_eq] at h1; omega)
    unfold Lib.countByte at ih ⊢
    rw [List.count_cons, ih, hb]
    rfl
   ·rename_i h1
    simp only [beq_iff_eq] at h1
    omega
theorem idx_pos : ∀ {l : List UInt8} {m : Nat}, Lib.indexByte l 46 = m → m < l.length ∧ splitL l = l.take m :: splitL (l.drop (m + 1)) ∧ Lib.countByte l 46 = Lib.countByte (l.drop (m + 1)) 46 + 1
 | [], m, h => by simp [Lib.indexByte] at h
 | c :: l, m, h => by
  unfold Lib.indexByte at h
  by_cases hc : c = 46
  ·subst hc
   simp only [beq_self_eq_true, if_true] at h
   obtain rfl : m = 0 := by omega
   refine ⟨by simp, by simp [splitL], ?_⟩
   unfold Lib.countByte
   simp
  ·have hb : (c == 46) = false := by simp [hc]
   rw [hb] at h
   simp only [Bool.false_eq_true, if_false] at h
   split at h
   ·omega
   ·rename_i h1
    simp only [beq_iff_eq] at h1
    have hge := Lib.indexByte_ge l 46
    obtain ⟨k, rfl⟩ : ∃ k, m = k + 1 := ⟨m - 1, by omega⟩
    obtain ⟨i1, i2, i3⟩ := idx_pos (l := l) (m := k) (by omega)
    refine ⟨by simp; omega, ?_, ?_⟩
    ·simp only [splitL, hc, if_false, i2, List.take_succ_cons, List.drop_succ_cons]
    ·unfold Lib.countByte at i3 ⊢
     rw [List.count_cons, hb, List.drop_succ_cons]
     simpa using i3
theorem splitL_len : ∀ l : List UInt8, (splitL l).length = Lib.countByte l 46 + 1
 | [] => rfl
 | c :: l => by
  have ih := splitL_len l
  unfold Lib.countByte at ih ⊢
  rw [List.count_cons]
  by_cases hc : c = 46
  ·subst hc; simp [splitL, ih]
  ·have hb : (c == 46) = false := by simp [hc]
   simp only [splitL, hc, if_false, hb, Bool.false_eq_true, Nat.add_zero]
   split
   ·rename_i p ps hp
    rw [hp] at ih
    simpa using ih
   ·rename_i hp
    rw [hp] at ih
    simp at ih
theorem pieces_none {r : ByteArray} (h : Lib.countByte r.data.toList 46 = 0) : pieces r = [r] := by
 unfold pieces
 rw [splitL_none h]
 simp
theorem pieces_some {r : ByteArray} {m : Nat} (h : Lib.indexByte r.data.toList 46 = m) : m < r.size ∧ pieces r = r.extract 0 m :: pieces (r.extract (m + 1) r.size) ∧ Lib.countByte r.data.toList 46 = Lib.countByte (r.extract (m + 1) r.size).data.toList 46 + 1 := by
 obtain ⟨h1, h2, h3⟩ := idx_pos h
 have hl : r.data.toList.length = r.size := by rw [Array.length_toList]; rfl
 have e : (r.extract (m + 1) r.size).data.toList = r.data.toList.drop (m + 1) := by rw [ext_list, List.take_of_length_le (by rw [List.length_drop, hl]; omega)]
 refine ⟨by omega, ?_, by rw [e]; exact h3⟩
 unfold pieces
 rw [e, h2, List.map_cons]
 congr 1
 have : (r.extract 0 m).data.toList = r.data.toList.take m := by rw [ext_list, List.drop_zero, Nat.sub_zero]
 rw [← this]
theorem ext_size (s : ByteArray) (a : Nat) : (s.extract a s.size).size = s.size - a := by
 rw [ByteArray.size_extract]; omega
theorem encL_str (l : List ByteArray) : encL l = (l.map Value.string).toArray := rfl
theorem set_take {L : List Value} {k : Nat} {v : Value} (h : k < L.length) : (L.set k v).take (k + 1) = L.take k ++ [v] := by
 rw [List.take_succ_eq_append_getElem (by simpa using h), List.getElem_set_self]
 congr 1
 refine List.ext_getElem? fun i => ?_
 simp only [List.getElem?_take]
 split
 ·rw [List.getElem?_set_ne (by omega)]
 ·rfl
theorem NLs_set {L : List Value} {k : Nat} {v : Value} (h : NLs L) (hv : nl1 v = true) : NLs (L.set k v) := fun u hu => by
 rcases List.mem_or_eq_of_mem_set hu with hu | rfl
 ·exact h u hu
 ·exact hv
def c_gs (args : List Value) (Post : Value → Prop) : Prop := ∃ s : ByteArray, args = [.string s, .string dot, .int .i64 0, .int .i64 (-1)] ∧ s.size < 16777216 ∧ Post (tree 1 (pieces s).length (encL (pieces s)))
theorem ok_gs : EntOk Tryz.prog ⟨86, c_gs⟩ := by
 rintro args Post ⟨s, rfl, hs, h⟩
 refine pure_P (vc := callSp) callSp_ok mixed (by kernel_rfl) (by kernel_rfl) _ (e_gs s _ _) ?_
 have hcl : Lib.countByte s.data.toList 46 ≤ s.size := by
  have h1 := List.count_le_length (a := (46 : UInt8)) (l := s.data.toList)
  have hl : s.data.toList.length = s.size := by rw [Array.length_toList]; rfl
  unfold Lib.countByte
  omega
 have hlen : (pieces s).length = Lib.countByte s.data.toList 46 + 1 := by unfold pieces; rw [List.length_map, splitL_len]
 have key : ∀ (n k : Nat) (r : ByteArray) (done : List ByteArray) (L : List Value), n + k = Lib.countByte s.data.toList 46 → done.length = k → done ++ pieces r = pieces s → L.length = Lib.countByte s.data.toList 46 + 1 → L.take k = done.map Value.string → NLs L → k + Lib.countByte r.data.toList 46 = Lib.countByte s.data.toList 46 → r.size ≤ s.size →
   OkP 86 [.string s, .string dot, .int .i64 0, .int .i64 (-1)] 11 Post (stV [(0, some (.string r)), (1, some (.string dot)), (2, some (.int .i64 0)), (3, some (.int .i64 (Lib.countByte s.data.toList 46 : Nat))), (9, some (.slice (some ⟨0, 0, none⟩) (Lib.countByte s.data.toList 46 + 1) 1)), (10, some (.int .i64 k))] [(0, some (.cells L true))] 1) := by
  intro n
  induction n with
  | zero =>
   intro k r done L hk hd hp hL ht hn hr hrs
   have hc0 : Lib.countByte r.data.toList 46 = 0 := by omega
   refine ok_P (vc := callSp) callSp_ok mixed _ (l_gs s r L _ _ _ _ _) ?_
   simp only [true_and]
   refine pIf_intro (fun hh => ?_) (fun _ => ?_)
   ·have := of_decide_eq_true hh; omega
   rw [wrapSucc (by omega)]
   have eN : ((k + 1 : Nat) : Int).toNat = k + 1 := by omega
   have ek : (k : Int).toNat = k := by omega
   have eset : setFrom L (0 + (k : Int).toNat * 1) [Value.string r] = L.set k (.string r) := by rw [ek, Nat.zero_add, Nat.mul_one]; rfl
   rw [eset, eN, List.drop_zero, Nat.sub_zero]
   have epc : pieces s = done ++ [r] := by rw [← hp, pieces_none hc0]
   have efin : chunks 1 (k + 1) (L.set k (.string r)) = encL (pieces s) := by
    show ((L.set k (Value.string r)).take (k + 1)).toArray = _
    rw [set_take (by omega), ht, epc, encL_str, List.map_append]
    rfl
   rw [efin]
   have elen : (pieces s).length = k + 1 := by rw [hlen]; omega
   rw [elen] at h
   refine ⟨⟨by omega, by omega⟩, by rw [ek]; omega, ⟨by omega, by omega, by omega⟩, ⟨by rw [List.length_set]; omega, NLs_set hn rfl⟩, ?_⟩
   exact h
  | succ n ih =>
   intro k r done L hk hd hp hL ht hn hr hrs
   refine ok_P (vc := callSp) callSp_ok mixed _ (l_gs s r L _ _ _ _ _) ?_
   simp only [true_and]
   have eN : ((k + 1 : Nat) : Int).toNat = k + 1 := by omega
   have ek : (k : Int).toNat = k := by omega
   refine pIf_intro (fun _ => ?_) (fun hh => ?_)
   case refine_2 => have := of_decide_eq_false hh; omega
   have eset : ∀ v, setFrom L (0 + (k : Int).toNat * 1) [v] = L.set k v := fun v => by rw [ek, Nat.zero_add, Nat.mul_one]; rfl
   simp only [eset]
   rw [wrapSucc (by omega)]
   have step : ∀ m : Nat, Lib.indexByte r.data.toList 46 = m → OkP 86 [.string s, .string dot, .int .i64 0, .int .i64 (-1)] 11 Post (stV [(0, some (.string (r.extract (m + 1) r.size))), (1, some (.string dot)), (2, some (.int .i64 0)), (3, some (.int .i64 (Lib.countByte s.data.toList 46 : Nat))), (9, some (.slice (some ⟨0, 0, none⟩) (Lib.countByte s.data.toList 46 + 1) 1)), (10, some (.int .i64 ((k + 1 : Nat) : Int)))] [(0, some (.cells (L.set k (.string (r.extract 0 m))) true))] 1) := fun m hm => by
    obtain ⟨g1, g2, g3⟩ := pieces_some hm
    refine ih (k + 1) _ (done ++ [r.extract 0 m]) _ (by omega) (by simp [hd]) (by rw [← hp, g2]; simp) (by rw [List.length_set]; exact hL) ?_ (NLs_set hn rfl) (by omega) ?_
    ·rw [set_take (by omega), ht, List.map_append]; rfl
    ·have := ext_size r (m + 1)
     omega
   have hz : (IntKind.i64.wrap (0 + 0)) = 0 := by decide
   refine pIf_intro (fun hh => ?_) (fun hh => ?_)
   ·obtain rfl := of_decide_eq_true hh
    have hm : Lib.indexByte dot.data.toList 46 = ((0 : Nat) : Int) := by decide
    have := step 0 hm
    refine ⟨⟨by decide, by decide, by decide⟩, ⟨by omega, by omega⟩, by rw [ek]; omega, ⟨by decide, by decide, by decide⟩, ⟨NLs_set hn rfl, trivial⟩, this⟩
   ·refine ⟨⟨by decide, by decide⟩, by decide, pIf_intro (fun hm => ?_) (fun hm => ?_)⟩
    ·have h1 := idx_neg (of_decide_eq_true hm)
     omega
    ·have h1 := of_decide_eq_false hm
     obtain ⟨m, hm'⟩ : ∃ m : Nat, Lib.indexByte r.data.toList 46 = m := ⟨(Lib.indexByte r.data.toList 46).toNat, by omega⟩
     obtain ⟨g1, g2, g3⟩ := pieces_some hm'
     have w0 : IntKind.i64.wrap ((m : Int) + 0) = m := by rw [Int.add_zero]; exact wrapNat (by omega)
     have w1 : IntKind.i64.wrap ((m : Int) + 1) = ((m + 1 : Nat) : Int) := wrapSucc (by omega)
     rw [hm', w0]
     rw [w1]
     have em : (m : Int).toNat = m := by omega
     have em1 : ((m + 1 : Nat) : Int).toNat = m + 1 := by omega
     rw [em, em1]
     refine ⟨⟨by omega, by omega, by omega⟩, ⟨by omega, by omega⟩, by rw [ek]; omega, ⟨by omega, by omega, by omega⟩, ⟨NLs_set hn rfl, trivial⟩, step m hm'⟩
 have e1 : (if IntKind.i64.wrap ((s.size : Int) + 1) < IntKind.i64.wrap (((Lib.countByte s.data.toList 46 : Nat) : Int) + 1) then IntKind.i64.wrap ((s.size : Int) + 1) else IntKind.i64.wrap (((Lib.countByte s.data.toList 46 : Nat) : Int) + 1)) = ((Lib.countByte s.data.toList 46 + 1 : Nat) : Int) := by
  rw [wrap64 (by omega) (by omega), wrap64 (by omega) (by omega)]
  split <;> omega
 simp only [true_and]
 rw [e1]
 have e2 : ((Lib.countByte s.data.toList 46 + 1 : Nat) : Int).toNat = Lib.countByte s.data.toList 46 + 1 := by omega
 have e3 : IntKind.i64.wrap (((Lib.countByte s.data.toList 46 + 1 : Nat) : Int) - 1) = ((Lib.countByte s.data.toList 46 : Nat) : Int) := by
  rw [wrap64 (by omega) (by omega)]; omega
 rw [e2, e3]
 have hzl : (zrow (Lib.countByte s.data.toList 46 + 1) [Value.string ⟨#[]⟩]).length = Lib.countByte s.data.toList 46 + 1 := by rw [zrow_len]; simp
 have hnl : NLs (zrow (Lib.countByte s.data.toList 46 + 1) [Value.string ⟨#[]⟩]) := fun v hv => by
  obtain ⟨i, hi, rfl⟩ := List.mem_iff_getElem.1 hv
  have := zrow_get (List.getElem?_eq_getElem hi)
  rw [show i % [Value.string ⟨#[]⟩].length = 0 from Nat.mod_one i] at this
  simp only [List.getElem?_cons_zero, Option.some.injEq] at this
  rw [← this]
  rfl
 refine ⟨⟨by omega, by omega, by omega⟩, ⟨hnl, trivial⟩, ?_⟩
 exact key _ 0 s [] _ (Nat.add_zero _) rfl rfl hzl rfl hnl (Nat.zero_add _) (Nat.le_refl _)
end Go.Proofs.YtegjnjmimfgijaaGreatDoor
noncomputable section
namespace Go.Proofs.YtegjnjmimfgijaaGreatDoor
open Go Go.RowKit
inductive Out where
 | ret (v : Value)
 | pan (v : Value)
abbrev PCall := FuncId → List Value → Tr AObj → Nat → (Out → Tr AObj → Nat → Prop) → Prop
def Out.Ends (ρ : Place) (r : Out) (e : Ending) : Prop :=
 match r with
 | .ret v => ∃ v', e = .returned v' ∧ VR ρ v v'
 | .pan v => ∃ v', e = .panicked [{ v := v', recovered := false }] ∧ VR ρ v v'
def PCallOk (P : Program) (pc : PCall) : Prop :=
 ∀ f args hp nx K, pc f args hp nx K → ∀ (W : Base) ρ w args', Rel ρ W hp nx w → VRL ρ args args' →
  Calls P f args'.toArray w fun e w' => ∃ r hp' nx' ρ', K r hp' nx' ∧ r.Ends ρ' e ∧ Rel ρ' W hp' nx' w' ∧ Step ρ ρ' hp hp' nx nx'
def ofV (vc : VCall) : PCall := fun f args hp nx K => vc f args hp nx fun v _ hp' nx' => K (.ret v) hp' nx'
def onRet (K : Value → Bool → Tr AObj → Nat → Prop) (r : Out) (hp : Tr AObj) (nx : Nat) : Prop :=
 match r with
 | .ret v => K v true hp nx
 | .pan _ => False
def toV (pc : PCall) : VCall := fun f args hp nx K => pc f args hp nx (onRet K)
theorem ofV_ok {P : Program} {vc : VCall} (h : VCallOk P vc) : PCallOk P (ofV vc) := fun f args hp nx K hs W ρ w args' hr ha =>
 (h f args hp nx _ hs W ρ w args' hr ha).mono fun _ _ ⟨v, _, hp', nx', v', ρ', k, _, e, g1, g2, g3⟩ => ⟨.ret v, hp', nx', ρ', k, ⟨v', e, g1⟩, g2, g3⟩
theorem toV_ok {P : Program} {pc : PCall} (h : PCallOk P pc) : VCallOk P (toV pc) := fun f args hp nx K hs W ρ w args' hr ha =>
 (h f args hp nx _ hs W ρ w args' hr ha).mono fun _ _ ⟨r, hp', nx', ρ', k, e, g2, g3⟩ => by
  cases r with
  | ret v => obtain ⟨v', e, g1⟩ := e; exact ⟨v, true, hp', nx', v', ρ', k, fun e => (by cases e), e, g1, g2, g3⟩
  | pan v => exact k.elim
def pheavy (P : Program) (pc : PCall) (hp : Tr AObj) (nx : Nat) (o : Oper) (ev : Operand → Option Value) (K : Out → Tr AObj → Nat → Prop) : Prop :=
 match o.op with
 | .panic x => match ev x with
  | some (.iface t v) => K (.pan (.iface t v)) hp nx
  | _ => False
 | .call c => match c.callee with
  | .value f => match ev f, evL ev c.args.toList with
   | some (.func (.func k) first captured), some args => bif enters P k then pc k (first.toList ++ args ++ captured.toList) hp nx K else False
   | _, _ => False
  | .invoke x name => match ev x, evL ev c.args.toList with
   | some (.iface t v), some args => match aMethod P t name with
    | some k => bif enters P k then pc k (v :: args) hp nx K else False
    | none => False
   | _, _ => False
  | .builtin .panic => match c.args.toList with
   | [x] => match ev x with
    | some (.iface t v) => K (.pan (.iface t v)) hp nx
    | _ => False
   | _ => False
  | _ => vheavy P (toV pc) hp nx o ev fun v _ hp' nx' => K (.ret v) hp' nx'
 | _ => vheavy P (toV pc) hp nx o ev fun v _ hp' nx' => K (.ret v) hp' nx'
theorem pheavy_sound {P : Program} {pc : PCall} {ρ : Place} {W : Base} (hcall : PCallOk P pc) {hp : Tr AObj} {nx : Nat} {w : World} (h : Rel ρ W hp nx w) {ev : Operand → Option Value} {a : Act} (hF : ERel ρ ev a) {o : Oper} {K : Out → Tr AObj → Nat → Prop}
  (hs : pheavy P pc hp nx o ev K) {next : Act → World → Prop} {Q : Exit → Act → World → Prop}
  (hk : ∀ v hp' nx' v' w' ρ', K (.ret v) hp' nx' → VR ρ' v v' → Rel ρ' W hp' nx' w' → Step ρ ρ' hp hp' nx nx' → next (a.put o.dst v') w')
  (hq : ∀ v hp' nx' v' w' ρ', K (.pan v) hp' nx' → VR ρ' v v' → Rel ρ' W hp' nx' w' → Step ρ ρ' hp hp' nx nx' → Q (.panic [{ v := v', recovered := false }]) a w') : o.wp P a w next Q := by
 have base : (vheavy P (toV pc) hp nx o ev fun v _ hp' nx' => K (.ret v) hp' nx') → o.wp P a w next Q := fun hb =>
  vheavy_sound (toV_ok hcall) h hF hb fun v _ hp' nx' v' w' ρ' k _ g1 g2 g3 => hk v hp' nx' v' w' ρ' k g1 g2 g3
 have ends : ∀ (k : FuncId) (args args' : List Value), pc k args hp nx K → VRL ρ args args' → (execOp a.eval o).run P w = .ok (.enter k args'.toArray) w → o.wp P a w next Q := by
  intro k args args' hc hA hrun
  unfold Oper.wp
  rw [hrun]
  refine (hcall k args hp nx K hc W ρ w _ h hA).mono ?_
  rintro e w' ⟨r, hp', nx', ρ', hK, he, g2, g3⟩
  cases r with
  | ret v => obtain ⟨v', rfl, g1⟩ := he; exact hk v hp' nx' v' w' ρ' hK g1 g2 g3
  | pan v => obtain ⟨v', rfl, g1⟩ := he; exact hq v hp' nx' v' w' ρ' hK g1 g2 g3
 have pans : ∀ (t : TypeId) (u : Value) (X : Value), VR ρ (.iface t u) X → K (.pan (.iface t u)) hp nx → (execOp a.eval o).run P w = ((Instr.panic X) >>= fun r => pure (Next.value r)).run P w → o.wp P a w next Q := by
  intro t u X hX hK hrun
  unfold Oper.wp
  rw [hrun]
  cases hX with
  | iface _ hu => exact hq _ _ _ _ _ ρ hK (.iface t hu) h (.refl _ _ _)
 obtain ⟨dst, op, type, pos, after, guard⟩ := o
 unfold pheavy at hs
 cases op <;> dsimp only at hs <;> try exact base hs
 case panic x =>
  split at hs
  case h_2 => exact hs.elim
  rename_i t u hx
  exact pans t u _ (hF.eval hx) hs rfl
 case call c =>
  obtain ⟨callee, args, argTypes⟩ := c
  dsimp only at hs
  split at hs
  ·rename_i f
   split at hs
   case h_2 => exact hs.elim
   rename_i k first captured as0 hf has
   cases he : enters P k with
   | false => rw [he] at hs; exact hs.elim
   | true =>
    rw [he, cond_true] at hs
    have hfv := hF.eval hf
    generalize hE : a.eval f = E at hfv
    cases hfv
    rename_i first' captured' s1 v1 s2 v2
    have hA := evL_sound hF has
    have hL := ((VRA.list ⟨s1, v1⟩).append hA).append (VRA.list ⟨s2, v2⟩)
    refine ends k _ _ hs hL ?_
    have e2 : (first'.toList ++ args.toList.map a.eval ++ captured'.toList).toArray = first' ++ args.map a.eval ++ captured' := by apply Array.ext'; simp
    rw [e2]
    unfold execOp
    simp only [resolve, hE]
    show (callFunc k (first' ++ args.map a.eval ++ captured')).run P w = _
    exact pureRun_run (enters_run he _) w
  ·rename_i x name
   split at hs
   case h_2 => exact hs.elim
   rename_i t v as0 hx has
   split at hs
   case h_2 => exact hs.elim
   rename_i k hm
   cases he : enters P k with
   | false => rw [he] at hs; exact hs.elim
   | true =>
    rw [he, cond_true] at hs
    have hxv := hF.eval hx
    have hA := evL_sound hF has
    generalize hE : a.eval x = E at hxv
    cases hxv with
    | @iface _ _ v' hv =>
     refine ends k (v :: as0) (v' :: args.toList.map a.eval) hs (.cons hv hA) ?_
     have hpos : ∃ j, P.types.size + Made.depth = j + 1 := ⟨P.types.size + Made.depth - 1, by (have : 0 < Made.depth := by decide); omega⟩
     obtain ⟨j, hj⟩ := hpos
     have e2 : (v' :: args.toList.map a.eval).toArray = #[v'] ++ args.map a.eval := by apply Array.ext'; simp
     have e3 : (#[Value.iface t v'] ++ args.map a.eval).extract 1 (#[Value.iface t v'] ++ args.map a.eval).size = args.map a.eval := by
      apply Array.ext'
      simp
      exact List.take_of_length_le (by simp)
     have e0 : (#[Value.iface t v'] ++ args.map a.eval)[0]? = some (.iface t v') := by rw [Array.getElem?_append_left (Nat.zero_lt_one)]; rfl
     rw [e2]
     unfold execOp
     simp only [resolve, hE]
     show (invoke (.fn (.method name) #[]) (#[Value.iface t v'] ++ args.map a.eval)).run P w = _
     unfold invoke
     dsimp only
     rw [e0]
     dsimp only
     rw [e3]
     unfold callMethod
     dsimp only
     have hprog : pureRun P program = some P := rfl
     rw [bind_run hprog]
     rw [hj]
     rw [bind_run (aMethod_run hm v' j)]
     exact pureRun_run (enters_run he _) w
  ·split at hs
   case h_2 => exact hs.elim
   rename_i x hargs
   split at hs
   case h_2 => exact hs.elim
   rename_i t u hx
   refine pans t u _ (hF.eval hx) hs ?_
   have : args = #[x] := by apply Array.ext'; simpa using hargs
   subst this
   have e1 : (#[x].map a.eval) = #[a.eval x] := by simp
   unfold execOp
   simp only [resolve, e1]
   rfl
  ·exact base hs
def isPan : Op → Bool
 | .panic _ => true
 | .call c => match c.callee with
  | .builtin .panic | .invoke _ _ => true
  | _ => false
 | _ => false
def vseqP (P : Program) (pc : PCall) (ops : Array Oper) (n : Nat) : List Oper → AS → (AS → Prop) → (Value → AS → Prop) → Prop
 | [], st, K, _ => K st
 | o :: l, st, K, X => vguard ops st.tm o
   (bif isHeavy o.op || isPan o.op then pheavy P pc st.hp st.nx o (aev st.tm) fun r hp' nx' => match r with
     | .ret v => vsplit v fun v => match aput n st.tm o.dst v with
      | some tm' => vseqP P pc ops n l ⟨tm', hp', nx'⟩ K X
      | none => False
     | .pan v => X v ⟨st.tm, hp', nx'⟩
    else match slight P st.hp o (aev st.tm) with
     | some (.val v, ob) => ob ∧ vsplit v fun v => match aput n st.tm o.dst v with
      | some tm' => vseqP P pc ops n l ⟨tm', st.hp, st.nx⟩ K X
      | none => False
     | some (.new b nv, ob) => match aput n st.tm o.dst (nv.val st.nx) with
      | some tm' => ob ∧ vseqP P pc ops n l ⟨tm', st.hp.put st.nx (some b), st.nx + 1⟩ K X
      | none => False
     | none => False)
   (match aput n st.tm o.dst undef with
    | some tm' => vseqP P pc ops n l ⟨tm', st.hp, st.nx⟩ K X
    | none => False)
theorem vseqP_sound {P : Program} {pc : PCall} {W : Base} (hcall : PCallOk P pc) {ops : Array Oper} {n : Nat} {Q : Exit → Act → World → Prop} : ∀ (l : List Oper) (k : Nat) (st : AS) (K : AS → Prop) (X : Value → AS → Prop) (ρ : Place) (a : Act) (w : World), ops.toList.drop k = l →
  SRel ρ W n st a w → vseqP P pc ops n l st K X → (∀ st', K st' → ∀ a' w' ρ', SRel ρ' W n st' a' w' → Step ρ ρ' st.hp st'.hp st.nx st'.nx → Q .normal a' w') →
  (∀ v st', X v st' → ∀ v' a' w' ρ', VR ρ' v v' → SRel ρ' W n st' a' w' → Step ρ ρ' st.hp st'.hp st.nx st'.nx → Q (.panic [{ v := v', recovered := false }]) a' w') → wpOps P ops Q (List.range' k l.length) a w
 | [], k, st, K, X, ρ, a, w, _, h, hs, hk, _ => by
  simp only [vseqP] at hs
  exact hk st hs a w ρ h (.refl _ _ _)
 | o :: l, k, st, K, X, ρ, a, w, hd, h, hs, hk, hx => by
  simp only [vseqP] at hs
  have hi : ops[k]? = some o := by
   have : (ops.toList.drop k)[0]? = some o := by rw [hd]; rfl
   rw [List.getElem?_drop] at this
   simpa using this
  have next : ∀ (st1 : AS) (a1 : Act) (w1 : World) (ρ1 : Place), SRel ρ1 W n st1 a1 w1 → Step ρ ρ1 st.hp st1.hp st.nx st1.nx → vseqP P pc ops n l st1 K X → wpOps P ops Q (List.range' (k + 1) l.length) a1 w1 :=
   fun st1 a1 w1 ρ1 hr hst hv => vseqP_sound hcall l (k + 1) st1 K X ρ1 a1 w1 (by rw [← List.drop_drop, hd]; rfl) hr hv (fun st' hK a' w' ρ' g1 g2 => hk st' hK a' w' ρ' g1 (hst.trans g2)) (fun v st' hX v' a' w' ρ' g0 g1 g2 => hx v st' hX v' a' w' ρ' g0 g1 (hst.trans g2))
  rw [List.length_cons, List.range'_succ, wpOps_cons]
  unfold wpOp
  simp only [hi]
  rcases vguard_cases hs with ⟨hw, hs⟩ | ⟨hw, hs⟩
  ·rw [awanted_sound h.frame hw, if_pos rfl]
   refine .inl ?_
   cases hh : isHeavy o.op || isPan o.op with
   | true =>
    rw [hh, cond_true] at hs
    refine pheavy_sound hcall h.rel h.frame.ev hs (fun v hp' nx' v' w' ρ' hK q1 q2 q3 => ?_) (fun v hp' nx' v' w' ρ' hK q1 q2 q3 => ?_)
    ·dsimp only at hK
     replace hK := vsplit_ap hK
     split at hK
     case h_2 => exact hK.elim
     rename_i tm' ht
     exact next ⟨tm', hp', nx'⟩ _ _ ρ' ⟨q2, aput_sound (h.frame.mono q3.le) ht q1⟩ q3 hK
    ·exact hx v _ hK v' a w' ρ' q1 ⟨q2, h.frame.mono q3.le⟩ q3
   | false =>
    rw [hh, cond_false] at hs
    split at hs
    ·rename_i v ob hv
     obtain ⟨hob, hs⟩ := hs
     replace hs := vsplit_ap hs
     split at hs
     case h_2 => exact hs.elim
     rename_i tm' ht
     obtain ⟨v', h1, h2⟩ := slight_sound (r := .val v) h.rel h.frame.ev hv hob
     unfold Oper.wp
     rw [h1]
     exact next ⟨tm', st.hp, st.nx⟩ _ _ ρ ⟨h.rel, aput_sound h.frame ht h2⟩ (.refl _ _ _) hs
    ·rename_i ob nv obp hv
     split at hs
     case h_2 => exact hs.elim
     rename_i tm' ht
     obtain ⟨v', ob', d, z, h1, h2, h3⟩ := slight_sound (r := .new ob nv) h.rel h.frame.ev hv hs.1
     unfold Oper.wp
     rw [h1]
     have hrel := ((h.rel.at_drawn d).reserve ob).realize (b := st.nx) (z := z) (ob := ob') (by omega) h.rel.dom_none (by rw [Tr.get_put, if_pos rfl]) (h2 _ h.rel.below.fresh)
     have hle := Place.le_set (x := (w.heap.size, 0, z)) h.rel.dom_none
     exact next ⟨tm', st.hp.put st.nx (some ob), st.nx + 1⟩ _ _ _ ⟨hrel, aput_sound (h.frame.mono hle) ht (h3 _ _ (Place.set_same ρ st.nx _))⟩ ⟨hle, Nat.le_succ _, fun b hb hr => ⟨by rw [Place.set_other (by omega)]; exact hr, by show (st.hp.put st.nx (some ob)).get b = _; rw [Tr.get_put, if_neg (by omega)]⟩⟩ hs.2
    ·exact hs.elim
  ·rw [awanted_sound h.frame hw, if_neg (by simp)]
   split at hs
   case h_2 => exact hs.elim
   rename_i tm' ht
   exact next ⟨tm', st.hp, st.nx⟩ _ _ ρ ⟨h.rel, aput_sound h.frame ht (closed_refl (by simp [undef, closed]))⟩ (.refl _ _ _) hs
theorem pheavy_congr {P : Program} {pc : PCall} {hp : Tr AObj} {nx : Nat} {o : Oper} {ev ev' : Operand → Option Value} {K : Out → Tr AObj → Nat → Prop} (h : ∀ x ∈ o.op.operands, ev x = ev' x) : pheavy P pc hp nx o ev K = pheavy P pc hp nx o ev' K := by
 have hb : (vheavy P (toV pc) hp nx o ev fun v _ hp' nx' => K (.ret v) hp' nx') = (vheavy P (toV pc) hp nx o ev' fun v _ hp' nx' => K (.ret v) hp' nx') := vheavy_congr h
 obtain ⟨dst, op, type, pos, after, guard⟩ := o
 unfold pheavy
 cases op <;> dsimp only <;> try exact hb
 case panic x => rw [h x (by simp [Op.operands])]
 case call c =>
  obtain ⟨callee, args, argTypes⟩ := c
  dsimp only
  have hA : evL ev args.toList = evL ev' args.toList := evL_congr fun x hx => h x (by simp [Op.operands, Call.operands]; exact .inr (by simpa using hx))
  split
  ·rename_i f
   rw [hA, h f (by simp [Op.operands, Call.operands])]
  ·rename_i x name
   rw [hA, h x (by simp [Op.operands, Call.operands])]
  ·split
   ·rename_i x hargs
    rw [h x (by
     have : x ∈ args := by (have : x ∈ args.toList := by rw [hargs]; simp); simpa using this
     simp [Op.operands, Call.operands, this])]
   ·rfl
  ·exact hb
def vdrawP (P : Program) (pc : PCall) (ops : Array Oper) (n : Nat) : Nat → Array Bool → AS → List Rd → (AS → Prop) → (Value → AS → Prop) → Prop
 | 0, listed, st, _, K, _ => match Region.ready .any ops listed with
  | [] => K st
  | _ => False
 | f + 1, listed, st, rds, K, X => match Region.ready .any ops listed with
  | [] => K st
  | r :: rs => match (r :: rs).find? (lightIdx ops) with
   | some i => match ops[i]? with
    | some o => vguard ops st.tm o
      (match slight P st.hp o (aev st.tm) with
      | some (.val v, ob) => ob ∧ vsplit v fun v => match aput n st.tm o.dst v with
       | some tm' => vdrawP P pc ops n f (listed.setIfInBounds i true) ⟨tm', st.hp, st.nx⟩ (bif isRead o (aev st.tm) then ⟨i, o, st.tm, v⟩ :: rds else rds) K X
       | none => False
      | some (.new b nv, ob) => match aput n st.tm o.dst (nv.val st.nx) with
       | some tm' => bif isRead o (aev st.tm) then False else ob ∧ vdrawP P pc ops n f (listed.setIfInBounds i true) ⟨tm', st.hp.put st.nx (some b), st.nx + 1⟩ rds K X
       | none => False
      | none => False)
      (match aput n st.tm o.dst undef with
      | some tm' => vdrawP P pc ops n f (listed.setIfInBounds i true) ⟨tm', st.hp, st.nx⟩ rds K X
      | none => False)
    | none => False
   | none => match rs with
    | [] => match ops[r]? with
     | some o => vguard ops st.tm o
       (pheavy P pc st.hp st.nx o (aev st.tm) fun res hp' nx' => match res with
        | .ret v => vsplit v fun v => match aput n st.tm o.dst v with
         | some tm' => vstab P hp' ops r rds ∧ vdrawP P pc ops n f (listed.setIfInBounds r true) ⟨tm', hp', nx'⟩ rds K X
         | none => False
        | .pan v => X v ⟨.e, hp', nx'⟩)
       (match aput n st.tm o.dst undef with
       | some tm' => vdrawP P pc ops n f (listed.setIfInBounds r true) ⟨tm', st.hp, st.nx⟩ rds K X
       | none => False)
     | none => False
    | _ => False
section
variable {P : Program} {W : Base} {ops : Array Oper} {n : Nat} {st0 : AS} {ρ0 : Place} {Q : Exit → Act → World → Prop}
theorem vdrawP_main {pc : PCall} (hcall : PCallOk P pc) (hD : drawOk ops = true) {K : AS → Prop} {X : Value → AS → Prop} (hQ : ∀ st, K st → ∀ a' w' ρ', SRel ρ' W n st a' w' → Step ρ0 ρ' st0.hp st.hp st0.nx st.nx → Q .normal a' w')
  (hX : ∀ v st, X v st → ∀ v' a' w' ρ', VR ρ' v v' → SRel ρ' W n st a' w' → Step ρ0 ρ' st0.hp st.hp st0.nx st.nx → Q (.panic [{ v := v', recovered := false }]) a' w') :
  ∀ (m f : Nat) (C : Array Bool) (st : AS) (rds : List Rd) (I : Info) (L : Array Bool) (a : Act) (w : World) (ρ : Place), unl ops L ≤ m → Inv P W ops n st0 ρ0 C st rds I L a w ρ → vdrawP P pc ops n f C st rds K X → wpAny P .any ops Q m L a w := by
 intro m
 induction m with
 | zero =>
  intro f C st rds I L a w ρ hm h hs
  have hr : Region.ready .any ops L = [] := by
   have hnil : ((List.range ops.size).filter fun i => !L.getD i true) = [] := List.eq_nil_of_length_eq_zero (Nat.le_zero.1 hm)
   apply List.eq_nil_iff_forall_not_mem.2
   intro j hj
   obtain ⟨h1, o, h2, h3⟩ := mem_ready.1 hj
   have : j ∈ ((List.range ops.size).filter fun i => !L.getD i true) := by
    simp only [List.mem_filter, List.mem_range]
    exact ⟨(Array.getElem?_eq_some_iff.1 h2).1, by rw [h1]; rfl⟩
   rw [hnil] at this
   cases this
  have hall := h.all hD hr
  have hallI : ∀ i, i < ops.size → In L i := fun i hi => Classical.byContradiction fun hn => by
   have : i ∈ ((List.range ops.size).filter fun i => !L.getD i true) := by
    simp only [List.mem_filter, List.mem_range]
    exact ⟨hi, by rw [unlisted_of (by rw [h.ls]; exact hi) hn]; rfl⟩
   rw [List.eq_nil_of_length_eq_zero (Nat.le_zero.1 hm)] at this
   cases this
  have hrC : Region.ready .any ops C = [] := by
   apply List.eq_nil_iff_forall_not_mem.2
   intro j hj
   obtain ⟨h1, o, h2, h3⟩ := mem_ready.1 hj
   exact (unlisted h1).2 (h.sub j (hallI j (Array.getElem?_eq_some_iff.1 h2).1))
  have hst : K st := by
   cases f with
   | zero => simp only [vdrawP, hrC] at hs; exact hs
   | succ f => simp only [vdrawP, hrC] at hs; exact hs
  exact ⟨hr, hQ st hst a w ρ (h.done hall) h.step⟩
 | succ m ihm =>
  intro f
  induction f with
  | zero =>
   intro C st rds I L a w ρ hm h hs
   have hs0 := hs
   simp only [vdrawP] at hs
   split at hs
   case h_2 => exact hs.elim
   rename_i hrC
   refine ⟨fun hr => hQ st hs a w ρ (h.done (h.all hD hr)) h.step, fun j hj => ?_⟩
   obtain ⟨h1, h2, h3, o, h4, h5⟩ := ready_in h.cs h.sub hj
   rw [hrC] at h1
   have hjC := h1.resolve_right (by simp)
   refine wpOp_mono ?_ (h.run hD h4 hjC h2 h5)
   rintro a' w' ⟨ρ', h'⟩
   refine ihm 0 C _ rds I _ a' w' ρ' ?_ h' hs0
   have := unl_set (ops := ops) (L := L) h3 h.ls (mem_ready.1 hj).1
   omega
  | succ f ihf =>
   intro C st rds I L a w ρ hm h hs
   have pending : ∀ j, j ∈ Region.ready .any ops L → In C j → ∀ o, ops[j]? = some o → (∀ e ∈ o.after, Region.binds .any e = true → In L e.on) → wpOp P ops Q j (wpAny P .any ops Q m (L.setIfInBounds j true)) a w := by
    intro j hj hjC o ho hall
    refine wpOp_mono ?_ (h.run hD ho hjC (unlisted (mem_ready.1 hj).1).2 hall)
    rintro a' w' ⟨ρ', h'⟩
    refine ihm (f + 1) C st rds I _ a' w' ρ' ?_ h' hs
    have := unl_set (ops := ops) (L := L) (Array.getElem?_eq_some_iff.1 ho).1 h.ls (mem_ready.1 hj).1
    omega
   have hs0 := hs
   simp only [vdrawP] at hs
   split at hs
   ·rename_i hrC
    refine ⟨fun hr => hQ st hs a w ρ (h.done (h.all hD hr)) h.step, fun j hj => ?_⟩
    obtain ⟨h1, h2, h3, o, h4, h5⟩ := ready_in h.cs h.sub hj
    rw [hrC] at h1
    exact pending j hj (h1.resolve_right (by simp)) o h4 h5
   ·rename_i r rs hrC
    split at hs
    ·rename_i i hf
     have him : i ∈ Region.ready .any ops C := by rw [hrC]; exact List.mem_of_find?_eq_some hf
     have hil := List.find?_some hf
     obtain ⟨g1, o, g2, g3⟩ := mem_ready.1 him
     have hnC := (unlisted g1).2
     have hh : isHeavy o.op = false := by
      unfold lightIdx at hil
      rw [g2] at hil
      simpa using hil
     rw [g2] at hs
     dsimp only at hs
     rcases vguard_cases hs with ⟨hw, hs⟩ | ⟨hw, hs⟩
     ·split at hs
      ·rename_i v ob hv
       obtain ⟨hob, hs⟩ := hs
       replace hs := vsplit_ap hs
       split at hs
       case h_2 => exact hs.elim
       rename_i tm' ht
       refine ihf _ ⟨tm', st.hp, st.nx⟩ _ (I.set i st.tm v none) L a w ρ hm (h.absorb hD g2 hnC g3 hh (st' := ⟨tm', st.hp, st.nx⟩) (v := v) (B := none) ht h.rel (fun _ _ h => h) (Nat.le_refl _) h.step (fun b hb => by cases hb) (fun I' e1 e2 e3 => .inr (.inl ⟨by rw [e1]; exact hw, .inr ⟨ob, by rw [e1, e2]; exact hv, hob⟩, e3⟩)) ?_ ?_) hs
       ·intro x hx
        cases isRead o (aev st.tm) <;> simp [hx]
       ·intro _ hrd
        rw [hrd]
        simp
      ·rename_i ob nv obp hv
       split at hs
       case h_2 => exact hs.elim
       rename_i tm' ht
       cases hrd : isRead o (aev st.tm) with
       | true => rw [hrd] at hs; exact hs.elim
       | false =>
        rw [hrd, cond_false] at hs
        obtain ⟨hob, hs⟩ := hs
        refine ihf _ ⟨tm', st.hp.put st.nx (some ob), st.nx + 1⟩ _ (I.set i st.tm (nv.val st.nx) (some st.nx)) L a w ρ hm (h.absorb hD g2 hnC g3 hh (st' := ⟨tm', st.hp.put st.nx (some ob), st.nx + 1⟩) (v := nv.val st.nx) (B := some st.nx) ht (h.rel.reserve ob) ?_ (Nat.le_succ _) ?_ (fun b hb => by cases hb; exact Nat.le_refl _) (fun I' e1 e2 e3 => ?_) (fun _ h => h) (fun _ h' => by rw [hrd] at h'; cases h')) hs
        ·intro b x hb
         have : b ≠ st.nx := fun e => by rw [e, h.rel.fresh _ (Nat.le_refl _)] at hb; cases hb
         rw [Tr.get_put, if_neg this]
         exact hb
        ·exact ⟨h.step.le, Nat.le_succ_of_le h.step.more, fun b hb hr => by
          have := h.step.old b hb hr
          refine ⟨this.1, ?_⟩
          rw [Tr.get_put, if_neg (by have := h.step.more; omega)]
          exact this.2⟩
        ·refine .inr (.inr ⟨by rw [e1]; exact hw, by rw [e1]; exact hrd, ob, nv, st.nx, ?_, e2, e3, by simp, h.step.more, h.rel.dom_none, by rw [Tr.get_put, if_pos rfl]⟩)
         rw [e1]
         exact LOk.still (hp := st.hp) hrd (.inr ⟨obp, hv, hob⟩)
      ·exact hs.elim
     ·split at hs
      case h_2 => exact hs.elim
      rename_i tm' ht
      exact ihf _ ⟨tm', st.hp, st.nx⟩ _ (I.set i st.tm undef none) L a w ρ hm (h.absorb hD g2 hnC g3 hh (st' := ⟨tm', st.hp, st.nx⟩) (v := undef) (B := none) ht h.rel (fun _ _ h => h) (Nat.le_refl _) h.step (fun b hb => by cases hb) (fun I' e1 e2 e3 => .inl ⟨by rw [e1]; exact hw, e2, e3⟩) (fun _ h => h) (fun h' => by rw [hw] at h'; cases h')) hs
    ·split at hs
     case h_2 => exact hs.elim
     split at hs
     case h_2 => exact hs.elim
     rename_i o ho
     have hrm : r ∈ Region.ready .any ops C := by rw [hrC]; simp
     obtain ⟨g1, o', g2, g3⟩ := mem_ready.1 hrm
     rw [ho] at g2
     cases g2
     have hnC := (unlisted g1).2
     refine ⟨fun hr => ?_, fun j hj => ?_⟩
     ·exfalso
      have hall := h.all hD hr
      have : r ∈ Region.ready .any ops L := mem_ready.2 ⟨unlisted_of (by rw [h.ls]; exact (Array.getElem?_eq_some_iff.1 ho).1) (fun h' => hnC (h.sub r h')), o, ho, fun e he hb => hall _ (g3 e he hb)⟩
      rw [hr] at this
      cases this
     ·obtain ⟨h1, h2, h3, oj, h4, h5⟩ := ready_in h.cs h.sub hj
      rcases h1 with h1 | h1
      ·exact pending j hj h1 oj h4 h5
      ·rw [hrC] at h1
       have hjr : j = r := by simpa using h1
       subst hjr
       rw [ho] at h4
       cases h4
       have hlk := h.heavyLook hD ho hnC g3 h5
       obtain ⟨ev', he1, he2⟩ := erel_of_looks hlk
       have fin : ∀ (st' : AS) (a' : Act) (w' : World), (∃ ρ' I', Inv P W ops n st0 ρ0 (C.setIfInBounds j true) st' rds I' (L.setIfInBounds j true) a' w' ρ') → vdrawP P pc ops n f (C.setIfInBounds j true) st' rds K X → wpAny P .any ops Q m (L.setIfInBounds j true) a' w' := by
        rintro st' a' w' ⟨ρ', I', h'⟩ hs'
        refine ihm f _ st' rds I' _ a' w' ρ' ?_ h' hs'
        have := unl_set (ops := ops) (L := L) h3 h.ls (mem_ready.1 hj).1
        omega
       unfold wpOp
       simp only [ho]
       rcases vguard_cases hs with ⟨hw, hs⟩ | ⟨hw, hs⟩
       ·rw [awanted_sound' h.size hlk hw, if_pos rfl]
        rw [pheavy_congr he2] at hs
        refine .inl (pheavy_sound hcall h.rel he1 hs (fun v hp' nx' v' w' ρ' hK q1 q2 q3 => ?_) (fun v hp' nx' v' w' ρ' hK q1 q2 q3 => ?_))
        ·dsimp only at hK
         replace hK := vsplit_ap hK
         split at hK
         case h_2 => exact hK.elim
         rename_i tm' ht
         exact fin ⟨tm', hp', nx'⟩ _ _ (h.heavyFin hD ho hnC g3 h5 (st' := ⟨tm', hp', nx'⟩) (.inr (vstab_ok hK.1)) v v' w' ρ' ht q1 q2 q3) hK.2
        ·exact hX v ⟨.e, hp', nx'⟩ hK v' a w' ρ' q1 ⟨q2, ⟨h.size, h.defers, fun t u hu => by cases hu⟩⟩ (h.step.trans q3)
       ·rw [awanted_sound' h.size hlk hw, if_neg (by simp)]
        split at hs
        case h_2 => exact hs.elim
        rename_i tm' ht
        exact fin ⟨tm', st.hp, st.nx⟩ _ _ (h.heavyFin hD ho hnC g3 h5 (st' := ⟨tm', st.hp, st.nx⟩) (.inl rfl) undef undef w ρ ht (closed_refl (by simp [undef, closed])) h.rel (.refl _ _ _)) hs
end
def vregionP (P : Program) (pc : PCall) (n : Nat) (ops : Array Oper) (draw : Bool) (st : AS) (K : AS → Prop) (X : Value → AS → Prop) : Prop :=
 bif draw then (bif drawOk ops then vdrawP P pc ops n ops.size (Array.replicate ops.size false) st [] K X else False) else vseqP P pc ops n ops.toList st K X
theorem vregionP_sound {P : Program} {pc : PCall} {W : Base} (hcall : PCallOk P pc) (hm : P.follows .mixedOrders = true) {ops : Array Oper} {draw : Bool} {id n : Nat} {Q : Exit → Act → World → Prop} {st : AS} {K : AS → Prop} {X : Value → AS → Prop} {ρ : Place} {a : Act} {w : World} (h : SRel ρ W n st a w)
  (hs : vregionP P pc n ops draw st K X) (hk : ∀ st', K st' → ∀ a' w' ρ', SRel ρ' W n st' a' w' → Step ρ ρ' st.hp st'.hp st.nx st'.nx → Q .normal a' w')
  (hx : ∀ v st', X v st' → ∀ v' a' w' ρ', VR ρ' v v' → SRel ρ' W n st' a' w' → Step ρ ρ' st.hp st'.hp st.nx st'.nx → Q (.panic [{ v := v', recovered := false }]) a' w') : (Code.region id ops draw).wp P Q a w := by
 unfold vregionP at hs
 cases draw with
 | true =>
  rw [cond_true] at hs
  cases hD : drawOk ops with
  | false => rw [hD] at hs; exact hs.elim
  | true =>
   rw [hD, cond_true] at hs
   refine wp_region_any hm ?_
   have hnot : ∀ i, ¬ In (Array.replicate ops.size false) i := fun i hi => by
    have := lt_of_in (ops := ops) (by simp) hi
    simp [In, this] at hi
   refine vdrawP_main hcall hD hk hx ops.size ops.size _ st [] ⟨fun _ => .e, fun _ => undef, fun _ => none⟩ _ a _ ρ ?_ ⟨by simp, by simp, fun i hi => (hnot i hi).elim, fun i hi => (hnot i hi).elim, fun i hi => hi, fun j o t hj => (hnot j hj).elim, fun t _ => rfl, h.rel.drew, h.frame.size, h.frame.defers, fun j o t hj => (hnot j hj).elim, fun t v _ hv => h.frame.slot t v hv, fun j o hj => (hnot j hj).elim, fun j k b hj => (hnot j hj).elim, .refl _ _ _, fun j o hj => (hnot j hj).elim⟩ hs
   unfold unl
   exact Nat.le_trans (List.length_filter_le _ _) (by simp)
 | false =>
  rw [cond_false] at hs
  refine wp_region ?_
  rw [List.range_eq_range']
  have := vseqP_sound hcall (Q := Q) ops.toList 0 st K X ρ a w (by simp) h hs hk hx
  simpa using this
def vrunP (P : Program) (pc : PCall) (n : Nat) (lt : List (Nat × List Nat)) (base : List Bool) (H : Code → List Fr → AS → Prop) (Fin : AS → Prop) (X : Value → AS → Prop) : Nat → VM → List Fr → AS → Prop
 | 0, _, _, _ => False
 | f + 1, .normal, k, st => match k with
  | [] => Fin st
  | .seq y :: k' => vrunP P pc n lt base H Fin X f (.code y) k' st
  | .block _ :: k' => vrunP P pc n lt base H Fin X f .normal k' st
  | .loop b :: k' => match slotsOf (rid b) lt with
   | some _ => vloop lt base H b k' st
   | none => vrunP P pc n lt base H Fin X f (.code b) (.loop b :: k') st
 | f + 1, .exit id, k, st => match k with
  | [] => False
  | .block j :: k' => bif id.beq j then vrunP P pc n lt base H Fin X f .normal k' st else vrunP P pc n lt base H Fin X f (.exit id) k' st
  | _ :: k' => vrunP P pc n lt base H Fin X f (.exit id) k' st
 | _ + 1, .ret, _, st => Fin st
 | f + 1, .code c, k, st => match c with
  | .skip | .label _ => vrunP P pc n lt base H Fin X f .normal k st
  | .region _ ops draw => vregionP P pc n ops draw st (fun st' => vrunP P pc n lt base H Fin X f .normal k st') X
  | .seq x y => vrunP P pc n lt base H Fin X f (.code x) (.seq y :: k) st
  | .cond c x y => match aev st.tm c with
   | some (.bool b) => pIf b (vrunP P pc n lt base H Fin X f (.code x) k st) (vrunP P pc n lt base H Fin X f (.code y) k st)
   | _ => False
  | .block id b => vrunP P pc n lt base H Fin X f (.code b) (.block id :: k) st
  | .loop b => match slotsOf (rid b) lt with
   | some _ => vloop lt base H b k st
   | none => vrunP P pc n lt base H Fin X f (.code b) (.loop b :: k) st
  | .exit id => vrunP P pc n lt base H Fin X f (.exit id) k st
  | .ret => vrunP P pc n lt base H Fin X f .ret k st
  | _ => False
theorem contQ_panic {P : Program} {Q : Exit → Act → World → Prop} {a : Act} {w : World} {ch : List PanicEntry} {k : List Fr} (h : Q (.panic ch) a w) : contQ P Q k (.panic ch) a w := by
 induction k with
 | nil => exact h
 | cons x k ih => cases x <;> exact ih
section
variable {P : Program} {pc : PCall} {W : Base} {n : Nat} {lt : List (Nat × List Nat)} {base : List Bool} {H : Code → List Fr → AS → Prop} {Fin : AS → Prop} {X : Value → AS → Prop} {R : Place → AS → Prop} {Q : Exit → Act → World → Prop}
theorem vrunP_sound (hcall : PCallOk P pc) (hm : P.follows .mixedOrders = true)
  (hR : ∀ ρ st ρ' st', R ρ st → Step ρ ρ' st.hp st'.hp st.nx st'.nx → R ρ' st')
  (hH : ∀ b k st, vloop lt base H b k st → ∀ ρ a w, SRel ρ W n st a w → R ρ st → LoopWp P b (contQ P Q k) a w)
  (hF : ∀ st, Fin st → ∀ ρ a w, SRel ρ W n st a w → R ρ st → Q .normal a w ∧ Q .ret a w)
  (hX : ∀ v st, X v st → ∀ ρ v' a w, VR ρ v v' → SRel ρ W n st a w → R ρ st → Q (.panic [{ v := v', recovered := false }]) a w) :
  ∀ (f : Nat) (m : VM) (k : List Fr) (st : AS), vrunP P pc n lt base H Fin X f m k st → ∀ ρ a w, SRel ρ W n st a w → R ρ st → (match m with
   | .code c => c.wp P (contQ P Q k) a w
   | .normal => contQ P Q k .normal a w
   | .exit id => contQ P Q k (.exit id) a w
   | .ret => contQ P Q k .ret a w) := by
 intro f
 induction f with
 | zero => intro m k st h; simp only [vrunP] at h
 | succ f ih =>
  intro m k st h ρ a w hs hr
  cases m with
  | normal =>
   simp only [vrunP] at h
   dsimp only
   cases k with
   | nil => exact (hF st h ρ a w hs hr).1
   | cons x k =>
    cases x with
    | seq y => exact ih (.code y) k st h ρ a w hs hr
    | block id => exact ih .normal k st h ρ a w hs hr
    | loop b =>
     dsimp only at h
     split at h
     ·exact hH b k st h ρ a w hs hr
     ·exact loop_round (ih (.code b) (.loop b :: k) st h ρ a w hs hr)
  | exit id =>
   simp only [vrunP] at h
   dsimp only
   cases k with
   | nil => exact h.elim
   | cons x k =>
    cases x with
    | seq y => exact ih (.exit id) k st h ρ a w hs hr
    | block j =>
     show Exit.inBlock j (contQ P Q k) (.exit id) a w
     simp only [Exit.inBlock]
     dsimp only at h
     cases hj : id.beq j with
     | true =>
      rw [hj] at h
      rw [if_pos (Nat.eq_of_beq_eq_true hj)]
      exact ih .normal k st h ρ a w hs hr
     | false =>
      rw [hj] at h
      rw [if_neg (fun e => by subst e; simp at hj)]
      exact ih (.exit id) k st h ρ a w hs hr
    | loop b => exact ih (.exit id) k st h ρ a w hs hr
  | ret =>
   simp only [vrunP] at h
   exact contQ_ret (hF st h ρ a w hs hr).2
  | code c =>
   simp only [vrunP] at h
   dsimp only
   cases c with
   | skip => exact wp_skip (ih .normal k st h ρ a w hs hr)
   | label l => exact wp_label (ih .normal k st h ρ a w hs hr)
   | region id ops draw => exact vregionP_sound hcall hm hs h (fun st' hK a' w' ρ' g1 g2 => ih .normal k st' hK ρ' a' w' g1 (hR _ _ _ _ hr g2)) (fun v st' hK v' a' w' ρ' g0 g1 g2 => contQ_panic (hX v st' hK ρ' v' a' w' g0 g1 (hR _ _ _ _ hr g2)))
   | seq x y => exact wp_seq (ih (.code x) (.seq y :: k) st h ρ a w hs hr)
   | cond c x y =>
    dsimp only at h
    split at h
    ·rename_i b hc
     have := hs.frame.eval hc
     cases b with
     | true =>
      refine wp_cond_true (c := c) ?_ (ih (.code x) k st h ρ a w hs hr)
      generalize a.eval c = z at this
      cases this
      rfl
     | false =>
      refine wp_cond_false (c := c) ?_ (ih (.code y) k st h ρ a w hs hr)
      generalize a.eval c = z at this
      cases this
      rfl
    ·exact h.elim
   | block id b => exact wp_block (ih (.code b) (.block id :: k) st h ρ a w hs hr)
   | loop b =>
    dsimp only at h
    split at h
    ·exact loop_of (hH b k st h ρ a w hs hr)
    ·exact loop_of (loop_round (ih (.code b) (.loop b :: k) st h ρ a w hs hr))
   | exit id => exact wp_exit (ih (.exit id) k st h ρ a w hs hr)
   | ret => exact wp_ret (ih .ret k st h ρ a w hs hr)
   | goto l => exact h.elim
   | refuse y => exact h.elim
   | scope b => exact h.elim
   | rangeFunc f ps x y => exact h.elim
end
abbrev PX : Type := Out → List (List Value) → Prop
end Go.Proofs.YtegjnjmimfgijaaGreatDoor

noncomputable section
namespace Go.Proofs.YtegjnjmimfgijaaGreatDoor
open Go Go.RowKit
set_option maxRecDepth 100000
set_option maxHeartbeats 8000000
def GoodX (P : Program) (n : Nat) (base : List Bool) (Fin : AS → Prop) (X : Value → AS → Prop) (b : Code) (k : List Fr) (st : AS) : Prop :=
 ∀ (W : Base) (ρ0 : Place) (Q : Exit → Act → World → Prop), (∀ st, Fin st → ∀ ρ a w, SRel ρ W n st a w → StepG base.length ρ0 ρ → Q .normal a w ∧ Q .ret a w) →
  (∀ v st, X v st → ∀ ρ v' a w, VR ρ v v' → SRel ρ W n st a w → StepG base.length ρ0 ρ → Q (.panic [{ v := v', recovered := false }]) a w) →
  ∀ ρ a w, SRel ρ W n st a w → StepG base.length ρ0 ρ → LoopWp P b (contQ P Q k) a w
theorem goodX_vloop {P : Program} {n : Nat} {lt : List (Nat × List Nat)} {base : List Bool} {Fin : AS → Prop} {X : Value → AS → Prop} {b : Code} {k : List Fr} {st : AS} (h : vloop lt base (GoodX P n base Fin X) b k st) : GoodX P n base Fin X b k st := by
 unfold vloop at h
 split at h
 case h_2 => exact h.elim
 split at h
 case h_2 => exact h.elim
 rename_i st0 ob0 hz
 split at h
 case h_2 => exact h.elim
 rename_i st' ob hc
 intro W ρ0 Q hF hX ρ a w hs hr
 obtain ⟨ρ1, f1, f2⟩ := frzTms_sound hs hz h.1
 obtain ⟨ρ', g1, g2, g3⟩ := canon_sound f1 hc h.2.1
 exact h.2.2 W ρ0 Q hF hX ρ' a w g1 ⟨fun b x hb hx => by rw [g3 b hb]; exact f2.1 b x (hr.1 b x hb hx), fun c x hx => by rw [g2]; exact f2.2 c x (hr.2 c x hx)⟩
theorem goodX_round {P : Program} {pc : PCall} (hcall : PCallOk P pc) (hm : P.follows .mixedOrders = true) {n : Nat} {lt : List (Nat × List Nat)} {base : List Bool} {Fin : AS → Prop} {X : Value → AS → Prop} {b : Code} {k : List Fr} {st : AS} (f : Nat)
  (h : vrunP P pc n lt base (GoodX P n base Fin X) Fin X f (.code b) (.loop b :: k) st) : GoodX P n base Fin X b k st := by
 intro W ρ0 Q hF hX ρ a w hs hr
 refine loop_round ?_
 exact vrunP_sound (R := fun ρ _ => StepG base.length ρ0 ρ) hcall hm (fun ρ st ρ' st' h k => h.step k) (fun b k st h ρ a w hs hr => goodX_vloop h W ρ0 Q hF hX ρ a w hs hr) hF hX f (.code b) (.loop b :: k) st h ρ a w hs hr
def frzRow (N : Nat) : List Value → Tr AObj → Option (List Value × Tr AObj × Prop)
 | [], hp => some ([], hp, True)
 | v :: l, hp => match frzS N hp v with
  | some (u, hp1, o1) => match frzRow N l hp1 with
   | some (us, hp2, o2) => some (u :: us, hp2, o1 ∧ o2)
   | none => none
  | none => none
theorem frzS_get {N : Nat} {hp hp' : Tr AObj} {v u : Value} {ob : Prop} (h : frzS N hp v = some (u, hp', ob)) {i : Nat} (hi : i < N) : hp'.get i = hp.get i := by
 unfold frzS at h
 split at h
 ·rename_i b o n sz
  split at h
  case h_2 => cases h
  cases hb : N.ble b with
  | false => rw [hb] at h; cases h
  | true =>
   rw [hb] at h
   cases h
   have := Nat.le_of_ble_eq_true hb
   rw [Tr.get_put, if_neg (by omega)]
 ·cases h; rfl
theorem frzRow_get {N : Nat} {i : Nat} (hi : i < N) : ∀ {l us : List Value} {hp hp' : Tr AObj} {ob : Prop}, frzRow N l hp = some (us, hp', ob) → hp'.get i = hp.get i
 | [], us, hp, hp', ob, h => by simp only [frzRow] at h; cases h; rfl
 | v :: l, us, hp, hp', ob, h => by
  simp only [frzRow] at h
  split at h
  case h_2 => cases h
  rename_i u hp1 o1 h1
  split at h
  case h_2 => cases h
  rename_i us0 hp2 o2 h2
  cases h
  rw [frzRow_get hi h2, frzS_get h1 hi]
theorem frzRow_len {N : Nat} : ∀ {l us : List Value} {hp hp' : Tr AObj} {ob : Prop}, frzRow N l hp = some (us, hp', ob) → us.length = l.length
 | [], us, hp, hp', ob, h => by simp only [frzRow] at h; cases h; rfl
 | v :: l, us, hp, hp', ob, h => by
  simp only [frzRow] at h
  split at h
  case h_2 => cases h
  rename_i u hp1 o1 h1
  split at h
  case h_2 => cases h
  rename_i us0 hp2 o2 h2
  cases h
  exact congrArg (· + 1) (frzRow_len h2)
theorem frzRow_sound {N : Nat} {W : Base} {nx : Nat} {w : World} : ∀ {l l' us : List Value} {ρ : Place} {hp hp' : Tr AObj} {ob : Prop}, Rel ρ W hp nx w → VRL ρ l l' → frzRow N l hp = some (us, hp', ob) → ob →
  ∃ ρ', Rel ρ' W hp' nx w ∧ ρ.le ρ' ∧ VRL ρ' us l'
 | [], l', us, ρ, hp, hp', ob, h, hl, hf, _ => by
  simp only [frzRow] at hf
  cases hf
  cases hl
  exact ⟨ρ, h, .refl _, .nil⟩
 | v :: l, l', us, ρ, hp, hp', ob, h, hl, hf, hob => by
  simp only [frzRow] at hf
  split at hf
  case h_2 => cases hf
  rename_i u hp1 o1 h1
  split at hf
  case h_2 => cases hf
  rename_i us0 hp2 o2 h2
  cases hf
  cases hl with
  | cons hv hl =>
   obtain ⟨ρ1, g1, g2, g3⟩ := frzS_sound h hv h1 hob.1
   obtain ⟨ρ2, k1, k2, k3⟩ := frzRow_sound g1 (hl.mono g2.le) h2 hob.2
   exact ⟨ρ2, k1, g2.le.trans k2, .cons (g3.mono k2) k3⟩
theorem Rel.recell {ρ : Place} {W : Base} {hp : Tr AObj} {nx : Nat} {w : World} (h : Rel ρ W hp nx w) {i : Nat} {l us : List Value} (hi : hp.get i = some (.cells l true)) (hlen : us.length = l.length)
  (hu : ∀ c s z cs t fz, ρ i = some (c, s, z) → w.heap[c]? = some (.cells cs t fz) → ∀ (j : Nat) (u : Value), us[j]? = some u → ∃ v', cs[s + j]? = some v' ∧ VR ρ u v') : Rel ρ W (hp.put i (some (.cells us true))) nx w := by
 have live : ∀ b o, (hp.put i (some (.cells us true))).get b = some o → ∃ o', hp.get b = some o' ∧ (o.wr = true → o'.wr = true) := fun b o ho => by
  rw [Tr.get_put] at ho
  by_cases e : b = i
  ·subst e; exact ⟨_, hi, fun _ => rfl⟩
  ·rw [if_neg e] at ho; exact ⟨o, ho, fun h => h⟩
 refine ⟨h.dom, fun b o c s z ho hb => ?_, fun b b' x x' o o' h1 h2 hx hx' hxx => ?_, fun b hb => ?_, h.below, h.frz, fun b o c s z ho hw hb => ?_, h.frn⟩
 ·rw [Tr.get_put] at ho
  by_cases e : b = i
  ·subst e
   rw [if_pos rfl] at ho
   cases ho
   obtain ⟨ob, e1, e2⟩ := h.obj b _ c s z hi hb
   refine ⟨ob, e1, ?_⟩
   cases ob <;> try exact e2.elim
   obtain ⟨k1, k2, k3, k4, k5⟩ := e2
   exact ⟨k1, by rw [hlen]; exact k2, k3, fun j u hj => hu c s z _ _ _ hb e1 j u hj, k5⟩
  ·rw [if_neg e] at ho
   exact h.obj b o c s z ho hb
 ·obtain ⟨_, g1, _⟩ := live b o h1
  obtain ⟨_, g2, _⟩ := live b' o' h2
  exact h.inj b b' x x' _ _ g1 g2 hx hx' hxx
 ·rw [Tr.get_put]
  by_cases e : b = i
  ·subst e; have := h.fresh b hb; rw [hi] at this; cases this
  ·rw [if_neg e]; exact h.fresh b hb
 ·obtain ⟨o', g1, g2⟩ := live b o ho
  exact h.apart b o' c s z g1 (g2 hw) hb
def frzBl (N : Nat) : Nat → Nat → Tr AObj → Option (Tr AObj × Prop)
 | 0, _, hp => some (hp, True)
 | k + 1, i, hp => match hp.get i with
  | some (.cells l true) => bif i.blt N then match frzRow N l hp with
   | some (us, hp1, o1) => match frzBl N k (i + 1) (hp1.put i (some (.cells us true))) with
    | some (hp2, o2) => some (hp2, o1 ∧ o2)
    | none => none
   | none => none
   else none
  | _ => none
theorem frzBl_sound {N : Nat} {W : Base} {nx : Nat} {w : World} : ∀ {k i : Nat} {ρ : Place} {hp hp' : Tr AObj} {ob : Prop}, (∀ b, b < N → ∃ x, ρ b = some x) → Rel ρ W hp nx w → frzBl N k i hp = some (hp', ob) → ob → ∃ ρ', Rel ρ' W hp' nx w ∧ ρ.le ρ'
 | 0, i, ρ, hp, hp', ob, _, h, hf, _ => by
  simp only [frzBl] at hf
  cases hf
  exact ⟨ρ, h, .refl _⟩
 | k + 1, i, ρ, hp, hp', ob, hpl, h, hf, hob => by
  simp only [frzBl] at hf
  split at hf
  case h_2 => cases hf
  rename_i l hl
  cases hb : i.blt N with
  | false => rw [hb] at hf; cases hf
  | true =>
   have hi : i < N := Nat.le_of_ble_eq_true hb
   rw [hb, cond_true] at hf
   split at hf
   case h_2 => cases hf
   rename_i us hp1 o1 h1
   split at hf
   case h_2 => cases hf
   rename_i hp2 o2 h2
   cases hf
   have hi1 := frzRow_get hi h1
   rw [hl] at hi1
   have hlenU := frzRow_len h1
   -- the concrete row
   have key : ∃ ρ1, Rel ρ1 W hp1 nx w ∧ ρ.le ρ1 ∧ ∀ c s z cs t fz, ρ1 i = some (c, s, z) → w.heap[c]? = some (.cells cs t fz) → ∀ (j : Nat) (u : Value), us[j]? = some u → ∃ v', cs[s + j]? = some v' ∧ VR ρ1 u v' := by
    obtain ⟨x, hr⟩ := hpl i hi
    obtain ⟨c, s, z⟩ := x
    obtain ⟨ob, e1, e2⟩ := h.obj i _ c s z hl hr
    cases ob <;> try exact e2.elim
    rename_i cs t fz
    obtain ⟨k1, k2, k3, k4, k5⟩ := e2
    have hrow : VRL ρ l ((cs.toList.drop s).take l.length) := by
     refine .of ?_ fun j v v' hj hj' => ?_
     ·rw [List.length_take, List.length_drop]
      simp only [Array.length_toList]
      omega
     ·obtain ⟨v2, q1, q2⟩ := k4 j v hj
      have hlt := (List.getElem?_eq_some_iff.1 hj).1
      rw [List.getElem?_take, if_pos hlt, List.getElem?_drop, Array.getElem?_toList, q1] at hj'
      cases hj'
      exact q2
    obtain ⟨ρ1, g1, g2, g3⟩ := frzRow_sound h hrow h1 hob.1
    refine ⟨ρ1, g1, g2, fun c' s' z' cs' t' fz' hr' hc' j u hj => ?_⟩
    have hr2 := g2.1 i _ hr
    rw [hr'] at hr2
    cases hr2
    rw [hc'] at e1
    cases e1
    have hlt : j < l.length := by rw [← hlenU]; exact (List.getElem?_eq_some_iff.1 hj).1
    have hv : ∃ v', ((cs.toList.drop s).take l.length)[j]? = some v' := by
     have hl2 := g3.len
     have : j < ((cs.toList.drop s).take l.length).length := by rw [← hl2, hlenU]; exact hlt
     exact ⟨_, List.getElem?_eq_getElem this⟩
    obtain ⟨v', hv'⟩ := hv
    refine ⟨v', ?_, g3.get hj hv'⟩
    rw [List.getElem?_take, if_pos hlt, List.getElem?_drop, Array.getElem?_toList] at hv'
    exact hv'
   obtain ⟨ρ1, g1, g2, g3⟩ := key
   obtain ⟨ρ2, q1, q2⟩ := frzBl_sound (fun b hb => let ⟨x, hx⟩ := hpl b hb; ⟨x, g2.1 b x hx⟩) (g1.recell hi1 hlenU g3) h2 hob.2
   exact ⟨ρ2, q1, g2.trans q2⟩
def Out.Ends0 (ρ : Place) (r : Out) (e : Ending) : Prop :=
 match r with
 | .ret v => ∃ v', e = .returned v' ∧ VR0 ρ.fr v v'
 | .pan v => ∃ v', e = .panicked [{ v := v', recovered := false }] ∧ VR0 ρ.fr v v'
def SpecX (P : Program) (f : FuncId) (N : Nat) (hp : Tr AObj) (args : List Value) (Post : Out → Tr AObj → Prop) : Prop :=
 ∀ (W : Base) ρ w args', (∀ b, b < N → ∃ x, ρ.pl b = some x) → Rel ρ W hp N w → VRL ρ args args' → Calls P f args'.toArray w fun e w' => ∃ r hp' nx' ρ', Post r hp' ∧ r.Ends0 ρ' e ∧ Rel ρ' W hp' nx' w' ∧ StepG N ρ ρ'
def finX (P : Program) (fn : Func) (N : Nat) (Post : Out → Tr AObj → Prop) (st : AS) : Prop :=
 match ares P st.hp st.tm fn with
 | some v => match frzBl N N 0 st.hp with
  | some (hp1, o1) => match frzR P N fn.resultTypes.toList hp1 v with
   | some (u, hp2, o2) => (o1 ∧ o2) ∧ Post (.ret u) hp2
   | none => False
  | none => False
 | none => False
def panX (N : Nat) (Post : Out → Tr AObj → Prop) (v : Value) (st : AS) : Prop :=
 match frzBl N N 0 st.hp with
 | some (hp1, o1) => bif nl1 v then o1 ∧ Post (.pan v) hp1 else False
 | none => False
def FinQX (P : Program) (fn : Func) (W : Base) (N : Nat) (ρ : Place) (Post : Out → Tr AObj → Prop) (e : Exit) (a : Act) (w : World) : Prop :=
 bodyPost P fn (fun e w' => ∃ r hp' nx' ρ', Post r hp' ∧ r.Ends0 ρ' e ∧ Rel ρ' W hp' nx' w' ∧ StepG N ρ ρ') e a w
theorem stepG_le {N : Nat} {ρ ρ' ρ'' : Place} (h : StepG N ρ ρ') (k : ρ'.le ρ'') : StepG N ρ ρ'' := ⟨fun b x hb hx => k.1 b x (h.1 b x hb hx), fun c x hc => k.2 c x (h.2 c x hc)⟩
theorem stepG_placed {N : Nat} {ρ ρ' : Place} (h : StepG N ρ ρ') (hp : ∀ b, b < N → ∃ x, ρ.pl b = some x) : ∀ b, b < N → ∃ x, ρ'.pl b = some x := fun b hb => let ⟨x, hx⟩ := hp b hb; ⟨x, h.1 b x hb hx⟩
theorem finX_ok {P : Program} {fn : Func} {N n : Nat} {Post : Out → Tr AObj → Prop} {st : AS} (h : finX P fn N Post st) {W : Base} (hd : W.ds = []) {ρ0 ρ : Place} {a : Act} {w : World} (hpl : ∀ b, b < N → ∃ x, ρ0.pl b = some x) (hs : SRel ρ W n st a w) (hr : StepG N ρ0 ρ) :
  FinQX P fn W N ρ0 Post .normal a w ∧ FinQX P fn W N ρ0 Post .ret a w := by
 unfold finX at h
 split at h
 case h_2 => exact h.elim
 rename_i v hv
 split at h
 case h_2 => exact h.elim
 rename_i hp1 o1 h1
 split at h
 case h_2 => exact h.elim
 rename_i u hp2 o2 h2
 obtain ⟨v', r1, r2⟩ := ares_sound hs.rel hs.frame hv
 obtain ⟨ρ1, g1, g2⟩ := frzBl_sound (stepG_placed hr hpl) hs.rel h1 h.1.1
 obtain ⟨ρ2, k1, k2, k3⟩ := frzR_sound g1 (r2.mono g2) h2 h.1.2
 have : ∃ r hp' nx' ρ', Post r hp' ∧ r.Ends0 ρ' (Ending.returned v') ∧ Rel ρ' W hp' nx' w ∧ StepG N ρ0 ρ' :=
  ⟨.ret u, hp2, st.nx, ρ2, h.2, ⟨v', rfl, k3⟩, k1, stepG_le (stepG_le hr g2) k2.le⟩
 exact ⟨⟨hs.frame.defers.trans hd, v', r1, this⟩, ⟨hs.frame.defers.trans hd, v', r1, this⟩⟩
theorem panX_ok {P : Program} {fn : Func} {N n : Nat} {Post : Out → Tr AObj → Prop} {v : Value} {st : AS} (h : panX N Post v st) {W : Base} (hd : W.ds = []) {ρ0 ρ : Place} {v' : Value} {a : Act} {w : World} (hpl : ∀ b, b < N → ∃ x, ρ0.pl b = some x) (hv : VR ρ v v') (hs : SRel ρ W n st a w) (hr : StepG N ρ0 ρ) :
  FinQX P fn W N ρ0 Post (.panic [{ v := v', recovered := false }]) a w := by
 unfold panX at h
 split at h
 case h_2 => exact h.elim
 rename_i hp1 o1 h1
 cases hn : nl1 v with
 | false => rw [hn] at h; exact h.elim
 | true =>
  rw [hn, cond_true] at h
  obtain ⟨ρ1, g1, g2⟩ := frzBl_sound (stepG_placed hr hpl) hs.rel h1 h.1
  exact ⟨hs.frame.defers.trans hd, .pan v, hp1, st.nx, ρ1, h.2, ⟨v', rfl, nl1_sound hn (hv.mono g2)⟩, g1, stepG_le hr g2⟩
theorem specX_of {P : Program} {pc : PCall} (hcall : PCallOk P pc) (hm : P.follows .mixedOrders = true) {f : FuncId} {fn : Func} {c : Code} (hf : P.funcs[f]? = some fn) (hc : fn.body = some c) {lt : List (Nat × List Nat)} {base : List Bool} {hp : Tr AObj} {args : List Value} {Post : Out → Tr AObj → Prop} (k : Nat)
  (h : vrunP P pc (slotsN args fn) lt base (GoodX P (slotsN args fn) base (finX P fn base.length Post) (panX base.length Post)) (finX P fn base.length Post) (panX base.length Post) k (.code c) [] ⟨putArgs 0 args .e, hp, base.length⟩) : SpecX P f base.length hp args Post := by
 intro W ρ w args' hpl hrel hargs
 suffices hb : Calls P f args'.toArray w fun e w' => ∃ r hp' nx' ρ', Post r hp' ∧ r.Ends0 ρ' e ∧ Rel ρ' W.bare hp' nx' w' ∧ StepG base.length ρ ρ' from hb.mono fun e w' ⟨r, hp', nx', ρ', g1, g2, g3, g4⟩ => ⟨r, hp', nx', ρ', g1, g2, g3.unbare, g4⟩
 refine calls_of_wp hf hc ?_
 exact vrunP_sound (R := fun ρ' _ => StepG base.length ρ ρ') (Q := FinQX P fn W.bare base.length ρ Post) hcall hm (fun _ _ _ _ h k => h.step k)
  (fun b k st h ρ' a w hs hr => goodX_vloop h W.bare ρ _ (fun st hst ρ' a w hs hr => finX_ok hst rfl hpl hs hr) (fun v st hst ρ' v' a w hv hs hr => panX_ok hst rfl hpl hv hs hr) ρ' a w hs hr)
  (fun st hst ρ' a w hs hr => finX_ok hst rfl hpl hs hr) (fun v st hst ρ' v' a w hv hs hr => panX_ok hst rfl hpl hv hs hr) k (.code c) [] _ h ρ _ w (start_rel rfl hrel.bare hargs fn) (.refl _ _)
def okc (N : Nat) : Value → Bool
 | .pointer (some ⟨b, _, none⟩) => b.blt N
 | v => nl1 v
def okAll (N : Nat) : List (List Value) → Bool
 | [] => true
 | l :: ls => l.all (okc N) && okAll N ls
theorem okAll_get {N : Nat} : ∀ {ls : List (List Value)}, okAll N ls = true → ∀ l ∈ ls, ∀ v ∈ l, okc N v = true
 | [], _, l, h => by cases h
 | x :: ls, h, l, hl => by
  simp only [okAll, Bool.and_eq_true] at h
  rcases List.mem_cons.1 hl with rfl | hl
  ·exact fun v hv => List.all_eq_true.1 h.1 v hv
  ·exact okAll_get h.2 l hl
def xpost (n : Nat) (Post : Out → List (List Value) → Prop) (r : Out) (hp : Tr AObj) : Prop :=
 match outs hp 0 n with
 | some ls => okAll n ls = true ∧ Post r ls
 | none => False
structure XEnt where
 f : FuncId
 c : List Value → List (List Value) → (Out → List (List Value) → Prop) → Prop
def XEntOk (P : Program) (e : XEnt) : Prop := ∀ args conts Post, e.c args conts Post → SpecX P e.f conts.length (hpOf conts) args (xpost conts.length Post)
def xentOf (f : FuncId) : List XEnt → Option XEnt
 | [] => none
 | e :: l => bif e.f.beq f then some e else xentOf f l
theorem xentOf_mem {f : FuncId} {e : XEnt} : ∀ {l : List XEnt}, xentOf f l = some e → e ∈ l ∧ e.f = f
 | [], h => by simp [xentOf] at h
 | x :: l, h => by
  simp only [xentOf] at h
  cases hx : x.f.beq f with
  | true => rw [hx] at h; cases h; exact ⟨by simp, Nat.eq_of_beq_eq_true hx⟩
  | false => rw [hx, cond_false] at h; exact ⟨by simp [(xentOf_mem h).1], (xentOf_mem h).2⟩
def contsX (bl : List (Nat × Bool)) (hp : Tr AObj) : List (Nat × Bool) → Option (List (List Value))
 | [] => some []
 | (b, _) :: l => match hp.get b with
  | some (.cells c true) => match mapO (ren0 bl) c, contsX bl hp l with
   | some c', some cs => some (c' :: cs)
   | _, _ => none
  | _ => none
theorem contsX_get {bl : List (Nat × Bool)} {hp : Tr AObj} : ∀ {l : List (Nat × Bool)} {cs : List (List Value)}, contsX bl hp l = some cs → cs.length = l.length ∧ ∀ (i b : Nat) (k : Bool), l[i]? = some (b, k) → ∃ c c', cs[i]? = some c' ∧ hp.get b = some (.cells c true) ∧ mapO (ren0 bl) c = some c'
 | [], cs, h => by simp only [contsX] at h; cases h; exact ⟨rfl, fun i b k hi => by simp at hi⟩
 | (b, k) :: l, cs, h => by
  simp only [contsX] at h
  split at h
  case h_2 => cases h
  rename_i c hc
  split at h
  case h_2 => cases h
  rename_i c' cs0 h1 h0
  cases h
  obtain ⟨g1, g2⟩ := contsX_get h0
  refine ⟨by simp [g1], fun i b' k' hi => ?_⟩
  cases i with
  | zero => simp at hi; obtain ⟨rfl, rfl⟩ := hi; exact ⟨c, c', rfl, hc, h1⟩
  | succ i => simpa using g2 i b' k' (by simpa using hi)
def backV (bl : List (Nat × Bool)) : Value → Value
 | .pointer (some ⟨i, o, none⟩) => match bl[i]? with
  | some p => .pointer (some ⟨p.1, o, none⟩)
  | none => undef
 | v => v
def backL (bl : List (Nat × Bool)) (cs : List (List Value)) : List (List Value) := cs.map fun l => l.map (backV bl)
def xcall (e : XEnt) (args : List Value) (hp : Tr AObj) (nx : Nat) (K : Out → Tr AObj → Nat → Prop) : Prop :=
 let bl := scanB hp 60 0 (args.foldl scan0 [])
 bif nodupB bl then match mapO (ren bl) args, contsX bl hp bl with
  | some vs0, some cs => e.c vs0 cs fun r cs' => cs'.length = cs.length ∧ K r (putConts bl (backL bl cs') hp) nx
  | _, _ => False
 else False
def Placed (ρ : Place) (l : List (Nat × Bool)) : Prop := ∀ p ∈ l, ∃ x, ρ.pl p.1 = some x
theorem addB_placed {ρ : Place} {l : List (Nat × Bool)} (h : Placed ρ l) {b : Nat} {k : Bool} {x : Nat × Nat × Nat} (hb : ρ.pl b = some x) : Placed ρ (addB b k l) := fun q hq => by
 obtain ⟨b', k'⟩ := q
 rcases addB_mem hq with hq | rfl
 ·exact h _ hq
 ·exact ⟨_, hb⟩
theorem scan0_p {ρ : Place} {l : List (Nat × Bool)} (h : Placed ρ l) {v v' : Value} (hv : VR ρ v v') : Placed ρ (scan0 l v) := by
 cases hv <;> try exact h
 case ptr hb => exact addB_placed h hb
 case slice hb _ _ => exact addB_placed h hb
 case emptySlice hb => exact addB_placed h hb
 case iface ht =>
  cases ht <;> try exact h
  case ptr hb => exact addB_placed h hb
theorem scanL_p {ρ : Place} : ∀ {c : List Value} {l : List (Nat × Bool)}, Placed ρ l → (∀ v ∈ c, ∃ v', VR ρ v v') → Placed ρ (c.foldl scan0 l)
 | [], l, h, _ => h
 | v :: c, l, h, hc => by
  obtain ⟨_, hv⟩ := hc v (by simp)
  exact scanL_p (l := scan0 l v) (scan0_p h hv) fun u hu => hc u (by simp [hu])
theorem scan1_p {ρ : Place} {l : List (Nat × Bool)} (h : Placed ρ l) {v v' : Value} (hv : VR ρ v v') : Placed ρ (scan1 l v) := by
 cases v <;> try exact scan0_p h hv
 case func fn f c =>
  cases fn <;> try exact scan0_p h hv
  cases hv with
  | func _ s1 r1 s2 r2 =>
   have arr : ∀ {x x' : Array Value}, x.size = x'.size → (∀ (i : Nat) (v v' : Value), x[i]? = some v → x'[i]? = some v' → VR ρ v v') → ∀ v ∈ x.toList, ∃ v', VR ρ v v' := fun {x x'} hs hr v hv => by
    obtain ⟨i, hi, rfl⟩ := List.mem_iff_getElem.1 hv
    simp only [Array.length_toList] at hi
    exact ⟨x'[i]'(by omega), hr i _ _ (by simp [hi]) (by simp)⟩
   exact scanL_p (scanL_p h (arr s1 r1)) (arr s2 r2)
theorem scan1L_p {ρ : Place} : ∀ {c : List Value} {l : List (Nat × Bool)}, Placed ρ l → (∀ v ∈ c, ∃ v', VR ρ v v') → Placed ρ (c.foldl scan1 l)
 | [], l, h, _ => h
 | v :: c, l, h, hc => by
  obtain ⟨_, hv⟩ := hc v (by simp)
  exact scan1L_p (l := scan1 l v) (scan1_p h hv) fun u hu => hc u (by simp [hu])
theorem scanB_p {ρ : Place} {W : Base} {hp : Tr AObj} {nx : Nat} {w : World} (hr : Rel ρ W hp nx w) : ∀ {f i : Nat} {l : List (Nat × Bool)}, Placed ρ l → Placed ρ (scanB hp f i l)
 | 0, i, l, h => h
 | f + 1, i, l, h => by
  simp only [scanB]
  split
  ·exact h
  ·rename_i b k hb
   refine scanB_p hr ?_
   cases k with
   | false => exact h
   | true =>
    rw [cond_true]
    split
    ·rename_i c wr hc
     obtain ⟨x, hx⟩ := h (b, true) (List.mem_of_getElem? hb)
     obtain ⟨ob, e1, e2⟩ := hr.obj b _ x.1 x.2.1 x.2.2 hc hx
     cases ob <;> try exact e2.elim
     obtain ⟨_, _, _, k4, _⟩ := e2
     have hall : ∀ v ∈ c, ∃ v', VR ρ v v' := fun v hv => by
      obtain ⟨j, hj, rfl⟩ := List.mem_iff_getElem.1 hv
      obtain ⟨v', _, q⟩ := k4 j _ (List.getElem?_eq_getElem hj)
      exact ⟨v', q⟩
     exact scan1L_p h hall
    ·exact h
theorem xcall_ok {P : Program} {e : XEnt} (he : XEntOk P e) {args : List Value} {hp : Tr AObj} {nx : Nat} {K : Out → Tr AObj → Nat → Prop} (h : xcall e args hp nx K) {W : Base} {ρ : Place} {w : World} {args' : List Value} (hrel : Rel ρ W hp nx w) (hargs : VRL ρ args args') :
  Calls P e.f args'.toArray w fun e w' => ∃ r hp' nx' ρ', K r hp' nx' ∧ r.Ends ρ' e ∧ Rel ρ' W hp' nx' w' ∧ Step ρ ρ' hp hp' nx nx' := by
 unfold xcall at h
 dsimp only at h
 have hplaced : Placed ρ (scanB hp 60 0 (args.foldl scan0 [])) := scanB_p hrel (scan0_placed (l := []) hargs (fun p hp => by cases hp))
 generalize scanB hp 60 0 (args.foldl scan0 []) = bl at h hplaced
 cases hnd : nodupB bl with
 | false => rw [hnd] at h; exact h.elim
 | true =>
  rw [hnd, cond_true] at h
  split at h
  case h_2 => exact h.elim
  rename_i vs0 cs ha hc
  obtain ⟨hlen, hget⟩ := contsX_get hc
  have hvia : ∀ (i : Nat) (x : Nat × Nat × Nat), (ρ.via bl).pl i = some x → ∃ (b : Nat) (k : Bool), bl[i]? = some (b, k) ∧ ρ.pl b = some x := fun i x hx => by
   unfold Place.via at hx
   dsimp only at hx
   split at hx
   ·rename_i p hp
    exact ⟨p.1, p.2, hp, hx⟩
   ·cases hx
  have viaAt : ∀ (i b : Nat) (k : Bool), bl[i]? = some (b, k) → (ρ.via bl).pl i = ρ.pl b := fun i b k hi => by unfold Place.via; simp [hi]
  let mu : Nat → Prop := fun c => ∃ (i b : Nat) (k : Bool) (x : Nat × Nat × Nat), bl[i]? = some (b, k) ∧ ρ.pl b = some x ∧ x.1 = c
  have hobj : ∀ i o x, (hpOf cs).get i = some o → (ρ.via bl).pl i = some x → ∃ (b : Nat) (k : Bool) (c0 c : List Value), bl[i]? = some (b, k) ∧ ρ.pl b = some x ∧ mapO (ren0 bl) c0 = some c ∧ o = .cells c true ∧ hp.get b = some (.cells c0 true) := fun i o x ho hx => by
   obtain ⟨b, k, h1, h2⟩ := hvia i x hx
   obtain ⟨c0, c, h3, h4, h5⟩ := hget i b k h1
   rw [hpOf_get, h3] at ho
   cases ho
   exact ⟨b, k, c0, c, h1, h2, h5, rfl, h4⟩
  have muNew : ∀ c, mu c → ¬ W.old c := fun c ⟨i, b, k, x, h1, h2, h3⟩ => by
   obtain ⟨cc, _, _, h4, _⟩ := hget i b k h1
   obtain ⟨ob, _, ho⟩ := hrel.obj b _ x.1 x.2.1 x.2.2 h4 h2
   cases ob <;> try exact ho.elim
   rw [← h3]
   exact ho.2.2.2.2 rfl
  have hrel1 : Rel (ρ.via bl) ⟨w, mu, ρ.fr, []⟩ (hpOf cs) cs.length w := by
   refine ⟨fun i x hx => ?_, fun i o c s z ho hx => ?_, fun i j x y o1 o2 g1 g2 hx hy hxy => ?_, fun i hi => ?_, ⟨rfl, rfl, rfl, Nat.le_refl _, fun _ _ => rfl⟩, hrel.frz, fun i o c s z ho _ hx => ?_, fun c ob hc => .inl hc⟩
   ·obtain ⟨b, k, h1, h2⟩ := hvia i x hx
    refine ⟨?_, (hrel.dom b x h2).2⟩
    rw [hlen]
    exact (List.getElem?_eq_some_iff.1 h1).1
   ·obtain ⟨b, k, c0, cc, h1, h2, h3, rfl, h4⟩ := hobj i o _ ho hx
    obtain ⟨ob, e1, e2⟩ := hrel.obj b _ c s z h4 h2
    refine ⟨ob, e1, ?_⟩
    cases ob <;> try exact e2.elim
    obtain ⟨k1, k2, k3, k4, k5⟩ := e2
    obtain ⟨m1, m2⟩ := mapO_get h3
    refine ⟨k1, by rw [m1]; exact k2, k3, fun j v hv => ?_, fun _ ho' => ho'.2 ⟨i, b, k, _, h1, h2, rfl⟩⟩
    obtain ⟨u, hu, hr0⟩ := m2 j v hv
    obtain ⟨v', q1, q2⟩ := k4 j u hu
    exact ⟨v', q1, ren0_sound hr0 q2⟩
   ·obtain ⟨b, k, c0, cc, h1, h2, h3, _, h4⟩ := hobj i o1 _ g1 hx
    obtain ⟨b', k', c0', cc', r1, r2, r3, _, r4⟩ := hobj j o2 _ g2 hy
    have e := hrel.inj b b' x y _ _ h4 r4 h2 r2 hxy
    subst e
    exact nodupB_inj hnd h1 r1
   ·rw [hpOf_get, List.getElem?_eq_none hi]; rfl
   ·obtain ⟨b, k, c0, cc, h1, h2, h3, _, h4⟩ := hobj i o _ ho hx
    exact hrel.apart b _ c s z h4 rfl h2
  have hargs1 : VRL (ρ.via bl) vs0 args' := mapO_sound (fun _ _ _ => ren_sound) ha hargs
  have hpl1 : ∀ b, b < cs.length → ∃ x, (ρ.via bl).pl b = some x := fun i hi => by
   have hib : i < bl.length := by omega
   obtain ⟨x, hx⟩ := hplaced bl[i] (List.getElem_mem hib)
   exact ⟨x, by rw [viaAt i bl[i].1 bl[i].2 (List.getElem?_eq_getElem hib)]; exact hx⟩
  refine (he vs0 cs _ h ⟨w, mu, ρ.fr, []⟩ (ρ.via bl) w args' hpl1 hrel1 hargs1).mono ?_
  rintro e' w' ⟨r, hp1, nx1, ρ1, hP, hv, hr, hg⟩
  unfold xpost at hP
  split at hP
  case h_2 => exact hP.elim
  rename_i cs' hcs'
  obtain ⟨hnl', hlen', hK⟩ := hP
  obtain ⟨_, hget'⟩ := outs_get hcs'
  have hnls' := okAll_get hnl'
  have hlb : cs'.length = bl.length := hlen'.trans hlen
  have hsz : w.heap.size ≤ w'.heap.size := hr.below.size
  have hle : ρ.le ⟨ρ.pl, ρ1.fr, ρ1.gl⟩ := ⟨fun _ _ h => h, fun c x hc => hg.2 c x hc⟩
  have lt : ∀ {c : Nat} {ob : Obj}, w.heap[c]? = some ob → c < w.heap.size := fun {c ob} hc => by
   rcases Nat.lt_or_ge c w.heap.size with h' | h'
   ·exact h'
   ·rw [Array.getElem?_eq_none h'] at hc; cases hc
  have old : ∀ c, c < w.heap.size → ¬ mu c → w'.heap[c]? = w.heap[c]? := fun c hc hm => hr.below.block c ⟨hc, hm⟩
  -- the blocks that were handed over
  have inb : ∀ b, memB b bl = true → ∃ (i : Nat) (k : Bool) (x : Nat × Nat × Nat) (c c' : List Value), bl[i]? = some (b, k) ∧ ρ.pl b = some x ∧ ρ1.pl i = some x ∧ hp.get b = some (.cells c true) ∧ cs'[i]? = some c' ∧ hp1.get i = some (.cells c' true) ∧ (putConts bl (backL bl cs') hp).get b = some (.cells (c'.map (backV bl)) true) := fun b hb => by
   obtain ⟨i, k, hi⟩ := memB_mem hb
   obtain ⟨x, hx⟩ := hplaced (b, k) (List.mem_of_getElem? hi)
   obtain ⟨c, _, _, h4, _⟩ := hget i b k hi
   have hil : i < bl.length := (List.getElem?_eq_some_iff.1 hi).1
   have hc' : cs'[i]? = some (cs'[i]'(by omega)) := List.getElem?_eq_getElem (by omega)
   have h5 := hget' i _ hc'
   rw [Nat.zero_add] at h5
   exact ⟨i, k, x, c, _, hi, hx, hg.1 i x (by omega) (by rw [viaAt i b k hi]; exact hx), h4, hc', h5, (putConts_get hnd (by unfold backL; rw [List.length_map]; exact hlb) b).1 i k _ hi (by unfold backL; rw [List.getElem?_map, hc']; rfl)⟩
  have outb : ∀ b, memB b bl = false → (putConts bl (backL bl cs') hp).get b = hp.get b := fun b hb => (putConts_get hnd (by unfold backL; rw [List.length_map]; exact hlb) b).2 hb
  have notmu : ∀ b o x, memB b bl = false → hp.get b = some o → ρ.pl b = some x → ¬ mu x.1 := fun b o x hb ho hx ⟨i, b', k, x', h1, h2, h3⟩ => by
   obtain ⟨c, _, _, h4, _⟩ := hget i b' k h1
   have e := hrel.inj b' b x' x _ _ h4 ho h2 hx h3
   subst e
   rw [memB_of h1] at hb
   cases hb
  have live : ∀ b o, (putConts bl (backL bl cs') hp).get b = some o → ∃ o', hp.get b = some o' ∧ (o.wr = true → o'.wr = true) := fun b o ho => by
   cases hb : memB b bl with
   | true =>
    obtain ⟨i, k, x, c, c', h1, h2, h3, h4, h5, h6, h7⟩ := inb b hb
    exact ⟨_, h4, fun _ => rfl⟩
   | false => rw [outb b hb] at ho; exact ⟨o, ho, fun h => h⟩
  have hback : ∀ (c' : List Value), c' ∈ cs' → ∀ u ∈ c', ∀ u', VR ρ1 u u' → VR ⟨ρ.pl, ρ1.fr, ρ1.gl⟩ (backV bl u) u' := fun c' hc' u hu u' hvr => by
   have hok := hnls' c' hc' u hu
   have base : backV bl u = u → nl1 u = true → VR ⟨ρ.pl, ρ1.fr, ρ1.gl⟩ (backV bl u) u' := fun e hn => by
    rw [e]
    have h0 : VR0 ρ1.fr u u' := nl1_sound hn hvr
    exact VR0.lift (ρ := ⟨ρ.pl, ρ1.fr, ρ1.gl⟩) h0
   cases u <;> try exact base rfl hok
   case pointer a =>
    cases a with
    | none => exact base rfl hok
    | some a =>
     obtain ⟨i, o, sp⟩ := a
     cases sp with
     | some sp => exact base rfl hok
     | none =>
      have hi : i < cs.length := Nat.le_of_ble_eq_true hok
      have hib : i < bl.length := by omega
      obtain ⟨x, hx⟩ := hplaced bl[i] (List.getElem_mem hib)
      have h1 := hg.1 i x hi (by rw [viaAt i bl[i].1 bl[i].2 (List.getElem?_eq_getElem hib)]; exact hx)
      show VR _ (match bl[i]? with | some p => _ | none => _) _
      rw [List.getElem?_eq_getElem hib]
      cases hvr with
      | ptr hb =>
       have hb' := hb
       rw [h1] at hb'
       cases hb'
       exact .ptr hx
  have hends : r.Ends ⟨ρ.pl, ρ1.fr, ρ1.gl⟩ e' := by
   cases r with
   | ret v => obtain ⟨v', e, h0⟩ := hv; exact ⟨v', e, VR0.lift (ρ := ⟨ρ.pl, ρ1.fr, ρ1.gl⟩) h0⟩
   | pan v => obtain ⟨v', e, h0⟩ := hv; exact ⟨v', e, VR0.lift (ρ := ⟨ρ.pl, ρ1.fr, ρ1.gl⟩) h0⟩
  refine ⟨r, putConts bl (backL bl cs') hp, nx, ⟨ρ.pl, ρ1.fr, ρ1.gl⟩, hK, hends, ?_, ⟨hle, Nat.le_refl _, fun b hb hn => ⟨hn, ?_⟩⟩⟩
  ·refine ⟨fun b x hb => ⟨(hrel.dom b x hb).1, Nat.lt_of_lt_of_le (hrel.dom b x hb).2 hsz⟩, fun b o c s z ho hx => ?_, fun b b' x x' o o' h1 h2 hx hx' hxx => ?_, fun b hb => ?_, ⟨hr.below.os.trans hrel.below.os, hr.below.tape.trans hrel.below.tape, hr.below.output.trans hrel.below.output, Nat.le_trans hrel.below.size hsz, fun k hk => ?_⟩, hr.frz, fun b o c s z ho hw hx => ?_, fun c ob hc => ?_⟩
   ·cases hb : memB b bl with
    | true =>
     obtain ⟨i, k, x, c0, c', h1, h2, h3, h4, h5, h6, h7⟩ := inb b hb
     rw [h7] at ho
     cases ho
     have hx' : ρ.pl b = some (c, s, z) := hx
     rw [h2] at hx'
     cases hx'
     obtain ⟨ob, e1, e2⟩ := hr.obj i _ c s z h6 h3
     refine ⟨ob, e1, ?_⟩
     cases ob <;> try exact e2.elim
     obtain ⟨k1, k2, k3, k4, k5⟩ := e2
     refine ⟨k1, by rw [List.length_map]; exact k2, k3, fun j u hu => ?_, fun _ => muNew c ⟨i, b, k, _, h1, h2, rfl⟩⟩
     rw [List.getElem?_map] at hu
     cases hj : c'[j]? with
     | none => rw [hj] at hu; cases hu
     | some u0 =>
      rw [hj] at hu
      cases hu
      obtain ⟨u', q1, q2⟩ := k4 j u0 hj
      exact ⟨u', q1, hback c' (List.mem_of_getElem? h5) u0 (List.mem_of_getElem? hj) u' q2⟩
    | false =>
     rw [outb b hb] at ho
     obtain ⟨ob, e1, e2⟩ := hrel.obj b o c s z ho hx
     exact ⟨ob, by rw [old c (lt e1) (notmu b o _ hb ho hx)]; exact e1, e2.mono hle⟩
   ·obtain ⟨_, g1, _⟩ := live b o h1
    obtain ⟨_, g2, _⟩ := live b' o' h2
    exact hrel.inj b b' x x' _ _ g1 g2 hx hx' hxx
   ·cases hm : memB b bl with
    | true =>
     obtain ⟨i, k, x, c0, c', h1, h2, _⟩ := inb b hm
     have := (hrel.dom b x h2).1
     omega
    | false => rw [outb b hm]; exact hrel.fresh b hb
   ·have hkw : k < w.heap.size := Nat.lt_of_lt_of_le hk.1 hrel.below.size
    rw [old k hkw fun hm => muNew k hm hk]
    exact hrel.below.block k hk
   ·show ρ1.fr c = none
    cases hcf : ρ1.fr c with
    | none => rfl
    | some ob =>
     exfalso
     obtain ⟨o', g1, g2⟩ := live b o ho
     have hcl := (hrel.dom b _ hx).2
     cases hb : memB b bl with
     | true =>
      obtain ⟨i, k, x, c0, c', h1, h2, h3, h4, h5, h6, h7⟩ := inb b hb
      have hx' : ρ.pl b = some (c, s, z) := hx
      rw [h2] at hx'
      cases hx'
      have := hr.apart i _ c s z h6 rfl h3
      rw [this] at hcf
      cases hcf
     | false =>
      rcases hr.frn c ob hcf with q | q
      ·have h5 : ρ.fr c = some ob := q
       rw [hrel.apart b o' c s z g1 (g2 hw) hx] at h5
       cases h5
      ·rw [outb b hb] at ho
       exact q ⟨hcl, notmu b o _ hb ho hx⟩
   ·rcases hr.frn c ob hc with q | q
    ·exact hrel.frn c ob q
    ·refine .inr fun h2 => ?_
     have hcw : c < w.heap.size := Nat.lt_of_lt_of_le h2.1 hrel.below.size
     exact q ⟨hcw, fun hm => muNew c hm h2⟩
  ·refine outb b ?_
   cases hm : memB b bl with
   | false => rfl
   | true =>
    obtain ⟨i, k, x, c0, c', h1, h2, _⟩ := inb b hm
    rw [h2] at hn
    cases hn
def xtabCall (tab : List XEnt) (next : PCall) : PCall := fun f args hp nx K =>
 match xentOf f tab with
 | some e => xcall e args hp nx K
 | none => next f args hp nx K
theorem xtabCall_ok {P : Program} {tab : List XEnt} {next : PCall} (ht : ∀ e ∈ tab, XEntOk P e) (hn : PCallOk P next) : PCallOk P (xtabCall tab next) := by
 intro f args hp nx K h W ρ w args' hrel hargs
 unfold xtabCall at h
 split at h
 ·rename_i e he
  obtain ⟨h1, rfl⟩ := xentOf_mem he
  exact xcall_ok (ht e h1) h hrel hargs
 ·exact hn f args hp nx K h W ρ w args' hrel hargs
def inlP (P : Program) (inl : List FuncId) (next : PCall) : Nat → PCall
 | 0 => next
 | k + 1 => fun f args hp nx K => bif inl.contains f then match P.funcs[f]? with
   | some fn => match fn.body with
    | some c => vrunP P (inlP P inl next k) (slotsN args fn) [] [] (fun _ _ _ => False) (fun st => match ares P st.hp st.tm fn with | some v => K (.ret v) st.hp st.nx | none => False) (fun v st => K (.pan v) st.hp st.nx) 1000 (.code c) [] ⟨putArgs 0 args .e, hp, nx⟩
    | none => False
   | none => False
  else next f args hp nx K
theorem inlP_ok {P : Program} (hm : P.follows .mixedOrders = true) {inl : List FuncId} {next : PCall} (hn : PCallOk P next) : ∀ k, PCallOk P (inlP P inl next k)
 | 0 => hn
 | k + 1 => by
  intro f args hp nx K h W ρ w args' hrel hargs
  unfold inlP at h
  cases hi : inl.contains f with
  | false => rw [hi] at h; exact hn f args hp nx K h W ρ w args' hrel hargs
  | true =>
   rw [hi, cond_true] at h
   split at h
   case h_2 => exact h.elim
   rename_i fn hf
   split at h
   case h_2 => exact h.elim
   rename_i c hc
   refine calls_of_wp hf hc ?_
   have fin : ∀ st, (match ares P st.hp st.tm fn with | some v => K (.ret v) st.hp st.nx | none => False) → ∀ ρ' a w', SRel ρ' W.bare (slotsN args fn) st a w' → Step ρ ρ' hp st.hp nx st.nx →
     a.defers = [] ∧ ∃ v', (results fn a.tmps).run P w' = .ok v' w' ∧ ∃ r hp' nx' ρ', K r hp' nx' ∧ r.Ends ρ' (Ending.returned v') ∧ Rel ρ' W hp' nx' w' ∧ Step ρ ρ' hp hp' nx nx' := by
    intro st hst ρ' a w' hs hr
    split at hst
    case h_2 => exact hst.elim
    rename_i v hv
    obtain ⟨v', r1, r2⟩ := ares_sound hs.rel hs.frame hv
    exact ⟨hs.frame.defers, v', r1, .ret v, st.hp, st.nx, ρ', hst, ⟨v', rfl, r2⟩, hs.rel.unbare, hr⟩
   exact vrunP_sound (W := W.bare) (R := fun ρ' st => Step ρ ρ' hp st.hp nx st.nx) (inlP_ok hm hn k) hm (fun _ _ _ _ h k => h.trans k)
    (fun b k st h ρ' a w hs hr => by
     unfold vloop at h
     split at h
     case h_2 => exact h.elim
     split at h
     case h_2 => exact h.elim
     split at h
     case h_2 => exact h.elim
     exact h.2.2.elim) (fun st hst ρ' a w hs hr => ⟨fin st hst ρ' a w hs hr, fin st hst ρ' a w hs hr⟩)
    (fun v st hst ρ' v' a w' hv hs hr => ⟨hs.frame.defers, .pan v, st.hp, st.nx, ρ', hst, ⟨v', rfl, hv⟩, hs.rel.unbare, hr⟩) 1000 (.code c) [] _ h ρ _ w (start_rel rfl hrel.bare hargs fn) (.refl _ _ _)
def vcX (P : Program) (pc : PCall) (f : FuncId) (lt : List (Nat × List Nat)) (conts : List (List Value)) (args : List Value) (H : Code → List Fr → AS → Prop) (Post : Out → List (List Value) → Prop) : Prop :=
 vrunP P pc (slotsN args (fnAt P f)) lt (List.replicate conts.length true) H (finX P (fnAt P f) conts.length (xpost conts.length Post)) (panX conts.length (xpost conts.length Post)) 3000 (.code (codeOf (fnAt P f))) [] ⟨putArgs 0 args .e, hpOf conts, conts.length⟩
def vcLX (P : Program) (pc : PCall) (f : FuncId) (na : List Value) (lt : List (Nat × List Nat)) (n : Nat) (r : Nat) (st : AS) (H : Code → List Fr → AS → Prop) (Post : Out → List (List Value) → Prop) : Prop :=
 vrunP P pc (slotsN na (fnAt P f)) lt (List.replicate n true) H (finX P (fnAt P f) n (xpost n Post)) (panX n (xpost n Post)) 3000 (.code (lpC P f r)) (.loop (lpC P f r) :: lpK P f r) st
def OkX (P : Program) (f : FuncId) (na : List Value) (n : Nat) (Post : Out → List (List Value) → Prop) : Code → List Fr → AS → Prop :=
 GoodX P (slotsN na (fnAt P f)) (List.replicate n true) (finX P (fnAt P f) n (xpost n Post)) (panX n (xpost n Post))
theorem spec_X {P : Program} {pc : PCall} (hcall : PCallOk P pc) (hm : P.follows .mixedOrders = true) {f : FuncId} (hf : (P.funcs[f]?).isSome = true) (hc : (fnAt P f).body.isSome = true) (lt : List (Nat × List Nat)) {conts : List (List Value)} {args : List Value} {Post : Out → List (List Value) → Prop}
  {X : Prop} (e : vcX P pc f lt conts args (OkX P f args conts.length Post) Post = X) (h : X) : SpecX P f conts.length (hpOf conts) args (xpost conts.length Post) := by
 have hf' : P.funcs[f]? = some (fnAt P f) := by
  unfold fnAt
  cases hx : P.funcs[f]? with
  | none => rw [hx] at hf; cases hf
  | some x => rfl
 have hc' : (fnAt P f).body = some (codeOf (fnAt P f)) := by
  unfold codeOf
  cases hx : (fnAt P f).body with
  | none => rw [hx] at hc; cases hc
  | some x => rfl
 have h' := Eq.mpr e h
 unfold vcX OkX at h'
 have hl : (List.replicate conts.length true).length = conts.length := List.length_replicate ..
 have := specX_of (base := List.replicate conts.length true) (Post := xpost conts.length Post) (hp := hpOf conts) (args := args) hcall hm hf' hc' 3000 (lt := lt) (by rw [hl]; exact h')
 rw [hl] at this
 exact this
theorem ok_X {P : Program} {pc : PCall} (hcall : PCallOk P pc) (hm : P.follows .mixedOrders = true) {f : FuncId} {na : List Value} (lt : List (Nat × List Nat)) {n r : Nat} {st : AS} {Post : Out → List (List Value) → Prop}
  {X : Prop} (e : vcLX P pc f na lt n r st (OkX P f na n Post) Post = X) (h : X) : OkX P f na n Post (lpC P f r) (lpK P f r) st := goodX_round hcall hm 3000 (Eq.mpr e h)
end Go.Proofs.YtegjnjmimfgijaaGreatDoor
