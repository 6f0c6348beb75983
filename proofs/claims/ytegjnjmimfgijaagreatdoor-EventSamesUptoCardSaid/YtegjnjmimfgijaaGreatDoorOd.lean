/-
  part.ints, part.corners, and the document's contour and vector. Conditions: at most a hundred elements of 64 bits.
-/
import Derived.Test.YtegjnjmimfgijaaGreatDoorOc
import Derived.Test.YtegjnjmimfgijaaGreatDoorMb
noncomputable section
namespace Go.Proofs.YtegjnjmimfgijaaGreatDoor
open Go Go.RowKit
set_option maxRecDepth 100000
def tabI : List Ent := [⟨32, c_cInt⟩, ⟨70, c_cList⟩, ⟨69, c_cText⟩]
def tabJ : List Ent := [⟨57, c_cInt⟩, ⟨76, c_cList⟩, ⟨58, c_cText⟩]
theorem tabI_ok : VCallOk Tryz.prog (tabCall tabI noCall) := tabCall_ok (by
  intro e he
  simp only [tabI, List.mem_cons, List.not_mem_nil, or_false] at he
  rcases he with rfl | rfl | rfl
  · exact ok_cInt
  · exact ok_cList
  · exact ok_cText) noCall_ok
theorem tabJ_ok : VCallOk Tryz.prog (tabCall tabJ noCall) := tabCall_ok (by
  intro e he
  simp only [tabJ, List.mem_cons, List.not_mem_nil, or_false] at he
  rcases he with rfl | rfl | rfl
  · exact ok_rInt
  · exact ok_rList
  · exact ok_rText) noCall_ok
theorem e_ints (n : Nat) (A : Array Value) (H : Code → List Fr → AS → Prop) (Post : Value → Prop) : vcP Tryz.prog (tabCall tabI noCall) 93 [(3, [3, 6, 7, 8])] [tree 1 n A] H Post = (True ∧ True ∧ True ∧ True ∧ True ∧ True ∧ True ∧ H (lpC Tryz.prog 93 3) (lpK Tryz.prog 93 3) (stV [(3, some (Value.string (ByteArray.mk #[]))), (6, some (tree 1 n A)), (7, some (Value.int IntKind.i64 (↑n : Int))), (8, some (Value.int IntKind.i64 0))] [] 0)) := by kernel_rfl
theorem l_ints (n : Nat) (A : Array Value) (s : ByteArray) (i : Int) (H : Code → List Fr → AS → Prop) (Post : Value → Prop) : vcLP Tryz.prog (tabCall tabI noCall) 93 [tree 1 n A] [(3, [3, 6, 7, 8])] 3 (stV [(3, some (.string s)), (6, some (tree 1 n A)), (7, some (.int .i64 n)), (8, some (.int .i64 i))] [] 0) H Post = (True ∧ pIf (decide (i < (↑n : Int))) ((0 ≤ i ∧ i < (↑n : Int)) ∧ cellAt A (Int.toNat i) 0 = Value.int IntKind.i64 (toI (cellAt A (Int.toNat i) 0)) ∧ True ∧ True ∧ True ∧ ∃ (n_1 : Int), eqL [Value.int IntKind.i64 (toI (cellAt A (Int.toNat i) 0))] [Value.int IntKind.i64 n_1] ∧ (-9223372036854775808 ≤ n_1 ∧ n_1 < 9223372036854775808) ∧ ByteArray.size s + ByteArray.size (bInt n_1) ≤ 9223372036854775807 ∧ True ∧ True ∧ True ∧ True ∧ True ∧ H (lpC Tryz.prog 93 3) (lpK Tryz.prog 93 3) (stV [(3, some (Value.string (s ++ bInt n_1))), (6, some (tree 1 n A)), (7, some (Value.int IntKind.i64 (↑n : Int))), (8, some (Value.int IntKind.i64 (IntKind.wrap IntKind.i64 (i + 1))))] [] 0)) (True ∧ True ∧ True ∧ Post (Value.string s))) := by kernel_rfl
theorem e_corners (n : Nat) (A : Array Value) (H : Code → List Fr → AS → Prop) (Post : Value → Prop) : vcP Tryz.prog (tabCall tabI noCall) 94 [(3, [3, 9, 10, 11])] [tree 2 n A] H Post = (True ∧ True ∧ True ∧ ∃ (n_1 : Nat), eqL [Value.int IntKind.i64 (↑n : Int)] [Value.int IntKind.i64 (↑n_1 : Int)] ∧ n_1 < 9223372036854775808 ∧ True ∧ True ∧ True ∧ True ∧ True ∧ True ∧ H (lpC Tryz.prog 94 3) (lpK Tryz.prog 94 3) (stV [(3, some (Value.string (bList n_1))), (9, some (tree 2 n A)), (10, some (Value.int IntKind.i64 (↑n : Int))), (11, some (Value.int IntKind.i64 0))] [] 0)) := by kernel_rfl
theorem l_corners (n : Nat) (A : Array Value) (s : ByteArray) (i : Int) (H : Code → List Fr → AS → Prop) (Post : Value → Prop) : vcLP Tryz.prog (tabCall tabI noCall) 94 [tree 2 n A] [(3, [3, 9, 10, 11])] 3 (stV [(3, some (.string s)), (9, some (tree 2 n A)), (10, some (.int .i64 n)), (11, some (.int .i64 i))] [] 0) H Post = (True ∧ pIf (decide (i < (↑n : Int))) ((0 ≤ i ∧ i < (↑n : Int)) ∧ (cellAt A (Int.toNat i) 0 = Value.int IntKind.i64 (toI (cellAt A (Int.toNat i) 0)) ∧ cellAt A (Int.toNat i) 1 = Value.int IntKind.i64 (toI (cellAt A (Int.toNat i) 1)) ∧ True) ∧ True ∧ 2 ≤ 2 ∧ True ∧ True ∧ True ∧ True ∧ True ∧ ∃ (n_1 : Int), eqL [Value.int IntKind.i64 (toI (cellAt A (Int.toNat i) 0))] [Value.int IntKind.i64 n_1] ∧ (-9223372036854775808 ≤ n_1 ∧ n_1 < 9223372036854775808) ∧ True ∧ ∃ (n_2 : Int), eqL [Value.int IntKind.i64 (toI (cellAt A (Int.toNat i) 1))] [Value.int IntKind.i64 n_2] ∧ (-9223372036854775808 ≤ n_2 ∧ n_2 < 9223372036854775808) ∧ True ∧ ByteArray.size (bInt n_1) + ByteArray.size (bInt n_2) ≤ 9223372036854775807 ∧ ByteArray.size s + ByteArray.size (bInt n_1 ++ bInt n_2) ≤ 9223372036854775807 ∧ True ∧ True ∧ True ∧ True ∧ True ∧ H (lpC Tryz.prog 94 3) (lpK Tryz.prog 94 3) (stV [(3, some (Value.string (s ++ (bInt n_1 ++ bInt n_2)))), (9, some (tree 2 n A)), (10, some (Value.int IntKind.i64 (↑n : Int))), (11, some (Value.int IntKind.i64 (IntKind.wrap IntKind.i64 (i + 1))))] [] 0)) (True ∧ True ∧ True ∧ Post (Value.string s))) := by kernel_rfl
theorem e_contour (n : Nat) (A : Array Value) (H : Code → List Fr → AS → Prop) (Post : Value → Prop) : vcP Tryz.prog (tabCall tabJ noCall) 98 [(3, [0, 3, 4])] [tree 2 n A] H Post = (True ∧ True ∧ True ∧ ∃ (n_1 : Nat), eqL [Value.int IntKind.i64 (↑n : Int)] [Value.int IntKind.i64 (↑n_1 : Int)] ∧ n_1 < 9223372036854775808 ∧ True ∧ True ∧ True ∧ True ∧ H (lpC Tryz.prog 98 3) (lpK Tryz.prog 98 3) (stV [(0, some (tree 2 n A)), (3, some (Value.string (bList n_1))), (4, some (Value.int IntKind.i64 0))] [] 0)) := by kernel_rfl
theorem l_contour (n : Nat) (A : Array Value) (s : ByteArray) (i : Int) (H : Code → List Fr → AS → Prop) (Post : Value → Prop) : vcLP Tryz.prog (tabCall tabJ noCall) 98 [tree 2 n A] [(3, [0, 3, 4])] 3 (stV [(0, some (tree 2 n A)), (3, some (.string s)), (4, some (.int .i64 i))] [] 0) H Post = (True ∧ True ∧ True ∧ True ∧ pIf (decide (i < (↑n : Int))) (True ∧ True ∧ True ∧ (0 ≤ i ∧ i < (↑n : Int)) ∧ True ∧ cellAt A (Int.toNat i) 0 = Value.int IntKind.i64 (toI (cellAt A (Int.toNat i) 0)) ∧ True ∧ True ∧ (0 ≤ i ∧ i < (↑n : Int)) ∧ True ∧ cellAt A (Int.toNat i) 1 = Value.int IntKind.i64 (toI (cellAt A (Int.toNat i) 1)) ∧ ∃ (n_1 : Int), eqL [Value.int IntKind.i64 (toI (cellAt A (Int.toNat i) 0))] [Value.int IntKind.i64 n_1] ∧ (-9223372036854775808 ≤ n_1 ∧ n_1 < 9223372036854775808) ∧ True ∧ ByteArray.size s + ByteArray.size (bInt n_1) ≤ 9223372036854775807 ∧ ∃ (n_2 : Int), eqL [Value.int IntKind.i64 (toI (cellAt A (Int.toNat i) 1))] [Value.int IntKind.i64 n_2] ∧ (-9223372036854775808 ≤ n_2 ∧ n_2 < 9223372036854775808) ∧ True ∧ ByteArray.size (s ++ bInt n_1) + ByteArray.size (bInt n_2) ≤ 9223372036854775807 ∧ True ∧ True ∧ True ∧ True ∧ True ∧ True ∧ H (lpC Tryz.prog 98 3) (lpK Tryz.prog 98 3) (stV [(0, some (tree 2 n A)), (3, some (Value.string (s ++ bInt n_1 ++ bInt n_2))), (4, some (Value.int IntKind.i64 (IntKind.wrap IntKind.i64 (i + 1))))] [] 0)) (True ∧ True ∧ True ∧ Post (Value.string s))) := by kernel_rfl
theorem e_vector (x y z : Int) (H : Code → List Fr → AS → Prop) (Post : Value → Prop) : vcP Tryz.prog (tabCall tabJ noCall) 99 [] [.agg [.int .i64 x, .int .i64 y, .int .i64 z].toArray] H Post = (True ∧ True ∧ True ∧ True ∧ True ∧ True ∧ True ∧ True ∧ ∃ (n : Int), eqL [Value.int IntKind.i64 x] [Value.int IntKind.i64 n] ∧ (-9223372036854775808 ≤ n ∧ n < 9223372036854775808) ∧ True ∧ ∃ (n_1 : Int), eqL [Value.int IntKind.i64 y] [Value.int IntKind.i64 n_1] ∧ (-9223372036854775808 ≤ n_1 ∧ n_1 < 9223372036854775808) ∧ True ∧ ByteArray.size (bInt n) + ByteArray.size (bInt n_1) ≤ 9223372036854775807 ∧ ∃ (n_2 : Int), eqL [Value.int IntKind.i64 z] [Value.int IntKind.i64 n_2] ∧ (-9223372036854775808 ≤ n_2 ∧ n_2 < 9223372036854775808) ∧ True ∧ ByteArray.size (bInt n ++ bInt n_1) + ByteArray.size (bInt n_2) ≤ 9223372036854775807 ∧ True ∧ True ∧ Post (Value.string (bInt n ++ bInt n_1 ++ bInt n_2))) := by kernel_rfl
theorem ba_assoc (a b c : ByteArray) : a ++ b ++ c = a ++ (b ++ c) := ba_ext (by rw [ByteArray.data_append, ByteArray.data_append, ByteArray.data_append, ByteArray.data_append, Array.append_assoc])
theorem ba_nil (a : ByteArray) : (⟨#[]⟩ : ByteArray) ++ a = a := ba_ext (by rw [ByteArray.data_append, Array.toList_append]; rfl)
theorem ba_size (a b : ByteArray) : (a ++ b).size = a.size + b.size := ByteArray.size_append
theorem bInt_size (n : Int) : (bInt n).size ≤ 9 := by
  unfold bInt
  split <;> rw [str_size] <;> exact hd_len _ _
theorem bText_size (s : ByteArray) : (bText s).size ≤ 9 + s.size := by
  unfold bText
  rw [ba_size, str_size]
  have := hd_len 2 s.size
  omega
theorem bList_size (n : Nat) : (bList n).size ≤ 9 := by unfold bList; rw [str_size]; exact hd_len _ _
def bInts (l : List Int) : ByteArray := l.foldl (fun s n => s ++ bInt n) ⟨#[]⟩
def bPts (l : List Pt) : ByteArray := l.foldl (fun s p => s ++ (bInt p.x ++ bInt p.y)) (bList l.length)
theorem fold_size {α : Type} (f : ByteArray → α → ByteArray) (c : Nat) (hf : ∀ s a, (f s a).size ≤ s.size + c) : ∀ (l : List α) (s : ByteArray), (l.foldl f s).size ≤ s.size + c * l.length
  | [], s => by simp
  | a :: l, s => by
    have h1 := fold_size f c hf l (f s a)
    have h2 := hf s a
    simp only [List.foldl_cons, List.length_cons, Nat.mul_add, Nat.mul_one]
    omega
theorem fold_take {α β : Type} (f : β → α → β) (s : β) {l : List α} {i : Nat} (h : i < l.length) : (l.take (i + 1)).foldl f s = f ((l.take i).foldl f s) l[i] := by
  rw [← List.take_append_getElem h, List.foldl_append]
  rfl
theorem bPts_size (l : List Pt) : (bPts l).size ≤ 9 + 18 * l.length := by
  have h := fold_size (fun s (p : Pt) => s ++ (bInt p.x ++ bInt p.y)) 18 (fun s p => by
    rw [ba_size, ba_size]
    have := bInt_size p.x
    have := bInt_size p.y
    omega) l (bList l.length)
  have := bList_size l.length
  unfold bPts
  omega
/-- Integers as a slice that was built at once. -/
abbrev encI (l : List Int) : Array Value := encL l
def c_ints (args : List Value) (Post : Value → Prop) : Prop := ∃ l : List Int, args = [tree 1 l.length (encI l)] ∧ l.length ≤ 1000 ∧ (∀ n ∈ l, In64 n) ∧ Post (.string (bInts l))
def c_pts (args : List Value) (Post : Value → Prop) : Prop := ∃ l : List Pt, args = [trPt l] ∧ l.length ≤ 1000 ∧ (∀ p ∈ l, InPt p) ∧ Post (.string (bPts l))
def c_vector (args : List Value) (Post : Value → Prop) : Prop := ∃ v : Vec3, args = [.agg [.int .i64 v.x, .int .i64 v.y, .int .i64 v.z].toArray] ∧ InV v ∧ Post (.string (bInt v.x ++ bInt v.y ++ bInt v.z))
theorem ok_vector : EntOk Tryz.prog ⟨99, c_vector⟩ := by
  rintro args Post ⟨v, rfl, hv, h⟩
  refine pure_P (vc := tabCall tabJ noCall) tabJ_ok mixed (by kernel_rfl) (by kernel_rfl) _ (e_vector v.x v.y v.z _ _) ?_
  simp only [true_and]
  have h1 := bInt_size v.x
  have h2 := bInt_size v.y
  have h3 := bInt_size v.z
  exact ⟨v.x, rfl, hv.1, v.y, rfl, hv.2.1, by omega, v.z, rfl, hv.2.2, by rw [ba_size]; omega, h⟩
theorem cell_int {l : List Int} {i : Nat} (h : i < l.length) : cellAt (encI l) i 0 = .int .i64 l[i] := by
  rw [cellAt_encL' h]
  rfl
theorem ok_ints : EntOk Tryz.prog ⟨93, c_ints⟩ := by
  rintro args Post ⟨l, rfl, hn, hin, h⟩
  refine pure_P (vc := tabCall tabI noCall) tabI_ok mixed (by kernel_rfl) (by kernel_rfl) _ (e_ints l.length (encI l) _ _) ?_
  simp only [true_and]
  let f : ByteArray → Int → ByteArray := fun s n => s ++ bInt n
  have bound : ∀ i, ((l.take i).foldl f ⟨#[]⟩).size ≤ 9 * i := fun i => by
    have := fold_size f 9 (fun s a => by show (s ++ bInt a).size ≤ _; rw [ba_size]; have := bInt_size a; omega) (l.take i) ⟨#[]⟩
    have h0 : (⟨#[]⟩ : ByteArray).size = 0 := rfl
    have := List.length_take_le i l
    omega
  refine down (n := l.length) (p := fun i => OkP 93 [tree 1 l.length (encI l)] 3 Post (stV [(3, some (.string ((l.take i).foldl f ⟨#[]⟩))), (6, some (tree 1 l.length (encI l))), (7, some (.int .i64 l.length)), (8, some (.int .i64 i))] [] 0)) ?_ (fun i hi ih => ?_)
  · refine ok_P (vc := tabCall tabI noCall) tabI_ok mixed _ (l_ints _ _ _ _ _ _) ?_
    simp only [true_and, pIf_iff, decide_eq_true_eq, decide_eq_false_iff_not]
    refine ⟨fun h' => by omega, fun _ => ?_⟩
    rwa [List.take_length]
  · refine ok_P (vc := tabCall tabI noCall) tabI_ok mixed _ (l_ints _ _ _ _ _ _) ?_
    simp only [true_and, pIf_iff, decide_eq_true_eq, decide_eq_false_iff_not, Int.toNat_natCast, cell_int hi, toI]
    refine ⟨fun _ => ⟨by omega, l[i], rfl, hin _ (List.getElem_mem hi), ?_, ?_⟩, fun h' => by omega⟩
    · have := bound i
      have := bInt_size l[i]
      omega
    · rw [wrapSucc (by omega)]
      rw [fold_take f _ hi] at ih
      exact ih
theorem pts_step (s : ByteArray) (p : Pt) : (s ++ (bInt p.x ++ bInt p.y)).size ≤ s.size + 18 := by
  rw [ba_size, ba_size]
  have := bInt_size p.x
  have := bInt_size p.y
  omega
theorem pts_bound (l : List Pt) (i : Nat) (hn : l.length ≤ 1000) : ((l.take i).foldl (fun s (p : Pt) => s ++ (bInt p.x ++ bInt p.y)) (bList l.length)).size ≤ 20000 := by
  have h1 := fold_size _ 18 pts_step (l.take i) (bList l.length)
  have h2 := bList_size l.length
  have h3 := List.length_take_le' i l
  omega
theorem ok_corners : EntOk Tryz.prog ⟨94, c_pts⟩ := by
  rintro args Post ⟨l, rfl, hn, hin, h⟩
  refine pure_P (vc := tabCall tabI noCall) tabI_ok mixed (by kernel_rfl) (by kernel_rfl) _ (e_corners l.length (encL l) _ _) ?_
  simp only [true_and]
  refine ⟨l.length, rfl, by omega, ?_⟩
  refine down (n := l.length) (p := fun i => OkP 94 [trPt l] 3 Post (stV [(3, some (.string ((l.take i).foldl (fun s (p : Pt) => s ++ (bInt p.x ++ bInt p.y)) (bList l.length)))), (9, some (trPt l)), (10, some (.int .i64 l.length)), (11, some (.int .i64 i))] [] 0)) ?_ (fun i hi ih => ?_)
  · refine ok_P (vc := tabCall tabI noCall) tabI_ok mixed _ (l_corners _ _ _ _ _ _) ?_
    simp only [true_and, pIf_iff, decide_eq_true_eq, decide_eq_false_iff_not]
    refine ⟨fun h' => by omega, fun _ => ?_⟩
    rwa [List.take_length]
  · refine ok_P (vc := tabCall tabI noCall) tabI_ok mixed _ (l_corners _ _ _ _ _ _) ?_
    simp only [true_and, and_true, pIf_iff, decide_eq_true_eq, decide_eq_false_iff_not, Int.toNat_natCast, cell_pt hi, toI]
    have hp := hin _ (List.getElem_mem hi)
    have b1 := bInt_size l[i].x
    have b2 := bInt_size l[i].y
    have b3 := pts_bound l i hn
    refine ⟨fun _ => ⟨by omega, by omega, l[i].x, rfl, hp.1, l[i].y, rfl, hp.2, by omega, by rw [ba_size]; omega, ?_⟩, fun h' => by omega⟩
    rw [wrapSucc (by omega)]
    rw [fold_take _ _ hi] at ih
    exact ih
theorem ok_contour : EntOk Tryz.prog ⟨98, c_pts⟩ := by
  rintro args Post ⟨l, rfl, hn, hin, h⟩
  refine pure_P (vc := tabCall tabJ noCall) tabJ_ok mixed (by kernel_rfl) (by kernel_rfl) _ (e_contour l.length (encL l) _ _) ?_
  simp only [true_and]
  refine ⟨l.length, rfl, by omega, ?_⟩
  refine down (n := l.length) (p := fun i => OkP 98 [trPt l] 3 Post (stV [(0, some (trPt l)), (3, some (.string ((l.take i).foldl (fun s (p : Pt) => s ++ (bInt p.x ++ bInt p.y)) (bList l.length)))), (4, some (.int .i64 i))] [] 0)) ?_ (fun i hi ih => ?_)
  · refine ok_P (vc := tabCall tabJ noCall) tabJ_ok mixed _ (l_contour _ _ _ _ _ _) ?_
    simp only [true_and, pIf_iff, decide_eq_true_eq, decide_eq_false_iff_not]
    refine ⟨fun h' => by omega, fun _ => ?_⟩
    rwa [List.take_length]
  · refine ok_P (vc := tabCall tabJ noCall) tabJ_ok mixed _ (l_contour _ _ _ _ _ _) ?_
    simp only [true_and, and_true, pIf_iff, decide_eq_true_eq, decide_eq_false_iff_not, Int.toNat_natCast, cell_pt hi, toI]
    have hp := hin _ (List.getElem_mem hi)
    have b1 := bInt_size l[i].x
    have b2 := bInt_size l[i].y
    have b3 := pts_bound l i hn
    refine ⟨fun _ => ⟨by omega, by omega, l[i].x, rfl, hp.1, by omega, l[i].y, rfl, hp.2, by rw [ba_size]; omega, ?_⟩, fun h' => by omega⟩
    rw [wrapSucc (by omega), ba_assoc]
    rw [fold_take _ _ hi] at ih
    exact ih
end Go.Proofs.YtegjnjmimfgijaaGreatDoor
