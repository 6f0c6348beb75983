/-
  Put together out of several texts, each in its own namespace's block. Conditions: as each theorem states them.
-/
import Derived.Test.YtngginofamlkkaaGreatDoorQSgb
import Derived.Test.YtngginofamlkkaaGreatDoorQPwd
import Derived.Laws.RangeAny
import Derived.Test.YtngginofamlkkaaGreatDoorQPux
noncomputable section
namespace Go.Proofs.YtngginofamlkkaaGreatDoor
open Go Go.RowKit
set_option maxRecDepth 100000
set_option maxHeartbeats 8000000
def few16 (p : Part) : Prop := p.id.size ≤ 200 ∧ p.node.size ≤ 200 ∧ p.grade.size ≤ 200 ∧ p.sect.size ≤ 200 ∧ p.outer.length ≤ 40 ∧ p.holes.length ≤ 12 ∧ ∀ h ∈ p.holes, h.length ≤ 40
instance (p : Part) : Decidable (few16 p) := by unfold few16; infer_instance
theorem Vec3.ext' {p q : Vec3} (h1 : p.x = q.x) (h2 : p.y = q.y) (h3 : p.z = q.z) : p = q := by
 cases p; cases q; cases h1; cases h2; cases h3; rfl
theorem Part.ext' {p q : Part} (h1 : p.id = q.id) (h2 : p.rev = q.rev) (h3 : p.kind = q.kind) (h4 : p.node = q.node) (h5 : p.grade = q.grade) (h6 : p.thick = q.thick) (h7 : p.outer = q.outer) (h8 : p.holes = q.holes) (h9 : p.sect = q.sect)
  (h10 : p.long = q.long) (h11 : p.mass = q.mass) (h12 : p.centre = q.centre) (h13 : p.at_ = q.at_) (h14 : p.turn = q.turn) : p = q := by
 cases p; cases q
 simp only at h1 h2 h3 h4 h5 h6 h7 h8 h9 h10 h11 h12 h13 h14
 simp only [h1, h2, h3, h4, h5, h6, h7, h8, h9, h10, h11, h12, h13, h14]
theorem ext_list (s : ByteArray) (a b : Nat) : (s.extract a b).data.toList = (s.data.toList.drop a).take (b - a) := by
 rw [ByteArray.data_extract, Array.toList_extract]
def callSp : VCall := inlCall Tryz.prog [226, 248] (tabCall [⟨225, c_Cnt⟩, ⟨260, c_Idx⟩] noCall) 3
theorem callSp_ok : VCallOk Tryz.prog callSp := inlCall_ok mixed (tabCall_ok (by
 intro e he
 simp only [List.mem_cons, List.not_mem_nil, or_false] at he
 rcases he with rfl | rfl
 ·exact ok_Cnt
 ·exact ok_Idx) noCall_ok) 3
theorem e_gs (s : ByteArray) (H : HT) (Post : PV) : vcP Tryz.prog callSp 193 [(11, [0, 1, 2, 3, 9, 10])] [.string s, .string dot, .int .i64 0, .int .i64 (-1)] H Post = (let q2 := ((↑(Lib.countByte (Array.toList (ByteArray.data s)) 46) : Int) + 1); let q1 := (if IntKind.wrap IntKind.i64 ((↑s.size : Int) + 1) < IntKind.wrap IntKind.i64 q2 then IntKind.wrap IntKind.i64 ((↑s.size : Int) + 1) else IntKind.wrap IntKind.i64 q2); T8 (True ∧ dot = dot ∧ T8 (True ∧ ((0 ≤ if IntKind.wrap IntKind.i64 ((↑s.size : Int) + 1) < IntKind.wrap IntKind.i64 q2 then IntKind.wrap IntKind.i64 ((↑s.size : Int) + 1) else IntKind.wrap IntKind.i64 q2) ∧ (q1 ≤ if IntKind.wrap IntKind.i64 ((↑s.size : Int) + 1) < IntKind.wrap IntKind.i64 q2 then IntKind.wrap IntKind.i64 ((↑s.size : Int) + 1) else IntKind.wrap IntKind.i64 q2) ∧ q1 ≤ 2 ^ 25) ∧ T4 (T2 ((NLs (zrow (Int.toNat q1) [vz]) ∧ True) ∧ H (lpC Tryz.prog 193 11) (lpK Tryz.prog 193 11) (stV [(0, some (vs s)), (1, some (vs dot)), (2, some (vi 0)), (3, some (vi (IntKind.wrap IntKind.i64 (q1 - 1)))), (9, some (Value.slice (some (Addr.mk 0 0 none)) (Int.toNat q1) 1)), (10, some (vi 0))] [(0, some (AObj.cells (zrow (Int.toNat q1) [vz]) true))] 1)))))) := by kernel_rfl
theorem l_gs (s r : ByteArray) (L : List Value) (N : Nat) (c i : Int) (H : HT) (Post : PV) : vcLP Tryz.prog callSp 193 [.string s, .string dot, .int .i64 0, .int .i64 (-1)] [(11, [0, 1, 2, 3, 9, 10])] 11 (stV [(0, some (.string r)), (1, some (.string dot)), (2, some (.int .i64 0)), (3, some (.int .i64 c)), (9, some (.slice (some ⟨0, 0, none⟩) N 1)), (10, some (.int .i64 i))] [(0, some (.cells L true))] 1) H Post = (let q4 := Array.toList (ByteArray.data r); let q3 := IntKind.wrap IntKind.i64 (i + 1); let q2 := IntKind.wrap IntKind.i64 (Lib.indexByte q4 46 + 0); let q1 := (T2 (True ∧ (0 ≤ i ∧ i < (↑N : Int)) ∧ 0 + Int.toNat i * 1 + 1 ≤ List.length L ∧ T2 (True ∧ (0 ≤ IntKind.wrap IntKind.i64 (i + 1) ∧ True ∧ 0 ≤ Int.toNat q3 ∧ Int.toNat q3 ≤ N) ∧ True ∧ (0 + (Int.toNat q3 - 0) * 1 ≤ List.length (setFrom L (0 + Int.toNat i * 1) [vs r]) ∧ NLs (List.drop 0 (setFrom L (0 + Int.toNat i * 1) [vs r]))) ∧ Post (tree 1 (Int.toNat q3 - 0) (chunks 1 (Int.toNat q3 - 0) (List.drop 0 (setFrom L (0 + Int.toNat i * 1) [vs r]))))))); T2 (True ∧ pIf (decide (i < c)) (T8 (T4 (T2 (True ∧ pIf (decide (dot = r)) (T8 (T4 (True ∧ (toI (vi 0) ≤ IntKind.wrap IntKind.i64 (0 + 0) ∧ True ∧ 0 ≤ 0 ∧ 0 ≤ r.size) ∧ (0 ≤ i ∧ i < (↑N : Int)) ∧ 0 + Int.toNat i * 1 + 1 ≤ List.length L ∧ T4 (True ∧ (True ∧ toI (vi 0) ≤ IntKind.wrap IntKind.i64 (0 + (↑dot.size : Int)) ∧ 1 ≤ r.size ∧ r.size ≤ r.size) ∧ T4 (True ∧ (NLs (setFrom L (0 + Int.toNat i * 1) [vs (ByteArray.extract r 0 0)]) ∧ True) ∧ H (lpC Tryz.prog 193 11) (lpK Tryz.prog 193 11) (stV [(0, some (vs (ByteArray.extract r 1 r.size))), (1, some (vs dot)), (2, some (vi 0)), (3, some (vi c)), (9, some (Value.slice (some (Addr.mk 0 0 none)) N 1)), (10, some (vi q3))] [(0, some (AObj.cells (setFrom L (0 + Int.toNat i * 1) [vs (ByteArray.extract r 0 0)]) true))] 1)))))) (T4 (T2 (True ∧ (toI (vi 0) ≤ 0 ∧ toI (vi 0) < (↑dot.size : Int)) ∧ toI (vi (↑(UInt8.toNat (Array.getD (ByteArray.data dot) (Int.toNat 0) 0)) : Int)) = 46 ∧ T4 (True ∧ pIf (decide (Lib.indexByte q4 46 < 0)) q1 (T4 (T2 ((0 ≤ IntKind.wrap IntKind.i64 (Lib.indexByte q4 46 + 0) ∧ True ∧ 0 ≤ Int.toNat q2 ∧ Int.toNat q2 ≤ r.size) ∧ (0 ≤ i ∧ i < (↑N : Int)) ∧ 0 + Int.toNat i * 1 + 1 ≤ List.length L ∧ T4 (True ∧ (True ∧ 0 ≤ IntKind.wrap IntKind.i64 (Lib.indexByte q4 46 + (↑1 : Int)) ∧ Int.toNat (IntKind.wrap IntKind.i64 (Lib.indexByte q4 46 + (↑1 : Int))) ≤ r.size ∧ r.size ≤ r.size) ∧ T4 (True ∧ (NLs (setFrom L (0 + Int.toNat i * 1) [vs (ByteArray.extract r 0 (Int.toNat q2))]) ∧ True) ∧ H (lpC Tryz.prog 193 11) (lpK Tryz.prog 193 11) (stV [(0, some (vs (ByteArray.extract r (Int.toNat (IntKind.wrap IntKind.i64 (Lib.indexByte q4 46 + (↑1 : Int)))) r.size))), (1, some (vs dot)), (2, some (vi 0)), (3, some (vi c)), (9, some (Value.slice (some (Addr.mk 0 0 none)) N 1)), (10, some (vi q3))] [(0, some (AObj.cells (setFrom L (0 + Int.toNat i * 1) [vs (ByteArray.extract r 0 (Int.toNat q2))]) true))] 1)))))))))))))) q1)) := by kernel_rfl
def splitL : List UInt8 → List (List UInt8)
 | [] => [[]]
 | c :: l => if c = 46 then [] :: splitL l else match splitL l with
  | p :: ps => (c :: p) :: ps
  | [] => [[c]]
def pieces (s : ByteArray) : List ByteArray := (splitL s.data.toList).map fun l => ⟨l.toArray⟩
theorem splitL_none : ∀ {l : List UInt8}, Lib.countByte l 46 = 0 → splitL l = [l]
 | [], _ => rfl
 | c :: l, h => by
  unfold Lib.countByte at h
  rw [List.count_cons] at h
  by_cases hc : c = 46
  ·subst hc; simp at h
  ·have h0 : Lib.countByte l 46 = 0 := by unfold Lib.countByte; omega
   simp only [splitL, hc, if_false, splitL_none h0]
theorem idx_neg : ∀ {l : List UInt8}, Lib.indexByte l 46 < 0 → Lib.countByte l 46 = 0
 | [], _ => rfl
 | c :: l, h => by
  unfold Lib.indexByte at h
  by_cases hc : c = 46
  ·subst hc; simp at h
  ·have hb : (c == 46) = false := by simp [hc]
   rw [hb] at h
   simp only [Bool.false_eq_true, if_false] at h
   have hge := Lib.indexByte_ge l 46
   split at h
   ·rename_i h1
    have ih := idx_neg (l := l) (by rw [beq_iff_eq] at h1; omega)
    unfold Lib.countByte at ih ⊢
    rw [List.count_cons, ih, hb]
    rfl
   ·rename_i h1
    simp only [beq_iff_eq] at h1
    omega
theorem idx_pos : ∀ {l : List UInt8} {m : Nat}, Lib.indexByte l 46 = m → m < l.length ∧ splitL l = l.take m :: splitL (l.drop (m + 1)) ∧ Lib.countByte l 46 = Lib.countByte (l.drop (m + 1)) 46 + 1
 | [], m, h => by simp [Lib.indexByte] at h
 | c :: l, m, h => by
  unfold Lib.indexByte at h
  by_cases hc : c = 46
  ·subst hc
   simp only [beq_self_eq_true, if_true] at h
   obtain rfl : m = 0 := by omega
   refine ⟨by simp, by simp [splitL], ?_⟩
   unfold Lib.countByte
   simp
  ·have hb : (c == 46) = false := by simp [hc]
   rw [hb] at h
   simp only [Bool.false_eq_true, if_false] at h
   split at h
   ·omega
   ·rename_i h1
    simp only [beq_iff_eq] at h1
    have hge := Lib.indexByte_ge l 46
    obtain ⟨k, rfl⟩ : ∃ k, m = k + 1 := ⟨m - 1, by omega⟩
    obtain ⟨i1, i2, i3⟩ := idx_pos (l := l) (m := k) (by omega)
    refine ⟨by simp; omega, ?_, ?_⟩
    ·simp only [splitL, hc, if_false, i2, List.take_succ_cons, List.drop_succ_cons]
    ·unfold Lib.countByte at i3 ⊢
     rw [List.count_cons, hb, List.drop_succ_cons]
     simpa using i3
theorem splitL_len : ∀ l : List UInt8, (splitL l).length = Lib.countByte l 46 + 1
 | [] => rfl
 | c :: l => by
  have ih := splitL_len l
  unfold Lib.countByte at ih ⊢
  rw [List.count_cons]
  by_cases hc : c = 46
  ·subst hc; simp [splitL, ih]
  ·have hb : (c == 46) = false := by simp [hc]
   simp only [splitL, hc, if_false, hb, Bool.false_eq_true, Nat.add_zero]
   split
   ·rename_i p ps hp
    rw [hp] at ih
    simpa using ih
   ·rename_i hp
    rw [hp] at ih
    simp at ih
theorem pieces_none {r : ByteArray} (h : Lib.countByte r.data.toList 46 = 0) : pieces r = [r] := by
 unfold pieces
 rw [splitL_none h]
 simp
theorem pieces_some {r : ByteArray} {m : Nat} (h : Lib.indexByte r.data.toList 46 = m) : m < r.size ∧ pieces r = r.extract 0 m :: pieces (r.extract (m + 1) r.size) ∧ Lib.countByte r.data.toList 46 = Lib.countByte (r.extract (m + 1) r.size).data.toList 46 + 1 := by
 obtain ⟨h1, h2, h3⟩ := idx_pos h
 have hl : r.data.toList.length = r.size := by rw [Array.length_toList]; rfl
 have e : (r.extract (m + 1) r.size).data.toList = r.data.toList.drop (m + 1) := by rw [ext_list, List.take_of_length_le (by rw [List.length_drop, hl]; omega)]
 refine ⟨by omega, ?_, by rw [e]; exact h3⟩
 unfold pieces
 rw [e, h2, List.map_cons]
 congr 1
 have : (r.extract 0 m).data.toList = r.data.toList.take m := by rw [ext_list, List.drop_zero, Nat.sub_zero]
 rw [← this]
theorem ext_size (s : ByteArray) (a : Nat) : (s.extract a s.size).size = s.size - a := by
 rw [ByteArray.size_extract]; omega
theorem encL_str (l : List ByteArray) : encL l = (l.map Value.string).toArray := rfl
theorem set_take {L : List Value} {k : Nat} {v : Value} (h : k < L.length) : (L.set k v).take (k + 1) = L.take k ++ [v] := by
 rw [List.take_succ_eq_append_getElem (by simpa using h), List.getElem_set_self]
 congr 1
 refine List.ext_getElem? fun i => ?_
 simp only [List.getElem?_take]
 split
 ·rw [List.getElem?_set_ne (by omega)]
 ·rfl
theorem NLs_set {L : List Value} {k : Nat} {v : Value} (h : NLs L) (hv : nl1 v = true) : NLs (L.set k v) := fun u hu => by
 rcases List.mem_or_eq_of_mem_set hu with hu | rfl
 ·exact h u hu
 ·exact hv
def c_gs (args : List Value) (Post : Value → Prop) : Prop := ∃ s : ByteArray, args = [.string s, .string dot, .int .i64 0, .int .i64 (-1)] ∧ s.size < 16777216 ∧ Post (tree 1 (pieces s).length (encL (pieces s)))
theorem ok_gs : EntOk Tryz.prog ⟨193, c_gs⟩ := by
 rintro args Post ⟨s, rfl, hs, h⟩
 refine pure_P (vc := callSp) callSp_ok mixed (by kernel_rfl) (by kernel_rfl) _ (e_gs s _ _) ?_
 have hcl : Lib.countByte s.data.toList 46 ≤ s.size := by
  have h1 := List.count_le_length (a := (46 : UInt8)) (l := s.data.toList)
  have hl : s.data.toList.length = s.size := by rw [Array.length_toList]; rfl
  unfold Lib.countByte
  omega
 have hlen : (pieces s).length = Lib.countByte s.data.toList 46 + 1 := by unfold pieces; rw [List.length_map, splitL_len]
 have key : ∀ (n k : Nat) (r : ByteArray) (done : List ByteArray) (L : List Value), n + k = Lib.countByte s.data.toList 46 → done.length = k → done ++ pieces r = pieces s → L.length = Lib.countByte s.data.toList 46 + 1 → L.take k = done.map Value.string → NLs L → k + Lib.countByte r.data.toList 46 = Lib.countByte s.data.toList 46 → r.size ≤ s.size →
   OkP 193 [.string s, .string dot, .int .i64 0, .int .i64 (-1)] 11 Post (stV [(0, some (.string r)), (1, some (.string dot)), (2, some (.int .i64 0)), (3, some (.int .i64 (Lib.countByte s.data.toList 46 : Nat))), (9, some (.slice (some ⟨0, 0, none⟩) (Lib.countByte s.data.toList 46 + 1) 1)), (10, some (.int .i64 k))] [(0, some (.cells L true))] 1) := by
  intro n
  induction n with
  | zero =>
   intro k r done L hk hd hp hL ht hn hr hrs
   have hc0 : Lib.countByte r.data.toList 46 = 0 := by omega
   refine ok_P (vc := callSp) callSp_ok mixed _ (l_gs s r L _ _ _ _ _) ?_
   simp only [true_and]
   refine pIf_intro (fun hh => ?_) (fun _ => ?_)
   ·have := of_decide_eq_true hh; omega
   rw [wrapSucc (by omega)]
   have eN : ((k + 1 : Nat) : Int).toNat = k + 1 := by omega
   have ek : (k : Int).toNat = k := by omega
   have eset : setFrom L (0 + (k : Int).toNat * 1) [Value.string r] = L.set k (.string r) := by rw [ek, Nat.zero_add, Nat.mul_one]; rfl
   rw [eset, eN, List.drop_zero, Nat.sub_zero]
   have epc : pieces s = done ++ [r] := by rw [← hp, pieces_none hc0]
   have efin : chunks 1 (k + 1) (L.set k (.string r)) = encL (pieces s) := by
    show ((L.set k (Value.string r)).take (k + 1)).toArray = _
    rw [set_take (by omega), ht, epc, encL_str, List.map_append]
    rfl
   rw [efin]
   have elen : (pieces s).length = k + 1 := by rw [hlen]; omega
   rw [elen] at h
   refine ⟨⟨by omega, by omega⟩, by rw [ek]; omega, ⟨by omega, by omega, by omega⟩, ⟨by rw [List.length_set]; omega, NLs_set hn rfl⟩, ?_⟩
   exact h
  | succ n ih =>
   intro k r done L hk hd hp hL ht hn hr hrs
   refine ok_P (vc := callSp) callSp_ok mixed _ (l_gs s r L _ _ _ _ _) ?_
   simp only [true_and]
   have eN : ((k + 1 : Nat) : Int).toNat = k + 1 := by omega
   have ek : (k : Int).toNat = k := by omega
   refine pIf_intro (fun _ => ?_) (fun hh => ?_)
   case refine_2 => have := of_decide_eq_false hh; omega
   have eset : ∀ v, setFrom L (0 + (k : Int).toNat * 1) [v] = L.set k v := fun v => by rw [ek, Nat.zero_add, Nat.mul_one]; rfl
   simp only [eset]
   rw [wrapSucc (by omega)]
   have step : ∀ m : Nat, Lib.indexByte r.data.toList 46 = m → OkP 193 [.string s, .string dot, .int .i64 0, .int .i64 (-1)] 11 Post (stV [(0, some (.string (r.extract (m + 1) r.size))), (1, some (.string dot)), (2, some (.int .i64 0)), (3, some (.int .i64 (Lib.countByte s.data.toList 46 : Nat))), (9, some (.slice (some ⟨0, 0, none⟩) (Lib.countByte s.data.toList 46 + 1) 1)), (10, some (.int .i64 ((k + 1 : Nat) : Int)))] [(0, some (.cells (L.set k (.string (r.extract 0 m))) true))] 1) := fun m hm => by
    obtain ⟨g1, g2, g3⟩ := pieces_some hm
    refine ih (k + 1) _ (done ++ [r.extract 0 m]) _ (by omega) (by simp [hd]) (by rw [← hp, g2]; simp) (by rw [List.length_set]; exact hL) ?_ (NLs_set hn rfl) (by omega) ?_
    ·rw [set_take (by omega), ht, List.map_append]; rfl
    ·have := ext_size r (m + 1)
     omega
   have hz : (IntKind.i64.wrap (0 + 0)) = 0 := by decide
   refine pIf_intro (fun hh => ?_) (fun hh => ?_)
   ·obtain rfl := of_decide_eq_true hh
    have hm : Lib.indexByte dot.data.toList 46 = ((0 : Nat) : Int) := by decide
    have := step 0 hm
    refine ⟨⟨by decide, by decide, by decide⟩, ⟨by omega, by omega⟩, by rw [ek]; omega, ⟨by decide, by decide, by decide⟩, ⟨NLs_set hn rfl, trivial⟩, this⟩
   ·refine ⟨⟨by decide, by decide⟩, by decide, pIf_intro (fun hm => ?_) (fun hm => ?_)⟩
    ·have h1 := idx_neg (of_decide_eq_true hm)
     omega
    ·have h1 := of_decide_eq_false hm
     obtain ⟨m, hm'⟩ : ∃ m : Nat, Lib.indexByte r.data.toList 46 = m := ⟨(Lib.indexByte r.data.toList 46).toNat, by omega⟩
     obtain ⟨g1, g2, g3⟩ := pieces_some hm'
     have w0 : IntKind.i64.wrap ((m : Int) + 0) = m := by rw [Int.add_zero]; exact wrapNat (by omega)
     have w1 : IntKind.i64.wrap ((m : Int) + 1) = ((m + 1 : Nat) : Int) := wrapSucc (by omega)
     rw [hm', w0]
     rw [w1]
     have em : (m : Int).toNat = m := by omega
     have em1 : ((m + 1 : Nat) : Int).toNat = m + 1 := by omega
     rw [em, em1]
     refine ⟨⟨by omega, by omega, by omega⟩, ⟨by omega, by omega⟩, by rw [ek]; omega, ⟨by omega, by omega, by omega⟩, ⟨NLs_set hn rfl, trivial⟩, step m hm'⟩
 have e1 : (if IntKind.i64.wrap ((s.size : Int) + 1) < IntKind.i64.wrap (((Lib.countByte s.data.toList 46 : Nat) : Int) + 1) then IntKind.i64.wrap ((s.size : Int) + 1) else IntKind.i64.wrap (((Lib.countByte s.data.toList 46 : Nat) : Int) + 1)) = ((Lib.countByte s.data.toList 46 + 1 : Nat) : Int) := by
  rw [wrap64 (by omega) (by omega), wrap64 (by omega) (by omega)]
  split <;> omega
 simp only [true_and]
 rw [e1]
 have e2 : ((Lib.countByte s.data.toList 46 + 1 : Nat) : Int).toNat = Lib.countByte s.data.toList 46 + 1 := by omega
 have e3 : IntKind.i64.wrap (((Lib.countByte s.data.toList 46 + 1 : Nat) : Int) - 1) = ((Lib.countByte s.data.toList 46 : Nat) : Int) := by
  rw [wrap64 (by omega) (by omega)]; omega
 rw [e2, e3]
 have hzl : (zrow (Lib.countByte s.data.toList 46 + 1) [Value.string ⟨#[]⟩]).length = Lib.countByte s.data.toList 46 + 1 := by rw [zrow_len]; simp
 have hnl : NLs (zrow (Lib.countByte s.data.toList 46 + 1) [Value.string ⟨#[]⟩]) := fun v hv => by
  obtain ⟨i, hi, rfl⟩ := List.mem_iff_getElem.1 hv
  have := zrow_get (List.getElem?_eq_getElem hi)
  rw [show i % [Value.string ⟨#[]⟩].length = 0 from Nat.mod_one i] at this
  simp only [List.getElem?_cons_zero, Option.some.injEq] at this
  rw [← this]
  rfl
 refine ⟨⟨by omega, by omega, by omega⟩, ⟨hnl, trivial⟩, ?_⟩
 exact key _ 0 s [] _ (Nat.add_zero _) rfl rfl hzl rfl hnl (Nat.zero_add _) (Nat.le_refl _)
theorem e_isName (s : ByteArray) (H : HT) (Post : PV) : vcP Tryz.prog noCall 192 [(4, [0, 15])] [.string s] H Post = (T2 (True ∧ pIf (decide (s = ByteArray.mk #[])) (T4 (Post (vb false))) (T4 (pIf (decide ((↑s.size : Int) > 16)) (T2 (True ∧ Post (vb false))) (T4 ((True ∧ True) ∧ H (lpC Tryz.prog 192 4) (lpK Tryz.prog 192 4) (stV [(0, some (vs s)), (15, some (pt 0))] [(0, some (AObj.iter s 0))] 1))))))) := by kernel_rfl
theorem l_isName (s : ByteArray) (p : Nat) (H : HT) (Post : PV) : vcLP Tryz.prog noCall 192 [.string s] [(4, [0, 15])] 4 (stV [(0, some (.string s)), (15, some (.pointer (some ⟨0, 0, none⟩)))] [(0, some (.iter s p))] 1) H Post = (let q3 := (↑(Prod.fst (Utf8.decode s p)) : Int); let q8 := stV [(0, some (vs s)), (15, some (pt 0))] [(0, some (AObj.iter s (p + Prod.snd (Utf8.decode s p))))] 1; let q1 := (True ∧ pIf (decide ((↑p : Int) = 0)) (T4 (True ∧ Post (vb false))) (T4 (T2 ((True ∧ True) ∧ H (lpC Tryz.prog 192 4) (lpK Tryz.prog 192 4) q8)))); let q4 := (T4 (pIf (decide (q3 = 45)) (T4 (T2 q1)) (T4 (T2 (True ∧ pIf (decide ((↑p : Int) = 0)) (T4 (True ∧ Post (vb false))) (T4 (T2 (True ∧ Post (vb false))))))))); let q10 := T4 (True ∧ pIf (decide (q3 = 95)) (T8 q1) q4); let q2 := True ∧ (True ∧ True) ∧ H (lpC Tryz.prog 192 4) (lpK Tryz.prog 192 4) q8; let q7 := T4 (pIf (decide (q3 = 45)) (T4 (T2 q2)) (T4 (T2 q2))); let q9 := T2 (True ∧ pIf (decide (q3 ≤ 57)) (T8 (T2 q2)) (T4 (pIf (decide (q3 = 95)) (T8 q2) q7))); let q6 := T2 (True ∧ pIf (decide (q3 ≤ 57)) (T8 (T2 q1)) (T4 (pIf (decide (q3 = 95)) (T8 q1) q4))); let q5 := T2 (True ∧ pIf (decide (q3 ≤ 122)) (T4 (True ∧ pIf (decide (q3 ≥ 48)) q9 (T4 (True ∧ pIf (decide (q3 = 95)) (T8 q2) q7)))) (T4 (True ∧ pIf (decide (q3 ≥ 48)) q6 q10))); pIf (decide (p < s.size)) (T4 (T2 (True ∧ pIf (decide (q3 ≥ 65)) (T2 (True ∧ pIf (decide (q3 ≤ 90)) (T4 (T2 (pIf (decide (q3 ≥ 48)) q9 (T4 (True ∧ pIf (decide (q3 = 95)) (T8 q2) q7))))) (T4 (pIf (decide (q3 ≥ 97)) q5 (T4 (T2 (pIf (decide (q3 ≥ 48)) q6 q10))))))) (T4 (True ∧ pIf (decide (q3 ≥ 97)) q5 (T4 (T2 (pIf (decide (q3 ≥ 48)) q6 q10)))))))) (T2 (True ∧ Post (vb true)))) := by kernel_rfl
def callRN : VCall := inlCall Tryz.prog [203, 204] noCall 2
theorem e_rName (s : ByteArray) (H : HT) (Post : PV) : vcP Tryz.prog callRN 127 [(4, [0, 3])] [.string s] H Post = (let q1 := (↑(UInt8.toNat (Array.getD (ByteArray.data s) 0 0)) : Int); let q2 := T2 (True ∧ pIf (decide (q1 ≤ 90)) (T8 (H (lpC Tryz.prog 127 4) (lpK Tryz.prog 127 4) (stV [(0, some (vs s)), (3, some (vi 0))] [] 0))) (T4 (T2 (True ∧ Post (vb false))))); T2 (True ∧ pIf (decide (s = ByteArray.mk #[])) (T4 (T2 (Post (vb false)))) (T4 (pIf (decide ((↑s.size : Int) > 16)) (T4 (True ∧ Post (vb false))) (T2 (True ∧ (toI (vi 0) ≤ 0 ∧ 0 < (↑s.size : Int)) ∧ T2 (True ∧ pIf (decide (q1 ≥ 97)) (T2 (True ∧ pIf (decide (q1 ≤ 122)) (T8 (True ∧ H (lpC Tryz.prog 127 4) (lpK Tryz.prog 127 4) (stV [(0, some (vs s)), (3, some (vi 0))] [] 0))) (T4 (pIf (decide (q1 ≥ 65)) q2 (T8 (Post (vb false))))))) (T4 (True ∧ pIf (decide (q1 ≥ 65)) q2 (T8 (Post (vb false)))))))))))) := by kernel_rfl
theorem l_rName (s : ByteArray) (i : Int) (H : HT) (Post : PV) : vcLP Tryz.prog callRN 127 [.string s] [(4, [0, 3])] 4 (stV [(0, some (.string s)), (3, some (.int .i64 i))] [] 0) H Post = (let q4 := (0 ≤ i ∧ i < (↑s.size : Int)); let q2 := (↑(UInt8.toNat (Array.getD (ByteArray.data s) (Int.toNat i) 0)) : Int); let q3 := stV [(0, some (vs s)), (3, some (vi (IntKind.wrap IntKind.i64 (i + 1))))] [] 0; let q5 := H (lpC Tryz.prog 127 4) (lpK Tryz.prog 127 4) q3; let q7 := T4 (q4 ∧ True ∧ pIf (!decide (q2 = 45)) (T2 (True ∧ Post (vb false))) (T4 (T2 q5))); let q1 := True ∧ pIf (decide (q2 ≥ 48)) (T2 (True ∧ pIf (decide (q2 ≤ 57)) (T8 (T4 (True ∧ H (lpC Tryz.prog 127 4) (lpK Tryz.prog 127 4) q3))) (T4 (T2 (True ∧ q4 ∧ True ∧ pIf (!decide (q2 = 95)) q7 (T8 q5)))))) (T8 (q4 ∧ True ∧ pIf (!decide (q2 = 95)) q7 (T8 q5))); let q6 := T2 (True ∧ pIf (decide (q2 ≤ 90)) (T8 (T4 (T2 (True ∧ H (lpC Tryz.prog 127 4) (lpK Tryz.prog 127 4) q3)))) (T4 (T2 (True ∧ q4 ∧ T2 q1)))); T4 (pIf (decide (i < (↑s.size : Int))) (T2 (q4 ∧ T2 (True ∧ pIf (decide (q2 ≥ 97)) (T2 (True ∧ pIf (decide (q2 ≤ 122)) (T16 q5) (T4 (pIf (decide (q2 ≥ 65)) q6 (T8 (q4 ∧ T2 q1)))))) (T4 (True ∧ pIf (decide (q2 ≥ 65)) q6 (T8 (q4 ∧ T2 q1))))))) (T2 (Post (vb true))))) := by kernel_rfl
theorem callRN_ok : VCallOk Tryz.prog callRN := inlCall_ok mixed noCall_ok 2
def byteI (s : ByteArray) (i : Nat) : Int := ((s.data.getD i 0).toNat : Int)
def ltr (c : Int) : Prop := 97 ≤ c ∧ c ≤ 122 ∨ 65 ≤ c ∧ c ≤ 90
def nchr (c : Int) : Prop := ltr c ∨ 48 ≤ c ∧ c ≤ 57 ∨ c = 95 ∨ c = 45
instance (c : Int) : Decidable (ltr c) := by unfold ltr; infer_instance
instance (c : Int) : Decidable (nchr c) := by unfold nchr; infer_instance
def nameOk (s : ByteArray) : Prop := 1 ≤ s.size ∧ s.size ≤ 16 ∧ ltr (byteI s 0) ∧ ∀ i, i < s.size → nchr (byteI s i)
instance (s : ByteArray) : Decidable (nameOk s) := by unfold nameOk; infer_instance
def c_name (args : List Value) (Post : Value → Prop) : Prop := match args with
 | [.string s] => Post (.bool (decide (nameOk s)))
 | _ => False
theorem dec_low {s : ByteArray} {p : Nat} (h : p < s.size) (hb : byteI s p < 128) : ((Utf8.decode s p).1 : Int) = byteI s p ∧ (Utf8.decode s p).2 = 1 := by
 have e : s.data.getD p 0 = s[p]'h := by
  have h' : p < s.data.size := h
  unfold Array.getD
  rw [dif_pos h']
  rfl
 have hb' : (s[p]'h).toNat < 128 := by unfold byteI at hb; rw [e] at hb; omega
 rw [decode_ascii s p h hb']
 unfold byteI
 rw [e]
 exact ⟨rfl, rfl⟩
theorem dec_high {s : ByteArray} {p : Nat} (h : p < s.size) (hb : 128 ≤ byteI s p) : 128 ≤ ((Utf8.decode s p).1 : Int) := by
 have e : s.data.getD p 0 = s[p]'h := by
  have h' : p < s.data.size := h
  unfold Array.getD
  rw [dif_pos h']
  rfl
 have hb' : 128 ≤ (s[p]'h).toNat := by unfold byteI at hb; rw [e] at hb; omega
 have := (decode_high s p h hb').1
 omega
theorem size_zero {s : ByteArray} (h : s.size = 0) : s = ⟨#[]⟩ := by
 refine ba_ext ?_
 have : s.data.toList.length = 0 := by rw [Array.length_toList]; exact h
 rw [List.length_eq_zero_iff.1 this]
theorem ok_rName : EntOk Tryz.prog ⟨127, c_name⟩ := by
 intro args Post h
 unfold c_name at h
 dsimp only at h
 split at h
 case h_2 => exact h.elim
 rename_i s
 refine pure_P (vc := callRN) callRN_ok mixed (by kernel_rfl) (by kernel_rfl) _ (e_rName s _ _) ?_
 have no : ¬ nameOk s → Post (.bool false) := fun hn => of_b h (decide_eq_false hn)
 have all : s.size ≤ 16 → ltr (byteI s 0) → OkP 127 [.string s] 4 Post (stV [(0, some (.string s)), (3, some (.int .i64 (0 : Nat)))] [] 0) := fun h16 hl => by
  refine down (n := s.size) (p := fun k => (∀ i, i < k → nchr (byteI s i)) → OkP 127 [.string s] 4 Post (stV [(0, some (.string s)), (3, some (.int .i64 k))] [] 0)) (fun hall => ?_) (fun k hk ih hall => ?_) (fun i hi => by omega)
  ·refine ok_P (vc := callRN) callRN_ok mixed _ (l_rName s _ _ _) ?_
   have hy : Post (.bool true) := of_b h (decide_eq_true ⟨by
    rcases Nat.eq_zero_or_pos s.size with h0 | h0
    ·rw [size_zero h0] at hl; exact absurd hl (by decide)
    ·exact h0, h16, hl, hall⟩)
   simp only [true_and, pIf_iff, decide_eq_true_eq, decide_eq_false_iff_not, and_true]
   exact ⟨fun hh => by omega, fun _ => hy⟩
  ·refine ok_P (vc := callRN) callRN_ok mixed _ (l_rName s _ _ _) ?_
   have hX : nchr (byteI s k) → OkP 127 [.string s] 4 Post (stV [(0, some (.string s)), (3, some (.int .i64 ((k + 1 : Nat) : Int)))] [] 0) := fun hk' => ih fun i hi => by
    rcases Nat.lt_or_ge i k with h' | h'
    ·exact hall i h'
    ·obtain rfl : i = k := by omega
     exact hk'
   have hY : ¬ nchr (byteI s k) → Post (.bool false) := fun hn => no fun f => hn (f.2.2.2 k hk)
   rw [wrapSucc (by omega)]
   simp only [Int.toNat_natCast]
   change nchr (byteI s k) → OkAt _ _ _ _ _ _ _ at hX
   have ec : ((s.data.getD k 0).toNat : Int) = byteI s k := rfl
   simp only [ec]
   unfold nchr ltr at hX hY
   generalize byteI s k = c at hX hY ⊢
   simp only [true_and, and_true, pIf_iff, decide_eq_true_eq, decide_eq_false_iff_not, Bool.not_eq_eq_eq_not, Bool.not_true, Bool.not_false]
   repeat' (first
    | exact hX (by omega)
    | exact hY (by omega)
    | refine And.intro ?_ ?_
    | omega
    | intro _)
 simp only [true_and, and_true, pIf_iff, decide_eq_true_eq, decide_eq_false_iff_not]
 have ec : ((s.data.getD 0 0).toNat : Int) = byteI s 0 := rfl
 simp only [ec]
 refine ⟨fun h0 => no fun f => ?_, fun h0 => ⟨fun h1 => no fun f => ?_, fun h1 => ?_⟩⟩
 ·rw [h0] at f; exact absurd f.1 (by decide)
 ·have := f.2.1; omega
 have hs0 : s.size ≠ 0 := fun h' => h0 (size_zero h')
 have hX : ltr (byteI s 0) → OkAt _ _ _ _ _ _ _ := all (by omega)
 have hY : ¬ ltr (byteI s 0) → Post (.bool false) := fun hn => no fun f => hn f.2.2.1
 unfold ltr at hX hY
 generalize byteI s 0 = c at hX hY ⊢
 repeat' (first
  | exact hX (by omega)
  | exact hY (by omega)
  | refine And.intro ?_ ?_
  | omega
  | decide
  | intro _)
theorem ok_name : EntOk Tryz.prog ⟨192, c_name⟩ := by
 intro args Post h
 unfold c_name at h
 dsimp only at h
 split at h
 case h_2 => exact h.elim
 rename_i s
 refine pure_P (vc := noCall) noCall_ok mixed (by kernel_rfl) (by kernel_rfl) _ (e_isName s _ _) ?_
 have no : ¬ nameOk s → Post (.bool false) := fun hn => of_b h (decide_eq_false hn)
 simp only [true_and, and_true, pIf_iff, decide_eq_true_eq, decide_eq_false_iff_not]
 refine ⟨fun h0 => no fun f => ?_, fun h0 => ⟨fun h1 => no fun f => ?_, fun h1 => ?_⟩⟩
 ·rw [h0] at f; exact absurd f.1 (by decide)
 ·have := f.2.1; omega
 have hs0 : s.size ≠ 0 := fun h' => h0 (size_zero h')
 refine down (n := s.size) (p := fun k => (∀ i, i < k → nchr (byteI s i)) → (0 < k → ltr (byteI s 0)) → OkP 192 [.string s] 4 Post (stV [(0, some (.string s)), (15, some (.pointer (some ⟨0, 0, none⟩)))] [(0, some (.iter s k))] 1)) (fun hall hl => ?_) (fun k hk ih hall hl => ?_) (fun i hi => by omega) (fun h => by omega)
 ·refine ok_P (vc := noCall) noCall_ok mixed _ (l_isName s _ _ _) ?_
  have hy : Post (.bool true) := of_b h (decide_eq_true ⟨by omega, by omega, hl (by omega), hall⟩)
  refine pIf_intro (fun hh => absurd (of_decide_eq_true hh) (Nat.lt_irrefl _)) (fun _ => ?_)
  simp only [true_and, and_true]
  exact hy
 ·refine ok_P (vc := noCall) noCall_ok mixed _ (l_isName s _ _ _) ?_
  refine pIf_intro (fun _ => ?_) (fun hh => absurd hk (of_decide_eq_false hh))
  have hX : nchr (byteI s k) → (k = 0 → ltr (byteI s k)) → ((Utf8.decode s k).2 = 1) → OkP 192 [.string s] 4 Post (stV [(0, some (.string s)), (15, some (.pointer (some ⟨0, 0, none⟩)))] [(0, some (.iter s (k + (Utf8.decode s k).2)))] 1) := fun h1 h2 h3 => by
   rw [h3]
   refine ih (fun i hi => ?_) (fun _ => ?_)
   ·rcases Nat.lt_or_ge i k with h' | h'
    ·exact hall i h'
    ·obtain rfl : i = k := by omega
     exact h1
   ·rcases Nat.eq_zero_or_pos k with h' | h'
    ·subst h'; exact h2 rfl
    ·exact hl h'
  have hY : ¬ (nchr (byteI s k) ∧ (k = 0 → ltr (byteI s k))) → Post (.bool false) := fun hn => no fun f => hn ⟨f.2.2.2 k hk, fun hk0 => by subst hk0; exact f.2.2.1⟩
  change _ → _ → _ → OkAt _ _ _ _ _ _ _ at hX
  have hlow := dec_low hk
  have hhigh := dec_high hk
  generalize (Utf8.decode s k).2 = wd at hX hlow hhigh ⊢
  generalize ((Utf8.decode s k).1 : Int) = d at hX hlow hhigh ⊢
  unfold nchr ltr at hX hY
  generalize byteI s k = c at hX hY hlow hhigh
  simp only [true_and, and_true, pIf_iff, decide_eq_true_eq, decide_eq_false_iff_not, Bool.not_eq_eq_eq_not, Bool.not_true, Bool.not_false]
  by_cases hc : c < 128
  ·obtain ⟨rfl, rfl⟩ := hlow hc
   repeat' (first
    | exact hX (by omega) (by omega) rfl
    | exact hY (by omega)
    | refine And.intro ?_ ?_
    | omega
    | intro _)
  ·have hd := hhigh (by omega)
   have hyy := hY (by omega)
   repeat' (first
    | exact hyy
    | refine And.intro ?_ ?_
    | omega
    | intro _)
def volL (l : List ByteArray) : Nat := (l.map ByteArray.size).sum
theorem volL_take (l : List ByteArray) (i : Nat) : volL (l.take i) ≤ volL l := by
 have h := congrArg volL (List.take_append_drop i l)
 have e : volL (l.take i ++ l.drop i) = volL (l.take i) + volL (l.drop i) := by unfold volL; rw [List.map_append, List.sum_append]
 omega
theorem cell_str {l : List ByteArray} {i : Nat} (h : i < l.length) : cellAt (encL l) i 0 = .string l[i] := by
 rw [cellAt_encL' h]
 rfl
theorem e_split (s : ByteArray) (H : HT) (Post : PV) : vcP Tryz.prog (tabCall [⟨193, c_gs⟩] noCall) 118 [] [.string s, .string dot] H Post = (T2 (True ∧ ∃ (s_1 : ByteArray), eqL [vs s, vs dot, vi 0, vi (-1)] [vs s_1, vs dot, vi 0, vi (-1)] ∧ s_1.size < 16777216 ∧ T2 (Post (tree 1 (List.length (pieces s_1)) (encL (pieces s_1)))))) := by kernel_rfl
def tabN : List Ent := [⟨192, c_name⟩]
theorem e_names (n : Nat) (A : Array Value) (H : HT) (Post : PV) : vcP Tryz.prog (tabCall tabN noCall) 117 [(3, [0, 3, 9, 10, 11])] [tree 1 n A] H Post = (T8 (T2 (H (lpC Tryz.prog 117 3) (lpK Tryz.prog 117 3) (stV [(0, some (tree 1 n A)), (3, some (vi (IntKind.wrap IntKind.i64 ((↑n : Int) - 1)))), (9, some (tree 1 n A)), (10, some (vi (↑n : Int))), (11, some (vi 0))] [] 0)))) := by kernel_rfl
theorem l_names (n : Nat) (A : Array Value) (b i : Int) (H : HT) (Post : PV) : vcLP Tryz.prog (tabCall tabN noCall) 117 [tree 1 n A] [(3, [0, 3, 9, 10, 11])] 3 (stV [(0, some (tree 1 n A)), (3, some (.int .i64 b)), (9, some (tree 1 n A)), (10, some (.int .i64 n)), (11, some (.int .i64 i))] [] 0) H Post = (True ∧ pIf (decide (i < (↑n : Int))) ((0 ≤ i ∧ i < (↑n : Int)) ∧ cellAt A (Int.toNat i) 0 = vs (toS (cellAt A (Int.toNat i) 0)) ∧ T2 (pIf (decide (nameOk (toS (cellAt A (Int.toNat i) 0)))) (T8 (T2 (H (lpC Tryz.prog 117 3) (lpK Tryz.prog 117 3) (stV [(0, some (tree 1 n A)), (3, some (vi (IntKind.wrap IntKind.i64 (b + (↑(ByteArray.size (toS (cellAt A (Int.toNat i) 0))) : Int))))), (9, some (tree 1 n A)), (10, some (vi (↑n : Int))), (11, some (vi (IntKind.wrap IntKind.i64 (i + 1))))] [] 0)))) (T2 (True ∧ Post (vb false))))) (T2 (True ∧ pIf (decide ((↑n : Int) ≥ 1)) (T4 (pIf (decide ((↑n : Int) ≤ 8)) (T4 (pIf (decide (b ≤ 64)) (T2 (True ∧ Post (vb true))) (T2 (True ∧ Post (vb false))))) (T4 (True ∧ Post (vb false))))) (T4 (T2 (Post (vb false))))))) := by kernel_rfl
theorem e_parts (s : ByteArray) (H : HT) (Post : PV) : vcP Tryz.prog noCall 126 [(4, [0, 3, 4, 5])] [.string s] H Post = (T4 (T2 (H (lpC Tryz.prog 126 4) (lpK Tryz.prog 126 4) (stV [(0, some (vs s)), (3, some (nS)), (4, some (vi 0)), (5, some (vi 0))] [] 0)))) := by kernel_rfl
theorem l_parts0 (s : ByteArray) (a i : Int) (H : HT) (Post : PV) : vcLP Tryz.prog noCall 126 [.string s] [(4, [0, 3, 4, 5])] 4 (stV [(0, some (.string s)), (3, some (.slice none 0 0)), (4, some (.int .i64 a)), (5, some (.int .i64 i))] [] 0) H Post = (let q1 := (NLs [vs (ByteArray.extract s (Int.toNat a) (Int.toNat i))] ∧ True) ∧ H (lpC Tryz.prog 126 4) (lpK Tryz.prog 126 4) (stV [(0, some (vs s)), (3, some (Value.slice (some (Addr.mk 0 0 none)) 1 1)), (4, some (vi (IntKind.wrap IntKind.i64 (i + 1)))), (5, some (vi (IntKind.wrap IntKind.i64 (i + 1))))] [(0, some (AObj.cells [vs (ByteArray.extract s (Int.toNat a) (Int.toNat i))] true))] 1); T4 (pIf (decide (i ≤ (↑s.size : Int))) (T4 (pIf (decide (i = (↑s.size : Int))) (T4 (T2 ((0 ≤ i ∧ 0 ≤ a ∧ Int.toNat a ≤ Int.toNat i ∧ Int.toNat i ≤ s.size) ∧ True ∧ 1 ≤ 1 ∧ 1 ≤ 33554432 ∧ true = true ∧ 1 = 1 ∧ T8 q1))) (T2 (True ∧ (0 ≤ i ∧ i < (↑s.size : Int)) ∧ True ∧ pIf (decide ((↑(UInt8.toNat (Array.getD (ByteArray.data s) (Int.toNat i) 0)) : Int) = 46)) (T4 (True ∧ (0 ≤ i ∧ 0 ≤ a ∧ Int.toNat a ≤ Int.toNat i ∧ Int.toNat i ≤ s.size) ∧ True ∧ 1 ≤ 1 ∧ 1 ≤ 33554432 ∧ true = true ∧ 1 = 1 ∧ T8 q1)) (T4 (T2 (H (lpC Tryz.prog 126 4) (lpK Tryz.prog 126 4) (stV [(0, some (vs s)), (3, some (nS)), (4, some (vi a)), (5, some (vi (IntKind.wrap IntKind.i64 (i + 1))))] [] 0)))))))) (T2 (True ∧ Post (tree 1 0 #[]))))) := by kernel_rfl
theorem l_parts1 (s : ByteArray) (a i : Int) (k : Nat) (l : List Value) (H : HT) (Post : PV) : vcLP Tryz.prog noCall 126 [.string s] [(4, [0, 3, 4, 5])] 4 (stV [(0, some (.string s)), (3, some (.slice (some ⟨0, 0, none⟩) k 1)), (4, some (.int .i64 a)), (5, some (.int .i64 i))] [(0, some (.cells l true))] 1) H Post = (let q1 := (NLs (l ++ [vs (ByteArray.extract s (Int.toNat a) (Int.toNat i))]) ∧ True) ∧ H (lpC Tryz.prog 126 4) (lpK Tryz.prog 126 4) (stV [(0, some (vs s)), (3, some (Value.slice (some (Addr.mk 0 0 none)) (k + 1) 1)), (4, some (vi (IntKind.wrap IntKind.i64 (i + 1)))), (5, some (vi (IntKind.wrap IntKind.i64 (i + 1))))] [(0, some (AObj.cells (l ++ [vs (ByteArray.extract s (Int.toNat a) (Int.toNat i))]) true))] 1); T4 (pIf (decide (i ≤ (↑s.size : Int))) (T4 (pIf (decide (i = (↑s.size : Int))) (T4 (T2 ((0 ≤ i ∧ 0 ≤ a ∧ Int.toNat a ≤ Int.toNat i ∧ Int.toNat i ≤ s.size) ∧ True ∧ 1 ≤ 1 ∧ k + 1 ≤ 33554432 ∧ true = true ∧ 1 = 1 ∧ 0 + k * 1 = List.length l ∧ T8 q1))) (T2 (True ∧ (0 ≤ i ∧ i < (↑s.size : Int)) ∧ True ∧ pIf (decide ((↑(UInt8.toNat (Array.getD (ByteArray.data s) (Int.toNat i) 0)) : Int) = 46)) (T4 (True ∧ (0 ≤ i ∧ 0 ≤ a ∧ Int.toNat a ≤ Int.toNat i ∧ Int.toNat i ≤ s.size) ∧ True ∧ 1 ≤ 1 ∧ k + 1 ≤ 33554432 ∧ true = true ∧ 1 = 1 ∧ 0 + k * 1 = List.length l ∧ T8 q1)) (T4 (True ∧ (NLs l ∧ True) ∧ H (lpC Tryz.prog 126 4) (lpK Tryz.prog 126 4) (stV [(0, some (vs s)), (3, some (Value.slice (some (Addr.mk 0 0 none)) k 1)), (4, some (vi a)), (5, some (vi (IntKind.wrap IntKind.i64 (i + 1))))] [(0, some (AObj.cells l true))] 1))))))) (T2 ((0 + k * 1 ≤ List.length l ∧ NLs l) ∧ Post (tree 1 k (chunks 1 k (List.drop 0 l))))))) := by kernel_rfl
def c_split (args : List Value) (Post : Value → Prop) : Prop := ∃ s : ByteArray, args = [.string s, .string dot] ∧ s.size < 16777216 ∧ Post (tree 1 (pieces s).length (encL (pieces s)))
theorem ok_split : EntOk Tryz.prog ⟨118, c_split⟩ := by
 rintro args Post ⟨s, rfl, hs, h⟩
 refine pure_P (vc := tabCall [⟨193, c_gs⟩] noCall) (tabCall_ok (by
  intro e he
  simp only [List.mem_cons, List.not_mem_nil, or_false] at he
  subst he
  exact ok_gs) noCall_ok) mixed (by kernel_rfl) (by kernel_rfl) _ (e_split s _ _) ?_
 repeat (first | exact ⟨s, rfl, hs, by repeat (first | exact h | refine And.intro trivial ?_)⟩ | refine And.intro trivial ?_)
theorem idx_is : ∀ {l : List UInt8} {m : Nat} (_ : m < l.length), (∀ j, j < m → l.getD j 0 ≠ 46) → l.getD m 0 = 46 → Lib.indexByte l 46 = m
 | [], m, hm, _, _ => by simp at hm
 | c :: l, m, hm, h, h46 => by
  unfold Lib.indexByte
  cases m with
  | zero =>
   have : c = 46 := by simpa using h46
   subst this
   rfl
  | succ m =>
   have hc : c ≠ 46 := by simpa using h 0 (by omega)
   have hb : (c == 46) = false := by simp [hc]
   have ih := idx_is (l := l) (m := m) (by simpa using hm) (fun j hj => by simpa using h (j + 1) (by omega)) (by simpa using h46)
   rw [hb, ih]
   simp only [Bool.false_eq_true, if_false]
   have : ((m : Int) == -1) = false := by simp
   rw [this]
   simp
theorem cnt_zero {l : List UInt8} (h : ∀ j, j < l.length → l.getD j 0 ≠ 46) : Lib.countByte l 46 = 0 := by
 unfold Lib.countByte
 rw [List.count_eq_zero]
 intro hm
 obtain ⟨j, hj, e⟩ := List.mem_iff_getElem.1 hm
 refine h j hj ?_
 simp [List.getD, List.getElem?_eq_getElem hj, e]
theorem pieces_ne (s : ByteArray) : pieces s ≠ [] := fun h => by
 have := congrArg List.length h
 unfold pieces at this
 rw [List.length_map, splitL_len] at this
 simp at this
def stParts (s : ByteArray) (done : List ByteArray) (a i : Nat) : AS := match done with
 | [] => stV [(0, some (.string s)), (3, some (.slice none 0 0)), (4, some (.int .i64 a)), (5, some (.int .i64 i))] [] 0
 | d :: ds => stV [(0, some (.string s)), (3, some (.slice (some ⟨0, 0, none⟩) (d :: ds).length 1)), (4, some (.int .i64 a)), (5, some (.int .i64 i))] [(0, some (.cells ((d :: ds).map Value.string) true))] 1
theorem NLs_str (l : List ByteArray) : NLs (l.map Value.string) := fun v hv => by
 obtain ⟨s, _, rfl⟩ := List.mem_map.1 hv
 rfl
def c_parts (args : List Value) (Post : Value → Prop) : Prop := ∃ s : ByteArray, args = [.string s] ∧ s.size < 16777216 ∧ Post (tree 1 (pieces s).length (encL (pieces s)))
theorem parts_round {s : ByteArray} {Post : Value → Prop} {done : List ByteArray} {a i : Nat} (hs : s.size < 16777216) (hk : done.length ≤ a) (ha : a ≤ i) (hi : i ≤ s.size)
  (h1 : i = s.size ∨ byteI s i = 46 → OkP 126 [.string s] 4 Post (stParts s (done ++ [s.extract a i]) (i + 1) (i + 1)))
  (h2 : i < s.size → byteI s i ≠ 46 → OkP 126 [.string s] 4 Post (stParts s done a (i + 1))) : OkP 126 [.string s] 4 Post (stParts s done a i) := by
 have ei : ((i : Nat) : Int).toNat = i := by omega
 have ea : ((a : Nat) : Int).toNat = a := by omega
 have ew : IntKind.i64.wrap ((i : Int) + 1) = ((i + 1 : Nat) : Int) := wrapSucc (by omega)
 have ec : ((s.data.getD i 0).toNat : Int) = byteI s i := rfl
 cases done with
 | nil =>
  refine ok_P (vc := noCall) noCall_ok mixed _ (l_parts0 s _ _ _ _) ?_
  simp only [ei, ea, ew, ec, true_and]
  refine pIf_intro (fun _ => ?_) (fun hh => by have := of_decide_eq_false hh; omega)
  refine pIf_intro (fun hh => ?_) (fun hh => ?_)
  ·exact ⟨⟨by omega, by omega, ha, hi⟩, by omega, by omega, ⟨NLs_str [s.extract a i], trivial⟩, h1 (.inl (by have := of_decide_eq_true hh; omega))⟩
  ·have hlt : i < s.size := by have := of_decide_eq_false hh; omega
   refine ⟨⟨by omega, by omega⟩, pIf_intro (fun hb => ?_) (fun hb => ?_)⟩
   ·exact ⟨⟨by omega, by omega, ha, hi⟩, by omega, by omega, ⟨NLs_str [s.extract a i], trivial⟩, h1 (.inr (of_decide_eq_true hb))⟩
   ·exact h2 hlt (of_decide_eq_false hb)
 | cons d ds =>
  refine ok_P (vc := noCall) noCall_ok mixed _ (l_parts1 s _ _ _ _ _ _) ?_
  simp only [ei, ea, ew, ec, true_and]
  have hlen : (d :: ds).length ≤ 16777216 := by omega
  have el : (List.map Value.string (d :: ds)) ++ [Value.string (s.extract a i)] = List.map Value.string (d :: ds ++ [s.extract a i]) := by simp
  have en : (d :: ds).length + 1 = (d :: ds ++ [s.extract a i]).length := by simp
  have fit : 0 + (d :: ds).length * 1 = (List.map Value.string (d :: ds)).length := by simp
  refine pIf_intro (fun _ => ?_) (fun hh => by have := of_decide_eq_false hh; omega)
  refine pIf_intro (fun hh => ?_) (fun hh => ?_)
  ·have hx := h1 (.inl (by have := of_decide_eq_true hh; omega))
   rw [el, en]
   exact ⟨⟨by omega, by omega, ha, hi⟩, by omega, by rw [← en]; omega, fit, ⟨NLs_str _, trivial⟩, hx⟩
  ·have hlt : i < s.size := by have := of_decide_eq_false hh; omega
   refine ⟨⟨by omega, by omega⟩, pIf_intro (fun hb => ?_) (fun hb => ?_)⟩
   ·have hx := h1 (.inr (of_decide_eq_true hb))
    rw [el, en]
    exact ⟨⟨by omega, by omega, ha, hi⟩, by omega, by rw [← en]; omega, fit, ⟨NLs_str _, trivial⟩, hx⟩
   ·exact ⟨⟨NLs_str _, trivial⟩, h2 hlt (of_decide_eq_false hb)⟩
theorem ok_parts : EntOk Tryz.prog ⟨126, c_parts⟩ := by
 rintro args Post ⟨s, rfl, hs, h⟩
 refine pure_P (vc := noCall) noCall_ok mixed (by kernel_rfl) (by kernel_rfl) _ (e_parts s _ _) ?_
 have hlast : OkP 126 [.string s] 4 Post (stParts s (pieces s) (s.size + 1) (s.size + 1)) := by
  cases hp : pieces s with
  | nil => exact absurd hp (pieces_ne s)
  | cons d ds =>
   refine ok_P (vc := noCall) noCall_ok mixed _ (l_parts1 s _ _ _ _ _ _) ?_
   simp only [true_and]
   refine pIf_intro (fun hh => by have := of_decide_eq_true hh; omega) (fun _ => ?_)
   rw [hp] at h
   have e : chunks 1 (d :: ds).length (List.drop 0 (List.map Value.string (d :: ds))) = encL (d :: ds) := by
    show ((List.map Value.string (d :: ds)).take _).toArray = _
    rw [List.take_of_length_le (by simp)]
    rfl
   rw [e]
   exact ⟨⟨by simp, NLs_str _⟩, h⟩
 have hll : s.data.toList.length = s.size := by rw [Array.length_toList]; rfl
 have hx : ∀ a, a ≤ s.size → (s.extract a s.size).data.toList = s.data.toList.drop a := fun a ha => by rw [ext_list, List.take_of_length_le (by rw [List.length_drop, hll]; omega)]
 have hby : ∀ i, byteI s i = 46 ↔ s.data.toList.getD i 0 = 46 := fun i => by
  unfold byteI
  have e : s.data.getD i 0 = s.data.toList.getD i 0 := by simp [Array.getD_eq_getD_getElem?, List.getD_eq_getElem?_getD]
  rw [e]
  constructor
  ·intro h'
   have : (s.data.toList.getD i 0).toNat = 46 := by omega
   exact UInt8.toNat_inj.1 (this.trans rfl)
  ·intro h'; rw [h']; rfl
 have key : ∀ (n i a : Nat) (done : List ByteArray), i + n = s.size → a ≤ i → done.length ≤ a → done ++ pieces (s.extract a s.size) = pieces s → (∀ j, a ≤ j → j < i → byteI s j ≠ 46) → OkP 126 [.string s] 4 Post (stParts s done a i) := by
  intro n
  induction n with
  | zero =>
   intro i a done hi ha hk hp hno
   obtain rfl : i = s.size := by omega
   refine parts_round hs hk ha (Nat.le_refl _) (fun _ => ?_) (fun hlt => by omega)
   have h0 : pieces (s.extract a s.size) = [s.extract a s.size] := by
    refine pieces_none (cnt_zero fun j hj => ?_)
    rw [hx a ha] at hj ⊢
    rw [List.length_drop, hll] at hj
    have := hno (a + j) (by omega) (by omega)
    rw [Ne, hby] at this
    simpa [List.getD_eq_getElem?_getD] using this
   rw [h0] at hp
   rw [hp]
   exact hlast
  | succ n ih =>
   intro i a done hi ha hk hp hno
   refine parts_round hs hk ha (by omega) (fun hor => ?_) (fun hlt hb => ?_)
   ·have h46 : byteI s i = 46 := by
     rcases hor with h' | h'
     ·omega
     ·exact h'
    have hidx : Lib.indexByte (s.extract a s.size).data.toList 46 = ((i - a : Nat) : Int) := by
     rw [hx a (by omega)]
     refine idx_is (by rw [List.length_drop, hll]; omega) (fun j hj => ?_) ?_
     ·have := hno (a + j) (by omega) (by omega)
      rw [Ne, hby] at this
      simpa [List.getD_eq_getElem?_getD] using this
     ·have := (hby i).1 h46
      have e : a + (i - a) = i := by omega
      simpa [List.getD_eq_getElem?_getD, e] using this
    obtain ⟨g1, g2, _⟩ := pieces_some hidx
    have e1 : (s.extract a s.size).extract 0 (i - a) = s.extract a i := by
     refine ba_ext ?_
     rw [ext_list, hx a (by omega), ext_list]
     simp
    have e2 : (s.extract a s.size).extract (i - a + 1) (s.extract a s.size).size = s.extract (i + 1) s.size := by
     refine ba_ext ?_
     rw [ext_list, hx a (by omega), hx (i + 1) (by omega), List.drop_drop, List.take_of_length_le (by rw [List.length_drop, hll, ext_size]; omega)]
     congr 1
     omega
    rw [e1, e2] at g2
    exact ih (i + 1) (i + 1) _ (by omega) (Nat.le_refl _) (by simp; omega) (by rw [← hp, g2]; simp) (fun j h1 h2 => by omega)
   ·exact ih (i + 1) a done (by omega) (by omega) hk hp (fun j h1 h2 => by
     rcases Nat.lt_or_ge j i with h' | h'
     ·exact hno j h1 h'
     ·obtain rfl : j = i := by omega
      exact hb)
 have := key s.size 0 0 [] (by omega) (Nat.le_refl _) (Nat.le_refl _) (by
  have : s.extract 0 s.size = s := by
   refine ba_ext ?_
   rw [hx 0 (by omega), List.drop_zero]
  rw [this]; rfl) (fun j h1 h2 => by omega)
 repeat (first | exact this | refine And.intro trivial ?_)
def namesOk (l : List ByteArray) : Prop := 1 ≤ l.length ∧ l.length ≤ 8 ∧ (∀ p ∈ l, nameOk p) ∧ l.length + volL l ≤ 65
instance (l : List ByteArray) : Decidable (namesOk l) := by unfold namesOk; infer_instance
def c_names (args : List Value) (Post : Value → Prop) : Prop := ∃ l : List ByteArray, args = [tree 1 l.length (encL l)] ∧ l.length + volL l ≤ 16777216 ∧ Post (.bool (decide (namesOk l)))
theorem volL_tk (l : List ByteArray) (k : Nat) (h : k < l.length) : volL (l.take (k + 1)) = volL (l.take k) + l[k].size := by
 unfold volL
 rw [List.take_succ_eq_append_getElem h, List.map_append, List.sum_append]
 simp
theorem ok_names : EntOk Tryz.prog ⟨117, c_names⟩ := by
 rintro args Post ⟨l, rfl, hv, h⟩
 have hok : VCallOk Tryz.prog (tabCall tabN noCall) := tabCall_ok (by
  intro e he
  simp only [tabN, List.mem_cons, List.not_mem_nil, or_false] at he
  subst he
  exact ok_name) noCall_ok
 refine pure_P (vc := tabCall tabN noCall) hok mixed (by kernel_rfl) (by kernel_rfl) _ (e_names _ _ _ _) ?_
 have no : ¬ namesOk l → Post (.bool false) := fun hn => of_b h (decide_eq_false hn)
 simp only [true_and]
 have key := down (n := l.length) (p := fun k => (∀ i (hi : i < l.length), i < k → nameOk l[i]) → OkP 117 [tree 1 l.length (encL l)] 3 Post (stV [(0, some (tree 1 l.length (encL l))), (3, some (.int .i64 ((l.length : Int) - 1 + (volL (l.take k) : Nat)))), (9, some (tree 1 l.length (encL l))), (10, some (.int .i64 l.length)), (11, some (.int .i64 k))] [] 0)) (fun hall => ?_) (fun k hk ih hall => ?_) (fun i hi h0 => by omega)
 ·rw [wrap64 (by omega) (by omega)]
  have e : ((l.length : Int) - 1 + ((volL (l.take 0) : Nat) : Int)) = (l.length : Int) - 1 := by simp [volL]
  rw [e] at key
  exact key
 ·refine ok_P (vc := tabCall tabN noCall) hok mixed _ (l_names _ _ _ _ _ _) ?_
  simp only [true_and]
  have hall' : ∀ p ∈ l, nameOk p := fun p hp => by
   obtain ⟨i, hi, rfl⟩ := List.mem_iff_getElem.1 hp
   exact hall i hi hi
  refine pIf_intro (fun hh => by have := of_decide_eq_true hh; omega) (fun _ => ?_)
  rw [List.take_of_length_le (Nat.le_refl _)]
  refine pIf_intro (fun h1 => ?_) (fun h1 => no fun f => absurd f.1 (by have := of_decide_eq_false h1; omega))
  refine pIf_intro (fun h2 => ?_) (fun h2 => no fun f => absurd f.2.1 (by have := of_decide_eq_false h2; omega))
  have h1 := of_decide_eq_true h1
  have h2 := of_decide_eq_true h2
  exact pIf_intro (fun h3 => of_b h (decide_eq_true ⟨by omega, by omega, hall', by have := of_decide_eq_true h3; omega⟩)) (fun h3 => no fun f => absurd f.2.2.2 (by have := of_decide_eq_false h3; omega))
 ·refine ok_P (vc := tabCall tabN noCall) hok mixed _ (l_names _ _ _ _ _ _) ?_
  have ek : ((k : Nat) : Int).toNat = k := by omega
  simp only [true_and, ek, cell_str hk, toS]
  refine pIf_intro (fun _ => ?_) (fun hh => by have := of_decide_eq_false hh; omega)
  refine ⟨⟨by omega, by omega⟩, pIf_intro (fun hn => ?_) (fun hn => no fun f => absurd (f.2.2.1 _ (List.getElem_mem hk)) (of_decide_eq_false hn))⟩
  have hv1 := volL_tk l k hk
  have hv2 := volL_take l (k + 1)
  have ew : IntKind.i64.wrap ((l.length : Int) - 1 + ((volL (l.take k) : Nat) : Int) + (l[k].size : Int)) = (l.length : Int) - 1 + ((volL (l.take (k + 1)) : Nat) : Int) := by
   rw [wrap64 (by omega) (by omega)]; omega
  rw [ew, wrapSucc (by omega)]
  exact ih fun i hi hik => by
   rcases Nat.lt_or_ge i k with h' | h'
   ·exact hall i hi h'
   ·obtain rfl : i = k := by omega
    exact of_decide_eq_true hn
def idOk (s : ByteArray) : Prop := s.size ≤ 64 ∧ (pieces s).length ≤ 8 ∧ ∀ p ∈ pieces s, nameOk p
instance (s : ByteArray) : Decidable (idOk s) := by unfold idOk; infer_instance
theorem pieces_vol (s : ByteArray) : (pieces s).length + volL (pieces s) = s.size + 1 := by
 have key : ∀ l : List UInt8, (splitL l).length + ((splitL l).map List.length).sum = l.length + 1 := by
  intro l
  induction l with
  | nil => rfl
  | cons c l ih =>
   by_cases hc : c = 46
   ·subst hc
    simp only [splitL, if_true, List.length_cons, List.map_cons, List.sum_cons, List.length_nil]
    omega
   ·simp only [splitL, hc, if_false]
    split
    ·rename_i p ps hp
     rw [hp] at ih
     simp only [List.length_cons, List.map_cons, List.sum_cons] at ih ⊢
     omega
    ·rename_i hp
     rw [hp] at ih
     simp at ih
 have h := key s.data.toList
 have hl : s.data.toList.length = s.size := by rw [Array.length_toList]; rfl
 unfold pieces volL
 rw [List.length_map, List.map_map, ← hl]
 have e : (List.map (ByteArray.size ∘ fun l => (⟨l.toArray⟩ : ByteArray)) (splitL s.data.toList)) = (splitL s.data.toList).map List.length := List.map_congr_left fun l _ => by simp [ByteArray.size]
 rw [e]
 exact h
def tabId : List Ent := [⟨118, c_split⟩, ⟨117, c_names⟩]
theorem e_id (s : ByteArray) (H : HT) (Post : PV) : vcP Tryz.prog (tabCall tabId noCall) 46 [] [.string s] H Post = (T4 (pIf (decide ((↑s.size : Int) ≤ 64)) (T2 (∃ (s_1 : ByteArray), eqL [vs s, vs (ByteArray.mk #[46])] [vs s_1, vs dot] ∧ s_1.size < 16777216 ∧ ∃ (l : List ByteArray), eqL [tree 1 (List.length (pieces s_1)) (encL (pieces s_1))] [tree 1 l.length (encL l)] ∧ List.length l + volL l ≤ 16777216 ∧ pIf (decide (namesOk l)) (T2 (True ∧ Post (vb true))) (T2 (True ∧ Post (vb false))))) (T4 (Post (vb false))))) := by kernel_rfl
def tabRId : List Ent := [⟨126, c_parts⟩, ⟨127, c_name⟩]
theorem e_rid (s : ByteArray) (H : HT) (Post : PV) : vcP Tryz.prog (tabCall tabRId noCall) 54 [(5, [3, 4])] [.string s] H Post = (T2 (∃ (s_1 : ByteArray), eqL [vs s] [vs s_1] ∧ s_1.size < 16777216 ∧ T4 (pIf (decide ((↑s.size : Int) > 64)) (T4 (Post (vb false))) (T4 (pIf (decide ((↑(List.length (pieces s_1)) : Int) > 8)) (T2 (True ∧ Post (vb false))) (T4 (H (lpC Tryz.prog 54 5) (lpK Tryz.prog 54 5) (stV [(3, some (tree 1 (List.length (pieces s_1)) (encL (pieces s_1)))), (4, some (vi 0))] [] 0)))))))) := by kernel_rfl
theorem l_rid (s : ByteArray) (n : Nat) (A : Array Value) (i : Int) (H : HT) (Post : PV) : vcLP Tryz.prog (tabCall tabRId noCall) 54 [.string s] [(5, [3, 4])] 5 (stV [(3, some (tree 1 n A)), (4, some (.int .i64 i))] [] 0) H Post = (T4 (pIf (decide (i < (↑n : Int))) (T2 ((0 ≤ i ∧ i < (↑n : Int)) ∧ cellAt A (Int.toNat i) 0 = vs (toS (cellAt A (Int.toNat i) 0)) ∧ pIf (decide (nameOk (toS (cellAt A (Int.toNat i) 0)))) (T4 (T2 (H (lpC Tryz.prog 54 5) (lpK Tryz.prog 54 5) (stV [(3, some (tree 1 n A)), (4, some (vi (IntKind.wrap IntKind.i64 (i + 1))))] [] 0)))) (T2 (True ∧ Post (vb false))))) (T2 (Post (vb true))))) := by kernel_rfl
def c_id (args : List Value) (Post : Value → Prop) : Prop := ∃ s : ByteArray, args = [.string s] ∧ s.size < 16777000 ∧ Post (.bool (decide (idOk s)))
theorem ok_rid : EntOk Tryz.prog ⟨54, c_id⟩ := by
 rintro args Post ⟨s, rfl, hs, h⟩
 have hok : VCallOk Tryz.prog (tabCall tabRId noCall) := tabCall_ok (by
  intro e he
  simp only [tabRId, List.mem_cons, List.not_mem_nil, or_false] at he
  rcases he with rfl | rfl
  ·exact ok_parts
  ·exact ok_rName) noCall_ok
 refine pure_P (vc := tabCall tabRId noCall) hok mixed (by kernel_rfl) (by kernel_rfl) _ (e_rid s _ _) ?_
 simp only [true_and]
 have no : ¬ idOk s → Post (.bool false) := fun hn => of_b h (decide_eq_false hn)
 refine ⟨s, rfl, by omega, pIf_intro (fun h1 => no fun f => absurd f.1 (by have := of_decide_eq_true h1; omega)) (fun h1 => ?_)⟩
 refine pIf_intro (fun h2 => no fun f => absurd f.2.1 (by have := of_decide_eq_true h2; omega)) (fun h2 => ?_)
 have h1 := of_decide_eq_false h1
 have h2 := of_decide_eq_false h2
 have key := down (n := (pieces s).length) (p := fun k => (∀ i (hi : i < (pieces s).length), i < k → nameOk (pieces s)[i]) → OkP 54 [.string s] 5 Post (stV [(3, some (tree 1 (pieces s).length (encL (pieces s)))), (4, some (.int .i64 k))] [] 0)) (fun hall => ?_) (fun k hk ih hall => ?_) (fun i hi h0 => by omega)
 ·exact key
 ·refine ok_P (vc := tabCall tabRId noCall) hok mixed _ (l_rid _ _ _ _ _ _) ?_
  simp only [true_and]
  refine pIf_intro (fun hh => by have := of_decide_eq_true hh; omega) (fun _ => ?_)
  refine of_b h (decide_eq_true ⟨by omega, by omega, fun p hp => ?_⟩)
  obtain ⟨i, hi, rfl⟩ := List.mem_iff_getElem.1 hp
  exact hall i hi hi
 ·refine ok_P (vc := tabCall tabRId noCall) hok mixed _ (l_rid _ _ _ _ _ _) ?_
  have ek : ((k : Nat) : Int).toNat = k := by omega
  simp only [true_and, ek, cell_str hk, toS]
  refine pIf_intro (fun _ => ?_) (fun hh => by have := of_decide_eq_false hh; omega)
  refine ⟨⟨by omega, by omega⟩, pIf_intro (fun hn => ?_) (fun hn => no fun f => absurd (f.2.2 _ (List.getElem_mem hk)) (of_decide_eq_false hn))⟩
  rw [wrapSucc (by omega)]
  exact ih fun i hi hik => by
   rcases Nat.lt_or_ge i k with h' | h'
   ·exact hall i hi h'
   ·obtain rfl : i = k := by omega
    exact of_decide_eq_true hn
def formP (k : Int) : Int := if k = 1 then 1 else if k = 2 ∨ k = 3 then 2 else if k = 4 then 3 else 0
def shapeUsed (p : Part) : Prop := p.thick ≠ 0 ∨ 0 < p.outer.length + p.holes.length
def longUsed (p : Part) : Prop := p.sect ≠ ⟨#[]⟩ ∨ p.long ≠ 0
def massUsed (p : Part) : Prop := p.mass ≠ 0 ∨ p.centre ≠ ⟨0, 0, 0⟩
instance (p : Part) : Decidable (shapeUsed p) := by unfold shapeUsed; infer_instance
instance (p : Part) : Decidable (longUsed p) := by unfold longUsed; infer_instance
instance (p : Part) : Decidable (massUsed p) := by unfold massUsed; infer_instance
def spareP (p : Part) : Prop := (formP p.kind = 1 ∧ (longUsed p ∨ massUsed p)) ∨ (formP p.kind = 2 ∧ (shapeUsed p ∨ massUsed p)) ∨ (formP p.kind ≠ 1 ∧ formP p.kind ≠ 2 ∧ (p.grade ≠ ⟨#[]⟩ ∨ shapeUsed p ∨ longUsed p))
instance (p : Part) : Decidable (spareP p) := by unfold spareP; infer_instance
def madeP (p : Part) (m : Mats) : Prop := formP p.kind = 3 ∨ (hasG m p.grade ∧ (1000 ≤ (gradeOf m p.grade).dens ∧ (gradeOf m p.grade).dens ≤ 20000) ∧ ((formP p.kind = 1 ∧ (1 ≤ p.thick ∧ p.thick ≤ 120) ∧ rolled m p.grade p.thick) ∨ (formP p.kind ≠ 1 ∧ hasS m p.sect ∧ (1 ≤ (sectOf m p.sect).area ∧ (sectOf m p.sect).area ≤ 1000000) ∧ (1 ≤ (sectOf m p.sect).height ∧ (sectOf m p.sect).height ≤ 2000))))
instance (p : Part) (m : Mats) : Decidable (madeP p m) := by unfold madeP; infer_instance
def bodyErr (p : Part) : Int := if formP p.kind = 1 then shapeCheck p.outer p.holes else if formP p.kind = 2 then (if p.long < 1 ∨ 32768 < p.long then 9 else 0) else if p.mass < 1 ∨ 1099511627776 < p.mass ∨ ¬ inV p.centre 524288 then 9 else 0
def checkP (p : Part) (m : Mats) : Int := if ¬ idOk p.id ∨ ¬ idOk p.node then 6 else if p.rev < 1 ∨ 1000 < p.rev then 9 else if formP p.kind = 0 then 10 else if spareP p then 2 else if ¬ madeP p m then 23 else if bodyErr p ≠ 0 then bodyErr p else if ¬ validP p.at_ p.turn then 9 else 0
structure FitQ (p : Part) : Prop where
 outer : Short p.outer
 holes : Short p.holes
 all : ∀ h ∈ p.holes, Short h
 sum : p.outer.length + p.holes.length < 4611686018427387904
def c_idU (args : List Value) (Post : Value → Prop) : Prop := ∃ s : ByteArray, args = [.string s] ∧ Post (.bool (decide (idOk s)))
def c_form (args : List Value) (Post : Value → Prop) : Prop := match args with
 | [.int .i64 k] => Post (.int .i64 (formP k))
 | _ => False
def c_spare (args : List Value) (Post : Value → Prop) : Prop := ∃ p : Part, args = [partV p] ∧ FitQ p ∧ Post (.bool (decide (spareP p)))
def c_made (args : List Value) (Post : Value → Prop) : Prop := ∃ (p : Part) (m : Mats), args = [partV p, matsV m] ∧ FewM m ∧ Post (.bool (decide (madeP p m)))
def c_pcheck (args : List Value) (Post : Value → Prop) : Prop := ∃ (p : Part) (m : Mats), args = [partV p, matsV m] ∧ FitQ p ∧ FewM m ∧ Post (.int .i64 (checkP p m))
theorem e_form (k : Int) (H : HT) (Post : PV) : vcP Tryz.prog noCall 48 [] [.int .i64 k] H Post = (T2 (True ∧ pIf (decide (k = 1)) (T2 (True ∧ Post (vi 1))) (T2 (pIf (decide (k = 2)) (T2 (True ∧ Post (vi 2))) (T2 (pIf (decide (k = 3)) (T2 (True ∧ Post (vi 2))) (T2 (pIf (decide (k = 4)) (T2 (True ∧ Post (vi 3))) (T2 (True ∧ Post (vi 0))))))))))) := by kernel_rfl
theorem e_spare (p : Part) (H : HT) (Post : PV) : vcP Tryz.prog (tabCall [⟨48, c_form⟩] noCall) 49 [] [partV p] H Post = (let q12 := T4 (T2 (True ∧ Post (vb false))); let q11 := decide (formP p.kind = 2); let q10 := !decide (p.grade = ByteArray.mk #[]); let q9 := T4 (T2 (True ∧ Post (vb true))); let q8 := !(decide (p.centre.x = 0) && (decide (p.centre.y = 0) && (decide (p.centre.z = 0) && true))); let q5 := T4 (T2 (Post (vb true))); let q7 := T2 (pIf q11 q9 (T4 (pIf q10 q5 (T8 (Post (vb true)))))); let q6 := decide (formP p.kind = 1); let q1 := T2 (pIf q11 q5 (T4 (pIf q10 q5 q9))); let q4 := T4 (True ∧ pIf q8 (T4 (True ∧ pIf q6 q5 q1)) (T4 (True ∧ pIf q6 q5 q1))); let q3 := T4 (True ∧ pIf q8 (T4 (True ∧ pIf q6 q5 q7)) (T4 (True ∧ pIf q6 q5 (T2 (pIf q11 q12 (T4 (pIf q10 q5 (T8 (Post (vb true)))))))))); let q2 := T4 (pIf (!decide (p.long = 0)) (T4 (True ∧ pIf (!decide (p.mass = 0)) (T4 (T2 (pIf q6 q5 q1))) q4)) (T4 (True ∧ pIf (!decide (p.mass = 0)) (T4 (T2 (pIf q6 q9 q1))) (T4 (True ∧ pIf q8 (T4 (True ∧ pIf q6 q9 q1)) (T4 (True ∧ pIf q6 q12 q1))))))); T4 (True ∧ pIf (!decide (p.thick = 0)) (T4 (T2 (pIf (!decide (p.sect = ByteArray.mk #[])) (T4 (T2 (pIf (!decide (p.mass = 0)) (T4 (T2 (pIf q6 q5 q1))) q4))) q2))) (T8 (T2 (True ∧ pIf (decide (IntKind.wrap IntKind.i64 ((↑p.outer.length : Int) + (↑p.holes.length : Int)) > 0)) (T4 (True ∧ pIf (!decide (p.sect = ByteArray.mk #[])) (T4 (T2 (pIf (!decide (p.mass = 0)) (T4 (T2 (pIf q6 q5 q1))) q4))) q2)) (T4 (True ∧ pIf (!decide (p.sect = ByteArray.mk #[])) (T4 (T2 (pIf (!decide (p.mass = 0)) (T4 (T2 (pIf q6 q5 q7))) q3))) (T4 (pIf (!decide (p.long = 0)) (T4 (True ∧ pIf (!decide (p.mass = 0)) (T4 (T2 (pIf q6 q5 q7))) q3)) (T4 (True ∧ pIf (!decide (p.mass = 0)) (T4 (T2 (pIf q6 q9 (T2 (pIf q11 q9 (T4 (pIf q10 q5 (T8 (Post (vb false)))))))))) (T4 (True ∧ pIf q8 (T4 (True ∧ pIf q6 q9 (T2 (pIf q11 q9 (T4 (pIf q10 q5 (T8 (Post (vb false))))))))) (T4 (True ∧ pIf q6 q12 (T2 (pIf q11 q12 (T4 (pIf q10 q5 (T8 (Post (vb false)))))))))))))))))))))) := by kernel_rfl
def vcMd : VCall := inlCall Tryz.prog [47] (tabCall [⟨48, c_form⟩, ⟨62, c_Grade⟩, ⟨63, c_Sect⟩, ⟨119, c_Rolled⟩] noCall) 2
theorem e_made (p : Part) (m : Mats) (H : HT) (Post : PV) : vcP Tryz.prog vcMd 50 [] [partV p, matsV m] H Post = (let q2 := True ∧ Post (vb false); let q1 := #[tree 4 (List.length (Mats.grades m)) (encL (Mats.grades m)), tree 4 (List.length (Mats.sects m)) (encL (Mats.sects m))]; T4 (T2 (pIf (decide (formP p.kind = 3)) (T2 (Post (vb true))) (T2 (True ∧ ∃ (m_1 : Mats), ∃ (s : ByteArray), eqL [Value.agg q1, vs p.grade] [matsV m_1, vs s] ∧ FewM m_1 ∧ T2 (True ∧ pIf (decide (hasG m_1 s)) (True ∧ 4 ≤ 4 ∧ T8 (T2 (pIf (decide (Grade4.dens (gradeOf m_1 s) ≥ 1000)) (T4 (pIf (decide (Grade4.dens (gradeOf m_1 s) ≤ 20000)) (T4 (T2 (True ∧ pIf (decide (formP p.kind = 1)) (T4 (T2 (pIf (decide (p.thick ≥ 1)) (T4 (pIf (decide (p.thick ≤ 120)) (T8 (∃ (m_2 : Mats), ∃ (s : ByteArray), ∃ (t : Int), eqL [Value.agg q1, vs p.grade, vi p.thick] [matsV m_2, vs s, vi t] ∧ FewM m_2 ∧ pIf (decide (rolled m_2 s t)) (T2 (True ∧ Post (vb true))) (T2 q2))) (T4 (T2 (Post (vb false)))))) (T4 (T2 q2))))) (T2 (True ∧ ∃ (m_2 : Mats), ∃ (s : ByteArray), eqL [Value.agg q1, vs p.sect] [matsV m_2, vs s] ∧ FewM m_2 ∧ T2 (True ∧ pIf (decide (hasS m_2 s)) (True ∧ 4 ≤ 4 ∧ T8 (True ∧ pIf (decide (Sect4.area (sectOf m_2 s) ≥ 1)) (T4 (pIf (decide (Sect4.area (sectOf m_2 s) ≤ 1000000)) (T8 (T2 (pIf (decide (Sect4.height (sectOf m_2 s) ≥ 1)) (T4 (pIf (decide (Sect4.height (sectOf m_2 s) ≤ 2000)) (T4 (True ∧ Post (vb true))) (T4 q2))) (T4 (T2 (Post (vb false))))))) (T4 (T2 q2)))) (T8 (Post (vb false))))) (True ∧ 4 ≤ 4 ∧ T8 (Post (vb false))))))))) (T4 (T2 (Post (vb false)))))) (T4 (T2 q2))))) (True ∧ 4 ≤ 4 ∧ T4 (T2 q2)))))))) := by kernel_rfl
def vcPk : VCall := inlCall Tryz.prog [47, 52] (tabCall [⟨48, c_form⟩, ⟨49, c_spare⟩, ⟨50, c_made⟩, ⟨46, c_idU⟩, ⟨51, c_rchk⟩, ⟨53, c_vvalid⟩] noCall) 2
theorem e_pcheck (p : Part) (m : Mats) (H : HT) (Post : PV) : vcP Tryz.prog vcPk 15 [] [partV p, matsV m] H Post = (let q3 := T2 (True ∧ Post (vi 9)); let q2 := [Value.agg #[vi p.at_.x, vi p.at_.y, vi p.at_.z, vi p.turn]]; let q1 := #[vs p.id, vi p.rev, vi p.kind, vs p.node, vs p.grade, vi p.thick, trPt p.outer, trPts p.holes, vs p.sect, vi p.long, vi p.mass, vi p.centre.x, vi p.centre.y, vi p.centre.z, vi p.at_.x, vi p.at_.y, vi p.at_.z, vi p.turn]; T4 (True ∧ ∃ (s : ByteArray), eqL [vs p.id] [vs s] ∧ pIf (decide (idOk s)) (T4 (∃ (s : ByteArray), eqL [vs p.node] [vs s] ∧ pIf (decide (idOk s)) (T8 (True ∧ pIf (decide (p.rev ≥ 1)) (T4 (pIf (decide (p.rev ≤ 1000)) (T4 (T2 (True ∧ pIf (decide (formP p.kind = 0)) (T2 (True ∧ Post (vi 10))) (T2 (∃ (p_1 : Part), eqL [Value.agg q1] [partV p_1] ∧ FitQ p_1 ∧ pIf (decide (spareP p_1)) (T2 (True ∧ Post (vi 2))) (T2 (True ∧ ∃ (p_2 : Part), ∃ (m_1 : Mats), eqL [Value.agg q1, Value.agg #[tree 4 (List.length (Mats.grades m)) (encL (Mats.grades m)), tree 4 (List.length (Mats.sects m)) (encL (Mats.sects m))]] [partV p_2, matsV m_1] ∧ FewM m_1 ∧ pIf (decide (madeP p_2 m_1)) (T4 (True ∧ pIf (decide (formP p.kind = 1)) (T2 (True ∧ ∃ (o : List Pt), ∃ (hs : List (List Pt)), eqL [Value.agg #[trPt p.outer, trPts p.holes]] [shapeV o hs] ∧ Short o ∧ Short hs ∧ (∀ (h : List Pt), h ∈ hs → Short h) ∧ T2 (True ∧ pIf (!decide (shapeCheck o hs = 0)) (T2 (True ∧ Post (vi (shapeCheck o hs)))) (T2 (∃ (a : Vec3), ∃ (k : Int), eqL q2 [placeV a k] ∧ pIf (decide (validP a k)) (T2 (True ∧ Post (vi 0))) q3))))) (T2 (pIf (decide (formP p.kind = 2)) (T4 (T2 (True ∧ pIf (decide (p.long ≥ 1)) (T4 (pIf (decide (p.long ≤ 32768)) (T4 (True ∧ ∃ (a : Vec3), ∃ (k : Int), eqL q2 [placeV a k] ∧ pIf (decide (validP a k)) (T2 (True ∧ Post (vi 0))) q3)) (T4 (True ∧ Post (vi 9))))) (T4 (T2 (Post (vi 9))))))) (T2 (pIf (decide (formP p.kind = 3)) (T4 (T2 (True ∧ pIf (decide (p.mass ≥ 1)) (T4 (pIf (decide (p.mass ≤ 1099511627776)) (T8 (T2 (∃ (a : Vec3), ∃ (k : Int), eqL [Value.agg #[vi p.centre.x, vi p.centre.y, vi p.centre.z, vi 0]] [placeV a k] ∧ pIf (decide (validP a k)) (T4 (True ∧ ∃ (a : Vec3), ∃ (k : Int), eqL q2 [placeV a k] ∧ pIf (decide (validP a k)) (T2 (True ∧ Post (vi 0))) q3)) (T4 (True ∧ Post (vi 9)))))) (T4 q3))) (T8 (Post (vi 9)))))) (T2 (True ∧ ∃ (a : Vec3), ∃ (k : Int), eqL q2 [placeV a k] ∧ pIf (decide (validP a k)) (T2 (True ∧ Post (vi 0))) q3)))))))) (T4 (Post (vi 23)))))))))) (T4 (T2 (Post (vi 9)))))) (T4 q3))) (T4 (True ∧ Post (vi 6))))) (T4 (T2 (Post (vi 6)))))) := by kernel_rfl
theorem formP_cases (k : Int) : formP k = 0 ∨ formP k = 1 ∨ formP k = 2 ∨ formP k = 3 := by
 unfold formP
 repeat' split
 all_goals simp
theorem ok_form : EntOk Tryz.prog ⟨48, c_form⟩ := by
 intro args Post hc
 unfold c_form at hc
 dsimp only at hc
 split at hc
 case h_2 => exact hc.elim
 rename_i k
 refine pure_P noCall_ok mixed (by kernel_rfl) (by kernel_rfl) _ (e_form k _ _) ?_
 unfold formP at hc
 simp only [true_and]
 refine ifD (fun h1 => ?_) (fun h1 => ?_)
 ·rwa [if_pos h1] at hc
 rw [if_neg h1] at hc
 refine ifD (fun h2 => ?_) (fun h2 => ifD (fun h3 => ?_) (fun h3 => ?_))
 ·rwa [if_pos (.inl h2)] at hc
 ·rwa [if_pos (.inr h3)] at hc
 rw [if_neg (by omega)] at hc
 refine ifD (fun h4 => ?_) (fun h4 => ?_)
 ·rwa [if_pos h4] at hc
 ·rwa [if_neg h4] at hc
theorem vec_zero (c : Vec3) : (decide (c.x = 0) && (decide (c.y = 0) && (decide (c.z = 0) && true))) = decide (c = ⟨0, 0, 0⟩) := by
 cases c with
 | mk x y z =>
  simp only [Vec3.mk.injEq, Bool.and_true]
  by_cases h1 : x = 0 <;> by_cases h2 : y = 0 <;> by_cases h3 : z = 0 <;> simp [h1, h2, h3]
theorem used_len {p : Part} (hf : FitQ p) : (IntKind.i64.wrap ((p.outer.length : Int) + (p.holes.length : Int)) > 0) = (0 < p.outer.length + p.holes.length) := by
 have := hf.sum
 rw [wrap64 (by omega) (by omega)]
 exact propext ⟨fun h => by omega, fun h => by omega⟩
theorem ok_spare : EntOk Tryz.prog ⟨49, c_spare⟩ := by
 rintro args Post ⟨p, rfl, hf, h⟩
 refine pure_P (tabCall_ok (by
  intro e he
  simp only [List.mem_cons, List.not_mem_nil, or_false] at he
  subst he
  exact ok_form) noCall_ok) mixed (by kernel_rfl) (by kernel_rfl) _ (e_spare p _ _) ?_
 simp only [true_and, vec_zero, used_len hf]
 have yes : spareP p → Post (.bool true) := fun hp => by rwa [decide_eq_true hp] at h
 have no : ¬ spareP p → Post (.bool false) := fun hp => by rwa [decide_eq_false hp] at h
 clear h
 unfold spareP shapeUsed longUsed massUsed at yes no
 generalize p.thick = q2 at *
 generalize p.sect = q3 at *
 generalize p.long = q4 at *
 generalize p.mass = q5 at *
 generalize p.centre = q6 at *
 generalize p.grade = q7 at *
 generalize formP p.kind = q8 at *
 repeat' (first
  | refine ifN (fun _ => ?_) (fun _ => ?_)
  | refine ifD (fun _ => ?_) (fun _ => ?_)
  | exact yes (by simp [*])
  | exact no (by simp [*])
  | fail)
theorem vcMd_ok : VCallOk Tryz.prog vcMd := inlCall_ok mixed (tabCall_ok (by
 intro e he
 simp only [List.mem_cons, List.not_mem_nil, or_false] at he
 rcases he with rfl | rfl | rfl | rfl
 ·exact ok_form
 ·exact ok_Grade
 ·exact ok_Sect
 ·exact ok_Rolled) noCall_ok) 2
theorem ok_made : EntOk Tryz.prog ⟨50, c_made⟩ := by
 rintro args Post ⟨p, m, rfl, hf, h⟩
 refine pure_P vcMd_ok mixed (by kernel_rfl) (by kernel_rfl) _ (e_made p m _ _) ?_
 simp only [true_and]
 have yes : madeP p m → Post (.bool true) := fun hp => by rwa [decide_eq_true hp] at h
 have no : ¬ madeP p m → Post (.bool false) := fun hp => by rwa [decide_eq_false hp] at h
 clear h
 refine ifD (fun h1 => yes (.inl h1)) (fun h1 => ⟨m, p.grade, rfl, hf, ifD (fun h2 => ⟨by decide, ?_⟩) (fun h2 => ⟨by decide, no ?_⟩)⟩)
 case refine_2 => rintro (h | h); exact h1 h; exact h2 h.1
 refine ifD (fun h3 => ifD (fun h4 => ?_) (fun h4 => no ?_)) (fun h3 => no ?_)
 case refine_2 => rintro (h | h); exact h1 h; exact h4 h.2.1.2
 case refine_3 => rintro (h | h); exact h1 h; exact h3 h.2.1.1
 refine ifD (fun h5 => ?_) (fun h5 => ⟨m, p.sect, rfl, hf, ifD (fun h6 => ⟨by decide, ?_⟩) (fun h6 => ⟨by decide, no ?_⟩)⟩)
 ·refine ifD (fun h6 => ifD (fun h7 => ⟨m, p.grade, p.thick, rfl, hf, ifD (fun h8 => yes (.inr ⟨h2, ⟨h3, h4⟩, .inl ⟨h5, ⟨h6, h7⟩, h8⟩⟩)) (fun h8 => no ?_)⟩) (fun h7 => no ?_)) (fun h6 => no ?_)
  ·rintro (h | ⟨_, _, h | h⟩)
   ·exact h1 h
   ·exact h8 h.2.2
   ·exact h.1 h5
  ·rintro (h | ⟨_, _, h | h⟩)
   ·exact h1 h
   ·exact h7 h.2.1.2
   ·exact h.1 h5
  ·rintro (h | ⟨_, _, h | h⟩)
   ·exact h1 h
   ·exact h6 h.2.1.1
   ·exact h.1 h5
 ·refine ifD (fun h7 => ifD (fun h8 => ifD (fun h9 => ifD (fun h10 => yes (.inr ⟨h2, ⟨h3, h4⟩, .inr ⟨h5, h6, ⟨h7, h8⟩, h9, h10⟩⟩)) (fun h10 => no ?_)) (fun h9 => no ?_)) (fun h8 => no ?_)) (fun h7 => no ?_)
  ·rintro (h | ⟨_, _, h | h⟩)
   ·exact h1 h
   ·exact h5 h.1
   ·exact h10 h.2.2.2.2
  ·rintro (h | ⟨_, _, h | h⟩)
   ·exact h1 h
   ·exact h5 h.1
   ·exact h9 h.2.2.2.1
  ·rintro (h | ⟨_, _, h | h⟩)
   ·exact h1 h
   ·exact h5 h.1
   ·exact h8 h.2.2.1.2
  ·rintro (h | ⟨_, _, h | h⟩)
   ·exact h1 h
   ·exact h5 h.1
   ·exact h7 h.2.2.1.1
 ·rintro (h | ⟨_, _, h | h⟩)
  ·exact h1 h
  ·exact h5 h.1
  ·exact h6 h.2.1
theorem ok_idU : EntOk Tryz.prog ⟨46, c_idU⟩ := by
 rintro args Post ⟨s, rfl, h⟩
 have hok : VCallOk Tryz.prog (tabCall tabId noCall) := tabCall_ok (by
  intro e he
  simp only [tabId, List.mem_cons, List.not_mem_nil, or_false] at he
  rcases he with rfl | rfl
  ·exact ok_split
  ·exact ok_names) noCall_ok
 refine pure_P (vc := tabCall tabId noCall) hok mixed (by kernel_rfl) (by kernel_rfl) _ (e_id s _ _) ?_
 simp only [true_and]
 have no : ¬ idOk s → Post (.bool false) := fun hn => of_b h (decide_eq_false hn)
 refine pIf_intro (fun h1 => ?_) (fun h1 => no fun f => absurd f.1 (by have := of_decide_eq_false h1; omega))
 have h1 := of_decide_eq_true h1
 have hv := pieces_vol s
 refine ⟨s, rfl, by omega, pieces s, rfl, by omega, pIf_intro (fun h2 => ?_) (fun h2 => no fun f => ?_)⟩
 ·obtain ⟨_, g2, g3, _⟩ := of_decide_eq_true h2
  exact of_b h (decide_eq_true ⟨by omega, g2, g3⟩)
 ·refine of_decide_eq_false h2 ⟨?_, f.2.1, f.2.2, by omega⟩
  rcases Nat.eq_zero_or_pos (pieces s).length with h0 | h0
  ·exact absurd (List.eq_nil_of_length_eq_zero h0) (pieces_ne s)
  ·exact h0
theorem vcPk_ok : VCallOk Tryz.prog vcPk := inlCall_ok mixed (tabCall_ok (by
 intro e he
 simp only [List.mem_cons, List.not_mem_nil, or_false] at he
 rcases he with rfl | rfl | rfl | rfl | rfl | rfl
 ·exact ok_form
 ·exact ok_spare
 ·exact ok_made
 ·exact ok_idU
 ·exact ok_rchk
 ·exact ok_vvalid) noCall_ok) 2
theorem valid_zero (c : Vec3) : validP c 0 ↔ inV c 524288 := ⟨fun h => h.1, fun h => ⟨h, rfl⟩⟩
theorem ok_pcheck : EntOk Tryz.prog ⟨15, c_pcheck⟩ := by
 rintro args Post ⟨p, m, rfl, hq, hf, h⟩
 refine pure_P vcPk_ok mixed (by kernel_rfl) (by kernel_rfl) _ (e_pcheck p m _ _) ?_
 simp only [true_and]
 unfold checkP at h
 refine ⟨p.id, rfl, ifD (fun h1 => ⟨p.node, rfl, ifD (fun h2 => ?_) (fun h2 => ?_)⟩) (fun h1 => ?_)⟩
 case refine_2 => rwa [if_pos (.inr h2)] at h
 case refine_3 => rwa [if_pos (.inl h1)] at h
 rw [if_neg (by rintro (h | h); exact h h1; exact h h2)] at h
 refine ifD (fun h3 => ifD (fun h4 => ?_) (fun h4 => ?_)) (fun h3 => ?_)
 case refine_2 => rwa [if_pos (by omega)] at h
 case refine_3 => rwa [if_pos (by omega)] at h
 rw [if_neg (by omega)] at h
 refine ifD (fun h5 => ?_) (fun h5 => ⟨p, rfl, hq, ifD (fun h6 => ?_) (fun h6 => ⟨p, m, rfl, hf, ifD (fun h7 => ?_) (fun h7 => ?_)⟩)⟩)
 ·rwa [if_pos h5] at h
 ·rwa [if_neg h5, if_pos h6] at h
 case refine_4 => rwa [if_neg h5, if_neg h6, if_pos h7] at h
 rw [if_neg h5, if_neg h6, if_neg (fun hn => hn h7)] at h
 -- the placement, behind the body
 have last : bodyErr p = 0 → ∃ (a : Vec3) (k : Int), eqL [placeV p.at_ p.turn] [placeV a k] ∧ pIf (decide (validP a k)) (Post (.int .i64 0)) (Post (.int .i64 9)) := fun hb => by
  rw [if_neg (by rw [hb]; exact fun h => h rfl)] at h
  refine ⟨p.at_, p.turn, rfl, ifD (fun h8 => ?_) (fun h8 => ?_)⟩
  ·rwa [if_neg (fun hn => hn h8)] at h
  ·rwa [if_pos h8] at h
 have bad : ∀ e : Int, bodyErr p = e → e ≠ 0 → Post (.int .i64 e) := fun e he hn => by
  rw [if_pos (by rw [he]; exact hn), he] at h
  exact h
 unfold bodyErr at last bad
 refine ifD (fun f1 => ⟨p.outer, p.holes, rfl, hq.outer, hq.holes, hq.all, ifN (fun g => bad _ (by rw [if_pos f1]) g) (fun g => last (by rw [if_pos f1]; exact g))⟩) (fun f1 => ?_)
 rw [if_neg f1] at last bad
 refine ifD (fun f2 => ?_) (fun f2 => ?_)
 ·rw [if_pos f2] at last bad
  refine ifD (fun g1 => ifD (fun g2 => last (by rw [if_neg (by omega)])) (fun g2 => bad 9 (by rw [if_pos (by omega)]) (by decide))) (fun g1 => bad 9 (by rw [if_pos (by omega)]) (by decide))
 rw [if_neg f2] at last bad
 refine ifD (fun f3 => ?_) (fun f3 => ?_)
 ·refine ifD (fun g1 => ifD (fun g2 => ⟨p.centre, 0, rfl, ifD (fun g3 => last ?_) (fun g3 => bad 9 ?_ (by decide))⟩) (fun g2 => bad 9 (by rw [if_pos (.inr (.inl (by omega)))]) (by decide))) (fun g1 => bad 9 (by rw [if_pos (.inl (by omega))]) (by decide))
  ·rw [if_neg]
   rintro (h | h | h)
   ·omega
   ·omega
   ·exact h ((valid_zero _).1 g3)
  ·rw [if_pos (.inr (.inr fun hi => g3 ((valid_zero _).2 hi)))]
 ·have := formP_cases p.kind
  omega
abbrev wr64 (n : Int) : Int := IntKind.wrap .i64 n
def massRaw (p : Part) (m : Mats) : Int := if formP p.kind = 1 then wr64 (Int.tdiv (wr64 (wr64 (rArea p.outer p.holes * p.thick) * (gradeOf m p.grade).dens)) 2000000) else if formP p.kind = 2 then wr64 (Int.tdiv (wr64 (wr64 ((sectOf m p.sect).area * p.long) * (gradeOf m p.grade).dens)) 1000000) else p.mass
def massP (p : Part) (m : Mats) : Int := if checkP p m = 0 then massRaw p m else 0
def centreRaw (p : Part) (m : Mats) : Vec3 := if formP p.kind = 1 then ⟨roundP (rMomX p.outer p.holes) (3 * rArea p.outer p.holes), roundP (rMomY p.outer p.holes) (3 * rArea p.outer p.holes), roundP p.thick 2⟩ else if formP p.kind = 2 then ⟨roundP p.long 2, 0, roundP (sectOf m p.sect).height 2⟩ else p.centre
def centreP (p : Part) (m : Mats) : Vec3 := if checkP p m = 0 then centreRaw p m else ⟨0, 0, 0⟩
structure Wt where
 m : Int
 x : Int
 y : Int
 z : Int
 v : Int
 deriving DecidableEq
def wt0 : Wt := ⟨0, 0, 0, 0, 0⟩
abbrev wtV (w : Wt) : Value := .agg #[.int .i64 w.m, .int .i64 w.x, .int .i64 w.y, .int .i64 w.z, .int .i64 w.v]
def weightP (p : Part) (m : Mats) : Wt := if checkP p m = 0 then ⟨massP p m, wr64 (massP p m * (applyV p.at_ p.turn (centreP p m)).x), wr64 (massP p m * (applyV p.at_ p.turn (centreP p m)).y), wr64 (massP p m * (applyV p.at_ p.turn (centreP p m)).z), wr64 (ceilP (massP p m) 50000 * ceilP (massP p m) 50000)⟩ else wt0
def c_Mass (args : List Value) (Post : Value → Prop) : Prop := ∃ (p : Part) (m : Mats), args = [partV p, matsV m] ∧ FitQ p ∧ FewM m ∧ Post (.tuple #[.int .i64 (massP p m), .int .i64 (checkP p m)])
def c_Centre (args : List Value) (Post : Value → Prop) : Prop := ∃ (p : Part) (m : Mats), args = [partV p, matsV m] ∧ FitQ p ∧ FewM m ∧ Post (.tuple #[vecV (centreP p m), .int .i64 (checkP p m)])
def c_Weight (args : List Value) (Post : Value → Prop) : Prop := ∃ (p : Part) (m : Mats), args = [partV p, matsV m] ∧ FitQ p ∧ FewM m ∧ Post (.tuple #[wtV (weightP p m), .int .i64 (checkP p m)])
def vcMa : VCall := tabCall [⟨48, c_form⟩, ⟨15, c_pcheck⟩, ⟨62, c_Grade⟩, ⟨63, c_Sect⟩, ⟨64, c_rar2⟩] noCall
theorem e_Mass (p : Part) (m : Mats) (H : HT) (Post : PV) : vcP Tryz.prog vcMa 18 [] [partV p, matsV m] H Post = (let q5 := toI (vi 1000000) = 0 → False; let q4 := toI (vi 2000000) = 0 → False; let q3 := [Value.agg #[trPt p.outer, trPts p.holes]]; let q2 := T4 (True ∧ (T2 (True)) ∧ Post (Value.tuple #[vi p.mass, vi 0])); let q1 := #[tree 4 (List.length (Mats.grades m)) (encL (Mats.grades m)), tree 4 (List.length (Mats.sects m)) (encL (Mats.sects m))]; T4 (T2 (∃ (p_1 : Part), ∃ (m_1 : Mats), eqL [Value.agg #[vs p.id, vi p.rev, vi p.kind, vs p.node, vs p.grade, vi p.thick, trPt p.outer, trPts p.holes, vs p.sect, vi p.long, vi p.mass, vi p.centre.x, vi p.centre.y, vi p.centre.z, vi p.at_.x, vi p.at_.y, vi p.at_.z, vi p.turn], Value.agg q1] [partV p_1, matsV m_1] ∧ FitQ p_1 ∧ FewM m_1 ∧ T2 (True ∧ pIf (!decide (checkP p_1 m_1 = 0)) (T2 (True ∧ (T2 (True)) ∧ Post (Value.tuple #[vi 0, vi (checkP p_1 m_1)]))) (T2 (True ∧ ∃ (m_2 : Mats), ∃ (s : ByteArray), eqL [Value.agg q1, vs p.grade] [matsV m_2, vs s] ∧ FewM m_2 ∧ T2 (True ∧ pIf (decide (hasG m_2 s)) (True ∧ 4 ≤ 4 ∧ T4 (∃ (m_3 : Mats), ∃ (s_1 : ByteArray), eqL [Value.agg q1, vs p.sect] [matsV m_3, vs s_1] ∧ FewM m_3 ∧ T2 (True ∧ pIf (decide (hasS m_3 s_1)) (True ∧ 4 ≤ 4 ∧ T4 (pIf (decide (formP p.kind = 1)) (T4 (T2 (True ∧ ∃ (o : List Pt), ∃ (hs : List (List Pt)), eqL q3 [shapeV o hs] ∧ Short o ∧ Short hs ∧ (∀ (h : List Pt), h ∈ hs → Short h) ∧ T2 (True ∧ q4 ∧ T2 ((T2 (True)) ∧ Post (Value.tuple #[vi (IntKind.wrap IntKind.i64 (Int.tdiv (IntKind.wrap IntKind.i64 (IntKind.wrap IntKind.i64 (rArea o hs * p.thick) * Grade4.dens (gradeOf m_2 s))) 2000000)), vi 0])))))) (T2 (pIf (decide (formP p.kind = 2)) (T8 (True ∧ q5 ∧ T2 ((T2 (True)) ∧ Post (Value.tuple #[vi (IntKind.wrap IntKind.i64 (Int.tdiv (IntKind.wrap IntKind.i64 (IntKind.wrap IntKind.i64 (Sect4.area (sectOf m_3 s_1) * p.long) * Grade4.dens (gradeOf m_2 s))) 1000000)), vi 0])))) q2)))) (True ∧ 4 ≤ 4 ∧ T4 (pIf (decide (formP p.kind = 1)) (T4 (T2 (True ∧ ∃ (o : List Pt), ∃ (hs : List (List Pt)), eqL q3 [shapeV o hs] ∧ Short o ∧ Short hs ∧ (∀ (h : List Pt), h ∈ hs → Short h) ∧ T2 (True ∧ q4 ∧ T2 ((T2 (True)) ∧ Post (Value.tuple #[vi (IntKind.wrap IntKind.i64 (Int.tdiv (IntKind.wrap IntKind.i64 (IntKind.wrap IntKind.i64 (rArea o hs * p.thick) * Grade4.dens (gradeOf m_2 s))) 2000000)), vi 0])))))) (T2 (pIf (decide (formP p.kind = 2)) (T8 (True ∧ q5 ∧ T2 ((T2 (True)) ∧ Post (Value.tuple #[vi (IntKind.wrap IntKind.i64 (Int.tdiv (IntKind.wrap IntKind.i64 (IntKind.wrap IntKind.i64 (Sect4.area (sectOf m_3 s_1) * p.long) * Grade4.dens (gradeOf m_2 s))) 1000000)), vi 0])))) q2))))))) (True ∧ 4 ≤ 4 ∧ T4 (∃ (m_3 : Mats), ∃ (s_1 : ByteArray), eqL [Value.agg q1, vs p.sect] [matsV m_3, vs s_1] ∧ FewM m_3 ∧ T2 (True ∧ pIf (decide (hasS m_3 s_1)) (True ∧ 4 ≤ 4 ∧ T4 (pIf (decide (formP p.kind = 1)) (T4 (T2 (True ∧ ∃ (o : List Pt), ∃ (hs : List (List Pt)), eqL q3 [shapeV o hs] ∧ Short o ∧ Short hs ∧ (∀ (h : List Pt), h ∈ hs → Short h) ∧ T2 (True ∧ q4 ∧ T2 ((T2 (True)) ∧ Post (Value.tuple #[vi (IntKind.wrap IntKind.i64 (Int.tdiv (IntKind.wrap IntKind.i64 (IntKind.wrap IntKind.i64 (rArea o hs * p.thick) * Grade4.dens (gradeOf m_2 s))) 2000000)), vi 0])))))) (T2 (pIf (decide (formP p.kind = 2)) (T8 (True ∧ q5 ∧ T2 ((T2 (True)) ∧ Post (Value.tuple #[vi (IntKind.wrap IntKind.i64 (Int.tdiv (IntKind.wrap IntKind.i64 (IntKind.wrap IntKind.i64 (Sect4.area (sectOf m_3 s_1) * p.long) * Grade4.dens (gradeOf m_2 s))) 1000000)), vi 0])))) q2)))) (True ∧ 4 ≤ 4 ∧ T4 (pIf (decide (formP p.kind = 1)) (T4 (T2 (True ∧ ∃ (o : List Pt), ∃ (hs : List (List Pt)), eqL q3 [shapeV o hs] ∧ Short o ∧ Short hs ∧ (∀ (h : List Pt), h ∈ hs → Short h) ∧ T2 (True ∧ q4 ∧ T2 ((T2 (True)) ∧ Post (Value.tuple #[vi (IntKind.wrap IntKind.i64 (Int.tdiv (IntKind.wrap IntKind.i64 (IntKind.wrap IntKind.i64 (rArea o hs * p.thick) * Grade4.dens (gradeOf m_2 s))) 2000000)), vi 0])))))) (T2 (pIf (decide (formP p.kind = 2)) (T8 (True ∧ q5 ∧ T2 ((T2 (True)) ∧ Post (Value.tuple #[vi (IntKind.wrap IntKind.i64 (Int.tdiv (IntKind.wrap IntKind.i64 (IntKind.wrap IntKind.i64 (Sect4.area (sectOf m_3 s_1) * p.long) * Grade4.dens (gradeOf m_2 s))) 1000000)), vi 0])))) q2)))))))))))))) := by kernel_rfl
def vcCe : VCall := inlCall Tryz.prog [69] (tabCall [⟨48, c_form⟩, ⟨15, c_pcheck⟩, ⟨63, c_Sect⟩, ⟨64, c_rar2⟩, ⟨68, c_rmom⟩, ⟨142, c_round⟩] noCall) 2
theorem e_Centre (p : Part) (m : Mats) (H : HT) (Post : PV) : vcP Tryz.prog vcCe 20 [] [partV p, matsV m] H Post = (let q2 := #[tree 4 (List.length (Mats.grades m)) (encL (Mats.grades m)), tree 4 (List.length (Mats.sects m)) (encL (Mats.sects m))]; let q1 := (T2 (True ∧ True)) ∧ True ∧ True; T4 (T2 (∃ (p_1 : Part), ∃ (m_1 : Mats), eqL [Value.agg #[vs p.id, vi p.rev, vi p.kind, vs p.node, vs p.grade, vi p.thick, trPt p.outer, trPts p.holes, vs p.sect, vi p.long, vi p.mass, vi p.centre.x, vi p.centre.y, vi p.centre.z, vi p.at_.x, vi p.at_.y, vi p.at_.z, vi p.turn], Value.agg q2] [partV p_1, matsV m_1] ∧ FitQ p_1 ∧ FewM m_1 ∧ T2 (True ∧ pIf (!decide (checkP p_1 m_1 = 0)) (T2 (3 ≤ 3 ∧ True ∧ q1 ∧ Post (Value.tuple #[Value.agg #[vi 0, vi 0, vi 0], vi (checkP p_1 m_1)]))) (T2 (True ∧ pIf (decide (formP p.kind = 1)) (T2 (True ∧ ∃ (o : List Pt), ∃ (hs : List (List Pt)), eqL [Value.agg #[trPt p.outer, trPts p.holes]] [shapeV o hs] ∧ Short o ∧ Short hs ∧ (∀ (h : List Pt), h ∈ hs → Short h) ∧ T4 (T2 (True ∧ ∃ (o_1 : List Pt), ∃ (hs_1 : List (List Pt)), eqL [Value.agg #[trPt p.outer, trPts p.holes]] [shapeV o_1 hs_1] ∧ Short o_1 ∧ Short hs_1 ∧ (∀ (h : List Pt), h ∈ hs_1 → Short h) ∧ T8 (T2 (True ∧ ∃ (a : Int), ∃ (b : Int), eqL [vi (rMomX o hs), vi (IntKind.wrap IntKind.i64 (3 * rArea o_1 hs_1))] [vi a, vi b] ∧ Quo a b ∧ T4 (T2 (True ∧ ((vi p.thick = vi p.thick ∧ True) ∧ True) ∧ T2 (True ∧ ∃ (a_1 : Int), ∃ (b_1 : Int), eqL [vi (rMomY o hs), vi (IntKind.wrap IntKind.i64 (3 * rArea o_1 hs_1))] [vi a_1, vi b_1] ∧ Quo a_1 b_1 ∧ T4 (T2 (True ∧ ((vi p.thick = vi p.thick ∧ True) ∧ True) ∧ T2 (True ∧ ∃ (a_2 : Int), ∃ (b_2 : Int), eqL [vi p.thick, vi 2] [vi a_2, vi b_2] ∧ Quo a_2 b_2 ∧ T8 (True ∧ 3 ≤ 3 ∧ T2 (q1 ∧ Post (Value.tuple #[Value.agg #[vi (roundP a b), vi (roundP a_1 b_1), vi (roundP a_2 b_2)], vi 0]))))))))))))))) (T2 (pIf (decide (formP p.kind = 2)) (T4 (∃ (m_2 : Mats), ∃ (s : ByteArray), eqL [Value.agg q2, vs p.sect] [matsV m_2, vs s] ∧ FewM m_2 ∧ T2 (True ∧ pIf (decide (hasS m_2 s)) (True ∧ 4 ≤ 4 ∧ T8 (∃ (a : Int), ∃ (b : Int), eqL [vi p.long, vi 2] [vi a, vi b] ∧ Quo a b ∧ T4 (T2 (True ∧ ((vi (Sect4.height (sectOf m_2 s)) = vi (Sect4.height (sectOf m_2 s)) ∧ True) ∧ True) ∧ T2 (True ∧ ∃ (a_1 : Int), ∃ (b_1 : Int), eqL [vi (Sect4.height (sectOf m_2 s)), vi 2] [vi a_1, vi b_1] ∧ Quo a_1 b_1 ∧ T8 (True ∧ 3 ≤ 3 ∧ T2 (q1 ∧ Post (Value.tuple #[Value.agg #[vi (roundP a b), vi 0, vi (roundP a_1 b_1)], vi 0])))))))) (True ∧ 4 ≤ 4 ∧ T8 (∃ (a : Int), ∃ (b : Int), eqL [vi p.long, vi 2] [vi a, vi b] ∧ Quo a b ∧ T4 (T2 (True ∧ ((vi (Sect4.height (sectOf m_2 s)) = vi (Sect4.height (sectOf m_2 s)) ∧ True) ∧ True) ∧ T2 (True ∧ ∃ (a_1 : Int), ∃ (b_1 : Int), eqL [vi (Sect4.height (sectOf m_2 s)), vi 2] [vi a_1, vi b_1] ∧ Quo a_1 b_1 ∧ T8 (True ∧ 3 ≤ 3 ∧ T2 (q1 ∧ Post (Value.tuple #[Value.agg #[vi (roundP a b), vi 0, vi (roundP a_1 b_1)], vi 0]))))))))))) (T2 (True ∧ 3 ≤ 3 ∧ True ∧ q1 ∧ Post (Value.tuple #[Value.agg #[vi p.centre.x, vi p.centre.y, vi p.centre.z], vi 0]))))))))))) := by kernel_rfl
def vcWe : VCall := tabCall [⟨18, c_Mass⟩, ⟨20, c_Centre⟩, ⟨72, c_vapply⟩, ⟨73, c_ceil⟩] noCall
theorem e_Weight (p : Part) (m : Mats) (H : HT) (Post : PV) : vcP Tryz.prog vcWe 22 [] [partV p, matsV m] H Post = (let q1 := [Value.agg #[vs p.id, vi p.rev, vi p.kind, vs p.node, vs p.grade, vi p.thick, trPt p.outer, trPts p.holes, vs p.sect, vi p.long, vi p.mass, vi p.centre.x, vi p.centre.y, vi p.centre.z, vi p.at_.x, vi p.at_.y, vi p.at_.z, vi p.turn], Value.agg #[tree 4 (List.length (Mats.grades m)) (encL (Mats.grades m)), tree 4 (List.length (Mats.sects m)) (encL (Mats.sects m))]]; T4 (T2 (∃ (p_1 : Part), ∃ (m_1 : Mats), eqL q1 [partV p_1, matsV m_1] ∧ FitQ p_1 ∧ FewM m_1 ∧ T4 (T2 (True ∧ pIf (!decide (checkP p_1 m_1 = 0)) (T2 (5 ≤ 5 ∧ True ∧ ((T4 (True ∧ True)) ∧ True ∧ True) ∧ Post (Value.tuple #[Value.agg #[vi 0, vi 0, vi 0, vi 0, vi 0], vi (checkP p_1 m_1)]))) (T2 (∃ (p_2 : Part), ∃ (m_2 : Mats), eqL q1 [partV p_2, matsV m_2] ∧ FitQ p_2 ∧ FewM m_2 ∧ T4 (3 ≤ 3 ∧ T2 (True ∧ pIf (!decide (checkP p_2 m_2 = 0)) (T2 (5 ≤ 5 ∧ True ∧ ((T4 (True ∧ True)) ∧ True ∧ True) ∧ Post (Value.tuple #[Value.agg #[vi 0, vi 0, vi 0, vi 0, vi 0], vi (checkP p_2 m_2)]))) (T2 (True ∧ ∃ (a : Vec3), ∃ (k : Int), ∃ (v : Vec3), eqL [Value.agg #[vi p.at_.x, vi p.at_.y, vi p.at_.z, vi p.turn], Value.agg #[vi (Vec3.x (centreP p_2 m_2)), vi (Vec3.y (centreP p_2 m_2)), vi (Vec3.z (centreP p_2 m_2))]] [placeV a k, vecV v] ∧ True ∧ 3 ≤ 3 ∧ True ∧ ∃ (a_1 : Int), ∃ (b : Int), eqL [vi (massP p_1 m_1), vi 50000] [vi a_1, vi b] ∧ Quo a_1 b ∧ T16 (T4 (T2 (5 ≤ 5 ∧ True ∧ ((T4 (True ∧ True)) ∧ True ∧ True) ∧ Post (Value.tuple #[Value.agg #[vi (massP p_1 m_1), vi (IntKind.wrap IntKind.i64 (massP p_1 m_1 * Vec3.x (applyV a k v))), vi (IntKind.wrap IntKind.i64 (massP p_1 m_1 * Vec3.y (applyV a k v))), vi (IntKind.wrap IntKind.i64 (massP p_1 m_1 * Vec3.z (applyV a k v))), vi (IntKind.wrap IntKind.i64 (ceilP a_1 b * ceilP a_1 b))], vi 0]))))))))))))))) := by kernel_rfl
theorem vcMa_ok : VCallOk Tryz.prog vcMa := tabCall_ok (by
 intro e he
 simp only [List.mem_cons, List.not_mem_nil, or_false] at he
 rcases he with rfl | rfl | rfl | rfl | rfl
 ·exact ok_form
 ·exact ok_pcheck
 ·exact ok_Grade
 ·exact ok_Sect
 ·exact ok_rar2) noCall_ok
theorem ok_Mass : EntOk Tryz.prog ⟨18, c_Mass⟩ := by
 rintro args Post ⟨p, m, rfl, hq, hf, h⟩
 refine pure_P vcMa_ok mixed (by kernel_rfl) (by kernel_rfl) _ (e_Mass p m _ _) ?_
 simp only [true_and]
 unfold massP massRaw at h
 refine ⟨p, m, rfl, hq, hf, ifN (fun h1 => ?_) (fun h1 => ?_)⟩
 ·rwa [if_neg h1] at h
 rw [if_pos h1] at h
 rw [h1] at h
 refine ⟨m, p.grade, rfl, hf, ?_⟩
 have last : pIf (decide (formP p.kind = 1)) (∃ (o : List Pt), ∃ (hs : List (List Pt)), eqL [.agg #[trPt p.outer, trPts p.holes]] [shapeV o hs] ∧ Short o ∧ Short hs ∧ (∀ (h : List Pt), h ∈ hs → Short h) ∧ (toI (.int .i64 2000000) = 0 → False) ∧ Post (.tuple #[.int .i64 (wr64 (Int.tdiv (wr64 (wr64 (rArea o hs * p.thick) * (gradeOf m p.grade).dens)) 2000000)), .int .i64 0])) (pIf (decide (formP p.kind = 2)) ((toI (.int .i64 1000000) = 0 → False) ∧ Post (.tuple #[.int .i64 (wr64 (Int.tdiv (wr64 (wr64 ((sectOf m p.sect).area * p.long) * (gradeOf m p.grade).dens)) 1000000)), .int .i64 0])) (Post (.tuple #[.int .i64 p.mass, .int .i64 0]))) := by
  refine ifD (fun f1 => ⟨p.outer, p.holes, rfl, hq.outer, hq.holes, hq.all, ?_, ?_⟩) (fun f1 => ifD (fun f2 => ⟨?_, ?_⟩) (fun f2 => ?_))
  ·decide
  ·rwa [if_pos f1] at h
  ·decide
  ·rwa [if_neg f1, if_pos f2] at h
  ·rwa [if_neg f1, if_neg f2] at h
 exact ifD (fun _ => ⟨by decide, m, p.sect, rfl, hf, ifD (fun _ => ⟨by decide, last⟩) (fun _ => ⟨by decide, last⟩)⟩) (fun _ => ⟨by decide, m, p.sect, rfl, hf, ifD (fun _ => ⟨by decide, last⟩) (fun _ => ⟨by decide, last⟩)⟩)
theorem check_made {p : Part} {m : Mats} (h : checkP p m = 0) : formP p.kind ≠ 0 ∧ ¬ spareP p ∧ madeP p m ∧ bodyErr p = 0 ∧ validP p.at_ p.turn ∧ 1 ≤ p.rev ∧ p.rev ≤ 1000 := by
 unfold checkP at h
 by_cases h1 : ¬ idOk p.id ∨ ¬ idOk p.node
 ·rw [if_pos h1] at h; omega
 rw [if_neg h1] at h
 by_cases h2 : p.rev < 1 ∨ 1000 < p.rev
 ·rw [if_pos h2] at h; omega
 rw [if_neg h2] at h
 by_cases h3 : formP p.kind = 0
 ·rw [if_pos h3] at h; omega
 rw [if_neg h3] at h
 by_cases h4 : spareP p
 ·rw [if_pos h4] at h; omega
 rw [if_neg h4] at h
 by_cases h5 : madeP p m
 rotate_left
 ·rw [if_pos h5] at h; omega
 rw [if_neg (fun hn => hn h5)] at h
 by_cases h6 : bodyErr p = 0
 rotate_left
 ·rw [if_pos h6] at h; exact absurd h h6
 rw [if_neg (fun hn => hn h6)] at h
 by_cases h7 : validP p.at_ p.turn
 rotate_left
 ·rw [if_pos h7] at h; omega
 exact ⟨h3, h4, h5, h6, h7, by omega, by omega⟩
theorem ShapeOk.rArea_bd {o : List Pt} {hs : List (List Pt)} (h : ShapeOk o hs) : 1 ≤ Go.Proofs.YtngginofamlkkaaGreatDoor.rArea o hs ∧ Go.Proofs.YtngginofamlkkaaGreatDoor.rArea o hs ≤ 618475290624 := by
 have h1 := h.area
 rw [← h.rArea] at h1
 refine ⟨h1, ?_⟩
 unfold Go.Proofs.YtngginofamlkkaaGreatDoor.rArea
 rw [if_pos ((shapeCheck_zero o hs).2 h)]
 have h8 := h.few
 have h2 := sumTo_bd (f := overC area2P o hs) (M := 68719476736) (fun i => area2_bd _) (hs.length + 1)
 omega
theorem rMom_bd (o : List Pt) (hs : List (List Pt)) : (-40532396646334464 ≤ rMomX o hs ∧ rMomX o hs ≤ 40532396646334464) ∧ (-40532396646334464 ≤ rMomY o hs ∧ rMomY o hs ≤ 40532396646334464) := by
 unfold rMomX rMomY
 by_cases h : shapeCheck o hs = 0
 ·rw [if_pos h, if_pos h]
  have h8 := ((shapeCheck_zero o hs).1 h).few
  have h2 := sumTo_bd (f := overC mom6X o hs) (M := 4503599627370496) (fun i => mom6X_bd _) (hs.length + 1)
  have h3 := sumTo_bd (f := overC mom6Y o hs) (M := 4503599627370496) (fun i => mom6Y_bd _) (hs.length + 1)
  omega
 ·rw [if_neg h, if_neg h]
  omega
theorem vcCe_ok : VCallOk Tryz.prog vcCe := inlCall_ok mixed (tabCall_ok (by
 intro e he
 simp only [List.mem_cons, List.not_mem_nil, or_false] at he
 rcases he with rfl | rfl | rfl | rfl | rfl | rfl
 ·exact ok_form
 ·exact ok_pcheck
 ·exact ok_Sect
 ·exact ok_rar2
 ·exact ok_rmom
 ·exact ok_round) noCall_ok) 2
theorem plate_ok {p : Part} {m : Mats} (h : checkP p m = 0) (f : formP p.kind = 1) : ShapeOk p.outer p.holes ∧ 1 ≤ p.thick ∧ p.thick ≤ 120 ∧ 1000 ≤ (gradeOf m p.grade).dens ∧ (gradeOf m p.grade).dens ≤ 20000 := by
 obtain ⟨_, _, h3, h4, _⟩ := check_made h
 unfold bodyErr at h4
 rw [if_pos f] at h4
 rcases h3 with h3 | ⟨_, h5, h6 | h6⟩
 ·omega
 ·exact ⟨(shapeCheck_zero _ _).1 h4, h6.2.1.1, h6.2.1.2, h5.1, h5.2⟩
 ·exact absurd f h6.1
theorem beam_ok {p : Part} {m : Mats} (h : checkP p m = 0) (f : formP p.kind = 2) : (1 ≤ p.long ∧ p.long ≤ 32768) ∧ (1 ≤ (sectOf m p.sect).area ∧ (sectOf m p.sect).area ≤ 1000000) ∧ (1 ≤ (sectOf m p.sect).height ∧ (sectOf m p.sect).height ≤ 2000) ∧ 1000 ≤ (gradeOf m p.grade).dens ∧ (gradeOf m p.grade).dens ≤ 20000 := by
 obtain ⟨_, _, h3, h4, _⟩ := check_made h
 unfold bodyErr at h4
 rw [if_neg (by omega), if_pos f] at h4
 rcases h3 with h3 | ⟨_, h5, h6 | h6⟩
 ·omega
 ·omega
 ·refine ⟨?_, h6.2.2.1, h6.2.2.2, h5.1, h5.2⟩
  by_cases hl : p.long < 1 ∨ 32768 < p.long
  ·rw [if_pos hl] at h4; omega
  ·omega
theorem item_ok {p : Part} {m : Mats} (h : checkP p m = 0) (f1 : formP p.kind ≠ 1) (f2 : formP p.kind ≠ 2) : 1 ≤ p.mass ∧ p.mass ≤ 1099511627776 ∧ inV p.centre 524288 := by
 obtain ⟨_, _, _, h4, _⟩ := check_made h
 unfold bodyErr at h4
 rw [if_neg f1, if_neg f2] at h4
 by_cases hl : p.mass < 1 ∨ 1099511627776 < p.mass ∨ ¬ inV p.centre 524288
 ·rw [if_pos hl] at h4; omega
 ·refine ⟨by omega, by omega, ?_⟩
  by_cases hi : inV p.centre 524288
  ·exact hi
  ·exact absurd (.inr (.inr hi)) hl
theorem ok_Centre : EntOk Tryz.prog ⟨20, c_Centre⟩ := by
 rintro args Post ⟨p, m, rfl, hq, hf, h⟩
 refine pure_P vcCe_ok mixed (by kernel_rfl) (by kernel_rfl) _ (e_Centre p m _ _) ?_
 simp only [true_and, and_true, Nat.le_refl]
 unfold centreP centreRaw at h
 refine ⟨p, m, rfl, hq, hf, ifN (fun h1 => ?_) (fun h1 => ?_)⟩
 ·rwa [if_neg h1] at h
 rw [if_pos h1, h1] at h
 refine ifD (fun f1 => ?_) (fun f1 => ifD (fun f2 => ?_) (fun f2 => ?_))
 ·rw [if_pos f1] at h
  obtain ⟨ho, t1, t2, _⟩ := plate_ok h1 f1
  have ha := ho.rArea_bd
  have hm := rMom_bd p.outer p.holes
  refine ⟨p.outer, p.holes, rfl, hq.outer, hq.holes, hq.all, p.outer, p.holes, rfl, hq.outer, hq.holes, hq.all, ?_⟩
  rw [wrap64 (n := 3 * rArea p.outer p.holes) (by omega) (by omega)]
  exact ⟨_, _, rfl, ⟨⟨by omega, by omega, by omega, by omega⟩⟩, _, _, rfl, ⟨⟨by omega, by omega, by omega, by omega⟩⟩, _, _, rfl, ⟨⟨by omega, by omega, by omega, by omega⟩⟩, h⟩
 ·rw [if_neg f1, if_pos f2] at h
  obtain ⟨l, _, t, _⟩ := beam_ok h1 f2
  refine ⟨m, p.sect, rfl, hf, ?_⟩
  exact ifD (fun _ => ⟨_, _, rfl, ⟨⟨by omega, by omega, by omega, by omega⟩⟩, _, _, rfl, ⟨⟨by omega, by omega, by omega, by omega⟩⟩, h⟩) (fun _ => ⟨_, _, rfl, ⟨⟨by omega, by omega, by omega, by omega⟩⟩, _, _, rfl, ⟨⟨by omega, by omega, by omega, by omega⟩⟩, h⟩)
 ·rwa [if_neg f1, if_neg f2] at h
theorem wr64_eq {n : Int} (h1 : -9223372036854775808 ≤ n) (h2 : n ≤ 9223372036854775807) : wr64 n = n := wrap64 (by omega) (by omega)
theorem mul3_bd {a b c A B C : Int} (ha : 0 ≤ a ∧ a ≤ A) (hb : 0 ≤ b ∧ b ≤ B) (hc : 0 ≤ c ∧ c ≤ C) : 0 ≤ a * b ∧ a * b ≤ A * B ∧ 0 ≤ a * b * c ∧ a * b * c ≤ A * B * C := by
 have h1 : 0 ≤ a * b := Int.mul_nonneg ha.1 hb.1
 have h2 : a * b ≤ A * B := Int.mul_le_mul ha.2 hb.2 hb.1 (by omega)
 exact ⟨h1, h2, Int.mul_nonneg h1 hc.1, Int.mul_le_mul h2 hc.2 hc.1 (by omega)⟩
theorem mass_bd (p : Part) (m : Mats) : 0 ≤ massP p m ∧ massP p m ≤ 1099511627776 := by
 unfold massP massRaw
 by_cases h : checkP p m = 0
 rotate_left
 ·rw [if_neg h]; omega
 rw [if_pos h]
 by_cases f1 : formP p.kind = 1
 ·rw [if_pos f1]
  obtain ⟨ho, t1, t2, d1, d2⟩ := plate_ok h f1
  have ha := ho.rArea_bd
  obtain ⟨b1, b2, b3, b4⟩ := mul3_bd (a := rArea p.outer p.holes) (b := p.thick) (c := (gradeOf m p.grade).dens) (A := 618475290624) (B := 120) (C := 20000) (by omega) (by omega) (by omega)
  rw [wr64_eq (n := rArea p.outer p.holes * p.thick) (by omega) (by omega), wr64_eq (n := rArea p.outer p.holes * p.thick * (gradeOf m p.grade).dens) (by omega) (by omega), Int.tdiv_eq_ediv_of_nonneg b3]
  rw [wr64_eq (by omega) (by omega)]
  omega
 rw [if_neg f1]
 by_cases f2 : formP p.kind = 2
 ·rw [if_pos f2]
  obtain ⟨l, a, t, d1, d2⟩ := beam_ok h f2
  obtain ⟨b1, b2, b3, b4⟩ := mul3_bd (a := (sectOf m p.sect).area) (b := p.long) (c := (gradeOf m p.grade).dens) (A := 1000000) (B := 32768) (C := 20000) (by omega) (by omega) (by omega)
  rw [wr64_eq (n := (sectOf m p.sect).area * p.long) (by omega) (by omega), wr64_eq (n := (sectOf m p.sect).area * p.long * (gradeOf m p.grade).dens) (by omega) (by omega), Int.tdiv_eq_ediv_of_nonneg b3]
  rw [wr64_eq (by omega) (by omega)]
  omega
 rw [if_neg f2]
 have := item_ok h f1 f2
 omega
theorem vcWe_ok : VCallOk Tryz.prog vcWe := tabCall_ok (by
 intro e he
 simp only [List.mem_cons, List.not_mem_nil, or_false] at he
 rcases he with rfl | rfl | rfl | rfl
 ·exact ok_Mass
 ·exact ok_Centre
 ·exact ok_vapply
 ·exact ok_ceil) noCall_ok
theorem ok_Weight : EntOk Tryz.prog ⟨22, c_Weight⟩ := by
 rintro args Post ⟨p, m, rfl, hq, hf, h⟩
 refine pure_P vcWe_ok mixed (by kernel_rfl) (by kernel_rfl) _ (e_Weight p m _ _) ?_
 simp only [true_and, and_true, Nat.le_refl]
 unfold weightP at h
 refine ⟨p, m, rfl, hq, hf, ifN (fun h1 => ?_) (fun h1 => ⟨p, m, rfl, hq, hf, ifN (fun h2 => ?_) (fun _ => ?_)⟩)⟩
 ·rwa [if_neg h1] at h
 ·exact absurd h1 h2
 rw [if_pos h1, h1] at h
 have hm := mass_bd p m
 exact ⟨p.at_, p.turn, centreP p m, rfl, massP p m, 50000, rfl, ⟨⟨by omega, by omega, by omega, by omega⟩⟩, h⟩
structure FitR (p : Part) : Prop extends FitQ p where
 id : p.id.size < 16777000
 node : p.node.size < 16777000
def c_rpcheck (args : List Value) (Post : Value → Prop) : Prop := ∃ (p : Part) (m : Mats), args = [partV p, matsV m] ∧ FitR p ∧ FewR m ∧ Post (.int .i64 (checkP p m))
def c_rMass (args : List Value) (Post : Value → Prop) : Prop := ∃ (p : Part) (m : Mats), args = [partV p, matsV m] ∧ FitR p ∧ FewR m ∧ Post (.tuple #[.int .i64 (massP p m), .int .i64 (checkP p m)])
def c_rCentre (args : List Value) (Post : Value → Prop) : Prop := ∃ (p : Part) (m : Mats), args = [partV p, matsV m] ∧ FitR p ∧ FewR m ∧ Post (.tuple #[vecV (centreP p m), .int .i64 (checkP p m)])
def c_rWeight (args : List Value) (Post : Value → Prop) : Prop := ∃ (p : Part) (m : Mats), args = [partV p, matsV m] ∧ FitR p ∧ FewR m ∧ Post (.tuple #[wtV (weightP p m), .int .i64 (checkP p m)])
def c_rspare (args : List Value) (Post : Value → Prop) : Prop := ∃ p : Part, args = [partV p] ∧ FitQ p ∧ formP p.kind ≠ 0 ∧ Post (.bool (decide (spareP p)))
def c_known (args : List Value) (Post : Value → Prop) : Prop := ∃ (p : Part) (m : Mats), args = [partV p, matsV m] ∧ FewR m ∧ formP p.kind ≠ 0 ∧ Post (.bool (decide (madeP p m)))
theorem e_rspare (p : Part) (H : HT) (Post : PV) : vcP Tryz.prog (inlCall Tryz.prog [128] noCall 2) 55 [] [partV p] H Post = (let q12 := !decide (p.sect = ByteArray.mk #[]); let q11 := T2 (True ∧ Post (vb false)); let q6 := T2 (True ∧ Post (vb true)); let q10 := T2 (pIf (decide (p.kind = 4)) (T8 (True ∧ Post (vb true))) (T4 q6)); let q7 := T4 (T2 (Post (vb true))); let q3 := T2 (pIf (decide (p.kind = 4)) (T8 (Post (vb true))) q7); let q5 := !(decide (p.centre.x = 0) && (decide (p.centre.y = 0) && (decide (p.centre.z = 0) && true))); let q2 := T4 (True ∧ pIf q5 (T4 (True ∧ pIf (decide (p.kind = 1)) q7 q3)) (T4 (True ∧ pIf (decide (p.kind = 1)) q7 q3))); let q9 := T4 (T2 (pIf (!decide (p.mass = 0)) (T4 (T2 (pIf (decide (p.kind = 1)) q7 q3))) q2)); let q8 := T8 (True ∧ pIf (!decide (p.grade = ByteArray.mk #[])) q6 q11); let q4 := T4 (True ∧ pIf q5 (T4 (True ∧ pIf (decide (p.kind = 1)) q7 q10)) (T4 (True ∧ pIf (decide (p.kind = 1)) q7 (T2 (pIf (decide (p.kind = 4)) (T8 (True ∧ Post (vb true))) (T4 q11)))))); let q1 := T4 (pIf (!decide (p.long = 0)) (T4 (True ∧ pIf (!decide (p.mass = 0)) (T4 (T2 (pIf (decide (p.kind = 1)) q7 q3))) q2)) (T4 (True ∧ pIf (!decide (p.mass = 0)) (T4 (T2 (pIf (decide (p.kind = 1)) (T4 q6) q3))) (T4 (True ∧ pIf q5 (T4 (True ∧ pIf (decide (p.kind = 1)) (T4 q6) q3)) (T4 (True ∧ pIf (decide (p.kind = 1)) (T4 q11) q3))))))); T4 (True ∧ pIf (!decide (p.thick = 0)) (T4 (T2 (pIf q12 q9 q1))) (T8 (True ∧ pIf (decide ((↑p.outer.length : Int) = 0)) (T4 (True ∧ pIf (decide ((↑p.holes.length : Int) = 0)) (T8 (pIf q12 (T4 (T2 (pIf (!decide (p.mass = 0)) (T4 (T2 (pIf (decide (p.kind = 1)) q7 q10))) q4))) (T4 (pIf (!decide (p.long = 0)) (T4 (True ∧ pIf (!decide (p.mass = 0)) (T4 (T2 (pIf (decide (p.kind = 1)) q7 q10))) q4)) (T4 (True ∧ pIf (!decide (p.mass = 0)) (T4 (T2 (pIf (decide (p.kind = 1)) (T4 q6) (T2 (pIf (decide (p.kind = 4)) q8 (T4 q6)))))) (T4 (True ∧ pIf q5 (T4 (True ∧ pIf (decide (p.kind = 1)) (T4 q6) (T2 (pIf (decide (p.kind = 4)) q8 (T4 q6))))) (T4 (True ∧ pIf (decide (p.kind = 1)) (T4 q11) (T2 (pIf (decide (p.kind = 4)) q8 (T4 q11))))))))))))) (T8 (pIf q12 q9 q1)))) (T8 (True ∧ pIf q12 q9 q1)))))) := by kernel_rfl
def vcRk : VCall := tabCall [⟨65, c_rGrade⟩, ⟨66, c_Sect⟩, ⟨129, c_rRolled⟩] noCall
theorem e_known (p : Part) (m : Mats) (H : HT) (Post : PV) : vcP Tryz.prog vcRk 56 [] [partV p, matsV m] H Post = (let q2 := True ∧ Post (vb false); let q1 := #[tree 4 (List.length (Mats.grades m)) (encL (Mats.grades m)), tree 4 (List.length (Mats.sects m)) (encL (Mats.sects m))]; T4 (T2 (pIf (decide (p.kind = 4)) (T2 (Post (vb true))) (T2 (True ∧ ∃ (m_1 : Mats), ∃ (s : ByteArray), eqL [Value.agg q1, vs p.grade] [matsV m_1, vs s] ∧ FewR m_1 ∧ T2 (True ∧ pIf (decide (hasG m_1 s)) (True ∧ 4 ≤ 4 ∧ T4 (T2 (True ∧ pIf (decide (Grade4.dens (gradeOf m_1 s) < 1000)) (T4 q2) (T4 (True ∧ pIf (decide (Grade4.dens (gradeOf m_1 s) > 20000)) (T2 q2) (T4 (pIf (decide (p.kind = 1)) (T2 (True ∧ pIf (decide (p.thick ≥ 1)) (T4 (pIf (decide (p.thick ≤ 120)) (T4 (T2 (True ∧ ∃ (m_2 : Mats), ∃ (s : ByteArray), ∃ (t : Int), eqL [Value.agg q1, vs p.grade, vi p.thick] [matsV m_2, vs s, vi t] ∧ FewR m_2 ∧ pIf (decide (rolled m_2 s t)) (T2 (True ∧ Post (vb true))) (T2 q2)))) (T4 q2))) (T4 (T2 (Post (vb false)))))) (T2 (True ∧ ∃ (m_2 : Mats), ∃ (s : ByteArray), eqL [Value.agg q1, vs p.sect] [matsV m_2, vs s] ∧ FewM m_2 ∧ T2 (True ∧ pIf (decide (hasS m_2 s)) (True ∧ 4 ≤ 4 ∧ T4 (T2 (pIf (decide (Sect4.area (sectOf m_2 s) ≥ 1)) (T4 (True ∧ pIf (decide (Sect4.area (sectOf m_2 s) ≤ 1000000)) (T4 (True ∧ pIf (decide (Sect4.height (sectOf m_2 s) ≥ 1)) (T4 (True ∧ pIf (decide (Sect4.height (sectOf m_2 s) ≤ 2000)) (T2 (True ∧ Post (vb true))) (T2 q2))) (T4 q2))) (T4 (T2 q2)))) (T8 q2)))) (True ∧ 4 ≤ 4 ∧ T8 (T4 (Post (vb false)))))))))))))) (True ∧ 4 ≤ 4 ∧ T8 q2))))))) := by kernel_rfl
def vcRc16 : VCall := inlCall Tryz.prog [58] (tabCall [⟨54, c_id⟩, ⟨55, c_rspare⟩, ⟨56, c_known⟩, ⟨57, c_rchk⟩, ⟨59, c_vvalid⟩] noCall) 2
theorem e_r16chk (p : Part) (m : Mats) (H : HT) (Post : PV) : vcP Tryz.prog vcRc16 16 [] [partV p, matsV m] H Post = (let q3 := [Value.agg #[vi p.at_.x, vi p.at_.y, vi p.at_.z, vi p.turn]]; let q2 := T2 (True ∧ Post (vi 9)); let q1 := #[vs p.id, vi p.rev, vi p.kind, vs p.node, vs p.grade, vi p.thick, trPt p.outer, trPts p.holes, vs p.sect, vi p.long, vi p.mass, vi p.centre.x, vi p.centre.y, vi p.centre.z, vi p.at_.x, vi p.at_.y, vi p.at_.z, vi p.turn]; T4 (True ∧ ∃ (s : ByteArray), eqL [vs p.id] [vs s] ∧ s.size < 16777000 ∧ pIf (decide (idOk s)) (T4 (∃ (s : ByteArray), eqL [vs p.node] [vs s] ∧ s.size < 16777000 ∧ pIf (decide (idOk s)) (T4 (True ∧ pIf (decide (p.rev < 1)) (T4 (Post (vi 9))) (T4 (pIf (decide (p.rev > 1000)) q2 (T4 (pIf (decide (p.kind < 1)) (T4 (Post (vi 10))) (T4 (pIf (decide (p.kind > 4)) (T2 (True ∧ Post (vi 10))) (T2 (∃ (p_1 : Part), eqL [Value.agg q1] [partV p_1] ∧ FitQ p_1 ∧ (formP p_1.kind = 0 → False) ∧ pIf (decide (spareP p_1)) (T2 (Post (vi 2))) (T2 (∃ (p_2 : Part), ∃ (m_1 : Mats), eqL [Value.agg q1, Value.agg #[tree 4 (List.length (Mats.grades m)) (encL (Mats.grades m)), tree 4 (List.length (Mats.sects m)) (encL (Mats.sects m))]] [partV p_2, matsV m_1] ∧ FewR m_1 ∧ (formP p_2.kind = 0 → False) ∧ pIf (decide (madeP p_2 m_1)) (T4 (pIf (decide (p.kind = 1)) (T2 (∃ (o : List Pt), ∃ (hs : List (List Pt)), eqL [Value.agg #[trPt p.outer, trPts p.holes]] [shapeV o hs] ∧ Short o ∧ Short hs ∧ (∀ (h : List Pt), h ∈ hs → Short h) ∧ T2 (True ∧ pIf (!decide (shapeCheck o hs = 0)) (T2 (True ∧ Post (vi (shapeCheck o hs)))) (T2 (∃ (a : Vec3), ∃ (k : Int), eqL q3 [placeV a k] ∧ pIf (decide (validP a k)) (T2 (True ∧ Post (vi 0))) q2))))) (T2 (True ∧ pIf (decide (p.kind = 4)) (T2 (True ∧ pIf (decide (p.mass < 1)) (T4 (T2 (Post (vi 9)))) (T4 (pIf (decide (p.mass > 1099511627776)) (T4 (True ∧ Post (vi 9))) (T8 (True ∧ pIf (decide (p.centre.x < -524288)) (T8 (T4 (T2 (Post (vi 9))))) (T4 (pIf (decide (p.centre.x > 524288)) (T8 (T4 (True ∧ Post (vi 9)))) (T4 (True ∧ pIf (decide (p.centre.y < -524288)) (T8 q2) (T4 (True ∧ pIf (decide (p.centre.y > 524288)) (T8 (True ∧ Post (vi 9))) (T4 (True ∧ pIf (decide (p.centre.z < -524288)) (T4 q2) (T4 (True ∧ pIf (decide (p.centre.z > 524288)) (T4 (True ∧ Post (vi 9))) (T4 (True ∧ ∃ (a : Vec3), ∃ (k : Int), eqL q3 [placeV a k] ∧ pIf (decide (validP a k)) (T2 (True ∧ Post (vi 0))) q2)))))))))))))))))) (T2 (True ∧ pIf (decide (p.long < 1)) (T4 (Post (vi 9))) (T4 (pIf (decide (p.long > 32768)) q2 (T2 (True ∧ ∃ (a : Vec3), ∃ (k : Int), eqL q3 [placeV a k] ∧ pIf (decide (validP a k)) (T2 (True ∧ Post (vi 0))) q2)))))))))) (T2 (True ∧ Post (vi 23))))))))))))))) (T4 (Post (vi 6))))) (T4 (True ∧ Post (vi 6))))) := by kernel_rfl
def vcRm16 : VCall := tabCall [⟨16, c_rpcheck⟩, ⟨65, c_rGrade⟩, ⟨66, c_Sect⟩, ⟨67, c_rar2⟩] noCall
theorem e_r16mass (p : Part) (m : Mats) (H : HT) (Post : PV) : vcP Tryz.prog vcRm16 19 [] [partV p, matsV m] H Post = (let q5 := toI (vi 1000000) = 0 → False; let q4 := toI (vi 2000000) = 0 → False; let q3 := [Value.agg #[trPt p.outer, trPts p.holes]]; let q2 := T4 (True ∧ (T2 (True)) ∧ Post (Value.tuple #[vi p.mass, vi 0])); let q1 := #[tree 4 (List.length (Mats.grades m)) (encL (Mats.grades m)), tree 4 (List.length (Mats.sects m)) (encL (Mats.sects m))]; T4 (T2 (∃ (p_1 : Part), ∃ (m_1 : Mats), eqL [Value.agg #[vs p.id, vi p.rev, vi p.kind, vs p.node, vs p.grade, vi p.thick, trPt p.outer, trPts p.holes, vs p.sect, vi p.long, vi p.mass, vi p.centre.x, vi p.centre.y, vi p.centre.z, vi p.at_.x, vi p.at_.y, vi p.at_.z, vi p.turn], Value.agg q1] [partV p_1, matsV m_1] ∧ FitR p_1 ∧ FewR m_1 ∧ T2 (True ∧ pIf (!decide (checkP p_1 m_1 = 0)) (T2 (True ∧ (T2 (True)) ∧ Post (Value.tuple #[vi 0, vi (checkP p_1 m_1)]))) (T2 (True ∧ ∃ (m_2 : Mats), ∃ (s : ByteArray), eqL [Value.agg q1, vs p.grade] [matsV m_2, vs s] ∧ FewR m_2 ∧ T2 (True ∧ pIf (decide (hasG m_2 s)) (True ∧ 4 ≤ 4 ∧ T4 (∃ (m_3 : Mats), ∃ (s_1 : ByteArray), eqL [Value.agg q1, vs p.sect] [matsV m_3, vs s_1] ∧ FewM m_3 ∧ T2 (True ∧ pIf (decide (hasS m_3 s_1)) (True ∧ 4 ≤ 4 ∧ T4 (pIf (decide (p.kind = 1)) (T4 (T2 (True ∧ ∃ (o : List Pt), ∃ (hs : List (List Pt)), eqL q3 [shapeV o hs] ∧ Short o ∧ Short hs ∧ (∀ (h : List Pt), h ∈ hs → Short h) ∧ T2 (True ∧ q4 ∧ T2 ((T2 (True)) ∧ Post (Value.tuple #[vi (IntKind.wrap IntKind.i64 (Int.tdiv (IntKind.wrap IntKind.i64 (IntKind.wrap IntKind.i64 (rArea o hs * p.thick) * Grade4.dens (gradeOf m_2 s))) 2000000)), vi 0])))))) (T2 (pIf (decide (p.kind = 4)) q2 (T8 (True ∧ q5 ∧ T2 ((T2 (True)) ∧ Post (Value.tuple #[vi (IntKind.wrap IntKind.i64 (Int.tdiv (IntKind.wrap IntKind.i64 (IntKind.wrap IntKind.i64 (Sect4.area (sectOf m_3 s_1) * p.long) * Grade4.dens (gradeOf m_2 s))) 1000000)), vi 0])))))))) (True ∧ 4 ≤ 4 ∧ T4 (pIf (decide (p.kind = 1)) (T4 (T2 (True ∧ ∃ (o : List Pt), ∃ (hs : List (List Pt)), eqL q3 [shapeV o hs] ∧ Short o ∧ Short hs ∧ (∀ (h : List Pt), h ∈ hs → Short h) ∧ T2 (True ∧ q4 ∧ T2 ((T2 (True)) ∧ Post (Value.tuple #[vi (IntKind.wrap IntKind.i64 (Int.tdiv (IntKind.wrap IntKind.i64 (IntKind.wrap IntKind.i64 (rArea o hs * p.thick) * Grade4.dens (gradeOf m_2 s))) 2000000)), vi 0])))))) (T2 (pIf (decide (p.kind = 4)) q2 (T8 (True ∧ q5 ∧ T2 ((T2 (True)) ∧ Post (Value.tuple #[vi (IntKind.wrap IntKind.i64 (Int.tdiv (IntKind.wrap IntKind.i64 (IntKind.wrap IntKind.i64 (Sect4.area (sectOf m_3 s_1) * p.long) * Grade4.dens (gradeOf m_2 s))) 1000000)), vi 0]))))))))))) (True ∧ 4 ≤ 4 ∧ T4 (∃ (m_3 : Mats), ∃ (s_1 : ByteArray), eqL [Value.agg q1, vs p.sect] [matsV m_3, vs s_1] ∧ FewM m_3 ∧ T2 (True ∧ pIf (decide (hasS m_3 s_1)) (True ∧ 4 ≤ 4 ∧ T4 (pIf (decide (p.kind = 1)) (T4 (T2 (True ∧ ∃ (o : List Pt), ∃ (hs : List (List Pt)), eqL q3 [shapeV o hs] ∧ Short o ∧ Short hs ∧ (∀ (h : List Pt), h ∈ hs → Short h) ∧ T2 (True ∧ q4 ∧ T2 ((T2 (True)) ∧ Post (Value.tuple #[vi (IntKind.wrap IntKind.i64 (Int.tdiv (IntKind.wrap IntKind.i64 (IntKind.wrap IntKind.i64 (rArea o hs * p.thick) * Grade4.dens (gradeOf m_2 s))) 2000000)), vi 0])))))) (T2 (pIf (decide (p.kind = 4)) q2 (T8 (True ∧ q5 ∧ T2 ((T2 (True)) ∧ Post (Value.tuple #[vi (IntKind.wrap IntKind.i64 (Int.tdiv (IntKind.wrap IntKind.i64 (IntKind.wrap IntKind.i64 (Sect4.area (sectOf m_3 s_1) * p.long) * Grade4.dens (gradeOf m_2 s))) 1000000)), vi 0])))))))) (True ∧ 4 ≤ 4 ∧ T4 (pIf (decide (p.kind = 1)) (T4 (T2 (True ∧ ∃ (o : List Pt), ∃ (hs : List (List Pt)), eqL q3 [shapeV o hs] ∧ Short o ∧ Short hs ∧ (∀ (h : List Pt), h ∈ hs → Short h) ∧ T2 (True ∧ q4 ∧ T2 ((T2 (True)) ∧ Post (Value.tuple #[vi (IntKind.wrap IntKind.i64 (Int.tdiv (IntKind.wrap IntKind.i64 (IntKind.wrap IntKind.i64 (rArea o hs * p.thick) * Grade4.dens (gradeOf m_2 s))) 2000000)), vi 0])))))) (T2 (pIf (decide (p.kind = 4)) q2 (T8 (True ∧ q5 ∧ T2 ((T2 (True)) ∧ Post (Value.tuple #[vi (IntKind.wrap IntKind.i64 (Int.tdiv (IntKind.wrap IntKind.i64 (IntKind.wrap IntKind.i64 (Sect4.area (sectOf m_3 s_1) * p.long) * Grade4.dens (gradeOf m_2 s))) 1000000)), vi 0])))))))))))))))))) := by kernel_rfl
def vcRce16 : VCall := inlCall Tryz.prog [71] (tabCall [⟨16, c_rpcheck⟩, ⟨66, c_Sect⟩, ⟨67, c_rar2⟩, ⟨70, c_rmom⟩, ⟨144, c_round⟩] noCall) 2
theorem e_r16centre (p : Part) (m : Mats) (H : HT) (Post : PV) : vcP Tryz.prog vcRce16 21 [] [partV p, matsV m] H Post = (let q2 := #[tree 4 (List.length (Mats.grades m)) (encL (Mats.grades m)), tree 4 (List.length (Mats.sects m)) (encL (Mats.sects m))]; let q1 := (T2 (True ∧ True)) ∧ True ∧ True; T4 (T2 (∃ (p_1 : Part), ∃ (m_1 : Mats), eqL [Value.agg #[vs p.id, vi p.rev, vi p.kind, vs p.node, vs p.grade, vi p.thick, trPt p.outer, trPts p.holes, vs p.sect, vi p.long, vi p.mass, vi p.centre.x, vi p.centre.y, vi p.centre.z, vi p.at_.x, vi p.at_.y, vi p.at_.z, vi p.turn], Value.agg q2] [partV p_1, matsV m_1] ∧ FitR p_1 ∧ FewR m_1 ∧ T2 (True ∧ pIf (!decide (checkP p_1 m_1 = 0)) (T2 (3 ≤ 3 ∧ True ∧ q1 ∧ Post (Value.tuple #[Value.agg #[vi 0, vi 0, vi 0], vi (checkP p_1 m_1)]))) (T2 (True ∧ pIf (decide (p.kind = 1)) (T2 (True ∧ ∃ (o : List Pt), ∃ (hs : List (List Pt)), eqL [Value.agg #[trPt p.outer, trPts p.holes]] [shapeV o hs] ∧ Short o ∧ Short hs ∧ (∀ (h : List Pt), h ∈ hs → Short h) ∧ T4 (T2 (True ∧ ∃ (o_1 : List Pt), ∃ (hs_1 : List (List Pt)), eqL [Value.agg #[trPt p.outer, trPts p.holes]] [shapeV o_1 hs_1] ∧ Short o_1 ∧ Short hs_1 ∧ (∀ (h : List Pt), h ∈ hs_1 → Short h) ∧ T8 (T2 (True ∧ ∃ (a : Int), ∃ (b : Int), eqL [vi (rMomX o hs), vi (IntKind.wrap IntKind.i64 (3 * rArea o_1 hs_1))] [vi a, vi b] ∧ Quo a b ∧ T4 (T2 (True ∧ ((vi p.thick = vi p.thick ∧ True) ∧ True) ∧ T2 (True ∧ ∃ (a_1 : Int), ∃ (b_1 : Int), eqL [vi (rMomY o hs), vi (IntKind.wrap IntKind.i64 (3 * rArea o_1 hs_1))] [vi a_1, vi b_1] ∧ Quo a_1 b_1 ∧ T4 (T2 (True ∧ ((vi p.thick = vi p.thick ∧ True) ∧ True) ∧ T2 (True ∧ ∃ (a_2 : Int), ∃ (b_2 : Int), eqL [vi p.thick, vi 2] [vi a_2, vi b_2] ∧ Quo a_2 b_2 ∧ T8 (True ∧ 3 ≤ 3 ∧ T2 (q1 ∧ Post (Value.tuple #[Value.agg #[vi (roundP a b), vi (roundP a_1 b_1), vi (roundP a_2 b_2)], vi 0]))))))))))))))) (T2 (pIf (decide (p.kind = 4)) (T2 (True ∧ 3 ≤ 3 ∧ True ∧ q1 ∧ Post (Value.tuple #[Value.agg #[vi p.centre.x, vi p.centre.y, vi p.centre.z], vi 0]))) (T4 (∃ (m_2 : Mats), ∃ (s : ByteArray), eqL [Value.agg q2, vs p.sect] [matsV m_2, vs s] ∧ FewM m_2 ∧ T2 (True ∧ pIf (decide (hasS m_2 s)) (True ∧ 4 ≤ 4 ∧ T8 (∃ (a : Int), ∃ (b : Int), eqL [vi p.long, vi 2] [vi a, vi b] ∧ Quo a b ∧ T4 (T2 (True ∧ ((vi (Sect4.height (sectOf m_2 s)) = vi (Sect4.height (sectOf m_2 s)) ∧ True) ∧ True) ∧ T2 (True ∧ ∃ (a_1 : Int), ∃ (b_1 : Int), eqL [vi (Sect4.height (sectOf m_2 s)), vi 2] [vi a_1, vi b_1] ∧ Quo a_1 b_1 ∧ T8 (True ∧ 3 ≤ 3 ∧ T2 (q1 ∧ Post (Value.tuple #[Value.agg #[vi (roundP a b), vi 0, vi (roundP a_1 b_1)], vi 0])))))))) (True ∧ 4 ≤ 4 ∧ T8 (∃ (a : Int), ∃ (b : Int), eqL [vi p.long, vi 2] [vi a, vi b] ∧ Quo a b ∧ T4 (T2 (True ∧ ((vi (Sect4.height (sectOf m_2 s)) = vi (Sect4.height (sectOf m_2 s)) ∧ True) ∧ True) ∧ T2 (True ∧ ∃ (a_1 : Int), ∃ (b_1 : Int), eqL [vi (Sect4.height (sectOf m_2 s)), vi 2] [vi a_1, vi b_1] ∧ Quo a_1 b_1 ∧ T8 (True ∧ 3 ≤ 3 ∧ T2 (q1 ∧ Post (Value.tuple #[Value.agg #[vi (roundP a b), vi 0, vi (roundP a_1 b_1)], vi 0]))))))))))))))))))) := by kernel_rfl
def vcRw16 : VCall := tabCall [⟨19, c_rMass⟩, ⟨21, c_rCentre⟩, ⟨74, c_vapply⟩, ⟨75, c_ceil⟩] noCall
theorem e_r16weight (p : Part) (m : Mats) (H : HT) (Post : PV) : vcP Tryz.prog vcRw16 23 [] [partV p, matsV m] H Post = (let q1 := [Value.agg #[vs p.id, vi p.rev, vi p.kind, vs p.node, vs p.grade, vi p.thick, trPt p.outer, trPts p.holes, vs p.sect, vi p.long, vi p.mass, vi p.centre.x, vi p.centre.y, vi p.centre.z, vi p.at_.x, vi p.at_.y, vi p.at_.z, vi p.turn], Value.agg #[tree 4 (List.length (Mats.grades m)) (encL (Mats.grades m)), tree 4 (List.length (Mats.sects m)) (encL (Mats.sects m))]]; T4 (T2 (∃ (p_1 : Part), ∃ (m_1 : Mats), eqL q1 [partV p_1, matsV m_1] ∧ FitR p_1 ∧ FewR m_1 ∧ T4 (T2 (True ∧ pIf (!decide (checkP p_1 m_1 = 0)) (T2 (5 ≤ 5 ∧ True ∧ ((T4 (True ∧ True)) ∧ True ∧ True) ∧ Post (Value.tuple #[Value.agg #[vi 0, vi 0, vi 0, vi 0, vi 0], vi (checkP p_1 m_1)]))) (T2 (∃ (p_2 : Part), ∃ (m_2 : Mats), eqL q1 [partV p_2, matsV m_2] ∧ FitR p_2 ∧ FewR m_2 ∧ T4 (3 ≤ 3 ∧ T4 (∃ (a : Vec3), ∃ (k : Int), ∃ (v : Vec3), eqL [Value.agg #[vi p.at_.x, vi p.at_.y, vi p.at_.z, vi p.turn], Value.agg #[vi (Vec3.x (centreP p_2 m_2)), vi (Vec3.y (centreP p_2 m_2)), vi (Vec3.z (centreP p_2 m_2))]] [placeV a k, vecV v] ∧ True ∧ 3 ≤ 3 ∧ True ∧ ∃ (a_1 : Int), ∃ (b : Int), eqL [vi (massP p_1 m_1), vi 50000] [vi a_1, vi b] ∧ Quo a_1 b ∧ T16 (T4 (T2 (5 ≤ 5 ∧ True ∧ ((T4 (True ∧ True)) ∧ True ∧ True) ∧ Post (Value.tuple #[Value.agg #[vi (massP p_1 m_1), vi (IntKind.wrap IntKind.i64 (massP p_1 m_1 * Vec3.x (applyV a k v))), vi (IntKind.wrap IntKind.i64 (massP p_1 m_1 * Vec3.y (applyV a k v))), vi (IntKind.wrap IntKind.i64 (massP p_1 m_1 * Vec3.z (applyV a k v))), vi (IntKind.wrap IntKind.i64 (ceilP a_1 b * ceilP a_1 b))], vi 0]))))))))))))) := by kernel_rfl
theorem form_one {k : Int} : formP k = 1 ↔ k = 1 := by
 unfold formP
 repeat' split
 all_goals omega
theorem form_two {k : Int} : formP k = 2 ↔ k = 2 ∨ k = 3 := by
 unfold formP
 repeat' split
 all_goals omega
theorem form_three {k : Int} : formP k = 3 ↔ k = 4 := by
 unfold formP
 repeat' split
 all_goals omega
theorem form_none {k : Int} : formP k = 0 ↔ k < 1 ∨ 4 < k := by
 unfold formP
 repeat' split
 all_goals omega
theorem spare_kind {p : Part} (h : formP p.kind ≠ 0) : spareP p ↔ (p.kind = 1 ∧ (longUsed p ∨ massUsed p)) ∨ (p.kind = 4 ∧ (p.grade ≠ ⟨#[]⟩ ∨ shapeUsed p ∨ longUsed p)) ∨ (p.kind ≠ 1 ∧ p.kind ≠ 4 ∧ (shapeUsed p ∨ massUsed p)) := by
 unfold spareP
 have h0 := h
 rw [Ne, form_none] at h
 rw [Ne, Ne, form_one, form_two]
 generalize longUsed p = A
 generalize massUsed p = B
 generalize shapeUsed p = C
 generalize (p.grade ≠ ⟨#[]⟩) = D
 by_cases h1 : p.kind = 1
 ·simp [h1]
 ·by_cases h4 : p.kind = 4
  ·simp [h4]
  ·have h2 : p.kind = 2 ∨ p.kind = 3 := by omega
   simp [h1, h4, h2]
theorem ok_rspare : EntOk Tryz.prog ⟨55, c_rspare⟩ := by
 rintro args Post ⟨p, rfl, hf, h0, h⟩
 refine pure_P (inlCall_ok mixed noCall_ok 2) mixed (by kernel_rfl) (by kernel_rfl) _ (e_rspare p _ _) ?_
 have lo : (((p.outer.length : Nat) : Int) = 0) = (p.outer.length = 0) := propext (by omega)
 have lh : (((p.holes.length : Nat) : Int) = 0) = (p.holes.length = 0) := propext (by omega)
 have ls : (0 < p.outer.length + p.holes.length) = ¬ (p.outer.length = 0 ∧ p.holes.length = 0) := propext (by omega)
 simp only [true_and, vec_zero, lo, lh]
 have yes : spareP p → Post (.bool true) := fun hp => by rwa [decide_eq_true hp] at h
 have no : ¬ spareP p → Post (.bool false) := fun hp => by rwa [decide_eq_false hp] at h
 clear h
 rw [spare_kind h0] at yes no
 unfold shapeUsed longUsed massUsed at yes no
 rw [ls] at yes no
 clear lo lh ls h0
 generalize p.thick = q2 at *
 generalize p.sect = q3 at *
 generalize p.long = q4 at *
 generalize p.mass = q5 at *
 generalize p.centre = q6 at *
 generalize p.grade = q7 at *
 generalize p.kind = q8 at *
 generalize p.outer.length = q9 at *
 generalize p.holes.length = q10 at *
 repeat' (first
  | refine ifN (fun _ => ?_) (fun _ => ?_)
  | refine ifD (fun _ => ?_) (fun _ => ?_)
  | exact yes (by simp [*])
  | exact no (by simp [*])
  | fail)
theorem vcRk_ok : VCallOk Tryz.prog vcRk := tabCall_ok (by
 intro e he
 simp only [List.mem_cons, List.not_mem_nil, or_false] at he
 rcases he with rfl | rfl | rfl
 ·exact ok_rGrade
 ·exact ok_rSect
 ·exact ok_rRolled) noCall_ok
theorem ok_known : EntOk Tryz.prog ⟨56, c_known⟩ := by
 rintro args Post ⟨p, m, rfl, hf, h0, h⟩
 refine pure_P vcRk_ok mixed (by kernel_rfl) (by kernel_rfl) _ (e_known p m _ _) ?_
 simp only [true_and]
 have yes : madeP p m → Post (.bool true) := fun hp => by rwa [decide_eq_true hp] at h
 have no : ¬ madeP p m → Post (.bool false) := fun hp => by rwa [decide_eq_false hp] at h
 clear h
 unfold madeP at yes no
 rw [Ne, form_three, form_one] at yes no
 refine ifD (fun h1 => yes (.inl h1)) (fun h1 => ⟨m, p.grade, rfl, hf, ifD (fun h2 => ⟨by decide, ?_⟩) (fun h2 => ⟨by decide, no ?_⟩)⟩)
 case refine_2 => rintro (h | h); exact h1 h; exact h2 h.1
 refine ifD (fun h3 => no ?_) (fun h3 => ifD (fun h4 => no ?_) (fun h4 => ?_))
 ·rintro (h | h); exact h1 h; omega
 ·rintro (h | h); exact h1 h; omega
 refine ifD (fun h5 => ?_) (fun h5 => ⟨m, p.sect, rfl, hf.toFewM, ifD (fun h6 => ⟨by decide, ?_⟩) (fun h6 => ⟨by decide, no ?_⟩)⟩)
 ·refine ifD (fun h6 => ifD (fun h7 => ⟨m, p.grade, p.thick, rfl, hf, ifD (fun h8 => yes (.inr ⟨h2, ⟨by omega, by omega⟩, .inl ⟨h5, ⟨h6, h7⟩, h8⟩⟩)) (fun h8 => no ?_)⟩) (fun h7 => no ?_)) (fun h6 => no ?_)
  ·rintro (h | ⟨_, _, h | h⟩)
   ·exact h1 h
   ·exact h8 h.2.2
   ·exact h.1 h5
  ·rintro (h | ⟨_, _, h | h⟩)
   ·exact h1 h
   ·exact h7 h.2.1.2
   ·exact h.1 h5
  ·rintro (h | ⟨_, _, h | h⟩)
   ·exact h1 h
   ·exact h6 h.2.1.1
   ·exact h.1 h5
 ·refine ifD (fun h7 => ifD (fun h8 => ifD (fun h9 => ifD (fun h10 => yes (.inr ⟨h2, ⟨by omega, by omega⟩, .inr ⟨h5, h6, ⟨h7, h8⟩, h9, h10⟩⟩)) (fun h10 => no ?_)) (fun h9 => no ?_)) (fun h8 => no ?_)) (fun h7 => no ?_)
  ·rintro (h | ⟨_, _, h | h⟩)
   ·exact h1 h
   ·exact h5 h.1
   ·exact h10 h.2.2.2.2
  ·rintro (h | ⟨_, _, h | h⟩)
   ·exact h1 h
   ·exact h5 h.1
   ·exact h9 h.2.2.2.1
  ·rintro (h | ⟨_, _, h | h⟩)
   ·exact h1 h
   ·exact h5 h.1
   ·exact h8 h.2.2.1.2
  ·rintro (h | ⟨_, _, h | h⟩)
   ·exact h1 h
   ·exact h5 h.1
   ·exact h7 h.2.2.1.1
 ·rintro (h | ⟨_, _, h | h⟩)
  ·exact h1 h
  ·exact h5 h.1
  ·exact h6 h.2.1
theorem vcRc16_ok : VCallOk Tryz.prog vcRc16 := inlCall_ok mixed (tabCall_ok (by
 intro e he
 simp only [List.mem_cons, List.not_mem_nil, or_false] at he
 rcases he with rfl | rfl | rfl | rfl | rfl
 ·exact ok_rid
 ·exact ok_rspare
 ·exact ok_known
 ·exact ok_r13chk
 ·exact ok_rvalid) noCall_ok) 2
theorem ok_r16chk : EntOk Tryz.prog ⟨16, c_rpcheck⟩ := by
 rintro args Post ⟨p, m, rfl, hq, hf, h⟩
 refine pure_P vcRc16_ok mixed (by kernel_rfl) (by kernel_rfl) _ (e_r16chk p m _ _) ?_
 simp only [true_and]
 unfold checkP at h
 refine ⟨p.id, rfl, hq.id, ifD (fun h1 => ⟨p.node, rfl, hq.node, ifD (fun h2 => ?_) (fun h2 => ?_)⟩) (fun h1 => ?_)⟩
 case refine_2 => rwa [if_pos (.inr h2)] at h
 case refine_3 => rwa [if_pos (.inl h1)] at h
 rw [if_neg (by rintro (h | h); exact h h1; exact h h2)] at h
 refine ifD (fun h3 => ?_) (fun h3 => ifD (fun h4 => ?_) (fun h4 => ?_))
 ·rwa [if_pos (by omega)] at h
 ·rwa [if_pos (by omega)] at h
 rw [if_neg (by omega)] at h
 refine ifD (fun h3 => ?_) (fun h3 => ifD (fun h4 => ?_) (fun h4 => ?_))
 ·rwa [if_pos (form_none.2 (by omega))] at h
 ·rwa [if_pos (form_none.2 (by omega))] at h
 have f0 : formP p.kind ≠ 0 := fun e => by have := form_none.1 e; omega
 refine ⟨p, rfl, hq.toFitQ, f0, ifD (fun h6 => ?_) (fun h6 => ⟨p, m, rfl, hf, f0, ifD (fun h7 => ?_) (fun h7 => ?_)⟩)⟩
 ·rwa [if_neg f0, if_pos h6] at h
 case refine_3 => rwa [if_neg f0, if_neg h6, if_pos h7] at h
 rw [if_neg f0, if_neg h6, if_neg (fun hn => hn h7)] at h
 have last : bodyErr p = 0 → ∃ (a : Vec3) (k : Int), eqL [placeV p.at_ p.turn] [placeV a k] ∧ pIf (decide (validP a k)) (Post (.int .i64 0)) (Post (.int .i64 9)) := fun hb => by
  rw [if_neg (by rw [hb]; exact fun h => h rfl)] at h
  refine ⟨p.at_, p.turn, rfl, ifD (fun h8 => ?_) (fun h8 => ?_)⟩
  ·rwa [if_neg (fun hn => hn h8)] at h
  ·rwa [if_pos h8] at h
 have bad : ∀ e : Int, bodyErr p = e → e ≠ 0 → Post (.int .i64 e) := fun e he hn => by
  rw [if_pos (by rw [he]; exact hn), he] at h
  exact h
 unfold bodyErr at last bad
 simp only [form_one, form_two] at last bad
 refine ifD (fun f1 => ⟨p.outer, p.holes, rfl, hq.outer, hq.holes, hq.all, ifN (fun g => bad _ (by rw [if_pos f1]) g) (fun g => last (by rw [if_pos f1]; exact g))⟩) (fun f1 => ?_)
 rw [if_neg f1] at last bad
 refine ifD (fun f2 => ?_) (fun f2 => ?_)
 ·rw [if_neg (by omega)] at last bad
  have b9 : (p.mass < 1 ∨ 1099511627776 < p.mass ∨ ¬ inV p.centre 524288) → Post (.int .i64 9) := fun hb => bad 9 (by rw [if_pos hb]) (by decide)
  have ok := fun hb : ¬ (p.mass < 1 ∨ 1099511627776 < p.mass ∨ ¬ inV p.centre 524288) => last (by rw [if_neg hb])
  clear last bad
  unfold inV at b9 ok
  repeat' (first
   | refine ifD (fun _ => ?_) (fun _ => ?_)
   | exact b9 (by omega)
   | exact ok (by omega))
 ·rw [if_pos (by omega)] at last bad
  refine ifD (fun g1 => bad 9 (by rw [if_pos (by omega)]) (by decide)) (fun g1 => ifD (fun g2 => bad 9 (by rw [if_pos (by omega)]) (by decide)) (fun g2 => last (by rw [if_neg (by omega)])))
theorem vcRm16_ok : VCallOk Tryz.prog vcRm16 := tabCall_ok (by
 intro e he
 simp only [List.mem_cons, List.not_mem_nil, or_false] at he
 rcases he with rfl | rfl | rfl | rfl
 ·exact ok_r16chk
 ·exact ok_rGrade
 ·exact ok_rSect
 ·exact ok_r13ar2) noCall_ok
theorem ok_r16mass : EntOk Tryz.prog ⟨19, c_rMass⟩ := by
 rintro args Post ⟨p, m, rfl, hq, hf, h⟩
 refine pure_P vcRm16_ok mixed (by kernel_rfl) (by kernel_rfl) _ (e_r16mass p m _ _) ?_
 simp only [true_and]
 unfold massP massRaw at h
 refine ⟨p, m, rfl, hq, hf, ifN (fun h1 => ?_) (fun h1 => ?_)⟩
 ·rwa [if_neg h1] at h
 rw [if_pos h1] at h
 have f0 := (check_made h1).1
 rw [h1] at h
 simp only [form_one, form_two] at h
 rw [Ne, form_none] at f0
 refine ⟨m, p.grade, rfl, hf, ?_⟩
 have last : pIf (decide (p.kind = 1)) (∃ (o : List Pt), ∃ (hs : List (List Pt)), eqL [.agg #[trPt p.outer, trPts p.holes]] [shapeV o hs] ∧ Short o ∧ Short hs ∧ (∀ (h : List Pt), h ∈ hs → Short h) ∧ (toI (.int .i64 2000000) = 0 → False) ∧ Post (.tuple #[.int .i64 (wr64 (Int.tdiv (wr64 (wr64 (rArea o hs * p.thick) * (gradeOf m p.grade).dens)) 2000000)), .int .i64 0])) (pIf (decide (p.kind = 4)) (Post (.tuple #[.int .i64 p.mass, .int .i64 0])) ((toI (.int .i64 1000000) = 0 → False) ∧ Post (.tuple #[.int .i64 (wr64 (Int.tdiv (wr64 (wr64 ((sectOf m p.sect).area * p.long) * (gradeOf m p.grade).dens)) 1000000)), .int .i64 0]))) := by
  refine ifD (fun f1 => ⟨p.outer, p.holes, rfl, hq.outer, hq.holes, hq.all, ?_, ?_⟩) (fun f1 => ifD (fun f2 => ?_) (fun f2 => ⟨?_, ?_⟩))
  ·decide
  ·rwa [if_pos f1] at h
  ·rwa [if_neg f1, if_neg (by omega)] at h
  ·decide
  ·rwa [if_neg f1, if_pos (by omega)] at h
 exact ifD (fun _ => ⟨by decide, m, p.sect, rfl, hf.toFewM, ifD (fun _ => ⟨by decide, last⟩) (fun _ => ⟨by decide, last⟩)⟩) (fun _ => ⟨by decide, m, p.sect, rfl, hf.toFewM, ifD (fun _ => ⟨by decide, last⟩) (fun _ => ⟨by decide, last⟩)⟩)
theorem vcRce16_ok : VCallOk Tryz.prog vcRce16 := inlCall_ok mixed (tabCall_ok (by
 intro e he
 simp only [List.mem_cons, List.not_mem_nil, or_false] at he
 rcases he with rfl | rfl | rfl | rfl | rfl
 ·exact ok_r16chk
 ·exact ok_rSect
 ·exact ok_r13ar2
 ·exact ok_r13mom
 ·exact ok_rround) noCall_ok) 2
theorem ok_r16centre : EntOk Tryz.prog ⟨21, c_rCentre⟩ := by
 rintro args Post ⟨p, m, rfl, hq, hf, h⟩
 refine pure_P vcRce16_ok mixed (by kernel_rfl) (by kernel_rfl) _ (e_r16centre p m _ _) ?_
 simp only [true_and, and_true, Nat.le_refl]
 unfold centreP centreRaw at h
 refine ⟨p, m, rfl, hq, hf, ifN (fun h1 => ?_) (fun h1 => ?_)⟩
 ·rwa [if_neg h1] at h
 rw [if_pos h1, h1] at h
 have f0 := (check_made h1).1
 rw [Ne, form_none] at f0
 refine ifD (fun f1 => ?_) (fun f1 => ifD (fun f2 => ?_) (fun f2 => ?_))
 ·rw [if_pos (form_one.2 f1)] at h
  obtain ⟨ho, t1, t2, _⟩ := plate_ok h1 (form_one.2 f1)
  have ha := ho.rArea_bd
  have hm := rMom_bd p.outer p.holes
  refine ⟨p.outer, p.holes, rfl, hq.outer, hq.holes, hq.all, p.outer, p.holes, rfl, hq.outer, hq.holes, hq.all, ?_⟩
  rw [wrap64 (n := 3 * rArea p.outer p.holes) (by omega) (by omega)]
  exact ⟨_, _, rfl, ⟨⟨by omega, by omega, by omega, by omega⟩⟩, _, _, rfl, ⟨⟨by omega, by omega, by omega, by omega⟩⟩, _, _, rfl, ⟨⟨by omega, by omega, by omega, by omega⟩⟩, h⟩
 ·rwa [if_neg (fun e => f1 (form_one.1 e)), if_neg (fun e => by have := form_two.1 e; omega)] at h
 ·have k2 : formP p.kind = 2 := form_two.2 (by omega)
  rw [if_neg (fun e => f1 (form_one.1 e)), if_pos k2] at h
  obtain ⟨l, _, t, _⟩ := beam_ok h1 k2
  refine ⟨m, p.sect, rfl, hf.toFewM, ?_⟩
  exact ifD (fun _ => ⟨_, _, rfl, ⟨⟨by omega, by omega, by omega, by omega⟩⟩, _, _, rfl, ⟨⟨by omega, by omega, by omega, by omega⟩⟩, h⟩) (fun _ => ⟨_, _, rfl, ⟨⟨by omega, by omega, by omega, by omega⟩⟩, _, _, rfl, ⟨⟨by omega, by omega, by omega, by omega⟩⟩, h⟩)
theorem vcRw16_ok : VCallOk Tryz.prog vcRw16 := tabCall_ok (by
 intro e he
 simp only [List.mem_cons, List.not_mem_nil, or_false] at he
 rcases he with rfl | rfl | rfl | rfl
 ·exact ok_r16mass
 ·exact ok_r16centre
 ·exact ok_rapply
 ·exact ok_rceil) noCall_ok
theorem ok_r16weight : EntOk Tryz.prog ⟨23, c_rWeight⟩ := by
 rintro args Post ⟨p, m, rfl, hq, hf, h⟩
 refine pure_P vcRw16_ok mixed (by kernel_rfl) (by kernel_rfl) _ (e_r16weight p m _ _) ?_
 simp only [true_and, and_true, Nat.le_refl]
 unfold weightP at h
 refine ⟨p, m, rfl, hq, hf, ifN (fun h1 => ?_) (fun h1 => ⟨p, m, rfl, hq, hf, ?_⟩)⟩
 ·rwa [if_neg h1] at h
 rw [if_pos h1, h1] at h
 have hm := mass_bd p m
 exact ⟨p.at_, p.turn, centreP p m, rfl, massP p m, 50000, rfl, ⟨⟨by omega, by omega, by omega, by omega⟩⟩, h⟩
end Go.Proofs.YtngginofamlkkaaGreatDoor
