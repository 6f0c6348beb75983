/-
  cbor.Int, cbor.Text and cbor.List, and the document's own. Conditions: integers of 64 bits; texts of at most 16 million bytes.
-/
import Derived.Test.YtegjnjmimfgijaaGreatDoorOa
import Derived.Test.YtegjnjmimfgijaaGreatDoorSn
noncomputable section
namespace Go.Proofs.YtegjnjmimfgijaaGreatDoor
open Go Go.RowKit
set_option maxRecDepth 100000
/-- Bytes as a string. -/
def str (l : List UInt8) : ByteArray := ⟨l.toArray⟩
def bInt (n : Int) : ByteArray := if n < 0 then str (hd 1 (-1 - n).toNat) else str (hd 0 n.toNat)
def bText (s : ByteArray) : ByteArray := str (hd 2 s.size) ++ s
def bList (n : Nat) : ByteArray := str (hd 4 n)
theorem ba_ext {a b : ByteArray} (h : a.data.toList = b.data.toList) : a = b := by
  cases a; cases b; congr 1; exact Array.toList_inj.1 h
theorem str_app (a b : List UInt8) : str a ++ str b = str (a ++ b) := ba_ext (by simp [str])
theorem str_size (l : List UInt8) : (str l).size = l.length := by simp [str, ByteArray.size]
theorem str_data (s : ByteArray) : str s.data.toList = s := ba_ext (by simp [str])
theorem hd_len (k v : Nat) : (hd k v).length ≤ 9 := by
  unfold hd
  split
  · simp
  split
  · simp [be_len]
  split
  · simp [be_len]
  split
  · simp [be_len]
  · simp [be_len]
theorem byteCells_eq (s : ByteArray) : (byteCells s).toList = cellsB s.data.toList := by
  unfold byteCells cellsB b8
  simp
theorem take_all {l : List UInt8} : (cellsB l).take l.length = cellsB l := List.take_of_length_le (by rw [cellsB_len]; exact Nat.le_refl _)
theorem not64 {n : Int} (h1 : -9223372036854775808 ≤ n) (h2 : n < 0) : IntKind.u64.wrap (IntKind.i64.wrap (((BitVec.ofInt 64 (if IntKind.signed IntKind.i64 = true then -1 else IntKind.max IntKind.i64) ^^^ BitVec.ofInt 64 n).toNat : Nat) : Int)) = (((-1 - n).toNat : Nat) : Int) := by
  have e0 : (BitVec.ofInt 64 (if IntKind.signed IntKind.i64 = true then -1 else IntKind.max IntKind.i64)) = BitVec.allOnes 64 := by decide
  rw [e0, BitVec.allOnes_xor]
  have e1 : (~~~ BitVec.ofInt 64 n).toNat = (-1 - n).toNat := by
    rw [BitVec.toNat_not, BitVec.toNat_ofInt]
    omega
  rw [e1, wrap64 (by omega) (by omega), wrapU64 (by omega)]
theorem all_single (l : List UInt8) : (cellsB l).all single = true := List.all_eq_true.2 fun v hv => by
  obtain ⟨x, _, rfl⟩ := List.mem_map.1 hv
  rfl
def tabH : List FEnt := [⟨56, c_head⟩]
def callH : VCall := ftabCall tabH noCall
theorem e_cInt (n : Int) (H : Code → List Fr → AS → Prop) (Post : Value → Prop) : vcP Tryz.prog callH 32 [] [.int .i64 n] H Post = (True ∧ True ∧ True ∧ pIf (decide (n < 0)) (True ∧ True ∧ True ∧ ∃ (k : Nat), ∃ (v : Nat), eqL [Value.slice none 0 0, Value.int IntKind.i64 1, Value.int IntKind.u64 (IntKind.wrap IntKind.u64 (IntKind.wrap IntKind.i64 (↑(BitVec.toNat (BitVec.ofInt 64 (if IntKind.signed IntKind.i64 = true then -1 else IntKind.max IntKind.i64) ^^^ BitVec.ofInt 64 n)) : Int)))] [Value.slice none 0 0, Value.int IntKind.i64 (↑k : Int), Value.int IntKind.u64 (↑v : Int)] ∧ k < 8 ∧ v < 18446744073709551616 ∧ (0 + List.length (hd k v) ≤ List.length (cellsB (hd k v)) ∧ AllU8 (List.take (List.length (hd k v)) (List.drop 0 (cellsB (hd k v))))) ∧ True ∧ True ∧ Post (Value.string (bytesL (List.take (List.length (hd k v)) (List.drop 0 (cellsB (hd k v))))))) (True ∧ True ∧ ∃ (k : Nat), ∃ (v : Nat), eqL [Value.slice none 0 0, Value.int IntKind.i64 0, Value.int IntKind.u64 (IntKind.wrap IntKind.u64 n)] [Value.slice none 0 0, Value.int IntKind.i64 (↑k : Int), Value.int IntKind.u64 (↑v : Int)] ∧ k < 8 ∧ v < 18446744073709551616 ∧ (0 + List.length (hd k v) ≤ List.length (cellsB (hd k v)) ∧ AllU8 (List.take (List.length (hd k v)) (List.drop 0 (cellsB (hd k v))))) ∧ True ∧ True ∧ Post (Value.string (bytesL (List.take (List.length (hd k v)) (List.drop 0 (cellsB (hd k v)))))))) := by kernel_rfl
theorem e_cText (s : ByteArray) (H : Code → List Fr → AS → Prop) (Post : Value → Prop) : vcP Tryz.prog callH 69 [] [.string s] H Post = (True ∧ True ∧ True ∧ True ∧ ∃ (k : Nat), ∃ (v : Nat), eqL [Value.slice none 0 0, Value.int IntKind.i64 2, Value.int IntKind.u64 (IntKind.wrap IntKind.u64 (↑(ByteArray.size s) : Int))] [Value.slice none 0 0, Value.int IntKind.i64 (↑k : Int), Value.int IntKind.u64 (↑v : Int)] ∧ k < 8 ∧ v < 18446744073709551616 ∧ True ∧ True ∧ pIf (Nat.beq (ByteArray.size s) 0) (true = true ∧ (0 + List.length (hd k v) ≤ List.length (cellsB (hd k v)) ∧ AllU8 (List.take (List.length (hd k v)) (List.drop 0 (cellsB (hd k v))))) ∧ True ∧ True ∧ Post (Value.string (bytesL (List.take (List.length (hd k v)) (List.drop 0 (cellsB (hd k v))))))) (List.length (hd k v) + ByteArray.size s ≤ 33554432 ∧ List.all (Array.toList (byteCells s)) single = true ∧ List.length (Array.toList (byteCells s)) = ByteArray.size s * 1 ∧ 0 + List.length (hd k v) * 1 = List.length (cellsB (hd k v)) ∧ (0 + (List.length (hd k v) + ByteArray.size s) ≤ List.length (List.drop 0 (cellsB (hd k v)) ++ Array.toList (byteCells s)) ∧ AllU8 (List.take (List.length (hd k v) + ByteArray.size s) (List.drop 0 (List.drop 0 (cellsB (hd k v)) ++ Array.toList (byteCells s))))) ∧ True ∧ True ∧ Post (Value.string (bytesL (List.take (List.length (hd k v) + ByteArray.size s) (List.drop 0 (List.drop 0 (cellsB (hd k v)) ++ Array.toList (byteCells s)))))))) := by kernel_rfl
theorem e_cList (n : Int) (H : Code → List Fr → AS → Prop) (Post : Value → Prop) : vcP Tryz.prog callH 70 [] [.int .i64 n] H Post = (True ∧ True ∧ True ∧ pIf (decide (n < 0)) (True ∧ True ∧ Post (Value.string (ByteArray.mk #[]))) (True ∧ True ∧ ∃ (k : Nat), ∃ (v : Nat), eqL [Value.slice none 0 0, Value.int IntKind.i64 4, Value.int IntKind.u64 (IntKind.wrap IntKind.u64 n)] [Value.slice none 0 0, Value.int IntKind.i64 (↑k : Int), Value.int IntKind.u64 (↑v : Int)] ∧ k < 8 ∧ v < 18446744073709551616 ∧ (0 + List.length (hd k v) ≤ List.length (cellsB (hd k v)) ∧ AllU8 (List.take (List.length (hd k v)) (List.drop 0 (cellsB (hd k v))))) ∧ True ∧ True ∧ Post (Value.string (bytesL (List.take (List.length (hd k v)) (List.drop 0 (cellsB (hd k v)))))))) := by kernel_rfl
theorem e_bytes (v n : Int) (H : Code → List Fr → AS → Prop) (Post : Value → Prop) : vcP Tryz.prog noCall 87 [(3, [0, 1, 5, 6])] [.int .u64 v, .int .i64 n] H Post = (True ∧ True ∧ True ∧ True ∧ True ∧ H (lpC Tryz.prog 87 3) (lpK Tryz.prog 87 3) (stV [(0, some (Value.int IntKind.u64 v)), (1, some (Value.int IntKind.i64 n)), (5, some (Value.string (ByteArray.mk #[]))), (6, some (Value.int IntKind.i64 0))] [] 0)) := by kernel_rfl
theorem l_bytes (v n i : Int) (s : ByteArray) (H : Code → List Fr → AS → Prop) (Post : Value → Prop) : vcLP Tryz.prog noCall 87 [.int .u64 v, .int .i64 n] [(3, [0, 1, 5, 6])] 3 (stV [(0, some (.int .u64 v)), (1, some (.int .i64 n)), (5, some (.string s)), (6, some (.int .i64 i))] [] 0) H Post = (True ∧ True ∧ True ∧ pIf (decide (i < n)) (True ∧ (toI (Value.int IntKind.i64 256) = 0 → False) ∧ True ∧ True ∧ (1 ≤ 1 ∧ AllU8 [Value.int IntKind.u8 (IntKind.wrap IntKind.u8 (Int.tmod v 256))]) ∧ True ∧ ByteArray.size (bytesL [Value.int IntKind.u8 (IntKind.wrap IntKind.u8 (Int.tmod v 256))]) + ByteArray.size s ≤ 9223372036854775807 ∧ True ∧ True ∧ (toI (Value.int IntKind.i64 256) = 0 → False) ∧ True ∧ True ∧ True ∧ True ∧ True ∧ True ∧ H (lpC Tryz.prog 87 3) (lpK Tryz.prog 87 3) (stV [(0, some (Value.int IntKind.u64 (IntKind.wrap IntKind.u64 (Int.tdiv v 256)))), (1, some (Value.int IntKind.i64 n)), (5, some (Value.string (bytesL [Value.int IntKind.u8 (IntKind.wrap IntKind.u8 (Int.tmod v 256))] ++ s))), (6, some (Value.int IntKind.i64 (IntKind.wrap IntKind.i64 (i + 1))))] [] 0)) (True ∧ True ∧ True ∧ Post (Value.string s))) := by kernel_rfl
def c_cInt (args : List Value) (Post : Value → Prop) : Prop := ∃ n : Int, args = [.int .i64 n] ∧ (-9223372036854775808 ≤ n ∧ n < 9223372036854775808) ∧ Post (.string (bInt n))
def c_cText (args : List Value) (Post : Value → Prop) : Prop := ∃ s : ByteArray, args = [.string s] ∧ s.size ≤ 16000000 ∧ Post (.string (bText s))
def c_cList (args : List Value) (Post : Value → Prop) : Prop := ∃ n : Nat, args = [.int .i64 n] ∧ n < 9223372036854775808 ∧ Post (.string (bList n))
theorem callH_ok : VCallOk Tryz.prog callH := ftabCall_ok (by
  intro e he
  simp only [tabH, List.mem_cons, List.not_mem_nil, or_false] at he
  rcases he with rfl
  exact ok_head) noCall_ok
theorem ok_cInt : EntOk Tryz.prog ⟨32, c_cInt⟩ := by
  rintro args Post ⟨n, rfl, ⟨h1, h2⟩, h⟩
  refine pure_P (vc := callH) callH_ok mixed (by kernel_rfl) (by kernel_rfl) _ (e_cInt n _ _) ?_
  simp only [true_and, pIf_iff, decide_eq_true_eq, decide_eq_false_iff_not, List.drop_zero, take_all, Nat.zero_add, bytesL_cellsB]
  refine ⟨fun h' => ⟨1, (-1 - n).toNat, ?_, by omega, by omega, ⟨by rw [cellsB_len]; exact Nat.le_refl _, allU8_cellsB _⟩, ?_⟩, fun h' => ⟨0, n.toNat, ?_, by omega, by omega, ⟨by rw [cellsB_len]; exact Nat.le_refl _, allU8_cellsB _⟩, ?_⟩⟩
  · rw [not64 h1 h']; rfl
  · unfold bInt at h; rwa [if_pos h'] at h
  · rw [show n = ((n.toNat : Nat) : Int) by omega, wrapU64 (by omega)]; rfl
  · unfold bInt at h; rwa [if_neg h'] at h
theorem ok_cList : EntOk Tryz.prog ⟨70, c_cList⟩ := by
  rintro args Post ⟨n, rfl, h1, h⟩
  refine pure_P (vc := callH) callH_ok mixed (by kernel_rfl) (by kernel_rfl) _ (e_cList n _ _) ?_
  simp only [true_and, pIf_iff, decide_eq_true_eq, decide_eq_false_iff_not, List.drop_zero, take_all, Nat.zero_add, bytesL_cellsB]
  refine ⟨fun h' => by omega, fun h' => ⟨4, n, ?_, by omega, by omega, ⟨by rw [cellsB_len]; exact Nat.le_refl _, allU8_cellsB _⟩, h⟩⟩
  rw [wrapU64 (by omega)]; rfl
theorem ok_cText : EntOk Tryz.prog ⟨69, c_cText⟩ := by
  rintro args Post ⟨s, rfl, h1, h⟩
  refine pure_P (vc := callH) callH_ok mixed (by kernel_rfl) (by kernel_rfl) _ (e_cText s _ _) ?_
  have hl := hd_len 2 s.size
  have hsz : s.data.toList.length = s.size := rfl
  have key : cellsB (hd 2 s.size) ++ cellsB s.data.toList = cellsB (hd 2 s.size ++ s.data.toList) := by simp [cellsB]
  have key2 : (hd 2 s.size).length + s.size = (hd 2 s.size ++ s.data.toList).length := by rw [List.length_append, hsz]
  simp only [true_and]
  refine ⟨2, s.size, ?_, by omega, by omega, ?_⟩
  · rw [wrapU64 (by omega)]; rfl
  · simp only [true_and, pIf_iff, List.drop_zero, Nat.zero_add, byteCells_eq, key, key2, take_all, bytesL_cellsB, cellsB_len, Nat.mul_one, hsz, all_single]
    have fin : bText s = ⟨(hd 2 s.size ++ s.data.toList).toArray⟩ := by
      unfold bText
      conv => lhs; rw [← str_data s]
      rw [str_app, str_data]
      rfl
    refine ⟨fun h' => ⟨⟨Nat.le_refl _, allU8_cellsB _⟩, ?_⟩, fun h' => ⟨by rw [← key2]; omega, ⟨Nat.le_refl _, allU8_cellsB _⟩, ?_⟩⟩
    · have h0 : s.data.toList = [] := List.eq_nil_of_length_eq_zero (Nat.eq_of_beq_eq_true h')
      rw [fin, h0, List.append_nil] at h
      exact h
    · rw [fin] at h
      exact h
theorem tmod256 (v : Nat) : Int.tmod (v : Int) 256 = ((v % 256 : Nat) : Int) := by
  rw [Int.tmod_eq_emod_of_nonneg (by omega)]; omega
theorem tdiv256 (v : Nat) : Int.tdiv (v : Int) 256 = ((v / 256 : Nat) : Int) := by
  rw [Int.tdiv_eq_ediv_of_nonneg (by omega)]; omega
theorem u8mod (n : Nat) : UInt8.ofNat (n % 256) = UInt8.ofNat n := by
  apply UInt8.toNat_inj.1
  simp
def c_rbytes (args : List Value) (Post : Value → Prop) : Prop := ∃ v n : Nat, args = [.int .u64 v, .int .i64 n] ∧ v < 18446744073709551616 ∧ n ≤ 8 ∧ Post (.string (str (be n v)))
theorem ok_rbytes : EntOk Tryz.prog ⟨87, c_rbytes⟩ := by
  rintro args Post ⟨v, n, rfl, hv, hn, h⟩
  refine pure_P (vc := noCall) noCall_ok mixed (by kernel_rfl) (by kernel_rfl) _ (e_bytes v n _ _) ?_
  simp only [true_and]
  refine down (n := n) (p := fun i => OkP 87 [.int .u64 v, .int .i64 n] 3 Post (stV [(0, some (.int .u64 (v / 256 ^ i : Nat))), (1, some (.int .i64 n)), (5, some (.string (str (be i v)))), (6, some (.int .i64 i))] [] 0)) ?_ (fun i hi ih => ?_) |> fun q => by simpa [be, str] using q
  · refine ok_P (vc := noCall) noCall_ok mixed _ (l_bytes _ _ _ _ _ _) ?_
    simp only [true_and, pIf_iff, decide_eq_true_eq, decide_eq_false_iff_not]
    exact ⟨fun h' => by omega, fun _ => h⟩
  · refine ok_P (vc := noCall) noCall_ok mixed _ (l_bytes _ _ _ _ _ _) ?_
    have hlt : v / 256 ^ i < 18446744073709551616 := Nat.lt_of_le_of_lt (Nat.div_le_self _ _) hv
    have e1 : Value.int .u8 (IntKind.u8.wrap (Int.tmod ((v / 256 ^ i : Nat) : Int) 256)) = b8 (UInt8.ofNat (v / 256 ^ i)) := by rw [tmod256, b8_wrap, u8mod]
    have e2 : bytesL [b8 (UInt8.ofNat (v / 256 ^ i))] ++ str (be i v) = str (be (i + 1) v) := by
      rw [show [b8 (UInt8.ofNat (v / 256 ^ i))] = cellsB [UInt8.ofNat (v / 256 ^ i)] from rfl, bytesL_cellsB]
      exact str_app [_] _
    have e3 : IntKind.u64.wrap (Int.tdiv ((v / 256 ^ i : Nat) : Int) 256) = ((v / 256 ^ (i + 1) : Nat) : Int) := by
      rw [tdiv256, wrapU64 (by omega), Nat.div_div_eq_div_mul, Nat.pow_succ]
    have e4 : IntKind.i64.wrap ((i : Int) + 1) = ((i + 1 : Nat) : Int) := wrapSucc (by omega)
    simp only [e1, e2, e3, e4]
    simp only [true_and, pIf_iff, decide_eq_true_eq, decide_eq_false_iff_not, toI]
    refine ⟨fun _ => ⟨by decide, ⟨Nat.le_refl _, allU8_cellsB [_]⟩, ?_, by decide, ih⟩, fun h' => by omega⟩
    rw [str_size, be_len]
    have : (bytesL [b8 (UInt8.ofNat (v / 256 ^ i))]).size = 1 := rfl
    omega
def tabR5 : List Ent := [⟨87, c_rbytes⟩]
theorem tabR5_ok : VCallOk Tryz.prog (tabCall tabR5 noCall) := tabCall_ok (by
  intro e he
  simp only [tabR5, List.mem_cons, List.not_mem_nil, or_false] at he
  rcases he with rfl
  exact ok_rbytes) noCall_ok
end Go.Proofs.YtegjnjmimfgijaaGreatDoor
