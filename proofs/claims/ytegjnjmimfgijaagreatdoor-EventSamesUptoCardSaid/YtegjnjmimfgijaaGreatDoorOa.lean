/-
  cbor.head returns the specified bytes. Conditions: a kind below 8, an argument of 64 bits.
-/
import Derived.Test.YtegjnjmimfgijaaGreatDoorLa
import Derived.Test.YtegjnjmimfgijaaGreatDoorSm
noncomputable section
namespace Go.Proofs.YtegjnjmimfgijaaGreatDoor
open Go Go.RowKit
set_option maxRecDepth 100000

/-- The n last bytes of a number, the most significant one first. -/
def be : Nat → Nat → List UInt8
  | 0, _ => []
  | n + 1, v => UInt8.ofNat (v / 256 ^ n) :: be n v
def hd (k v : Nat) : List UInt8 :=
  if v < 24 then [UInt8.ofNat (32 * k + v)]
  else if v < 256 then UInt8.ofNat (32 * k + 24) :: be 1 v
  else if v < 65536 then UInt8.ofNat (32 * k + 25) :: be 2 v
  else if v < 4294967296 then UInt8.ofNat (32 * k + 26) :: be 4 v
  else UInt8.ofNat (32 * k + 27) :: be 8 v
def b8 (x : UInt8) : Value := .int .u8 x.toNat
def cellsB (l : List UInt8) : List Value := l.map b8
theorem byteOf_b8 (x : UInt8) : byteOf (b8 x) = x := by
  show UInt8.ofNat ((x.toNat : Int)).toNat = x
  simp
theorem bytesL_cellsB (l : List UInt8) : bytesL (cellsB l) = ⟨l.toArray⟩ := by
  unfold bytesL cellsB
  rw [List.map_map, show (byteOf ∘ b8) = id from funext byteOf_b8, List.map_id]
theorem allU8_cellsB (l : List UInt8) : AllU8 (cellsB l) := by
  intro v hv
  obtain ⟨x, _, rfl⟩ := List.mem_map.1 hv
  exact ⟨_, rfl⟩
theorem nls_cellsB (l : List UInt8) : NLs (cellsB l) := by
  intro v hv
  obtain ⟨x, _, rfl⟩ := List.mem_map.1 hv
  rfl
theorem cellsB_len (l : List UInt8) : (cellsB l).length = l.length := by simp [cellsB]
theorem be_len : ∀ n v, (be n v).length = n
  | 0, _ => rfl
  | n + 1, v => by simp [be, be_len n v]
theorem wrapU8 (n : Nat) : IntKind.u8.wrap (n : Int) = ((UInt8.ofNat n).toNat : Int) := by
  unfold IntKind.wrap
  simp [IntKind.signed, IntKind.bits]
theorem wrapU64 {n : Nat} (h : n < 18446744073709551616) : IntKind.u64.wrap (n : Int) = n := by
  unfold IntKind.wrap
  simp [IntKind.signed, IntKind.bits]
  omega
theorem wrapU8s {n : Nat} (h : n < 256) : IntKind.u8.wrap (n : Int) = n := by rw [wrapU8]; simp; omega
theorem u8_small {n : Nat} (h : n < 256) : (UInt8.ofNat n).toNat = n := by simp; omega
theorem orBytes : ∀ k < 8, ∀ v < 32, ((BitVec.ofInt 8 ((32 * k : Nat) : Int) ||| BitVec.ofInt 8 ((v : Nat) : Int)).toNat) = 32 * k + v := by decide
theorem shl5 {k : Nat} (h : k < 8) : IntKind.u8.wrap (IntKind.i64.wrap ((k : Int) * 2 ^ 5)) = ((32 * k : Nat) : Int) := by
  rw [wrap64 (by omega) (by omega), show (k : Int) * 2 ^ 5 = ((32 * k : Nat) : Int) by omega, wrapU8, u8_small (by omega)]
theorem fdivNat (v m : Nat) : Int.fdiv (v : Int) (2 ^ m) = ((v / 2 ^ m : Nat) : Int) := by
  rw [Int.fdiv_eq_ediv_of_nonneg _ (Int.le_of_lt (Int.pow_pos (by decide)))]
  simp
theorem fdivNat' (v m : Nat) : Int.fdiv (v : Int) (2 ^ min ((m : Int).toNat) 64) = ((v / 2 ^ min m 64 : Nat) : Int) := fdivNat v _

theorem e_head (k v : Int) (H : Code → List Fr → AS → Prop) (Post : List Value → Nat → Nat → Prop) : vcF Tryz.prog noCall 56 [(5, [0, 2, 7, 8]), (9, [0, 2, 9])] [.slice none 0 0, .int .i64 k, .int .u64 v] H Post = (True ∧ True ∧ toI (Value.int IntKind.i64 0) ≤ 5 ∧ True ∧ True ∧ True ∧ True ∧ pIf (decide (v < 24)) (True ∧ True ∧ True ∧ True ∧ True ∧ True ∧ 1 ≤ 1 ∧ 1 ≤ 33554432 ∧ true = true ∧ 1 = 1 ∧ True ∧ (1 = 1 ∧ NLs [Value.int IntKind.u8 (IntKind.wrap IntKind.u8 (↑(BitVec.toNat (BitVec.ofInt 8 (IntKind.wrap IntKind.u8 (IntKind.wrap IntKind.i64 (k * 2 ^ 5))) ||| BitVec.ofInt 8 (IntKind.wrap IntKind.u8 v))) : Int))]) ∧ Post [Value.int IntKind.u8 (IntKind.wrap IntKind.u8 (↑(BitVec.toNat (BitVec.ofInt 8 (IntKind.wrap IntKind.u8 (IntKind.wrap IntKind.i64 (k * 2 ^ 5))) ||| BitVec.ofInt 8 (IntKind.wrap IntKind.u8 v))) : Int))] 1 1) (True ∧ True ∧ True ∧ H (lpC Tryz.prog 56 5) (lpK Tryz.prog 56 5) (stV [(0, some (Value.slice none 0 0)), (2, some (Value.int IntKind.u64 v)), (7, some (Value.int IntKind.u8 (IntKind.wrap IntKind.u8 (IntKind.wrap IntKind.i64 (k * 2 ^ 5))))), (8, some (Value.int IntKind.i64 0))] [] 0))) := by kernel_rfl
theorem l_head5 (k v f s : Int) (H : Code → List Fr → AS → Prop) (Post : List Value → Nat → Nat → Prop) : vcLF Tryz.prog noCall 56 [.slice none 0 0, .int .i64 k, .int .u64 v] [(5, [0, 2, 7, 8]), (9, [0, 2, 9])] 5 (stV [(0, some (.slice none 0 0)), (2, some (.int .u64 v)), (7, some (.int .u8 f)), (8, some (.int .i64 s))] [] 0) H Post = (True ∧ True ∧ pIf (decide (s < 3)) (True ∧ True ∧ True ∧ 0 ≤ s ∧ 0 ≤ IntKind.wrap IntKind.u64 (8 * 2 ^ min (Int.toNat s) 64) ∧ True ∧ pIf (!decide (Int.fdiv v (2 ^ min (Int.toNat (IntKind.wrap IntKind.u64 (8 * 2 ^ min (Int.toNat s) 64))) 64) = 0)) (True ∧ True ∧ True ∧ True ∧ True ∧ True ∧ H (lpC Tryz.prog 56 5) (lpK Tryz.prog 56 5) (stV [(0, some (Value.slice none 0 0)), (2, some (Value.int IntKind.u64 v)), (7, some (Value.int IntKind.u8 f)), (8, some (Value.int IntKind.i64 (IntKind.wrap IntKind.i64 (s + 1))))] [] 0)) (True ∧ True ∧ True ∧ True ∧ True ∧ True ∧ True ∧ True ∧ 1 ≤ 1 ∧ 1 ≤ 33554432 ∧ true = true ∧ 1 = 1 ∧ True ∧ True ∧ 0 ≤ s ∧ True ∧ True ∧ True ∧ (NLs [Value.int IntKind.u8 (IntKind.wrap IntKind.u8 (↑(BitVec.toNat (BitVec.ofInt 8 f ||| BitVec.ofInt 8 (IntKind.wrap IntKind.u8 (IntKind.wrap IntKind.i64 (24 + s))))) : Int))] ∧ True) ∧ H (lpC Tryz.prog 56 9) (lpK Tryz.prog 56 9) (stV [(0, some (Value.slice (some (Addr.mk 0 0 none)) 1 1)), (2, some (Value.int IntKind.u64 v)), (9, some (Value.int IntKind.i64 (IntKind.wrap IntKind.i64 (IntKind.wrap IntKind.i64 (8 * 2 ^ min (Int.toNat s) 64) - 8))))] [(0, some (AObj.cells [Value.int IntKind.u8 (IntKind.wrap IntKind.u8 (↑(BitVec.toNat (BitVec.ofInt 8 f ||| BitVec.ofInt 8 (IntKind.wrap IntKind.u8 (IntKind.wrap IntKind.i64 (24 + s))))) : Int))] true))] 1))) (True ∧ True ∧ True ∧ True ∧ True ∧ True ∧ True ∧ True ∧ True ∧ 1 ≤ 1 ∧ 1 ≤ 33554432 ∧ true = true ∧ 1 = 1 ∧ True ∧ True ∧ 0 ≤ s ∧ True ∧ True ∧ True ∧ (NLs [Value.int IntKind.u8 (IntKind.wrap IntKind.u8 (↑(BitVec.toNat (BitVec.ofInt 8 f ||| BitVec.ofInt 8 (IntKind.wrap IntKind.u8 (IntKind.wrap IntKind.i64 (24 + s))))) : Int))] ∧ True) ∧ H (lpC Tryz.prog 56 9) (lpK Tryz.prog 56 9) (stV [(0, some (Value.slice (some (Addr.mk 0 0 none)) 1 1)), (2, some (Value.int IntKind.u64 v)), (9, some (Value.int IntKind.i64 (IntKind.wrap IntKind.i64 (IntKind.wrap IntKind.i64 (8 * 2 ^ min (Int.toNat s) 64) - 8))))] [(0, some (AObj.cells [Value.int IntKind.u8 (IntKind.wrap IntKind.u8 (↑(BitVec.toNat (BitVec.ofInt 8 f ||| BitVec.ofInt 8 (IntKind.wrap IntKind.u8 (IntKind.wrap IntKind.i64 (24 + s))))) : Int))] true))] 1))) := by kernel_rfl
theorem l_head9 (k v s : Int) (n : Nat) (l : List Value) (H : Code → List Fr → AS → Prop) (Post : List Value → Nat → Nat → Prop) : vcLF Tryz.prog noCall 56 [.slice none 0 0, .int .i64 k, .int .u64 v] [(5, [0, 2, 7, 8]), (9, [0, 2, 9])] 9 (stV [(0, some (.slice (some ⟨0, 0, none⟩) n 1)), (2, some (.int .u64 v)), (9, some (.int .i64 s))] [(0, some (.cells l true))] 1) H Post = (True ∧ True ∧ pIf (decide (s ≥ 0)) (True ∧ True ∧ True ∧ 0 ≤ s ∧ True ∧ True ∧ 1 ≤ 1 ∧ n + 1 ≤ 33554432 ∧ true = true ∧ 1 = 1 ∧ 0 + n * 1 = List.length l ∧ True ∧ True ∧ True ∧ True ∧ True ∧ (NLs (l ++ [Value.int IntKind.u8 (IntKind.wrap IntKind.u8 (Int.fdiv v (2 ^ min (Int.toNat s) 64)))]) ∧ True) ∧ H (lpC Tryz.prog 56 9) (lpK Tryz.prog 56 9) (stV [(0, some (Value.slice (some (Addr.mk 0 0 none)) (n + 1) 1)), (2, some (Value.int IntKind.u64 v)), (9, some (Value.int IntKind.i64 (IntKind.wrap IntKind.i64 (s - 8))))] [(0, some (AObj.cells (l ++ [Value.int IntKind.u8 (IntKind.wrap IntKind.u8 (Int.fdiv v (2 ^ min (Int.toNat s) 64)))]) true))] 1)) (True ∧ True ∧ (0 + n * 1 = List.length l ∧ NLs l) ∧ Post l n 1)) := by kernel_rfl

theorem b8_wrap (n : Nat) : Value.int .u8 (IntKind.u8.wrap (n : Int)) = b8 (UInt8.ofNat n) := by rw [wrapU8]; rfl
theorem b8_or {k v : Nat} (hk : k < 8) (hv : v < 32) : Value.int .u8 (IntKind.u8.wrap (((BitVec.ofInt 8 ((32 * k : Nat) : Int) ||| BitVec.ofInt 8 ((v : Nat) : Int)).toNat : Nat) : Int)) = b8 (UInt8.ofNat (32 * k + v)) := by
  rw [orBytes k hk v hv, b8_wrap]
def OkH (k v : Nat) (r : Nat) (Post : List Value → Nat → Nat → Prop) (st : AS) : Prop := OkF Tryz.prog 56 [.slice none 0 0, .int .i64 k, .int .u64 v] Post (lpC Tryz.prog 56 r) (lpK Tryz.prog 56 r) st
/-- The second loop: the bytes of the number. -/
theorem head_bytes (k v : Nat) (Post : List Value → Nat → Nat → Prop) : ∀ (j : Nat) (s : Int) (n : Nat) (l : List UInt8), j ≤ 8 → s = 8 * (j : Int) - 8 → n = l.length → n + j ≤ 9 → Post (cellsB (l ++ be j v)) (n + j) 1 →
    OkH k v 9 Post (stV [(0, some (.slice (some ⟨0, 0, none⟩) n 1)), (2, some (.int .u64 v)), (9, some (.int .i64 s))] [(0, some (.cells (cellsB l) true))] 1) := by
  intro j
  induction j with
  | zero =>
    intro s n l _ hs hn _ h
    refine ok_F (vc := noCall) noCall_ok mixed _ (l_head9 k v s n (cellsB l) _ _) ?_
    simp only [true_and, pIf_iff, decide_eq_true_eq, decide_eq_false_iff_not]
    refine ⟨fun h' => by omega, fun _ => ⟨⟨by rw [cellsB_len]; omega, nls_cellsB l⟩, ?_⟩⟩
    simpa [be] using h
  | succ j ih =>
    intro s n l hj hs hn hm h
    refine ok_F (vc := noCall) noCall_ok mixed _ (l_head9 k v s n (cellsB l) _ _) ?_
    have hs' : s = ((8 * j : Nat) : Int) := by omega
    subst hs'
    have e1 : IntKind.i64.wrap (((8 * j : Nat) : Int) - 8) = 8 * (j : Int) - 8 := by rw [wrap64 (by omega) (by omega)]; omega
    have e2 : Value.int .u8 (IntKind.u8.wrap (Int.fdiv (v : Int) (2 ^ min (((8 * j : Nat) : Int).toNat) 64))) = b8 (UInt8.ofNat (v / 256 ^ j)) := by
      rw [fdivNat', b8_wrap, Nat.min_eq_left (by omega), Nat.pow_mul]
    have e3 : cellsB l ++ [b8 (UInt8.ofNat (v / 256 ^ j))] = cellsB (l ++ [UInt8.ofNat (v / 256 ^ j)]) := by simp [cellsB]
    simp only [e2, e3, e1]
    simp only [true_and, pIf_iff, decide_eq_true_eq, decide_eq_false_iff_not]
    refine ⟨fun _ => ⟨by omega, by omega, by omega, by rw [cellsB_len]; omega, ⟨nls_cellsB _, trivial⟩, ?_⟩, fun h' => by omega⟩
    refine ih _ _ _ (by omega) rfl (by simp [hn]) (by omega) ?_
    rw [List.append_assoc, show n + 1 + j = n + (j + 1) by omega]
    exact h
/-- The first loop, at each of its rounds. -/
theorem head_size (k v : Nat) (hk : k < 8) (hv : v < 18446744073709551616) (hv24 : 24 ≤ v) (Post : List Value → Nat → Nat → Prop) (h : Post (cellsB (hd k v)) (hd k v).length 1) : ∀ (j s : Nat), s + j = 3 → (s = 0 ∨ (s = 1 ∧ 256 ≤ v) ∨ (s = 2 ∧ 65536 ≤ v) ∨ (s = 3 ∧ 4294967296 ≤ v)) →
    OkH k v 5 Post (stV [(0, some (.slice none 0 0)), (2, some (.int .u64 v)), (7, some (.int .u8 ((32 * k : Nat) : Int))), (8, some (.int .i64 s))] [] 0) := by
  have last : ∀ s : Nat, s ≤ 3 → hd k v = UInt8.ofNat (32 * k + (24 + s)) :: be (2 ^ s) v → OkH k v 9 Post (stV [(0, some (.slice (some ⟨0, 0, none⟩) 1 1)), (2, some (.int .u64 v)), (9, some (.int .i64 (IntKind.i64.wrap (IntKind.i64.wrap (8 * 2 ^ min ((s : Int).toNat) 64) - 8))))] [(0, some (.cells [.int .u8 (IntKind.u8.wrap (((BitVec.ofInt 8 ((32 * k : Nat) : Int) ||| BitVec.ofInt 8 (IntKind.u8.wrap (IntKind.i64.wrap (24 + (s : Int))))).toNat : Nat) : Int))] true))] 1) := by
    intro s hs he
    have e1 : IntKind.i64.wrap (24 + (s : Int)) = ((24 + s : Nat) : Int) := by rw [wrap64 (by omega) (by omega)]; omega
    have e2 : Value.int .u8 (IntKind.u8.wrap (((BitVec.ofInt 8 ((32 * k : Nat) : Int) ||| BitVec.ofInt 8 (IntKind.u8.wrap (IntKind.i64.wrap (24 + (s : Int))))).toNat : Nat) : Int)) = b8 (UInt8.ofNat (32 * k + (24 + s))) := by
      rw [e1, wrapU8s (n := 24 + s) (by omega), b8_or hk (by omega)]
    rw [e2]
    refine head_bytes k v Post (2 ^ s) _ 1 [UInt8.ofNat (32 * k + (24 + s))] ?_ ?_ rfl ?_ ?_
    · have : s = 0 ∨ s = 1 ∨ s = 2 ∨ s = 3 := by omega
      rcases this with rfl | rfl | rfl | rfl <;> decide
    · have : s = 0 ∨ s = 1 ∨ s = 2 ∨ s = 3 := by omega
      rcases this with rfl | rfl | rfl | rfl <;> decide
    · have : s = 0 ∨ s = 1 ∨ s = 2 ∨ s = 3 := by omega
      rcases this with rfl | rfl | rfl | rfl <;> decide
    · rw [he] at h
      rw [List.length_cons, be_len, Nat.add_comm (2 ^ s) 1] at h
      exact h
  have shift : ∀ s : Nat, s < 3 → Int.fdiv (v : Int) (2 ^ min (IntKind.u64.wrap (8 * 2 ^ min ((s : Int).toNat) 64)).toNat 64) = ((v / 2 ^ (8 * 2 ^ s) : Nat) : Int) := by
    intro s hs
    have : s = 0 ∨ s = 1 ∨ s = 2 := by omega
    rcases this with rfl | rfl | rfl <;> exact fdivNat v _
  have pos : ∀ s : Nat, s < 3 → 0 ≤ IntKind.u64.wrap (8 * 2 ^ min ((s : Int).toNat) 64) := by
    intro s hs
    have : s = 0 ∨ s = 1 ∨ s = 2 := by omega
    rcases this with rfl | rfl | rfl <;> decide
  intro j
  induction j with
  | zero =>
    intro s hs hc
    have h3 : s = 3 := by omega
    subst h3
    refine ok_F (vc := noCall) noCall_ok mixed _ (l_head5 k v _ _ _ _) ?_
    simp only [true_and, pIf_iff, decide_eq_true_eq, decide_eq_false_iff_not]
    refine ⟨fun h' => by omega, fun _ => ⟨by omega, by omega, by omega, ⟨?_, trivial⟩, ?_⟩⟩
    · intro u hu
      simp at hu
      subst hu
      rfl
    · refine last 3 (by omega) ?_
      unfold hd
      rw [if_neg (by omega), if_neg (by omega), if_neg (by omega), if_neg (by omega)]
  | succ j ih =>
    intro s hs hc
    refine ok_F (vc := noCall) noCall_ok mixed _ (l_head5 k v _ _ _ _) ?_
    simp only [true_and, pIf_iff, decide_eq_true_eq, decide_eq_false_iff_not, Bool.not_eq_true', Bool.not_eq_false']
    refine ⟨fun _ => ⟨by omega, pos s (by omega), fun h' => ?_, fun h' => ⟨by omega, by omega, by omega, ⟨?_, trivial⟩, ?_⟩⟩, fun h' => by omega⟩
    · rw [shift s (by omega)] at h'
      rw [wrap64 (by omega) (by omega), show (s : Int) + 1 = ((s + 1 : Nat) : Int) by omega]
      refine ih (s + 1) (by omega) ?_
      have : s = 0 ∨ s = 1 ∨ s = 2 := by omega
      rcases this with rfl | rfl | rfl
      · have : v / 256 ≠ 0 := fun e => h' (by show ((v / 256 : Nat) : Int) = 0; omega)
        omega
      · have : v / 65536 ≠ 0 := fun e => h' (by show ((v / 65536 : Nat) : Int) = 0; omega)
        omega
      · have : v / 4294967296 ≠ 0 := fun e => h' (by show ((v / 4294967296 : Nat) : Int) = 0; omega)
        omega
    · intro u hu
      simp at hu
      subst hu
      rfl
    · rw [shift s (by omega)] at h'
      refine last s (by omega) ?_
      unfold hd
      have : s = 0 ∨ s = 1 ∨ s = 2 := by omega
      rcases this with rfl | rfl | rfl
      · have : ((v / 256 : Nat) : Int) = 0 := h'
        rw [if_neg (by omega), if_pos (by omega)]
      · have : ((v / 65536 : Nat) : Int) = 0 := h'
        rw [if_neg (by omega), if_neg (by omega), if_pos (by omega)]
      · have : ((v / 4294967296 : Nat) : Int) = 0 := h'
        rw [if_neg (by omega), if_neg (by omega), if_neg (by omega), if_pos (by omega)]
def c_head (args : List Value) (Post : List Value → Nat → Nat → Prop) : Prop := ∃ k v : Nat, args = [.slice none 0 0, .int .i64 k, .int .u64 v] ∧ k < 8 ∧ v < 18446744073709551616 ∧ Post (cellsB (hd k v)) (hd k v).length 1
theorem ok_head : FEntOk Tryz.prog ⟨56, c_head⟩ := by
  rintro args Post ⟨k, v, rfl, hk, hv, h⟩
  refine pure_F (vc := noCall) noCall_ok mixed (by kernel_rfl) (by kernel_rfl) _ (e_head k v _ _) ?_
  simp only [true_and, pIf_iff, decide_eq_true_eq, decide_eq_false_iff_not, shl5 hk]
  refine ⟨by decide, fun h' => ?_, fun h' => ?_⟩
  · have e : Value.int .u8 (IntKind.u8.wrap (((BitVec.ofInt 8 ((32 * k : Nat) : Int) ||| BitVec.ofInt 8 (IntKind.u8.wrap ((v : Nat) : Int))).toNat : Nat) : Int)) = b8 (UInt8.ofNat (32 * k + v)) := by
      rw [wrapU8s (n := v) (by omega), b8_or hk (by omega)]
    rw [e]
    have e2 : hd k v = [UInt8.ofNat (32 * k + v)] := by unfold hd; rw [if_pos (by omega)]
    rw [e2] at h
    exact ⟨by omega, by omega, nls_cellsB [_], h⟩
  · exact head_size k v hk hv (by omega) Post h 3 0 rfl (.inl rfl)
end Go.Proofs.YtegjnjmimfgijaaGreatDoor
