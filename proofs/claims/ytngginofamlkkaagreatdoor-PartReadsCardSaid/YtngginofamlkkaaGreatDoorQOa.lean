/-
  cbor.head returns the specified bytes. Conditions: a kind below 8, an argument of 64 bits. cbor.Int, cbor.Text and cbor.List, and the document's own. Conditions: integers of 64 bits; texts of at most a million bytes. The document's heads, integers, texts and lists. Conditions: integers of 64 bits; texts of at most a million bytes. part.ints, part.corners, and the document's contour and vector. Conditions: at most a hundred elements of 64 bits.
-/
import Derived.Test.YtngginofamlkkaaGreatDoorLa
import Derived.Test.YtngginofamlkkaaGreatDoorSm
import Derived.Test.YtngginofamlkkaaGreatDoorSn
import Derived.Test.YtngginofamlkkaaGreatDoorMb
noncomputable section
namespace Go.Proofs.YtngginofamlkkaaGreatDoor
open Go Go.RowKit
set_option maxRecDepth 100000

/-- The n last bytes of a number, the most significant one first. -/
def be : Nat → Nat → List UInt8
  | 0, _ => []
  | n + 1, v => UInt8.ofNat (v / 256 ^ n) :: be n v
def hd (k v : Nat) : List UInt8 :=
  if v < 24 then [UInt8.ofNat (32 * k + v)]
  else if v < 256 then UInt8.ofNat (32 * k + 24) :: be 1 v
  else if v < 65536 then UInt8.ofNat (32 * k + 25) :: be 2 v
  else if v < 4294967296 then UInt8.ofNat (32 * k + 26) :: be 4 v
  else UInt8.ofNat (32 * k + 27) :: be 8 v
def b8 (x : UInt8) : Value := .int .u8 x.toNat
def cellsB (l : List UInt8) : List Value := l.map b8
theorem byteOf_b8 (x : UInt8) : byteOf (b8 x) = x := by
  show UInt8.ofNat ((x.toNat : Int)).toNat = x
  simp
theorem bytesL_cellsB (l : List UInt8) : bytesL (cellsB l) = ⟨l.toArray⟩ := by
  unfold bytesL cellsB
  rw [List.map_map, show (byteOf ∘ b8) = id from funext byteOf_b8, List.map_id]
theorem allU8_cellsB (l : List UInt8) : AllU8 (cellsB l) := by
  intro v hv
  obtain ⟨x, _, rfl⟩ := List.mem_map.1 hv
  exact ⟨_, rfl⟩
theorem nls_cellsB (l : List UInt8) : NLs (cellsB l) := by
  intro v hv
  obtain ⟨x, _, rfl⟩ := List.mem_map.1 hv
  rfl
theorem cellsB_len (l : List UInt8) : (cellsB l).length = l.length := by simp [cellsB]
theorem be_len : ∀ n v, (be n v).length = n
  | 0, _ => rfl
  | n + 1, v => by simp [be, be_len n v]
theorem wrapU8 (n : Nat) : IntKind.u8.wrap (n : Int) = ((UInt8.ofNat n).toNat : Int) := by
  unfold IntKind.wrap
  simp [IntKind.signed, IntKind.bits]
theorem wrapU64 {n : Nat} (h : n < 18446744073709551616) : IntKind.u64.wrap (n : Int) = n := by
  unfold IntKind.wrap
  simp [IntKind.signed, IntKind.bits]
  omega
theorem wrapU8s {n : Nat} (h : n < 256) : IntKind.u8.wrap (n : Int) = n := by rw [wrapU8]; simp; omega
theorem u8_small {n : Nat} (h : n < 256) : (UInt8.ofNat n).toNat = n := by simp; omega
theorem orBytes : ∀ k < 8, ∀ v < 32, ((BitVec.ofInt 8 ((32 * k : Nat) : Int) ||| BitVec.ofInt 8 ((v : Nat) : Int)).toNat) = 32 * k + v := by decide
theorem shl5 {k : Nat} (h : k < 8) : IntKind.u8.wrap (IntKind.i64.wrap ((k : Int) * 2 ^ 5)) = ((32 * k : Nat) : Int) := by
  rw [wrap64 (by omega) (by omega), show (k : Int) * 2 ^ 5 = ((32 * k : Nat) : Int) by omega, wrapU8, u8_small (by omega)]
theorem fdivNat (v m : Nat) : Int.fdiv (v : Int) (2 ^ m) = ((v / 2 ^ m : Nat) : Int) := by
  rw [Int.fdiv_eq_ediv_of_nonneg _ (Int.le_of_lt (Int.pow_pos (by decide)))]
  simp
theorem fdivNat' (v m : Nat) : Int.fdiv (v : Int) (2 ^ min ((m : Int).toNat) 64) = ((v / 2 ^ min m 64 : Nat) : Int) := fdivNat v _

theorem e_head (k v : Int) (H : Code → List Fr → AS → Prop) (Post : List Value → Nat → Nat → Prop) : vcF Tryz.prog noCall 153 [(5, [0, 2, 7, 8]), (9, [0, 2, 9])] [.slice none 0 0, .int .i64 k, .int .u64 v] H Post = (True ∧ True ∧ toI (Value.int IntKind.i64 0) ≤ 5 ∧ True ∧ True ∧ True ∧ True ∧ pIf (decide (v < 24)) (True ∧ True ∧ True ∧ True ∧ True ∧ True ∧ 1 ≤ 1 ∧ 1 ≤ 1048576 ∧ true = true ∧ 1 = 1 ∧ True ∧ (1 = 1 ∧ NLs [Value.int IntKind.u8 (IntKind.wrap IntKind.u8 (↑(BitVec.toNat (BitVec.ofInt 8 (IntKind.wrap IntKind.u8 (IntKind.wrap IntKind.i64 (k * 2 ^ 5))) ||| BitVec.ofInt 8 (IntKind.wrap IntKind.u8 v))) : Int))]) ∧ Post [Value.int IntKind.u8 (IntKind.wrap IntKind.u8 (↑(BitVec.toNat (BitVec.ofInt 8 (IntKind.wrap IntKind.u8 (IntKind.wrap IntKind.i64 (k * 2 ^ 5))) ||| BitVec.ofInt 8 (IntKind.wrap IntKind.u8 v))) : Int))] 1 1) (True ∧ True ∧ True ∧ H (lpC Tryz.prog 153 5) (lpK Tryz.prog 153 5) (stV [(0, some (Value.slice none 0 0)), (2, some (Value.int IntKind.u64 v)), (7, some (Value.int IntKind.u8 (IntKind.wrap IntKind.u8 (IntKind.wrap IntKind.i64 (k * 2 ^ 5))))), (8, some (Value.int IntKind.i64 0))] [] 0))) := by kernel_rfl
theorem l_head5 (k v f s : Int) (H : Code → List Fr → AS → Prop) (Post : List Value → Nat → Nat → Prop) : vcLF Tryz.prog noCall 153 [.slice none 0 0, .int .i64 k, .int .u64 v] [(5, [0, 2, 7, 8]), (9, [0, 2, 9])] 5 (stV [(0, some (.slice none 0 0)), (2, some (.int .u64 v)), (7, some (.int .u8 f)), (8, some (.int .i64 s))] [] 0) H Post = (True ∧ True ∧ pIf (decide (s < 3)) (True ∧ True ∧ True ∧ 0 ≤ s ∧ 0 ≤ IntKind.wrap IntKind.u64 (8 * 2 ^ min (Int.toNat s) 64) ∧ True ∧ pIf (!decide (Int.fdiv v (2 ^ min (Int.toNat (IntKind.wrap IntKind.u64 (8 * 2 ^ min (Int.toNat s) 64))) 64) = 0)) (True ∧ True ∧ True ∧ True ∧ True ∧ True ∧ H (lpC Tryz.prog 153 5) (lpK Tryz.prog 153 5) (stV [(0, some (Value.slice none 0 0)), (2, some (Value.int IntKind.u64 v)), (7, some (Value.int IntKind.u8 f)), (8, some (Value.int IntKind.i64 (IntKind.wrap IntKind.i64 (s + 1))))] [] 0)) (True ∧ True ∧ True ∧ True ∧ True ∧ True ∧ True ∧ True ∧ 1 ≤ 1 ∧ 1 ≤ 1048576 ∧ true = true ∧ 1 = 1 ∧ True ∧ True ∧ 0 ≤ s ∧ True ∧ True ∧ True ∧ (NLs [Value.int IntKind.u8 (IntKind.wrap IntKind.u8 (↑(BitVec.toNat (BitVec.ofInt 8 f ||| BitVec.ofInt 8 (IntKind.wrap IntKind.u8 (IntKind.wrap IntKind.i64 (24 + s))))) : Int))] ∧ True) ∧ H (lpC Tryz.prog 153 9) (lpK Tryz.prog 153 9) (stV [(0, some (Value.slice (some (Addr.mk 0 0 none)) 1 1)), (2, some (Value.int IntKind.u64 v)), (9, some (Value.int IntKind.i64 (IntKind.wrap IntKind.i64 (IntKind.wrap IntKind.i64 (8 * 2 ^ min (Int.toNat s) 64) - 8))))] [(0, some (AObj.cells [Value.int IntKind.u8 (IntKind.wrap IntKind.u8 (↑(BitVec.toNat (BitVec.ofInt 8 f ||| BitVec.ofInt 8 (IntKind.wrap IntKind.u8 (IntKind.wrap IntKind.i64 (24 + s))))) : Int))] true))] 1))) (True ∧ True ∧ True ∧ True ∧ True ∧ True ∧ True ∧ True ∧ True ∧ 1 ≤ 1 ∧ 1 ≤ 1048576 ∧ true = true ∧ 1 = 1 ∧ True ∧ True ∧ 0 ≤ s ∧ True ∧ True ∧ True ∧ (NLs [Value.int IntKind.u8 (IntKind.wrap IntKind.u8 (↑(BitVec.toNat (BitVec.ofInt 8 f ||| BitVec.ofInt 8 (IntKind.wrap IntKind.u8 (IntKind.wrap IntKind.i64 (24 + s))))) : Int))] ∧ True) ∧ H (lpC Tryz.prog 153 9) (lpK Tryz.prog 153 9) (stV [(0, some (Value.slice (some (Addr.mk 0 0 none)) 1 1)), (2, some (Value.int IntKind.u64 v)), (9, some (Value.int IntKind.i64 (IntKind.wrap IntKind.i64 (IntKind.wrap IntKind.i64 (8 * 2 ^ min (Int.toNat s) 64) - 8))))] [(0, some (AObj.cells [Value.int IntKind.u8 (IntKind.wrap IntKind.u8 (↑(BitVec.toNat (BitVec.ofInt 8 f ||| BitVec.ofInt 8 (IntKind.wrap IntKind.u8 (IntKind.wrap IntKind.i64 (24 + s))))) : Int))] true))] 1))) := by kernel_rfl
theorem l_head9 (k v s : Int) (n : Nat) (l : List Value) (H : Code → List Fr → AS → Prop) (Post : List Value → Nat → Nat → Prop) : vcLF Tryz.prog noCall 153 [.slice none 0 0, .int .i64 k, .int .u64 v] [(5, [0, 2, 7, 8]), (9, [0, 2, 9])] 9 (stV [(0, some (.slice (some ⟨0, 0, none⟩) n 1)), (2, some (.int .u64 v)), (9, some (.int .i64 s))] [(0, some (.cells l true))] 1) H Post = (True ∧ True ∧ pIf (decide (s ≥ 0)) (True ∧ True ∧ True ∧ 0 ≤ s ∧ True ∧ True ∧ 1 ≤ 1 ∧ n + 1 ≤ 1048576 ∧ true = true ∧ 1 = 1 ∧ 0 + n * 1 = List.length l ∧ True ∧ True ∧ True ∧ True ∧ True ∧ (NLs (l ++ [Value.int IntKind.u8 (IntKind.wrap IntKind.u8 (Int.fdiv v (2 ^ min (Int.toNat s) 64)))]) ∧ True) ∧ H (lpC Tryz.prog 153 9) (lpK Tryz.prog 153 9) (stV [(0, some (Value.slice (some (Addr.mk 0 0 none)) (n + 1) 1)), (2, some (Value.int IntKind.u64 v)), (9, some (Value.int IntKind.i64 (IntKind.wrap IntKind.i64 (s - 8))))] [(0, some (AObj.cells (l ++ [Value.int IntKind.u8 (IntKind.wrap IntKind.u8 (Int.fdiv v (2 ^ min (Int.toNat s) 64)))]) true))] 1)) (True ∧ True ∧ (0 + n * 1 = List.length l ∧ NLs l) ∧ Post l n 1)) := by kernel_rfl

theorem b8_wrap (n : Nat) : Value.int .u8 (IntKind.u8.wrap (n : Int)) = b8 (UInt8.ofNat n) := by rw [wrapU8]; rfl
theorem b8_or {k v : Nat} (hk : k < 8) (hv : v < 32) : Value.int .u8 (IntKind.u8.wrap (((BitVec.ofInt 8 ((32 * k : Nat) : Int) ||| BitVec.ofInt 8 ((v : Nat) : Int)).toNat : Nat) : Int)) = b8 (UInt8.ofNat (32 * k + v)) := by
  rw [orBytes k hk v hv, b8_wrap]
def OkH (k v : Nat) (r : Nat) (Post : List Value → Nat → Nat → Prop) (st : AS) : Prop := OkF Tryz.prog 153 [.slice none 0 0, .int .i64 k, .int .u64 v] Post (lpC Tryz.prog 153 r) (lpK Tryz.prog 153 r) st
/-- The second loop: the bytes of the number. -/
theorem head_bytes (k v : Nat) (Post : List Value → Nat → Nat → Prop) : ∀ (j : Nat) (s : Int) (n : Nat) (l : List UInt8), j ≤ 8 → s = 8 * (j : Int) - 8 → n = l.length → n + j ≤ 9 → Post (cellsB (l ++ be j v)) (n + j) 1 →
    OkH k v 9 Post (stV [(0, some (.slice (some ⟨0, 0, none⟩) n 1)), (2, some (.int .u64 v)), (9, some (.int .i64 s))] [(0, some (.cells (cellsB l) true))] 1) := by
  intro j
  induction j with
  | zero =>
    intro s n l _ hs hn _ h
    refine ok_F (vc := noCall) noCall_ok mixed _ (l_head9 k v s n (cellsB l) _ _) ?_
    simp only [true_and, pIf_iff, decide_eq_true_eq, decide_eq_false_iff_not]
    refine ⟨fun h' => by omega, fun _ => ⟨⟨by rw [cellsB_len]; omega, nls_cellsB l⟩, ?_⟩⟩
    simpa [be] using h
  | succ j ih =>
    intro s n l hj hs hn hm h
    refine ok_F (vc := noCall) noCall_ok mixed _ (l_head9 k v s n (cellsB l) _ _) ?_
    have hs' : s = ((8 * j : Nat) : Int) := by omega
    subst hs'
    have e1 : IntKind.i64.wrap (((8 * j : Nat) : Int) - 8) = 8 * (j : Int) - 8 := by rw [wrap64 (by omega) (by omega)]; omega
    have e2 : Value.int .u8 (IntKind.u8.wrap (Int.fdiv (v : Int) (2 ^ min (((8 * j : Nat) : Int).toNat) 64))) = b8 (UInt8.ofNat (v / 256 ^ j)) := by
      rw [fdivNat', b8_wrap, Nat.min_eq_left (by omega), Nat.pow_mul]
    have e3 : cellsB l ++ [b8 (UInt8.ofNat (v / 256 ^ j))] = cellsB (l ++ [UInt8.ofNat (v / 256 ^ j)]) := by simp [cellsB]
    simp only [e2, e3, e1]
    simp only [true_and, pIf_iff, decide_eq_true_eq, decide_eq_false_iff_not]
    refine ⟨fun _ => ⟨by omega, by omega, by omega, by rw [cellsB_len]; omega, ⟨nls_cellsB _, trivial⟩, ?_⟩, fun h' => by omega⟩
    refine ih _ _ _ (by omega) rfl (by simp [hn]) (by omega) ?_
    rw [List.append_assoc, show n + 1 + j = n + (j + 1) by omega]
    exact h
/-- The first loop, at each of its rounds. -/
theorem head_size (k v : Nat) (hk : k < 8) (hv : v < 18446744073709551616) (hv24 : 24 ≤ v) (Post : List Value → Nat → Nat → Prop) (h : Post (cellsB (hd k v)) (hd k v).length 1) : ∀ (j s : Nat), s + j = 3 → (s = 0 ∨ (s = 1 ∧ 256 ≤ v) ∨ (s = 2 ∧ 65536 ≤ v) ∨ (s = 3 ∧ 4294967296 ≤ v)) →
    OkH k v 5 Post (stV [(0, some (.slice none 0 0)), (2, some (.int .u64 v)), (7, some (.int .u8 ((32 * k : Nat) : Int))), (8, some (.int .i64 s))] [] 0) := by
  have last : ∀ s : Nat, s ≤ 3 → hd k v = UInt8.ofNat (32 * k + (24 + s)) :: be (2 ^ s) v → OkH k v 9 Post (stV [(0, some (.slice (some ⟨0, 0, none⟩) 1 1)), (2, some (.int .u64 v)), (9, some (.int .i64 (IntKind.i64.wrap (IntKind.i64.wrap (8 * 2 ^ min ((s : Int).toNat) 64) - 8))))] [(0, some (.cells [.int .u8 (IntKind.u8.wrap (((BitVec.ofInt 8 ((32 * k : Nat) : Int) ||| BitVec.ofInt 8 (IntKind.u8.wrap (IntKind.i64.wrap (24 + (s : Int))))).toNat : Nat) : Int))] true))] 1) := by
    intro s hs he
    have e1 : IntKind.i64.wrap (24 + (s : Int)) = ((24 + s : Nat) : Int) := by rw [wrap64 (by omega) (by omega)]; omega
    have e2 : Value.int .u8 (IntKind.u8.wrap (((BitVec.ofInt 8 ((32 * k : Nat) : Int) ||| BitVec.ofInt 8 (IntKind.u8.wrap (IntKind.i64.wrap (24 + (s : Int))))).toNat : Nat) : Int)) = b8 (UInt8.ofNat (32 * k + (24 + s))) := by
      rw [e1, wrapU8s (n := 24 + s) (by omega), b8_or hk (by omega)]
    rw [e2]
    refine head_bytes k v Post (2 ^ s) _ 1 [UInt8.ofNat (32 * k + (24 + s))] ?_ ?_ rfl ?_ ?_
    · have : s = 0 ∨ s = 1 ∨ s = 2 ∨ s = 3 := by omega
      rcases this with rfl | rfl | rfl | rfl <;> decide
    · have : s = 0 ∨ s = 1 ∨ s = 2 ∨ s = 3 := by omega
      rcases this with rfl | rfl | rfl | rfl <;> decide
    · have : s = 0 ∨ s = 1 ∨ s = 2 ∨ s = 3 := by omega
      rcases this with rfl | rfl | rfl | rfl <;> decide
    · rw [he] at h
      rw [List.length_cons, be_len, Nat.add_comm (2 ^ s) 1] at h
      exact h
  have shift : ∀ s : Nat, s < 3 → Int.fdiv (v : Int) (2 ^ min (IntKind.u64.wrap (8 * 2 ^ min ((s : Int).toNat) 64)).toNat 64) = ((v / 2 ^ (8 * 2 ^ s) : Nat) : Int) := by
    intro s hs
    have : s = 0 ∨ s = 1 ∨ s = 2 := by omega
    rcases this with rfl | rfl | rfl <;> exact fdivNat v _
  have pos : ∀ s : Nat, s < 3 → 0 ≤ IntKind.u64.wrap (8 * 2 ^ min ((s : Int).toNat) 64) := by
    intro s hs
    have : s = 0 ∨ s = 1 ∨ s = 2 := by omega
    rcases this with rfl | rfl | rfl <;> decide
  intro j
  induction j with
  | zero =>
    intro s hs hc
    have h3 : s = 3 := by omega
    subst h3
    refine ok_F (vc := noCall) noCall_ok mixed _ (l_head5 k v _ _ _ _) ?_
    simp only [true_and, pIf_iff, decide_eq_true_eq, decide_eq_false_iff_not]
    refine ⟨fun h' => by omega, fun _ => ⟨by omega, by omega, by omega, ⟨?_, trivial⟩, ?_⟩⟩
    · intro u hu
      simp at hu
      subst hu
      rfl
    · refine last 3 (by omega) ?_
      unfold hd
      rw [if_neg (by omega), if_neg (by omega), if_neg (by omega), if_neg (by omega)]
  | succ j ih =>
    intro s hs hc
    refine ok_F (vc := noCall) noCall_ok mixed _ (l_head5 k v _ _ _ _) ?_
    simp only [true_and, pIf_iff, decide_eq_true_eq, decide_eq_false_iff_not, Bool.not_eq_true', Bool.not_eq_false']
    refine ⟨fun _ => ⟨by omega, pos s (by omega), fun h' => ?_, fun h' => ⟨by omega, by omega, by omega, ⟨?_, trivial⟩, ?_⟩⟩, fun h' => by omega⟩
    · rw [shift s (by omega)] at h'
      rw [wrap64 (by omega) (by omega), show (s : Int) + 1 = ((s + 1 : Nat) : Int) by omega]
      refine ih (s + 1) (by omega) ?_
      have : s = 0 ∨ s = 1 ∨ s = 2 := by omega
      rcases this with rfl | rfl | rfl
      · have : v / 256 ≠ 0 := fun e => h' (by show ((v / 256 : Nat) : Int) = 0; omega)
        omega
      · have : v / 65536 ≠ 0 := fun e => h' (by show ((v / 65536 : Nat) : Int) = 0; omega)
        omega
      · have : v / 4294967296 ≠ 0 := fun e => h' (by show ((v / 4294967296 : Nat) : Int) = 0; omega)
        omega
    · intro u hu
      simp at hu
      subst hu
      rfl
    · rw [shift s (by omega)] at h'
      refine last s (by omega) ?_
      unfold hd
      have : s = 0 ∨ s = 1 ∨ s = 2 := by omega
      rcases this with rfl | rfl | rfl
      · have : ((v / 256 : Nat) : Int) = 0 := h'
        rw [if_neg (by omega), if_pos (by omega)]
      · have : ((v / 65536 : Nat) : Int) = 0 := h'
        rw [if_neg (by omega), if_neg (by omega), if_pos (by omega)]
      · have : ((v / 4294967296 : Nat) : Int) = 0 := h'
        rw [if_neg (by omega), if_neg (by omega), if_neg (by omega), if_pos (by omega)]
def c_head (args : List Value) (Post : List Value → Nat → Nat → Prop) : Prop := ∃ k v : Nat, args = [.slice none 0 0, .int .i64 k, .int .u64 v] ∧ k < 8 ∧ v < 18446744073709551616 ∧ Post (cellsB (hd k v)) (hd k v).length 1
theorem ok_head : FEntOk Tryz.prog ⟨153, c_head⟩ := by
  rintro args Post ⟨k, v, rfl, hk, hv, h⟩
  refine pure_F (vc := noCall) noCall_ok mixed (by kernel_rfl) (by kernel_rfl) _ (e_head k v _ _) ?_
  simp only [true_and, pIf_iff, decide_eq_true_eq, decide_eq_false_iff_not, shl5 hk]
  refine ⟨by decide, fun h' => ?_, fun h' => ?_⟩
  · have e : Value.int .u8 (IntKind.u8.wrap (((BitVec.ofInt 8 ((32 * k : Nat) : Int) ||| BitVec.ofInt 8 (IntKind.u8.wrap ((v : Nat) : Int))).toNat : Nat) : Int)) = b8 (UInt8.ofNat (32 * k + v)) := by
      rw [wrapU8s (n := v) (by omega), b8_or hk (by omega)]
    rw [e]
    have e2 : hd k v = [UInt8.ofNat (32 * k + v)] := by unfold hd; rw [if_pos (by omega)]
    rw [e2] at h
    exact ⟨by omega, by omega, nls_cellsB [_], h⟩
  · exact head_size k v hk hv (by omega) Post h 3 0 rfl (.inl rfl)
end Go.Proofs.YtngginofamlkkaaGreatDoor
noncomputable section
namespace Go.Proofs.YtngginofamlkkaaGreatDoor
open Go Go.RowKit
set_option maxRecDepth 100000
/-- Bytes as a string. -/
def str (l : List UInt8) : ByteArray := ⟨l.toArray⟩
def bInt (n : Int) : ByteArray := if n < 0 then str (hd 1 (-1 - n).toNat) else str (hd 0 n.toNat)
def bText (s : ByteArray) : ByteArray := str (hd 2 s.size) ++ s
def bList (n : Nat) : ByteArray := str (hd 4 n)
theorem ba_ext {a b : ByteArray} (h : a.data.toList = b.data.toList) : a = b := by
  cases a; cases b; congr 1; exact Array.toList_inj.1 h
theorem str_app (a b : List UInt8) : str a ++ str b = str (a ++ b) := ba_ext (by simp [str])
theorem str_size (l : List UInt8) : (str l).size = l.length := by simp [str, ByteArray.size]
theorem str_data (s : ByteArray) : str s.data.toList = s := ba_ext (by simp [str])
theorem hd_len (k v : Nat) : (hd k v).length ≤ 9 := by
  unfold hd
  split
  · simp
  split
  · simp [be_len]
  split
  · simp [be_len]
  split
  · simp [be_len]
  · simp [be_len]
theorem byteCells_eq (s : ByteArray) : (byteCells s).toList = cellsB s.data.toList := by
  unfold byteCells cellsB b8
  simp
theorem take_all {l : List UInt8} : (cellsB l).take l.length = cellsB l := List.take_of_length_le (by rw [cellsB_len]; exact Nat.le_refl _)
theorem not64 {n : Int} (h1 : -9223372036854775808 ≤ n) (h2 : n < 0) : IntKind.u64.wrap (IntKind.i64.wrap (((BitVec.ofInt 64 (if IntKind.signed IntKind.i64 = true then -1 else IntKind.max IntKind.i64) ^^^ BitVec.ofInt 64 n).toNat : Nat) : Int)) = (((-1 - n).toNat : Nat) : Int) := by
  have e0 : (BitVec.ofInt 64 (if IntKind.signed IntKind.i64 = true then -1 else IntKind.max IntKind.i64)) = BitVec.allOnes 64 := by decide
  rw [e0, BitVec.allOnes_xor]
  have e1 : (~~~ BitVec.ofInt 64 n).toNat = (-1 - n).toNat := by
    rw [BitVec.toNat_not, BitVec.toNat_ofInt]
    omega
  rw [e1, wrap64 (by omega) (by omega), wrapU64 (by omega)]
theorem all_single (l : List UInt8) : (cellsB l).all single = true := List.all_eq_true.2 fun v hv => by
  obtain ⟨x, _, rfl⟩ := List.mem_map.1 hv
  rfl
def tabH : List FEnt := [⟨153, c_head⟩]
def callH : VCall := ftabCall tabH noCall
theorem e_cInt (n : Int) (H : Code → List Fr → AS → Prop) (Post : Value → Prop) : vcP Tryz.prog callH 154 [] [.int .i64 n] H Post = (True ∧ True ∧ True ∧ pIf (decide (n < 0)) (True ∧ True ∧ True ∧ ∃ (k : Nat), ∃ (v : Nat), eqL [Value.slice none 0 0, Value.int IntKind.i64 1, Value.int IntKind.u64 (IntKind.wrap IntKind.u64 (IntKind.wrap IntKind.i64 (↑(BitVec.toNat (BitVec.ofInt 64 (if IntKind.signed IntKind.i64 = true then -1 else IntKind.max IntKind.i64) ^^^ BitVec.ofInt 64 n)) : Int)))] [Value.slice none 0 0, Value.int IntKind.i64 (↑k : Int), Value.int IntKind.u64 (↑v : Int)] ∧ k < 8 ∧ v < 18446744073709551616 ∧ (0 + List.length (hd k v) ≤ List.length (cellsB (hd k v)) ∧ AllU8 (List.take (List.length (hd k v)) (List.drop 0 (cellsB (hd k v))))) ∧ True ∧ True ∧ Post (Value.string (bytesL (List.take (List.length (hd k v)) (List.drop 0 (cellsB (hd k v))))))) (True ∧ True ∧ ∃ (k : Nat), ∃ (v : Nat), eqL [Value.slice none 0 0, Value.int IntKind.i64 0, Value.int IntKind.u64 (IntKind.wrap IntKind.u64 n)] [Value.slice none 0 0, Value.int IntKind.i64 (↑k : Int), Value.int IntKind.u64 (↑v : Int)] ∧ k < 8 ∧ v < 18446744073709551616 ∧ (0 + List.length (hd k v) ≤ List.length (cellsB (hd k v)) ∧ AllU8 (List.take (List.length (hd k v)) (List.drop 0 (cellsB (hd k v))))) ∧ True ∧ True ∧ Post (Value.string (bytesL (List.take (List.length (hd k v)) (List.drop 0 (cellsB (hd k v)))))))) := by kernel_rfl
theorem e_cText (s : ByteArray) (H : Code → List Fr → AS → Prop) (Post : Value → Prop) : vcP Tryz.prog callH 76 [] [.string s] H Post = (True ∧ True ∧ True ∧ True ∧ ∃ (k : Nat), ∃ (v : Nat), eqL [Value.slice none 0 0, Value.int IntKind.i64 2, Value.int IntKind.u64 (IntKind.wrap IntKind.u64 (↑(ByteArray.size s) : Int))] [Value.slice none 0 0, Value.int IntKind.i64 (↑k : Int), Value.int IntKind.u64 (↑v : Int)] ∧ k < 8 ∧ v < 18446744073709551616 ∧ True ∧ True ∧ pIf (Nat.beq (ByteArray.size s) 0) (true = true ∧ (0 + List.length (hd k v) ≤ List.length (cellsB (hd k v)) ∧ AllU8 (List.take (List.length (hd k v)) (List.drop 0 (cellsB (hd k v))))) ∧ True ∧ True ∧ Post (Value.string (bytesL (List.take (List.length (hd k v)) (List.drop 0 (cellsB (hd k v))))))) (List.length (hd k v) + ByteArray.size s ≤ 1048576 ∧ List.all (Array.toList (byteCells s)) single = true ∧ List.length (Array.toList (byteCells s)) = ByteArray.size s * 1 ∧ 0 + List.length (hd k v) * 1 = List.length (cellsB (hd k v)) ∧ (0 + (List.length (hd k v) + ByteArray.size s) ≤ List.length (List.drop 0 (cellsB (hd k v)) ++ Array.toList (byteCells s)) ∧ AllU8 (List.take (List.length (hd k v) + ByteArray.size s) (List.drop 0 (List.drop 0 (cellsB (hd k v)) ++ Array.toList (byteCells s))))) ∧ True ∧ True ∧ Post (Value.string (bytesL (List.take (List.length (hd k v) + ByteArray.size s) (List.drop 0 (List.drop 0 (cellsB (hd k v)) ++ Array.toList (byteCells s)))))))) := by kernel_rfl
theorem e_cList (n : Int) (H : Code → List Fr → AS → Prop) (Post : Value → Prop) : vcP Tryz.prog callH 79 [] [.int .i64 n] H Post = (True ∧ True ∧ True ∧ pIf (decide (n < 0)) (True ∧ True ∧ Post (Value.string (ByteArray.mk #[]))) (True ∧ True ∧ ∃ (k : Nat), ∃ (v : Nat), eqL [Value.slice none 0 0, Value.int IntKind.i64 4, Value.int IntKind.u64 (IntKind.wrap IntKind.u64 n)] [Value.slice none 0 0, Value.int IntKind.i64 (↑k : Int), Value.int IntKind.u64 (↑v : Int)] ∧ k < 8 ∧ v < 18446744073709551616 ∧ (0 + List.length (hd k v) ≤ List.length (cellsB (hd k v)) ∧ AllU8 (List.take (List.length (hd k v)) (List.drop 0 (cellsB (hd k v))))) ∧ True ∧ True ∧ Post (Value.string (bytesL (List.take (List.length (hd k v)) (List.drop 0 (cellsB (hd k v)))))))) := by kernel_rfl
theorem e_bytes (v n : Int) (H : Code → List Fr → AS → Prop) (Post : Value → Prop) : vcP Tryz.prog noCall 215 [(3, [0, 1, 5, 6])] [.int .u64 v, .int .i64 n] H Post = (True ∧ True ∧ True ∧ True ∧ True ∧ H (lpC Tryz.prog 215 3) (lpK Tryz.prog 215 3) (stV [(0, some (Value.int IntKind.u64 v)), (1, some (Value.int IntKind.i64 n)), (5, some (Value.string (ByteArray.mk #[]))), (6, some (Value.int IntKind.i64 0))] [] 0)) := by kernel_rfl
theorem l_bytes (v n i : Int) (s : ByteArray) (H : Code → List Fr → AS → Prop) (Post : Value → Prop) : vcLP Tryz.prog noCall 215 [.int .u64 v, .int .i64 n] [(3, [0, 1, 5, 6])] 3 (stV [(0, some (.int .u64 v)), (1, some (.int .i64 n)), (5, some (.string s)), (6, some (.int .i64 i))] [] 0) H Post = (True ∧ True ∧ True ∧ pIf (decide (i < n)) (True ∧ (toI (Value.int IntKind.i64 256) = 0 → False) ∧ True ∧ True ∧ (1 ≤ 1 ∧ AllU8 [Value.int IntKind.u8 (IntKind.wrap IntKind.u8 (Int.tmod v 256))]) ∧ True ∧ ByteArray.size (bytesL [Value.int IntKind.u8 (IntKind.wrap IntKind.u8 (Int.tmod v 256))]) + ByteArray.size s ≤ 9223372036854775807 ∧ True ∧ True ∧ (toI (Value.int IntKind.i64 256) = 0 → False) ∧ True ∧ True ∧ True ∧ True ∧ True ∧ True ∧ H (lpC Tryz.prog 215 3) (lpK Tryz.prog 215 3) (stV [(0, some (Value.int IntKind.u64 (IntKind.wrap IntKind.u64 (Int.tdiv v 256)))), (1, some (Value.int IntKind.i64 n)), (5, some (Value.string (bytesL [Value.int IntKind.u8 (IntKind.wrap IntKind.u8 (Int.tmod v 256))] ++ s))), (6, some (Value.int IntKind.i64 (IntKind.wrap IntKind.i64 (i + 1))))] [] 0)) (True ∧ True ∧ True ∧ Post (Value.string s))) := by kernel_rfl
def c_cInt (args : List Value) (Post : Value → Prop) : Prop := ∃ n : Int, args = [.int .i64 n] ∧ (-9223372036854775808 ≤ n ∧ n < 9223372036854775808) ∧ Post (.string (bInt n))
def c_cText (args : List Value) (Post : Value → Prop) : Prop := ∃ s : ByteArray, args = [.string s] ∧ s.size ≤ 1000000 ∧ Post (.string (bText s))
def c_cList (args : List Value) (Post : Value → Prop) : Prop := ∃ n : Nat, args = [.int .i64 n] ∧ n < 9223372036854775808 ∧ Post (.string (bList n))
theorem callH_ok : VCallOk Tryz.prog callH := ftabCall_ok (by
  intro e he
  simp only [tabH, List.mem_cons, List.not_mem_nil, or_false] at he
  rcases he with rfl
  exact ok_head) noCall_ok
theorem ok_cInt : EntOk Tryz.prog ⟨154, c_cInt⟩ := by
  rintro args Post ⟨n, rfl, ⟨h1, h2⟩, h⟩
  refine pure_P (vc := callH) callH_ok mixed (by kernel_rfl) (by kernel_rfl) _ (e_cInt n _ _) ?_
  simp only [true_and, pIf_iff, decide_eq_true_eq, decide_eq_false_iff_not, List.drop_zero, take_all, Nat.zero_add, bytesL_cellsB]
  refine ⟨fun h' => ⟨1, (-1 - n).toNat, ?_, by omega, by omega, ⟨by rw [cellsB_len]; exact Nat.le_refl _, allU8_cellsB _⟩, ?_⟩, fun h' => ⟨0, n.toNat, ?_, by omega, by omega, ⟨by rw [cellsB_len]; exact Nat.le_refl _, allU8_cellsB _⟩, ?_⟩⟩
  · rw [not64 h1 h']; rfl
  · unfold bInt at h; rwa [if_pos h'] at h
  · rw [show n = ((n.toNat : Nat) : Int) by omega, wrapU64 (by omega)]; rfl
  · unfold bInt at h; rwa [if_neg h'] at h
theorem ok_cList : EntOk Tryz.prog ⟨79, c_cList⟩ := by
  rintro args Post ⟨n, rfl, h1, h⟩
  refine pure_P (vc := callH) callH_ok mixed (by kernel_rfl) (by kernel_rfl) _ (e_cList n _ _) ?_
  simp only [true_and, pIf_iff, decide_eq_true_eq, decide_eq_false_iff_not, List.drop_zero, take_all, Nat.zero_add, bytesL_cellsB]
  refine ⟨fun h' => by omega, fun h' => ⟨4, n, ?_, by omega, by omega, ⟨by rw [cellsB_len]; exact Nat.le_refl _, allU8_cellsB _⟩, h⟩⟩
  rw [wrapU64 (by omega)]; rfl
theorem ok_cText : EntOk Tryz.prog ⟨76, c_cText⟩ := by
  rintro args Post ⟨s, rfl, h1, h⟩
  refine pure_P (vc := callH) callH_ok mixed (by kernel_rfl) (by kernel_rfl) _ (e_cText s _ _) ?_
  have hl := hd_len 2 s.size
  have hsz : s.data.toList.length = s.size := rfl
  have key : cellsB (hd 2 s.size) ++ cellsB s.data.toList = cellsB (hd 2 s.size ++ s.data.toList) := by simp [cellsB]
  have key2 : (hd 2 s.size).length + s.size = (hd 2 s.size ++ s.data.toList).length := by rw [List.length_append, hsz]
  simp only [true_and]
  refine ⟨2, s.size, ?_, by omega, by omega, ?_⟩
  · rw [wrapU64 (by omega)]; rfl
  · simp only [true_and, pIf_iff, List.drop_zero, Nat.zero_add, byteCells_eq, key, key2, take_all, bytesL_cellsB, cellsB_len, Nat.mul_one, hsz, all_single]
    have fin : bText s = ⟨(hd 2 s.size ++ s.data.toList).toArray⟩ := by
      unfold bText
      conv => lhs; rw [← str_data s]
      rw [str_app, str_data]
      rfl
    refine ⟨fun h' => ⟨⟨Nat.le_refl _, allU8_cellsB _⟩, ?_⟩, fun h' => ⟨by rw [← key2]; omega, ⟨Nat.le_refl _, allU8_cellsB _⟩, ?_⟩⟩
    · have h0 : s.data.toList = [] := List.eq_nil_of_length_eq_zero (Nat.eq_of_beq_eq_true h')
      rw [fin, h0, List.append_nil] at h
      exact h
    · rw [fin] at h
      exact h
theorem tmod256 (v : Nat) : Int.tmod (v : Int) 256 = ((v % 256 : Nat) : Int) := by
  rw [Int.tmod_eq_emod_of_nonneg (by omega)]; omega
theorem tdiv256 (v : Nat) : Int.tdiv (v : Int) 256 = ((v / 256 : Nat) : Int) := by
  rw [Int.tdiv_eq_ediv_of_nonneg (by omega)]; omega
theorem u8mod (n : Nat) : UInt8.ofNat (n % 256) = UInt8.ofNat n := by
  apply UInt8.toNat_inj.1
  simp
def c_rbytes (args : List Value) (Post : Value → Prop) : Prop := ∃ v n : Nat, args = [.int .u64 v, .int .i64 n] ∧ v < 18446744073709551616 ∧ n ≤ 8 ∧ Post (.string (str (be n v)))
theorem ok_rbytes : EntOk Tryz.prog ⟨215, c_rbytes⟩ := by
  rintro args Post ⟨v, n, rfl, hv, hn, h⟩
  refine pure_P (vc := noCall) noCall_ok mixed (by kernel_rfl) (by kernel_rfl) _ (e_bytes v n _ _) ?_
  simp only [true_and]
  refine down (n := n) (p := fun i => OkP 215 [.int .u64 v, .int .i64 n] 3 Post (stV [(0, some (.int .u64 (v / 256 ^ i : Nat))), (1, some (.int .i64 n)), (5, some (.string (str (be i v)))), (6, some (.int .i64 i))] [] 0)) ?_ (fun i hi ih => ?_) |> fun q => by simpa [be, str] using q
  · refine ok_P (vc := noCall) noCall_ok mixed _ (l_bytes _ _ _ _ _ _) ?_
    simp only [true_and, pIf_iff, decide_eq_true_eq, decide_eq_false_iff_not]
    exact ⟨fun h' => by omega, fun _ => h⟩
  · refine ok_P (vc := noCall) noCall_ok mixed _ (l_bytes _ _ _ _ _ _) ?_
    have hlt : v / 256 ^ i < 18446744073709551616 := Nat.lt_of_le_of_lt (Nat.div_le_self _ _) hv
    have e1 : Value.int .u8 (IntKind.u8.wrap (Int.tmod ((v / 256 ^ i : Nat) : Int) 256)) = b8 (UInt8.ofNat (v / 256 ^ i)) := by rw [tmod256, b8_wrap, u8mod]
    have e2 : bytesL [b8 (UInt8.ofNat (v / 256 ^ i))] ++ str (be i v) = str (be (i + 1) v) := by
      rw [show [b8 (UInt8.ofNat (v / 256 ^ i))] = cellsB [UInt8.ofNat (v / 256 ^ i)] from rfl, bytesL_cellsB]
      exact str_app [_] _
    have e3 : IntKind.u64.wrap (Int.tdiv ((v / 256 ^ i : Nat) : Int) 256) = ((v / 256 ^ (i + 1) : Nat) : Int) := by
      rw [tdiv256, wrapU64 (by omega), Nat.div_div_eq_div_mul, Nat.pow_succ]
    have e4 : IntKind.i64.wrap ((i : Int) + 1) = ((i + 1 : Nat) : Int) := wrapSucc (by omega)
    simp only [e1, e2, e3, e4]
    simp only [true_and, pIf_iff, decide_eq_true_eq, decide_eq_false_iff_not, toI]
    refine ⟨fun _ => ⟨by decide, ⟨Nat.le_refl _, allU8_cellsB [_]⟩, ?_, by decide, ih⟩, fun h' => by omega⟩
    rw [str_size, be_len]
    have : (bytesL [b8 (UInt8.ofNat (v / 256 ^ i))]).size = 1 := rfl
    omega
def tabR5 : List Ent := [⟨215, c_rbytes⟩]
theorem tabR5_ok : VCallOk Tryz.prog (tabCall tabR5 noCall) := tabCall_ok (by
  intro e he
  simp only [tabR5, List.mem_cons, List.not_mem_nil, or_false] at he
  rcases he with rfl
  exact ok_rbytes) noCall_ok
end Go.Proofs.YtngginofamlkkaaGreatDoor
noncomputable section
namespace Go.Proofs.YtngginofamlkkaaGreatDoor
open Go Go.RowKit
set_option maxRecDepth 100000
theorem e_rhead (k v : Int) (H : Code → List Fr → AS → Prop) (Post : Value → Prop) : vcP Tryz.prog (tabCall tabR5 noCall) 155 [] [.int .i64 k, .int .u64 v] H Post = (True ∧ True ∧ True ∧ True ∧ True ∧ pIf (decide (v < 24)) (True ∧ True ∧ True ∧ True ∧ True ∧ ∃ (v_1 : Nat), ∃ (n : Nat), eqL [Value.int IntKind.u64 (IntKind.wrap IntKind.u64 (IntKind.wrap IntKind.u64 (IntKind.wrap IntKind.i64 (32 * k)) + v)), Value.int IntKind.i64 1] [Value.int IntKind.u64 (↑v_1 : Int), Value.int IntKind.i64 (↑n : Int)] ∧ v_1 < 18446744073709551616 ∧ n ≤ 8 ∧ True ∧ True ∧ Post (Value.string (str (be n v_1)))) (True ∧ True ∧ pIf (decide (v > 255)) (True ∧ True ∧ True ∧ True ∧ pIf (decide (v > 65535)) (True ∧ True ∧ True ∧ True ∧ pIf (decide (v > 4294967295)) (True ∧ True ∧ True ∧ True ∧ True ∧ True ∧ True ∧ ∃ (v_1 : Nat), ∃ (n : Nat), eqL [Value.int IntKind.u64 (IntKind.wrap IntKind.u64 (IntKind.wrap IntKind.i64 (IntKind.wrap IntKind.i64 (32 * k) + 27))), Value.int IntKind.i64 1] [Value.int IntKind.u64 (↑v_1 : Int), Value.int IntKind.i64 (↑n : Int)] ∧ v_1 < 18446744073709551616 ∧ n ≤ 8 ∧ True ∧ True ∧ ∃ (v_2 : Nat), ∃ (n_1 : Nat), eqL [Value.int IntKind.u64 v, Value.int IntKind.i64 8] [Value.int IntKind.u64 (↑v_2 : Int), Value.int IntKind.i64 (↑n_1 : Int)] ∧ v_2 < 18446744073709551616 ∧ n_1 ≤ 8 ∧ ByteArray.size (str (be n v_1)) + ByteArray.size (str (be n_1 v_2)) ≤ 9223372036854775807 ∧ True ∧ True ∧ Post (Value.string (str (be n v_1) ++ str (be n_1 v_2)))) (True ∧ True ∧ True ∧ True ∧ True ∧ ∃ (v_1 : Nat), ∃ (n : Nat), eqL [Value.int IntKind.u64 (IntKind.wrap IntKind.u64 (IntKind.wrap IntKind.i64 (IntKind.wrap IntKind.i64 (32 * k) + 26))), Value.int IntKind.i64 1] [Value.int IntKind.u64 (↑v_1 : Int), Value.int IntKind.i64 (↑n : Int)] ∧ v_1 < 18446744073709551616 ∧ n ≤ 8 ∧ True ∧ True ∧ ∃ (v_2 : Nat), ∃ (n_1 : Nat), eqL [Value.int IntKind.u64 v, Value.int IntKind.i64 4] [Value.int IntKind.u64 (↑v_2 : Int), Value.int IntKind.i64 (↑n_1 : Int)] ∧ v_2 < 18446744073709551616 ∧ n_1 ≤ 8 ∧ ByteArray.size (str (be n v_1)) + ByteArray.size (str (be n_1 v_2)) ≤ 9223372036854775807 ∧ True ∧ True ∧ Post (Value.string (str (be n v_1) ++ str (be n_1 v_2))))) (True ∧ True ∧ pIf (decide (v > 4294967295)) (True ∧ True ∧ True ∧ True ∧ True ∧ True ∧ True ∧ ∃ (v_1 : Nat), ∃ (n : Nat), eqL [Value.int IntKind.u64 (IntKind.wrap IntKind.u64 (IntKind.wrap IntKind.i64 (IntKind.wrap IntKind.i64 (32 * k) + 27))), Value.int IntKind.i64 1] [Value.int IntKind.u64 (↑v_1 : Int), Value.int IntKind.i64 (↑n : Int)] ∧ v_1 < 18446744073709551616 ∧ n ≤ 8 ∧ True ∧ True ∧ ∃ (v_2 : Nat), ∃ (n_1 : Nat), eqL [Value.int IntKind.u64 v, Value.int IntKind.i64 8] [Value.int IntKind.u64 (↑v_2 : Int), Value.int IntKind.i64 (↑n_1 : Int)] ∧ v_2 < 18446744073709551616 ∧ n_1 ≤ 8 ∧ ByteArray.size (str (be n v_1)) + ByteArray.size (str (be n_1 v_2)) ≤ 9223372036854775807 ∧ True ∧ True ∧ Post (Value.string (str (be n v_1) ++ str (be n_1 v_2)))) (True ∧ True ∧ True ∧ True ∧ True ∧ ∃ (v_1 : Nat), ∃ (n : Nat), eqL [Value.int IntKind.u64 (IntKind.wrap IntKind.u64 (IntKind.wrap IntKind.i64 (IntKind.wrap IntKind.i64 (32 * k) + 25))), Value.int IntKind.i64 1] [Value.int IntKind.u64 (↑v_1 : Int), Value.int IntKind.i64 (↑n : Int)] ∧ v_1 < 18446744073709551616 ∧ n ≤ 8 ∧ True ∧ True ∧ ∃ (v_2 : Nat), ∃ (n_1 : Nat), eqL [Value.int IntKind.u64 v, Value.int IntKind.i64 2] [Value.int IntKind.u64 (↑v_2 : Int), Value.int IntKind.i64 (↑n_1 : Int)] ∧ v_2 < 18446744073709551616 ∧ n_1 ≤ 8 ∧ ByteArray.size (str (be n v_1)) + ByteArray.size (str (be n_1 v_2)) ≤ 9223372036854775807 ∧ True ∧ True ∧ Post (Value.string (str (be n v_1) ++ str (be n_1 v_2)))))) (True ∧ True ∧ pIf (decide (v > 65535)) (True ∧ True ∧ True ∧ True ∧ pIf (decide (v > 4294967295)) (True ∧ True ∧ True ∧ True ∧ True ∧ True ∧ True ∧ ∃ (v_1 : Nat), ∃ (n : Nat), eqL [Value.int IntKind.u64 (IntKind.wrap IntKind.u64 (IntKind.wrap IntKind.i64 (IntKind.wrap IntKind.i64 (32 * k) + 27))), Value.int IntKind.i64 1] [Value.int IntKind.u64 (↑v_1 : Int), Value.int IntKind.i64 (↑n : Int)] ∧ v_1 < 18446744073709551616 ∧ n ≤ 8 ∧ True ∧ True ∧ ∃ (v_2 : Nat), ∃ (n_1 : Nat), eqL [Value.int IntKind.u64 v, Value.int IntKind.i64 8] [Value.int IntKind.u64 (↑v_2 : Int), Value.int IntKind.i64 (↑n_1 : Int)] ∧ v_2 < 18446744073709551616 ∧ n_1 ≤ 8 ∧ ByteArray.size (str (be n v_1)) + ByteArray.size (str (be n_1 v_2)) ≤ 9223372036854775807 ∧ True ∧ True ∧ Post (Value.string (str (be n v_1) ++ str (be n_1 v_2)))) (True ∧ True ∧ True ∧ True ∧ True ∧ ∃ (v_1 : Nat), ∃ (n : Nat), eqL [Value.int IntKind.u64 (IntKind.wrap IntKind.u64 (IntKind.wrap IntKind.i64 (IntKind.wrap IntKind.i64 (32 * k) + 26))), Value.int IntKind.i64 1] [Value.int IntKind.u64 (↑v_1 : Int), Value.int IntKind.i64 (↑n : Int)] ∧ v_1 < 18446744073709551616 ∧ n ≤ 8 ∧ True ∧ True ∧ ∃ (v_2 : Nat), ∃ (n_1 : Nat), eqL [Value.int IntKind.u64 v, Value.int IntKind.i64 4] [Value.int IntKind.u64 (↑v_2 : Int), Value.int IntKind.i64 (↑n_1 : Int)] ∧ v_2 < 18446744073709551616 ∧ n_1 ≤ 8 ∧ ByteArray.size (str (be n v_1)) + ByteArray.size (str (be n_1 v_2)) ≤ 9223372036854775807 ∧ True ∧ True ∧ Post (Value.string (str (be n v_1) ++ str (be n_1 v_2))))) (True ∧ True ∧ pIf (decide (v > 4294967295)) (True ∧ True ∧ True ∧ True ∧ True ∧ True ∧ True ∧ ∃ (v_1 : Nat), ∃ (n : Nat), eqL [Value.int IntKind.u64 (IntKind.wrap IntKind.u64 (IntKind.wrap IntKind.i64 (IntKind.wrap IntKind.i64 (32 * k) + 27))), Value.int IntKind.i64 1] [Value.int IntKind.u64 (↑v_1 : Int), Value.int IntKind.i64 (↑n : Int)] ∧ v_1 < 18446744073709551616 ∧ n ≤ 8 ∧ True ∧ True ∧ ∃ (v_2 : Nat), ∃ (n_1 : Nat), eqL [Value.int IntKind.u64 v, Value.int IntKind.i64 8] [Value.int IntKind.u64 (↑v_2 : Int), Value.int IntKind.i64 (↑n_1 : Int)] ∧ v_2 < 18446744073709551616 ∧ n_1 ≤ 8 ∧ ByteArray.size (str (be n v_1)) + ByteArray.size (str (be n_1 v_2)) ≤ 9223372036854775807 ∧ True ∧ True ∧ Post (Value.string (str (be n v_1) ++ str (be n_1 v_2)))) (True ∧ True ∧ True ∧ True ∧ True ∧ ∃ (v_1 : Nat), ∃ (n : Nat), eqL [Value.int IntKind.u64 (IntKind.wrap IntKind.u64 (IntKind.wrap IntKind.i64 (IntKind.wrap IntKind.i64 (32 * k) + 24))), Value.int IntKind.i64 1] [Value.int IntKind.u64 (↑v_1 : Int), Value.int IntKind.i64 (↑n : Int)] ∧ v_1 < 18446744073709551616 ∧ n ≤ 8 ∧ True ∧ True ∧ ∃ (v_2 : Nat), ∃ (n_1 : Nat), eqL [Value.int IntKind.u64 v, Value.int IntKind.i64 1] [Value.int IntKind.u64 (↑v_2 : Int), Value.int IntKind.i64 (↑n_1 : Int)] ∧ v_2 < 18446744073709551616 ∧ n_1 ≤ 8 ∧ ByteArray.size (str (be n v_1)) + ByteArray.size (str (be n_1 v_2)) ≤ 9223372036854775807 ∧ True ∧ True ∧ Post (Value.string (str (be n v_1) ++ str (be n_1 v_2)))))))) := by kernel_rfl
def c_rhead (args : List Value) (Post : Value → Prop) : Prop := ∃ k v : Nat, args = [.int .i64 k, .int .u64 v] ∧ k < 8 ∧ v < 18446744073709551616 ∧ Post (.string (str (hd k v)))
theorem be_one (v : Nat) : be 1 v = [UInt8.ofNat v] := by simp [be]
theorem ok_rhead : EntOk Tryz.prog ⟨155, c_rhead⟩ := by
  rintro args Post ⟨k, v, rfl, hk, hv, h⟩
  refine pure_P (vc := tabCall tabR5 noCall) tabR5_ok mixed (by kernel_rfl) (by kernel_rfl) _ (e_rhead k v _ _) ?_
  have first : ∀ f : Nat, f < 32 → IntKind.u64.wrap (IntKind.i64.wrap (IntKind.i64.wrap (32 * (k : Int)) + (f : Int))) = ((32 * k + f : Nat) : Int) := by
    intro f hf
    rw [wrap64 (n := 32 * (k : Int)) (by omega) (by omega), wrap64 (by omega) (by omega), show 32 * (k : Int) + f = ((32 * k + f : Nat) : Int) by omega, wrapU64 (by omega)]
  have two : ∀ f n : Nat, f < 32 → n ≤ 8 → hd k v = UInt8.ofNat (32 * k + f) :: be n v → ∃ (v_1 : Nat), ∃ (m : Nat), eqL [.int .u64 (IntKind.u64.wrap (IntKind.i64.wrap (IntKind.i64.wrap (32 * (k : Int)) + (f : Int)))), .int .i64 1] [.int .u64 (v_1 : Int), .int .i64 (m : Int)] ∧ v_1 < 18446744073709551616 ∧ m ≤ 8 ∧ ∃ (v_2 : Nat), ∃ (n_1 : Nat), eqL [.int .u64 v, .int .i64 n] [.int .u64 (v_2 : Int), .int .i64 (n_1 : Int)] ∧ v_2 < 18446744073709551616 ∧ n_1 ≤ 8 ∧ ByteArray.size (str (be m v_1)) + ByteArray.size (str (be n_1 v_2)) ≤ 9223372036854775807 ∧ Post (.string (str (be m v_1) ++ str (be n_1 v_2))) := by
    intro f n hf hn he
    refine ⟨32 * k + f, 1, by rw [first f hf]; rfl, by omega, by omega, v, n, rfl, hv, hn, by rw [str_size, str_size, be_len, be_len]; omega, ?_⟩
    rw [str_app, be_one]
    rw [he] at h
    exact h
  have t24 := two 24 1 (by omega) (by omega)
  have t25 := two 25 2 (by omega) (by omega)
  have t26 := two 26 4 (by omega) (by omega)
  have t27 := two 27 8 (by omega) (by omega)
  simp only [true_and, pIf_iff, decide_eq_true_eq, decide_eq_false_iff_not]
  refine ⟨fun h0 => ?_, fun h0 => ⟨fun h1 => ⟨fun h2 => ⟨fun h3 => ?_, fun h3 => ?_⟩, fun h2 => ⟨fun h3 => ?_, fun h3 => ?_⟩⟩, fun h1 => ⟨fun h2 => ⟨fun h3 => ?_, fun h3 => ?_⟩, fun h2 => ⟨fun h3 => ?_, fun h3 => ?_⟩⟩⟩⟩
  · refine ⟨32 * k + v, 1, ?_, by omega, by omega, ?_⟩
    · rw [wrap64 (by omega) (by omega), show 32 * (k : Int) = ((32 * k : Nat) : Int) by omega, wrapU64 (by omega), show ((32 * k : Nat) : Int) + v = ((32 * k + v : Nat) : Int) by omega, wrapU64 (by omega)]; rfl
    · rw [be_one]
      unfold hd at h
      rwa [if_pos (by omega)] at h
  · exact t27 (by unfold hd; rw [if_neg (by omega), if_neg (by omega), if_neg (by omega), if_neg (by omega)])
  · exact t26 (by unfold hd; rw [if_neg (by omega), if_neg (by omega), if_neg (by omega), if_pos (by omega)])
  · omega
  · exact t25 (by unfold hd; rw [if_neg (by omega), if_neg (by omega), if_pos (by omega)])
  · omega
  · omega
  · omega
  · exact t24 (by unfold hd; rw [if_neg (by omega), if_pos (by omega)])
def tabR5h : List Ent := [⟨155, c_rhead⟩]
theorem tabR5h_ok : VCallOk Tryz.prog (tabCall tabR5h noCall) := tabCall_ok (by
  intro e he
  simp only [tabR5h, List.mem_cons, List.not_mem_nil, or_false] at he
  rcases he with rfl
  exact ok_rhead) noCall_ok
theorem e_rInt (n : Int) (H : Code → List Fr → AS → Prop) (Post : Value → Prop) : vcP Tryz.prog (tabCall tabR5h noCall) 81 [] [.int .i64 n] H Post = (True ∧ True ∧ True ∧ pIf (decide (n < 0)) (True ∧ True ∧ True ∧ ∃ (k : Nat), ∃ (v : Nat), eqL [Value.int IntKind.i64 1, Value.int IntKind.u64 (IntKind.wrap IntKind.u64 (IntKind.wrap IntKind.i64 (-1 - n)))] [Value.int IntKind.i64 (↑k : Int), Value.int IntKind.u64 (↑v : Int)] ∧ k < 8 ∧ v < 18446744073709551616 ∧ True ∧ True ∧ Post (Value.string (str (hd k v)))) (True ∧ True ∧ ∃ (k : Nat), ∃ (v : Nat), eqL [Value.int IntKind.i64 0, Value.int IntKind.u64 (IntKind.wrap IntKind.u64 n)] [Value.int IntKind.i64 (↑k : Int), Value.int IntKind.u64 (↑v : Int)] ∧ k < 8 ∧ v < 18446744073709551616 ∧ True ∧ True ∧ Post (Value.string (str (hd k v))))) := by kernel_rfl
theorem e_rText (s : ByteArray) (H : Code → List Fr → AS → Prop) (Post : Value → Prop) : vcP Tryz.prog (tabCall tabR5h noCall) 80 [] [.string s] H Post = (True ∧ True ∧ True ∧ True ∧ ∃ (k : Nat), ∃ (v : Nat), eqL [Value.int IntKind.i64 2, Value.int IntKind.u64 (IntKind.wrap IntKind.u64 (↑(ByteArray.size s) : Int))] [Value.int IntKind.i64 (↑k : Int), Value.int IntKind.u64 (↑v : Int)] ∧ k < 8 ∧ v < 18446744073709551616 ∧ True ∧ ByteArray.size (str (hd k v)) + ByteArray.size s ≤ 9223372036854775807 ∧ True ∧ True ∧ Post (Value.string (str (hd k v) ++ s))) := by kernel_rfl
theorem e_rList (n : Int) (H : Code → List Fr → AS → Prop) (Post : Value → Prop) : vcP Tryz.prog (tabCall tabR5h noCall) 83 [] [.int .i64 n] H Post = (True ∧ True ∧ True ∧ pIf (decide (n < 0)) (True ∧ True ∧ Post (Value.string (ByteArray.mk #[]))) (True ∧ True ∧ ∃ (k : Nat), ∃ (v : Nat), eqL [Value.int IntKind.i64 4, Value.int IntKind.u64 (IntKind.wrap IntKind.u64 n)] [Value.int IntKind.i64 (↑k : Int), Value.int IntKind.u64 (↑v : Int)] ∧ k < 8 ∧ v < 18446744073709551616 ∧ True ∧ True ∧ Post (Value.string (str (hd k v))))) := by kernel_rfl
theorem ok_rInt : EntOk Tryz.prog ⟨81, c_cInt⟩ := by
  rintro args Post ⟨n, rfl, ⟨h1, h2⟩, h⟩
  refine pure_P (vc := tabCall tabR5h noCall) tabR5h_ok mixed (by kernel_rfl) (by kernel_rfl) _ (e_rInt n _ _) ?_
  simp only [true_and, pIf_iff, decide_eq_true_eq, decide_eq_false_iff_not]
  refine ⟨fun h' => ⟨1, (-1 - n).toNat, ?_, by omega, by omega, ?_⟩, fun h' => ⟨0, n.toNat, ?_, by omega, by omega, ?_⟩⟩
  · rw [wrap64 (by omega) (by omega), show -1 - n = (((-1 - n).toNat : Nat) : Int) by omega, wrapU64 (by omega)]; rfl
  · unfold bInt at h; rwa [if_pos h'] at h
  · rw [show n = ((n.toNat : Nat) : Int) by omega, wrapU64 (by omega)]; rfl
  · unfold bInt at h; rwa [if_neg h'] at h
theorem ok_rList : EntOk Tryz.prog ⟨83, c_cList⟩ := by
  rintro args Post ⟨n, rfl, h1, h⟩
  refine pure_P (vc := tabCall tabR5h noCall) tabR5h_ok mixed (by kernel_rfl) (by kernel_rfl) _ (e_rList n _ _) ?_
  simp only [true_and, pIf_iff, decide_eq_true_eq, decide_eq_false_iff_not]
  exact ⟨fun h' => by omega, fun h' => ⟨4, n, by rw [wrapU64 (by omega)]; rfl, by omega, by omega, h⟩⟩
theorem ok_rText : EntOk Tryz.prog ⟨80, c_cText⟩ := by
  rintro args Post ⟨s, rfl, h1, h⟩
  refine pure_P (vc := tabCall tabR5h noCall) tabR5h_ok mixed (by kernel_rfl) (by kernel_rfl) _ (e_rText s _ _) ?_
  simp only [true_and, pIf_iff, decide_eq_true_eq, decide_eq_false_iff_not]
  have hl := hd_len 2 s.size
  exact ⟨2, s.size, by rw [wrapU64 (by omega)]; rfl, by omega, by omega, by rw [str_size]; omega, h⟩
end Go.Proofs.YtngginofamlkkaaGreatDoor
noncomputable section
namespace Go.Proofs.YtngginofamlkkaaGreatDoor
open Go Go.RowKit
set_option maxRecDepth 100000
def tabI : List Ent := [⟨154, c_cInt⟩, ⟨79, c_cList⟩, ⟨76, c_cText⟩]
def tabJ : List Ent := [⟨81, c_cInt⟩, ⟨83, c_cList⟩, ⟨80, c_cText⟩]
theorem tabI_ok : VCallOk Tryz.prog (tabCall tabI noCall) := tabCall_ok (by
  intro e he
  simp only [tabI, List.mem_cons, List.not_mem_nil, or_false] at he
  rcases he with rfl | rfl | rfl
  · exact ok_cInt
  · exact ok_cList
  · exact ok_cText) noCall_ok
theorem tabJ_ok : VCallOk Tryz.prog (tabCall tabJ noCall) := tabCall_ok (by
  intro e he
  simp only [tabJ, List.mem_cons, List.not_mem_nil, or_false] at he
  rcases he with rfl | rfl | rfl
  · exact ok_rInt
  · exact ok_rList
  · exact ok_rText) noCall_ok
theorem e_ints (n : Nat) (A : Array Value) (H : Code → List Fr → AS → Prop) (Post : Value → Prop) : vcP Tryz.prog (tabCall tabI noCall) 77 [(3, [3, 6, 7, 8])] [tree 1 n A] H Post = (True ∧ True ∧ True ∧ True ∧ True ∧ True ∧ True ∧ H (lpC Tryz.prog 77 3) (lpK Tryz.prog 77 3) (stV [(3, some (Value.string (ByteArray.mk #[]))), (6, some (tree 1 n A)), (7, some (Value.int IntKind.i64 (↑n : Int))), (8, some (Value.int IntKind.i64 0))] [] 0)) := by kernel_rfl
theorem l_ints (n : Nat) (A : Array Value) (s : ByteArray) (i : Int) (H : Code → List Fr → AS → Prop) (Post : Value → Prop) : vcLP Tryz.prog (tabCall tabI noCall) 77 [tree 1 n A] [(3, [3, 6, 7, 8])] 3 (stV [(3, some (.string s)), (6, some (tree 1 n A)), (7, some (.int .i64 n)), (8, some (.int .i64 i))] [] 0) H Post = (True ∧ pIf (decide (i < (↑n : Int))) ((0 ≤ i ∧ i < (↑n : Int)) ∧ cellAt A (Int.toNat i) 0 = Value.int IntKind.i64 (toI (cellAt A (Int.toNat i) 0)) ∧ True ∧ True ∧ True ∧ ∃ (n_1 : Int), eqL [Value.int IntKind.i64 (toI (cellAt A (Int.toNat i) 0))] [Value.int IntKind.i64 n_1] ∧ (-9223372036854775808 ≤ n_1 ∧ n_1 < 9223372036854775808) ∧ ByteArray.size s + ByteArray.size (bInt n_1) ≤ 9223372036854775807 ∧ True ∧ True ∧ True ∧ True ∧ True ∧ H (lpC Tryz.prog 77 3) (lpK Tryz.prog 77 3) (stV [(3, some (Value.string (s ++ bInt n_1))), (6, some (tree 1 n A)), (7, some (Value.int IntKind.i64 (↑n : Int))), (8, some (Value.int IntKind.i64 (IntKind.wrap IntKind.i64 (i + 1))))] [] 0)) (True ∧ True ∧ True ∧ Post (Value.string s))) := by kernel_rfl
theorem e_corners (n : Nat) (A : Array Value) (H : Code → List Fr → AS → Prop) (Post : Value → Prop) : vcP Tryz.prog (tabCall tabI noCall) 78 [(3, [3, 9, 10, 11])] [tree 2 n A] H Post = (True ∧ True ∧ True ∧ ∃ (n_1 : Nat), eqL [Value.int IntKind.i64 (↑n : Int)] [Value.int IntKind.i64 (↑n_1 : Int)] ∧ n_1 < 9223372036854775808 ∧ True ∧ True ∧ True ∧ True ∧ True ∧ True ∧ H (lpC Tryz.prog 78 3) (lpK Tryz.prog 78 3) (stV [(3, some (Value.string (bList n_1))), (9, some (tree 2 n A)), (10, some (Value.int IntKind.i64 (↑n : Int))), (11, some (Value.int IntKind.i64 0))] [] 0)) := by kernel_rfl
theorem l_corners (n : Nat) (A : Array Value) (s : ByteArray) (i : Int) (H : Code → List Fr → AS → Prop) (Post : Value → Prop) : vcLP Tryz.prog (tabCall tabI noCall) 78 [tree 2 n A] [(3, [3, 9, 10, 11])] 3 (stV [(3, some (.string s)), (9, some (tree 2 n A)), (10, some (.int .i64 n)), (11, some (.int .i64 i))] [] 0) H Post = (True ∧ pIf (decide (i < (↑n : Int))) ((0 ≤ i ∧ i < (↑n : Int)) ∧ (cellAt A (Int.toNat i) 0 = Value.int IntKind.i64 (toI (cellAt A (Int.toNat i) 0)) ∧ cellAt A (Int.toNat i) 1 = Value.int IntKind.i64 (toI (cellAt A (Int.toNat i) 1)) ∧ True) ∧ True ∧ 2 ≤ 2 ∧ True ∧ True ∧ True ∧ True ∧ True ∧ ∃ (n_1 : Int), eqL [Value.int IntKind.i64 (toI (cellAt A (Int.toNat i) 0))] [Value.int IntKind.i64 n_1] ∧ (-9223372036854775808 ≤ n_1 ∧ n_1 < 9223372036854775808) ∧ True ∧ ∃ (n_2 : Int), eqL [Value.int IntKind.i64 (toI (cellAt A (Int.toNat i) 1))] [Value.int IntKind.i64 n_2] ∧ (-9223372036854775808 ≤ n_2 ∧ n_2 < 9223372036854775808) ∧ True ∧ ByteArray.size (bInt n_1) + ByteArray.size (bInt n_2) ≤ 9223372036854775807 ∧ ByteArray.size s + ByteArray.size (bInt n_1 ++ bInt n_2) ≤ 9223372036854775807 ∧ True ∧ True ∧ True ∧ True ∧ True ∧ H (lpC Tryz.prog 78 3) (lpK Tryz.prog 78 3) (stV [(3, some (Value.string (s ++ (bInt n_1 ++ bInt n_2)))), (9, some (tree 2 n A)), (10, some (Value.int IntKind.i64 (↑n : Int))), (11, some (Value.int IntKind.i64 (IntKind.wrap IntKind.i64 (i + 1))))] [] 0)) (True ∧ True ∧ True ∧ Post (Value.string s))) := by kernel_rfl
theorem e_contour (n : Nat) (A : Array Value) (H : Code → List Fr → AS → Prop) (Post : Value → Prop) : vcP Tryz.prog (tabCall tabJ noCall) 82 [(3, [0, 3, 4])] [tree 2 n A] H Post = (True ∧ True ∧ True ∧ ∃ (n_1 : Nat), eqL [Value.int IntKind.i64 (↑n : Int)] [Value.int IntKind.i64 (↑n_1 : Int)] ∧ n_1 < 9223372036854775808 ∧ True ∧ True ∧ True ∧ True ∧ H (lpC Tryz.prog 82 3) (lpK Tryz.prog 82 3) (stV [(0, some (tree 2 n A)), (3, some (Value.string (bList n_1))), (4, some (Value.int IntKind.i64 0))] [] 0)) := by kernel_rfl
theorem l_contour (n : Nat) (A : Array Value) (s : ByteArray) (i : Int) (H : Code → List Fr → AS → Prop) (Post : Value → Prop) : vcLP Tryz.prog (tabCall tabJ noCall) 82 [tree 2 n A] [(3, [0, 3, 4])] 3 (stV [(0, some (tree 2 n A)), (3, some (.string s)), (4, some (.int .i64 i))] [] 0) H Post = (True ∧ True ∧ True ∧ True ∧ pIf (decide (i < (↑n : Int))) (True ∧ True ∧ True ∧ (0 ≤ i ∧ i < (↑n : Int)) ∧ True ∧ cellAt A (Int.toNat i) 0 = Value.int IntKind.i64 (toI (cellAt A (Int.toNat i) 0)) ∧ True ∧ True ∧ (0 ≤ i ∧ i < (↑n : Int)) ∧ True ∧ cellAt A (Int.toNat i) 1 = Value.int IntKind.i64 (toI (cellAt A (Int.toNat i) 1)) ∧ ∃ (n_1 : Int), eqL [Value.int IntKind.i64 (toI (cellAt A (Int.toNat i) 0))] [Value.int IntKind.i64 n_1] ∧ (-9223372036854775808 ≤ n_1 ∧ n_1 < 9223372036854775808) ∧ True ∧ ByteArray.size s + ByteArray.size (bInt n_1) ≤ 9223372036854775807 ∧ ∃ (n_2 : Int), eqL [Value.int IntKind.i64 (toI (cellAt A (Int.toNat i) 1))] [Value.int IntKind.i64 n_2] ∧ (-9223372036854775808 ≤ n_2 ∧ n_2 < 9223372036854775808) ∧ True ∧ ByteArray.size (s ++ bInt n_1) + ByteArray.size (bInt n_2) ≤ 9223372036854775807 ∧ True ∧ True ∧ True ∧ True ∧ True ∧ True ∧ H (lpC Tryz.prog 82 3) (lpK Tryz.prog 82 3) (stV [(0, some (tree 2 n A)), (3, some (Value.string (s ++ bInt n_1 ++ bInt n_2))), (4, some (Value.int IntKind.i64 (IntKind.wrap IntKind.i64 (i + 1))))] [] 0)) (True ∧ True ∧ True ∧ Post (Value.string s))) := by kernel_rfl
theorem e_vector (x y z : Int) (H : Code → List Fr → AS → Prop) (Post : Value → Prop) : vcP Tryz.prog (tabCall tabJ noCall) 84 [] [.agg [.int .i64 x, .int .i64 y, .int .i64 z].toArray] H Post = (True ∧ True ∧ True ∧ True ∧ True ∧ True ∧ True ∧ True ∧ ∃ (n : Int), eqL [Value.int IntKind.i64 x] [Value.int IntKind.i64 n] ∧ (-9223372036854775808 ≤ n ∧ n < 9223372036854775808) ∧ True ∧ ∃ (n_1 : Int), eqL [Value.int IntKind.i64 y] [Value.int IntKind.i64 n_1] ∧ (-9223372036854775808 ≤ n_1 ∧ n_1 < 9223372036854775808) ∧ True ∧ ByteArray.size (bInt n) + ByteArray.size (bInt n_1) ≤ 9223372036854775807 ∧ ∃ (n_2 : Int), eqL [Value.int IntKind.i64 z] [Value.int IntKind.i64 n_2] ∧ (-9223372036854775808 ≤ n_2 ∧ n_2 < 9223372036854775808) ∧ True ∧ ByteArray.size (bInt n ++ bInt n_1) + ByteArray.size (bInt n_2) ≤ 9223372036854775807 ∧ True ∧ True ∧ Post (Value.string (bInt n ++ bInt n_1 ++ bInt n_2))) := by kernel_rfl
theorem ba_assoc (a b c : ByteArray) : a ++ b ++ c = a ++ (b ++ c) := ba_ext (by rw [ByteArray.data_append, ByteArray.data_append, ByteArray.data_append, ByteArray.data_append, Array.append_assoc])
theorem ba_nil (a : ByteArray) : (⟨#[]⟩ : ByteArray) ++ a = a := ba_ext (by rw [ByteArray.data_append, Array.toList_append]; rfl)
theorem ba_size (a b : ByteArray) : (a ++ b).size = a.size + b.size := ByteArray.size_append
theorem bInt_size (n : Int) : (bInt n).size ≤ 9 := by
  unfold bInt
  split <;> rw [str_size] <;> exact hd_len _ _
theorem bText_size (s : ByteArray) : (bText s).size ≤ 9 + s.size := by
  unfold bText
  rw [ba_size, str_size]
  have := hd_len 2 s.size
  omega
theorem bList_size (n : Nat) : (bList n).size ≤ 9 := by unfold bList; rw [str_size]; exact hd_len _ _
def bInts (l : List Int) : ByteArray := l.foldl (fun s n => s ++ bInt n) ⟨#[]⟩
def bPts (l : List Pt) : ByteArray := l.foldl (fun s p => s ++ (bInt p.x ++ bInt p.y)) (bList l.length)
theorem fold_size {α : Type} (f : ByteArray → α → ByteArray) (c : Nat) (hf : ∀ s a, (f s a).size ≤ s.size + c) : ∀ (l : List α) (s : ByteArray), (l.foldl f s).size ≤ s.size + c * l.length
  | [], s => by simp
  | a :: l, s => by
    have h1 := fold_size f c hf l (f s a)
    have h2 := hf s a
    simp only [List.foldl_cons, List.length_cons, Nat.mul_add, Nat.mul_one]
    omega
theorem fold_take {α β : Type} (f : β → α → β) (s : β) {l : List α} {i : Nat} (h : i < l.length) : (l.take (i + 1)).foldl f s = f ((l.take i).foldl f s) l[i] := by
  rw [← List.take_append_getElem h, List.foldl_append]
  rfl
theorem bPts_size (l : List Pt) : (bPts l).size ≤ 9 + 18 * l.length := by
  have h := fold_size (fun s (p : Pt) => s ++ (bInt p.x ++ bInt p.y)) 18 (fun s p => by
    rw [ba_size, ba_size]
    have := bInt_size p.x
    have := bInt_size p.y
    omega) l (bList l.length)
  have := bList_size l.length
  unfold bPts
  omega
/-- Integers as a slice that was built at once. -/
abbrev encI (l : List Int) : Array Value := encL l
def c_ints (args : List Value) (Post : Value → Prop) : Prop := ∃ l : List Int, args = [tree 1 l.length (encI l)] ∧ l.length ≤ 1000 ∧ (∀ n ∈ l, In64 n) ∧ Post (.string (bInts l))
def c_pts (args : List Value) (Post : Value → Prop) : Prop := ∃ l : List Pt, args = [trPt l] ∧ l.length ≤ 1000 ∧ (∀ p ∈ l, InPt p) ∧ Post (.string (bPts l))
def c_vector (args : List Value) (Post : Value → Prop) : Prop := ∃ v : Vec3, args = [.agg [.int .i64 v.x, .int .i64 v.y, .int .i64 v.z].toArray] ∧ InV v ∧ Post (.string (bInt v.x ++ bInt v.y ++ bInt v.z))
theorem ok_vector : EntOk Tryz.prog ⟨84, c_vector⟩ := by
  rintro args Post ⟨v, rfl, hv, h⟩
  refine pure_P (vc := tabCall tabJ noCall) tabJ_ok mixed (by kernel_rfl) (by kernel_rfl) _ (e_vector v.x v.y v.z _ _) ?_
  simp only [true_and]
  have h1 := bInt_size v.x
  have h2 := bInt_size v.y
  have h3 := bInt_size v.z
  exact ⟨v.x, rfl, hv.1, v.y, rfl, hv.2.1, by omega, v.z, rfl, hv.2.2, by rw [ba_size]; omega, h⟩
theorem cell_int {l : List Int} {i : Nat} (h : i < l.length) : cellAt (encI l) i 0 = .int .i64 l[i] := by
  rw [cellAt_encL' h]
  rfl
theorem ok_ints : EntOk Tryz.prog ⟨77, c_ints⟩ := by
  rintro args Post ⟨l, rfl, hn, hin, h⟩
  refine pure_P (vc := tabCall tabI noCall) tabI_ok mixed (by kernel_rfl) (by kernel_rfl) _ (e_ints l.length (encI l) _ _) ?_
  simp only [true_and]
  let f : ByteArray → Int → ByteArray := fun s n => s ++ bInt n
  have bound : ∀ i, ((l.take i).foldl f ⟨#[]⟩).size ≤ 9 * i := fun i => by
    have := fold_size f 9 (fun s a => by show (s ++ bInt a).size ≤ _; rw [ba_size]; have := bInt_size a; omega) (l.take i) ⟨#[]⟩
    have h0 : (⟨#[]⟩ : ByteArray).size = 0 := rfl
    have := List.length_take_le i l
    omega
  refine down (n := l.length) (p := fun i => OkP 77 [tree 1 l.length (encI l)] 3 Post (stV [(3, some (.string ((l.take i).foldl f ⟨#[]⟩))), (6, some (tree 1 l.length (encI l))), (7, some (.int .i64 l.length)), (8, some (.int .i64 i))] [] 0)) ?_ (fun i hi ih => ?_)
  · refine ok_P (vc := tabCall tabI noCall) tabI_ok mixed _ (l_ints _ _ _ _ _ _) ?_
    simp only [true_and, pIf_iff, decide_eq_true_eq, decide_eq_false_iff_not]
    refine ⟨fun h' => by omega, fun _ => ?_⟩
    rwa [List.take_length]
  · refine ok_P (vc := tabCall tabI noCall) tabI_ok mixed _ (l_ints _ _ _ _ _ _) ?_
    simp only [true_and, pIf_iff, decide_eq_true_eq, decide_eq_false_iff_not, Int.toNat_natCast, cell_int hi, toI]
    refine ⟨fun _ => ⟨by omega, l[i], rfl, hin _ (List.getElem_mem hi), ?_, ?_⟩, fun h' => by omega⟩
    · have := bound i
      have := bInt_size l[i]
      omega
    · rw [wrapSucc (by omega)]
      rw [fold_take f _ hi] at ih
      exact ih
theorem pts_step (s : ByteArray) (p : Pt) : (s ++ (bInt p.x ++ bInt p.y)).size ≤ s.size + 18 := by
  rw [ba_size, ba_size]
  have := bInt_size p.x
  have := bInt_size p.y
  omega
theorem pts_bound (l : List Pt) (i : Nat) (hn : l.length ≤ 1000) : ((l.take i).foldl (fun s (p : Pt) => s ++ (bInt p.x ++ bInt p.y)) (bList l.length)).size ≤ 20000 := by
  have h1 := fold_size _ 18 pts_step (l.take i) (bList l.length)
  have h2 := bList_size l.length
  have h3 := List.length_take_le' i l
  omega
theorem ok_corners : EntOk Tryz.prog ⟨78, c_pts⟩ := by
  rintro args Post ⟨l, rfl, hn, hin, h⟩
  refine pure_P (vc := tabCall tabI noCall) tabI_ok mixed (by kernel_rfl) (by kernel_rfl) _ (e_corners l.length (encL l) _ _) ?_
  simp only [true_and]
  refine ⟨l.length, rfl, by omega, ?_⟩
  refine down (n := l.length) (p := fun i => OkP 78 [trPt l] 3 Post (stV [(3, some (.string ((l.take i).foldl (fun s (p : Pt) => s ++ (bInt p.x ++ bInt p.y)) (bList l.length)))), (9, some (trPt l)), (10, some (.int .i64 l.length)), (11, some (.int .i64 i))] [] 0)) ?_ (fun i hi ih => ?_)
  · refine ok_P (vc := tabCall tabI noCall) tabI_ok mixed _ (l_corners _ _ _ _ _ _) ?_
    simp only [true_and, pIf_iff, decide_eq_true_eq, decide_eq_false_iff_not]
    refine ⟨fun h' => by omega, fun _ => ?_⟩
    rwa [List.take_length]
  · refine ok_P (vc := tabCall tabI noCall) tabI_ok mixed _ (l_corners _ _ _ _ _ _) ?_
    simp only [true_and, and_true, pIf_iff, decide_eq_true_eq, decide_eq_false_iff_not, Int.toNat_natCast, cell_pt hi, toI]
    have hp := hin _ (List.getElem_mem hi)
    have b1 := bInt_size l[i].x
    have b2 := bInt_size l[i].y
    have b3 := pts_bound l i hn
    refine ⟨fun _ => ⟨by omega, by omega, l[i].x, rfl, hp.1, l[i].y, rfl, hp.2, by omega, by rw [ba_size]; omega, ?_⟩, fun h' => by omega⟩
    rw [wrapSucc (by omega)]
    rw [fold_take _ _ hi] at ih
    exact ih
theorem ok_contour : EntOk Tryz.prog ⟨82, c_pts⟩ := by
  rintro args Post ⟨l, rfl, hn, hin, h⟩
  refine pure_P (vc := tabCall tabJ noCall) tabJ_ok mixed (by kernel_rfl) (by kernel_rfl) _ (e_contour l.length (encL l) _ _) ?_
  simp only [true_and]
  refine ⟨l.length, rfl, by omega, ?_⟩
  refine down (n := l.length) (p := fun i => OkP 82 [trPt l] 3 Post (stV [(0, some (trPt l)), (3, some (.string ((l.take i).foldl (fun s (p : Pt) => s ++ (bInt p.x ++ bInt p.y)) (bList l.length)))), (4, some (.int .i64 i))] [] 0)) ?_ (fun i hi ih => ?_)
  · refine ok_P (vc := tabCall tabJ noCall) tabJ_ok mixed _ (l_contour _ _ _ _ _ _) ?_
    simp only [true_and, pIf_iff, decide_eq_true_eq, decide_eq_false_iff_not]
    refine ⟨fun h' => by omega, fun _ => ?_⟩
    rwa [List.take_length]
  · refine ok_P (vc := tabCall tabJ noCall) tabJ_ok mixed _ (l_contour _ _ _ _ _ _) ?_
    simp only [true_and, and_true, pIf_iff, decide_eq_true_eq, decide_eq_false_iff_not, Int.toNat_natCast, cell_pt hi, toI]
    have hp := hin _ (List.getElem_mem hi)
    have b1 := bInt_size l[i].x
    have b2 := bInt_size l[i].y
    have b3 := pts_bound l i hn
    refine ⟨fun _ => ⟨by omega, by omega, l[i].x, rfl, hp.1, by omega, l[i].y, rfl, hp.2, by rw [ba_size]; omega, ?_⟩, fun h' => by omega⟩
    rw [wrapSucc (by omega), ba_assoc]
    rw [fold_take _ _ hi] at ih
    exact ih
end Go.Proofs.YtngginofamlkkaaGreatDoor
