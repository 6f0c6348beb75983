/-
  Put together out of several texts, each in its own namespace's block. Conditions: as each theorem states them.
-/
import Derived.Test.YtojlhapbngcjkaaGreatDoorQSi
import Derived.Shelf.Slices.Clone
import Derived.Shelf.Strings.OnBuilder
import Derived.Shelf.Strings.Repeat
import Derived.Shelf.Strings.SlTrimAscii
noncomputable section
namespace Go.Proofs.YtojlhapbngcjkaaGreatDoor
open Go Go.RowKit
set_option maxRecDepth 100000
set_option maxHeartbeats 8000000
def dg (k : Nat) : UInt8 := Array.getD (ByteArray.data (ByteArray.mk #[48, 49, 50, 51, 52, 53, 54, 55, 56, 57, 97, 98, 99, 100, 101, 102, 103, 104, 105, 106, 107, 108, 109, 110, 111, 112, 113, 114, 115, 116, 117, 118, 119, 120, 121, 122])) k 0
def hexT : Nat → Nat → List UInt8 → List UInt8
 | 0, n, acc => dg n :: acc
 | f + 1, n, acc => if 16 ≤ n then hexT f (n / 16) (dg (n % 16) :: acc) else dg n :: acc
def hexS (n : Nat) : ByteArray := ⟨(hexT 8 n []).toArray⟩
theorem vcFm_ok : VCallOk Tryz.prog vcFm := inlCall_ok mixed (tabCall_ok (by
 intro e he
 simp only [List.mem_cons, List.not_mem_nil, or_false] at he
 subst he
 exact ok_at tz16) noCall_ok) 3
theorem and64 {n : Nat} (h : n < 4294967296) : IntKind.wrap .u64 ((BitVec.toNat (BitVec.ofInt 64 (n : Int) &&& BitVec.ofInt 64 15) : Nat) : Int) = ((n % 16 : Nat) : Int) := by
 have e : BitVec.toNat (BitVec.ofInt 64 (n : Int) &&& BitVec.ofInt 64 15) = n % 16 := by
  rw [BitVec.toNat_and, BitVec.ofInt_natCast, show BitVec.ofInt 64 15 = 15#64 by decide, BitVec.toNat_ofNat, Nat.mod_eq_of_lt (show n < 2 ^ 64 by omega)]
  exact Nat.and_two_pow_sub_one_eq_mod n 4
 rw [e]
 have := Nat.mod_lt n (show 0 < 16 by decide)
 simp [IntKind.wrap, IntKind.bits, IntKind.signed]
 omega
theorem fdiv16 (n : Nat) : Int.fdiv (n : Int) (2 ^ 4) = ((n / 16 : Nat) : Int) := by
 rw [Int.fdiv_eq_ediv_of_nonneg _ (by decide)]
 rfl
def cellU (x : UInt8) : Value := .int .u8 ((x.toNat : Nat) : Int)
theorem allU8_map (l : List UInt8) : AllU8 (l.map cellU) := fun v hv => by
 obtain ⟨x, _, rfl⟩ := List.mem_map.1 hv
 exact ⟨_, rfl⟩
theorem bytesL_map (l : List UInt8) : bytesL (l.map cellU) = ⟨l.toArray⟩ := by
 have e : byteOf ∘ cellU = id := funext fun x => by
  show UInt8.ofNat ((x.toNat : Int)).toNat = x
  simp
 unfold bytesL
 rw [List.map_map, e, List.map_id]
def c_fmtB (args : List Value) (Post : Value → Prop) : Prop := ∃ n : Nat, args = [.slice none 0 0, .int .u64 n, .int .i64 16, .bool false, .bool false] ∧ n < 4294967296 ∧ Post (.tuple #[tree 1 0 #[], .string (hexS n)])
theorem fmt7 {m : Int} {Post : Value → Prop} (n : Nat) (hn : n < 16) (x0 x1 x2 x3 x4 x5 x6 : UInt8) (h : Post (.tuple #[tree 1 0 #[], .string ⟨(hexT 1 n [x0, x1, x2, x3, x4, x5, x6]).toArray⟩])) : OkP 172 [.slice none 0 0, .int .u64 m, .int .i64 16, .bool false, .bool false] 11 Post (stV [(0, some (.slice none 0 0)), (1, some (.int .u64 (n : Int))), (2, some (.int .i64 16)), (3, some (.bool false)), (4, some (.bool false)), (10, some (.slice none 0 0)), (11, some (.string ⟨#[]⟩)), (12, some (.pointer (some ⟨0, 0, none⟩))), (13, some (.int .i64 58)), (14, some (.int .u64 4)), (15, some (.int .u64 16)), (16, some (.int .u64 15))] [(0, some (.cells [.int .u8 0, .int .u8 0, .int .u8 0, .int .u8 0, .int .u8 0, .int .u8 0, .int .u8 0, .int .u8 0, .int .u8 0, .int .u8 0, .int .u8 0, .int .u8 0, .int .u8 0, .int .u8 0, .int .u8 0, .int .u8 0, .int .u8 0, .int .u8 0, .int .u8 0, .int .u8 0, .int .u8 0, .int .u8 0, .int .u8 0, .int .u8 0, .int .u8 0, .int .u8 0, .int .u8 0, .int .u8 0, .int .u8 0, .int .u8 0, .int .u8 0, .int .u8 0, .int .u8 0, .int .u8 0, .int .u8 0, .int .u8 0, .int .u8 0, .int .u8 0, .int .u8 0, .int .u8 0, .int .u8 0, .int .u8 0, .int .u8 0, .int .u8 0, .int .u8 0, .int .u8 0, .int .u8 0, .int .u8 0, .int .u8 0, .int .u8 0, .int .u8 0, .int .u8 0, .int .u8 0, .int .u8 0, .int .u8 0, .int .u8 0, .int .u8 0, .int .u8 0, .int .u8 ((x0.toNat : Nat) : Int), .int .u8 ((x1.toNat : Nat) : Int), .int .u8 ((x2.toNat : Nat) : Int), .int .u8 ((x3.toNat : Nat) : Int), .int .u8 ((x4.toNat : Nat) : Int), .int .u8 ((x5.toNat : Nat) : Int), .int .u8 ((x6.toNat : Nat) : Int)] true))] 1) := by
 refine ok_P vcFm_ok mixed _ (l_fmt7 n m x0.toNat x1.toNat x2.toNat x3.toNat x4.toNat x5.toNat x6.toNat _ _) ?_
 have w1 : IntKind.wrap .i64 (58 - 1) = 57 := by decide
 simp only [true_and, and_true, and64 (show n < 4294967296 by omega), fdiv16, Int.toNat_natCast, w1, toI_int]
 refine ifC (fun h1 => by omega) (fun h2 => ?_)
 ·rw [hexT, if_neg (show ¬ 16 ≤ n by omega), ← bytesL_map] at h
  exact ⟨⟨by omega, by omega⟩, by decide, by decide, by decide, ⟨by decide, allU8_map (dg n :: [x0, x1, x2, x3, x4, x5, x6])⟩, h⟩
theorem fmt6 {m : Int} {Post : Value → Prop} (n : Nat) (hn : n < 256) (x0 x1 x2 x3 x4 x5 : UInt8) (h : Post (.tuple #[tree 1 0 #[], .string ⟨(hexT 2 n [x0, x1, x2, x3, x4, x5]).toArray⟩])) : OkP 172 [.slice none 0 0, .int .u64 m, .int .i64 16, .bool false, .bool false] 11 Post (stV [(0, some (.slice none 0 0)), (1, some (.int .u64 (n : Int))), (2, some (.int .i64 16)), (3, some (.bool false)), (4, some (.bool false)), (10, some (.slice none 0 0)), (11, some (.string ⟨#[]⟩)), (12, some (.pointer (some ⟨0, 0, none⟩))), (13, some (.int .i64 59)), (14, some (.int .u64 4)), (15, some (.int .u64 16)), (16, some (.int .u64 15))] [(0, some (.cells [.int .u8 0, .int .u8 0, .int .u8 0, .int .u8 0, .int .u8 0, .int .u8 0, .int .u8 0, .int .u8 0, .int .u8 0, .int .u8 0, .int .u8 0, .int .u8 0, .int .u8 0, .int .u8 0, .int .u8 0, .int .u8 0, .int .u8 0, .int .u8 0, .int .u8 0, .int .u8 0, .int .u8 0, .int .u8 0, .int .u8 0, .int .u8 0, .int .u8 0, .int .u8 0, .int .u8 0, .int .u8 0, .int .u8 0, .int .u8 0, .int .u8 0, .int .u8 0, .int .u8 0, .int .u8 0, .int .u8 0, .int .u8 0, .int .u8 0, .int .u8 0, .int .u8 0, .int .u8 0, .int .u8 0, .int .u8 0, .int .u8 0, .int .u8 0, .int .u8 0, .int .u8 0, .int .u8 0, .int .u8 0, .int .u8 0, .int .u8 0, .int .u8 0, .int .u8 0, .int .u8 0, .int .u8 0, .int .u8 0, .int .u8 0, .int .u8 0, .int .u8 0, .int .u8 0, .int .u8 ((x0.toNat : Nat) : Int), .int .u8 ((x1.toNat : Nat) : Int), .int .u8 ((x2.toNat : Nat) : Int), .int .u8 ((x3.toNat : Nat) : Int), .int .u8 ((x4.toNat : Nat) : Int), .int .u8 ((x5.toNat : Nat) : Int)] true))] 1) := by
 refine ok_P vcFm_ok mixed _ (l_fmt6 n m x0.toNat x1.toNat x2.toNat x3.toNat x4.toNat x5.toNat _ _) ?_
 have w1 : IntKind.wrap .i64 (59 - 1) = 58 := by decide
 simp only [true_and, and_true, and64 (show n < 4294967296 by omega), fdiv16, Int.toNat_natCast, w1, toI_int]
 refine ifC (fun h1 => ?_) (fun h2 => ?_)
 ·rw [hexT, if_pos (show 16 ≤ n by omega)] at h
  exact ⟨⟨by omega, by omega⟩, by decide, by decide, by decide, fmt7 (n / 16) (by omega) (dg (n % 16)) x0 x1 x2 x3 x4 x5 h⟩
 ·rw [hexT, if_neg (show ¬ 16 ≤ n by omega), ← bytesL_map] at h
  exact ⟨⟨by omega, by omega⟩, by decide, by decide, by decide, ⟨by decide, allU8_map (dg n :: [x0, x1, x2, x3, x4, x5])⟩, h⟩
theorem fmt5 {m : Int} {Post : Value → Prop} (n : Nat) (hn : n < 4096) (x0 x1 x2 x3 x4 : UInt8) (h : Post (.tuple #[tree 1 0 #[], .string ⟨(hexT 3 n [x0, x1, x2, x3, x4]).toArray⟩])) : OkP 172 [.slice none 0 0, .int .u64 m, .int .i64 16, .bool false, .bool false] 11 Post (stV [(0, some (.slice none 0 0)), (1, some (.int .u64 (n : Int))), (2, some (.int .i64 16)), (3, some (.bool false)), (4, some (.bool false)), (10, some (.slice none 0 0)), (11, some (.string ⟨#[]⟩)), (12, some (.pointer (some ⟨0, 0, none⟩))), (13, some (.int .i64 60)), (14, some (.int .u64 4)), (15, some (.int .u64 16)), (16, some (.int .u64 15))] [(0, some (.cells [.int .u8 0, .int .u8 0, .int .u8 0, .int .u8 0, .int .u8 0, .int .u8 0, .int .u8 0, .int .u8 0, .int .u8 0, .int .u8 0, .int .u8 0, .int .u8 0, .int .u8 0, .int .u8 0, .int .u8 0, .int .u8 0, .int .u8 0, .int .u8 0, .int .u8 0, .int .u8 0, .int .u8 0, .int .u8 0, .int .u8 0, .int .u8 0, .int .u8 0, .int .u8 0, .int .u8 0, .int .u8 0, .int .u8 0, .int .u8 0, .int .u8 0, .int .u8 0, .int .u8 0, .int .u8 0, .int .u8 0, .int .u8 0, .int .u8 0, .int .u8 0, .int .u8 0, .int .u8 0, .int .u8 0, .int .u8 0, .int .u8 0, .int .u8 0, .int .u8 0, .int .u8 0, .int .u8 0, .int .u8 0, .int .u8 0, .int .u8 0, .int .u8 0, .int .u8 0, .int .u8 0, .int .u8 0, .int .u8 0, .int .u8 0, .int .u8 0, .int .u8 0, .int .u8 0, .int .u8 0, .int .u8 ((x0.toNat : Nat) : Int), .int .u8 ((x1.toNat : Nat) : Int), .int .u8 ((x2.toNat : Nat) : Int), .int .u8 ((x3.toNat : Nat) : Int), .int .u8 ((x4.toNat : Nat) : Int)] true))] 1) := by
 refine ok_P vcFm_ok mixed _ (l_fmt5 n m x0.toNat x1.toNat x2.toNat x3.toNat x4.toNat _ _) ?_
 have w1 : IntKind.wrap .i64 (60 - 1) = 59 := by decide
 simp only [true_and, and_true, and64 (show n < 4294967296 by omega), fdiv16, Int.toNat_natCast, w1, toI_int]
 refine ifC (fun h1 => ?_) (fun h2 => ?_)
 ·rw [hexT, if_pos (show 16 ≤ n by omega)] at h
  exact ⟨⟨by omega, by omega⟩, by decide, by decide, by decide, fmt6 (n / 16) (by omega) (dg (n % 16)) x0 x1 x2 x3 x4 h⟩
 ·rw [hexT, if_neg (show ¬ 16 ≤ n by omega), ← bytesL_map] at h
  exact ⟨⟨by omega, by omega⟩, by decide, by decide, by decide, ⟨by decide, allU8_map (dg n :: [x0, x1, x2, x3, x4])⟩, h⟩
theorem fmt4 {m : Int} {Post : Value → Prop} (n : Nat) (hn : n < 65536) (x0 x1 x2 x3 : UInt8) (h : Post (.tuple #[tree 1 0 #[], .string ⟨(hexT 4 n [x0, x1, x2, x3]).toArray⟩])) : OkP 172 [.slice none 0 0, .int .u64 m, .int .i64 16, .bool false, .bool false] 11 Post (stV [(0, some (.slice none 0 0)), (1, some (.int .u64 (n : Int))), (2, some (.int .i64 16)), (3, some (.bool false)), (4, some (.bool false)), (10, some (.slice none 0 0)), (11, some (.string ⟨#[]⟩)), (12, some (.pointer (some ⟨0, 0, none⟩))), (13, some (.int .i64 61)), (14, some (.int .u64 4)), (15, some (.int .u64 16)), (16, some (.int .u64 15))] [(0, some (.cells [.int .u8 0, .int .u8 0, .int .u8 0, .int .u8 0, .int .u8 0, .int .u8 0, .int .u8 0, .int .u8 0, .int .u8 0, .int .u8 0, .int .u8 0, .int .u8 0, .int .u8 0, .int .u8 0, .int .u8 0, .int .u8 0, .int .u8 0, .int .u8 0, .int .u8 0, .int .u8 0, .int .u8 0, .int .u8 0, .int .u8 0, .int .u8 0, .int .u8 0, .int .u8 0, .int .u8 0, .int .u8 0, .int .u8 0, .int .u8 0, .int .u8 0, .int .u8 0, .int .u8 0, .int .u8 0, .int .u8 0, .int .u8 0, .int .u8 0, .int .u8 0, .int .u8 0, .int .u8 0, .int .u8 0, .int .u8 0, .int .u8 0, .int .u8 0, .int .u8 0, .int .u8 0, .int .u8 0, .int .u8 0, .int .u8 0, .int .u8 0, .int .u8 0, .int .u8 0, .int .u8 0, .int .u8 0, .int .u8 0, .int .u8 0, .int .u8 0, .int .u8 0, .int .u8 0, .int .u8 0, .int .u8 0, .int .u8 ((x0.toNat : Nat) : Int), .int .u8 ((x1.toNat : Nat) : Int), .int .u8 ((x2.toNat : Nat) : Int), .int .u8 ((x3.toNat : Nat) : Int)] true))] 1) := by
 refine ok_P vcFm_ok mixed _ (l_fmt4 n m x0.toNat x1.toNat x2.toNat x3.toNat _ _) ?_
 have w1 : IntKind.wrap .i64 (61 - 1) = 60 := by decide
 simp only [true_and, and_true, and64 (show n < 4294967296 by omega), fdiv16, Int.toNat_natCast, w1, toI_int]
 refine ifC (fun h1 => ?_) (fun h2 => ?_)
 ·rw [hexT, if_pos (show 16 ≤ n by omega)] at h
  exact ⟨⟨by omega, by omega⟩, by decide, by decide, by decide, fmt5 (n / 16) (by omega) (dg (n % 16)) x0 x1 x2 x3 h⟩
 ·rw [hexT, if_neg (show ¬ 16 ≤ n by omega), ← bytesL_map] at h
  exact ⟨⟨by omega, by omega⟩, by decide, by decide, by decide, ⟨by decide, allU8_map (dg n :: [x0, x1, x2, x3])⟩, h⟩
theorem fmt3 {m : Int} {Post : Value → Prop} (n : Nat) (hn : n < 1048576) (x0 x1 x2 : UInt8) (h : Post (.tuple #[tree 1 0 #[], .string ⟨(hexT 5 n [x0, x1, x2]).toArray⟩])) : OkP 172 [.slice none 0 0, .int .u64 m, .int .i64 16, .bool false, .bool false] 11 Post (stV [(0, some (.slice none 0 0)), (1, some (.int .u64 (n : Int))), (2, some (.int .i64 16)), (3, some (.bool false)), (4, some (.bool false)), (10, some (.slice none 0 0)), (11, some (.string ⟨#[]⟩)), (12, some (.pointer (some ⟨0, 0, none⟩))), (13, some (.int .i64 62)), (14, some (.int .u64 4)), (15, some (.int .u64 16)), (16, some (.int .u64 15))] [(0, some (.cells [.int .u8 0, .int .u8 0, .int .u8 0, .int .u8 0, .int .u8 0, .int .u8 0, .int .u8 0, .int .u8 0, .int .u8 0, .int .u8 0, .int .u8 0, .int .u8 0, .int .u8 0, .int .u8 0, .int .u8 0, .int .u8 0, .int .u8 0, .int .u8 0, .int .u8 0, .int .u8 0, .int .u8 0, .int .u8 0, .int .u8 0, .int .u8 0, .int .u8 0, .int .u8 0, .int .u8 0, .int .u8 0, .int .u8 0, .int .u8 0, .int .u8 0, .int .u8 0, .int .u8 0, .int .u8 0, .int .u8 0, .int .u8 0, .int .u8 0, .int .u8 0, .int .u8 0, .int .u8 0, .int .u8 0, .int .u8 0, .int .u8 0, .int .u8 0, .int .u8 0, .int .u8 0, .int .u8 0, .int .u8 0, .int .u8 0, .int .u8 0, .int .u8 0, .int .u8 0, .int .u8 0, .int .u8 0, .int .u8 0, .int .u8 0, .int .u8 0, .int .u8 0, .int .u8 0, .int .u8 0, .int .u8 0, .int .u8 0, .int .u8 ((x0.toNat : Nat) : Int), .int .u8 ((x1.toNat : Nat) : Int), .int .u8 ((x2.toNat : Nat) : Int)] true))] 1) := by
 refine ok_P vcFm_ok mixed _ (l_fmt3 n m x0.toNat x1.toNat x2.toNat _ _) ?_
 have w1 : IntKind.wrap .i64 (62 - 1) = 61 := by decide
 simp only [true_and, and_true, and64 (show n < 4294967296 by omega), fdiv16, Int.toNat_natCast, w1, toI_int]
 refine ifC (fun h1 => ?_) (fun h2 => ?_)
 ·rw [hexT, if_pos (show 16 ≤ n by omega)] at h
  exact ⟨⟨by omega, by omega⟩, by decide, by decide, by decide, fmt4 (n / 16) (by omega) (dg (n % 16)) x0 x1 x2 h⟩
 ·rw [hexT, if_neg (show ¬ 16 ≤ n by omega), ← bytesL_map] at h
  exact ⟨⟨by omega, by omega⟩, by decide, by decide, by decide, ⟨by decide, allU8_map (dg n :: [x0, x1, x2])⟩, h⟩
theorem fmt2 {m : Int} {Post : Value → Prop} (n : Nat) (hn : n < 16777216) (x0 x1 : UInt8) (h : Post (.tuple #[tree 1 0 #[], .string ⟨(hexT 6 n [x0, x1]).toArray⟩])) : OkP 172 [.slice none 0 0, .int .u64 m, .int .i64 16, .bool false, .bool false] 11 Post (stV [(0, some (.slice none 0 0)), (1, some (.int .u64 (n : Int))), (2, some (.int .i64 16)), (3, some (.bool false)), (4, some (.bool false)), (10, some (.slice none 0 0)), (11, some (.string ⟨#[]⟩)), (12, some (.pointer (some ⟨0, 0, none⟩))), (13, some (.int .i64 63)), (14, some (.int .u64 4)), (15, some (.int .u64 16)), (16, some (.int .u64 15))] [(0, some (.cells [.int .u8 0, .int .u8 0, .int .u8 0, .int .u8 0, .int .u8 0, .int .u8 0, .int .u8 0, .int .u8 0, .int .u8 0, .int .u8 0, .int .u8 0, .int .u8 0, .int .u8 0, .int .u8 0, .int .u8 0, .int .u8 0, .int .u8 0, .int .u8 0, .int .u8 0, .int .u8 0, .int .u8 0, .int .u8 0, .int .u8 0, .int .u8 0, .int .u8 0, .int .u8 0, .int .u8 0, .int .u8 0, .int .u8 0, .int .u8 0, .int .u8 0, .int .u8 0, .int .u8 0, .int .u8 0, .int .u8 0, .int .u8 0, .int .u8 0, .int .u8 0, .int .u8 0, .int .u8 0, .int .u8 0, .int .u8 0, .int .u8 0, .int .u8 0, .int .u8 0, .int .u8 0, .int .u8 0, .int .u8 0, .int .u8 0, .int .u8 0, .int .u8 0, .int .u8 0, .int .u8 0, .int .u8 0, .int .u8 0, .int .u8 0, .int .u8 0, .int .u8 0, .int .u8 0, .int .u8 0, .int .u8 0, .int .u8 0, .int .u8 0, .int .u8 ((x0.toNat : Nat) : Int), .int .u8 ((x1.toNat : Nat) : Int)] true))] 1) := by
 refine ok_P vcFm_ok mixed _ (l_fmt2 n m x0.toNat x1.toNat _ _) ?_
 have w1 : IntKind.wrap .i64 (63 - 1) = 62 := by decide
 simp only [true_and, and_true, and64 (show n < 4294967296 by omega), fdiv16, Int.toNat_natCast, w1, toI_int]
 refine ifC (fun h1 => ?_) (fun h2 => ?_)
 ·rw [hexT, if_pos (show 16 ≤ n by omega)] at h
  exact ⟨⟨by omega, by omega⟩, by decide, by decide, by decide, fmt3 (n / 16) (by omega) (dg (n % 16)) x0 x1 h⟩
 ·rw [hexT, if_neg (show ¬ 16 ≤ n by omega), ← bytesL_map] at h
  exact ⟨⟨by omega, by omega⟩, by decide, by decide, by decide, ⟨by decide, allU8_map (dg n :: [x0, x1])⟩, h⟩
theorem fmt1 {m : Int} {Post : Value → Prop} (n : Nat) (hn : n < 268435456) (x0 : UInt8) (h : Post (.tuple #[tree 1 0 #[], .string ⟨(hexT 7 n [x0]).toArray⟩])) : OkP 172 [.slice none 0 0, .int .u64 m, .int .i64 16, .bool false, .bool false] 11 Post (stV [(0, some (.slice none 0 0)), (1, some (.int .u64 (n : Int))), (2, some (.int .i64 16)), (3, some (.bool false)), (4, some (.bool false)), (10, some (.slice none 0 0)), (11, some (.string ⟨#[]⟩)), (12, some (.pointer (some ⟨0, 0, none⟩))), (13, some (.int .i64 64)), (14, some (.int .u64 4)), (15, some (.int .u64 16)), (16, some (.int .u64 15))] [(0, some (.cells [.int .u8 0, .int .u8 0, .int .u8 0, .int .u8 0, .int .u8 0, .int .u8 0, .int .u8 0, .int .u8 0, .int .u8 0, .int .u8 0, .int .u8 0, .int .u8 0, .int .u8 0, .int .u8 0, .int .u8 0, .int .u8 0, .int .u8 0, .int .u8 0, .int .u8 0, .int .u8 0, .int .u8 0, .int .u8 0, .int .u8 0, .int .u8 0, .int .u8 0, .int .u8 0, .int .u8 0, .int .u8 0, .int .u8 0, .int .u8 0, .int .u8 0, .int .u8 0, .int .u8 0, .int .u8 0, .int .u8 0, .int .u8 0, .int .u8 0, .int .u8 0, .int .u8 0, .int .u8 0, .int .u8 0, .int .u8 0, .int .u8 0, .int .u8 0, .int .u8 0, .int .u8 0, .int .u8 0, .int .u8 0, .int .u8 0, .int .u8 0, .int .u8 0, .int .u8 0, .int .u8 0, .int .u8 0, .int .u8 0, .int .u8 0, .int .u8 0, .int .u8 0, .int .u8 0, .int .u8 0, .int .u8 0, .int .u8 0, .int .u8 0, .int .u8 0, .int .u8 ((x0.toNat : Nat) : Int)] true))] 1) := by
 refine ok_P vcFm_ok mixed _ (l_fmt1 n m x0.toNat _ _) ?_
 have w1 : IntKind.wrap .i64 (64 - 1) = 63 := by decide
 simp only [true_and, and_true, and64 (show n < 4294967296 by omega), fdiv16, Int.toNat_natCast, w1, toI_int]
 refine ifC (fun h1 => ?_) (fun h2 => ?_)
 ·rw [hexT, if_pos (show 16 ≤ n by omega)] at h
  exact ⟨⟨by omega, by omega⟩, by decide, by decide, by decide, fmt2 (n / 16) (by omega) (dg (n % 16)) x0 h⟩
 ·rw [hexT, if_neg (show ¬ 16 ≤ n by omega), ← bytesL_map] at h
  exact ⟨⟨by omega, by omega⟩, by decide, by decide, by decide, ⟨by decide, allU8_map (dg n :: [x0])⟩, h⟩
theorem fmt0 {m : Int} {Post : Value → Prop} (n : Nat) (hn : n < 4294967296) (h : Post (.tuple #[tree 1 0 #[], .string ⟨(hexT 8 n []).toArray⟩])) : OkP 172 [.slice none 0 0, .int .u64 m, .int .i64 16, .bool false, .bool false] 11 Post (stV [(0, some (.slice none 0 0)), (1, some (.int .u64 (n : Int))), (2, some (.int .i64 16)), (3, some (.bool false)), (4, some (.bool false)), (10, some (.slice none 0 0)), (11, some (.string ⟨#[]⟩)), (12, some (.pointer (some ⟨0, 0, none⟩))), (13, some (.int .i64 65)), (14, some (.int .u64 4)), (15, some (.int .u64 16)), (16, some (.int .u64 15))] [(0, some (.cells [.int .u8 0, .int .u8 0, .int .u8 0, .int .u8 0, .int .u8 0, .int .u8 0, .int .u8 0, .int .u8 0, .int .u8 0, .int .u8 0, .int .u8 0, .int .u8 0, .int .u8 0, .int .u8 0, .int .u8 0, .int .u8 0, .int .u8 0, .int .u8 0, .int .u8 0, .int .u8 0, .int .u8 0, .int .u8 0, .int .u8 0, .int .u8 0, .int .u8 0, .int .u8 0, .int .u8 0, .int .u8 0, .int .u8 0, .int .u8 0, .int .u8 0, .int .u8 0, .int .u8 0, .int .u8 0, .int .u8 0, .int .u8 0, .int .u8 0, .int .u8 0, .int .u8 0, .int .u8 0, .int .u8 0, .int .u8 0, .int .u8 0, .int .u8 0, .int .u8 0, .int .u8 0, .int .u8 0, .int .u8 0, .int .u8 0, .int .u8 0, .int .u8 0, .int .u8 0, .int .u8 0, .int .u8 0, .int .u8 0, .int .u8 0, .int .u8 0, .int .u8 0, .int .u8 0, .int .u8 0, .int .u8 0, .int .u8 0, .int .u8 0, .int .u8 0, .int .u8 0] true))] 1) := by
 refine ok_P vcFm_ok mixed _ (l_fmt0 n m _ _) ?_
 have w1 : IntKind.wrap .i64 (65 - 1) = 64 := by decide
 simp only [true_and, and_true, and64 (show n < 4294967296 by omega), fdiv16, Int.toNat_natCast, w1, toI_int]
 refine ifC (fun h1 => ?_) (fun h2 => ?_)
 ·rw [hexT, if_pos (show 16 ≤ n by omega)] at h
  exact ⟨⟨by omega, by omega⟩, by decide, by decide, by decide, fmt1 (n / 16) (by omega) (dg (n % 16)) h⟩
 ·rw [hexT, if_neg (show ¬ 16 ≤ n by omega), ← bytesL_map] at h
  exact ⟨⟨by omega, by omega⟩, by decide, by decide, by decide, ⟨by decide, allU8_map (dg n :: [])⟩, h⟩
theorem ok_fmtB : EntOk Tryz.prog ⟨172, c_fmtB⟩ := by
 rintro args Post ⟨n, rfl, hn, h⟩
 refine pure_P vcFm_ok mixed (by kernel_rfl) (by kernel_rfl) _ (e_fmt n _ _) ?_
 have w1 : IntKind.wrap .u64 16 = 16 := by decide
 have w2 : IntKind.wrap .u64 4 = 4 := by decide
 have w3 : IntKind.wrap .u64 (16 - 1) = 15 := by decide
 simp only [true_and, w1, w2, w3]
 exact fmt0 n hn h
def c_fmt (args : List Value) (Post : Value → Prop) : Prop := ∃ n : Nat, args = [.int .u64 n, .int .i64 16] ∧ n < 4294967296 ∧ Post (.string (hexS n))
def vcFq : VCall := inlCall Tryz.prog [121] (tabCall [⟨172, c_fmtB⟩] noCall) 3
theorem vcFq_ok : VCallOk Tryz.prog vcFq := inlCall_ok mixed (tabCall_ok (by
 intro e he
 simp only [List.mem_cons, List.not_mem_nil, or_false] at he
 subst he
 exact ok_fmtB) noCall_ok) 3
theorem e_fq (n : Int) (H : HT) (Post : PV) : vcP Tryz.prog vcFq 74 [] [.int .u64 n, .int .i64 16] H Post = (T8 (∃ (n_1 : Nat), eqL [nS, Value.int IntKind.u64 n, vi 16, vb false, vb false] [nS, Value.int IntKind.u64 (↑n_1 : Int), vi 16, vb false, vb false] ∧ n_1 < 4294967296 ∧ T8 (True ∧ Post (vs (hexS n_1))))) := by kernel_rfl
end Go.Proofs.YtojlhapbngcjkaaGreatDoor
noncomputable section
namespace Go.Proofs.YtojlhapbngcjkaaGreatDoor
open Go Go.RowKit Go.Shelf Go.Lib
set_option maxRecDepth 100000
section
variable {P : Program} {nm : String} {ρ : Ren} {i0 : TypeInfo} {z : Value} {sz bytes : Nat}
end
end Go.Proofs.YtojlhapbngcjkaaGreatDoor

noncomputable section
namespace Go.Proofs.YtojlhapbngcjkaaGreatDoor
open Go Go.RowKit
set_option maxRecDepth 100000
set_option maxHeartbeats 8000000
theorem tree_arg {ρ : Place} {W : Base} {hp : Tr AObj} {nx : Nat} {w : World} (hrel : Rel ρ W hp nx w) {sz n : Nat} {els : Array Value} {x' : Value} (hx : VR ρ (tree sz n els) x') :
  ∃ (a : Option Addr) (cap : Nat) (cells : List Value), x' = .slice a n cap ∧ els.size = n ∧ cells.length = n * sz ∧ (∀ (j : Nat) (u : Value), cells[j]? = some u → ∃ ad, a = some ad ∧ w.cell? (ad.add j) = some u) ∧
   (∀ (i : Nat) (u : Value), els[i]? = some u → u.cells.size = sz) ∧ ∀ (i j : Nat) (u v v' : Value), els[i]? = some u → u.cells[j]? = some v → cells[i * sz + j]? = some v' → VR0 ρ.fr v v' := by
 cases hx with
 | @tree _ _ cap c o _ cs t fz hb h1 h2 h3 h4 h5 =>
  have hheap := hrel.frz c _ hb
  have hl : ((cs.toList.drop o).take (n * sz)).length = n * sz := by
   rw [List.length_take, List.length_drop, Array.length_toList]
   omega
  have get : ∀ (j : Nat) (u : Value), ((cs.toList.drop o).take (n * sz))[j]? = some u → cs[o + j]? = some u := fun j u hj => by
   have hlt : j < n * sz := by
    rcases Nat.lt_or_ge j (n * sz) with h | h
    ·exact h
    ·rw [List.getElem?_eq_none (by omega)] at hj; cases hj
   rw [List.getElem?_take, if_pos hlt, List.getElem?_drop, Array.getElem?_toList] at hj
   exact hj
  refine ⟨_, cap, _, rfl, h1, hl, fun j u hj => ⟨_, rfl, ?_⟩, h4, fun i j u v v' hu hv hv' => h5 i j u v v' hu hv ?_⟩
  ·have e := get j u hj
   have ha : (⟨c, o, none⟩ : Addr).add j = ⟨c, o + j, none⟩ := by
    unfold Addr.add
    split
    ·rename_i h0
     subst h0
     rfl
    ·rfl
   rw [ha]
   unfold World.cell?
   dsimp only
   rw [hheap]
   exact e
  ·rw [Nat.add_assoc]
   exact get _ _ hv'
 | treeNil _ a cap =>
  refine ⟨a, cap, [], rfl, rfl, by simp, fun j u hj => by simp at hj, fun i u hu => by simp at hu, fun i j u v v' hu => by simp at hu⟩
def renJoin : Shelf.Ren := ⟨fun x => if x = 156 then 33 else if x = 165 then 62 else if x = 166 then 55 else if x = 169 then 25 else if x = 240 then 111 else if x = 241 then 115 else if x = 276 then 163 else if x = 277 then 165 else x, fun x => if x = 0 then 0 else if x = 3 then 3 else if x = 4 then 4 else if x = 5 then 5 else if x = 9 then 9 else if x = 20 then 20 else if x = 31 then 46 else if x = 37 then 76 else if x = 70 then 75 else if x = 72 then 78 else if x = 75 then 138 else if x = 76 then 139 else if x = 80 then 98 else if x = 127 then 144 else if x = 164 then 252 else x, fun x => x⟩
theorem laysJoin : Lays.n156 Tryz.prog renJoin where
 mixed := by kernel_rfl
 f156 := by kernel_rfl
 f165 := by kernel_rfl
 f166 := by kernel_rfl
 f169 := by kernel_rfl
 f240 := by kernel_rfl
 f241 := by kernel_rfl
 f276 := by kernel_rfl
 f277 := by kernel_rfl
 t0 := by kernel_rfl
 a0 := fun w => by kernel_rfl
 z0 := fun w => by kernel_rfl
 v0 := fun w => by kernel_rfl
 t3 := by kernel_rfl
 a3 := fun w => by kernel_rfl
 z3 := fun w => by kernel_rfl
 v3 := fun w => by kernel_rfl
 t4 := by kernel_rfl
 a4 := fun w => by kernel_rfl
 z4 := fun w => by kernel_rfl
 v4 := fun w => by kernel_rfl
 t9 := by kernel_rfl
 a9 := fun w => by kernel_rfl
 z9 := fun w => by kernel_rfl
 v9 := fun w => by kernel_rfl
 t20 := by kernel_rfl
 a20 := fun w => by kernel_rfl
 z20 := fun w => by kernel_rfl
 v20 := fun w => by kernel_rfl
 t31 := by kernel_rfl
 a31 := fun w => by kernel_rfl
 z31 := fun w => by kernel_rfl
 v31 := fun w => by kernel_rfl
 t37 := by kernel_rfl
 a37 := fun w => by kernel_rfl
 z37 := fun w => by kernel_rfl
 v37 := fun w => by kernel_rfl
 t70 := by kernel_rfl
 a70 := fun w => by kernel_rfl
 z70 := fun w => by kernel_rfl
 v70 := fun w => by kernel_rfl
 t72 := by kernel_rfl
 a72 := fun w => by kernel_rfl
 z72 := fun w => by kernel_rfl
 v72 := fun w => by kernel_rfl
 t75 := by kernel_rfl
 a75 := fun w => by kernel_rfl
 z75 := fun w => by kernel_rfl
 v75 := fun w => by kernel_rfl
 t76 := by kernel_rfl
 a76 := fun w => by kernel_rfl
 z76 := fun w => by kernel_rfl
 v76 := fun w => by kernel_rfl
 t127 := by kernel_rfl
 a127 := fun w => by kernel_rfl
 z127 := fun w => by kernel_rfl
 v127 := fun w => by kernel_rfl
 t164 := by kernel_rfl
 a164 := fun w => by kernel_rfl
 z164 := fun w => by kernel_rfl
 v164 := fun w => by kernel_rfl
theorem extraJoin : Builder.Extra Tryz.prog renJoin where
 sizeBuilder := by kernel_rfl
 liesBuilder := by kernel_rfl
 t5 := by kernel_rfl
 a5 := fun w => by kernel_rfl
 z5 := fun w => by kernel_rfl
 v5 := fun w => by kernel_rfl
 infoByte := by kernel_rfl
 cellsByte := by kernel_rfl
 sizeByte := by kernel_rfl
 neB5 := by decide
def renRep : Shelf.Ren := ⟨fun x => if x = 99 then 123 else if x = 105 then 76 else if x = 165 then 62 else if x = 166 then 55 else if x = 169 then 25 else if x = 170 then 124 else if x = 206 then 116 else if x = 212 then 122 else if x = 240 then 111 else if x = 241 then 115 else if x = 263 then 173 else if x = 264 then 174 else if x = 276 then 163 else if x = 277 then 165 else x, fun x => if x = 0 then 0 else if x = 3 then 3 else if x = 4 then 4 else if x = 5 then 5 else if x = 9 then 9 else if x = 20 then 20 else if x = 37 then 76 else if x = 46 then 206 else if x = 51 then 160 else if x = 53 then 145 else if x = 70 then 75 else if x = 72 then 78 else if x = 75 then 138 else if x = 76 then 139 else if x = 80 then 98 else if x = 109 then 208 else if x = 127 then 144 else if x = 146 then 262 else if x = 148 then 264 else if x = 164 then 252 else x, fun x => x⟩
theorem laysRep : Lays.n105 Tryz.prog renRep where
 mixed := by kernel_rfl
 f99 := by kernel_rfl
 f105 := by kernel_rfl
 f165 := by kernel_rfl
 f166 := by kernel_rfl
 f169 := by kernel_rfl
 f170 := by kernel_rfl
 f206 := by kernel_rfl
 f212 := by kernel_rfl
 f240 := by kernel_rfl
 f241 := by kernel_rfl
 f263 := by kernel_rfl
 f264 := by kernel_rfl
 f276 := by kernel_rfl
 f277 := by kernel_rfl
 t0 := by kernel_rfl
 a0 := fun w => by kernel_rfl
 z0 := fun w => by kernel_rfl
 v0 := fun w => by kernel_rfl
 t3 := by kernel_rfl
 a3 := fun w => by kernel_rfl
 z3 := fun w => by kernel_rfl
 v3 := fun w => by kernel_rfl
 t4 := by kernel_rfl
 a4 := fun w => by kernel_rfl
 z4 := fun w => by kernel_rfl
 v4 := fun w => by kernel_rfl
 t5 := by kernel_rfl
 a5 := fun w => by kernel_rfl
 z5 := fun w => by kernel_rfl
 v5 := fun w => by kernel_rfl
 t9 := by kernel_rfl
 a9 := fun w => by kernel_rfl
 z9 := fun w => by kernel_rfl
 v9 := fun w => by kernel_rfl
 t20 := by kernel_rfl
 a20 := fun w => by kernel_rfl
 z20 := fun w => by kernel_rfl
 v20 := fun w => by kernel_rfl
 t37 := by kernel_rfl
 a37 := fun w => by kernel_rfl
 z37 := fun w => by kernel_rfl
 v37 := fun w => by kernel_rfl
 t46 := by kernel_rfl
 a46 := fun w => by kernel_rfl
 z46 := fun w => by kernel_rfl
 v46 := fun w => by kernel_rfl
 t51 := by kernel_rfl
 a51 := fun w => by kernel_rfl
 z51 := fun w => by kernel_rfl
 v51 := fun w => by kernel_rfl
 t53 := by kernel_rfl
 a53 := fun w => by kernel_rfl
 z53 := fun w => by kernel_rfl
 v53 := fun w => by kernel_rfl
 t70 := by kernel_rfl
 a70 := fun w => by kernel_rfl
 z70 := fun w => by kernel_rfl
 v70 := fun w => by kernel_rfl
 t72 := by kernel_rfl
 a72 := fun w => by kernel_rfl
 z72 := fun w => by kernel_rfl
 v72 := fun w => by kernel_rfl
 t75 := by kernel_rfl
 a75 := fun w => by kernel_rfl
 z75 := fun w => by kernel_rfl
 v75 := fun w => by kernel_rfl
 t76 := by kernel_rfl
 a76 := fun w => by kernel_rfl
 z76 := fun w => by kernel_rfl
 v76 := fun w => by kernel_rfl
 t109 := by kernel_rfl
 a109 := fun w => by kernel_rfl
 z109 := fun w => by kernel_rfl
 v109 := fun w => by kernel_rfl
 t127 := by kernel_rfl
 a127 := fun w => by kernel_rfl
 z127 := fun w => by kernel_rfl
 v127 := fun w => by kernel_rfl
 t146 := by kernel_rfl
 a146 := fun w => by kernel_rfl
 z146 := fun w => by kernel_rfl
 v146 := fun w => by kernel_rfl
 t148 := by kernel_rfl
 a148 := fun w => by kernel_rfl
 z148 := fun w => by kernel_rfl
 v148 := fun w => by kernel_rfl
 t164 := by kernel_rfl
 a164 := fun w => by kernel_rfl
 z164 := fun w => by kernel_rfl
 v164 := fun w => by kernel_rfl
theorem extraRep : Builder.Extra Tryz.prog renRep where
 sizeBuilder := by kernel_rfl
 liesBuilder := by kernel_rfl
 t5 := by kernel_rfl
 a5 := fun w => by kernel_rfl
 z5 := fun w => by kernel_rfl
 v5 := fun w => by kernel_rfl
 infoByte := by kernel_rfl
 cellsByte := by kernel_rfl
 sizeByte := by kernel_rfl
 neB5 := by decide
def joinB (l : List ByteArray) (sep : ByteArray) : ByteArray := ⟨(Lib.join (l.map (·.data.toList)) sep.data.toList).toArray⟩
def c_join (args : List Value) (Post : Value → Prop) : Prop := ∃ (l : List ByteArray) (sep : ByteArray), args = [tree 1 l.length (encL l), .string sep] ∧ l.length ≤ 140737488355328 ∧ (joinB l sep).size ≤ 140737488355328 ∧ Post (.string (joinB l sep))
theorem tree_cap {ρ : Place} {sz n : Nat} {els : Array Value} {x' : Value} (hx : VR ρ (tree sz n els) x') (hn : 0 < n) : ∃ c o cap, x' = .slice (some ⟨c, o, none⟩) n cap ∧ n ≤ cap := by
 cases hx with
 | tree hb h1 h2 => exact ⟨_, _, _, rfl, h2⟩
 | treeNil => omega
theorem str_of {fr : Nat → Option Obj} {y : ByteArray} {v : Value} (h : VR0 fr (.string y) v) : v = .string y := by
 cases h
 rfl
theorem ok_join : EntOk Tryz.prog ⟨33, c_join⟩ := by
 rintro args Post ⟨l, sep, rfl, hl, hb, h⟩
 intro W ρ w args' hrel hargs
 cases hargs with
 | cons hv hnil =>
 cases hnil with
 | cons hs hnil =>
 cases hnil
 cases hs
 have fin : ∀ w', Below w.heap.size w w' → ∃ v hp' nx' v' ρ', Post v ∧ Ending.returned (.string (joinB l sep)) = .returned v' ∧ VR0 ρ'.fr v v' ∧ Rel ρ' W hp' nx' w' ∧ StepG 0 ρ ρ' := fun w' hw =>
  ⟨_, .e, 0, _, ρ, h, rfl, .string _, hrel.later hw, .refl _ _⟩
 obtain ⟨a, cap0, cells, e0, h1, hlen, hcell, h4, h5⟩ := tree_arg hrel hv
 rcases Nat.eq_zero_or_pos l.length with h0 | hpos
 ·obtain rfl : l = [] := List.eq_nil_of_length_eq_zero h0
  subst e0
  refine (Any.strings_Join_none laysJoin extraJoin a cap0 sep w).mono ?_
  rintro e w' ⟨rfl, rfl⟩
  exact fin _ (Below.refl _ _)
 ·obtain ⟨bk, o, cap, rfl, hcap⟩ := tree_cap hv hpos
  cases e0
  have cell : ∀ (j : Nat) (y : ByteArray), l[j]? = some y → w.cell? ⟨bk, o + j, none⟩ = some (.string y) := fun j y hy => by
   have hj : j < cells.length := by
    have := (List.getElem?_eq_some_iff.1 hy).1
    omega
   obtain ⟨ad, e, hw⟩ := hcell j _ (List.getElem?_eq_getElem hj)
   cases e
   have he : (encL l)[j]? = some (.string y) := by
    unfold encL
    simp only [List.getElem?_toArray, List.getElem?_map, hy]
    rfl
   have := str_of (h5 j 0 (.string y) (.string y) cells[j] he rfl (by rw [Nat.mul_one, Nat.add_zero]; exact List.getElem?_eq_getElem hj))
   rw [this] at hw
   have e : (⟨bk, o, none⟩ : Addr).add j = ⟨bk, o + j, none⟩ := by unfold Addr.add; split <;> simp_all
   rwa [e] at hw
  have hbk : bk < w.heap.size := by
   have := cell 0 l[0] (List.getElem?_eq_getElem hpos)
   rcases Nat.lt_or_ge bk w.heap.size with h' | h'
   ·exact h'
   ·simp [World.cell?, Array.getElem?_eq_none h'] at this
  refine (Any.strings_Join laysJoin extraJoin bk o _ l sep w cell hbk hl hcap (by simpa [joinB, ByteArray.size] using hb)).mono ?_
  rintro e w' ⟨rfl, hw⟩
  exact fin _ hw
def isStr : Value → Bool
 | .string _ => true
 | _ => false
theorem encL_strs : ∀ {l : List Value}, l.all isStr = true → encL (l.map toS) = l.toArray := by
 intro l h
 unfold encL
 congr 1
 rw [List.map_map]
 induction l with
 | nil => rfl
 | cons v l ih =>
  simp only [List.all_cons, Bool.and_eq_true] at h
  rw [List.map_cons, ih h.2]
  congr 1
  cases v <;> try (cases h.1)
  rfl
def c_joinV (args : List Value) (Post : Value → Prop) : Prop := match args with
 | [.func (.via 1 p n false) els c, .string sep] => (p.isEmpty && c.isEmpty && n.beq els.size && els.toList.all isStr) = true ∧ els.size ≤ 140737488355328 ∧ (joinB (els.toList.map toS) sep).size ≤ 140737488355328 ∧ Post (.string (joinB (els.toList.map toS) sep))
 | _ => False
theorem ok_joinV : EntOk Tryz.prog ⟨33, c_joinV⟩ := by
 intro args Post h
 unfold c_joinV at h
 dsimp only at h
 split at h
 case h_2 => exact h.elim
 rename_i p n els c sep
 obtain ⟨h1, h2, h3, h4⟩ := h
 simp only [Bool.and_eq_true, Array.isEmpty_iff] at h1
 obtain ⟨⟨⟨rfl, rfl⟩, hn⟩, hs⟩ := h1
 obtain rfl := Nat.eq_of_beq_eq_true hn
 refine ok_join _ _ ⟨els.toList.map toS, sep, ?_, by simpa using h2, h3, h4⟩
 have e := encL_strs hs
 rw [e]
 simp
def repB (s : ByteArray) (n : Nat) : ByteArray := ⟨(Lib.repeatL s.data.toList n).toArray⟩
def c_rep (args : List Value) (Post : Value → Prop) : Prop := ∃ (s : ByteArray) (n : Int), args = [.string s, .int .i64 n] ∧ 0 ≤ n ∧ n ≤ 1000000 ∧ s.size ≤ 1000000 ∧ Post (.string (repB s n.toNat))
theorem ok_rep : EntOk Tryz.prog ⟨76, c_rep⟩ := by
 rintro args Post ⟨s, n, rfl, h0, h1, h2, h⟩
 intro W ρ w args' hrel hargs
 cases hargs with
 | cons hv hnil =>
 cases hnil with
 | cons hs hnil =>
 cases hnil
 cases hv
 cases hs
 obtain ⟨k, rfl⟩ := Int.eq_ofNat_of_zero_le h0
 have hk : k ≤ 1000000 := by omega
 have hm : s.size * k ≤ 1000000 * 1000000 := Nat.mul_le_mul h2 hk
 refine (Any.strings_Repeat laysRep extraRep s k w (by omega) (by omega)).mono ?_
 rintro e w' ⟨rfl, hw⟩
 exact ⟨_, .e, 0, _, ρ, h, rfl, .string _, hrel.later hw, .refl _ _⟩
theorem ok_fmt : EntOk Tryz.prog ⟨74, c_fmt⟩ := by
 rintro args Post ⟨n, rfl, hn, h⟩
 refine pure_P vcFq_ok mixed (by kernel_rfl) (by kernel_rfl) _ (e_fq n _ _) ?_
 simp only [true_and, and_true]
 exact ⟨n, rfl, hn, h⟩
def sumS (t : ByteArray) : ByteArray := repB ⟨#[48]⟩ (8 - (hexS (crcB t).toNat).size) ++ hexS (crcB t).toNat
def c_sum (args : List Value) (Post : Value → Prop) : Prop := ∃ t : ByteArray, args = [.string t] ∧ t.size ≤ 1099511627776 ∧ Post (.string (sumS t))
def vcSm : VCall := tabCall [⟨75, c_crc⟩, ⟨74, c_fmt⟩, ⟨76, c_rep⟩] noCall
theorem vcSm_ok : VCallOk Tryz.prog vcSm := tabCall_ok (by
 intro e he
 simp only [List.mem_cons, List.not_mem_nil, or_false] at he
 rcases he with rfl | rfl | rfl
 ·exact ok_crc
 ·exact ok_fmt
 ·exact ok_rep) noCall_ok
theorem e_sum (t : ByteArray) (H : HT) (Post : PV) : vcP Tryz.prog vcSm 44 [] [.string t] H Post = (T2 (∃ (s : ByteArray), eqL [vs t] [vs s] ∧ s.size ≤ 4611686018427387904 ∧ True ∧ ∃ (n : Nat), eqL [Value.int IntKind.u64 (IntKind.wrap IntKind.u64 (↑(BitVec.toNat (crcB s)) : Int)), vi 16] [Value.int IntKind.u64 (↑n : Int), vi 16] ∧ n < 4294967296 ∧ T4 (∃ (s : ByteArray), ∃ (n_1 : Int), eqL [vs (ByteArray.mk #[48]), vi (IntKind.wrap IntKind.i64 (8 - (↑(ByteArray.size (hexS n)) : Int)))] [vs s, vi n_1] ∧ 0 ≤ n_1 ∧ n_1 ≤ 1000000 ∧ s.size ≤ 1000000 ∧ True ∧ ByteArray.size (repB s (Int.toNat n_1)) + ByteArray.size (hexS n) ≤ 9223372036854775807 ∧ T2 (Post (vs (repB s (Int.toNat n_1) ++ hexS n)))))) := by kernel_rfl
theorem hexT_small : ∀ (f n : Nat) (acc : List UInt8), n < 16 ^ f → 0 < f → (hexT f n acc).length ≤ f + acc.length
 | 0, n, acc, _, h => by omega
 | f + 1, n, acc, hn, _ => by
  unfold hexT
  split
  ·rename_i h16
   have hf : 0 < f := by
    rcases Nat.eq_zero_or_pos f with rfl | h
    ·simp at hn; omega
    ·exact h
   have := hexT_small f (n / 16) (dg (n % 16) :: acc) (by rw [Nat.pow_succ] at hn; omega) hf
   simp at this
   omega
  ·simp
   omega
theorem hexS_size {n : Nat} (hn : n < 4294967296) : (hexS n).size ≤ 8 := by
 have := hexT_small 8 n [] (by simpa using hn) (by decide)
 simpa [hexS, ByteArray.size] using this
theorem rep_size (n : Nat) : (repB ⟨#[48]⟩ n).size = n := by
 simp [repB, ByteArray.size, Lib.repeatL_length]
theorem wI {x : Int} (h0 : 0 ≤ x) (h1 : x < 4611686018427387904) : IntKind.wrap .i64 x = x := by
 simp [IntKind.wrap, IntKind.bits, IntKind.signed]
 omega
theorem wN64 {n : Nat} (h : n < 4294967296) : IntKind.wrap .u64 (n : Int) = (n : Int) := by
 simp [IntKind.wrap, IntKind.bits, IntKind.signed]
 omega
theorem ok_sum : EntOk Tryz.prog ⟨44, c_sum⟩ := by
 rintro args Post ⟨t, rfl, ht, h⟩
 refine pure_P vcSm_ok mixed (by kernel_rfl) (by kernel_rfl) _ (e_sum t _ _) ?_
 simp only [true_and, and_true]
 have hlt : (crcB t).toNat < 4294967296 := (crcB t).isLt
 have h8 := hexS_size hlt
 refine ⟨t, rfl, by omega, (crcB t).toNat, by rw [wN64 hlt], hlt, ⟨#[48]⟩, ((8 - (hexS (crcB t).toNat).size : Nat) : Int), ?_, by omega, by omega, by decide, ?_, ?_⟩
 ·rw [wI (by omega) (by omega), show (8 : Int) - ((hexS (crcB t).toNat).size : Nat) = ((8 - (hexS (crcB t).toNat).size : Nat) : Int) by omega]
 ·rw [Int.toNat_natCast, rep_size]
  omega
 ·rw [Int.toNat_natCast]
  exact h
def hexB : ByteArray := ⟨#[48, 49, 50, 51, 52, 53, 54, 55, 56, 57, 97, 98, 99, 100, 101, 102]⟩
def isHex (x : UInt8) : Bool := (48 ≤ x && x ≤ 57) || (97 ≤ x && x ≤ 102)
def c_trim (args : List Value) (Post : Value → Prop) : Prop := ∃ v : ByteArray, args = [.string v, .string hexB] ∧ v.size = 8 ∧ ∀ r : ByteArray, (r = ⟨#[]⟩ ↔ v.data.toList.all isHex = true) → Post (.string r)
def vcCk : VCall := inlCall Tryz.prog [41, 65, 116, 42, 66] (tabCall [⟨43, c_trim⟩, ⟨44, c_sum⟩] noCall) 5
theorem e_check (t : ByteArray) (H : HT) (Post : PV) : vcP Tryz.prog vcCk 14 [] [.string t] H Post = (let q15 := T2 (Post (vi 5)); let q10 := ((↑t.size : Int) - 18); let q5 := IntKind.wrap IntKind.i64 q10; let q2 := Int.toNat q5; let q3 := ByteArray.extract t 0 q2; let q14 := ByteArray.size q3; let q4 := ByteArray.extract t q2 t.size; let q1 := ByteArray.extract q4 9 (ByteArray.size q4); let q13 := ByteArray.size q1; let q12 := True ∧ Post (vi 5); let q11 := toI (vi 0) ≤ 8 ∧ True ∧ 0 ≤ 8 ∧ 8 ≤ ByteArray.size q1; let q9 := (↑(ByteArray.size (ByteArray.mk #[67, 72, 69, 67, 75, 83, 85, 77, 32])) : Int); let q8 := ((↑q14 : Int) - (↑1 : Int)); let q7 := ((↑q13 : Int) - (↑1 : Int)); let q6 := [vs (ByteArray.extract q1 0 8), vs (ByteArray.mk #[48, 49, 50, 51, 52, 53, 54, 55, 56, 57, 97, 98, 99, 100, 101, 102])]; T4 (T2 (True ∧ pIf (decide (IntKind.wrap IntKind.i64 q10 < 0)) (T2 (Post (vi 3))) (T2 ((0 ≤ IntKind.wrap IntKind.i64 q10 ∧ True ∧ 0 ≤ Int.toNat q5 ∧ Int.toNat q5 ≤ t.size) ∧ T2 ((True ∧ 0 ≤ IntKind.wrap IntKind.i64 q10 ∧ Int.toNat q5 ≤ t.size ∧ t.size ≤ t.size) ∧ T16 (True ∧ pIf (decide ((↑(ByteArray.size q4) : Int) ≥ (↑9 : Int))) (T4 ((toI (vi 0) ≤ q9 ∧ True ∧ 0 ≤ 9 ∧ 9 ≤ ByteArray.size q4) ∧ T2 (pIf (decide (ByteArray.extract q4 0 9 = ByteArray.mk #[67, 72, 69, 67, 75, 83, 85, 77, 32])) (T4 (T2 ((True ∧ toI (vi 0) ≤ q9 ∧ 9 ≤ ByteArray.size q4 ∧ ByteArray.size q4 ≤ ByteArray.size q4) ∧ T16 (T8 (pIf (decide ((↑q13 : Int) ≥ (↑1 : Int))) (T4 (T2 (True ∧ (True ∧ 0 ≤ IntKind.wrap IntKind.i64 q7 ∧ Int.toNat (IntKind.wrap IntKind.i64 q7) ≤ ByteArray.size q1 ∧ ByteArray.size q1 ≤ ByteArray.size q1) ∧ T2 (pIf (decide (ByteArray.extract q1 (Int.toNat (IntKind.wrap IntKind.i64 q7)) q13 = ByteArray.mk #[10])) (T8 (pIf (decide (IntKind.wrap IntKind.i64 q10 > 0)) (T8 (T2 (True ∧ pIf (decide ((↑q14 : Int) ≥ (↑1 : Int))) (T4 (T2 (True ∧ (True ∧ 0 ≤ IntKind.wrap IntKind.i64 q8 ∧ Int.toNat (IntKind.wrap IntKind.i64 q8) ≤ ByteArray.size q3 ∧ ByteArray.size q3 ≤ ByteArray.size q3) ∧ T2 (pIf (decide (ByteArray.extract q3 (Int.toNat (IntKind.wrap IntKind.i64 q8)) q14 = ByteArray.mk #[10])) (T4 (T2 (True ∧ q11 ∧ T2 (∃ (v : ByteArray), eqL q6 [vs v, vs hexB] ∧ v.size = 8 ∧ ∀ (r : ByteArray), (r = ByteArray.mk #[] ↔ List.all (Array.toList (ByteArray.data v)) isHex = true) → True ∧ pIf (!decide (r = ByteArray.mk #[])) q15 (T2 (∃ (t_1 : ByteArray), eqL [vs q3] [vs t_1] ∧ t_1.size ≤ 1099511627776 ∧ True ∧ pIf (!decide (ByteArray.extract q1 0 8 = sumS t_1)) (T2 (Post (vi 16))) (T2 (Post (vi 0))))))))) (T8 (Post (vi 5))))))) (T8 q12)))) (T4 (q11 ∧ T2 (∃ (v : ByteArray), eqL q6 [vs v, vs hexB] ∧ v.size = 8 ∧ ∀ (r : ByteArray), (r = ByteArray.mk #[] ↔ List.all (Array.toList (ByteArray.data v)) isHex = true) → True ∧ pIf (!decide (r = ByteArray.mk #[])) q15 (T2 (∃ (t_1 : ByteArray), eqL [vs q3] [vs t_1] ∧ t_1.size ≤ 1099511627776 ∧ True ∧ pIf (!decide (ByteArray.extract q1 0 8 = sumS t_1)) (T2 (Post (vi 16))) (T2 (Post (vi 0)))))))))) (T8 q12))))) (T8 q15)))))) (T16 (T4 (T2 q12)))))) (T16 (T8 (Post (vi 5))))))))))) := by kernel_rfl
abbrev cksB : ByteArray := ⟨#[67, 72, 69, 67, 75, 83, 85, 77, 32]⟩
abbrev nlB : ByteArray := ⟨#[10]⟩
def chk (t : ByteArray) : Int :=
 if t.size < 18 then 3
 else if ¬ t.extract (t.size - 18) (t.size - 9) = cksB then 5
 else if ¬ t.extract (t.size - 1) t.size = nlB then 5
 else if 18 < t.size ∧ ¬ t.extract (t.size - 19) (t.size - 18) = nlB then 5
 else if (t.extract (t.size - 9) (t.size - 1)).data.toList.all isHex = false then 5
 else if t.extract (t.size - 9) (t.size - 1) = sumS (t.extract 0 (t.size - 18)) then 0 else 16
def c_check (args : List Value) (Post : Value → Prop) : Prop := ∃ t : ByteArray, args = [.string t] ∧ t.size ≤ 1099511627776 ∧ Post (.int .i64 (chk t))
theorem check_tail {Post : Value → Prop} {u v0 : ByteArray} (hv : v0.size = 8) (hu : u.size ≤ 1099511627776) (h : Post (.int .i64 (if v0.data.toList.all isHex = false then 5 else if v0 = sumS u then 0 else 16))) :
  ∃ v : ByteArray, eqL [.string v0, .string hexB] [.string v, .string hexB] ∧ v.size = 8 ∧ ∀ r : ByteArray, (r = ⟨#[]⟩ ↔ v.data.toList.all isHex = true) → pIf (!decide (r = ⟨#[]⟩)) (Post (.int .i64 5)) (∃ t_1 : ByteArray, eqL [.string u] [.string t_1] ∧ t_1.size ≤ 1099511627776 ∧ pIf (!decide (v0 = sumS t_1)) (Post (.int .i64 16)) (Post (.int .i64 0))) := by
 refine ⟨v0, rfl, hv, fun r hr => ?_⟩
 cases hx : v0.data.toList.all isHex with
 | false =>
  rw [if_pos hx] at h
  exact pIf_intro (fun _ => h) (fun e => by
   have : r = ⟨#[]⟩ := by simpa using e
   rw [hr.1 this] at hx
   cases hx)
 | true =>
  rw [if_neg (by rw [hx]; decide)] at h
  refine pIf_intro (fun e => ?_) (fun _ => ⟨u, rfl, hu, ?_⟩)
  ·rw [hr.2 hx] at e
   simp at e
  ·by_cases he : v0 = sumS u
   ·rw [if_pos he] at h
    exact pIf_intro (fun e => by rw [decide_eq_true he] at e; cases e) (fun _ => h)
   ·rw [if_neg he] at h
    exact pIf_intro (fun _ => h) (fun e => by rw [decide_eq_false he] at e; cases e)
theorem ok_check (htrim : EntOk Tryz.prog ⟨43, c_trim⟩) : EntOk Tryz.prog ⟨14, c_check⟩ := by
 rintro args Post ⟨t, rfl, ht, h⟩
 have hc : VCallOk Tryz.prog vcCk := inlCall_ok mixed (tabCall_ok (by
  intro e he
  simp only [List.mem_cons, List.not_mem_nil, or_false] at he
  rcases he with rfl | rfl
  ·exact htrim
  ·exact ok_sum) noCall_ok) 5
 refine pure_P hc mixed (by kernel_rfl) (by kernel_rfl) _ (e_check t _ _) ?_
 simp only [true_and]
 unfold chk at h
 have ex : ∀ (a b c d : Nat), (t.extract a b).extract c d = t.extract (a + c) (min (a + d) b) := fun a b c d => ByteArray.extract_extract
 by_cases h18 : t.size < 18
 ·rw [if_pos h18] at h
  have e : IntKind.wrap .i64 ((t.size : Int) - 18) = (t.size : Int) - 18 := by
   simp [IntKind.wrap, IntKind.bits, IntKind.signed]
   omega
  rw [e]
  exact ifC (fun _ => h) (fun hn => by omega)
 ·rw [if_neg h18] at h
  obtain ⟨n, hn⟩ : ∃ n, t.size = n + 18 := ⟨t.size - 18, by omega⟩
  have w0 : IntKind.wrap .i64 ((t.size : Int) - 18) = (n : Int) := by
   rw [show (t.size : Int) - 18 = (n : Int) by omega]
   exact wI (by omega) (by omega)
  have s1 : (t.extract n t.size).size = 18 := by rw [ByteArray.size_extract]; omega
  have x2 : (t.extract n t.size).extract 9 18 = t.extract (n + 9) (n + 18) := by rw [ex, hn]; congr 1; omega
  have s2 : (t.extract (n + 9) (n + 18)).size = 9 := by rw [ByteArray.size_extract]; omega
  have x1 : (t.extract n t.size).extract 0 9 = t.extract n (n + 9) := by rw [ex, hn]; congr 1; omega
  have x3 : (t.extract (n + 9) (n + 18)).extract 8 9 = t.extract (n + 17) (n + 18) := by rw [ex]; congr 1; omega
  have x4 : (t.extract (n + 9) (n + 18)).extract 0 8 = t.extract (n + 9) (n + 17) := by rw [ex]; congr 1; omega
  have s3 : (t.extract 0 n).size = n := by rw [ByteArray.size_extract]; omega
  have s4 : (t.extract (n + 9) (n + 17)).size = 8 := by rw [ByteArray.size_extract]; omega
  have w2 : IntKind.wrap .i64 ((9 : Int) - ((1 : Nat) : Int)) = ((8 : Nat) : Int) := by decide
  have w3 : 0 < n → IntKind.wrap .i64 ((n : Int) - ((1 : Nat) : Int)) = ((n - 1 : Nat) : Int) := fun h0 => by
   rw [show (n : Int) - ((1 : Nat) : Int) = ((n - 1 : Nat) : Int) by omega]
   exact wI (by omega) (by omega)
  have x5 : 0 < n → (t.extract 0 n).extract (n - 1) n = t.extract (n - 1) n := fun h0 => by rw [ex]; congr 1 <;> omega
  rw [show t.size - 18 = n by omega, show t.size - 9 = n + 9 by omega, show t.size - 1 = n + 17 by omega, show t.size - 19 = n - 1 by omega] at h
  rw [hn] at h
  simp only [w0, Int.toNat_natCast, s1, x1, x2, s2, x3, x4, s3, toI_int, true_and, and_true]
  rw [show IntKind.wrap .i64 (((9 : Nat) : Int) - 1) = 8 by decide]
  have hu : (t.extract 0 n).size ≤ 1099511627776 := by rw [s3]; omega
  refine ifC (fun hneg => by omega) (fun _ => ⟨⟨by omega, by omega, by omega⟩, ⟨by omega, by omega, by omega⟩, ?_⟩)
  refine ifC (fun _ => ⟨⟨by decide, by decide, by decide⟩, ?_⟩) (fun hn => absurd (by decide) hn)
  refine ifC (fun c1 => ⟨⟨by decide, by decide, by decide⟩, ?_⟩) (fun c1 => by rw [if_pos c1] at h; exact h)
  rw [if_neg (fun hh => hh c1)] at h
  refine ifC (fun _ => ⟨⟨by decide, by decide, by decide⟩, ?_⟩) (fun hn => absurd (by decide) hn)
  rw [show ((8 : Int).toNat) = 8 from rfl, x3]
  refine ifC (fun c2 => ?_) (fun c2 => by rw [if_pos c2] at h; exact h)
  rw [if_neg (fun hh => hh c2)] at h
  refine ifC (fun c3 => ?_) (fun c3 => ?_)
  ·have h0 : 0 < n := by omega
   have w4 : IntKind.wrap .i64 ((n : Int) - 1) = ((n - 1 : Nat) : Int) := w3 h0
   rw [w4, Int.toNat_natCast, x5 h0]
   refine ifC (fun _ => ⟨⟨by omega, by omega, by omega⟩, ?_⟩) (fun hn => by omega)
   refine ifC (fun c4 => ⟨⟨by decide, by decide, by decide⟩, ?_⟩) (fun c4 => by rw [if_pos ⟨by omega, c4⟩] at h; exact h)
   rw [if_neg (fun hh => hh.2 c4)] at h
   exact check_tail s4 hu h
  ·rw [if_neg (fun hh => by omega)] at h
   exact ⟨⟨by decide, by decide, by decide⟩, check_tail s4 hu h⟩
def renTrim : Shelf.Ren := ⟨fun x => if x = 119 then 219 else if x = 120 then 168 else if x = 137 then 218 else if x = 151 then 119 else if x = 152 then 167 else if x = 160 then 43 else if x = 197 then 118 else if x = 217 then 251 else if x = 224 then 220 else if x = 225 then 221 else if x = 227 then 69 else if x = 228 then 117 else if x = 231 then 67 else if x = 232 then 68 else if x = 233 then 70 else if x = 234 then 71 else if x = 235 then 72 else if x = 236 then 73 else if x = 260 then 166 else if x = 266 then 271 else if x = 271 then 120 else x, fun x => if x = 0 then 0 else if x = 3 then 3 else if x = 4 then 4 else if x = 5 then 5 else if x = 9 then 9 else if x = 21 then 21 else if x = 46 then 206 else if x = 105 then 203 else if x = 116 then 154 else if x = 117 then 155 else if x = 119 then 310 else if x = 124 then 158 else if x = 138 then 312 else if x = 139 then 313 else x, fun x => if x = 3 then 4 else if x = 4 then 5 else x⟩
theorem laysTrim : Lays.n160 Tryz.prog renTrim where
 mixed := by kernel_rfl
 f119 := by kernel_rfl
 f120 := by kernel_rfl
 f137 := by kernel_rfl
 f151 := by kernel_rfl
 f152 := by kernel_rfl
 f160 := by kernel_rfl
 f197 := by kernel_rfl
 f217 := by kernel_rfl
 f224 := by kernel_rfl
 f225 := by kernel_rfl
 f227 := by kernel_rfl
 f228 := by kernel_rfl
 f231 := by kernel_rfl
 f232 := by kernel_rfl
 f233 := by kernel_rfl
 f234 := by kernel_rfl
 f235 := by kernel_rfl
 f236 := by kernel_rfl
 f260 := by kernel_rfl
 f266 := by kernel_rfl
 f271 := by kernel_rfl
 t0 := by kernel_rfl
 a0 := fun w => by kernel_rfl
 z0 := fun w => by kernel_rfl
 v0 := fun w => by kernel_rfl
 t3 := by kernel_rfl
 a3 := fun w => by kernel_rfl
 z3 := fun w => by kernel_rfl
 v3 := fun w => by kernel_rfl
 t4 := by kernel_rfl
 a4 := fun w => by kernel_rfl
 z4 := fun w => by kernel_rfl
 v4 := fun w => by kernel_rfl
 t5 := by kernel_rfl
 a5 := fun w => by kernel_rfl
 z5 := fun w => by kernel_rfl
 v5 := fun w => by kernel_rfl
 t9 := by kernel_rfl
 a9 := fun w => by kernel_rfl
 z9 := fun w => by kernel_rfl
 v9 := fun w => by kernel_rfl
 t21 := by kernel_rfl
 a21 := fun w => by kernel_rfl
 z21 := fun w => by kernel_rfl
 v21 := fun w => by kernel_rfl
 t46 := by kernel_rfl
 a46 := fun w => by kernel_rfl
 z46 := fun w => by kernel_rfl
 v46 := fun w => by kernel_rfl
 t105 := by kernel_rfl
 a105 := fun w => by kernel_rfl
 z105 := fun w => by kernel_rfl
 v105 := fun w => by kernel_rfl
 t116 := by kernel_rfl
 a116 := fun w => by kernel_rfl
 z116 := fun w => by kernel_rfl
 t117 := by kernel_rfl
 a117 := fun w => by kernel_rfl
 z117 := fun w => by kernel_rfl
 v117 := fun w => by kernel_rfl
 t119 := by kernel_rfl
 a119 := fun w => by kernel_rfl
 z119 := fun w => by kernel_rfl
 t124 := by kernel_rfl
 a124 := fun w => by kernel_rfl
 z124 := fun w => by kernel_rfl
 v124 := fun w => by kernel_rfl
 t138 := by kernel_rfl
 a138 := fun w => by kernel_rfl
 z138 := fun w => by kernel_rfl
 v138 := fun w => by kernel_rfl
 t139 := by kernel_rfl
 a139 := fun w => by kernel_rfl
 z139 := fun w => by kernel_rfl
 v139 := fun w => by kernel_rfl
 g3 := by kernel_rfl
 g4 := by kernel_rfl
theorem drop_nil {p : UInt8 → Bool} : ∀ {l : List UInt8}, l.dropWhile p = [] ↔ l.all p = true
 | [] => by simp
 | a :: l => by
  rw [List.dropWhile_cons, List.all_cons]
  cases h : p a with
  | true => simpa using drop_nil (l := l)
  | false => simp
theorem hex_all (x : UInt8) : hexB.data.toList.contains x = isHex x := by
 have key : ∀ n : Fin 256, hexB.data.toList.contains (UInt8.ofNat n.val) = isHex (UInt8.ofNat n.val) := by decide +kernel
 have := key ⟨x.toNat, x.toNat_lt⟩
 rwa [UInt8.ofNat_toNat] at this
theorem ok_trim : EntOk Tryz.prog ⟨43, c_trim⟩ := by
 rintro args Post ⟨v, rfl, hv, h⟩
 intro W ρ w args' hrel hargs
 cases hargs with
 | cons hv' hnil =>
 cases hnil with
 | cons hs hnil =>
 cases hnil
 cases hv'
 cases hs
 refine (Any.strings_Trim_laid laysTrim (by kernel_rfl) v hexB w (by omega) (by decide) (ascii_of_all (by decide))).mono ?_
 rintro e w' ⟨rfl, hw⟩
 refine ⟨_, .e, 0, _, ρ, h _ ?_, rfl, .string _, hrel.later hw, .refl _ _⟩
 have hp : (fun x => hexB.data.toList.contains x) = isHex := funext hex_all
 have key : Lib.trimS v.data.toList hexB.data.toList = [] ↔ v.data.toList.all isHex = true := by
  unfold Lib.trimS Lib.trimLeftS Lib.trimRightS
  rw [hp, drop_nil, List.all_reverse, List.all_eq_true]
  constructor
  ·intro hall
   cases hd : v.data.toList.reverse.dropWhile isHex with
   | nil => rw [drop_nil, List.all_reverse] at hd; exact hd
   | cons a l =>
    have ha := List.head?_dropWhile_not isHex v.data.toList.reverse
    rw [hd] at ha hall
    have := hall a (by simp)
    simp [this] at ha
  ·intro hall a ha
   exact List.all_eq_true.1 hall a (by simpa using (List.dropWhile_sublist isHex).subset ha)
 rw [← key]
 constructor
 ·intro e
  simpa using e
 ·intro e
  rw [e]
def vcLn : VCall := tabCall [⟨77, c_crc⟩] noCall
theorem vcLn_ok : VCallOk Tryz.prog vcLn := tabCall_ok (by
 intro e he
 simp only [List.mem_cons, List.not_mem_nil, or_false] at he
 subst he
 exact ok_rcrc) noCall_ok
theorem e_line (s : ByteArray) (H : HT) (Post : PV) : vcP Tryz.prog vcLn 45 [(4, [3, 4, 5])] [.string s] H Post = (T2 (∃ (s_1 : ByteArray), eqL [vs s] [vs s_1] ∧ s_1.size ≤ 4611686018427387904 ∧ T4 (True ∧ H (lpC Tryz.prog 45 4) (lpK Tryz.prog 45 4) (stV [(3, some (Value.int IntKind.u32 (↑(BitVec.toNat (crcB s_1)) : Int))), (4, some (vz)), (5, some (vi 0))] [] 0)))) := by kernel_rfl
theorem l_line (s out : ByteArray) (n i : Int) (H : HT) (Post : PV) : vcLP Tryz.prog vcLn 45 [.string s] [(4, [3, 4, 5])] 4 (stV [(3, some (.int .u32 n)), (4, some (.string out)), (5, some (.int .i64 i))] [] 0) H Post = (let q3 := toI (vi 16) = 0 → False; let q2 := ByteArray.mk #[48, 49, 50, 51, 52, 53, 54, 55, 56, 57, 97, 98, 99, 100, 101, 102]; let q1 := IntKind.wrap IntKind.u32 (Int.tmod n 16 + 1); T2 (pIf (decide (i < 8)) (True ∧ q3 ∧ True ∧ q3 ∧ True ∧ (0 ≤ IntKind.wrap IntKind.u32 (Int.tmod n 16 + 1) ∧ 0 ≤ Int.tmod n 16 ∧ Int.toNat (Int.tmod n 16) ≤ Int.toNat q1 ∧ Int.toNat q1 ≤ 16) ∧ True ∧ ByteArray.size (ByteArray.extract q2 (Int.toNat (Int.tmod n 16)) (Int.toNat q1)) + out.size ≤ 9223372036854775807 ∧ T2 (q3 ∧ T4 (T2 (H (lpC Tryz.prog 45 4) (lpK Tryz.prog 45 4) (stV [(3, some (Value.int IntKind.u32 (IntKind.wrap IntKind.u32 (Int.tdiv n 16)))), (4, some (vs (ByteArray.extract q2 (Int.toNat (Int.tmod n 16)) (Int.toNat q1) ++ out))), (5, some (vi (IntKind.wrap IntKind.i64 (i + 1))))] [] 0))))) (True ∧ 9 + out.size ≤ 9223372036854775807 ∧ ByteArray.size (ByteArray.mk #[67, 72, 69, 67, 75, 83, 85, 77, 32] ++ out) + 1 ≤ 9223372036854775807 ∧ T2 (Post (vs (ByteArray.mk #[67, 72, 69, 67, 75, 83, 85, 77, 32] ++ out ++ ByteArray.mk #[10])))))) := by kernel_rfl
def hex8 : Nat → Nat → List UInt8 → List UInt8
 | 0, _, acc => acc
 | k + 1, n, acc => hex8 k (n / 16) (dg (n % 16) :: acc)
def lineS (s : ByteArray) : ByteArray := cksB ++ ⟨(hex8 8 (crcB s).toNat []).toArray⟩ ++ nlB
def c_line (args : List Value) (Post : Value → Prop) : Prop := ∃ s : ByteArray, args = [.string s] ∧ s.size ≤ 1099511627776 ∧ Post (.string (lineS s))
def vcRk : VCall := tabCall [⟨45, c_line⟩] noCall
theorem e_rchk (t : ByteArray) (H : HT) (Post : PV) : vcP Tryz.prog vcRk 15 [(7, [0, 3, 4])] [.string t] H Post = (let q1 := ((↑t.size : Int) - 18); let q7 := IntKind.wrap IntKind.i64 q1 + 9; let q6 := IntKind.wrap IntKind.i64 q1; let q5 := IntKind.wrap IntKind.i64 q1 - 1; let q4 := IntKind.wrap IntKind.i64 q1 + 17; let q2 := IntKind.wrap IntKind.i64 q7; let q3 := stV [(0, some (vs t)), (3, some (vi q6)), (4, some (vi q2))] [] 0; T4 (T2 (True ∧ pIf (decide (IntKind.wrap IntKind.i64 q1 < 0)) (T2 (Post (vi 3))) (T4 ((0 ≤ IntKind.wrap IntKind.i64 q7 ∧ 0 ≤ IntKind.wrap IntKind.i64 q1 ∧ Int.toNat q6 ≤ Int.toNat q2 ∧ Int.toNat q2 ≤ t.size) ∧ True ∧ pIf (!decide (ByteArray.extract t (Int.toNat q6) (Int.toNat q2) = ByteArray.mk #[67, 72, 69, 67, 75, 83, 85, 77, 32])) (T4 (T2 (Post (vi 5)))) (T4 ((0 ≤ IntKind.wrap IntKind.i64 q4 ∧ IntKind.wrap IntKind.i64 q4 < (↑t.size : Int)) ∧ True ∧ pIf (!decide ((↑(UInt8.toNat (Array.getD (ByteArray.data t) (Int.toNat (IntKind.wrap IntKind.i64 q4)) 0)) : Int) = 10)) (T4 (True ∧ Post (vi 5))) (T4 (pIf (decide (IntKind.wrap IntKind.i64 q1 > 0)) (T4 ((0 ≤ IntKind.wrap IntKind.i64 q5 ∧ IntKind.wrap IntKind.i64 q5 < (↑t.size : Int)) ∧ True ∧ pIf (!decide ((↑(UInt8.toNat (Array.getD (ByteArray.data t) (Int.toNat (IntKind.wrap IntKind.i64 q5)) 0)) : Int) = 10)) (T4 (Post (vi 5))) (T4 (T2 (True ∧ H (lpC Tryz.prog 15 7) (lpK Tryz.prog 15 7) q3))))) (T8 (H (lpC Tryz.prog 15 7) (lpK Tryz.prog 15 7) q3))))))))))) := by kernel_rfl
theorem l_rchk (t : ByteArray) (n i : Int) (H : HT) (Post : PV) : vcLP Tryz.prog vcRk 15 [.string t] [(7, [0, 3, 4])] 7 (stV [(0, some (.string t)), (3, some (.int .i64 n)), (4, some (.int .i64 i))] [] 0) H Post = (let q4 := stV [(0, some (vs t)), (3, some (vi n)), (4, some (vi (IntKind.wrap IntKind.i64 (i + 1))))] [] 0; let q3 := (0 ≤ i ∧ i < (↑t.size : Int)); let q1 := (↑(UInt8.toNat (Array.getD (ByteArray.data t) (Int.toNat i) 0)) : Int); let q2 := T2 (True ∧ q3 ∧ True ∧ pIf (decide (q1 > 102)) (T4 (Post (vi 5))) (T4 (T2 (True ∧ H (lpC Tryz.prog 15 7) (lpK Tryz.prog 15 7) q4)))); T4 (pIf (decide (i < IntKind.wrap IntKind.i64 (n + 17))) (T2 (q3 ∧ True ∧ pIf (decide (q1 < 48)) (T4 (True ∧ q3 ∧ True ∧ pIf (decide (q1 < 97)) (T4 (True ∧ Post (vi 5))) q2)) (T2 (True ∧ q3 ∧ True ∧ pIf (decide (q1 > 57)) (T4 (q3 ∧ True ∧ pIf (decide (q1 < 97)) (T4 (True ∧ Post (vi 5))) q2)) (T8 (H (lpC Tryz.prog 15 7) (lpK Tryz.prog 15 7) q4)))))) (T2 ((0 ≤ n ∧ True ∧ 0 ≤ Int.toNat n ∧ Int.toNat n ≤ t.size) ∧ T2 ((True ∧ 0 ≤ n ∧ Int.toNat n ≤ t.size ∧ t.size ≤ t.size) ∧ ∃ (s : ByteArray), eqL [vs (ByteArray.extract t 0 (Int.toNat n))] [vs s] ∧ s.size ≤ 1099511627776 ∧ T2 (pIf (!decide (lineS s = ByteArray.extract t (Int.toNat n) t.size)) (T2 (Post (vi 16))) (T2 (Post (vi 0))))))))) := by kernel_rfl
theorem e_law (t : ByteArray) (H : HT) (Post : PV) : vcP Tryz.prog (tabCall [⟨14, c_check⟩, ⟨15, c_check⟩, ⟨6, fun args Post => args = [] ∧ Post (.bool true)⟩] noCall) 4 [] [.string t] H Post = (T4 (pIf (decide ((↑t.size : Int) > 3000)) (T2 (True ∧ eqL [] [] ∧ T2 (True ∧ Post (vb true)))) (T2 (∃ (t_1 : ByteArray), eqL [vs t] [vs t_1] ∧ t_1.size ≤ 1099511627776 ∧ True ∧ ∃ (t_2 : ByteArray), eqL [vs t] [vs t_2] ∧ t_2.size ≤ 1099511627776 ∧ True ∧ pIf (decide (chk t_1 = chk t_2)) (T2 (eqL [] [] ∧ T2 (True ∧ Post (vb true)))) (T4 (True ∧ Post (vb false))))))) := by kernel_rfl
theorem ext_dg : ∀ k : Fin 16, ByteArray.extract (ByteArray.mk #[48, 49, 50, 51, 52, 53, 54, 55, 56, 57, 97, 98, 99, 100, 101, 102]) k.val (k.val + 1) = ⟨#[dg k.val]⟩ := by decide +kernel
theorem cons_ba (d : UInt8) (l : List UInt8) : (⟨#[d]⟩ : ByteArray) ++ ⟨l.toArray⟩ = ⟨(d :: l).toArray⟩ := by
 apply ByteArray.ext
 simp
theorem tmod16 (n : Nat) : Int.tmod (n : Int) 16 = ((n % 16 : Nat) : Int) := rfl
theorem tdiv16 {n : Nat} (h : n < 4294967296) : IntKind.wrap .u32 (Int.tdiv (n : Int) 16) = ((n / 16 : Nat) : Int) := by
 rw [show Int.tdiv (n : Int) 16 = ((n / 16 : Nat) : Int) from rfl]
 simp [IntKind.wrap, IntKind.bits, IntKind.signed]
 omega
theorem wm16 (n : Nat) : IntKind.wrap .u32 (((n % 16 : Nat) : Int) + 1) = ((n % 16 + 1 : Nat) : Int) := by
 simp [IntKind.wrap, IntKind.bits, IntKind.signed]
 omega
theorem ok_line : EntOk Tryz.prog ⟨45, c_line⟩ := by
 rintro args Post ⟨s, rfl, hs, h⟩
 refine pure_P vcLn_ok mixed (by kernel_rfl) (by kernel_rfl) _ (e_line s _ _) ?_
 simp only [true_and]
 refine ⟨s, rfl, by omega, ?_⟩
 have hN : (crcB s).toNat < 4294967296 := (crcB s).isLt
 have main := down (n := 8) (p := fun i => ∀ (n : Nat) (acc : List UInt8), n < 4294967296 → acc.length = i → hex8 (8 - i) n acc = hex8 8 (crcB s).toNat [] → OkP 45 [.string s] 4 Post (stV [(3, some (.int .u32 n)), (4, some (.string ⟨acc.toArray⟩)), (5, some (.int .i64 i))] [] 0)) ?_ (fun i hi ih => ?_)
 ·exact main (crcB s).toNat [] hN rfl rfl
 ·intro n acc hn hl he
  refine ok_P vcLn_ok mixed _ (l_line s _ _ 8 _ _) ?_
  simp only [true_and]
  have e : lineS s = cksB ++ ⟨acc.toArray⟩ ++ nlB := by
   unfold lineS
   rw [← he]
   rfl
  have z1 : (⟨acc.toArray⟩ : ByteArray).size = 8 := by simpa [ByteArray.size] using hl
  rw [e] at h
  refine ifC (fun h' => by omega) (fun _ => ⟨by rw [z1]; decide, ?_, h⟩)
  rw [ByteArray.size_append, z1]
  decide
 ·intro n acc hn hl he
  refine ok_P vcLn_ok mixed _ (l_line s _ _ i _ _) ?_
  have hm := Nat.mod_lt n (show 0 < 16 by decide)
  have hx := ext_dg ⟨n % 16, hm⟩
  dsimp only at hx
  have hk : 8 - i = (8 - (i + 1)) + 1 := by omega
  rw [hk, hex8] at he
  have := ih (n / 16) (dg (n % 16) :: acc) (by omega) (by simp [hl]) he
  simp only [true_and, and_true, tmod16, wm16, tdiv16 hn, Int.toNat_natCast, hx, cons_ba, wrapSucc (show i < 2 ^ 62 by omega)]
  refine ifC (fun _ => ⟨by decide, by decide, ⟨by omega, by omega, by omega, by omega⟩, ?_, by decide, this⟩) (fun h' => by omega)
  have z1 : (⟨acc.toArray⟩ : ByteArray).size = i := by simpa [ByteArray.size] using hl
  have z2 : (⟨#[dg (n % 16)]⟩ : ByteArray).size = 1 := rfl
  rw [z1, z2]
  omega
theorem hex8_zero : ∀ (k : Nat) (l : List UInt8), hex8 k 0 l = List.replicate k (dg 0) ++ l
 | 0, l => rfl
 | k + 1, l => by
  rw [hex8, show (0 : Nat) / 16 = 0 from rfl, show (0 : Nat) % 16 = 0 from rfl, hex8_zero k, List.replicate_succ']
  simp
theorem hexT_pad : ∀ (f n : Nat) (acc : List UInt8), n < 16 ^ f → 0 < f → hex8 f n acc = List.replicate (f + acc.length - (hexT f n acc).length) (dg 0) ++ hexT f n acc
 | 0, n, acc, _, h => by omega
 | f + 1, n, acc, hn, _ => by
  unfold hexT
  by_cases h16 : 16 ≤ n
  ·have hf : 0 < f := by
    rcases Nat.eq_zero_or_pos f with rfl | h
    ·simp at hn; omega
    ·exact h
   rw [if_pos h16, hex8, hexT_pad f (n / 16) (dg (n % 16) :: acc) (by rw [Nat.pow_succ] at hn; omega) hf]
   congr 2
   simp
   omega
  ·rw [if_neg h16, hex8, show n / 16 = 0 by omega, show n % 16 = n by omega, hex8_zero]
   congr 2
   simp
   omega
theorem rep_zero (m : Nat) : repB ⟨#[48]⟩ m = ⟨(List.replicate m (dg 0)).toArray⟩ := by
 unfold repB
 congr 2
 show Lib.repeatL [48] m = List.replicate m 48
 induction m with
 | zero => rfl
 | succ m ih => rw [Lib.repeatL, ih]; rfl
theorem sumS_hex8 (t : ByteArray) : sumS t = ⟨(hex8 8 (crcB t).toNat []).toArray⟩ := by
 have hN : (crcB t).toNat < 4294967296 := (crcB t).isLt
 unfold sumS
 rw [hexT_pad 8 _ [] (by simpa using hN) (by decide), rep_zero]
 apply ByteArray.ext
 simp [hexS, ByteArray.size]
theorem lineS_sum (t : ByteArray) : lineS t = cksB ++ sumS t ++ nlB := by
 rw [sumS_hex8]
 rfl
theorem one_ext {t : ByteArray} {k : Nat} (hk : k < t.size) : t.extract k (k + 1) = ⟨#[t.data.getD k 0]⟩ := by
 have h : k < t.data.size := hk
 apply ByteArray.ext
 rw [ByteArray.data_extract]
 apply Array.ext
 ·simp
  omega
 ·intro i h1 h2
  have : i = 0 := by simpa using h2
  subst this
  simp [Array.getElem?_eq_getElem h]
theorem nl_iff {t : ByteArray} {k : Nat} (hk : k < t.size) : (t.extract k (k + 1) = nlB) ↔ (((t.data.getD k 0).toNat : Nat) : Int) = 10 := by
 rw [one_ext hk]
 constructor
 ·intro e
  have : t.data.getD k 0 = 10 := by simpa using congrArg ByteArray.data e
  rw [this]
  rfl
 ·intro e
  have e2 : (t.data.getD k 0).toNat = 10 := by omega
  have e3 : t.data.getD k 0 = (10 : UInt8) := (UInt8.toNat_inj (b := 10)).1 (e2.trans rfl)
  rw [e3]
theorem all_iff {t : ByteArray} {a : Nat} (ha : a + 8 ≤ t.size) : ((t.extract a (a + 8)).data.toList.all isHex = true) ↔ ∀ j, j < 8 → isHex (t.data.getD (a + j) 0) = true := by
 have hs : t.data.size = t.size := rfl
 have get : ∀ j, j < 8 → (t.extract a (a + 8)).data.toList[j]? = some (t.data.getD (a + j) 0) := fun j hj => by
  rw [Array.getElem?_toList, ByteArray.data_extract, Array.getElem?_extract, if_pos (by omega), Array.getD_eq_getD_getElem?, Array.getElem?_eq_getElem (show a + j < t.data.size by omega)]
  rfl
 rw [List.all_eq_true]
 constructor
 ·intro h j hj
  exact h _ (List.mem_of_getElem? (get j hj))
 ·intro h x hx
  obtain ⟨j, hj, rfl⟩ := List.mem_iff_getElem.1 hx
  have hl : j < 8 := by
   rw [Array.length_toList, ByteArray.data_extract, Array.size_extract] at hj
   omega
  have := get j hl
  rw [List.getElem?_eq_getElem hj] at this
  rw [Option.some.inj this]
  exact h j hl
theorem hex_iff (x : UInt8) : (isHex x = true) ↔ ¬ ((((x.toNat : Nat) : Int) < 48 ∨ ((x.toNat : Nat) : Int) > 57) ∧ (((x.toNat : Nat) : Int) < 97 ∨ ((x.toNat : Nat) : Int) > 102)) := by
 unfold isHex
 simp only [Bool.or_eq_true, Bool.and_eq_true, decide_eq_true_eq, UInt8.le_iff_toNat_le]
 have a1 : (48 : UInt8).toNat = 48 := rfl
 have a2 : (57 : UInt8).toNat = 57 := rfl
 have a3 : (97 : UInt8).toNat = 97 := rfl
 have a4 : (102 : UInt8).toNat = 102 := rfl
 omega
theorem ifN' {p : Prop} [Decidable p] {X Y : Prop} (h1 : ¬ p → X) (h2 : p → Y) : pIf (!decide p) X Y := pIf_intro (fun e => h1 (by simpa using e)) (fun e => h2 (by simpa using e))
theorem vcRk_ok : VCallOk Tryz.prog vcRk := tabCall_ok (by
 intro e he
 simp only [List.mem_cons, List.not_mem_nil, or_false] at he
 subst he
 exact ok_line) noCall_ok
theorem ok_rchk : EntOk Tryz.prog ⟨15, c_check⟩ := by
 rintro args Post ⟨t, rfl, ht, h⟩
 refine pure_P vcRk_ok mixed (by kernel_rfl) (by kernel_rfl) _ (e_rchk t _ _) ?_
 simp only [true_and]
 unfold chk at h
 by_cases h18 : t.size < 18
 ·rw [if_pos h18] at h
  have e : IntKind.wrap .i64 ((t.size : Int) - 18) = (t.size : Int) - 18 := by
   simp [IntKind.wrap, IntKind.bits, IntKind.signed]
   omega
  rw [e]
  exact ifC (fun _ => h) (fun hn => by omega)
 ·rw [if_neg h18] at h
  obtain ⟨n, hn⟩ : ∃ n, t.size = n + 18 := ⟨t.size - 18, by omega⟩
  have w0 : IntKind.wrap .i64 ((t.size : Int) - 18) = (n : Int) := by
   rw [show (t.size : Int) - 18 = (n : Int) by omega]
   exact wI (by omega) (by omega)
  have w9 : IntKind.wrap .i64 ((n : Int) + 9) = ((n + 9 : Nat) : Int) := wI (by omega) (by omega)
  have w17 : IntKind.wrap .i64 ((n : Int) + 17) = ((n + 17 : Nat) : Int) := wI (by omega) (by omega)
  rw [show t.size - 18 = n by omega, show t.size - 9 = n + 9 by omega, show t.size - 1 = n + 17 by omega, show t.size - 19 = n - 1 by omega] at h
  have hl := nl_iff (t := t) (k := n + 17) (by omega)
  rw [show n + 17 + 1 = t.size by omega] at hl
  simp only [w0, w9, w17, Int.toNat_natCast]
  refine ifC (fun hneg => by omega) (fun _ => ⟨⟨by omega, by omega, by omega, by omega⟩, ?_⟩)
  refine ifN' (fun c1 => by rw [if_pos c1] at h; exact h) (fun c1 => ⟨⟨by omega, by omega⟩, ?_⟩)
  rw [if_neg (fun hh => hh c1)] at h
  refine ifN' (fun c2 => by rw [if_pos (fun hh => c2 (hl.1 hh))] at h; exact h) (fun c2 => ?_)
  rw [if_neg (fun hh => hh (hl.2 c2))] at h
  have last : 18 < t.size ∧ ¬ t.extract (n - 1) n = nlB ∨ Post (.int .i64 (if (t.extract (n + 9) (n + 17)).data.toList.all isHex = false then 5 else if t.extract (n + 9) (n + 17) = sumS (t.extract 0 n) then 0 else 16)) := by
   by_cases hc : 18 < t.size ∧ ¬ t.extract (n - 1) n = nlB
   ·exact .inl hc
   ·rw [if_neg hc] at h
    exact .inr h
  have loop : Post (.int .i64 (if (t.extract (n + 9) (n + 17)).data.toList.all isHex = false then 5 else if t.extract (n + 9) (n + 17) = sumS (t.extract 0 n) then 0 else 16)) → OkP 15 [.string t] 7 Post (stV [(0, some (.string t)), (3, some (.int .i64 n)), (4, some (.int .i64 ((n + 9 : Nat) : Int)))] [] 0) := by
   intro h
   have ha := all_iff (t := t) (a := n + 9) (by omega)
   rw [show n + 9 + 8 = n + 17 by omega] at ha
   have main := down (n := 8) (p := fun j => (∀ k, k < j → isHex (t.data.getD (n + 9 + k) 0) = true) → OkP 15 [.string t] 7 Post (stV [(0, some (.string t)), (3, some (.int .i64 n)), (4, some (.int .i64 ((n + 9 + j : Nat) : Int)))] [] 0)) ?_ (fun j hj ih => ?_)
   ·exact main (fun k hk => by omega)
   ·intro hall
    have hx := ha.2 hall
    rw [if_neg (by rw [hx]; decide)] at h
    refine ok_P vcRk_ok mixed _ (l_rchk t n _ _ _) ?_
    simp only [true_and, w17, Int.toNat_natCast]
    refine ifC (fun h' => by omega) (fun _ => ⟨⟨by omega, by omega, by omega⟩, ⟨by omega, by omega, by omega⟩, t.extract 0 n, rfl, by rw [ByteArray.size_extract]; omega, ?_⟩)
    have split : t.extract n t.size = t.extract n (n + 9) ++ t.extract (n + 9) (n + 17) ++ t.extract (n + 17) t.size := by
     rw [ByteArray.extract_append_extract, show min n (n + 9) = n by omega, show max (n + 9) (n + 17) = n + 17 by omega, ByteArray.extract_append_extract, show min n (n + 17) = n by omega, show max (n + 17) t.size = t.size by omega]
    have e1 : (lineS (t.extract 0 n) = t.extract n t.size) ↔ t.extract (n + 9) (n + 17) = sumS (t.extract 0 n) := by
     rw [lineS_sum, split, c1, hl.2 c2]
     constructor
     ·intro e
      have e2 := congrArg (fun b : ByteArray => b.data.toList) e
      simp only [ByteArray.data_append, Array.toList_append] at e2
      exact (ByteArray.ext (Array.ext' (List.append_cancel_left (List.append_cancel_right e2)))).symm
     ·intro e
      rw [e]
    refine ifN' (fun hne => ?_) (fun heq => ?_)
    ·rw [if_neg (fun hh => hne (e1.2 hh))] at h
     exact h
    ·rw [if_pos (e1.1 heq)] at h
     exact h
   ·intro hall
    refine ok_P vcRk_ok mixed _ (l_rchk t n _ _ _) ?_
    have hgo := fun hx => ih fun k hk => by
     rcases Nat.lt_or_ge k j with h' | h'
     ·exact hall k h'
     ·rw [show k = j by omega]
      exact hx
    have hbad : ¬ isHex (t.data.getD (n + 9 + j) 0) = true → Post (.int .i64 5) := fun hx => by
     have : (t.extract (n + 9) (n + 17)).data.toList.all isHex = false := by
      cases hb : (t.extract (n + 9) (n + 17)).data.toList.all isHex with
      | false => rfl
      | true => exact absurd (ha.1 hb j hj) hx
     rw [if_pos this] at h
     exact h
    simp only [true_and, w17, Int.toNat_natCast, wrapSucc (show n + 9 + j < 2 ^ 62 by omega)]
    have hi := hex_iff (t.data.getD (n + 9 + j) 0)
    have b : (0 : Int) ≤ ((n + 9 + j : Nat) : Int) ∧ ((n + 9 + j : Nat) : Int) < (t.size : Int) := ⟨by omega, by omega⟩
    refine ifC (fun _ => ⟨b, ifC (fun q1 => ⟨b, ifC (fun q2 => hbad (fun hh => hi.1 hh ⟨.inl q1, .inl q2⟩)) (fun q2 => ⟨b, ifC (fun q3 => hbad (fun hh => hi.1 hh ⟨.inl q1, .inr q3⟩)) (fun q3 => hgo (hi.2 (fun hh => hh.2.elim q2 q3)))⟩)⟩)
     (fun q1 => ⟨b, ifC (fun q2 => ⟨b, ifC (fun q3 => hbad (fun hh => hi.1 hh ⟨.inr q2, .inl q3⟩)) (fun q3 => ⟨b, ifC (fun q4 => hbad (fun hh => hi.1 hh ⟨.inr q2, .inr q4⟩)) (fun q4 => hgo (hi.2 (fun hh => hh.2.elim q3 q4)))⟩)⟩) (fun q2 => hgo (hi.2 (fun hh => hh.1.elim q1 q2)))⟩)⟩) (fun h' => by omega)
  refine ifC (fun c3 => ?_) (fun c3 => ?_)
  ·have h0 : 0 < n := by omega
   have wm : IntKind.wrap .i64 ((n : Int) - 1) = ((n - 1 : Nat) : Int) := by
    rw [show (n : Int) - 1 = ((n - 1 : Nat) : Int) by omega]
    exact wI (by omega) (by omega)
   have hm := nl_iff (t := t) (k := n - 1) (by omega)
   rw [show n - 1 + 1 = n by omega] at hm
   rw [wm, Int.toNat_natCast]
   refine ⟨⟨by omega, by omega⟩, ifN' (fun c4 => ?_) (fun c4 => ?_)⟩
   ·rw [if_pos ⟨by omega, fun hh => c4 (hm.1 hh)⟩] at h
    exact h
   ·exact loop (last.elim (fun hh => absurd (hm.2 c4) hh.2) id)
  ·exact loop (last.elim (fun hh => by omega) id)
end Go.Proofs.YtojlhapbngcjkaaGreatDoor
