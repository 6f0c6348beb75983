/-
  cbor.Reader.peek: what must be shown. Conditions: none. Reading, in plain words: heads, integers, texts and list headers out of bytes, and back. Conditions: as each theorem states them. Different change orders have different bytes. Conditions: integers of 64 bits; strings of less than 2^63 bytes, lists of less than 2^63 elements. Lists compared, by package slices and by the document: names, spots, hooks. Conditions: lists short enough that a counter does not overflow. Edits, orders, nesting plans compared, by the document. Conditions: lists short enough that a counter does not overflow. Events compared, by package event and by the document. Conditions: lists short enough, orders small enough.
-/
import Derived.Test.YtegjnjmimfgijaaGreatDoorOc
import Derived.Test.YtegjnjmimfgijaaGreatDoorSl
import Derived.Test.YtegjnjmimfgijaaGreatDoorQLd
import Derived.Test.YtegjnjmimfgijaaGreatDoorQSr
noncomputable section
namespace Go.Proofs.YtegjnjmimfgijaaGreatDoor
open Go Go.RowKit
set_option maxRecDepth 100000
def byte0 (s : ByteArray) : UInt8 := Array.getD s.data 0 0
def ofBE (l : List UInt8) : Nat := l.foldl (fun v b => 256 * v + b.toNat) 0
/-- What peek returns: kind, argument, length, error. -/
def pk (s : ByteArray) (one two : Nat) : Nat × Nat × Nat × Nat :=
  if s.size = 0 then (0, 0, 0, 3)
  else if ((byte0 s).toNat / 32 ≠ one ∧ (byte0 s).toNat / 32 ≠ two) ∨ (byte0 s).toNat % 32 > 27 then (0, 0, 0, 5)
  else if (byte0 s).toNat % 32 < 24 then ((byte0 s).toNat / 32, (byte0 s).toNat % 32, 1, 0)
  else if s.size < 1 + 2 ^ ((byte0 s).toNat % 32 - 24) then (0, 0, 0, 3)
  else if str (hd ((byte0 s).toNat / 32) (ofBE (s.extract 1 (1 + 2 ^ ((byte0 s).toNat % 32 - 24))).data.toList)) ≠ s.extract 0 (1 + 2 ^ ((byte0 s).toNat % 32 - 24)) then (0, 0, 0, 5)
  else ((byte0 s).toNat / 32, ofBE (s.extract 1 (1 + 2 ^ ((byte0 s).toNat % 32 - 24))).data.toList, 1 + 2 ^ ((byte0 s).toNat % 32 - 24), 0)
theorem kindOf (b : UInt8) : IntKind.i64.wrap (Int.fdiv ((b.toNat : Nat) : Int) (2 ^ 5)) = ((b.toNat / 32 : Nat) : Int) := by
  have := b.toNat_lt
  rw [fdivNat, wrap64 (by omega) (by omega)]
theorem and31 : ∀ n < 256, (BitVec.ofInt 8 ((n : Nat) : Int) &&& BitVec.ofInt 8 31).toNat = n % 32 := by decide +kernel
theorem lowOf (b : UInt8) : IntKind.i64.wrap (IntKind.u8.wrap (((BitVec.ofInt 8 ((b.toNat : Nat) : Int) &&& BitVec.ofInt 8 31).toNat : Nat) : Int)) = ((b.toNat % 32 : Nat) : Int) := by
  rw [and31 _ b.toNat_lt, wrapU8s (by omega), wrap64 (by omega) (by omega)]
theorem sizeOf' {m : Nat} (h1 : 24 ≤ m) (h2 : m ≤ 27) : IntKind.i64.wrap (1 + IntKind.i64.wrap (1 * 2 ^ min (IntKind.i64.wrap ((m : Int) - 24)).toNat 64)) = ((1 + 2 ^ (m - 24) : Nat) : Int) := by
  have : m = 24 ∨ m = 25 ∨ m = 26 ∨ m = 27 := by omega
  rcases this with rfl | rfl | rfl | rfl <;> decide
theorem e_peek (s : ByteArray) (e one two : Int) (H : Code → List Fr → AS → Prop) (Post : Value → List (List Value) → Prop) : vcI Tryz.prog callH 91 [(13, [0, 6, 7, 8, 1071, 72, 73])] [[.string s, .int .i64 e]] [.pointer (some ⟨0, 0, none⟩), .int .i64 one, .int .i64 two] H Post = (True ∧ True ∧ True ∧ True ∧ True ∧ True ∧ True ∧ True ∧ True ∧ True ∧ pIf (decide (s = ByteArray.mk #[])) (True ∧ True ∧ True ∧ True ∧ (True ∧ True ∧ True ∧ True ∧ True) ∧ true = true ∧ Post (Value.tuple #[Value.int IntKind.i64 0, Value.int IntKind.u64 0, Value.int IntKind.i64 0, Value.int IntKind.i64 3]) [[Value.string s, Value.int IntKind.i64 e]]) (True ∧ True ∧ True ∧ True ∧ True ∧ (toI (Value.int IntKind.i64 0) ≤ 0 ∧ 0 < (↑(ByteArray.size s) : Int)) ∧ toI (Value.int IntKind.i64 0) ≤ 5 ∧ True ∧ True ∧ True ∧ True ∧ True ∧ True ∧ True ∧ (toI (Value.int IntKind.i64 0) ≤ 0 ∧ 0 < (↑(ByteArray.size s) : Int)) ∧ True ∧ True ∧ True ∧ True ∧ True ∧ True ∧ pIf (!decide (IntKind.wrap IntKind.i64 (Int.fdiv (↑(UInt8.toNat (Array.getD (ByteArray.data s) 0 0)) : Int) (2 ^ 5)) = one)) (True ∧ True ∧ True ∧ True ∧ pIf (!decide (IntKind.wrap IntKind.i64 (Int.fdiv (↑(UInt8.toNat (Array.getD (ByteArray.data s) 0 0)) : Int) (2 ^ 5)) = two)) (True ∧ True ∧ True ∧ True ∧ True ∧ True ∧ True ∧ (True ∧ True ∧ True ∧ True ∧ True) ∧ true = true ∧ Post (Value.tuple #[Value.int IntKind.i64 0, Value.int IntKind.u64 0, Value.int IntKind.i64 0, Value.int IntKind.i64 5]) [[Value.string s, Value.int IntKind.i64 e]]) (True ∧ True ∧ True ∧ True ∧ pIf (decide (IntKind.wrap IntKind.i64 (IntKind.wrap IntKind.u8 (↑(BitVec.toNat (BitVec.ofInt 8 (↑(UInt8.toNat (Array.getD (ByteArray.data s) 0 0)) : Int) &&& BitVec.ofInt 8 31)) : Int)) > 27)) (True ∧ True ∧ True ∧ True ∧ True ∧ (True ∧ True ∧ True ∧ True ∧ True) ∧ true = true ∧ Post (Value.tuple #[Value.int IntKind.i64 0, Value.int IntKind.u64 0, Value.int IntKind.i64 0, Value.int IntKind.i64 5]) [[Value.string s, Value.int IntKind.i64 e]]) (True ∧ True ∧ True ∧ pIf (decide (IntKind.wrap IntKind.i64 (IntKind.wrap IntKind.u8 (↑(BitVec.toNat (BitVec.ofInt 8 (↑(UInt8.toNat (Array.getD (ByteArray.data s) 0 0)) : Int) &&& BitVec.ofInt 8 31)) : Int)) < 24)) (True ∧ True ∧ True ∧ True ∧ True ∧ True ∧ True ∧ (True ∧ True ∧ True ∧ True ∧ True) ∧ true = true ∧ Post (Value.tuple #[Value.int IntKind.i64 (IntKind.wrap IntKind.i64 (Int.fdiv (↑(UInt8.toNat (Array.getD (ByteArray.data s) 0 0)) : Int) (2 ^ 5))), Value.int IntKind.u64 (IntKind.wrap IntKind.u64 (IntKind.wrap IntKind.i64 (IntKind.wrap IntKind.u8 (↑(BitVec.toNat (BitVec.ofInt 8 (↑(UInt8.toNat (Array.getD (ByteArray.data s) 0 0)) : Int) &&& BitVec.ofInt 8 31)) : Int)))), Value.int IntKind.i64 1, Value.int IntKind.i64 0]) [[Value.string s, Value.int IntKind.i64 e]]) (True ∧ True ∧ 0 ≤ IntKind.wrap IntKind.i64 (IntKind.wrap IntKind.i64 (IntKind.wrap IntKind.u8 (↑(BitVec.toNat (BitVec.ofInt 8 (↑(UInt8.toNat (Array.getD (ByteArray.data s) 0 0)) : Int) &&& BitVec.ofInt 8 31)) : Int)) - 24) ∧ True ∧ True ∧ True ∧ True ∧ True ∧ True ∧ True ∧ True ∧ True ∧ True ∧ pIf (decide ((↑(ByteArray.size s) : Int) < IntKind.wrap IntKind.i64 (1 + IntKind.wrap IntKind.i64 (1 * 2 ^ min (Int.toNat (IntKind.wrap IntKind.i64 (IntKind.wrap IntKind.i64 (IntKind.wrap IntKind.u8 (↑(BitVec.toNat (BitVec.ofInt 8 (↑(UInt8.toNat (Array.getD (ByteArray.data s) 0 0)) : Int) &&& BitVec.ofInt 8 31)) : Int)) - 24))) 64)))) (True ∧ True ∧ True ∧ True ∧ (True ∧ True ∧ True ∧ True ∧ True) ∧ true = true ∧ Post (Value.tuple #[Value.int IntKind.i64 0, Value.int IntKind.u64 0, Value.int IntKind.i64 0, Value.int IntKind.i64 3]) [[Value.string s, Value.int IntKind.i64 e]]) (True ∧ True ∧ True ∧ True ∧ True ∧ True ∧ (0 ≤ IntKind.wrap IntKind.i64 (1 + IntKind.wrap IntKind.i64 (1 * 2 ^ min (Int.toNat (IntKind.wrap IntKind.i64 (IntKind.wrap IntKind.i64 (IntKind.wrap IntKind.u8 (↑(BitVec.toNat (BitVec.ofInt 8 (↑(UInt8.toNat (Array.getD (ByteArray.data s) 0 0)) : Int) &&& BitVec.ofInt 8 31)) : Int)) - 24))) 64)) ∧ toI (Value.int IntKind.i64 0) ≤ 1 ∧ 1 ≤ Int.toNat (IntKind.wrap IntKind.i64 (1 + IntKind.wrap IntKind.i64 (1 * 2 ^ min (Int.toNat (IntKind.wrap IntKind.i64 (IntKind.wrap IntKind.i64 (IntKind.wrap IntKind.u8 (↑(BitVec.toNat (BitVec.ofInt 8 (↑(UInt8.toNat (Array.getD (ByteArray.data s) 0 0)) : Int) &&& BitVec.ofInt 8 31)) : Int)) - 24))) 64))) ∧ Int.toNat (IntKind.wrap IntKind.i64 (1 + IntKind.wrap IntKind.i64 (1 * 2 ^ min (Int.toNat (IntKind.wrap IntKind.i64 (IntKind.wrap IntKind.i64 (IntKind.wrap IntKind.u8 (↑(BitVec.toNat (BitVec.ofInt 8 (↑(UInt8.toNat (Array.getD (ByteArray.data s) 0 0)) : Int) &&& BitVec.ofInt 8 31)) : Int)) - 24))) 64))) ≤ ByteArray.size s) ∧ True ∧ True ∧ True ∧ ((0 + ByteArray.size (ByteArray.extract s 1 (Int.toNat (IntKind.wrap IntKind.i64 (1 + IntKind.wrap IntKind.i64 (1 * 2 ^ min (Int.toNat (IntKind.wrap IntKind.i64 (IntKind.wrap IntKind.i64 (IntKind.wrap IntKind.u8 (↑(BitVec.toNat (BitVec.ofInt 8 (↑(UInt8.toNat (Array.getD (ByteArray.data s) 0 0)) : Int) &&& BitVec.ofInt 8 31)) : Int)) - 24))) 64))))) * 1 ≤ List.length (Array.toList (byteCells (ByteArray.extract s 1 (Int.toNat (IntKind.wrap IntKind.i64 (1 + IntKind.wrap IntKind.i64 (1 * 2 ^ min (Int.toNat (IntKind.wrap IntKind.i64 (IntKind.wrap IntKind.i64 (IntKind.wrap IntKind.u8 (↑(BitVec.toNat (BitVec.ofInt 8 (↑(UInt8.toNat (Array.getD (ByteArray.data s) 0 0)) : Int) &&& BitVec.ofInt 8 31)) : Int)) - 24))) 64))))))) ∧ NLs (List.drop 0 (Array.toList (byteCells (ByteArray.extract s 1 (Int.toNat (IntKind.wrap IntKind.i64 (1 + IntKind.wrap IntKind.i64 (1 * 2 ^ min (Int.toNat (IntKind.wrap IntKind.i64 (IntKind.wrap IntKind.i64 (IntKind.wrap IntKind.u8 (↑(BitVec.toNat (BitVec.ofInt 8 (↑(UInt8.toNat (Array.getD (ByteArray.data s) 0 0)) : Int) &&& BitVec.ofInt 8 31)) : Int)) - 24))) 64))))))))) ∧ True) ∧ (NLs [Value.string s, Value.int IntKind.i64 e] ∧ True) ∧ H (lpC Tryz.prog 91 13) (lpK Tryz.prog 91 13) (stV [(0, some (Value.pointer (some (Addr.mk 0 0 none)))), (6, some (Value.int IntKind.i64 (IntKind.wrap IntKind.i64 (Int.fdiv (↑(UInt8.toNat (Array.getD (ByteArray.data s) 0 0)) : Int) (2 ^ 5))))), (7, some (Value.int IntKind.u64 0)), (8, some (Value.int IntKind.i64 (IntKind.wrap IntKind.i64 (1 + IntKind.wrap IntKind.i64 (1 * 2 ^ min (Int.toNat (IntKind.wrap IntKind.i64 (IntKind.wrap IntKind.i64 (IntKind.wrap IntKind.u8 (↑(BitVec.toNat (BitVec.ofInt 8 (↑(UInt8.toNat (Array.getD (ByteArray.data s) 0 0)) : Int) &&& BitVec.ofInt 8 31)) : Int)) - 24))) 64))))), (71, some (tree 1 (ByteArray.size (ByteArray.extract s 1 (Int.toNat (IntKind.wrap IntKind.i64 (1 + IntKind.wrap IntKind.i64 (1 * 2 ^ min (Int.toNat (IntKind.wrap IntKind.i64 (IntKind.wrap IntKind.i64 (IntKind.wrap IntKind.u8 (↑(BitVec.toNat (BitVec.ofInt 8 (↑(UInt8.toNat (Array.getD (ByteArray.data s) 0 0)) : Int) &&& BitVec.ofInt 8 31)) : Int)) - 24))) 64)))))) (chunks 1 (ByteArray.size (ByteArray.extract s 1 (Int.toNat (IntKind.wrap IntKind.i64 (1 + IntKind.wrap IntKind.i64 (1 * 2 ^ min (Int.toNat (IntKind.wrap IntKind.i64 (IntKind.wrap IntKind.i64 (IntKind.wrap IntKind.u8 (↑(BitVec.toNat (BitVec.ofInt 8 (↑(UInt8.toNat (Array.getD (ByteArray.data s) 0 0)) : Int) &&& BitVec.ofInt 8 31)) : Int)) - 24))) 64)))))) (List.drop 0 (Array.toList (byteCells (ByteArray.extract s 1 (Int.toNat (IntKind.wrap IntKind.i64 (1 + IntKind.wrap IntKind.i64 (1 * 2 ^ min (Int.toNat (IntKind.wrap IntKind.i64 (IntKind.wrap IntKind.i64 (IntKind.wrap IntKind.u8 (↑(BitVec.toNat (BitVec.ofInt 8 (↑(UInt8.toNat (Array.getD (ByteArray.data s) 0 0)) : Int) &&& BitVec.ofInt 8 31)) : Int)) - 24))) 64))))))))))), (72, some (Value.int IntKind.i64 (↑(ByteArray.size (ByteArray.extract s 1 (Int.toNat (IntKind.wrap IntKind.i64 (1 + IntKind.wrap IntKind.i64 (1 * 2 ^ min (Int.toNat (IntKind.wrap IntKind.i64 (IntKind.wrap IntKind.i64 (IntKind.wrap IntKind.u8 (↑(BitVec.toNat (BitVec.ofInt 8 (↑(UInt8.toNat (Array.getD (ByteArray.data s) 0 0)) : Int) &&& BitVec.ofInt 8 31)) : Int)) - 24))) 64)))))) : Int))), (73, some (Value.int IntKind.i64 0))] [(0, some (AObj.cells [Value.string s, Value.int IntKind.i64 e] true))] 1)))))) (True ∧ True ∧ True ∧ True ∧ True ∧ pIf (decide (IntKind.wrap IntKind.i64 (IntKind.wrap IntKind.u8 (↑(BitVec.toNat (BitVec.ofInt 8 (↑(UInt8.toNat (Array.getD (ByteArray.data s) 0 0)) : Int) &&& BitVec.ofInt 8 31)) : Int)) > 27)) (True ∧ True ∧ True ∧ True ∧ True ∧ (True ∧ True ∧ True ∧ True ∧ True) ∧ true = true ∧ Post (Value.tuple #[Value.int IntKind.i64 0, Value.int IntKind.u64 0, Value.int IntKind.i64 0, Value.int IntKind.i64 5]) [[Value.string s, Value.int IntKind.i64 e]]) (True ∧ True ∧ True ∧ pIf (decide (IntKind.wrap IntKind.i64 (IntKind.wrap IntKind.u8 (↑(BitVec.toNat (BitVec.ofInt 8 (↑(UInt8.toNat (Array.getD (ByteArray.data s) 0 0)) : Int) &&& BitVec.ofInt 8 31)) : Int)) < 24)) (True ∧ True ∧ True ∧ True ∧ True ∧ True ∧ True ∧ (True ∧ True ∧ True ∧ True ∧ True) ∧ true = true ∧ Post (Value.tuple #[Value.int IntKind.i64 (IntKind.wrap IntKind.i64 (Int.fdiv (↑(UInt8.toNat (Array.getD (ByteArray.data s) 0 0)) : Int) (2 ^ 5))), Value.int IntKind.u64 (IntKind.wrap IntKind.u64 (IntKind.wrap IntKind.i64 (IntKind.wrap IntKind.u8 (↑(BitVec.toNat (BitVec.ofInt 8 (↑(UInt8.toNat (Array.getD (ByteArray.data s) 0 0)) : Int) &&& BitVec.ofInt 8 31)) : Int)))), Value.int IntKind.i64 1, Value.int IntKind.i64 0]) [[Value.string s, Value.int IntKind.i64 e]]) (True ∧ True ∧ 0 ≤ IntKind.wrap IntKind.i64 (IntKind.wrap IntKind.i64 (IntKind.wrap IntKind.u8 (↑(BitVec.toNat (BitVec.ofInt 8 (↑(UInt8.toNat (Array.getD (ByteArray.data s) 0 0)) : Int) &&& BitVec.ofInt 8 31)) : Int)) - 24) ∧ True ∧ True ∧ True ∧ True ∧ True ∧ True ∧ True ∧ True ∧ True ∧ True ∧ pIf (decide ((↑(ByteArray.size s) : Int) < IntKind.wrap IntKind.i64 (1 + IntKind.wrap IntKind.i64 (1 * 2 ^ min (Int.toNat (IntKind.wrap IntKind.i64 (IntKind.wrap IntKind.i64 (IntKind.wrap IntKind.u8 (↑(BitVec.toNat (BitVec.ofInt 8 (↑(UInt8.toNat (Array.getD (ByteArray.data s) 0 0)) : Int) &&& BitVec.ofInt 8 31)) : Int)) - 24))) 64)))) (True ∧ True ∧ True ∧ True ∧ (True ∧ True ∧ True ∧ True ∧ True) ∧ true = true ∧ Post (Value.tuple #[Value.int IntKind.i64 0, Value.int IntKind.u64 0, Value.int IntKind.i64 0, Value.int IntKind.i64 3]) [[Value.string s, Value.int IntKind.i64 e]]) (True ∧ True ∧ True ∧ True ∧ True ∧ True ∧ (0 ≤ IntKind.wrap IntKind.i64 (1 + IntKind.wrap IntKind.i64 (1 * 2 ^ min (Int.toNat (IntKind.wrap IntKind.i64 (IntKind.wrap IntKind.i64 (IntKind.wrap IntKind.u8 (↑(BitVec.toNat (BitVec.ofInt 8 (↑(UInt8.toNat (Array.getD (ByteArray.data s) 0 0)) : Int) &&& BitVec.ofInt 8 31)) : Int)) - 24))) 64)) ∧ toI (Value.int IntKind.i64 0) ≤ 1 ∧ 1 ≤ Int.toNat (IntKind.wrap IntKind.i64 (1 + IntKind.wrap IntKind.i64 (1 * 2 ^ min (Int.toNat (IntKind.wrap IntKind.i64 (IntKind.wrap IntKind.i64 (IntKind.wrap IntKind.u8 (↑(BitVec.toNat (BitVec.ofInt 8 (↑(UInt8.toNat (Array.getD (ByteArray.data s) 0 0)) : Int) &&& BitVec.ofInt 8 31)) : Int)) - 24))) 64))) ∧ Int.toNat (IntKind.wrap IntKind.i64 (1 + IntKind.wrap IntKind.i64 (1 * 2 ^ min (Int.toNat (IntKind.wrap IntKind.i64 (IntKind.wrap IntKind.i64 (IntKind.wrap IntKind.u8 (↑(BitVec.toNat (BitVec.ofInt 8 (↑(UInt8.toNat (Array.getD (ByteArray.data s) 0 0)) : Int) &&& BitVec.ofInt 8 31)) : Int)) - 24))) 64))) ≤ ByteArray.size s) ∧ True ∧ True ∧ True ∧ ((0 + ByteArray.size (ByteArray.extract s 1 (Int.toNat (IntKind.wrap IntKind.i64 (1 + IntKind.wrap IntKind.i64 (1 * 2 ^ min (Int.toNat (IntKind.wrap IntKind.i64 (IntKind.wrap IntKind.i64 (IntKind.wrap IntKind.u8 (↑(BitVec.toNat (BitVec.ofInt 8 (↑(UInt8.toNat (Array.getD (ByteArray.data s) 0 0)) : Int) &&& BitVec.ofInt 8 31)) : Int)) - 24))) 64))))) * 1 ≤ List.length (Array.toList (byteCells (ByteArray.extract s 1 (Int.toNat (IntKind.wrap IntKind.i64 (1 + IntKind.wrap IntKind.i64 (1 * 2 ^ min (Int.toNat (IntKind.wrap IntKind.i64 (IntKind.wrap IntKind.i64 (IntKind.wrap IntKind.u8 (↑(BitVec.toNat (BitVec.ofInt 8 (↑(UInt8.toNat (Array.getD (ByteArray.data s) 0 0)) : Int) &&& BitVec.ofInt 8 31)) : Int)) - 24))) 64))))))) ∧ NLs (List.drop 0 (Array.toList (byteCells (ByteArray.extract s 1 (Int.toNat (IntKind.wrap IntKind.i64 (1 + IntKind.wrap IntKind.i64 (1 * 2 ^ min (Int.toNat (IntKind.wrap IntKind.i64 (IntKind.wrap IntKind.i64 (IntKind.wrap IntKind.u8 (↑(BitVec.toNat (BitVec.ofInt 8 (↑(UInt8.toNat (Array.getD (ByteArray.data s) 0 0)) : Int) &&& BitVec.ofInt 8 31)) : Int)) - 24))) 64))))))))) ∧ True) ∧ (NLs [Value.string s, Value.int IntKind.i64 e] ∧ True) ∧ H (lpC Tryz.prog 91 13) (lpK Tryz.prog 91 13) (stV [(0, some (Value.pointer (some (Addr.mk 0 0 none)))), (6, some (Value.int IntKind.i64 (IntKind.wrap IntKind.i64 (Int.fdiv (↑(UInt8.toNat (Array.getD (ByteArray.data s) 0 0)) : Int) (2 ^ 5))))), (7, some (Value.int IntKind.u64 0)), (8, some (Value.int IntKind.i64 (IntKind.wrap IntKind.i64 (1 + IntKind.wrap IntKind.i64 (1 * 2 ^ min (Int.toNat (IntKind.wrap IntKind.i64 (IntKind.wrap IntKind.i64 (IntKind.wrap IntKind.u8 (↑(BitVec.toNat (BitVec.ofInt 8 (↑(UInt8.toNat (Array.getD (ByteArray.data s) 0 0)) : Int) &&& BitVec.ofInt 8 31)) : Int)) - 24))) 64))))), (71, some (tree 1 (ByteArray.size (ByteArray.extract s 1 (Int.toNat (IntKind.wrap IntKind.i64 (1 + IntKind.wrap IntKind.i64 (1 * 2 ^ min (Int.toNat (IntKind.wrap IntKind.i64 (IntKind.wrap IntKind.i64 (IntKind.wrap IntKind.u8 (↑(BitVec.toNat (BitVec.ofInt 8 (↑(UInt8.toNat (Array.getD (ByteArray.data s) 0 0)) : Int) &&& BitVec.ofInt 8 31)) : Int)) - 24))) 64)))))) (chunks 1 (ByteArray.size (ByteArray.extract s 1 (Int.toNat (IntKind.wrap IntKind.i64 (1 + IntKind.wrap IntKind.i64 (1 * 2 ^ min (Int.toNat (IntKind.wrap IntKind.i64 (IntKind.wrap IntKind.i64 (IntKind.wrap IntKind.u8 (↑(BitVec.toNat (BitVec.ofInt 8 (↑(UInt8.toNat (Array.getD (ByteArray.data s) 0 0)) : Int) &&& BitVec.ofInt 8 31)) : Int)) - 24))) 64)))))) (List.drop 0 (Array.toList (byteCells (ByteArray.extract s 1 (Int.toNat (IntKind.wrap IntKind.i64 (1 + IntKind.wrap IntKind.i64 (1 * 2 ^ min (Int.toNat (IntKind.wrap IntKind.i64 (IntKind.wrap IntKind.i64 (IntKind.wrap IntKind.u8 (↑(BitVec.toNat (BitVec.ofInt 8 (↑(UInt8.toNat (Array.getD (ByteArray.data s) 0 0)) : Int) &&& BitVec.ofInt 8 31)) : Int)) - 24))) 64))))))))))), (72, some (Value.int IntKind.i64 (↑(ByteArray.size (ByteArray.extract s 1 (Int.toNat (IntKind.wrap IntKind.i64 (1 + IntKind.wrap IntKind.i64 (1 * 2 ^ min (Int.toNat (IntKind.wrap IntKind.i64 (IntKind.wrap IntKind.i64 (IntKind.wrap IntKind.u8 (↑(BitVec.toNat (BitVec.ofInt 8 (↑(UInt8.toNat (Array.getD (ByteArray.data s) 0 0)) : Int) &&& BitVec.ofInt 8 31)) : Int)) - 24))) 64)))))) : Int))), (73, some (Value.int IntKind.i64 0))] [(0, some (AObj.cells [Value.string s, Value.int IntKind.i64 e] true))] 1))))))) := by kernel_rfl
theorem l_peek (s : ByteArray) (e one two k v z i : Int) (n : Nat) (A : Array Value) (H : Code → List Fr → AS → Prop) (Post : Value → List (List Value) → Prop) : vcLI Tryz.prog callH 91 [.pointer (some ⟨0, 0, none⟩), .int .i64 one, .int .i64 two] [(13, [0, 6, 7, 8, 1071, 72, 73])] 1 13 (stV [(0, some (.pointer (some ⟨0, 0, none⟩))), (6, some (.int .i64 k)), (7, some (.int .u64 v)), (8, some (.int .i64 z)), (71, some (tree 1 n A)), (72, some (.int .i64 n)), (73, some (.int .i64 i))] [(0, some (.cells [.string s, .int .i64 e] true))] 1) H Post = (True ∧ pIf (decide (i < (↑n : Int))) ((0 ≤ i ∧ i < (↑n : Int)) ∧ cellAt A (Int.toNat i) 0 = Value.int IntKind.u8 (toI (cellAt A (Int.toNat i) 0)) ∧ True ∧ True ∧ toI (Value.int IntKind.i64 0) ≤ 8 ∧ True ∧ True ∧ True ∧ True ∧ True ∧ True ∧ (True ∧ True) ∧ (NLs [Value.string s, Value.int IntKind.i64 e] ∧ True) ∧ H (lpC Tryz.prog 91 13) (lpK Tryz.prog 91 13) (stV [(0, some (Value.pointer (some (Addr.mk 0 0 none)))), (6, some (Value.int IntKind.i64 k)), (7, some (Value.int IntKind.u64 (IntKind.wrap IntKind.u64 (↑(BitVec.toNat (BitVec.ofInt 64 (IntKind.wrap IntKind.u64 (v * 2 ^ 8)) ||| BitVec.ofInt 64 (IntKind.wrap IntKind.u64 (toI (cellAt A (Int.toNat i) 0))))) : Int)))), (8, some (Value.int IntKind.i64 z)), (71, some (tree 1 n A)), (72, some (Value.int IntKind.i64 (↑n : Int))), (73, some (Value.int IntKind.i64 (IntKind.wrap IntKind.i64 (i + 1))))] [(0, some (AObj.cells [Value.string s, Value.int IntKind.i64 e] true))] 1)) (True ∧ True ∧ True ∧ True ∧ True ∧ True ∧ True ∧ True ∧ (0 ≤ z ∧ True ∧ 0 ≤ Int.toNat z ∧ Int.toNat z ≤ ByteArray.size s) ∧ ∃ (k_1 : Nat), ∃ (v_1 : Nat), eqL [Value.slice none 0 0, Value.int IntKind.i64 k, Value.int IntKind.u64 v] [Value.slice none 0 0, Value.int IntKind.i64 (↑k_1 : Int), Value.int IntKind.u64 (↑v_1 : Int)] ∧ k_1 < 8 ∧ v_1 < 18446744073709551616 ∧ ((Value.string s = Value.string s ∧ True) ∧ True) ∧ (0 + List.length (hd k_1 v_1) ≤ List.length (cellsB (hd k_1 v_1)) ∧ AllU8 (List.take (List.length (hd k_1 v_1)) (List.drop 0 (cellsB (hd k_1 v_1))))) ∧ True ∧ pIf (!decide (bytesL (List.take (List.length (hd k_1 v_1)) (List.drop 0 (cellsB (hd k_1 v_1)))) = ByteArray.extract s 0 (Int.toNat z))) (True ∧ True ∧ True ∧ True ∧ (True ∧ True ∧ True ∧ True ∧ True) ∧ true = true ∧ Post (Value.tuple #[Value.int IntKind.i64 0, Value.int IntKind.u64 0, Value.int IntKind.i64 0, Value.int IntKind.i64 5]) [[Value.string s, Value.int IntKind.i64 e]]) (True ∧ True ∧ True ∧ True ∧ True ∧ True ∧ True ∧ (True ∧ True ∧ True ∧ True ∧ True) ∧ true = true ∧ Post (Value.tuple #[Value.int IntKind.i64 k, Value.int IntKind.u64 v, Value.int IntKind.i64 z, Value.int IntKind.i64 0]) [[Value.string s, Value.int IntKind.i64 e]]))) := by kernel_rfl
theorem ofBE_snoc (l : List UInt8) (b : UInt8) : ofBE (l ++ [b]) = 256 * ofBE l + b.toNat := by simp [ofBE, List.foldl_append]
theorem ofBE_lt : ∀ (n : Nat) (l : List UInt8), l.length = n → ofBE l < 256 ^ n
  | 0, l, h => by rw [List.eq_nil_of_length_eq_zero h]; decide
  | n + 1, l, h => by
    have hne : l ≠ [] := by intro e; rw [e] at h; cases h
    rw [← List.dropLast_concat_getLast hne, ofBE_snoc, Nat.pow_succ]
    have h1 := ofBE_lt n l.dropLast (by simp [h])
    have h2 := (l.getLast hne).toNat_lt
    omega
theorem orStep {v : Nat} {b : UInt8} (h : 256 * v + b.toNat < 18446744073709551616) : IntKind.u64.wrap (((BitVec.ofInt 64 (IntKind.u64.wrap ((v : Int) * 2 ^ 8)) ||| BitVec.ofInt 64 (IntKind.u64.wrap ((b.toNat : Nat) : Int))).toNat : Nat) : Int) = ((256 * v + b.toNat : Nat) : Int) := by
  have hb := b.toNat_lt
  rw [show (v : Int) * 2 ^ 8 = ((2 ^ 8 * v : Nat) : Int) by omega, wrapU64 (n := 2 ^ 8 * v) (by omega), wrapU64 (n := b.toNat) (by omega), BitVec.toNat_or]
  have e1 : (BitVec.ofInt 64 ((2 ^ 8 * v : Nat) : Int)).toNat = 2 ^ 8 * v := by rw [BitVec.toNat_ofInt]; omega
  have e2 : (BitVec.ofInt 64 ((b.toNat : Nat) : Int)).toNat = b.toNat := by rw [BitVec.toNat_ofInt]; omega
  rw [e1, e2, ← Nat.two_pow_add_eq_or_of_lt (by omega), wrapU64 (by omega)]
def peekV (r : Nat × Nat × Nat × Nat) : Value := .tuple [.int .i64 r.1, .int .u64 r.2.1, .int .i64 r.2.2.1, .int .i64 r.2.2.2].toArray
def c_peek (args : List Value) (conts : List (List Value)) (Post : Value → List (List Value) → Prop) : Prop :=
  ∃ (s : ByteArray) (e : Int) (one two : Nat), args = [.pointer (some ⟨0, 0, none⟩), .int .i64 one, .int .i64 two] ∧ conts = [[.string s, .int .i64 e]] ∧ s.size < 2 ^ 62 ∧ Post (peekV (pk s one two)) conts
theorem cell_b8 {L : List UInt8} {i : Nat} (h : i < L.length) : cellAt (cellsB L).toArray i 0 = b8 L[i] := by
  unfold cellAt cellsB
  simp [Array.getD_eq_getD_getElem?, h, b8, Value.cells]
theorem chunks_b8 (T : ByteArray) : chunks 1 T.size (List.drop 0 (byteCells T).toList) = (cellsB T.data.toList).toArray := by
  unfold chunks
  rw [byteCells_eq, List.drop_zero, List.take_of_length_le (by rw [cellsB_len]; exact Nat.le_refl _)]
  rfl
theorem bytes_fit (T : ByteArray) : 0 + T.size * 1 ≤ (byteCells T).toList.length ∧ NLs (List.drop 0 (byteCells T).toList) := by
  rw [List.drop_zero, byteCells_eq, cellsB_len]
  refine ⟨?_, nls_cellsB _⟩
  have : T.data.toList.length = T.size := rfl
  omega
abbrev argsPk (one two : Int) : List Value := [.pointer (some ⟨0, 0, none⟩), .int .i64 one, .int .i64 two]
theorem peek_loop (s : ByteArray) (e one two : Int) (k z : Nat) (L : List UInt8) (hL : L.length ≤ 8) (hk : k < 8) (hz : z ≤ s.size) (Post : Value → List (List Value) → Prop)
    (h1 : str (hd k (ofBE L)) ≠ s.extract 0 z → Post (.tuple #[.int .i64 0, .int .u64 0, .int .i64 0, .int .i64 5]) [[.string s, .int .i64 e]])
    (h2 : str (hd k (ofBE L)) = s.extract 0 z → Post (.tuple #[.int .i64 k, .int .u64 (ofBE L : Nat), .int .i64 z, .int .i64 0]) [[.string s, .int .i64 e]]) :
    OkI Tryz.prog 91 (argsPk one two) 1 Post (lpC Tryz.prog 91 13) (lpK Tryz.prog 91 13)
      (stV [(0, some (.pointer (some ⟨0, 0, none⟩))), (6, some (.int .i64 k)), (7, some (.int .u64 0)), (8, some (.int .i64 z)), (71, some (tree 1 L.length (cellsB L).toArray)), (72, some (.int .i64 L.length)), (73, some (.int .i64 0))] [(0, some (.cells [.string s, .int .i64 e] true))] 1) := by
  have hlt : ofBE L < 18446744073709551616 := Nat.lt_of_lt_of_le (ofBE_lt L.length L rfl) (Nat.le_trans (Nat.pow_le_pow_right (by decide) hL) (by decide))
  refine down (n := L.length) (p := fun i => OkI Tryz.prog 91 (argsPk one two) 1 Post (lpC Tryz.prog 91 13) (lpK Tryz.prog 91 13)
      (stV [(0, some (.pointer (some ⟨0, 0, none⟩))), (6, some (.int .i64 k)), (7, some (.int .u64 (ofBE (L.take i) : Nat))), (8, some (.int .i64 z)), (71, some (tree 1 L.length (cellsB L).toArray)), (72, some (.int .i64 L.length)), (73, some (.int .i64 i))] [(0, some (.cells [.string s, .int .i64 e] true))] 1)) ?_ (fun i hi ih => ?_)
  · refine ok_I (vc := callH) callH_ok mixed _ (l_peek s e one two k (ofBE (L.take L.length) : Nat) z L.length L.length (cellsB L).toArray _ _) ?_
    rw [List.take_length]
    simp only [true_and, and_true, pIf_iff, decide_eq_true_eq, decide_eq_false_iff_not, Bool.not_eq_true', Bool.not_eq_false', List.drop_zero, take_all, Nat.zero_add, bytesL_cellsB, Int.toNat_natCast]
    refine ⟨fun h' => by omega, fun _ => ⟨⟨by omega, by omega, hz⟩, k, ofBE L, rfl, hk, hlt, ⟨by rw [cellsB_len]; exact Nat.le_refl _, allU8_cellsB _⟩, fun h' => h1 h', fun h' => h2 h'⟩⟩
  · refine ok_I (vc := callH) callH_ok mixed _ (l_peek s e one two k (ofBE (L.take i) : Nat) z i L.length (cellsB L).toArray _ _) ?_
    have hc := cell_b8 hi
    have hv : 256 * ofBE (L.take i) + L[i].toNat < 18446744073709551616 := by
      have := ofBE_lt (i + 1) (L.take (i + 1)) (by rw [List.length_take]; omega)
      rw [← List.take_append_getElem hi, ofBE_snoc] at this
      exact Nat.lt_of_lt_of_le this (Nat.le_trans (Nat.pow_le_pow_right (by decide) (show i + 1 ≤ 8 by omega)) (by decide))
    simp only [true_and, and_true, pIf_iff, decide_eq_true_eq, decide_eq_false_iff_not, Int.toNat_natCast, hc, b8, toI, orStep hv, wrapSucc (show i < 2 ^ 62 by omega)]
    refine ⟨fun _ => ⟨by omega, by decide, fun v hv => ?_, ?_⟩, fun h' => by omega⟩
    · simp at hv
      rcases hv with rfl | rfl <;> rfl
    · rw [← List.take_append_getElem hi, ofBE_snoc] at ih
      exact ih
theorem ok_peek : IEntOk Tryz.prog ⟨91, c_peek⟩ := by
  rintro args conts Post ⟨s, e, one, two, rfl, rfl, hs, h⟩
  refine spec_I (vc := callH) callH_ok mixed (by kernel_rfl) (by kernel_rfl) _ (e_peek s e one two _ _) ?_
  simp only [true_and, and_true, pIf_iff, decide_eq_true_eq, decide_eq_false_iff_not, Bool.not_eq_true', Bool.not_eq_false']
  simp only [kindOf, lowOf]
  have b0 : s.data.getD 0 0 = byte0 s := rfl
  simp only [b0]
  have hlt := (byte0 s).toNat_lt
  generalize hb : (byte0 s).toNat = b at *
  have fail : ∀ r : Nat, pk s one two = (0, 0, 0, r) → Post (.tuple #[.int .i64 0, .int .u64 0, .int .i64 0, .int .i64 r]) [[.string s, .int .i64 e]] := fun r hr => by rw [hr] at h; exact h
  have key : ∀ k V z : Nat, pk s one two = (k, V, z, 0) → Post (.tuple #[.int .i64 k, .int .u64 V, .int .i64 z, .int .i64 0]) [[.string s, .int .i64 e]] := fun k V z hr => by rw [hr] at h; exact h
  have hsz : ¬ s = ⟨#[]⟩ → 0 < s.size := fun hn => by
    rcases Nat.eq_zero_or_pos s.size with h0 | h0
    · exact absurd (ba_ext (List.eq_nil_of_length_eq_zero h0)) hn
    · exact h0
  refine ⟨fun h0 => fail 3 (by subst h0; rfl), fun h0 => ?_⟩
  have hz := hsz h0
  refine ⟨⟨by decide, by omega⟩, by decide, ⟨by decide, by omega⟩, fun n1 => ⟨fun n2 => fail 5 ?_, fun e2 => ?_⟩, fun e1 => ?_⟩
  · unfold pk
    rw [if_neg (by omega), if_pos (.inl ⟨by rw [hb]; omega, by rw [hb]; omega⟩)]
  all_goals
    have hk : ¬ (b / 32 ≠ one ∧ b / 32 ≠ two) := by omega
    refine ⟨fun h1 => fail 5 ?_, fun h1 => ⟨fun h2 => ?_, fun h2 => ?_⟩⟩
    · unfold pk
      rw [if_neg (by omega), if_pos (.inr (by rw [hb]; omega))]
    · have : pk s one two = (b / 32, b % 32, 1, 0) := by
        unfold pk
        rw [if_neg (by omega), hb, if_neg (by omega), if_pos (by omega)]
      rw [this] at h
      rw [wrapU64 (by omega)]
      exact h
    · have hm1 : 24 ≤ b % 32 := by omega
      have hm2 : b % 32 ≤ 27 := by omega
      have hz64 := sizeOf' hm1 hm2
      have hpw : 2 ^ (b % 32 - 24) ≤ 8 := by
        have : b % 32 - 24 = 0 ∨ b % 32 - 24 = 1 ∨ b % 32 - 24 = 2 ∨ b % 32 - 24 = 3 := by omega
        rcases this with h | h | h | h <;> rw [h] <;> decide
      rw [hz64]
      have hsub : IntKind.i64.wrap (((b % 32 : Nat) : Int) - 24) = ((b % 32 - 24 : Nat) : Int) := by rw [wrap64 (by omega) (by omega)]; omega
      simp only [Int.toNat_natCast, hsub]
      refine ⟨by omega, fun h3 => fail 3 ?_, fun h3 => ?_⟩
      · unfold pk
        rw [if_neg (by omega), hb, if_neg (by omega), if_neg (by omega), if_pos (by omega)]
      · have hT : (s.extract 1 (1 + 2 ^ (b % 32 - 24))).data.toList.length ≤ 8 := by
          rw [ByteArray.data_extract, Array.toList_extract]
          show ((s.data.toList.drop 1).take (1 + 2 ^ (b % 32 - 24) - 1)).length ≤ 8
          rw [List.length_take]
          omega
        have pkE : pk s one two = if str (hd (b / 32) (ofBE (s.extract 1 (1 + 2 ^ (b % 32 - 24))).data.toList)) ≠ s.extract 0 (1 + 2 ^ (b % 32 - 24)) then (0, 0, 0, 5) else (b / 32, ofBE (s.extract 1 (1 + 2 ^ (b % 32 - 24))).data.toList, 1 + 2 ^ (b % 32 - 24), 0) := by
          unfold pk
          rw [if_neg (by omega), hb, if_neg (by omega), if_neg (by omega), if_neg (by omega)]
        refine ⟨⟨Int.natCast_nonneg _, by decide, Nat.le_add_right _ _, by omega⟩, ?_, ?_, ?_⟩
        · exact bytes_fit _
        · intro v hv
          simp at hv
          rcases hv with rfl | rfl <;> rfl
        · rw [chunks_b8]
          refine peek_loop s e one two (b / 32) (1 + 2 ^ (b % 32 - 24)) _ hT (by omega) (by omega) Post (fun hne => fail 5 (by rw [pkE, if_pos hne])) (fun heq => ?_)
          exact key _ _ _ (by rw [pkE, if_neg (fun hn => hn heq)])
end Go.Proofs.YtegjnjmimfgijaaGreatDoor
noncomputable section
namespace Go.Proofs.YtegjnjmimfgijaaGreatDoor
open Go Go.RowKit
set_option maxRecDepth 100000
theorem ofBE_be : ∀ (n v : Nat), ofBE (be n v) = v % 256 ^ n := by
  intro n
  have key : ∀ (n v a : Nat), (be n v).foldl (fun v b => 256 * v + b.toNat) a = a * 256 ^ n + v % 256 ^ n := by
    intro n
    induction n with
    | zero => intro v a; simp [be, Nat.mod_one]
    | succ n ih =>
      intro v a
      simp only [be, List.foldl_cons, ih]
      have h1 : (UInt8.ofNat (v / 256 ^ n)).toNat = v / 256 ^ n % 256 := by simp
      rw [h1, Nat.pow_succ, Nat.mod_mul, Nat.add_mul]
      rw [show 256 * a * 256 ^ n = a * (256 ^ n * 256) by rw [Nat.mul_comm 256 a, Nat.mul_assoc, Nat.mul_comm 256]]
      rw [Nat.mul_comm (v / 256 ^ n % 256)]
      try omega
  intro v
  have := key n v 0
  simpa [ofBE] using this
theorem ba_list {s : ByteArray} {l : List UInt8} (h : s.data.toList = l) : s = str l := ba_ext (by rw [h]; rfl)
theorem str_list (l : List UInt8) : (str l).data.toList = l := rfl
theorem ext_list (s : ByteArray) (a b : Nat) : (s.extract a b).data.toList = (s.data.toList.drop a).take (b - a) := by
  rw [ByteArray.data_extract, Array.toList_extract]
theorem app_list (s t : ByteArray) : (s ++ t).data.toList = s.data.toList ++ t.data.toList := by rw [ByteArray.data_append, Array.toList_append]
theorem size_list (s : ByteArray) : s.size = s.data.toList.length := rfl
theorem byte0_str (b : UInt8) (l : List UInt8) (t : ByteArray) : byte0 (str (b :: l) ++ t) = b := by
  unfold byte0
  rw [Array.getD_eq_getD_getElem?, ← Array.getElem?_toList, app_list]
  rfl
theorem split_at (s : ByteArray) (n : Nat) : s = s.extract 0 n ++ s.extract n s.size := by
  refine ba_ext ?_
  rw [app_list, ext_list, ext_list, List.drop_zero, Nat.sub_zero, List.take_of_length_le (l := s.data.toList.drop n) (by rw [List.length_drop]; exact Nat.le_refl _), List.take_append_drop]
theorem ext_app (l : List UInt8) (t : ByteArray) : (str l ++ t).extract 0 l.length = str l := by
  refine ba_ext ?_
  rw [ext_list, app_list, List.drop_zero, Nat.sub_zero]
  exact List.take_left ..
theorem ext_app' (l : List UInt8) (t : ByteArray) : (str l ++ t).extract l.length (str l ++ t).size = t := by
  refine ba_ext ?_
  rw [ext_list, app_list, size_list, app_list, str_list]
  rw [List.drop_left, List.length_append, Nat.add_sub_cancel_left, List.take_length]
theorem ext_mid (b : UInt8) (l : List UInt8) (t : ByteArray) : ((str (b :: l) ++ t).extract 1 (1 + l.length)).data.toList = l := by
  rw [ext_list, app_list, str_list, Nat.add_sub_cancel_left]
  simp
theorem hd_ge {k v : Nat} (j : Nat) (hj : j ≤ 3) (h : hd k v = UInt8.ofNat (32 * k + (24 + j)) :: be (2 ^ j) v) (hk : k < 8) (hv : v < 256 ^ 2 ^ j) (t : ByteArray) (one two : Nat) (hk2 : k = one ∨ k = two) : pk (str (hd k v) ++ t) one two = (k, v, (hd k v).length, 0) := by
  have hl : (hd k v).length = 1 + 2 ^ j := by rw [h, List.length_cons, be_len]; omega
  have h0 : (byte0 (str (hd k v) ++ t)).toNat = 32 * k + (24 + j) := by rw [h, byte0_str]; exact u8_small (by omega)
  have hq : (32 * k + (24 + j)) / 32 = k := by omega
  have hr : (32 * k + (24 + j)) % 32 = 24 + j := by omega
  have hs : (str (hd k v) ++ t).size = 1 + 2 ^ j + t.size := by rw [ba_size, str_size, hl]
  have hv2 : ofBE ((str (hd k v) ++ t).extract 1 (1 + 2 ^ j)).data.toList = v := by
    have := ext_mid (UInt8.ofNat (32 * k + (24 + j))) (be (2 ^ j) v) t
    rw [be_len] at this
    rw [h, this, ofBE_be, Nat.mod_eq_of_lt hv]
  have hx : (str (hd k v) ++ t).extract 0 (1 + 2 ^ j) = str (hd k v) := by rw [← hl]; exact ext_app _ _
  unfold pk
  rw [h0, hq, hr, Nat.add_sub_cancel_left, hv2, hl, hs, hx]
  generalize 2 ^ j = q
  rw [if_neg (by omega), if_neg (by omega), if_neg (by omega), if_neg (by omega), if_neg (by simp)]
/-- A head is read again. -/
theorem pk_hd {k v : Nat} (hk : k < 8) (hv : v < 18446744073709551616) (t : ByteArray) {one two : Nat} (hk2 : k = one ∨ k = two) : pk (str (hd k v) ++ t) one two = (k, v, (hd k v).length, 0) := by
  by_cases h24 : v < 24
  · have h : hd k v = [UInt8.ofNat (32 * k + v)] := by unfold hd; rw [if_pos h24]
    have h0 : (byte0 (str (hd k v) ++ t)).toNat = 32 * k + v := by rw [h, byte0_str]; exact u8_small (by omega)
    have hs : (str (hd k v) ++ t).size = 1 + t.size := by rw [ba_size, str_size, h]; rfl
    unfold pk
    rw [h0, show (32 * k + v) / 32 = k by omega, show (32 * k + v) % 32 = v by omega, hs, if_neg (by omega), if_neg (by omega), if_pos h24, h]
    rfl
  by_cases h1 : v < 256
  · exact hd_ge 0 (by omega) (by unfold hd; rw [if_neg h24, if_pos h1]) hk h1 t one two hk2
  by_cases h2 : v < 65536
  · exact hd_ge 1 (by omega) (by unfold hd; rw [if_neg h24, if_neg h1, if_pos h2]) hk h2 t one two hk2
  by_cases h3 : v < 4294967296
  · exact hd_ge 2 (by omega) (by unfold hd; rw [if_neg h24, if_neg h1, if_neg h2, if_pos h3]) hk h3 t one two hk2
  · exact hd_ge 3 (by omega) (by unfold hd; rw [if_neg h24, if_neg h1, if_neg h2, if_neg h3]) hk hv t one two hk2
/-- What peek returns: an error alone, or a head that stands first. -/
theorem pk_cases (s : ByteArray) (one two : Nat) : (∃ e, (e = 3 ∨ e = 5) ∧ pk s one two = (0, 0, 0, e)) ∨ ∃ k v n, pk s one two = (k, v, n, 0) ∧ k < 8 ∧ v < 18446744073709551616 ∧ (k = one ∨ k = two) ∧ n = (hd k v).length ∧ n ≤ s.size ∧ s = str (hd k v) ++ s.extract n s.size := by
  have hb := (byte0 s).toNat_lt
  unfold pk
  by_cases h0 : s.size = 0
  · rw [if_pos h0]; exact .inl ⟨3, .inl rfl, rfl⟩
  rw [if_neg h0]
  by_cases h1 : ((byte0 s).toNat / 32 ≠ one ∧ (byte0 s).toNat / 32 ≠ two) ∨ (byte0 s).toNat % 32 > 27
  · rw [if_pos h1]; exact .inl ⟨5, .inr rfl, rfl⟩
  rw [if_neg h1]
  have hk2 : (byte0 s).toNat / 32 = one ∨ (byte0 s).toNat / 32 = two := by omega
  by_cases h2 : (byte0 s).toNat % 32 < 24
  · rw [if_pos h2]
    refine .inr ⟨_, _, _, rfl, by omega, by omega, hk2, ?_, by omega, ?_⟩
    · unfold hd; rw [if_pos h2]; rfl
    · refine ba_ext ?_
      have : hd ((byte0 s).toNat / 32) ((byte0 s).toNat % 32) = [byte0 s] := by
        unfold hd
        rw [if_pos h2, show 32 * ((byte0 s).toNat / 32) + (byte0 s).toNat % 32 = (byte0 s).toNat by omega, UInt8.ofNat_toNat]
      rw [this, app_list, ext_list, str_list, List.take_of_length_le (by rw [List.length_drop]; exact Nat.le_refl _)]
      have hl : s.data.toList ≠ [] := fun e => h0 (by rw [size_list, e]; rfl)
      have : byte0 s = s.data.toList.head hl := by
        unfold byte0
        rw [Array.getD_eq_getD_getElem?, ← Array.getElem?_toList, ← List.head?_eq_getElem?, List.head?_eq_some_head hl]
        rfl
      rw [this, List.drop_one]
      exact (List.cons_head_tail hl).symm
  rw [if_neg h2]
  by_cases h3 : s.size < 1 + 2 ^ ((byte0 s).toNat % 32 - 24)
  · rw [if_pos h3]; exact .inl ⟨3, .inl rfl, rfl⟩
  rw [if_neg h3]
  generalize hj : (byte0 s).toNat % 32 - 24 = j at h3 ⊢
  have hpj : 0 < 2 ^ j := Nat.two_pow_pos j
  generalize hV : ofBE (s.extract 1 (1 + 2 ^ j)).data.toList = v
  by_cases h4 : str (hd ((byte0 s).toNat / 32) v) ≠ s.extract 0 (1 + 2 ^ j)
  · rw [if_pos h4]; exact .inl ⟨5, .inr rfl, rfl⟩
  rw [if_neg h4]
  have h4 : str (hd ((byte0 s).toNat / 32) v) = s.extract 0 (1 + 2 ^ j) := Classical.byContradiction h4
  have hsz : (s.extract 0 (1 + 2 ^ j)).size = 1 + 2 ^ j := by
    rw [size_list, ext_list, List.drop_zero, List.length_take]
    rw [size_list] at h3
    omega
  refine .inr ⟨_, v, _, rfl, by omega, ?_, hk2, ?_, by omega, ?_⟩
  · have hl : (s.extract 1 (1 + 2 ^ j)).data.toList.length = 2 ^ j := by
      rw [ext_list, List.length_take, List.length_drop]
      rw [size_list] at h3
      omega
    have := ofBE_lt (2 ^ j) _ hl
    rw [hV] at this
    have hj3 : j = 0 ∨ j = 1 ∨ j = 2 ∨ j = 3 := by omega
    rcases hj3 with rfl | rfl | rfl | rfl
    · exact Nat.lt_trans this (by decide)
    · exact Nat.lt_trans this (by decide)
    · exact Nat.lt_trans this (by decide)
    · exact this
  · rw [← str_size, h4, hsz]
  · rw [h4]
    exact split_at s _
/-- A reader's state: what has not been read yet, and the error. -/
abbrev St := ByteArray × Nat
def rdInt (low high : Int) (s : St) : Int × St :=
  if s.2 ≠ 0 then (0, s) else
  let r := pk s.1 0 1
  if r.2.2.2 ≠ 0 then (0, s.1, r.2.2.2) else
  if 9223372036854775808 ≤ r.2.1 then (0, s.1, 5) else
  let x : Int := if r.1 = 1 then -1 - (r.2.1 : Int) else r.2.1
  if x < low ∨ high < x then (0, s.1, 9) else (x, s.1.extract r.2.2.1 s.1.size, 0)
def rdHead (kind : Nat) (most : Nat) (follow : Bool) (s : St) : Nat × St :=
  if s.2 ≠ 0 then (0, s) else
  let r := pk s.1 kind kind
  if r.2.2.2 ≠ 0 then (0, s.1, r.2.2.2) else
  if most < r.2.1 then (0, s.1, 4) else
  if follow = true ∧ s.1.size - r.2.2.1 < r.2.1 then (0, s.1, 3) else (r.2.1, s.1.extract r.2.2.1 s.1.size, 0)
def rdText (most : Nat) (s : St) : ByteArray × St :=
  let r := rdHead 2 most true s
  (r.2.1.extract 0 r.1, r.2.1.extract r.1 r.2.1.size, r.2.2)
def rdList (most : Nat) (s : St) : Nat × St := rdHead 4 most false s
end Go.Proofs.YtegjnjmimfgijaaGreatDoor
noncomputable section
namespace Go.Proofs.YtegjnjmimfgijaaGreatDoor
open Go Go.RowKit
set_option maxRecDepth 100000
theorem ba_cancel {a s t : ByteArray} (h : a ++ s = a ++ t) : s = t := by
  have := congrArg (fun x : ByteArray => x.data.toList) h
  simp only [app_list] at this
  exact ba_ext (List.append_cancel_left this)
theorem ba_nil' (a : ByteArray) : a ++ (⟨#[]⟩ : ByteArray) = a := ba_ext (by rw [app_list]; simp)
theorem pre_hd {k v k' v' : Nat} {s t : ByteArray} (h : str (hd k v) ++ s = str (hd k' v') ++ t) (h1 : k < 8) (h2 : k' < 8) (h3 : v < 18446744073709551616) (h4 : v' < 18446744073709551616) : k = k' ∧ v = v' ∧ s = t := by
  have e1 := pk_hd h1 h3 s (one := k) (two := k') (.inl rfl)
  have e2 := pk_hd h2 h4 t (one := k) (two := k') (.inr rfl)
  rw [h, e2] at e1
  have a1 : k' = k := congrArg (·.1) e1
  have a2 : v' = v := congrArg (·.2.1) e1
  subst a1 a2
  exact ⟨rfl, rfl, ba_cancel h⟩
theorem pre_int {a b : Int} {s t : ByteArray} (ha : In64 a) (hb : In64 b) (h : bInt a ++ s = bInt b ++ t) : a = b ∧ s = t := by
  have ha' := ha
  have hb' := hb
  obtain ⟨a1, a2⟩ := ha'
  obtain ⟨b1, b2⟩ := hb'
  unfold bInt at h
  split at h <;> split at h
  · obtain ⟨_, e, f⟩ := pre_hd h (by decide) (by decide) (by omega) (by omega)
    exact ⟨by omega, f⟩
  · obtain ⟨e, _⟩ := pre_hd h (by decide) (by decide) (by omega) (by omega)
    cases e
  · obtain ⟨e, _⟩ := pre_hd h (by decide) (by decide) (by omega) (by omega)
    cases e
  · obtain ⟨_, e, f⟩ := pre_hd h (by decide) (by decide) (by omega) (by omega)
    exact ⟨by omega, f⟩
theorem pre_list {a b : Nat} {s t : ByteArray} (ha : a < 9223372036854775808) (hb : b < 9223372036854775808) (h : bList a ++ s = bList b ++ t) : a = b ∧ s = t := by
  obtain ⟨_, e, f⟩ := pre_hd h (by decide) (by decide) (by omega) (by omega)
  exact ⟨e, f⟩
theorem ba_split {a b s t : ByteArray} (hs : a.size = b.size) (h : a ++ s = b ++ t) : a = b ∧ s = t := by
  have := congrArg (fun x : ByteArray => x.data.toList) h
  simp only [app_list] at this
  obtain ⟨e1, e2⟩ := List.append_inj this (by rw [size_list, size_list] at hs; exact hs)
  exact ⟨ba_ext e1, ba_ext e2⟩
theorem pre_text {a b s t : ByteArray} (ha : a.size < 9223372036854775808) (hb : b.size < 9223372036854775808) (h : bText a ++ s = bText b ++ t) : a = b ∧ s = t := by
  unfold bText at h
  rw [ba_assoc, ba_assoc] at h
  obtain ⟨_, e, f⟩ := pre_hd h (by decide) (by decide) (by omega) (by omega)
  exact ba_split e f
/-- One after the other. -/
def bCat {α : Type} (f : α → ByteArray) : List α → ByteArray
  | [] => ⟨#[]⟩
  | a :: l => f a ++ bCat f l
theorem fold_bCat {α : Type} (f : α → ByteArray) : ∀ (l : List α) (s : ByteArray), l.foldl (fun s x => s ++ f x) s = s ++ bCat f l
  | [], s => (ba_nil' s).symm
  | a :: l, s => by
    rw [List.foldl_cons, fold_bCat f l, bCat, ba_assoc]
theorem pre_cat {α : Type} {D : α → Prop} {f : α → ByteArray} (hf : ∀ a b s t, D a → D b → f a ++ s = f b ++ t → a = b ∧ s = t) : ∀ {l l' : List α} {s t : ByteArray}, l.length = l'.length → (∀ a ∈ l, D a) → (∀ a ∈ l', D a) → bCat f l ++ s = bCat f l' ++ t → l = l' ∧ s = t
  | [], [], s, t, _, _, _, h => ⟨rfl, ba_cancel h⟩
  | a :: l, b :: l', s, t, hl, h1, h2, h => by
    simp only [bCat, ba_assoc] at h
    obtain ⟨e1, h'⟩ := hf a b _ _ (h1 a (by simp)) (h2 b (by simp)) h
    obtain ⟨e2, h''⟩ := pre_cat hf (by simpa using hl) (fun x hx => h1 x (by simp [hx])) (fun x hx => h2 x (by simp [hx])) h'
    exact ⟨by rw [e1, e2], h''⟩
theorem pre_pts {l l' : List Pt} {s t : ByteArray} (n : l.length < 9223372036854775808) (n' : l'.length < 9223372036854775808) (hl : ∀ p ∈ l, InPt p) (hl' : ∀ p ∈ l', InPt p) (h : bPts l ++ s = bPts l' ++ t) : l = l' ∧ s = t := by
  unfold bPts at h
  rw [fold_bCat (fun p : Pt => bInt p.x ++ bInt p.y), fold_bCat (fun p : Pt => bInt p.x ++ bInt p.y), ba_assoc, ba_assoc] at h
  obtain ⟨e, h⟩ := pre_list n n' h
  refine pre_cat (D := InPt) (fun a b s t ha hb h => ?_) e hl hl' h
  rw [ba_assoc, ba_assoc] at h
  obtain ⟨e1, h⟩ := pre_int ha.1 hb.1 h
  obtain ⟨e2, h⟩ := pre_int ha.2 hb.2 h
  exact ⟨by cases a; cases b; simp only at e1 e2; rw [e1, e2], h⟩
theorem pre_strs {l l' : List ByteArray} {s t : ByteArray} (n : l.length < 9223372036854775808) (n' : l'.length < 9223372036854775808) (hl : ∀ p ∈ l, p.size < 9223372036854775808) (hl' : ∀ p ∈ l', p.size < 9223372036854775808) (h : bStrs l ++ s = bStrs l' ++ t) : l = l' ∧ s = t := by
  unfold bStrs at h
  rw [fold_bCat bText, fold_bCat bText, ba_assoc, ba_assoc] at h
  obtain ⟨e, h⟩ := pre_list n n' h
  exact pre_cat (D := fun p => p.size < 9223372036854775808) (fun a b s t ha hb h => pre_text ha hb h) e hl hl' h
theorem bPart_flat (p : Part) (s : ByteArray) : bPart p ++ s = bText p.id ++ (bInt p.rev ++ (bInt p.kind ++ (bText p.node ++ (bText p.grade ++ (bInt p.thick ++ (bPts p.outer ++ (bList p.holes.length ++ (bCat bPts p.holes ++ (bText p.sect ++ (bInt p.long ++ (bInt p.mass ++ (bInt p.centre.x ++ (bInt p.centre.y ++ (bInt p.centre.z ++ (bInt p.at_.x ++ (bInt p.at_.y ++ (bInt p.at_.z ++ (bInt p.turn ++ s)))))))))))))))))) := by
  have e1 : bInts [p.rev, p.kind] = ⟨#[]⟩ ++ bInt p.rev ++ bInt p.kind := rfl
  have e2 : bInts [p.thick] = ⟨#[]⟩ ++ bInt p.thick := rfl
  have e3 : bInts (bRear p) = ⟨#[]⟩ ++ bInt p.long ++ bInt p.mass ++ bInt p.centre.x ++ bInt p.centre.y ++ bInt p.centre.z ++ bInt p.at_.x ++ bInt p.at_.y ++ bInt p.at_.z ++ bInt p.turn := rfl
  unfold bPart bHoles bFront
  rw [List.take_length, fold_bCat bPts, e1, e2, e3]
  simp only [ba_assoc, ba_nil]
/-- Sizes that fit. -/
structure SizP (p : Part) : Prop where
  id : p.id.size < 9223372036854775808
  node : p.node.size < 9223372036854775808
  grade : p.grade.size < 9223372036854775808
  sect : p.sect.size < 9223372036854775808
  outer : p.outer.length < 9223372036854775808
  holes : p.holes.length < 9223372036854775808
  all : ∀ h ∈ p.holes, h.length < 9223372036854775808
theorem pre_part {p q : Part} {s t : ByteArray} (ip : InPart p) (iq : InPart q) (zp : SizP p) (zq : SizP q) (h : bPart p ++ s = bPart q ++ t) : p = q ∧ s = t := by
  rw [bPart_flat, bPart_flat] at h
  obtain ⟨e1, h⟩ := pre_text zp.id zq.id h
  obtain ⟨e2, h⟩ := pre_int ip.rev iq.rev h
  obtain ⟨e3, h⟩ := pre_int ip.kind iq.kind h
  obtain ⟨e4, h⟩ := pre_text zp.node zq.node h
  obtain ⟨e5, h⟩ := pre_text zp.grade zq.grade h
  obtain ⟨e6, h⟩ := pre_int ip.thick iq.thick h
  obtain ⟨e7, h⟩ := pre_pts zp.outer zq.outer ip.outer iq.outer h
  obtain ⟨e8, h⟩ := pre_list zp.holes zq.holes h
  obtain ⟨e9, h⟩ := pre_cat (D := fun l : List Pt => l.length < 9223372036854775808 ∧ ∀ x ∈ l, InPt x) (fun a b s t ha hb h => pre_pts ha.1 hb.1 ha.2 hb.2 h) e8 (fun l hl => ⟨zp.all l hl, ip.holes l hl⟩) (fun l hl => ⟨zq.all l hl, iq.holes l hl⟩) h
  obtain ⟨f1, h⟩ := pre_text zp.sect zq.sect h
  obtain ⟨f2, h⟩ := pre_int ip.long iq.long h
  obtain ⟨f3, h⟩ := pre_int ip.mass iq.mass h
  obtain ⟨f4, h⟩ := pre_int ip.centre.1 iq.centre.1 h
  obtain ⟨f5, h⟩ := pre_int ip.centre.2.1 iq.centre.2.1 h
  obtain ⟨f6, h⟩ := pre_int ip.centre.2.2 iq.centre.2.2 h
  obtain ⟨f7, h⟩ := pre_int ip.at_.1 iq.at_.1 h
  obtain ⟨f8, h⟩ := pre_int ip.at_.2.1 iq.at_.2.1 h
  obtain ⟨f9, h⟩ := pre_int ip.at_.2.2 iq.at_.2.2 h
  obtain ⟨g1, h⟩ := pre_int ip.turn iq.turn h
  exact ⟨Part.ext' e1 e2 e3 e4 e5 e6 e7 e9 f1 f2 f3 (Vec3.ext' f4 f5 f6) (Vec3.ext' f7 f8 f9) g1, h⟩
structure SizE (x : Edit) : Prop where
  id : x.id.size < 9223372036854775808
  to : x.to.size < 9223372036854775808
  n1 : x.node.id.size < 9223372036854775808
  n2 : x.node.parent.size < 9223372036854775808
  part : SizP x.part
  s1 : x.seam.id.size < 9223372036854775808
  s2 : x.seam.a.size < 9223372036854775808
  s3 : x.seam.b.size < 9223372036854775808
  p1 : x.pack.id.size < 9223372036854775808
  p2 : x.pack.block.size < 9223372036854775808
  p3 : x.pack.parts.length < 9223372036854775808
  p4 : ∀ s ∈ x.pack.parts, s.size < 9223372036854775808
  p5 : x.pack.after.length < 9223372036854775808
  p6 : ∀ s ∈ x.pack.after, s.size < 9223372036854775808
  e1 : x.need.block.size < 9223372036854775808
  e2 : x.need.on.size < 9223372036854775808
theorem pre_edit {x y : Edit} {s t : ByteArray} (ix : InEdit x) (iy : InEdit y) (zx : SizE x) (zy : SizE y) (h : bEdit x ++ s = bEdit y ++ t) : x = y ∧ s = t := by
  unfold bEdit bNode bSeam bPack at h
  simp only [ba_assoc] at h
  obtain ⟨e1, h⟩ := pre_int ix.kind iy.kind h
  obtain ⟨e2, h⟩ := pre_text zx.id zy.id h
  obtain ⟨e3, h⟩ := pre_text zx.to zy.to h
  obtain ⟨n1, h⟩ := pre_text zx.n1 zy.n1 h
  obtain ⟨n2, h⟩ := pre_int ix.node iy.node h
  obtain ⟨n3, h⟩ := pre_text zx.n2 zy.n2 h
  obtain ⟨q, h⟩ := pre_part ix.part iy.part zx.part zy.part h
  obtain ⟨s1, h⟩ := pre_text zx.s1 zy.s1 h
  obtain ⟨s2, h⟩ := pre_text zx.s2 zy.s2 h
  obtain ⟨s3, h⟩ := pre_text zx.s3 zy.s3 h
  obtain ⟨s4, h⟩ := pre_int ix.seam iy.seam h
  obtain ⟨s5, h⟩ := pre_int ix.long iy.long h
  obtain ⟨s6, h⟩ := pre_int ix.cls iy.cls h
  obtain ⟨p1, h⟩ := pre_text zx.p1 zy.p1 h
  obtain ⟨p2, h⟩ := pre_text zx.p2 zy.p2 h
  obtain ⟨p3, h⟩ := pre_strs zx.p3 zy.p3 zx.p4 zy.p4 h
  obtain ⟨p4, h⟩ := pre_int ix.hours iy.hours h
  obtain ⟨p5, h⟩ := pre_strs zx.p5 zy.p5 zx.p6 zy.p6 h
  obtain ⟨m1, h⟩ := pre_int ix.need iy.need h
  obtain ⟨m2, h⟩ := pre_text zx.e1 zy.e1 h
  obtain ⟨m3, h⟩ := pre_text zx.e2 zy.e2 h
  exact ⟨Edit.ext' e1 e2 e3 (Node3.ext' n1 n2 n3) q (Seam6.ext' s1 s2 s3 s4 s5 s6) (Pack5.ext' p1 p2 p3 p4 p5) (Need3.ext' m1 m2 m3), h⟩
theorem FewEd.siz {x : Edit} (h : FewEd x) : SizE x := by
  have hv := h.vol
  unfold volE volP at hv
  have h1 := h.parts
  have h2 := h.after
  have h3 := h.outer
  have h4 := h.holes
  exact ⟨by omega, by omega, by omega, by omega, ⟨by omega, by omega, by omega, by omega, by omega, by omega, fun l hl => by have := h.all l hl; omega⟩, by omega, by omega, by omega, by omega, by omega, by omega, fun s hs => by have := volL_mem hs; omega, by omega, fun s hs => by have := volL_mem hs; omega, by omega, by omega⟩
theorem order_inj {a b : Order2} (ia : InOrder a) (ib : InOrder b) (fa : FewO a) (fb : FewO b) : bOrder a = bOrder b ↔ a = b := by
  refine ⟨fun h => ?_, fun h => by rw [h]⟩
  have h' : bOrder a ++ ⟨#[]⟩ = bOrder b ++ ⟨#[]⟩ := by rw [h]
  unfold bOrder bEdits at h'
  rw [List.take_length, List.take_length, fold_bCat bEdit, fold_bCat bEdit] at h'
  simp only [ba_assoc] at h'
  have va := fa.vol
  have vb := fb.vol
  unfold volO at va vb
  have la := fa.len
  have lb := fb.len
  obtain ⟨e1, h'⟩ := pre_text (by omega) (by omega) h'
  obtain ⟨e2, h'⟩ := pre_list (by omega) (by omega) h'
  obtain ⟨e3, _⟩ := pre_cat (D := fun x : Edit => InEdit x ∧ SizE x) (fun a b s t ha hb h => pre_edit ha.1 hb.1 ha.2 hb.2 h) e2 (fun x hx => ⟨ia.all x hx, (fa.edit hx).siz⟩) (fun x hx => ⟨ib.all x hx, (fb.edit hx).siz⟩) h'
  exact Order2.ext' e1 e3
end Go.Proofs.YtegjnjmimfgijaaGreatDoor
noncomputable section
namespace Go.Proofs.YtegjnjmimfgijaaGreatDoor
open Go Go.RowKit
set_option maxRecDepth 100000
/-- Along two lists of one length. -/
theorem eq_down {α : Type} {l m : List α} (hlen : l.length = m.length) {G : Nat → Prop} (hend : l = m → G l.length) (h : ∀ (k : Nat) (h1 : k < l.length) (h2 : k < m.length), (l[k] = m[k] → G (k + 1)) → (l[k] ≠ m[k] → l ≠ m) → G k) : G 0 := by
  refine down (n := l.length) (p := fun k => (∀ i : Nat, i < k → l[i]? = m[i]?) → G k) (fun hall => hend (list_same hlen hall)) (fun k h1 ih hall => ?_) (fun i hi => by omega)
  exact h k h1 (by omega) (fun e => ih (same_next h1 (by omega) hall e)) (fun e => ne_at h1 (by omega) e)
theorem Spot.eq_iff {p q : Spot} : p = q ↔ p.part = q.part ∧ p.at_.x = q.at_.x ∧ p.at_.y = q.at_.y ∧ p.turn = q.turn ∧ p.flip = q.flip :=
  ⟨fun e => by subst e; exact ⟨rfl, rfl, rfl, rfl, rfl⟩, fun ⟨a, b, c, d, e⟩ => Spot.ext' a (Pt.ext' b c) d e⟩
theorem Hook4.eq_iff {p q : Hook4} : p = q ↔ p.crane = q.crane ∧ p.at_.x = q.at_.x ∧ p.at_.y = q.at_.y ∧ p.radius = q.radius :=
  ⟨fun e => by subst e; exact ⟨rfl, rfl, rfl, rfl⟩, fun ⟨a, b, c, d⟩ => Hook4.ext' a (Pt.ext' b c) d⟩
theorem cell_spot {l : List Spot} {i : Nat} (h : i < l.length) (j : Nat) : cellAt (encL l) i j = ((spotC l[i])[j]?).getD undef := cellAt_encL' h
theorem cell_hook {l : List Hook4} {i : Nat} (h : i < l.length) (j : Nat) : cellAt (encL l) i j = ((hook4C l[i])[j]?).getD undef := cellAt_encL' h
theorem cell_name {l : List ByteArray} {i : Nat} (h : i < l.length) (j : Nat) : cellAt (encL l) i j = (([Value.string l[i]])[j]?).getD undef := cellAt_encL' h
def c_eqSpots (args : List Value) (Post : Value → Prop) : Prop := ∃ l m : List Spot, args = [tree 5 l.length (encL l), tree 5 m.length (encL m)] ∧ Short l ∧ Post (.bool (decide (l = m)))
def c_eqHooks (args : List Value) (Post : Value → Prop) : Prop := ∃ l m : List Hook4, args = [tree 4 l.length (encL l), tree 4 m.length (encL m)] ∧ Short l ∧ Post (.bool (decide (l = m)))
def c_eqNames (args : List Value) (Post : Value → Prop) : Prop := ∃ l m : List ByteArray, args = [tree 1 l.length (encL l), tree 1 m.length (encL m)] ∧ Short l ∧ Post (.bool (decide (l = m)))
theorem e_eqSpots (l m : List Spot) (H : Code → List Fr → AS → Prop) (Post : Value → Prop) : vcP Tryz.prog noCall 66 [(4, [0, 1, 12, 13])] [tree 5 l.length (encL l), tree 5 m.length (encL m)] H Post = (True ∧ True ∧ True ∧ True ∧ True ∧ True ∧ pIf (!decide ((↑(List.length l) : Int) = (↑(List.length m) : Int))) (True ∧ True ∧ Post (Value.bool false)) (True ∧ True ∧ True ∧ True ∧ True ∧ H (lpC Tryz.prog 66 4) (lpK Tryz.prog 66 4) (stV [(0, some (tree 5 (List.length l) (encL l))), (1, some (tree 5 (List.length m) (encL m))), (12, some (Value.int IntKind.i64 (↑(List.length l) : Int))), (13, some (Value.int IntKind.i64 0))] [] 0))) := by kernel_rfl
theorem l_eqSpots (l m : List Spot) (k : Int) (H : Code → List Fr → AS → Prop) (Post : Value → Prop) : vcLP Tryz.prog noCall 66 [tree 5 l.length (encL l), tree 5 m.length (encL m)] [(4, [0, 1, 12, 13])] 4 (stV [(0, some (tree 5 l.length (encL l))), (1, some (tree 5 m.length (encL m))), (12, some (.int .i64 l.length)), (13, some (.int .i64 k))] [] 0) H Post = (True ∧ pIf (decide (k < (↑(List.length l) : Int))) (True ∧ True ∧ True ∧ True ∧ (0 ≤ k ∧ k < (↑(List.length l) : Int)) ∧ (cellAt (encL l) (Int.toNat k) 0 = Value.string (toS (cellAt (encL l) (Int.toNat k) 0)) ∧ cellAt (encL l) (Int.toNat k) 1 = Value.int IntKind.i64 (toI (cellAt (encL l) (Int.toNat k) 1)) ∧ cellAt (encL l) (Int.toNat k) 2 = Value.int IntKind.i64 (toI (cellAt (encL l) (Int.toNat k) 2)) ∧ cellAt (encL l) (Int.toNat k) 3 = Value.int IntKind.i64 (toI (cellAt (encL l) (Int.toNat k) 3)) ∧ cellAt (encL l) (Int.toNat k) 4 = Value.bool (toB (cellAt (encL l) (Int.toNat k) 4)) ∧ True) ∧ True ∧ True ∧ (0 ≤ k ∧ k < (↑(List.length m) : Int)) ∧ (cellAt (encL m) (Int.toNat k) 0 = Value.string (toS (cellAt (encL m) (Int.toNat k) 0)) ∧ cellAt (encL m) (Int.toNat k) 1 = Value.int IntKind.i64 (toI (cellAt (encL m) (Int.toNat k) 1)) ∧ cellAt (encL m) (Int.toNat k) 2 = Value.int IntKind.i64 (toI (cellAt (encL m) (Int.toNat k) 2)) ∧ cellAt (encL m) (Int.toNat k) 3 = Value.int IntKind.i64 (toI (cellAt (encL m) (Int.toNat k) 3)) ∧ cellAt (encL m) (Int.toNat k) 4 = Value.bool (toB (cellAt (encL m) (Int.toNat k) 4)) ∧ True) ∧ True ∧ pIf (!(decide (toS (cellAt (encL l) (Int.toNat k) 0) = toS (cellAt (encL m) (Int.toNat k) 0)) && (decide (toI (cellAt (encL l) (Int.toNat k) 1) = toI (cellAt (encL m) (Int.toNat k) 1)) && (decide (toI (cellAt (encL l) (Int.toNat k) 2) = toI (cellAt (encL m) (Int.toNat k) 2)) && true) && (decide (toI (cellAt (encL l) (Int.toNat k) 3) = toI (cellAt (encL m) (Int.toNat k) 3)) && (toB (cellAt (encL l) (Int.toNat k) 4) == toB (cellAt (encL m) (Int.toNat k) 4) && true))))) (True ∧ True ∧ Post (Value.bool false)) (True ∧ True ∧ True ∧ True ∧ H (lpC Tryz.prog 66 4) (lpK Tryz.prog 66 4) (stV [(0, some (tree 5 (List.length l) (encL l))), (1, some (tree 5 (List.length m) (encL m))), (12, some (Value.int IntKind.i64 (↑(List.length l) : Int))), (13, some (Value.int IntKind.i64 (IntKind.wrap IntKind.i64 (k + 1))))] [] 0))) (True ∧ True ∧ Post (Value.bool true))) := by kernel_rfl
theorem ok_eqSpots : EntOk Tryz.prog ⟨66, c_eqSpots⟩ := by
  rintro args Post ⟨l, m, rfl, hs, h⟩
  have hs : l.length < 2 ^ 62 := hs
  refine pure_P (vc := noCall) noCall_ok mixed (by kernel_rfl) (by kernel_rfl) _ (e_eqSpots l m _ _) ?_
  simp only [true_and, pIf_iff, Bool.not_eq_true', decide_eq_false_iff_not, Bool.not_eq_false', decide_eq_true_eq]
  refine ⟨fun hne => of_b h (decide_eq_false fun e => hne (by rw [e])), fun heq => ?_⟩
  have heq : l.length = m.length := by omega
  refine eq_down heq (G := fun k => OkP 66 [tree 5 l.length (encL l), tree 5 m.length (encL m)] 4 Post (stV [(0, some (tree 5 l.length (encL l))), (1, some (tree 5 m.length (encL m))), (12, some (.int .i64 l.length)), (13, some (.int .i64 k))] [] 0)) (fun e => ?_) (fun k h1 h2 ih ne => ?_)
  · refine ok_P (vc := noCall) noCall_ok mixed _ (l_eqSpots l m _ _ _) ?_
    simp only [true_and, pIf_iff, decide_eq_true_eq, decide_eq_false_iff_not]
    exact ⟨fun hlt => by omega, fun _ => of_b h (decide_eq_true e)⟩
  · refine ok_P (vc := noCall) noCall_ok mixed _ (l_eqSpots l m _ _ _) ?_
    simp only [true_and, and_true, pIf_iff, decide_eq_true_eq, decide_eq_false_iff_not, Int.toNat_natCast, cell_spot h1, cell_spot h2, spotC, List.getElem?_cons_succ, List.getElem?_cons_zero, Option.getD_some, toI, toS, toB]
    refine ⟨fun _ => ⟨by omega, by omega, fun hne => of_b h (decide_eq_false (ne fun e => ?_)), fun he => ?_⟩, fun h' => by omega⟩
    · rw [e] at hne; simp at hne
    · rw [wrapSucc (by omega)]; exact ih (Spot.eq_iff.2 (by simpa [and_assoc] using he))
theorem e_eqNames (l m : List ByteArray) (H : Code → List Fr → AS → Prop) (Post : Value → Prop) : vcP Tryz.prog noCall 67 [(4, [0, 1, 12, 13])] [tree 1 l.length (encL l), tree 1 m.length (encL m)] H Post = (True ∧ True ∧ True ∧ True ∧ True ∧ True ∧ pIf (!decide ((↑(List.length l) : Int) = (↑(List.length m) : Int))) (True ∧ True ∧ Post (Value.bool false)) (True ∧ True ∧ True ∧ True ∧ True ∧ H (lpC Tryz.prog 67 4) (lpK Tryz.prog 67 4) (stV [(0, some (tree 1 (List.length l) (encL l))), (1, some (tree 1 (List.length m) (encL m))), (12, some (Value.int IntKind.i64 (↑(List.length l) : Int))), (13, some (Value.int IntKind.i64 0))] [] 0))) := by kernel_rfl
theorem l_eqNames (l m : List ByteArray) (k : Int) (H : Code → List Fr → AS → Prop) (Post : Value → Prop) : vcLP Tryz.prog noCall 67 [tree 1 l.length (encL l), tree 1 m.length (encL m)] [(4, [0, 1, 12, 13])] 4 (stV [(0, some (tree 1 l.length (encL l))), (1, some (tree 1 m.length (encL m))), (12, some (.int .i64 l.length)), (13, some (.int .i64 k))] [] 0) H Post = (True ∧ pIf (decide (k < (↑(List.length l) : Int))) (True ∧ True ∧ True ∧ True ∧ (0 ≤ k ∧ k < (↑(List.length l) : Int)) ∧ cellAt (encL l) (Int.toNat k) 0 = Value.string (toS (cellAt (encL l) (Int.toNat k) 0)) ∧ True ∧ True ∧ (0 ≤ k ∧ k < (↑(List.length m) : Int)) ∧ cellAt (encL m) (Int.toNat k) 0 = Value.string (toS (cellAt (encL m) (Int.toNat k) 0)) ∧ True ∧ pIf (!decide (toS (cellAt (encL l) (Int.toNat k) 0) = toS (cellAt (encL m) (Int.toNat k) 0))) (True ∧ True ∧ Post (Value.bool false)) (True ∧ True ∧ True ∧ True ∧ H (lpC Tryz.prog 67 4) (lpK Tryz.prog 67 4) (stV [(0, some (tree 1 (List.length l) (encL l))), (1, some (tree 1 (List.length m) (encL m))), (12, some (Value.int IntKind.i64 (↑(List.length l) : Int))), (13, some (Value.int IntKind.i64 (IntKind.wrap IntKind.i64 (k + 1))))] [] 0))) (True ∧ True ∧ Post (Value.bool true))) := by kernel_rfl
theorem ok_eqNames : EntOk Tryz.prog ⟨67, c_eqNames⟩ := by
  rintro args Post ⟨l, m, rfl, hs, h⟩
  have hs : l.length < 2 ^ 62 := hs
  refine pure_P (vc := noCall) noCall_ok mixed (by kernel_rfl) (by kernel_rfl) _ (e_eqNames l m _ _) ?_
  simp only [true_and, pIf_iff, Bool.not_eq_true', decide_eq_false_iff_not, Bool.not_eq_false', decide_eq_true_eq]
  refine ⟨fun hne => of_b h (decide_eq_false fun e => hne (by rw [e])), fun heq => ?_⟩
  have heq : l.length = m.length := by omega
  refine eq_down heq (G := fun k => OkP 67 [tree 1 l.length (encL l), tree 1 m.length (encL m)] 4 Post (stV [(0, some (tree 1 l.length (encL l))), (1, some (tree 1 m.length (encL m))), (12, some (.int .i64 l.length)), (13, some (.int .i64 k))] [] 0)) (fun e => ?_) (fun k h1 h2 ih ne => ?_)
  · refine ok_P (vc := noCall) noCall_ok mixed _ (l_eqNames l m _ _ _) ?_
    simp only [true_and, pIf_iff, decide_eq_true_eq, decide_eq_false_iff_not]
    exact ⟨fun hlt => by omega, fun _ => of_b h (decide_eq_true e)⟩
  · refine ok_P (vc := noCall) noCall_ok mixed _ (l_eqNames l m _ _ _) ?_
    simp only [true_and, and_true, pIf_iff, decide_eq_true_eq, decide_eq_false_iff_not, Int.toNat_natCast, cell_name h1, cell_name h2, List.getElem?_cons_succ, List.getElem?_cons_zero, Option.getD_some, toI, toS, toB]
    refine ⟨fun _ => ⟨by omega, by omega, fun hne => of_b h (decide_eq_false (ne fun e => ?_)), fun he => ?_⟩, fun h' => by omega⟩
    · rw [e] at hne; simp at hne
    · rw [wrapSucc (by omega)]; exact ih ((by simpa using he))
theorem e_eqHooks (l m : List Hook4) (H : Code → List Fr → AS → Prop) (Post : Value → Prop) : vcP Tryz.prog noCall 68 [(4, [0, 1, 12, 13])] [tree 4 l.length (encL l), tree 4 m.length (encL m)] H Post = (True ∧ True ∧ True ∧ True ∧ True ∧ True ∧ pIf (!decide ((↑(List.length l) : Int) = (↑(List.length m) : Int))) (True ∧ True ∧ Post (Value.bool false)) (True ∧ True ∧ True ∧ True ∧ True ∧ H (lpC Tryz.prog 68 4) (lpK Tryz.prog 68 4) (stV [(0, some (tree 4 (List.length l) (encL l))), (1, some (tree 4 (List.length m) (encL m))), (12, some (Value.int IntKind.i64 (↑(List.length l) : Int))), (13, some (Value.int IntKind.i64 0))] [] 0))) := by kernel_rfl
theorem l_eqHooks (l m : List Hook4) (k : Int) (H : Code → List Fr → AS → Prop) (Post : Value → Prop) : vcLP Tryz.prog noCall 68 [tree 4 l.length (encL l), tree 4 m.length (encL m)] [(4, [0, 1, 12, 13])] 4 (stV [(0, some (tree 4 l.length (encL l))), (1, some (tree 4 m.length (encL m))), (12, some (.int .i64 l.length)), (13, some (.int .i64 k))] [] 0) H Post = (True ∧ pIf (decide (k < (↑(List.length l) : Int))) (True ∧ True ∧ True ∧ True ∧ (0 ≤ k ∧ k < (↑(List.length l) : Int)) ∧ (cellAt (encL l) (Int.toNat k) 0 = Value.string (toS (cellAt (encL l) (Int.toNat k) 0)) ∧ cellAt (encL l) (Int.toNat k) 1 = Value.int IntKind.i64 (toI (cellAt (encL l) (Int.toNat k) 1)) ∧ cellAt (encL l) (Int.toNat k) 2 = Value.int IntKind.i64 (toI (cellAt (encL l) (Int.toNat k) 2)) ∧ cellAt (encL l) (Int.toNat k) 3 = Value.int IntKind.i64 (toI (cellAt (encL l) (Int.toNat k) 3)) ∧ True) ∧ True ∧ True ∧ (0 ≤ k ∧ k < (↑(List.length m) : Int)) ∧ (cellAt (encL m) (Int.toNat k) 0 = Value.string (toS (cellAt (encL m) (Int.toNat k) 0)) ∧ cellAt (encL m) (Int.toNat k) 1 = Value.int IntKind.i64 (toI (cellAt (encL m) (Int.toNat k) 1)) ∧ cellAt (encL m) (Int.toNat k) 2 = Value.int IntKind.i64 (toI (cellAt (encL m) (Int.toNat k) 2)) ∧ cellAt (encL m) (Int.toNat k) 3 = Value.int IntKind.i64 (toI (cellAt (encL m) (Int.toNat k) 3)) ∧ True) ∧ True ∧ pIf (!(decide (toS (cellAt (encL l) (Int.toNat k) 0) = toS (cellAt (encL m) (Int.toNat k) 0)) && (decide (toI (cellAt (encL l) (Int.toNat k) 1) = toI (cellAt (encL m) (Int.toNat k) 1)) && (decide (toI (cellAt (encL l) (Int.toNat k) 2) = toI (cellAt (encL m) (Int.toNat k) 2)) && true) && (decide (toI (cellAt (encL l) (Int.toNat k) 3) = toI (cellAt (encL m) (Int.toNat k) 3)) && true)))) (True ∧ True ∧ Post (Value.bool false)) (True ∧ True ∧ True ∧ True ∧ H (lpC Tryz.prog 68 4) (lpK Tryz.prog 68 4) (stV [(0, some (tree 4 (List.length l) (encL l))), (1, some (tree 4 (List.length m) (encL m))), (12, some (Value.int IntKind.i64 (↑(List.length l) : Int))), (13, some (Value.int IntKind.i64 (IntKind.wrap IntKind.i64 (k + 1))))] [] 0))) (True ∧ True ∧ Post (Value.bool true))) := by kernel_rfl
theorem ok_eqHooks : EntOk Tryz.prog ⟨68, c_eqHooks⟩ := by
  rintro args Post ⟨l, m, rfl, hs, h⟩
  have hs : l.length < 2 ^ 62 := hs
  refine pure_P (vc := noCall) noCall_ok mixed (by kernel_rfl) (by kernel_rfl) _ (e_eqHooks l m _ _) ?_
  simp only [true_and, pIf_iff, Bool.not_eq_true', decide_eq_false_iff_not, Bool.not_eq_false', decide_eq_true_eq]
  refine ⟨fun hne => of_b h (decide_eq_false fun e => hne (by rw [e])), fun heq => ?_⟩
  have heq : l.length = m.length := by omega
  refine eq_down heq (G := fun k => OkP 68 [tree 4 l.length (encL l), tree 4 m.length (encL m)] 4 Post (stV [(0, some (tree 4 l.length (encL l))), (1, some (tree 4 m.length (encL m))), (12, some (.int .i64 l.length)), (13, some (.int .i64 k))] [] 0)) (fun e => ?_) (fun k h1 h2 ih ne => ?_)
  · refine ok_P (vc := noCall) noCall_ok mixed _ (l_eqHooks l m _ _ _) ?_
    simp only [true_and, pIf_iff, decide_eq_true_eq, decide_eq_false_iff_not]
    exact ⟨fun hlt => by omega, fun _ => of_b h (decide_eq_true e)⟩
  · refine ok_P (vc := noCall) noCall_ok mixed _ (l_eqHooks l m _ _ _) ?_
    simp only [true_and, and_true, pIf_iff, decide_eq_true_eq, decide_eq_false_iff_not, Int.toNat_natCast, cell_hook h1, cell_hook h2, hook4C, List.getElem?_cons_succ, List.getElem?_cons_zero, Option.getD_some, toI, toS, toB]
    refine ⟨fun _ => ⟨by omega, by omega, fun hne => of_b h (decide_eq_false (ne fun e => ?_)), fun he => ?_⟩, fun h' => by omega⟩
    · rw [e] at hne; simp at hne
    · rw [wrapSucc (by omega)]; exact ih (Hook4.eq_iff.2 (by simpa [and_assoc] using he))
theorem e_sameStrings (l m : List ByteArray) (H : Code → List Fr → AS → Prop) (Post : Value → Prop) : vcP Tryz.prog noCall 40 [(4, [0, 1, 5])] [tree 1 l.length (encL l), tree 1 m.length (encL m)] H Post = (True ∧ True ∧ True ∧ True ∧ True ∧ True ∧ pIf (!decide ((↑(List.length l) : Int) = (↑(List.length m) : Int))) (True ∧ True ∧ Post (Value.bool false)) (True ∧ True ∧ True ∧ H (lpC Tryz.prog 40 4) (lpK Tryz.prog 40 4) (stV [(0, some (tree 1 (List.length l) (encL l))), (1, some (tree 1 (List.length m) (encL m))), (5, some (Value.int IntKind.i64 0))] [] 0))) := by kernel_rfl
theorem l_sameStrings (l m : List ByteArray) (k : Int) (H : Code → List Fr → AS → Prop) (Post : Value → Prop) : vcLP Tryz.prog noCall 40 [tree 1 l.length (encL l), tree 1 m.length (encL m)] [(4, [0, 1, 5])] 4 (stV [(0, some (tree 1 l.length (encL l))), (1, some (tree 1 m.length (encL m))), (5, some (.int .i64 k))] [] 0) H Post = (True ∧ True ∧ True ∧ True ∧ pIf (decide (k < (↑(List.length l) : Int))) (True ∧ True ∧ (0 ≤ k ∧ k < (↑(List.length l) : Int)) ∧ cellAt (encL l) (Int.toNat k) 0 = Value.string (toS (cellAt (encL l) (Int.toNat k) 0)) ∧ True ∧ True ∧ (0 ≤ k ∧ k < (↑(List.length m) : Int)) ∧ cellAt (encL m) (Int.toNat k) 0 = Value.string (toS (cellAt (encL m) (Int.toNat k) 0)) ∧ True ∧ pIf (!decide (toS (cellAt (encL l) (Int.toNat k) 0) = toS (cellAt (encL m) (Int.toNat k) 0))) (True ∧ True ∧ Post (Value.bool false)) (True ∧ True ∧ True ∧ True ∧ True ∧ H (lpC Tryz.prog 40 4) (lpK Tryz.prog 40 4) (stV [(0, some (tree 1 (List.length l) (encL l))), (1, some (tree 1 (List.length m) (encL m))), (5, some (Value.int IntKind.i64 (IntKind.wrap IntKind.i64 (k + 1))))] [] 0))) (True ∧ True ∧ Post (Value.bool true))) := by kernel_rfl
theorem ok_sameStrings : EntOk Tryz.prog ⟨40, c_eqNames⟩ := by
  rintro args Post ⟨l, m, rfl, hs, h⟩
  have hs : l.length < 2 ^ 62 := hs
  refine pure_P (vc := noCall) noCall_ok mixed (by kernel_rfl) (by kernel_rfl) _ (e_sameStrings l m _ _) ?_
  simp only [true_and, pIf_iff, Bool.not_eq_true', decide_eq_false_iff_not, Bool.not_eq_false', decide_eq_true_eq]
  refine ⟨fun hne => of_b h (decide_eq_false fun e => hne (by rw [e])), fun heq => ?_⟩
  have heq : l.length = m.length := by omega
  refine eq_down heq (G := fun k => OkP 40 [tree 1 l.length (encL l), tree 1 m.length (encL m)] 4 Post (stV [(0, some (tree 1 l.length (encL l))), (1, some (tree 1 m.length (encL m))), (5, some (.int .i64 k))] [] 0)) (fun e => ?_) (fun k h1 h2 ih ne => ?_)
  · refine ok_P (vc := noCall) noCall_ok mixed _ (l_sameStrings l m _ _ _) ?_
    simp only [true_and, pIf_iff, decide_eq_true_eq, decide_eq_false_iff_not]
    exact ⟨fun hlt => by omega, fun _ => of_b h (decide_eq_true e)⟩
  · refine ok_P (vc := noCall) noCall_ok mixed _ (l_sameStrings l m _ _ _) ?_
    simp only [true_and, and_true, pIf_iff, decide_eq_true_eq, decide_eq_false_iff_not, Int.toNat_natCast, cell_name h1, cell_name h2, List.getElem?_cons_succ, List.getElem?_cons_zero, Option.getD_some, toI, toS, toB]
    refine ⟨fun _ => ⟨by omega, by omega, fun hne => of_b h (decide_eq_false (ne fun e => ?_)), fun he => ?_⟩, fun h' => by omega⟩
    · rw [e] at hne; simp at hne
    · rw [wrapSucc (by omega)]; exact ih ((by simpa using he))
theorem e_sameHooks (l m : List Hook4) (H : Code → List Fr → AS → Prop) (Post : Value → Prop) : vcP Tryz.prog noCall 42 [(4, [0, 1, 5])] [tree 4 l.length (encL l), tree 4 m.length (encL m)] H Post = (True ∧ True ∧ True ∧ True ∧ True ∧ True ∧ pIf (!decide ((↑(List.length l) : Int) = (↑(List.length m) : Int))) (True ∧ True ∧ Post (Value.bool false)) (True ∧ True ∧ True ∧ H (lpC Tryz.prog 42 4) (lpK Tryz.prog 42 4) (stV [(0, some (tree 4 (List.length l) (encL l))), (1, some (tree 4 (List.length m) (encL m))), (5, some (Value.int IntKind.i64 0))] [] 0))) := by kernel_rfl
theorem l_sameHooks (l m : List Hook4) (k : Int) (H : Code → List Fr → AS → Prop) (Post : Value → Prop) : vcLP Tryz.prog noCall 42 [tree 4 l.length (encL l), tree 4 m.length (encL m)] [(4, [0, 1, 5])] 4 (stV [(0, some (tree 4 l.length (encL l))), (1, some (tree 4 m.length (encL m))), (5, some (.int .i64 k))] [] 0) H Post = (True ∧ True ∧ True ∧ True ∧ pIf (decide (k < (↑(List.length l) : Int))) (True ∧ True ∧ (0 ≤ k ∧ k < (↑(List.length l) : Int)) ∧ (cellAt (encL l) (Int.toNat k) 0 = Value.string (toS (cellAt (encL l) (Int.toNat k) 0)) ∧ cellAt (encL l) (Int.toNat k) 1 = Value.int IntKind.i64 (toI (cellAt (encL l) (Int.toNat k) 1)) ∧ cellAt (encL l) (Int.toNat k) 2 = Value.int IntKind.i64 (toI (cellAt (encL l) (Int.toNat k) 2)) ∧ cellAt (encL l) (Int.toNat k) 3 = Value.int IntKind.i64 (toI (cellAt (encL l) (Int.toNat k) 3)) ∧ True) ∧ True ∧ True ∧ (0 ≤ k ∧ k < (↑(List.length m) : Int)) ∧ (cellAt (encL m) (Int.toNat k) 0 = Value.string (toS (cellAt (encL m) (Int.toNat k) 0)) ∧ cellAt (encL m) (Int.toNat k) 1 = Value.int IntKind.i64 (toI (cellAt (encL m) (Int.toNat k) 1)) ∧ cellAt (encL m) (Int.toNat k) 2 = Value.int IntKind.i64 (toI (cellAt (encL m) (Int.toNat k) 2)) ∧ cellAt (encL m) (Int.toNat k) 3 = Value.int IntKind.i64 (toI (cellAt (encL m) (Int.toNat k) 3)) ∧ True) ∧ True ∧ pIf (!(decide (toS (cellAt (encL l) (Int.toNat k) 0) = toS (cellAt (encL m) (Int.toNat k) 0)) && (decide (toI (cellAt (encL l) (Int.toNat k) 1) = toI (cellAt (encL m) (Int.toNat k) 1)) && (decide (toI (cellAt (encL l) (Int.toNat k) 2) = toI (cellAt (encL m) (Int.toNat k) 2)) && true) && (decide (toI (cellAt (encL l) (Int.toNat k) 3) = toI (cellAt (encL m) (Int.toNat k) 3)) && true)))) (True ∧ True ∧ Post (Value.bool false)) (True ∧ True ∧ True ∧ True ∧ True ∧ H (lpC Tryz.prog 42 4) (lpK Tryz.prog 42 4) (stV [(0, some (tree 4 (List.length l) (encL l))), (1, some (tree 4 (List.length m) (encL m))), (5, some (Value.int IntKind.i64 (IntKind.wrap IntKind.i64 (k + 1))))] [] 0))) (True ∧ True ∧ Post (Value.bool true))) := by kernel_rfl
theorem ok_sameHooks : EntOk Tryz.prog ⟨42, c_eqHooks⟩ := by
  rintro args Post ⟨l, m, rfl, hs, h⟩
  have hs : l.length < 2 ^ 62 := hs
  refine pure_P (vc := noCall) noCall_ok mixed (by kernel_rfl) (by kernel_rfl) _ (e_sameHooks l m _ _) ?_
  simp only [true_and, pIf_iff, Bool.not_eq_true', decide_eq_false_iff_not, Bool.not_eq_false', decide_eq_true_eq]
  refine ⟨fun hne => of_b h (decide_eq_false fun e => hne (by rw [e])), fun heq => ?_⟩
  have heq : l.length = m.length := by omega
  refine eq_down heq (G := fun k => OkP 42 [tree 4 l.length (encL l), tree 4 m.length (encL m)] 4 Post (stV [(0, some (tree 4 l.length (encL l))), (1, some (tree 4 m.length (encL m))), (5, some (.int .i64 k))] [] 0)) (fun e => ?_) (fun k h1 h2 ih ne => ?_)
  · refine ok_P (vc := noCall) noCall_ok mixed _ (l_sameHooks l m _ _ _) ?_
    simp only [true_and, pIf_iff, decide_eq_true_eq, decide_eq_false_iff_not]
    exact ⟨fun hlt => by omega, fun _ => of_b h (decide_eq_true e)⟩
  · refine ok_P (vc := noCall) noCall_ok mixed _ (l_sameHooks l m _ _ _) ?_
    simp only [true_and, and_true, pIf_iff, decide_eq_true_eq, decide_eq_false_iff_not, Int.toNat_natCast, cell_hook h1, cell_hook h2, hook4C, List.getElem?_cons_succ, List.getElem?_cons_zero, Option.getD_some, toI, toS, toB]
    refine ⟨fun _ => ⟨by omega, by omega, fun hne => of_b h (decide_eq_false (ne fun e => ?_)), fun he => ?_⟩, fun h' => by omega⟩
    · rw [e] at hne; simp at hne
    · rw [wrapSucc (by omega)]; exact ih (Hook4.eq_iff.2 (by simpa [and_assoc] using he))
end Go.Proofs.YtegjnjmimfgijaaGreatDoor
noncomputable section
namespace Go.Proofs.YtegjnjmimfgijaaGreatDoor
open Go Go.RowKit
set_option maxRecDepth 100000
def tabQ : List Ent := [⟨92, c_Same⟩, ⟨40, c_eqNames⟩, ⟨42, c_eqHooks⟩]
theorem tabQ_ok : ∀ e ∈ tabQ, EntOk Tryz.prog e := by
  intro e he
  simp only [tabQ, List.mem_cons, List.not_mem_nil, or_false] at he
  rcases he with rfl | rfl | rfl
  · exact ok_Same16
  · exact ok_sameStrings
  · exact ok_sameHooks
def callSE : VCall := inlCall Tryz.prog [82, 83] (tabCall tabQ noCall) 3
theorem callSE_ok : VCallOk Tryz.prog callSE := inlCall_ok mixed (tabCall_ok tabQ_ok noCall_ok) 3
theorem e_sameEdit (p q : Edit) (H : Code → List Fr → AS → Prop) (Post : Value → Prop) : vcP Tryz.prog callSE 65 [] [editV p, editV q] H Post = (True ∧ True ∧ True ∧ True ∧ True ∧ True ∧ True ∧ True ∧ pIf (decide (Edit.kind p = Edit.kind q)) (True ∧ True ∧ True ∧ True ∧ True ∧ True ∧ pIf (decide (Edit.id p = Edit.id q)) (True ∧ True ∧ True ∧ True ∧ True ∧ True ∧ True ∧ pIf (decide (Edit.to p = Edit.to q)) (True ∧ True ∧ True ∧ True ∧ True ∧ True ∧ True ∧ pIf (decide (Node3.id (Edit.node p) = Node3.id (Edit.node q)) && (decide (Node3.kind (Edit.node p) = Node3.kind (Edit.node q)) && (decide (Node3.parent (Edit.node p) = Node3.parent (Edit.node q)) && true))) (True ∧ True ∧ True ∧ True ∧ True ∧ True ∧ True ∧ True ∧ True ∧ True ∧ True ∧ ∃ (p_1 : Part), ∃ (q_1 : Part), eqL [Value.agg #[Value.string (Part.id (Edit.part p)), Value.int IntKind.i64 (Part.rev (Edit.part p)), Value.int IntKind.i64 (Part.kind (Edit.part p)), Value.string (Part.node (Edit.part p)), Value.string (Part.grade (Edit.part p)), Value.int IntKind.i64 (Part.thick (Edit.part p)), tree 2 (List.length (Part.outer (Edit.part p))) (encL (Part.outer (Edit.part p))), tree 1 (List.length (Part.holes (Edit.part p))) (encL (Part.holes (Edit.part p))), Value.string (Part.sect (Edit.part p)), Value.int IntKind.i64 (Part.long (Edit.part p)), Value.int IntKind.i64 (Part.mass (Edit.part p)), Value.int IntKind.i64 (Vec3.x (Part.centre (Edit.part p))), Value.int IntKind.i64 (Vec3.y (Part.centre (Edit.part p))), Value.int IntKind.i64 (Vec3.z (Part.centre (Edit.part p))), Value.int IntKind.i64 (Vec3.x (Part.at_ (Edit.part p))), Value.int IntKind.i64 (Vec3.y (Part.at_ (Edit.part p))), Value.int IntKind.i64 (Vec3.z (Part.at_ (Edit.part p))), Value.int IntKind.i64 (Part.turn (Edit.part p))], Value.agg #[Value.string (Part.id (Edit.part q)), Value.int IntKind.i64 (Part.rev (Edit.part q)), Value.int IntKind.i64 (Part.kind (Edit.part q)), Value.string (Part.node (Edit.part q)), Value.string (Part.grade (Edit.part q)), Value.int IntKind.i64 (Part.thick (Edit.part q)), tree 2 (List.length (Part.outer (Edit.part q))) (encL (Part.outer (Edit.part q))), tree 1 (List.length (Part.holes (Edit.part q))) (encL (Part.holes (Edit.part q))), Value.string (Part.sect (Edit.part q)), Value.int IntKind.i64 (Part.long (Edit.part q)), Value.int IntKind.i64 (Part.mass (Edit.part q)), Value.int IntKind.i64 (Vec3.x (Part.centre (Edit.part q))), Value.int IntKind.i64 (Vec3.y (Part.centre (Edit.part q))), Value.int IntKind.i64 (Vec3.z (Part.centre (Edit.part q))), Value.int IntKind.i64 (Vec3.x (Part.at_ (Edit.part q))), Value.int IntKind.i64 (Vec3.y (Part.at_ (Edit.part q))), Value.int IntKind.i64 (Vec3.z (Part.at_ (Edit.part q))), Value.int IntKind.i64 (Part.turn (Edit.part q))]] [partV p_1, partV q_1] ∧ ShortP p_1 ∧ pIf (decide (p_1 = q_1)) (True ∧ True ∧ True ∧ True ∧ True ∧ True ∧ True ∧ True ∧ pIf (decide (Seam6.id (Edit.seam p) = Seam6.id (Edit.seam q)) && (decide (Seam6.a (Edit.seam p) = Seam6.a (Edit.seam q)) && (decide (Seam6.b (Edit.seam p) = Seam6.b (Edit.seam q)) && (decide (Seam6.kind (Edit.seam p) = Seam6.kind (Edit.seam q)) && (decide (Seam6.long (Edit.seam p) = Seam6.long (Edit.seam q)) && (decide (Seam6.cls (Edit.seam p) = Seam6.cls (Edit.seam q)) && true)))))) (True ∧ True ∧ True ∧ True ∧ True ∧ True ∧ True ∧ True ∧ True ∧ True ∧ True ∧ True ∧ True ∧ True ∧ pIf (decide (Pack5.id (Edit.pack p) = Pack5.id (Edit.pack q))) (True ∧ True ∧ True ∧ True ∧ True ∧ True ∧ pIf (decide (Pack5.block (Edit.pack p) = Pack5.block (Edit.pack q))) (True ∧ True ∧ True ∧ True ∧ True ∧ True ∧ True ∧ pIf (decide (Pack5.hours (Edit.pack p) = Pack5.hours (Edit.pack q))) (True ∧ True ∧ True ∧ True ∧ True ∧ True ∧ ∃ (l : List ByteArray), ∃ (m : List ByteArray), eqL [tree 1 (List.length (Pack5.parts (Edit.pack p))) (encL (Pack5.parts (Edit.pack p))), tree 1 (List.length (Pack5.parts (Edit.pack q))) (encL (Pack5.parts (Edit.pack q)))] [tree 1 (List.length l) (encL l), tree 1 (List.length m) (encL m)] ∧ Short l ∧ pIf (decide (l = m)) (True ∧ True ∧ True ∧ True ∧ True ∧ True ∧ ∃ (l : List ByteArray), ∃ (m : List ByteArray), eqL [tree 1 (List.length (Pack5.after (Edit.pack p))) (encL (Pack5.after (Edit.pack p))), tree 1 (List.length (Pack5.after (Edit.pack q))) (encL (Pack5.after (Edit.pack q)))] [tree 1 (List.length l) (encL l), tree 1 (List.length m) (encL m)] ∧ Short l ∧ pIf (decide (l = m)) (True ∧ True ∧ True ∧ True ∧ True ∧ True ∧ True ∧ True ∧ True ∧ pIf (decide (Need3.kind (Edit.need p) = Need3.kind (Edit.need q)) && (decide (Need3.block (Edit.need p) = Need3.block (Edit.need q)) && (decide (Need3.on (Edit.need p) = Need3.on (Edit.need q)) && true))) (True ∧ True ∧ True ∧ Post (Value.bool true)) (True ∧ True ∧ True ∧ Post (Value.bool false))) (True ∧ True ∧ True ∧ True ∧ True ∧ True ∧ True ∧ Post (Value.bool false))) (True ∧ True ∧ True ∧ True ∧ True ∧ True ∧ True ∧ True ∧ True ∧ Post (Value.bool false))) (True ∧ True ∧ True ∧ True ∧ True ∧ True ∧ True ∧ True ∧ True ∧ True ∧ True ∧ Post (Value.bool false))) (True ∧ True ∧ True ∧ True ∧ True ∧ True ∧ True ∧ True ∧ True ∧ True ∧ True ∧ True ∧ True ∧ Post (Value.bool false))) (True ∧ True ∧ True ∧ True ∧ True ∧ True ∧ True ∧ True ∧ True ∧ True ∧ True ∧ True ∧ True ∧ True ∧ Post (Value.bool false))) (True ∧ True ∧ True ∧ True ∧ True ∧ True ∧ True ∧ Post (Value.bool false))) (True ∧ True ∧ True ∧ True ∧ True ∧ True ∧ True ∧ True ∧ True ∧ True ∧ Post (Value.bool false))) (True ∧ True ∧ True ∧ True ∧ True ∧ True ∧ True ∧ True ∧ True ∧ True ∧ True ∧ Post (Value.bool false))) (True ∧ True ∧ True ∧ True ∧ True ∧ True ∧ True ∧ True ∧ True ∧ True ∧ True ∧ True ∧ True ∧ Post (Value.bool false))) (True ∧ True ∧ True ∧ True ∧ True ∧ True ∧ True ∧ True ∧ True ∧ True ∧ True ∧ True ∧ True ∧ True ∧ True ∧ Post (Value.bool false))) (True ∧ True ∧ True ∧ True ∧ True ∧ True ∧ True ∧ True ∧ True ∧ True ∧ True ∧ True ∧ True ∧ True ∧ True ∧ True ∧ Post (Value.bool false))) := by kernel_rfl
structure ShortE (x : Edit) : Prop where
  part : ShortP x.part
  parts : Short x.pack.parts
  after : Short x.pack.after
def c_SameEdit (args : List Value) (Post : Value → Prop) : Prop := ∃ p q : Edit, args = [editV p, editV q] ∧ ShortE p ∧ Post (.bool (decide (p = q)))
theorem ok_sameEdit : EntOk Tryz.prog ⟨65, c_SameEdit⟩ := by
  rintro args Post ⟨p, q, rfl, hs, h⟩
  refine pure_P (vc := callSE) callSE_ok mixed (by kernel_rfl) (by kernel_rfl) _ (e_sameEdit p q _ _) ?_
  simp only [true_and, and_true]
  have s1 := hs.part
  have s2 := hs.parts
  have s3 := hs.after
  repeat (first
    | refine pIf_intro (fun hh => ?_) (fun hh => of_b h (decide_eq_false fun e => by subst e; simp at hh))
    | refine ⟨_, _, rfl, by assumption, ?_⟩)
  refine of_b h (decide_eq_true ?_)
  clear h hs s1 s2 s3
  simp only [Bool.and_eq_true, decide_eq_true_eq, and_true] at *
  refine Edit.ext' ?_ ?_ ?_ (Node3.ext' ?_ ?_ ?_) ?_ (Seam6.ext' ?_ ?_ ?_ ?_ ?_ ?_) (Pack5.ext' ?_ ?_ ?_ ?_ ?_) (Need3.ext' ?_ ?_ ?_) <;> simp_all
def callSO : VCall := tabCall [⟨65, c_SameEdit⟩] noCall
theorem callSO_ok : VCallOk Tryz.prog callSO := tabCall_ok (by
  intro e he
  simp only [List.mem_cons, List.not_mem_nil, or_false] at he
  subst he
  exact ok_sameEdit) noCall_ok
theorem e_sameOrder (a b : Order2) (H : Code → List Fr → AS → Prop) (Post : Value → Prop) : vcP Tryz.prog callSO 38 [(4, [2, 3, 5])] [order2V a, order2V b] H Post = (True ∧ True ∧ True ∧ True ∧ True ∧ True ∧ True ∧ True ∧ pIf (!decide (Order2.id a = Order2.id b)) (True ∧ True ∧ True ∧ True ∧ Post (Value.bool false)) (True ∧ True ∧ True ∧ True ∧ True ∧ True ∧ True ∧ True ∧ pIf (!decide ((↑(List.length (Order2.edits a)) : Int) = (↑(List.length (Order2.edits b)) : Int))) (True ∧ True ∧ True ∧ Post (Value.bool false)) (True ∧ True ∧ True ∧ (True ∧ True ∧ True) ∧ H (lpC Tryz.prog 38 4) (lpK Tryz.prog 38 4) (stV [(2, some (Value.pointer (some (Addr.mk 0 0 none)))), (3, some (Value.pointer (some (Addr.mk 1 0 none)))), (5, some (Value.int IntKind.i64 0))] [(0, some (AObj.cells [Value.string (Order2.id a), tree 38 (List.length (Order2.edits a)) (encL (Order2.edits a))] true)), (1, some (AObj.cells [Value.string (Order2.id b), tree 38 (List.length (Order2.edits b)) (encL (Order2.edits b))] true))] 2)))) := by kernel_rfl
theorem l_sameOrder (a b : Order2) (k : Int) (H : Code → List Fr → AS → Prop) (Post : Value → Prop) : vcLP Tryz.prog callSO 38 [order2V a, order2V b] [(4, [2, 3, 5])] 4 (stV [(2, some (.pointer (some ⟨0, 0, none⟩))), (3, some (.pointer (some ⟨1, 0, none⟩))), (5, some (.int .i64 k))] [(0, some (.cells (order2C a) true)), (1, some (.cells (order2C b) true))] 2) H Post = (True ∧ True ∧ True ∧ True ∧ True ∧ pIf (decide (k < (↑(List.length (Order2.edits a)) : Int))) (True ∧ True ∧ True ∧ (0 ≤ k ∧ k < (↑(List.length (Order2.edits a)) : Int)) ∧ (cellAt (encL (Order2.edits a)) (Int.toNat k) 0 = Value.int IntKind.i64 (toI (cellAt (encL (Order2.edits a)) (Int.toNat k) 0)) ∧ cellAt (encL (Order2.edits a)) (Int.toNat k) 1 = Value.string (toS (cellAt (encL (Order2.edits a)) (Int.toNat k) 1)) ∧ cellAt (encL (Order2.edits a)) (Int.toNat k) 2 = Value.string (toS (cellAt (encL (Order2.edits a)) (Int.toNat k) 2)) ∧ cellAt (encL (Order2.edits a)) (Int.toNat k) 3 = Value.string (toS (cellAt (encL (Order2.edits a)) (Int.toNat k) 3)) ∧ cellAt (encL (Order2.edits a)) (Int.toNat k) 4 = Value.int IntKind.i64 (toI (cellAt (encL (Order2.edits a)) (Int.toNat k) 4)) ∧ cellAt (encL (Order2.edits a)) (Int.toNat k) 5 = Value.string (toS (cellAt (encL (Order2.edits a)) (Int.toNat k) 5)) ∧ cellAt (encL (Order2.edits a)) (Int.toNat k) 6 = Value.string (toS (cellAt (encL (Order2.edits a)) (Int.toNat k) 6)) ∧ cellAt (encL (Order2.edits a)) (Int.toNat k) 7 = Value.int IntKind.i64 (toI (cellAt (encL (Order2.edits a)) (Int.toNat k) 7)) ∧ cellAt (encL (Order2.edits a)) (Int.toNat k) 8 = Value.int IntKind.i64 (toI (cellAt (encL (Order2.edits a)) (Int.toNat k) 8)) ∧ cellAt (encL (Order2.edits a)) (Int.toNat k) 9 = Value.string (toS (cellAt (encL (Order2.edits a)) (Int.toNat k) 9)) ∧ cellAt (encL (Order2.edits a)) (Int.toNat k) 10 = Value.string (toS (cellAt (encL (Order2.edits a)) (Int.toNat k) 10)) ∧ cellAt (encL (Order2.edits a)) (Int.toNat k) 11 = Value.int IntKind.i64 (toI (cellAt (encL (Order2.edits a)) (Int.toNat k) 11)) ∧ cellAt (encL (Order2.edits a)) (Int.toNat k) 12 = tree 2 (toN (cellAt (encL (Order2.edits a)) (Int.toNat k) 12)) (toE (cellAt (encL (Order2.edits a)) (Int.toNat k) 12)) ∧ cellAt (encL (Order2.edits a)) (Int.toNat k) 13 = tree 1 (toN (cellAt (encL (Order2.edits a)) (Int.toNat k) 13)) (toE (cellAt (encL (Order2.edits a)) (Int.toNat k) 13)) ∧ cellAt (encL (Order2.edits a)) (Int.toNat k) 14 = Value.string (toS (cellAt (encL (Order2.edits a)) (Int.toNat k) 14)) ∧ cellAt (encL (Order2.edits a)) (Int.toNat k) 15 = Value.int IntKind.i64 (toI (cellAt (encL (Order2.edits a)) (Int.toNat k) 15)) ∧ cellAt (encL (Order2.edits a)) (Int.toNat k) 16 = Value.int IntKind.i64 (toI (cellAt (encL (Order2.edits a)) (Int.toNat k) 16)) ∧ cellAt (encL (Order2.edits a)) (Int.toNat k) 17 = Value.int IntKind.i64 (toI (cellAt (encL (Order2.edits a)) (Int.toNat k) 17)) ∧ cellAt (encL (Order2.edits a)) (Int.toNat k) 18 = Value.int IntKind.i64 (toI (cellAt (encL (Order2.edits a)) (Int.toNat k) 18)) ∧ cellAt (encL (Order2.edits a)) (Int.toNat k) 19 = Value.int IntKind.i64 (toI (cellAt (encL (Order2.edits a)) (Int.toNat k) 19)) ∧ cellAt (encL (Order2.edits a)) (Int.toNat k) 20 = Value.int IntKind.i64 (toI (cellAt (encL (Order2.edits a)) (Int.toNat k) 20)) ∧ cellAt (encL (Order2.edits a)) (Int.toNat k) 21 = Value.int IntKind.i64 (toI (cellAt (encL (Order2.edits a)) (Int.toNat k) 21)) ∧ cellAt (encL (Order2.edits a)) (Int.toNat k) 22 = Value.int IntKind.i64 (toI (cellAt (encL (Order2.edits a)) (Int.toNat k) 22)) ∧ cellAt (encL (Order2.edits a)) (Int.toNat k) 23 = Value.int IntKind.i64 (toI (cellAt (encL (Order2.edits a)) (Int.toNat k) 23)) ∧ cellAt (encL (Order2.edits a)) (Int.toNat k) 24 = Value.string (toS (cellAt (encL (Order2.edits a)) (Int.toNat k) 24)) ∧ cellAt (encL (Order2.edits a)) (Int.toNat k) 25 = Value.string (toS (cellAt (encL (Order2.edits a)) (Int.toNat k) 25)) ∧ cellAt (encL (Order2.edits a)) (Int.toNat k) 26 = Value.string (toS (cellAt (encL (Order2.edits a)) (Int.toNat k) 26)) ∧ cellAt (encL (Order2.edits a)) (Int.toNat k) 27 = Value.int IntKind.i64 (toI (cellAt (encL (Order2.edits a)) (Int.toNat k) 27)) ∧ cellAt (encL (Order2.edits a)) (Int.toNat k) 28 = Value.int IntKind.i64 (toI (cellAt (encL (Order2.edits a)) (Int.toNat k) 28)) ∧ cellAt (encL (Order2.edits a)) (Int.toNat k) 29 = Value.int IntKind.i64 (toI (cellAt (encL (Order2.edits a)) (Int.toNat k) 29)) ∧ cellAt (encL (Order2.edits a)) (Int.toNat k) 30 = Value.string (toS (cellAt (encL (Order2.edits a)) (Int.toNat k) 30)) ∧ cellAt (encL (Order2.edits a)) (Int.toNat k) 31 = Value.string (toS (cellAt (encL (Order2.edits a)) (Int.toNat k) 31)) ∧ cellAt (encL (Order2.edits a)) (Int.toNat k) 32 = tree 1 (toN (cellAt (encL (Order2.edits a)) (Int.toNat k) 32)) (toE (cellAt (encL (Order2.edits a)) (Int.toNat k) 32)) ∧ cellAt (encL (Order2.edits a)) (Int.toNat k) 33 = Value.int IntKind.i64 (toI (cellAt (encL (Order2.edits a)) (Int.toNat k) 33)) ∧ cellAt (encL (Order2.edits a)) (Int.toNat k) 34 = tree 1 (toN (cellAt (encL (Order2.edits a)) (Int.toNat k) 34)) (toE (cellAt (encL (Order2.edits a)) (Int.toNat k) 34)) ∧ cellAt (encL (Order2.edits a)) (Int.toNat k) 35 = Value.int IntKind.i64 (toI (cellAt (encL (Order2.edits a)) (Int.toNat k) 35)) ∧ cellAt (encL (Order2.edits a)) (Int.toNat k) 36 = Value.string (toS (cellAt (encL (Order2.edits a)) (Int.toNat k) 36)) ∧ cellAt (encL (Order2.edits a)) (Int.toNat k) 37 = Value.string (toS (cellAt (encL (Order2.edits a)) (Int.toNat k) 37)) ∧ True) ∧ True ∧ True ∧ True ∧ (0 ≤ k ∧ k < (↑(List.length (Order2.edits b)) : Int)) ∧ (cellAt (encL (Order2.edits b)) (Int.toNat k) 0 = Value.int IntKind.i64 (toI (cellAt (encL (Order2.edits b)) (Int.toNat k) 0)) ∧ cellAt (encL (Order2.edits b)) (Int.toNat k) 1 = Value.string (toS (cellAt (encL (Order2.edits b)) (Int.toNat k) 1)) ∧ cellAt (encL (Order2.edits b)) (Int.toNat k) 2 = Value.string (toS (cellAt (encL (Order2.edits b)) (Int.toNat k) 2)) ∧ cellAt (encL (Order2.edits b)) (Int.toNat k) 3 = Value.string (toS (cellAt (encL (Order2.edits b)) (Int.toNat k) 3)) ∧ cellAt (encL (Order2.edits b)) (Int.toNat k) 4 = Value.int IntKind.i64 (toI (cellAt (encL (Order2.edits b)) (Int.toNat k) 4)) ∧ cellAt (encL (Order2.edits b)) (Int.toNat k) 5 = Value.string (toS (cellAt (encL (Order2.edits b)) (Int.toNat k) 5)) ∧ cellAt (encL (Order2.edits b)) (Int.toNat k) 6 = Value.string (toS (cellAt (encL (Order2.edits b)) (Int.toNat k) 6)) ∧ cellAt (encL (Order2.edits b)) (Int.toNat k) 7 = Value.int IntKind.i64 (toI (cellAt (encL (Order2.edits b)) (Int.toNat k) 7)) ∧ cellAt (encL (Order2.edits b)) (Int.toNat k) 8 = Value.int IntKind.i64 (toI (cellAt (encL (Order2.edits b)) (Int.toNat k) 8)) ∧ cellAt (encL (Order2.edits b)) (Int.toNat k) 9 = Value.string (toS (cellAt (encL (Order2.edits b)) (Int.toNat k) 9)) ∧ cellAt (encL (Order2.edits b)) (Int.toNat k) 10 = Value.string (toS (cellAt (encL (Order2.edits b)) (Int.toNat k) 10)) ∧ cellAt (encL (Order2.edits b)) (Int.toNat k) 11 = Value.int IntKind.i64 (toI (cellAt (encL (Order2.edits b)) (Int.toNat k) 11)) ∧ cellAt (encL (Order2.edits b)) (Int.toNat k) 12 = tree 2 (toN (cellAt (encL (Order2.edits b)) (Int.toNat k) 12)) (toE (cellAt (encL (Order2.edits b)) (Int.toNat k) 12)) ∧ cellAt (encL (Order2.edits b)) (Int.toNat k) 13 = tree 1 (toN (cellAt (encL (Order2.edits b)) (Int.toNat k) 13)) (toE (cellAt (encL (Order2.edits b)) (Int.toNat k) 13)) ∧ cellAt (encL (Order2.edits b)) (Int.toNat k) 14 = Value.string (toS (cellAt (encL (Order2.edits b)) (Int.toNat k) 14)) ∧ cellAt (encL (Order2.edits b)) (Int.toNat k) 15 = Value.int IntKind.i64 (toI (cellAt (encL (Order2.edits b)) (Int.toNat k) 15)) ∧ cellAt (encL (Order2.edits b)) (Int.toNat k) 16 = Value.int IntKind.i64 (toI (cellAt (encL (Order2.edits b)) (Int.toNat k) 16)) ∧ cellAt (encL (Order2.edits b)) (Int.toNat k) 17 = Value.int IntKind.i64 (toI (cellAt (encL (Order2.edits b)) (Int.toNat k) 17)) ∧ cellAt (encL (Order2.edits b)) (Int.toNat k) 18 = Value.int IntKind.i64 (toI (cellAt (encL (Order2.edits b)) (Int.toNat k) 18)) ∧ cellAt (encL (Order2.edits b)) (Int.toNat k) 19 = Value.int IntKind.i64 (toI (cellAt (encL (Order2.edits b)) (Int.toNat k) 19)) ∧ cellAt (encL (Order2.edits b)) (Int.toNat k) 20 = Value.int IntKind.i64 (toI (cellAt (encL (Order2.edits b)) (Int.toNat k) 20)) ∧ cellAt (encL (Order2.edits b)) (Int.toNat k) 21 = Value.int IntKind.i64 (toI (cellAt (encL (Order2.edits b)) (Int.toNat k) 21)) ∧ cellAt (encL (Order2.edits b)) (Int.toNat k) 22 = Value.int IntKind.i64 (toI (cellAt (encL (Order2.edits b)) (Int.toNat k) 22)) ∧ cellAt (encL (Order2.edits b)) (Int.toNat k) 23 = Value.int IntKind.i64 (toI (cellAt (encL (Order2.edits b)) (Int.toNat k) 23)) ∧ cellAt (encL (Order2.edits b)) (Int.toNat k) 24 = Value.string (toS (cellAt (encL (Order2.edits b)) (Int.toNat k) 24)) ∧ cellAt (encL (Order2.edits b)) (Int.toNat k) 25 = Value.string (toS (cellAt (encL (Order2.edits b)) (Int.toNat k) 25)) ∧ cellAt (encL (Order2.edits b)) (Int.toNat k) 26 = Value.string (toS (cellAt (encL (Order2.edits b)) (Int.toNat k) 26)) ∧ cellAt (encL (Order2.edits b)) (Int.toNat k) 27 = Value.int IntKind.i64 (toI (cellAt (encL (Order2.edits b)) (Int.toNat k) 27)) ∧ cellAt (encL (Order2.edits b)) (Int.toNat k) 28 = Value.int IntKind.i64 (toI (cellAt (encL (Order2.edits b)) (Int.toNat k) 28)) ∧ cellAt (encL (Order2.edits b)) (Int.toNat k) 29 = Value.int IntKind.i64 (toI (cellAt (encL (Order2.edits b)) (Int.toNat k) 29)) ∧ cellAt (encL (Order2.edits b)) (Int.toNat k) 30 = Value.string (toS (cellAt (encL (Order2.edits b)) (Int.toNat k) 30)) ∧ cellAt (encL (Order2.edits b)) (Int.toNat k) 31 = Value.string (toS (cellAt (encL (Order2.edits b)) (Int.toNat k) 31)) ∧ cellAt (encL (Order2.edits b)) (Int.toNat k) 32 = tree 1 (toN (cellAt (encL (Order2.edits b)) (Int.toNat k) 32)) (toE (cellAt (encL (Order2.edits b)) (Int.toNat k) 32)) ∧ cellAt (encL (Order2.edits b)) (Int.toNat k) 33 = Value.int IntKind.i64 (toI (cellAt (encL (Order2.edits b)) (Int.toNat k) 33)) ∧ cellAt (encL (Order2.edits b)) (Int.toNat k) 34 = tree 1 (toN (cellAt (encL (Order2.edits b)) (Int.toNat k) 34)) (toE (cellAt (encL (Order2.edits b)) (Int.toNat k) 34)) ∧ cellAt (encL (Order2.edits b)) (Int.toNat k) 35 = Value.int IntKind.i64 (toI (cellAt (encL (Order2.edits b)) (Int.toNat k) 35)) ∧ cellAt (encL (Order2.edits b)) (Int.toNat k) 36 = Value.string (toS (cellAt (encL (Order2.edits b)) (Int.toNat k) 36)) ∧ cellAt (encL (Order2.edits b)) (Int.toNat k) 37 = Value.string (toS (cellAt (encL (Order2.edits b)) (Int.toNat k) 37)) ∧ True) ∧ ∃ (p : Edit), ∃ (q : Edit), eqL [Value.agg #[Value.int IntKind.i64 (toI (cellAt (encL (Order2.edits a)) (Int.toNat k) 0)), Value.string (toS (cellAt (encL (Order2.edits a)) (Int.toNat k) 1)), Value.string (toS (cellAt (encL (Order2.edits a)) (Int.toNat k) 2)), Value.string (toS (cellAt (encL (Order2.edits a)) (Int.toNat k) 3)), Value.int IntKind.i64 (toI (cellAt (encL (Order2.edits a)) (Int.toNat k) 4)), Value.string (toS (cellAt (encL (Order2.edits a)) (Int.toNat k) 5)), Value.string (toS (cellAt (encL (Order2.edits a)) (Int.toNat k) 6)), Value.int IntKind.i64 (toI (cellAt (encL (Order2.edits a)) (Int.toNat k) 7)), Value.int IntKind.i64 (toI (cellAt (encL (Order2.edits a)) (Int.toNat k) 8)), Value.string (toS (cellAt (encL (Order2.edits a)) (Int.toNat k) 9)), Value.string (toS (cellAt (encL (Order2.edits a)) (Int.toNat k) 10)), Value.int IntKind.i64 (toI (cellAt (encL (Order2.edits a)) (Int.toNat k) 11)), tree 2 (toN (cellAt (encL (Order2.edits a)) (Int.toNat k) 12)) (toE (cellAt (encL (Order2.edits a)) (Int.toNat k) 12)), tree 1 (toN (cellAt (encL (Order2.edits a)) (Int.toNat k) 13)) (toE (cellAt (encL (Order2.edits a)) (Int.toNat k) 13)), Value.string (toS (cellAt (encL (Order2.edits a)) (Int.toNat k) 14)), Value.int IntKind.i64 (toI (cellAt (encL (Order2.edits a)) (Int.toNat k) 15)), Value.int IntKind.i64 (toI (cellAt (encL (Order2.edits a)) (Int.toNat k) 16)), Value.int IntKind.i64 (toI (cellAt (encL (Order2.edits a)) (Int.toNat k) 17)), Value.int IntKind.i64 (toI (cellAt (encL (Order2.edits a)) (Int.toNat k) 18)), Value.int IntKind.i64 (toI (cellAt (encL (Order2.edits a)) (Int.toNat k) 19)), Value.int IntKind.i64 (toI (cellAt (encL (Order2.edits a)) (Int.toNat k) 20)), Value.int IntKind.i64 (toI (cellAt (encL (Order2.edits a)) (Int.toNat k) 21)), Value.int IntKind.i64 (toI (cellAt (encL (Order2.edits a)) (Int.toNat k) 22)), Value.int IntKind.i64 (toI (cellAt (encL (Order2.edits a)) (Int.toNat k) 23)), Value.string (toS (cellAt (encL (Order2.edits a)) (Int.toNat k) 24)), Value.string (toS (cellAt (encL (Order2.edits a)) (Int.toNat k) 25)), Value.string (toS (cellAt (encL (Order2.edits a)) (Int.toNat k) 26)), Value.int IntKind.i64 (toI (cellAt (encL (Order2.edits a)) (Int.toNat k) 27)), Value.int IntKind.i64 (toI (cellAt (encL (Order2.edits a)) (Int.toNat k) 28)), Value.int IntKind.i64 (toI (cellAt (encL (Order2.edits a)) (Int.toNat k) 29)), Value.string (toS (cellAt (encL (Order2.edits a)) (Int.toNat k) 30)), Value.string (toS (cellAt (encL (Order2.edits a)) (Int.toNat k) 31)), tree 1 (toN (cellAt (encL (Order2.edits a)) (Int.toNat k) 32)) (toE (cellAt (encL (Order2.edits a)) (Int.toNat k) 32)), Value.int IntKind.i64 (toI (cellAt (encL (Order2.edits a)) (Int.toNat k) 33)), tree 1 (toN (cellAt (encL (Order2.edits a)) (Int.toNat k) 34)) (toE (cellAt (encL (Order2.edits a)) (Int.toNat k) 34)), Value.int IntKind.i64 (toI (cellAt (encL (Order2.edits a)) (Int.toNat k) 35)), Value.string (toS (cellAt (encL (Order2.edits a)) (Int.toNat k) 36)), Value.string (toS (cellAt (encL (Order2.edits a)) (Int.toNat k) 37))], Value.agg #[Value.int IntKind.i64 (toI (cellAt (encL (Order2.edits b)) (Int.toNat k) 0)), Value.string (toS (cellAt (encL (Order2.edits b)) (Int.toNat k) 1)), Value.string (toS (cellAt (encL (Order2.edits b)) (Int.toNat k) 2)), Value.string (toS (cellAt (encL (Order2.edits b)) (Int.toNat k) 3)), Value.int IntKind.i64 (toI (cellAt (encL (Order2.edits b)) (Int.toNat k) 4)), Value.string (toS (cellAt (encL (Order2.edits b)) (Int.toNat k) 5)), Value.string (toS (cellAt (encL (Order2.edits b)) (Int.toNat k) 6)), Value.int IntKind.i64 (toI (cellAt (encL (Order2.edits b)) (Int.toNat k) 7)), Value.int IntKind.i64 (toI (cellAt (encL (Order2.edits b)) (Int.toNat k) 8)), Value.string (toS (cellAt (encL (Order2.edits b)) (Int.toNat k) 9)), Value.string (toS (cellAt (encL (Order2.edits b)) (Int.toNat k) 10)), Value.int IntKind.i64 (toI (cellAt (encL (Order2.edits b)) (Int.toNat k) 11)), tree 2 (toN (cellAt (encL (Order2.edits b)) (Int.toNat k) 12)) (toE (cellAt (encL (Order2.edits b)) (Int.toNat k) 12)), tree 1 (toN (cellAt (encL (Order2.edits b)) (Int.toNat k) 13)) (toE (cellAt (encL (Order2.edits b)) (Int.toNat k) 13)), Value.string (toS (cellAt (encL (Order2.edits b)) (Int.toNat k) 14)), Value.int IntKind.i64 (toI (cellAt (encL (Order2.edits b)) (Int.toNat k) 15)), Value.int IntKind.i64 (toI (cellAt (encL (Order2.edits b)) (Int.toNat k) 16)), Value.int IntKind.i64 (toI (cellAt (encL (Order2.edits b)) (Int.toNat k) 17)), Value.int IntKind.i64 (toI (cellAt (encL (Order2.edits b)) (Int.toNat k) 18)), Value.int IntKind.i64 (toI (cellAt (encL (Order2.edits b)) (Int.toNat k) 19)), Value.int IntKind.i64 (toI (cellAt (encL (Order2.edits b)) (Int.toNat k) 20)), Value.int IntKind.i64 (toI (cellAt (encL (Order2.edits b)) (Int.toNat k) 21)), Value.int IntKind.i64 (toI (cellAt (encL (Order2.edits b)) (Int.toNat k) 22)), Value.int IntKind.i64 (toI (cellAt (encL (Order2.edits b)) (Int.toNat k) 23)), Value.string (toS (cellAt (encL (Order2.edits b)) (Int.toNat k) 24)), Value.string (toS (cellAt (encL (Order2.edits b)) (Int.toNat k) 25)), Value.string (toS (cellAt (encL (Order2.edits b)) (Int.toNat k) 26)), Value.int IntKind.i64 (toI (cellAt (encL (Order2.edits b)) (Int.toNat k) 27)), Value.int IntKind.i64 (toI (cellAt (encL (Order2.edits b)) (Int.toNat k) 28)), Value.int IntKind.i64 (toI (cellAt (encL (Order2.edits b)) (Int.toNat k) 29)), Value.string (toS (cellAt (encL (Order2.edits b)) (Int.toNat k) 30)), Value.string (toS (cellAt (encL (Order2.edits b)) (Int.toNat k) 31)), tree 1 (toN (cellAt (encL (Order2.edits b)) (Int.toNat k) 32)) (toE (cellAt (encL (Order2.edits b)) (Int.toNat k) 32)), Value.int IntKind.i64 (toI (cellAt (encL (Order2.edits b)) (Int.toNat k) 33)), tree 1 (toN (cellAt (encL (Order2.edits b)) (Int.toNat k) 34)) (toE (cellAt (encL (Order2.edits b)) (Int.toNat k) 34)), Value.int IntKind.i64 (toI (cellAt (encL (Order2.edits b)) (Int.toNat k) 35)), Value.string (toS (cellAt (encL (Order2.edits b)) (Int.toNat k) 36)), Value.string (toS (cellAt (encL (Order2.edits b)) (Int.toNat k) 37))]] [editV p, editV q] ∧ ShortE p ∧ pIf (decide (p = q)) (True ∧ True ∧ True ∧ True ∧ True ∧ True ∧ (True ∧ True ∧ True) ∧ H (lpC Tryz.prog 38 4) (lpK Tryz.prog 38 4) (stV [(2, some (Value.pointer (some (Addr.mk 0 0 none)))), (3, some (Value.pointer (some (Addr.mk 1 0 none)))), (5, some (Value.int IntKind.i64 (IntKind.wrap IntKind.i64 (k + 1))))] [(0, some (AObj.cells [Value.string (Order2.id a), tree 38 (List.length (Order2.edits a)) (encL (Order2.edits a))] true)), (1, some (AObj.cells [Value.string (Order2.id b), tree 38 (List.length (Order2.edits b)) (encL (Order2.edits b))] true))] 2)) (True ∧ True ∧ True ∧ True ∧ Post (Value.bool false))) (True ∧ True ∧ Post (Value.bool true))) := by kernel_rfl
theorem e_sameNest (a b : Nest3) (H : Code → List Fr → AS → Prop) (Post : Value → Prop) : vcP Tryz.prog noCall 39 [(4, [2, 3, 5])] [nest3V a, nest3V b] H Post = (True ∧ True ∧ True ∧ True ∧ True ∧ True ∧ True ∧ True ∧ pIf (!decide (Nest3.sheet a = Nest3.sheet b)) (True ∧ True ∧ True ∧ True ∧ True ∧ True ∧ Post (Value.bool false)) (True ∧ True ∧ True ∧ True ∧ True ∧ True ∧ pIf (!decide (Nest3.gap a = Nest3.gap b)) (True ∧ True ∧ True ∧ True ∧ True ∧ Post (Value.bool false)) (True ∧ True ∧ True ∧ True ∧ True ∧ True ∧ True ∧ True ∧ True ∧ pIf (!decide ((↑(List.length (Nest3.spots a)) : Int) = (↑(List.length (Nest3.spots b)) : Int))) (True ∧ True ∧ True ∧ Post (Value.bool false)) (True ∧ True ∧ True ∧ (True ∧ True ∧ True) ∧ H (lpC Tryz.prog 39 4) (lpK Tryz.prog 39 4) (stV [(2, some (Value.pointer (some (Addr.mk 0 0 none)))), (3, some (Value.pointer (some (Addr.mk 1 0 none)))), (5, some (Value.int IntKind.i64 0))] [(0, some (AObj.cells [Value.string (Nest3.sheet a), Value.int IntKind.i64 (Nest3.gap a), tree 5 (List.length (Nest3.spots a)) (encL (Nest3.spots a))] true)), (1, some (AObj.cells [Value.string (Nest3.sheet b), Value.int IntKind.i64 (Nest3.gap b), tree 5 (List.length (Nest3.spots b)) (encL (Nest3.spots b))] true))] 2))))) := by kernel_rfl
theorem l_sameNest (a b : Nest3) (k : Int) (H : Code → List Fr → AS → Prop) (Post : Value → Prop) : vcLP Tryz.prog noCall 39 [nest3V a, nest3V b] [(4, [2, 3, 5])] 4 (stV [(2, some (.pointer (some ⟨0, 0, none⟩))), (3, some (.pointer (some ⟨1, 0, none⟩))), (5, some (.int .i64 k))] [(0, some (.cells (nest3C a) true)), (1, some (.cells (nest3C b) true))] 2) H Post = (True ∧ True ∧ True ∧ True ∧ True ∧ pIf (decide (k < (↑(List.length (Nest3.spots a)) : Int))) (True ∧ True ∧ True ∧ (0 ≤ k ∧ k < (↑(List.length (Nest3.spots a)) : Int)) ∧ (cellAt (encL (Nest3.spots a)) (Int.toNat k) 0 = Value.string (toS (cellAt (encL (Nest3.spots a)) (Int.toNat k) 0)) ∧ cellAt (encL (Nest3.spots a)) (Int.toNat k) 1 = Value.int IntKind.i64 (toI (cellAt (encL (Nest3.spots a)) (Int.toNat k) 1)) ∧ cellAt (encL (Nest3.spots a)) (Int.toNat k) 2 = Value.int IntKind.i64 (toI (cellAt (encL (Nest3.spots a)) (Int.toNat k) 2)) ∧ cellAt (encL (Nest3.spots a)) (Int.toNat k) 3 = Value.int IntKind.i64 (toI (cellAt (encL (Nest3.spots a)) (Int.toNat k) 3)) ∧ cellAt (encL (Nest3.spots a)) (Int.toNat k) 4 = Value.bool (toB (cellAt (encL (Nest3.spots a)) (Int.toNat k) 4)) ∧ True) ∧ True ∧ True ∧ True ∧ (0 ≤ k ∧ k < (↑(List.length (Nest3.spots b)) : Int)) ∧ (cellAt (encL (Nest3.spots b)) (Int.toNat k) 0 = Value.string (toS (cellAt (encL (Nest3.spots b)) (Int.toNat k) 0)) ∧ cellAt (encL (Nest3.spots b)) (Int.toNat k) 1 = Value.int IntKind.i64 (toI (cellAt (encL (Nest3.spots b)) (Int.toNat k) 1)) ∧ cellAt (encL (Nest3.spots b)) (Int.toNat k) 2 = Value.int IntKind.i64 (toI (cellAt (encL (Nest3.spots b)) (Int.toNat k) 2)) ∧ cellAt (encL (Nest3.spots b)) (Int.toNat k) 3 = Value.int IntKind.i64 (toI (cellAt (encL (Nest3.spots b)) (Int.toNat k) 3)) ∧ cellAt (encL (Nest3.spots b)) (Int.toNat k) 4 = Value.bool (toB (cellAt (encL (Nest3.spots b)) (Int.toNat k) 4)) ∧ True) ∧ True ∧ pIf (!(decide (toS (cellAt (encL (Nest3.spots a)) (Int.toNat k) 0) = toS (cellAt (encL (Nest3.spots b)) (Int.toNat k) 0)) && (decide (toI (cellAt (encL (Nest3.spots a)) (Int.toNat k) 1) = toI (cellAt (encL (Nest3.spots b)) (Int.toNat k) 1)) && (decide (toI (cellAt (encL (Nest3.spots a)) (Int.toNat k) 2) = toI (cellAt (encL (Nest3.spots b)) (Int.toNat k) 2)) && true) && (decide (toI (cellAt (encL (Nest3.spots a)) (Int.toNat k) 3) = toI (cellAt (encL (Nest3.spots b)) (Int.toNat k) 3)) && (toB (cellAt (encL (Nest3.spots a)) (Int.toNat k) 4) == toB (cellAt (encL (Nest3.spots b)) (Int.toNat k) 4) && true))))) (True ∧ True ∧ Post (Value.bool false)) (True ∧ True ∧ True ∧ True ∧ (True ∧ True ∧ True) ∧ H (lpC Tryz.prog 39 4) (lpK Tryz.prog 39 4) (stV [(2, some (Value.pointer (some (Addr.mk 0 0 none)))), (3, some (Value.pointer (some (Addr.mk 1 0 none)))), (5, some (Value.int IntKind.i64 (IntKind.wrap IntKind.i64 (k + 1))))] [(0, some (AObj.cells [Value.string (Nest3.sheet a), Value.int IntKind.i64 (Nest3.gap a), tree 5 (List.length (Nest3.spots a)) (encL (Nest3.spots a))] true)), (1, some (AObj.cells [Value.string (Nest3.sheet b), Value.int IntKind.i64 (Nest3.gap b), tree 5 (List.length (Nest3.spots b)) (encL (Nest3.spots b))] true))] 2))) (True ∧ True ∧ Post (Value.bool true))) := by kernel_rfl
structure ShortO (o : Order2) : Prop where
  len : o.edits.length < 2 ^ 62
  all : ∀ x ∈ o.edits, ShortE x
def c_SameO (args : List Value) (Post : Value → Prop) : Prop := ∃ a b : Order2, args = [order2V a, order2V b] ∧ ShortO a ∧ Post (.bool (decide (a = b)))
theorem ok_sameOrder : EntOk Tryz.prog ⟨38, c_SameO⟩ := by
  rintro args Post ⟨a, b, rfl, hs, h⟩
  have hl := hs.len
  refine pure_P (vc := callSO) callSO_ok mixed (by kernel_rfl) (by kernel_rfl) _ (e_sameOrder a b _ _) ?_
  simp only [true_and, and_true, pIf_iff, Bool.not_eq_true', decide_eq_false_iff_not, Bool.not_eq_false', decide_eq_true_eq]
  refine ⟨fun hne => of_b h (decide_eq_false fun e => hne (by rw [e])), fun hid => ⟨fun hne => of_b h (decide_eq_false fun e => hne (by rw [e])), fun heq => ?_⟩⟩
  have heq : a.edits.length = b.edits.length := by omega
  refine eq_down heq (G := fun k => OkP 38 [order2V a, order2V b] 4 Post (stV [(2, some (.pointer (some ⟨0, 0, none⟩))), (3, some (.pointer (some ⟨1, 0, none⟩))), (5, some (.int .i64 k))] [(0, some (.cells (order2C a) true)), (1, some (.cells (order2C b) true))] 2)) (fun e => ?_) (fun k h1 h2 ih ne => ?_)
  · refine ok_P (vc := callSO) callSO_ok mixed _ (l_sameOrder a b _ _ _) ?_
    simp only [true_and, and_true, pIf_iff, decide_eq_true_eq, decide_eq_false_iff_not]
    exact ⟨fun hlt => by omega, fun _ => of_b h (decide_eq_true (Order2.ext' hid e))⟩
  · refine ok_P (vc := callSO) callSO_ok mixed _ (l_sameOrder a b _ _ _) ?_
    simp only [true_and, and_true, pIf_iff, Bool.not_eq_true', decide_eq_true_eq, Bool.not_eq_false', decide_eq_false_iff_not, Int.toNat_natCast, cell_edit h1, cell_edit h2, editC, List.getElem?_cons_succ, List.getElem?_cons_zero, Option.getD_some, toI, toS, toB, toN_tree, toE_tree]
    refine ⟨fun _ => ⟨by omega, by omega, a.edits[k], b.edits[k], rfl, hs.all _ (List.getElem_mem h1), fun he => ?_, fun hne => of_b h (decide_eq_false fun e => ne hne (by rw [e]))⟩, fun h' => by omega⟩
    rw [wrapSucc (by omega)]
    exact ih he
def c_SameN (args : List Value) (Post : Value → Prop) : Prop := ∃ a b : Nest3, args = [nest3V a, nest3V b] ∧ Short a.spots ∧ Post (.bool (decide (a = b)))
theorem ok_sameNest : EntOk Tryz.prog ⟨39, c_SameN⟩ := by
  rintro args Post ⟨a, b, rfl, hs, h⟩
  have hl : a.spots.length < 2 ^ 62 := hs
  refine pure_P (vc := noCall) noCall_ok mixed (by kernel_rfl) (by kernel_rfl) _ (e_sameNest a b _ _) ?_
  simp only [true_and, and_true, pIf_iff, Bool.not_eq_true', decide_eq_false_iff_not, Bool.not_eq_false', decide_eq_true_eq]
  refine ⟨fun hne => of_b h (decide_eq_false fun e => hne (by rw [e])), fun hid => ⟨fun hne => of_b h (decide_eq_false fun e => hne (by rw [e])), fun hgap => ⟨fun hne => of_b h (decide_eq_false fun e => hne (by rw [e])), fun heq => ?_⟩⟩⟩
  have heq : a.spots.length = b.spots.length := by omega
  refine eq_down heq (G := fun k => OkP 39 [nest3V a, nest3V b] 4 Post (stV [(2, some (.pointer (some ⟨0, 0, none⟩))), (3, some (.pointer (some ⟨1, 0, none⟩))), (5, some (.int .i64 k))] [(0, some (.cells (nest3C a) true)), (1, some (.cells (nest3C b) true))] 2)) (fun e => ?_) (fun k h1 h2 ih ne => ?_)
  · refine ok_P (vc := noCall) noCall_ok mixed _ (l_sameNest a b _ _ _) ?_
    simp only [true_and, and_true, pIf_iff, decide_eq_true_eq, decide_eq_false_iff_not]
    exact ⟨fun hlt => by omega, fun _ => of_b h (decide_eq_true (Nest3.ext' hid hgap e))⟩
  · refine ok_P (vc := noCall) noCall_ok mixed _ (l_sameNest a b _ _ _) ?_
    simp only [true_and, and_true, pIf_iff, decide_eq_true_eq, decide_eq_false_iff_not, Int.toNat_natCast, cell_spot h1, cell_spot h2, spotC, List.getElem?_cons_succ, List.getElem?_cons_zero, Option.getD_some, toI, toS, toB]
    refine ⟨fun _ => ⟨by omega, by omega, fun hne => of_b h (decide_eq_false fun e => ne (fun e' => ?_) (by rw [e])), fun he => ?_⟩, fun h' => by omega⟩
    · rw [e'] at hne; simp at hne
    · rw [wrapSucc (by omega)]; exact ih (Spot.eq_iff.2 (by simpa [and_assoc] using he))
end Go.Proofs.YtegjnjmimfgijaaGreatDoor
noncomputable section
namespace Go.Proofs.YtegjnjmimfgijaaGreatDoor
open Go Go.RowKit
set_option maxRecDepth 100000
def tabRS : List Ent := [⟨38, c_SameO⟩, ⟨39, c_SameN⟩, ⟨40, c_eqNames⟩, ⟨42, c_eqHooks⟩]
def callRS : VCall := inlCall Tryz.prog [41] (tabCall tabRS noCall) 2
theorem e_rSame (a b : Event) (H : Code → List Fr → AS → Prop) (Post : Value → Prop) : vcP Tryz.prog callRS 17 [] [eventV a, eventV b] H Post = (True ∧ True ∧ True ∧ True ∧ True ∧ True ∧ True ∧ True ∧ pIf (decide (Event.kind a = Event.kind b)) (True ∧ True ∧ True ∧ True ∧ True ∧ True ∧ pIf (decide (Event.at_ a = Event.at_ b)) (True ∧ True ∧ True ∧ True ∧ True ∧ True ∧ True ∧ pIf (decide (Event.item a = Event.item b)) (True ∧ True ∧ True ∧ True ∧ True ∧ True ∧ True ∧ pIf (decide (Event.of_ a = Event.of_ b)) (True ∧ True ∧ True ∧ True ∧ True ∧ True ∧ True ∧ pIf (decide (Event.by_ a = Event.by_ b)) (True ∧ True ∧ True ∧ True ∧ True ∧ True ∧ True ∧ pIf (decide (Event.n a = Event.n b)) (True ∧ True ∧ True ∧ True ∧ pIf (Event.pass a) (True ∧ True ∧ pIf (Event.pass b) (True ∧ True ∧ True ∧ True ∧ True ∧ True ∧ True ∧ ∃ (a_1 : Order2), ∃ (b_1 : Order2), eqL [Value.agg #[Value.string (Order2.id (Event.order a)), tree 38 (List.length (Order2.edits (Event.order a))) (encL (Order2.edits (Event.order a)))], Value.agg #[Value.string (Order2.id (Event.order b)), tree 38 (List.length (Order2.edits (Event.order b))) (encL (Order2.edits (Event.order b)))]] [order2V a_1, order2V b_1] ∧ ShortO a_1 ∧ pIf (decide (a_1 = b_1)) (True ∧ True ∧ True ∧ True ∧ True ∧ True ∧ True ∧ pIf (decide (Sheet6.id (Event.sheet a) = Sheet6.id (Event.sheet b)) && (decide (Sheet6.grade (Event.sheet a) = Sheet6.grade (Event.sheet b)) && (decide (Sheet6.thick (Event.sheet a) = Sheet6.thick (Event.sheet b)) && (decide (Sheet6.long (Event.sheet a) = Sheet6.long (Event.sheet b)) && (decide (Sheet6.width (Event.sheet a) = Sheet6.width (Event.sheet b)) && (decide (Sheet6.heat (Event.sheet a) = Sheet6.heat (Event.sheet b)) && true)))))) (True ∧ True ∧ True ∧ True ∧ True ∧ True ∧ True ∧ pIf (decide (Bar5.id (Event.bar a) = Bar5.id (Event.bar b)) && (decide (Bar5.sect (Event.bar a) = Bar5.sect (Event.bar b)) && (decide (Bar5.grade (Event.bar a) = Bar5.grade (Event.bar b)) && (decide (Bar5.long (Event.bar a) = Bar5.long (Event.bar b)) && (decide (Bar5.heat (Event.bar a) = Bar5.heat (Event.bar b)) && true))))) (True ∧ True ∧ True ∧ True ∧ True ∧ True ∧ ∃ (a_2 : Nest3), ∃ (b_2 : Nest3), eqL [Value.agg #[Value.string (Nest3.sheet (Event.nest a)), Value.int IntKind.i64 (Nest3.gap (Event.nest a)), tree 5 (List.length (Nest3.spots (Event.nest a))) (encL (Nest3.spots (Event.nest a)))], Value.agg #[Value.string (Nest3.sheet (Event.nest b)), Value.int IntKind.i64 (Nest3.gap (Event.nest b)), tree 5 (List.length (Nest3.spots (Event.nest b))) (encL (Nest3.spots (Event.nest b)))]] [nest3V a_2, nest3V b_2] ∧ Short (Nest3.spots a_2) ∧ pIf (decide (a_2 = b_2)) (True ∧ True ∧ True ∧ True ∧ True ∧ True ∧ True ∧ True ∧ True ∧ pIf (decide (Saw3.bar (Event.saw a) = Saw3.bar (Event.saw b))) (True ∧ True ∧ True ∧ True ∧ True ∧ True ∧ True ∧ True ∧ True ∧ pIf (decide (Saw3.kerf (Event.saw a) = Saw3.kerf (Event.saw b))) (True ∧ True ∧ True ∧ True ∧ True ∧ True ∧ True ∧ True ∧ ∃ (l : List ByteArray), ∃ (m : List ByteArray), eqL [tree 1 (List.length (Saw3.parts (Event.saw a))) (encL (Saw3.parts (Event.saw a))), tree 1 (List.length (Saw3.parts (Event.saw b))) (encL (Saw3.parts (Event.saw b)))] [tree 1 (List.length l) (encL l), tree 1 (List.length m) (encL m)] ∧ Short l ∧ pIf (decide (l = m)) (True ∧ True ∧ True ∧ True ∧ True ∧ True ∧ True ∧ True ∧ True ∧ True ∧ True ∧ True ∧ True ∧ True ∧ pIf (decide (Weig.block (Event.weig a) = Weig.block (Event.weig b))) (True ∧ True ∧ True ∧ True ∧ True ∧ True ∧ pIf (decide (Weig.at_ (Event.weig a) = Weig.at_ (Event.weig b))) (True ∧ True ∧ True ∧ True ∧ True ∧ True ∧ True ∧ pIf (decide (Weig.mass (Event.weig a) = Weig.mass (Event.weig b))) (True ∧ True ∧ True ∧ True ∧ True ∧ True ∧ True ∧ pIf (decide (Vec3.x (Weig.centre (Event.weig a)) = Vec3.x (Weig.centre (Event.weig b))) && (decide (Vec3.y (Weig.centre (Event.weig a)) = Vec3.y (Weig.centre (Event.weig b))) && (decide (Vec3.z (Weig.centre (Event.weig a)) = Vec3.z (Weig.centre (Event.weig b))) && true))) (True ∧ True ∧ True ∧ True ∧ True ∧ True ∧ True ∧ pIf (decide (Weig.sigma (Event.weig a) = Weig.sigma (Event.weig b))) (True ∧ True ∧ True ∧ True ∧ True ∧ True ∧ ∃ (l : List ByteArray), ∃ (m : List ByteArray), eqL [tree 1 (List.length (Weig.parts (Event.weig a))) (encL (Weig.parts (Event.weig a))), tree 1 (List.length (Weig.parts (Event.weig b))) (encL (Weig.parts (Event.weig b)))] [tree 1 (List.length l) (encL l), tree 1 (List.length m) (encL m)] ∧ Short l ∧ pIf (decide (l = m)) (True ∧ True ∧ True ∧ True ∧ True ∧ True ∧ True ∧ True ∧ True ∧ True ∧ True ∧ pIf (decide (Lift2.block (Event.lift a) = Lift2.block (Event.lift b))) (True ∧ True ∧ True ∧ True ∧ True ∧ True ∧ True ∧ True ∧ ∃ (l : List Hook4), ∃ (m : List Hook4), eqL [tree 4 (List.length (Lift2.hooks (Event.lift a))) (encL (Lift2.hooks (Event.lift a))), tree 4 (List.length (Lift2.hooks (Event.lift b))) (encL (Lift2.hooks (Event.lift b)))] [tree 4 (List.length l) (encL l), tree 4 (List.length m) (encL m)] ∧ Short l ∧ pIf (decide (l = m)) (True ∧ True ∧ True ∧ True ∧ True ∧ True ∧ True ∧ pIf (decide (Permit3.id (Event.permit a) = Permit3.id (Event.permit b)) && (decide (Permit3.kind (Event.permit a) = Permit3.kind (Event.permit b)) && (decide (Span2.a (Permit3.time (Event.permit a)) = Span2.a (Permit3.time (Event.permit b))) && (decide (Span2.b (Permit3.time (Event.permit a)) = Span2.b (Permit3.time (Event.permit b))) && true) && true))) (True ∧ True ∧ True ∧ Post (Value.bool true)) (True ∧ True ∧ True ∧ Post (Value.bool false))) (True ∧ True ∧ True ∧ True ∧ True ∧ Post (Value.bool false))) (True ∧ True ∧ True ∧ True ∧ True ∧ True ∧ True ∧ Post (Value.bool false))) (True ∧ True ∧ True ∧ True ∧ True ∧ True ∧ True ∧ True ∧ True ∧ True ∧ True ∧ Post (Value.bool false))) (True ∧ True ∧ True ∧ True ∧ True ∧ True ∧ True ∧ True ∧ True ∧ True ∧ True ∧ True ∧ True ∧ Post (Value.bool false))) (True ∧ True ∧ True ∧ True ∧ True ∧ True ∧ True ∧ True ∧ True ∧ True ∧ True ∧ True ∧ True ∧ True ∧ True ∧ Post (Value.bool false))) (True ∧ True ∧ True ∧ True ∧ True ∧ True ∧ True ∧ True ∧ True ∧ True ∧ True ∧ True ∧ True ∧ True ∧ True ∧ True ∧ True ∧ Post (Value.bool false))) (True ∧ True ∧ True ∧ True ∧ True ∧ True ∧ True ∧ True ∧ True ∧ True ∧ True ∧ True ∧ True ∧ True ∧ True ∧ True ∧ True ∧ True ∧ True ∧ Post (Value.bool false))) (True ∧ True ∧ True ∧ True ∧ True ∧ True ∧ True ∧ True ∧ True ∧ True ∧ True ∧ True ∧ True ∧ True ∧ True ∧ True ∧ True ∧ True ∧ True ∧ True ∧ Post (Value.bool false))) (True ∧ True ∧ True ∧ True ∧ True ∧ True ∧ True ∧ True ∧ True ∧ True ∧ True ∧ Post (Value.bool false))) (True ∧ True ∧ True ∧ True ∧ True ∧ True ∧ True ∧ True ∧ True ∧ True ∧ True ∧ True ∧ True ∧ Post (Value.bool false))) (True ∧ True ∧ True ∧ True ∧ True ∧ True ∧ True ∧ True ∧ True ∧ True ∧ True ∧ True ∧ True ∧ True ∧ True ∧ Post (Value.bool false))) (True ∧ True ∧ True ∧ True ∧ True ∧ True ∧ True ∧ True ∧ True ∧ True ∧ True ∧ True ∧ True ∧ True ∧ True ∧ True ∧ True ∧ Post (Value.bool false))) (True ∧ True ∧ True ∧ True ∧ True ∧ True ∧ True ∧ True ∧ True ∧ True ∧ True ∧ True ∧ True ∧ True ∧ True ∧ True ∧ True ∧ True ∧ True ∧ Post (Value.bool false))) (True ∧ True ∧ True ∧ True ∧ True ∧ True ∧ True ∧ True ∧ True ∧ True ∧ True ∧ True ∧ True ∧ True ∧ True ∧ True ∧ True ∧ True ∧ True ∧ True ∧ True ∧ Post (Value.bool false))) (True ∧ True ∧ True ∧ True ∧ True ∧ True ∧ True ∧ True ∧ True ∧ True ∧ True ∧ True ∧ True ∧ True ∧ True ∧ True ∧ True ∧ True ∧ True ∧ True ∧ True ∧ True ∧ True ∧ Post (Value.bool false))) (True ∧ True ∧ True ∧ True ∧ True ∧ True ∧ True ∧ True ∧ True ∧ True ∧ True ∧ True ∧ True ∧ True ∧ True ∧ True ∧ True ∧ True ∧ True ∧ True ∧ True ∧ True ∧ True ∧ True ∧ True ∧ True ∧ Post (Value.bool false))) (True ∧ True ∧ pIf (Event.pass b) (True ∧ True ∧ True ∧ True ∧ True ∧ True ∧ True ∧ True ∧ True ∧ True ∧ True ∧ True ∧ True ∧ True ∧ True ∧ True ∧ True ∧ True ∧ True ∧ True ∧ True ∧ True ∧ True ∧ True ∧ True ∧ True ∧ Post (Value.bool false)) (True ∧ True ∧ True ∧ True ∧ True ∧ True ∧ True ∧ ∃ (a_1 : Order2), ∃ (b_1 : Order2), eqL [Value.agg #[Value.string (Order2.id (Event.order a)), tree 38 (List.length (Order2.edits (Event.order a))) (encL (Order2.edits (Event.order a)))], Value.agg #[Value.string (Order2.id (Event.order b)), tree 38 (List.length (Order2.edits (Event.order b))) (encL (Order2.edits (Event.order b)))]] [order2V a_1, order2V b_1] ∧ ShortO a_1 ∧ pIf (decide (a_1 = b_1)) (True ∧ True ∧ True ∧ True ∧ True ∧ True ∧ True ∧ pIf (decide (Sheet6.id (Event.sheet a) = Sheet6.id (Event.sheet b)) && (decide (Sheet6.grade (Event.sheet a) = Sheet6.grade (Event.sheet b)) && (decide (Sheet6.thick (Event.sheet a) = Sheet6.thick (Event.sheet b)) && (decide (Sheet6.long (Event.sheet a) = Sheet6.long (Event.sheet b)) && (decide (Sheet6.width (Event.sheet a) = Sheet6.width (Event.sheet b)) && (decide (Sheet6.heat (Event.sheet a) = Sheet6.heat (Event.sheet b)) && true)))))) (True ∧ True ∧ True ∧ True ∧ True ∧ True ∧ True ∧ pIf (decide (Bar5.id (Event.bar a) = Bar5.id (Event.bar b)) && (decide (Bar5.sect (Event.bar a) = Bar5.sect (Event.bar b)) && (decide (Bar5.grade (Event.bar a) = Bar5.grade (Event.bar b)) && (decide (Bar5.long (Event.bar a) = Bar5.long (Event.bar b)) && (decide (Bar5.heat (Event.bar a) = Bar5.heat (Event.bar b)) && true))))) (True ∧ True ∧ True ∧ True ∧ True ∧ True ∧ ∃ (a_2 : Nest3), ∃ (b_2 : Nest3), eqL [Value.agg #[Value.string (Nest3.sheet (Event.nest a)), Value.int IntKind.i64 (Nest3.gap (Event.nest a)), tree 5 (List.length (Nest3.spots (Event.nest a))) (encL (Nest3.spots (Event.nest a)))], Value.agg #[Value.string (Nest3.sheet (Event.nest b)), Value.int IntKind.i64 (Nest3.gap (Event.nest b)), tree 5 (List.length (Nest3.spots (Event.nest b))) (encL (Nest3.spots (Event.nest b)))]] [nest3V a_2, nest3V b_2] ∧ Short (Nest3.spots a_2) ∧ pIf (decide (a_2 = b_2)) (True ∧ True ∧ True ∧ True ∧ True ∧ True ∧ True ∧ True ∧ True ∧ pIf (decide (Saw3.bar (Event.saw a) = Saw3.bar (Event.saw b))) (True ∧ True ∧ True ∧ True ∧ True ∧ True ∧ True ∧ True ∧ True ∧ pIf (decide (Saw3.kerf (Event.saw a) = Saw3.kerf (Event.saw b))) (True ∧ True ∧ True ∧ True ∧ True ∧ True ∧ True ∧ True ∧ ∃ (l : List ByteArray), ∃ (m : List ByteArray), eqL [tree 1 (List.length (Saw3.parts (Event.saw a))) (encL (Saw3.parts (Event.saw a))), tree 1 (List.length (Saw3.parts (Event.saw b))) (encL (Saw3.parts (Event.saw b)))] [tree 1 (List.length l) (encL l), tree 1 (List.length m) (encL m)] ∧ Short l ∧ pIf (decide (l = m)) (True ∧ True ∧ True ∧ True ∧ True ∧ True ∧ True ∧ True ∧ True ∧ True ∧ True ∧ True ∧ True ∧ True ∧ pIf (decide (Weig.block (Event.weig a) = Weig.block (Event.weig b))) (True ∧ True ∧ True ∧ True ∧ True ∧ True ∧ pIf (decide (Weig.at_ (Event.weig a) = Weig.at_ (Event.weig b))) (True ∧ True ∧ True ∧ True ∧ True ∧ True ∧ True ∧ pIf (decide (Weig.mass (Event.weig a) = Weig.mass (Event.weig b))) (True ∧ True ∧ True ∧ True ∧ True ∧ True ∧ True ∧ pIf (decide (Vec3.x (Weig.centre (Event.weig a)) = Vec3.x (Weig.centre (Event.weig b))) && (decide (Vec3.y (Weig.centre (Event.weig a)) = Vec3.y (Weig.centre (Event.weig b))) && (decide (Vec3.z (Weig.centre (Event.weig a)) = Vec3.z (Weig.centre (Event.weig b))) && true))) (True ∧ True ∧ True ∧ True ∧ True ∧ True ∧ True ∧ pIf (decide (Weig.sigma (Event.weig a) = Weig.sigma (Event.weig b))) (True ∧ True ∧ True ∧ True ∧ True ∧ True ∧ ∃ (l : List ByteArray), ∃ (m : List ByteArray), eqL [tree 1 (List.length (Weig.parts (Event.weig a))) (encL (Weig.parts (Event.weig a))), tree 1 (List.length (Weig.parts (Event.weig b))) (encL (Weig.parts (Event.weig b)))] [tree 1 (List.length l) (encL l), tree 1 (List.length m) (encL m)] ∧ Short l ∧ pIf (decide (l = m)) (True ∧ True ∧ True ∧ True ∧ True ∧ True ∧ True ∧ True ∧ True ∧ True ∧ True ∧ pIf (decide (Lift2.block (Event.lift a) = Lift2.block (Event.lift b))) (True ∧ True ∧ True ∧ True ∧ True ∧ True ∧ True ∧ True ∧ ∃ (l : List Hook4), ∃ (m : List Hook4), eqL [tree 4 (List.length (Lift2.hooks (Event.lift a))) (encL (Lift2.hooks (Event.lift a))), tree 4 (List.length (Lift2.hooks (Event.lift b))) (encL (Lift2.hooks (Event.lift b)))] [tree 4 (List.length l) (encL l), tree 4 (List.length m) (encL m)] ∧ Short l ∧ pIf (decide (l = m)) (True ∧ True ∧ True ∧ True ∧ True ∧ True ∧ True ∧ pIf (decide (Permit3.id (Event.permit a) = Permit3.id (Event.permit b)) && (decide (Permit3.kind (Event.permit a) = Permit3.kind (Event.permit b)) && (decide (Span2.a (Permit3.time (Event.permit a)) = Span2.a (Permit3.time (Event.permit b))) && (decide (Span2.b (Permit3.time (Event.permit a)) = Span2.b (Permit3.time (Event.permit b))) && true) && true))) (True ∧ True ∧ True ∧ Post (Value.bool true)) (True ∧ True ∧ True ∧ Post (Value.bool false))) (True ∧ True ∧ True ∧ True ∧ True ∧ Post (Value.bool false))) (True ∧ True ∧ True ∧ True ∧ True ∧ True ∧ True ∧ Post (Value.bool false))) (True ∧ True ∧ True ∧ True ∧ True ∧ True ∧ True ∧ True ∧ True ∧ True ∧ True ∧ Post (Value.bool false))) (True ∧ True ∧ True ∧ True ∧ True ∧ True ∧ True ∧ True ∧ True ∧ True ∧ True ∧ True ∧ True ∧ Post (Value.bool false))) (True ∧ True ∧ True ∧ True ∧ True ∧ True ∧ True ∧ True ∧ True ∧ True ∧ True ∧ True ∧ True ∧ True ∧ True ∧ Post (Value.bool false))) (True ∧ True ∧ True ∧ True ∧ True ∧ True ∧ True ∧ True ∧ True ∧ True ∧ True ∧ True ∧ True ∧ True ∧ True ∧ True ∧ True ∧ Post (Value.bool false))) (True ∧ True ∧ True ∧ True ∧ True ∧ True ∧ True ∧ True ∧ True ∧ True ∧ True ∧ True ∧ True ∧ True ∧ True ∧ True ∧ True ∧ True ∧ True ∧ Post (Value.bool false))) (True ∧ True ∧ True ∧ True ∧ True ∧ True ∧ True ∧ True ∧ True ∧ True ∧ True ∧ True ∧ True ∧ True ∧ True ∧ True ∧ True ∧ True ∧ True ∧ True ∧ Post (Value.bool false))) (True ∧ True ∧ True ∧ True ∧ True ∧ True ∧ True ∧ True ∧ True ∧ True ∧ True ∧ Post (Value.bool false))) (True ∧ True ∧ True ∧ True ∧ True ∧ True ∧ True ∧ True ∧ True ∧ True ∧ True ∧ True ∧ True ∧ Post (Value.bool false))) (True ∧ True ∧ True ∧ True ∧ True ∧ True ∧ True ∧ True ∧ True ∧ True ∧ True ∧ True ∧ True ∧ True ∧ True ∧ Post (Value.bool false))) (True ∧ True ∧ True ∧ True ∧ True ∧ True ∧ True ∧ True ∧ True ∧ True ∧ True ∧ True ∧ True ∧ True ∧ True ∧ True ∧ True ∧ Post (Value.bool false))) (True ∧ True ∧ True ∧ True ∧ True ∧ True ∧ True ∧ True ∧ True ∧ True ∧ True ∧ True ∧ True ∧ True ∧ True ∧ True ∧ True ∧ True ∧ True ∧ Post (Value.bool false))) (True ∧ True ∧ True ∧ True ∧ True ∧ True ∧ True ∧ True ∧ True ∧ True ∧ True ∧ True ∧ True ∧ True ∧ True ∧ True ∧ True ∧ True ∧ True ∧ True ∧ True ∧ Post (Value.bool false))) (True ∧ True ∧ True ∧ True ∧ True ∧ True ∧ True ∧ True ∧ True ∧ True ∧ True ∧ True ∧ True ∧ True ∧ True ∧ True ∧ True ∧ True ∧ True ∧ True ∧ True ∧ True ∧ True ∧ Post (Value.bool false))))) (True ∧ True ∧ True ∧ True ∧ True ∧ True ∧ True ∧ True ∧ True ∧ True ∧ True ∧ True ∧ True ∧ True ∧ True ∧ True ∧ True ∧ True ∧ True ∧ True ∧ True ∧ True ∧ True ∧ True ∧ True ∧ True ∧ True ∧ Post (Value.bool false))) (True ∧ True ∧ True ∧ True ∧ True ∧ True ∧ True ∧ True ∧ True ∧ True ∧ True ∧ True ∧ True ∧ True ∧ True ∧ True ∧ True ∧ True ∧ True ∧ True ∧ True ∧ True ∧ True ∧ True ∧ True ∧ True ∧ True ∧ True ∧ True ∧ Post (Value.bool false))) (True ∧ True ∧ True ∧ True ∧ True ∧ True ∧ True ∧ True ∧ True ∧ True ∧ True ∧ True ∧ True ∧ True ∧ True ∧ True ∧ True ∧ True ∧ True ∧ True ∧ True ∧ True ∧ True ∧ True ∧ True ∧ True ∧ True ∧ True ∧ True ∧ True ∧ True ∧ Post (Value.bool false))) (True ∧ True ∧ True ∧ True ∧ True ∧ True ∧ True ∧ True ∧ True ∧ True ∧ True ∧ True ∧ True ∧ True ∧ True ∧ True ∧ True ∧ True ∧ True ∧ True ∧ True ∧ True ∧ True ∧ True ∧ True ∧ True ∧ True ∧ True ∧ True ∧ True ∧ True ∧ True ∧ True ∧ Post (Value.bool false))) (True ∧ True ∧ True ∧ True ∧ True ∧ True ∧ True ∧ True ∧ True ∧ True ∧ True ∧ True ∧ True ∧ True ∧ True ∧ True ∧ True ∧ True ∧ True ∧ True ∧ True ∧ True ∧ True ∧ True ∧ True ∧ True ∧ True ∧ True ∧ True ∧ True ∧ True ∧ True ∧ True ∧ True ∧ True ∧ Post (Value.bool false))) (True ∧ True ∧ True ∧ True ∧ True ∧ True ∧ True ∧ True ∧ True ∧ True ∧ True ∧ True ∧ True ∧ True ∧ True ∧ True ∧ True ∧ True ∧ True ∧ True ∧ True ∧ True ∧ True ∧ True ∧ True ∧ True ∧ True ∧ True ∧ True ∧ True ∧ True ∧ True ∧ True ∧ True ∧ True ∧ True ∧ Post (Value.bool false))) := by kernel_rfl
def tabPS : List Ent := [⟨66, c_eqSpots⟩, ⟨67, c_eqNames⟩, ⟨68, c_eqHooks⟩, ⟨44, c_Order⟩]
def callPS : VCall := inlCall Tryz.prog [43] (tabCall tabPS noCall) 2
theorem e_pSame (a b : Event) (H : Code → List Fr → AS → Prop) (Post : Value → Prop) : vcP Tryz.prog callPS 18 [] [eventV a, eventV b] H Post = (True ∧ True ∧ True ∧ True ∧ True ∧ True ∧ True ∧ True ∧ True ∧ 8 ≤ 8 ∧ ((Value.agg #[Value.string (Weig.block (Event.weig b)), Value.int IntKind.i64 (Weig.at_ (Event.weig b)), Value.int IntKind.i64 (Weig.mass (Event.weig b)), Value.int IntKind.i64 (Vec3.x (Weig.centre (Event.weig b))), Value.int IntKind.i64 (Vec3.y (Weig.centre (Event.weig b))), Value.int IntKind.i64 (Vec3.z (Weig.centre (Event.weig b))), Value.int IntKind.i64 (Weig.sigma (Event.weig b)), tree 1 (List.length (Weig.parts (Event.weig b))) (encL (Weig.parts (Event.weig b)))] = Value.agg #[Value.string (Weig.block (Event.weig b)), Value.int IntKind.i64 (Weig.at_ (Event.weig b)), Value.int IntKind.i64 (Weig.mass (Event.weig b)), Value.int IntKind.i64 (Vec3.x (Weig.centre (Event.weig b))), Value.int IntKind.i64 (Vec3.y (Weig.centre (Event.weig b))), Value.int IntKind.i64 (Vec3.z (Weig.centre (Event.weig b))), Value.int IntKind.i64 (Weig.sigma (Event.weig b)), tree 1 (List.length (Weig.parts (Event.weig b))) (encL (Weig.parts (Event.weig b)))] ∧ True) ∧ True) ∧ 8 ≤ 8 ∧ True ∧ True ∧ True ∧ True ∧ True ∧ True ∧ pIf (!decide (Event.kind a = Event.kind b)) (True ∧ True ∧ True ∧ True ∧ True ∧ True ∧ True ∧ True ∧ True ∧ True ∧ True ∧ True ∧ True ∧ True ∧ True ∧ Post (Value.bool false)) (True ∧ True ∧ True ∧ True ∧ True ∧ True ∧ pIf (!decide (Event.at_ a = Event.at_ b)) (True ∧ True ∧ True ∧ True ∧ True ∧ True ∧ True ∧ True ∧ True ∧ True ∧ True ∧ True ∧ True ∧ True ∧ Post (Value.bool false)) (True ∧ True ∧ True ∧ True ∧ True ∧ True ∧ True ∧ pIf (!decide (Event.item a = Event.item b)) (True ∧ True ∧ True ∧ True ∧ True ∧ True ∧ True ∧ True ∧ True ∧ True ∧ True ∧ True ∧ Post (Value.bool false)) (True ∧ True ∧ True ∧ True ∧ True ∧ True ∧ True ∧ pIf (!decide (Event.of_ a = Event.of_ b)) (True ∧ True ∧ True ∧ True ∧ True ∧ True ∧ True ∧ True ∧ True ∧ True ∧ Post (Value.bool false)) (True ∧ True ∧ True ∧ True ∧ True ∧ True ∧ True ∧ pIf (!decide (Event.by_ a = Event.by_ b)) (True ∧ True ∧ True ∧ True ∧ True ∧ True ∧ True ∧ True ∧ Post (Value.bool false)) (True ∧ True ∧ True ∧ True ∧ True ∧ True ∧ True ∧ pIf (!decide (Event.n a = Event.n b)) (True ∧ True ∧ True ∧ True ∧ True ∧ True ∧ Post (Value.bool false)) (True ∧ True ∧ True ∧ True ∧ pIf (Event.pass a) (True ∧ True ∧ pIf (Event.pass b) (True ∧ True ∧ True ∧ True ∧ True ∧ True ∧ True ∧ True ∧ pIf (!(decide (Sheet6.id (Event.sheet a) = Sheet6.id (Event.sheet b)) && (decide (Sheet6.grade (Event.sheet a) = Sheet6.grade (Event.sheet b)) && (decide (Sheet6.thick (Event.sheet a) = Sheet6.thick (Event.sheet b)) && (decide (Sheet6.long (Event.sheet a) = Sheet6.long (Event.sheet b)) && (decide (Sheet6.width (Event.sheet a) = Sheet6.width (Event.sheet b)) && (decide (Sheet6.heat (Event.sheet a) = Sheet6.heat (Event.sheet b)) && true))))))) (True ∧ True ∧ True ∧ True ∧ True ∧ True ∧ True ∧ True ∧ True ∧ True ∧ True ∧ True ∧ True ∧ True ∧ True ∧ True ∧ True ∧ Post (Value.bool false)) (True ∧ True ∧ True ∧ True ∧ True ∧ True ∧ pIf (!(decide (Bar5.id (Event.bar a) = Bar5.id (Event.bar b)) && (decide (Bar5.sect (Event.bar a) = Bar5.sect (Event.bar b)) && (decide (Bar5.grade (Event.bar a) = Bar5.grade (Event.bar b)) && (decide (Bar5.long (Event.bar a) = Bar5.long (Event.bar b)) && (decide (Bar5.heat (Event.bar a) = Bar5.heat (Event.bar b)) && true)))))) (True ∧ True ∧ True ∧ True ∧ True ∧ True ∧ True ∧ True ∧ True ∧ True ∧ True ∧ True ∧ True ∧ True ∧ True ∧ True ∧ Post (Value.bool false)) (True ∧ True ∧ True ∧ True ∧ True ∧ True ∧ True ∧ pIf (!(decide (Permit3.id (Event.permit a) = Permit3.id (Event.permit b)) && (decide (Permit3.kind (Event.permit a) = Permit3.kind (Event.permit b)) && (decide (Span2.a (Permit3.time (Event.permit a)) = Span2.a (Permit3.time (Event.permit b))) && (decide (Span2.b (Permit3.time (Event.permit a)) = Span2.b (Permit3.time (Event.permit b))) && true) && true)))) (True ∧ True ∧ True ∧ True ∧ True ∧ True ∧ True ∧ True ∧ True ∧ True ∧ True ∧ True ∧ True ∧ True ∧ Post (Value.bool false)) (True ∧ True ∧ True ∧ True ∧ True ∧ True ∧ True ∧ True ∧ True ∧ pIf (!decide (Nest3.sheet (Event.nest a) = Nest3.sheet (Event.nest b))) (True ∧ True ∧ True ∧ True ∧ True ∧ True ∧ True ∧ True ∧ True ∧ True ∧ True ∧ True ∧ Post (Value.bool false)) (True ∧ True ∧ True ∧ True ∧ True ∧ True ∧ True ∧ True ∧ True ∧ pIf (!decide (Nest3.gap (Event.nest a) = Nest3.gap (Event.nest b))) (True ∧ True ∧ True ∧ True ∧ True ∧ True ∧ True ∧ True ∧ True ∧ True ∧ Post (Value.bool false)) (True ∧ True ∧ True ∧ True ∧ True ∧ True ∧ True ∧ True ∧ True ∧ pIf (!decide (Saw3.bar (Event.saw a) = Saw3.bar (Event.saw b))) (True ∧ True ∧ True ∧ True ∧ True ∧ True ∧ True ∧ True ∧ Post (Value.bool false)) (True ∧ True ∧ True ∧ True ∧ True ∧ True ∧ True ∧ True ∧ True ∧ pIf (!decide (Saw3.kerf (Event.saw a) = Saw3.kerf (Event.saw b))) (True ∧ True ∧ True ∧ True ∧ True ∧ True ∧ Post (Value.bool false)) (True ∧ True ∧ True ∧ True ∧ True ∧ True ∧ True ∧ True ∧ True ∧ pIf (!decide (Lift2.block (Event.lift a) = Lift2.block (Event.lift b))) (True ∧ True ∧ True ∧ True ∧ Post (Value.bool false)) (True ∧ True ∧ True ∧ True ∧ True ∧ True ∧ True ∧ pIf (!decide (Weig.block (Event.weig a) = Weig.block (Event.weig b))) (True ∧ True ∧ True ∧ True ∧ True ∧ True ∧ True ∧ True ∧ True ∧ True ∧ True ∧ Post (Value.bool false)) (True ∧ True ∧ True ∧ True ∧ True ∧ True ∧ pIf (!decide (Weig.at_ (Event.weig a) = Weig.at_ (Event.weig b))) (True ∧ True ∧ True ∧ True ∧ True ∧ True ∧ True ∧ True ∧ True ∧ True ∧ Post (Value.bool false)) (True ∧ True ∧ True ∧ True ∧ True ∧ True ∧ True ∧ pIf (!decide (Weig.mass (Event.weig a) = Weig.mass (Event.weig b))) (True ∧ True ∧ True ∧ True ∧ True ∧ True ∧ True ∧ True ∧ Post (Value.bool false)) (True ∧ True ∧ True ∧ True ∧ True ∧ True ∧ True ∧ pIf (!(decide (Vec3.x (Weig.centre (Event.weig a)) = Vec3.x (Weig.centre (Event.weig b))) && (decide (Vec3.y (Weig.centre (Event.weig a)) = Vec3.y (Weig.centre (Event.weig b))) && (decide (Vec3.z (Weig.centre (Event.weig a)) = Vec3.z (Weig.centre (Event.weig b))) && true)))) (True ∧ True ∧ True ∧ True ∧ True ∧ True ∧ Post (Value.bool false)) (True ∧ True ∧ True ∧ True ∧ True ∧ True ∧ True ∧ pIf (!decide (Weig.sigma (Event.weig a) = Weig.sigma (Event.weig b))) (True ∧ True ∧ True ∧ True ∧ Post (Value.bool false)) (True ∧ True ∧ True ∧ True ∧ True ∧ True ∧ True ∧ True ∧ True ∧ True ∧ True ∧ True ∧ True ∧ ∃ (l : List Spot), ∃ (m : List Spot), eqL [tree 5 (List.length (Nest3.spots (Event.nest a))) (encL (Nest3.spots (Event.nest a))), tree 5 (List.length (Nest3.spots (Event.nest b))) (encL (Nest3.spots (Event.nest b)))] [tree 5 (List.length l) (encL l), tree 5 (List.length m) (encL m)] ∧ Short l ∧ pIf (decide (l = m)) (True ∧ True ∧ True ∧ True ∧ True ∧ True ∧ True ∧ ∃ (l : List ByteArray), ∃ (m : List ByteArray), eqL [tree 1 (List.length (Saw3.parts (Event.saw a))) (encL (Saw3.parts (Event.saw a))), tree 1 (List.length (Saw3.parts (Event.saw b))) (encL (Saw3.parts (Event.saw b)))] [tree 1 (List.length l) (encL l), tree 1 (List.length m) (encL m)] ∧ Short l ∧ pIf (decide (l = m)) (True ∧ True ∧ True ∧ True ∧ True ∧ True ∧ True ∧ True ∧ ∃ (l : List ByteArray), ∃ (m : List ByteArray), eqL [tree 1 (List.length (Weig.parts (Event.weig a))) (encL (Weig.parts (Event.weig a))), tree 1 (List.length (Weig.parts (Event.weig b))) (encL (Weig.parts (Event.weig b)))] [tree 1 (List.length l) (encL l), tree 1 (List.length m) (encL m)] ∧ Short l ∧ pIf (decide (l = m)) (True ∧ True ∧ True ∧ True ∧ True ∧ True ∧ True ∧ True ∧ ∃ (l : List Hook4), ∃ (m : List Hook4), eqL [tree 4 (List.length (Lift2.hooks (Event.lift a))) (encL (Lift2.hooks (Event.lift a))), tree 4 (List.length (Lift2.hooks (Event.lift b))) (encL (Lift2.hooks (Event.lift b)))] [tree 4 (List.length l) (encL l), tree 4 (List.length m) (encL m)] ∧ Short l ∧ pIf (decide (l = m)) (True ∧ True ∧ True ∧ True ∧ True ∧ True ∧ True ∧ True ∧ ∃ (o : Order2), eqL [Value.agg #[Value.string (Order2.id (Event.order a)), tree 38 (List.length (Order2.edits (Event.order a))) (encL (Order2.edits (Event.order a)))]] [order2V o] ∧ InOrder o ∧ FewO o ∧ True ∧ ∃ (o_1 : Order2), eqL [Value.agg #[Value.string (Order2.id (Event.order b)), tree 38 (List.length (Order2.edits (Event.order b))) (encL (Order2.edits (Event.order b)))]] [order2V o_1] ∧ InOrder o_1 ∧ FewO o_1 ∧ True ∧ True ∧ pIf (decide (bOrder o = bOrder o_1)) (True ∧ True ∧ True ∧ Post (Value.bool true)) (True ∧ True ∧ True ∧ Post (Value.bool false))) (True ∧ True ∧ True ∧ True ∧ True ∧ True ∧ True ∧ Post (Value.bool false))) (True ∧ True ∧ True ∧ True ∧ True ∧ True ∧ True ∧ True ∧ True ∧ Post (Value.bool false))) (True ∧ True ∧ True ∧ True ∧ True ∧ True ∧ True ∧ True ∧ True ∧ True ∧ True ∧ Post (Value.bool false))) (True ∧ True ∧ True ∧ True ∧ True ∧ True ∧ True ∧ True ∧ True ∧ True ∧ True ∧ True ∧ Post (Value.bool false)))))))))))))))) (True ∧ True ∧ True ∧ True ∧ True ∧ Post (Value.bool false))) (True ∧ True ∧ pIf (Event.pass b) (True ∧ True ∧ True ∧ True ∧ True ∧ Post (Value.bool false)) (True ∧ True ∧ True ∧ True ∧ True ∧ True ∧ True ∧ True ∧ pIf (!(decide (Sheet6.id (Event.sheet a) = Sheet6.id (Event.sheet b)) && (decide (Sheet6.grade (Event.sheet a) = Sheet6.grade (Event.sheet b)) && (decide (Sheet6.thick (Event.sheet a) = Sheet6.thick (Event.sheet b)) && (decide (Sheet6.long (Event.sheet a) = Sheet6.long (Event.sheet b)) && (decide (Sheet6.width (Event.sheet a) = Sheet6.width (Event.sheet b)) && (decide (Sheet6.heat (Event.sheet a) = Sheet6.heat (Event.sheet b)) && true))))))) (True ∧ True ∧ True ∧ True ∧ True ∧ True ∧ True ∧ True ∧ True ∧ True ∧ True ∧ True ∧ True ∧ True ∧ True ∧ True ∧ True ∧ Post (Value.bool false)) (True ∧ True ∧ True ∧ True ∧ True ∧ True ∧ pIf (!(decide (Bar5.id (Event.bar a) = Bar5.id (Event.bar b)) && (decide (Bar5.sect (Event.bar a) = Bar5.sect (Event.bar b)) && (decide (Bar5.grade (Event.bar a) = Bar5.grade (Event.bar b)) && (decide (Bar5.long (Event.bar a) = Bar5.long (Event.bar b)) && (decide (Bar5.heat (Event.bar a) = Bar5.heat (Event.bar b)) && true)))))) (True ∧ True ∧ True ∧ True ∧ True ∧ True ∧ True ∧ True ∧ True ∧ True ∧ True ∧ True ∧ True ∧ True ∧ True ∧ True ∧ Post (Value.bool false)) (True ∧ True ∧ True ∧ True ∧ True ∧ True ∧ True ∧ pIf (!(decide (Permit3.id (Event.permit a) = Permit3.id (Event.permit b)) && (decide (Permit3.kind (Event.permit a) = Permit3.kind (Event.permit b)) && (decide (Span2.a (Permit3.time (Event.permit a)) = Span2.a (Permit3.time (Event.permit b))) && (decide (Span2.b (Permit3.time (Event.permit a)) = Span2.b (Permit3.time (Event.permit b))) && true) && true)))) (True ∧ True ∧ True ∧ True ∧ True ∧ True ∧ True ∧ True ∧ True ∧ True ∧ True ∧ True ∧ True ∧ True ∧ Post (Value.bool false)) (True ∧ True ∧ True ∧ True ∧ True ∧ True ∧ True ∧ True ∧ True ∧ pIf (!decide (Nest3.sheet (Event.nest a) = Nest3.sheet (Event.nest b))) (True ∧ True ∧ True ∧ True ∧ True ∧ True ∧ True ∧ True ∧ True ∧ True ∧ True ∧ True ∧ Post (Value.bool false)) (True ∧ True ∧ True ∧ True ∧ True ∧ True ∧ True ∧ True ∧ True ∧ pIf (!decide (Nest3.gap (Event.nest a) = Nest3.gap (Event.nest b))) (True ∧ True ∧ True ∧ True ∧ True ∧ True ∧ True ∧ True ∧ True ∧ True ∧ Post (Value.bool false)) (True ∧ True ∧ True ∧ True ∧ True ∧ True ∧ True ∧ True ∧ True ∧ pIf (!decide (Saw3.bar (Event.saw a) = Saw3.bar (Event.saw b))) (True ∧ True ∧ True ∧ True ∧ True ∧ True ∧ True ∧ True ∧ Post (Value.bool false)) (True ∧ True ∧ True ∧ True ∧ True ∧ True ∧ True ∧ True ∧ True ∧ pIf (!decide (Saw3.kerf (Event.saw a) = Saw3.kerf (Event.saw b))) (True ∧ True ∧ True ∧ True ∧ True ∧ True ∧ Post (Value.bool false)) (True ∧ True ∧ True ∧ True ∧ True ∧ True ∧ True ∧ True ∧ True ∧ pIf (!decide (Lift2.block (Event.lift a) = Lift2.block (Event.lift b))) (True ∧ True ∧ True ∧ True ∧ Post (Value.bool false)) (True ∧ True ∧ True ∧ True ∧ True ∧ True ∧ True ∧ pIf (!decide (Weig.block (Event.weig a) = Weig.block (Event.weig b))) (True ∧ True ∧ True ∧ True ∧ True ∧ True ∧ True ∧ True ∧ True ∧ True ∧ True ∧ Post (Value.bool false)) (True ∧ True ∧ True ∧ True ∧ True ∧ True ∧ pIf (!decide (Weig.at_ (Event.weig a) = Weig.at_ (Event.weig b))) (True ∧ True ∧ True ∧ True ∧ True ∧ True ∧ True ∧ True ∧ True ∧ True ∧ Post (Value.bool false)) (True ∧ True ∧ True ∧ True ∧ True ∧ True ∧ True ∧ pIf (!decide (Weig.mass (Event.weig a) = Weig.mass (Event.weig b))) (True ∧ True ∧ True ∧ True ∧ True ∧ True ∧ True ∧ True ∧ Post (Value.bool false)) (True ∧ True ∧ True ∧ True ∧ True ∧ True ∧ True ∧ pIf (!(decide (Vec3.x (Weig.centre (Event.weig a)) = Vec3.x (Weig.centre (Event.weig b))) && (decide (Vec3.y (Weig.centre (Event.weig a)) = Vec3.y (Weig.centre (Event.weig b))) && (decide (Vec3.z (Weig.centre (Event.weig a)) = Vec3.z (Weig.centre (Event.weig b))) && true)))) (True ∧ True ∧ True ∧ True ∧ True ∧ True ∧ Post (Value.bool false)) (True ∧ True ∧ True ∧ True ∧ True ∧ True ∧ True ∧ pIf (!decide (Weig.sigma (Event.weig a) = Weig.sigma (Event.weig b))) (True ∧ True ∧ True ∧ True ∧ Post (Value.bool false)) (True ∧ True ∧ True ∧ True ∧ True ∧ True ∧ True ∧ True ∧ True ∧ True ∧ True ∧ True ∧ True ∧ ∃ (l : List Spot), ∃ (m : List Spot), eqL [tree 5 (List.length (Nest3.spots (Event.nest a))) (encL (Nest3.spots (Event.nest a))), tree 5 (List.length (Nest3.spots (Event.nest b))) (encL (Nest3.spots (Event.nest b)))] [tree 5 (List.length l) (encL l), tree 5 (List.length m) (encL m)] ∧ Short l ∧ pIf (decide (l = m)) (True ∧ True ∧ True ∧ True ∧ True ∧ True ∧ True ∧ ∃ (l : List ByteArray), ∃ (m : List ByteArray), eqL [tree 1 (List.length (Saw3.parts (Event.saw a))) (encL (Saw3.parts (Event.saw a))), tree 1 (List.length (Saw3.parts (Event.saw b))) (encL (Saw3.parts (Event.saw b)))] [tree 1 (List.length l) (encL l), tree 1 (List.length m) (encL m)] ∧ Short l ∧ pIf (decide (l = m)) (True ∧ True ∧ True ∧ True ∧ True ∧ True ∧ True ∧ True ∧ ∃ (l : List ByteArray), ∃ (m : List ByteArray), eqL [tree 1 (List.length (Weig.parts (Event.weig a))) (encL (Weig.parts (Event.weig a))), tree 1 (List.length (Weig.parts (Event.weig b))) (encL (Weig.parts (Event.weig b)))] [tree 1 (List.length l) (encL l), tree 1 (List.length m) (encL m)] ∧ Short l ∧ pIf (decide (l = m)) (True ∧ True ∧ True ∧ True ∧ True ∧ True ∧ True ∧ True ∧ ∃ (l : List Hook4), ∃ (m : List Hook4), eqL [tree 4 (List.length (Lift2.hooks (Event.lift a))) (encL (Lift2.hooks (Event.lift a))), tree 4 (List.length (Lift2.hooks (Event.lift b))) (encL (Lift2.hooks (Event.lift b)))] [tree 4 (List.length l) (encL l), tree 4 (List.length m) (encL m)] ∧ Short l ∧ pIf (decide (l = m)) (True ∧ True ∧ True ∧ True ∧ True ∧ True ∧ True ∧ True ∧ ∃ (o : Order2), eqL [Value.agg #[Value.string (Order2.id (Event.order a)), tree 38 (List.length (Order2.edits (Event.order a))) (encL (Order2.edits (Event.order a)))]] [order2V o] ∧ InOrder o ∧ FewO o ∧ True ∧ ∃ (o_1 : Order2), eqL [Value.agg #[Value.string (Order2.id (Event.order b)), tree 38 (List.length (Order2.edits (Event.order b))) (encL (Order2.edits (Event.order b)))]] [order2V o_1] ∧ InOrder o_1 ∧ FewO o_1 ∧ True ∧ True ∧ pIf (decide (bOrder o = bOrder o_1)) (True ∧ True ∧ True ∧ Post (Value.bool true)) (True ∧ True ∧ True ∧ Post (Value.bool false))) (True ∧ True ∧ True ∧ True ∧ True ∧ True ∧ True ∧ Post (Value.bool false))) (True ∧ True ∧ True ∧ True ∧ True ∧ True ∧ True ∧ True ∧ True ∧ Post (Value.bool false))) (True ∧ True ∧ True ∧ True ∧ True ∧ True ∧ True ∧ True ∧ True ∧ True ∧ True ∧ Post (Value.bool false))) (True ∧ True ∧ True ∧ True ∧ True ∧ True ∧ True ∧ True ∧ True ∧ True ∧ True ∧ True ∧ Post (Value.bool false)))))))))))))))))))))))) := by kernel_rfl
theorem callRS_ok : VCallOk Tryz.prog callRS := inlCall_ok mixed (tabCall_ok (by
  intro e he
  simp only [tabRS, List.mem_cons, List.not_mem_nil, or_false] at he
  rcases he with rfl | rfl | rfl | rfl
  · exact ok_sameOrder
  · exact ok_sameNest
  · exact ok_sameStrings
  · exact ok_sameHooks) noCall_ok) 2
theorem callPS_ok : VCallOk Tryz.prog callPS := inlCall_ok mixed (tabCall_ok (by
  intro e he
  simp only [tabPS, List.mem_cons, List.not_mem_nil, or_false] at he
  rcases he with rfl | rfl | rfl | rfl
  · exact ok_eqSpots
  · exact ok_eqNames
  · exact ok_eqHooks
  · exact ok_chEnc) noCall_ok) 2
structure ShortEv (x : Event) : Prop where
  order : ShortO x.order
  spots : Short x.nest.spots
  saw : Short x.saw.parts
  weig : Short x.weig.parts
  hooks : Short x.lift.hooks
def c_rSame (args : List Value) (Post : Value → Prop) : Prop := ∃ a b : Event, args = [eventV a, eventV b] ∧ ShortEv a ∧ Post (.bool (decide (a = b)))
def c_pSame (args : List Value) (Post : Value → Prop) : Prop := ∃ a b : Event, args = [eventV a, eventV b] ∧ ShortEv a ∧ InOrder a.order ∧ FewO a.order ∧ InOrder b.order ∧ FewO b.order ∧ Post (.bool (decide (a = b)))
theorem ok_rSame : EntOk Tryz.prog ⟨17, c_rSame⟩ := by
  rintro args Post ⟨a, b, rfl, ⟨s1, s2, s3, s4, s5⟩, h⟩
  refine pure_P (vc := callRS) callRS_ok mixed (by kernel_rfl) (by kernel_rfl) _ (e_rSame a b _ _) ?_
  simp only [true_and, and_true]
  repeat' (first
    | refine pIf_intro (fun hh => ?_) (fun hh => of_b h (decide_eq_false fun e => by subst e; simp at hh))
    | refine pIf_intro (fun hh => of_b h (decide_eq_false fun e => by subst e; simp at hh)) (fun hh => ?_)
    | refine pIf_intro (fun ha => pIf_intro (fun hb => ?_) (fun hb => of_b h (decide_eq_false fun e => by subst e; rw [ha] at hb; cases hb))) (fun ha => pIf_intro (fun hb => of_b h (decide_eq_false fun e => by subst e; rw [ha] at hb; cases hb)) (fun hb => ?_))
    | (refine of_b h (decide_eq_true ?_); clear h; simp only [Bool.and_eq_true, decide_eq_true_eq, and_true, Bool.not_eq_false', Bool.not_eq_eq_eq_not, Bool.not_false] at *; refine Event.ext' ?_ ?_ ?_ ?_ ?_ ?_ ?_ ?_ (Sheet6.ext' ?_ ?_ ?_ ?_ ?_ ?_) (Bar5.ext' ?_ ?_ ?_ ?_ ?_) ?_ (Saw3.ext' ?_ ?_ ?_) (Weig.ext' ?_ ?_ ?_ (Vec3.ext' ?_ ?_ ?_) ?_ ?_) (Lift2.ext' ?_ ?_) (Permit3.ext' ?_ ?_ (Span2.ext' ?_ ?_)) <;> simp_all)
    | refine ⟨_, _, rfl, by assumption, ?_⟩
)
theorem ok_pSame : EntOk Tryz.prog ⟨18, c_pSame⟩ := by
  rintro args Post ⟨a, b, rfl, ⟨s1, s2, s3, s4, s5⟩, ia, fa, ib, fb, h⟩
  refine pure_P (vc := callPS) callPS_ok mixed (by kernel_rfl) (by kernel_rfl) _ (e_pSame a b _ _) ?_
  simp only [true_and, and_true]
  have inj : bOrder a.order = bOrder b.order → a.order = b.order := (order_inj ia ib fa fb).1
  refine ⟨by decide, by decide, ?_⟩
  repeat' (first
    | refine pIf_intro (fun hh => ?_) (fun hh => of_b h (decide_eq_false fun e => by subst e; simp at hh))
    | refine pIf_intro (fun hh => of_b h (decide_eq_false fun e => by subst e; simp at hh)) (fun hh => ?_)
    | refine pIf_intro (fun ha => pIf_intro (fun hb => ?_) (fun hb => of_b h (decide_eq_false fun e => by subst e; rw [ha] at hb; cases hb))) (fun ha => pIf_intro (fun hb => of_b h (decide_eq_false fun e => by subst e; rw [ha] at hb; cases hb)) (fun hb => ?_))
    | (refine of_b h (decide_eq_true ?_); clear h; simp only [Bool.and_eq_true, decide_eq_true_eq, and_true, Bool.not_eq_false', Bool.not_eq_eq_eq_not, Bool.not_false] at *; refine Event.ext' ?_ ?_ ?_ ?_ ?_ ?_ ?_ ?_ (Sheet6.ext' ?_ ?_ ?_ ?_ ?_ ?_) (Bar5.ext' ?_ ?_ ?_ ?_ ?_) (Nest3.ext' ?_ ?_ ?_) (Saw3.ext' ?_ ?_ ?_) (Weig.ext' ?_ ?_ ?_ (Vec3.ext' ?_ ?_ ?_) ?_ ?_) (Lift2.ext' ?_ ?_) (Permit3.ext' ?_ ?_ (Span2.ext' ?_ ?_)) <;> simp_all)
    | refine ⟨_, _, rfl, by assumption, ?_⟩
    | refine ⟨_, rfl, ia, fa, _, rfl, ib, fb, ?_⟩)
end Go.Proofs.YtegjnjmimfgijaaGreatDoor
