/-
  Digits of natural numbers, and blocks of digits. Conditions: as each theorem states them.
-/
import Derived.Test.YtfgeocpooimojaaDoorBase
namespace Go.Proofs.YtfgeocpooimojaaDoor
open Go Go.RowKit

/-- Digit j of N to the base 2^32. -/
def dig (N j : Nat) : Nat := N / 4294967296 ^ j % 4294967296
theorem dig_lt (N j : Nat) : dig N j < 4294967296 := Nat.mod_lt _ (by decide)
/-- n values of kind uint64. -/
def digs (n : Nat) (f : Nat → Nat) : Array Value := ((List.range n).map fun j => Value.int .u64 (f j : Nat)).toArray
theorem digs_size (n : Nat) (f : Nat → Nat) : (digs n f).size = n := by simp [digs]
theorem digs_get {n : Nat} (f : Nat → Nat) {j : Nat} (h : j < n) : (digs n f)[j]? = some (.int .u64 (f j : Nat)) := by
  simp [digs, h]
theorem digs_set {n : Nat} (f : Nat → Nat) {j : Nat} (h : j < n) (v : Nat) : (digs n f).setIfInBounds j (.int .u64 (v : Nat)) = digs n (fun t => if t = j then v else f t) := by
  apply Array.ext_getElem?
  intro t
  rw [Array.getElem?_setIfInBounds]
  by_cases ht : t < n
  · by_cases e : j = t
    · subst e; rw [if_pos rfl, digs_get _ ht, if_pos rfl, digs_size, if_pos h]
    · rw [if_neg e, digs_get _ ht, digs_get _ ht, if_neg (Ne.symm e)]
  · rw [Array.getElem?_eq_none (by rw [digs_size]; omega), Array.getElem?_eq_none (by rw [digs_size]; omega)]
    split <;> simp_all
theorem digs_congr {n : Nat} {f g : Nat → Nat} (h : ∀ j, j < n → f j = g j) : digs n f = digs n g := by
  apply Array.ext_getElem?
  intro t
  by_cases ht : t < n
  · rw [digs_get _ ht, digs_get _ ht, h t ht]
  · rw [Array.getElem?_eq_none (by rw [digs_size]; omega), Array.getElem?_eq_none (by rw [digs_size]; omega)]
theorem digs8 (f : Nat → Nat) : digs 8 f = #[.int .u64 (f 0 : Nat), .int .u64 (f 1 : Nat), .int .u64 (f 2 : Nat), .int .u64 (f 3 : Nat), .int .u64 (f 4 : Nat), .int .u64 (f 5 : Nat), .int .u64 (f 6 : Nat), .int .u64 (f 7 : Nat)] := rfl
/-- Numbers up to digit j. -/
def upTo (N j : Nat) : Nat := N / 4294967296 ^ j
theorem upTo_step (N j : Nat) : upTo N j = 4294967296 * upTo N (j + 1) + dig N j := by
  unfold upTo dig
  rw [Nat.pow_succ, ← Nat.div_div_eq_div_mul]
  omega
theorem upTo_zero (N : Nat) : upTo N 0 = N := by simp [upTo]
theorem upTo_top (N j : Nat) (h : N < 4294967296 ^ j) : upTo N j = 0 := Nat.div_eq_of_lt h
end Go.Proofs.YtfgeocpooimojaaDoor
