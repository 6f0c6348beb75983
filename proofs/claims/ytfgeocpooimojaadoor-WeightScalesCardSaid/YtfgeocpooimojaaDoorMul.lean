/-
  The schoolbook product of two numbers by their digits. Conditions: as each theorem states them.
-/
import Derived.Test.YtfgeocpooimojaaDoorDig
namespace Go.Proofs.YtfgeocpooimojaaDoor
open Go Go.RowKit

def low (N k : Nat) : Nat := N % 4294967296 ^ k
theorem low_zero (N : Nat) : low N 0 = 0 := by simp [low, Nat.mod_one]
theorem low_step (N k : Nat) : low N (k + 1) = low N k + dig N k * 4294967296 ^ k := by
  unfold low dig
  rw [Nat.mod_pow_succ, Nat.mul_comm]
theorem low_all (N k : Nat) (h : N < 4294967296 ^ k) : low N k = N := Nat.mod_eq_of_lt h
theorem low_lt (N k : Nat) : low N k < 4294967296 ^ k := Nat.mod_lt _ (Nat.pow_pos (by decide))
theorem dig_zero (j : Nat) : dig 0 j = 0 := by simp [dig]
theorem dig_of_upTo (N j : Nat) : dig N j = upTo N j % 4294967296 := rfl
theorem upTo_succ (N j : Nat) : upTo N (j + 1) = upTo N j / 4294967296 := by
  unfold upTo; rw [Nat.pow_succ, ← Nat.div_div_eq_div_mul]
theorem upTo_add (N q m : Nat) : upTo (N + q * 4294967296 ^ m) m = upTo N m + q := by
  unfold upTo
  rw [Nat.add_mul_div_right _ _ (Nat.pow_pos (by decide))]
theorem dig_add (N q m j : Nat) (h : j < m) : dig (N + q * 4294967296 ^ m) j = dig N j := by
  obtain ⟨d, rfl⟩ : ∃ d, m = j + 1 + d := ⟨m - (j + 1), by omega⟩
  rw [dig_of_upTo, dig_of_upTo, show q * 4294967296 ^ (j + 1 + d) = (q * 4294967296 ^ d * 4294967296) * 4294967296 ^ j by rw [Nat.pow_add, Nat.pow_succ]; ac_rfl, upTo_add, Nat.add_mul_mod_self_right]
/-- The number that has been collected in round i after k steps. -/
def accV (X Y i k : Nat) : Nat := low X i * Y + dig X i * low Y k * 4294967296 ^ i
theorem accV_zero (X Y i : Nat) : accV X Y i 0 = low X i * Y := by simp [accV, low_zero]
theorem accV_step (X Y i k : Nat) : accV X Y i (k + 1) = accV X Y i k + dig X i * dig Y k * 4294967296 ^ (i + k) := by
  unfold accV
  rw [low_step, Nat.mul_add, Nat.add_mul, ← Nat.add_assoc, Nat.pow_add, ← Nat.mul_assoc (dig X i), Nat.mul_assoc (dig X i * dig Y k), Nat.mul_comm (4294967296 ^ k)]
theorem accV_end (X Y i : Nat) (hy : Y < 4294967296 ^ 8) : accV X Y i 8 = low X (i + 1) * Y := by
  unfold accV
  rw [low_all Y 8 hy, low_step, Nat.add_mul, Nat.mul_right_comm]
/-- One step: the carry and the new digit. -/
theorem mul_step (X Y i k c : Nat) (hc : c + upTo (low X i * Y) (i + k) = upTo (accV X Y i k) (i + k)) :
    dig (accV X Y i (k + 1)) (i + k) = (c + dig (low X i * Y) (i + k) + dig X i * dig Y k) % 4294967296 ∧
    (c + dig (low X i * Y) (i + k) + dig X i * dig Y k) / 4294967296 + upTo (low X i * Y) (i + (k + 1)) = upTo (accV X Y i (k + 1)) (i + (k + 1)) ∧
    ∀ j, j < i + k → dig (accV X Y i (k + 1)) j = dig (accV X Y i k) j := by
  have h1 : upTo (accV X Y i (k + 1)) (i + k) = upTo (accV X Y i k) (i + k) + dig X i * dig Y k := by rw [accV_step, upTo_add]
  have h2 := upTo_step (low X i * Y) (i + k)
  refine ⟨?_, ?_, fun j hj => by rw [accV_step, dig_add _ _ _ _ hj]⟩
  · rw [dig_of_upTo, h1]; omega
  · rw [← Nat.add_assoc, upTo_succ (accV X Y i (k + 1)), h1]; omega
theorem mul_room (c u x y : Nat) (hc : c < 4294967296) (hu : u < 4294967296) (hx : x < 4294967296) (hy : y < 4294967296) : c + u + x * y < 18446744073709551616 ∧ x * y < 18446744073709551616 ∧ (c + u + x * y) / 4294967296 < 4294967296 := by
  have : x * y ≤ 4294967295 * 4294967295 := Nat.mul_le_mul (by omega) (by omega)
  omega
theorem low_mul_lt (X Y i : Nat) (hy : Y < 4294967296 ^ 8) : low X i * Y < 4294967296 ^ (i + 8) := by
  rw [Nat.pow_add]
  exact Nat.mul_lt_mul_of_lt_of_le (low_lt X i) (Nat.le_of_lt hy) (Nat.pow_pos (by decide))
/-- The end of a round: the last carry is the next digit, and those beyond are 0. -/
theorem mul_round (X Y i c : Nat) (hy : Y < 4294967296 ^ 8) (hc : c < 4294967296) (h : c + upTo (low X i * Y) (i + 8) = upTo (accV X Y i 8) (i + 8)) (j : Nat) :
    (if j = i + 8 then c else if j < i + 8 then dig (accV X Y i 8) j else dig (low X i * Y) j) = dig (low X (i + 1) * Y) j := by
  rw [upTo_top _ _ (low_mul_lt X Y i hy), Nat.add_zero] at h
  rw [accV_end X Y i hy] at *
  by_cases e : j = i + 8
  · rw [if_pos e, e, dig_of_upTo, ← h, Nat.mod_eq_of_lt hc]
  · rw [if_neg e]
    by_cases e2 : j < i + 8
    · rw [if_pos e2]
    · rw [if_neg e2]
      have t1 : low X i * Y < 4294967296 ^ j := Nat.lt_of_lt_of_le (low_mul_lt X Y i hy) (Nat.pow_le_pow_right (by decide) (by omega))
      have t2 : low X (i + 1) * Y < 4294967296 ^ j := Nat.lt_of_lt_of_le (low_mul_lt X Y (i + 1) hy) (Nat.pow_le_pow_right (by decide) (by omega))
      rw [dig_of_upTo, dig_of_upTo, upTo_top _ _ t1, upTo_top _ _ t2]
end Go.Proofs.YtfgeocpooimojaaDoor
