/-
  The integer square root, bit by bit: what num.Root and its reference return. Conditions: as each theorem states them.
-/
import Derived.Test.YtfgeocpooimojaaDoorNumb
import Derived.Laws.BitsAllLaws
import Derived.Laws.BitsLemmas
namespace Go.Proofs.YtfgeocpooimojaaDoor
open Go Go.RowKit

/-- The root after k bits, from bit 31 down. -/
def rootTo (n : Nat) : Nat → Nat
  | 0 => 0
  | k + 1 => if (rootTo n k + 2 ^ (31 - k)) * (rootTo n k + 2 ^ (31 - k)) ≤ n then rootTo n k + 2 ^ (31 - k) else rootTo n k
def rootOf (n : Int) : Int := if n < 0 then 0 else (rootTo n.toNat 32 : Nat)
theorem rootTo_form (n : Nat) : ∀ k, k ≤ 32 → ∃ m, rootTo n k = 2 ^ (32 - k) * m ∧ rootTo n k + 2 ^ (32 - k) ≤ 4294967296
  | 0, _ => ⟨0, by simp [rootTo], by simp [rootTo]⟩
  | k + 1, h => by
    obtain ⟨m, e, hb⟩ := rootTo_form n k (by omega)
    have h2 : 2 ^ (32 - k) = 2 * 2 ^ (32 - (k + 1)) := by rw [← Nat.pow_succ', show (32 - (k + 1)).succ = 32 - k by omega]
    have h3 : 31 - k = 32 - (k + 1) := by omega
    unfold rootTo
    rw [h3]
    generalize 2 ^ (32 - (k + 1)) = p at *
    rw [h2] at e hb
    split
    · exact ⟨2 * m + 1, by rw [e, Nat.mul_add, ← Nat.mul_assoc, Nat.mul_comm 2 p]; omega, by omega⟩
    · exact ⟨2 * m, by rw [e, ← Nat.mul_assoc, Nat.mul_comm 2 p], by omega⟩
theorem ofInt_i64 (a : Nat) (ha : a < 9223372036854775808) : (BitVec.ofInt 64 (a : Int)).toNat = a := by
  rw [BitVec.ofInt_natCast, BitVec.toNat_ofNat]; exact Nat.mod_eq_of_lt (by omega)
theorem i64_or_nat (a b : Nat) (ha : a < 9223372036854775808) (hb : b < 9223372036854775808) : bits .or .i64 (a : Int) (b : Int) = ((a ||| b : Nat) : Int) := by
  have hx : a ||| b < 2 ^ 63 := Nat.or_lt_two_pow (by omega) (by omega)
  show IntKind.i64.wrap ((BitVec.ofInt 64 (a : Int) ||| BitVec.ofInt 64 (b : Int)).toNat : Int) = _
  rw [BitVec.toNat_or, ofInt_i64 a ha, ofInt_i64 b hb, IntKind.wrap_i64]
  omega
theorem pow31 (k : Nat) : 1 ≤ 2 ^ (31 - k) ∧ 2 ^ (31 - k) ≤ 2147483648 :=
  ⟨Nat.one_le_two_pow, Nat.pow_le_pow_right (n := 2) (by omega) (by omega : 31 - k ≤ 31)⟩
theorem root_or (n k : Nat) (h : k < 32) : bits .or .i64 ((rootTo n k : Nat) : Int) (wrap64 (2 ^ (31 - k))) = ((rootTo n k + 2 ^ (31 - k) : Nat) : Int) := by
  obtain ⟨m, e, hb⟩ := rootTo_form n k (by omega)
  have hp := pow31 k
  have h2 : 2 ^ (32 - k) = 2 * 2 ^ (31 - k) := by rw [← Nat.pow_succ', show (31 - k).succ = 32 - k by omega]
  have ew : wrap64 (2 ^ (31 - k)) = ((2 ^ (31 - k) : Nat) : Int) := by
    rw [show (2 : Int) ^ (31 - k) = ((2 ^ (31 - k) : Nat) : Int) by simp]
    exact IntWalk.wrap64_in _ ⟨by omega, by omega⟩
  rw [ew, i64_or_nat _ _ (by omega) (by omega), e, ← Nat.two_pow_add_eq_or_of_lt (by omega)]
theorem div_test (t n : Nat) (ht : 1 ≤ t) : t ≤ n / t ↔ t * t ≤ n := by rw [Nat.le_div_iff_mul_le (by omega)]
theorem quo_small (n t : Nat) (h : n ≤ 9223372036854775807) : wrap64 ((n : Int) / (t : Int)) = ((n / t : Nat) : Int) := by
  have h1 := Nat.div_le_self n t
  rw [← Int.natCast_ediv]
  generalize n / t = q at *
  exact IntWalk.wrap64_in _ ⟨by omega, by omega⟩
set_option maxHeartbeats 400000 in
theorem numRoot_nat (n : Nat) (h2 : n ≤ 9223372036854775807) (w : World) : Calls Tryd.prog 38 #[.int .i64 n] w fun e w' => e = .returned (.int .i64 ((rootTo n 32 : Nat) : Int)) ∧ w = w' := by
  have g0 : decide ((n : Int) < 0) = false := by simp
  go_enter Tryd.func38, Tryd.ntmps38
  go_wp2_with fail
  go_loop [3, 8] (fun r i => ∃ k : Nat, k ≤ 32 ∧ i = .int .i64 k ∧ r = .int .i64 (rootTo n k : Nat)) (fun _ i => 32 - (intOf i).toNat)
  case atStart => exact ⟨0, by omega, rfl, rfl⟩
  case round =>
    obtain ⟨k, hk, rfl, rfl⟩ := hrel
    by_cases hlt : k < 32
    · have ho := root_or n k hlt
      have hp := pow31 k
      have HD := Lib.hid (div_test (rootTo n k + 2 ^ (31 - k)) n (by omega))
      have HS : Hid (rootTo n (k + 1) = if (rootTo n k + 2 ^ (31 - k)) * (rootTo n k + 2 ^ (31 - k)) ≤ n then rootTo n k + 2 ^ (31 - k) else rootTo n k) := rfl
      have hf := rootTo_form n k (by omega)
      have hb : rootTo n k + 2 ^ (31 - k) ≤ 4294967296 := by
        obtain ⟨m, e, hb⟩ := hf
        have h2 : 2 ^ (32 - k) = 2 * 2 ^ (31 - k) := by rw [← Nat.pow_succ', show (31 - k).succ = 32 - k by omega]
        omega
      have hb1 : 1 ≤ rootTo n k + 2 ^ (31 - k) := by omega
      clear hf hp
      generalize rootTo n k + 2 ^ (31 - k) = T at *
      go_wp2_with fail
      · have ht : (T : Int) ≤ wrap64 (↑n / ↑T) := by assumption
        rw [quo_small n T h2] at ht
        go_round
        case rel => exact ⟨k + 1, by omega, by go_num, by rw [HS.out, if_pos (HD.out.1 (by omega))]⟩
        case measure => simp [intOf]; omega
      · have ht : wrap64 (↑n / ↑T) < (T : Int) := by assumption
        rw [quo_small n T h2] at ht
        go_round
        case rel => exact ⟨k + 1, by omega, by go_num, by rw [HS.out, if_neg (fun h => by have := HD.out.2 h; omega)]⟩
        case measure => simp [intOf]; omega
    · obtain rfl : k = 32 := by omega
      go_wp2_with fail
      go_ret
      exact ⟨rfl, rfl⟩
theorem rootOf_nat (n : Nat) : rootOf (n : Int) = ((rootTo n 32 : Nat) : Int) := by unfold rootOf; rw [if_neg (by omega)]; rfl
theorem numRoot_any (n : Int) (h0 : 0 ≤ n) (h2 : n ≤ 9223372036854775807) (w : World) : Calls Tryd.prog 38 #[.int .i64 n] w fun e w' => e = .returned (.int .i64 (rootOf n)) ∧ w = w' := by
  obtain ⟨n, rfl⟩ := Int.eq_ofNat_of_zero_le h0
  exact (numRoot_nat n (by omega) w).mono fun e w' ⟨he, hw⟩ => ⟨by rw [he, rootOf_nat], hw⟩

theorem pow31s (k : Nat) (h : k < 31) : 2 ^ (31 - k) = 2 * 2 ^ (31 - (k + 1)) := by rw [← Nat.pow_succ', show (31 - (k + 1)).succ = 31 - k by omega]
/-- The bit of round k; 0 after the last. -/
def bitAt (k : Nat) : Nat := if k < 32 then 2 ^ (31 - k) else 0
theorem bit_next (k : Nat) (h : k < 32) : bitAt (k + 1) = bitAt k / 2 := by
  unfold bitAt
  rw [if_pos h]
  by_cases h2 : k + 1 < 32
  · rw [if_pos h2, pow31s k (by omega)]; omega
  · obtain rfl : k = 31 := by omega
    rfl
set_option maxHeartbeats 400000 in
theorem refRoot_nat (n : Nat) (h2 : n ≤ 9223372036854775807) (w : World) : Calls Tryd.prog 39 #[.int .i64 n] w fun e w' => e = .returned (.int .i64 ((rootTo n 32 : Nat) : Int)) ∧ w = w' := by
  have g0 : decide ((n : Int) < 0) = false := by simp
  go_enter Tryd.func39, Tryd.ntmps39
  go_wp2_with fail
  go_loop [3, 4] (fun r i => ∃ k : Nat, k ≤ 32 ∧ i = .int .u64 (bitAt k : Nat) ∧ r = .int .u64 (rootTo n k : Nat)) (fun _ i => (intOf i).toNat)
  case atStart => exact ⟨0, by omega, rfl, rfl⟩
  case round =>
    obtain ⟨k, hk, rfl, rfl⟩ := hrel
    by_cases hlt : k < 32
    · have hp := pow31 k
      have hbit : bitAt k = 2 ^ (31 - k) := if_pos hlt
      have HS : Hid (rootTo n (k + 1) = if (rootTo n k + 2 ^ (31 - k)) * (rootTo n k + 2 ^ (31 - k)) ≤ n then rootTo n k + 2 ^ (31 - k) else rootTo n k) := rfl
      have hlo : rootTo n k + 2 ^ (31 - k) < 4294967296 := by
        obtain ⟨m, e, hb⟩ := rootTo_form n k (by omega)
        have h2 : 2 ^ (32 - k) = 2 * 2 ^ (31 - k) := by rw [← Nat.pow_succ', show (31 - k).succ = 32 - k by omega]
        omega
      have HN := Lib.hid (bit_next k hlt)
      rw [← hbit] at hp HS hlo
      generalize bitAt k = b at *
      clear hbit
      generalize hT : rootTo n k + b = T at *
      have hs : IntKind.u64.wrap ((rootTo n k : Int) + (b : Int)) = (T : Int) := by rw [IntKind.wrap_u64]; omega
      have hsq : T * T < 18446744073709551616 := Nat.mul_lt_mul'' hlo hlo
      have hs2 : IntKind.u64.wrap ((T : Int) * (T : Int)) = (T : Int) * (T : Int) := by
        rw [← Int.natCast_mul, IntKind.wrap_u64]; generalize T * T = q at *; omega
      clear hsq hT
      go_wp2_with fail
      · have ht : (T : Int) * (T : Int) ≤ (n : Int) := by assumption
        rw [← Int.natCast_mul] at ht
        go_round
        case rel => exact ⟨k + 1, by omega, by rw [HN.out]; go_num, by rw [HS.out, if_pos (by omega)]⟩
        case measure => simp [intOf]; omega
      · have ht : (n : Int) < (T : Int) * (T : Int) := by assumption
        rw [← Int.natCast_mul] at ht
        go_round
        case rel => exact ⟨k + 1, by omega, by rw [HN.out]; go_num, by rw [HS.out, if_neg (by omega)]⟩
        case measure => simp [intOf]; omega
    · obtain rfl : k = 32 := by omega
      have hb : rootTo n 32 < 4294967296 := by
        obtain ⟨m, e, hb⟩ := rootTo_form n 32 (by omega)
        omega
      have hz : bitAt 32 = 0 := rfl
      rw [hz]
      have hw : IntKind.i64.wrap ((rootTo n 32 : Nat) : Int) = ((rootTo n 32 : Nat) : Int) := IntWalk.i64_in _ ⟨by omega, by omega⟩
      go_wp2_with fail
      go_ret
      exact ⟨rfl, rfl⟩
theorem refRoot_any (n : Int) (h0 : 0 ≤ n) (h2 : n ≤ 9223372036854775807) (w : World) : Calls Tryd.prog 39 #[.int .i64 n] w fun e w' => e = .returned (.int .i64 (rootOf n)) ∧ w = w' := by
  obtain ⟨n, rfl⟩ := Int.eq_ofNat_of_zero_le h0
  exact (refRoot_nat n (by omega) w).mono fun e w' ⟨he, hw⟩ => ⟨by rw [he, rootOf_nat], hw⟩
end Go.Proofs.YtfgeocpooimojaaDoor
