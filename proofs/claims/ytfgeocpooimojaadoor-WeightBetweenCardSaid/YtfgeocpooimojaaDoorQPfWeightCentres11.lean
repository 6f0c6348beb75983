/-
  The integer square root, bit by bit: what num.Root and its reference return. Conditions: as each theorem states them. Functions of package wide on magnitudes of one word: twice. Conditions: as each theorem states them. Division bit by bit, in plain numbers. Conditions: as each theorem states them.
-/
import Derived.Laws.BitsAllLaws
import Derived.Laws.BitsLemmas
import Derived.Test.YtfgeocpooimojaaDoorQPfWeightCentres10
import Derived.Test.YtfgeocpooimojaaDoorQPfWeightCentres09
namespace Go.Proofs.YtfgeocpooimojaaDoor
open Go Go.RowKit

/-- The root after k bits, from bit 31 down. -/
def rootTo (n : Nat) : Nat → Nat
  | 0 => 0
  | k + 1 => if (rootTo n k + 2 ^ (31 - k)) * (rootTo n k + 2 ^ (31 - k)) ≤ n then rootTo n k + 2 ^ (31 - k) else rootTo n k
def rootOf (n : Int) : Int := if n < 0 then 0 else (rootTo n.toNat 32 : Nat)
theorem rootTo_form (n : Nat) : ∀ k, k ≤ 32 → ∃ m, rootTo n k = 2 ^ (32 - k) * m ∧ rootTo n k + 2 ^ (32 - k) ≤ 4294967296
  | 0, _ => ⟨0, by simp [rootTo], by simp [rootTo]⟩
  | k + 1, h => by
    obtain ⟨m, e, hb⟩ := rootTo_form n k (by omega)
    have h2 : 2 ^ (32 - k) = 2 * 2 ^ (32 - (k + 1)) := by rw [← Nat.pow_succ', show (32 - (k + 1)).succ = 32 - k by omega]
    have h3 : 31 - k = 32 - (k + 1) := by omega
    unfold rootTo
    rw [h3]
    generalize 2 ^ (32 - (k + 1)) = p at *
    rw [h2] at e hb
    split
    · exact ⟨2 * m + 1, by rw [e, Nat.mul_add, ← Nat.mul_assoc, Nat.mul_comm 2 p]; omega, by omega⟩
    · exact ⟨2 * m, by rw [e, ← Nat.mul_assoc, Nat.mul_comm 2 p], by omega⟩
theorem ofInt_i64 (a : Nat) (ha : a < 9223372036854775808) : (BitVec.ofInt 64 (a : Int)).toNat = a := by
  rw [BitVec.ofInt_natCast, BitVec.toNat_ofNat]; exact Nat.mod_eq_of_lt (by omega)
theorem i64_or_nat (a b : Nat) (ha : a < 9223372036854775808) (hb : b < 9223372036854775808) : bits .or .i64 (a : Int) (b : Int) = ((a ||| b : Nat) : Int) := by
  have hx : a ||| b < 2 ^ 63 := Nat.or_lt_two_pow (by omega) (by omega)
  show IntKind.i64.wrap ((BitVec.ofInt 64 (a : Int) ||| BitVec.ofInt 64 (b : Int)).toNat : Int) = _
  rw [BitVec.toNat_or, ofInt_i64 a ha, ofInt_i64 b hb, IntKind.wrap_i64]
  omega
theorem pow31 (k : Nat) : 1 ≤ 2 ^ (31 - k) ∧ 2 ^ (31 - k) ≤ 2147483648 :=
  ⟨Nat.one_le_two_pow, Nat.pow_le_pow_right (n := 2) (by omega) (by omega : 31 - k ≤ 31)⟩
theorem root_or (n k : Nat) (h : k < 32) : bits .or .i64 ((rootTo n k : Nat) : Int) (wrap64 (2 ^ (31 - k))) = ((rootTo n k + 2 ^ (31 - k) : Nat) : Int) := by
  obtain ⟨m, e, hb⟩ := rootTo_form n k (by omega)
  have hp := pow31 k
  have h2 : 2 ^ (32 - k) = 2 * 2 ^ (31 - k) := by rw [← Nat.pow_succ', show (31 - k).succ = 32 - k by omega]
  have ew : wrap64 (2 ^ (31 - k)) = ((2 ^ (31 - k) : Nat) : Int) := by
    rw [show (2 : Int) ^ (31 - k) = ((2 ^ (31 - k) : Nat) : Int) by simp]
    exact IntWalk.wrap64_in _ ⟨by omega, by omega⟩
  rw [ew, i64_or_nat _ _ (by omega) (by omega), e, ← Nat.two_pow_add_eq_or_of_lt (by omega)]
theorem div_test (t n : Nat) (ht : 1 ≤ t) : t ≤ n / t ↔ t * t ≤ n := by rw [Nat.le_div_iff_mul_le (by omega)]
theorem quo_small (n t : Nat) (h : n ≤ 9223372036854775807) : wrap64 ((n : Int) / (t : Int)) = ((n / t : Nat) : Int) := by
  have h1 := Nat.div_le_self n t
  rw [← Int.natCast_ediv]
  generalize n / t = q at *
  exact IntWalk.wrap64_in _ ⟨by omega, by omega⟩
set_option maxHeartbeats 400000 in
theorem numRoot_nat (n : Nat) (h2 : n ≤ 9223372036854775807) (w : World) : Calls Tryd.prog 38 #[.int .i64 n] w fun e w' => e = .returned (.int .i64 ((rootTo n 32 : Nat) : Int)) ∧ w = w' := by
  have g0 : decide ((n : Int) < 0) = false := by simp
  go_enter Tryd.func38, Tryd.ntmps38
  go_wp2_with fail
  go_loop [3, 8] (fun r i => ∃ k : Nat, k ≤ 32 ∧ i = .int .i64 k ∧ r = .int .i64 (rootTo n k : Nat)) (fun _ i => 32 - (intOf i).toNat)
  case atStart => exact ⟨0, by omega, rfl, rfl⟩
  case round =>
    obtain ⟨k, hk, rfl, rfl⟩ := hrel
    by_cases hlt : k < 32
    · have ho := root_or n k hlt
      have hp := pow31 k
      have HD := Lib.hid (div_test (rootTo n k + 2 ^ (31 - k)) n (by omega))
      have HS : Hid (rootTo n (k + 1) = if (rootTo n k + 2 ^ (31 - k)) * (rootTo n k + 2 ^ (31 - k)) ≤ n then rootTo n k + 2 ^ (31 - k) else rootTo n k) := rfl
      have hf := rootTo_form n k (by omega)
      have hb : rootTo n k + 2 ^ (31 - k) ≤ 4294967296 := by
        obtain ⟨m, e, hb⟩ := hf
        have h2 : 2 ^ (32 - k) = 2 * 2 ^ (31 - k) := by rw [← Nat.pow_succ', show (31 - k).succ = 32 - k by omega]
        omega
      have hb1 : 1 ≤ rootTo n k + 2 ^ (31 - k) := by omega
      clear hf hp
      generalize rootTo n k + 2 ^ (31 - k) = T at *
      go_wp2_with fail
      · have ht : (T : Int) ≤ wrap64 (↑n / ↑T) := by assumption
        rw [quo_small n T h2] at ht
        go_round
        case rel => exact ⟨k + 1, by omega, by go_num, by rw [HS.out, if_pos (HD.out.1 (by omega))]⟩
        case measure => simp [intOf]; omega
      · have ht : wrap64 (↑n / ↑T) < (T : Int) := by assumption
        rw [quo_small n T h2] at ht
        go_round
        case rel => exact ⟨k + 1, by omega, by go_num, by rw [HS.out, if_neg (fun h => by have := HD.out.2 h; omega)]⟩
        case measure => simp [intOf]; omega
    · obtain rfl : k = 32 := by omega
      go_wp2_with fail
      go_ret
      exact ⟨rfl, rfl⟩
theorem rootOf_nat (n : Nat) : rootOf (n : Int) = ((rootTo n 32 : Nat) : Int) := by unfold rootOf; rw [if_neg (by omega)]; rfl
theorem numRoot_any (n : Int) (h0 : 0 ≤ n) (h2 : n ≤ 9223372036854775807) (w : World) : Calls Tryd.prog 38 #[.int .i64 n] w fun e w' => e = .returned (.int .i64 (rootOf n)) ∧ w = w' := by
  obtain ⟨n, rfl⟩ := Int.eq_ofNat_of_zero_le h0
  exact (numRoot_nat n (by omega) w).mono fun e w' ⟨he, hw⟩ => ⟨by rw [he, rootOf_nat], hw⟩

theorem pow31s (k : Nat) (h : k < 31) : 2 ^ (31 - k) = 2 * 2 ^ (31 - (k + 1)) := by rw [← Nat.pow_succ', show (31 - (k + 1)).succ = 31 - k by omega]
/-- The bit of round k; 0 after the last. -/
def bitAt (k : Nat) : Nat := if k < 32 then 2 ^ (31 - k) else 0
theorem bit_next (k : Nat) (h : k < 32) : bitAt (k + 1) = bitAt k / 2 := by
  unfold bitAt
  rw [if_pos h]
  by_cases h2 : k + 1 < 32
  · rw [if_pos h2, pow31s k (by omega)]; omega
  · obtain rfl : k = 31 := by omega
    rfl
set_option maxHeartbeats 400000 in
theorem refRoot_nat (n : Nat) (h2 : n ≤ 9223372036854775807) (w : World) : Calls Tryd.prog 39 #[.int .i64 n] w fun e w' => e = .returned (.int .i64 ((rootTo n 32 : Nat) : Int)) ∧ w = w' := by
  have g0 : decide ((n : Int) < 0) = false := by simp
  go_enter Tryd.func39, Tryd.ntmps39
  go_wp2_with fail
  go_loop [3, 4] (fun r i => ∃ k : Nat, k ≤ 32 ∧ i = .int .u64 (bitAt k : Nat) ∧ r = .int .u64 (rootTo n k : Nat)) (fun _ i => (intOf i).toNat)
  case atStart => exact ⟨0, by omega, rfl, rfl⟩
  case round =>
    obtain ⟨k, hk, rfl, rfl⟩ := hrel
    by_cases hlt : k < 32
    · have hp := pow31 k
      have hbit : bitAt k = 2 ^ (31 - k) := if_pos hlt
      have HS : Hid (rootTo n (k + 1) = if (rootTo n k + 2 ^ (31 - k)) * (rootTo n k + 2 ^ (31 - k)) ≤ n then rootTo n k + 2 ^ (31 - k) else rootTo n k) := rfl
      have hlo : rootTo n k + 2 ^ (31 - k) < 4294967296 := by
        obtain ⟨m, e, hb⟩ := rootTo_form n k (by omega)
        have h2 : 2 ^ (32 - k) = 2 * 2 ^ (31 - k) := by rw [← Nat.pow_succ', show (31 - k).succ = 32 - k by omega]
        omega
      have HN := Lib.hid (bit_next k hlt)
      rw [← hbit] at hp HS hlo
      generalize bitAt k = b at *
      clear hbit
      generalize hT : rootTo n k + b = T at *
      have hs : IntKind.u64.wrap ((rootTo n k : Int) + (b : Int)) = (T : Int) := by rw [IntKind.wrap_u64]; omega
      have hsq : T * T < 18446744073709551616 := Nat.mul_lt_mul'' hlo hlo
      have hs2 : IntKind.u64.wrap ((T : Int) * (T : Int)) = (T : Int) * (T : Int) := by
        rw [← Int.natCast_mul, IntKind.wrap_u64]; generalize T * T = q at *; omega
      clear hsq hT
      go_wp2_with fail
      · have ht : (T : Int) * (T : Int) ≤ (n : Int) := by assumption
        rw [← Int.natCast_mul] at ht
        go_round
        case rel => exact ⟨k + 1, by omega, by rw [HN.out]; go_num, by rw [HS.out, if_pos (by omega)]⟩
        case measure => simp [intOf]; omega
      · have ht : (n : Int) < (T : Int) * (T : Int) := by assumption
        rw [← Int.natCast_mul] at ht
        go_round
        case rel => exact ⟨k + 1, by omega, by rw [HN.out]; go_num, by rw [HS.out, if_neg (by omega)]⟩
        case measure => simp [intOf]; omega
    · obtain rfl : k = 32 := by omega
      have hb : rootTo n 32 < 4294967296 := by
        obtain ⟨m, e, hb⟩ := rootTo_form n 32 (by omega)
        omega
      have hz : bitAt 32 = 0 := rfl
      rw [hz]
      have hw : IntKind.i64.wrap ((rootTo n 32 : Nat) : Int) = ((rootTo n 32 : Nat) : Int) := IntWalk.i64_in _ ⟨by omega, by omega⟩
      go_wp2_with fail
      go_ret
      exact ⟨rfl, rfl⟩
theorem refRoot_any (n : Int) (h0 : 0 ≤ n) (h2 : n ≤ 9223372036854775807) (w : World) : Calls Tryd.prog 39 #[.int .i64 n] w fun e w' => e = .returned (.int .i64 (rootOf n)) ∧ w = w' := by
  obtain ⟨n, rfl⟩ := Int.eq_ofNat_of_zero_le h0
  exact (refRoot_nat n (by omega) w).mono fun e w' ⟨he, hw⟩ => ⟨by rw [he, rootOf_nat], hw⟩
end Go.Proofs.YtfgeocpooimojaaDoor
namespace Go.Proofs.YtfgeocpooimojaaDoor
open Go Go.RowKit

theorem ofInt_u64 (a : Nat) (ha : a < 18446744073709551616) : (BitVec.ofInt 64 (a : Int)).toNat = a := by
  rw [BitVec.ofInt_natCast, BitVec.toNat_ofNat]; exact Nat.mod_eq_of_lt (by omega)
theorem u64_or_nat (a b : Nat) (ha : a < 18446744073709551616) (hb : b < 18446744073709551616) : bits .or .u64 (a : Int) (b : Int) = ((a ||| b : Nat) : Int) := by
  have hx : a ||| b < 2 ^ 64 := Nat.or_lt_two_pow (by omega) (by omega)
  show IntKind.u64.wrap ((BitVec.ofInt 64 (a : Int) ||| BitVec.ofInt 64 (b : Int)).toNat : Int) = _
  rw [BitVec.toNat_or, ofInt_u64 a ha, ofInt_u64 b hb, IntKind.wrap_u64]
  omega
theorem or_even (x b : Nat) (hb : b ≤ 1) : 2 * x ||| b = 2 * x + b := by
  have := Nat.two_pow_add_eq_or_of_lt (i := 1) (b := b) (by omega) x
  simpa using this.symm
set_option maxHeartbeats 2000000 in
theorem wideTwice_at (x b : Nat) (hx : x < 9223372036854775808) (hb : b ≤ 1) (w : World) : Calls Tryd.prog 75 #[.agg (magS x), .int .u64 (b : Nat)] w fun e w' => e = .returned (.tuple #[.agg (magS (2 * x + b)), .int .u64 0]) ∧ Below w.heap.size w w' := by
  have i0 : ∀ w, (Instr.index 33 (.agg (magS x)) (.int .i64 0)).run Tryd.prog w = .ok (.int .u64 (x : Nat)) w := fun _ => by kernel_rfl
  have i1 : ∀ w, (Instr.index 33 (.agg (magS x)) (.int .i64 1)).run Tryd.prog w = .ok (.int .u64 0) w := fun _ => by kernel_rfl
  have i2 : ∀ w, (Instr.index 33 (.agg (magS x)) (.int .i64 2)).run Tryd.prog w = .ok (.int .u64 0) w := fun _ => by kernel_rfl
  have i3 : ∀ w, (Instr.index 33 (.agg (magS x)) (.int .i64 3)).run Tryd.prog w = .ok (.int .u64 0) w := fun _ => by kernel_rfl
  have o1 : bits .or .u64 ((x : Int) * 2) (b : Int) = ((2 * x + b : Nat) : Int) := by
    rw [show (x : Int) * 2 = ((2 * x : Nat) : Int) by omega, u64_or_nat _ _ (by omega) (by omega), or_even x b hb]
  have o2 : (x : Int) / 9223372036854775808 = 0 := by omega
  have o3 : bits .or .u64 0 0 = 0 := by decide
  generalize hy : 2 * x + b = y at *
  clear hy
  have HB := Lib.hid (blk_start2 w 33 33 (magS y) (magS y))
  go_enter Tryd.func75, Tryd.ntmps75
  go_wp2_with fail
  go_rounds 5
  refine bodyPost_ret (results_cell_tmp rfl _ _ (w.heap.size + 1) 33 (magS y) _ rfl HB.out.2.1 Tryd.underlying33 rfl (by kernel_rfl)) rfl ⟨rfl, HB.out.2.2⟩
end Go.Proofs.YtfgeocpooimojaaDoor
namespace Go.Proofs.YtfgeocpooimojaaDoor
open Go Go.RowKit

def bitN (x m : Nat) : Nat := x / 2 ^ m % 2
theorem bitN_le (x m : Nat) : bitN x m ≤ 1 := by unfold bitN; omega
theorem half_step (x m : Nat) : x / 2 ^ m = 2 * (x / 2 ^ (m + 1)) + bitN x m := by
  unfold bitN
  rw [Nat.pow_succ, ← Nat.div_div_eq_div_mul]; omega
/-- The rest and the quotient so far, with k bits to come. -/
def restN (x y k : Nat) : Nat := x / 2 ^ k % y
def quoN (x y k : Nat) : Nat := x / 2 ^ k / y * 2 ^ k
theorem div_less (x y m : Nat) (hy : 0 < y) (h : 2 * restN x y (m + 1) + bitN x m < y) : restN x y m = 2 * restN x y (m + 1) + bitN x m ∧ quoN x y m = quoN x y (m + 1) := by
  unfold restN quoN at *
  have e := half_step x m
  have d := Nat.div_add_mod (x / 2 ^ (m + 1)) y
  have e2 : x / 2 ^ m = (2 * (x / 2 ^ (m + 1) % y) + bitN x m) + y * (2 * (x / 2 ^ (m + 1) / y)) := by
    rw [e, Nat.mul_left_comm]; omega
  rw [e2, Nat.add_mul_mod_self_left, Nat.mod_eq_of_lt h, Nat.add_mul_div_left _ _ hy, Nat.div_eq_of_lt h, Nat.pow_succ]
  refine ⟨rfl, ?_⟩
  rw [Nat.zero_add, Nat.mul_comm 2, Nat.mul_assoc, Nat.mul_comm 2]
theorem div_more (x y m : Nat) (hy : 0 < y) (h : y ≤ 2 * restN x y (m + 1) + bitN x m) : restN x y m = 2 * restN x y (m + 1) + bitN x m - y ∧ quoN x y m = quoN x y (m + 1) + 2 ^ m := by
  unfold restN quoN at *
  have e := half_step x m
  have d := Nat.div_add_mod (x / 2 ^ (m + 1)) y
  have l := Nat.mod_lt (x / 2 ^ (m + 1)) hy
  have b := bitN_le x m
  have h2 : 2 * (x / 2 ^ (m + 1) % y) + bitN x m - y < y := by omega
  have e2 : x / 2 ^ m = (2 * (x / 2 ^ (m + 1) % y) + bitN x m - y) + y * (2 * (x / 2 ^ (m + 1) / y) + 1) := by
    rw [e, Nat.mul_add, Nat.mul_left_comm]; omega
  rw [e2, Nat.add_mul_mod_self_left, Nat.mod_eq_of_lt h2, Nat.add_mul_div_left _ _ hy, Nat.div_eq_of_lt h2, Nat.pow_succ]
  refine ⟨rfl, ?_⟩
  rw [Nat.zero_add, Nat.add_mul, Nat.one_mul, Nat.mul_comm 2, Nat.mul_assoc, Nat.mul_comm 2]
theorem quo_or (x y m : Nat) : quoN x y (m + 1) ||| 2 ^ m = quoN x y (m + 1) + 2 ^ m := by
  unfold quoN
  rw [Nat.mul_comm]
  exact (Nat.two_pow_add_eq_or_of_lt (Nat.pow_lt_pow_right (by decide) (by omega)) _).symm
theorem quo_le (x y k : Nat) : quoN x y k ≤ x := by
  unfold quoN
  exact Nat.le_trans (Nat.mul_le_mul_right _ (Nat.div_le_self _ _)) (Nat.div_mul_le_self _ _)
theorem rest_lt (x y k : Nat) (hy : 0 < y) : restN x y k < y := Nat.mod_lt _ hy
theorem rest_high (x y k : Nat) (h : x < 2 ^ k) : restN x y k = 0 ∧ bitN x k = 0 ∧ quoN x y k = 0 := by
  unfold restN bitN quoN
  rw [Nat.div_eq_of_lt h]
  simp
theorem word_bit (x d e : Nat) (he : e < 64) : wd x d / 2 ^ e % 2 = bitN x (64 * d + e) := by
  unfold wd bitN
  rw [Nat.pow_add, Nat.pow_mul, ← Nat.div_div_eq_div_mul]
  show x / (2 ^ 64) ^ d % 2 ^ 64 / 2 ^ e % 2 = _
  generalize x / (2 ^ 64) ^ d = z
  obtain ⟨f, hf⟩ : ∃ f, 64 = e + 1 + f := ⟨63 - e, by omega⟩
  rw [show (2 : Nat) ^ 64 = 2 ^ e * (2 * 2 ^ f) by rw [← Nat.pow_succ', ← Nat.pow_add]; congr 1; omega, Nat.mod_mul_right_div_self, Nat.mod_mul_right_mod]
theorem wd_top (N j : Nat) (hj : j < 4) : wd (N + top256) j = wd N j := by
  unfold wd top256
  obtain ⟨f, hf⟩ : ∃ f, 4 = j + (f + 1) := ⟨3 - j, by omega⟩
  rw [hf, Nat.pow_add, Nat.add_mul_div_left _ _ (Nat.pow_pos (by decide)), Nat.pow_succ, Nat.add_mul_mod_self_right]
theorem magC_top (N : Nat) : magC (N + top256) = magC N := by
  unfold magC
  rw [wd_top N 0 (by omega), wd_top N 1 (by omega), wd_top N 2 (by omega), wd_top N 3 (by omega)]
end Go.Proofs.YtfgeocpooimojaaDoor
