/-
  math/bits.TrailingZeros64, and odd of package wide on magnitudes of one word. Conditions: as each theorem states them. The greatest common divisor by odd parts, in plain numbers. Conditions: as each theorem states them.
-/
import Derived.Shelf.Spec.TrailingZeros
import Derived.RegionTactic
import Derived.ChangeAlike
import Derived.Test.YtfgeocpooimojaaDoorQPfWeightCentres11
namespace Go.Proofs.YtfgeocpooimojaaDoor
open Go Go.RowKit

abbrev tabG : Nat := 0
/-- The library's table lies in its variable. -/
def Tab (w : World) : Prop := TabAt tabG Lib.deBruijn64tab w ∧ tabG < w.heap.size
theorem Tab.below {w w' : World} {B : Nat} (h : Tab w) (hb : Below B w w') (hB : tabG < B) : Tab w' :=
  ⟨fun j hj => (hb.cell (p := ⟨tabG, j, none⟩) hB).trans (h.1 j hj), Nat.lt_of_lt_of_le h.2 hb.size⟩
theorem Tab.later {w w' : World} (h : Tab w) (hb : Below w.heap.size w w') : Tab w' := h.below hb h.2
def tz (x : Nat) : Nat := Lib.ctz 64 x
set_option maxHeartbeats 1000000 in
theorem tz64_core (x k idx : Nat) (w : World) (hx0 : ((x : Int) == 0) = false)
    (key : IntKind.u64.wrap (bits BinOp.and IntKind.u64 (x : Int) (IntKind.u64.wrap (-(x : Int))) * 285870213051353865) / 288230376151711744 = (idx : Int))
    (hi : idx < 64) (hk : k < 64) (hcell : w.cell? ⟨tabG, idx, none⟩ = some (.int .u8 k)) :
    Calls Tryd.prog 90 #[.int .u64 (x : Nat)] w fun e w' => e = .returned (.int .i64 k) ∧ w = w' := by
  go_enter Tryd.func90, Tryd.ntmps90
  go_wp2_with (simp only [key])
  go_ret
  exact ⟨rfl, rfl⟩
theorem tz64_at (x : Nat) (hx : x < 18446744073709551616) (h0 : x ≠ 0) (w : World) (hT : Tab w) : Calls Tryd.prog 90 #[.int .u64 (x : Nat)] w fun e w' => e = .returned (.int .i64 (tz x : Nat)) ∧ w = w' := by
  obtain ⟨hlow, hk⟩ := Lib.lowest_bit 64 x h0 hx
  obtain ⟨hi, htab⟩ := Lib.deBruijn64_at _ hk
  have hcell := hT.1 _ hi
  rw [htab] at hcell
  exact tz64_core x (tz x) _ w (by simp; omega) (tz64_key x _ hx h0 hlow) hi hk hcell
set_option maxHeartbeats 1000000 in
theorem wideOdd_at (x : Nat) (hx : x < 18446744073709551616) (h0 : x ≠ 0) (w : World) (hT : Tab w) : Calls Tryd.prog 73 #[.agg (magS x)] w fun e w' => e = .returned (.tuple #[.agg (magS (x / 2 ^ tz x)), .int .i64 (tz x : Nat)]) ∧ Below w.heap.size w w' := by
  have hx0 : ((x : Int) == 0) = false := by simp; omega
  have C : Hid (∀ W, Tab W → Calls Tryd.prog 90 #[.int .u64 (x : Nat)] W fun e w' => e = .returned (.int .i64 (tz x : Nat)) ∧ W = w') := fun W h => tz64_at x hx h0 W h
  have HT := Lib.hid hT
  clear hT
  have hk : tz x < 64 := (Lib.lowest_bit 64 x h0 hx).2
  generalize tz x = k at *
  have e1 : (x : Int) / 2 ^ k = ((x / 2 ^ k : Nat) : Int) := by simp
  have hy : x / 2 ^ k < 18446744073709551616 := Nat.lt_of_le_of_lt (Nat.div_le_self _ _) hx
  have o1 : bits .or .u64 ((x / 2 ^ k : Nat) : Int) 0 = ((x / 2 ^ k : Nat) : Int) := by
    have := u64_or_nat (x / 2 ^ k) 0 hy (by omega)
    simpa using this
  have o3 : bits .or .u64 0 0 = 0 := by decide
  generalize x / 2 ^ k = y at *
  have k0 : (0 : Int) ≤ (k : Int) := by omega
  have k1 : (k : Int) < 64 := by omega
  have q1 : IntKind.i64.wrap (64 - (k : Int)) = 64 - (k : Int) := IntWalk.i64_in _ ⟨by omega, by omega⟩
  clear hy h0 hx
  have HB := Lib.hid (blk_start2 w 33 33 (magS y) (magS y))
  go_enter Tryd.func73, Tryd.ntmps73
  go_wp2_with fail
  refine wp_loop_rounds 1 ?_
  rw [rounds_succ]
  go_wp2_with fail
  refine (C.out _ (HT.out.later (by go_grown))).mono ?_
  rintro e w1 ⟨rfl, rfl⟩
  go_wp2_with fail
  refine wp_loop_rounds 5 ?_
  rw [rounds_succ]
  go_wp2_with fail
  go_region
  go_wp2_with fail
  rw [rounds_succ]
  go_wp2_with fail
  go_region
  go_wp2_with fail
  rw [rounds_succ]
  go_wp2_with fail
  go_region
  go_wp2_with fail
  rw [rounds_succ]
  go_wp2_with fail
  rw [rounds_succ]
  go_wp2_with fail
  refine bodyPost_ret (results_cell_tmp rfl _ _ (w.heap.size + 1) 33 (magS y) _ rfl HB.out.2.1 Tryd.underlying33 rfl (by kernel_rfl)) rfl ⟨rfl, ((HB.out.2.2.drew).drew).drew⟩
end Go.Proofs.YtfgeocpooimojaaDoor
namespace Go.Proofs.YtfgeocpooimojaaDoor
open Go Go.RowKit

/-- A number without its factors 2. -/
def oddp (x : Nat) : Nat := x / 2 ^ tz x
theorem oddp_spec (x : Nat) (h0 : x ≠ 0) (hx : x < 18446744073709551616) : x = 2 ^ tz x * oddp x ∧ oddp x % 2 = 1 := by
  have e : (2 : Nat) ^ 64 = 18446744073709551616 := by decide
  obtain ⟨m, hm, _⟩ := Lib.ctzFrom_spec 64 x (by omega) (by rw [e]; exact hx)
  have hc : tz x = Lib.ctzFrom 64 x := by unfold tz Lib.ctz; rw [if_neg h0]
  rw [← hc] at hm
  have ho : oddp x = 2 * m + 1 := by
    unfold oddp
    generalize tz x = k at *
    rw [hm, Nat.mul_div_cancel_left _ (Nat.pow_pos (by decide))]
  exact ⟨by rw [ho]; exact hm, by rw [ho]; omega⟩
theorem gcd_pow_odd (k a b : Nat) (hb : b % 2 = 1) : Nat.gcd (2 ^ k * a) b = Nat.gcd a b := by
  have hc : Nat.Coprime (2 ^ k) b := Nat.Coprime.pow_left k (by
    unfold Nat.Coprime
    have h := Nat.gcd_dvd_left 2 b
    have h2 := Nat.gcd_dvd_right 2 b
    have hle := Nat.le_of_dvd (by decide) h
    have hpos : 0 < Nat.gcd 2 b := Nat.gcd_pos_of_pos_left _ (by decide)
    rcases (show Nat.gcd 2 b = 1 ∨ Nat.gcd 2 b = 2 by omega) with e | e
    · exact e
    · rw [e] at h2; omega)
  exact Nat.Coprime.gcd_mul_left_cancel a hc
theorem gcd_step (a b : Nat) (hb : b % 2 = 1) (hlt : b < a) (ha : a < 18446744073709551616) : Nat.gcd (oddp (a - b)) b = Nat.gcd a b := by
  have s := oddp_spec (a - b) (by omega) (by omega)
  have h1 : Nat.gcd (a - b) b = Nat.gcd (oddp (a - b)) b := by
    conv => lhs; rw [s.1]
    exact gcd_pow_odd _ _ _ hb
  rw [← h1]
  have : Nat.gcd (a - b + b) b = Nat.gcd (a - b) b := Nat.gcd_add_self_left ..
  rw [← this, Nat.sub_add_cancel (by omega)]
theorem oddp_le (x : Nat) : oddp x ≤ x := Nat.div_le_self _ _
theorem gcd_all (x y : Nat) (hx0 : x ≠ 0) (hy0 : y ≠ 0) (hx : x < 18446744073709551616) (hy : y < 18446744073709551616) : Nat.gcd (oddp x) (oddp y) * 2 ^ min (tz x) (tz y) = Nat.gcd x y := by
  have sx := oddp_spec x hx0 hx
  have sy := oddp_spec y hy0 hy
  rcases Nat.le_total (tz x) (tz y) with h | h
  · obtain ⟨d, hd⟩ : ∃ d, tz y = tz x + d := ⟨tz y - tz x, by omega⟩
    rw [Nat.min_eq_left h]
    conv => rhs; rw [sx.1, sy.1, hd, Nat.pow_add, Nat.mul_assoc, Nat.gcd_mul_left, Nat.gcd_comm, gcd_pow_odd _ _ _ sx.2, Nat.gcd_comm]
    rw [Nat.mul_comm]
  · obtain ⟨d, hd⟩ : ∃ d, tz x = tz y + d := ⟨tz x - tz y, by omega⟩
    rw [Nat.min_eq_right h]
    conv => rhs; rw [sx.1, sy.1, hd, Nat.pow_add, Nat.mul_assoc, Nat.gcd_mul_left, gcd_pow_odd _ _ _ sy.2]
    rw [Nat.mul_comm]
end Go.Proofs.YtfgeocpooimojaaDoor
