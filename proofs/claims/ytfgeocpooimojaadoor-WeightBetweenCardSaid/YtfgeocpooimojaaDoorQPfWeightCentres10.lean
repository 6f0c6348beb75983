/-
  What mag, divided, Floor, Round and Root of package num, and Floor, Round and Root of its reference, return: contracts for a positive divisor. Conditions: as each theorem states them.
-/
import Derived.Test.YtfgeocpooimojaaDoorQPfWeightCentres01
namespace Go.Proofs.YtfgeocpooimojaaDoor
open Go Go.RowKit

theorem mag_any (n : Int) (h1 : -9223372036854775808 ≤ n) (h2 : n ≤ 9223372036854775807) (w : World) : Calls Tryd.prog 63 #[.int .i64 n] w fun e w' => e = .returned (.int .u64 n.natAbs) ∧ w = w' := by
  by_cases h : n < 0
  · have e1 : IntKind.u64.wrap n = n + 18446744073709551616 := by simp only [IntKind.wrap_u64]; omega
    have e2 : IntKind.u64.wrap (-(n + 18446744073709551616)) = n.natAbs := by simp only [IntKind.wrap_u64]; omega
    have E2 := Lib.hid e2; clear e2
    generalize n + 18446744073709551616 = m at *
    go_enter Tryd.func63, Tryd.ntmps63
    go_wp2_with fail
    go_ret
    exact ⟨ret_int E2.out, rfl⟩
  · have e1 : IntKind.u64.wrap n = n := by simp only [IntKind.wrap_u64]; omega
    have E2 : Hid (n = n.natAbs) := Lib.hid (by omega)
    go_enter Tryd.func63, Tryd.ntmps63
    go_wp2_with fail
    go_ret
    exact ⟨ret_int E2.out, rfl⟩

theorem tdiv_bd (a b : Int) (ha1 : -9223372036854775808 ≤ a) (ha2 : a ≤ 9223372036854775807) (hb : 1 ≤ b) : -9223372036854775808 ≤ a.tdiv b ∧ a.tdiv b ≤ 9223372036854775807 := by
  rcases Int.le_total 0 a with h | h
  · rw [Int.tdiv_eq_ediv_of_nonneg h]
    exact ⟨by have := Int.ediv_nonneg h (by omega : 0 ≤ b); omega, Int.le_trans (Int.ediv_le_self _ h) ha2⟩
  · have e : a.tdiv b = -((-a) / b) := by rw [← Int.tdiv_eq_ediv_of_nonneg (by omega), Int.neg_tdiv, Int.neg_neg]
    rw [e]
    have h1 := Int.ediv_nonneg (by omega : 0 ≤ -a) (by omega : 0 ≤ b)
    have h2 := Int.ediv_le_self b (by omega : 0 ≤ -a)
    omega
theorem tmod_bd (a b : Int) (hb : 1 ≤ b) (hb2 : b ≤ 9223372036854775807) : -9223372036854775808 ≤ a.tmod b ∧ a.tmod b ≤ 9223372036854775807 := by
  have h1 := Int.lt_tmod_of_pos a (by omega : 0 < b)
  have h2 := Int.tmod_lt_of_pos a (by omega : 0 < b)
  omega
theorem divided_any (a b : Int) (ha1 : -9223372036854775808 ≤ a) (ha2 : a ≤ 9223372036854775807) (hb : 1 ≤ b) (hb2 : b ≤ 9223372036854775807) (w : World) :
    Calls Tryd.prog 87 #[.int .i64 a, .int .i64 b] w fun e w' => e = .returned (.tuple #[.int .i64 (a.tdiv b), .int .i64 (a.tmod b), .int .i64 0]) ∧ ∃ n, w' = w.drewN n := by
  have g1 : (b == 0) = false := by rw [beq_eq_false_iff_ne]; omega
  have g2 : (b == -1) = false := by rw [beq_eq_false_iff_ne]; omega
  have q1 : IntKind.i64.wrap (a.tdiv b) = a.tdiv b := IntWalk.i64_in _ (tdiv_bd a b ha1 ha2 hb)
  have q2 : IntKind.i64.wrap (a.tmod b) = a.tmod b := IntWalk.i64_in _ (tmod_bd a b hb hb2)
  by_cases h : a = -9223372036854775808
  · have g3 : (a == -9223372036854775808) = true := by rw [beq_iff_eq]; exact h
    clear h
    go_enter Tryd.func87, Tryd.ntmps87
    go_wp2_with fail
    go_quiet (fail)
    go_wp2_with fail
    go_ret3
    exact ⟨rfl, _, rfl⟩
  · have g3 : (a == -9223372036854775808) = false := by rw [beq_eq_false_iff_ne]; exact h
    clear h
    go_enter Tryd.func87, Tryd.ntmps87
    go_wp2_with fail
    go_quiet (fail)
    go_wp2_with fail
    go_ret3
    exact ⟨rfl, _, rfl⟩

/-- Floor and its remainder, from the truncated quotient. -/
theorem floor_of (a b : Int) (hb : 1 ≤ b) : (a.tmod b = 0 → a / b = a.tdiv b) ∧ (0 < a.tmod b → a / b = a.tdiv b) ∧ (a.tmod b < 0 → a / b = a.tdiv b - 1) := by
  have h1 := Int.tmod_add_mul_tdiv a b
  have h2 := Int.emod_add_mul_ediv a b
  have h3 := Int.lt_tmod_of_pos a (by omega : 0 < b)
  have h4 := Int.tmod_lt_of_pos a (by omega : 0 < b)
  have h5 := Int.emod_nonneg a (by omega : b ≠ 0)
  have h6 := Int.emod_lt_of_pos a (by omega : 0 < b)
  generalize a.tmod b = r at *
  generalize a.tdiv b = q at *
  generalize a % b = r' at *
  generalize a / b = q' at *
  have key : b * (q - q') = r' - r := by rw [Int.mul_sub]; omega
  refine ⟨fun h => ?_, fun h => ?_, fun h => ?_⟩
  · by_cases hc : q' < q
    · have : b * 1 ≤ b * (q - q') := Int.mul_le_mul_of_nonneg_left (by omega) (by omega)
      omega
    · by_cases hd : q < q'
      · have : b * (q - q') ≤ b * (-1) := Int.mul_le_mul_of_nonneg_left (by omega) (by omega)
        omega
      · omega
  · by_cases hc : q' < q
    · have : b * 1 ≤ b * (q - q') := Int.mul_le_mul_of_nonneg_left (by omega) (by omega)
      omega
    · by_cases hd : q < q'
      · have : b * (q - q') ≤ b * (-1) := Int.mul_le_mul_of_nonneg_left (by omega) (by omega)
        omega
      · omega
  · by_cases hc : q' < q - 1
    · have : b * 2 ≤ b * (q - q') := Int.mul_le_mul_of_nonneg_left (by omega) (by omega)
      omega
    · by_cases hd : q ≤ q'
      · have : b * (q - q') ≤ b * 0 := Int.mul_le_mul_of_nonneg_left (by omega) (by omega)
        omega
      · omega
theorem ediv_bd (a b : Int) (ha1 : -9223372036854775808 ≤ a) (ha2 : a ≤ 9223372036854775807) (hb : 1 ≤ b) : -9223372036854775808 ≤ a / b ∧ a / b ≤ 9223372036854775807 := by
  rcases Int.le_total 0 a with h | h
  · exact ⟨by have := Int.ediv_nonneg h (by omega : 0 ≤ b); omega, Int.le_trans (Int.ediv_le_self _ h) ha2⟩
  · refine ⟨?_, by have := Int.ediv_le_ediv (by omega : 0 < b) h; simp at this; omega⟩
    apply Int.le_ediv_of_mul_le (by omega)
    omega

theorem numFloor_any (a b : Int) (ha1 : -9223372036854775808 ≤ a) (ha2 : a ≤ 9223372036854775807) (hb : 1 ≤ b) (hb2 : b ≤ 9223372036854775807) (w : World) :
    Calls Tryd.prog 62 #[.int .i64 a, .int .i64 b] w fun e w' => e = .returned (.tuple #[.int .i64 (a / b), .int .i64 0]) ∧ ∃ n, w' = w.drewN n := by
  have HF := Lib.hid (floor_of a b hb)
  have hq := ediv_bd a b ha1 ha2 hb
  have HD := Lib.hid (divided_any a b ha1 ha2 hb hb2 w)
  generalize a.tdiv b = q at *
  generalize a.tmod b = r at *
  have hbn : decide (b < 0) = false := by simp; omega
  rcases Int.lt_trichotomy r 0 with h | h | h
  · have e := HF.out.2.2 h
    have E := Lib.hid e
    have g1 : (r != 0) = true := by rw [bne_iff_ne]; omega
    have g2 : -9223372036854775807 ≤ q := by omega
    have g3 : q ≤ 9223372036854775807 + 1 := by omega
    have g4 : decide (r < 0) = true := by simpa using h
    clear e hq
    go_enter Tryd.func62, Tryd.ntmps62
    go_wp2_with (go_at_call 87; refine (HD.out).mono ?_; rintro e w' ⟨rfl, n, rfl⟩)
    go_ret2
    exact ⟨by rw [E.out]; rfl, _, rfl⟩
  · have E := Lib.hid (HF.out.1 h)
    have g1 : (r != 0) = false := by rw [h]; rfl
    clear h
    go_enter Tryd.func62, Tryd.ntmps62
    go_wp2_with (go_at_call 87; refine (HD.out).mono ?_; rintro e w' ⟨rfl, n, rfl⟩)
    go_ret2
    exact ⟨by rw [E.out]; rfl, _, rfl⟩
  · have E := Lib.hid (HF.out.2.1 h)
    have g1 : (r != 0) = true := by rw [bne_iff_ne]; omega
    have g4 : decide (r < 0) = false := by simp; omega
    go_enter Tryd.func62, Tryd.ntmps62
    go_wp2_with (go_at_call 87; refine (HD.out).mono ?_; rintro e w' ⟨rfl, n, rfl⟩)
    go_ret2
    exact ⟨by rw [E.out]; rfl, _, rfl⟩

theorem mag_pos (n : Int) (h1 : 0 ≤ n) (h2 : n ≤ 9223372036854775807) (w : World) : Calls Tryd.prog 63 #[.int .i64 n] w fun e w' => e = .returned (.int .u64 n) ∧ w = w' :=
  (mag_any n (by omega) h2 w).mono fun e w' ⟨he, hw⟩ => ⟨by rw [he]; exact ret_int (by omega), hw⟩

/-- The quotient, rounded to the nearest integer, halves up. -/
def rnd (a b : Int) : Int := (2 * a + b) / (2 * b)
theorem rnd_of (a b : Int) (hb : 1 ≤ b) : (a % b < b - a % b → rnd a b = a / b) ∧ (b - a % b ≤ a % b → rnd a b = a / b + 1) := by
  have h2 := Int.emod_add_mul_ediv a b
  have h5 := Int.emod_nonneg a (by omega : b ≠ 0)
  have h6 := Int.emod_lt_of_pos a (by omega : 0 < b)
  unfold rnd
  generalize a % b = r at *
  generalize a / b = q at *
  have e : 2 * a + b = (2 * r + b) + 2 * b * q := by rw [Int.mul_assoc]; omega
  rw [e, Int.add_mul_ediv_left _ _ (by omega)]
  refine ⟨fun h => ?_, fun h => ?_⟩
  · rw [Int.ediv_eq_zero_of_lt (by omega) (by omega)]; omega
  · have : (2 * r + b) / (2 * b) = 1 := by
      have e2 : 2 * r + b = (2 * r - b) + 2 * b * 1 := by omega
      rw [e2, Int.add_mul_ediv_left _ _ (by omega), Int.ediv_eq_zero_of_lt (by omega) (by omega)]; omega
    omega

theorem numRound_any (a b : Int) (ha1 : -4611686018427387904 ≤ a) (ha2 : a ≤ 4611686018427387904) (hb : 1 ≤ b) (hb2 : b ≤ 4611686018427387904) (w : World) :
    Calls Tryd.prog 36 #[.int .i64 a, .int .i64 b] w fun e w' => e = .returned (.tuple #[.int .i64 (rnd a b), .int .i64 0]) ∧ ∃ n, w' = w.drewN n := by
  have HR := Lib.hid (rnd_of a b hb)
  have h2 := Int.emod_add_mul_ediv a b
  have h5 := Int.emod_nonneg a (by omega : b ≠ 0)
  have h6 := Int.emod_lt_of_pos a (by omega : 0 < b)
  have hq := ediv_bd a b (by omega) (by omega) hb
  have hq2 : a / b ≤ 4611686018427387904 := by
    rcases Int.le_total 0 a with h | h
    · exact Int.le_trans (Int.ediv_le_self _ h) ha2
    · have := Int.ediv_le_ediv (by omega : 0 < b) h; simp at this; omega
  obtain ⟨hq1, _⟩ := hq
  have HD := Lib.hid (numFloor_any a b (by omega) (by omega) hb (by omega) w)
  generalize a % b = r at *
  generalize a / b = q at *
  rw [Int.mul_comm] at h2
  generalize hm : q * b = m at *
  have e1 : a - m = r := by omega
  have m1 : m = a - r := by omega
  have m2 : -9223372036854775808 ≤ m := by omega
  have m3 : m ≤ 9223372036854775807 := by omega
  clear h2 m1
  by_cases h : r < b - r
  · have E := Lib.hid (HR.out.1 h)
    go_enter Tryd.func36, Tryd.ntmps36
    go_wp2_with (first | (go_at_call 62; refine (HD.out).mono ?_; rintro e w' ⟨rfl, n, rfl⟩) | (go_at_call 63; refine (mag_pos _ (by omega) (by omega) _).mono ?_; rintro e w' ⟨rfl, rfl⟩))
    go_ret2
    exact ⟨by rw [E.out]; rfl, _, rfl⟩
  · have E := Lib.hid (HR.out.2 (by omega))
    go_enter Tryd.func36, Tryd.ntmps36
    go_wp2_with (first | (go_at_call 62; refine (HD.out).mono ?_; rintro e w' ⟨rfl, n, rfl⟩) | (go_at_call 63; refine (mag_pos _ (by omega) (by omega) _).mono ?_; rintro e w' ⟨rfl, rfl⟩))
    go_ret2
    exact ⟨by rw [E.out]; rfl, _, rfl⟩

theorem sign_tmod (a b : Int) : (a.tmod b < 0 → a < 0) ∧ (0 < a.tmod b → 0 ≤ a) := by
  refine ⟨fun h => ?_, fun h => ?_⟩
  · rcases Int.le_total 0 a with h1 | h1
    · have := Int.tmod_nonneg b h1; omega
    · rcases Int.lt_or_eq_of_le h1 with h2 | h2
      · exact h2
      · subst h2; simp at h
  · rcases Int.le_total 0 a with h1 | h1
    · exact h1
    · have := Int.tmod_nonneg b (by omega : 0 ≤ -a)
      rw [Int.neg_tmod] at this; omega
theorem refFloor_any (a b : Int) (ha1 : -9223372036854775808 ≤ a) (ha2 : a ≤ 9223372036854775807) (hb : 1 ≤ b) (hb2 : b ≤ 9223372036854775807) (w : World) :
    Calls Tryd.prog 64 #[.int .i64 a, .int .i64 b] w fun e w' => e = .returned (.tuple #[.int .i64 (a / b), .int .i64 0]) ∧ w = w' := by
  have g1 : (b == 0) = false := by rw [beq_eq_false_iff_ne]; omega
  have g2 : (b == -1) = false := by rw [beq_eq_false_iff_ne]; omega
  have g3 : decide (b < 0) = false := by simp; omega
  have q1 : IntKind.i64.wrap (a.tdiv b) = a.tdiv b := IntWalk.i64_in _ (tdiv_bd a b ha1 ha2 hb)
  have q2 : IntKind.i64.wrap (a.tmod b) = a.tmod b := IntWalk.i64_in _ (tmod_bd a b hb hb2)
  have HF := Lib.hid (floor_of a b hb)
  have HS := Lib.hid (sign_tmod a b)
  obtain ⟨hq1, hq2⟩ := ediv_bd a b ha1 ha2 hb
  rcases Int.lt_trichotomy (a.tmod b) 0 with h | h | h
  · have e := HF.out.2.2 h
    have E := Lib.hid e
    have g5 := HS.out.1 h
    have g6 : (a.tmod b != 0) = true := by rw [bne_iff_ne]; omega
    have g7 : decide (a < 0) = true := by simpa using g5
    have g8 : -9223372036854775807 ≤ a.tdiv b := by omega
    have g9 : a.tdiv b ≤ 9223372036854775807 + 1 := by omega
    clear e h
    cases g10 : (a == -9223372036854775808)
    all_goals
      go_enter Tryd.func64, Tryd.ntmps64
      go_wp2_with fail
      go_ret2
      exact ⟨by rw [E.out]; rfl, rfl⟩
  · have E := Lib.hid (HF.out.1 h)
    have g6 : (a.tmod b != 0) = false := by rw [h]; rfl
    clear h
    cases g10 : (a == -9223372036854775808)
    all_goals
      go_enter Tryd.func64, Tryd.ntmps64
      go_wp2_with fail
      go_ret2
      exact ⟨by rw [E.out]; rfl, rfl⟩
  · have E := Lib.hid (HF.out.2.1 h)
    have g5 := HS.out.2 h
    have g6 : (a.tmod b != 0) = true := by rw [bne_iff_ne]; omega
    have g7 : decide (a < 0) = false := by simpa using g5
    have g10 : (a == -9223372036854775808) = false := by rw [beq_eq_false_iff_ne]; omega
    have g11 : (a % b != 0) = true := by rw [← Int.tmod_eq_emod_of_nonneg g5]; exact g6
    clear h
    go_enter Tryd.func64, Tryd.ntmps64
    go_wp2_with fail
    go_ret2
    exact ⟨by rw [E.out]; rfl, rfl⟩

theorem refRound_any (a b : Int) (ha1 : -4611686018427387904 ≤ a) (ha2 : a ≤ 4611686018427387904) (hb : 1 ≤ b) (hb2 : b ≤ 4611686018427387904) (w : World) :
    Calls Tryd.prog 37 #[.int .i64 a, .int .i64 b] w fun e w' => e = .returned (.tuple #[.int .i64 (rnd a b), .int .i64 0]) ∧ w = w' := by
  have HR := Lib.hid (rnd_of a b hb)
  have h2 := Int.emod_add_mul_ediv a b
  have h5 := Int.emod_nonneg a (by omega : b ≠ 0)
  have h6 := Int.emod_lt_of_pos a (by omega : 0 < b)
  have hq := ediv_bd a b (by omega) (by omega) hb
  have hq2 : a / b ≤ 4611686018427387904 := by
    rcases Int.le_total 0 a with h | h
    · exact Int.le_trans (Int.ediv_le_self _ h) ha2
    · have := Int.ediv_le_ediv (by omega : 0 < b) h; simp at this; omega
  obtain ⟨hq1, _⟩ := hq
  have HD := Lib.hid (refFloor_any a b (by omega) (by omega) hb (by omega) w)
  generalize a % b = r at *
  generalize a / b = q at *
  rw [Int.mul_comm] at h2
  generalize hm : q * b = m at *
  have e1 : a - m = r := by omega
  have m1 : m = a - r := by omega
  have m2 : -9223372036854775808 ≤ m := by omega
  have m3 : m ≤ 9223372036854775807 := by omega
  clear h2 m1
  by_cases h : r < b - r
  · have E := Lib.hid (HR.out.1 h)
    go_enter Tryd.func37, Tryd.ntmps37
    go_wp2_with (go_at_call 64; refine (HD.out).mono ?_; rintro e w' ⟨rfl, rfl⟩)
    go_ret2
    exact ⟨by rw [E.out]; rfl, rfl⟩
  · have E := Lib.hid (HR.out.2 (by omega))
    go_enter Tryd.func37, Tryd.ntmps37
    go_wp2_with (go_at_call 64; refine (HD.out).mono ?_; rintro e w' ⟨rfl, rfl⟩)
    go_ret2
    exact ⟨by rw [E.out]; rfl, rfl⟩
end Go.Proofs.YtfgeocpooimojaaDoor
