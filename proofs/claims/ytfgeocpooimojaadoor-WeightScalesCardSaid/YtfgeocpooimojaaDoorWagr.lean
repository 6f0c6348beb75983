/-
  What Agrees of package weight returns. Conditions: as each theorem states them.
-/
import Derived.Test.YtfgeocpooimojaaDoorWcent
import Derived.Test.YtfgeocpooimojaaDoorShelf
namespace Go.Proofs.YtfgeocpooimojaaDoor
open Go Go.RowKit

def sqd (a b : Wt) : Int := (a.m - b.m) * (a.m - b.m)
def agrB (a b : Wt) : Bool := a.okB && b.okB && decide (sqd a b ≤ 9000000 * (a.v + b.v))
/-- The order of two numbers of two words. -/
theorem two_words (p q : Nat) : (p / 18446744073709551616 < q / 18446744073709551616 ∨ (p / 18446744073709551616 = q / 18446744073709551616 ∧ p % 18446744073709551616 ≤ q % 18446744073709551616)) ↔ p ≤ q := by omega
theorem two_wordsI (p q : Int) : (hi64 p < hi64 q ∨ (hi64 p = hi64 q ∧ lo64 p ≤ lo64 q)) ↔ p ≤ q := by unfold hi64 lo64; omega
theorem mul64_int (x y : Int) (w : World) (h1 : 0 ≤ x) (h2 : x < 18446744073709551616) (h3 : 0 ≤ y) (h4 : y < 18446744073709551616) :
    Calls Tryd.prog 41 #[.int .u64 x, .int .u64 y] w fun e w' => e = .returned (.tuple #[.int .u64 (hi64 (x * y)), .int .u64 (lo64 (x * y))]) ∧ w = w' := by
  obtain ⟨x, rfl⟩ := Int.eq_ofNat_of_zero_le h1
  obtain ⟨y, rfl⟩ := Int.eq_ofNat_of_zero_le h3
  refine (Tryd.bits_Mul64 x y (by omega) (by omega) w).mono fun e w' ⟨he, hw⟩ => ⟨?_, hw.symm⟩
  rw [he]
  unfold hi64 lo64
  rw [← Int.natCast_mul]
  generalize x * y = p
  congr 5
set_option maxHeartbeats 2000000 in
theorem agrees_below (a b : Wt) (w : World) : Calls Tryd.prog 25 #[.agg #[.int .i64 a.m, .int .i64 a.x, .int .i64 a.y, .int .i64 a.z, .int .i64 a.v], .agg #[.int .i64 b.m, .int .i64 b.x, .int .i64 b.y, .int .i64 b.z, .int .i64 b.v]] w fun e w' =>
    e = .returned (.bool (agrB a b)) ∧ Below w.heap.size w w' := by
  cases h : a.okB
  · have he := chk_no h
    have E : Hid (agrB a b = false) := by unfold Hid agrB; rw [h]; rfl
    clear h
    go_enter Tryd.func25, Tryd.ntmps25
    go_wp2_with (go_at_call 13; refine (check_at _ _ _ _ _ _).mono ?_; rintro e w' ⟨rfl, rfl⟩)
    go_ret
    exact ⟨ret_bool E.out.symm, by go_grown⟩
  have he := chk_yes h
  cases h2 : b.okB
  · have he2 := chk_no h2
    have E : Hid (agrB a b = false) := by unfold Hid agrB; rw [h, h2]; rfl
    clear h
    go_enter Tryd.func25, Tryd.ntmps25
    go_wp2_with (go_at_call 13; refine (check_at _ _ _ _ _ _).mono ?_; rintro e w' ⟨rfl, rfl⟩)
    go_ret
    exact ⟨ret_bool E.out.symm, by go_grown⟩
  have he2 := chk_yes h2
  have h' := (okW_iff _ _ _ _ _).1 h
  have h2' := (okW_iff _ _ _ _ _).1 h2
  have E : Hid (agrB a b = decide (sqd a b ≤ 9000000 * (a.v + b.v))) := by unfold Hid agrB; rw [h, h2]; rfl
  obtain ⟨m1, m2⟩ := h'.1; obtain ⟨m3, m4⟩ := h2'.1
  obtain ⟨v1, v2⟩ := h'.2.1; obtain ⟨v3, v4⟩ := h2'.2.1
  clear h h2 h' h2'
  have hsq : sqd a b = (b.m - a.m) * (b.m - a.m) := by unfold sqd; rw [← Int.neg_sub b.m a.m, Int.neg_mul_neg]
  have hsq1 : sqd a b = (a.m - b.m) * (a.m - b.m) := rfl
  have M1 := Lib.hid (fun W (h : 0 ≤ a.m - b.m) => mul64_int (a.m - b.m) (a.m - b.m) W h (by omega) h (by omega))
  have M2 := Lib.hid (fun W (h : 0 ≤ b.m - a.m) => mul64_int (b.m - a.m) (b.m - a.m) W h (by omega) h (by omega))
  have M3 := Lib.hid (fun W => mul64_int 9000000 (a.v + b.v) W (by omega) (by omega) (by omega) (by omega))
  rw [← hsq] at M2
  rw [← hsq1] at M1
  have HT := Lib.hid (two_wordsI (sqd a b) (9000000 * (a.v + b.v)))
  clear hsq hsq1
  generalize sqd a b = p at *
  generalize hq : 9000000 * (a.v + b.v) = q at *
  clear hq
  generalize hi64 p = ph at *
  generalize lo64 p = pl at *
  generalize hi64 q = qh at *
  generalize lo64 q = ql at *
  rcases Int.lt_trichotomy ph qh with g | g | g
  · have E2 : Hid (decide (p ≤ q) = true) := by unfold Hid; rw [decide_eq_true_eq]; exact HT.out.1 (.inl g)
    have g1 : decide (ph < qh) = true := by simpa using g
    clear g
    go_enter Tryd.func25, Tryd.ntmps25
    go_wp2_with (go_at_call 13; refine (check_at _ _ _ _ _ _).mono ?_; rintro e w' ⟨rfl, rfl⟩)
    · refine (M2.out _ (by omega)).mono ?_
      rintro e w' ⟨rfl, rfl⟩
      go_wp2_with fail
      refine (M3.out _).mono ?_
      rintro e w' ⟨rfl, rfl⟩
      go_wp2_with fail
      go_ret
      exact ⟨ret_bool (by rw [E.out, E2.out]), by go_grown⟩
    · refine (M1.out _ (by omega)).mono ?_
      rintro e w' ⟨rfl, rfl⟩
      go_wp2_with fail
      refine (M3.out _).mono ?_
      rintro e w' ⟨rfl, rfl⟩
      go_wp2_with fail
      go_ret
      exact ⟨ret_bool (by rw [E.out, E2.out]), by go_grown⟩
  · by_cases g2 : pl ≤ ql
    · have E2 : Hid (decide (p ≤ q) = true) := by unfold Hid; rw [decide_eq_true_eq]; exact HT.out.1 (.inr ⟨g, g2⟩)
      have g1 : decide (ph < qh) = false := by simp; omega
      have g3 : (ph == qh) = true := by simpa using g
      clear g
      go_enter Tryd.func25, Tryd.ntmps25
      go_wp2_with (go_at_call 13; refine (check_at _ _ _ _ _ _).mono ?_; rintro e w' ⟨rfl, rfl⟩)
      · refine (M2.out _ (by omega)).mono ?_
        rintro e w' ⟨rfl, rfl⟩
        go_wp2_with fail
        refine (M3.out _).mono ?_
        rintro e w' ⟨rfl, rfl⟩
        go_wp2_with fail
        go_ret
        exact ⟨ret_bool (by rw [E.out, E2.out]), by go_grown⟩
      · refine (M1.out _ (by omega)).mono ?_
        rintro e w' ⟨rfl, rfl⟩
        go_wp2_with fail
        refine (M3.out _).mono ?_
        rintro e w' ⟨rfl, rfl⟩
        go_wp2_with fail
        go_ret
        exact ⟨ret_bool (by rw [E.out, E2.out]), by go_grown⟩
    · have E2 : Hid (decide (p ≤ q) = false) := by unfold Hid; rw [decide_eq_false_iff_not]; intro h; rcases HT.out.2 h with h | h <;> omega
      have g1 : decide (ph < qh) = false := by simp; omega
      have g3 : (ph == qh) = true := by simpa using g
      have g4 : decide (pl ≤ ql) = false := by simpa using g2
      clear g g2
      go_enter Tryd.func25, Tryd.ntmps25
      go_wp2_with (go_at_call 13; refine (check_at _ _ _ _ _ _).mono ?_; rintro e w' ⟨rfl, rfl⟩)
      · refine (M2.out _ (by omega)).mono ?_
        rintro e w' ⟨rfl, rfl⟩
        go_wp2_with fail
        refine (M3.out _).mono ?_
        rintro e w' ⟨rfl, rfl⟩
        go_wp2_with fail
        go_ret
        exact ⟨ret_bool (by rw [E.out, E2.out]), by go_grown⟩
      · refine (M1.out _ (by omega)).mono ?_
        rintro e w' ⟨rfl, rfl⟩
        go_wp2_with fail
        refine (M3.out _).mono ?_
        rintro e w' ⟨rfl, rfl⟩
        go_wp2_with fail
        go_ret
        exact ⟨ret_bool (by rw [E.out, E2.out]), by go_grown⟩
  · have E2 : Hid (decide (p ≤ q) = false) := by unfold Hid; rw [decide_eq_false_iff_not]; intro h; rcases HT.out.2 h with h | h <;> omega
    have g1 : decide (ph < qh) = false := by simp; omega
    have g3 : (ph == qh) = false := by rw [beq_eq_false_iff_ne]; omega
    clear g
    go_enter Tryd.func25, Tryd.ntmps25
    go_wp2_with (go_at_call 13; refine (check_at _ _ _ _ _ _).mono ?_; rintro e w' ⟨rfl, rfl⟩)
    · refine (M2.out _ (by omega)).mono ?_
      rintro e w' ⟨rfl, rfl⟩
      go_wp2_with fail
      refine (M3.out _).mono ?_
      rintro e w' ⟨rfl, rfl⟩
      go_wp2_with fail
      go_ret
      exact ⟨ret_bool (by rw [E.out, E2.out]), by go_grown⟩
    · refine (M1.out _ (by omega)).mono ?_
      rintro e w' ⟨rfl, rfl⟩
      go_wp2_with fail
      refine (M3.out _).mono ?_
      rintro e w' ⟨rfl, rfl⟩
      go_wp2_with fail
      go_ret
      exact ⟨ret_bool (by rw [E.out, E2.out]), by go_grown⟩
end Go.Proofs.YtfgeocpooimojaaDoor
