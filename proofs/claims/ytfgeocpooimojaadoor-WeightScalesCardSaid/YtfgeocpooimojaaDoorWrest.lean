/-
  What divisible, Rounded, Sigma, Margin, Weighed of package weight return. Conditions: as each theorem states them.
-/
import Derived.Test.YtfgeocpooimojaaDoorWadd2
import Derived.Test.YtfgeocpooimojaaDoorLater
namespace Go.Proofs.YtfgeocpooimojaaDoor
open Go Go.RowKit

/-- The error of a quotient. -/
def divE (a : Wt) : Int := if a.okB then (if a.m = 0 then 22 else 0) else 9
theorem chk_no {a : Wt} (h : a.okB = false) : chkE a.m a.x a.y a.z a.v = 9 := by unfold chkE; exact if_neg (by rw [show okW a.m a.x a.y a.z a.v = false from h]; simp)
theorem chk_yes {a : Wt} (h : a.okB = true) : chkE a.m a.x a.y a.z a.v = 0 := by unfold chkE; exact if_pos h
abbrev wtO (a : Wt) : Obj := .cells #[.int .i64 a.m, .int .i64 a.x, .int .i64 a.y, .int .i64 a.z, .int .i64 a.v] 23
theorem divisible_at (a : Wt) (w : World) : Calls Tryd.prog 32 #[.agg #[.int .i64 a.m, .int .i64 a.x, .int .i64 a.y, .int .i64 a.z, .int .i64 a.v]] w fun e w' => e = .returned (.int .i64 (divE a)) ∧ (w.alloc (wtO a)).alloc (wtO a) = w' := by
  cases h : a.okB
  · have he := chk_no h
    have E : Hid (divE a = 9) := by unfold Hid divE; rw [h]; rfl
    clear h
    go_enter Tryd.func32, Tryd.ntmps32
    go_wp2_with (go_at_call 13; refine (check_at _ _ _ _ _ _).mono ?_; rintro e w' ⟨rfl, rfl⟩)
    go_ret
    exact ⟨ret_int E.out.symm, rfl⟩
  · have he := chk_yes h
    by_cases h0 : a.m = 0
    · have E : Hid (divE a = 22) := by unfold Hid divE; rw [h, if_pos h0]; rfl
      have g : (a.m == 0) = true := by simpa using h0
      clear h h0
      go_enter Tryd.func32, Tryd.ntmps32
      go_wp2_with (go_at_call 13; refine (check_at _ _ _ _ _ _).mono ?_; rintro e w' ⟨rfl, rfl⟩)
      go_ret
      exact ⟨ret_int E.out.symm, rfl⟩
    · have E : Hid (divE a = 0) := by unfold Hid divE; rw [h, if_neg h0]; rfl
      have g : (a.m == 0) = false := by simpa using h0
      clear h h0
      go_enter Tryd.func32, Tryd.ntmps32
      go_wp2_with (go_at_call 13; refine (check_at _ _ _ _ _ _).mono ?_; rintro e w' ⟨rfl, rfl⟩)
      go_ret
      exact ⟨ret_int E.out.symm, rfl⟩

def sigmaOf (a : Wt) : Int := if a.okB then rootOf a.v else 0
theorem sigma_at (a : Wt) (w : World) : Calls Tryd.prog 19 #[.agg #[.int .i64 a.m, .int .i64 a.x, .int .i64 a.y, .int .i64 a.z, .int .i64 a.v]] w fun e w' => e = .returned (.int .i64 (sigmaOf a)) ∧ (w.alloc (wtO a)).alloc (wtO a) = w' := by
  cases h : a.okB
  · have he := chk_no h
    have E : Hid (sigmaOf a = 0) := by unfold Hid sigmaOf; exact if_neg (by rw [h]; exact Bool.false_ne_true)
    clear h
    go_enter Tryd.func19, Tryd.ntmps19
    go_wp2_with (go_at_call 13; refine (check_at _ _ _ _ _ _).mono ?_; rintro e w' ⟨rfl, rfl⟩)
    go_ret
    exact ⟨ret_int E.out.symm, rfl⟩
  · have he := chk_yes h
    have E : Hid (sigmaOf a = rootOf a.v) := by unfold Hid sigmaOf; exact if_pos h
    have h' := (okW_iff _ _ _ _ _).1 h
    have hv1 : 0 ≤ a.v := by omega
    have hv2 : a.v ≤ 9223372036854775807 := by omega
    clear h h'
    go_enter Tryd.func19, Tryd.ntmps19
    go_wp2_with (first | (go_at_call 13; refine (check_at _ _ _ _ _ _).mono ?_; rintro e w' ⟨rfl, rfl⟩) | (go_at_call 38; refine (numRoot_any _ hv1 hv2 _).mono ?_; rintro e w' ⟨rfl, rfl⟩))
    go_ret
    exact ⟨ret_int E.out.symm, rfl⟩

theorem rootTo_lt (n : Nat) : rootTo n 32 < 4294967296 := by
  obtain ⟨m, e, hb⟩ := rootTo_form n 32 (by omega)
  omega
theorem rootOf_bd (n : Int) : 0 ≤ rootOf n ∧ rootOf n ≤ 4294967295 := by
  unfold rootOf
  split
  · omega
  · have := rootTo_lt n.toNat
    generalize rootTo n.toNat 32 = r at *
    omega
theorem sigma_bd (a : Wt) : 0 ≤ sigmaOf a ∧ sigmaOf a ≤ 4294967295 := by
  unfold sigmaOf
  split
  · exact rootOf_bd _
  · omega
def marginOf (a : Wt) (n : Int) : Int := if a.okB && btwB n 0 10 then a.m + 1000 * n * sigmaOf a else 0
theorem mul_bd (n s : Int) (h1 : 0 ≤ n) (h2 : n ≤ 10) (h3 : 0 ≤ s) (h4 : s ≤ 4294967295) : 0 ≤ 1000 * n * s ∧ 1000 * n * s ≤ 42949672950000 := by
  have e1 : 0 ≤ 1000 * n * s := Int.mul_nonneg (by omega) h3
  have e2 : 1000 * n * s ≤ 10000 * s := Int.mul_le_mul_of_nonneg_right (by omega) h3
  omega
theorem sigma_below (a : Wt) (w : World) : Calls Tryd.prog 19 #[.agg #[.int .i64 a.m, .int .i64 a.x, .int .i64 a.y, .int .i64 a.z, .int .i64 a.v]] w fun e w' => e = .returned (.int .i64 (sigmaOf a)) ∧ Below w.heap.size w w' :=
  (sigma_at a w).mono fun _ _ ⟨he, hw⟩ => ⟨he, by rw [← hw]; go_grown⟩
theorem divisible_below (a : Wt) (w : World) : Calls Tryd.prog 32 #[.agg #[.int .i64 a.m, .int .i64 a.x, .int .i64 a.y, .int .i64 a.z, .int .i64 a.v]] w fun e w' => e = .returned (.int .i64 (divE a)) ∧ Below w.heap.size w w' :=
  (divisible_at a w).mono fun _ _ ⟨he, hw⟩ => ⟨he, by rw [← hw]; go_grown⟩
theorem margin_below (a : Wt) (n : Int) (w : World) : Calls Tryd.prog 21 #[.agg #[.int .i64 a.m, .int .i64 a.x, .int .i64 a.y, .int .i64 a.z, .int .i64 a.v], .int .i64 n] w fun e w' => e = .returned (.int .i64 (marginOf a n)) ∧ Below w.heap.size w w' := by
  cases h : a.okB
  · have he := chk_no h
    have E : Hid (marginOf a n = 0) := by unfold Hid marginOf; exact if_neg (by rw [h]; exact Bool.false_ne_true)
    clear h
    go_enter Tryd.func21, Tryd.ntmps21
    go_wp2_with (go_at_call 13; refine (check_at _ _ _ _ _ _).mono ?_; rintro e w' ⟨rfl, rfl⟩)
    go_ret
    exact ⟨ret_int E.out.symm, by go_grown⟩
  · have he := chk_yes h
    cases h2 : btwB n 0 10
    · have E : Hid (marginOf a n = 0) := by unfold Hid marginOf; exact if_neg (by rw [h, h2]; exact Bool.false_ne_true)
      clear h
      go_enter Tryd.func21, Tryd.ntmps21
      go_wp2_with (first | (go_at_call 13; refine (check_at _ _ _ _ _ _).mono ?_; rintro e w' ⟨rfl, rfl⟩) | (go_at_call 31; refine (between_any _ _ _ _).mono ?_; rintro e w' ⟨rfl, rfl⟩))
      go_ret
      exact ⟨ret_int E.out.symm, by go_grown⟩
    · have E : Hid (marginOf a n = a.m + 1000 * n * sigmaOf a) := by unfold Hid marginOf; exact if_pos (by rw [h, h2]; rfl)
      have h' := (okW_iff _ _ _ _ _).1 h
      have hn : 0 ≤ n ∧ n ≤ 10 := by simpa [btwB] using h2
      obtain ⟨hm1, hm2⟩ := h'.1
      obtain ⟨hn1, hn2⟩ := hn
      obtain ⟨hs1, hs2⟩ := sigma_bd a
      obtain ⟨hp1, hp2⟩ := mul_bd n _ hn1 hn2 hs1 hs2
      have q1 : IntKind.i64.wrap (1000 * n) = 1000 * n := IntWalk.i64_in _ ⟨by omega, by omega⟩
      have q2 : IntKind.i64.wrap (1000 * n * sigmaOf a) = 1000 * n * sigmaOf a := IntWalk.i64_in _ ⟨by omega, by omega⟩
      have q3 : IntKind.i64.wrap (a.m + 1000 * n * sigmaOf a) = a.m + 1000 * n * sigmaOf a := IntWalk.i64_in _ ⟨by omega, by omega⟩
      clear h h'
      go_enter Tryd.func21, Tryd.ntmps21
      go_wp2_with (first | (go_at_call 13; refine (check_at _ _ _ _ _ _).mono ?_; rintro e w' ⟨rfl, rfl⟩) | (go_at_call 31; refine (between_any _ _ _ _).mono ?_; rintro e w' ⟨rfl, rfl⟩))
      obtain ⟨W, hW⟩ : ∃ W, W = (w.alloc (wtO a)).alloc (wtO a) := ⟨_, rfl⟩
      have hlt : w.heap.size < W.heap.size := by rw [hW]; simp; omega
      have c0 : W.cell? ⟨w.heap.size, 0, none⟩ = some (.int .i64 a.m) := by rw [hW]; simp
      have c1 : W.cell? ⟨w.heap.size, 1, none⟩ = some (.int .i64 a.x) := by rw [hW]; simp
      have c2 : W.cell? ⟨w.heap.size, 2, none⟩ = some (.int .i64 a.y) := by rw [hW]; simp
      have c3 : W.cell? ⟨w.heap.size, 3, none⟩ = some (.int .i64 a.z) := by rw [hW]; simp
      have c4 : W.cell? ⟨w.heap.size, 4, none⟩ = some (.int .i64 a.v) := by rw [hW]; simp
      have Hb : Hid (Below w.heap.size w W) := by unfold Hid; rw [hW]; go_grown
      rw [← hW]
      clear hW
      have lc := @later_cell W
      refine wp_region_later (by kernel_rfl) (by kernel_rfl) ?_
      repeat (go_big_quiet_step ((go_at_call 19; exact later_call (sigma_below _ _))))
      refine wpQuiet_nil ?_
      intro _ hw'
      obtain ⟨u, rfl⟩ := hw'
      have Hb2 := Lib.hid (Hb.out.trans (u.property.mono Hb.out.size))
      generalize u.val = w2 at *
      go_wp2_with fail
      go_ret
      exact ⟨ret_int E.out.symm, Hb2.out⟩
end Go.Proofs.YtfgeocpooimojaaDoor
