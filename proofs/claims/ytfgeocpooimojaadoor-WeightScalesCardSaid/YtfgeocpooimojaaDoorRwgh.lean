/-
  What Weighed of the reference of weights returns. Conditions: as each theorem states them.
-/
import Derived.Test.YtfgeocpooimojaaDoorWrestb
namespace Go.Proofs.YtfgeocpooimojaaDoor
open Go Go.RowKit

theorem refWithin_any (n : Int) (w : World) : Calls Tryd.prog 40 #[.int .i64 n] w fun e w' => e = .returned (.bool (btwB n (-524288) 524288)) ∧ w = w' := by
  by_cases h1 : -524288 ≤ n
  · by_cases h2 : n ≤ 524288
    · have E : Hid (btwB n (-524288) 524288 = true) := by unfold Hid btwB; simp [h1, h2]
      go_enter Tryd.func40, Tryd.ntmps40
      go_wp2_with fail
      go_ret
      exact ⟨ret_bool E.out.symm, rfl⟩
    · have E : Hid (btwB n (-524288) 524288 = false) := by unfold Hid btwB; simp [h2]
      go_enter Tryd.func40, Tryd.ntmps40
      go_wp2_with fail
      go_ret
      exact ⟨ret_bool E.out.symm, rfl⟩
  · have E : Hid (btwB n (-524288) 524288 = false) := by unfold Hid btwB; simp [h1]
    have hd : decide (-524288 ≤ n) = false := by simpa using h1
    go_enter Tryd.func40, Tryd.ntmps40
    go_wp2_with fail
    go_ret
    exact ⟨ret_bool E.out.symm, rfl⟩
theorem btw_split (n lo hi : Int) : btwB n lo hi = (!decide (n < lo) && !decide (hi < n)) := by
  unfold btwB
  by_cases h1 : n < lo <;> by_cases h2 : hi < n <;> simp [h1, h2] <;> omega
theorem blk_new2 (w : World) (o : Obj) (t : TypeId) (cs : Array Value) : Blk ((w.alloc o).alloc (.cells cs t)) (w.heap.size + 1) t cs := by
  have := Blk.new (w.alloc o) t cs
  simpa using this
set_option maxHeartbeats 4000000 in
theorem refWeighed_below (b : ByteArray) (at' m x y z s : Int) (sl : Option Addr) (n c : Nat) (w : World) : Calls Tryd.prog 24 #[.agg #[.string b, .int .i64 at', .int .i64 m, .int .i64 x, .int .i64 y, .int .i64 z, .int .i64 s, .slice sl n c]] w fun e w' =>
    e = .returned (.tuple #[(wghV m x y z s).val, .int .i64 (wghE m x y z s)]) ∧ Below w.heap.size w w' := by
  cases hb : wghB m x y z s
  · have HV := Lib.hid (wgh_no hb)
    unfold wghB at hb
    rw [btw_split m, btw_split s] at hb
    cases h1 : decide (m < 1)
    rotate_left
    · clear hb
      go_enter Tryd.func24, Tryd.ntmps24
      go_wp2_with (go_at_call 40; refine (refWithin_any _ _).mono ?_; rintro e w' ⟨rfl, rfl⟩)
      refine bodyPost_ret (results_cell_tmp rfl _ _ (w.heap.size + 1) 23 #[.int .i64 0, .int .i64 0, .int .i64 0, .int .i64 0, .int .i64 0] _ rfl (by with_reducible exact blk_new2 _ _ _ _) Tryd.underlying23 rfl (by kernel_rfl)) rfl ⟨by rw [HV.out.1, HV.out.2]; rfl, by go_grown⟩
    cases h2 : decide (1099511627776 < m)
    rotate_left
    · clear hb
      go_enter Tryd.func24, Tryd.ntmps24
      go_wp2_with (go_at_call 40; refine (refWithin_any _ _).mono ?_; rintro e w' ⟨rfl, rfl⟩)
      refine bodyPost_ret (results_cell_tmp rfl _ _ (w.heap.size + 1) 23 #[.int .i64 0, .int .i64 0, .int .i64 0, .int .i64 0, .int .i64 0] _ rfl (by with_reducible exact blk_new2 _ _ _ _) Tryd.underlying23 rfl (by kernel_rfl)) rfl ⟨by rw [HV.out.1, HV.out.2]; rfl, by go_grown⟩
    cases h3 : btwB x (-524288) 524288
    · clear hb
      go_enter Tryd.func24, Tryd.ntmps24
      go_wp2_with (go_at_call 40; refine (refWithin_any _ _).mono ?_; rintro e w' ⟨rfl, rfl⟩)
      refine bodyPost_ret (results_cell_tmp rfl _ _ (w.heap.size + 1) 23 #[.int .i64 0, .int .i64 0, .int .i64 0, .int .i64 0, .int .i64 0] _ rfl (by with_reducible exact blk_new2 _ _ _ _) Tryd.underlying23 rfl (by kernel_rfl)) rfl ⟨by rw [HV.out.1, HV.out.2]; rfl, by go_grown⟩
    cases h4 : btwB y (-524288) 524288
    · clear hb
      go_enter Tryd.func24, Tryd.ntmps24
      go_wp2_with (go_at_call 40; refine (refWithin_any _ _).mono ?_; rintro e w' ⟨rfl, rfl⟩)
      refine bodyPost_ret (results_cell_tmp rfl _ _ (w.heap.size + 1) 23 #[.int .i64 0, .int .i64 0, .int .i64 0, .int .i64 0, .int .i64 0] _ rfl (by with_reducible exact blk_new2 _ _ _ _) Tryd.underlying23 rfl (by kernel_rfl)) rfl ⟨by rw [HV.out.1, HV.out.2]; rfl, by go_grown⟩
    cases h5 : btwB z (-524288) 524288
    · clear hb
      go_enter Tryd.func24, Tryd.ntmps24
      go_wp2_with (go_at_call 40; refine (refWithin_any _ _).mono ?_; rintro e w' ⟨rfl, rfl⟩)
      refine bodyPost_ret (results_cell_tmp rfl _ _ (w.heap.size + 1) 23 #[.int .i64 0, .int .i64 0, .int .i64 0, .int .i64 0, .int .i64 0] _ rfl (by with_reducible exact blk_new2 _ _ _ _) Tryd.underlying23 rfl (by kernel_rfl)) rfl ⟨by rw [HV.out.1, HV.out.2]; rfl, by go_grown⟩
    cases h6 : decide (s < 0)
    rotate_left
    · clear hb
      go_enter Tryd.func24, Tryd.ntmps24
      go_wp2_with (go_at_call 40; refine (refWithin_any _ _).mono ?_; rintro e w' ⟨rfl, rfl⟩)
      refine bodyPost_ret (results_cell_tmp rfl _ _ (w.heap.size + 1) 23 #[.int .i64 0, .int .i64 0, .int .i64 0, .int .i64 0, .int .i64 0] _ rfl (by with_reducible exact blk_new2 _ _ _ _) Tryd.underlying23 rfl (by kernel_rfl)) rfl ⟨by rw [HV.out.1, HV.out.2]; rfl, by go_grown⟩
    cases h7 : decide (1048576 < s)
    rotate_left
    · clear hb
      go_enter Tryd.func24, Tryd.ntmps24
      go_wp2_with (go_at_call 40; refine (refWithin_any _ _).mono ?_; rintro e w' ⟨rfl, rfl⟩)
      refine bodyPost_ret (results_cell_tmp rfl _ _ (w.heap.size + 1) 23 #[.int .i64 0, .int .i64 0, .int .i64 0, .int .i64 0, .int .i64 0] _ rfl (by with_reducible exact blk_new2 _ _ _ _) Tryd.underlying23 rfl (by kernel_rfl)) rfl ⟨by rw [HV.out.1, HV.out.2]; rfl, by go_grown⟩
    · rw [h1, h2, h3, h4, h5, h6, h7] at hb
      simp at hb
  · have HV : Hid ((wghV m x y z s).val = .agg #[.int .i64 m, .int .i64 (m * x), .int .i64 (m * y), .int .i64 (m * z), .int .i64 (s * s)] ∧ wghE m x y z s = 0) := by
      unfold Hid wghV wghE; rw [hb]; exact ⟨rfl, rfl⟩
    unfold wghB at hb
    simp only [Bool.and_eq_true] at hb
    obtain ⟨⟨⟨⟨h1, h2⟩, h3⟩, h4⟩, h5⟩ := hb
    have g1 : -524288 ≤ x ∧ x ≤ 524288 := by simpa [btwB] using h1
    have g2 : -524288 ≤ y ∧ y ≤ 524288 := by simpa [btwB] using h2
    have g3 : -524288 ≤ z ∧ z ≤ 524288 := by simpa [btwB] using h3
    have g4 : 1 ≤ m ∧ m ≤ 1099511627776 := by simpa [btwB] using h4
    have g5 : 0 ≤ s ∧ s ≤ 1048576 := by simpa [btwB] using h5
    obtain ⟨p1, p2⟩ := mass_coord m x g4.1 g4.2 g1.1 g1.2
    obtain ⟨p3, p4⟩ := mass_coord m y g4.1 g4.2 g2.1 g2.2
    obtain ⟨p5, p6⟩ := mass_coord m z g4.1 g4.2 g3.1 g3.2
    obtain ⟨p7, p8⟩ := sq_bd s g5.1 g5.2
    have k1 : decide (m < 1) = false := by simp; omega
    have k2 : decide (1099511627776 < m) = false := by simp; omega
    have k3 : decide (s < 0) = false := by simp; omega
    have k4 : decide (1048576 < s) = false := by simp; omega
    clear g1 g2 g3 g4 g5 h4 h5
    go_enter Tryd.func24, Tryd.ntmps24
    go_wp2_with (go_at_call 40; refine (refWithin_any _ _).mono ?_; rintro e w' ⟨rfl, rfl⟩)
    refine bodyPost_ret (results_cell_tmp rfl _ _ (w.heap.size + 1) 23 #[.int .i64 m, .int .i64 (m * x), .int .i64 (m * y), .int .i64 (m * z), .int .i64 (s * s)] _ rfl (by with_reducible exact blk_new2 _ _ _ _) Tryd.underlying23 rfl (by kernel_rfl)) rfl ⟨by rw [HV.out.1, HV.out.2]; rfl, by go_grown⟩
end Go.Proofs.YtfgeocpooimojaaDoor
