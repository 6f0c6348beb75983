/-
  What Weighed and Rounded of package weight return. Conditions: as each theorem states them.
-/
import Derived.Test.YtfgeocpooimojaaDoorWrest
namespace Go.Proofs.YtfgeocpooimojaaDoor
open Go Go.RowKit

/-- Whether a weighing is valid. -/
def wghB (m x y z s : Int) : Bool := btwB x (-524288) 524288 && btwB y (-524288) 524288 && btwB z (-524288) 524288 && btwB m 1 1099511627776 && btwB s 0 1048576
def wghE (m x y z s : Int) : Int := if wghB m x y z s then 0 else 9
def wghV (m x y z s : Int) : Wt := if wghB m x y z s then ⟨m, m * x, m * y, m * z, s * s⟩ else zeroW
theorem mass_coord (m x : Int) (h1 : 1 ≤ m) (h2 : m ≤ 1099511627776) (h3 : -524288 ≤ x) (h4 : x ≤ 524288) : -576460752303423488 ≤ m * x ∧ m * x ≤ 576460752303423488 := by
  have a : m * x ≤ m * 524288 := Int.mul_le_mul_of_nonneg_left h4 (by omega)
  have b : m * (-524288) ≤ m * x := Int.mul_le_mul_of_nonneg_left h3 (by omega)
  omega
theorem sq_bd (s : Int) (h1 : 0 ≤ s) (h2 : s ≤ 1048576) : 0 ≤ s * s ∧ s * s ≤ 1099511627776 := by
  have a : s * s ≤ s * 1048576 := Int.mul_le_mul_of_nonneg_left h2 h1
  have b : 0 ≤ s * s := Int.mul_nonneg h1 h1
  omega
theorem wgh_no {m x y z s : Int} (h : wghB m x y z s = false) : (wghV m x y z s).val = .agg #[.int .i64 0, .int .i64 0, .int .i64 0, .int .i64 0, .int .i64 0] ∧ wghE m x y z s = 9 := by
  unfold wghV wghE; rw [h]; exact ⟨rfl, rfl⟩
theorem blk_new3 (w : World) (o : Obj) (t : TypeId) (cs : Array Value) (o3 : Obj) : Blk (((w.alloc o).alloc (.cells cs t)).alloc o3) (w.heap.size + 1) t cs := by
  have := (Blk.new (w.alloc o) t cs).alloc o3
  simpa using this
set_option maxHeartbeats 2000000 in
theorem weighed_below (b : ByteArray) (at' m x y z s : Int) (sl : Option Addr) (n c : Nat) (w : World) : Calls Tryd.prog 23 #[.agg #[.string b, .int .i64 at', .int .i64 m, .int .i64 x, .int .i64 y, .int .i64 z, .int .i64 s, .slice sl n c]] w fun e w' =>
    e = .returned (.tuple #[(wghV m x y z s).val, .int .i64 (wghE m x y z s)]) ∧ Below w.heap.size w w' := by
  cases hb : wghB m x y z s
  · have HV := Lib.hid (wgh_no hb)
    unfold wghB at hb
    cases h1 : btwB x (-524288) 524288
    · clear hb
      go_enter Tryd.func23, Tryd.ntmps23
      go_wp2_with (go_at_call 31; refine (between_any _ _ _ _).mono ?_; rintro e w' ⟨rfl, rfl⟩)
      refine bodyPost_ret (results_cell_tmp rfl _ _ (w.heap.size + 1) 23 #[.int .i64 0, .int .i64 0, .int .i64 0, .int .i64 0, .int .i64 0] _ rfl (by with_reducible exact blk_new3 _ _ _ _ _) Tryd.underlying23 rfl (by kernel_rfl)) rfl ⟨by rw [HV.out.1, HV.out.2]; rfl, by go_grown⟩
    cases h2 : btwB y (-524288) 524288
    · clear hb
      go_enter Tryd.func23, Tryd.ntmps23
      go_wp2_with (go_at_call 31; refine (between_any _ _ _ _).mono ?_; rintro e w' ⟨rfl, rfl⟩)
      refine bodyPost_ret (results_cell_tmp rfl _ _ (w.heap.size + 1) 23 #[.int .i64 0, .int .i64 0, .int .i64 0, .int .i64 0, .int .i64 0] _ rfl (by with_reducible exact blk_new3 _ _ _ _ _) Tryd.underlying23 rfl (by kernel_rfl)) rfl ⟨by rw [HV.out.1, HV.out.2]; rfl, by go_grown⟩
    cases h3 : btwB z (-524288) 524288
    · clear hb
      go_enter Tryd.func23, Tryd.ntmps23
      go_wp2_with (go_at_call 31; refine (between_any _ _ _ _).mono ?_; rintro e w' ⟨rfl, rfl⟩)
      refine bodyPost_ret (results_cell_tmp rfl _ _ (w.heap.size + 1) 23 #[.int .i64 0, .int .i64 0, .int .i64 0, .int .i64 0, .int .i64 0] _ rfl (by with_reducible exact blk_new3 _ _ _ _ _) Tryd.underlying23 rfl (by kernel_rfl)) rfl ⟨by rw [HV.out.1, HV.out.2]; rfl, by go_grown⟩
    cases h4 : btwB m 1 1099511627776
    · clear hb
      go_enter Tryd.func23, Tryd.ntmps23
      go_wp2_with (go_at_call 31; refine (between_any _ _ _ _).mono ?_; rintro e w' ⟨rfl, rfl⟩)
      refine bodyPost_ret (results_cell_tmp rfl _ _ (w.heap.size + 1) 23 #[.int .i64 0, .int .i64 0, .int .i64 0, .int .i64 0, .int .i64 0] _ rfl (by with_reducible exact blk_new3 _ _ _ _ _) Tryd.underlying23 rfl (by kernel_rfl)) rfl ⟨by rw [HV.out.1, HV.out.2]; rfl, by go_grown⟩
    cases h5 : btwB s 0 1048576
    · clear hb
      go_enter Tryd.func23, Tryd.ntmps23
      go_wp2_with (go_at_call 31; refine (between_any _ _ _ _).mono ?_; rintro e w' ⟨rfl, rfl⟩)
      refine bodyPost_ret (results_cell_tmp rfl _ _ (w.heap.size + 1) 23 #[.int .i64 0, .int .i64 0, .int .i64 0, .int .i64 0, .int .i64 0] _ rfl (by with_reducible exact blk_new3 _ _ _ _ _) Tryd.underlying23 rfl (by kernel_rfl)) rfl ⟨by rw [HV.out.1, HV.out.2]; rfl, by go_grown⟩
    · rw [h1, h2, h3, h4, h5] at hb
      simp at hb
  · have HV : Hid ((wghV m x y z s).val = .agg #[.int .i64 m, .int .i64 (m * x), .int .i64 (m * y), .int .i64 (m * z), .int .i64 (s * s)] ∧ wghE m x y z s = 0) := by
      unfold Hid wghV wghE; rw [hb]; exact ⟨rfl, rfl⟩
    unfold wghB at hb
    simp only [Bool.and_eq_true] at hb
    obtain ⟨⟨⟨⟨h1, h2⟩, h3⟩, h4⟩, h5⟩ := hb
    have g1 : -524288 ≤ x ∧ x ≤ 524288 := by simpa [btwB] using h1
    have g2 : -524288 ≤ y ∧ y ≤ 524288 := by simpa [btwB] using h2
    have g3 : -524288 ≤ z ∧ z ≤ 524288 := by simpa [btwB] using h3
    have g4 : 1 ≤ m ∧ m ≤ 1099511627776 := by simpa [btwB] using h4
    have g5 : 0 ≤ s ∧ s ≤ 1048576 := by simpa [btwB] using h5
    obtain ⟨p1, p2⟩ := mass_coord m x g4.1 g4.2 g1.1 g1.2
    obtain ⟨p3, p4⟩ := mass_coord m y g4.1 g4.2 g2.1 g2.2
    obtain ⟨p5, p6⟩ := mass_coord m z g4.1 g4.2 g3.1 g3.2
    obtain ⟨p7, p8⟩ := sq_bd s g5.1 g5.2
    clear g1 g2 g3 g4 g5
    go_enter Tryd.func23, Tryd.ntmps23
    go_wp2_with (go_at_call 31; refine (between_any _ _ _ _).mono ?_; rintro e w' ⟨rfl, rfl⟩)
    refine bodyPost_ret (results_cell_tmp rfl _ _ (w.heap.size + 1) 23 #[.int .i64 m, .int .i64 (m * x), .int .i64 (m * y), .int .i64 (m * z), .int .i64 (s * s)] _ rfl (by with_reducible exact blk_new3 _ _ _ _ _) Tryd.underlying23 rfl (by kernel_rfl)) rfl ⟨by rw [HV.out.1, HV.out.2]; rfl, by go_grown⟩
end Go.Proofs.YtfgeocpooimojaaDoor
