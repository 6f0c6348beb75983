/-
  The examples of the chapter hold: awake returns true. Conditions: none.
-/
import Derived.Test.YtfgeocpooimojaaDoorQPfWeightCentres31
namespace Go.Proofs.YtfgeocpooimojaaDoor
open Go Go.RowKit

abbrev wtA : Wt := ⟨1000, 2000, 0, 0, 4⟩
abbrev wtB : Wt := ⟨3000, 0, 0, 9000, 12⟩
abbrev wtC : Wt := ⟨4000, 2000, 0, 9000, 16⟩
abbrev wtX : Wt := ⟨0, 1152921504606846976, 0, 0, 0⟩
abbrev wtY : Wt := ⟨0, -1152921504606846976, 0, 0, 0⟩
abbrev nums (m x y z v : Int) : Array Value := #[.int .i64 m, .int .i64 x, .int .i64 y, .int .i64 z, .int .i64 v]
theorem small_In (a : Wt) (h : (decide (-1152921504606846976 ≤ a.m) && decide (a.m ≤ 1152921504606846976) && decide (-1152921504606846976 ≤ a.x) && decide (a.x ≤ 1152921504606846976) && decide (-1152921504606846976 ≤ a.y) && decide (a.y ≤ 1152921504606846976) && decide (-1152921504606846976 ≤ a.z) && decide (a.z ≤ 1152921504606846976) && decide (-1152921504606846976 ≤ a.v) && decide (a.v ≤ 1152921504606846976)) = true) : a.In := by
  simp only [Bool.and_eq_true, decide_eq_true_eq] at h
  unfold Wt.In I64; omega
theorem ex_add (w : World) : Calls Tryd.prog 9 #[.agg (nums 1000 2000 0 0 4), .agg (nums 3000 0 0 9000 12)] w fun e w' => e = .returned (.tuple #[.agg (nums 4000 2000 0 9000 16), .int .i64 0]) ∧ Below w.heap.size w w' :=
  (weightAdd_any wtA wtB (small_In _ (by decide)) (small_In _ (by decide)) w).mono fun _ _ ⟨he, hb⟩ => ⟨by rw [he]; rfl, hb⟩
theorem ex_rounded (w : World) : Calls Tryd.prog 17 #[.agg (nums 4000 2000 0 9000 16)] w fun e w' => e = .returned (.tuple #[.agg #[.int .i64 1, .int .i64 0, .int .i64 2], .int .i64 0]) ∧ Below w.heap.size w w' :=
  (rounded_below wtC w).mono fun _ _ ⟨he, hb⟩ => ⟨by rw [he]; rfl, hb⟩
theorem ex_centre (w : World) : Calls Tryd.prog 15 #[.agg (nums 0 0 0 0 0)] w fun e w' => e = .returned (.tuple #[.agg ratZ, .agg ratZ, .agg ratZ, .int .i64 22]) ∧ Below w.heap.size w w' :=
  (centre_no zeroW (by decide) w).mono fun _ _ ⟨he, hb⟩ => ⟨by rw [he]; rfl, hb⟩
theorem ex_sum (g : Nat) (w : World) (h : Blk w g 23 #[.int .i64 0, .int .i64 1152921504606846976, .int .i64 0, .int .i64 0, .int .i64 0, .int .i64 0, .int .i64 1152921504606846976, .int .i64 0, .int .i64 0, .int .i64 0, .int .i64 0, .int .i64 (-1152921504606846976), .int .i64 0, .int .i64 0, .int .i64 0]) :
    Calls Tryd.prog 11 #[.slice (some ⟨g, 0, none⟩) 3 3] w fun e w' => e = .returned (.tuple #[.agg (nums 0 1152921504606846976 0 0 0), .int .i64 0]) ∧ Below w.heap.size w w' :=
  (weightSum_any _ 3 3 [wtX, wtX, wtY] w (blk_reads (n := 3) h rfl) rfl (by omega) (by
    intro a ha
    simp only [List.mem_cons, List.not_mem_nil, or_false] at ha
    rcases ha with rfl | rfl | rfl <;> exact small_In _ (by decide))).mono fun _ _ ⟨he, hb⟩ => ⟨by rw [he]; rfl, hb⟩
theorem ex_weighed (w : World) : Calls Tryd.prog 23 #[.agg #[.string ByteArray.empty, .int .i64 0, .int .i64 1000, .int .i64 2, .int .i64 0, .int .i64 (-3), .int .i64 4, .slice none 0 0]] w fun e w' => e = .returned (.tuple #[.agg (nums 1000 2000 0 (-3000) 16), .int .i64 0]) ∧ Below w.heap.size w w' :=
  (weighed_below _ _ _ _ _ _ _ _ _ _ w).mono fun _ _ ⟨he, hb⟩ => ⟨by rw [he]; rfl, hb⟩
theorem root16 : rootOf 16 = 4 := by decide +kernel
theorem root5 : rootOf 5 = 2 := by decide +kernel
theorem ex_sigma (w : World) : Calls Tryd.prog 19 #[.agg (nums 4000 2000 0 9000 16)] w fun e w' => e = .returned (.int .i64 4) ∧ Below w.heap.size w w' :=
  (sigma_below wtC w).mono fun _ _ ⟨he, hb⟩ => ⟨by rw [he]; exact ret_int ((if_pos (by decide)).trans root16), hb⟩
theorem ex_margin (w : World) : Calls Tryd.prog 21 #[.agg (nums 10000 0 0 0 5), .int .i64 3] w fun e w' => e = .returned (.int .i64 16000) ∧ Below w.heap.size w w' :=
  (margin_below ⟨10000, 0, 0, 0, 5⟩ 3 w).mono fun _ _ ⟨he, hb⟩ => ⟨by rw [he]; exact ret_int ((if_pos (by decide)).trans (by rw [show sigmaOf ⟨10000, 0, 0, 0, 5⟩ = 2 from (if_pos (by decide)).trans root5]; decide)), hb⟩
theorem ex_agrees (w : World) : Calls Tryd.prog 25 #[.agg (nums 14000 0 0 0 1), .agg (nums 20000 0 0 0 3)] w fun e w' => e = .returned (.bool true) ∧ Below w.heap.size w w' :=
  (agrees_below ⟨14000, 0, 0, 0, 1⟩ ⟨20000, 0, 0, 0, 3⟩ w).mono fun _ _ ⟨he, hb⟩ => ⟨by rw [he]; rfl, hb⟩
theorem ex_agrees_not (w : World) : Calls Tryd.prog 25 #[.agg (nums 14000 0 0 0 1), .agg (nums 20000 0 0 0 2)] w fun e w' => e = .returned (.bool false) ∧ Below w.heap.size w w' :=
  (agrees_below ⟨14000, 0, 0, 0, 1⟩ ⟨20000, 0, 0, 0, 2⟩ w).mono fun _ _ ⟨he, hb⟩ => ⟨by rw [he]; rfl, hb⟩
theorem ex_check (w : World) : Calls Tryd.prog 13 #[.agg (nums (-1) 0 0 0 0)] w fun e w' => e = .returned (.int .i64 9) ∧ Below w.heap.size w w' :=
  (check_any (-1) 0 0 0 0 w).mono fun _ _ ⟨he, hb⟩ => ⟨by rw [he]; rfl, hb⟩
theorem blk2 (w : World) (o : Obj) (t : TypeId) (cs : Array Value) : Blk (w.alloc o) w.heap.size t cs ↔ o = .cells cs t (0, 0) := by
  unfold Blk
  rw [heap_alloc_new]
  simp
theorem three_blk (w : World) (o : Obj) (c1 c2 : Array Value) (t : TypeId) : Blk (((w.alloc o).alloc (.cells c1 t)).alloc (.cells c2 t)) (w.heap.size + 1) t c1 ∧ Blk (((w.alloc o).alloc (.cells c1 t)).alloc (.cells c2 t)) (w.heap.size + 1 + 1) t c2 ∧
    Below w.heap.size w (((w.alloc o).alloc (.cells c1 t)).alloc (.cells c2 t)) := by
  have h1 := (Blk.new (w.alloc o) t c1).alloc (.cells c2 t)
  have h2 := Blk.new ((w.alloc o).alloc (.cells c1 t)) t c2
  exact ⟨by simpa using h1, by simpa using h2, by go_grown⟩
set_option maxHeartbeats 4000000 in
set_option maxRecDepth 100000 in
theorem awake_true (w : World) : Calls Tryd.prog 8 #[] w fun e w' => e = .returned (.bool true) ∧ Below w.heap.size w w' := by
  go_enter Tryd.func8, Tryd.ntmps8
  go_wp2_with fail
  refine (ex_add _).mono ?_
  rintro e w1 ⟨rfl, hb1⟩
  have Hb1 : Hid (Below w.heap.size w w1) := Lib.hid (by have := hb1.mono (B' := w.heap.size) (by simp; omega); exact Below.trans (by go_grown) this)
  clear hb1
  go_wp2_with fail
  refine (ex_rounded _).mono ?_
  rintro e w2 ⟨rfl, hb2⟩
  have T3 : Hid (Blk w2 w1.heap.size 23 (nums 4000 2000 0 9000 16)) := Lib.hid ((Blk.new w1 _ _).below hb2 (by simp))
  have Hb2 : Hid (Below w.heap.size w w2) := Lib.hid (Below.trans (Hb1.out.alloc Hb1.out.size _) (hb2.mono (by have := Hb1.out.size; simp; omega)))
  clear hb2
  go_wp2_with fail
  refine (ex_centre _).mono ?_
  rintro e w3 ⟨rfl, hb3⟩
  have T3b : Hid (Blk w3 w1.heap.size 23 (nums 4000 2000 0 9000 16)) := Lib.hid ((T3.out.alloc _).below hb3 (T3.out.alloc _).lt)
  have T5 : Hid (Blk w3 w2.heap.size 41 #[.int .i64 1, .int .i64 0, .int .i64 2]) := Lib.hid ((Blk.new w2 _ _).below hb3 (by simp))
  have Hb3 : Hid (Below w.heap.size w w3) := Lib.hid (Below.trans (Hb2.out.alloc Hb2.out.size _) (hb3.mono (by have := Hb2.out.size; simp; omega)))
  clear hb3 T3
  go_wp2_with fail
  have F4 := Lib.hid (four_new w3 (.cells ratZ 37) (.cells ratZ 37) ratZ #[.int .i64 0, .int .i64 1152921504606846976, .int .i64 0, .int .i64 0, .int .i64 0, .int .i64 0, .int .i64 1152921504606846976, .int .i64 0, .int .i64 0, .int .i64 0, .int .i64 0, .int .i64 (-1152921504606846976), .int .i64 0, .int .i64 0, .int .i64 0] 37 23)
  refine (ex_sum _ _ F4.out.2.1).mono ?_
  rintro e w4 ⟨rfl, hb4⟩
  have hs4 : w3.heap.size < w4.heap.size := by have := hb4.size; rw [F4.out.2.2.2] at this; omega
  have hbb : Below w3.heap.size w3 w4 := F4.out.2.2.1.trans (hb4.mono (by rw [F4.out.2.2.2]; omega))
  have T3c : Hid (Blk w4 w1.heap.size 23 (nums 4000 2000 0 9000 16)) := Lib.hid (T3b.out.below hbb T3b.out.lt)
  have T5b : Hid (Blk w4 w2.heap.size 41 #[.int .i64 1, .int .i64 0, .int .i64 2]) := Lib.hid (T5.out.below hbb T5.out.lt)
  have Hb4 : Hid (Below w.heap.size w w4) := Lib.hid (Below.trans Hb3.out (hbb.mono Hb3.out.size))
  clear hb4 hbb F4 T3b T5 hs4
  go_wp2_with fail
  refine (ex_weighed _).mono ?_
  rintro e w5 ⟨rfl, hb5⟩
  have T3 : Hid (Blk w5 w1.heap.size 23 (nums 4000 2000 0 9000 16)) := Lib.hid ((T3c.out.alloc _).below hb5 (T3c.out.alloc _).lt)
  have T5 : Hid (Blk w5 w2.heap.size 41 #[.int .i64 1, .int .i64 0, .int .i64 2]) := Lib.hid ((T5b.out.alloc _).below hb5 (T5b.out.alloc _).lt)
  have T11 : Hid (Blk w5 w4.heap.size 23 (nums 0 1152921504606846976 0 0 0)) := Lib.hid ((Blk.new w4 _ _).below hb5 (by simp))
  have Hb5 : Hid (Below w.heap.size w w5) := Lib.hid (Below.trans (Hb4.out.alloc Hb4.out.size _) (hb5.mono (by have := Hb4.out.size; simp; omega)))
  clear hb5 T3c T5b
  have l3 := T3.out.lt; have l5 := T5.out.lt; have l11 := T11.out.lt
  have a0 := T3.out.cell 0; have a1 := T3.out.cell 1; have a2 := T3.out.cell 2; have a3 := T3.out.cell 3; have a4 := T3.out.cell 4
  have b0 := T5.out.cell 0; have b1 := T5.out.cell 1; have b2 := T5.out.cell 2
  have c1 := T11.out.cell 1
  simp at a0 a1 a2 a3 a4 b0 b1 b2 c1
  clear T5 T11 Hb1 Hb2 Hb3 Hb4
  have l3a : w1.heap.size < w5.heap.size + 1 := by omega
  have l3b : w1.heap.size < w5.heap.size + 1 + 1 := by omega
  go_wp2_with fail
  refine (ex_sigma _).mono ?_
  rintro e w6 ⟨rfl, hb6⟩
  have F3 := Lib.hid (three_blk w5 (.cells (nums 1000 2000 0 (-3000) 16) 23) (nums 14000 0 0 0 1) (nums 20000 0 0 0 3) 23)
  have U1 : Hid (Blk w6 (w5.heap.size + 1) 23 (nums 14000 0 0 0 1)) := Lib.hid (F3.out.1.below hb6 F3.out.1.lt)
  have U2 : Hid (Blk w6 (w5.heap.size + 1 + 1) 23 (nums 20000 0 0 0 3)) := Lib.hid (F3.out.2.1.below hb6 F3.out.2.1.lt)
  have Hb6 : Hid (Below w.heap.size w w6) := Lib.hid ((Hb5.out.trans (F3.out.2.2.mono Hb5.out.size)).trans (hb6.mono (Nat.le_trans Hb5.out.size F3.out.2.2.size)))
  clear hb6 F3 Hb5 a0 a1 a2 a3 a4 b0 b1 b2 c1 T3 l3 l5 l11 l3a l3b
  go_wp2_with fail
  refine (ex_margin _).mono ?_
  rintro e w7 ⟨rfl, hb7⟩
  have V1 : Hid (Blk w7 (w5.heap.size + 1) 23 (nums 14000 0 0 0 1)) := Lib.hid (U1.out.below hb7 U1.out.lt)
  have V2 : Hid (Blk w7 (w5.heap.size + 1 + 1) 23 (nums 20000 0 0 0 3)) := Lib.hid (U2.out.below hb7 U2.out.lt)
  have Hb7 : Hid (Below w.heap.size w w7) := Lib.hid (Hb6.out.trans (hb7.mono Hb6.out.size))
  clear hb7 U1 U2 Hb6
  have a0 := V1.out.cell 0; have a1 := V1.out.cell 1; have a2 := V1.out.cell 2; have a3 := V1.out.cell 3; have a4 := V1.out.cell 4
  have b0 := V2.out.cell 0; have b1 := V2.out.cell 1; have b2 := V2.out.cell 2; have b3 := V2.out.cell 3; have b4 := V2.out.cell 4
  simp at a0 a1 a2 a3 a4 b0 b1 b2 b3 b4
  go_wp2_with fail
  refine (ex_agrees _).mono ?_
  rintro e w8 ⟨rfl, hb8⟩
  have U1 : Hid (Blk w8 (w5.heap.size + 1) 23 (nums 14000 0 0 0 1)) := Lib.hid (V1.out.below hb8 V1.out.lt)
  have Hb8 : Hid (Below w.heap.size w w8) := Lib.hid (Hb7.out.trans (hb8.mono Hb7.out.size))
  clear hb8 V1 V2 Hb7 a0 a1 a2 a3 a4 b0 b1 b2 b3 b4
  have a0 := U1.out.cell 0; have a1 := U1.out.cell 1; have a2 := U1.out.cell 2; have a3 := U1.out.cell 3; have a4 := U1.out.cell 4
  simp at a0 a1 a2 a3 a4
  go_wp2_with fail
  refine (ex_agrees_not _).mono ?_
  rintro e w9 ⟨rfl, hb9⟩
  have Hb9 : Hid (Below w.heap.size w w9) := Lib.hid (Hb8.out.trans (hb9.mono Hb8.out.size))
  clear hb9 U1 Hb8 a0 a1 a2 a3 a4
  go_wp2_with fail
  refine (ex_check _).mono ?_
  rintro e w10 ⟨rfl, hb10⟩
  have Hb10 : Hid (Below w.heap.size w w10) := Lib.hid (Hb9.out.trans (hb10.mono Hb9.out.size))
  clear hb10 Hb9
  go_wp2_with fail
  go_ret
  exact ⟨rfl, Hb10.out⟩
end Go.Proofs.YtfgeocpooimojaaDoor
