/-
  WeightCentres returns true: Centre, Rounded, Sigma and Margin return what is specified. Conditions: the library's table lies in its variable.
-/
import Derived.Test.YtfgeocpooimojaaDoorQPfWeightCentres30
import Derived.Test.YtfgeocpooimojaaDoorQPfWeightCentres31
import Derived.Test.YtfgeocpooimojaaDoorQPfWeightCentres32
namespace Go.Proofs.YtfgeocpooimojaaDoor
open Go Go.RowKit

theorem ratP_le (a b : Int) : ratP a b ≤ a.natAbs := Nat.div_le_self _ _
theorem ratQ_le (a b : Int) : ratQ a b ≤ b.natAbs := Nat.div_le_self _ _
theorem centres_same (a : Wt) : ∃ (n1 n2 n3 : Bool) (p1 q1 p2 q2 p3 q3 : Nat), (p1 < 18446744073709551616 ∧ q1 < 18446744073709551616 ∧ p2 < 18446744073709551616 ∧ q2 < 18446744073709551616 ∧ p3 < 18446744073709551616 ∧ q3 < 18446744073709551616) ∧
    (∀ W, Tab W → Calls Tryd.prog 15 #[.agg #[.int .i64 a.m, .int .i64 a.x, .int .i64 a.y, .int .i64 a.z, .int .i64 a.v]] W fun e w' => e = .returned (.tuple #[.agg (ratS n1 p1 q1), .agg (ratS n2 p2 q2), .agg (ratS n3 p3 q3), .int .i64 (divE a)]) ∧ Below W.heap.size W w') ∧
    (∀ W, Calls Tryd.prog 16 #[.agg #[.int .i64 a.m, .int .i64 a.x, .int .i64 a.y, .int .i64 a.z, .int .i64 a.v]] W fun e w' => e = .returned (.tuple #[.agg (ratS n1 p1 q1), .agg (ratS n2 p2 q2), .agg (ratS n3 p3 q3), .int .i64 (divE a)]) ∧ Below W.heap.size W w') := by
  by_cases hd : divE a = 0
  · obtain ⟨hm, hx, hy, hz⟩ := divE_zero hd
    have b1 := ratP_le a.x a.m; have b2 := ratQ_le a.x a.m; have b3 := ratP_le a.y a.m; have b4 := ratQ_le a.y a.m; have b5 := ratP_le a.z a.m; have b6 := ratQ_le a.z a.m
    refine ⟨ratN a.x a.m, ratN a.y a.m, ratN a.z a.m, ratP a.x a.m, ratQ a.x a.m, ratP a.y a.m, ratQ a.y a.m, ratP a.z a.m, ratQ a.z a.m, ⟨by omega, by omega, by omega, by omega, by omega, by omega⟩, fun W hT => ?_, fun W => ?_⟩
    · rw [hd]; exact centre_yes a hd W hT
    · rw [hd]; exact refCentre_yes a hd W
  · exact ⟨false, false, false, 0, 0, 0, 0, 0, 0, ⟨by omega, by omega, by omega, by omega, by omega, by omega⟩, fun W _ => centre_no a hd W, fun W => refCentre_no a hd W⟩
set_option maxHeartbeats 8000000 in
set_option maxRecDepth 100000 in
theorem weightCentres_true (a : Wt) (n : Int) (w : World) (hT : Tab w) :
    Calls Tryd.prog 4 #[.agg #[.int .i64 a.m, .int .i64 a.x, .int .i64 a.y, .int .i64 a.z, .int .i64 a.v], .int .i64 n] w fun e w' => e = .returned (.bool true) ∧ Below w.heap.size w w' := by
  obtain ⟨n1, n2, n3, p1, q1, p2, q2, p3, q3, hpq, c1, c2⟩ := centres_same a
  have HT := Lib.hid hT
  have C1 := Lib.hid c1; have C2 := Lib.hid c2
  have e1 := fun W => eq_rat n1 p1 q1 hpq.1 hpq.2.1 W
  have e2 := fun W => eq_rat n2 p2 q2 hpq.2.2.1 hpq.2.2.2.1 W
  have e3 := fun W => eq_rat n3 p3 q3 hpq.2.2.2.2.1 hpq.2.2.2.2.2 W
  have E1 := Lib.hid e1; have E2 := Lib.hid e2; have E3 := Lib.hid e3
  clear hT c1 c2 hpq e1 e2 e3
  have C3 : Hid (∀ W, Calls Tryd.prog 17 #[.agg #[.int .i64 a.m, .int .i64 a.x, .int .i64 a.y, .int .i64 a.z, .int .i64 a.v]] W fun e w' => e = .returned (.tuple #[.agg #[.int .i64 (rndX a), .int .i64 (rndY a), .int .i64 (rndZ a)], .int .i64 (divE a)]) ∧ Below W.heap.size W w') := fun W => rounded_below a W
  have C4 : Hid (∀ W, Calls Tryd.prog 18 #[.agg #[.int .i64 a.m, .int .i64 a.x, .int .i64 a.y, .int .i64 a.z, .int .i64 a.v]] W fun e w' => e = .returned (.tuple #[.agg #[.int .i64 (rndX a), .int .i64 (rndY a), .int .i64 (rndZ a)], .int .i64 (divE a)]) ∧ Below W.heap.size W w') := fun W => refRounded_below a W
  have S1 : Hid (∀ W, Calls Tryd.prog 19 #[.agg #[.int .i64 a.m, .int .i64 a.x, .int .i64 a.y, .int .i64 a.z, .int .i64 a.v]] W fun e w' => e = .returned (.int .i64 (sigmaOf a)) ∧ Below W.heap.size W w') := fun W => sigma_below a W
  have S2 : Hid (∀ W, Calls Tryd.prog 20 #[.agg #[.int .i64 a.m, .int .i64 a.x, .int .i64 a.y, .int .i64 a.z, .int .i64 a.v]] W fun e w' => e = .returned (.int .i64 (sigmaOf a)) ∧ Below W.heap.size W w') := fun W => refSigma_below a W
  have M1 : Hid (∀ W, Calls Tryd.prog 21 #[.agg #[.int .i64 a.m, .int .i64 a.x, .int .i64 a.y, .int .i64 a.z, .int .i64 a.v], .int .i64 n] W fun e w' => e = .returned (.int .i64 (marginOf a n)) ∧ Below W.heap.size W w') := fun W => margin_below a n W
  have M2 : Hid (∀ W, Calls Tryd.prog 22 #[.agg #[.int .i64 a.m, .int .i64 a.x, .int .i64 a.y, .int .i64 a.z, .int .i64 a.v], .int .i64 n] W fun e w' => e = .returned (.int .i64 (marginOf a n)) ∧ Below W.heap.size W w') := fun W => refMargin_below a n W
  have K0 := Lib.hid (Blk.new w 23 #[.int .i64 a.m, .int .i64 a.x, .int .i64 a.y, .int .i64 a.z, .int .i64 a.v])
  generalize divE a = dE at *
  generalize rndX a = r1 at *
  generalize rndY a = r2 at *
  generalize rndZ a = r3 at *
  generalize sigmaOf a = sg at *
  generalize marginOf a n = mg at *
  have T1 : Hid (Tab (w.alloc (.cells #[.int .i64 a.m, .int .i64 a.x, .int .i64 a.y, .int .i64 a.z, .int .i64 a.v] 23))) := HT.out.later (by go_grown)
  have B0 : Hid (Below w.heap.size w (w.alloc (.cells #[.int .i64 a.m, .int .i64 a.x, .int .i64 a.y, .int .i64 a.z, .int .i64 a.v] 23))) := by unfold Hid; go_grown
  go_enter Tryd.func4, Tryd.ntmps4
  go_wp2_with fail
  refine (C1.out _ T1.out).mono ?_
  rintro e w1 ⟨rfl, hb1⟩
  have K1 := Lib.hid (K0.out.below hb1 K0.out.lt)
  have Hb1 := Lib.hid (B0.out.trans (hb1.mono B0.out.size))
  have hlt1 : w.heap.size < w1.heap.size := K1.out.lt
  clear hb1 K0 B0 T1 HT C1
  have Z := Lib.hid (blk_start3r w1 37 37 37 (ratS false 0 0) (ratS false 0 0) (ratS false 0 0))
  go_upto_region 2 with (first | (refine wpList_store_row rfl 37 (.tmp 5) (.tmp 20) rfl w1.heap.size (ratS n1 p1 q1) rfl rfl 37 (ratS false 0 0) (Z.out.1) (zero_of_info Tryd.infoRat).2 rfl (ratS_one _ _ _) ?_; simp only [Act.put]) | (refine wpList_store_row rfl 37 (.tmp 6) (.tmp 21) rfl (w1.heap.size + 1) (ratS n2 p2 q2) rfl rfl 37 (ratS false 0 0) (Z.out.2.1.farRow (show (w1.heap.size + 1) ≠ w1.heap.size by omega) (ratS n1 p1 q1)) (zero_of_info Tryd.infoRat).2 rfl (ratS_one _ _ _) ?_; simp only [Act.put]) | (refine wpList_store_row rfl 37 (.tmp 7) (.tmp 22) rfl (w1.heap.size + 1 + 1) (ratS n3 p3 q3) rfl rfl 37 (ratS false 0 0) ((Z.out.2.2.1.farRow (show (w1.heap.size + 1 + 1) ≠ w1.heap.size by omega) (ratS n1 p1 q1)).farRow (show (w1.heap.size + 1 + 1) ≠ (w1.heap.size + 1) by omega) (ratS n2 p2 q2)) (zero_of_info Tryd.infoRat).2 rfl (ratS_one _ _ _) ?_; simp only [Act.put]))
  have D0 := Lib.hid (((Z.out.1.setRow (ratS n1 p1 q1)).farRow (show w1.heap.size ≠ (w1.heap.size + 1) by omega) (ratS n2 p2 q2)).farRow (show w1.heap.size ≠ (w1.heap.size + 1 + 1) by omega) (ratS n3 p3 q3))
  have D1 := Lib.hid (((Z.out.2.1.farRow (show (w1.heap.size + 1) ≠ w1.heap.size by omega) (ratS n1 p1 q1)).setRow (ratS n2 p2 q2)).farRow (show (w1.heap.size + 1) ≠ (w1.heap.size + 1 + 1) by omega) (ratS n3 p3 q3))
  have D2 := Lib.hid (((Z.out.2.2.1.farRow (show (w1.heap.size + 1 + 1) ≠ w1.heap.size by omega) (ratS n1 p1 q1)).farRow (show (w1.heap.size + 1 + 1) ≠ (w1.heap.size + 1) by omega) (ratS n2 p2 q2)).setRow (ratS n3 p3 q3))
  have K2 := Lib.hid ((((((K1.out.alloc (.cells (ratS false 0 0) 37)).alloc (.cells (ratS false 0 0) 37)).alloc (.cells (ratS false 0 0) 37)).farRow (show w.heap.size ≠ w1.heap.size by omega) (ratS n1 p1 q1)).farRow (show w.heap.size ≠ (w1.heap.size + 1) by omega) (ratS n2 p2 q2)).farRow (show w.heap.size ≠ (w1.heap.size + 1 + 1) by omega) (ratS n3 p3 q3))
  have Hb2 : Hid (Below w.heap.size w ((((((w1.alloc (.cells (ratS false 0 0) 37)).alloc (.cells (ratS false 0 0) 37)).alloc (.cells (ratS false 0 0) 37)).setRow w1.heap.size (ratS n1 p1 q1)).setRow (w1.heap.size + 1) (ratS n2 p2 q2)).setRow (w1.heap.size + 1 + 1) (ratS n3 p3 q3))) := below_setRow (below_setRow (below_setRow (Hb1.out.trans (Z.out.2.2.2.mono Hb1.out.size)) (by omega) _) (by omega) _) (by omega) _
  clear Z K1 Hb1
  generalize ((((((w1.alloc (.cells (ratS false 0 0) 37)).alloc (.cells (ratS false 0 0) 37)).alloc (.cells (ratS false 0 0) 37)).setRow w1.heap.size (ratS n1 p1 q1)).setRow (w1.heap.size + 1) (ratS n2 p2 q2)).setRow (w1.heap.size + 1 + 1) (ratS n3 p3 q3)) = w2 at *
  have x0 := K2.out.cell 0; have x1 := K2.out.cell 1; have x2 := K2.out.cell 2; have x3 := K2.out.cell 3; have x4 := K2.out.cell 4
  simp at x0 x1 x2 x3 x4
  go_wp2_with fail
  refine (C2.out _).mono ?_
  rintro e w3 ⟨rfl, hb3⟩
  have K3 := Lib.hid (K2.out.below hb3 K2.out.lt); have F0 := Lib.hid (D0.out.below hb3 D0.out.lt); have F1 := Lib.hid (D1.out.below hb3 D1.out.lt); have F2 := Lib.hid (D2.out.below hb3 D2.out.lt)
  have Hb3 := Lib.hid (Hb2.out.trans (hb3.mono Hb2.out.size))
  have hlt3 : w1.heap.size + 1 + 1 < w3.heap.size := F2.out.lt
  clear hb3 K2 D0 D1 D2 Hb2 C2 x0 x1 x2 x3 x4
  have Z := Lib.hid (blk_start3r w3 37 37 37 (ratS false 0 0) (ratS false 0 0) (ratS false 0 0))
  go_upto_region 3 with (first | (refine wpList_store_row rfl 37 (.tmp 9) (.tmp 27) rfl w3.heap.size (ratS n1 p1 q1) rfl rfl 37 (ratS false 0 0) (Z.out.1) (zero_of_info Tryd.infoRat).2 rfl (ratS_one _ _ _) ?_; simp only [Act.put]) | (refine wpList_store_row rfl 37 (.tmp 10) (.tmp 28) rfl (w3.heap.size + 1) (ratS n2 p2 q2) rfl rfl 37 (ratS false 0 0) (Z.out.2.1.farRow (show (w3.heap.size + 1) ≠ w3.heap.size by omega) (ratS n1 p1 q1)) (zero_of_info Tryd.infoRat).2 rfl (ratS_one _ _ _) ?_; simp only [Act.put]) | (refine wpList_store_row rfl 37 (.tmp 11) (.tmp 29) rfl (w3.heap.size + 1 + 1) (ratS n3 p3 q3) rfl rfl 37 (ratS false 0 0) ((Z.out.2.2.1.farRow (show (w3.heap.size + 1 + 1) ≠ w3.heap.size by omega) (ratS n1 p1 q1)).farRow (show (w3.heap.size + 1 + 1) ≠ (w3.heap.size + 1) by omega) (ratS n2 p2 q2)) (zero_of_info Tryd.infoRat).2 rfl (ratS_one _ _ _) ?_; simp only [Act.put]))
  have D0 := Lib.hid (((Z.out.1.setRow (ratS n1 p1 q1)).farRow (show w3.heap.size ≠ (w3.heap.size + 1) by omega) (ratS n2 p2 q2)).farRow (show w3.heap.size ≠ (w3.heap.size + 1 + 1) by omega) (ratS n3 p3 q3))
  have D1 := Lib.hid (((Z.out.2.1.farRow (show (w3.heap.size + 1) ≠ w3.heap.size by omega) (ratS n1 p1 q1)).setRow (ratS n2 p2 q2)).farRow (show (w3.heap.size + 1) ≠ (w3.heap.size + 1 + 1) by omega) (ratS n3 p3 q3))
  have D2 := Lib.hid (((Z.out.2.2.1.farRow (show (w3.heap.size + 1 + 1) ≠ w3.heap.size by omega) (ratS n1 p1 q1)).farRow (show (w3.heap.size + 1 + 1) ≠ (w3.heap.size + 1) by omega) (ratS n2 p2 q2)).setRow (ratS n3 p3 q3))
  have K4 := Lib.hid ((((((K3.out.alloc (.cells (ratS false 0 0) 37)).alloc (.cells (ratS false 0 0) 37)).alloc (.cells (ratS false 0 0) 37)).farRow (show w.heap.size ≠ w3.heap.size by omega) (ratS n1 p1 q1)).farRow (show w.heap.size ≠ (w3.heap.size + 1) by omega) (ratS n2 p2 q2)).farRow (show w.heap.size ≠ (w3.heap.size + 1 + 1) by omega) (ratS n3 p3 q3))
  have G0 := Lib.hid ((((((F0.out.alloc (.cells (ratS false 0 0) 37)).alloc (.cells (ratS false 0 0) 37)).alloc (.cells (ratS false 0 0) 37)).farRow (show w1.heap.size ≠ w3.heap.size by omega) (ratS n1 p1 q1)).farRow (show w1.heap.size ≠ (w3.heap.size + 1) by omega) (ratS n2 p2 q2)).farRow (show w1.heap.size ≠ (w3.heap.size + 1 + 1) by omega) (ratS n3 p3 q3))
  have G1 := Lib.hid ((((((F1.out.alloc (.cells (ratS false 0 0) 37)).alloc (.cells (ratS false 0 0) 37)).alloc (.cells (ratS false 0 0) 37)).farRow (show (w1.heap.size + 1) ≠ w3.heap.size by omega) (ratS n1 p1 q1)).farRow (show (w1.heap.size + 1) ≠ (w3.heap.size + 1) by omega) (ratS n2 p2 q2)).farRow (show (w1.heap.size + 1) ≠ (w3.heap.size + 1 + 1) by omega) (ratS n3 p3 q3))
  have G2 := Lib.hid ((((((F2.out.alloc (.cells (ratS false 0 0) 37)).alloc (.cells (ratS false 0 0) 37)).alloc (.cells (ratS false 0 0) 37)).farRow (show (w1.heap.size + 1 + 1) ≠ w3.heap.size by omega) (ratS n1 p1 q1)).farRow (show (w1.heap.size + 1 + 1) ≠ (w3.heap.size + 1) by omega) (ratS n2 p2 q2)).farRow (show (w1.heap.size + 1 + 1) ≠ (w3.heap.size + 1 + 1) by omega) (ratS n3 p3 q3))
  have Hb4 : Hid (Below w.heap.size w ((((((w3.alloc (.cells (ratS false 0 0) 37)).alloc (.cells (ratS false 0 0) 37)).alloc (.cells (ratS false 0 0) 37)).setRow w3.heap.size (ratS n1 p1 q1)).setRow (w3.heap.size + 1) (ratS n2 p2 q2)).setRow (w3.heap.size + 1 + 1) (ratS n3 p3 q3))) := below_setRow (below_setRow (below_setRow (Hb3.out.trans (Z.out.2.2.2.mono Hb3.out.size)) (by omega) _) (by omega) _) (by omega) _
  clear Z K3 Hb3 F0 F1 F2
  generalize ((((((w3.alloc (.cells (ratS false 0 0) 37)).alloc (.cells (ratS false 0 0) 37)).alloc (.cells (ratS false 0 0) 37)).setRow w3.heap.size (ratS n1 p1 q1)).setRow (w3.heap.size + 1) (ratS n2 p2 q2)).setRow (w3.heap.size + 1 + 1) (ratS n3 p3 q3)) = w4 at *
  have x0 := K4.out.cell 0; have x1 := K4.out.cell 1; have x2 := K4.out.cell 2; have x3 := K4.out.cell 3; have x4 := K4.out.cell 4
  simp at x0 x1 x2 x3 x4
  go_wp2_with fail
  refine (C3.out _).mono ?_
  rintro e w5 ⟨rfl, hb5⟩
  have A0 := Lib.hid ((K4.out.below hb5 K4.out.lt).alloc (.cells #[.int .i64 r1, .int .i64 r2, .int .i64 r3] 41)); have A1 := Lib.hid ((G0.out.below hb5 G0.out.lt).alloc (.cells #[.int .i64 r1, .int .i64 r2, .int .i64 r3] 41)); have A2 := Lib.hid ((G1.out.below hb5 G1.out.lt).alloc (.cells #[.int .i64 r1, .int .i64 r2, .int .i64 r3] 41)); have A3 := Lib.hid ((G2.out.below hb5 G2.out.lt).alloc (.cells #[.int .i64 r1, .int .i64 r2, .int .i64 r3] 41)); have A4 := Lib.hid ((D0.out.below hb5 D0.out.lt).alloc (.cells #[.int .i64 r1, .int .i64 r2, .int .i64 r3] 41)); have A5 := Lib.hid ((D1.out.below hb5 D1.out.lt).alloc (.cells #[.int .i64 r1, .int .i64 r2, .int .i64 r3] 41)); have A6 := Lib.hid ((D2.out.below hb5 D2.out.lt).alloc (.cells #[.int .i64 r1, .int .i64 r2, .int .i64 r3] 41))
  have A7 := Lib.hid (Blk.new w5 41 #[.int .i64 r1, .int .i64 r2, .int .i64 r3])
  have hlt5 : w3.heap.size + 1 + 1 < w5.heap.size := Nat.lt_of_lt_of_le D2.out.lt hb5.size
  have Hb5 := Lib.hid ((Hb4.out.trans (hb5.mono Hb4.out.size)).alloc (by have h1 := Hb4.out.size; have h2 := hb5.size; omega) (.cells #[.int .i64 r1, .int .i64 r2, .int .i64 r3] 41))
  clear hb5 K4 G0 G1 G2 D0 D1 D2 Hb4 C3 x0 x1 x2 x3 x4
  go_upto_region 4 with fail
  generalize w5.alloc (.cells #[.int .i64 r1, .int .i64 r2, .int .i64 r3] 41) = w6 at *
  have x0 := A0.out.cell 0; have x1 := A0.out.cell 1; have x2 := A0.out.cell 2; have x3 := A0.out.cell 3; have x4 := A0.out.cell 4
  simp at x0 x1 x2 x3 x4
  go_wp2_with fail
  refine (C4.out _).mono ?_
  rintro e w7 ⟨rfl, hb7⟩
  have B0 := Lib.hid ((A0.out.below hb7 A0.out.lt).alloc (.cells #[.int .i64 r1, .int .i64 r2, .int .i64 r3] 41)); have B1 := Lib.hid ((A1.out.below hb7 A1.out.lt).alloc (.cells #[.int .i64 r1, .int .i64 r2, .int .i64 r3] 41)); have B2 := Lib.hid ((A2.out.below hb7 A2.out.lt).alloc (.cells #[.int .i64 r1, .int .i64 r2, .int .i64 r3] 41)); have B3 := Lib.hid ((A3.out.below hb7 A3.out.lt).alloc (.cells #[.int .i64 r1, .int .i64 r2, .int .i64 r3] 41)); have B4 := Lib.hid ((A4.out.below hb7 A4.out.lt).alloc (.cells #[.int .i64 r1, .int .i64 r2, .int .i64 r3] 41)); have B5 := Lib.hid ((A5.out.below hb7 A5.out.lt).alloc (.cells #[.int .i64 r1, .int .i64 r2, .int .i64 r3] 41)); have B6 := Lib.hid ((A6.out.below hb7 A6.out.lt).alloc (.cells #[.int .i64 r1, .int .i64 r2, .int .i64 r3] 41)); have B7 := Lib.hid ((A7.out.below hb7 A7.out.lt).alloc (.cells #[.int .i64 r1, .int .i64 r2, .int .i64 r3] 41))
  have B8 := Lib.hid (Blk.new w7 41 #[.int .i64 r1, .int .i64 r2, .int .i64 r3])
  have Hb7 := Lib.hid ((Hb5.out.trans (hb7.mono Hb5.out.size)).alloc (by have h1 := Hb5.out.size; have h2 := hb7.size; omega) (.cells #[.int .i64 r1, .int .i64 r2, .int .i64 r3] 41))
  clear hb7 A0 A1 A2 A3 A4 A5 A6 A7 Hb5 C4 x0 x1 x2 x3 x4
  go_upto_region 5 with fail
  generalize w7.alloc (.cells #[.int .i64 r1, .int .i64 r2, .int .i64 r3] 41) = W at *
  have hB : w.heap.size ≤ W.heap.size := Hb7.out.size
  have hS0 : Held w.heap.size W [(w.heap.size, 23, #[.int .i64 a.m, .int .i64 a.x, .int .i64 a.y, .int .i64 a.z, .int .i64 a.v]), (w1.heap.size, 37, (ratS n1 p1 q1)), ((w1.heap.size + 1), 37, (ratS n2 p2 q2)), ((w1.heap.size + 1 + 1), 37, (ratS n3 p3 q3)), (w3.heap.size, 37, (ratS n1 p1 q1)), ((w3.heap.size + 1), 37, (ratS n2 p2 q2)), ((w3.heap.size + 1 + 1), 37, (ratS n3 p3 q3)), (w5.heap.size, 41, #[.int .i64 r1, .int .i64 r2, .int .i64 r3]), (w7.heap.size, 41, #[.int .i64 r1, .int .i64 r2, .int .i64 r3])] { W with drawn := W.drawn + 1 } := ⟨(Below.refl _ W).drew, by
    intro x hx
    simp only [List.mem_cons, List.not_mem_nil, or_false] at hx
    rcases hx with rfl | rfl | rfl | rfl | rfl | rfl | rfl | rfl | rfl
    · exact B0.out
    · exact B1.out
    · exact B2.out
    · exact B3.out
    · exact B4.out
    · exact B5.out
    · exact B6.out
    · exact B7.out
    · exact B8.out⟩
  have e1 := E1.out; have e2 := E2.out; have e3 := E3.out
  refine wp_region_Kn (n := 48) (S := Held (w.heap.size) W [(w.heap.size, 23, #[.int .i64 a.m, .int .i64 a.x, .int .i64 a.y, .int .i64 a.z, .int .i64 a.v]), (w1.heap.size, 37, (ratS n1 p1 q1)), ((w1.heap.size + 1), 37, (ratS n2 p2 q2)), ((w1.heap.size + 1 + 1), 37, (ratS n3 p3 q3)), (w3.heap.size, 37, (ratS n1 p1 q1)), ((w3.heap.size + 1), 37, (ratS n2 p2 q2)), ((w3.heap.size + 1 + 1), 37, (ratS n3 p3 q3)), (w5.heap.size, 41, #[.int .i64 r1, .int .i64 r2, .int .i64 r3]), (w7.heap.size, 41, #[.int .i64 r1, .int .i64 r2, .int .i64 r3])]) rfl (by kernel_rfl) ?_
  refine wpAnyK_taked (i := 0) (oi := _) (v := _) rfl rfl (by kernel_rfl) (by kernel_rfl) (by kernel_rfl) (fun _ _ _ h => h) (Held.grow hB) (yields_load_row (g := w1.heap.size) (t := 37) (cs := (ratS n1 p1 q1)) (by rfl) rfl rfl (fun _ h => h.2 _ (.tail _ (.head _))) Tryd.underlying37 rfl (by kernel_rfl)) hS0 ?_
  simp only [Act.put, List.setIfInBounds_toArray, List.set_cons_zero, List.set_cons_succ]
  refine wpAnyK_taked (i := 1) (oi := _) (v := _) rfl rfl (by kernel_rfl) (by kernel_rfl) (by kernel_rfl) (fun _ _ _ h => h) (Held.grow hB) (yields_load_row (g := w3.heap.size) (t := 37) (cs := (ratS n1 p1 q1)) (by rfl) rfl rfl (fun _ h => h.2 _ (.tail _ (.tail _ (.tail _ (.tail _ (.head _)))))) Tryd.underlying37 rfl (by kernel_rfl)) hS0 ?_
  simp only [Act.put, List.setIfInBounds_toArray, List.set_cons_zero, List.set_cons_succ]
  refine wpAnyK_taked (i := 2) (oi := _) (v := ?_) rfl rfl (by kernel_rfl) (by kernel_rfl) (by kernel_rfl) (fun _ _ _ h => h) (Held.grow hB) (yields_read (by rfl) ?hy2) hS0 ?_
  rotate_left
  case hy2 =>
    intro w' hSw
    go_simp
    try with_reducible rfl
  simp only [Act.put, List.setIfInBounds_toArray, List.set_cons_zero, List.set_cons_succ]
  refine wpAnyK_taked (i := 3) (oi := _) (v := ?_) rfl rfl (by kernel_rfl) (by kernel_rfl) (by kernel_rfl) (fun _ _ _ h => h) (Held.grow hB) (yields_read (by rfl) ?hy3) hS0 ?_
  rotate_left
  case hy3 =>
    intro w' hSw
    go_simp
    try with_reducible rfl
  simp only [Act.put, List.setIfInBounds_toArray, List.set_cons_zero, List.set_cons_succ]
  refine wpAnyK_taked (i := 4) (oi := _) (v := _) rfl rfl (by kernel_rfl) (by kernel_rfl) (by kernel_rfl) (fun _ _ _ h => h) (Held.grow hB) (yields_load_row (g := (w1.heap.size + 1)) (t := 37) (cs := (ratS n2 p2 q2)) (by rfl) rfl rfl (fun _ h => h.2 _ (.tail _ (.tail _ (.head _)))) Tryd.underlying37 rfl (by kernel_rfl)) hS0 ?_
  simp only [Act.put, List.setIfInBounds_toArray, List.set_cons_zero, List.set_cons_succ]
  refine wpAnyK_taked (i := 5) (oi := _) (v := _) rfl rfl (by kernel_rfl) (by kernel_rfl) (by kernel_rfl) (fun _ _ _ h => h) (Held.grow hB) (yields_load_row (g := (w3.heap.size + 1)) (t := 37) (cs := (ratS n2 p2 q2)) (by rfl) rfl rfl (fun _ h => h.2 _ (.tail _ (.tail _ (.tail _ (.tail _ (.tail _ (.head _))))))) Tryd.underlying37 rfl (by kernel_rfl)) hS0 ?_
  simp only [Act.put, List.setIfInBounds_toArray, List.set_cons_zero, List.set_cons_succ]
  refine wpAnyK_taked (i := 6) (oi := _) (v := ?_) rfl rfl (by kernel_rfl) (by kernel_rfl) (by kernel_rfl) (fun _ _ _ h => h) (Held.grow hB) (yields_read (by rfl) ?hy6) hS0 ?_
  rotate_left
  case hy6 =>
    intro w' hSw
    go_simp
    try with_reducible rfl
  simp only [Act.put, List.setIfInBounds_toArray, List.set_cons_zero, List.set_cons_succ]
  refine wpAnyK_taked (i := 7) (oi := _) (v := ?_) rfl rfl (by kernel_rfl) (by kernel_rfl) (by kernel_rfl) (fun _ _ _ h => h) (Held.grow hB) (yields_read (by rfl) ?hy7) hS0 ?_
  rotate_left
  case hy7 =>
    intro w' hSw
    go_simp
    try with_reducible rfl
  simp only [Act.put, List.setIfInBounds_toArray, List.set_cons_zero, List.set_cons_succ]
  refine wpAnyK_taked (i := 8) (oi := _) (v := ?_) rfl rfl (by kernel_rfl) (by kernel_rfl) (by kernel_rfl) (fun _ _ _ h => h) (Held.grow hB) (yields_read (by rfl) ?hy8) hS0 ?_
  rotate_left
  case hy8 =>
    intro w' hSw
    go_simp
    try with_reducible rfl
  simp only [Act.put, List.setIfInBounds_toArray, List.set_cons_zero, List.set_cons_succ]
  refine wpAnyK_taked (i := 9) (oi := _) (v := _) rfl rfl (by kernel_rfl) (by kernel_rfl) (by kernel_rfl) (fun _ _ _ h => h) (Held.grow hB) (yields_load_row (g := (w1.heap.size + 1 + 1)) (t := 37) (cs := (ratS n3 p3 q3)) (by rfl) rfl rfl (fun _ h => h.2 _ (.tail _ (.tail _ (.tail _ (.head _))))) Tryd.underlying37 rfl (by kernel_rfl)) hS0 ?_
  simp only [Act.put, List.setIfInBounds_toArray, List.set_cons_zero, List.set_cons_succ]
  refine wpAnyK_taked (i := 10) (oi := _) (v := _) rfl rfl (by kernel_rfl) (by kernel_rfl) (by kernel_rfl) (fun _ _ _ h => h) (Held.grow hB) (yields_load_row (g := (w3.heap.size + 1 + 1)) (t := 37) (cs := (ratS n3 p3 q3)) (by rfl) rfl rfl (fun _ h => h.2 _ (.tail _ (.tail _ (.tail _ (.tail _ (.tail _ (.tail _ (.head _)))))))) Tryd.underlying37 rfl (by kernel_rfl)) hS0 ?_
  simp only [Act.put, List.setIfInBounds_toArray, List.set_cons_zero, List.set_cons_succ]
  refine wpAnyK_taked (i := 11) (oi := _) (v := ?_) rfl rfl (by kernel_rfl) (by kernel_rfl) (by kernel_rfl) (fun _ _ _ h => h) (Held.grow hB) (yields_read (by rfl) ?hy11) hS0 ?_
  rotate_left
  case hy11 =>
    intro w' hSw
    go_simp
    try with_reducible rfl
  simp only [Act.put, List.setIfInBounds_toArray, List.set_cons_zero, List.set_cons_succ]
  refine wpAnyK_taked (i := 12) (oi := _) (v := ?_) rfl rfl (by kernel_rfl) (by kernel_rfl) (by kernel_rfl) (fun _ _ _ h => h) (Held.grow hB) (yields_read (by rfl) ?hy12) hS0 ?_
  rotate_left
  case hy12 =>
    intro w' hSw
    go_simp
    try with_reducible rfl
  simp only [Act.put, List.setIfInBounds_toArray, List.set_cons_zero, List.set_cons_succ]
  refine wpAnyK_taked (i := 13) (oi := _) (v := ?_) rfl rfl (by kernel_rfl) (by kernel_rfl) (by kernel_rfl) (fun _ _ _ h => h) (Held.grow hB) (yields_read (by rfl) ?hy13) hS0 ?_
  rotate_left
  case hy13 =>
    intro w' hSw
    go_simp
    try with_reducible rfl
  simp only [Act.put, List.setIfInBounds_toArray, List.set_cons_zero, List.set_cons_succ]
  refine wpAnyK_taked (i := 14) (oi := _) (v := ?_) rfl rfl (by kernel_rfl) (by kernel_rfl) (by kernel_rfl) (fun _ _ _ h => h) (Held.grow hB) (yields_read (by rfl) ?hy14) hS0 ?_
  rotate_left
  case hy14 =>
    intro w' hSw
    go_simp
    try with_reducible rfl
  simp only [Act.put, List.setIfInBounds_toArray, List.set_cons_zero, List.set_cons_succ]
  refine wpAnyK_taked (i := 15) (oi := _) (v := ?_) rfl rfl (by kernel_rfl) (by kernel_rfl) (by kernel_rfl) (fun _ _ _ h => h) (Held.grow hB) (yields_read (by rfl) ?hy15) hS0 ?_
  rotate_left
  case hy15 =>
    intro w' hSw
    go_simp
    try with_reducible rfl
  simp only [Act.put, List.setIfInBounds_toArray, List.set_cons_zero, List.set_cons_succ]
  refine wpAnyK_taked (i := 16) (oi := _) (v := ?_) rfl rfl (by kernel_rfl) (by kernel_rfl) (by kernel_rfl) (fun _ _ _ h => h) (Held.grow hB) (yields_read (by rfl) ?hy16) hS0 ?_
  rotate_left
  case hy16 =>
    intro w' hSw
    go_simp
    try with_reducible rfl
  simp only [Act.put, List.setIfInBounds_toArray, List.set_cons_zero, List.set_cons_succ]
  refine wpAnyK_taked (i := 17) (oi := _) (v := ?_) rfl rfl (by kernel_rfl) (by kernel_rfl) (by kernel_rfl) (fun _ _ _ h => h) (Held.grow hB) (yields_read (by rfl) ?hy17) hS0 ?_
  rotate_left
  case hy17 =>
    intro w' hSw
    go_simp
    try with_reducible rfl
  simp only [Act.put, List.setIfInBounds_toArray, List.set_cons_zero, List.set_cons_succ]
  refine wpAnyK_taked (i := 18) (oi := _) (v := ?_) rfl rfl (by kernel_rfl) (by kernel_rfl) (by kernel_rfl) (fun _ _ _ h => h) (Held.grow hB) (yields_read (by rfl) ?hy18) hS0 ?_
  rotate_left
  case hy18 =>
    intro w' hSw
    go_simp
    try with_reducible rfl
  simp only [Act.put, List.setIfInBounds_toArray, List.set_cons_zero, List.set_cons_succ]
  refine wpAnyK_taked (i := 19) (oi := _) (v := _) rfl rfl (by kernel_rfl) (by kernel_rfl) (by kernel_rfl) (fun _ _ _ h => h) (Held.grow hB) (yields_load_row (g := w5.heap.size) (t := 41) (cs := #[.int .i64 r1, .int .i64 r2, .int .i64 r3]) (by rfl) rfl rfl (fun _ h => h.2 _ (.tail _ (.tail _ (.tail _ (.tail _ (.tail _ (.tail _ (.tail _ (.head _))))))))) Tryd.underlying41 rfl (by kernel_rfl)) hS0 ?_
  simp only [Act.put, List.setIfInBounds_toArray, List.set_cons_zero, List.set_cons_succ]
  refine wpAnyK_taked (i := 20) (oi := _) (v := _) rfl rfl (by kernel_rfl) (by kernel_rfl) (by kernel_rfl) (fun _ _ _ h => h) (Held.grow hB) (yields_load_row (g := w7.heap.size) (t := 41) (cs := #[.int .i64 r1, .int .i64 r2, .int .i64 r3]) (by rfl) rfl rfl (fun _ h => h.2 _ (.tail _ (.tail _ (.tail _ (.tail _ (.tail _ (.tail _ (.tail _ (.tail _ (.head _)))))))))) Tryd.underlying41 rfl (by kernel_rfl)) hS0 ?_
  simp only [Act.put, List.setIfInBounds_toArray, List.set_cons_zero, List.set_cons_succ]
  refine wpAnyK_taked (i := 21) (oi := _) (v := ?_) rfl rfl (by kernel_rfl) (by kernel_rfl) (by kernel_rfl) (fun _ _ _ h => h) (Held.grow hB) (yields_read (by rfl) ?hy21) hS0 ?_
  rotate_left
  case hy21 =>
    intro w' hSw
    go_simp
    try with_reducible rfl
  simp only [Act.put, List.setIfInBounds_toArray, List.set_cons_zero, List.set_cons_succ]
  refine wpAnyK_taked (i := 22) (oi := _) (v := ?_) rfl rfl (by kernel_rfl) (by kernel_rfl) (by kernel_rfl) (fun _ _ _ h => h) (Held.grow hB) (yields_read (by rfl) ?hy22) hS0 ?_
  rotate_left
  case hy22 =>
    intro w' hSw
    go_simp
    try with_reducible rfl
  simp only [Act.put, List.setIfInBounds_toArray, List.set_cons_zero, List.set_cons_succ]
  refine wpAnyK_taked (i := 23) (oi := _) (v := ?_) rfl rfl (by kernel_rfl) (by kernel_rfl) (by kernel_rfl) (fun _ _ _ h => h) (Held.grow hB) (yields_read (by rfl) ?hy23) hS0 ?_
  rotate_left
  case hy23 =>
    intro w' hSw
    go_simp
    try with_reducible rfl
  simp only [Act.put, List.setIfInBounds_toArray, List.set_cons_zero, List.set_cons_succ]
  refine wpAnyK_taked (i := 24) (oi := _) (v := ?_) rfl rfl (by kernel_rfl) (by kernel_rfl) (by kernel_rfl) (fun _ _ _ h => h) (Held.grow hB) (yields_read (by rfl) ?hy24) hS0 ?_
  rotate_left
  case hy24 =>
    intro w' hSw
    go_simp
    try with_reducible rfl
  simp only [Act.put, List.setIfInBounds_toArray, List.set_cons_zero, List.set_cons_succ]
  refine wpAnyK_taked (i := 25) (oi := _) (v := ?_) rfl rfl (by kernel_rfl) (by kernel_rfl) (by kernel_rfl) (fun _ _ _ h => h) (Held.grow hB) (yields_read (by rfl) ?hy25) hS0 ?_
  rotate_left
  case hy25 =>
    intro w' hSw
    go_simp
    try with_reducible rfl
  simp only [Act.put, List.setIfInBounds_toArray, List.set_cons_zero, List.set_cons_succ]
  refine wpAnyK_taked (i := 26) (oi := _) (v := ?_) rfl rfl (by kernel_rfl) (by kernel_rfl) (by kernel_rfl) (fun _ _ _ h => h) (Held.grow hB) (yields_read (by rfl) ?hy26) hS0 ?_
  rotate_left
  case hy26 =>
    intro w' hSw
    go_simp
    try with_reducible rfl
  simp only [Act.put, List.setIfInBounds_toArray, List.set_cons_zero, List.set_cons_succ]
  refine wpAnyK_taked (i := 27) (oi := _) (v := ?_) rfl rfl (by kernel_rfl) (by kernel_rfl) (by kernel_rfl) (fun _ _ _ h => h) (Held.grow hB) (yields_read (by rfl) ?hy27) hS0 ?_
  rotate_left
  case hy27 =>
    intro w' hSw
    go_simp
    try with_reducible rfl
  simp only [Act.put, List.setIfInBounds_toArray, List.set_cons_zero, List.set_cons_succ]
  refine wpAnyK_taked (i := 28) (oi := _) (v := ?_) rfl rfl (by kernel_rfl) (by kernel_rfl) (by kernel_rfl) (fun _ _ _ h => h) (Held.grow hB) (yields_read (by rfl) ?hy28) hS0 ?_
  rotate_left
  case hy28 =>
    intro w' hSw
    go_simp
    try with_reducible rfl
  simp only [Act.put, List.setIfInBounds_toArray, List.set_cons_zero, List.set_cons_succ]
  refine wpAnyK_taked (i := 29) (oi := _) (v := _) rfl rfl (by kernel_rfl) (by kernel_rfl) (by kernel_rfl) (fun _ _ _ h => h) (Held.grow hB) (yields_load_row (g := w.heap.size) (t := 23) (cs := #[.int .i64 a.m, .int .i64 a.x, .int .i64 a.y, .int .i64 a.z, .int .i64 a.v]) (by rfl) rfl rfl (fun _ h => h.2 _ (.head _)) Tryd.underlying23 rfl (by kernel_rfl)) hS0 ?_
  simp only [Act.put, List.setIfInBounds_toArray, List.set_cons_zero, List.set_cons_succ]
  refine wpAnyK_taked (i := 30) (oi := _) (v := _) rfl rfl (by kernel_rfl) (by kernel_rfl) (by kernel_rfl) (fun _ _ _ h => h) (Held.grow hB) (yields_call (by rfl) ?hy30 fun w _ => S1.out w) hS0 ?_
  case hy30 =>
    intro w' hSw
    go_simp
    try with_reducible rfl
  simp only [Act.put, List.setIfInBounds_toArray, List.set_cons_zero, List.set_cons_succ]
  refine wpAnyK_taked (i := 31) (oi := _) (v := _) rfl rfl (by kernel_rfl) (by kernel_rfl) (by kernel_rfl) (fun _ _ _ h => h) (Held.grow hB) (yields_load_row (g := w.heap.size) (t := 23) (cs := #[.int .i64 a.m, .int .i64 a.x, .int .i64 a.y, .int .i64 a.z, .int .i64 a.v]) (by rfl) rfl rfl (fun _ h => h.2 _ (.head _)) Tryd.underlying23 rfl (by kernel_rfl)) hS0 ?_
  simp only [Act.put, List.setIfInBounds_toArray, List.set_cons_zero, List.set_cons_succ]
  refine wpAnyK_taked (i := 32) (oi := _) (v := _) rfl rfl (by kernel_rfl) (by kernel_rfl) (by kernel_rfl) (fun _ _ _ h => h) (Held.grow hB) (yields_call (by rfl) ?hy32 fun w _ => S2.out w) hS0 ?_
  case hy32 =>
    intro w' hSw
    go_simp
    try with_reducible rfl
  simp only [Act.put, List.setIfInBounds_toArray, List.set_cons_zero, List.set_cons_succ]
  refine wpAnyK_taked (i := 33) (oi := _) (v := ?_) rfl rfl (by kernel_rfl) (by kernel_rfl) (by kernel_rfl) (fun _ _ _ h => h) (Held.grow hB) (yields_read (by rfl) ?hy33) hS0 ?_
  rotate_left
  case hy33 =>
    intro w' hSw
    go_simp
    try with_reducible rfl
  simp only [Act.put, List.setIfInBounds_toArray, List.set_cons_zero, List.set_cons_succ]
  refine wpAnyK_taked (i := 34) (oi := _) (v := ?_) rfl rfl (by kernel_rfl) (by kernel_rfl) (by kernel_rfl) (fun _ _ _ h => h) (Held.grow hB) (yields_read (by rfl) ?hy34) hS0 ?_
  rotate_left
  case hy34 =>
    intro w' hSw
    go_simp
    try with_reducible rfl
  simp only [Act.put, List.setIfInBounds_toArray, List.set_cons_zero, List.set_cons_succ]
  refine wpAnyK_taked (i := 35) (oi := _) (v := ?_) rfl rfl (by kernel_rfl) (by kernel_rfl) (by kernel_rfl) (fun _ _ _ h => h) (Held.grow hB) (yields_read (by rfl) ?hy35) hS0 ?_
  rotate_left
  case hy35 =>
    intro w' hSw
    go_simp
    try with_reducible rfl
  simp only [Act.put, List.setIfInBounds_toArray, List.set_cons_zero, List.set_cons_succ]
  refine wpAnyK_taked (i := 36) (oi := _) (v := _) rfl rfl (by kernel_rfl) (by kernel_rfl) (by kernel_rfl) (fun _ _ _ h => h) (Held.grow hB) (yields_load_row (g := w.heap.size) (t := 23) (cs := #[.int .i64 a.m, .int .i64 a.x, .int .i64 a.y, .int .i64 a.z, .int .i64 a.v]) (by rfl) rfl rfl (fun _ h => h.2 _ (.head _)) Tryd.underlying23 rfl (by kernel_rfl)) hS0 ?_
  simp only [Act.put, List.setIfInBounds_toArray, List.set_cons_zero, List.set_cons_succ]
  refine wpAnyK_taked (i := 37) (oi := _) (v := ?_) rfl rfl (by kernel_rfl) (by kernel_rfl) (by kernel_rfl) (fun _ _ _ h => h) (Held.grow hB) (yields_read (by rfl) ?hy37) hS0 ?_
  rotate_left
  case hy37 =>
    intro w' hSw
    go_simp
    try with_reducible rfl
  simp only [Act.put, List.setIfInBounds_toArray, List.set_cons_zero, List.set_cons_succ]
  refine wpAnyK_taked (i := 38) (oi := _) (v := _) rfl rfl (by kernel_rfl) (by kernel_rfl) (by kernel_rfl) (fun _ _ _ h => h) (Held.grow hB) (yields_call (by rfl) ?hy38 fun w _ => M1.out w) hS0 ?_
  case hy38 =>
    intro w' hSw
    go_simp
    try with_reducible rfl
  simp only [Act.put, List.setIfInBounds_toArray, List.set_cons_zero, List.set_cons_succ]
  refine wpAnyK_taked (i := 39) (oi := _) (v := _) rfl rfl (by kernel_rfl) (by kernel_rfl) (by kernel_rfl) (fun _ _ _ h => h) (Held.grow hB) (yields_load_row (g := w.heap.size) (t := 23) (cs := #[.int .i64 a.m, .int .i64 a.x, .int .i64 a.y, .int .i64 a.z, .int .i64 a.v]) (by rfl) rfl rfl (fun _ h => h.2 _ (.head _)) Tryd.underlying23 rfl (by kernel_rfl)) hS0 ?_
  simp only [Act.put, List.setIfInBounds_toArray, List.set_cons_zero, List.set_cons_succ]
  refine wpAnyK_taked (i := 40) (oi := _) (v := ?_) rfl rfl (by kernel_rfl) (by kernel_rfl) (by kernel_rfl) (fun _ _ _ h => h) (Held.grow hB) (yields_read (by rfl) ?hy40) hS0 ?_
  rotate_left
  case hy40 =>
    intro w' hSw
    go_simp
    try with_reducible rfl
  simp only [Act.put, List.setIfInBounds_toArray, List.set_cons_zero, List.set_cons_succ]
  refine wpAnyK_taked (i := 41) (oi := _) (v := _) rfl rfl (by kernel_rfl) (by kernel_rfl) (by kernel_rfl) (fun _ _ _ h => h) (Held.grow hB) (yields_call (by rfl) ?hy41 fun w _ => M2.out w) hS0 ?_
  case hy41 =>
    intro w' hSw
    go_simp
    try with_reducible rfl
  simp only [Act.put, List.setIfInBounds_toArray, List.set_cons_zero, List.set_cons_succ]
  refine wpAnyK_taked (i := 42) (oi := _) (v := ?_) rfl rfl (by kernel_rfl) (by kernel_rfl) (by kernel_rfl) (fun _ _ _ h => h) (Held.grow hB) (yields_read (by rfl) ?hy42) hS0 ?_
  rotate_left
  case hy42 =>
    intro w' hSw
    go_simp
    try with_reducible rfl
  simp only [Act.put, List.setIfInBounds_toArray, List.set_cons_zero, List.set_cons_succ]
  refine wpAnyK_taked (i := 43) (oi := _) (v := ?_) rfl rfl (by kernel_rfl) (by kernel_rfl) (by kernel_rfl) (fun _ _ _ h => h) (Held.grow hB) (yields_read (by rfl) ?hy43) hS0 ?_
  rotate_left
  case hy43 =>
    intro w' hSw
    go_simp
    try with_reducible rfl
  simp only [Act.put, List.setIfInBounds_toArray, List.set_cons_zero, List.set_cons_succ]
  refine wpAnyK_taked (i := 44) (oi := _) (v := ?_) rfl rfl (by kernel_rfl) (by kernel_rfl) (by kernel_rfl) (fun _ _ _ h => h) (Held.grow hB) (yields_read (by rfl) ?hy44) hS0 ?_
  rotate_left
  case hy44 =>
    intro w' hSw
    go_simp
    try with_reducible rfl
  simp only [Act.put, List.setIfInBounds_toArray, List.set_cons_zero, List.set_cons_succ]
  refine wpAnyK_taked (i := 45) (oi := _) (v := _) rfl rfl (by kernel_rfl) (by kernel_rfl) (by kernel_rfl) (fun _ _ _ h => h) (Held.grow hB) (yields_call (by rfl) ?hy45 fun w _ => awake_true w) hS0 ?_
  case hy45 =>
    intro w' hSw
    go_simp
    try with_reducible rfl
  simp only [Act.put, List.setIfInBounds_toArray, List.set_cons_zero, List.set_cons_succ]
  refine wpAnyK_taked (i := 46) (oi := _) (v := ?_) rfl rfl (by kernel_rfl) (by kernel_rfl) (by kernel_rfl) (fun _ _ _ h => h) (Held.grow hB) (yields_read (by rfl) ?hy46) hS0 ?_
  rotate_left
  case hy46 =>
    intro w' hSw
    go_simp
    try with_reducible rfl
  simp only [Act.put, List.setIfInBounds_toArray, List.set_cons_zero, List.set_cons_succ]
  refine wpAnyK_taked (i := 47) (oi := _) (v := ?_) rfl rfl (by kernel_rfl) (by kernel_rfl) (by kernel_rfl) (fun _ _ _ h => h) (Held.grow hB) (yields_read (by rfl) ?hy47) hS0 ?_
  rotate_left
  case hy47 =>
    intro w' hSw
    go_simp
    try with_reducible rfl
  simp only [Act.put, List.setIfInBounds_toArray, List.set_cons_zero, List.set_cons_succ]
  refine wpAnyK_done (by kernel_rfl) ?_ _
  intro w8 hb8
  have Hb8 := Lib.hid (Hb7.out.trans (Held.grow hB _ _ hS0 hb8).1)
  clear hb8 hS0 e1 e2 e3
  go_wp2_with fail
  go_ret
  exact ⟨rfl, Hb8.out⟩
end Go.Proofs.YtfgeocpooimojaaDoor
