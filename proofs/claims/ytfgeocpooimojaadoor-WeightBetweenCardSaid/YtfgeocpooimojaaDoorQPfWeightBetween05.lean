/-
  WeightBetween returns true: the centre of a sum lies between the centres. Conditions: the weights have been read; the library's table lies in its variable.
-/
import Derived.Test.YtfgeocpooimojaaDoorQPfWeightBetween04
import Derived.Test.YtfgeocpooimojaaDoorQPfWeightCentres32
namespace Go.Proofs.YtfgeocpooimojaaDoor
open Go Go.RowKit

theorem sumErr_zero {a b : Wt} (h : sumErr [a, b] = 0) : a.okB = true ∧ b.okB = true ∧ sumVal [a, b] = ⟨a.m + b.m, a.x + b.x, a.y + b.y, a.z + b.z, a.v + b.v⟩ ∧ (sumVal [a, b]).okB = true := by
  unfold sumErr at h
  unfold sumVal
  cases h1 : [a, b].all Wt.okB
  · rw [h1] at h; simp at h
  · rw [h1] at h
    simp only [if_true] at h ⊢
    have h2 : a.okB = true ∧ b.okB = true := by simpa using h1
    unfold sumX at h
    unfold sumR
    cases h3 : (sumWt [a, b]).okB
    · rw [h3] at h; simp at h
    · simp only [if_true]
      refine ⟨h2.1, h2.2, ?_, h3⟩
      simp [sumWt]
theorem divE_ok {a : Wt} (h : a.okB = true) (hm : 1 ≤ a.m) : divE a = 0 := by unfold divE; rw [if_pos h, if_neg (by omega)]
set_option maxHeartbeats 4000000 in
set_option maxRecDepth 100000 in
theorem between_no (a b : Wt) (ha : a.In) (hb : b.In) (h : ¬ (sumErr [a, b] = 0 ∧ 1 ≤ a.m ∧ 1 ≤ b.m)) (w : World) :
    Calls Tryd.prog 7 #[.agg #[.int .i64 a.m, .int .i64 a.x, .int .i64 a.y, .int .i64 a.z, .int .i64 a.v], .agg #[.int .i64 b.m, .int .i64 b.x, .int .i64 b.y, .int .i64 b.z, .int .i64 b.v]] w fun e w' => e = .returned (.bool true) ∧ Below w.heap.size w w' := by
  have C : Hid (∀ W, Calls Tryd.prog 9 #[.agg #[.int .i64 a.m, .int .i64 a.x, .int .i64 a.y, .int .i64 a.z, .int .i64 a.v], .agg #[.int .i64 b.m, .int .i64 b.x, .int .i64 b.y, .int .i64 b.z, .int .i64 b.v]] W fun e w' => e = .returned (.tuple #[.agg #[.int .i64 (sumVal [a, b]).m, .int .i64 (sumVal [a, b]).x, .int .i64 (sumVal [a, b]).y, .int .i64 (sumVal [a, b]).z, .int .i64 (sumVal [a, b]).v], .int .i64 (sumErr [a, b])]) ∧ Below W.heap.size W w') := fun W => weightAdd_any a b ha hb W
  have HB := Lib.hid (blk_start2 w 23 23 #[.int .i64 a.m, .int .i64 a.x, .int .i64 a.y, .int .i64 a.z, .int .i64 a.v] #[.int .i64 b.m, .int .i64 b.x, .int .i64 b.y, .int .i64 b.z, .int .i64 b.v])
  generalize sumErr [a, b] = E at *
  generalize sumVal [a, b] = s at *
  have hc : (E != 0) = true ∨ ((E != 0) = false ∧ a.m < 1) ∨ ((E != 0) = false ∧ ¬ a.m < 1 ∧ b.m < 1) := by
    by_cases h1 : E = 0
    · have h2 : (E != 0) = false := by simpa using h1
      by_cases h3 : a.m < 1
      · exact .inr (.inl ⟨h2, h3⟩)
      · exact .inr (.inr ⟨h2, h3, by omega⟩)
    · exact .inl (by simpa using h1)
  clear h ha hb
  rcases hc with h1 | ⟨h1, h2⟩ | ⟨h1, h2, h3⟩
  all_goals
    go_enter Tryd.func7, Tryd.ntmps7
    go_wp2_with fail
    refine (C.out _).mono ?_
    rintro e w1 ⟨rfl, hb1⟩
    have K0 := Lib.hid ((HB.out.1.below hb1 HB.out.1.lt).alloc (.cells #[.int .i64 s.m, .int .i64 s.x, .int .i64 s.y, .int .i64 s.z, .int .i64 s.v] 23))
    have K1 := Lib.hid ((HB.out.2.1.below hb1 HB.out.2.1.lt).alloc (.cells #[.int .i64 s.m, .int .i64 s.x, .int .i64 s.y, .int .i64 s.z, .int .i64 s.v] 23))
    have Hb1' : Below w.heap.size w w1 := HB.out.2.2.trans (hb1.mono HB.out.2.2.size)
    have Hb1 := Lib.hid (Hb1'.alloc Hb1'.size (.cells #[.int .i64 s.m, .int .i64 s.x, .int .i64 s.y, .int .i64 s.z, .int .i64 s.v] 23))
    clear hb1 HB C Hb1'
    go_upto_region 2 with fail
    generalize w1.alloc (.cells #[.int .i64 s.m, .int .i64 s.x, .int .i64 s.y, .int .i64 s.z, .int .i64 s.v] 23) = w2 at *
    have c0 := K0.out.cell 0; have d0 := K1.out.cell 0
    simp at c0 d0
    go_wp2_with (go_at_call 8; refine (awake_true _).mono ?_; rintro e w1 ⟨rfl, hb⟩)
    go_ret
    exact ⟨rfl, Hb1.out.trans (hb.mono Hb1.out.size)⟩
set_option maxHeartbeats 8000000 in
set_option maxRecDepth 100000 in
theorem between_yes (a b : Wt) (ha : a.In) (hb : b.In) (h0 : sumErr [a, b] = 0) (hma : 1 ≤ a.m) (hmb : 1 ≤ b.m) (w : World) (hT : Tab w) :
    Calls Tryd.prog 7 #[.agg #[.int .i64 a.m, .int .i64 a.x, .int .i64 a.y, .int .i64 a.z, .int .i64 a.v], .agg #[.int .i64 b.m, .int .i64 b.x, .int .i64 b.y, .int .i64 b.z, .int .i64 b.v]] w fun e w' => e = .returned (.bool true) ∧ Below w.heap.size w w' := by
  obtain ⟨oka, okb, hs, oks⟩ := sumErr_zero h0
  have C : Hid (∀ W, Calls Tryd.prog 9 #[.agg #[.int .i64 a.m, .int .i64 a.x, .int .i64 a.y, .int .i64 a.z, .int .i64 a.v], .agg #[.int .i64 b.m, .int .i64 b.x, .int .i64 b.y, .int .i64 b.z, .int .i64 b.v]] W fun e w' => e = .returned (.tuple #[.agg #[.int .i64 (a.m + b.m), .int .i64 (a.x + b.x), .int .i64 (a.y + b.y), .int .i64 (a.z + b.z), .int .i64 (a.v + b.v)], .int .i64 0]) ∧ Below W.heap.size W w') := fun W => by
    have := weightAdd_any a b ha hb W
    rw [hs, h0] at this
    exact this
  rw [hs] at oks
  have ba := (okW_iff _ _ _ _ _).1 oka; have bb := (okW_iff _ _ _ _ _).1 okb; have bs := (okW_iff _ _ _ _ _).1 oks
  simp only at bs
  have CA : Hid (∀ W, Tab W → Calls Tryd.prog 15 #[.agg #[.int .i64 a.m, .int .i64 a.x, .int .i64 a.y, .int .i64 a.z, .int .i64 a.v]] W fun e w' => e = .returned (.tuple #[.agg (ratS (ratN a.x a.m) (ratP a.x a.m) (ratQ a.x a.m)), .agg (ratS (ratN a.y a.m) (ratP a.y a.m) (ratQ a.y a.m)), .agg (ratS (ratN a.z a.m) (ratP a.z a.m) (ratQ a.z a.m)), .int .i64 0]) ∧ Below W.heap.size W w') := fun W h => centre_yes a (divE_ok oka hma) W h
  have CB : Hid (∀ W, Tab W → Calls Tryd.prog 15 #[.agg #[.int .i64 b.m, .int .i64 b.x, .int .i64 b.y, .int .i64 b.z, .int .i64 b.v]] W fun e w' => e = .returned (.tuple #[.agg (ratS (ratN b.x b.m) (ratP b.x b.m) (ratQ b.x b.m)), .agg (ratS (ratN b.y b.m) (ratP b.y b.m) (ratQ b.y b.m)), .agg (ratS (ratN b.z b.m) (ratP b.z b.m) (ratQ b.z b.m)), .int .i64 0]) ∧ Below W.heap.size W w') := fun W h => centre_yes b (divE_ok okb hmb) W h
  have CS : Hid (∀ W, Tab W → Calls Tryd.prog 15 #[.agg #[.int .i64 (a.m + b.m), .int .i64 (a.x + b.x), .int .i64 (a.y + b.y), .int .i64 (a.z + b.z), .int .i64 (a.v + b.v)]] W fun e w' => e = .returned (.tuple #[.agg (ratS (ratN (a.x + b.x) (a.m + b.m)) (ratP (a.x + b.x) (a.m + b.m)) (ratQ (a.x + b.x) (a.m + b.m))), .agg (ratS (ratN (a.y + b.y) (a.m + b.m)) (ratP (a.y + b.y) (a.m + b.m)) (ratQ (a.y + b.y) (a.m + b.m))), .agg (ratS (ratN (a.z + b.z) (a.m + b.m)) (ratP (a.z + b.z) (a.m + b.m)) (ratQ (a.z + b.z) (a.m + b.m))), .int .i64 0]) ∧ Below W.heap.size W w') := fun W h => centre_yes ⟨a.m + b.m, a.x + b.x, a.y + b.y, a.z + b.z, a.v + b.v⟩ (divE_ok oks (by show 1 ≤ a.m + b.m; omega)) W h
  have V1 : Hid (∀ W, Tab W → Calls Tryd.prog 27 #[.agg (ratS (ratN (a.x + b.x) (a.m + b.m)) (ratP (a.x + b.x) (a.m + b.m)) (ratQ (a.x + b.x) (a.m + b.m)))] W fun e w' => e = .returned (.bool true) ∧ Below W.heap.size W w') := fun W h => by
    have l := rat_low (a.x + b.x) (a.m + b.m) (by omega) (by omega) (by omega) (by omega)
    exact ratioValid_at _ _ _ l.1 l.2.1 l.2.2 W h
  have I1 : Hid (∀ W, Calls Tryd.prog 28 #[.agg (ratS (ratN a.x a.m) (ratP a.x a.m) (ratQ a.x a.m)), .agg (ratS (ratN (a.x + b.x) (a.m + b.m)) (ratP (a.x + b.x) (a.m + b.m)) (ratQ (a.x + b.x) (a.m + b.m))), .agg (ratS (ratN b.x b.m) (ratP b.x b.m) (ratQ b.x b.m))] W fun e w' => e = .returned (.bool true) ∧ Below W.heap.size W w') := fun W => within_sum a.x a.m b.x b.m ⟨by omega, by omega⟩ ⟨by omega, by omega⟩ ⟨by omega, by omega⟩ ⟨hma, by omega⟩ ⟨hmb, by omega⟩ (by omega) W
  have V2 : Hid (∀ W, Tab W → Calls Tryd.prog 27 #[.agg (ratS (ratN (a.y + b.y) (a.m + b.m)) (ratP (a.y + b.y) (a.m + b.m)) (ratQ (a.y + b.y) (a.m + b.m)))] W fun e w' => e = .returned (.bool true) ∧ Below W.heap.size W w') := fun W h => by
    have l := rat_low (a.y + b.y) (a.m + b.m) (by omega) (by omega) (by omega) (by omega)
    exact ratioValid_at _ _ _ l.1 l.2.1 l.2.2 W h
  have I2 : Hid (∀ W, Calls Tryd.prog 28 #[.agg (ratS (ratN a.y a.m) (ratP a.y a.m) (ratQ a.y a.m)), .agg (ratS (ratN (a.y + b.y) (a.m + b.m)) (ratP (a.y + b.y) (a.m + b.m)) (ratQ (a.y + b.y) (a.m + b.m))), .agg (ratS (ratN b.y b.m) (ratP b.y b.m) (ratQ b.y b.m))] W fun e w' => e = .returned (.bool true) ∧ Below W.heap.size W w') := fun W => within_sum a.y a.m b.y b.m ⟨by omega, by omega⟩ ⟨by omega, by omega⟩ ⟨by omega, by omega⟩ ⟨hma, by omega⟩ ⟨hmb, by omega⟩ (by omega) W
  have V3 : Hid (∀ W, Tab W → Calls Tryd.prog 27 #[.agg (ratS (ratN (a.z + b.z) (a.m + b.m)) (ratP (a.z + b.z) (a.m + b.m)) (ratQ (a.z + b.z) (a.m + b.m)))] W fun e w' => e = .returned (.bool true) ∧ Below W.heap.size W w') := fun W h => by
    have l := rat_low (a.z + b.z) (a.m + b.m) (by omega) (by omega) (by omega) (by omega)
    exact ratioValid_at _ _ _ l.1 l.2.1 l.2.2 W h
  have I3 : Hid (∀ W, Calls Tryd.prog 28 #[.agg (ratS (ratN a.z a.m) (ratP a.z a.m) (ratQ a.z a.m)), .agg (ratS (ratN (a.z + b.z) (a.m + b.m)) (ratP (a.z + b.z) (a.m + b.m)) (ratQ (a.z + b.z) (a.m + b.m))), .agg (ratS (ratN b.z b.m) (ratP b.z b.m) (ratQ b.z b.m))] W fun e w' => e = .returned (.bool true) ∧ Below W.heap.size W w') := fun W => within_sum a.z a.m b.z b.m ⟨by omega, by omega⟩ ⟨by omega, by omega⟩ ⟨by omega, by omega⟩ ⟨hma, by omega⟩ ⟨hmb, by omega⟩ (by omega) W
  generalize ratN a.x a.m = an1 at *
  generalize ratP a.x a.m = ap1 at *
  generalize ratQ a.x a.m = aq1 at *
  generalize ratN a.y a.m = an2 at *
  generalize ratP a.y a.m = ap2 at *
  generalize ratQ a.y a.m = aq2 at *
  generalize ratN a.z a.m = an3 at *
  generalize ratP a.z a.m = ap3 at *
  generalize ratQ a.z a.m = aq3 at *
  generalize ratN b.x b.m = bn1 at *
  generalize ratP b.x b.m = bp1 at *
  generalize ratQ b.x b.m = bq1 at *
  generalize ratN b.y b.m = bn2 at *
  generalize ratP b.y b.m = bp2 at *
  generalize ratQ b.y b.m = bq2 at *
  generalize ratN b.z b.m = bn3 at *
  generalize ratP b.z b.m = bp3 at *
  generalize ratQ b.z b.m = bq3 at *
  generalize ratN (a.x + b.x) (a.m + b.m) = sn1 at *
  generalize ratP (a.x + b.x) (a.m + b.m) = sp1 at *
  generalize ratQ (a.x + b.x) (a.m + b.m) = sq1 at *
  generalize ratN (a.y + b.y) (a.m + b.m) = sn2 at *
  generalize ratP (a.y + b.y) (a.m + b.m) = sp2 at *
  generalize ratQ (a.y + b.y) (a.m + b.m) = sq2 at *
  generalize ratN (a.z + b.z) (a.m + b.m) = sn3 at *
  generalize ratP (a.z + b.z) (a.m + b.m) = sp3 at *
  generalize ratQ (a.z + b.z) (a.m + b.m) = sq3 at *
  have HT := Lib.hid hT
  have HB := Lib.hid (blk_start2 w 23 23 #[.int .i64 a.m, .int .i64 a.x, .int .i64 a.y, .int .i64 a.z, .int .i64 a.v] #[.int .i64 b.m, .int .i64 b.x, .int .i64 b.y, .int .i64 b.z, .int .i64 b.v])
  have g1 : ¬ a.m < 1 := by omega
  have g2 : ¬ b.m < 1 := by omega
  clear ha hb h0 oka okb oks hs ba bb bs hT
  go_enter Tryd.func7, Tryd.ntmps7
  go_wp2_with fail
  refine (C.out _).mono ?_
  rintro e w1 ⟨rfl, hb1⟩
  have Ka := Lib.hid ((HB.out.1.below hb1 HB.out.1.lt).alloc (.cells #[.int .i64 (a.m + b.m), .int .i64 (a.x + b.x), .int .i64 (a.y + b.y), .int .i64 (a.z + b.z), .int .i64 (a.v + b.v)] 23))
  have Kb := Lib.hid ((HB.out.2.1.below hb1 HB.out.2.1.lt).alloc (.cells #[.int .i64 (a.m + b.m), .int .i64 (a.x + b.x), .int .i64 (a.y + b.y), .int .i64 (a.z + b.z), .int .i64 (a.v + b.v)] 23))
  have Ks := Lib.hid (Blk.new w1 23 #[.int .i64 (a.m + b.m), .int .i64 (a.x + b.x), .int .i64 (a.y + b.y), .int .i64 (a.z + b.z), .int .i64 (a.v + b.v)])
  have Hb1' : Below w.heap.size w w1 := HB.out.2.2.trans (hb1.mono HB.out.2.2.size)
  have Hb1 := Lib.hid (Hb1'.alloc Hb1'.size (.cells #[.int .i64 (a.m + b.m), .int .i64 (a.x + b.x), .int .i64 (a.y + b.y), .int .i64 (a.z + b.z), .int .i64 (a.v + b.v)] 23))
  have hl1 : w.heap.size + 1 < w1.heap.size := Nat.lt_of_lt_of_le (by simp) hb1.size
  clear hb1 HB C Hb1'
  go_upto_region 2 with fail
  generalize w1.alloc (.cells #[.int .i64 (a.m + b.m), .int .i64 (a.x + b.x), .int .i64 (a.y + b.y), .int .i64 (a.z + b.z), .int .i64 (a.v + b.v)] 23) = w2 at *
  have x0 := Ka.out.cell 0; have x1 := Ka.out.cell 1; have x2 := Ka.out.cell 2; have x3 := Ka.out.cell 3; have x4 := Ka.out.cell 4
  simp at x0 x1 x2 x3 x4
  have y0 := Kb.out.cell 0; have y1 := Kb.out.cell 1; have y2 := Kb.out.cell 2; have y3 := Kb.out.cell 3; have y4 := Kb.out.cell 4
  simp at y0 y1 y2 y3 y4
  go_wp2_with fail
  refine (CA.out _ (HT.out.later Hb1.out)).mono ?_
  rintro e w3 ⟨rfl, hbw3⟩
  have Ka' := Lib.hid (Ka.out.below hbw3 Ka.out.lt)
  have Kb' := Lib.hid (Kb.out.below hbw3 Kb.out.lt)
  have Ks' := Lib.hid (Ks.out.below hbw3 Ks.out.lt)
  have Hbw3 := Lib.hid (Hb1.out.trans (hbw3.mono Hb1.out.size))
  have hlw3 : w1.heap.size < w3.heap.size := Ks'.out.lt
  have Z := Lib.hid (blk_start3r w3 37 37 37 (ratS false 0 0) (ratS false 0 0) (ratS false 0 0))
  clear Ka Kb Ks Hb1 CA hbw3 x0 x1 x2 x3 x4 y0 y1 y2 y3 y4
  go_upto_region 5 with (first | (refine wpList_store_row rfl 37 (.tmp 7) (.tmp 41) rfl w3.heap.size (ratS an1 ap1 aq1) rfl rfl 37 (ratS false 0 0) (Z.out.1) (zero_of_info Tryd.infoRat).2 rfl (ratS_one _ _ _) ?_; simp only [Act.put]) | (refine wpList_store_row rfl 37 (.tmp 8) (.tmp 42) rfl (w3.heap.size + 1) (ratS an2 ap2 aq2) rfl rfl 37 (ratS false 0 0) (Z.out.2.1.farRow (show (w3.heap.size + 1) ≠ w3.heap.size by omega) (ratS an1 ap1 aq1)) (zero_of_info Tryd.infoRat).2 rfl (ratS_one _ _ _) ?_; simp only [Act.put]) | (refine wpList_store_row rfl 37 (.tmp 9) (.tmp 43) rfl (w3.heap.size + 1 + 1) (ratS an3 ap3 aq3) rfl rfl 37 (ratS false 0 0) ((Z.out.2.2.1.farRow (show (w3.heap.size + 1 + 1) ≠ w3.heap.size by omega) (ratS an1 ap1 aq1)).farRow (show (w3.heap.size + 1 + 1) ≠ (w3.heap.size + 1) by omega) (ratS an2 ap2 aq2)) (zero_of_info Tryd.infoRat).2 rfl (ratS_one _ _ _) ?_; simp only [Act.put]))
  have aX := Lib.hid (((Z.out.1.setRow (ratS an1 ap1 aq1)).farRow (show w3.heap.size ≠ (w3.heap.size + 1) by omega) (ratS an2 ap2 aq2)).farRow (show w3.heap.size ≠ (w3.heap.size + 1 + 1) by omega) (ratS an3 ap3 aq3))
  have aY := Lib.hid (((Z.out.2.1.farRow (show (w3.heap.size + 1) ≠ w3.heap.size by omega) (ratS an1 ap1 aq1)).setRow (ratS an2 ap2 aq2)).farRow (show (w3.heap.size + 1) ≠ (w3.heap.size + 1 + 1) by omega) (ratS an3 ap3 aq3))
  have aZ := Lib.hid (((Z.out.2.2.1.farRow (show (w3.heap.size + 1 + 1) ≠ w3.heap.size by omega) (ratS an1 ap1 aq1)).farRow (show (w3.heap.size + 1 + 1) ≠ (w3.heap.size + 1) by omega) (ratS an2 ap2 aq2)).setRow (ratS an3 ap3 aq3))
  have Mb := Lib.hid (below_setRow (below_setRow (below_setRow Z.out.2.2.2 (Nat.le_refl _) (ratS an1 ap1 aq1)) (show w3.heap.size ≤ (w3.heap.size + 1) by omega) (ratS an2 ap2 aq2)) (show w3.heap.size ≤ (w3.heap.size + 1 + 1) by omega) (ratS an3 ap3 aq3))
  have Ka := Lib.hid (Ka'.out.below Mb.out Ka'.out.lt)
  have Kb := Lib.hid (Kb'.out.below Mb.out Kb'.out.lt)
  have Ks := Lib.hid (Ks'.out.below Mb.out Ks'.out.lt)
  have Hbw4 := Lib.hid (Hbw3.out.trans (Mb.out.mono Hbw3.out.size))
  clear Z Mb Hbw3 Ka' Kb' Ks'
  generalize (((((w3.alloc (.cells (ratS false 0 0) 37)).alloc (.cells (ratS false 0 0) 37)).alloc (.cells (ratS false 0 0) 37)).setRow w3.heap.size (ratS an1 ap1 aq1)).setRow (w3.heap.size + 1) (ratS an2 ap2 aq2)).setRow (w3.heap.size + 1 + 1) (ratS an3 ap3 aq3) = w4 at *
  have x0 := Kb.out.cell 0; have x1 := Kb.out.cell 1; have x2 := Kb.out.cell 2; have x3 := Kb.out.cell 3; have x4 := Kb.out.cell 4
  simp at x0 x1 x2 x3 x4
  go_wp2_with fail
  refine (CB.out _ (HT.out.later Hbw4.out)).mono ?_
  rintro e w5 ⟨rfl, hbw5⟩
  have Ka' := Lib.hid (Ka.out.below hbw5 Ka.out.lt)
  have Kb' := Lib.hid (Kb.out.below hbw5 Kb.out.lt)
  have Ks' := Lib.hid (Ks.out.below hbw5 Ks.out.lt)
  have aX' := Lib.hid (aX.out.below hbw5 aX.out.lt)
  have aY' := Lib.hid (aY.out.below hbw5 aY.out.lt)
  have aZ' := Lib.hid (aZ.out.below hbw5 aZ.out.lt)
  have Hbw5 := Lib.hid (Hbw4.out.trans (hbw5.mono Hbw4.out.size))
  have hlw5 : (w3.heap.size + 1 + 1) < w5.heap.size := aZ'.out.lt
  have Z := Lib.hid (blk_start3r w5 37 37 37 (ratS false 0 0) (ratS false 0 0) (ratS false 0 0))
  clear Ka Kb Ks aX aY aZ Hbw4 CB hbw5 x0 x1 x2 x3 x4
  go_upto_region 6 with (first | (refine wpList_store_row rfl 37 (.tmp 11) (.tmp 48) rfl w5.heap.size (ratS bn1 bp1 bq1) rfl rfl 37 (ratS false 0 0) (Z.out.1) (zero_of_info Tryd.infoRat).2 rfl (ratS_one _ _ _) ?_; simp only [Act.put]) | (refine wpList_store_row rfl 37 (.tmp 12) (.tmp 49) rfl (w5.heap.size + 1) (ratS bn2 bp2 bq2) rfl rfl 37 (ratS false 0 0) (Z.out.2.1.farRow (show (w5.heap.size + 1) ≠ w5.heap.size by omega) (ratS bn1 bp1 bq1)) (zero_of_info Tryd.infoRat).2 rfl (ratS_one _ _ _) ?_; simp only [Act.put]) | (refine wpList_store_row rfl 37 (.tmp 13) (.tmp 50) rfl (w5.heap.size + 1 + 1) (ratS bn3 bp3 bq3) rfl rfl 37 (ratS false 0 0) ((Z.out.2.2.1.farRow (show (w5.heap.size + 1 + 1) ≠ w5.heap.size by omega) (ratS bn1 bp1 bq1)).farRow (show (w5.heap.size + 1 + 1) ≠ (w5.heap.size + 1) by omega) (ratS bn2 bp2 bq2)) (zero_of_info Tryd.infoRat).2 rfl (ratS_one _ _ _) ?_; simp only [Act.put]))
  have bX := Lib.hid (((Z.out.1.setRow (ratS bn1 bp1 bq1)).farRow (show w5.heap.size ≠ (w5.heap.size + 1) by omega) (ratS bn2 bp2 bq2)).farRow (show w5.heap.size ≠ (w5.heap.size + 1 + 1) by omega) (ratS bn3 bp3 bq3))
  have bY := Lib.hid (((Z.out.2.1.farRow (show (w5.heap.size + 1) ≠ w5.heap.size by omega) (ratS bn1 bp1 bq1)).setRow (ratS bn2 bp2 bq2)).farRow (show (w5.heap.size + 1) ≠ (w5.heap.size + 1 + 1) by omega) (ratS bn3 bp3 bq3))
  have bZ := Lib.hid (((Z.out.2.2.1.farRow (show (w5.heap.size + 1 + 1) ≠ w5.heap.size by omega) (ratS bn1 bp1 bq1)).farRow (show (w5.heap.size + 1 + 1) ≠ (w5.heap.size + 1) by omega) (ratS bn2 bp2 bq2)).setRow (ratS bn3 bp3 bq3))
  have Mb := Lib.hid (below_setRow (below_setRow (below_setRow Z.out.2.2.2 (Nat.le_refl _) (ratS bn1 bp1 bq1)) (show w5.heap.size ≤ (w5.heap.size + 1) by omega) (ratS bn2 bp2 bq2)) (show w5.heap.size ≤ (w5.heap.size + 1 + 1) by omega) (ratS bn3 bp3 bq3))
  have Ka := Lib.hid (Ka'.out.below Mb.out Ka'.out.lt)
  have Kb := Lib.hid (Kb'.out.below Mb.out Kb'.out.lt)
  have Ks := Lib.hid (Ks'.out.below Mb.out Ks'.out.lt)
  have aX := Lib.hid (aX'.out.below Mb.out aX'.out.lt)
  have aY := Lib.hid (aY'.out.below Mb.out aY'.out.lt)
  have aZ := Lib.hid (aZ'.out.below Mb.out aZ'.out.lt)
  have Hbw6 := Lib.hid (Hbw5.out.trans (Mb.out.mono Hbw5.out.size))
  clear Z Mb Hbw5 Ka' Kb' Ks' aX' aY' aZ'
  generalize (((((w5.alloc (.cells (ratS false 0 0) 37)).alloc (.cells (ratS false 0 0) 37)).alloc (.cells (ratS false 0 0) 37)).setRow w5.heap.size (ratS bn1 bp1 bq1)).setRow (w5.heap.size + 1) (ratS bn2 bp2 bq2)).setRow (w5.heap.size + 1 + 1) (ratS bn3 bp3 bq3) = w6 at *
  have x0 := Ks.out.cell 0; have x1 := Ks.out.cell 1; have x2 := Ks.out.cell 2; have x3 := Ks.out.cell 3; have x4 := Ks.out.cell 4
  simp at x0 x1 x2 x3 x4
  go_wp2_with fail
  refine (CS.out _ (HT.out.later Hbw6.out)).mono ?_
  rintro e w7 ⟨rfl, hbw7⟩
  have Ka' := Lib.hid (Ka.out.below hbw7 Ka.out.lt)
  have Kb' := Lib.hid (Kb.out.below hbw7 Kb.out.lt)
  have Ks' := Lib.hid (Ks.out.below hbw7 Ks.out.lt)
  have aX' := Lib.hid (aX.out.below hbw7 aX.out.lt)
  have aY' := Lib.hid (aY.out.below hbw7 aY.out.lt)
  have aZ' := Lib.hid (aZ.out.below hbw7 aZ.out.lt)
  have bX' := Lib.hid (bX.out.below hbw7 bX.out.lt)
  have bY' := Lib.hid (bY.out.below hbw7 bY.out.lt)
  have bZ' := Lib.hid (bZ.out.below hbw7 bZ.out.lt)
  have Hbw7 := Lib.hid (Hbw6.out.trans (hbw7.mono Hbw6.out.size))
  have hlw7 : (w5.heap.size + 1 + 1) < w7.heap.size := bZ'.out.lt
  have Z := Lib.hid (blk_start3r w7 37 37 37 (ratS false 0 0) (ratS false 0 0) (ratS false 0 0))
  clear Ka Kb Ks aX aY aZ bX bY bZ Hbw6 CS hbw7 x0 x1 x2 x3 x4
  go_upto_region 7 with (first | (refine wpList_store_row rfl 37 (.tmp 15) (.tmp 55) rfl w7.heap.size (ratS sn1 sp1 sq1) rfl rfl 37 (ratS false 0 0) (Z.out.1) (zero_of_info Tryd.infoRat).2 rfl (ratS_one _ _ _) ?_; simp only [Act.put]) | (refine wpList_store_row rfl 37 (.tmp 16) (.tmp 56) rfl (w7.heap.size + 1) (ratS sn2 sp2 sq2) rfl rfl 37 (ratS false 0 0) (Z.out.2.1.farRow (show (w7.heap.size + 1) ≠ w7.heap.size by omega) (ratS sn1 sp1 sq1)) (zero_of_info Tryd.infoRat).2 rfl (ratS_one _ _ _) ?_; simp only [Act.put]) | (refine wpList_store_row rfl 37 (.tmp 17) (.tmp 57) rfl (w7.heap.size + 1 + 1) (ratS sn3 sp3 sq3) rfl rfl 37 (ratS false 0 0) ((Z.out.2.2.1.farRow (show (w7.heap.size + 1 + 1) ≠ w7.heap.size by omega) (ratS sn1 sp1 sq1)).farRow (show (w7.heap.size + 1 + 1) ≠ (w7.heap.size + 1) by omega) (ratS sn2 sp2 sq2)) (zero_of_info Tryd.infoRat).2 rfl (ratS_one _ _ _) ?_; simp only [Act.put]))
  have sX := Lib.hid (((Z.out.1.setRow (ratS sn1 sp1 sq1)).farRow (show w7.heap.size ≠ (w7.heap.size + 1) by omega) (ratS sn2 sp2 sq2)).farRow (show w7.heap.size ≠ (w7.heap.size + 1 + 1) by omega) (ratS sn3 sp3 sq3))
  have sY := Lib.hid (((Z.out.2.1.farRow (show (w7.heap.size + 1) ≠ w7.heap.size by omega) (ratS sn1 sp1 sq1)).setRow (ratS sn2 sp2 sq2)).farRow (show (w7.heap.size + 1) ≠ (w7.heap.size + 1 + 1) by omega) (ratS sn3 sp3 sq3))
  have sZ := Lib.hid (((Z.out.2.2.1.farRow (show (w7.heap.size + 1 + 1) ≠ w7.heap.size by omega) (ratS sn1 sp1 sq1)).farRow (show (w7.heap.size + 1 + 1) ≠ (w7.heap.size + 1) by omega) (ratS sn2 sp2 sq2)).setRow (ratS sn3 sp3 sq3))
  have Mb := Lib.hid (below_setRow (below_setRow (below_setRow Z.out.2.2.2 (Nat.le_refl _) (ratS sn1 sp1 sq1)) (show w7.heap.size ≤ (w7.heap.size + 1) by omega) (ratS sn2 sp2 sq2)) (show w7.heap.size ≤ (w7.heap.size + 1 + 1) by omega) (ratS sn3 sp3 sq3))
  have Ka := Lib.hid (Ka'.out.below Mb.out Ka'.out.lt)
  have Kb := Lib.hid (Kb'.out.below Mb.out Kb'.out.lt)
  have Ks := Lib.hid (Ks'.out.below Mb.out Ks'.out.lt)
  have aX := Lib.hid (aX'.out.below Mb.out aX'.out.lt)
  have aY := Lib.hid (aY'.out.below Mb.out aY'.out.lt)
  have aZ := Lib.hid (aZ'.out.below Mb.out aZ'.out.lt)
  have bX := Lib.hid (bX'.out.below Mb.out bX'.out.lt)
  have bY := Lib.hid (bY'.out.below Mb.out bY'.out.lt)
  have bZ := Lib.hid (bZ'.out.below Mb.out bZ'.out.lt)
  have HbW := Lib.hid (Hbw7.out.trans (Mb.out.mono Hbw7.out.size))
  clear Z Mb Hbw7 Ka' Kb' Ks' aX' aY' aZ' bX' bY' bZ'
  generalize (((((w7.alloc (.cells (ratS false 0 0) 37)).alloc (.cells (ratS false 0 0) 37)).alloc (.cells (ratS false 0 0) 37)).setRow w7.heap.size (ratS sn1 sp1 sq1)).setRow (w7.heap.size + 1) (ratS sn2 sp2 sq2)).setRow (w7.heap.size + 1 + 1) (ratS sn3 sp3 sq3) = W at *
  have x0 := sX.out.cell 0; have x1 := sX.out.cell 1; have x2 := sX.out.cell 2; have x3 := sX.out.cell 3; have x4 := sX.out.cell 4; have x5 := sX.out.cell 5; have x6 := sX.out.cell 6; have x7 := sX.out.cell 7; have x8 := sX.out.cell 8; have x9 := sX.out.cell 9
  simp at x0 x1 x2 x3 x4 x5 x6 x7 x8 x9
  go_wp2_with fail
  clear Ka Kb Ks
  refine (V1.out _ (HT.out.later HbW.out)).mono ?_
  rintro e u1 ⟨rfl, hbu1⟩
  replace aX := Lib.hid (aX.out.below hbu1 aX.out.lt)
  replace aY := Lib.hid (aY.out.below hbu1 aY.out.lt)
  replace aZ := Lib.hid (aZ.out.below hbu1 aZ.out.lt)
  replace bX := Lib.hid (bX.out.below hbu1 bX.out.lt)
  replace bY := Lib.hid (bY.out.below hbu1 bY.out.lt)
  replace bZ := Lib.hid (bZ.out.below hbu1 bZ.out.lt)
  replace sX := Lib.hid (sX.out.below hbu1 sX.out.lt)
  replace sY := Lib.hid (sY.out.below hbu1 sY.out.lt)
  replace sZ := Lib.hid (sZ.out.below hbu1 sZ.out.lt)
  have Hbu1 := Lib.hid (HbW.out.trans (hbu1.mono HbW.out.size))
  clear hbu1 HbW x0 x1 x2 x3 x4 x5 x6 x7 x8 x9
  have x0 := sY.out.cell 0; have x1 := sY.out.cell 1; have x2 := sY.out.cell 2; have x3 := sY.out.cell 3; have x4 := sY.out.cell 4; have x5 := sY.out.cell 5; have x6 := sY.out.cell 6; have x7 := sY.out.cell 7; have x8 := sY.out.cell 8; have x9 := sY.out.cell 9
  simp at x0 x1 x2 x3 x4 x5 x6 x7 x8 x9
  go_wp2_with fail
  refine (V2.out _ (HT.out.later Hbu1.out)).mono ?_
  rintro e u2 ⟨rfl, hbu2⟩
  replace aX := Lib.hid (aX.out.below hbu2 aX.out.lt)
  replace aY := Lib.hid (aY.out.below hbu2 aY.out.lt)
  replace aZ := Lib.hid (aZ.out.below hbu2 aZ.out.lt)
  replace bX := Lib.hid (bX.out.below hbu2 bX.out.lt)
  replace bY := Lib.hid (bY.out.below hbu2 bY.out.lt)
  replace bZ := Lib.hid (bZ.out.below hbu2 bZ.out.lt)
  replace sX := Lib.hid (sX.out.below hbu2 sX.out.lt)
  replace sY := Lib.hid (sY.out.below hbu2 sY.out.lt)
  replace sZ := Lib.hid (sZ.out.below hbu2 sZ.out.lt)
  have Hbu2 := Lib.hid (Hbu1.out.trans (hbu2.mono Hbu1.out.size))
  clear hbu2 Hbu1 x0 x1 x2 x3 x4 x5 x6 x7 x8 x9
  have x0 := sZ.out.cell 0; have x1 := sZ.out.cell 1; have x2 := sZ.out.cell 2; have x3 := sZ.out.cell 3; have x4 := sZ.out.cell 4; have x5 := sZ.out.cell 5; have x6 := sZ.out.cell 6; have x7 := sZ.out.cell 7; have x8 := sZ.out.cell 8; have x9 := sZ.out.cell 9
  simp at x0 x1 x2 x3 x4 x5 x6 x7 x8 x9
  go_wp2_with fail
  refine (V3.out _ (HT.out.later Hbu2.out)).mono ?_
  rintro e u3 ⟨rfl, hbu3⟩
  replace aX := Lib.hid (aX.out.below hbu3 aX.out.lt)
  replace aY := Lib.hid (aY.out.below hbu3 aY.out.lt)
  replace aZ := Lib.hid (aZ.out.below hbu3 aZ.out.lt)
  replace bX := Lib.hid (bX.out.below hbu3 bX.out.lt)
  replace bY := Lib.hid (bY.out.below hbu3 bY.out.lt)
  replace bZ := Lib.hid (bZ.out.below hbu3 bZ.out.lt)
  replace sX := Lib.hid (sX.out.below hbu3 sX.out.lt)
  replace sY := Lib.hid (sY.out.below hbu3 sY.out.lt)
  replace sZ := Lib.hid (sZ.out.below hbu3 sZ.out.lt)
  have Hbu3 := Lib.hid (Hbu2.out.trans (hbu3.mono Hbu2.out.size))
  clear hbu3 Hbu2 x0 x1 x2 x3 x4 x5 x6 x7 x8 x9
  have x0 := aX.out.cell 0; have x1 := aX.out.cell 1; have x2 := aX.out.cell 2; have x3 := aX.out.cell 3; have x4 := aX.out.cell 4; have x5 := aX.out.cell 5; have x6 := aX.out.cell 6; have x7 := aX.out.cell 7; have x8 := aX.out.cell 8; have x9 := aX.out.cell 9
  simp at x0 x1 x2 x3 x4 x5 x6 x7 x8 x9
  have y0 := sX.out.cell 0; have y1 := sX.out.cell 1; have y2 := sX.out.cell 2; have y3 := sX.out.cell 3; have y4 := sX.out.cell 4; have y5 := sX.out.cell 5; have y6 := sX.out.cell 6; have y7 := sX.out.cell 7; have y8 := sX.out.cell 8; have y9 := sX.out.cell 9
  simp at y0 y1 y2 y3 y4 y5 y6 y7 y8 y9
  have z0 := bX.out.cell 0; have z1 := bX.out.cell 1; have z2 := bX.out.cell 2; have z3 := bX.out.cell 3; have z4 := bX.out.cell 4; have z5 := bX.out.cell 5; have z6 := bX.out.cell 6; have z7 := bX.out.cell 7; have z8 := bX.out.cell 8; have z9 := bX.out.cell 9
  simp at z0 z1 z2 z3 z4 z5 z6 z7 z8 z9
  go_wp2_with fail
  refine (I1.out _).mono ?_
  rintro e u4 ⟨rfl, hbu4⟩
  replace aX := Lib.hid (aX.out.below hbu4 aX.out.lt)
  replace aY := Lib.hid (aY.out.below hbu4 aY.out.lt)
  replace aZ := Lib.hid (aZ.out.below hbu4 aZ.out.lt)
  replace bX := Lib.hid (bX.out.below hbu4 bX.out.lt)
  replace bY := Lib.hid (bY.out.below hbu4 bY.out.lt)
  replace bZ := Lib.hid (bZ.out.below hbu4 bZ.out.lt)
  replace sX := Lib.hid (sX.out.below hbu4 sX.out.lt)
  replace sY := Lib.hid (sY.out.below hbu4 sY.out.lt)
  replace sZ := Lib.hid (sZ.out.below hbu4 sZ.out.lt)
  have Hbu4 := Lib.hid (Hbu3.out.trans (hbu4.mono Hbu3.out.size))
  clear hbu4 Hbu3 x0 x1 x2 x3 x4 x5 x6 x7 x8 x9 y0 y1 y2 y3 y4 y5 y6 y7 y8 y9 z0 z1 z2 z3 z4 z5 z6 z7 z8 z9
  have x0 := aY.out.cell 0; have x1 := aY.out.cell 1; have x2 := aY.out.cell 2; have x3 := aY.out.cell 3; have x4 := aY.out.cell 4; have x5 := aY.out.cell 5; have x6 := aY.out.cell 6; have x7 := aY.out.cell 7; have x8 := aY.out.cell 8; have x9 := aY.out.cell 9
  simp at x0 x1 x2 x3 x4 x5 x6 x7 x8 x9
  have y0 := sY.out.cell 0; have y1 := sY.out.cell 1; have y2 := sY.out.cell 2; have y3 := sY.out.cell 3; have y4 := sY.out.cell 4; have y5 := sY.out.cell 5; have y6 := sY.out.cell 6; have y7 := sY.out.cell 7; have y8 := sY.out.cell 8; have y9 := sY.out.cell 9
  simp at y0 y1 y2 y3 y4 y5 y6 y7 y8 y9
  have z0 := bY.out.cell 0; have z1 := bY.out.cell 1; have z2 := bY.out.cell 2; have z3 := bY.out.cell 3; have z4 := bY.out.cell 4; have z5 := bY.out.cell 5; have z6 := bY.out.cell 6; have z7 := bY.out.cell 7; have z8 := bY.out.cell 8; have z9 := bY.out.cell 9
  simp at z0 z1 z2 z3 z4 z5 z6 z7 z8 z9
  go_wp2_with fail
  refine (I2.out _).mono ?_
  rintro e u5 ⟨rfl, hbu5⟩
  replace aX := Lib.hid (aX.out.below hbu5 aX.out.lt)
  replace aY := Lib.hid (aY.out.below hbu5 aY.out.lt)
  replace aZ := Lib.hid (aZ.out.below hbu5 aZ.out.lt)
  replace bX := Lib.hid (bX.out.below hbu5 bX.out.lt)
  replace bY := Lib.hid (bY.out.below hbu5 bY.out.lt)
  replace bZ := Lib.hid (bZ.out.below hbu5 bZ.out.lt)
  replace sX := Lib.hid (sX.out.below hbu5 sX.out.lt)
  replace sY := Lib.hid (sY.out.below hbu5 sY.out.lt)
  replace sZ := Lib.hid (sZ.out.below hbu5 sZ.out.lt)
  have Hbu5 := Lib.hid (Hbu4.out.trans (hbu5.mono Hbu4.out.size))
  clear hbu5 Hbu4 x0 x1 x2 x3 x4 x5 x6 x7 x8 x9 y0 y1 y2 y3 y4 y5 y6 y7 y8 y9 z0 z1 z2 z3 z4 z5 z6 z7 z8 z9
  have x0 := aZ.out.cell 0; have x1 := aZ.out.cell 1; have x2 := aZ.out.cell 2; have x3 := aZ.out.cell 3; have x4 := aZ.out.cell 4; have x5 := aZ.out.cell 5; have x6 := aZ.out.cell 6; have x7 := aZ.out.cell 7; have x8 := aZ.out.cell 8; have x9 := aZ.out.cell 9
  simp at x0 x1 x2 x3 x4 x5 x6 x7 x8 x9
  have y0 := sZ.out.cell 0; have y1 := sZ.out.cell 1; have y2 := sZ.out.cell 2; have y3 := sZ.out.cell 3; have y4 := sZ.out.cell 4; have y5 := sZ.out.cell 5; have y6 := sZ.out.cell 6; have y7 := sZ.out.cell 7; have y8 := sZ.out.cell 8; have y9 := sZ.out.cell 9
  simp at y0 y1 y2 y3 y4 y5 y6 y7 y8 y9
  have z0 := bZ.out.cell 0; have z1 := bZ.out.cell 1; have z2 := bZ.out.cell 2; have z3 := bZ.out.cell 3; have z4 := bZ.out.cell 4; have z5 := bZ.out.cell 5; have z6 := bZ.out.cell 6; have z7 := bZ.out.cell 7; have z8 := bZ.out.cell 8; have z9 := bZ.out.cell 9
  simp at z0 z1 z2 z3 z4 z5 z6 z7 z8 z9
  go_wp2_with fail
  refine (I3.out _).mono ?_
  rintro e u6 ⟨rfl, hbu6⟩
  have Hbu6 := Lib.hid (Hbu5.out.trans (hbu6.mono Hbu5.out.size))
  clear hbu6 Hbu5 x0 x1 x2 x3 x4 x5 x6 x7 x8 x9 y0 y1 y2 y3 y4 y5 y6 y7 y8 y9 z0 z1 z2 z3 z4 z5 z6 z7 z8 z9
  go_wp2_with fail
  refine (awake_true _).mono ?_
  rintro e u7 ⟨rfl, hbu7⟩
  have Hbu7 := Lib.hid (Hbu6.out.trans (hbu7.mono Hbu6.out.size))
  clear hbu7 Hbu6 
  go_wp2_with fail
  go_ret
  exact ⟨rfl, Hbu7.out⟩
theorem weightBetween_true (a b : Wt) (ha : a.In) (hb : b.In) (w : World) (hT : Tab w) :
    Calls Tryd.prog 7 #[a.val, b.val] w fun e w' => e = .returned (.bool true) ∧ Below w.heap.size w w' := by
  by_cases h : sumErr [a, b] = 0 ∧ 1 ≤ a.m ∧ 1 ≤ b.m
  · exact between_yes a b ha hb h.1 h.2.1 h.2.2 w hT
  · exact between_no a b ha hb h w
end Go.Proofs.YtfgeocpooimojaaDoor
