/-
  Gcd of package wide, of numbers of one word. Conditions: the second number is not 0; the library's table lies in its variable.
-/
import Derived.Deep.Cut
import Derived.Test.YtfgeocpooimojaaDoorQPfWeightCentres22
import Derived.Test.YtfgeocpooimojaaDoorQPfWeightCentres23
namespace Go.Proofs.YtfgeocpooimojaaDoor
open Go Go.RowKit

theorem tab_row {w : World} (h : Tab w) {g : Nat} (hg : tabG ≠ g) (cs : Array Value) : Tab (w.setRow g cs) :=
  ⟨fun j hj => (World.cell?_of_block (w := w) (setRow_other w g tabG cs hg)).trans (h.1 j hj), by rw [size_setRow]; exact h.2⟩
def cellN (w : World) (g : Nat) : Nat := match w.cell? ⟨g, 0, none⟩ with | some (.int _ n) => n.toNat | _ => 0
theorem cellN_of {w : World} {g : Nat} {t : TypeId} {a : Nat} (h : Blk w g t (magS a)) : cellN w g = a := by
  unfold cellN
  rw [h.cell 0]
  simp
theorem neq_mag (a b : Nat) (h : a ≠ b) (w : World) : (Op.equalIn 10000 33 (.agg (magS a)) (.agg (magS b))).run Tryd.prog w = .ok false w := by
  have := eq_magS a b w
  rw [show (a == b) = false by simpa using h] at this
  exact this
theorem same_mag (a : Nat) (w : World) : (Op.equalIn 10000 33 (.agg (magS a)) (.agg (magS a))).run Tryd.prog w = .ok true w := by
  have := eq_magS a a w
  rw [show (a == a) = true by simp] at this
  exact this
theorem plus_zero (y : Nat) (hy : y < 18446744073709551616) (W : World) : Calls Tryd.prog 71 #[.agg #[.int .u64 0, .int .u64 0, .int .u64 0, .int .u64 0], .agg (magS y)] W fun e w' => e = .returned (.tuple #[.agg (magS y), .int .u64 0]) ∧ Below W.heap.size W w' := by
  have := widePlus_at 0 y (by decide) (small_top hy) (by rw [Nat.zero_add]; exact small_top hy) W
  rw [Nat.zero_add, magC_small 0 (by decide), magC_small y hy] at this
  exact this
theorem gcd_even (G k mn g : Nat) (h : G * 2 ^ mn = g) (hk : k < mn) : G * 2 ^ (k + 1) = 2 * (G * 2 ^ k) + 0 ∧ G * 2 ^ k ≤ g := by
  refine ⟨by rw [Nat.pow_succ, ← Nat.mul_assoc, Nat.mul_comm]; omega, ?_⟩
  rw [← h]
  exact Nat.mul_le_mul_left _ (Nat.pow_le_pow_right (by decide) (by omega))
set_option maxHeartbeats 4000000 in
set_option maxRecDepth 100000 in
theorem wideGcd_zero (n : Bool) (y : Nat) (hy : y < 18446744073709551616) (w : World) :
    Calls Tryd.prog 48 #[.agg (wideS n 0), .agg (wideS false y)] w fun e w' => e = .returned (.agg (wideS false y)) ∧ Below w.heap.size w w' := by
  have HB := Lib.hid (blk_start3 w 35 35 35 (wideS n 0) (wideS false y) wideZ)
  have C1 := Lib.hid (plus_zero y hy)
  have C2 : Hid (∀ W, Calls Tryd.prog 72 #[.bool false, .agg (magS y)] W fun e w' => e = .returned (.agg (wideS false y)) ∧ Below W.heap.size W w') := fun W => wideSigned_at false y W
  have eq : ∀ w, (Op.equalIn 10000 33 (.agg #[.int .u64 0, .int .u64 0, .int .u64 0, .int .u64 0]) (.agg #[.int .u64 0, .int .u64 0, .int .u64 0, .int .u64 0])).run Tryd.prog w = .ok true w := same_mag 0
  clear hy
  go_enter Tryd.func48, Tryd.ntmps48
  go_wp2_with fail
  refine (C1.out _).mono ?_
  rintro e w1 ⟨rfl, hb1⟩
  have K3 := Lib.hid (HB.out.2.2.below hb1 HB.out.2.2.lt)
  have Hb1 : Hid (Below w.heap.size w w1) := Lib.hid (Below.trans (by go_grown) (hb1.mono (by simp; omega)))
  clear hb1 HB C1 eq
  go_wp2_with fail
  refine (C2.out _).mono ?_
  rintro e w2 ⟨rfl, hb2⟩
  have J3 := Lib.hid ((K3.out.alloc _).below hb2 (K3.out.alloc _).lt)
  have Hb2 : Hid (Below w.heap.size w w2) := Lib.hid ((Hb1.out.alloc Hb1.out.size _).trans (hb2.mono (by have := Hb1.out.size; simp; omega)))
  clear hb2 K3 Hb1 C2
  go_wp2_with (refine wpList_store_row rfl 35 (.tmp 4) (.tmp 32) rfl (w.heap.size + 1 + 1) (wideS false y) rfl rfl 35 wideZ J3.out (zero_of_info Tryd.infoWid).2 rfl (wideS_one _ _) ?_)
  refine bodyPost_ret (results_cell_one rfl _ _ (w.heap.size + 1 + 1) 35 (wideS false y) _ rfl (J3.out.setRow _) Tryd.underlying35 rfl (by kernel_rfl)) rfl ⟨rfl, below_setRow Hb2.out (by omega) _⟩
set_option maxHeartbeats 8000000 in
set_option maxRecDepth 100000 in
theorem wideGcd_main (n : Bool) (x y : Nat) (hx0 : x ≠ 0) (hx : x < 9223372036854775808) (hy0 : y ≠ 0) (hy : y < 9223372036854775808) (w : World) (hT : Tab w) :
    Calls Tryd.prog 48 #[.agg (wideS n x), .agg (wideS false y)] w fun e w' => e = .returned (.agg (wideS false (Nat.gcd x y))) ∧ Below w.heap.size w w' := by
  have HB := Lib.hid (blk_start3 w 35 35 35 (wideS n x) (wideS false y) wideZ)
  have HT := Lib.hid hT
  have HTw := Lib.hid hT.2
  have HG := Lib.hid (gcd_all x y hx0 hy0 (by omega) (by omega))
  have Hgy : Hid (Nat.gcd x y < 9223372036854775808) := Nat.lt_of_le_of_lt (Nat.gcd_le_right _ (by omega)) hy
  have C1 : Hid (∀ W, Tab W → Calls Tryd.prog 73 #[.agg (magS x)] W fun e w' => e = .returned (.tuple #[.agg (magS (oddp x)), .int .i64 (tz x : Nat)]) ∧ Below W.heap.size W w') := fun W h => wideOdd_at x (by omega) hx0 W h
  have C2 : Hid (∀ W, Tab W → Calls Tryd.prog 73 #[.agg (magS y)] W fun e w' => e = .returned (.tuple #[.agg (magS (oddp y)), .int .i64 (tz y : Nat)]) ∧ Below W.heap.size W w') := fun W h => wideOdd_at y (by omega) hy0 W h
  have eq1 : ∀ w, (Op.equalIn 10000 33 (.agg (magS x)) (.agg #[.int .u64 0, .int .u64 0, .int .u64 0, .int .u64 0])).run Tryd.prog w = .ok false w := neq_mag x 0 hx0
  have eq2 : ∀ w, (Op.equalIn 10000 33 (.agg (magS y)) (.agg #[.int .u64 0, .int .u64 0, .int .u64 0, .int .u64 0])).run Tryd.prog w = .ok false w := neq_mag y 0 hy0
  have ox := Lib.hid (oddp_spec x hx0 (by omega)).2
  have oy := Lib.hid (oddp_spec y hy0 (by omega)).2
  have lx := Lib.hid (oddp_le x); have ly := Lib.hid (oddp_le y)
  have Hx := Lib.hid hx; have Hy := Lib.hid hy
  have tx : tz x < 64 := (Lib.lowest_bit 64 x hx0 (by omega)).2
  have ty : tz y < 64 := (Lib.lowest_bit 64 y hy0 (by omega)).2
  clear hT hx0 hy0 hx hy
  obtain ⟨G, hG⟩ : ∃ G, G = Nat.gcd (oddp x) (oddp y) := ⟨_, rfl⟩
  have HGd := Lib.hid hG
  rw [← hG] at HG
  clear hG
  go_enter Tryd.func48, Tryd.ntmps48
  go_wp2_with fail
  refine (C1.out _ (HT.out.later (by go_grown))).mono ?_
  rintro e w1 ⟨rfl, hb1⟩
  have K2 := Lib.hid (HB.out.2.1.below hb1 HB.out.2.1.lt)
  have K3 := Lib.hid (HB.out.2.2.below hb1 HB.out.2.2.lt)
  have Hb1 : Hid (Below w.heap.size w w1) := Lib.hid (Below.trans (by go_grown) (hb1.mono (by simp; omega)))
  have HT1 := Lib.hid (HT.out.later Hb1.out)
  clear hb1 HB C1 eq1 eq2 HT
  have l2 := K2.out.lt
  have b0 := K2.out.cell 0; have b1 := K2.out.cell 1; have b2 := K2.out.cell 2; have b3 := K2.out.cell 3; have b4 := K2.out.cell 4
  simp at b0 b1 b2 b3 b4
  go_wp2_with fail
  refine (C2.out _ (HT1.out.later (by go_grown))).mono ?_
  rintro e w2 ⟨rfl, hb2⟩
  clear b0 b1 b2 b3 b4 l2
  have J3 := Lib.hid (((K3.out.alloc _).below hb2 (K3.out.alloc _).lt).alloc (.cells (magS (oddp y)) 33))
  have J7 := Lib.hid (((Blk.new w1 33 (magS (oddp x))).below hb2 (Blk.new w1 _ _).lt).alloc (.cells (magS (oddp y)) 33))
  have J9 := Lib.hid (Blk.new w2 33 (magS (oddp y)))
  have hne : w1.heap.size < w2.heap.size := by have := hb2.size; simp at this; omega
  have h71 : w.heap.size + 1 + 1 < w1.heap.size := K3.out.lt
  have Hb2' : Below w.heap.size w w2 := (Hb1.out.alloc Hb1.out.size _).trans (hb2.mono (by have := Hb1.out.size; simp; omega))
  have Hb2 := Lib.hid (Hb2'.alloc Hb2'.size (.cells (magS (oddp y)) 33))
  have HT2 := Lib.hid (HT1.out.later ((Below.refl _ w1).alloc (Nat.le_refl _) (.cells (magS (oddp x)) 33)))
  have HT3 := Lib.hid ((HT2.out.later hb2).later ((Below.refl _ w2).alloc (Nat.le_refl _) (.cells (magS (oddp y)) 33)))
  clear hb2 Hb2' K2 K3 Hb1 HT1 HT2 C2
  obtain ⟨g7, hg7⟩ : ∃ g7, g7 = w1.heap.size := ⟨_, rfl⟩
  obtain ⟨g9, hg9⟩ : ∃ g9, g9 = w2.heap.size := ⟨_, rfl⟩
  have htab : tabG < w.heap.size := HTw.out
  rw [← hg7] at J7 hne h71
  rw [← hg9] at J9 hne
  have Hg7 := Lib.hid hg7; have Hg9 := Lib.hid hg9
  clear hg7 hg9
  go_wp2_with fail
  rw [← Hg7.out, ← Hg9.out]
  clear Hg7 Hg9
  generalize w2.alloc (.cells (magS (oddp y)) 33) = W0 at *
  go_loopw [12] (fun _ wr => ∃ a b : Nat, Hid (a % 2 = 1) ∧ Hid (b % 2 = 1) ∧ a < 9223372036854775808 ∧ b < 9223372036854775808 ∧ Hid (Nat.gcd a b = G) ∧ Hid (Blk wr g7 33 (magS a)) ∧ Hid (Blk wr g9 33 (magS b)) ∧ Hid (Blk wr (w.heap.size + 1 + 1) 35 wideZ) ∧ Hid (Below w.heap.size w wr) ∧ Hid (Tab wr)) (fun _ wr => cellN wr g7 + cellN wr g9)
  case atStart => exact ⟨oddp x, oddp y, ox.out, oy.out, by have := lx.out; have := Hx.out; omega, by have := ly.out; have := Hy.out; omega, HGd.out.symm, J7.out, J9.out, J3.out, Hb2.out, HT3.out⟩
  case round =>
    obtain ⟨a, b, Oa, Ob, ha, hb, Og, K7, K9, K4, Hb, KT⟩ := hrel
    clear J7 J9 J3 Hb2 HT3
    have Hm : Hid (cellN wr g7 + cellN wr g9 = a + b) := by unfold Hid; rw [cellN_of K7.out, cellN_of K9.out]
    have hpa : 0 < a := by have := Oa.out; omega
    have hpb : 0 < b := by have := Ob.out; omega
    by_cases he : a = b
    · obtain rfl : a = b := he
      have eqs := same_mag a
      have hGa : Hid (a = G) := by unfold Hid; rw [← Og.out, Nat.gcd_self]
      have c0 := K7.out.cell 0; have c1 := K7.out.cell 1; have c2 := K7.out.cell 2; have c3 := K7.out.cell 3
      have d0 := K9.out.cell 0; have d1 := K9.out.cell 1; have d2 := K9.out.cell 2; have d3 := K9.out.cell 3
      simp at c0 c1 c2 c3 d0 d1 d2 d3
      rcases Nat.lt_or_ge (tz y) (tz x) with hc | hc
      · skip
        have HGm : Hid (G * 2 ^ tz y = Nat.gcd x y) := by
          have := HG.out
          rw [Nat.min_eq_right (by omega)] at this
          exact this
        go_wp2_with fail
        clear c0 c1 c2 c3 d0 d1 d2 d3 eqs
        go_loopw [68] (fun i w3 => ∃ k : Nat, k ≤ tz y ∧ i = .int .i64 k ∧ Hid (Blk w3 g7 33 (magS (G * 2 ^ k))) ∧ Hid (Blk w3 (w.heap.size + 1 + 1) 35 wideZ) ∧ Hid (Below w.heap.size w w3)) (fun i _ => tz y - (intOf i).toNat)
        case atStart => exact ⟨0, Nat.zero_le _, rfl, by unfold Hid; rw [Nat.pow_zero, Nat.mul_one, ← hGa.out]; exact K7.out, K4.out, Hb.out⟩
        case round =>
          obtain ⟨k, hk, rfl, B7, B4, Bb⟩ := hrel
          rename World => w3
          clear K7 K9 K4 Hb KT
          by_cases hkn : k < tz y
          · have S := Lib.hid (gcd_even G k (tz y) (Nat.gcd x y) HGm.out hkn)
            have CT : Hid (∀ W, Calls Tryd.prog 75 #[.agg (magS (G * 2 ^ k)), .int .u64 0] W fun e w' => e = .returned (.tuple #[.agg (magS (G * 2 ^ (k + 1))), .int .u64 0]) ∧ Below W.heap.size W w') := fun W => by
              rw [S.out.1]
              exact wideTwice_at (G * 2 ^ k) 0 (by have := S.out.2; have := Hgy.out; omega) (by omega) W
            clear S
            have c0 := B7.out.cell 0; have c1 := B7.out.cell 1; have c2 := B7.out.cell 2; have c3 := B7.out.cell 3
            simp only [magS, List.getElem?_toArray, List.getElem?_cons_zero, List.getElem?_cons_succ] at c0 c1 c2 c3
            have Hv1 : Hid (∃ v1, v1 = G * 2 ^ (k + 1)) := ⟨_, rfl⟩
            obtain ⟨v1, hv1⟩ := Hv1.out
            rw [← hv1] at CT
            obtain ⟨v0, hv0⟩ : ∃ v0, v0 = G * 2 ^ k := ⟨_, rfl⟩
            rw [← hv0] at CT B7 c0
            have HV1 := Lib.hid hv1
            clear hv1 hv0 Hv1
            go_wp2_with fail
            refine (CT.out _).mono ?_
            rintro e w4 ⟨rfl, hb4⟩
            have D7 := Lib.hid (B7.out.below hb4 B7.out.lt); have D4 := Lib.hid (B4.out.below hb4 B4.out.lt)
            have Db := Lib.hid (Bb.out.trans (hb4.mono Bb.out.size))
            clear hb4 B7 B4 Bb CT c0 c1 c2 c3
            go_wp2_with (refine wpList_store_row rfl 33 (.tmp 7) (.tmp 73) rfl g7 (magS v1) rfl rfl 33 (magS v0) D7.out (zero_of_info Tryd.infoMag).2 rfl (magS_one _) ?_; simp only [Act.put])
            go_roundw
            case rel => exact ⟨k + 1, by omega, by go_num, by unfold Hid; rw [← HV1.out]; exact D7.out.setRow _, D4.out.farRow (by omega) _, below_setRow Db.out (by omega) _⟩
            case measure => simp [intOf]; omega
          · obtain rfl : k = tz y := by omega
            rw [HGm.out] at B7
            have CS : Hid (∀ W, Calls Tryd.prog 72 #[.bool false, .agg (magS (Nat.gcd x y))] W fun e w' => e = .returned (.agg (wideS false (Nat.gcd x y))) ∧ Below W.heap.size W w') := fun W => wideSigned_at false (Nat.gcd x y) W
            obtain ⟨gv, hgv⟩ : ∃ gv, gv = Nat.gcd x y := ⟨_, rfl⟩
            rw [← hgv] at CS B7
            have HGV := Lib.hid hgv
            clear hgv HGm
            have c0 := B7.out.cell 0; have c1 := B7.out.cell 1; have c2 := B7.out.cell 2; have c3 := B7.out.cell 3
            simp at c0 c1 c2 c3
            go_wp2_with fail
            refine (CS.out _).mono ?_
            rintro e w4 ⟨rfl, hb4⟩
            have D4 := Lib.hid (B4.out.below hb4 B4.out.lt)
            have Db := Lib.hid (Bb.out.trans (hb4.mono Bb.out.size))
            clear hb4 B7 B4 Bb CS c0 c1 c2 c3
            go_wp2_with (refine wpList_store_row rfl 35 (.tmp 4) (.tmp 77) rfl (w.heap.size + 1 + 1) (wideS false gv) rfl rfl 35 wideZ D4.out (zero_of_info Tryd.infoWid).2 rfl (wideS_one _ _) ?_)
            refine bodyPost_ret (results_cell_one rfl _ _ (w.heap.size + 1 + 1) 35 (wideS false gv) _ rfl (D4.out.setRow _) Tryd.underlying35 rfl (by kernel_rfl)) rfl ⟨by rw [HGV.out], below_setRow Db.out (by omega) _⟩
      · skip
        have HGm : Hid (G * 2 ^ tz x = Nat.gcd x y) := by
          have := HG.out
          rw [Nat.min_eq_left (by omega)] at this
          exact this
        go_wp2_with fail
        clear c0 c1 c2 c3 d0 d1 d2 d3 eqs
        go_loopw [68] (fun i w3 => ∃ k : Nat, k ≤ tz x ∧ i = .int .i64 k ∧ Hid (Blk w3 g7 33 (magS (G * 2 ^ k))) ∧ Hid (Blk w3 (w.heap.size + 1 + 1) 35 wideZ) ∧ Hid (Below w.heap.size w w3)) (fun i _ => tz x - (intOf i).toNat)
        case atStart => exact ⟨0, Nat.zero_le _, rfl, by unfold Hid; rw [Nat.pow_zero, Nat.mul_one, ← hGa.out]; exact K7.out, K4.out, Hb.out⟩
        case round =>
          obtain ⟨k, hk, rfl, B7, B4, Bb⟩ := hrel
          rename World => w3
          clear K7 K9 K4 Hb KT
          by_cases hkn : k < tz x
          · have S := Lib.hid (gcd_even G k (tz x) (Nat.gcd x y) HGm.out hkn)
            have CT : Hid (∀ W, Calls Tryd.prog 75 #[.agg (magS (G * 2 ^ k)), .int .u64 0] W fun e w' => e = .returned (.tuple #[.agg (magS (G * 2 ^ (k + 1))), .int .u64 0]) ∧ Below W.heap.size W w') := fun W => by
              rw [S.out.1]
              exact wideTwice_at (G * 2 ^ k) 0 (by have := S.out.2; have := Hgy.out; omega) (by omega) W
            clear S
            have c0 := B7.out.cell 0; have c1 := B7.out.cell 1; have c2 := B7.out.cell 2; have c3 := B7.out.cell 3
            simp only [magS, List.getElem?_toArray, List.getElem?_cons_zero, List.getElem?_cons_succ] at c0 c1 c2 c3
            have Hv1 : Hid (∃ v1, v1 = G * 2 ^ (k + 1)) := ⟨_, rfl⟩
            obtain ⟨v1, hv1⟩ := Hv1.out
            rw [← hv1] at CT
            obtain ⟨v0, hv0⟩ : ∃ v0, v0 = G * 2 ^ k := ⟨_, rfl⟩
            rw [← hv0] at CT B7 c0
            have HV1 := Lib.hid hv1
            clear hv1 hv0 Hv1
            go_wp2_with fail
            refine (CT.out _).mono ?_
            rintro e w4 ⟨rfl, hb4⟩
            have D7 := Lib.hid (B7.out.below hb4 B7.out.lt); have D4 := Lib.hid (B4.out.below hb4 B4.out.lt)
            have Db := Lib.hid (Bb.out.trans (hb4.mono Bb.out.size))
            clear hb4 B7 B4 Bb CT c0 c1 c2 c3
            go_wp2_with (refine wpList_store_row rfl 33 (.tmp 7) (.tmp 73) rfl g7 (magS v1) rfl rfl 33 (magS v0) D7.out (zero_of_info Tryd.infoMag).2 rfl (magS_one _) ?_; simp only [Act.put])
            go_roundw
            case rel => exact ⟨k + 1, by omega, by go_num, by unfold Hid; rw [← HV1.out]; exact D7.out.setRow _, D4.out.farRow (by omega) _, below_setRow Db.out (by omega) _⟩
            case measure => simp [intOf]; omega
          · obtain rfl : k = tz x := by omega
            rw [HGm.out] at B7
            have CS : Hid (∀ W, Calls Tryd.prog 72 #[.bool false, .agg (magS (Nat.gcd x y))] W fun e w' => e = .returned (.agg (wideS false (Nat.gcd x y))) ∧ Below W.heap.size W w') := fun W => wideSigned_at false (Nat.gcd x y) W
            obtain ⟨gv, hgv⟩ : ∃ gv, gv = Nat.gcd x y := ⟨_, rfl⟩
            rw [← hgv] at CS B7
            have HGV := Lib.hid hgv
            clear hgv HGm
            have c0 := B7.out.cell 0; have c1 := B7.out.cell 1; have c2 := B7.out.cell 2; have c3 := B7.out.cell 3
            simp at c0 c1 c2 c3
            go_wp2_with fail
            refine (CS.out _).mono ?_
            rintro e w4 ⟨rfl, hb4⟩
            have D4 := Lib.hid (B4.out.below hb4 B4.out.lt)
            have Db := Lib.hid (Bb.out.trans (hb4.mono Bb.out.size))
            clear hb4 B7 B4 Bb CS c0 c1 c2 c3
            go_wp2_with (refine wpList_store_row rfl 35 (.tmp 4) (.tmp 77) rfl (w.heap.size + 1 + 1) (wideS false gv) rfl rfl 35 wideZ D4.out (zero_of_info Tryd.infoWid).2 rfl (wideS_one _ _) ?_)
            refine bodyPost_ret (results_cell_one rfl _ _ (w.heap.size + 1 + 1) 35 (wideS false gv) _ rfl (D4.out.setRow _) Tryd.underlying35 rfl (by kernel_rfl)) rfl ⟨by rw [HGV.out], below_setRow Db.out (by omega) _⟩
    · have neq := neq_mag a b he
      rcases Nat.lt_or_ge a b with h | h
      · clear he
        have C3 : Hid (∀ W, Calls Tryd.prog 70 #[.agg (magS a), .agg (magS b)] W fun e w' => e = .returned (.int .i64 (-1)) ∧ Below W.heap.size W w') := fun W => by
          have := wideCompare_at a b (small_top (by omega)) (small_top (by omega)) W
          rw [magC_small a (by omega), magC_small b (by omega), show cmpN a b = -1 by unfold cmpN; rw [if_pos h]] at this
          exact this
        have C4 := Lib.hid (minus_more b a (by omega) (by omega) (by omega))
        have C5 : Hid (∀ W, Tab W → Calls Tryd.prog 73 #[.agg (magS (b - a))] W fun e w' => e = .returned (.tuple #[.agg (magS (oddp (b - a))), .int .i64 (tz (b - a) : Nat)]) ∧ Below W.heap.size W w') := fun W h => wideOdd_at (b - a) (by omega) (by omega) W h
        have S1 := Lib.hid (gcd_step b a Oa.out (by omega) (by omega))
        have S2 := Lib.hid (oddp_spec (b - a) (by omega) (by omega)).2
        have S3 := Lib.hid (oddp_le (b - a))
        have hab := Lib.hid h
        clear h
        have c0 := K7.out.cell 0; have c1 := K7.out.cell 1; have c2 := K7.out.cell 2; have c3 := K7.out.cell 3
        have d0 := K9.out.cell 0; have d1 := K9.out.cell 1; have d2 := K9.out.cell 2; have d3 := K9.out.cell 3
        simp at c0 c1 c2 c3 d0 d1 d2 d3
        go_wp2_with fail
        refine (C3.out _).mono ?_
        rintro e w3 ⟨rfl, hb3⟩
        have M7 := Lib.hid (K7.out.below hb3 K7.out.lt); have M9 := Lib.hid (K9.out.below hb3 K9.out.lt); have M4 := Lib.hid (K4.out.below hb3 K4.out.lt)
        have Mb := Lib.hid (Hb.out.trans (hb3.mono Hb.out.size)); have MT := Lib.hid (KT.out.later hb3)
        clear hb3 K7 K9 K4 Hb KT C3 neq c0 c1 c2 c3 d0 d1 d2 d3
        have c0 := M7.out.cell 0; have c1 := M7.out.cell 1; have c2 := M7.out.cell 2; have c3 := M7.out.cell 3
        have d0 := M9.out.cell 0; have d1 := M9.out.cell 1; have d2 := M9.out.cell 2; have d3 := M9.out.cell 3
        simp at c0 c1 c2 c3 d0 d1 d2 d3
        go_upto_region 9 with (first | (refine wpList_store_row rfl 33 (.tmp 7) (.tmp 52) rfl g7 (magS b) rfl rfl 33 (magS a) M7.out (zero_of_info Tryd.infoMag).2 rfl (magS_one _) ?_) | (refine wpList_store_row rfl 33 (.tmp 9) (.tmp 53) rfl g9 (magS a) rfl rfl 33 (magS b) (M9.out.farRow (by omega) _) (zero_of_info Tryd.infoMag).2 rfl (magS_one _) ?_))
        have N7 := Lib.hid ((M7.out.setRow (magS b)).farRow (show g7 ≠ g9 by omega) (magS a))
        have N9 := Lib.hid ((M9.out.farRow (show g9 ≠ g7 by omega) (magS b)).setRow (magS a))
        have N4 := Lib.hid ((M4.out.farRow (show w.heap.size + 1 + 1 ≠ g7 by omega) (magS b)).farRow (show w.heap.size + 1 + 1 ≠ g9 by omega) (magS a))
        have Nb := Lib.hid (below_setRow (below_setRow Mb.out (show w.heap.size ≤ g7 by omega) (magS b)) (show w.heap.size ≤ g9 by omega) (magS a))
        have NT := Lib.hid (tab_row (tab_row MT.out (show tabG ≠ g7 by omega) (magS b)) (show tabG ≠ g9 by omega) (magS a))
        clear M7 M9 M4 Mb MT c0 c1 c2 c3 d0 d1 d2 d3
        generalize (w3.setRow g7 (magS b)).setRow g9 (magS a) = w4 at *
        have c0 := N7.out.cell 0; have c1 := N7.out.cell 1; have c2 := N7.out.cell 2; have c3 := N7.out.cell 3
        have d0 := N9.out.cell 0; have d1 := N9.out.cell 1; have d2 := N9.out.cell 2; have d3 := N9.out.cell 3
        simp at c0 c1 c2 c3 d0 d1 d2 d3
        go_wp2_with fail
        refine (C4.out _).mono ?_
        rintro e w5 ⟨rfl, hb5⟩
        have P7 := Lib.hid ((N7.out.below hb5 N7.out.lt).alloc (.cells (magS (b - a)) 33)); have P9 := Lib.hid ((N9.out.below hb5 N9.out.lt).alloc (.cells (magS (b - a)) 33)); have P4 := Lib.hid ((N4.out.below hb5 N4.out.lt).alloc (.cells (magS (b - a)) 33))
        have Pb' := Nb.out.trans (hb5.mono Nb.out.size)
        have Pb := Lib.hid (Pb'.alloc Pb'.size (.cells (magS (b - a)) 33)); have PT := Lib.hid ((NT.out.later hb5).later ((Below.refl _ w5).alloc (Nat.le_refl _) (.cells (magS (b - a)) 33)))
        clear hb5 Pb' N7 N9 N4 Nb NT C4 c0 c1 c2 c3 d0 d1 d2 d3
        go_wp2_with fail
        refine (C5.out _ PT.out).mono ?_
        rintro e w6 ⟨rfl, hb6⟩
        have R7 := Lib.hid (P7.out.below hb6 P7.out.lt); have R9 := Lib.hid (P9.out.below hb6 P9.out.lt); have R4 := Lib.hid (P4.out.below hb6 P4.out.lt)
        have Rb := Lib.hid (Pb.out.trans (hb6.mono Pb.out.size)); have RT := Lib.hid (PT.out.later hb6)
        clear hb6 P7 P9 P4 Pb PT C5
        go_wp2_with (refine wpList_store_row rfl 33 (.tmp 7) (.tmp 63) rfl g7 (magS (oddp (b - a))) rfl rfl 33 (magS b) R7.out (zero_of_info Tryd.infoMag).2 rfl (magS_one _) ?_; simp only [Act.put])
        have T7 := Lib.hid (R7.out.setRow (magS (oddp (b - a))))
        have T9 := Lib.hid (R9.out.farRow (show g9 ≠ g7 by omega) (magS (oddp (b - a))))
        go_roundw
        case rel => exact ⟨oddp (b - a), a, S2.out, Oa.out, by have := S3.out; omega, by omega, by unfold Hid; rw [S1.out, Nat.gcd_comm]; exact Og.out, T7.out, T9.out, R4.out.farRow (by omega) _, below_setRow Rb.out (by omega) _, tab_row RT.out (by omega) _⟩
        case measure =>
          rw [cellN_of T7.out, cellN_of T9.out, Hm.out]
          have := S3.out
          have := hab.out
          omega
      · have h : b < a := by omega
        clear he
        have C3 : Hid (∀ W, Calls Tryd.prog 70 #[.agg (magS a), .agg (magS b)] W fun e w' => e = .returned (.int .i64 (1)) ∧ Below W.heap.size W w') := fun W => by
          have := wideCompare_at a b (small_top (by omega)) (small_top (by omega)) W
          rw [magC_small a (by omega), magC_small b (by omega), show cmpN a b = 1 by unfold cmpN; rw [if_neg (by omega), if_pos (by omega)]] at this
          exact this
        have C4 := Lib.hid (minus_more a b (by omega) (by omega) (by omega))
        have C5 : Hid (∀ W, Tab W → Calls Tryd.prog 73 #[.agg (magS (a - b))] W fun e w' => e = .returned (.tuple #[.agg (magS (oddp (a - b))), .int .i64 (tz (a - b) : Nat)]) ∧ Below W.heap.size W w') := fun W h => wideOdd_at (a - b) (by omega) (by omega) W h
        have S1 := Lib.hid (gcd_step a b Ob.out (by omega) (by omega))
        have S2 := Lib.hid (oddp_spec (a - b) (by omega) (by omega)).2
        have S3 := Lib.hid (oddp_le (a - b))
        have hab := Lib.hid h
        clear h
        have c0 := K7.out.cell 0; have c1 := K7.out.cell 1; have c2 := K7.out.cell 2; have c3 := K7.out.cell 3
        have d0 := K9.out.cell 0; have d1 := K9.out.cell 1; have d2 := K9.out.cell 2; have d3 := K9.out.cell 3
        simp at c0 c1 c2 c3 d0 d1 d2 d3
        go_wp2_with fail
        refine (C3.out _).mono ?_
        rintro e w3 ⟨rfl, hb3⟩
        have M7 := Lib.hid (K7.out.below hb3 K7.out.lt); have M9 := Lib.hid (K9.out.below hb3 K9.out.lt); have M4 := Lib.hid (K4.out.below hb3 K4.out.lt)
        have Mb := Lib.hid (Hb.out.trans (hb3.mono Hb.out.size)); have MT := Lib.hid (KT.out.later hb3)
        clear hb3 K7 K9 K4 Hb KT C3 neq c0 c1 c2 c3 d0 d1 d2 d3
        have c0 := M7.out.cell 0; have c1 := M7.out.cell 1; have c2 := M7.out.cell 2; have c3 := M7.out.cell 3
        have d0 := M9.out.cell 0; have d1 := M9.out.cell 1; have d2 := M9.out.cell 2; have d3 := M9.out.cell 3
        simp at c0 c1 c2 c3 d0 d1 d2 d3
        have N7 := M7; have N9 := M9; have N4 := M4; have Nb := Mb; have NT := MT
        clear M7 M9 M4 Mb MT c0 c1 c2 c3 d0 d1 d2 d3
        generalize w3 = w4 at *
        have c0 := N7.out.cell 0; have c1 := N7.out.cell 1; have c2 := N7.out.cell 2; have c3 := N7.out.cell 3
        have d0 := N9.out.cell 0; have d1 := N9.out.cell 1; have d2 := N9.out.cell 2; have d3 := N9.out.cell 3
        simp at c0 c1 c2 c3 d0 d1 d2 d3
        go_wp2_with fail
        refine (C4.out _).mono ?_
        rintro e w5 ⟨rfl, hb5⟩
        have P7 := Lib.hid ((N7.out.below hb5 N7.out.lt).alloc (.cells (magS (a - b)) 33)); have P9 := Lib.hid ((N9.out.below hb5 N9.out.lt).alloc (.cells (magS (a - b)) 33)); have P4 := Lib.hid ((N4.out.below hb5 N4.out.lt).alloc (.cells (magS (a - b)) 33))
        have Pb' := Nb.out.trans (hb5.mono Nb.out.size)
        have Pb := Lib.hid (Pb'.alloc Pb'.size (.cells (magS (a - b)) 33)); have PT := Lib.hid ((NT.out.later hb5).later ((Below.refl _ w5).alloc (Nat.le_refl _) (.cells (magS (a - b)) 33)))
        clear hb5 Pb' N7 N9 N4 Nb NT C4 c0 c1 c2 c3 d0 d1 d2 d3
        go_wp2_with fail
        refine (C5.out _ PT.out).mono ?_
        rintro e w6 ⟨rfl, hb6⟩
        have R7 := Lib.hid (P7.out.below hb6 P7.out.lt); have R9 := Lib.hid (P9.out.below hb6 P9.out.lt); have R4 := Lib.hid (P4.out.below hb6 P4.out.lt)
        have Rb := Lib.hid (Pb.out.trans (hb6.mono Pb.out.size)); have RT := Lib.hid (PT.out.later hb6)
        clear hb6 P7 P9 P4 Pb PT C5
        go_wp2_with (refine wpList_store_row rfl 33 (.tmp 7) (.tmp 63) rfl g7 (magS (oddp (a - b))) rfl rfl 33 (magS a) R7.out (zero_of_info Tryd.infoMag).2 rfl (magS_one _) ?_; simp only [Act.put])
        have T7 := Lib.hid (R7.out.setRow (magS (oddp (a - b))))
        have T9 := Lib.hid (R9.out.farRow (show g9 ≠ g7 by omega) (magS (oddp (a - b))))
        go_roundw
        case rel => exact ⟨oddp (a - b), b, S2.out, Ob.out, by have := S3.out; omega, by omega, by unfold Hid; rw [S1.out]; exact Og.out, T7.out, T9.out, R4.out.farRow (by omega) _, below_setRow Rb.out (by omega) _, tab_row RT.out (by omega) _⟩
        case measure =>
          rw [cellN_of T7.out, cellN_of T9.out, Hm.out]
          have := S3.out
          have := hab.out
          omega

end Go.Proofs.YtfgeocpooimojaaDoor
