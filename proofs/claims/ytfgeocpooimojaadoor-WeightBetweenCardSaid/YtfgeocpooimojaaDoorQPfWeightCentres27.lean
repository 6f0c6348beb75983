/-
  Of of package ratio. Conditions: the denominator is positive, both numbers lie within 2^62; the library's table lies in its variable. Natural numbers as slices of digits (reference of ratios): wideOf, ofInt. Conditions: as each theorem states them. Fractions of the reference: lowest, Of. Conditions: both numbers are below 2^64, and the denominator is positive.
-/
import Derived.Test.YtfgeocpooimojaaDoorQPfWeightCentres26
import Derived.Test.YtfgeocpooimojaaDoorQPfWeightCentres20
namespace Go.Proofs.YtfgeocpooimojaaDoor
open Go Go.RowKit

def ratG (a b : Int) : Nat := Nat.gcd a.natAbs b.natAbs
def ratP (a b : Int) : Nat := a.natAbs / ratG a b
def ratQ (a b : Int) : Nat := b.natAbs / ratG a b
def ratN (a b : Int) : Bool := sgn (decide (a < 0)) (ratP a b)
set_option maxHeartbeats 4000000 in
set_option maxRecDepth 100000 in
theorem ratioOf_at (a b : Int) (ha1 : -4611686018427387904 ≤ a) (ha2 : a ≤ 4611686018427387904) (hb1 : 1 ≤ b) (hb2 : b ≤ 4611686018427387904) (w : World) (hT : Tab w) :
    Calls Tryd.prog 33 #[.int .i64 a, .int .i64 b] w fun e w' => e = .returned (.tuple #[.agg (ratS (ratN a b) (ratP a b) (ratQ a b)), .int .i64 0]) ∧ Below w.heap.size w w' := by
  have HB := Lib.hid (Blk.new w 37 (ratS false 0 0))
  have C1 := Lib.hid (wideOf_at a (by omega) (by omega))
  have C2 : Hid (∀ W, Calls Tryd.prog 59 #[.int .i64 b] W fun e w' => e = .returned (.agg (wideS false b.natAbs)) ∧ Below W.heap.size W w') := fun W => by
    have := wideOf_at b (by omega) (by omega) W
    rw [show decide (b < 0) = false by simp; omega] at this
    exact this
  have C3 : Hid (∀ W, Tab W → Calls Tryd.prog 58 #[.agg (wideS (decide (a < 0)) a.natAbs), .agg (wideS false b.natAbs)] W fun e w' => e = .returned (.tuple #[.agg (ratS (ratN a b) (ratP a b) (ratQ a b)), .int .i64 0]) ∧ Below W.heap.size W w') := fun W h =>
    ratioMake_at (decide (a < 0)) a.natAbs b.natAbs (ratG a b) (ratP a b) (ratQ a b) (fun h => by simp at h; omega) (by omega) (by omega) (by omega) rfl
      (by unfold ratP ratG; rw [Nat.mul_div_cancel' (Nat.gcd_dvd_left _ _)]) (by unfold ratQ ratG; rw [Nat.mul_div_cancel' (Nat.gcd_dvd_right _ _)]) W h
  have HT := Lib.hid hT
  clear ha1 ha2 hb1 hb2 hT
  generalize decide (a < 0) = N at *
  generalize ratN a b = n' at *
  generalize ratP a b = p at *
  generalize ratQ a b = q at *
  go_enter Tryd.func33, Tryd.ntmps33
  go_wp2_with fail
  refine (C1.out _).mono ?_
  rintro e w1 ⟨rfl, hb1⟩
  have K4 := Lib.hid (HB.out.below hb1 HB.out.lt)
  have Hb1 : Hid (Below w.heap.size w w1) := Lib.hid (Below.trans (by go_grown) (hb1.mono (by simp)))
  clear hb1 HB C1
  go_wp2_with fail
  refine (C2.out _).mono ?_
  rintro e w2 ⟨rfl, hb2⟩
  have M4 := Lib.hid (K4.out.below hb2 K4.out.lt)
  have Hb2 := Lib.hid (Hb1.out.trans (hb2.mono Hb1.out.size))
  clear hb2 K4 Hb1 C2
  go_wp2_with fail
  refine (C3.out _ (HT.out.later Hb2.out)).mono ?_
  rintro e w3 ⟨rfl, hb3⟩
  have N4 := Lib.hid (M4.out.below hb3 M4.out.lt)
  have Hb3 := Lib.hid (Hb2.out.trans (hb3.mono Hb2.out.size))
  clear hb3 M4 Hb2 C3
  go_wp2_with (refine wpList_store_row rfl 37 (.tmp 4) (.tmp 11) rfl w.heap.size (ratS n' p q) rfl rfl 37 (ratS false 0 0) N4.out (zero_of_info Tryd.infoRat).2 rfl (ratS_one _ _ _) ?_)
  refine bodyPost_ret (results_cell_tmp rfl _ _ w.heap.size 37 (ratS n' p q) _ rfl (N4.out.setRow _) Tryd.underlying37 rfl (by kernel_rfl)) rfl ⟨rfl, below_setRow Hb3.out (Nat.le_refl _) _⟩
end Go.Proofs.YtfgeocpooimojaaDoor
namespace Go.Proofs.YtfgeocpooimojaaDoor
open Go Go.RowKit

theorem dig_one_word {N : Nat} (h : N < 18446744073709551616) : N = dig N 0 + dig N 1 * 4294967296 := by
  unfold dig
  rw [Nat.pow_zero, Nat.pow_one, Nat.div_one]
  omega
theorem dig_low {N : Nat} (h : N < 4294967296) : dig N 0 = N := by unfold dig; rw [Nat.pow_zero, Nat.div_one]; omega
theorem or_high (a b : Nat) (ha : a < 4294967296) (hb : b < 4294967296) : bits .or .u64 (a : Int) ((b : Int) * 4294967296) = ((a + b * 4294967296 : Nat) : Int) := by
  rw [show (b : Int) * 4294967296 = ((b * 4294967296 : Nat) : Int) by omega, u64_or_nat _ _ (by omega) (by omega)]
  congr 1
  rw [Nat.or_comm, show (4294967296 : Nat) = 2 ^ 32 from rfl, Nat.mul_comm, ← Nat.two_pow_add_eq_or_of_lt (by omega), Nat.add_comm]
theorem or_low (a : Nat) (ha : a < 18446744073709551616) : bits .or .u64 0 (a : Int) = (a : Int) := by
  have := u64_or_nat 0 a (by omega) ha
  simpa using this
set_option maxHeartbeats 4000000 in
set_option maxRecDepth 100000 in
theorem refWideOf_at (neg : Bool) (A : Option Addr) (n c N : Nat) (hN : N < 18446744073709551616) (w : World) (h : NatS w A n c N) :
    Calls Tryd.prog 85 #[.bool neg, .slice A n c] w fun e w' => e = .returned (.tuple #[.agg (wideS (sgn neg N) N), .bool true]) ∧ Below w.heap.size w w' := by
  have hn : n ≤ 2 := trm_few h.trm (by simpa using hN)
  match n, hn, h with
  | 0, _, h =>
    obtain rfl : N = 0 := (trm_zero h.trm).1 rfl
    have E : Hid (sgn neg 0 = false) := by cases neg <;> rfl
    have HB := Lib.hid (blk_start2 w 35 35 (wideS false 0) (wideS false 0))
    clear h hN
    cases neg
    all_goals
      go_enter Tryd.func85, Tryd.ntmps85
      go_wp2_with fail
      go_rounds 1
      refine bodyPost_ret (results_cell_tmp rfl _ _ w.heap.size 35 (wideS false 0) _ rfl HB.out.1 Tryd.underlying35 rfl (by kernel_rfl)) rfl ⟨by rw [E.out]; rfl, HB.out.2.2⟩
  | 1, _, h =>
    have hN0 : N ≠ 0 := fun e => by have := (trm_zero h.trm).2 e; omega
    have E : Hid (sgn neg N = neg) := by unfold Hid sgn; simp [hN0]
    obtain ⟨ad, u, rfl, hB, hx, cx⟩ := h.rd.at_ (k := 0) (by omega)
    rw [dcells_get (by omega), dig_low (by simpa using h.trm.1)] at hx
    cases hx
    have o1 := or_low N hN
    have l0 : N < 4294967296 := by simpa using h.trm.1
    have cx' : w.cell? ad = some (.int .u32 (N : Nat)) := by simpa [Addr.add] using cx
    have ne1 : ad.block ≠ w.heap.size := by omega
    have HB := Lib.hid (blk_start2 w 35 35 (wideS neg N) (wideS neg N))
    clear h hN hN0
    cases neg
    all_goals
      go_enter Tryd.func85, Tryd.ntmps85
      go_wp2_with fail
      refine wp_loop_rounds 2 ?_
      rw [rounds_succ]
      go_wp2_with fail
      go_region
      go_wp2_with fail
      rw [rounds_succ]
      go_wp2_with fail
      refine bodyPost_ret (results_cell_tmp rfl _ _ w.heap.size 35 (wideS _ N) _ rfl HB.out.1.drew Tryd.underlying35 rfl (by kernel_rfl)) rfl ⟨by rw [E.out]; rfl, HB.out.2.2.drew⟩
  | 2, _, h =>
    have hN0 : N ≠ 0 := fun e => by have := (trm_zero h.trm).2 e; omega
    have E : Hid (sgn neg N = neg) := by unfold Hid sgn; simp [hN0]
    obtain ⟨ad, u, rfl, hB, hx, cx⟩ := h.rd.at_ (k := 0) (by omega)
    rw [dcells_get (by omega)] at hx
    cases hx
    obtain ⟨ad', u', e', _, hx, cy⟩ := h.rd.at_ (k := 1) (by omega)
    rw [dcells_get (by omega)] at hx
    cases hx
    cases e'
    have l0 := dig_lt N 0
    have l1 := dig_lt N 1
    have o1 := or_low (dig N 0) (by omega)
    have o2 : bits .or .u64 (dig N 0 : Int) ((dig N 1 : Int) * 4294967296) = (N : Int) := by
      rw [or_high _ _ l0 l1, ← dig_one_word hN]
    have cx' : w.cell? ad = some (.int .u32 (dig N 0 : Nat)) := by simpa [Addr.add] using cx
    have cy' : w.cell? ⟨ad.block, ad.off + 1, none⟩ = some (.int .u32 (dig N 1 : Nat)) := by simpa [Addr.add] using cy
    have ne1 : ad.block ≠ w.heap.size := by omega
    have HB := Lib.hid (blk_start2 w 35 35 (wideS neg N) (wideS neg N))
    clear h hN hN0
    generalize dig N 0 = d0 at *
    generalize dig N 1 = d1 at *
    cases neg
    all_goals
      go_enter Tryd.func85, Tryd.ntmps85
      go_wp2_with fail
      refine wp_loop_rounds 3 ?_
      rw [rounds_succ]
      go_wp2_with fail
      go_region
      go_wp2_with fail
      rw [rounds_succ]
      go_wp2_with fail
      go_region
      go_wp2_with fail
      rw [rounds_succ]
      go_wp2_with fail
      refine bodyPost_ret (results_cell_tmp rfl _ _ w.heap.size 35 (wideS _ N) _ rfl HB.out.1.drew.drew Tryd.underlying35 rfl (by kernel_rfl)) rfl ⟨by rw [E.out]; rfl, HB.out.2.2.drew.drew⟩
/-- The cells of an integer of any size. -/
def RetWhole (w : World) (neg : Bool) (N : Nat) (e : Ending) (w' : World) : Prop := ∃ v, e = .returned (.agg #[.bool neg, v]) ∧ NatV w' v N ∧ Below w.heap.size w w'
theorem natV_one {w : World} {v : Value} {N : Nat} (h : NatV w v N) : v.oneCell' = true := by
  obtain ⟨A, n, c, rfl, _⟩ := h
  rfl
theorem Tryd.infoWhole : (Tryd.prog.info? 89).map (fun i => (i.zero, i.size)) = some (some (.agg #[.bool false, .slice none 0 0]), 2) := by kernel_rfl
theorem natV_setRow {w : World} {v : Value} {N : Nat} (h : NatV w v N) {g : Nat} (hp : ∀ g', v.ownBlock = some g' → g' ≠ g) (cs : Array Value) : NatV (w.setRow g cs) v N := by
  obtain ⟨A, n, c, rfl, h⟩ := h
  refine ⟨A, n, c, rfl, h.cap, h.top, h.trm, h.rd.1, fun h0 => ?_⟩
  obtain ⟨ad, rfl, hb, hc⟩ := h.rd.2 h0
  refine ⟨ad, rfl, by rw [size_setRow]; exact hb, fun j x hx => ?_⟩
  rw [World.cell?_of_block (setRow_other w g _ cs (by rw [block_of_add]; exact hp ad.block rfl))]
  exact hc j x hx
set_option maxHeartbeats 4000000 in
theorem ofInt_at (a : Int) (h1 : -9223372036854775808 ≤ a) (h2 : a ≤ 9223372036854775807) (w : World) : Calls Tryd.prog 61 #[.int .i64 a] w (RetWhole w (decide (a < 0)) a.natAbs) := by
  have HB := Lib.hid (Blk.new w 89 #[.bool false, .slice none 0 0])
  have C : Hid (∀ W, Calls Tryd.prog 86 #[.int .u64 (a.natAbs : Nat)] W (RetNat W a.natAbs)) := fun W => small_nat _ (by omega) W
  by_cases hneg : a < 0
  · have e0 : decide (a < 0) = true := by simpa using hneg
    have e1 : ((a.natAbs : Nat) : Int) = -(a + 1) + 1 := by omega
    rw [e0]
    rw [e1] at C
    clear e0 e1
    go_enter Tryd.func61, Tryd.ntmps61
    go_wp2_with fail
    refine (C.out _).mono ?_
    rintro e w1 ⟨v, rfl, hv, hf, hb1⟩
    obtain ⟨A, n, c, rfl, hs⟩ := hv
    have hlt : w.heap.size < w1.heap.size := by have := hb1.size; simp at this; omega
    have K1 := Lib.hid (HB.out.below hb1 HB.out.lt)
    have Hb1 : Hid (Below w.heap.size w w1) := Lib.hid (Below.trans (by go_grown) (hb1.mono (by simp)))
    have HV : Hid (NatV (w1.setRow w.heap.size #[.bool true, .slice A n c]) (.slice A n c) a.natAbs) := natV_setRow ⟨_, _, _, rfl, hs⟩ (fun g hg => by have := hf g hg; simp at this; omega) _
    clear hs hf hb1 HB C
    go_wp2_with (refine wpList_store_row rfl 89 (.tmp 2) (.tmp 11) rfl w.heap.size #[.bool true, .slice A n c] rfl rfl 89 #[.bool false, .slice none 0 0] K1.out (zero_of_info Tryd.infoWhole).2 rfl (by simp [Value.oneCell']) ?_)
    refine bodyPost_ret (results_cell_one rfl _ _ w.heap.size 89 #[.bool true, .slice A n c] _ rfl (K1.out.setRow _) Tryd.underlying89 rfl (by kernel_rfl)) rfl ⟨_, rfl, HV.out, below_setRow Hb1.out (Nat.le_refl _) _⟩
  · have e0 : decide (a < 0) = false := by simpa using hneg
    have e1 : ((a.natAbs : Nat) : Int) = a := by omega
    rw [e0]
    rw [e1] at C
    clear e0 e1
    go_enter Tryd.func61, Tryd.ntmps61
    go_wp2_with fail
    refine (C.out _).mono ?_
    rintro e w1 ⟨v, rfl, hv, hf, hb1⟩
    obtain ⟨A, n, c, rfl, hs⟩ := hv
    have hlt : w.heap.size < w1.heap.size := by have := hb1.size; simp at this; omega
    have K1 := Lib.hid (HB.out.below hb1 HB.out.lt)
    have Hb1 : Hid (Below w.heap.size w w1) := Lib.hid (Below.trans (by go_grown) (hb1.mono (by simp)))
    have HV : Hid (NatV (w1.setRow w.heap.size #[.bool false, .slice A n c]) (.slice A n c) a.natAbs) := natV_setRow ⟨_, _, _, rfl, hs⟩ (fun g hg => by have := hf g hg; simp at this; omega) _
    clear hs hf hb1 HB C
    go_wp2_with (refine wpList_store_row rfl 89 (.tmp 2) (.tmp 15) rfl w.heap.size #[.bool false, .slice A n c] rfl rfl 89 #[.bool false, .slice none 0 0] K1.out (zero_of_info Tryd.infoWhole).2 rfl (by simp [Value.oneCell']) ?_)
    refine bodyPost_ret (results_cell_one rfl _ _ w.heap.size 89 #[.bool false, .slice A n c] _ rfl (K1.out.setRow _) Tryd.underlying89 rfl (by kernel_rfl)) rfl ⟨_, rfl, HV.out, below_setRow Hb1.out (Nat.le_refl _) _⟩
end Go.Proofs.YtfgeocpooimojaaDoor
namespace Go.Proofs.YtfgeocpooimojaaDoor
open Go Go.RowKit

theorem blk_start3r (w : World) (t1 t2 t3 : TypeId) (c1 c2 c3 : Array Value) : Blk (((w.alloc (.cells c1 t1)).alloc (.cells c2 t2)).alloc (.cells c3 t3)) w.heap.size t1 c1 ∧ Blk (((w.alloc (.cells c1 t1)).alloc (.cells c2 t2)).alloc (.cells c3 t3)) (w.heap.size + 1) t2 c2 ∧ Blk (((w.alloc (.cells c1 t1)).alloc (.cells c2 t2)).alloc (.cells c3 t3)) (w.heap.size + 1 + 1) t3 c3 ∧ Below w.heap.size w (((w.alloc (.cells c1 t1)).alloc (.cells c2 t2)).alloc (.cells c3 t3)) := by
  have h := blk_start2 w t1 t2 c1 c2
  refine ⟨h.1.alloc _, h.2.1.alloc _, ?_, by go_grown⟩
  have := Blk.new ((w.alloc (.cells c1 t1)).alloc (.cells c2 t2)) t3 c3
  simpa using this
set_option maxHeartbeats 4000000 in
set_option maxRecDepth 100000 in
theorem lowest_at (neg : Bool) (A1 A2 : Option Addr) (n m c1 c2 X Y : Nat) (hX : X < 18446744073709551616) (hY : Y < 18446744073709551616) (hY0 : 0 < Y) (w : World) (h1 : NatS w A1 n c1 X) (h2 : NatS w A2 m c2 Y) :
    Calls Tryd.prog 60 #[.agg #[.bool neg, .slice A1 n c1], .agg #[.bool false, .slice A2 m c2]] w fun e w' => e = .returned (.tuple #[.agg (ratS (sgn neg (X / Nat.gcd X Y)) (X / Nat.gcd X Y) (Y / Nat.gcd X Y)), .int .i64 0]) ∧ Below w.heap.size w w' := by
  have hn : n ≤ 2 := trm_few h1.trm (by simpa using hX)
  have hm : m ≤ 2 := trm_few h2.trm (by simpa using hY)
  have hm0 : ((m : Int) == 0) = false := by
    have : m ≠ 0 := fun e => by have := (trm_zero h2.trm).1 e; omega
    simp; omega
  have HB := Lib.hid (blk_start3r w 89 89 37 #[.bool neg, .slice A1 n c1] #[.bool false, .slice A2 m c2] (ratS false 0 0))
  have H1 := Lib.hid h1; have H2 := Lib.hid h2
  have HG0 : Hid (0 < Nat.gcd X Y) := Nat.gcd_pos_of_pos_right _ hY0
  have HGY : Hid (Nat.gcd X Y ≤ Y) := Nat.gcd_le_right _ hY0
  have HX := Lib.hid hX; have HY := Lib.hid hY
  clear h1 h2 hX hY hY0
  obtain ⟨sg, hsg⟩ : ∃ s, sgn neg (X / Nat.gcd X Y) = s := ⟨_, rfl⟩
  obtain ⟨P, hP⟩ : ∃ s, X / Nat.gcd X Y = s := ⟨_, rfl⟩
  obtain ⟨Q, hQ⟩ : ∃ s, Y / Nat.gcd X Y = s := ⟨_, rfl⟩
  rw [hsg, hP, hQ]
  have HSG := Lib.hid hsg; have HP := Lib.hid hP; have HQ := Lib.hid hQ
  clear hsg hP hQ
  go_enter Tryd.func60, Tryd.ntmps60
  go_wp2_with fail
  refine (refGcd_at A1 A2 n m c1 c2 X Y 2 (by omega) hn hm _ (H1.out.below HB.out.2.2.2) (H2.out.below HB.out.2.2.2)).mono ?_
  rintro e w1 ⟨vg, rfl, hvg, hb1⟩
  obtain ⟨Ag, ng, cg, rfl, hg⟩ := hvg
  have hng : ng ≤ 2 := trm_few hg.trm (by have h1 := HGY.out; have h2 := HY.out; simp; omega)
  have K0 := Lib.hid (HB.out.1.below hb1 HB.out.1.lt)
  have K1 := Lib.hid (HB.out.2.1.below hb1 HB.out.2.1.lt)
  have K2 := Lib.hid (HB.out.2.2.1.below hb1 HB.out.2.2.1.lt)
  have Hb1 : Hid (Below w.heap.size w w1) := Lib.hid (HB.out.2.2.2.trans (hb1.mono HB.out.2.2.2.size))
  have C1 := Lib.hid (divide_at A1 Ag n ng c1 cg X (Nat.gcd X Y) (by omega) (by omega) HG0.out w1 (H1.out.below Hb1.out) hg)
  have HGS := Lib.hid hg
  have x0 : w1.cell? ⟨w.heap.size, 1, none⟩ = some (.slice A1 n c1) := K0.out.cell 1
  clear hg hb1 HB hm0
  go_wp2_with fail
  refine C1.out.mono ?_
  rintro e w2 ⟨va, vr, rfl, hva, _, hb2⟩
  obtain ⟨Aa, na, ca, rfl, ha⟩ := hva
  have L0 := Lib.hid (K0.out.below hb2 K0.out.lt)
  have L1 := Lib.hid (K1.out.below hb2 K1.out.lt)
  have L2 := Lib.hid (K2.out.below hb2 K2.out.lt)
  have Hb2 := Lib.hid (Hb1.out.trans (hb2.mono Hb1.out.size))
  have C2 := Lib.hid (divide_at A2 Ag m ng c2 cg Y (Nat.gcd X Y) (by omega) (by omega) HG0.out w2 (H2.out.below Hb2.out) (HGS.out.below hb2))
  have HAS := Lib.hid ha
  have y0 : w2.cell? ⟨w.heap.size + 1, 1, none⟩ = some (.slice A2 m c2) := L1.out.cell 1
  clear ha hb2 x0 C1 K0 K1 K2 Hb1 HGS
  go_wp2_with fail
  refine C2.out.mono ?_
  rintro e w3 ⟨vb, vs, rfl, hvb, _, hb3⟩
  obtain ⟨Ab, nb, cb, rfl, hbS⟩ := hvb
  have M0 := Lib.hid (L0.out.below hb3 L0.out.lt)
  have M1 := Lib.hid (L1.out.below hb3 L1.out.lt)
  have M2 := Lib.hid (L2.out.below hb3 L2.out.lt)
  have Hb3 := Lib.hid (Hb2.out.trans (hb3.mono Hb2.out.size))
  have HAS3 := Lib.hid (HAS.out.below hb3)
  have HBS := Lib.hid hbS
  have hXg : X / Nat.gcd X Y < 18446744073709551616 := Nat.lt_of_le_of_lt (Nat.div_le_self _ _) HX.out
  have hYg : Y / Nat.gcd X Y < 18446744073709551616 := Nat.lt_of_le_of_lt (Nat.div_le_self _ _) HY.out
  have C3 : Hid (Calls Tryd.prog 85 #[.bool neg, .slice Aa na ca] w3 fun e w' => e = .returned (.tuple #[.agg (wideS sg P), .bool true]) ∧ Below w3.heap.size w3 w') := by
    have := refWideOf_at neg Aa na ca _ hXg w3 HAS3.out
    rw [HSG.out, HP.out] at this
    exact this
  have C4 : Hid (∀ W, Below w3.heap.size w3 W → Calls Tryd.prog 85 #[.bool false, .slice Ab nb cb] W fun e w' => e = .returned (.tuple #[.agg (wideS false Q), .bool true]) ∧ Below W.heap.size W w') := fun W hW => by
    have := refWideOf_at false Ab nb cb _ hYg W (HBS.out.below hW)
    rw [HQ.out] at this
    exact this
  have z0 : w3.cell? ⟨w.heap.size, 0, none⟩ = some (.bool neg) := M0.out.cell 0
  have z1 : w3.cell? ⟨w.heap.size + 1, 0, none⟩ = some (.bool false) := M1.out.cell 0
  clear hbS hb3 y0 C2 L0 L1 L2 Hb2 HAS HAS3 HBS hXg hYg
  have hneq : (neg != false) = neg := by cases neg <;> rfl
  go_wp2_with fail
  refine C3.out.mono ?_
  rintro e w4 ⟨rfl, hb4⟩
  have N2 := Lib.hid (M2.out.below hb4 M2.out.lt)
  have Hb4 := Lib.hid (Hb3.out.trans (hb4.mono Hb3.out.size))
  have C5 := Lib.hid (C4.out (w4.alloc (.cells (wideS sg P) 35)) (hb4.alloc hb4.size _))
  have hl4 := N2.out.lt
  clear hb4 C3 C4 M0 M1 M2 Hb3 z0 z1 hneq
  go_wp2_with fail
  refine C5.out.mono ?_
  rintro e w5 ⟨rfl, hb5⟩
  have O2 := Lib.hid ((N2.out.alloc (.cells (wideS sg P) 35)).below hb5 (by simp; omega))
  have OP := Lib.hid ((Blk.new w4 35 (wideS sg P)).below hb5 (by simp))
  have Hb5 : Hid (Below w.heap.size w w5) := Lib.hid ((Hb4.out.alloc Hb4.out.size _).trans (hb5.mono (by have := Hb4.out.size; simp; omega)))
  have hs5 : w4.heap.size < w5.heap.size := OP.out.lt
  have p0 : w5.cell? ⟨w4.heap.size, 0, none⟩ = some (.bool sg) := OP.out.cell 0
  have p1 : w5.cell? ⟨w4.heap.size, 1, none⟩ = some (.int .u64 (P : Nat)) := OP.out.cell 1
  have p2 : w5.cell? ⟨w4.heap.size, 2, none⟩ = some (.int .u64 0) := OP.out.cell 2
  have p3 : w5.cell? ⟨w4.heap.size, 3, none⟩ = some (.int .u64 0) := OP.out.cell 3
  have p4 : w5.cell? ⟨w4.heap.size, 4, none⟩ = some (.int .u64 0) := OP.out.cell 4
  clear hb5 C5 N2 Hb4
  go_wp2_with (refine wpList_store_row rfl 37 (.tmp 4) (.tmp 63) rfl (w.heap.size + 1 + 1) (ratS sg P Q) rfl rfl 37 (ratS false 0 0) (O2.out.alloc _) (zero_of_info Tryd.infoRat).2 rfl (ratS_one _ _ _) ?_)
  refine bodyPost_ret (results_cell_tmp rfl _ _ (w.heap.size + 1 + 1) 37 (ratS sg P Q) _ rfl ((O2.out.alloc _).setRow _) Tryd.underlying37 rfl (by kernel_rfl)) rfl ⟨rfl, below_setRow (Hb5.out.alloc Hb5.out.size _) (by omega) _⟩
set_option maxHeartbeats 4000000 in
set_option maxRecDepth 100000 in
theorem refRatioOf_at (a b : Int) (ha1 : -4611686018427387904 ≤ a) (ha2 : a ≤ 4611686018427387904) (hb1 : 1 ≤ b) (hb2 : b ≤ 4611686018427387904) (w : World) :
    Calls Tryd.prog 35 #[.int .i64 a, .int .i64 b] w fun e w' => e = .returned (.tuple #[.agg (ratS (ratN a b) (ratP a b) (ratQ a b)), .int .i64 0]) ∧ Below w.heap.size w w' := by
  have HB := Lib.hid (Blk.new w 37 (ratS false 0 0))
  have C1 : Hid (∀ W, Calls Tryd.prog 61 #[.int .i64 a] W (RetWhole W (decide (a < 0)) a.natAbs)) := fun W => ofInt_at a (by omega) (by omega) W
  have C2 : Hid (∀ W, Calls Tryd.prog 61 #[.int .i64 b] W (RetWhole W false b.natAbs)) := fun W => by
    have := ofInt_at b (by omega) (by omega) W
    rw [show decide (b < 0) = false by simp; omega] at this
    exact this
  have C3 : Hid (∀ (W : World) (A1 A2 : Option Addr) (n m c1 c2 : Nat), NatS W A1 n c1 a.natAbs → NatS W A2 m c2 b.natAbs → Calls Tryd.prog 60 #[.agg #[.bool (decide (a < 0)), .slice A1 n c1], .agg #[.bool false, .slice A2 m c2]] W fun e w' => e = .returned (.tuple #[.agg (ratS (ratN a b) (ratP a b) (ratQ a b)), .int .i64 0]) ∧ Below W.heap.size W w') := fun W A1 A2 n m c1 c2 h1 h2 =>
    lowest_at (decide (a < 0)) A1 A2 n m c1 c2 a.natAbs b.natAbs (by omega) (by omega) (by omega) W h1 h2
  clear ha1 ha2 hb1 hb2
  generalize decide (a < 0) = N at *
  generalize ratN a b = n' at *
  generalize ratP a b = p at *
  generalize ratQ a b = q at *
  generalize a.natAbs = X at *
  generalize b.natAbs = Y at *
  go_enter Tryd.func35, Tryd.ntmps35
  go_wp2_with fail
  refine (C1.out _).mono ?_
  rintro e w1 ⟨v1, rfl, hv1, hb1⟩
  have K4 := Lib.hid (HB.out.below hb1 HB.out.lt)
  have Hb1 : Hid (Below w.heap.size w w1) := Lib.hid (Below.trans (by go_grown) (hb1.mono (by simp)))
  have HV1 := Lib.hid hv1
  clear hb1 HB C1 hv1
  go_wp2_with fail
  refine (C2.out _).mono ?_
  rintro e w2 ⟨v2, rfl, hv2, hb2⟩
  obtain ⟨A2, m, c2, rfl, h2⟩ := hv2
  obtain ⟨A1, n, c1, rfl, h1⟩ := HV1.out.below hb2
  have M4 := Lib.hid (K4.out.below hb2 K4.out.lt)
  have Hb2 := Lib.hid (Hb1.out.trans (hb2.mono Hb1.out.size))
  have C4 := Lib.hid (C3.out w2 A1 A2 n m c1 c2 h1 h2)
  clear hb2 K4 Hb1 C2 h1 h2 HV1 C3
  go_wp2_with fail
  refine C4.out.mono ?_
  rintro e w3 ⟨rfl, hb3⟩
  have N4 := Lib.hid (M4.out.below hb3 M4.out.lt)
  have Hb3 := Lib.hid (Hb2.out.trans (hb3.mono Hb2.out.size))
  clear hb3 M4 Hb2 C4
  go_wp2_with (refine wpList_store_row rfl 37 (.tmp 4) (.tmp 11) rfl w.heap.size (ratS n' p q) rfl rfl 37 (ratS false 0 0) N4.out (zero_of_info Tryd.infoRat).2 rfl (ratS_one _ _ _) ?_)
  refine bodyPost_ret (results_cell_tmp rfl _ _ w.heap.size 37 (ratS n' p q) _ rfl (N4.out.setRow _) Tryd.underlying37 rfl (by kernel_rfl)) rfl ⟨rfl, below_setRow Hb3.out (Nat.le_refl _) _⟩
end Go.Proofs.YtfgeocpooimojaaDoor
