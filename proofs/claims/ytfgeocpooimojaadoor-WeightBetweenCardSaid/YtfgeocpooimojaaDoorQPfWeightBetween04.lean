/-
  Valid of package ratio, and within of the law. Conditions: the fractions are in lowest terms, their numbers below 2^63; the library's table lies in its variable. The centre of a sum lies between the centres: the plain part, and within at such fractions. Conditions: as each theorem states them.
-/
import Derived.Test.YtfgeocpooimojaaDoorQPfWeightBetween03
import Derived.Test.YtfgeocpooimojaaDoorQPfWeightCentres29
namespace Go.Proofs.YtfgeocpooimojaaDoor
open Go Go.RowKit

set_option maxHeartbeats 2000000 in
theorem ratioOne_at (w : World) : Calls Tryd.prog 49 #[] w fun e w' => e = .returned (.agg (wideS false 1)) ∧ Below w.heap.size w w' := by
  have C : Hid (∀ W, Calls Tryd.prog 59 #[.int .i64 1] W fun e w' => e = .returned (.agg (wideS false 1)) ∧ Below W.heap.size W w') := fun W => wideOf_at 1 (by omega) (by omega) W
  have HB := Lib.hid (Blk.new w 35 wideZ)
  go_enter Tryd.func49, Tryd.ntmps49
  go_wp2_with fail
  refine (C.out _).mono ?_
  rintro e w1 ⟨rfl, hb1⟩
  have K := Lib.hid (HB.out.below hb1 HB.out.lt)
  have Hb1 : Hid (Below w.heap.size w w1) := Lib.hid (Below.trans (by go_grown) (hb1.mono (by simp)))
  clear hb1 HB C
  go_wp2_with (refine wpList_store_row rfl 35 (.tmp 0) (.tmp 1) rfl w.heap.size (wideS false 1) rfl rfl 35 wideZ K.out (zero_of_info Tryd.infoWid).2 rfl (wideS_one _ _) ?_)
  refine bodyPost_ret (results_cell_one rfl _ _ w.heap.size 35 (wideS false 1) _ rfl (K.out.setRow _) Tryd.underlying35 rfl (by kernel_rfl)) rfl ⟨rfl, below_setRow Hb1.out (Nat.le_refl _) _⟩
set_option maxHeartbeats 4000000 in
set_option maxRecDepth 100000 in
theorem ratioValid_at (n : Bool) (p q : Nat) (h : Low n p q) (hp : p < 9223372036854775808) (hq : q < 9223372036854775808) (w : World) (hT : Tab w) :
    Calls Tryd.prog 27 #[.agg (ratS n p q)] w fun e w' => e = .returned (.bool true) ∧ Below w.heap.size w w' := by
  have HB := Lib.hid (Blk.new w 37 (ratS n p q))
  have C1 := Lib.hid (fun W => wideValid_at n p h.hn W)
  have C2 := Lib.hid (fun W => wideValid_at false q (fun e => by cases e) W)
  have C3 : Hid (∀ W, Calls Tryd.prog 46 #[.agg (wideS false q)] W fun e w' => e = .returned (.int .i64 1) ∧ Below W.heap.size W w') := fun W => by
    have := ratioSign_at q h.hq W
    rw [show cmpN q 0 = 1 by unfold cmpN; rw [if_neg (by omega), if_pos (by have := h.h0; omega)]] at this
    exact this
  have C4 : Hid (∀ W, Tab W → Calls Tryd.prog 48 #[.agg (wideS n p), .agg (wideS false q)] W fun e w' => e = .returned (.agg (wideS false 1)) ∧ Below W.heap.size W w') := fun W hT => by
    have := wideGcd_at n p q hp h.h0 hq W hT
    rw [h.hg] at this
    exact this
  have C6 : Hid (∀ W, Calls Tryd.prog 47 #[.agg (wideS false 1), .agg (wideS false 1)] W fun e w' => e = .returned (.int .i64 0) ∧ Below W.heap.size W w') := fun W => by
    have := wideCmp_at 1 1 (by omega) (by omega) W
    rw [show cmpN 1 1 = 0 from cmp_same] at this
    exact this
  have HT := Lib.hid hT
  have HBb : Hid (Below w.heap.size w (w.alloc (.cells (ratS n p q) 37))) := by unfold Hid; go_grown
  clear h hp hq hT
  go_enter Tryd.func27, Tryd.ntmps27
  go_wp2_with fail
  refine (C1.out _).mono ?_
  rintro e w1 ⟨rfl, hb1⟩
  have K1 := Lib.hid (HB.out.below hb1 HB.out.lt)
  have Hb1 : Hid (Below w.heap.size w w1) := Lib.hid (HBb.out.trans (hb1.mono HBb.out.size))
  clear hb1 HB HBb
  have x0 := K1.out.cell 0; have x1 := K1.out.cell 1; have x2 := K1.out.cell 2; have x3 := K1.out.cell 3; have x4 := K1.out.cell 4; have x5 := K1.out.cell 5; have x6 := K1.out.cell 6; have x7 := K1.out.cell 7; have x8 := K1.out.cell 8; have x9 := K1.out.cell 9
  simp at x0 x1 x2 x3 x4 x5 x6 x7 x8 x9
  go_wp2_with fail
  refine (C2.out _).mono ?_
  rintro e w2 ⟨rfl, hb2⟩
  have K2 := Lib.hid (K1.out.below hb2 K1.out.lt)
  have Hb2 : Hid (Below w.heap.size w w2) := Lib.hid (Hb1.out.trans (hb2.mono Hb1.out.size))
  clear hb2 K1 Hb1 x0 x1 x2 x3 x4 x5 x6 x7 x8 x9
  have x0 := K2.out.cell 0; have x1 := K2.out.cell 1; have x2 := K2.out.cell 2; have x3 := K2.out.cell 3; have x4 := K2.out.cell 4; have x5 := K2.out.cell 5; have x6 := K2.out.cell 6; have x7 := K2.out.cell 7; have x8 := K2.out.cell 8; have x9 := K2.out.cell 9
  simp at x0 x1 x2 x3 x4 x5 x6 x7 x8 x9
  go_wp2_with fail
  refine (C3.out _).mono ?_
  rintro e w3 ⟨rfl, hb3⟩
  have K3 := Lib.hid (K2.out.below hb3 K2.out.lt)
  have Hb3 : Hid (Below w.heap.size w w3) := Lib.hid (Hb2.out.trans (hb3.mono Hb2.out.size))
  clear hb3 K2 Hb2 x0 x1 x2 x3 x4 x5 x6 x7 x8 x9
  have x0 := K3.out.cell 0; have x1 := K3.out.cell 1; have x2 := K3.out.cell 2; have x3 := K3.out.cell 3; have x4 := K3.out.cell 4; have x5 := K3.out.cell 5; have x6 := K3.out.cell 6; have x7 := K3.out.cell 7; have x8 := K3.out.cell 8; have x9 := K3.out.cell 9
  simp at x0 x1 x2 x3 x4 x5 x6 x7 x8 x9
  go_wp2_with fail
  refine (C4.out _ (HT.out.later Hb3.out)).mono ?_
  rintro e w4 ⟨rfl, hb4⟩
  have K4 := Lib.hid (K3.out.below hb4 K3.out.lt)
  have Hb4 : Hid (Below w.heap.size w w4) := Lib.hid (Hb3.out.trans (hb4.mono Hb3.out.size))
  clear hb4 K3 Hb3 x0 x1 x2 x3 x4 x5 x6 x7 x8 x9
  go_wp2_with fail
  refine (ratioOne_at _).mono ?_
  rintro e w5 ⟨rfl, hb5⟩
  have K5 := Lib.hid (K4.out.below hb5 K4.out.lt)
  have Hb5 : Hid (Below w.heap.size w w5) := Lib.hid (Hb4.out.trans (hb5.mono Hb4.out.size))
  clear hb5 K4 Hb4
  go_wp2_with fail
  refine (C6.out _).mono ?_
  rintro e w6 ⟨rfl, hb6⟩
  have K6 := Lib.hid (K5.out.below hb6 K5.out.lt)
  have Hb6 : Hid (Below w.heap.size w w6) := Lib.hid (Hb5.out.trans (hb6.mono Hb5.out.size))
  clear hb6 K5 Hb5
  go_wp2_with fail
  go_ret
  exact ⟨rfl, Hb6.out⟩
theorem cmpZ_le {z : Int} (h : z ≤ 0) : cmpZ z ≤ 0 := by unfold cmpZ; split; · decide
                                                         · split <;> omega
theorem cmpZ_pos {z : Int} (h : 0 < z) : 0 < cmpZ z := by unfold cmpZ; rw [if_neg (by omega), if_neg (by omega)]; decide
set_option maxHeartbeats 8000000 in
set_option maxRecDepth 100000 in
theorem within_up (n1 n2 n3 : Bool) (p1 q1 p2 q2 p3 q3 : Nat) (h1 : Low n1 p1 q1) (h2 : Low n2 p2 q2) (h3 : Low n3 p3 q3) (a1 : sv n1 (p1 * q2) - sv n2 (p2 * q1) ≤ 0) (a2 : sv n2 (p2 * q3) - sv n3 (p3 * q2) ≤ 0) (w : World) :
    Calls Tryd.prog 28 #[.agg (ratS n1 p1 q1), .agg (ratS n2 p2 q2), .agg (ratS n3 p3 q3)] w fun e w' => e = .returned (.bool true) ∧ Below w.heap.size w w' := by
  obtain ⟨ca, hca, cac⟩ : ∃ c : Int, c ≤ 0 ∧ ∀ W, Calls Tryd.prog 50 #[.agg (ratS n1 p1 q1), .agg (ratS n2 p2 q2)] W fun e w' => e = .returned (.int .i64 c) ∧ Below W.heap.size W w' := ⟨_, cmpZ_le a1, fun W => refCmp_at n1 n2 p1 q1 p2 q2 h1 h2 W⟩
  have CA := Lib.hid cac; clear cac
  obtain ⟨cb, hcb, cbc⟩ : ∃ c : Int, c ≤ 0 ∧ ∀ W, Calls Tryd.prog 50 #[.agg (ratS n2 p2 q2), .agg (ratS n3 p3 q3)] W fun e w' => e = .returned (.int .i64 c) ∧ Below W.heap.size W w' := ⟨_, cmpZ_le a2, fun W => refCmp_at n2 n3 p2 q2 p3 q3 h2 h3 W⟩
  have CB := Lib.hid cbc; clear cbc
  have HB := Lib.hid (blk_start3r w 37 37 37 (ratS n1 p1 q1) (ratS n2 p2 q2) (ratS n3 p3 q3))
  clear h1 h2 h3 a1 a2
  go_enter Tryd.func28, Tryd.ntmps28
  go_wp2_with fail
  refine (CA.out _).mono ?_
  rintro e w1 ⟨rfl, hb1⟩
  have K10 := Lib.hid ((HB.out.1).below hb1 (HB.out.1).lt)
  have K11 := Lib.hid ((HB.out.2.1).below hb1 (HB.out.2.1).lt)
  have K12 := Lib.hid ((HB.out.2.2.1).below hb1 (HB.out.2.2.1).lt)
  have Hb1 : Hid (Below w.heap.size w w1) := Lib.hid ((HB.out.2.2.2).trans (hb1.mono (HB.out.2.2.2).size))
  clear hb1 HB
  have x0 := K10.out.cell 0; have x1 := K10.out.cell 1; have x2 := K10.out.cell 2; have x3 := K10.out.cell 3; have x4 := K10.out.cell 4; have x5 := K10.out.cell 5; have x6 := K10.out.cell 6; have x7 := K10.out.cell 7; have x8 := K10.out.cell 8; have x9 := K10.out.cell 9
  simp at x0 x1 x2 x3 x4 x5 x6 x7 x8 x9
  have y0 := K11.out.cell 0; have y1 := K11.out.cell 1; have y2 := K11.out.cell 2; have y3 := K11.out.cell 3; have y4 := K11.out.cell 4; have y5 := K11.out.cell 5; have y6 := K11.out.cell 6; have y7 := K11.out.cell 7; have y8 := K11.out.cell 8; have y9 := K11.out.cell 9
  simp at y0 y1 y2 y3 y4 y5 y6 y7 y8 y9
  have z0 := K12.out.cell 0; have z1 := K12.out.cell 1; have z2 := K12.out.cell 2; have z3 := K12.out.cell 3; have z4 := K12.out.cell 4; have z5 := K12.out.cell 5; have z6 := K12.out.cell 6; have z7 := K12.out.cell 7; have z8 := K12.out.cell 8; have z9 := K12.out.cell 9
  simp at z0 z1 z2 z3 z4 z5 z6 z7 z8 z9
  go_wp2_with fail
  refine (CB.out _).mono ?_
  rintro e w2 ⟨rfl, hb2⟩
  have K20 := Lib.hid ((K10.out).below hb2 (K10.out).lt)
  have K21 := Lib.hid ((K11.out).below hb2 (K11.out).lt)
  have K22 := Lib.hid ((K12.out).below hb2 (K12.out).lt)
  have Hb2 : Hid (Below w.heap.size w w2) := Lib.hid ((Hb1.out).trans (hb2.mono (Hb1.out).size))
  clear hb2 K10 K11 K12 Hb1 x0 x1 x2 x3 x4 x5 x6 x7 x8 x9 y0 y1 y2 y3 y4 y5 y6 y7 y8 y9 z0 z1 z2 z3 z4 z5 z6 z7 z8 z9
  go_wp2_with fail
  go_ret
  exact ⟨rfl, Hb2.out⟩
set_option maxHeartbeats 8000000 in
set_option maxRecDepth 100000 in
theorem within_down (n1 n2 n3 : Bool) (p1 q1 p2 q2 p3 q3 : Nat) (h1 : Low n1 p1 q1) (h2 : Low n2 p2 q2) (h3 : Low n3 p3 q3) (a0 : 0 < sv n1 (p1 * q2) - sv n2 (p2 * q1)) (a1 : sv n3 (p3 * q2) - sv n2 (p2 * q3) ≤ 0) (a2 : sv n2 (p2 * q1) - sv n1 (p1 * q2) ≤ 0) (w : World) :
    Calls Tryd.prog 28 #[.agg (ratS n1 p1 q1), .agg (ratS n2 p2 q2), .agg (ratS n3 p3 q3)] w fun e w' => e = .returned (.bool true) ∧ Below w.heap.size w w' := by
  obtain ⟨ca, hca, cac⟩ : ∃ c : Int, 0 < c ∧ ∀ W, Calls Tryd.prog 50 #[.agg (ratS n1 p1 q1), .agg (ratS n2 p2 q2)] W fun e w' => e = .returned (.int .i64 c) ∧ Below W.heap.size W w' := ⟨_, cmpZ_pos a0, fun W => refCmp_at n1 n2 p1 q1 p2 q2 h1 h2 W⟩
  have CA := Lib.hid cac; clear cac
  obtain ⟨cb, hcb, cbc⟩ : ∃ c : Int, c ≤ 0 ∧ ∀ W, Calls Tryd.prog 50 #[.agg (ratS n3 p3 q3), .agg (ratS n2 p2 q2)] W fun e w' => e = .returned (.int .i64 c) ∧ Below W.heap.size W w' := ⟨_, cmpZ_le a1, fun W => refCmp_at n3 n2 p3 q3 p2 q2 h3 h2 W⟩
  have CB := Lib.hid cbc; clear cbc
  obtain ⟨cc, hcc, ccc⟩ : ∃ c : Int, c ≤ 0 ∧ ∀ W, Calls Tryd.prog 50 #[.agg (ratS n2 p2 q2), .agg (ratS n1 p1 q1)] W fun e w' => e = .returned (.int .i64 c) ∧ Below W.heap.size W w' := ⟨_, cmpZ_le a2, fun W => refCmp_at n2 n1 p2 q2 p1 q1 h2 h1 W⟩
  have CC := Lib.hid ccc; clear ccc
  have HB := Lib.hid (blk_start3r w 37 37 37 (ratS n1 p1 q1) (ratS n2 p2 q2) (ratS n3 p3 q3))
  clear h1 h2 h3 a0 a1 a2
  go_enter Tryd.func28, Tryd.ntmps28
  go_wp2_with fail
  refine (CA.out _).mono ?_
  rintro e w1 ⟨rfl, hb1⟩
  have K10 := Lib.hid ((HB.out.1).below hb1 (HB.out.1).lt)
  have K11 := Lib.hid ((HB.out.2.1).below hb1 (HB.out.2.1).lt)
  have K12 := Lib.hid ((HB.out.2.2.1).below hb1 (HB.out.2.2.1).lt)
  have Hb1 : Hid (Below w.heap.size w w1) := Lib.hid ((HB.out.2.2.2).trans (hb1.mono (HB.out.2.2.2).size))
  clear hb1 HB
  have x0 := K10.out.cell 0; have x1 := K10.out.cell 1; have x2 := K10.out.cell 2; have x3 := K10.out.cell 3; have x4 := K10.out.cell 4; have x5 := K10.out.cell 5; have x6 := K10.out.cell 6; have x7 := K10.out.cell 7; have x8 := K10.out.cell 8; have x9 := K10.out.cell 9
  simp at x0 x1 x2 x3 x4 x5 x6 x7 x8 x9
  have y0 := K11.out.cell 0; have y1 := K11.out.cell 1; have y2 := K11.out.cell 2; have y3 := K11.out.cell 3; have y4 := K11.out.cell 4; have y5 := K11.out.cell 5; have y6 := K11.out.cell 6; have y7 := K11.out.cell 7; have y8 := K11.out.cell 8; have y9 := K11.out.cell 9
  simp at y0 y1 y2 y3 y4 y5 y6 y7 y8 y9
  have z0 := K12.out.cell 0; have z1 := K12.out.cell 1; have z2 := K12.out.cell 2; have z3 := K12.out.cell 3; have z4 := K12.out.cell 4; have z5 := K12.out.cell 5; have z6 := K12.out.cell 6; have z7 := K12.out.cell 7; have z8 := K12.out.cell 8; have z9 := K12.out.cell 9
  simp at z0 z1 z2 z3 z4 z5 z6 z7 z8 z9
  go_wp2_with fail
  refine (CB.out _).mono ?_
  rintro e w2 ⟨rfl, hb2⟩
  have K20 := Lib.hid ((K10.out).below hb2 (K10.out).lt)
  have K21 := Lib.hid ((K11.out).below hb2 (K11.out).lt)
  have K22 := Lib.hid ((K12.out).below hb2 (K12.out).lt)
  have Hb2 : Hid (Below w.heap.size w w2) := Lib.hid ((Hb1.out).trans (hb2.mono (Hb1.out).size))
  clear hb2 K10 K11 K12 Hb1 x0 x1 x2 x3 x4 x5 x6 x7 x8 x9 y0 y1 y2 y3 y4 y5 y6 y7 y8 y9 z0 z1 z2 z3 z4 z5 z6 z7 z8 z9
  have x0 := K20.out.cell 0; have x1 := K20.out.cell 1; have x2 := K20.out.cell 2; have x3 := K20.out.cell 3; have x4 := K20.out.cell 4; have x5 := K20.out.cell 5; have x6 := K20.out.cell 6; have x7 := K20.out.cell 7; have x8 := K20.out.cell 8; have x9 := K20.out.cell 9
  simp at x0 x1 x2 x3 x4 x5 x6 x7 x8 x9
  have y0 := K21.out.cell 0; have y1 := K21.out.cell 1; have y2 := K21.out.cell 2; have y3 := K21.out.cell 3; have y4 := K21.out.cell 4; have y5 := K21.out.cell 5; have y6 := K21.out.cell 6; have y7 := K21.out.cell 7; have y8 := K21.out.cell 8; have y9 := K21.out.cell 9
  simp at y0 y1 y2 y3 y4 y5 y6 y7 y8 y9
  have z0 := K22.out.cell 0; have z1 := K22.out.cell 1; have z2 := K22.out.cell 2; have z3 := K22.out.cell 3; have z4 := K22.out.cell 4; have z5 := K22.out.cell 5; have z6 := K22.out.cell 6; have z7 := K22.out.cell 7; have z8 := K22.out.cell 8; have z9 := K22.out.cell 9
  simp at z0 z1 z2 z3 z4 z5 z6 z7 z8 z9
  go_wp2_with fail
  refine (CC.out _).mono ?_
  rintro e w3 ⟨rfl, hb3⟩
  have K30 := Lib.hid ((K20.out).below hb3 (K20.out).lt)
  have K31 := Lib.hid ((K21.out).below hb3 (K21.out).lt)
  have K32 := Lib.hid ((K22.out).below hb3 (K22.out).lt)
  have Hb3 : Hid (Below w.heap.size w w3) := Lib.hid ((Hb2.out).trans (hb3.mono (Hb2.out).size))
  clear hb3 K20 K21 K22 Hb2 x0 x1 x2 x3 x4 x5 x6 x7 x8 x9 y0 y1 y2 y3 y4 y5 y6 y7 y8 y9 z0 z1 z2 z3 z4 z5 z6 z7 z8 z9
  go_wp2_with fail
  go_ret
  exact ⟨rfl, Hb3.out⟩
end Go.Proofs.YtfgeocpooimojaaDoor
namespace Go.Proofs.YtfgeocpooimojaaDoor
open Go Go.RowKit

theorem sv_mul (n : Bool) (p k : Nat) : sv n (p * k) = sv n p * (k : Int) := by
  unfold sv
  cases n
  · simp
  · simp [Int.neg_mul]
theorem rat_g (a b : Int) (hb : 1 ≤ b) : 0 < ratG a b := Nat.gcd_pos_of_pos_right _ (by omega)
theorem rat_num (a b : Int) : sv (ratN a b) (ratP a b) * (ratG a b : Int) = a := by
  have h : ratP a b * ratG a b = a.natAbs := Nat.div_mul_cancel (Nat.gcd_dvd_left _ _)
  unfold ratN
  rw [sv_sgn]
  unfold sv
  have e : ((ratP a b * ratG a b : Nat) : Int) = (a.natAbs : Int) := by rw [h]
  rw [Int.natCast_mul] at e
  by_cases ha : a < 0
  · rw [show decide (a < 0) = true by simpa using ha, if_pos rfl, Int.neg_mul, e]; omega
  · rw [show decide (a < 0) = false by simpa using ha, if_neg (by decide), e]; omega
theorem rat_den (a b : Int) (hb : 1 ≤ b) : (ratQ a b : Int) * (ratG a b : Int) = b := by
  have h : ratQ a b * ratG a b = b.natAbs := Nat.div_mul_cancel (Nat.gcd_dvd_right _ _)
  have e : ((ratQ a b * ratG a b : Nat) : Int) = (b.natAbs : Int) := by rw [h]
  rw [Int.natCast_mul] at e
  omega
theorem rat_low (a b : Int) (hb : 1 ≤ b) (ha1 : -4611686018427387904 ≤ a) (ha2 : a ≤ 4611686018427387904) (hb2 : b ≤ 4611686018427387904) : Low (ratN a b) (ratP a b) (ratQ a b) ∧ ratP a b < 9223372036854775808 ∧ ratQ a b < 9223372036854775808 := by
  have h1 : ratP a b ≤ a.natAbs := Nat.div_le_self _ _
  have h2 : ratQ a b ≤ b.natAbs := Nat.div_le_self _ _
  refine ⟨⟨by omega, by omega, ?_, ?_, ?_⟩, by omega, by omega⟩
  · intro h
    unfold ratN sgn at h
    simp at h
    exact h.2
  · intro h
    have := rat_den a b hb
    rw [h] at this
    simp at this
    omega
  · exact Nat.Coprime.gcd_eq_one (Nat.coprime_div_gcd_div_gcd (rat_g a b hb))
/-- The sign of a difference of fractions is that of the cross difference. -/
theorem cross (a b c d : Int) (hb : 1 ≤ b) (hd : 1 ≤ d) : (sv (ratN a b) (ratP a b * ratQ c d) - sv (ratN c d) (ratP c d * ratQ a b)) * ((ratG a b : Int) * (ratG c d : Int)) = a * d - c * b := by
  have e1 := rat_num a b; have e2 := rat_den a b hb; have e3 := rat_num c d; have e4 := rat_den c d hd
  rw [sv_mul, sv_mul, Int.sub_mul]
  generalize sv (ratN a b) (ratP a b) = p at *
  generalize sv (ratN c d) (ratP c d) = r at *
  generalize (ratQ a b : Int) = q at *
  generalize (ratQ c d : Int) = s at *
  generalize (ratG a b : Int) = g at *
  generalize (ratG c d : Int) = h at *
  subst e1 e2 e3 e4
  congr 1
  · ac_rfl
  · ac_rfl
theorem cross_le {a b c d : Int} (hb : 1 ≤ b) (hd : 1 ≤ d) (h : a * d - c * b ≤ 0) : sv (ratN a b) (ratP a b * ratQ c d) - sv (ratN c d) (ratP c d * ratQ a b) ≤ 0 := by
  have e := cross a b c d hb hd
  have g : (0 : Int) < (ratG a b : Int) * (ratG c d : Int) := Int.mul_pos (by have := rat_g a b hb; omega) (by have := rat_g c d hd; omega)
  rcases Int.lt_or_le 0 (sv (ratN a b) (ratP a b * ratQ c d) - sv (ratN c d) (ratP c d * ratQ a b)) with h1 | h1
  · have := Int.mul_pos h1 g
    omega
  · exact h1
theorem cross_pos {a b c d : Int} (hb : 1 ≤ b) (hd : 1 ≤ d) (h : 0 < a * d - c * b) : 0 < sv (ratN a b) (ratP a b * ratQ c d) - sv (ratN c d) (ratP c d * ratQ a b) := by
  have e := cross a b c d hb hd
  have g : (0 : Int) < (ratG a b : Int) * (ratG c d : Int) := Int.mul_pos (by have := rat_g a b hb; omega) (by have := rat_g c d hd; omega)
  rcases Int.lt_or_le 0 (sv (ratN a b) (ratP a b * ratQ c d) - sv (ratN c d) (ratP c d * ratQ a b)) with h1 | h1
  · exact h1
  · have := Int.mul_nonneg (show 0 ≤ -(sv (ratN a b) (ratP a b * ratQ c d) - sv (ratN c d) (ratP c d * ratQ a b)) by omega) (Int.le_of_lt g)
    rw [Int.neg_mul] at this
    omega
theorem mediant (X1 m1 X2 m2 : Int) : X1 * (m1 + m2) - (X1 + X2) * m1 = X1 * m2 - X2 * m1 ∧ (X1 + X2) * m2 - X2 * (m1 + m2) = X1 * m2 - X2 * m1 ∧ X2 * (m1 + m2) - (X1 + X2) * m2 = -(X1 * m2 - X2 * m1) ∧ (X1 + X2) * m1 - X1 * (m1 + m2) = -(X1 * m2 - X2 * m1) := by
  rw [Int.mul_add, Int.mul_add, Int.add_mul, Int.add_mul]
  generalize X1 * m1 = A
  generalize X1 * m2 = B
  generalize X2 * m1 = C
  generalize X2 * m2 = D
  omega
/-- A number that a magnitude can have. -/
def Mom (x : Int) : Prop := -1152921504606846976 ≤ x ∧ x ≤ 1152921504606846976
theorem within_sum (X1 m1 X2 m2 : Int) (h1 : Mom X1) (h2 : Mom X2) (h3 : Mom (X1 + X2)) (g1 : 1 ≤ m1 ∧ m1 ≤ 1099511627776) (g2 : 1 ≤ m2 ∧ m2 ≤ 1099511627776) (g3 : m1 + m2 ≤ 1099511627776) (w : World) :
    Calls Tryd.prog 28 #[.agg (ratS (ratN X1 m1) (ratP X1 m1) (ratQ X1 m1)), .agg (ratS (ratN (X1 + X2) (m1 + m2)) (ratP (X1 + X2) (m1 + m2)) (ratQ (X1 + X2) (m1 + m2))), .agg (ratS (ratN X2 m2) (ratP X2 m2) (ratQ X2 m2))] w fun e w' => e = .returned (.bool true) ∧ Below w.heap.size w w' := by
  unfold Mom at h1 h2 h3
  have l1 := (rat_low X1 m1 g1.1 (by omega) (by omega) (by omega)).1
  have l2 := (rat_low (X1 + X2) (m1 + m2) (by omega) (by omega) (by omega) (by omega)).1
  have l3 := (rat_low X2 m2 g2.1 (by omega) (by omega) (by omega)).1
  obtain ⟨e1, e2, e3, e4⟩ := mediant X1 m1 X2 m2
  by_cases hD : X1 * m2 - X2 * m1 ≤ 0
  · exact within_up _ _ _ _ _ _ _ _ _ l1 l2 l3 (cross_le (by omega) (by omega) (by rw [e1]; exact hD)) (cross_le (by omega) (by omega) (by rw [e2]; exact hD)) w
  · exact within_down _ _ _ _ _ _ _ _ _ l1 l2 l3 (cross_pos (by omega) (by omega) (by rw [e1]; omega)) (cross_le (by omega) (by omega) (by rw [e3]; omega)) (cross_le (by omega) (by omega) (by rw [e4]; omega)) w
end Go.Proofs.YtfgeocpooimojaaDoor
