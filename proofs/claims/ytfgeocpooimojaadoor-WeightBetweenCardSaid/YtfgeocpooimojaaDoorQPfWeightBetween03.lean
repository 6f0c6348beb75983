/-
  Fractions of the reference: Cmp. Conditions: both are in lowest terms, their numbers below 2^64.
-/
import Derived.Test.YtfgeocpooimojaaDoorQPfWeightBetween02
namespace Go.Proofs.YtfgeocpooimojaaDoor
open Go Go.RowKit

theorem sv_sgn (n : Bool) (X : Nat) : sv (sgn n X) X = sv n X := by
  unfold sv sgn
  cases n
  · simp
  · by_cases h : X = 0
    · simp [h]
    · simp [h]
theorem sv_not (n : Bool) (X : Nat) : sv (!n) X = -sv n X := by unfold sv; cases n <;> simp
def cmpZ (z : Int) : Int := if z < 0 then -1 else if z = 0 then 0 else 1
/-- A fraction in lowest terms. -/
structure Low (n : Bool) (p q : Nat) : Prop where
  hp : p < 18446744073709551616
  hq : q < 18446744073709551616
  hn : n = true → p ≠ 0
  h0 : q ≠ 0
  hg : Nat.gcd p q = 1
theorem mul_words {a b : Nat} (ha : a < 18446744073709551616) (hb : b < 18446744073709551616) : a * b < 4294967296 ^ 4 := by
  have : a * b ≤ 18446744073709551615 * 18446744073709551615 := Nat.mul_le_mul (by omega) (by omega)
  have e : (4294967296 : Nat) ^ 4 = 340282366920938463463374607431768211456 := by decide
  omega
set_option maxHeartbeats 8000000 in
set_option maxRecDepth 100000 in
theorem refCmp_at (n1 n2 : Bool) (p1 q1 p2 q2 : Nat) (h1 : Low n1 p1 q1) (h2 : Low n2 p2 q2) (w : World) :
    Calls Tryd.prog 50 #[.agg (ratS n1 p1 q1), .agg (ratS n2 p2 q2)] w fun e w' => e = .returned (.int .i64 (cmpZ (sv n1 (p1 * q2) - sv n2 (p2 * q1)))) ∧ Below w.heap.size w w' := by
  have HB := Lib.hid (blk_start2 w 37 37 (ratS n1 p1 q1) (ratS n2 p2 q2))
  have C1 := Lib.hid (fun W => parts_at n1 p1 q1 h1.hp h1.hq h1.hn h1.h0 h1.hg W)
  have C2 := Lib.hid (fun W => parts_at n2 p2 q2 h2.hp h2.hq h2.hn h2.h0 h2.hg W)
  have L1 := Lib.hid h1; have L2 := Lib.hid h2
  clear h1 h2
  obtain ⟨z, hz⟩ : ∃ z, sv n1 (p1 * q2) - sv n2 (p2 * q1) = z := ⟨_, rfl⟩
  rw [hz]
  have HZ := Lib.hid hz; clear hz
  go_enter Tryd.func50, Tryd.ntmps50
  go_wp2_with fail
  refine (C1.out _).mono ?_
  rintro e w1 ⟨vm, vd, rfl, hvm, hvd, hb1⟩
  obtain ⟨Am, nm, cm, rfl, hm⟩ := hvm
  obtain ⟨Ad, nd, cd, rfl, hd⟩ := hvd
  have K1 := Lib.hid (HB.out.2.1.below hb1 HB.out.2.1.lt)
  have Hb1 : Hid (Below w.heap.size w w1) := Lib.hid (HB.out.2.2.trans (hb1.mono HB.out.2.2.size))
  have HM := Lib.hid hm; have HD := Lib.hid hd
  have hlt1 : w.heap.size + 1 < w1.heap.size := K1.out.lt
  clear hb1 HB C1 hm hd
  have Z := Lib.hid (blk_start2 w1 89 89 whZ whZ)
  go_upto_region 2 with (first | (refine wpList_store_row rfl 89 (.tmp 5) (.tmp 13) rfl w1.heap.size #[.bool n1, .slice Am nm cm] rfl rfl 89 whZ Z.out.1 (zero_of_info Tryd.infoWhole).2 rfl (by simp [Value.oneCell']) ?_; simp only [Act.put]) | (refine wpList_store_row rfl 89 (.tmp 6) (.tmp 14) rfl (w1.heap.size + 1) #[.bool false, .slice Ad nd cd] rfl rfl 89 whZ (Z.out.2.1.farRow (show w1.heap.size + 1 ≠ w1.heap.size by omega) #[.bool n1, .slice Am nm cm]) (zero_of_info Tryd.infoWhole).2 rfl (by simp [Value.oneCell']) ?_; simp only [Act.put]))
  have M5 := Lib.hid ((Z.out.1.setRow #[.bool n1, .slice Am nm cm]).farRow (show w1.heap.size ≠ w1.heap.size + 1 by omega) #[.bool false, .slice Ad nd cd])
  have M6 := Lib.hid ((Z.out.2.1.farRow (show w1.heap.size + 1 ≠ w1.heap.size by omega) #[.bool n1, .slice Am nm cm]).setRow #[.bool false, .slice Ad nd cd])
  have M1 := Lib.hid ((((K1.out.alloc (.cells whZ 89)).alloc (.cells whZ 89)).farRow (show w.heap.size + 1 ≠ w1.heap.size by omega) #[.bool n1, .slice Am nm cm]).farRow (show w.heap.size + 1 ≠ w1.heap.size + 1 by omega) #[.bool false, .slice Ad nd cd])
  have Mb := Lib.hid (below_setRow (below_setRow Z.out.2.2 (Nat.le_refl _) #[.bool n1, .slice Am nm cm]) (show w1.heap.size ≤ w1.heap.size + 1 by omega) #[.bool false, .slice Ad nd cd])
  have HM2 := Lib.hid (HM.out.below Mb.out); have HD2 := Lib.hid (HD.out.below Mb.out)
  have Hb2 := Lib.hid (Hb1.out.trans (Mb.out.mono Hb1.out.size))
  clear Z K1 Hb1 HM HD Mb
  generalize ((((w1.alloc (.cells whZ 89)).alloc (.cells whZ 89)).setRow w1.heap.size #[.bool n1, .slice Am nm cm]).setRow (w1.heap.size + 1) #[.bool false, .slice Ad nd cd]) = w2 at *
  have x0 := M1.out.cell 0; have x1 := M1.out.cell 1; have x2 := M1.out.cell 2; have x3 := M1.out.cell 3; have x4 := M1.out.cell 4; have x5 := M1.out.cell 5; have x6 := M1.out.cell 6; have x7 := M1.out.cell 7; have x8 := M1.out.cell 8; have x9 := M1.out.cell 9
  simp at x0 x1 x2 x3 x4 x5 x6 x7 x8 x9
  go_wp2_with fail
  refine (C2.out _).mono ?_
  rintro e w3 ⟨vn, vf, rfl, hvn, hvf, hb3⟩
  obtain ⟨An, nn, cn, rfl, hn⟩ := hvn
  obtain ⟨Af, nf, cf, rfl, hf⟩ := hvf
  have N5 := Lib.hid (M5.out.below hb3 M5.out.lt); have N6 := Lib.hid (M6.out.below hb3 M6.out.lt)
  have HM3 := Lib.hid (HM2.out.below hb3); have HD3 := Lib.hid (HD2.out.below hb3)
  have Hb3 := Lib.hid (Hb2.out.trans (hb3.mono Hb2.out.size))
  have HN3 := Lib.hid hn; have HF3 := Lib.hid hf
  have hlt3 : w1.heap.size + 1 < w3.heap.size := N6.out.lt
  clear hb3 C2 hn hf M1 M5 M6 Hb2 HM2 HD2 x0 x1 x2 x3 x4 x5 x6 x7 x8 x9
  have Z := Lib.hid (blk_start2 w3 89 89 whZ whZ)
  go_upto_region 3 with (first | (refine wpList_store_row rfl 89 (.tmp 7) (.tmp 18) rfl w3.heap.size #[.bool n2, .slice An nn cn] rfl rfl 89 whZ Z.out.1 (zero_of_info Tryd.infoWhole).2 rfl (by simp [Value.oneCell']) ?_; simp only [Act.put]) | (refine wpList_store_row rfl 89 (.tmp 8) (.tmp 19) rfl (w3.heap.size + 1) #[.bool false, .slice Af nf cf] rfl rfl 89 whZ (Z.out.2.1.farRow (show w3.heap.size + 1 ≠ w3.heap.size by omega) #[.bool n2, .slice An nn cn]) (zero_of_info Tryd.infoWhole).2 rfl (by simp [Value.oneCell']) ?_; simp only [Act.put]))
  have M7 := Lib.hid ((Z.out.1.setRow #[.bool n2, .slice An nn cn]).farRow (show w3.heap.size ≠ w3.heap.size + 1 by omega) #[.bool false, .slice Af nf cf])
  have M8 := Lib.hid ((Z.out.2.1.farRow (show w3.heap.size + 1 ≠ w3.heap.size by omega) #[.bool n2, .slice An nn cn]).setRow #[.bool false, .slice Af nf cf])
  have Mb := Lib.hid (below_setRow (below_setRow Z.out.2.2 (Nat.le_refl _) #[.bool n2, .slice An nn cn]) (show w3.heap.size ≤ w3.heap.size + 1 by omega) #[.bool false, .slice Af nf cf])
  have M5 := Lib.hid (N5.out.below Mb.out N5.out.lt); have M6 := Lib.hid (N6.out.below Mb.out N6.out.lt)
  have HM := Lib.hid (HM3.out.below Mb.out); have HD := Lib.hid (HD3.out.below Mb.out); have HN := Lib.hid (HN3.out.below Mb.out); have HF := Lib.hid (HF3.out.below Mb.out)
  have HbW := Lib.hid (Hb3.out.trans (Mb.out.mono Hb3.out.size))
  clear Z N5 N6 Hb3 HM3 HD3 HN3 HF3 Mb
  generalize ((((w3.alloc (.cells whZ 89)).alloc (.cells whZ 89)).setRow w3.heap.size #[.bool n2, .slice An nn cn]).setRow (w3.heap.size + 1) #[.bool false, .slice Af nf cf]) = W at *
  have l1 : nm ≤ 2 := trm_few HM.out.trm (by simpa using L1.out.hp)
  have l2 : nd ≤ 2 := trm_few HD.out.trm (by simpa using L1.out.hq)
  have l3 : nn ≤ 2 := trm_few HN.out.trm (by simpa using L2.out.hp)
  have l4 : nf ≤ 2 := trm_few HF.out.trm (by simpa using L2.out.hq)
  have P1 : Hid (∀ W', Below W.heap.size W W' → Calls Tryd.prog 78 #[.agg #[.bool n1, .slice Am nm cm], .agg #[.bool false, .slice Af nf cf]] W' (RetWholeF W' (sgn n1 (p1 * q2)) (p1 * q2))) := fun W' h => product_at n1 Am Af nm nf cm cf p1 q2 (by omega) (by omega) W' (HM.out.below h) (HF.out.below h)
  have P2 : Hid (∀ W', Below W.heap.size W W' → Calls Tryd.prog 78 #[.agg #[.bool n2, .slice An nn cn], .agg #[.bool false, .slice Ad nd cd]] W' (RetWholeF W' (sgn n2 (p2 * q1)) (p2 * q1))) := fun W' h => product_at n2 An Ad nn nd cn cd p2 q1 (by omega) (by omega) W' (HN.out.below h) (HD.out.below h)
  have B1 := Lib.hid (mul_words L1.out.hp L2.out.hq); have B2 := Lib.hid (mul_words L2.out.hp L1.out.hq)
  have HZ' : Hid (sv (sgn n1 (p1 * q2)) (p1 * q2) + sv (sgn (!(sgn n2 (p2 * q1))) (p2 * q1)) (p2 * q1) = z) := by
    unfold Hid
    rw [← HZ.out, sv_sgn, sv_sgn, sv_not, sv_sgn]
    omega
  have HX0 : Hid (sgn n1 (p1 * q2) = true → p1 * q2 ≠ 0) := by
    unfold Hid sgn
    intro h
    simp at h
    simp [h.2]
  clear HZ L1 L2
  generalize sgn n1 (p1 * q2) = s1 at *
  generalize sgn n2 (p2 * q1) = s2 at *
  generalize p1 * q2 = X at *
  generalize p2 * q1 = Y at *
  have c0 := keepc (M5.out.cell 0); have c1 := keepc (M5.out.cell 1); have c2 := keepc (M6.out.cell 0); have c3 := keepc (M6.out.cell 1); have c4 := keepc (M7.out.cell 0); have c5 := keepc (M7.out.cell 1); have c6 := keepc (M8.out.cell 0); have c7 := keepc (M8.out.cell 1)
  refine wp_region_Kn (n := 10) (S := fun w' => Below (W.heap.size) W w') rfl (by kernel_rfl) ?_
  have hS0 : Below (W.heap.size) W { W with drawn := W.drawn + 1 } := (Below.refl _ _).drew
  refine wpAnyK_taked (i := 0) (oi := _) (v := ?_) rfl rfl (by kernel_rfl) (by kernel_rfl) (by kernel_rfl) (fun _ _ _ h => h) (fun _ _ => Below.later) (yields_read (by rfl) ?hy0) hS0 ?_
  rotate_left
  case hy0 =>
    intro w' hSw
    go_simp
    try with_reducible rfl
  simp only [Act.put, List.setIfInBounds_toArray, List.set_cons_zero, List.set_cons_succ]
  refine wpAnyK_taked (i := 1) (oi := _) (v := ?_) rfl rfl (by kernel_rfl) (by kernel_rfl) (by kernel_rfl) (fun _ _ _ h => h) (fun _ _ => Below.later) (yields_read (by rfl) ?hy1) hS0 ?_
  rotate_left
  case hy1 =>
    intro w' hSw
    go_simp
    try with_reducible rfl
  simp only [Act.put, List.setIfInBounds_toArray, List.set_cons_zero, List.set_cons_succ]
  refine wpAnyK_taked (i := 3) (oi := _) (v := ?_) rfl rfl (by kernel_rfl) (by kernel_rfl) (by kernel_rfl) (fun _ _ _ h => h) (fun _ _ => Below.later) (yields_read (by rfl) ?hy3) hS0 ?_
  rotate_left
  case hy3 =>
    intro w' hSw
    go_simp
    try with_reducible rfl
  simp only [Act.put, List.setIfInBounds_toArray, List.set_cons_zero, List.set_cons_succ]
  refine wpAnyK_taked (i := 4) (oi := _) (v := ?_) rfl rfl (by kernel_rfl) (by kernel_rfl) (by kernel_rfl) (fun _ _ _ h => h) (fun _ _ => Below.later) (yields_read (by rfl) ?hy4) hS0 ?_
  rotate_left
  case hy4 =>
    intro w' hSw
    go_simp
    try with_reducible rfl
  simp only [Act.put, List.setIfInBounds_toArray, List.set_cons_zero, List.set_cons_succ]
  have hbW : Below W.heap.size W { W with drawn := W.drawn + 1 } := (Below.refl _ W).drew
  generalize { W with drawn := W.drawn + 1 } = W0 at *
  refine wpAnyK_float1 (i := 2) (f := 8) (di := 22) (d := 9) (ty := 89) (z := whZ) (R := fun v w' => ∃ s, v = .agg #[.bool s1, s] ∧ NatV w' s X) (by kernel_rfl) rfl rfl rfl rfl (by rfl) (by rfl) rfl (zero_of_info Tryd.infoWhole).1 (fun _ _ => Below.later) hS0 ?e1 (fun w1 hb hS => (P1.out w1 hS).mono fun _ _ ⟨v, h1, h2, h3, h4⟩ => ⟨_, h1, ⟨v, rfl, h2⟩, h4⟩) ?p1 ?q1
  case e1 => intro w' hSw; go_simp
  case q1 =>
    intro g b1 hg hbb1 hSb1 hG
    simp only [Act.put, List.setIfInBounds_toArray, List.set_cons_zero, List.set_cons_succ]
    have hgW : W.heap.size ≤ g := Nat.le_trans hS0.size hg
    refine wpAnyK_call1 (i := 2) (d := 22) (R := fun v w' => ∃ s, v = .agg #[.bool s1, s] ∧ NatV w' s X) (by kernel_rfl) rfl rfl (by rfl) (fun _ _ => Below.later) hSb1 ?e2 (fun w1 hb hS => (P1.out w1 hS).mono fun _ _ ⟨v, h1, h2, h3, h4⟩ => ⟨_, h1, ⟨v, rfl, h2⟩, h4⟩) ?_
    case e2 => intro w' hSw; go_simp
    rintro v2 a2 hb2 hS2 ⟨sx, rfl, hx⟩
    replace hG := hG.below hb2 hG.lt
    simp only [Act.put, List.setIfInBounds_toArray, List.set_cons_zero, List.set_cons_succ]
    refine wpAnyK_call1 (i := 5) (d := 25) (R := fun v w' => ∃ s, v = .agg #[.bool s2, s] ∧ NatV w' s Y) (by kernel_rfl) rfl rfl (by rfl) (fun _ _ => Below.later) hS2 ?e3 (fun w1 hb hS => (P2.out w1 hS).mono fun _ _ ⟨v, h1, h2, h3, h4⟩ => ⟨_, h1, ⟨v, rfl, h2⟩, h4⟩) ?_
    case e3 => intro w' hSw; go_simp
    rintro v3 a3 hb3 hS3 ⟨sy, rfl, hy⟩
    replace hG := hG.below hb3 hG.lt
    replace hx := hx.below hb3
    obtain ⟨Ay, ny, cy, rfl, hys⟩ := hy
    simp only [Act.put, List.setIfInBounds_toArray, List.set_cons_zero, List.set_cons_succ]
    refine wpAnyK_call1 (i := 6) (d := 26) (R := fun v w' => ∃ s, v = .agg #[.bool (sgn (!s2) Y), s] ∧ NatV w' s Y) (by kernel_rfl) rfl rfl (by rfl) (fun _ _ => Below.later) hS3 ?e4 (fun w1 hb _ => (minusOf_at s2 Ay ny cy Y w1 (hys.below hb)).mono fun _ _ ⟨v, h1, h2, h4⟩ => ⟨_, h1, ⟨v, rfl, h2⟩, h4⟩) ?_
    case e4 => intro w' hSw; go_simp
    rintro v4 a4 hb4 hS4 ⟨st, rfl, ht⟩
    replace hG := hG.below hb4 hG.lt
    replace hx := hx.below hb4
    obtain ⟨Ax, nx, cx, rfl, hxs⟩ := hx
    obtain ⟨At, nt, ct, rfl, hts⟩ := ht
    have m1 : nx ≤ 4 := trm_few hxs.trm B1.out
    have m2 : nt ≤ 4 := trm_few hts.trm B2.out
    simp only [Act.put, List.setIfInBounds_toArray, List.set_cons_zero, List.set_cons_succ]
    refine wpAnyK_call1 (i := 7) (d := 27) (R := fun v w' => ∃ s, v = .agg #[.bool (decide (z < 0)), s] ∧ NatV w' s z.natAbs) (by kernel_rfl) rfl rfl (by rfl) (fun _ _ => Below.later) hS4 ?e5 (fun w1 hb _ => (show Calls Tryd.prog 77 _ w1 (RetWhole w1 (decide (z < 0)) z.natAbs) from by rw [← HZ'.out]; exact sum_at s1 (sgn (!s2) Y) Ax At nx nt cx ct X Y (by omega) (by omega) HX0.out w1 (hxs.below hb) (hts.below hb)).mono fun _ _ ⟨v, h1, h2, h4⟩ => ⟨_, h1, ⟨v, rfl, h2⟩, h4⟩) ?_
    case e5 => intro w' hSw; go_simp
    rintro v5 a5 hb5 hS5 ⟨sz, rfl, hz⟩
    replace hG := hG.below hb5 hG.lt
    obtain ⟨Az, nz, cz, rfl, hzs⟩ := hz
    simp only [Act.put, List.setIfInBounds_toArray, List.set_cons_zero, List.set_cons_succ]
    refine wpAnyK_putc (i := 9) (g := g) (old := whZ) (cs := #[.bool (decide (z < 0)), .slice Az nz cz]) (by kernel_rfl) rfl rfl (by rfl) rfl (fun _ _ => Below.later) hS5 hG (zero_of_info Tryd.infoWhole).2 rfl (by simp [Value.oneCell']) ?x1 ?y1 (fun w' h => below_setRow h hgW _) ?_
    case x1 => go_simp
    case y1 => go_simp
    intro w5 hS5 hfar5 HG
    refine wpAnyK_done (by kernel_rfl) ?_ _
    intro w6 hb6
    have G6 := Lib.hid (HG.below hb6 HG.lt)
    have hpos := natS_pos hzs
    have Hb6 := Lib.hid (HbW.out.trans ((Below.later hS5 hb6).mono HbW.out.size))
    have g0 := G6.out.cell 0; have g1 := G6.out.cell 1
    simp at g0 g1
    clear hb6 hzs HG G6 c0 c1 c2 c3 c4 c5 c6 c7 P1 P2 M5 M6 M7 M8 HM HD HN HF HbW B1 B2 HZ' HX0 hS5 hS0
    rcases Int.lt_trichotomy z 0 with hz | hz | hz
    · have e0 : decide (z < 0) = true := by simpa using hz
      have e1 : Hid (cmpZ z = -1) := by unfold Hid cmpZ; rw [if_pos hz]
      rw [e0] at g0
      clear e0 hpos hz
      go_wp2_with fail
      go_ret
      exact ⟨ret_int e1.out.symm, Hb6.out⟩
    · have e0 : decide (z < 0) = false := by simp; omega
      have e1 : Hid (cmpZ z = 0) := by unfold Hid cmpZ; rw [if_neg (by omega), if_pos hz]
      have e2 : decide (0 < nz) = false := by simp; omega
      rw [e0] at g0
      clear e0 hpos hz
      go_wp2_with fail
      go_ret
      exact ⟨ret_int e1.out.symm, Hb6.out⟩
    · have e0 : decide (z < 0) = false := by simp; omega
      have e1 : Hid (cmpZ z = 1) := by unfold Hid cmpZ; rw [if_neg (by omega), if_neg (by omega)]
      have e2 : decide (0 < nz) = true := by simp; omega
      rw [e0] at g0
      clear e0 hpos hz
      go_wp2_with fail
      go_ret
      exact ⟨ret_int e1.out.symm, Hb6.out⟩
  case p1 =>
    rintro v6 a6 hb6 hS6 ⟨sx, rfl, hx⟩
    simp only [Act.put, List.setIfInBounds_toArray, List.set_cons_zero, List.set_cons_succ]
    refine wpAnyK_float1 (i := 5) (f := 8) (di := 25) (d := 9) (ty := 89) (z := whZ) (R := fun v w' => ∃ s, v = .agg #[.bool s2, s] ∧ NatV w' s Y) (by kernel_rfl) rfl rfl rfl rfl (by rfl) (by rfl) rfl (zero_of_info Tryd.infoWhole).1 (fun _ _ => Below.later) hS6 ?e7 (fun w1 hb hS => (P2.out w1 hS).mono fun _ _ ⟨v, h1, h2, h3, h4⟩ => ⟨_, h1, ⟨v, rfl, h2⟩, h4⟩) ?p7 ?q7
    case e7 => intro w' hSw; go_simp
    case q7 =>
      intro g b7 hg hbb7 hSb7 hG
      simp only [Act.put, List.setIfInBounds_toArray, List.set_cons_zero, List.set_cons_succ]
      replace hx := hx.below hbb7
      have hgW : W.heap.size ≤ g := Nat.le_trans hS6.size hg
      refine wpAnyK_call1 (i := 5) (d := 25) (R := fun v w' => ∃ s, v = .agg #[.bool s2, s] ∧ NatV w' s Y) (by kernel_rfl) rfl rfl (by rfl) (fun _ _ => Below.later) hSb7 ?e8 (fun w1 hb hS => (P2.out w1 hS).mono fun _ _ ⟨v, h1, h2, h3, h4⟩ => ⟨_, h1, ⟨v, rfl, h2⟩, h4⟩) ?_
      case e8 => intro w' hSw; go_simp
      rintro v8 a8 hb8 hS8 ⟨sy, rfl, hy⟩
      replace hG := hG.below hb8 hG.lt
      replace hx := hx.below hb8
      obtain ⟨Ay, ny, cy, rfl, hys⟩ := hy
      simp only [Act.put, List.setIfInBounds_toArray, List.set_cons_zero, List.set_cons_succ]
      refine wpAnyK_call1 (i := 6) (d := 26) (R := fun v w' => ∃ s, v = .agg #[.bool (sgn (!s2) Y), s] ∧ NatV w' s Y) (by kernel_rfl) rfl rfl (by rfl) (fun _ _ => Below.later) hS8 ?e9 (fun w1 hb _ => (minusOf_at s2 Ay ny cy Y w1 (hys.below hb)).mono fun _ _ ⟨v, h1, h2, h4⟩ => ⟨_, h1, ⟨v, rfl, h2⟩, h4⟩) ?_
      case e9 => intro w' hSw; go_simp
      rintro v9 a9 hb9 hS9 ⟨st, rfl, ht⟩
      replace hG := hG.below hb9 hG.lt
      replace hx := hx.below hb9
      obtain ⟨Ax, nx, cx, rfl, hxs⟩ := hx
      obtain ⟨At, nt, ct, rfl, hts⟩ := ht
      have m1 : nx ≤ 4 := trm_few hxs.trm B1.out
      have m2 : nt ≤ 4 := trm_few hts.trm B2.out
      simp only [Act.put, List.setIfInBounds_toArray, List.set_cons_zero, List.set_cons_succ]
      refine wpAnyK_call1 (i := 7) (d := 27) (R := fun v w' => ∃ s, v = .agg #[.bool (decide (z < 0)), s] ∧ NatV w' s z.natAbs) (by kernel_rfl) rfl rfl (by rfl) (fun _ _ => Below.later) hS9 ?e10 (fun w1 hb _ => (show Calls Tryd.prog 77 _ w1 (RetWhole w1 (decide (z < 0)) z.natAbs) from by rw [← HZ'.out]; exact sum_at s1 (sgn (!s2) Y) Ax At nx nt cx ct X Y (by omega) (by omega) HX0.out w1 (hxs.below hb) (hts.below hb)).mono fun _ _ ⟨v, h1, h2, h4⟩ => ⟨_, h1, ⟨v, rfl, h2⟩, h4⟩) ?_
      case e10 => intro w' hSw; go_simp
      rintro v10 a10 hb10 hS10 ⟨sz, rfl, hz⟩
      replace hG := hG.below hb10 hG.lt
      obtain ⟨Az, nz, cz, rfl, hzs⟩ := hz
      simp only [Act.put, List.setIfInBounds_toArray, List.set_cons_zero, List.set_cons_succ]
      refine wpAnyK_putc (i := 9) (g := g) (old := whZ) (cs := #[.bool (decide (z < 0)), .slice Az nz cz]) (by kernel_rfl) rfl rfl (by rfl) rfl (fun _ _ => Below.later) hS10 hG (zero_of_info Tryd.infoWhole).2 rfl (by simp [Value.oneCell']) ?x1 ?y1 (fun w' h => below_setRow h hgW _) ?_
      case x1 => go_simp
      case y1 => go_simp
      intro w5 hS5 hfar5 HG
      refine wpAnyK_done (by kernel_rfl) ?_ _
      intro w6 hb6
      have G6 := Lib.hid (HG.below hb6 HG.lt)
      have hpos := natS_pos hzs
      have Hb6 := Lib.hid (HbW.out.trans ((Below.later hS5 hb6).mono HbW.out.size))
      have g0 := G6.out.cell 0; have g1 := G6.out.cell 1
      simp at g0 g1
      clear hb6 hzs HG G6 c0 c1 c2 c3 c4 c5 c6 c7 P1 P2 M5 M6 M7 M8 HM HD HN HF HbW B1 B2 HZ' HX0 hS5 hS0
      rcases Int.lt_trichotomy z 0 with hz | hz | hz
      · have e0 : decide (z < 0) = true := by simpa using hz
        have e1 : Hid (cmpZ z = -1) := by unfold Hid cmpZ; rw [if_pos hz]
        rw [e0] at g0
        clear e0 hpos hz
        go_wp2_with fail
        go_ret
        exact ⟨ret_int e1.out.symm, Hb6.out⟩
      · have e0 : decide (z < 0) = false := by simp; omega
        have e1 : Hid (cmpZ z = 0) := by unfold Hid cmpZ; rw [if_neg (by omega), if_pos hz]
        have e2 : decide (0 < nz) = false := by simp; omega
        rw [e0] at g0
        clear e0 hpos hz
        go_wp2_with fail
        go_ret
        exact ⟨ret_int e1.out.symm, Hb6.out⟩
      · have e0 : decide (z < 0) = false := by simp; omega
        have e1 : Hid (cmpZ z = 1) := by unfold Hid cmpZ; rw [if_neg (by omega), if_neg (by omega)]
        have e2 : decide (0 < nz) = true := by simp; omega
        rw [e0] at g0
        clear e0 hpos hz
        go_wp2_with fail
        go_ret
        exact ⟨ret_int e1.out.symm, Hb6.out⟩
    case p7 =>
      rintro v11 a11 hb11 hS11 ⟨sy, rfl, hy⟩
      replace hx := hx.below hb11
      obtain ⟨Ay, ny, cy, rfl, hys⟩ := hy
      simp only [Act.put, List.setIfInBounds_toArray, List.set_cons_zero, List.set_cons_succ]
      refine wpAnyK_float1 (i := 6) (f := 8) (di := 26) (d := 9) (ty := 89) (z := whZ) (R := fun v w' => ∃ s, v = .agg #[.bool (sgn (!s2) Y), s] ∧ NatV w' s Y) (by kernel_rfl) rfl rfl rfl rfl (by rfl) (by rfl) rfl (zero_of_info Tryd.infoWhole).1 (fun _ _ => Below.later) hS11 ?e12 (fun w1 hb _ => (minusOf_at s2 Ay ny cy Y w1 (hys.below hb)).mono fun _ _ ⟨v, h1, h2, h4⟩ => ⟨_, h1, ⟨v, rfl, h2⟩, h4⟩) ?p12 ?q12
      case e12 => intro w' hSw; go_simp
      case q12 =>
        intro g b12 hg hbb12 hSb12 hG
        simp only [Act.put, List.setIfInBounds_toArray, List.set_cons_zero, List.set_cons_succ]
        replace hx := hx.below hbb12
        replace hys := hys.below hbb12
        have hgW : W.heap.size ≤ g := Nat.le_trans hS11.size hg
        refine wpAnyK_call1 (i := 6) (d := 26) (R := fun v w' => ∃ s, v = .agg #[.bool (sgn (!s2) Y), s] ∧ NatV w' s Y) (by kernel_rfl) rfl rfl (by rfl) (fun _ _ => Below.later) hSb12 ?e13 (fun w1 hb _ => (minusOf_at s2 Ay ny cy Y w1 (hys.below hb)).mono fun _ _ ⟨v, h1, h2, h4⟩ => ⟨_, h1, ⟨v, rfl, h2⟩, h4⟩) ?_
        case e13 => intro w' hSw; go_simp
        rintro v13 a13 hb13 hS13 ⟨st, rfl, ht⟩
        replace hG := hG.below hb13 hG.lt
        replace hx := hx.below hb13
        obtain ⟨Ax, nx, cx, rfl, hxs⟩ := hx
        obtain ⟨At, nt, ct, rfl, hts⟩ := ht
        have m1 : nx ≤ 4 := trm_few hxs.trm B1.out
        have m2 : nt ≤ 4 := trm_few hts.trm B2.out
        simp only [Act.put, List.setIfInBounds_toArray, List.set_cons_zero, List.set_cons_succ]
        refine wpAnyK_call1 (i := 7) (d := 27) (R := fun v w' => ∃ s, v = .agg #[.bool (decide (z < 0)), s] ∧ NatV w' s z.natAbs) (by kernel_rfl) rfl rfl (by rfl) (fun _ _ => Below.later) hS13 ?e14 (fun w1 hb _ => (show Calls Tryd.prog 77 _ w1 (RetWhole w1 (decide (z < 0)) z.natAbs) from by rw [← HZ'.out]; exact sum_at s1 (sgn (!s2) Y) Ax At nx nt cx ct X Y (by omega) (by omega) HX0.out w1 (hxs.below hb) (hts.below hb)).mono fun _ _ ⟨v, h1, h2, h4⟩ => ⟨_, h1, ⟨v, rfl, h2⟩, h4⟩) ?_
        case e14 => intro w' hSw; go_simp
        rintro v14 a14 hb14 hS14 ⟨sz, rfl, hz⟩
        replace hG := hG.below hb14 hG.lt
        obtain ⟨Az, nz, cz, rfl, hzs⟩ := hz
        simp only [Act.put, List.setIfInBounds_toArray, List.set_cons_zero, List.set_cons_succ]
        refine wpAnyK_putc (i := 9) (g := g) (old := whZ) (cs := #[.bool (decide (z < 0)), .slice Az nz cz]) (by kernel_rfl) rfl rfl (by rfl) rfl (fun _ _ => Below.later) hS14 hG (zero_of_info Tryd.infoWhole).2 rfl (by simp [Value.oneCell']) ?x1 ?y1 (fun w' h => below_setRow h hgW _) ?_
        case x1 => go_simp
        case y1 => go_simp
        intro w5 hS5 hfar5 HG
        refine wpAnyK_done (by kernel_rfl) ?_ _
        intro w6 hb6
        have G6 := Lib.hid (HG.below hb6 HG.lt)
        have hpos := natS_pos hzs
        have Hb6 := Lib.hid (HbW.out.trans ((Below.later hS5 hb6).mono HbW.out.size))
        have g0 := G6.out.cell 0; have g1 := G6.out.cell 1
        simp at g0 g1
        clear hb6 hzs HG G6 c0 c1 c2 c3 c4 c5 c6 c7 P1 P2 M5 M6 M7 M8 HM HD HN HF HbW B1 B2 HZ' HX0 hS5 hS0
        rcases Int.lt_trichotomy z 0 with hz | hz | hz
        · have e0 : decide (z < 0) = true := by simpa using hz
          have e1 : Hid (cmpZ z = -1) := by unfold Hid cmpZ; rw [if_pos hz]
          rw [e0] at g0
          clear e0 hpos hz
          go_wp2_with fail
          go_ret
          exact ⟨ret_int e1.out.symm, Hb6.out⟩
        · have e0 : decide (z < 0) = false := by simp; omega
          have e1 : Hid (cmpZ z = 0) := by unfold Hid cmpZ; rw [if_neg (by omega), if_pos hz]
          have e2 : decide (0 < nz) = false := by simp; omega
          rw [e0] at g0
          clear e0 hpos hz
          go_wp2_with fail
          go_ret
          exact ⟨ret_int e1.out.symm, Hb6.out⟩
        · have e0 : decide (z < 0) = false := by simp; omega
          have e1 : Hid (cmpZ z = 1) := by unfold Hid cmpZ; rw [if_neg (by omega), if_neg (by omega)]
          have e2 : decide (0 < nz) = true := by simp; omega
          rw [e0] at g0
          clear e0 hpos hz
          go_wp2_with fail
          go_ret
          exact ⟨ret_int e1.out.symm, Hb6.out⟩
      case p12 =>
        rintro v15 a15 hb15 hS15 ⟨st, rfl, ht⟩
        replace hx := hx.below hb15
        obtain ⟨Ax, nx, cx, rfl, hxs⟩ := hx
        obtain ⟨At, nt, ct, rfl, hts⟩ := ht
        have m1 : nx ≤ 4 := trm_few hxs.trm B1.out
        have m2 : nt ≤ 4 := trm_few hts.trm B2.out
        simp only [Act.put, List.setIfInBounds_toArray, List.set_cons_zero, List.set_cons_succ]
        refine wpAnyK_float1 (i := 7) (f := 8) (di := 27) (d := 9) (ty := 89) (z := whZ) (R := fun v w' => ∃ s, v = .agg #[.bool (decide (z < 0)), s] ∧ NatV w' s z.natAbs) (by kernel_rfl) rfl rfl rfl rfl (by rfl) (by rfl) rfl (zero_of_info Tryd.infoWhole).1 (fun _ _ => Below.later) hS15 ?e16 (fun w1 hb _ => (show Calls Tryd.prog 77 _ w1 (RetWhole w1 (decide (z < 0)) z.natAbs) from by rw [← HZ'.out]; exact sum_at s1 (sgn (!s2) Y) Ax At nx nt cx ct X Y (by omega) (by omega) HX0.out w1 (hxs.below hb) (hts.below hb)).mono fun _ _ ⟨v, h1, h2, h4⟩ => ⟨_, h1, ⟨v, rfl, h2⟩, h4⟩) ?p16 ?q16
        case e16 => intro w' hSw; go_simp
        case q16 =>
          intro g b16 hg hbb16 hSb16 hG
          simp only [Act.put, List.setIfInBounds_toArray, List.set_cons_zero, List.set_cons_succ]
          replace hxs := hxs.below hbb16
          replace hts := hts.below hbb16
          have hgW : W.heap.size ≤ g := Nat.le_trans hS15.size hg
          refine wpAnyK_call1 (i := 7) (d := 27) (R := fun v w' => ∃ s, v = .agg #[.bool (decide (z < 0)), s] ∧ NatV w' s z.natAbs) (by kernel_rfl) rfl rfl (by rfl) (fun _ _ => Below.later) hSb16 ?e17 (fun w1 hb _ => (show Calls Tryd.prog 77 _ w1 (RetWhole w1 (decide (z < 0)) z.natAbs) from by rw [← HZ'.out]; exact sum_at s1 (sgn (!s2) Y) Ax At nx nt cx ct X Y (by omega) (by omega) HX0.out w1 (hxs.below hb) (hts.below hb)).mono fun _ _ ⟨v, h1, h2, h4⟩ => ⟨_, h1, ⟨v, rfl, h2⟩, h4⟩) ?_
          case e17 => intro w' hSw; go_simp
          rintro v17 a17 hb17 hS17 ⟨sz, rfl, hz⟩
          replace hG := hG.below hb17 hG.lt
          obtain ⟨Az, nz, cz, rfl, hzs⟩ := hz
          simp only [Act.put, List.setIfInBounds_toArray, List.set_cons_zero, List.set_cons_succ]
          refine wpAnyK_putc (i := 9) (g := g) (old := whZ) (cs := #[.bool (decide (z < 0)), .slice Az nz cz]) (by kernel_rfl) rfl rfl (by rfl) rfl (fun _ _ => Below.later) hS17 hG (zero_of_info Tryd.infoWhole).2 rfl (by simp [Value.oneCell']) ?x1 ?y1 (fun w' h => below_setRow h hgW _) ?_
          case x1 => go_simp
          case y1 => go_simp
          intro w5 hS5 hfar5 HG
          refine wpAnyK_done (by kernel_rfl) ?_ _
          intro w6 hb6
          have G6 := Lib.hid (HG.below hb6 HG.lt)
          have hpos := natS_pos hzs
          have Hb6 := Lib.hid (HbW.out.trans ((Below.later hS5 hb6).mono HbW.out.size))
          have g0 := G6.out.cell 0; have g1 := G6.out.cell 1
          simp at g0 g1
          clear hb6 hzs HG G6 c0 c1 c2 c3 c4 c5 c6 c7 P1 P2 M5 M6 M7 M8 HM HD HN HF HbW B1 B2 HZ' HX0 hS5 hS0
          rcases Int.lt_trichotomy z 0 with hz | hz | hz
          · have e0 : decide (z < 0) = true := by simpa using hz
            have e1 : Hid (cmpZ z = -1) := by unfold Hid cmpZ; rw [if_pos hz]
            rw [e0] at g0
            clear e0 hpos hz
            go_wp2_with fail
            go_ret
            exact ⟨ret_int e1.out.symm, Hb6.out⟩
          · have e0 : decide (z < 0) = false := by simp; omega
            have e1 : Hid (cmpZ z = 0) := by unfold Hid cmpZ; rw [if_neg (by omega), if_pos hz]
            have e2 : decide (0 < nz) = false := by simp; omega
            rw [e0] at g0
            clear e0 hpos hz
            go_wp2_with fail
            go_ret
            exact ⟨ret_int e1.out.symm, Hb6.out⟩
          · have e0 : decide (z < 0) = false := by simp; omega
            have e1 : Hid (cmpZ z = 1) := by unfold Hid cmpZ; rw [if_neg (by omega), if_neg (by omega)]
            have e2 : decide (0 < nz) = true := by simp; omega
            rw [e0] at g0
            clear e0 hpos hz
            go_wp2_with fail
            go_ret
            exact ⟨ret_int e1.out.symm, Hb6.out⟩
        case p16 =>
          rintro v18 a18 hb18 hS18 ⟨sz, rfl, hz⟩
          obtain ⟨Az, nz, cz, rfl, hzs⟩ := hz
          simp only [Act.put, List.setIfInBounds_toArray, List.set_cons_zero, List.set_cons_succ]
          refine wpAnyK_newd (i := 8) (j := 9) (d := 9) (cs := #[.bool (decide (z < 0)), .slice Az nz cz]) (by kernel_rfl) rfl (by rfl) rfl rfl (zero_of_info Tryd.infoWhole).1 (Nat.le_refl _) hS18 (by kernel_rfl) rfl rfl rfl (zero_of_info Tryd.infoWhole).2 rfl (by simp [Value.oneCell']) (fun _ => by rfl) ?hd ?hy ?_
          case hd => intro g; go_simp
          case hy => intro g; go_simp
          intro g w5 hg hS5 hb5 HG
          simp only [Act.put, List.setIfInBounds_toArray, List.set_cons_zero, List.set_cons_succ]
          refine wpAnyK_done (by kernel_rfl) ?_ _
          intro w6 hb6
          have G6 := Lib.hid (HG.below hb6 HG.lt)
          have hpos := natS_pos hzs
          have Hb6 := Lib.hid (HbW.out.trans ((Below.later hS5 hb6).mono HbW.out.size))
          have g0 := G6.out.cell 0; have g1 := G6.out.cell 1
          simp at g0 g1
          clear hb6 hzs HG G6 c0 c1 c2 c3 c4 c5 c6 c7 P1 P2 M5 M6 M7 M8 HM HD HN HF HbW B1 B2 HZ' HX0 hS5 hS0
          rcases Int.lt_trichotomy z 0 with hz | hz | hz
          · have e0 : decide (z < 0) = true := by simpa using hz
            have e1 : Hid (cmpZ z = -1) := by unfold Hid cmpZ; rw [if_pos hz]
            rw [e0] at g0
            clear e0 hpos hz
            go_wp2_with fail
            go_ret
            exact ⟨ret_int e1.out.symm, Hb6.out⟩
          · have e0 : decide (z < 0) = false := by simp; omega
            have e1 : Hid (cmpZ z = 0) := by unfold Hid cmpZ; rw [if_neg (by omega), if_pos hz]
            have e2 : decide (0 < nz) = false := by simp; omega
            rw [e0] at g0
            clear e0 hpos hz
            go_wp2_with fail
            go_ret
            exact ⟨ret_int e1.out.symm, Hb6.out⟩
          · have e0 : decide (z < 0) = false := by simp; omega
            have e1 : Hid (cmpZ z = 1) := by unfold Hid cmpZ; rw [if_neg (by omega), if_neg (by omega)]
            have e2 : decide (0 < nz) = true := by simp; omega
            rw [e0] at g0
            clear e0 hpos hz
            go_wp2_with fail
            go_ret
            exact ⟨ret_int e1.out.symm, Hb6.out⟩
end Go.Proofs.YtfgeocpooimojaaDoor
