/-
  What divided, Sigma and Margin of the reference of weights return. Conditions: as each theorem states them. Centre of the reference of weights. Conditions: as each theorem states them.
-/
import Derived.Test.YtfgeocpooimojaaDoorQPfWeightCentres28
import Derived.Test.YtfgeocpooimojaaDoorQPfWeightCentres27
import Derived.Test.YtfgeocpooimojaaDoorQPfWeightCentres29
namespace Go.Proofs.YtfgeocpooimojaaDoor
open Go Go.RowKit

theorem refDivided_at (a : Wt) (w : World) : Calls Tryd.prog 34 #[.agg #[.int .i64 a.m, .int .i64 a.x, .int .i64 a.y, .int .i64 a.z, .int .i64 a.v]] w fun e w' => e = .returned (.int .i64 (divE a)) ∧ (w.alloc (wtO a)).alloc (wtO a) = w' := by
  cases h : a.okB
  · have he := chk_no h
    have E : Hid (divE a = 9) := by unfold Hid divE; rw [h]; rfl
    clear h
    go_enter Tryd.func34, Tryd.ntmps34
    go_wp2_with (go_at_call 14; refine (refCheck_at _ _ _ _ _ _).mono ?_; rintro e w' ⟨rfl, rfl⟩)
    go_ret
    exact ⟨ret_int E.out.symm, rfl⟩
  · have he := chk_yes h
    by_cases h0 : a.m = 0
    · have E : Hid (divE a = 22) := by unfold Hid divE; rw [h, if_pos h0]; rfl
      have g : (a.m == 0) = true := by simpa using h0
      clear h h0
      go_enter Tryd.func34, Tryd.ntmps34
      go_wp2_with (go_at_call 14; refine (refCheck_at _ _ _ _ _ _).mono ?_; rintro e w' ⟨rfl, rfl⟩)
      go_ret
      exact ⟨ret_int E.out.symm, rfl⟩
    · have E : Hid (divE a = 0) := by unfold Hid divE; rw [h, if_neg h0]; rfl
      have g : (a.m == 0) = false := by simpa using h0
      clear h h0
      go_enter Tryd.func34, Tryd.ntmps34
      go_wp2_with (go_at_call 14; refine (refCheck_at _ _ _ _ _ _).mono ?_; rintro e w' ⟨rfl, rfl⟩)
      go_ret
      exact ⟨ret_int E.out.symm, rfl⟩

theorem refSigma_at (a : Wt) (w : World) : Calls Tryd.prog 20 #[.agg #[.int .i64 a.m, .int .i64 a.x, .int .i64 a.y, .int .i64 a.z, .int .i64 a.v]] w fun e w' => e = .returned (.int .i64 (sigmaOf a)) ∧ (w.alloc (wtO a)).alloc (wtO a) = w' := by
  cases h : a.okB
  · have he := chk_no h
    have E : Hid (sigmaOf a = 0) := by unfold Hid sigmaOf; exact if_neg (by rw [h]; exact Bool.false_ne_true)
    clear h
    go_enter Tryd.func20, Tryd.ntmps20
    go_wp2_with (go_at_call 14; refine (refCheck_at _ _ _ _ _ _).mono ?_; rintro e w' ⟨rfl, rfl⟩)
    go_ret
    exact ⟨ret_int E.out.symm, rfl⟩
  · have he := chk_yes h
    have E : Hid (sigmaOf a = rootOf a.v) := by unfold Hid sigmaOf; exact if_pos h
    have h' := (okW_iff _ _ _ _ _).1 h
    have hv1 : 0 ≤ a.v := by omega
    have hv2 : a.v ≤ 9223372036854775807 := by omega
    clear h h'
    go_enter Tryd.func20, Tryd.ntmps20
    go_wp2_with (first | (go_at_call 14; refine (refCheck_at _ _ _ _ _ _).mono ?_; rintro e w' ⟨rfl, rfl⟩) | (go_at_call 39; refine (refRoot_any _ hv1 hv2 _).mono ?_; rintro e w' ⟨rfl, rfl⟩))
    go_ret
    exact ⟨ret_int E.out.symm, rfl⟩

theorem refSigma_below (a : Wt) (w : World) : Calls Tryd.prog 20 #[.agg #[.int .i64 a.m, .int .i64 a.x, .int .i64 a.y, .int .i64 a.z, .int .i64 a.v]] w fun e w' => e = .returned (.int .i64 (sigmaOf a)) ∧ Below w.heap.size w w' :=
  (refSigma_at a w).mono fun _ _ ⟨he, hw⟩ => ⟨he, by rw [← hw]; go_grown⟩
theorem refDivided_below (a : Wt) (w : World) : Calls Tryd.prog 34 #[.agg #[.int .i64 a.m, .int .i64 a.x, .int .i64 a.y, .int .i64 a.z, .int .i64 a.v]] w fun e w' => e = .returned (.int .i64 (divE a)) ∧ Below w.heap.size w w' :=
  (refDivided_at a w).mono fun _ _ ⟨he, hw⟩ => ⟨he, by rw [← hw]; go_grown⟩
theorem refMargin_below (a : Wt) (n : Int) (w : World) : Calls Tryd.prog 22 #[.agg #[.int .i64 a.m, .int .i64 a.x, .int .i64 a.y, .int .i64 a.z, .int .i64 a.v], .int .i64 n] w fun e w' => e = .returned (.int .i64 (marginOf a n)) ∧ Below w.heap.size w w' := by
  cases h : a.okB
  · have he := chk_no h
    have E : Hid (marginOf a n = 0) := by unfold Hid marginOf; exact if_neg (by rw [h]; exact Bool.false_ne_true)
    clear h
    go_enter Tryd.func22, Tryd.ntmps22
    go_wp2_with (go_at_call 14; refine (refCheck_at _ _ _ _ _ _).mono ?_; rintro e w' ⟨rfl, rfl⟩)
    go_ret
    exact ⟨ret_int E.out.symm, by go_grown⟩
  · have he := chk_yes h
    cases h2 : btwB n 0 10
    · have hn : n < 0 ∨ 10 < n := by
        rcases Int.lt_or_le n 0 with h | h
        · exact .inl h
        · refine .inr ?_
          rcases Int.lt_or_le 10 n with h' | h'
          · exact h'
          · simp [btwB, h, h'] at h2
      have E : Hid (marginOf a n = 0) := by unfold Hid marginOf; exact if_neg (by rw [h, h2]; exact Bool.false_ne_true)
      clear h h2
      rcases hn with hn | hn
      · have d1 : decide (n < 0) = true := by simpa using hn
        go_enter Tryd.func22, Tryd.ntmps22
        go_wp2_with (go_at_call 14; refine (refCheck_at _ _ _ _ _ _).mono ?_; rintro e w' ⟨rfl, rfl⟩)
        go_ret
        exact ⟨ret_int E.out.symm, by go_grown⟩
      · have d1 : decide (n < 0) = false := by simp; omega
        have d2 : decide (10 < n) = true := by simpa using hn
        go_enter Tryd.func22, Tryd.ntmps22
        go_wp2_with (go_at_call 14; refine (refCheck_at _ _ _ _ _ _).mono ?_; rintro e w' ⟨rfl, rfl⟩)
        go_ret
        exact ⟨ret_int E.out.symm, by go_grown⟩
    · have E : Hid (marginOf a n = a.m + 1000 * n * sigmaOf a) := by unfold Hid marginOf; exact if_pos (by rw [h, h2]; rfl)
      have h' := (okW_iff _ _ _ _ _).1 h
      have hn : 0 ≤ n ∧ n ≤ 10 := by simpa [btwB] using h2
      obtain ⟨hm1, hm2⟩ := h'.1
      obtain ⟨hn1, hn2⟩ := hn
      obtain ⟨hs1, hs2⟩ := sigma_bd a
      obtain ⟨hp1, hp2⟩ := mul_bd n _ hn1 hn2 hs1 hs2
      have q1 : IntKind.i64.wrap (1000 * n) = 1000 * n := IntWalk.i64_in _ ⟨by omega, by omega⟩
      have q2 : IntKind.i64.wrap (1000 * n * sigmaOf a) = 1000 * n * sigmaOf a := IntWalk.i64_in _ ⟨by omega, by omega⟩
      have q3 : IntKind.i64.wrap (a.m + 1000 * n * sigmaOf a) = a.m + 1000 * n * sigmaOf a := IntWalk.i64_in _ ⟨by omega, by omega⟩
      have d1 : decide (n < 0) = false := by simp; omega
      have d2 : decide (10 < n) = false := by simp; omega
      clear h h' h2
      go_enter Tryd.func22, Tryd.ntmps22
      go_wp2_with (go_at_call 14; refine (refCheck_at _ _ _ _ _ _).mono ?_; rintro e w' ⟨rfl, rfl⟩)
      obtain ⟨W, hW⟩ : ∃ W, W = (w.alloc (wtO a)).alloc (wtO a) := ⟨_, rfl⟩
      have hlt : w.heap.size < W.heap.size := by rw [hW]; simp; omega
      have c0 : W.cell? ⟨w.heap.size, 0, none⟩ = some (.int .i64 a.m) := by rw [hW]; simp
      have c1 : W.cell? ⟨w.heap.size, 1, none⟩ = some (.int .i64 a.x) := by rw [hW]; simp
      have c2 : W.cell? ⟨w.heap.size, 2, none⟩ = some (.int .i64 a.y) := by rw [hW]; simp
      have c3 : W.cell? ⟨w.heap.size, 3, none⟩ = some (.int .i64 a.z) := by rw [hW]; simp
      have c4 : W.cell? ⟨w.heap.size, 4, none⟩ = some (.int .i64 a.v) := by rw [hW]; simp
      have Hb : Hid (Below w.heap.size w W) := by unfold Hid; rw [hW]; go_grown
      rw [← hW]
      clear hW
      have lc := @later_cell W
      refine wp_region_later (by kernel_rfl) (by kernel_rfl) ?_
      repeat (go_big_quiet_step ((go_at_call 20; exact later_call (refSigma_below _ _))))
      refine wpQuiet_nil ?_
      intro _ hw'
      obtain ⟨u, rfl⟩ := hw'
      have Hb2 := Lib.hid (Hb.out.trans (u.property.mono Hb.out.size))
      generalize u.val = w2 at *
      go_wp2_with fail
      go_ret
      exact ⟨ret_int E.out.symm, Hb2.out⟩
end Go.Proofs.YtfgeocpooimojaaDoor
namespace Go.Proofs.YtfgeocpooimojaaDoor
open Go Go.RowKit

set_option maxHeartbeats 8000000 in
set_option maxRecDepth 100000 in
theorem refCentre_yes (a : Wt) (hd : divE a = 0) (w : World) : Calls Tryd.prog 16 #[.agg #[.int .i64 a.m, .int .i64 a.x, .int .i64 a.y, .int .i64 a.z, .int .i64 a.v]] w fun e w' =>
    e = .returned (.tuple #[.agg (ratS (ratN a.x a.m) (ratP a.x a.m) (ratQ a.x a.m)), .agg (ratS (ratN a.y a.m) (ratP a.y a.m) (ratQ a.y a.m)), .agg (ratS (ratN a.z a.m) (ratP a.z a.m) (ratQ a.z a.m)), .int .i64 0]) ∧ Below w.heap.size w w' := by
  obtain ⟨hm, hx, hy, hz⟩ := divE_zero hd
  have HB := Lib.hid (blk_start4 w 23 37 37 37 #[.int .i64 a.m, .int .i64 a.x, .int .i64 a.y, .int .i64 a.z, .int .i64 a.v] (ratS false 0 0) (ratS false 0 0) (ratS false 0 0))
  have C0 : Hid (∀ W, Calls Tryd.prog 34 #[.agg #[.int .i64 a.m, .int .i64 a.x, .int .i64 a.y, .int .i64 a.z, .int .i64 a.v]] W fun e w' => e = .returned (.int .i64 0) ∧ Below W.heap.size W w') := fun W => by
    have := refDivided_below a W
    rw [hd] at this
    exact this
  have Cx := Lib.hid (refRatioOf_at a.x a.m (by omega) (by omega) (by omega) (by omega))
  have Cy := Lib.hid (refRatioOf_at a.y a.m (by omega) (by omega) (by omega) (by omega))
  have Cz := Lib.hid (refRatioOf_at a.z a.m (by omega) (by omega) (by omega) (by omega))
  clear hd hm hx hy hz
  generalize ratN a.x a.m = nx at *
  generalize ratP a.x a.m = px at *
  generalize ratQ a.x a.m = qx at *
  generalize ratN a.y a.m = ny at *
  generalize ratP a.y a.m = py at *
  generalize ratQ a.y a.m = qy at *
  generalize ratN a.z a.m = nz at *
  generalize ratP a.z a.m = pz at *
  generalize ratQ a.z a.m = qz at *
  go_enter Tryd.func16, Tryd.ntmps16
  go_wp2_with fail
  refine (C0.out _).mono ?_
  rintro e w1 ⟨rfl, hb1⟩
  have K1 := Lib.hid (HB.out.1.below hb1 HB.out.1.lt); have K2 := Lib.hid (HB.out.2.1.below hb1 HB.out.2.1.lt); have K3 := Lib.hid (HB.out.2.2.1.below hb1 HB.out.2.2.1.lt); have K4 := Lib.hid (HB.out.2.2.2.below hb1 HB.out.2.2.2.lt)
  have Hb1 : Hid (Below w.heap.size w w1) := Lib.hid (Below.trans (by go_grown) (hb1.mono (by simp; omega)))
  clear hb1 HB C0
  have c0 := K1.out.cell 0; have c1 := K1.out.cell 1
  simp at c0 c1
  go_wp2_with fail
  refine (Cx.out _).mono ?_
  rintro e v2 ⟨rfl, hb2⟩
  have L1 := Lib.hid ((K1.out.below hb2 K1.out.lt).alloc (.cells (ratS nx px qx) 37)); have L2 := Lib.hid ((K2.out.below hb2 K2.out.lt).alloc (.cells (ratS nx px qx) 37)); have L3 := Lib.hid ((K3.out.below hb2 K3.out.lt).alloc (.cells (ratS nx px qx) 37)); have L4 := Lib.hid ((K4.out.below hb2 K4.out.lt).alloc (.cells (ratS nx px qx) 37))
  have X2 := Lib.hid (Blk.new v2 37 (ratS nx px qx))
  have Lb := Lib.hid ((Hb1.out.trans (hb2.mono Hb1.out.size)).alloc (by have h1 := Hb1.out.size; have h2 := hb2.size; omega) (.cells (ratS nx px qx) 37))
  have hv2 : w.heap.size + 1 + 1 + 1 < v2.heap.size := Nat.lt_of_lt_of_le K4.out.lt hb2.size
  clear hb2 K1 K2 K3 K4 Hb1 Cx c0 c1
  go_upto_region 5 with fail
  generalize v2.alloc (.cells (ratS nx px qx) 37) = w2 at *
  have c0 := L1.out.cell 0; have c1 := L1.out.cell 2
  simp at c0 c1
  go_wp2_with fail
  refine (Cy.out _).mono ?_
  rintro e v3 ⟨rfl, hb3⟩
  have M1 := Lib.hid ((L1.out.below hb3 L1.out.lt).alloc (.cells (ratS ny py qy) 37)); have M2 := Lib.hid ((L2.out.below hb3 L2.out.lt).alloc (.cells (ratS ny py qy) 37)); have M3 := Lib.hid ((L3.out.below hb3 L3.out.lt).alloc (.cells (ratS ny py qy) 37)); have M4 := Lib.hid ((L4.out.below hb3 L4.out.lt).alloc (.cells (ratS ny py qy) 37))
  have X3 := Lib.hid ((X2.out.below hb3 X2.out.lt).alloc (.cells (ratS ny py qy) 37))
  have Y3 := Lib.hid (Blk.new v3 37 (ratS ny py qy))
  have Mb := Lib.hid ((Lb.out.trans (hb3.mono Lb.out.size)).alloc (by have h1 := Lb.out.size; have h2 := hb3.size; omega) (.cells (ratS ny py qy) 37))
  have hv3 : v2.heap.size < v3.heap.size := Nat.lt_of_lt_of_le X2.out.lt hb3.size
  clear hb3 L1 L2 L3 L4 X2 Lb Cy c0 c1
  go_upto_region 6 with fail
  generalize v3.alloc (.cells (ratS ny py qy) 37) = w3 at *
  have c0 := M1.out.cell 0; have c1 := M1.out.cell 3
  simp at c0 c1
  go_wp2_with fail
  refine (Cz.out _).mono ?_
  rintro e v4 ⟨rfl, hb4⟩
  have N2 := Lib.hid ((M2.out.below hb4 M2.out.lt).alloc (.cells (ratS nz pz qz) 37)); have N3 := Lib.hid ((M3.out.below hb4 M3.out.lt).alloc (.cells (ratS nz pz qz) 37)); have N4 := Lib.hid ((M4.out.below hb4 M4.out.lt).alloc (.cells (ratS nz pz qz) 37))
  have X4 := Lib.hid ((X3.out.below hb4 X3.out.lt).alloc (.cells (ratS nz pz qz) 37))
  have Y4 := Lib.hid ((Y3.out.below hb4 Y3.out.lt).alloc (.cells (ratS nz pz qz) 37))
  have Z4 := Lib.hid (Blk.new v4 37 (ratS nz pz qz))
  have Nb := Lib.hid ((Mb.out.trans (hb4.mono Mb.out.size)).alloc (by have h1 := Mb.out.size; have h2 := hb4.size; omega) (.cells (ratS nz pz qz) 37))
  have hv4 : v3.heap.size < v4.heap.size := Nat.lt_of_lt_of_le Y3.out.lt hb4.size
  clear hb4 M1 M2 M3 M4 X3 Y3 Mb Cz c0 c1
  go_upto_region 7 with fail
  generalize v4.alloc (.cells (ratS nz pz qz) 37) = W at *
  have hB : w.heap.size ≤ W.heap.size := Nb.out.size
  have hS0 : Held w.heap.size W [(v2.heap.size, 37, (ratS nx px qx)), (v3.heap.size, 37, (ratS ny py qy)), (v4.heap.size, 37, (ratS nz pz qz))] { W with drawn := W.drawn + 1 } := ⟨(Below.refl _ W).drew, by
    intro x hx
    simp only [List.mem_cons, List.not_mem_nil, or_false] at hx
    rcases hx with rfl | rfl | rfl
    · exact X4.out
    · exact Y4.out
    · exact Z4.out⟩
  have hset : ∀ (g : Nat) (cs : Array Value), w.heap.size ≤ g → g ≤ w.heap.size + 1 + 1 + 1 → ∀ w', Held w.heap.size W [(v2.heap.size, 37, (ratS nx px qx)), (v3.heap.size, 37, (ratS ny py qy)), (v4.heap.size, 37, (ratS nz pz qz))] w' → Held w.heap.size W [(v2.heap.size, 37, (ratS nx px qx)), (v3.heap.size, 37, (ratS ny py qy)), (v4.heap.size, 37, (ratS nz pz qz))] (w'.setRow g cs) := by
    intro g cs h1 h2 w' h
    refine h.set_ h1 ?_ cs
    intro x hx
    simp only [List.mem_cons, List.not_mem_nil, or_false] at hx
    rcases hx with rfl | rfl | rfl <;> (simp only; omega)
  have Hset := Lib.hid hset
  clear hset
  refine wp_region_Kn (n := 7) (S := Held (w.heap.size) W [(v2.heap.size, 37, (ratS nx px qx)), (v3.heap.size, 37, (ratS ny py qy)), (v4.heap.size, 37, (ratS nz pz qz))]) rfl (by kernel_rfl) ?_
  refine wpAnyK_taked (i := 0) (oi := _) (v := _) rfl rfl (by kernel_rfl) (by kernel_rfl) (by kernel_rfl) (fun _ _ _ h => h) (Held.grow hB) (yields_load_row (g := v2.heap.size) (t := 37) (cs := (ratS nx px qx)) (by rfl) rfl rfl (fun _ h => h.2 _ (.head _)) Tryd.underlying37 rfl (by kernel_rfl)) hS0 ?_
  simp only [Act.put, List.setIfInBounds_toArray, List.set_cons_zero, List.set_cons_succ]
  refine wpAnyK_taked (i := 1) (oi := _) (v := _) rfl rfl (by kernel_rfl) (by kernel_rfl) (by kernel_rfl) (fun _ _ _ h => h) (Held.grow hB) (yields_load_row (g := v3.heap.size) (t := 37) (cs := (ratS ny py qy)) (by rfl) rfl rfl (fun _ h => h.2 _ (.tail _ (.head _))) Tryd.underlying37 rfl (by kernel_rfl)) hS0 ?_
  simp only [Act.put, List.setIfInBounds_toArray, List.set_cons_zero, List.set_cons_succ]
  refine wpAnyK_taked (i := 2) (oi := _) (v := _) rfl rfl (by kernel_rfl) (by kernel_rfl) (by kernel_rfl) (fun _ _ _ h => h) (Held.grow hB) (yields_load_row (g := v4.heap.size) (t := 37) (cs := (ratS nz pz qz)) (by rfl) rfl rfl (fun _ h => h.2 _ (.tail _ (.tail _ (.head _)))) Tryd.underlying37 rfl (by kernel_rfl)) hS0 ?_
  simp only [Act.put, List.setIfInBounds_toArray, List.set_cons_zero, List.set_cons_succ]
  have N2' : Blk { W with drawn := W.drawn + 1 } (w.heap.size + 1) 37 (ratS false 0 0) := N2.out
  have N3' : Blk { W with drawn := W.drawn + 1 } (w.heap.size + 1 + 1) 37 (ratS false 0 0) := N3.out
  have N4' : Blk { W with drawn := W.drawn + 1 } (w.heap.size + 1 + 1 + 1) 37 (ratS false 0 0) := N4.out
  refine wpAnyK_puts (i := 3) (g := w.heap.size + 1) (old := (ratS false 0 0)) (cs := (ratS nx px qx)) (by kernel_rfl) rfl rfl (by rfl) rfl (Held.grow hB) hS0 N2' (zero_of_info Tryd.infoRat).2 rfl (ratS_one _ _ _) ?hx0 ?hy0 (Hset.out _ _ (by omega) (by omega)) ?_
  case hx0 => go_simp
  case hy0 => go_simp
  intro y0 hS1 hu1 hk1
  have P3 := hu1.blk _ _ _ (by omega) N3'
  have P4 := hu1.blk _ _ _ (by omega) N4'
  refine wpAnyK_puts (i := 4) (g := w.heap.size + 1 + 1) (old := (ratS false 0 0)) (cs := (ratS ny py qy)) (by kernel_rfl) rfl rfl (by rfl) rfl (Held.grow hB) hS1 P3 (zero_of_info Tryd.infoRat).2 rfl (ratS_one _ _ _) ?hx1 ?hy1 (Hset.out _ _ (by omega) (by omega)) ?_
  case hx1 => go_simp
  case hy1 => go_simp
  intro y1 hS2 hu2 hk2
  have Q2 := hu2.blk _ _ _ (by omega) hk1
  have Q4 := hu2.blk _ _ _ (by omega) P4
  refine wpAnyK_puts (i := 5) (g := w.heap.size + 1 + 1 + 1) (old := (ratS false 0 0)) (cs := (ratS nz pz qz)) (by kernel_rfl) rfl rfl (by rfl) rfl (Held.grow hB) hS2 Q4 (zero_of_info Tryd.infoRat).2 rfl (ratS_one _ _ _) ?hx2 ?hy2 (Hset.out _ _ (by omega) (by omega)) ?_
  case hx2 => go_simp
  case hy2 => go_simp
  intro y2 hS3 hu3 hk3
  have R2 := hu3.blk _ _ _ (by omega) Q2
  have R3 := hu3.blk _ _ _ (by omega) hk2
  refine wpAnyK_nextd (i := 6) (v := ?_) (by kernel_rfl) rfl rfl (by rfl) (Held.grow hB) hS3 ?hn ?_
  rotate_left
  case hn =>
    intro w' hSw
    go_simp
    try with_reducible rfl
  refine wpAnyK_done (by kernel_rfl) ?_ _
  intro w6 hb6
  have hS6 := Held.grow hB _ _ hS3 hb6
  have O2 := Lib.hid (R2.below hb6 R2.lt); have O3 := Lib.hid (R3.below hb6 R3.lt); have O4 := Lib.hid (hk3.below hb6 hk3.lt)
  have Hb6 := Lib.hid (Nb.out.trans hS6.1)
  clear hS6 hb6 hS0 hS1 hS2 hS3 hu1 hu2 hu3 hk1 hk2 hk3 P3 P4 Q2 Q4 R2 R3 N2' N3' N4' Hset
  simp only [Act.put, List.setIfInBounds_toArray, List.set_cons_zero, List.set_cons_succ]
  go_wp2_with fail
  exact bodyPost_ret (results_ccct rfl _ _ (w.heap.size + 1) (w.heap.size + 1 + 1) (w.heap.size + 1 + 1 + 1) 37 37 37 (ratS nx px qx) (ratS ny py qy) (ratS nz pz qz) _ rfl rfl rfl O2.out O3.out O4.out Tryd.underlying37 rfl (by kernel_rfl) (by kernel_rfl) (by kernel_rfl)) rfl ⟨rfl, Hb6.out⟩
set_option maxHeartbeats 2000000 in
theorem refCentre_no (a : Wt) (hd : divE a ≠ 0) (w : World) : Calls Tryd.prog 16 #[.agg #[.int .i64 a.m, .int .i64 a.x, .int .i64 a.y, .int .i64 a.z, .int .i64 a.v]] w fun e w' =>
    e = .returned (.tuple #[.agg ratZ, .agg ratZ, .agg ratZ, .int .i64 (divE a)]) ∧ Below w.heap.size w w' := by
  have g : (divE a != 0) = true := by simpa using hd
  clear hd
  go_enter Tryd.func16, Tryd.ntmps16
  go_wp2_with (go_at_call 34; refine (refDivided_at _ _).mono ?_; rintro e w' ⟨rfl, rfl⟩)
  refine bodyPost_ret (results_ccct rfl _ _ (w.heap.size + 1) (w.heap.size + 1 + 1) (w.heap.size + 1 + 1 + 1) 37 37 37 ratZ ratZ ratZ _ rfl rfl rfl (by with_reducible exact (blk_n3 _ _ _ _ _ _ _ _).1) (by with_reducible exact (blk_n3 _ _ _ _ _ _ _ _).2.1) (by with_reducible exact (blk_n3 _ _ _ _ _ _ _ _).2.2) Tryd.underlying37 rfl (by kernel_rfl) (by kernel_rfl) (by kernel_rfl)) rfl ⟨rfl, by go_grown⟩
end Go.Proofs.YtfgeocpooimojaaDoor
