/-
  What Centre of package weight returns where it refuses. Conditions: as each theorem states them. Centre of package weight where it succeeds. Conditions: the weight is valid and has a mass; the library's table lies in its variable.
-/
import Derived.Test.YtfgeocpooimojaaDoorQPfWeightCentres28
import Derived.Test.YtfgeocpooimojaaDoorQPfWeightCentres27
namespace Go.Proofs.YtfgeocpooimojaaDoor
open Go Go.RowKit

theorem results_ccct {P : Program} {fn : Func} {p q r t : Tmp} {ty : TypeId} (h : fn.results = #[.cell p ty, .cell q ty, .cell r ty, .tmp t]) (tmps : Array Value) (w : World) (g1 g2 g3 : Nat) (t1 t2 t3 : TypeId) (c1 c2 c3 : Array Value) (d : TypeDesc)
    (hp : tmps.getD p undef = .pointer (some ⟨g1, 0, none⟩)) (hq : tmps.getD q undef = .pointer (some ⟨g2, 0, none⟩)) (hr : tmps.getD r undef = .pointer (some ⟨g3, 0, none⟩))
    (b1 : Blk w g1 t1 c1) (b2 : Blk w g2 t2 c2) (b3 : Blk w g3 t3 c3) (hu : P.underlying ty = some d) (hd : (match d with | .struct _ | .array _ _ => true | _ => false) = true)
    (i1 : (P.info? ty).map (·.size) = some c1.size) (i2 : (P.info? ty).map (·.size) = some c2.size) (i3 : (P.info? ty).map (·.size) = some c3.size) :
    (results fn tmps).run P w = .ok (.tuple #[.agg c1, .agg c2, .agg c3, tmps.getD t undef]) w := by
  have hp' : tmps[p]?.getD undef = .pointer (some ⟨g1, 0, none⟩) := by simpa using hp
  have hq' : tmps[q]?.getD undef = .pointer (some ⟨g2, 0, none⟩) := by simpa using hq
  have hr' : tmps[r]?.getD undef = .pointer (some ⟨g3, 0, none⟩) := by simpa using hr
  simp [results, h, hp', hq', hr', asAddr, run_loadVar_row w g1 t1 ty c1 (0, 0) d b1 hu hd i1, run_loadVar_row w g2 t2 ty c2 (0, 0) d b2 hu hd i2, run_loadVar_row w g3 t3 ty c3 (0, 0) d b3 hu hd i3]
abbrev ratZ : Array Value := #[.bool false, .int .u64 0, .int .u64 0, .int .u64 0, .int .u64 0, .bool false, .int .u64 0, .int .u64 0, .int .u64 0, .int .u64 0]
theorem blk_n3 (w : World) (o : Obj) (t : TypeId) (c1 c2 c3 : Array Value) (o4 o5 : Obj) : Blk ((((((w.alloc o).alloc (.cells c1 t)).alloc (.cells c2 t)).alloc (.cells c3 t)).alloc o4).alloc o5) (w.heap.size + 1) t c1 ∧
    Blk ((((((w.alloc o).alloc (.cells c1 t)).alloc (.cells c2 t)).alloc (.cells c3 t)).alloc o4).alloc o5) (w.heap.size + 1 + 1) t c2 ∧ Blk ((((((w.alloc o).alloc (.cells c1 t)).alloc (.cells c2 t)).alloc (.cells c3 t)).alloc o4).alloc o5) (w.heap.size + 1 + 1 + 1) t c3 := by
  have h1 := ((((Blk.new (w.alloc o) t c1).alloc (.cells c2 t)).alloc (.cells c3 t)).alloc o4).alloc o5
  have h2 := (((Blk.new ((w.alloc o).alloc (.cells c1 t)) t c2).alloc (.cells c3 t)).alloc o4).alloc o5
  have h3 := ((Blk.new (((w.alloc o).alloc (.cells c1 t)).alloc (.cells c2 t)) t c3).alloc o4).alloc o5
  refine ⟨?_, ?_, ?_⟩
  · simpa using h1
  · simpa using h2
  · simpa using h3
set_option maxHeartbeats 2000000 in
theorem centre_no (a : Wt) (hd : divE a ≠ 0) (w : World) : Calls Tryd.prog 15 #[.agg #[.int .i64 a.m, .int .i64 a.x, .int .i64 a.y, .int .i64 a.z, .int .i64 a.v]] w fun e w' =>
    e = .returned (.tuple #[.agg ratZ, .agg ratZ, .agg ratZ, .int .i64 (divE a)]) ∧ Below w.heap.size w w' := by
  have g : (divE a != 0) = true := by simpa using hd
  clear hd
  go_enter Tryd.func15, Tryd.ntmps15
  go_wp2_with (go_at_call 32; refine (divisible_at _ _).mono ?_; rintro e w' ⟨rfl, rfl⟩)
  refine bodyPost_ret (results_ccct rfl _ _ (w.heap.size + 1) (w.heap.size + 1 + 1) (w.heap.size + 1 + 1 + 1) 37 37 37 ratZ ratZ ratZ _ rfl rfl rfl (by with_reducible exact (blk_n3 _ _ _ _ _ _ _ _).1) (by with_reducible exact (blk_n3 _ _ _ _ _ _ _ _).2.1) (by with_reducible exact (blk_n3 _ _ _ _ _ _ _ _).2.2) Tryd.underlying37 rfl (by kernel_rfl) (by kernel_rfl) (by kernel_rfl)) rfl ⟨rfl, by go_grown⟩
end Go.Proofs.YtfgeocpooimojaaDoor
namespace Go.Proofs.YtfgeocpooimojaaDoor
open Go Go.RowKit

set_option maxHeartbeats 8000000 in
set_option maxRecDepth 100000 in
theorem centre_yes (a : Wt) (hd : divE a = 0) (w : World) (hT : Tab w) : Calls Tryd.prog 15 #[.agg #[.int .i64 a.m, .int .i64 a.x, .int .i64 a.y, .int .i64 a.z, .int .i64 a.v]] w fun e w' =>
    e = .returned (.tuple #[.agg (ratS (ratN a.x a.m) (ratP a.x a.m) (ratQ a.x a.m)), .agg (ratS (ratN a.y a.m) (ratP a.y a.m) (ratQ a.y a.m)), .agg (ratS (ratN a.z a.m) (ratP a.z a.m) (ratQ a.z a.m)), .int .i64 0]) ∧ Below w.heap.size w w' := by
  obtain ⟨hm, hx, hy, hz⟩ := divE_zero hd
  have HB := Lib.hid (blk_start4 w 23 37 37 37 #[.int .i64 a.m, .int .i64 a.x, .int .i64 a.y, .int .i64 a.z, .int .i64 a.v] (ratS false 0 0) (ratS false 0 0) (ratS false 0 0))
  have C0 : Hid (∀ W, Calls Tryd.prog 32 #[.agg #[.int .i64 a.m, .int .i64 a.x, .int .i64 a.y, .int .i64 a.z, .int .i64 a.v]] W fun e w' => e = .returned (.int .i64 0) ∧ Below W.heap.size W w') := fun W => by
    have := divisible_below a W
    rw [hd] at this
    exact this
  have Cx := Lib.hid (ratioOf_at a.x a.m (by omega) (by omega) (by omega) (by omega))
  have Cy := Lib.hid (ratioOf_at a.y a.m (by omega) (by omega) (by omega) (by omega))
  have Cz := Lib.hid (ratioOf_at a.z a.m (by omega) (by omega) (by omega) (by omega))
  have HT := Lib.hid hT
  clear hd hm hx hy hz hT
  generalize ratN a.x a.m = nx at *
  generalize ratP a.x a.m = px at *
  generalize ratQ a.x a.m = qx at *
  generalize ratN a.y a.m = ny at *
  generalize ratP a.y a.m = py at *
  generalize ratQ a.y a.m = qy at *
  generalize ratN a.z a.m = nz at *
  generalize ratP a.z a.m = pz at *
  generalize ratQ a.z a.m = qz at *
  go_enter Tryd.func15, Tryd.ntmps15
  go_wp2_with fail
  refine (C0.out _).mono ?_
  rintro e w1 ⟨rfl, hb1⟩
  have K1 := Lib.hid (HB.out.1.below hb1 HB.out.1.lt); have K2 := Lib.hid (HB.out.2.1.below hb1 HB.out.2.1.lt); have K3 := Lib.hid (HB.out.2.2.1.below hb1 HB.out.2.2.1.lt); have K4 := Lib.hid (HB.out.2.2.2.below hb1 HB.out.2.2.2.lt)
  have Hb1 : Hid (Below w.heap.size w w1) := Lib.hid (Below.trans (by go_grown) (hb1.mono (by simp; omega)))
  have T1 := Lib.hid (HT.out.later Hb1.out)
  have htab : tabG < w.heap.size := HT.out.2
  clear hb1 HB C0 HT
  have c0 := K1.out.cell 0; have c1 := K1.out.cell 1
  simp at c0 c1
  go_wp2_with fail
  refine (Cx.out _ T1.out).mono ?_
  rintro e v2 ⟨rfl, hb2⟩
  have L21 := Lib.hid (K1.out.below hb2 K1.out.lt); have L22 := Lib.hid (K2.out.below hb2 K2.out.lt); have L23 := Lib.hid (K3.out.below hb2 K3.out.lt); have L24 := Lib.hid (K4.out.below hb2 K4.out.lt)
  have Lb2 := Lib.hid (Hb1.out.trans (hb2.mono Hb1.out.size)); have Lt2 := Lib.hid (T1.out.later hb2)
  clear hb2 K1 K2 K3 K4 Hb1 T1 Cx c0 c1
  go_upto_region 4 with (refine wpList_store_row rfl 37 (.tmp 2) (.tmp 16) rfl (w.heap.size + 1) (ratS nx px qx) rfl rfl 37 (ratS false 0 0) L22.out (zero_of_info Tryd.infoRat).2 rfl (ratS_one _ _ _) ?_; simp only [Act.put])
  have M21 := Lib.hid (L21.out.farRow (show w.heap.size ≠ w.heap.size + 1 by omega) (ratS nx px qx))
  have M22 := Lib.hid (L22.out.setRow (ratS nx px qx))
  have M23 := Lib.hid (L23.out.farRow (show w.heap.size + 1 + 1 ≠ w.heap.size + 1 by omega) (ratS nx px qx))
  have M24 := Lib.hid (L24.out.farRow (show w.heap.size + 1 + 1 + 1 ≠ w.heap.size + 1 by omega) (ratS nx px qx))
  have Mb2 := Lib.hid (below_setRow Lb2.out (show w.heap.size ≤ w.heap.size + 1 by omega) (ratS nx px qx)); have Mt2 := Lib.hid (tab_row Lt2.out (show tabG ≠ w.heap.size + 1 by omega) (ratS nx px qx))
  clear L21 L22 L23 L24 Lb2 Lt2
  generalize v2.setRow (w.heap.size + 1) (ratS nx px qx) = w2 at *
  have c0 := M21.out.cell 0; have c1 := M21.out.cell 2
  simp at c0 c1
  go_wp2_with fail
  refine (Cy.out _ Mt2.out).mono ?_
  rintro e v3 ⟨rfl, hb3⟩
  have L31 := Lib.hid (M21.out.below hb3 M21.out.lt); have L32 := Lib.hid (M22.out.below hb3 M22.out.lt); have L33 := Lib.hid (M23.out.below hb3 M23.out.lt); have L34 := Lib.hid (M24.out.below hb3 M24.out.lt)
  have Lb3 := Lib.hid (Mb2.out.trans (hb3.mono Mb2.out.size)); have Lt3 := Lib.hid (Mt2.out.later hb3)
  clear hb3 M21 M22 M23 M24 Mb2 Mt2 Cy c0 c1
  go_upto_region 5 with (refine wpList_store_row rfl 37 (.tmp 3) (.tmp 24) rfl (w.heap.size + 1 + 1) (ratS ny py qy) rfl rfl 37 (ratS false 0 0) L33.out (zero_of_info Tryd.infoRat).2 rfl (ratS_one _ _ _) ?_; simp only [Act.put])
  have M31 := Lib.hid (L31.out.farRow (show w.heap.size ≠ w.heap.size + 1 + 1 by omega) (ratS ny py qy))
  have M32 := Lib.hid (L32.out.farRow (show w.heap.size + 1 ≠ w.heap.size + 1 + 1 by omega) (ratS ny py qy))
  have M33 := Lib.hid (L33.out.setRow (ratS ny py qy))
  have M34 := Lib.hid (L34.out.farRow (show w.heap.size + 1 + 1 + 1 ≠ w.heap.size + 1 + 1 by omega) (ratS ny py qy))
  have Mb3 := Lib.hid (below_setRow Lb3.out (show w.heap.size ≤ w.heap.size + 1 + 1 by omega) (ratS ny py qy)); have Mt3 := Lib.hid (tab_row Lt3.out (show tabG ≠ w.heap.size + 1 + 1 by omega) (ratS ny py qy))
  clear L31 L32 L33 L34 Lb3 Lt3
  generalize v3.setRow (w.heap.size + 1 + 1) (ratS ny py qy) = w3 at *
  have c0 := M31.out.cell 0; have c1 := M31.out.cell 3
  simp at c0 c1
  go_wp2_with fail
  refine (Cz.out _ Mt3.out).mono ?_
  rintro e v4 ⟨rfl, hb4⟩
  have L41 := Lib.hid (M31.out.below hb4 M31.out.lt); have L42 := Lib.hid (M32.out.below hb4 M32.out.lt); have L43 := Lib.hid (M33.out.below hb4 M33.out.lt); have L44 := Lib.hid (M34.out.below hb4 M34.out.lt)
  have Lb4 := Lib.hid (Mb3.out.trans (hb4.mono Mb3.out.size)); have Lt4 := Lib.hid (Mt3.out.later hb4)
  clear hb4 M31 M32 M33 M34 Mb3 Mt3 Cz c0 c1
  go_upto_region 6 with (refine wpList_store_row rfl 37 (.tmp 4) (.tmp 32) rfl (w.heap.size + 1 + 1 + 1) (ratS nz pz qz) rfl rfl 37 (ratS false 0 0) L44.out (zero_of_info Tryd.infoRat).2 rfl (ratS_one _ _ _) ?_; simp only [Act.put])
  have M41 := Lib.hid (L41.out.farRow (show w.heap.size ≠ w.heap.size + 1 + 1 + 1 by omega) (ratS nz pz qz))
  have M42 := Lib.hid (L42.out.farRow (show w.heap.size + 1 ≠ w.heap.size + 1 + 1 + 1 by omega) (ratS nz pz qz))
  have M43 := Lib.hid (L43.out.farRow (show w.heap.size + 1 + 1 ≠ w.heap.size + 1 + 1 + 1 by omega) (ratS nz pz qz))
  have M44 := Lib.hid (L44.out.setRow (ratS nz pz qz))
  have Mb4 := Lib.hid (below_setRow Lb4.out (show w.heap.size ≤ w.heap.size + 1 + 1 + 1 by omega) (ratS nz pz qz)); have Mt4 := Lib.hid (tab_row Lt4.out (show tabG ≠ w.heap.size + 1 + 1 + 1 by omega) (ratS nz pz qz))
  clear L41 L42 L43 L44 Lb4 Lt4
  generalize v4.setRow (w.heap.size + 1 + 1 + 1) (ratS nz pz qz) = w4 at *
  obtain ⟨W, hW⟩ : ∃ W, W = w4 := ⟨_, rfl⟩
  rw [← hW]
  rw [← hW] at M41 M42 M43 M44 Mb4
  clear hW Mt4
  have hB : w.heap.size ≤ W.heap.size := Mb4.out.size
  have hS0 : Held w.heap.size W [(w.heap.size + 1, 37, (ratS nx px qx)), (w.heap.size + 1 + 1, 37, (ratS ny py qy)), (w.heap.size + 1 + 1 + 1, 37, (ratS nz pz qz))] { W with drawn := W.drawn + 1 } := ⟨(Below.refl _ W).drew, by
    intro x hx
    simp only [List.mem_cons, List.not_mem_nil, or_false] at hx
    rcases hx with rfl | rfl | rfl
    · exact M42.out
    · exact M43.out
    · exact M44.out⟩
  go_wp2_with fail
  refine wp_region_Kn (n := 7) (S := Held (w.heap.size) W [(w.heap.size + 1, 37, (ratS nx px qx)), (w.heap.size + 1 + 1, 37, (ratS ny py qy)), (w.heap.size + 1 + 1 + 1, 37, (ratS nz pz qz))]) rfl (by kernel_rfl) ?_
  refine wpAnyK_taked (i := 0) (oi := _) (v := _) rfl rfl (by kernel_rfl) (by kernel_rfl) (by kernel_rfl) (fun _ _ _ h => h) (Held.grow hB) (yields_load_row (g := w.heap.size + 1) (t := 37) (cs := (ratS nx px qx)) (by rfl) rfl rfl (fun _ h => h.2 _ (.head _)) Tryd.underlying37 rfl (by kernel_rfl)) hS0 ?_
  simp only [Act.put, List.setIfInBounds_toArray, List.set_cons_zero, List.set_cons_succ]
  refine wpAnyK_taked (i := 1) (oi := _) (v := _) rfl rfl (by kernel_rfl) (by kernel_rfl) (by kernel_rfl) (fun _ _ _ h => h) (Held.grow hB) (yields_load_row (g := w.heap.size + 1 + 1) (t := 37) (cs := (ratS ny py qy)) (by rfl) rfl rfl (fun _ h => h.2 _ (.tail _ (.head _))) Tryd.underlying37 rfl (by kernel_rfl)) hS0 ?_
  simp only [Act.put, List.setIfInBounds_toArray, List.set_cons_zero, List.set_cons_succ]
  refine wpAnyK_taked (i := 2) (oi := _) (v := _) rfl rfl (by kernel_rfl) (by kernel_rfl) (by kernel_rfl) (fun _ _ _ h => h) (Held.grow hB) (yields_load_row (g := w.heap.size + 1 + 1 + 1) (t := 37) (cs := (ratS nz pz qz)) (by rfl) rfl rfl (fun _ h => h.2 _ (.tail _ (.tail _ (.head _)))) Tryd.underlying37 rfl (by kernel_rfl)) hS0 ?_
  simp only [Act.put, List.setIfInBounds_toArray, List.set_cons_zero, List.set_cons_succ]
  refine wpAnyK_puts (i := 3) (g := w.heap.size + 1) (old := (ratS nx px qx)) (cs := (ratS nx px qx)) (by kernel_rfl) rfl rfl (by rfl) rfl (Held.grow hB) hS0 M42.out (zero_of_info Tryd.infoRat).2 rfl (ratS_one _ _ _) ?hx0 ?hy0 ?hs0 ?_
  case hx0 => go_simp
  case hy0 => go_simp
  case hs0 =>
    intro w' h
    refine ⟨below_setRow h.1 (by omega) _, ?_⟩
    intro x hx
    have hb := h.2 x hx
    simp only [List.mem_cons, List.not_mem_nil, or_false] at hx
    rcases hx with rfl | rfl | rfl
    · exact hb.setRow _
    · exact hb.farRow (by simp only; omega) _
    · exact hb.farRow (by simp only; omega) _
  intro y0 hS1 _ _
  refine wpAnyK_puts (i := 4) (g := w.heap.size + 1 + 1) (old := (ratS ny py qy)) (cs := (ratS ny py qy)) (by kernel_rfl) rfl rfl (by rfl) rfl (Held.grow hB) hS1 (hS1.2 _ (.tail _ (.head _))) (zero_of_info Tryd.infoRat).2 rfl (ratS_one _ _ _) ?hx1 ?hy1 ?hs1 ?_
  case hx1 => go_simp
  case hy1 => go_simp
  case hs1 =>
    intro w' h
    refine ⟨below_setRow h.1 (by omega) _, ?_⟩
    intro x hx
    have hb := h.2 x hx
    simp only [List.mem_cons, List.not_mem_nil, or_false] at hx
    rcases hx with rfl | rfl | rfl
    · exact hb.farRow (by simp only; omega) _
    · exact hb.setRow _
    · exact hb.farRow (by simp only; omega) _
  intro y1 hS2 _ _
  refine wpAnyK_puts (i := 5) (g := w.heap.size + 1 + 1 + 1) (old := (ratS nz pz qz)) (cs := (ratS nz pz qz)) (by kernel_rfl) rfl rfl (by rfl) rfl (Held.grow hB) hS2 (hS2.2 _ (.tail _ (.tail _ (.head _)))) (zero_of_info Tryd.infoRat).2 rfl (ratS_one _ _ _) ?hx2 ?hy2 ?hs2 ?_
  case hx2 => go_simp
  case hy2 => go_simp
  case hs2 =>
    intro w' h
    refine ⟨below_setRow h.1 (by omega) _, ?_⟩
    intro x hx
    have hb := h.2 x hx
    simp only [List.mem_cons, List.not_mem_nil, or_false] at hx
    rcases hx with rfl | rfl | rfl
    · exact hb.farRow (by simp only; omega) _
    · exact hb.farRow (by simp only; omega) _
    · exact hb.setRow _
  intro y2 hS3 _ _
  refine wpAnyK_nextd (i := 6) (v := ?_) (by kernel_rfl) rfl rfl (by rfl) (Held.grow hB) hS3 ?hn ?_
  rotate_left
  case hn =>
    intro w' hSw
    go_simp
    try with_reducible rfl
  refine wpAnyK_done (by kernel_rfl) ?_ _
  intro w6 hb6
  have hS6 := Held.grow hB _ _ hS3 hb6
  have O2 := Lib.hid (hS6.2 _ (.head _)); have O3 := Lib.hid (hS6.2 _ (.tail _ (.head _))); have O4 := Lib.hid (hS6.2 _ (.tail _ (.tail _ (.head _))))
  have Hb6 := Lib.hid (Mb4.out.trans hS6.1)
  clear hS6 hb6 hS0 hS1 hS2 hS3
  simp only [Act.put, List.setIfInBounds_toArray, List.set_cons_zero, List.set_cons_succ]
  go_wp2_with fail
  exact bodyPost_ret (results_ccct rfl _ _ (w.heap.size + 1) (w.heap.size + 1 + 1) (w.heap.size + 1 + 1 + 1) 37 37 37 (ratS nx px qx) (ratS ny py qy) (ratS nz pz qz) _ rfl rfl rfl O2.out O3.out O4.out Tryd.underlying37 rfl (by kernel_rfl) (by kernel_rfl) (by kernel_rfl)) rfl ⟨rfl, Hb6.out⟩
end Go.Proofs.YtfgeocpooimojaaDoor
