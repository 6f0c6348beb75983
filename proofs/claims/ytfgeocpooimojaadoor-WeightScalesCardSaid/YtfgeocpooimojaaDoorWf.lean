/-
  The comparison of the reference of wide integers, of numbers that are not negative. Conditions: as each theorem states them.
-/
import Derived.Test.YtfgeocpooimojaaDoorWe
import Derived.Test.YtfgeocpooimojaaDoorLater
namespace Go.Proofs.YtfgeocpooimojaaDoor
open Go Go.RowKit

theorem Tryd.infoWide : (Tryd.prog.info? 35).map (fun i => (i.zero, i.size)) = some (some (.agg wideZ), 5) := by kernel_rfl
theorem wideC_one (n : Bool) (M : Nat) : (wideC n M).all (·.oneCell') = true := by simp [Value.oneCell']
set_option maxHeartbeats 1000000 in
theorem refCmp_at (X Y : Nat) (hX : X < 4294967296 ^ 8) (hY : Y < 4294967296 ^ 8) (w : World) :
    Calls Tryd.prog 44 #[.agg (wideC false X), .agg (wideC false Y)] w fun e w' => e = .returned (.int .i64 (cmpN X Y)) ∧ Below w.heap.size w w' := by
  have K0 := (Blk.new w 35 (wideC false X)).alloc (.cells (wideC false Y) 35)
  have K1 : Blk ((w.alloc (.cells (wideC false X) 35)).alloc (.cells (wideC false Y) 35)) (w.heap.size + 1) 35 (wideC false Y) := by
    have := Blk.new (w.alloc (.cells (wideC false X) 35)) 35 (wideC false Y)
    simpa using this
  have CS := Lib.hid (refSplit_at false X); have CT := Lib.hid (refSplit_at false Y)
  have CJ := Lib.hid (refJoin_at X); have CK := Lib.hid (refJoin_at Y)
  have CC := Lib.hid (refCompare_at X Y hX hY)
  have H0 := Lib.hid K0; have H1 := Lib.hid K1
  clear hX hY K0 K1
  go_enter Tryd.func44, Tryd.ntmps44
  go_wp2_with fail
  have Hb0 : Hid (Below w.heap.size w ((w.alloc (.cells (wideC false X) 35)).alloc (.cells (wideC false Y) 35))) := by unfold Hid; go_grown
  generalize (w.alloc (.cells (wideC false X) 35)).alloc (.cells (wideC false Y) 35) = W at *
  have a0 := keepc (H0.out.cell 0); have a1 := keepc (H0.out.cell 1); have a2 := keepc (H0.out.cell 2); have a3 := keepc (H0.out.cell 3); have a4 := keepc (H0.out.cell 4)
  have b0 := keepc (H1.out.cell 0); have b1 := keepc (H1.out.cell 1); have b2 := keepc (H1.out.cell 2); have b3 := keepc (H1.out.cell 3); have b4 := keepc (H1.out.cell 4)
  refine wp_region_Kn (n := 14) (S := fun w' => Below (W.heap.size) W w') rfl (by kernel_rfl) ?_
  have hS0 : Below (W.heap.size) W { W with drawn := W.drawn + 1 } := (Below.refl _ _).drew
  refine wpAnyK_take (i := 0) (oi := _) (v := ?_) rfl (by kernel_rfl) (by kernel_rfl) (by kernel_rfl) (fun _ _ _ h => h) (fun _ _ => Below.later) (yields_read (by rfl) ?hy0) hS0 ?_
  rotate_left
  case hy0 =>
    intro w' hSw
    go_simp
    try with_reducible rfl
  simp only [Act.put]
  refine wpAnyK_take (i := 1) (oi := _) (v := ?_) rfl (by kernel_rfl) (by kernel_rfl) (by kernel_rfl) (fun _ _ _ h => h) (fun _ _ => Below.later) (yields_read (by rfl) ?hy1) hS0 ?_
  rotate_left
  case hy1 =>
    intro w' hSw
    go_simp
    try with_reducible rfl
  simp only [Act.put]
  refine wpAnyK_take (i := 2) (oi := _) (v := ?_) rfl (by kernel_rfl) (by kernel_rfl) (by kernel_rfl) (fun _ _ _ h => h) (fun _ _ => Below.later) (yields_read (by rfl) ?hy2) hS0 ?_
  rotate_left
  case hy2 =>
    intro w' hSw
    go_simp
    try with_reducible rfl
  simp only [Act.put]
  refine wpAnyK_take (i := 3) (oi := _) (v := _) rfl (by kernel_rfl) (by kernel_rfl) (by kernel_rfl) (fun _ _ _ h => h) (fun _ _ => Below.later) (yields_call (by rfl) ?hy3 fun w _ => CS.out w) hS0 ?_
  case hy3 =>
    intro w' hSw
    go_simp
    try with_reducible rfl
  simp only [Act.put]
  refine wpAnyK_take (i := 4) (oi := _) (v := _) rfl (by kernel_rfl) (by kernel_rfl) (by kernel_rfl) (fun _ _ _ h => h) (fun _ _ => Below.later) (yields_call (by rfl) ?hy4 fun w _ => CJ.out w) hS0 ?_
  case hy4 =>
    intro w' hSw
    go_simp
    try with_reducible rfl
  simp only [Act.put]
  refine wpAnyK_take (i := 5) (oi := _) (v := ?_) rfl (by kernel_rfl) (by kernel_rfl) (by kernel_rfl) (fun _ _ _ h => h) (fun _ _ => Below.later) (yields_read (by rfl) ?hy5) hS0 ?_
  rotate_left
  case hy5 =>
    intro w' hSw
    go_simp
    try with_reducible rfl
  simp only [Act.put]
  refine wpAnyK_take (i := 6) (oi := _) (v := ?_) rfl (by kernel_rfl) (by kernel_rfl) (by kernel_rfl) (fun _ _ _ h => h) (fun _ _ => Below.later) (yields_read (by rfl) ?hy6) hS0 ?_
  rotate_left
  case hy6 =>
    intro w' hSw
    go_simp
    try with_reducible rfl
  simp only [Act.put]
  refine wpAnyK_take (i := 7) (oi := _) (v := ?_) rfl (by kernel_rfl) (by kernel_rfl) (by kernel_rfl) (fun _ _ _ h => h) (fun _ _ => Below.later) (yields_read (by rfl) ?hy7) hS0 ?_
  rotate_left
  case hy7 =>
    intro w' hSw
    go_simp
    try with_reducible rfl
  simp only [Act.put]
  refine wpAnyK_take (i := 8) (oi := _) (v := _) rfl (by kernel_rfl) (by kernel_rfl) (by kernel_rfl) (fun _ _ _ h => h) (fun _ _ => Below.later) (yields_call (by rfl) ?hy8 fun w _ => CT.out w) hS0 ?_
  case hy8 =>
    intro w' hSw
    go_simp
    try with_reducible rfl
  simp only [Act.put]
  refine wpAnyK_take (i := 9) (oi := _) (v := _) rfl (by kernel_rfl) (by kernel_rfl) (by kernel_rfl) (fun _ _ _ h => h) (fun _ _ => Below.later) (yields_call (by rfl) ?hy9 fun w _ => CK.out w) hS0 ?_
  case hy9 =>
    intro w' hSw
    go_simp
    try with_reducible rfl
  simp only [Act.put]
  clear a0 a1 a2 a3 a4 b0 b1 b2 b3 b4
  refine wpAnyK_new2 (i := 10) (j := 11) (k := 12) (l := 13) (d := 5) (d' := 6) (cs := wideC false X) (cs' := wideC false Y) (by decide) (by decide) (by kernel_rfl) rfl rfl (by rfl) (by rfl) rfl rfl rfl rfl (zero_of_info Tryd.infoWide).1 (zero_of_info Tryd.infoWide).1 (Nat.le_refl _) hS0 (by kernel_rfl) (by kernel_rfl) (by kernel_rfl) rfl rfl (by kernel_rfl) rfl rfl (zero_of_info Tryd.infoWide).2 rfl (wideC_one _ _) (zero_of_info Tryd.infoWide).2 rfl (wideC_one _ _) (fun _ => by rfl) (fun _ => by rfl) (fun _ _ => by rfl) (fun _ _ => by rfl) ?h1 ?h2 ?h3 ?h4 ?_
  case h1 => intro g h; go_simp
  case h2 => intro g h; go_simp
  case h3 => intro g h; go_simp
  case h4 => intro g h; go_simp
  intro g h w1 hg hh hne hS1 hb1 HG HH
  refine wpAnyK_done (by kernel_rfl) ?_ _
  intro w2 hb2
  have G2 := Lib.hid (HG.below hb2 HG.lt); have L2 := Lib.hid (HH.below hb2 HH.lt)
  have Hb2 := Lib.hid (Hb0.out.trans ((Below.later hS1 hb2).mono Hb0.out.size))
  clear hb2 HG HH hS1 hb1 hS0 H0 H1 Hb0 hne hg hh CS CT CJ CK
  simp only [Act.put]
  have c0 := G2.out.cell 0; have c1 := G2.out.cell 1; have c2 := G2.out.cell 2; have c3 := G2.out.cell 3; have c4 := G2.out.cell 4
  have d0 := L2.out.cell 0; have d1 := L2.out.cell 1; have d2 := L2.out.cell 2; have d3 := L2.out.cell 3; have d4 := L2.out.cell 4
  simp at c0 c1 c2 c3 c4 d0 d1 d2 d3 d4
  go_wp2_with fail
  have lc := @later_cell w2
  have lg := G2.out.lt
  have lh := L2.out.lt
  refine wp_region_later (by kernel_rfl) (by kernel_rfl) ?_
  repeat (go_big_quiet_step (first | (go_at_call 66; exact later_call (refSplit_at false _ _)) | (go_at_call 68; exact later_call (CC.out _))))
  refine wpQuiet_nil ?_
  intro _ hw'
  obtain ⟨u, rfl⟩ := hw'
  have Hb3 := Lib.hid (Hb2.out.trans (u.property.mono Hb2.out.size))
  generalize u.val = w3 at *
  go_wp2_with fail
  go_ret
  exact ⟨rfl, Hb3.out⟩
end Go.Proofs.YtfgeocpooimojaaDoor
