/-
  Functions of the reference of wide integers: Of, Mul and Cmp of numbers that are not negative. Conditions: as each theorem states them.
-/
import Derived.Test.YtfgeocpooimojaaDoorWd
import Derived.Test.YtfgeocpooimojaaDoorKrow
namespace Go.Proofs.YtfgeocpooimojaaDoor
open Go Go.RowKit

theorem wideC_small (n : Bool) (M : Nat) (h : M < 18446744073709551616) : wideC n M = #[.bool n, .int .u64 (M : Nat), .int .u64 0, .int .u64 0, .int .u64 0] := by
  have h0 : wd M 0 = M := by unfold wd; rw [Nat.pow_zero, Nat.div_one, Nat.mod_eq_of_lt h]
  have hz : ∀ i, 0 < i → wd M i = 0 := fun i hi => by
    unfold wd
    rw [Nat.div_eq_of_lt (Nat.lt_of_lt_of_le h (by have := Nat.pow_le_pow_right (n := 18446744073709551616) (by decide) hi; simpa using this))]
  unfold wideC
  rw [h0, hz 1 (by decide), hz 2 (by decide), hz 3 (by decide)]
  simp
theorem Tryd.infoD8 : (Tryd.prog.info? 92).map (fun i => (i.zero, i.size)) = some (some (.agg (digs 8 (fun _ => 0))), 8) := by kernel_rfl
theorem digs_one (n : Nat) (f : Nat → Nat) : (digs n f).all (·.oneCell') = true := by
  rw [Array.all_eq_true_iff_forall_mem]
  intro v hv
  simp [digs] at hv
  obtain ⟨j, _, rfl⟩ := hv
  rfl
abbrev wideZ : Array Value := #[.bool false, .int .u64 0, .int .u64 0, .int .u64 0, .int .u64 0]
theorem refOf_at (n : Int) (h1 : -9223372036854775808 ≤ n) (h2 : n ≤ 9223372036854775807) (w : World) : Calls Tryd.prog 42 #[.int .i64 n] w fun e w' => e = .returned (.agg (wideC (decide (n < 0)) n.natAbs)) ∧ Below w.heap.size w w' := by
  have E := Lib.hid (wideC_small (decide (n < 0)) n.natAbs (by omega))
  have HB := Lib.hid (Blk.new w 35 wideZ)
  by_cases hn : n < 0
  · have q1 : IntKind.u64.wrap (-(n + 1)) = -(n + 1) := by rw [IntKind.wrap_u64]; omega
    have q2 : IntKind.u64.wrap (-(n + 1) + 1) = (n.natAbs : Int) := by rw [IntKind.wrap_u64]; omega
    have hd : decide (n < 0) = true := by simpa using hn
    rw [hd] at E ⊢
    go_enter Tryd.func42, Tryd.ntmps42
    go_wp2_with fail
    refine bodyPost_ret (results_cell_one rfl _ _ w.heap.size 35 (wideC true n.natAbs) _ rfl (E.out ▸ Blk.new w _ _) Tryd.underlying35 rfl (by kernel_rfl)) rfl ⟨rfl, ?_⟩
    go_grown
  · have hd : decide (n < 0) = false := by simpa using hn
    have q1 : IntKind.u64.wrap n = (n.natAbs : Int) := by rw [IntKind.wrap_u64]; omega
    rw [hd] at E ⊢
    go_enter Tryd.func42, Tryd.ntmps42
    go_wp2_with fail
    refine bodyPost_ret (results_cell_one rfl _ _ w.heap.size 35 (wideC false n.natAbs) _ rfl (E.out ▸ Blk.new w _ _) Tryd.underlying35 rfl (by kernel_rfl)) rfl ⟨rfl, ?_⟩
    go_grown
set_option maxHeartbeats 1000000 in
theorem refMul_at (n : Bool) (X Y : Nat) (hX : X < 4294967296 ^ 8) (hY : Y < 4294967296 ^ 8) (hP : X * Y < 4294967296 ^ 8) (w : World) :
    Calls Tryd.prog 43 #[.agg (wideC n X), .agg (wideC n Y)] w fun e w' => e = .returned (.tuple #[.agg (wideC false (X * Y)), .int .i64 0]) ∧ Below w.heap.size w w' := by
  have HB := Lib.hid (blk_start3 w 35 35 35 (wideC n X) (wideC n Y) wideZ)
  have CS := Lib.hid (refSplit_at n X)
  have CT := Lib.hid (refSplit_at n Y)
  have CU := Lib.hid (refTimes_at X Y hX hY hP)
  clear hX hY hP
  go_enter Tryd.func43, Tryd.ntmps43
  go_wp2_with fail
  have K0 := HB.out.1; have K1 := HB.out.2.1; have K2 := HB.out.2.2
  have Hb : Below w.heap.size w (((w.alloc (.cells (wideC n X) 35)).alloc (.cells (wideC n Y) 35)).alloc (.cells wideZ 35)) := by go_grown
  clear HB
  generalize ((w.alloc (.cells (wideC n X) 35)).alloc (.cells (wideC n Y) 35)).alloc (.cells wideZ 35) = W at *
  have H0 := Lib.hid K0; have H1 := Lib.hid K1; have H2 := Lib.hid K2; have Hb0 := Lib.hid Hb
  have a0 := keepc (H0.out.cell 0); have a1 := keepc (H0.out.cell 1); have a2 := keepc (H0.out.cell 2); have a3 := keepc (H0.out.cell 3); have a4 := keepc (H0.out.cell 4)
  have b0 := keepc (H1.out.cell 0); have b1 := keepc (H1.out.cell 1); have b2 := keepc (H1.out.cell 2); have b3 := keepc (H1.out.cell 3); have b4 := keepc (H1.out.cell 4)
  clear K0 K1 K2 Hb
  refine wp_region_Kn (n := 11) (S := fun w' => Below (W.heap.size) W w') rfl (by kernel_rfl) ?_
  have hS0 : Below (W.heap.size) W { W with drawn := W.drawn + 1 } := (Below.refl _ _).drew
  refine wpAnyK_take (i := 0) (oi := _) (v := ?_) rfl (by kernel_rfl) (by kernel_rfl) (by kernel_rfl) (fun _ _ _ h => h) (fun _ _ => Below.later) (yields_read (by rfl) ?hy0) hS0 ?_
  rotate_left
  case hy0 =>
    intro w' hSw
    go_simp
    try with_reducible rfl
  simp only [Act.put]
  refine wpAnyK_take (i := 1) (oi := _) (v := _) rfl (by kernel_rfl) (by kernel_rfl) (by kernel_rfl) (fun _ _ _ h => h) (fun _ _ => Below.later) (yields_call (by rfl) ?hy1 fun w _ => CS.out w) hS0 ?_
  case hy1 =>
    intro w' hSw
    go_simp
    try with_reducible rfl
  simp only [Act.put]
  refine wpAnyK_take (i := 2) (oi := _) (v := ?_) rfl (by kernel_rfl) (by kernel_rfl) (by kernel_rfl) (fun _ _ _ h => h) (fun _ _ => Below.later) (yields_read (by rfl) ?hy2) hS0 ?_
  rotate_left
  case hy2 =>
    intro w' hSw
    go_simp
    try with_reducible rfl
  simp only [Act.put]
  refine wpAnyK_take (i := 3) (oi := _) (v := _) rfl (by kernel_rfl) (by kernel_rfl) (by kernel_rfl) (fun _ _ _ h => h) (fun _ _ => Below.later) (yields_call (by rfl) ?hy3 fun w _ => CT.out w) hS0 ?_
  case hy3 =>
    intro w' hSw
    go_simp
    try with_reducible rfl
  simp only [Act.put]
  refine wpAnyK_take (i := 4) (oi := _) (v := _) rfl (by kernel_rfl) (by kernel_rfl) (by kernel_rfl) (fun _ _ _ h => h) (fun _ _ => Below.later) (yields_call (by rfl) ?hy4 fun w _ => CU.out w) hS0 ?_
  case hy4 =>
    intro w' hSw
    go_simp
    try with_reducible rfl
  simp only [Act.put]
  refine wpAnyK_take (i := 5) (oi := _) (v := ?_) rfl (by kernel_rfl) (by kernel_rfl) (by kernel_rfl) (fun _ _ _ h => h) (fun _ _ => Below.later) (yields_read (by rfl) ?hy5) hS0 ?_
  rotate_left
  case hy5 =>
    intro w' hSw
    go_simp
    try with_reducible rfl
  simp only [Act.put]
  refine wpAnyK_take (i := 6) (oi := _) (v := ?_) rfl (by kernel_rfl) (by kernel_rfl) (by kernel_rfl) (fun _ _ _ h => h) (fun _ _ => Below.later) (yields_read (by rfl) ?hy6) hS0 ?_
  rotate_left
  case hy6 =>
    intro w' hSw
    go_simp
    try with_reducible rfl
  simp only [Act.put]
  refine wpAnyK_take (i := 7) (oi := _) (v := ?_) rfl (by kernel_rfl) (by kernel_rfl) (by kernel_rfl) (fun _ _ _ h => h) (fun _ _ => Below.later) (yields_read (by rfl) ?hy7) hS0 ?_
  rotate_left
  case hy7 =>
    intro w' hSw
    go_simp
    try with_reducible rfl
  simp only [Act.put]
  clear a0 a1 a2 a3 a4 b0 b1 b2 b3 b4 CS CT CU
  refine wpAnyK_new (i := 8) (j := 9) (d := 6) (cs := digs 8 (dig (X * Y))) (by kernel_rfl) rfl (by rfl) rfl rfl (zero_of_info Tryd.infoD8).1 (Nat.le_refl _) hS0 (by kernel_rfl) rfl rfl (by rw [digs_size]; exact (zero_of_info Tryd.infoD8).2) (by rw [digs_size, digs_size]) (digs_one _ _) (fun _ => by rfl) ?hd ?hy ?_
  case hd => intro g; go_simp
  case hy => intro g; go_simp
  intro g w1 hg hS1 hb1 HG
  refine wpAnyK_next (i := 10) (v := ?_) (by kernel_rfl) rfl (by rfl) (fun _ _ => Below.later) hS1 ?hn ?_
  rotate_left
  case hn =>
    intro w' hSw
    go_simp
    try with_reducible rfl
  refine wpAnyK_done (by kernel_rfl) ?_ _
  intro w2 hb2
  have hS2 := Below.later hS1 hb2
  have HG2 := Lib.hid (HG.below hb2 HG.lt)
  have J0 := Lib.hid (H0.out.below hS2 H0.out.lt); have J1 := Lib.hid (H1.out.below hS2 H1.out.lt); have J2 := Lib.hid (H2.out.below hS2 H2.out.lt)
  have Hb2 := Lib.hid (Hb0.out.trans (hS2.mono Hb0.out.size))
  clear hb2 hS2 HG H0 H1 H2 Hb0 hS1 hb1 hS0
  have c0 := J0.out.cell 0; have c1 := J1.out.cell 0
  simp at c0 c1
  simp only [Act.put]
  go_wp2_with (first | (refine wpList_load_row rfl 92 (.tmp 6) rfl g rfl 92 (digs 8 (dig (X * Y))) (0, 0) _ HG2.out Tryd.underlying92 rfl (by rw [digs_size]; exact (zero_of_info Tryd.infoD8).2) ?_) | (go_at_call 67; refine (refJoin_at (X * Y) _).mono ?_; rintro e w3 ⟨rfl, hb3⟩; have L2 := Lib.hid (J2.out.below hb3 J2.out.lt); have Hb3 := Lib.hid (Hb2.out.trans (hb3.mono Hb2.out.size)); have z0 := L2.out.cell 0; have z1 := L2.out.cell 1; have z2 := L2.out.cell 2; have z3 := L2.out.cell 3; have z4 := L2.out.cell 4; simp at z0 z1 z2 z3 z4; have f0 := L2.out.frozen 0; have f1 := L2.out.frozen 1; have f2 := L2.out.frozen 2; have f3 := L2.out.frozen 3; have f4 := L2.out.frozen 4; clear hb3))
  refine bodyPost_ret (results_cell_tmp rfl _ _ (w.heap.size + 1 + 1) 35 (wideC false (X * Y)) _ rfl (by with_reducible exact blk_set5' L2.out _ _ _ _ _) Tryd.underlying35 rfl (by kernel_rfl)) rfl ⟨rfl, ?_⟩
  have := Hb3.out
  go_grown
end Go.Proofs.YtfgeocpooimojaaDoor
