/-
  What Agrees of the reference of weights returns. Conditions: as each theorem states them.
-/
import Derived.Test.YtfgeocpooimojaaDoorWf
import Derived.Test.YtfgeocpooimojaaDoorWagr
namespace Go.Proofs.YtfgeocpooimojaaDoor
open Go Go.RowKit

theorem sq_small (d : Nat) (h : d ≤ 1099511627776) : d < 4294967296 ^ 8 ∧ d * d < 4294967296 ^ 8 := by
  have : d * d ≤ 1099511627776 * 1099511627776 := Nat.mul_le_mul h h
  have e : (4294967296 : Nat) ^ 8 = 115792089237316195423570985008687907853269984665640564039457584007913129639936 := by decide
  omega
theorem lim_small (v : Nat) (h : v ≤ 2305843009213693952) : v < 4294967296 ^ 8 ∧ 9000000 * v < 4294967296 ^ 8 ∧ 9000000 < 4294967296 ^ 8 := by
  have e : (4294967296 : Nat) ^ 8 = 115792089237316195423570985008687907853269984665640564039457584007913129639936 := by decide
  omega
theorem cmp_agr (x y : Nat) (p q : Int) (hx : (x : Int) = p) (hy : (y : Int) = q) : decide (cmpN x y ≤ 0) = decide (p ≤ q) := by
  have : cmpN x y ≤ 0 ↔ x ≤ y := by unfold cmpN; split <;> (try split) <;> omega
  rw [decide_eq_decide, this]; omega
theorem two_box (w : World) (t t' : TypeId) (c d : Array Value) (o o' : Obj) : Blk ((((w.alloc (.cells c t)).alloc (.cells d t')).alloc o).alloc o') w.heap.size t c ∧ Blk ((((w.alloc (.cells c t)).alloc (.cells d t')).alloc o).alloc o') (w.heap.size + 1) t' d ∧ Below w.heap.size w ((((w.alloc (.cells c t)).alloc (.cells d t')).alloc o).alloc o') := by
  refine ⟨(((Blk.new w t c).alloc _).alloc _).alloc _, ?_, by go_grown⟩
  have := ((Blk.new (w.alloc (.cells c t)) t' d).alloc o).alloc o'
  simpa using this
set_option maxHeartbeats 4000000 in
theorem refAgrees_below (a b : Wt) (w : World) : Calls Tryd.prog 26 #[.agg #[.int .i64 a.m, .int .i64 a.x, .int .i64 a.y, .int .i64 a.z, .int .i64 a.v], .agg #[.int .i64 b.m, .int .i64 b.x, .int .i64 b.y, .int .i64 b.z, .int .i64 b.v]] w fun e w' =>
    e = .returned (.bool (agrB a b)) ∧ Below w.heap.size w w' := by
  cases h : a.okB
  · have he := chk_no h
    have E : Hid (agrB a b = false) := by unfold Hid agrB; rw [h]; rfl
    clear h
    go_enter Tryd.func26, Tryd.ntmps26
    go_wp2_with (go_at_call 14; refine (refCheck_at _ _ _ _ _ _).mono ?_; rintro e w' ⟨rfl, rfl⟩)
    go_ret
    exact ⟨ret_bool E.out.symm, by go_grown⟩
  have he := chk_yes h
  cases h2 : b.okB
  · have he2 := chk_no h2
    have E : Hid (agrB a b = false) := by unfold Hid agrB; rw [h, h2]; rfl
    clear h
    go_enter Tryd.func26, Tryd.ntmps26
    go_wp2_with (go_at_call 14; refine (refCheck_at _ _ _ _ _ _).mono ?_; rintro e w' ⟨rfl, rfl⟩)
    go_ret
    exact ⟨ret_bool E.out.symm, by go_grown⟩
  have he2 := chk_yes h2
  have h' := (okW_iff _ _ _ _ _).1 h
  have h2' := (okW_iff _ _ _ _ _).1 h2
  obtain ⟨m1, m2⟩ := h'.1; obtain ⟨m3, m4⟩ := h2'.1
  obtain ⟨v1, v2⟩ := h'.2.1; obtain ⟨v3, v4⟩ := h2'.2.1
  obtain ⟨D, hD⟩ : ∃ D, D = (a.m - b.m).natAbs := ⟨_, rfl⟩
  obtain ⟨V, hV⟩ : ∃ V, V = (a.v + b.v).natAbs := ⟨_, rfl⟩
  have hDD : ((D * D : Nat) : Int) = sqd a b := by unfold sqd; rw [hD]; exact Int.natAbs_mul_self
  have hVV : ((9000000 * V : Nat) : Int) = 9000000 * (a.v + b.v) := by rw [hV]; omega
  have E : Hid (agrB a b = decide (cmpN (D * D) (9000000 * V) ≤ 0)) := by
    unfold Hid agrB; rw [h, h2, cmp_agr _ _ _ _ hDD hVV]; rfl
  obtain ⟨s1, s2⟩ := sq_small D (by omega)
  obtain ⟨s3, s4, s5⟩ := lim_small V (by omega)
  have C1 : Hid (∀ W, Calls Tryd.prog 42 #[.int .i64 (a.m - b.m)] W fun e w' => e = .returned (.agg (wideC (decide (a.m - b.m < 0)) D)) ∧ Below W.heap.size W w') := fun W => by
    rw [hD]; exact refOf_at (a.m - b.m) (by omega) (by omega) W
  have C2 : Hid (∀ n W, Calls Tryd.prog 43 #[.agg (wideC n D), .agg (wideC n D)] W fun e w' => e = .returned (.tuple #[.agg (wideC false (D * D)), .int .i64 0]) ∧ Below W.heap.size W w') := fun n W => refMul_at n D D s1 s1 s2 W
  have C3 : Hid (∀ W, Calls Tryd.prog 42 #[.int .i64 9000000] W fun e w' => e = .returned (.agg (wideC false 9000000)) ∧ Below W.heap.size W w') := fun W => refOf_at 9000000 (by omega) (by omega) W
  have C4 : Hid (∀ W, Calls Tryd.prog 42 #[.int .i64 (a.v + b.v)] W fun e w' => e = .returned (.agg (wideC false V)) ∧ Below W.heap.size W w') := fun W => by
    have := refOf_at (a.v + b.v) (by omega) (by omega) W
    rw [hV]
    rw [show decide (a.v + b.v < 0) = false by simp; omega] at this
    exact this
  have C5 : Hid (∀ W, Calls Tryd.prog 43 #[.agg (wideC false 9000000), .agg (wideC false V)] W fun e w' => e = .returned (.tuple #[.agg (wideC false (9000000 * V)), .int .i64 0]) ∧ Below W.heap.size W w') := fun W => refMul_at false 9000000 V s5 s3 s4 W
  have C6 : Hid (∀ W, Calls Tryd.prog 44 #[.agg (wideC false (D * D)), .agg (wideC false (9000000 * V))] W fun e w' => e = .returned (.int .i64 (cmpN (D * D) (9000000 * V))) ∧ Below W.heap.size W w') := fun W => refCmp_at (D * D) (9000000 * V) s2 s4 W
  clear h h2 h' h2' hD hV hDD hVV s1 s2 s3 s4 s5
  generalize decide (a.m - b.m < 0) = N at *
  generalize cmpN (D * D) (9000000 * V) = R at *
  go_enter Tryd.func26, Tryd.ntmps26
  go_wp2_with (go_at_call 14; refine (refCheck_at _ _ _ _ _ _).mono ?_; rintro e w' ⟨rfl, rfl⟩)
  have K := Lib.hid (two_box w 23 23 #[.int .i64 a.m, .int .i64 a.x, .int .i64 a.y, .int .i64 a.z, .int .i64 a.v] #[.int .i64 b.m, .int .i64 b.x, .int .i64 b.y, .int .i64 b.z, .int .i64 b.v] (.cells #[.int .i64 a.m, .int .i64 a.x, .int .i64 a.y, .int .i64 a.z, .int .i64 a.v] 23) (.cells #[.int .i64 b.m, .int .i64 b.x, .int .i64 b.y, .int .i64 b.z, .int .i64 b.v] 23))
  refine (C1.out _).mono ?_
  rintro e w1 ⟨rfl, hb1⟩
  have KA := Lib.hid (K.out.1.below hb1 K.out.1.lt)
  have KB := Lib.hid (K.out.2.1.below hb1 K.out.2.1.lt)
  have Hb1 := Lib.hid (K.out.2.2.trans (hb1.mono K.out.2.2.size))
  clear hb1 K C1
  go_wp2_with fail
  refine (C2.out N _).mono ?_
  rintro e w2 ⟨rfl, hb2⟩
  have KA2 := Lib.hid ((KA.out.alloc _).below hb2 (KA.out.alloc _).lt)
  have KB2 := Lib.hid ((KB.out.alloc _).below hb2 (KB.out.alloc _).lt)
  have Hb2 : Hid (Below w.heap.size w w2) := Lib.hid ((Hb1.out.alloc Hb1.out.size _).trans (hb2.mono (by have := Hb1.out.size; simp; omega)))
  clear hb2 KA KB Hb1 C2
  go_wp2_with fail
  have KA3 := Lib.hid (KA2.out.alloc (.cells (wideC false (D * D)) 35))
  have KB3 := Lib.hid (KB2.out.alloc (.cells (wideC false (D * D)) 35))
  have KD3 := Lib.hid (Blk.new w2 35 (wideC false (D * D)))
  have Hb3 := Lib.hid (Hb2.out.alloc Hb2.out.size (.cells (wideC false (D * D)) 35))
  clear KA2 KB2 Hb2
  generalize w2.alloc (.cells (wideC false (D * D)) 35) = W at *
  have a4 := keepc (KA3.out.cell 4)
  have b4 := keepc (KB3.out.cell 4)
  have q1 : IntKind.i64.wrap (a.v + b.v) = a.v + b.v := IntWalk.i64_in _ ⟨by omega, by omega⟩
  refine wp_region_Kn (n := 14) (S := fun w' => Below (W.heap.size) W w') rfl (by kernel_rfl) ?_
  have hS0 : Below (W.heap.size) W { W with drawn := W.drawn + 1 } := (Below.refl _ _).drew
  refine wpAnyK_take (i := 0) (oi := _) (v := _) rfl (by kernel_rfl) (by kernel_rfl) (by kernel_rfl) (fun _ _ _ h => h) (fun _ _ => Below.later) (yields_call (by rfl) ?hy0 fun w _ => C3.out w) hS0 ?_
  case hy0 =>
    intro w' hSw
    go_simp
    try with_reducible rfl
  simp only [Act.put]
  refine wpAnyK_take (i := 1) (oi := _) (v := ?_) rfl (by kernel_rfl) (by kernel_rfl) (by kernel_rfl) (fun _ _ _ h => h) (fun _ _ => Below.later) (yields_read (by rfl) ?hy1) hS0 ?_
  rotate_left
  case hy1 =>
    intro w' hSw
    go_simp
    try with_reducible rfl
  simp only [Act.put]
  refine wpAnyK_take (i := 2) (oi := _) (v := ?_) rfl (by kernel_rfl) (by kernel_rfl) (by kernel_rfl) (fun _ _ _ h => h) (fun _ _ => Below.later) (yields_read (by rfl) ?hy2) hS0 ?_
  rotate_left
  case hy2 =>
    intro w' hSw
    go_simp
    try with_reducible rfl
  simp only [Act.put]
  refine wpAnyK_take (i := 3) (oi := _) (v := ?_) rfl (by kernel_rfl) (by kernel_rfl) (by kernel_rfl) (fun _ _ _ h => h) (fun _ _ => Below.later) (yields_read (by rfl) ?hy3) hS0 ?_
  rotate_left
  case hy3 =>
    intro w' hSw
    go_simp
    try with_reducible rfl
  simp only [Act.put]
  refine wpAnyK_take (i := 4) (oi := _) (v := ?_) rfl (by kernel_rfl) (by kernel_rfl) (by kernel_rfl) (fun _ _ _ h => h) (fun _ _ => Below.later) (yields_read (by rfl) ?hy4) hS0 ?_
  rotate_left
  case hy4 =>
    intro w' hSw
    go_simp
    try with_reducible rfl
  simp only [Act.put]
  refine wpAnyK_take (i := 5) (oi := _) (v := ?_) rfl (by kernel_rfl) (by kernel_rfl) (by kernel_rfl) (fun _ _ _ h => h) (fun _ _ => Below.later) (yields_read (by rfl) ?hy5) hS0 ?_
  rotate_left
  case hy5 =>
    intro w' hSw
    go_simp
    try with_reducible rfl
  simp only [Act.put]
  refine wpAnyK_take (i := 6) (oi := _) (v := _) rfl (by kernel_rfl) (by kernel_rfl) (by kernel_rfl) (fun _ _ _ h => h) (fun _ _ => Below.later) (yields_call (by rfl) ?hy6 fun w _ => C4.out w) hS0 ?_
  case hy6 =>
    intro w' hSw
    go_simp
    try with_reducible rfl
  simp only [Act.put]
  refine wpAnyK_take (i := 7) (oi := _) (v := _) rfl (by kernel_rfl) (by kernel_rfl) (by kernel_rfl) (fun _ _ _ h => h) (fun _ _ => Below.later) (yields_call (by rfl) ?hy7 fun w _ => C5.out w) hS0 ?_
  case hy7 =>
    intro w' hSw
    go_simp
    try with_reducible rfl
  simp only [Act.put]
  refine wpAnyK_take (i := 8) (oi := _) (v := ?_) rfl (by kernel_rfl) (by kernel_rfl) (by kernel_rfl) (fun _ _ _ h => h) (fun _ _ => Below.later) (yields_read (by rfl) ?hy8) hS0 ?_
  rotate_left
  case hy8 =>
    intro w' hSw
    go_simp
    try with_reducible rfl
  simp only [Act.put]
  refine wpAnyK_take (i := 9) (oi := _) (v := ?_) rfl (by kernel_rfl) (by kernel_rfl) (by kernel_rfl) (fun _ _ _ h => h) (fun _ _ => Below.later) (yields_read (by rfl) ?hy9) hS0 ?_
  rotate_left
  case hy9 =>
    intro w' hSw
    go_simp
    try with_reducible rfl
  simp only [Act.put]
  refine wpAnyK_take (i := 10) (oi := _) (v := ?_) rfl (by kernel_rfl) (by kernel_rfl) (by kernel_rfl) (fun _ _ _ h => h) (fun _ _ => Below.later) (yields_read (by rfl) ?hy10) hS0 ?_
  rotate_left
  case hy10 =>
    intro w' hSw
    go_simp
    try with_reducible rfl
  simp only [Act.put]
  clear a4 b4 q1 C3 C4 C5
  refine wpAnyK_new (i := 11) (j := 12) (d := 8) (cs := wideC false (9000000 * V)) (by kernel_rfl) rfl (by rfl) rfl rfl (zero_of_info Tryd.infoWide).1 (Nat.le_refl _) hS0 (by kernel_rfl) rfl rfl (zero_of_info Tryd.infoWide).2 rfl (wideC_one _ _) (fun _ => by rfl) ?hd ?hy ?_
  case hd => intro g; go_simp
  case hy => intro g; go_simp
  intro g w3 hg hS1 hb3 HG
  refine wpAnyK_next (i := 13) (v := ?_) (by kernel_rfl) rfl (by rfl) (fun _ _ => Below.later) hS1 ?hn ?_
  rotate_left
  case hn =>
    intro w' hSw
    go_simp
    try with_reducible rfl
  refine wpAnyK_done (by kernel_rfl) ?_ _
  intro w4 hb4
  have hS4 := Below.later hS1 hb4
  have HG4 := Lib.hid (HG.below hb4 HG.lt)
  have KD4 := Lib.hid (KD3.out.below hS4 KD3.out.lt)
  have Hb4 := Lib.hid (Hb3.out.trans (hS4.mono Hb3.out.size))
  clear hb4 hS4 HG hS1 hb3 hS0 hg KA3 KB3 KD3 Hb3
  have c0 := HG4.out.cell 0; have c1 := HG4.out.cell 1; have c2 := HG4.out.cell 2; have c3 := HG4.out.cell 3; have c4 := HG4.out.cell 4
  have d0 := KD4.out.cell 0; have d1 := KD4.out.cell 1; have d2 := KD4.out.cell 2; have d3 := KD4.out.cell 3; have d4 := KD4.out.cell 4
  simp at c0 c1 c2 c3 c4 d0 d1 d2 d3 d4
  simp only [Act.put]
  go_wp2_with fail
  refine (C6.out _).mono ?_
  rintro e w5 ⟨rfl, hb5⟩
  have Hb5 := Lib.hid (Hb4.out.trans (hb5.mono Hb4.out.size))
  clear hb5
  go_wp2_with fail
  go_ret
  exact ⟨ret_bool E.out.symm, Hb5.out⟩
end Go.Proofs.YtfgeocpooimojaaDoor
