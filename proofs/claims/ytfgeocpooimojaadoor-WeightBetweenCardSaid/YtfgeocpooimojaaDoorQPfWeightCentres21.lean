/-
  divide of package wide, of a number of one word by one below 2^63. Conditions: as each theorem states them.
-/
import Derived.RegionTactic
import Derived.ChangeAlike
import Derived.BigRegion
import Derived.Test.YtfgeocpooimojaaDoorQPfWeightCentres11
import Derived.Test.YtfgeocpooimojaaDoorQPfWeightCentres17
import Derived.Test.YtfgeocpooimojaaDoorQPfWeightCentres07
namespace Go.Proofs.YtfgeocpooimojaaDoor
open Go Go.RowKit

theorem blk_start4 (w : World) (t1 t2 t3 t4 : TypeId) (c1 c2 c3 c4 : Array Value) : Blk ((((w.alloc (.cells c1 t1)).alloc (.cells c2 t2)).alloc (.cells c3 t3)).alloc (.cells c4 t4)) w.heap.size t1 c1 ∧ Blk ((((w.alloc (.cells c1 t1)).alloc (.cells c2 t2)).alloc (.cells c3 t3)).alloc (.cells c4 t4)) (w.heap.size + 1) t2 c2 ∧ Blk ((((w.alloc (.cells c1 t1)).alloc (.cells c2 t2)).alloc (.cells c3 t3)).alloc (.cells c4 t4)) (w.heap.size + 1 + 1) t3 c3 ∧ Blk ((((w.alloc (.cells c1 t1)).alloc (.cells c2 t2)).alloc (.cells c3 t3)).alloc (.cells c4 t4)) (w.heap.size + 1 + 1 + 1) t4 c4 := by
  obtain ⟨h1, h2, h3⟩ := blk_start3 w t1 t2 t3 c1 c2 c3
  refine ⟨h1.alloc _, h2.alloc _, h3.alloc _, ?_⟩
  have := Blk.new (((w.alloc (.cells c1 t1)).alloc (.cells c2 t2)).alloc (.cells c3 t3)) t4 c4
  simpa using this
theorem high_pow {x m : Nat} (hx : x < 18446744073709551616) (h : 64 ≤ m) : x < 2 ^ m := by
  have := Nat.pow_le_pow_right (n := 2) (by decide) h
  have e : (2 : Nat) ^ 64 = 18446744073709551616 := by decide
  rw [e] at this
  omega
theorem blk_far4 {w : World} {g h : Nat} {t : TypeId} {cs : Array Value} (hb : Blk w g t cs) (hne : g ≠ h) (b0 b1 b2 b3 : Value) :
    Blk ((((w.setCell ⟨h, 0, none⟩ b0).setCell ⟨h, 1, none⟩ b1).setCell ⟨h, 2, none⟩ b2).setCell ⟨h, 3, none⟩ b3) g t cs :=
  (((hb.far (p := ⟨h, 0, none⟩) hne b0).far (p := ⟨h, 1, none⟩) hne b1).far (p := ⟨h, 2, none⟩) hne b2).far (p := ⟨h, 3, none⟩) hne b3
theorem two_far {w : World} {g h : Nat} {t : TypeId} {cs : Array Value} (hb : Blk w g t cs) (hne : g ≠ h) (a0 a1 a2 a3 b0 b1 b2 b3 : Value) (o : Obj) :
    Blk (((((((((w.setCell ⟨h, 0, none⟩ a0).setCell ⟨h, 1, none⟩ a1).setCell ⟨h, 2, none⟩ a2).setCell ⟨h, 3, none⟩ a3).setCell ⟨h, 0, none⟩ b0).setCell ⟨h, 1, none⟩ b1).setCell ⟨h, 2, none⟩ b2).setCell ⟨h, 3, none⟩ b3).alloc o) g t cs :=
  (blk_far4 (blk_far4 hb hne a0 a1 a2 a3) hne b0 b1 b2 b3).alloc o
theorem two_set4 {w : World} {h : Nat} {t : TypeId} {c0 c1 c2 c3 : Value} (hb : Blk w h t #[c0, c1, c2, c3]) (a0 a1 a2 a3 b0 b1 b2 b3 : Value) (o : Obj) :
    Blk (((((((((w.setCell ⟨h, 0, none⟩ a0).setCell ⟨h, 1, none⟩ a1).setCell ⟨h, 2, none⟩ a2).setCell ⟨h, 3, none⟩ a3).setCell ⟨h, 0, none⟩ b0).setCell ⟨h, 1, none⟩ b1).setCell ⟨h, 2, none⟩ b2).setCell ⟨h, 3, none⟩ b3).alloc o) h t #[b0, b1, b2, b3] :=
  (blk_set4 (blk_set4 hb a0 a1 a2 a3) b0 b1 b2 b3).alloc o
theorem low_pow {m : Nat} (h : m < 64) : 2 ^ m < 18446744073709551616 := by
  have := Nat.pow_lt_pow_right (a := 2) (by decide) h
  have e : (2 : Nat) ^ 64 = 18446744073709551616 := by decide
  omega
theorem results_two_cells {P : Program} {fn : Func} {p q : Tmp} {ty ty' : TypeId} (h : fn.results = #[.cell p ty, .cell q ty']) (tmps : Array Value) (w : World) (g1 g2 : Nat) (t1 t2 : TypeId) (c1 c2 : Array Value) (d d' : TypeDesc)
    (hp : tmps.getD p undef = .pointer (some ⟨g1, 0, none⟩)) (hq : tmps.getD q undef = .pointer (some ⟨g2, 0, none⟩)) (hg1 : Blk w g1 t1 c1) (hg2 : Blk w g2 t2 c2)
    (hu : P.underlying ty = some d) (hd : (match d with | .struct _ | .array _ _ => true | _ => false) = true) (hi : (P.info? ty).map (·.size) = some c1.size) (hu' : P.underlying ty' = some d') (hd' : (match d' with | .struct _ | .array _ _ => true | _ => false) = true) (hi' : (P.info? ty').map (·.size) = some c2.size) :
    (results fn tmps).run P w = .ok (.tuple #[.agg c1, .agg c2]) w := by
  have hp' : tmps[p]?.getD undef = .pointer (some ⟨g1, 0, none⟩) := by simpa using hp
  have hq' : tmps[q]?.getD undef = .pointer (some ⟨g2, 0, none⟩) := by simpa using hq
  simp [results, h, hp', hq', asAddr, run_loadVar_row w g1 t1 ty c1 (0, 0) d hg1 hu hd hi, run_loadVar_row w g2 t2 ty' c2 (0, 0) d' hg2 hu' hd' hi']
theorem minus_less (r y : Nat) (hr : r < 18446744073709551616) (hy : y < 18446744073709551616) (h : r < y) (W : World) : Calls Tryd.prog 74 #[.agg (magS r), .agg (magS y)] W fun e w' => e = .returned (.tuple #[.agg (magC (r + top256 - y)), .int .u64 1]) ∧ Below W.heap.size W w' := by
  have := wideMinus_at r y (small_top hr) (small_top hy) W
  rw [magC_small r hr, magC_small y hy, show ltN r y = 1 from if_pos h] at this
  exact this
theorem minus_more (r y : Nat) (hr : r < 18446744073709551616) (hy : y < 18446744073709551616) (h : y ≤ r) (W : World) : Calls Tryd.prog 74 #[.agg (magS r), .agg (magS y)] W fun e w' => e = .returned (.tuple #[.agg (magS (r - y)), .int .u64 0]) ∧ Below W.heap.size W w' := by
  have := wideMinus_at r y (small_top hr) (small_top hy) W
  rw [magC_small r hr, magC_small y hy, show ltN r y = 0 from if_neg (by omega), show r + top256 - y = (r - y) + top256 by omega, magC_top, magC_small (r - y) (by omega)] at this
  exact this
set_option maxHeartbeats 4000000 in
set_option maxRecDepth 100000 in
theorem wideDivide_at (x y : Nat) (hx : x < 18446744073709551616) (hy : y < 9223372036854775808) (hy0 : 0 < y) (w : World) :
    Calls Tryd.prog 104 #[.agg (magS x), .agg (magS y)] w fun e w' => e = .returned (.tuple #[.agg (magS (x / y)), .agg (magS (x % y))]) ∧ Below w.heap.size w w' := by
  have HB := Lib.hid (blk_start4 w 33 33 33 33 (magC x) (magS y) (magS 0) (magS 0))
  rw [← magC_small x hx]
  have HX := Lib.hid hx
  have HY := Lib.hid hy
  have HY0 := Lib.hid hy0
  clear hx hy hy0
  go_enter Tryd.func104, Tryd.ntmps104
  go_wp2_with fail
  go_loopw [6] (fun i wr => ∃ k : Nat, k ≤ 256 ∧ i = .int .i64 ((k : Int) - 1) ∧ Hid (Blk wr w.heap.size 33 (magC x)) ∧ Hid (Blk wr (w.heap.size + 1) 33 (magS y)) ∧ Hid (Blk wr (w.heap.size + 1 + 1) 33 (magS (quoN x y k))) ∧ Hid (Blk wr (w.heap.size + 1 + 1 + 1) 33 (magS (restN x y k))) ∧ Hid (Below w.heap.size w wr)) (fun i _ => (intOf i + 1).toNat)
  case atStart =>
    have h := rest_high x y 256 (high_pow HX.out (by decide))
    exact ⟨256, by omega, rfl, HB.out.1, HB.out.2.1, by rw [h.2.2]; exact HB.out.2.2.1, by rw [h.1]; exact HB.out.2.2.2, by unfold Hid; go_grown⟩
  case round =>
    obtain ⟨k, hk, rfl, KA, KB, KQ, KR, Hb⟩ := hrel
    clear HB
    match k, hk, KQ, KR with
    | 0, hk, KQ, KR =>
      have e1 : quoN x y 0 = x / y := by simp [quoN]
      have e2 : restN x y 0 = x % y := by simp [restN]
      rw [e1] at KQ
      rw [e2] at KR
      clear e1 e2
      generalize hqv : x / y = qv at KQ
      generalize hrv : x % y = rv at KR
      have Hqv := Lib.hid hqv
      have Hrv := Lib.hid hrv
      clear hqv hrv
      have c0 := KQ.out.cell 0; have c1 := KQ.out.cell 1; have c2 := KQ.out.cell 2; have c3 := KQ.out.cell 3
      have d0 := KR.out.cell 0; have d1 := KR.out.cell 1; have d2 := KR.out.cell 2; have d3 := KR.out.cell 3
      simp at c0 c1 c2 c3 d0 d1 d2 d3
      have f0 := KQ.out.frozen 0; have f1 := KQ.out.frozen 1; have f2 := KQ.out.frozen 2; have f3 := KQ.out.frozen 3
      have h0 := KR.out.frozen 0; have h1 := KR.out.frozen 1; have h2 := KR.out.frozen 2; have h3 := KR.out.frozen 3
      go_wp2_with fail
      go_region
      go_wp2_with fail
      refine bodyPost_ret (results_two_cells rfl _ _ (w.heap.size + 1 + 1) (w.heap.size + 1 + 1 + 1) 33 33 (magS qv) (magS rv) _ _ rfl rfl (by with_reducible exact (blk_far4 (blk_set4 KQ.out _ _ _ _) (by omega) _ _ _ _).drew) (by with_reducible exact (blk_set4 (blk_far4 KR.out (by omega) _ _ _ _) _ _ _ _).drew) Tryd.underlying33 rfl (by kernel_rfl) Tryd.underlying33 rfl (by kernel_rfl)) rfl ⟨by rw [Hqv.out, Hrv.out], ?_⟩
      have := Hb.out
      go_grown
    | m + 1, hk, KQ, KR =>
      have e : (((m + 1 : Nat) : Int) - 1) = (m : Int) := by omega
      rw [e]
      clear e
      obtain ⟨d, hd⟩ : ∃ d, d = m / 64 := ⟨_, rfl⟩
      obtain ⟨t, ht⟩ : ∃ t, t = m % 64 := ⟨_, rfl⟩
      have hb1 := bitN_le x m
      have hbit : wd x d / 2 ^ t % 2 = bitN x m := by
        rw [word_bit x d t (by omega)]; congr 1; omega
      have v1 : bits .and .u64 ((wd x d : Int) / 2 ^ t) 1 = (bitN x m : Int) := by
        have h := bits_and_u64_nat (wd x d / 2 ^ t) 1 (Nat.lt_of_le_of_lt (Nat.div_le_self _ _) (wd_lt x d)) (by decide)
        rw [Nat.and_one_is_mod, hbit] at h
        simpa using h
      have d0 : (0 : Int) ≤ (d : Int) := by omega
      have d1 : (d : Int) < 4 := by omega
      have m1 : (m : Int) / 64 = (d : Int) := by omega
      have m2 : (m : Int) % 64 = (t : Int) := by omega
      have m3 : (m : Int).tdiv 64 = (d : Int) := by rw [Int.tdiv_eq_ediv_of_nonneg (by omega)]; omega
      have m4 : (m : Int).tmod 64 = (t : Int) := by rw [Int.tmod_eq_emod_of_nonneg (by omega)]; omega
      have t0 : (0 : Int) ≤ (t : Int) := by omega
      have t1 : (t : Int) < 64 := by omega
      have q1 : IntKind.i64.wrap (d : Int) = (d : Int) := IntWalk.i64_in _ ⟨by omega, by omega⟩
      have HR := Lib.hid (rest_lt x y (m + 1) HY0.out)
      obtain ⟨r, hr⟩ : ∃ r, r = 2 * restN x y (m + 1) + bitN x m := ⟨_, rfl⟩
      have HR64 : Hid (r < 18446744073709551616) := by unfold Hid; have h1 := HR.out; have h2 := HY.out; clear m1 m2 m3 m4 v1 q1; omega
      have C1 : Hid (∀ W, Calls Tryd.prog 75 #[.agg (magS (restN x y (m + 1))), .int .u64 (bitN x m : Nat)] W fun e w' => e = .returned (.tuple #[.agg (magS r), .int .u64 0]) ∧ Below W.heap.size W w') := fun W => by
        rw [hr]; exact wideTwice_at _ _ (by have h1 := HR.out; have h2 := HY.out; clear m1 m2 m3 m4 v1 q1; omega) hb1 W
      have HRr := Lib.hid hr
      clear hr
      have r0 := keepc (KR.out.cell 0); have r1 := keepc (KR.out.cell 1); have r2 := keepc (KR.out.cell 2); have r3 := keepc (KR.out.cell 3)
      have ca := keepc ((KA.out.cell d).trans (magC_get x d (by omega)))
      have Hd := Lib.hid hd; have Ht := Lib.hid ht; have Hb1 := Lib.hid hb1
      clear hd ht hbit hb1
      go_wp2_with fail
      refine wp_region_Kn (n := 16) (S := fun w' => Below (wr.heap.size) wr w') rfl (by kernel_rfl) ?_
      have hS0 : Below (wr.heap.size) wr { wr with drawn := wr.drawn + 1 } := (Below.refl _ _).drew
      refine wpAnyK_taked (i := 0) (oi := _) (v := ?_) rfl rfl (by kernel_rfl) (by kernel_rfl) (by kernel_rfl) (fun _ _ _ h => h) (fun _ _ => Below.later) (yields_read (by rfl) ?hy0) hS0 ?_
      rotate_left
      case hy0 =>
        intro w' hSw
        go_simp
        try with_reducible rfl
      simp only [Act.put, List.setIfInBounds_toArray, List.set_cons_zero, List.set_cons_succ]
      refine wpAnyK_taked (i := 1) (oi := _) (v := ?_) rfl rfl (by kernel_rfl) (by kernel_rfl) (by kernel_rfl) (fun _ _ _ h => h) (fun _ _ => Below.later) (yields_read (by rfl) ?hy1) hS0 ?_
      rotate_left
      case hy1 =>
        intro w' hSw
        go_simp
        try with_reducible rfl
      simp only [Act.put, List.setIfInBounds_toArray, List.set_cons_zero, List.set_cons_succ]
      refine wpAnyK_taked (i := 2) (oi := _) (v := ?_) rfl rfl (by kernel_rfl) (by kernel_rfl) (by kernel_rfl) (fun _ _ _ h => h) (fun _ _ => Below.later) (yields_read (by rfl) ?hy2) hS0 ?_
      rotate_left
      case hy2 =>
        intro w' hSw
        go_simp
        try with_reducible rfl
      simp only [Act.put, List.setIfInBounds_toArray, List.set_cons_zero, List.set_cons_succ]
      refine wpAnyK_taked (i := 3) (oi := _) (v := ?_) rfl rfl (by kernel_rfl) (by kernel_rfl) (by kernel_rfl) (fun _ _ _ h => h) (fun _ _ => Below.later) (yields_read (by rfl) ?hy3) hS0 ?_
      rotate_left
      case hy3 =>
        intro w' hSw
        go_simp
        try with_reducible rfl
      simp only [Act.put, List.setIfInBounds_toArray, List.set_cons_zero, List.set_cons_succ]
      refine wpAnyK_taked (i := 4) (oi := _) (v := ?_) rfl rfl (by kernel_rfl) (by kernel_rfl) (by kernel_rfl) (fun _ _ _ h => h) (fun _ _ => Below.later) (yields_read (by rfl) ?hy4) hS0 ?_
      rotate_left
      case hy4 =>
        intro w' hSw
        go_simp
        try with_reducible rfl
      simp only [Act.put, List.setIfInBounds_toArray, List.set_cons_zero, List.set_cons_succ]
      refine wpAnyK_taked (i := 5) (oi := _) (v := ?_) rfl rfl (by kernel_rfl) (by kernel_rfl) (by kernel_rfl) (fun _ _ _ h => h) (fun _ _ => Below.later) (yields_read (by rfl) ?hy5) hS0 ?_
      rotate_left
      case hy5 =>
        intro w' hSw
        go_simp
        try with_reducible rfl
      simp only [Act.put, List.setIfInBounds_toArray, List.set_cons_zero, List.set_cons_succ]
      refine wpAnyK_taked (i := 6) (oi := _) (v := ?_) rfl rfl (by kernel_rfl) (by kernel_rfl) (by kernel_rfl) (fun _ _ _ h => h) (fun _ _ => Below.later) (yields_read (by rfl) ?hy6) hS0 ?_
      rotate_left
      case hy6 =>
        intro w' hSw
        go_simp
        try with_reducible rfl
      simp only [Act.put, List.setIfInBounds_toArray, List.set_cons_zero, List.set_cons_succ]
      refine wpAnyK_taked (i := 7) (oi := _) (v := ?_) rfl rfl (by kernel_rfl) (by kernel_rfl) (by kernel_rfl) (fun _ _ _ h => h) (fun _ _ => Below.later) (yields_read (by rfl) ?hy7) hS0 ?_
      rotate_left
      case hy7 =>
        intro w' hSw
        go_simp
        try with_reducible rfl
      simp only [Act.put, List.setIfInBounds_toArray, List.set_cons_zero, List.set_cons_succ]
      refine wpAnyK_taked (i := 8) (oi := _) (v := ?_) rfl rfl (by kernel_rfl) (by kernel_rfl) (by kernel_rfl) (fun _ _ _ h => h) (fun _ _ => Below.later) (yields_read (by rfl) ?hy8) hS0 ?_
      rotate_left
      case hy8 =>
        intro w' hSw
        go_simp
        try with_reducible rfl
      simp only [Act.put, List.setIfInBounds_toArray, List.set_cons_zero, List.set_cons_succ]
      refine wpAnyK_taked (i := 9) (oi := _) (v := _) rfl rfl (by kernel_rfl) (by kernel_rfl) (by kernel_rfl) (fun _ _ _ h => h) (fun _ _ => Below.later) (yields_call (by rfl) ?hy9 fun w _ => C1.out w) hS0 ?_
      case hy9 =>
        intro w' hSw
        go_simp
        try with_reducible rfl
      simp only [Act.put, List.setIfInBounds_toArray, List.set_cons_zero, List.set_cons_succ]
      refine wpAnyK_taked (i := 10) (oi := _) (v := ?_) rfl rfl (by kernel_rfl) (by kernel_rfl) (by kernel_rfl) (fun _ _ _ h => h) (fun _ _ => Below.later) (yields_read (by rfl) ?hy10) hS0 ?_
      rotate_left
      case hy10 =>
        intro w' hSw
        go_simp
        try with_reducible rfl
      simp only [Act.put, List.setIfInBounds_toArray, List.set_cons_zero, List.set_cons_succ]
      refine wpAnyK_taked (i := 11) (oi := _) (v := ?_) rfl rfl (by kernel_rfl) (by kernel_rfl) (by kernel_rfl) (fun _ _ _ h => h) (fun _ _ => Below.later) (yields_read (by rfl) ?hy11) hS0 ?_
      rotate_left
      case hy11 =>
        intro w' hSw
        go_simp
        try with_reducible rfl
      simp only [Act.put, List.setIfInBounds_toArray, List.set_cons_zero, List.set_cons_succ]
      refine wpAnyK_taked (i := 12) (oi := _) (v := ?_) rfl rfl (by kernel_rfl) (by kernel_rfl) (by kernel_rfl) (fun _ _ _ h => h) (fun _ _ => Below.later) (yields_read (by rfl) ?hy12) hS0 ?_
      rotate_left
      case hy12 =>
        intro w' hSw
        go_simp
        try with_reducible rfl
      simp only [Act.put, List.setIfInBounds_toArray, List.set_cons_zero, List.set_cons_succ]
      clear r0 r1 r2 r3 ca C1 q1 v1 m1 m2 m3 m4 d0 d1 t0 t1
      refine wpAnyK_newd (i := 13) (j := 14) (d := 7) (cs := magS r) (by kernel_rfl) rfl (by rfl) rfl rfl (zero_of_info Tryd.infoMag).1 (Nat.le_refl _) hS0 (by kernel_rfl) rfl rfl rfl (zero_of_info Tryd.infoMag).2 rfl (magS_one _) (fun _ => by rfl) ?hd ?hy ?_
      case hd => intro g; go_simp
      case hy => intro g; go_simp
      intro g w1 hg hS1 hb1 HG
      simp only [Act.put, List.setIfInBounds_toArray, List.set_cons_zero, List.set_cons_succ]
      refine wpAnyK_nextd (i := 15) (v := ?_) (by kernel_rfl) rfl rfl (by rfl) (fun _ _ => Below.later) hS1 ?hn ?_
      rotate_left
      case hn =>
        intro w' hSw
        go_simp
        try with_reducible rfl
      refine wpAnyK_done (by kernel_rfl) ?_ _
      intro w2 hb2
      have hS2 := Below.later hS1 hb2
      have G2 := Lib.hid (HG.below hb2 HG.lt)
      have KA2 := Lib.hid (KA.out.below hS2 KA.out.lt); have KB2 := Lib.hid (KB.out.below hS2 KB.out.lt); have KQ2 := Lib.hid (KQ.out.below hS2 KQ.out.lt); have KR2 := Lib.hid (KR.out.below hS2 KR.out.lt)
      have Hb2 := Lib.hid (Hb.out.trans (hS2.mono Hb.out.size))
      have hgw : w.heap.size + 1 + 1 + 1 < g := Nat.lt_of_lt_of_le KR.out.lt hg
      clear hb2 hS2 hb1 HG hS1 hS0 hg KA KB KQ KR Hb
      simp only [Act.put, List.setIfInBounds_toArray, List.set_cons_zero, List.set_cons_succ]
      by_cases hlt : r < y
      · have C2 := Lib.hid (fun W => minus_less r y HR64.out (by have := HY.out; omega) hlt W)
        have S := Lib.hid (div_less x y m HY0.out (by rw [← HRr.out]; exact hlt))
        generalize r + top256 - y = D at C2
        clear hlt HR64
        have c0 := G2.out.cell 0; have c1 := G2.out.cell 1; have c2 := G2.out.cell 2; have c3 := G2.out.cell 3
        have e0 := KB2.out.cell 0; have e1 := KB2.out.cell 1; have e2 := KB2.out.cell 2; have e3 := KB2.out.cell 3
        simp at c0 c1 c2 c3 e0 e1 e2 e3
        go_wp2_with fail
        refine (C2.out _).mono ?_
        rintro e w3 ⟨rfl, hb3⟩
        clear c0 c1 c2 c3 e0 e1 e2 e3
        have G3 := Lib.hid (G2.out.below hb3 G2.out.lt)
        have KA3 := Lib.hid (KA2.out.below hb3 KA2.out.lt); have KB3 := Lib.hid (KB2.out.below hb3 KB2.out.lt); have KQ3 := Lib.hid (KQ2.out.below hb3 KQ2.out.lt); have KR3 := Lib.hid (KR2.out.below hb3 KR2.out.lt)
        have Hb3 := Lib.hid (Hb2.out.trans (hb3.mono Hb2.out.size))
        clear hb3 G2 KA2 KB2 KQ2 KR2 Hb2 C2
        have lg := G3.out.lt
        have lr := KR3.out.lt
        have c0 := G3.out.cell 0; have c1 := G3.out.cell 1; have c2 := G3.out.cell 2; have c3 := G3.out.cell 3
        have e0 := KR3.out.cell 0; have e1 := KR3.out.cell 1; have e2 := KR3.out.cell 2; have e3 := KR3.out.cell 3
        simp at c0 c1 c2 c3 e0 e1 e2 e3
        have f0 := KR3.out.frozen 0; have f1 := KR3.out.frozen 1; have f2 := KR3.out.frozen 2; have f3 := KR3.out.frozen 3
        go_wp2_with fail
        go_roundw
        case rel =>
          refine ⟨m, by omega, rfl, (blk_far4 KA3.out (by omega) _ _ _ _).alloc _, (blk_far4 KB3.out (by omega) _ _ _ _).alloc _, ?_, ?_, ?_⟩
          · rw [S.out.2]; exact (blk_far4 KQ3.out (by omega) _ _ _ _).alloc _
          · rw [S.out.1, ← HRr.out]; exact (blk_set4 KR3.out _ _ _ _).alloc _
          · have := Hb3.out
            unfold Hid
            go_grown
        case measure => simp [intOf]
      · have hm : m < 64 := by
          rcases Nat.lt_or_ge m 64 with h | h
          · exact h
          · exfalso
            have hx2 : x < 2 ^ m := high_pow HX.out h
            have h1 := rest_high x y m hx2
            have h2 := rest_high x y (m + 1) (Nat.lt_trans hx2 (Nat.pow_lt_pow_right (by decide) (by omega)))
            have := HRr.out
            rw [h1.2.1, h2.1] at this
            have := HY0.out
            omega
        have C2 := Lib.hid (fun W => minus_more r y HR64.out (by have := HY.out; omega) (by omega) W)
        have S := Lib.hid (div_more x y m HY0.out (by rw [← HRr.out]; omega))
        obtain rfl : d = 0 := by have := Hd.out; omega
        obtain rfl : t = m := by have := Ht.out; omega
        clear hlt HR64 Hd Ht
        have c0 := G2.out.cell 0; have c1 := G2.out.cell 1; have c2 := G2.out.cell 2; have c3 := G2.out.cell 3
        have e0 := KB2.out.cell 0; have e1 := KB2.out.cell 1; have e2 := KB2.out.cell 2; have e3 := KB2.out.cell 3
        simp at c0 c1 c2 c3 e0 e1 e2 e3
        go_wp2_with fail
        refine (C2.out _).mono ?_
        rintro e w3 ⟨rfl, hb3⟩
        clear c0 c1 c2 c3 e0 e1 e2 e3
        have G3 := Lib.hid (G2.out.below hb3 G2.out.lt)
        have KA3 := Lib.hid (KA2.out.below hb3 KA2.out.lt); have KB3 := Lib.hid (KB2.out.below hb3 KB2.out.lt); have KQ3 := Lib.hid (KQ2.out.below hb3 KQ2.out.lt); have KR3 := Lib.hid (KR2.out.below hb3 KR2.out.lt)
        have Hb3 := Lib.hid (Hb2.out.trans (hb3.mono Hb2.out.size))
        clear hb3 G2 KA2 KB2 KQ2 KR2 Hb2 C2
        have lg := G3.out.lt
        have lr := KR3.out.lt
        have c0 := G3.out.cell 0; have c1 := G3.out.cell 1; have c2 := G3.out.cell 2; have c3 := G3.out.cell 3
        have e0 := KR3.out.cell 0; have e1 := KR3.out.cell 1; have e2 := KR3.out.cell 2; have e3 := KR3.out.cell 3
        simp at c0 c1 c2 c3 e0 e1 e2 e3
        have f0 := KR3.out.frozen 0; have f1 := KR3.out.frozen 1; have f2 := KR3.out.frozen 2; have f3 := KR3.out.frozen 3
        go_wp2_with fail
        have KA4 := Lib.hid (two_far KA3.out (show w.heap.size ≠ w.heap.size + 1 + 1 + 1 by omega) (.int .u64 (r : Nat)) (.int .u64 0) (.int .u64 0) (.int .u64 0) (.int .u64 (r - y : Nat)) (.int .u64 0) (.int .u64 0) (.int .u64 0) (.cells #[.int .u64 (r - y : Nat), .int .u64 0, .int .u64 0, .int .u64 0] 33))
        have KB4 := Lib.hid (two_far KB3.out (show w.heap.size + 1 ≠ w.heap.size + 1 + 1 + 1 by omega) (.int .u64 (r : Nat)) (.int .u64 0) (.int .u64 0) (.int .u64 0) (.int .u64 (r - y : Nat)) (.int .u64 0) (.int .u64 0) (.int .u64 0) (.cells #[.int .u64 (r - y : Nat), .int .u64 0, .int .u64 0, .int .u64 0] 33))
        have KQ4 := Lib.hid (two_far KQ3.out (show w.heap.size + 1 + 1 ≠ w.heap.size + 1 + 1 + 1 by omega) (.int .u64 (r : Nat)) (.int .u64 0) (.int .u64 0) (.int .u64 0) (.int .u64 (r - y : Nat)) (.int .u64 0) (.int .u64 0) (.int .u64 0) (.cells #[.int .u64 (r - y : Nat), .int .u64 0, .int .u64 0, .int .u64 0] 33))
        have KR4 := Lib.hid (two_set4 KR3.out (.int .u64 (r : Nat)) (.int .u64 0) (.int .u64 0) (.int .u64 0) (.int .u64 (r - y : Nat)) (.int .u64 0) (.int .u64 0) (.int .u64 0) (.cells #[.int .u64 (r - y : Nat), .int .u64 0, .int .u64 0, .int .u64 0] 33))
        have Hb4 : Hid (Below w.heap.size w (((((((((w3.setCell ⟨w.heap.size + 1 + 1 + 1, 0, none⟩ (.int .u64 (r : Nat))).setCell ⟨w.heap.size + 1 + 1 + 1, 1, none⟩ (.int .u64 0)).setCell ⟨w.heap.size + 1 + 1 + 1, 2, none⟩ (.int .u64 0)).setCell ⟨w.heap.size + 1 + 1 + 1, 3, none⟩ (.int .u64 0)).setCell ⟨w.heap.size + 1 + 1 + 1, 0, none⟩ (.int .u64 (r - y : Nat))).setCell ⟨w.heap.size + 1 + 1 + 1, 1, none⟩ (.int .u64 0)).setCell ⟨w.heap.size + 1 + 1 + 1, 2, none⟩ (.int .u64 0)).setCell ⟨w.heap.size + 1 + 1 + 1, 3, none⟩ (.int .u64 0)).alloc (.cells #[.int .u64 (r - y : Nat), .int .u64 0, .int .u64 0, .int .u64 0] 33))) := by
          have := Hb3.out
          unfold Hid
          go_grown
        clear c0 c1 c2 c3 e0 e1 e2 e3 f0 f1 f2 f3 KA3 KB3 KQ3 KR3 Hb3 lg lr G3 hgw
        generalize (((((((((w3.setCell ⟨w.heap.size + 1 + 1 + 1, 0, none⟩ (.int .u64 (r : Nat))).setCell ⟨w.heap.size + 1 + 1 + 1, 1, none⟩ (.int .u64 0)).setCell ⟨w.heap.size + 1 + 1 + 1, 2, none⟩ (.int .u64 0)).setCell ⟨w.heap.size + 1 + 1 + 1, 3, none⟩ (.int .u64 0)).setCell ⟨w.heap.size + 1 + 1 + 1, 0, none⟩ (.int .u64 (r - y : Nat))).setCell ⟨w.heap.size + 1 + 1 + 1, 1, none⟩ (.int .u64 0)).setCell ⟨w.heap.size + 1 + 1 + 1, 2, none⟩ (.int .u64 0)).setCell ⟨w.heap.size + 1 + 1 + 1, 3, none⟩ (.int .u64 0)).alloc (.cells #[.int .u64 (r - y : Nat), .int .u64 0, .int .u64 0, .int .u64 0] 33)) = W4 at *
        have v2 : bits .or .u64 (quoN x y (t + 1) : Int) (IntKind.u64.wrap (2 ^ t)) = (quoN x y t : Int) := by
          have h := u64_or_nat (quoN x y (t + 1)) (2 ^ t) (Nat.lt_of_le_of_lt (quo_le x y (t + 1)) HX.out) (low_pow hm)
          rw [quo_or, ← S.out.2] at h
          have e := u64_in (2 ^ t) (low_pow hm)
          have e2 : ((2 ^ t : Nat) : Int) = 2 ^ t := by simp
          rw [e2] at e h
          rw [e]; exact h
        have c0 := KQ4.out.cell 0
        simp at c0
        have f0 := KQ4.out.frozen 0
        have m0 : (0 : Int) ≤ (t : Int) := by omega
        have m5 : (t : Int) < 64 := by omega
        have m1 : (t : Int) / 64 = 0 := by omega
        have m2 : (t : Int) % 64 = (t : Int) := by omega
        have m3 : (t : Int).tdiv 64 = 0 := by rw [Int.tdiv_eq_ediv_of_nonneg (by omega)]; omega
        have m4 : (t : Int).tmod 64 = (t : Int) := by rw [Int.tmod_eq_emod_of_nonneg (by omega)]; omega
        go_region
        clear m1 m2 m3 m4
        go_wp2_with fail
        go_roundw
        case rel =>
          refine ⟨t, by omega, rfl, KA4.out.far (p := ⟨w.heap.size + 1 + 1, 0, none⟩) (by simp; omega) _, KB4.out.far (p := ⟨w.heap.size + 1 + 1, 0, none⟩) (by simp) _, KQ4.out.set_ 0 _, ?_, (Hb4.out.setCell (by simp; omega) _).drew⟩
          rw [S.out.1, ← HRr.out]
          exact KR4.out.far (p := ⟨w.heap.size + 1 + 1, 0, none⟩) (by simp) _
        case measure => simp [intOf]
end Go.Proofs.YtfgeocpooimojaaDoor
