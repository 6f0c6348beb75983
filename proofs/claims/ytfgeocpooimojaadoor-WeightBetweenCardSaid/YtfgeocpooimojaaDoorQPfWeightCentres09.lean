/-
  Functions of package wide on numbers of one word: signed, Of, Valid. Conditions: as each theorem states them.
-/
import Derived.Test.YtfgeocpooimojaaDoorQPfWeightCentres08
namespace Go.Proofs.YtfgeocpooimojaaDoor
open Go Go.RowKit

def sgn (n : Bool) (x : Nat) : Bool := n && !(x == 0)
theorem blk_start2 (w : World) (t1 t2 : TypeId) (c1 c2 : Array Value) : Blk ((w.alloc (.cells c1 t1)).alloc (.cells c2 t2)) w.heap.size t1 c1 ∧ Blk ((w.alloc (.cells c1 t1)).alloc (.cells c2 t2)) (w.heap.size + 1) t2 c2 ∧ Below w.heap.size w ((w.alloc (.cells c1 t1)).alloc (.cells c2 t2)) := by
  refine ⟨(Blk.new w t1 c1).alloc _, ?_, by go_grown⟩
  have := Blk.new (w.alloc (.cells c1 t1)) t2 c2
  simpa using this
set_option maxHeartbeats 1000000 in
theorem wideSigned_at (n : Bool) (x : Nat) (w : World) : Calls Tryd.prog 72 #[.bool n, .agg (magS x)] w fun e w' => e = .returned (.agg (wideS (sgn n x) x)) ∧ Below w.heap.size w w' := by
  have K := Lib.hid (blk_start2 w 33 35 (magS x) wideZ)
  cases n
  · have E : Hid (sgn false x = false) := rfl
    go_enter Tryd.func72, Tryd.ntmps72
    go_wp2_with fail
    generalize (w.alloc (.cells (magS x) 33)).alloc (.cells wideZ 35) = W at *
    have KA := Lib.hid K.out.1; have KB := Lib.hid K.out.2.1; have Hb := Lib.hid K.out.2.2
    clear K
    have hB : w.heap.size + 1 ≤ W.heap.size := by have := KB.out.lt; omega
    have c0 := keepB (B := w.heap.size + 1) (KA.out.cell 0) (by simp); have c1 := keepB (B := w.heap.size + 1) (KA.out.cell 1) (by simp); have c2 := keepB (B := w.heap.size + 1) (KA.out.cell 2) (by simp); have c3 := keepB (B := w.heap.size + 1) (KA.out.cell 3) (by simp)
    refine wp_region_Kn (n := 9) (S := fun w' => Below (w.heap.size + 1) W w') rfl (by kernel_rfl) ?_
    have hS0 : Below (w.heap.size + 1) W { W with drawn := W.drawn + 1 } := (Below.refl _ _).drew
    refine wpAnyK_taked (i := 0) (oi := _) (v := ?_) rfl rfl (by kernel_rfl) (by kernel_rfl) (by kernel_rfl) (fun _ _ _ h => h) (fun _ _ h k => h.trans (k.mono (Nat.le_trans hB h.size))) (yields_read (by rfl) ?hy0) hS0 ?_
    rotate_left
    case hy0 =>
      intro w' hSw
      go_simp
      try with_reducible rfl
    simp only [Act.put, List.setIfInBounds_toArray, List.set_cons_zero, List.set_cons_succ]
    refine wpAnyK_taked (i := 1) (oi := _) (v := ?_) rfl rfl (by kernel_rfl) (by kernel_rfl) (by kernel_rfl) (fun _ _ _ h => h) (fun _ _ h k => h.trans (k.mono (Nat.le_trans hB h.size))) (yields_read (by rfl) ?hy1) hS0 ?_
    rotate_left
    case hy1 =>
      intro w' hSw
      go_simp
      try with_reducible rfl
    simp only [Act.put, List.setIfInBounds_toArray, List.set_cons_zero, List.set_cons_succ]
    refine wpAnyK_taked (i := 2) (oi := _) (v := _) rfl rfl (by kernel_rfl) (by kernel_rfl) (by kernel_rfl) (fun _ _ _ h => h) (fun _ _ h k => h.trans (k.mono (Nat.le_trans hB h.size))) (yields_not (by rfl)) hS0 ?_
    simp only [Act.put, List.setIfInBounds_toArray, List.set_cons_zero, List.set_cons_succ]
    refine wpAnyK_taked (i := 3) (oi := _) (v := _) rfl rfl (by kernel_rfl) (by kernel_rfl) (by kernel_rfl) (fun _ _ _ h => h) (fun _ _ h k => h.trans (k.mono (Nat.le_trans hB h.size))) (yields_not (by rfl)) hS0 ?_
    simp only [Act.put, List.setIfInBounds_toArray, List.set_cons_zero, List.set_cons_succ]
    refine wpAnyK_taked (i := 4) (oi := _) (v := _) rfl rfl (by kernel_rfl) (by kernel_rfl) (by kernel_rfl) (fun _ _ _ h => h) (fun _ _ h k => h.trans (k.mono (Nat.le_trans hB h.size))) (yields_not (by rfl)) hS0 ?_
    simp only [Act.put, List.setIfInBounds_toArray, List.set_cons_zero, List.set_cons_succ]
    refine wpAnyK_taked (i := 5) (oi := _) (v := ?_) rfl rfl (by kernel_rfl) (by kernel_rfl) (by kernel_rfl) (fun _ _ _ h => h) (fun _ _ h k => h.trans (k.mono (Nat.le_trans hB h.size))) (yields_read (by rfl) ?hy5) hS0 ?_
    rotate_left
    case hy5 =>
      intro w' hSw
      go_simp
      try with_reducible rfl
    simp only [Act.put, List.setIfInBounds_toArray, List.set_cons_zero, List.set_cons_succ]
    refine wpAnyK_taked (i := 6) (oi := _) (v := ?_) rfl rfl (by kernel_rfl) (by kernel_rfl) (by kernel_rfl) (fun _ _ _ h => h) (fun _ _ h k => h.trans (k.mono (Nat.le_trans hB h.size))) (yields_read (by rfl) ?hy6) hS0 ?_
    rotate_left
    case hy6 =>
      intro w' hSw
      go_simp
      try with_reducible rfl
    simp only [Act.put, List.setIfInBounds_toArray, List.set_cons_zero, List.set_cons_succ]
    refine wpAnyK_taked (i := 7) (oi := _) (v := ?_) rfl rfl (by kernel_rfl) (by kernel_rfl) (by kernel_rfl) (fun _ _ _ h => h) (fun _ _ h k => h.trans (k.mono (Nat.le_trans hB h.size))) (yields_read (by rfl) ?hy7) hS0 ?_
    rotate_left
    case hy7 =>
      intro w' hSw
      go_simp
      try with_reducible rfl
    simp only [Act.put, List.setIfInBounds_toArray, List.set_cons_zero, List.set_cons_succ]
    refine wpAnyK_put (i := 8) (g := w.heap.size + 1) (cs := wideS false x) (by kernel_rfl) rfl (by rfl) rfl hB (Nat.le_refl _) hS0 KB.out (zero_of_info Tryd.infoWid).2 rfl (wideS_one _ _) ?hx ?hy ?_
    case hx => go_simp
    case hy => go_simp
    intro w1 hS1 hbut HG
    refine wpAnyK_done (by kernel_rfl) ?_ _
    intro w2 hb2
    have G2 := Lib.hid (HG.below hb2 HG.lt)
    have Hb2 := Lib.hid ((hbut.below _ _ (by omega) (by have := hB; show w.heap.size ≤ W.heap.size; omega) (below_drewN Hb.out 1)).trans (hb2.mono (by have := hS1.size; omega)))
    clear HG hb2 hbut hS1 hS0 c0 c1 c2 c3 KA KB Hb
    simp only [Act.put]
    go_wp2_with fail
    refine bodyPost_ret (results_cell_one rfl _ _ (w.heap.size + 1) 35 (wideS false x) _ rfl G2.out Tryd.underlying35 rfl (by kernel_rfl)) rfl ⟨by rw [E.out], Hb2.out⟩
  · by_cases h0 : x = 0
    · have E : Hid (sgn true x = false) := by unfold Hid sgn; rw [h0]; rfl
      subst h0
      go_enter Tryd.func72, Tryd.ntmps72
      go_wp2_with fail
      generalize (w.alloc (.cells (magS 0) 33)).alloc (.cells wideZ 35) = W at *
      have KA := Lib.hid K.out.1; have KB := Lib.hid K.out.2.1; have Hb := Lib.hid K.out.2.2
      clear K
      have hB : w.heap.size + 1 ≤ W.heap.size := by have := KB.out.lt; omega
      have c0 := keepB (B := w.heap.size + 1) (KA.out.cell 0) (by simp); have c1 := keepB (B := w.heap.size + 1) (KA.out.cell 1) (by simp); have c2 := keepB (B := w.heap.size + 1) (KA.out.cell 2) (by simp); have c3 := keepB (B := w.heap.size + 1) (KA.out.cell 3) (by simp)
      have eq : ∀ w, (Op.equalIn 10000 33 (.agg #[.int .u64 0, .int .u64 0, .int .u64 0, .int .u64 0]) (.agg #[.int .u64 0, .int .u64 0, .int .u64 0, .int .u64 0])).run Tryd.prog w = .ok true w := eq_magS 0 0
      refine wp_region_Kn (n := 9) (S := fun w' => Below (w.heap.size + 1) W w') rfl (by kernel_rfl) ?_
      have hS0 : Below (w.heap.size + 1) W { W with drawn := W.drawn + 1 } := (Below.refl _ _).drew
      refine wpAnyK_taked (i := 0) (oi := _) (v := ?_) rfl rfl (by kernel_rfl) (by kernel_rfl) (by kernel_rfl) (fun _ _ _ h => h) (fun _ _ h k => h.trans (k.mono (Nat.le_trans hB h.size))) (yields_read (by rfl) ?hy0) hS0 ?_
      rotate_left
      case hy0 =>
        intro w' hSw
        go_simp
        try with_reducible rfl
      simp only [Act.put, List.setIfInBounds_toArray, List.set_cons_zero, List.set_cons_succ]
      refine wpAnyK_taked (i := 1) (oi := _) (v := ?_) rfl rfl (by kernel_rfl) (by kernel_rfl) (by kernel_rfl) (fun _ _ _ h => h) (fun _ _ h k => h.trans (k.mono (Nat.le_trans hB h.size))) (yields_read (by rfl) ?hy1) hS0 ?_
      rotate_left
      case hy1 =>
        intro w' hSw
        go_simp
        try with_reducible rfl
      simp only [Act.put, List.setIfInBounds_toArray, List.set_cons_zero, List.set_cons_succ]
      refine wpAnyK_taked (i := 2) (oi := _) (v := ?_) rfl rfl (by kernel_rfl) (by kernel_rfl) (by kernel_rfl) (fun _ _ _ h => h) (fun _ _ h k => h.trans (k.mono (Nat.le_trans hB h.size))) (yields_read (by rfl) ?hy2) hS0 ?_
      rotate_left
      case hy2 =>
        intro w' hSw
        go_simp
        try with_reducible rfl
      simp only [Act.put, List.setIfInBounds_toArray, List.set_cons_zero, List.set_cons_succ]
      refine wpAnyK_taked (i := 3) (oi := _) (v := ?_) rfl rfl (by kernel_rfl) (by kernel_rfl) (by kernel_rfl) (fun _ _ _ h => h) (fun _ _ h k => h.trans (k.mono (Nat.le_trans hB h.size))) (yields_read (by rfl) ?hy3) hS0 ?_
      rotate_left
      case hy3 =>
        intro w' hSw
        go_simp
        try with_reducible rfl
      simp only [Act.put, List.setIfInBounds_toArray, List.set_cons_zero, List.set_cons_succ]
      refine wpAnyK_taked (i := 4) (oi := _) (v := ?_) rfl rfl (by kernel_rfl) (by kernel_rfl) (by kernel_rfl) (fun _ _ _ h => h) (fun _ _ h k => h.trans (k.mono (Nat.le_trans hB h.size))) (yields_read (by rfl) ?hy4) hS0 ?_
      rotate_left
      case hy4 =>
        intro w' hSw
        go_simp
        try with_reducible rfl
      simp only [Act.put, List.setIfInBounds_toArray, List.set_cons_zero, List.set_cons_succ]
      refine wpAnyK_taked (i := 5) (oi := _) (v := ?_) rfl rfl (by kernel_rfl) (by kernel_rfl) (by kernel_rfl) (fun _ _ _ h => h) (fun _ _ h k => h.trans (k.mono (Nat.le_trans hB h.size))) (yields_read (by rfl) ?hy5) hS0 ?_
      rotate_left
      case hy5 =>
        intro w' hSw
        go_simp
        try with_reducible rfl
      simp only [Act.put, List.setIfInBounds_toArray, List.set_cons_zero, List.set_cons_succ]
      refine wpAnyK_taked (i := 6) (oi := _) (v := ?_) rfl rfl (by kernel_rfl) (by kernel_rfl) (by kernel_rfl) (fun _ _ _ h => h) (fun _ _ h k => h.trans (k.mono (Nat.le_trans hB h.size))) (yields_read (by rfl) ?hy6) hS0 ?_
      rotate_left
      case hy6 =>
        intro w' hSw
        go_simp
        try with_reducible rfl
      simp only [Act.put, List.setIfInBounds_toArray, List.set_cons_zero, List.set_cons_succ]
      refine wpAnyK_taked (i := 7) (oi := _) (v := ?_) rfl rfl (by kernel_rfl) (by kernel_rfl) (by kernel_rfl) (fun _ _ _ h => h) (fun _ _ h k => h.trans (k.mono (Nat.le_trans hB h.size))) (yields_read (by rfl) ?hy7) hS0 ?_
      rotate_left
      case hy7 =>
        intro w' hSw
        go_simp
        try with_reducible rfl
      simp only [Act.put, List.setIfInBounds_toArray, List.set_cons_zero, List.set_cons_succ]
      refine wpAnyK_put (i := 8) (g := w.heap.size + 1) (cs := wideS false 0) (by kernel_rfl) rfl (by rfl) rfl hB (Nat.le_refl _) hS0 KB.out (zero_of_info Tryd.infoWid).2 rfl (wideS_one _ _) ?hx ?hy ?_
      case hx => go_simp
      case hy => go_simp
      intro w1 hS1 hbut HG
      refine wpAnyK_done (by kernel_rfl) ?_ _
      intro w2 hb2
      have G2 := Lib.hid (HG.below hb2 HG.lt)
      have Hb2 := Lib.hid ((hbut.below _ _ (by omega) (by have := hB; show w.heap.size ≤ W.heap.size; omega) (below_drewN Hb.out 1)).trans (hb2.mono (by have := hS1.size; omega)))
      clear HG hb2 hbut hS1 hS0 c0 c1 c2 c3 KA KB Hb
      simp only [Act.put]
      go_wp2_with fail
      refine bodyPost_ret (results_cell_one rfl _ _ (w.heap.size + 1) 35 (wideS false 0) _ rfl G2.out Tryd.underlying35 rfl (by kernel_rfl)) rfl ⟨by rw [E.out], Hb2.out⟩
    · have E : Hid (sgn true x = true) := by unfold Hid sgn; simp [h0]
      have hx0 : ((x : Int) == 0) = false := by simpa using h0
      clear h0
      go_enter Tryd.func72, Tryd.ntmps72
      go_wp2_with fail
      generalize (w.alloc (.cells (magS x) 33)).alloc (.cells wideZ 35) = W at *
      have KA := Lib.hid K.out.1; have KB := Lib.hid K.out.2.1; have Hb := Lib.hid K.out.2.2
      clear K
      have hB : w.heap.size + 1 ≤ W.heap.size := by have := KB.out.lt; omega
      have c0 := keepB (B := w.heap.size + 1) (KA.out.cell 0) (by simp); have c1 := keepB (B := w.heap.size + 1) (KA.out.cell 1) (by simp); have c2 := keepB (B := w.heap.size + 1) (KA.out.cell 2) (by simp); have c3 := keepB (B := w.heap.size + 1) (KA.out.cell 3) (by simp)
      have eq : ∀ w, (Op.equalIn 10000 33 (.agg (magS x)) (.agg #[.int .u64 0, .int .u64 0, .int .u64 0, .int .u64 0])).run Tryd.prog w = .ok false w := fun w => by
        have := eq_magS x 0 w
        rw [show (x == 0) = false by simpa using hx0] at this
        exact this
      refine wp_region_Kn (n := 9) (S := fun w' => Below (w.heap.size + 1) W w') rfl (by kernel_rfl) ?_
      have hS0 : Below (w.heap.size + 1) W { W with drawn := W.drawn + 1 } := (Below.refl _ _).drew
      refine wpAnyK_taked (i := 0) (oi := _) (v := ?_) rfl rfl (by kernel_rfl) (by kernel_rfl) (by kernel_rfl) (fun _ _ _ h => h) (fun _ _ h k => h.trans (k.mono (Nat.le_trans hB h.size))) (yields_read (by rfl) ?hy0) hS0 ?_
      rotate_left
      case hy0 =>
        intro w' hSw
        go_simp
        try with_reducible rfl
      simp only [Act.put, List.setIfInBounds_toArray, List.set_cons_zero, List.set_cons_succ]
      refine wpAnyK_taked (i := 1) (oi := _) (v := ?_) rfl rfl (by kernel_rfl) (by kernel_rfl) (by kernel_rfl) (fun _ _ _ h => h) (fun _ _ h k => h.trans (k.mono (Nat.le_trans hB h.size))) (yields_read (by rfl) ?hy1) hS0 ?_
      rotate_left
      case hy1 =>
        intro w' hSw
        go_simp
        try with_reducible rfl
      simp only [Act.put, List.setIfInBounds_toArray, List.set_cons_zero, List.set_cons_succ]
      refine wpAnyK_taked (i := 2) (oi := _) (v := ?_) rfl rfl (by kernel_rfl) (by kernel_rfl) (by kernel_rfl) (fun _ _ _ h => h) (fun _ _ h k => h.trans (k.mono (Nat.le_trans hB h.size))) (yields_read (by rfl) ?hy2) hS0 ?_
      rotate_left
      case hy2 =>
        intro w' hSw
        go_simp
        try with_reducible rfl
      simp only [Act.put, List.setIfInBounds_toArray, List.set_cons_zero, List.set_cons_succ]
      refine wpAnyK_taked (i := 3) (oi := _) (v := ?_) rfl rfl (by kernel_rfl) (by kernel_rfl) (by kernel_rfl) (fun _ _ _ h => h) (fun _ _ h k => h.trans (k.mono (Nat.le_trans hB h.size))) (yields_read (by rfl) ?hy3) hS0 ?_
      rotate_left
      case hy3 =>
        intro w' hSw
        go_simp
        try with_reducible rfl
      simp only [Act.put, List.setIfInBounds_toArray, List.set_cons_zero, List.set_cons_succ]
      refine wpAnyK_taked (i := 4) (oi := _) (v := ?_) rfl rfl (by kernel_rfl) (by kernel_rfl) (by kernel_rfl) (fun _ _ _ h => h) (fun _ _ h k => h.trans (k.mono (Nat.le_trans hB h.size))) (yields_read (by rfl) ?hy4) hS0 ?_
      rotate_left
      case hy4 =>
        intro w' hSw
        go_simp
        try with_reducible rfl
      simp only [Act.put, List.setIfInBounds_toArray, List.set_cons_zero, List.set_cons_succ]
      refine wpAnyK_taked (i := 5) (oi := _) (v := ?_) rfl rfl (by kernel_rfl) (by kernel_rfl) (by kernel_rfl) (fun _ _ _ h => h) (fun _ _ h k => h.trans (k.mono (Nat.le_trans hB h.size))) (yields_read (by rfl) ?hy5) hS0 ?_
      rotate_left
      case hy5 =>
        intro w' hSw
        go_simp
        try with_reducible rfl
      simp only [Act.put, List.setIfInBounds_toArray, List.set_cons_zero, List.set_cons_succ]
      refine wpAnyK_taked (i := 6) (oi := _) (v := ?_) rfl rfl (by kernel_rfl) (by kernel_rfl) (by kernel_rfl) (fun _ _ _ h => h) (fun _ _ h k => h.trans (k.mono (Nat.le_trans hB h.size))) (yields_read (by rfl) ?hy6) hS0 ?_
      rotate_left
      case hy6 =>
        intro w' hSw
        go_simp
        try with_reducible rfl
      simp only [Act.put, List.setIfInBounds_toArray, List.set_cons_zero, List.set_cons_succ]
      refine wpAnyK_taked (i := 7) (oi := _) (v := ?_) rfl rfl (by kernel_rfl) (by kernel_rfl) (by kernel_rfl) (fun _ _ _ h => h) (fun _ _ h k => h.trans (k.mono (Nat.le_trans hB h.size))) (yields_read (by rfl) ?hy7) hS0 ?_
      rotate_left
      case hy7 =>
        intro w' hSw
        go_simp
        try with_reducible rfl
      simp only [Act.put, List.setIfInBounds_toArray, List.set_cons_zero, List.set_cons_succ]
      refine wpAnyK_put (i := 8) (g := w.heap.size + 1) (cs := wideS true x) (by kernel_rfl) rfl (by rfl) rfl hB (Nat.le_refl _) hS0 KB.out (zero_of_info Tryd.infoWid).2 rfl (wideS_one _ _) ?hx ?hy ?_
      case hx => go_simp
      case hy => go_simp
      intro w1 hS1 hbut HG
      refine wpAnyK_done (by kernel_rfl) ?_ _
      intro w2 hb2
      have G2 := Lib.hid (HG.below hb2 HG.lt)
      have Hb2 := Lib.hid ((hbut.below _ _ (by omega) (by have := hB; show w.heap.size ≤ W.heap.size; omega) (below_drewN Hb.out 1)).trans (hb2.mono (by have := hS1.size; omega)))
      clear HG hb2 hbut hS1 hS0 c0 c1 c2 c3 KA KB Hb
      simp only [Act.put]
      go_wp2_with fail
      refine bodyPost_ret (results_cell_one rfl _ _ (w.heap.size + 1) 35 (wideS true x) _ rfl G2.out Tryd.underlying35 rfl (by kernel_rfl)) rfl ⟨by rw [E.out], Hb2.out⟩
theorem wideValid_at (n : Bool) (x : Nat) (h : n = true → x ≠ 0) (w : World) : Calls Tryd.prog 45 #[.agg (wideS n x)] w fun e w' => e = .returned (.bool true) ∧ Below w.heap.size w w' := by
  cases n
  · clear h
    go_enter Tryd.func45, Tryd.ntmps45
    go_wp2_with fail
    go_ret
    exact ⟨rfl, by go_grown⟩
  · have h0 := h rfl
    have eq : ∀ w, (Op.equalIn 10000 33 (.agg (magS x)) (.agg #[.int .u64 0, .int .u64 0, .int .u64 0, .int .u64 0])).run Tryd.prog w = .ok false w := fun w => by
      have := eq_magS x 0 w
      rw [show (x == 0) = false by simpa using h0] at this
      exact this
    clear h h0
    go_enter Tryd.func45, Tryd.ntmps45
    go_wp2_with fail
    go_ret
    exact ⟨rfl, by go_grown⟩
set_option maxHeartbeats 1000000 in
theorem wideOf_at (n : Int) (h1 : -9223372036854775808 ≤ n) (h2 : n ≤ 9223372036854775807) (w : World) : Calls Tryd.prog 59 #[.int .i64 n] w fun e w' => e = .returned (.agg (wideS (decide (n < 0)) n.natAbs)) ∧ Below w.heap.size w w' := by
  have K := Lib.hid (Blk.new w 35 wideZ)
  by_cases hn : n < 0
  · have hd : decide (n < 0) = true := by simpa using hn
    have C : Hid (∀ W, Calls Tryd.prog 72 #[.bool true, .agg (magS n.natAbs)] W fun e w' => e = .returned (.agg (wideS true n.natAbs)) ∧ Below W.heap.size W w') := fun W => by
      have := wideSigned_at true n.natAbs W
      rw [show sgn true n.natAbs = true by unfold sgn; simp; omega] at this
      exact this
    have q1 : IntKind.u64.wrap (-(IntKind.u64.wrap n)) = (n.natAbs : Int) := by rw [IntKind.wrap_u64, IntKind.wrap_u64]; omega
    rw [hd]
    clear h1 h2
    go_enter Tryd.func59, Tryd.ntmps59
    go_wp2_with fail
    refine (C.out _).mono ?_
    rintro e w1 ⟨rfl, hb1⟩
    have K1 := Lib.hid (K.out.below hb1 K.out.lt)
    have Hb1 : Hid (Below w.heap.size w w1) := Lib.hid (Below.trans (by go_grown) (hb1.mono (by simp)))
    clear hb1 K C
    have z0 := K1.out.cell 0; have z1 := K1.out.cell 1; have z2 := K1.out.cell 2; have z3 := K1.out.cell 3; have z4 := K1.out.cell 4
    simp at z0 z1 z2 z3 z4
    have f0 := K1.out.frozen 0; have f1 := K1.out.frozen 1; have f2 := K1.out.frozen 2; have f3 := K1.out.frozen 3; have f4 := K1.out.frozen 4
    go_wp2_with fail
    refine bodyPost_ret (results_cell_one rfl _ _ w.heap.size 35 (wideS true n.natAbs) _ rfl (by with_reducible exact blk_set5' K1.out _ _ _ _ _) Tryd.underlying35 rfl (by kernel_rfl)) rfl ⟨rfl, ?_⟩
    have := Hb1.out
    go_grown
  · have hd : decide (n < 0) = false := by simpa using hn
    have C : Hid (∀ W, Calls Tryd.prog 72 #[.bool false, .agg (magS n.natAbs)] W fun e w' => e = .returned (.agg (wideS false n.natAbs)) ∧ Below W.heap.size W w') := fun W => wideSigned_at false n.natAbs W
    have q1 : IntKind.u64.wrap n = (n.natAbs : Int) := by rw [IntKind.wrap_u64]; omega
    rw [hd]
    clear h1 h2
    go_enter Tryd.func59, Tryd.ntmps59
    go_wp2_with fail
    refine (C.out _).mono ?_
    rintro e w1 ⟨rfl, hb1⟩
    have K1 := Lib.hid (K.out.below hb1 K.out.lt)
    have Hb1 : Hid (Below w.heap.size w w1) := Lib.hid (Below.trans (by go_grown) (hb1.mono (by simp)))
    clear hb1 K C
    have z0 := K1.out.cell 0; have z1 := K1.out.cell 1; have z2 := K1.out.cell 2; have z3 := K1.out.cell 3; have z4 := K1.out.cell 4
    simp at z0 z1 z2 z3 z4
    have f0 := K1.out.frozen 0; have f1 := K1.out.frozen 1; have f2 := K1.out.frozen 2; have f3 := K1.out.frozen 3; have f4 := K1.out.frozen 4
    go_wp2_with fail
    refine bodyPost_ret (results_cell_one rfl _ _ w.heap.size 35 (wideS false n.natAbs) _ rfl (by with_reducible exact blk_set5' K1.out _ _ _ _ _) Tryd.underlying35 rfl (by kernel_rfl)) rfl ⟨rfl, ?_⟩
    have := Hb1.out
    go_grown
end Go.Proofs.YtfgeocpooimojaaDoor
