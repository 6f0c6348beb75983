/-
  Functions of package wide on magnitudes: minus, plus, compare. Conditions: as each theorem states them.
-/
import Derived.Shelf.Spec.BitsCarry
import Derived.Test.YtfgeocpooimojaaDoorQPfWeightCentres03
import Derived.Test.YtfgeocpooimojaaDoorQPfWeightCentres04
import Derived.Test.YtfgeocpooimojaaDoorQPfWeightCentres02
namespace Go.Proofs.YtfgeocpooimojaaDoor
open Go Go.RowKit

def ltN (A B : Nat) : Nat := if A < B then 1 else 0
theorem blk_set4 {w : World} {g : Nat} {t : TypeId} {a0 a1 a2 a3 : Value} (h : Blk w g t #[a0, a1, a2, a3]) (b0 b1 b2 b3 : Value) :
    Blk ((((w.setCell ⟨g, 0, none⟩ b0).setCell ⟨g, 1, none⟩ b1).setCell ⟨g, 2, none⟩ b2).setCell ⟨g, 3, none⟩ b3) g t #[b0, b1, b2, b3] :=
  (((h.set_ 0 b0).set_ 1 b1).set_ 2 b2).set_ 3 b3
theorem sub64_at (x y b : Nat) (hb : b ≤ 1) (w : World) : (callFunc 91 #[.int .u64 x, .int .u64 y, .int .u64 b]).run Tryd.prog w =
    .ok (.value (.tuple #[.int .u64 (((x + 18446744073709551616 - y - b) % 18446744073709551616 : Nat) : Int), .int .u64 ((if x < y + b then 1 else 0 : Nat) : Int)])) w := by
  rw [run_callFunc_extern Tryd.func91 (by kernel_rfl) (by kernel_rfl) (by kernel_rfl) (e := sub64Entry) (by kernel_rfl), run_sub64 x y b hb]
  rfl
theorem add64_at (x y c : Nat) (hc : c ≤ 1) (w : World) : (callFunc 89 #[.int .u64 x, .int .u64 y, .int .u64 c]).run Tryd.prog w =
    .ok (.value (.tuple #[.int .u64 (((x + y + c) % 18446744073709551616 : Nat) : Int), .int .u64 (((x + y + c) / 18446744073709551616 : Nat) : Int)])) w := by
  rw [run_callFunc_extern Tryd.func89 (by kernel_rfl) (by kernel_rfl) (by kernel_rfl) (e := add64Entry) (by kernel_rfl), run_add64 x y c (by omega) (by omega) (by omega) (by omega)]
  simp only [Result.andThen]
  congr 5 <;> omega

set_option maxHeartbeats 2000000 in
set_option maxRecDepth 100000 in
theorem wideMinus_at (A B : Nat) (hA : A < top256) (hB : B < top256) (w : World) :
    Calls Tryd.prog 74 #[.agg (magC A), .agg (magC B)] w fun e w' => e = .returned (.tuple #[.agg (magC (A + top256 - B)), .int .u64 (ltN A B : Nat)]) ∧ Below w.heap.size w w' := by
  have HB := Lib.hid (blk_start3 w 33 33 33 (magC A) (magC B) (digs 4 (fun _ => 0)))
  have HF : Hid (brw A B 4 = ltN A B) := brw_all A B hA hB
  have HR : Hid (∀ k, k < 4 → ∀ w, (callFunc 91 #[.int .u64 (wd A k : Nat), .int .u64 (wd B k : Nat), .int .u64 (brw A B k : Nat)]).run Tryd.prog w = .ok (.value (.tuple #[.int .u64 (wd (A + top256 - B) k : Nat), .int .u64 (brw A B (k + 1) : Nat)])) w) := fun k hk w => by
    rw [(sub_step A B k hk hB).1, (sub_step A B k hk hB).2]; exact sub64_at _ _ _ (brw_le A B k) w
  clear hA hB
  go_enter Tryd.func74, Tryd.ntmps74
  go_wp2_with fail
  go_loopw [5, 7] (fun c i wr => ∃ k : Nat, k ≤ 4 ∧ i = .int .i64 k ∧ c = .int .u64 (brw A B k : Nat) ∧ Hid (Blk wr w.heap.size 33 (magC A)) ∧ Hid (Blk wr (w.heap.size + 1) 33 (magC B)) ∧ Hid (Blk wr (w.heap.size + 1 + 1) 33 (digs 4 (fun j => if j < k then wd (A + top256 - B) j else 0))) ∧ Hid (Below w.heap.size w wr)) (fun _ i _ => 4 - (intOf i).toNat)
  case atStart => exact ⟨0, by omega, rfl, by rw [brw_zero]; rfl, HB.out.1, HB.out.2.1, HB.out.2.2, by unfold Hid; go_grown⟩
  case round =>
    obtain ⟨k, hk, rfl, rfl, KA, KB, KD, Hb⟩ := hrel
    clear HB
    by_cases hk4 : k < 4
    · have i0 : (0 : Int) ≤ (k : Int) := by omega
      have i1 : (k : Int) < 4 := by omega
      have R := HR.out k hk4
      have hB : w.heap.size + 1 + 1 ≤ wr.heap.size := by have := KD.out.lt; omega
      have k0 := keepB (B := w.heap.size + 1 + 1) ((KA.out.cell k).trans (magC_get A k hk4)) (by simp; omega)
      have k1 := keepB (B := w.heap.size + 1 + 1) ((KB.out.cell k).trans (magC_get B k hk4)) (by simp)
      go_wp2_with fail
      refine wp_region_Kn (n := 15) (S := fun w' => Below (w.heap.size + 1 + 1) wr w') rfl (by kernel_rfl) ?_
      have hS0 : Below (w.heap.size + 1 + 1) wr { wr with drawn := wr.drawn + 1 } := (Below.refl _ _).drew
      refine wpAnyK_take (i := 0) (oi := _) (v := ?_) rfl (by kernel_rfl) (by kernel_rfl) (by kernel_rfl) (fun _ _ _ h => h) (fun _ _ h k => h.trans (k.mono (Nat.le_trans hB h.size))) (yields_read (by rfl) ?hy0) hS0 ?_
      rotate_left
      case hy0 =>
        intro w' hSw
        go_simp
        try with_reducible rfl
      simp only [Act.put]
      refine wpAnyK_take (i := 1) (oi := _) (v := ?_) rfl (by kernel_rfl) (by kernel_rfl) (by kernel_rfl) (fun _ _ _ h => h) (fun _ _ h k => h.trans (k.mono (Nat.le_trans hB h.size))) (yields_read (by rfl) ?hy1) hS0 ?_
      rotate_left
      case hy1 =>
        intro w' hSw
        go_simp
        try with_reducible rfl
      simp only [Act.put]
      refine wpAnyK_take (i := 2) (oi := _) (v := ?_) rfl (by kernel_rfl) (by kernel_rfl) (by kernel_rfl) (fun _ _ _ h => h) (fun _ _ h k => h.trans (k.mono (Nat.le_trans hB h.size))) (yields_read (by rfl) ?hy2) hS0 ?_
      rotate_left
      case hy2 =>
        intro w' hSw
        go_simp
        try with_reducible rfl
      simp only [Act.put]
      refine wpAnyK_take (i := 3) (oi := _) (v := ?_) rfl (by kernel_rfl) (by kernel_rfl) (by kernel_rfl) (fun _ _ _ h => h) (fun _ _ h k => h.trans (k.mono (Nat.le_trans hB h.size))) (yields_read (by rfl) ?hy3) hS0 ?_
      rotate_left
      case hy3 =>
        intro w' hSw
        go_simp
        try with_reducible rfl
      simp only [Act.put]
      refine wpAnyK_take (i := 4) (oi := _) (v := ?_) rfl (by kernel_rfl) (by kernel_rfl) (by kernel_rfl) (fun _ _ _ h => h) (fun _ _ h k => h.trans (k.mono (Nat.le_trans hB h.size))) (yields_read (by rfl) ?hy4) hS0 ?_
      rotate_left
      case hy4 =>
        intro w' hSw
        go_simp
        try with_reducible rfl
      simp only [Act.put]
      refine wpAnyK_take (i := 5) (oi := _) (v := ?_) rfl (by kernel_rfl) (by kernel_rfl) (by kernel_rfl) (fun _ _ _ h => h) (fun _ _ h k => h.trans (k.mono (Nat.le_trans hB h.size))) (yields_read (by rfl) ?hy5) hS0 ?_
      rotate_left
      case hy5 =>
        intro w' hSw
        go_simp
        try with_reducible rfl
      simp only [Act.put]
      refine wpAnyK_take (i := 6) (oi := _) (v := ?_) rfl (by kernel_rfl) (by kernel_rfl) (by kernel_rfl) (fun _ _ _ h => h) (fun _ _ h k => h.trans (k.mono (Nat.le_trans hB h.size))) (yields_read (by rfl) ?hy6) hS0 ?_
      rotate_left
      case hy6 =>
        intro w' hSw
        go_simp
        try with_reducible rfl
      simp only [Act.put]
      refine wpAnyK_take (i := 7) (oi := _) (v := ?_) rfl (by kernel_rfl) (by kernel_rfl) (by kernel_rfl) (fun _ _ _ h => h) (fun _ _ h k => h.trans (k.mono (Nat.le_trans hB h.size))) (yields_read (by rfl) ?hy7) hS0 ?_
      rotate_left
      case hy7 =>
        intro w' hSw
        go_simp
        try with_reducible rfl
      simp only [Act.put]
      refine wpAnyK_take (i := 8) (oi := _) (v := ?_) rfl (by kernel_rfl) (by kernel_rfl) (by kernel_rfl) (fun _ _ _ h => h) (fun _ _ h k => h.trans (k.mono (Nat.le_trans hB h.size))) (yields_read (by rfl) ?hy8) hS0 ?_
      rotate_left
      case hy8 =>
        intro w' hSw
        go_simp
        try with_reducible rfl
      simp only [Act.put]
      refine wpAnyK_take (i := 9) (oi := _) (v := ?_) rfl (by kernel_rfl) (by kernel_rfl) (by kernel_rfl) (fun _ _ _ h => h) (fun _ _ h k => h.trans (k.mono (Nat.le_trans hB h.size))) (yields_read (by rfl) ?hy9) hS0 ?_
      rotate_left
      case hy9 =>
        intro w' hSw
        go_simp
        try with_reducible rfl
      simp only [Act.put]
      refine wpAnyK_take (i := 10) (oi := _) (v := ?_) rfl (by kernel_rfl) (by kernel_rfl) (by kernel_rfl) (fun _ _ _ h => h) (fun _ _ h k => h.trans (k.mono (Nat.le_trans hB h.size))) (yields_read (by rfl) ?hy10) hS0 ?_
      rotate_left
      case hy10 =>
        intro w' hSw
        go_simp
        try with_reducible rfl
      simp only [Act.put]
      refine wpAnyK_take (i := 11) (oi := _) (v := ?_) rfl (by kernel_rfl) (by kernel_rfl) (by kernel_rfl) (fun _ _ _ h => h) (fun _ _ h k => h.trans (k.mono (Nat.le_trans hB h.size))) (yields_read (by rfl) ?hy11) hS0 ?_
      rotate_left
      case hy11 =>
        intro w' hSw
        go_simp
        try with_reducible rfl
      simp only [Act.put]
      refine wpAnyK_take (i := 12) (oi := _) (v := ?_) rfl (by kernel_rfl) (by kernel_rfl) (by kernel_rfl) (fun _ _ _ h => h) (fun _ _ h k => h.trans (k.mono (Nat.le_trans hB h.size))) (yields_read (by rfl) ?hy12) hS0 ?_
      rotate_left
      case hy12 =>
        intro w' hSw
        go_simp
        try with_reducible rfl
      simp only [Act.put]
      clear k0 k1 R
      refine wpAnyK_one (i := 13) (o := _) (by kernel_rfl) rfl (by rfl) ?_
      intro w1 hb0
      have hb1 : Below wr.heap.size wr w1 := Below.later (Below.refl _ wr).drew hb0
      have KA1 : Hid (Blk w1 w.heap.size 33 (magC A)) := KA.out.below hb1 KA.out.lt
      have KB1 : Hid (Blk w1 (w.heap.size + 1) 33 (magC B)) := KB.out.below hb1 KB.out.lt
      have KD1 : Hid (Blk w1 (w.heap.size + 1 + 1) 33 (digs 4 (fun j => if j < k then wd (A + top256 - B) j else 0))) := KD.out.below hb1 KD.out.lt
      have Hb1 : Hid (Below w.heap.size w w1) := Hb.out.trans (hb1.mono Hb.out.size)
      have hS1 := Lib.hid (hS0.trans (hb0.mono hB))
      have fd : w1.frozen? ⟨w.heap.size + 1 + 1, k, none⟩ = false := KD1.out.frozen _
      have cd : w1.cell? ⟨w.heap.size + 1 + 1, k, none⟩ = some (.int .u64 (0 : Nat)) := (KD1.out.cell _).trans ((digs_get _ hk4).trans (by rw [if_neg (by omega)]))
      clear hb0 hb1 KA KB KD Hb hS0
      go_simp
      have hS2 : Hid (Below (w.heap.size + 1 + 1) wr (w1.setCell ⟨w.heap.size + 1 + 1, k, none⟩ (.int .u64 (wd (A + top256 - B) k : Nat)))) := hS1.out.setCell (Nat.le_refl _) _
      refine ⟨hS2.out, ?_⟩
      refine wpAnyK_next (i := 14) (v := ?_) (by kernel_rfl) rfl (by rfl) (fun _ _ h k => h.trans (k.mono (Nat.le_trans hB h.size))) hS2.out ?hn ?_
      rotate_left
      case hn =>
        intro w' hSw
        go_simp
        try with_reducible rfl
      refine wpAnyK_done (by kernel_rfl) ?_ _
      intro w2 hb2
      have KA2 : Hid (Blk w2 w.heap.size 33 (magC A)) := by
        have := KA1.out.far (p := ⟨w.heap.size + 1 + 1, k, none⟩) (by simp; omega) (.int .u64 (wd (A + top256 - B) k : Nat))
        exact this.below hb2 this.lt
      have KB2 : Hid (Blk w2 (w.heap.size + 1) 33 (magC B)) := by
        have := KB1.out.far (p := ⟨w.heap.size + 1 + 1, k, none⟩) (by simp) (.int .u64 (wd (A + top256 - B) k : Nat))
        exact this.below hb2 this.lt
      have KD2 : Hid (Blk w2 (w.heap.size + 1 + 1) 33 (digs 4 (fun j => if j < k + 1 then wd (A + top256 - B) j else 0))) := by
        have := KD1.out.set_ k (.int .u64 (wd (A + top256 - B) k : Nat))
        rw [digs_set _ hk4, digs_congr (g := fun j => if j < k + 1 then wd (A + top256 - B) j else 0)] at this
        · exact this.below hb2 this.lt
        · intro j _
          by_cases e : j = k
          · rw [if_pos e, e, if_pos (by omega)]
          · rw [if_neg e]
            by_cases e2 : j < k
            · rw [if_pos e2, if_pos (by omega)]
            · rw [if_neg e2, if_neg (by omega)]
      have Hb2 : Hid (Below w.heap.size w w2) := (Hb1.out.setCell (p := ⟨w.heap.size + 1 + 1, k, none⟩) (by simp; omega) _).trans (hb2.mono (by have := Hb1.out.size; simp; omega))
      clear hb2 KA1 KB1 KD1 Hb1 fd cd hS1 hS2
      simp only [Act.put]
      go_wp2_with fail
      go_roundw
      case rel => exact ⟨k + 1, by omega, by go_num, rfl, KA2.out, KB2.out, KD2.out, Hb2.out⟩
      case measure => simp [intOf]; omega
    · obtain rfl : k = 4 := by omega
      have KD' : Hid (Blk wr (w.heap.size + 1 + 1) 33 (magC (A + top256 - B))) := by
        have := KD.out
        rw [digs_congr (g := wd (A + top256 - B))] at this
        · exact this
        · intro j hj; exact if_pos hj
      have c0 := KD'.out.cell 0; have c1 := KD'.out.cell 1; have c2 := KD'.out.cell 2; have c3 := KD'.out.cell 3
      simp at c0 c1 c2 c3
      have f0 := KD'.out.frozen 0; have f1 := KD'.out.frozen 1; have f2 := KD'.out.frozen 2; have f3 := KD'.out.frozen 3
      go_wp2_with fail
      refine bodyPost_ret (results_cell_tmp rfl _ _ (w.heap.size + 1 + 1) 33 (magC (A + top256 - B)) _ rfl (by with_reducible exact blk_set4 KD'.out _ _ _ _) Tryd.underlying33 rfl (by kernel_rfl)) rfl ⟨by rw [HF.out]; rfl, ?_⟩
      have := Hb.out
      go_grown

set_option maxHeartbeats 2000000 in
set_option maxRecDepth 100000 in
theorem widePlus_at (A B : Nat) (hA : A < top256) (hB : B < top256) (hS : A + B < top256) (w : World) :
    Calls Tryd.prog 71 #[.agg (magC A), .agg (magC B)] w fun e w' => e = .returned (.tuple #[.agg (magC (A + B)), .int .u64 (0 : Nat)]) ∧ Below w.heap.size w w' := by
  have HB := Lib.hid (blk_start3 w 33 33 33 (magC A) (magC B) (digs 4 (fun _ => 0)))
  have HF := Lib.hid (cry_all A B hA hB hS)
  have HR : Hid (∀ k, k < 4 → ∀ w, (callFunc 89 #[.int .u64 (wd A k : Nat), .int .u64 (wd B k : Nat), .int .u64 (cry A B k : Nat)]).run Tryd.prog w = .ok (.value (.tuple #[.int .u64 (wd (A + B) k : Nat), .int .u64 (cry A B (k + 1) : Nat)])) w) := fun k _ w => by
    rw [(add_step A B k).1, (add_step A B k).2]; exact add64_at _ _ _ (cry_le A B k) w
  clear hA hB hS
  go_enter Tryd.func71, Tryd.ntmps71
  go_wp2_with fail
  go_loopw [5, 7] (fun c i wr => ∃ k : Nat, k ≤ 4 ∧ i = .int .i64 k ∧ c = .int .u64 (cry A B k : Nat) ∧ Hid (Blk wr w.heap.size 33 (magC A)) ∧ Hid (Blk wr (w.heap.size + 1) 33 (magC B)) ∧ Hid (Blk wr (w.heap.size + 1 + 1) 33 (digs 4 (fun j => if j < k then wd (A + B) j else 0))) ∧ Hid (Below w.heap.size w wr)) (fun _ i _ => 4 - (intOf i).toNat)
  case atStart => exact ⟨0, by omega, rfl, by rw [cry_zero]; rfl, HB.out.1, HB.out.2.1, HB.out.2.2, by unfold Hid; go_grown⟩
  case round =>
    obtain ⟨k, hk, rfl, rfl, KA, KB, KD, Hb⟩ := hrel
    clear HB
    by_cases hk4 : k < 4
    · have i0 : (0 : Int) ≤ (k : Int) := by omega
      have i1 : (k : Int) < 4 := by omega
      have R := HR.out k hk4
      have hB : w.heap.size + 1 + 1 ≤ wr.heap.size := by have := KD.out.lt; omega
      have k0 := keepB (B := w.heap.size + 1 + 1) ((KA.out.cell k).trans (magC_get A k hk4)) (by simp; omega)
      have k1 := keepB (B := w.heap.size + 1 + 1) ((KB.out.cell k).trans (magC_get B k hk4)) (by simp)
      go_wp2_with fail
      refine wp_region_Kn (n := 15) (S := fun w' => Below (w.heap.size + 1 + 1) wr w') rfl (by kernel_rfl) ?_
      have hS0 : Below (w.heap.size + 1 + 1) wr { wr with drawn := wr.drawn + 1 } := (Below.refl _ _).drew
      refine wpAnyK_take (i := 0) (oi := _) (v := ?_) rfl (by kernel_rfl) (by kernel_rfl) (by kernel_rfl) (fun _ _ _ h => h) (fun _ _ h k => h.trans (k.mono (Nat.le_trans hB h.size))) (yields_read (by rfl) ?hy0) hS0 ?_
      rotate_left
      case hy0 =>
        intro w' hSw
        go_simp
        try with_reducible rfl
      simp only [Act.put]
      refine wpAnyK_take (i := 1) (oi := _) (v := ?_) rfl (by kernel_rfl) (by kernel_rfl) (by kernel_rfl) (fun _ _ _ h => h) (fun _ _ h k => h.trans (k.mono (Nat.le_trans hB h.size))) (yields_read (by rfl) ?hy1) hS0 ?_
      rotate_left
      case hy1 =>
        intro w' hSw
        go_simp
        try with_reducible rfl
      simp only [Act.put]
      refine wpAnyK_take (i := 2) (oi := _) (v := ?_) rfl (by kernel_rfl) (by kernel_rfl) (by kernel_rfl) (fun _ _ _ h => h) (fun _ _ h k => h.trans (k.mono (Nat.le_trans hB h.size))) (yields_read (by rfl) ?hy2) hS0 ?_
      rotate_left
      case hy2 =>
        intro w' hSw
        go_simp
        try with_reducible rfl
      simp only [Act.put]
      refine wpAnyK_take (i := 3) (oi := _) (v := ?_) rfl (by kernel_rfl) (by kernel_rfl) (by kernel_rfl) (fun _ _ _ h => h) (fun _ _ h k => h.trans (k.mono (Nat.le_trans hB h.size))) (yields_read (by rfl) ?hy3) hS0 ?_
      rotate_left
      case hy3 =>
        intro w' hSw
        go_simp
        try with_reducible rfl
      simp only [Act.put]
      refine wpAnyK_take (i := 4) (oi := _) (v := ?_) rfl (by kernel_rfl) (by kernel_rfl) (by kernel_rfl) (fun _ _ _ h => h) (fun _ _ h k => h.trans (k.mono (Nat.le_trans hB h.size))) (yields_read (by rfl) ?hy4) hS0 ?_
      rotate_left
      case hy4 =>
        intro w' hSw
        go_simp
        try with_reducible rfl
      simp only [Act.put]
      refine wpAnyK_take (i := 5) (oi := _) (v := ?_) rfl (by kernel_rfl) (by kernel_rfl) (by kernel_rfl) (fun _ _ _ h => h) (fun _ _ h k => h.trans (k.mono (Nat.le_trans hB h.size))) (yields_read (by rfl) ?hy5) hS0 ?_
      rotate_left
      case hy5 =>
        intro w' hSw
        go_simp
        try with_reducible rfl
      simp only [Act.put]
      refine wpAnyK_take (i := 6) (oi := _) (v := ?_) rfl (by kernel_rfl) (by kernel_rfl) (by kernel_rfl) (fun _ _ _ h => h) (fun _ _ h k => h.trans (k.mono (Nat.le_trans hB h.size))) (yields_read (by rfl) ?hy6) hS0 ?_
      rotate_left
      case hy6 =>
        intro w' hSw
        go_simp
        try with_reducible rfl
      simp only [Act.put]
      refine wpAnyK_take (i := 7) (oi := _) (v := ?_) rfl (by kernel_rfl) (by kernel_rfl) (by kernel_rfl) (fun _ _ _ h => h) (fun _ _ h k => h.trans (k.mono (Nat.le_trans hB h.size))) (yields_read (by rfl) ?hy7) hS0 ?_
      rotate_left
      case hy7 =>
        intro w' hSw
        go_simp
        try with_reducible rfl
      simp only [Act.put]
      refine wpAnyK_take (i := 8) (oi := _) (v := ?_) rfl (by kernel_rfl) (by kernel_rfl) (by kernel_rfl) (fun _ _ _ h => h) (fun _ _ h k => h.trans (k.mono (Nat.le_trans hB h.size))) (yields_read (by rfl) ?hy8) hS0 ?_
      rotate_left
      case hy8 =>
        intro w' hSw
        go_simp
        try with_reducible rfl
      simp only [Act.put]
      refine wpAnyK_take (i := 9) (oi := _) (v := ?_) rfl (by kernel_rfl) (by kernel_rfl) (by kernel_rfl) (fun _ _ _ h => h) (fun _ _ h k => h.trans (k.mono (Nat.le_trans hB h.size))) (yields_read (by rfl) ?hy9) hS0 ?_
      rotate_left
      case hy9 =>
        intro w' hSw
        go_simp
        try with_reducible rfl
      simp only [Act.put]
      refine wpAnyK_take (i := 10) (oi := _) (v := ?_) rfl (by kernel_rfl) (by kernel_rfl) (by kernel_rfl) (fun _ _ _ h => h) (fun _ _ h k => h.trans (k.mono (Nat.le_trans hB h.size))) (yields_read (by rfl) ?hy10) hS0 ?_
      rotate_left
      case hy10 =>
        intro w' hSw
        go_simp
        try with_reducible rfl
      simp only [Act.put]
      refine wpAnyK_take (i := 11) (oi := _) (v := ?_) rfl (by kernel_rfl) (by kernel_rfl) (by kernel_rfl) (fun _ _ _ h => h) (fun _ _ h k => h.trans (k.mono (Nat.le_trans hB h.size))) (yields_read (by rfl) ?hy11) hS0 ?_
      rotate_left
      case hy11 =>
        intro w' hSw
        go_simp
        try with_reducible rfl
      simp only [Act.put]
      refine wpAnyK_take (i := 12) (oi := _) (v := ?_) rfl (by kernel_rfl) (by kernel_rfl) (by kernel_rfl) (fun _ _ _ h => h) (fun _ _ h k => h.trans (k.mono (Nat.le_trans hB h.size))) (yields_read (by rfl) ?hy12) hS0 ?_
      rotate_left
      case hy12 =>
        intro w' hSw
        go_simp
        try with_reducible rfl
      simp only [Act.put]
      clear k0 k1 R
      refine wpAnyK_one (i := 13) (o := _) (by kernel_rfl) rfl (by rfl) ?_
      intro w1 hb0
      have hb1 : Below wr.heap.size wr w1 := Below.later (Below.refl _ wr).drew hb0
      have KA1 : Hid (Blk w1 w.heap.size 33 (magC A)) := KA.out.below hb1 KA.out.lt
      have KB1 : Hid (Blk w1 (w.heap.size + 1) 33 (magC B)) := KB.out.below hb1 KB.out.lt
      have KD1 : Hid (Blk w1 (w.heap.size + 1 + 1) 33 (digs 4 (fun j => if j < k then wd (A + B) j else 0))) := KD.out.below hb1 KD.out.lt
      have Hb1 : Hid (Below w.heap.size w w1) := Hb.out.trans (hb1.mono Hb.out.size)
      have hS1 := Lib.hid (hS0.trans (hb0.mono hB))
      have fd : w1.frozen? ⟨w.heap.size + 1 + 1, k, none⟩ = false := KD1.out.frozen _
      have cd : w1.cell? ⟨w.heap.size + 1 + 1, k, none⟩ = some (.int .u64 (0 : Nat)) := (KD1.out.cell _).trans ((digs_get _ hk4).trans (by rw [if_neg (by omega)]))
      clear hb0 hb1 KA KB KD Hb hS0
      go_simp
      have hS2 : Hid (Below (w.heap.size + 1 + 1) wr (w1.setCell ⟨w.heap.size + 1 + 1, k, none⟩ (.int .u64 (wd (A + B) k : Nat)))) := hS1.out.setCell (Nat.le_refl _) _
      refine ⟨hS2.out, ?_⟩
      refine wpAnyK_next (i := 14) (v := ?_) (by kernel_rfl) rfl (by rfl) (fun _ _ h k => h.trans (k.mono (Nat.le_trans hB h.size))) hS2.out ?hn ?_
      rotate_left
      case hn =>
        intro w' hSw
        go_simp
        try with_reducible rfl
      refine wpAnyK_done (by kernel_rfl) ?_ _
      intro w2 hb2
      have KA2 : Hid (Blk w2 w.heap.size 33 (magC A)) := by
        have := KA1.out.far (p := ⟨w.heap.size + 1 + 1, k, none⟩) (by simp; omega) (.int .u64 (wd (A + B) k : Nat))
        exact this.below hb2 this.lt
      have KB2 : Hid (Blk w2 (w.heap.size + 1) 33 (magC B)) := by
        have := KB1.out.far (p := ⟨w.heap.size + 1 + 1, k, none⟩) (by simp) (.int .u64 (wd (A + B) k : Nat))
        exact this.below hb2 this.lt
      have KD2 : Hid (Blk w2 (w.heap.size + 1 + 1) 33 (digs 4 (fun j => if j < k + 1 then wd (A + B) j else 0))) := by
        have := KD1.out.set_ k (.int .u64 (wd (A + B) k : Nat))
        rw [digs_set _ hk4, digs_congr (g := fun j => if j < k + 1 then wd (A + B) j else 0)] at this
        · exact this.below hb2 this.lt
        · intro j _
          by_cases e : j = k
          · rw [if_pos e, e, if_pos (by omega)]
          · rw [if_neg e]
            by_cases e2 : j < k
            · rw [if_pos e2, if_pos (by omega)]
            · rw [if_neg e2, if_neg (by omega)]
      have Hb2 : Hid (Below w.heap.size w w2) := (Hb1.out.setCell (p := ⟨w.heap.size + 1 + 1, k, none⟩) (by simp; omega) _).trans (hb2.mono (by have := Hb1.out.size; simp; omega))
      clear hb2 KA1 KB1 KD1 Hb1 fd cd hS1 hS2
      simp only [Act.put]
      go_wp2_with fail
      go_roundw
      case rel => exact ⟨k + 1, by omega, by go_num, rfl, KA2.out, KB2.out, KD2.out, Hb2.out⟩
      case measure => simp [intOf]; omega
    · obtain rfl : k = 4 := by omega
      have KD' : Hid (Blk wr (w.heap.size + 1 + 1) 33 (magC (A + B))) := by
        have := KD.out
        rw [digs_congr (g := wd (A + B))] at this
        · exact this
        · intro j hj; exact if_pos hj
      have c0 := KD'.out.cell 0; have c1 := KD'.out.cell 1; have c2 := KD'.out.cell 2; have c3 := KD'.out.cell 3
      simp at c0 c1 c2 c3
      have f0 := KD'.out.frozen 0; have f1 := KD'.out.frozen 1; have f2 := KD'.out.frozen 2; have f3 := KD'.out.frozen 3
      go_wp2_with fail
      refine bodyPost_ret (results_cell_tmp rfl _ _ (w.heap.size + 1 + 1) 33 (magC (A + B)) _ rfl (by with_reducible exact blk_set4 KD'.out _ _ _ _) Tryd.underlying33 rfl (by kernel_rfl)) rfl ⟨by rw [HF.out]; rfl, ?_⟩
      have := Hb.out
      go_grown

end Go.Proofs.YtfgeocpooimojaaDoor
