/-
  Functions of the reference of wide integers: join of a magnitude, and Of. Conditions: as each theorem states them.
-/
import Derived.Test.YtfgeocpooimojaaDoorQPfWeightCentres02
import Derived.Test.YtfgeocpooimojaaDoorQPfWeightCentres03
namespace Go.Proofs.YtfgeocpooimojaaDoor
open Go Go.RowKit

def wideTo (M k : Nat) : Array Value := #[.bool false, .int .u64 (if 0 < k then wd M 0 else 0 : Nat), .int .u64 (if 1 < k then wd M 1 else 0 : Nat), .int .u64 (if 2 < k then wd M 2 else 0 : Nat), .int .u64 (if 3 < k then wd M 3 else 0 : Nat)]
theorem wideTo_set (M k : Nat) (h : k < 4) : (wideTo M k).setIfInBounds (1 + k) (.int .u64 (wd M k : Nat)) = wideTo M (k + 1) := by
  have : k = 0 ∨ k = 1 ∨ k = 2 ∨ k = 3 := by omega
  rcases this with rfl | rfl | rfl | rfl <;> rfl
theorem wideTo_get (M k : Nat) (h : k < 4) : (wideTo M k)[1 + k]? = some (.int .u64 (0 : Nat)) := by
  have : k = 0 ∨ k = 1 ∨ k = 2 ∨ k = 3 := by omega
  rcases this with rfl | rfl | rfl | rfl <;> rfl
theorem wideTo_end (M : Nat) : wideTo M 4 = wideC false M := rfl
theorem join_word (M k : Nat) : IntKind.u64.wrap (((dig M (2 * k) : Nat) : Int) + IntKind.u64.wrap (4294967296 * ((dig M (2 * k + 1) : Nat) : Int))) = ((wd M k : Nat) : Int) := by
  have h := wd_join M k
  have h1 := dig_lt M (2 * k)
  have h2 := dig_lt M (2 * k + 1)
  have h3 := wd_lt M k
  rw [IntKind.wrap_u64, IntKind.wrap_u64]
  omega
theorem blk_set5' {w : World} {g : Nat} {t : TypeId} {a0 a1 a2 a3 a4 : Value} (h : Blk w g t #[a0, a1, a2, a3, a4]) (b0 b1 b2 b3 b4 : Value) :
    Blk (((((w.setCell ⟨g, 0, none⟩ b0).setCell ⟨g, 1, none⟩ b1).setCell ⟨g, 2, none⟩ b2).setCell ⟨g, 3, none⟩ b3).setCell ⟨g, 4, none⟩ b4) g t #[b0, b1, b2, b3, b4] :=
  ((((h.set_ 0 b0).set_ 1 b1).set_ 2 b2).set_ 3 b3).set_ 4 b4
set_option maxHeartbeats 1000000 in
theorem refJoin_at (M : Nat) (w : World) : Calls Tryd.prog 67 #[.bool false, .agg (digs 8 (dig M))] w fun e w' => e = .returned (.agg (wideC false M)) ∧ Below w.heap.size w w' := by
  have HB := Lib.hid (blk_start3 w 92 35 35 (digs 8 (dig M)) (wideTo M 0) (wideTo M 0))
  go_enter Tryd.func67, Tryd.ntmps67
  go_wp2_with fail
  go_loopw [6] (fun i wr => ∃ k : Nat, k ≤ 4 ∧ i = .int .i64 k ∧ Hid (Blk wr w.heap.size 92 (digs 8 (dig M))) ∧ Hid (Blk wr (w.heap.size + 1) 35 (wideTo M 0)) ∧ Hid (Blk wr (w.heap.size + 1 + 1) 35 (wideTo M k)) ∧ Hid (Below w.heap.size w wr)) (fun i _ => 4 - (intOf i).toNat)
  case atStart => exact ⟨0, by omega, rfl, HB.out.1, HB.out.2.1, HB.out.2.2, by unfold Hid; go_grown⟩
  case round =>
    obtain ⟨k, hk, rfl, HX, HR, HD, Hb⟩ := hrel
    clear HB
    by_cases hk4 : k < 4
    · have i0 : (0 : Int) ≤ (k : Int) := by omega
      have i1 : (k : Int) < 4 := by omega
      have c0 : wr.cell? ⟨w.heap.size, 2 * k, none⟩ = some (.int .u64 (dig M (2 * k) : Nat)) := (HX.out.cell _).trans (digs_get _ (by omega))
      have c1 : wr.cell? ⟨w.heap.size, 2 * k + 1, none⟩ = some (.int .u64 (dig M (2 * k + 1) : Nat)) := (HX.out.cell _).trans (digs_get _ (by omega))
      have fd : wr.frozen? ⟨w.heap.size + 1 + 1, 1 + k, none⟩ = false := HD.out.frozen _
      have cd : wr.cell? ⟨w.heap.size + 1 + 1, 1 + k, none⟩ = some (.int .u64 (0 : Nat)) := (HD.out.cell _).trans (wideTo_get M k hk4)
      go_wp2_with fail
      have k0 := keepB (B := w.heap.size + 1 + 1) c0 (by simp; omega)
      have k1 := keepB (B := w.heap.size + 1 + 1) c1 (by simp; omega)
      have hB : w.heap.size + 1 + 1 ≤ wr.heap.size := by have := HD.out.lt; omega
      clear c0 c1 fd cd
      have q1 : IntKind.i64.wrap (2 * (k : Int)) = 2 * (k : Int) := IntWalk.i64_in _ ⟨by omega, by omega⟩
      have q2 : IntKind.i64.wrap (2 * (k : Int) + 1) = 2 * (k : Int) + 1 := IntWalk.i64_in _ ⟨by omega, by omega⟩
      have q3 : (2 * (k : Int)).toNat = 2 * k := by omega
      have q4 : (2 * (k : Int) + 1).toNat = 2 * k + 1 := by omega
      have q5 : 0 ≤ 2 * (k : Int) := by omega
      have q6 : 2 * (k : Int) < 8 := by omega
      have q7 : 0 ≤ 2 * (k : Int) + 1 := by omega
      have q8 : 2 * (k : Int) + 1 < 8 := by omega
      refine wp_region_Kn (n := 15) (S := fun w' => Below (w.heap.size + 1 + 1) wr w') rfl (by kernel_rfl) ?_
      have hS0 : Below (w.heap.size + 1 + 1) wr { wr with drawn := wr.drawn + 1 } := (Below.refl _ _).drew
      refine wpAnyK_take (i := 0) (oi := _) (v := ?_) rfl (by kernel_rfl) (by kernel_rfl) (by kernel_rfl) (fun _ _ _ h => h) (fun _ _ h k => h.trans (k.mono (Nat.le_trans hB h.size))) (yields_read (by rfl) ?hy0) hS0 ?_
      rotate_left
      case hy0 =>
        intro w' hSw
        go_simp
        try with_reducible rfl
      simp only [Act.put]
      refine wpAnyK_take (i := 1) (oi := _) (v := ?_) rfl (by kernel_rfl) (by kernel_rfl) (by kernel_rfl) (fun _ _ _ h => h) (fun _ _ h k => h.trans (k.mono (Nat.le_trans hB h.size))) (yields_read (by rfl) ?hy1) hS0 ?_
      rotate_left
      case hy1 =>
        intro w' hSw
        go_simp
        try with_reducible rfl
      simp only [Act.put]
      refine wpAnyK_take (i := 2) (oi := _) (v := ?_) rfl (by kernel_rfl) (by kernel_rfl) (by kernel_rfl) (fun _ _ _ h => h) (fun _ _ h k => h.trans (k.mono (Nat.le_trans hB h.size))) (yields_read (by rfl) ?hy2) hS0 ?_
      rotate_left
      case hy2 =>
        intro w' hSw
        go_simp
        try with_reducible rfl
      simp only [Act.put]
      refine wpAnyK_take (i := 3) (oi := _) (v := ?_) rfl (by kernel_rfl) (by kernel_rfl) (by kernel_rfl) (fun _ _ _ h => h) (fun _ _ h k => h.trans (k.mono (Nat.le_trans hB h.size))) (yields_read (by rfl) ?hy3) hS0 ?_
      rotate_left
      case hy3 =>
        intro w' hSw
        go_simp
        try with_reducible rfl
      simp only [Act.put]
      refine wpAnyK_take (i := 4) (oi := _) (v := ?_) rfl (by kernel_rfl) (by kernel_rfl) (by kernel_rfl) (fun _ _ _ h => h) (fun _ _ h k => h.trans (k.mono (Nat.le_trans hB h.size))) (yields_read (by rfl) ?hy4) hS0 ?_
      rotate_left
      case hy4 =>
        intro w' hSw
        go_simp
        try with_reducible rfl
      simp only [Act.put]
      refine wpAnyK_take (i := 5) (oi := _) (v := ?_) rfl (by kernel_rfl) (by kernel_rfl) (by kernel_rfl) (fun _ _ _ h => h) (fun _ _ h k => h.trans (k.mono (Nat.le_trans hB h.size))) (yields_read (by rfl) ?hy5) hS0 ?_
      rotate_left
      case hy5 =>
        intro w' hSw
        go_simp
        try with_reducible rfl
      simp only [Act.put]
      refine wpAnyK_take (i := 6) (oi := _) (v := ?_) rfl (by kernel_rfl) (by kernel_rfl) (by kernel_rfl) (fun _ _ _ h => h) (fun _ _ h k => h.trans (k.mono (Nat.le_trans hB h.size))) (yields_read (by rfl) ?hy6) hS0 ?_
      rotate_left
      case hy6 =>
        intro w' hSw
        go_simp
        try with_reducible rfl
      simp only [Act.put]
      refine wpAnyK_take (i := 7) (oi := _) (v := ?_) rfl (by kernel_rfl) (by kernel_rfl) (by kernel_rfl) (fun _ _ _ h => h) (fun _ _ h k => h.trans (k.mono (Nat.le_trans hB h.size))) (yields_read (by rfl) ?hy7) hS0 ?_
      rotate_left
      case hy7 =>
        intro w' hSw
        go_simp
        try with_reducible rfl
      simp only [Act.put]
      refine wpAnyK_take (i := 8) (oi := _) (v := ?_) rfl (by kernel_rfl) (by kernel_rfl) (by kernel_rfl) (fun _ _ _ h => h) (fun _ _ h k => h.trans (k.mono (Nat.le_trans hB h.size))) (yields_read (by rfl) ?hy8) hS0 ?_
      rotate_left
      case hy8 =>
        intro w' hSw
        go_simp
        try with_reducible rfl
      simp only [Act.put]
      refine wpAnyK_take (i := 9) (oi := _) (v := ?_) rfl (by kernel_rfl) (by kernel_rfl) (by kernel_rfl) (fun _ _ _ h => h) (fun _ _ h k => h.trans (k.mono (Nat.le_trans hB h.size))) (yields_read (by rfl) ?hy9) hS0 ?_
      rotate_left
      case hy9 =>
        intro w' hSw
        go_simp
        try with_reducible rfl
      simp only [Act.put]
      refine wpAnyK_take (i := 10) (oi := _) (v := ?_) rfl (by kernel_rfl) (by kernel_rfl) (by kernel_rfl) (fun _ _ _ h => h) (fun _ _ h k => h.trans (k.mono (Nat.le_trans hB h.size))) (yields_read (by rfl) ?hy10) hS0 ?_
      rotate_left
      case hy10 =>
        intro w' hSw
        go_simp
        try with_reducible rfl
      simp only [Act.put]
      refine wpAnyK_take (i := 11) (oi := _) (v := ?_) rfl (by kernel_rfl) (by kernel_rfl) (by kernel_rfl) (fun _ _ _ h => h) (fun _ _ h k => h.trans (k.mono (Nat.le_trans hB h.size))) (yields_read (by rfl) ?hy11) hS0 ?_
      rotate_left
      case hy11 =>
        intro w' hSw
        go_simp
        try with_reducible rfl
      simp only [Act.put]
      refine wpAnyK_take (i := 12) (oi := _) (v := ?_) rfl (by kernel_rfl) (by kernel_rfl) (by kernel_rfl) (fun _ _ _ h => h) (fun _ _ h k => h.trans (k.mono (Nat.le_trans hB h.size))) (yields_read (by rfl) ?hy12) hS0 ?_
      rotate_left
      case hy12 =>
        intro w' hSw
        go_simp
        try with_reducible rfl
      simp only [Act.put]
      refine wpAnyK_take (i := 13) (oi := _) (v := ?_) rfl (by kernel_rfl) (by kernel_rfl) (by kernel_rfl) (fun _ _ _ h => h) (fun _ _ h k => h.trans (k.mono (Nat.le_trans hB h.size))) (yields_read (by rfl) ?hy13) hS0 ?_
      rotate_left
      case hy13 =>
        intro w' hSw
        go_simp
        try with_reducible rfl
      simp only [Act.put]
      refine wpAnyK_one (i := 14) (o := _) (by kernel_rfl) rfl (by rfl) ?_
      intro w1 hb0
      have hb1 : Below wr.heap.size wr w1 := Below.later (Below.refl _ wr).drew hb0
      have HD1 : Hid (Blk w1 (w.heap.size + 1 + 1) 35 (wideTo M k)) := HD.out.below hb1 HD.out.lt
      have HX1 : Hid (Blk w1 w.heap.size 92 (digs 8 (dig M))) := HX.out.below hb1 HX.out.lt
      have HR1 : Hid (Blk w1 (w.heap.size + 1) 35 (wideTo M 0)) := HR.out.below hb1 HR.out.lt
      have Hb1 : Hid (Below w.heap.size w w1) := Hb.out.trans (hb1.mono Hb.out.size)
      have hS1 := Lib.hid (hS0.trans (hb0.mono hB))
      have fd : w1.frozen? ⟨w.heap.size + 1 + 1, 1 + k, none⟩ = false := HD1.out.frozen _
      have cd : w1.cell? ⟨w.heap.size + 1 + 1, 1 + k, none⟩ = some (.int .u64 (0 : Nat)) := (HD1.out.cell _).trans (wideTo_get M k hk4)
      clear hb0 hb1 HD HX HR Hb k0 k1 q1 q2 q3 q4 q5 q6 q7 q8 hS0
      go_simp
      rw [join_word]
      refine ⟨hS1.out.setCell (Nat.le_refl _) _, wpAnyK_done (by kernel_rfl) ?_ _⟩
      intro w2 hb2
      have HD2 : Hid (Blk w2 (w.heap.size + 1 + 1) 35 (wideTo M (k + 1))) := by
        have := HD1.out.set_ (1 + k) (.int .u64 (wd M k : Nat))
        rw [wideTo_set M k hk4] at this
        exact this.below hb2 this.lt
      have HX2 : Hid (Blk w2 w.heap.size 92 (digs 8 (dig M))) := by
        have := HX1.out.far (p := ⟨w.heap.size + 1 + 1, 1 + k, none⟩) (by simp; omega) (.int .u64 (wd M k : Nat))
        exact this.below hb2 this.lt
      have HR2 : Hid (Blk w2 (w.heap.size + 1) 35 (wideTo M 0)) := by
        have := HR1.out.far (p := ⟨w.heap.size + 1 + 1, 1 + k, none⟩) (by simp) (.int .u64 (wd M k : Nat))
        exact this.below hb2 this.lt
      have Hb2 : Hid (Below w.heap.size w w2) := (Hb1.out.setCell (p := ⟨w.heap.size + 1 + 1, 1 + k, none⟩) (by simp; omega) _).trans (hb2.mono (by have := Hb1.out.size; simp; omega))
      clear hb2 HD1 HX1 HR1 Hb1 fd cd hS1
      go_wp2_with fail
      go_roundw
      case rel => exact ⟨k + 1, by omega, by go_num, HX2.out, HR2.out, HD2.out, Hb2.out⟩
      case measure => simp [intOf]; omega
    · obtain rfl : k = 4 := by omega
      rw [wideTo_end] at HD
      have c0 := HD.out.cell 0; have c1 := HD.out.cell 1; have c2 := HD.out.cell 2; have c3 := HD.out.cell 3; have c4 := HD.out.cell 4
      have r0 := HR.out.cell 0; have r1 := HR.out.cell 1; have r2 := HR.out.cell 2; have r3 := HR.out.cell 3; have r4 := HR.out.cell 4
      simp [wideTo] at c0 c1 c2 c3 c4 r0 r1 r2 r3 r4
      have f0 := HR.out.frozen 0; have f1 := HR.out.frozen 1; have f2 := HR.out.frozen 2; have f3 := HR.out.frozen 3; have f4 := HR.out.frozen 4
      have g0 := HD.out.frozen 0
      go_wp2_with fail
      refine bodyPost_ret (results_cell_one rfl _ _ (w.heap.size + 1) 35 (wideC false M) _ rfl (by with_reducible exact blk_set5' (HR.out.far (p := ⟨w.heap.size + 1 + 1, 0, none⟩) (by simp) _) _ _ _ _ _) Tryd.underlying35 rfl (by kernel_rfl)) rfl ⟨rfl, ?_⟩
      have := Hb.out
      go_grown
end Go.Proofs.YtfgeocpooimojaaDoor
