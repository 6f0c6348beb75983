/-
  What Add of package weight returns. Conditions: as each theorem states them.
-/
import Derived.Test.YtfgeocpooimojaaDoorWadc
namespace Go.Proofs.YtfgeocpooimojaaDoor
open Go Go.RowKit

theorem four_new (w : World) (o1 o2 : Obj) (cs cs2 : Array Value) (t t2 : TypeId) : Blk ((((w.alloc o1).alloc o2).alloc (.cells cs t)).alloc (.cells cs2 t2)) (w.heap.size + 1 + 1) t cs ∧
    Blk ((((w.alloc o1).alloc o2).alloc (.cells cs t)).alloc (.cells cs2 t2)) (w.heap.size + 1 + 1 + 1) t2 cs2 ∧ Below w.heap.size w ((((w.alloc o1).alloc o2).alloc (.cells cs t)).alloc (.cells cs2 t2)) ∧
    ((((w.alloc o1).alloc o2).alloc (.cells cs t)).alloc (.cells cs2 t2)).heap.size = w.heap.size + 1 + 1 + 1 + 1 := by
  refine ⟨?_, ?_, by go_grown, by simp⟩
  · have := (Blk.new ((w.alloc o1).alloc o2) t cs).alloc (.cells cs2 t2)
    simpa using this
  · have := Blk.new (((w.alloc o1).alloc o2).alloc (.cells cs t)) t2 cs2
    simpa using this
theorem blk_reads {w : World} {g n size : Nat} {t : TypeId} {cs : Array Value} (h : Blk w g t cs) (hs : cs.size = n * size) : Reads w w.heap.size size (some ⟨g, 0, none⟩) n cs.toList := by
  refine ⟨by simpa using hs, fun _ => ⟨_, rfl, h.lt, fun j u hu => ?_⟩⟩
  have e : (⟨g, 0, none⟩ : Addr).add j = ⟨g, j, none⟩ := by unfold Addr.add; split <;> simp_all
  rw [e, h.cell j]
  simpa using hu
theorem Wt.val_eq (a : Wt) : a.val = .agg #[.int .i64 a.m, .int .i64 a.x, .int .i64 a.y, .int .i64 a.z, .int .i64 a.v] := rfl
set_option maxHeartbeats 2000000 in
theorem weightAdd_any (a b : Wt) (ha : a.In) (hb : b.In) (w : World) :
    Calls Tryd.prog 9 #[a.val, b.val] w fun e w' => e = .returned (.tuple #[(sumVal [a, b]).val, .int .i64 (sumErr [a, b])]) ∧ Below w.heap.size w w' := by
  have HI : Hid (∀ x ∈ [a, b], x.In) := by unfold Hid; intro x hx; simp at hx; rcases hx with rfl | rfl <;> assumption
  clear ha hb
  have HF := Lib.hid (four_new w (.cells a.cells.toArray 23) (.cells b.cells.toArray 23) zeroW.cells.toArray (a.cells ++ b.cells).toArray 23 23)
  have HV : Hid ((sumVal [a, b]).val = .agg #[.int .i64 (sumVal [a, b]).m, .int .i64 (sumVal [a, b]).x, .int .i64 (sumVal [a, b]).y, .int .i64 (sumVal [a, b]).z, .int .i64 (sumVal [a, b]).v]) := rfl
  rw [a.val_eq, b.val_eq]
  go_enter Tryd.func9, Tryd.ntmps9
  go_wp2_with fail
  refine (weightSum_any (some ⟨w.heap.size + 1 + 1 + 1, 0, none⟩) 2 2 [a, b] _ (blk_reads (n := 2) HF.out.2.1 rfl) rfl (by omega) HI.out).mono ?_
  rintro e w1 ⟨rfl, hb1⟩
  have HB1 := Lib.hid (HF.out.1.below hb1 HF.out.1.lt)
  have Hb1 := Lib.hid (HF.out.2.2.1.trans (hb1.mono (by rw [HF.out.2.2.2]; omega)))
  clear hb1 HF HI
  rw [HV.out]
  have z0 := HB1.out.cell 0; have z1 := HB1.out.cell 1; have z2 := HB1.out.cell 2; have z3 := HB1.out.cell 3; have z4 := HB1.out.cell 4; simp [Wt.cells] at z0 z1 z2 z3 z4
  have f0 := HB1.out.frozen 0; have f1 := HB1.out.frozen 1; have f2 := HB1.out.frozen 2; have f3 := HB1.out.frozen 3; have f4 := HB1.out.frozen 4
  generalize (sumVal [a, b]).m = V0 at *
  generalize (sumVal [a, b]).x = V1 at *
  generalize (sumVal [a, b]).y = V2 at *
  generalize (sumVal [a, b]).z = V3 at *
  generalize (sumVal [a, b]).v = V4 at *
  go_wp2_with fail
  refine bodyPost_ret (results_cell_tmp rfl _ _ (w.heap.size + 1 + 1) 23 #[.int .i64 V0, .int .i64 V1, .int .i64 V2, .int .i64 V3, .int .i64 V4] _ rfl (by with_reducible exact blk_set5 HB1.out _ _ _ _ _) Tryd.underlying23 rfl (by kernel_rfl)) rfl ⟨by rw [HV.out]; rfl, ?_⟩
  have Hb' := Hb1.out
  go_grown
end Go.Proofs.YtfgeocpooimojaaDoor
