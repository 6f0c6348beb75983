/-
  What Centre of package weight returns where it refuses. Conditions: as each theorem states them.
-/
import Derived.Test.YtfgeocpooimojaaDoorWrestc
namespace Go.Proofs.YtfgeocpooimojaaDoor
open Go Go.RowKit

theorem results_ccct {P : Program} {fn : Func} {p q r t : Tmp} {ty : TypeId} (h : fn.results = #[.cell p ty, .cell q ty, .cell r ty, .tmp t]) (tmps : Array Value) (w : World) (g1 g2 g3 : Nat) (t1 t2 t3 : TypeId) (c1 c2 c3 : Array Value) (d : TypeDesc)
    (hp : tmps.getD p undef = .pointer (some ⟨g1, 0, none⟩)) (hq : tmps.getD q undef = .pointer (some ⟨g2, 0, none⟩)) (hr : tmps.getD r undef = .pointer (some ⟨g3, 0, none⟩))
    (b1 : Blk w g1 t1 c1) (b2 : Blk w g2 t2 c2) (b3 : Blk w g3 t3 c3) (hu : P.underlying ty = some d) (hd : (match d with | .struct _ | .array _ _ => true | _ => false) = true)
    (i1 : (P.info? ty).map (·.size) = some c1.size) (i2 : (P.info? ty).map (·.size) = some c2.size) (i3 : (P.info? ty).map (·.size) = some c3.size) :
    (results fn tmps).run P w = .ok (.tuple #[.agg c1, .agg c2, .agg c3, tmps.getD t undef]) w := by
  have hp' : tmps[p]?.getD undef = .pointer (some ⟨g1, 0, none⟩) := by simpa using hp
  have hq' : tmps[q]?.getD undef = .pointer (some ⟨g2, 0, none⟩) := by simpa using hq
  have hr' : tmps[r]?.getD undef = .pointer (some ⟨g3, 0, none⟩) := by simpa using hr
  simp [results, h, hp', hq', hr', asAddr, run_loadVar_row w g1 t1 ty c1 (0, 0) d b1 hu hd i1, run_loadVar_row w g2 t2 ty c2 (0, 0) d b2 hu hd i2, run_loadVar_row w g3 t3 ty c3 (0, 0) d b3 hu hd i3]
abbrev ratZ : Array Value := #[.bool false, .int .u64 0, .int .u64 0, .int .u64 0, .int .u64 0, .bool false, .int .u64 0, .int .u64 0, .int .u64 0, .int .u64 0]
theorem blk_n3 (w : World) (o : Obj) (t : TypeId) (c1 c2 c3 : Array Value) (o4 o5 : Obj) : Blk ((((((w.alloc o).alloc (.cells c1 t)).alloc (.cells c2 t)).alloc (.cells c3 t)).alloc o4).alloc o5) (w.heap.size + 1) t c1 ∧
    Blk ((((((w.alloc o).alloc (.cells c1 t)).alloc (.cells c2 t)).alloc (.cells c3 t)).alloc o4).alloc o5) (w.heap.size + 1 + 1) t c2 ∧ Blk ((((((w.alloc o).alloc (.cells c1 t)).alloc (.cells c2 t)).alloc (.cells c3 t)).alloc o4).alloc o5) (w.heap.size + 1 + 1 + 1) t c3 := by
  have h1 := ((((Blk.new (w.alloc o) t c1).alloc (.cells c2 t)).alloc (.cells c3 t)).alloc o4).alloc o5
  have h2 := (((Blk.new ((w.alloc o).alloc (.cells c1 t)) t c2).alloc (.cells c3 t)).alloc o4).alloc o5
  have h3 := ((Blk.new (((w.alloc o).alloc (.cells c1 t)).alloc (.cells c2 t)) t c3).alloc o4).alloc o5
  refine ⟨?_, ?_, ?_⟩
  · simpa using h1
  · simpa using h2
  · simpa using h3
set_option maxHeartbeats 2000000 in
theorem centre_no (a : Wt) (hd : divE a ≠ 0) (w : World) : Calls Tryd.prog 15 #[.agg #[.int .i64 a.m, .int .i64 a.x, .int .i64 a.y, .int .i64 a.z, .int .i64 a.v]] w fun e w' =>
    e = .returned (.tuple #[.agg ratZ, .agg ratZ, .agg ratZ, .int .i64 (divE a)]) ∧ Below w.heap.size w w' := by
  have g : (divE a != 0) = true := by simpa using hd
  clear hd
  go_enter Tryd.func15, Tryd.ntmps15
  go_wp2_with (go_at_call 32; refine (divisible_at _ _).mono ?_; rintro e w' ⟨rfl, rfl⟩)
  refine bodyPost_ret (results_ccct rfl _ _ (w.heap.size + 1) (w.heap.size + 1 + 1) (w.heap.size + 1 + 1 + 1) 37 37 37 ratZ ratZ ratZ _ rfl rfl rfl (by with_reducible exact (blk_n3 _ _ _ _ _ _ _ _).1) (by with_reducible exact (blk_n3 _ _ _ _ _ _ _ _).2.1) (by with_reducible exact (blk_n3 _ _ _ _ _ _ _ _).2.2) Tryd.underlying37 rfl (by kernel_rfl) (by kernel_rfl) (by kernel_rfl)) rfl ⟨rfl, by go_grown⟩
end Go.Proofs.YtfgeocpooimojaaDoor
