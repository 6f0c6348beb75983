/-
  WeightSums returns true: Check, Add and Sum of weights return what is specified. Conditions: the arguments are two weights and a slice of weights.
-/
import Derived.Test.YtfgeocpooimojaaDoorRadd
import Derived.Test.YtfgeocpooimojaaDoorAwake
namespace Go.Proofs.YtfgeocpooimojaaDoor
open Go Go.RowKit

set_option maxHeartbeats 4000000 in
set_option maxRecDepth 100000 in
theorem weightSums_true (a b : Wt) (ha : a.In) (hb : b.In) (A : Option Addr) (n c : Nat) (l : List Wt) (w : World) (hr : Reads w w.heap.size 5 A n (wtCells l)) (hln : l.length = n) (hI : ∀ a ∈ l, a.In) (hmax : n ≤ 9223372036854775807) :
    Calls Tryd.prog 3 #[.agg #[.int .i64 a.m, .int .i64 a.x, .int .i64 a.y, .int .i64 a.z, .int .i64 a.v], .agg #[.int .i64 b.m, .int .i64 b.x, .int .i64 b.y, .int .i64 b.z, .int .i64 b.v], .slice A n c] w fun e w' => e = .returned (.bool true) ∧ Below w.heap.size w w' := by
  have Hr := Lib.hid hr; clear hr
  have HI := Lib.hid hI; clear hI
  have Hln := Lib.hid hln; clear hln
  have Ha := Lib.hid ha; clear ha
  have Hbb := Lib.hid hb; clear hb
  by_cases hn : 300 < n
  · go_enter Tryd.func3, Tryd.ntmps3
    go_wp2_with (go_at_call 8; refine (awake_true _).mono ?_; rintro e w1 ⟨rfl, hb⟩)
    go_ret
    exact ⟨rfl, Below.trans (by go_grown) (hb.mono (by simp; omega))⟩
  have hn0 : decide (300 < (n : Int)) = false := by simp; omega
  have HC1 : Hid (∀ W, Calls Tryd.prog 9 #[.agg #[.int .i64 a.m, .int .i64 a.x, .int .i64 a.y, .int .i64 a.z, .int .i64 a.v], .agg #[.int .i64 b.m, .int .i64 b.x, .int .i64 b.y, .int .i64 b.z, .int .i64 b.v]] W fun e w' => e = .returned (.tuple #[.agg #[.int .i64 (sumVal [a, b]).m, .int .i64 (sumVal [a, b]).x, .int .i64 (sumVal [a, b]).y, .int .i64 (sumVal [a, b]).z, .int .i64 (sumVal [a, b]).v], .int .i64 (sumErr [a, b])]) ∧ Below W.heap.size W w') := fun W => weightAdd_any a b Ha.out Hbb.out W
  have HC2 : Hid (∀ W, Calls Tryd.prog 10 #[.agg #[.int .i64 a.m, .int .i64 a.x, .int .i64 a.y, .int .i64 a.z, .int .i64 a.v], .agg #[.int .i64 b.m, .int .i64 b.x, .int .i64 b.y, .int .i64 b.z, .int .i64 b.v]] W fun e w' => e = .returned (.tuple #[.agg #[.int .i64 (sumVal [a, b]).m, .int .i64 (sumVal [a, b]).x, .int .i64 (sumVal [a, b]).y, .int .i64 (sumVal [a, b]).z, .int .i64 (sumVal [a, b]).v], .int .i64 (sumErr [a, b])]) ∧ Below W.heap.size W w') := fun W => refAdd_any a b Ha.out Hbb.out W
  have HC3 : Hid (∀ W, Reads W W.heap.size 5 A n (wtCells l) → Calls Tryd.prog 11 #[.slice A n c] W fun e w' => e = .returned (.tuple #[.agg #[.int .i64 (sumVal l).m, .int .i64 (sumVal l).x, .int .i64 (sumVal l).y, .int .i64 (sumVal l).z, .int .i64 (sumVal l).v], .int .i64 (sumErr l)]) ∧ Below W.heap.size W w') := fun W h => weightSum_any A n c l W h Hln.out (by omega) HI.out
  have HC4 : Hid (∀ W, Reads W W.heap.size 5 A n (wtCells l) → Calls Tryd.prog 12 #[.slice A n c] W fun e w' => e = .returned (.tuple #[.agg #[.int .i64 (sumVal l).m, .int .i64 (sumVal l).x, .int .i64 (sumVal l).y, .int .i64 (sumVal l).z, .int .i64 (sumVal l).v], .int .i64 (sumErr l)]) ∧ Below W.heap.size W w') := fun W h => refSum_any A n c l W h Hln.out (by omega) HI.out
  clear Ha Hbb HI Hln
  generalize (sumVal [a, b]).m = V0 at *
  generalize (sumVal [a, b]).x = V1 at *
  generalize (sumVal [a, b]).y = V2 at *
  generalize (sumVal [a, b]).z = V3 at *
  generalize (sumVal [a, b]).v = V4 at *
  generalize sumErr [a, b] = V5 at *
  generalize (sumVal l).m = U0 at *
  generalize (sumVal l).x = U1 at *
  generalize (sumVal l).y = U2 at *
  generalize (sumVal l).z = U3 at *
  generalize (sumVal l).v = U4 at *
  generalize sumErr l = U5 at *
  go_enter Tryd.func3, Tryd.ntmps3
  go_wp2_with fail
  refine (HC1.out _).mono ?_
  rintro e w1 ⟨rfl, hb1⟩
  have K0 : Blk ((w.alloc (.cells #[.int .i64 a.m, .int .i64 a.x, .int .i64 a.y, .int .i64 a.z, .int .i64 a.v] 23)).alloc (.cells #[.int .i64 b.m, .int .i64 b.x, .int .i64 b.y, .int .i64 b.z, .int .i64 b.v] 23)) w.heap.size 23 #[.int .i64 a.m, .int .i64 a.x, .int .i64 a.y, .int .i64 a.z, .int .i64 a.v] := (Blk.new w _ _).alloc _
  have K1 : Blk ((w.alloc (.cells #[.int .i64 a.m, .int .i64 a.x, .int .i64 a.y, .int .i64 a.z, .int .i64 a.v] 23)).alloc (.cells #[.int .i64 b.m, .int .i64 b.x, .int .i64 b.y, .int .i64 b.z, .int .i64 b.v] 23)) (w.heap.size + 1) 23 #[.int .i64 b.m, .int .i64 b.x, .int .i64 b.y, .int .i64 b.z, .int .i64 b.v] := by
    have := Blk.new (w.alloc (.cells #[.int .i64 a.m, .int .i64 a.x, .int .i64 a.y, .int .i64 a.z, .int .i64 a.v] 23)) 23 #[.int .i64 b.m, .int .i64 b.x, .int .i64 b.y, .int .i64 b.z, .int .i64 b.v]
    simpa using this
  have KA : Hid (Blk w1 w.heap.size 23 #[.int .i64 a.m, .int .i64 a.x, .int .i64 a.y, .int .i64 a.z, .int .i64 a.v]) := Lib.hid (K0.below hb1 K0.lt)
  have KB : Hid (Blk w1 (w.heap.size + 1) 23 #[.int .i64 b.m, .int .i64 b.x, .int .i64 b.y, .int .i64 b.z, .int .i64 b.v]) := Lib.hid (K1.below hb1 K1.lt)
  have Hb1 : Hid (Below w.heap.size w w1) := Lib.hid (Below.trans (by go_grown) (hb1.mono (by simp; omega)))
  clear hb1 K0 K1 HC1
  have lA := KA.out.lt
  have lB := KB.out.lt
  have a0 := KA.out.cell 0
  have a1 := KA.out.cell 1
  have a2 := KA.out.cell 2
  have a3 := KA.out.cell 3
  have a4 := KA.out.cell 4
  simp at a0 a1 a2 a3 a4
  have b0 := KB.out.cell 0
  have b1 := KB.out.cell 1
  have b2 := KB.out.cell 2
  have b3 := KB.out.cell 3
  have b4 := KB.out.cell 4
  simp at b0 b1 b2 b3 b4
  go_wp2_with fail
  refine (HC2.out _).mono ?_
  rintro e w2 ⟨rfl, hb2⟩
  clear a0 a1 a2 a3 a4 b0 b1 b2 b3 b4 lA lB
  have KA2 : Hid (Blk w2 w.heap.size 23 #[.int .i64 a.m, .int .i64 a.x, .int .i64 a.y, .int .i64 a.z, .int .i64 a.v]) := Lib.hid ((KA.out.alloc _).below hb2 (KA.out.alloc _).lt)
  have KV : Hid (Blk w2 w1.heap.size 23 #[.int .i64 V0, .int .i64 V1, .int .i64 V2, .int .i64 V3, .int .i64 V4]) := Lib.hid ((Blk.new w1 _ _).below hb2 (Blk.new w1 _ _).lt)
  have Hb2 : Hid (Below w.heap.size w w2) := Lib.hid (Below.trans (Hb1.out.alloc Hb1.out.size _) (hb2.mono (by have := Hb1.out.size; simp; omega)))
  clear hb2 HC2 KA KB Hb1
  go_wp2_with fail
  have Hr3 := Lib.hid (((Hr.out.below Hb2.out).more Hb2.out.size).alloc (Nat.le_refl _) (.cells #[.int .i64 V0, .int .i64 V1, .int .i64 V2, .int .i64 V3, .int .i64 V4] 23))
  refine (HC3.out _ (Hr3.out.more (by simp))).mono ?_
  rintro e w3 ⟨rfl, hb3⟩
  have KA3 : Hid (Blk w3 w.heap.size 23 #[.int .i64 a.m, .int .i64 a.x, .int .i64 a.y, .int .i64 a.z, .int .i64 a.v]) := Lib.hid ((KA2.out.alloc _).below hb3 (KA2.out.alloc _).lt)
  have KV3 : Hid (Blk w3 w1.heap.size 23 #[.int .i64 V0, .int .i64 V1, .int .i64 V2, .int .i64 V3, .int .i64 V4]) := Lib.hid ((KV.out.alloc _).below hb3 (KV.out.alloc _).lt)
  have KY3 : Hid (Blk w3 w2.heap.size 23 #[.int .i64 V0, .int .i64 V1, .int .i64 V2, .int .i64 V3, .int .i64 V4]) := Lib.hid ((Blk.new w2 _ _).below hb3 (Blk.new w2 _ _).lt)
  have Hb3 : Hid (Below w.heap.size w w3) := Lib.hid (Below.trans (Hb2.out.alloc Hb2.out.size _) (hb3.mono (by have := Hb2.out.size; simp; omega)))
  clear hb3 HC3 KA2 KV Hb2 Hr3
  go_wp2_with fail
  have Hr4 := Lib.hid (((Hr.out.below Hb3.out).more Hb3.out.size).alloc (Nat.le_refl _) (.cells #[.int .i64 U0, .int .i64 U1, .int .i64 U2, .int .i64 U3, .int .i64 U4] 23))
  refine (HC4.out _ (Hr4.out.more (by simp))).mono ?_
  rintro e w4 ⟨rfl, hb4⟩
  have KA4 : Hid (Blk (w4.alloc (.cells #[.int .i64 U0, .int .i64 U1, .int .i64 U2, .int .i64 U3, .int .i64 U4] 23)) w.heap.size 23 #[.int .i64 a.m, .int .i64 a.x, .int .i64 a.y, .int .i64 a.z, .int .i64 a.v]) := Lib.hid (((KA3.out.alloc _).below hb4 (KA3.out.alloc _).lt).alloc _)
  have KV4 : Hid (Blk (w4.alloc (.cells #[.int .i64 U0, .int .i64 U1, .int .i64 U2, .int .i64 U3, .int .i64 U4] 23)) w1.heap.size 23 #[.int .i64 V0, .int .i64 V1, .int .i64 V2, .int .i64 V3, .int .i64 V4]) := Lib.hid (((KV3.out.alloc _).below hb4 (KV3.out.alloc _).lt).alloc _)
  have KY4 : Hid (Blk (w4.alloc (.cells #[.int .i64 U0, .int .i64 U1, .int .i64 U2, .int .i64 U3, .int .i64 U4] 23)) w2.heap.size 23 #[.int .i64 V0, .int .i64 V1, .int .i64 V2, .int .i64 V3, .int .i64 V4]) := Lib.hid (((KY3.out.alloc _).below hb4 (KY3.out.alloc _).lt).alloc _)
  have KS4 : Hid (Blk (w4.alloc (.cells #[.int .i64 U0, .int .i64 U1, .int .i64 U2, .int .i64 U3, .int .i64 U4] 23)) w3.heap.size 23 #[.int .i64 U0, .int .i64 U1, .int .i64 U2, .int .i64 U3, .int .i64 U4]) := Lib.hid (((Blk.new w3 _ _).below hb4 (Blk.new w3 _ _).lt).alloc _)
  have KT4 : Hid (Blk (w4.alloc (.cells #[.int .i64 U0, .int .i64 U1, .int .i64 U2, .int .i64 U3, .int .i64 U4] 23)) w4.heap.size 23 #[.int .i64 U0, .int .i64 U1, .int .i64 U2, .int .i64 U3, .int .i64 U4]) := Lib.hid (Blk.new w4 _ _)
  have Hb4' : Below w.heap.size w w4 := Below.trans (Hb3.out.alloc Hb3.out.size _) (hb4.mono (by have := Hb3.out.size; simp; omega))
  have Hb4 : Hid (Below w.heap.size w (w4.alloc (.cells #[.int .i64 U0, .int .i64 U1, .int .i64 U2, .int .i64 U3, .int .i64 U4] 23))) := Lib.hid (Hb4'.alloc Hb4'.size _)
  clear hb4 HC4 KA3 KV3 KY3 Hb3 Hr4 Hb4' Hr
  go_wp2_with fail
  generalize w4.alloc (.cells #[.int .i64 U0, .int .i64 U1, .int .i64 U2, .int .i64 U3, .int .i64 U4] 23) = W at *
  have lA := KA4.out.lt
  have lV := KV4.out.lt
  have lY := KY4.out.lt
  have lS := KS4.out.lt
  have lT := KT4.out.lt
  have a0 := KA4.out.cell 0
  have a1 := KA4.out.cell 1
  have a2 := KA4.out.cell 2
  have a3 := KA4.out.cell 3
  have a4 := KA4.out.cell 4
  simp at a0 a1 a2 a3 a4
  have v0 := KV4.out.cell 0
  have v1 := KV4.out.cell 1
  have v2 := KV4.out.cell 2
  have v3 := KV4.out.cell 3
  have v4 := KV4.out.cell 4
  simp at v0 v1 v2 v3 v4
  have y0 := KY4.out.cell 0
  have y1 := KY4.out.cell 1
  have y2 := KY4.out.cell 2
  have y3 := KY4.out.cell 3
  have y4 := KY4.out.cell 4
  simp at y0 y1 y2 y3 y4
  have s0 := KS4.out.cell 0
  have s1 := KS4.out.cell 1
  have s2 := KS4.out.cell 2
  have s3 := KS4.out.cell 3
  have s4 := KS4.out.cell 4
  simp at s0 s1 s2 s3 s4
  have t0 := KT4.out.cell 0
  have t1 := KT4.out.cell 1
  have t2 := KT4.out.cell 2
  have t3 := KT4.out.cell 3
  have t4 := KT4.out.cell 4
  simp at t0 t1 t2 t3 t4
  have lc := @later_cell W
  refine wp_region_later (by kernel_rfl) (by kernel_rfl) ?_
  repeat (go_big_quiet_step (first | (go_at_call 13; exact later_call (check_any _ _ _ _ _ _)) | (go_at_call 14; exact later_call (refCheck_any _ _ _ _ _ _)) | (go_at_call 8; exact later_call (awake_true _))))
  refine wpQuiet_nil ?_
  intro _ hw'
  obtain ⟨u, rfl⟩ := hw'
  have Hb5 := Lib.hid (Hb4.out.trans (u.property.mono Hb4.out.size))
  generalize u.val = w5 at *
  go_wp2_with fail
  go_ret
  exact ⟨rfl, Hb5.out⟩
end Go.Proofs.YtfgeocpooimojaaDoor
