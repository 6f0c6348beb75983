/-
  WeightScales returns true: Weighed and Agrees return what is specified. Conditions: the arguments are a weighing and two weights.
-/
import Derived.Test.YtfgeocpooimojaaDoorRwgh
import Derived.Test.YtfgeocpooimojaaDoorRagr
import Derived.Test.YtfgeocpooimojaaDoorAwake
namespace Go.Proofs.YtfgeocpooimojaaDoor
open Go Go.RowKit

theorem agr_swap (a b : Wt) : agrB b a = agrB a b := by
  unfold agrB sqd
  rw [Bool.and_comm b.okB, show (b.m - a.m) * (b.m - a.m) = (a.m - b.m) * (a.m - b.m) by rw [← Int.neg_sub a.m b.m, Int.neg_mul_neg], Int.add_comm b.v]
theorem agr_self (v : Wt) : (chkE v.m v.x v.y v.z v.v == 0) = agrB v v := by
  unfold agrB
  cases h : v.okB
  · rw [chk_no h]; rfl
  · rw [chk_yes h]
    have := ((okW_iff _ _ _ _ _).1 h).2.1.1
    have e : sqd v v = 0 := by unfold sqd; rw [Int.sub_self]; rfl
    rw [e]
    simp
    omega
set_option maxHeartbeats 4000000 in
set_option maxRecDepth 100000 in
theorem weightScales_true (bl : ByteArray) (at' m x y z s : Int) (sl : Option Addr) (n c : Nat) (a b : Wt) (w : World) :
    Calls Tryd.prog 5 #[.agg #[.string bl, .int .i64 at', .int .i64 m, .int .i64 x, .int .i64 y, .int .i64 z, .int .i64 s, .slice sl n c], .agg #[.int .i64 a.m, .int .i64 a.x, .int .i64 a.y, .int .i64 a.z, .int .i64 a.v], .agg #[.int .i64 b.m, .int .i64 b.x, .int .i64 b.y, .int .i64 b.z, .int .i64 b.v]] w fun e w' => e = .returned (.bool true) ∧ Below w.heap.size w w' := by
  have C1 : Hid (∀ W, Calls Tryd.prog 23 #[.agg #[.string bl, .int .i64 at', .int .i64 m, .int .i64 x, .int .i64 y, .int .i64 z, .int .i64 s, .slice sl n c]] W fun e w' => e = .returned (.tuple #[.agg #[.int .i64 (wghV m x y z s).m, .int .i64 (wghV m x y z s).x, .int .i64 (wghV m x y z s).y, .int .i64 (wghV m x y z s).z, .int .i64 (wghV m x y z s).v], .int .i64 (wghE m x y z s)]) ∧ Below W.heap.size W w') := fun W => weighed_below bl at' m x y z s sl n c W
  have C2 : Hid (∀ W, Calls Tryd.prog 24 #[.agg #[.string bl, .int .i64 at', .int .i64 m, .int .i64 x, .int .i64 y, .int .i64 z, .int .i64 s, .slice sl n c]] W fun e w' => e = .returned (.tuple #[.agg #[.int .i64 (wghV m x y z s).m, .int .i64 (wghV m x y z s).x, .int .i64 (wghV m x y z s).y, .int .i64 (wghV m x y z s).z, .int .i64 (wghV m x y z s).v], .int .i64 (wghE m x y z s)]) ∧ Below W.heap.size W w') := fun W => refWeighed_below bl at' m x y z s sl n c W
  have CA : Hid (∀ W, Calls Tryd.prog 25 #[.agg #[.int .i64 a.m, .int .i64 a.x, .int .i64 a.y, .int .i64 a.z, .int .i64 a.v], .agg #[.int .i64 b.m, .int .i64 b.x, .int .i64 b.y, .int .i64 b.z, .int .i64 b.v]] W fun e w' => e = .returned (.bool (agrB a b)) ∧ Below W.heap.size W w') := fun W => agrees_below a b W
  have CB : Hid (∀ W, Calls Tryd.prog 25 #[.agg #[.int .i64 b.m, .int .i64 b.x, .int .i64 b.y, .int .i64 b.z, .int .i64 b.v], .agg #[.int .i64 a.m, .int .i64 a.x, .int .i64 a.y, .int .i64 a.z, .int .i64 a.v]] W fun e w' => e = .returned (.bool (agrB a b)) ∧ Below W.heap.size W w') := fun W => by
    rw [← agr_swap]; exact agrees_below b a W
  have RA : Hid (∀ W, Calls Tryd.prog 26 #[.agg #[.int .i64 a.m, .int .i64 a.x, .int .i64 a.y, .int .i64 a.z, .int .i64 a.v], .agg #[.int .i64 b.m, .int .i64 b.x, .int .i64 b.y, .int .i64 b.z, .int .i64 b.v]] W fun e w' => e = .returned (.bool (agrB a b)) ∧ Below W.heap.size W w') := fun W => refAgrees_below a b W
  have CW : Hid (∀ W, Calls Tryd.prog 25 #[.agg #[.int .i64 (wghV m x y z s).m, .int .i64 (wghV m x y z s).x, .int .i64 (wghV m x y z s).y, .int .i64 (wghV m x y z s).z, .int .i64 (wghV m x y z s).v], .agg #[.int .i64 (wghV m x y z s).m, .int .i64 (wghV m x y z s).x, .int .i64 (wghV m x y z s).y, .int .i64 (wghV m x y z s).z, .int .i64 (wghV m x y z s).v]] W fun e w' => e = .returned (.bool (agrB (wghV m x y z s) (wghV m x y z s))) ∧ Below W.heap.size W w') := fun W => agrees_below (wghV m x y z s) (wghV m x y z s) W
  have RC : Hid (∀ W, Calls Tryd.prog 14 #[.agg #[.int .i64 (wghV m x y z s).m, .int .i64 (wghV m x y z s).x, .int .i64 (wghV m x y z s).y, .int .i64 (wghV m x y z s).z, .int .i64 (wghV m x y z s).v]] W fun e w' => e = .returned (.int .i64 (chkE (wghV m x y z s).m (wghV m x y z s).x (wghV m x y z s).y (wghV m x y z s).z (wghV m x y z s).v)) ∧ Below W.heap.size W w') := fun W => refCheck_any _ _ _ _ _ W
  have hC := agr_self (wghV m x y z s)
  generalize agrB (wghV m x y z s) (wghV m x y z s) = G2 at *
  generalize chkE (wghV m x y z s).m (wghV m x y z s).x (wghV m x y z s).y (wghV m x y z s).z (wghV m x y z s).v = C at *
  generalize (wghV m x y z s).m = V0 at *
  generalize (wghV m x y z s).x = V1 at *
  generalize (wghV m x y z s).y = V2 at *
  generalize (wghV m x y z s).z = V3 at *
  generalize (wghV m x y z s).v = V4 at *
  generalize wghE m x y z s = V5 at *
  generalize agrB a b = G1 at *
  have K := Lib.hid (blk_start3 w 49 23 23 #[.string bl, .int .i64 at', .int .i64 m, .int .i64 x, .int .i64 y, .int .i64 z, .int .i64 s, .slice sl n c] #[.int .i64 a.m, .int .i64 a.x, .int .i64 a.y, .int .i64 a.z, .int .i64 a.v] #[.int .i64 b.m, .int .i64 b.x, .int .i64 b.y, .int .i64 b.z, .int .i64 b.v])
  have HC := Lib.hid hC
  clear hC
  go_enter Tryd.func5, Tryd.ntmps5
  go_wp2_with fail
  refine (C1.out _).mono ?_
  rintro e w1 ⟨rfl, hb1⟩
  have KX := Lib.hid (K.out.1.below hb1 K.out.1.lt)
  have KA := Lib.hid (K.out.2.1.below hb1 K.out.2.1.lt)
  have KB := Lib.hid (K.out.2.2.below hb1 K.out.2.2.lt)
  have Hb1 : Hid (Below w.heap.size w w1) := Lib.hid (Below.trans (by go_grown) (hb1.mono (by simp; omega)))
  clear hb1 K C1
  have lX := KX.out.lt
  have x0 := KX.out.cell 0
  have x1 := KX.out.cell 1
  have x2 := KX.out.cell 2
  have x3 := KX.out.cell 3
  have x4 := KX.out.cell 4
  have x5 := KX.out.cell 5
  have x6 := KX.out.cell 6
  have x7 := KX.out.cell 7
  simp at x0 x1 x2 x3 x4 x5 x6 x7
  go_wp2_with fail
  refine (C2.out _).mono ?_
  rintro e w2 ⟨rfl, hb2⟩
  clear x0 x1 x2 x3 x4 x5 x6 x7 lX
  have KA2 := Lib.hid (((KA.out.alloc _).below hb2 (KA.out.alloc _).lt).alloc (.cells #[.int .i64 V0, .int .i64 V1, .int .i64 V2, .int .i64 V3, .int .i64 V4] 23))
  have KB2 := Lib.hid (((KB.out.alloc _).below hb2 (KB.out.alloc _).lt).alloc (.cells #[.int .i64 V0, .int .i64 V1, .int .i64 V2, .int .i64 V3, .int .i64 V4] 23))
  have KV2 := Lib.hid (((Blk.new w1 _ _).below hb2 (Blk.new w1 _ _).lt).alloc (.cells #[.int .i64 V0, .int .i64 V1, .int .i64 V2, .int .i64 V3, .int .i64 V4] 23))
  have KY2 := Lib.hid (Blk.new w2 23 #[.int .i64 V0, .int .i64 V1, .int .i64 V2, .int .i64 V3, .int .i64 V4])
  have hb2' : Below w.heap.size w w2 := (Hb1.out.alloc Hb1.out.size _).trans (hb2.mono (by have := Hb1.out.size; simp; omega))
  have Hb2 := Lib.hid (hb2'.alloc hb2'.size (.cells #[.int .i64 V0, .int .i64 V1, .int .i64 V2, .int .i64 V3, .int .i64 V4] 23))
  clear hb2 hb2' KX KA KB Hb1 C2
  go_wp2_with fail
  generalize w2.alloc (.cells #[.int .i64 V0, .int .i64 V1, .int .i64 V2, .int .i64 V3, .int .i64 V4] 23) = W at *
  have lA := KA2.out.lt
  have lB := KB2.out.lt
  have lV := KV2.out.lt
  have lY := KY2.out.lt
  have a0 := KA2.out.cell 0
  have a1 := KA2.out.cell 1
  have a2 := KA2.out.cell 2
  have a3 := KA2.out.cell 3
  have a4 := KA2.out.cell 4
  simp at a0 a1 a2 a3 a4
  have b0 := KB2.out.cell 0
  have b1 := KB2.out.cell 1
  have b2 := KB2.out.cell 2
  have b3 := KB2.out.cell 3
  have b4 := KB2.out.cell 4
  simp at b0 b1 b2 b3 b4
  have v0 := KV2.out.cell 0
  have v1 := KV2.out.cell 1
  have v2 := KV2.out.cell 2
  have v3 := KV2.out.cell 3
  have v4 := KV2.out.cell 4
  simp at v0 v1 v2 v3 v4
  have y0 := KY2.out.cell 0
  have y1 := KY2.out.cell 1
  have y2 := KY2.out.cell 2
  have y3 := KY2.out.cell 3
  have y4 := KY2.out.cell 4
  simp at y0 y1 y2 y3 y4
  have lc := @later_cell W
  have hC := HC.out
  refine wp_region_later (by kernel_rfl) (by kernel_rfl) ?_
  repeat (go_big_quiet_step (first | (go_at_call 25; (first | with_reducible exact later_call (CA.out _) | with_reducible exact later_call (CB.out _) | with_reducible exact later_call (CW.out _))) | (go_at_call 26; exact later_call (RA.out _)) | (go_at_call 14; exact later_call (RC.out _)) | (go_at_call 8; exact later_call (awake_true _))))
  refine wpQuiet_nil ?_
  intro _ hw'
  obtain ⟨u, rfl⟩ := hw'
  have Hb5 := Lib.hid (Hb2.out.trans (u.property.mono Hb2.out.size))
  generalize u.val = w5 at *
  go_wp2_with fail
  go_ret
  exact ⟨rfl, Hb5.out⟩
end Go.Proofs.YtfgeocpooimojaaDoor
