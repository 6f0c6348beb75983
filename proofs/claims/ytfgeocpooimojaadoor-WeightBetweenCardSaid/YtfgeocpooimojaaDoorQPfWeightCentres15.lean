/-
  What Sum and Add of package weight return. Conditions: as each theorem states them. What Add of package weight returns. Conditions: as each theorem states them. Natural numbers as slices of digits (reference of ratios): small. Conditions: as each theorem states them. Natural numbers as slices of digits (reference of ratios): compare. Conditions: as each theorem states them.
-/
import Derived.Test.YtfgeocpooimojaaDoorQPfWeightCentres14
import Derived.Test.YtfgeocpooimojaaDoorQPfWeightCentres01
import Derived.Test.YtfgeocpooimojaaDoorQPfWeightCentres11
import Derived.Test.YtfgeocpooimojaaDoorQPfWeightCentres02
namespace Go.Proofs.YtfgeocpooimojaaDoor
open Go Go.RowKit

def Wt.err (a : Wt) : Int := if a.okB then 0 else 9
/-- What Sum returns: the error, and the weight. -/
def sumErr (l : List Wt) : Int := if l.all Wt.okB then sumX l else 9
def sumVal (l : List Wt) : Wt := if l.all Wt.okB then sumR l else zeroW
theorem allOk_take (l : List Wt) (k : Nat) (a : Wt) (h : l[k]? = some a) (hk : (l.take k).all Wt.okB = true) (ha : a.okB = true) : (l.take (k + 1)).all Wt.okB = true := by
  rw [List.take_add_one, h]; simp [List.all_append, ha]; simpa using hk
theorem allOk_not (l : List Wt) (k : Nat) (a : Wt) (h : l[k]? = some a) (ha : a.okB = false) : l.all Wt.okB = false := by
  rw [List.all_eq_false]
  exact ⟨a, List.mem_of_getElem? h, by simp [ha]⟩
set_option maxHeartbeats 2000000 in
theorem weightSum_any (A : Option Addr) (n c : Nat) (l : List Wt) (w : World) (hr : Reads w w.heap.size 5 A n (wtCells l)) (hln : l.length = n) (hn : n ≤ 1000000) (hI : ∀ a ∈ l, a.In) :
    Calls Tryd.prog 11 #[.slice A n c] w fun e w' => e = .returned (.tuple #[(sumVal l).val, .int .i64 (sumErr l)]) ∧ Below w.heap.size w w' := by
  have Hr := Lib.hid hr; clear hr
  have HI := Lib.hid hI; clear hI
  have Hln := Lib.hid hln; clear hln
  have HB := Lib.hid (Blk.new w 23 #[.int .i64 0, .int .i64 0, .int .i64 0, .int .i64 0, .int .i64 0])
  go_enter Tryd.func11, Tryd.ntmps11
  go_wp2_with fail
  go_loopw [8] (fun i wr => ∃ k : Nat, k ≤ n ∧ i = .int .i64 k ∧ Hid ((l.take k).all Wt.okB = true) ∧ Blk wr w.heap.size 23 #[.int .i64 0, .int .i64 0, .int .i64 0, .int .i64 0, .int .i64 0] ∧ Below w.heap.size w wr) (fun i _ => n - (intOf i).toNat)
  case atStart => exact ⟨0, Nat.zero_le _, rfl, by simp [Hid], HB.out, by go_grown⟩
  case round =>
    obtain ⟨k, hk, rfl, HA, hblk, hb⟩ := hrel
    clear HB
    have Hblk := Lib.hid hblk
    have Hb := Lib.hid hb
    have hlt : w.heap.size < wr.heap.size := hblk.lt
    clear hblk hb
    by_cases hkn : k < n
    · obtain ⟨ad, a, rfl, _, ha, c0, c1, c2, c3, c4⟩ := wtReads_at (Hr.out.below Hb.out) hkn
      have hab : ad.block < wr.heap.size := by omega
      cases hok : a.okB
      · have HR : Hid ((sumVal l).val = zeroW.val ∧ sumErr l = 9) := by unfold Hid sumVal sumErr; rw [allOk_not l k a ha hok]; exact ⟨rfl, rfl⟩
        have he : chkE a.m a.x a.y a.z a.v = 9 := by unfold chkE; exact if_neg (by rw [show okW a.m a.x a.y a.z a.v = false from hok]; simp)
        clear ha hok
        have z0 := Hblk.out.cell 0; have z1 := Hblk.out.cell 1; have z2 := Hblk.out.cell 2; have z3 := Hblk.out.cell 3; have z4 := Hblk.out.cell 4
        simp at z0 z1 z2 z3 z4
        have f0 := Hblk.out.frozen 0; have f1 := Hblk.out.frozen 1; have f2 := Hblk.out.frozen 2; have f3 := Hblk.out.frozen 3; have f4 := Hblk.out.frozen 4
        go_wp2_with (go_at_call 13; refine (check_at _ _ _ _ _ _).mono ?_; rintro e w' ⟨rfl, rfl⟩)
        refine bodyPost_ret (results_cell_tmp rfl _ _ w.heap.size 23 #[.int .i64 0, .int .i64 0, .int .i64 0, .int .i64 0, .int .i64 0] _ rfl (by with_reducible exact ((blk_set5 Hblk.out _ _ _ _ _).alloc _).alloc _) Tryd.underlying23 rfl (by kernel_rfl)) rfl ⟨by rw [HR.out.1, HR.out.2]; rfl, ?_⟩
        have Hb' := Hb.out
        have Hz := Hb'.size
        go_grown
      · have he : chkE a.m a.x a.y a.z a.v = 0 := by unfold chkE; exact if_pos hok
        have HA' : Hid ((l.take (k + 1)).all Wt.okB = true) := allOk_take l k a ha HA.out hok
        clear ha hok
        go_wp2_with (go_at_call 13; refine (check_at _ _ _ _ _ _).mono ?_; rintro e w' ⟨rfl, rfl⟩)
        go_roundw
        case rel => exact ⟨k + 1, by omega, by go_num, HA', (Hblk.out.alloc _).alloc _, by have Hb' := Hb.out; have Hz := Hb'.size; go_grown⟩
        case measure => simp [intOf]; omega
    · have hkn' : l.take k = l := List.take_of_length_le (by rw [Hln.out]; omega)
      rw [hkn'] at HA
      clear hkn'
      have HR : Hid ((sumVal l).val = (sumR l).val ∧ sumErr l = sumX l) := by unfold Hid sumVal sumErr; rw [HA.out]; exact ⟨rfl, rfl⟩
      have HC := Lib.hid (wsum_any A n c l wr ((Hr.out.below Hb.out).more (by omega)) Hln.out hn HI.out)
      have HV : Hid ((sumR l).val = .agg #[.int .i64 (sumR l).m, .int .i64 (sumR l).x, .int .i64 (sumR l).y, .int .i64 (sumR l).z, .int .i64 (sumR l).v]) := rfl
      have HC2 : Hid (Calls Tryd.prog 29 #[.slice A n c] wr fun e w' => e = .returned (.tuple #[.agg #[.int .i64 (sumR l).m, .int .i64 (sumR l).x, .int .i64 (sumR l).y, .int .i64 (sumR l).z, .int .i64 (sumR l).v], .int .i64 (sumX l)]) ∧ Below wr.heap.size wr w') := HC.out
      clear HC
      generalize (sumR l).m = V0 at *
      generalize (sumR l).x = V1 at *
      generalize (sumR l).y = V2 at *
      generalize (sumR l).z = V3 at *
      generalize (sumR l).v = V4 at *
      generalize sumX l = V5 at *
      go_wp2_with (go_at_call 29; refine HC2.out.mono ?_; rintro e w1 ⟨rfl, hb1⟩; have HB1 := Lib.hid (Hblk.out.below hb1 Hblk.out.lt); have Hb1 := Lib.hid (Hb.out.trans (hb1.mono (by omega))); have z0 := HB1.out.cell 0; have z1 := HB1.out.cell 1; have z2 := HB1.out.cell 2; have z3 := HB1.out.cell 3; have z4 := HB1.out.cell 4; simp at z0 z1 z2 z3 z4; have f0 := HB1.out.frozen 0; have f1 := HB1.out.frozen 1; have f2 := HB1.out.frozen 2; have f3 := HB1.out.frozen 3; have f4 := HB1.out.frozen 4; clear hb1)
      refine bodyPost_ret (results_cell_tmp rfl _ _ w.heap.size 23 #[.int .i64 V0, .int .i64 V1, .int .i64 V2, .int .i64 V3, .int .i64 V4] _ rfl (by with_reducible exact blk_set5 HB1.out _ _ _ _ _) Tryd.underlying23 rfl (by kernel_rfl)) rfl ⟨by rw [HR.out.1, HR.out.2, HV.out]; rfl, ?_⟩
      have Hb' := Hb1.out
      go_grown
end Go.Proofs.YtfgeocpooimojaaDoor
namespace Go.Proofs.YtfgeocpooimojaaDoor
open Go Go.RowKit

theorem four_new (w : World) (o1 o2 : Obj) (cs cs2 : Array Value) (t t2 : TypeId) : Blk ((((w.alloc o1).alloc o2).alloc (.cells cs t)).alloc (.cells cs2 t2)) (w.heap.size + 1 + 1) t cs ∧
    Blk ((((w.alloc o1).alloc o2).alloc (.cells cs t)).alloc (.cells cs2 t2)) (w.heap.size + 1 + 1 + 1) t2 cs2 ∧ Below w.heap.size w ((((w.alloc o1).alloc o2).alloc (.cells cs t)).alloc (.cells cs2 t2)) ∧
    ((((w.alloc o1).alloc o2).alloc (.cells cs t)).alloc (.cells cs2 t2)).heap.size = w.heap.size + 1 + 1 + 1 + 1 := by
  refine ⟨?_, ?_, by go_grown, by simp⟩
  · have := (Blk.new ((w.alloc o1).alloc o2) t cs).alloc (.cells cs2 t2)
    simpa using this
  · have := Blk.new (((w.alloc o1).alloc o2).alloc (.cells cs t)) t2 cs2
    simpa using this
theorem blk_reads {w : World} {g n size : Nat} {t : TypeId} {cs : Array Value} (h : Blk w g t cs) (hs : cs.size = n * size) : Reads w w.heap.size size (some ⟨g, 0, none⟩) n cs.toList := by
  refine ⟨by simpa using hs, fun _ => ⟨_, rfl, h.lt, fun j u hu => ?_⟩⟩
  have e : (⟨g, 0, none⟩ : Addr).add j = ⟨g, j, none⟩ := by unfold Addr.add; split <;> simp_all
  rw [e, h.cell j]
  simpa using hu
theorem Wt.val_eq (a : Wt) : a.val = .agg #[.int .i64 a.m, .int .i64 a.x, .int .i64 a.y, .int .i64 a.z, .int .i64 a.v] := rfl
set_option maxHeartbeats 2000000 in
theorem weightAdd_any (a b : Wt) (ha : a.In) (hb : b.In) (w : World) :
    Calls Tryd.prog 9 #[a.val, b.val] w fun e w' => e = .returned (.tuple #[(sumVal [a, b]).val, .int .i64 (sumErr [a, b])]) ∧ Below w.heap.size w w' := by
  have HI : Hid (∀ x ∈ [a, b], x.In) := by unfold Hid; intro x hx; simp at hx; rcases hx with rfl | rfl <;> assumption
  clear ha hb
  have HF := Lib.hid (four_new w (.cells a.cells.toArray 23) (.cells b.cells.toArray 23) zeroW.cells.toArray (a.cells ++ b.cells).toArray 23 23)
  have HV : Hid ((sumVal [a, b]).val = .agg #[.int .i64 (sumVal [a, b]).m, .int .i64 (sumVal [a, b]).x, .int .i64 (sumVal [a, b]).y, .int .i64 (sumVal [a, b]).z, .int .i64 (sumVal [a, b]).v]) := rfl
  rw [a.val_eq, b.val_eq]
  go_enter Tryd.func9, Tryd.ntmps9
  go_wp2_with fail
  refine (weightSum_any (some ⟨w.heap.size + 1 + 1 + 1, 0, none⟩) 2 2 [a, b] _ (blk_reads (n := 2) HF.out.2.1 rfl) rfl (by omega) HI.out).mono ?_
  rintro e w1 ⟨rfl, hb1⟩
  have HB1 := Lib.hid (HF.out.1.below hb1 HF.out.1.lt)
  have Hb1 := Lib.hid (HF.out.2.2.1.trans (hb1.mono (by rw [HF.out.2.2.2]; omega)))
  clear hb1 HF HI
  rw [HV.out]
  have z0 := HB1.out.cell 0; have z1 := HB1.out.cell 1; have z2 := HB1.out.cell 2; have z3 := HB1.out.cell 3; have z4 := HB1.out.cell 4; simp [Wt.cells] at z0 z1 z2 z3 z4
  have f0 := HB1.out.frozen 0; have f1 := HB1.out.frozen 1; have f2 := HB1.out.frozen 2; have f3 := HB1.out.frozen 3; have f4 := HB1.out.frozen 4
  generalize (sumVal [a, b]).m = V0 at *
  generalize (sumVal [a, b]).x = V1 at *
  generalize (sumVal [a, b]).y = V2 at *
  generalize (sumVal [a, b]).z = V3 at *
  generalize (sumVal [a, b]).v = V4 at *
  go_wp2_with fail
  refine bodyPost_ret (results_cell_tmp rfl _ _ (w.heap.size + 1 + 1) 23 #[.int .i64 V0, .int .i64 V1, .int .i64 V2, .int .i64 V3, .int .i64 V4] _ rfl (by with_reducible exact blk_set5 HB1.out _ _ _ _ _) Tryd.underlying23 rfl (by kernel_rfl)) rfl ⟨by rw [HV.out]; rfl, ?_⟩
  have Hb' := Hb1.out
  go_grown
end Go.Proofs.YtfgeocpooimojaaDoor
namespace Go.Proofs.YtfgeocpooimojaaDoor
open Go Go.RowKit

set_option maxHeartbeats 1000000 in
theorem small_at (x : Nat) (hx : x < 18446744073709551616) (w : World) : Calls Tryd.prog 86 #[.int .u64 (x : Nat)] w fun e w' =>
    e = .returned (.slice (some ⟨w.heap.size, 0, none⟩) (dl x 2) 2) ∧ w.alloc (.cells #[.int .u32 (dig x 0 : Nat), .int .u32 (dig x 1 : Nat)] 128) = w' := by
  have v1 : bits .and .u64 (x : Int) 4294967295 = (dig x 0 : Int) := by
    have h := bits_and_u64_nat x 4294967295 hx (by decide)
    rw [show (4294967295 : Nat) = 2 ^ 32 - 1 from rfl, Nat.and_two_pow_sub_one_eq_mod] at h
    have e : dig x 0 = x % 2 ^ 32 := by unfold dig; rw [Nat.pow_zero, Nat.div_one]
    rw [e]
    simpa using h
  have v2 : (x : Int) / 4294967296 = (dig x 1 : Int) := by unfold dig; rw [Nat.pow_one]; omega
  have l0 := dig_lt x 0
  have l1 := dig_lt x 1
  have HB := Lib.hid (Blk.new w 128 #[.int .u32 (dig x 0 : Nat), .int .u32 (dig x 1 : Nat)])
  have C : Hid (∀ W, Blk W w.heap.size 128 #[.int .u32 (dig x 0 : Nat), .int .u32 (dig x 1 : Nat)] → Calls Tryd.prog 101 #[.slice (some ⟨w.heap.size, 0, none⟩) 2 2] W fun e w' => e = .returned (.slice (some ⟨w.heap.size, 0, none⟩) (dl x 2) 2) ∧ W = w') := fun W h =>
    trim_at (some ⟨w.heap.size, 0, none⟩) 2 2 x W.heap.size (by omega) (by omega) (by omega) W (blk_reads (n := 2) (size := 1) h rfl)
  clear hx
  go_enter Tryd.func86, Tryd.ntmps86
  go_wp2_with fail
  refine (C.out _ HB.out).mono ?_
  rintro e w' ⟨rfl, rfl⟩
  go_wp2_with fail
  go_ret
  exact ⟨rfl, rfl⟩
end Go.Proofs.YtfgeocpooimojaaDoor
namespace Go.Proofs.YtfgeocpooimojaaDoor
open Go Go.RowKit

/-- N has n digits, the highest of which is not 0. -/
def Trm (n N : Nat) : Prop := N < 4294967296 ^ n ∧ (n = 0 ∨ dig N (n - 1) ≠ 0)
theorem trm_less {n m X Y : Nat} (hX : X < 4294967296 ^ n) (hY : Trm m Y) (h : n < m) : X < Y := by
  rcases hY.2 with h0 | h0
  · omega
  · rcases Nat.lt_or_ge X Y with h1 | h1
    · exact h1
    · exfalso
      exact h0 (dig_high (Nat.lt_of_le_of_lt h1 hX) (by omega))
set_option maxHeartbeats 2000000 in
theorem natCompare_at (A1 A2 : Option Addr) (n m c1 c2 X Y : Nat) (hn : n ≤ 1000000) (hm : m ≤ 1000000) (w : World) (hr1 : Reads w w.heap.size 1 A1 n (dcells n X)) (hr2 : Reads w w.heap.size 1 A2 m (dcells m Y)) (hX : Trm n X) (hY : Trm m Y) :
    Calls Tryd.prog 95 #[.slice A1 n c1, .slice A2 m c2] w fun e w' => e = .returned (.int .i64 (cmpN X Y)) ∧ Below w.heap.size w w' := by
  rcases Nat.lt_trichotomy n m with h | h | h
  · have E : Hid (cmpN X Y = -1) := by unfold Hid cmpN; rw [if_pos (trm_less hX.1 hY h)]
    have b1 : ((n : Int) != (m : Int)) = true := by simp; omega
    have b2 : decide (n < m) = true := by simpa using h
    clear hr1 hr2 hX hY
    go_enter Tryd.func95, Tryd.ntmps95
    go_wp2_with fail
    go_ret
    exact ⟨ret_int E.out.symm, Below.refl _ _⟩
  · subst h
    have HT : Hid (upTo X n = upTo Y n) := by unfold Hid; rw [upTo_top X n hX.1, upTo_top Y n hY.1]
    have b0 : ((n : Int) != (n : Int)) = false := by simp
    have hm' := hm; clear hm hm' hX hY
    go_enter Tryd.func95, Tryd.ntmps95
    go_wp2_with fail
    clear b0
    go_loopw [5] (fun i wr => ∃ k : Nat, k ≤ n ∧ i = .int .i64 ((k : Int) - 1) ∧ Hid (upTo X k = upTo Y k) ∧ Hid (Below w.heap.size w wr)) (fun i _ => (intOf i + 1).toNat)
    case atStart => exact ⟨n, by omega, rfl, HT, by unfold Hid; go_grown⟩
    case round =>
      obtain ⟨k, hk, rfl, HU, Hb⟩ := hrel
      clear HT
      match k, hk, HU with
      | 0, hk, HU =>
        have E : Hid (cmpN X Y = 0) := by unfold Hid; have h : X = Y := by simpa [upTo_zero] using HU.out
                                          rw [h]; exact cmp_same
        go_wp2_with fail
        go_ret
        exact ⟨ret_int E.out.symm, Hb.out⟩
      | m + 1, hk, HU =>
        have e : (((m + 1 : Nat) : Int) - 1) = (m : Int) := by omega
        rw [e]
        clear e
        have i0 : (0 : Int) ≤ (m : Int) := by omega
        have i1 : (m : Int) < (n : Int) := by omega
        obtain ⟨ad, u, rfl, hB, hx, cx⟩ := (hr1.below Hb.out).at_ (k := m) (by omega)
        rw [dcells_get (by omega)] at hx
        cases hx
        obtain ⟨ad2, u2, rfl, hB2, hx2, cy⟩ := (hr2.below Hb.out).at_ (k := m) (by omega)
        rw [dcells_get (by omega)] at hx2
        cases hx2
        have l1 := dig_lt X m
        have l2 := dig_lt Y m
        rcases Nat.lt_trichotomy (dig X m) (dig Y m) with h | h | h
        · have E := Lib.hid (cmp_less HU.out h)
          have b1 : decide (dig X m < dig Y m) = true := by simpa using h
          clear h hr1 hr2
          go_wp2_with fail
          go_quiet (fail)
          go_wp2_with fail
          go_ret
          exact ⟨ret_int E.out.symm, below_drewN Hb.out _⟩
        · have HU' : Hid (upTo X m = upTo Y m) := by unfold Hid; rw [upTo_step X m, upTo_step Y m, HU.out, h]
          have b1 : decide (dig X m < dig Y m) = false := by simp; omega
          have b2 : decide (dig Y m < dig X m) = false := by simp; omega
          clear h
          go_wp2_with fail
          go_quiet (fail)
          have Hb2 : Hid (Below w.heap.size w (wr.drewN nq)) := below_drewN Hb.out nq
          have cx2 : (wr.drewN nq).cell? (ad.add m) = some (.int .u32 (dig X m : Nat)) := cx
          have cy2 : (wr.drewN nq).cell? (ad2.add m) = some (.int .u32 (dig Y m : Nat)) := cy
          clear Hb cx cy
          generalize wr.drewN nq = w2 at *
          go_wp2_with fail
          go_quiet (fail)
          go_wp2_with fail
          go_roundw
          case rel => exact ⟨m, by omega, rfl, HU', below_drewN Hb2.out _⟩
          case measure => simp [intOf]
        · have E := Lib.hid (cmp_more HU.out h)
          have b1 : decide (dig X m < dig Y m) = false := by simp; omega
          have b2 : decide (dig Y m < dig X m) = true := by simpa using h
          clear h hr1 hr2
          go_wp2_with fail
          go_quiet (fail)
          have Hb2 : Hid (Below w.heap.size w (wr.drewN nq)) := below_drewN Hb.out nq
          have cx2 : (wr.drewN nq).cell? (ad.add m) = some (.int .u32 (dig X m : Nat)) := cx
          have cy2 : (wr.drewN nq).cell? (ad2.add m) = some (.int .u32 (dig Y m : Nat)) := cy
          clear Hb cx cy
          generalize wr.drewN nq = w2 at *
          go_wp2_with fail
          go_quiet (fail)
          go_wp2_with fail
          go_ret
          exact ⟨ret_int E.out.symm, below_drewN Hb2.out _⟩
  · have E : Hid (cmpN X Y = 1) := by unfold Hid cmpN; have := trm_less hY.1 hX h; rw [if_neg (by omega), if_pos this]
    have b1 : ((n : Int) != (m : Int)) = true := by simp; omega
    have b2 : decide (n < m) = false := by simp; omega
    clear hr1 hr2 hX hY
    go_enter Tryd.func95, Tryd.ntmps95
    go_wp2_with fail
    go_ret
    exact ⟨ret_int E.out.symm, Below.refl _ _⟩
end Go.Proofs.YtfgeocpooimojaaDoor
