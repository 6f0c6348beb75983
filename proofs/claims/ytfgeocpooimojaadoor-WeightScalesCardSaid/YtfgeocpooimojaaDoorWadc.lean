/-
  What Sum and Add of package weight return. Conditions: as each theorem states them.
-/
import Derived.Test.YtfgeocpooimojaaDoorWadb
namespace Go.Proofs.YtfgeocpooimojaaDoor
open Go Go.RowKit

def Wt.err (a : Wt) : Int := if a.okB then 0 else 9
/-- What Sum returns: the error, and the weight. -/
def sumErr (l : List Wt) : Int := if l.all Wt.okB then sumX l else 9
def sumVal (l : List Wt) : Wt := if l.all Wt.okB then sumR l else zeroW
theorem allOk_take (l : List Wt) (k : Nat) (a : Wt) (h : l[k]? = some a) (hk : (l.take k).all Wt.okB = true) (ha : a.okB = true) : (l.take (k + 1)).all Wt.okB = true := by
  rw [List.take_add_one, h]; simp [List.all_append, ha]; simpa using hk
theorem allOk_not (l : List Wt) (k : Nat) (a : Wt) (h : l[k]? = some a) (ha : a.okB = false) : l.all Wt.okB = false := by
  rw [List.all_eq_false]
  exact ⟨a, List.mem_of_getElem? h, by simp [ha]⟩
set_option maxHeartbeats 2000000 in
theorem weightSum_any (A : Option Addr) (n c : Nat) (l : List Wt) (w : World) (hr : Reads w w.heap.size 5 A n (wtCells l)) (hln : l.length = n) (hn : n ≤ 1000000) (hI : ∀ a ∈ l, a.In) :
    Calls Tryd.prog 11 #[.slice A n c] w fun e w' => e = .returned (.tuple #[(sumVal l).val, .int .i64 (sumErr l)]) ∧ Below w.heap.size w w' := by
  have Hr := Lib.hid hr; clear hr
  have HI := Lib.hid hI; clear hI
  have Hln := Lib.hid hln; clear hln
  have HB := Lib.hid (Blk.new w 23 #[.int .i64 0, .int .i64 0, .int .i64 0, .int .i64 0, .int .i64 0])
  go_enter Tryd.func11, Tryd.ntmps11
  go_wp2_with fail
  go_loopw [8] (fun i wr => ∃ k : Nat, k ≤ n ∧ i = .int .i64 k ∧ Hid ((l.take k).all Wt.okB = true) ∧ Blk wr w.heap.size 23 #[.int .i64 0, .int .i64 0, .int .i64 0, .int .i64 0, .int .i64 0] ∧ Below w.heap.size w wr) (fun i _ => n - (intOf i).toNat)
  case atStart => exact ⟨0, Nat.zero_le _, rfl, by simp [Hid], HB.out, by go_grown⟩
  case round =>
    obtain ⟨k, hk, rfl, HA, hblk, hb⟩ := hrel
    clear HB
    have Hblk := Lib.hid hblk
    have Hb := Lib.hid hb
    have hlt : w.heap.size < wr.heap.size := hblk.lt
    clear hblk hb
    by_cases hkn : k < n
    · obtain ⟨ad, a, rfl, _, ha, c0, c1, c2, c3, c4⟩ := wtReads_at (Hr.out.below Hb.out) hkn
      have hab : ad.block < wr.heap.size := by omega
      cases hok : a.okB
      · have HR : Hid ((sumVal l).val = zeroW.val ∧ sumErr l = 9) := by unfold Hid sumVal sumErr; rw [allOk_not l k a ha hok]; exact ⟨rfl, rfl⟩
        have he : chkE a.m a.x a.y a.z a.v = 9 := by unfold chkE; exact if_neg (by rw [show okW a.m a.x a.y a.z a.v = false from hok]; simp)
        clear ha hok
        have z0 := Hblk.out.cell 0; have z1 := Hblk.out.cell 1; have z2 := Hblk.out.cell 2; have z3 := Hblk.out.cell 3; have z4 := Hblk.out.cell 4
        simp at z0 z1 z2 z3 z4
        have f0 := Hblk.out.frozen 0; have f1 := Hblk.out.frozen 1; have f2 := Hblk.out.frozen 2; have f3 := Hblk.out.frozen 3; have f4 := Hblk.out.frozen 4
        go_wp2_with (go_at_call 13; refine (check_at _ _ _ _ _ _).mono ?_; rintro e w' ⟨rfl, rfl⟩)
        refine bodyPost_ret (results_cell_tmp rfl _ _ w.heap.size 23 #[.int .i64 0, .int .i64 0, .int .i64 0, .int .i64 0, .int .i64 0] _ rfl (by with_reducible exact ((blk_set5 Hblk.out _ _ _ _ _).alloc _).alloc _) Tryd.underlying23 rfl (by kernel_rfl)) rfl ⟨by rw [HR.out.1, HR.out.2]; rfl, ?_⟩
        have Hb' := Hb.out
        have Hz := Hb'.size
        go_grown
      · have he : chkE a.m a.x a.y a.z a.v = 0 := by unfold chkE; exact if_pos hok
        have HA' : Hid ((l.take (k + 1)).all Wt.okB = true) := allOk_take l k a ha HA.out hok
        clear ha hok
        go_wp2_with (go_at_call 13; refine (check_at _ _ _ _ _ _).mono ?_; rintro e w' ⟨rfl, rfl⟩)
        go_roundw
        case rel => exact ⟨k + 1, by omega, by go_num, HA', (Hblk.out.alloc _).alloc _, by have Hb' := Hb.out; have Hz := Hb'.size; go_grown⟩
        case measure => simp [intOf]; omega
    · have hkn' : l.take k = l := List.take_of_length_le (by rw [Hln.out]; omega)
      rw [hkn'] at HA
      clear hkn'
      have HR : Hid ((sumVal l).val = (sumR l).val ∧ sumErr l = sumX l) := by unfold Hid sumVal sumErr; rw [HA.out]; exact ⟨rfl, rfl⟩
      have HC := Lib.hid (wsum_any A n c l wr ((Hr.out.below Hb.out).more (by omega)) Hln.out hn HI.out)
      have HV : Hid ((sumR l).val = .agg #[.int .i64 (sumR l).m, .int .i64 (sumR l).x, .int .i64 (sumR l).y, .int .i64 (sumR l).z, .int .i64 (sumR l).v]) := rfl
      have HC2 : Hid (Calls Tryd.prog 29 #[.slice A n c] wr fun e w' => e = .returned (.tuple #[.agg #[.int .i64 (sumR l).m, .int .i64 (sumR l).x, .int .i64 (sumR l).y, .int .i64 (sumR l).z, .int .i64 (sumR l).v], .int .i64 (sumX l)]) ∧ Below wr.heap.size wr w') := HC.out
      clear HC
      generalize (sumR l).m = V0 at *
      generalize (sumR l).x = V1 at *
      generalize (sumR l).y = V2 at *
      generalize (sumR l).z = V3 at *
      generalize (sumR l).v = V4 at *
      generalize sumX l = V5 at *
      go_wp2_with (go_at_call 29; refine HC2.out.mono ?_; rintro e w1 ⟨rfl, hb1⟩; have HB1 := Lib.hid (Hblk.out.below hb1 Hblk.out.lt); have Hb1 := Lib.hid (Hb.out.trans (hb1.mono (by omega))); have z0 := HB1.out.cell 0; have z1 := HB1.out.cell 1; have z2 := HB1.out.cell 2; have z3 := HB1.out.cell 3; have z4 := HB1.out.cell 4; simp at z0 z1 z2 z3 z4; have f0 := HB1.out.frozen 0; have f1 := HB1.out.frozen 1; have f2 := HB1.out.frozen 2; have f3 := HB1.out.frozen 3; have f4 := HB1.out.frozen 4; clear hb1)
      refine bodyPost_ret (results_cell_tmp rfl _ _ w.heap.size 23 #[.int .i64 V0, .int .i64 V1, .int .i64 V2, .int .i64 V3, .int .i64 V4] _ rfl (by with_reducible exact blk_set5 HB1.out _ _ _ _ _) Tryd.underlying23 rfl (by kernel_rfl)) rfl ⟨by rw [HR.out.1, HR.out.2, HV.out]; rfl, ?_⟩
      have Hb' := Hb1.out
      go_grown
end Go.Proofs.YtfgeocpooimojaaDoor
