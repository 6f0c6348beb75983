/-
  Functions of the reference of wide integers: zero, compare. Conditions: as each theorem states them.
-/
import Derived.Test.YtfgeocpooimojaaDoorDig
import Derived.Test.YtfgeocpooimojaaDoorNum
import Derived.Deep.QuietTactic
import Derived.BigQuiet
namespace Go.Proofs.YtfgeocpooimojaaDoor
open Go Go.RowKit

theorem below_drewN {B : Nat} {a w : World} (h : Below B a w) (n : Nat) : Below B a (w.drewN n) := ⟨h.os, h.tape, h.output, h.size, h.block⟩
def zeroB (f : Nat → Nat) : Bool := (List.range 8).all fun j => f j == 0
theorem zeroB_yes {f : Nat → Nat} (h : ∀ j, j < 8 → f j = 0) : zeroB f = true := by
  unfold zeroB; rw [List.all_eq_true]; intro j hj; rw [h j (List.mem_range.1 hj)]; rfl
theorem zeroB_no {f : Nat → Nat} {j : Nat} (hj : j < 8) (h : f j ≠ 0) : zeroB f = false := by
  unfold zeroB; rw [List.all_eq_false]; exact ⟨j, List.mem_range.2 hj, by simpa using h⟩
set_option maxHeartbeats 1000000 in
theorem refZero_at (f : Nat → Nat) (w : World) : Calls Tryd.prog 88 #[.agg (digs 8 f)] w fun e w' => e = .returned (.bool (zeroB f)) ∧ w.alloc (.cells (digs 8 f) 92) = w' := by
  have HB := Lib.hid (Blk.new w 92 (digs 8 f))
  go_enter Tryd.func88, Tryd.ntmps88
  go_wp2_with fail
  go_loop [3] (fun i => ∃ k : Nat, k ≤ 8 ∧ i = .int .i64 k ∧ Hid (∀ j, j < k → f j = 0)) (fun i => 8 - (intOf i).toNat)
  case atStart => exact ⟨0, by omega, rfl, fun j hj => by omega⟩
  case round =>
    obtain ⟨k, hk, rfl, HZ⟩ := hrel
    by_cases hk8 : k < 8
    · have hc : (w.alloc (.cells (digs 8 f) 92)).cell? ⟨w.heap.size, k, none⟩ = some (.int .u64 (f k : Nat)) := (HB.out.cell k).trans (digs_get f hk8)
      by_cases h0 : f k = 0
      · have hb0 : ((f k : Int) == 0) = true := by simpa using h0
        have hb : ((f k : Int) != 0) = false := by simpa using h0
        have HZ' : Hid (∀ j, j < k + 1 → f j = 0) := fun j hj => by
          by_cases e : j = k
          · subst e; exact h0
          · exact HZ.out j (by omega)
        clear h0
        go_wp2_with fail
        go_round
        case rel => exact ⟨k + 1, by omega, by go_num, HZ'⟩
        case measure => simp [intOf]; omega
      · have hb0 : ((f k : Int) == 0) = false := by simpa using h0
        have hb : ((f k : Int) != 0) = true := by simpa using h0
        have E := Lib.hid (zeroB_no hk8 h0)
        clear h0
        go_wp2_with fail
        go_ret
        exact ⟨ret_bool E.out.symm, rfl⟩
    · have E := Lib.hid (zeroB_yes (fun j hj => HZ.out j (by omega)))
      go_wp2_with fail
      go_ret
      exact ⟨ret_bool E.out.symm, rfl⟩
/-- -1, 0 or 1. -/
def cmpN (x y : Nat) : Int := if x < y then -1 else if y < x then 1 else 0
theorem cmp_less {x y k : Nat} (h : upTo x (k + 1) = upTo y (k + 1)) (hd : dig x k < dig y k) : cmpN x y = -1 := by
  have h1 := upTo_step x k
  have h2 := upTo_step y k
  have : upTo x k < upTo y k := by omega
  unfold cmpN
  rw [if_pos]
  rcases Nat.lt_or_ge x y with h | h
  · exact h
  · have := Nat.div_le_div_right (c := 4294967296 ^ k) h
    unfold upTo at *; omega
theorem cmp_swap (x y : Nat) : cmpN x y = - cmpN y x := by unfold cmpN; split <;> split <;> omega
theorem cmp_more {x y k : Nat} (h : upTo x (k + 1) = upTo y (k + 1)) (hd : dig y k < dig x k) : cmpN x y = 1 := by
  rw [cmp_swap, cmp_less h.symm hd]; rfl
theorem cmp_same {x : Nat} : cmpN x x = 0 := by unfold cmpN; simp
set_option maxHeartbeats 1000000 in
theorem refCompare_at (x y : Nat) (hx : x < 4294967296 ^ 8) (hy : y < 4294967296 ^ 8) (w : World) : Calls Tryd.prog 68 #[.agg (digs 8 (dig x)), .agg (digs 8 (dig y))] w fun e w' => e = .returned (.int .i64 (cmpN x y)) ∧ Below w.heap.size w w' := by
  have HB := Lib.hid ((Blk.new w 92 (digs 8 (dig x))).alloc (.cells (digs 8 (dig y)) 92))
  have HC : Hid (Blk ((w.alloc (.cells (digs 8 (dig x)) 92)).alloc (.cells (digs 8 (dig y)) 92)) (w.heap.size + 1) 92 (digs 8 (dig y))) := by
    have := Blk.new (w.alloc (.cells (digs 8 (dig x)) 92)) 92 (digs 8 (dig y))
    simpa [Hid] using this
  have HT : Hid (upTo x 8 = upTo y 8) := by unfold Hid; rw [upTo_top x 8 hx, upTo_top y 8 hy]
  clear hx hy
  go_enter Tryd.func68, Tryd.ntmps68
  go_wp2_with fail
  go_loopw [5] (fun i wr => ∃ k : Nat, k ≤ 8 ∧ i = .int .i64 ((k : Int) - 1) ∧ Hid (upTo x k = upTo y k) ∧ Hid (Blk wr w.heap.size 92 (digs 8 (dig x))) ∧ Hid (Blk wr (w.heap.size + 1) 92 (digs 8 (dig y))) ∧ Hid (Below w.heap.size w wr)) (fun i _ => (intOf i + 1).toNat)
  case atStart => exact ⟨8, by omega, rfl, HT, HB.out, HC.out, by unfold Hid; go_grown⟩
  case round =>
    obtain ⟨k, hk, rfl, HU, HX, HY, Hb⟩ := hrel
    clear HB HC HT
    match k, hk, HU with
    | 0, hk, HU =>
      have E : Hid (cmpN x y = 0) := by unfold Hid; have h : x = y := by simpa [upTo_zero] using HU.out
                                        rw [h]; exact cmp_same
      go_wp2_with fail
      go_ret
      exact ⟨ret_int E.out.symm, Hb.out⟩
    | m + 1, hk, HU =>
      have e : (((m + 1 : Nat) : Int) - 1) = (m : Int) := by omega
      rw [e]
      clear e
      have i0 : (0 : Int) ≤ (m : Int) := by omega
      have i1 : (m : Int) < 8 := by omega
      have cx : wr.cell? ⟨w.heap.size, m, none⟩ = some (.int .u64 (dig x m : Nat)) := (HX.out.cell m).trans (digs_get (dig x) (by omega))
      have cy : wr.cell? ⟨w.heap.size + 1, m, none⟩ = some (.int .u64 (dig y m : Nat)) := (HY.out.cell m).trans (digs_get (dig y) (by omega))
      rcases Nat.lt_trichotomy (dig x m) (dig y m) with h | h | h
      · have E := Lib.hid (cmp_less HU.out h)
        have b1 : decide (dig x m < dig y m) = true := by simpa using h
        clear h
        go_wp2_with fail
        go_quiet (fail)
        go_wp2_with fail
        go_ret
        exact ⟨ret_int E.out.symm, below_drewN Hb.out _⟩
      · have HU' : Hid (upTo x m = upTo y m) := by unfold Hid; rw [upTo_step x m, upTo_step y m, HU.out, h]
        have b1 : decide (dig x m < dig y m) = false := by simp; omega
        have b2 : decide (dig y m < dig x m) = false := by simp; omega
        clear h
        go_wp2_with fail
        go_quiet (fail)
        have HX2 : Hid (Blk (wr.drewN nq) w.heap.size 92 (digs 8 (dig x))) := HX.out
        have HY2 : Hid (Blk (wr.drewN nq) (w.heap.size + 1) 92 (digs 8 (dig y))) := HY.out
        have Hb2 : Hid (Below w.heap.size w (wr.drewN nq)) := below_drewN Hb.out nq
        have cx2 : (wr.drewN nq).cell? ⟨w.heap.size, m, none⟩ = some (.int .u64 (dig x m : Nat)) := cx
        have cy2 : (wr.drewN nq).cell? ⟨w.heap.size + 1, m, none⟩ = some (.int .u64 (dig y m : Nat)) := cy
        clear HX HY Hb cx cy
        generalize wr.drewN nq = w2 at *
        go_wp2_with fail
        go_quiet (fail)
        go_wp2_with fail
        go_roundw
        case rel => exact ⟨m, by omega, rfl, HU', HX2.out, HY2.out, below_drewN Hb2.out _⟩
        case measure => simp [intOf]
      · have E := Lib.hid (cmp_more HU.out h)
        have b1 : decide (dig x m < dig y m) = false := by simp; omega
        have b2 : decide (dig y m < dig x m) = true := by simpa using h
        clear h
        go_wp2_with fail
        go_quiet (fail)
        have HX2 : Hid (Blk (wr.drewN nq) w.heap.size 92 (digs 8 (dig x))) := HX.out
        have HY2 : Hid (Blk (wr.drewN nq) (w.heap.size + 1) 92 (digs 8 (dig y))) := HY.out
        have Hb2 : Hid (Below w.heap.size w (wr.drewN nq)) := below_drewN Hb.out nq
        have cx2 : (wr.drewN nq).cell? ⟨w.heap.size, m, none⟩ = some (.int .u64 (dig x m : Nat)) := cx
        have cy2 : (wr.drewN nq).cell? ⟨w.heap.size + 1, m, none⟩ = some (.int .u64 (dig y m : Nat)) := cy
        clear HX HY Hb cx cy
        generalize wr.drewN nq = w2 at *
        go_wp2_with fail
        go_quiet (fail)
        go_wp2_with fail
        go_ret
        exact ⟨ret_int E.out.symm, below_drewN Hb2.out _⟩
end Go.Proofs.YtfgeocpooimojaaDoor
