/-
  Functions of the reference of wide integers: zero, compare. Conditions: as each theorem states them. Functions of the reference of wide integers: split, join. Conditions: as each theorem states them.
-/
import Derived.Deep.QuietTactic
import Derived.BigQuiet
import Derived.Test.YtfgeocpooimojaaDoorQPfWeightCentres00
import Derived.Test.YtfgeocpooimojaaDoorQPfWeightCentres01
namespace Go.Proofs.YtfgeocpooimojaaDoor
open Go Go.RowKit

theorem below_drewN {B : Nat} {a w : World} (h : Below B a w) (n : Nat) : Below B a (w.drewN n) := ⟨h.os, h.tape, h.output, h.size, h.block⟩
def zeroB (f : Nat → Nat) : Bool := (List.range 8).all fun j => f j == 0
theorem zeroB_yes {f : Nat → Nat} (h : ∀ j, j < 8 → f j = 0) : zeroB f = true := by
  unfold zeroB; rw [List.all_eq_true]; intro j hj; rw [h j (List.mem_range.1 hj)]; rfl
theorem zeroB_no {f : Nat → Nat} {j : Nat} (hj : j < 8) (h : f j ≠ 0) : zeroB f = false := by
  unfold zeroB; rw [List.all_eq_false]; exact ⟨j, List.mem_range.2 hj, by simpa using h⟩
set_option maxHeartbeats 1000000 in
theorem refZero_at (f : Nat → Nat) (w : World) : Calls Tryd.prog 88 #[.agg (digs 8 f)] w fun e w' => e = .returned (.bool (zeroB f)) ∧ w.alloc (.cells (digs 8 f) 92) = w' := by
  have HB := Lib.hid (Blk.new w 92 (digs 8 f))
  go_enter Tryd.func88, Tryd.ntmps88
  go_wp2_with fail
  go_loop [3] (fun i => ∃ k : Nat, k ≤ 8 ∧ i = .int .i64 k ∧ Hid (∀ j, j < k → f j = 0)) (fun i => 8 - (intOf i).toNat)
  case atStart => exact ⟨0, by omega, rfl, fun j hj => by omega⟩
  case round =>
    obtain ⟨k, hk, rfl, HZ⟩ := hrel
    by_cases hk8 : k < 8
    · have hc : (w.alloc (.cells (digs 8 f) 92)).cell? ⟨w.heap.size, k, none⟩ = some (.int .u64 (f k : Nat)) := (HB.out.cell k).trans (digs_get f hk8)
      by_cases h0 : f k = 0
      · have hb0 : ((f k : Int) == 0) = true := by simpa using h0
        have hb : ((f k : Int) != 0) = false := by simpa using h0
        have HZ' : Hid (∀ j, j < k + 1 → f j = 0) := fun j hj => by
          by_cases e : j = k
          · subst e; exact h0
          · exact HZ.out j (by omega)
        clear h0
        go_wp2_with fail
        go_round
        case rel => exact ⟨k + 1, by omega, by go_num, HZ'⟩
        case measure => simp [intOf]; omega
      · have hb0 : ((f k : Int) == 0) = false := by simpa using h0
        have hb : ((f k : Int) != 0) = true := by simpa using h0
        have E := Lib.hid (zeroB_no hk8 h0)
        clear h0
        go_wp2_with fail
        go_ret
        exact ⟨ret_bool E.out.symm, rfl⟩
    · have E := Lib.hid (zeroB_yes (fun j hj => HZ.out j (by omega)))
      go_wp2_with fail
      go_ret
      exact ⟨ret_bool E.out.symm, rfl⟩
/-- -1, 0 or 1. -/
def cmpN (x y : Nat) : Int := if x < y then -1 else if y < x then 1 else 0
theorem cmp_less {x y k : Nat} (h : upTo x (k + 1) = upTo y (k + 1)) (hd : dig x k < dig y k) : cmpN x y = -1 := by
  have h1 := upTo_step x k
  have h2 := upTo_step y k
  have : upTo x k < upTo y k := by omega
  unfold cmpN
  rw [if_pos]
  rcases Nat.lt_or_ge x y with h | h
  · exact h
  · have := Nat.div_le_div_right (c := 4294967296 ^ k) h
    unfold upTo at *; omega
theorem cmp_swap (x y : Nat) : cmpN x y = - cmpN y x := by unfold cmpN; split <;> split <;> omega
theorem cmp_more {x y k : Nat} (h : upTo x (k + 1) = upTo y (k + 1)) (hd : dig y k < dig x k) : cmpN x y = 1 := by
  rw [cmp_swap, cmp_less h.symm hd]; rfl
theorem cmp_same {x : Nat} : cmpN x x = 0 := by unfold cmpN; simp
set_option maxHeartbeats 1000000 in
theorem refCompare_at (x y : Nat) (hx : x < 4294967296 ^ 8) (hy : y < 4294967296 ^ 8) (w : World) : Calls Tryd.prog 68 #[.agg (digs 8 (dig x)), .agg (digs 8 (dig y))] w fun e w' => e = .returned (.int .i64 (cmpN x y)) ∧ Below w.heap.size w w' := by
  have HB := Lib.hid ((Blk.new w 92 (digs 8 (dig x))).alloc (.cells (digs 8 (dig y)) 92))
  have HC : Hid (Blk ((w.alloc (.cells (digs 8 (dig x)) 92)).alloc (.cells (digs 8 (dig y)) 92)) (w.heap.size + 1) 92 (digs 8 (dig y))) := by
    have := Blk.new (w.alloc (.cells (digs 8 (dig x)) 92)) 92 (digs 8 (dig y))
    simpa [Hid] using this
  have HT : Hid (upTo x 8 = upTo y 8) := by unfold Hid; rw [upTo_top x 8 hx, upTo_top y 8 hy]
  clear hx hy
  go_enter Tryd.func68, Tryd.ntmps68
  go_wp2_with fail
  go_loopw [5] (fun i wr => ∃ k : Nat, k ≤ 8 ∧ i = .int .i64 ((k : Int) - 1) ∧ Hid (upTo x k = upTo y k) ∧ Hid (Blk wr w.heap.size 92 (digs 8 (dig x))) ∧ Hid (Blk wr (w.heap.size + 1) 92 (digs 8 (dig y))) ∧ Hid (Below w.heap.size w wr)) (fun i _ => (intOf i + 1).toNat)
  case atStart => exact ⟨8, by omega, rfl, HT, HB.out, HC.out, by unfold Hid; go_grown⟩
  case round =>
    obtain ⟨k, hk, rfl, HU, HX, HY, Hb⟩ := hrel
    clear HB HC HT
    match k, hk, HU with
    | 0, hk, HU =>
      have E : Hid (cmpN x y = 0) := by unfold Hid; have h : x = y := by simpa [upTo_zero] using HU.out
                                        rw [h]; exact cmp_same
      go_wp2_with fail
      go_ret
      exact ⟨ret_int E.out.symm, Hb.out⟩
    | m + 1, hk, HU =>
      have e : (((m + 1 : Nat) : Int) - 1) = (m : Int) := by omega
      rw [e]
      clear e
      have i0 : (0 : Int) ≤ (m : Int) := by omega
      have i1 : (m : Int) < 8 := by omega
      have cx : wr.cell? ⟨w.heap.size, m, none⟩ = some (.int .u64 (dig x m : Nat)) := (HX.out.cell m).trans (digs_get (dig x) (by omega))
      have cy : wr.cell? ⟨w.heap.size + 1, m, none⟩ = some (.int .u64 (dig y m : Nat)) := (HY.out.cell m).trans (digs_get (dig y) (by omega))
      rcases Nat.lt_trichotomy (dig x m) (dig y m) with h | h | h
      · have E := Lib.hid (cmp_less HU.out h)
        have b1 : decide (dig x m < dig y m) = true := by simpa using h
        clear h
        go_wp2_with fail
        go_quiet (fail)
        go_wp2_with fail
        go_ret
        exact ⟨ret_int E.out.symm, below_drewN Hb.out _⟩
      · have HU' : Hid (upTo x m = upTo y m) := by unfold Hid; rw [upTo_step x m, upTo_step y m, HU.out, h]
        have b1 : decide (dig x m < dig y m) = false := by simp; omega
        have b2 : decide (dig y m < dig x m) = false := by simp; omega
        clear h
        go_wp2_with fail
        go_quiet (fail)
        have HX2 : Hid (Blk (wr.drewN nq) w.heap.size 92 (digs 8 (dig x))) := HX.out
        have HY2 : Hid (Blk (wr.drewN nq) (w.heap.size + 1) 92 (digs 8 (dig y))) := HY.out
        have Hb2 : Hid (Below w.heap.size w (wr.drewN nq)) := below_drewN Hb.out nq
        have cx2 : (wr.drewN nq).cell? ⟨w.heap.size, m, none⟩ = some (.int .u64 (dig x m : Nat)) := cx
        have cy2 : (wr.drewN nq).cell? ⟨w.heap.size + 1, m, none⟩ = some (.int .u64 (dig y m : Nat)) := cy
        clear HX HY Hb cx cy
        generalize wr.drewN nq = w2 at *
        go_wp2_with fail
        go_quiet (fail)
        go_wp2_with fail
        go_roundw
        case rel => exact ⟨m, by omega, rfl, HU', HX2.out, HY2.out, below_drewN Hb2.out _⟩
        case measure => simp [intOf]
      · have E := Lib.hid (cmp_more HU.out h)
        have b1 : decide (dig x m < dig y m) = false := by simp; omega
        have b2 : decide (dig y m < dig x m) = true := by simpa using h
        clear h
        go_wp2_with fail
        go_quiet (fail)
        have HX2 : Hid (Blk (wr.drewN nq) w.heap.size 92 (digs 8 (dig x))) := HX.out
        have HY2 : Hid (Blk (wr.drewN nq) (w.heap.size + 1) 92 (digs 8 (dig y))) := HY.out
        have Hb2 : Hid (Below w.heap.size w (wr.drewN nq)) := below_drewN Hb.out nq
        have cx2 : (wr.drewN nq).cell? ⟨w.heap.size, m, none⟩ = some (.int .u64 (dig x m : Nat)) := cx
        have cy2 : (wr.drewN nq).cell? ⟨w.heap.size + 1, m, none⟩ = some (.int .u64 (dig y m : Nat)) := cy
        clear HX HY Hb cx cy
        generalize wr.drewN nq = w2 at *
        go_wp2_with fail
        go_quiet (fail)
        go_wp2_with fail
        go_ret
        exact ⟨ret_int E.out.symm, below_drewN Hb2.out _⟩
end Go.Proofs.YtfgeocpooimojaaDoor
namespace Go.Proofs.YtfgeocpooimojaaDoor
open Go Go.RowKit

/-- Word i of M to the base 2^64. -/
def wd (M i : Nat) : Nat := M / 18446744073709551616 ^ i % 18446744073709551616
theorem wd_lt (M i : Nat) : wd M i < 18446744073709551616 := Nat.mod_lt _ (by decide)
theorem pow_two32 (i : Nat) : 4294967296 ^ (2 * i) = 18446744073709551616 ^ i := by rw [Nat.pow_mul]
theorem dig_even (M i : Nat) : dig M (2 * i) = wd M i % 4294967296 := by
  unfold dig wd
  rw [pow_two32, Nat.mod_mod_of_dvd _ (by decide)]
theorem dig_odd (M i : Nat) : dig M (2 * i + 1) = wd M i / 4294967296 := by
  unfold dig wd
  rw [Nat.pow_succ, pow_two32, ← Nat.div_div_eq_div_mul, show (18446744073709551616 : Nat) = 4294967296 * 4294967296 from rfl, Nat.mod_mul_right_div_self]
theorem wd_join (M i : Nat) : dig M (2 * i) + 4294967296 * dig M (2 * i + 1) = wd M i := by
  rw [dig_even, dig_odd]; omega
abbrev wideC (n : Bool) (M : Nat) : Array Value := #[.bool n, .int .u64 (wd M 0 : Nat), .int .u64 (wd M 1 : Nat), .int .u64 (wd M 2 : Nat), .int .u64 (wd M 3 : Nat)]
theorem wideC_get (n : Bool) (M k : Nat) (h : k < 4) : (wideC n M)[k + 1]? = some (.int .u64 (wd M k : Nat)) := by
  have : k = 0 ∨ k = 1 ∨ k = 2 ∨ k = 3 := by omega
  rcases this with rfl | rfl | rfl | rfl <;> rfl
theorem wd_rem (M k : Nat) : ((wd M k : Nat) : Int) % 4294967296 = ((dig M (2 * k) : Nat) : Int) := by rw [dig_even]; omega
theorem wd_quo (M k : Nat) : IntKind.u64.wrap (((wd M k : Nat) : Int) / 4294967296) = ((dig M (2 * k + 1) : Nat) : Int) := by
  have := wd_lt M k
  rw [dig_odd, IntKind.wrap_u64]; omega
theorem two_set {w : World} {g n : Nat} {t : TypeId} {f : Nat → Nat} (h : Blk w g t (digs n f)) {i j : Nat} (hi : i < n) (hj : j < n) (a b : Nat) :
    Blk ((w.setCell ⟨g, i, none⟩ (.int .u64 (a : Nat))).setCell ⟨g, j, none⟩ (.int .u64 (b : Nat))) g t (digs n (fun x => if x = j then b else if x = i then a else f x)) := by
  have := (h.set_ i (.int .u64 (a : Nat))).set_ j (.int .u64 (b : Nat))
  rw [digs_set _ hi, digs_set _ hj] at this
  exact this
theorem blk_start3 (w : World) (t1 t2 t3 : TypeId) (c1 c2 c3 : Array Value) : Blk (((w.alloc (.cells c1 t1)).alloc (.cells c2 t2)).alloc (.cells c3 t3)) w.heap.size t1 c1 ∧ Blk (((w.alloc (.cells c1 t1)).alloc (.cells c2 t2)).alloc (.cells c3 t3)) (w.heap.size + 1) t2 c2 ∧ Blk (((w.alloc (.cells c1 t1)).alloc (.cells c2 t2)).alloc (.cells c3 t3)) (w.heap.size + 1 + 1) t3 c3 := by
  refine ⟨((Blk.new w t1 c1).alloc _).alloc _, ?_, ?_⟩
  · have := (Blk.new (w.alloc (.cells c1 t1)) t2 c2).alloc (.cells c3 t3)
    simpa using this
  · have := Blk.new ((w.alloc (.cells c1 t1)).alloc (.cells c2 t2)) t3 c3
    simpa using this
theorem blk_row8 {w : World} {g : Nat} {t : TypeId} {f : Nat → Nat} (h : Blk w g t (digs 8 f)) (b : Nat → Nat) :
    Blk ((((((((w.setCell ⟨g, 0, none⟩ (.int .u64 (b 0 : Nat))).setCell ⟨g, 1, none⟩ (.int .u64 (b 1 : Nat))).setCell ⟨g, 2, none⟩ (.int .u64 (b 2 : Nat))).setCell ⟨g, 3, none⟩ (.int .u64 (b 3 : Nat))).setCell ⟨g, 4, none⟩ (.int .u64 (b 4 : Nat))).setCell ⟨g, 5, none⟩ (.int .u64 (b 5 : Nat))).setCell ⟨g, 6, none⟩ (.int .u64 (b 6 : Nat))).setCell ⟨g, 7, none⟩ (.int .u64 (b 7 : Nat))) g t (digs 8 b) := by
  have := (((((((h.set_ 0 (.int .u64 (b 0 : Nat))).set_ 1 (.int .u64 (b 1 : Nat))).set_ 2 (.int .u64 (b 2 : Nat))).set_ 3 (.int .u64 (b 3 : Nat))).set_ 4 (.int .u64 (b 4 : Nat))).set_ 5 (.int .u64 (b 5 : Nat))).set_ 6 (.int .u64 (b 6 : Nat))).set_ 7 (.int .u64 (b 7 : Nat))
  rw [digs_set _ (by omega), digs_set _ (by omega), digs_set _ (by omega), digs_set _ (by omega), digs_set _ (by omega), digs_set _ (by omega), digs_set _ (by omega), digs_set _ (by omega), digs_congr (g := b)] at this
  · exact this
  · intro j hj
    have : j = 0 ∨ j = 1 ∨ j = 2 ∨ j = 3 ∨ j = 4 ∨ j = 5 ∨ j = 6 ∨ j = 7 := by omega
    rcases this with rfl | rfl | rfl | rfl | rfl | rfl | rfl | rfl <;> simp
set_option maxHeartbeats 1000000 in
theorem refSplit_at (n : Bool) (M : Nat) (w : World) : Calls Tryd.prog 66 #[.agg (wideC n M)] w fun e w' => e = .returned (.agg (digs 8 (dig M))) ∧ Below w.heap.size w w' := by
  have HB := Lib.hid (blk_start3 w 35 92 92 (wideC n M) (digs 8 (fun _ => 0)) (digs 8 (fun _ => 0)))
  go_enter Tryd.func66, Tryd.ntmps66
  go_wp2_with fail
  go_loopw [4] (fun i wr => ∃ k : Nat, k ≤ 4 ∧ i = .int .i64 k ∧ Hid (Blk wr w.heap.size 35 (wideC n M)) ∧ Hid (Blk wr (w.heap.size + 1) 92 (digs 8 (fun _ => 0))) ∧ Hid (Blk wr (w.heap.size + 1 + 1) 92 (digs 8 (fun j => if j < 2 * k then dig M j else 0))) ∧ Hid (Below w.heap.size w wr)) (fun i _ => 4 - (intOf i).toNat)
  case atStart => exact ⟨0, by omega, rfl, HB.out.1, HB.out.2.1, HB.out.2.2, by unfold Hid; go_grown⟩
  case round =>
    obtain ⟨k, hk, rfl, HX, HR, HD, Hb⟩ := hrel
    clear HB
    by_cases hk4 : k < 4
    · have i0 : (0 : Int) ≤ (k : Int) := by omega
      have i1 : (k : Int) < 4 := by omega
      have cm : wr.cell? ⟨w.heap.size, 1 + k, none⟩ = some (.int .u64 (wd M k : Nat)) := by rw [Nat.add_comm]; exact (HX.out.cell (k + 1)).trans (wideC_get n M k hk4)
      have fd : wr.frozen? ⟨w.heap.size + 1 + 1, 2 * k, none⟩ = false := HD.out.frozen _
      have fe : wr.frozen? ⟨w.heap.size + 1 + 1, 2 * k + 1, none⟩ = false := HD.out.frozen _
      have cd : wr.cell? ⟨w.heap.size + 1 + 1, 2 * k, none⟩ = some (.int .u64 (0 : Nat)) := (HD.out.cell _).trans ((digs_get _ (by omega)).trans (by rw [if_neg (by omega)]))
      have ce : wr.cell? ⟨w.heap.size + 1 + 1, 2 * k + 1, none⟩ = some (.int .u64 (0 : Nat)) := (HD.out.cell _).trans ((digs_get _ (by omega)).trans (by rw [if_neg (by omega)]))
      go_wp2_with fail
      go_roundw
      case rel =>
        rw [wd_rem, wd_quo]
        refine ⟨k + 1, by omega, by go_num, (HX.out.far (p := ⟨w.heap.size + 1 + 1, _, none⟩) (by simp; omega) _).far (p := ⟨w.heap.size + 1 + 1, _, none⟩) (by simp; omega) _, (HR.out.far (p := ⟨w.heap.size + 1 + 1, _, none⟩) (by simp) _).far (p := ⟨w.heap.size + 1 + 1, _, none⟩) (by simp) _, ?_, ?_⟩
        · have := two_set HD.out (i := 2 * k) (j := 2 * k + 1) (by omega) (by omega) (dig M (2 * k)) (dig M (2 * k + 1))
          rw [digs_congr (g := fun j => if j < 2 * (k + 1) then dig M j else 0)] at this
          · exact this
          · intro j hj
            by_cases e1 : j = 2 * k + 1
            · rw [if_pos e1, e1, if_pos (by omega)]
            · by_cases e2 : j = 2 * k
              · rw [if_neg e1, if_pos e2, e2, if_pos (by omega)]
              · rw [if_neg e1, if_neg e2]
                by_cases e3 : j < 2 * k
                · rw [if_pos e3, if_pos (by omega)]
                · rw [if_neg e3, if_neg (by omega)]
        · have := Hb.out
          unfold Hid
          go_grown
      case measure => simp [intOf]; omega
    · obtain rfl : k = 4 := by omega
      have HD' : Hid (Blk wr (w.heap.size + 1 + 1) 92 (digs 8 (dig M))) := by
        have := HD.out
        rw [digs_congr (g := dig M)] at this
        · exact this
        · intro j hj; exact if_pos (by omega)
      clear HD
      have c0 := HD'.out.cell 0; have c1 := HD'.out.cell 1; have c2 := HD'.out.cell 2; have c3 := HD'.out.cell 3; have c4 := HD'.out.cell 4; have c5 := HD'.out.cell 5; have c6 := HD'.out.cell 6; have c7 := HD'.out.cell 7
      rw [digs_get _ (by omega)] at c0 c1 c2 c3 c4 c5 c6 c7
      have r0 := HR.out.cell 0; have r1 := HR.out.cell 1; have r2 := HR.out.cell 2; have r3 := HR.out.cell 3; have r4 := HR.out.cell 4; have r5 := HR.out.cell 5; have r6 := HR.out.cell 6; have r7 := HR.out.cell 7
      rw [digs_get _ (by omega)] at r0 r1 r2 r3 r4 r5 r6 r7
      have f0 := HR.out.frozen 0; have f1 := HR.out.frozen 1; have f2 := HR.out.frozen 2; have f3 := HR.out.frozen 3; have f4 := HR.out.frozen 4; have f5 := HR.out.frozen 5; have f6 := HR.out.frozen 6; have f7 := HR.out.frozen 7
      go_wp2_with fail
      refine bodyPost_ret (results_cell_one rfl _ _ (w.heap.size + 1) 92 (digs 8 (dig M)) _ rfl (by with_reducible exact blk_row8 HR.out (dig M)) Tryd.underlying92 rfl (by rw [digs_size]; kernel_rfl)) rfl ⟨rfl, ?_⟩
      have := Hb.out
      go_grown
end Go.Proofs.YtfgeocpooimojaaDoor
