/-
  Functions of the reference of wide integers: split, join. Conditions: as each theorem states them.
-/
import Derived.Test.YtfgeocpooimojaaDoorWa
namespace Go.Proofs.YtfgeocpooimojaaDoor
open Go Go.RowKit

/-- Word i of M to the base 2^64. -/
def wd (M i : Nat) : Nat := M / 18446744073709551616 ^ i % 18446744073709551616
theorem wd_lt (M i : Nat) : wd M i < 18446744073709551616 := Nat.mod_lt _ (by decide)
theorem pow_two32 (i : Nat) : 4294967296 ^ (2 * i) = 18446744073709551616 ^ i := by rw [Nat.pow_mul]
theorem dig_even (M i : Nat) : dig M (2 * i) = wd M i % 4294967296 := by
  unfold dig wd
  rw [pow_two32, Nat.mod_mod_of_dvd _ (by decide)]
theorem dig_odd (M i : Nat) : dig M (2 * i + 1) = wd M i / 4294967296 := by
  unfold dig wd
  rw [Nat.pow_succ, pow_two32, ← Nat.div_div_eq_div_mul, show (18446744073709551616 : Nat) = 4294967296 * 4294967296 from rfl, Nat.mod_mul_right_div_self]
theorem wd_join (M i : Nat) : dig M (2 * i) + 4294967296 * dig M (2 * i + 1) = wd M i := by
  rw [dig_even, dig_odd]; omega
abbrev wideC (n : Bool) (M : Nat) : Array Value := #[.bool n, .int .u64 (wd M 0 : Nat), .int .u64 (wd M 1 : Nat), .int .u64 (wd M 2 : Nat), .int .u64 (wd M 3 : Nat)]
theorem wideC_get (n : Bool) (M k : Nat) (h : k < 4) : (wideC n M)[k + 1]? = some (.int .u64 (wd M k : Nat)) := by
  have : k = 0 ∨ k = 1 ∨ k = 2 ∨ k = 3 := by omega
  rcases this with rfl | rfl | rfl | rfl <;> rfl
theorem wd_rem (M k : Nat) : ((wd M k : Nat) : Int) % 4294967296 = ((dig M (2 * k) : Nat) : Int) := by rw [dig_even]; omega
theorem wd_quo (M k : Nat) : IntKind.u64.wrap (((wd M k : Nat) : Int) / 4294967296) = ((dig M (2 * k + 1) : Nat) : Int) := by
  have := wd_lt M k
  rw [dig_odd, IntKind.wrap_u64]; omega
theorem two_set {w : World} {g n : Nat} {t : TypeId} {f : Nat → Nat} (h : Blk w g t (digs n f)) {i j : Nat} (hi : i < n) (hj : j < n) (a b : Nat) :
    Blk ((w.setCell ⟨g, i, none⟩ (.int .u64 (a : Nat))).setCell ⟨g, j, none⟩ (.int .u64 (b : Nat))) g t (digs n (fun x => if x = j then b else if x = i then a else f x)) := by
  have := (h.set_ i (.int .u64 (a : Nat))).set_ j (.int .u64 (b : Nat))
  rw [digs_set _ hi, digs_set _ hj] at this
  exact this
theorem blk_start3 (w : World) (t1 t2 t3 : TypeId) (c1 c2 c3 : Array Value) : Blk (((w.alloc (.cells c1 t1)).alloc (.cells c2 t2)).alloc (.cells c3 t3)) w.heap.size t1 c1 ∧ Blk (((w.alloc (.cells c1 t1)).alloc (.cells c2 t2)).alloc (.cells c3 t3)) (w.heap.size + 1) t2 c2 ∧ Blk (((w.alloc (.cells c1 t1)).alloc (.cells c2 t2)).alloc (.cells c3 t3)) (w.heap.size + 1 + 1) t3 c3 := by
  refine ⟨((Blk.new w t1 c1).alloc _).alloc _, ?_, ?_⟩
  · have := (Blk.new (w.alloc (.cells c1 t1)) t2 c2).alloc (.cells c3 t3)
    simpa using this
  · have := Blk.new ((w.alloc (.cells c1 t1)).alloc (.cells c2 t2)) t3 c3
    simpa using this
theorem blk_row8 {w : World} {g : Nat} {t : TypeId} {f : Nat → Nat} (h : Blk w g t (digs 8 f)) (b : Nat → Nat) :
    Blk ((((((((w.setCell ⟨g, 0, none⟩ (.int .u64 (b 0 : Nat))).setCell ⟨g, 1, none⟩ (.int .u64 (b 1 : Nat))).setCell ⟨g, 2, none⟩ (.int .u64 (b 2 : Nat))).setCell ⟨g, 3, none⟩ (.int .u64 (b 3 : Nat))).setCell ⟨g, 4, none⟩ (.int .u64 (b 4 : Nat))).setCell ⟨g, 5, none⟩ (.int .u64 (b 5 : Nat))).setCell ⟨g, 6, none⟩ (.int .u64 (b 6 : Nat))).setCell ⟨g, 7, none⟩ (.int .u64 (b 7 : Nat))) g t (digs 8 b) := by
  have := (((((((h.set_ 0 (.int .u64 (b 0 : Nat))).set_ 1 (.int .u64 (b 1 : Nat))).set_ 2 (.int .u64 (b 2 : Nat))).set_ 3 (.int .u64 (b 3 : Nat))).set_ 4 (.int .u64 (b 4 : Nat))).set_ 5 (.int .u64 (b 5 : Nat))).set_ 6 (.int .u64 (b 6 : Nat))).set_ 7 (.int .u64 (b 7 : Nat))
  rw [digs_set _ (by omega), digs_set _ (by omega), digs_set _ (by omega), digs_set _ (by omega), digs_set _ (by omega), digs_set _ (by omega), digs_set _ (by omega), digs_set _ (by omega), digs_congr (g := b)] at this
  · exact this
  · intro j hj
    have : j = 0 ∨ j = 1 ∨ j = 2 ∨ j = 3 ∨ j = 4 ∨ j = 5 ∨ j = 6 ∨ j = 7 := by omega
    rcases this with rfl | rfl | rfl | rfl | rfl | rfl | rfl | rfl <;> simp
set_option maxHeartbeats 1000000 in
theorem refSplit_at (n : Bool) (M : Nat) (w : World) : Calls Tryd.prog 66 #[.agg (wideC n M)] w fun e w' => e = .returned (.agg (digs 8 (dig M))) ∧ Below w.heap.size w w' := by
  have HB := Lib.hid (blk_start3 w 35 92 92 (wideC n M) (digs 8 (fun _ => 0)) (digs 8 (fun _ => 0)))
  go_enter Tryd.func66, Tryd.ntmps66
  go_wp2_with fail
  go_loopw [4] (fun i wr => ∃ k : Nat, k ≤ 4 ∧ i = .int .i64 k ∧ Hid (Blk wr w.heap.size 35 (wideC n M)) ∧ Hid (Blk wr (w.heap.size + 1) 92 (digs 8 (fun _ => 0))) ∧ Hid (Blk wr (w.heap.size + 1 + 1) 92 (digs 8 (fun j => if j < 2 * k then dig M j else 0))) ∧ Hid (Below w.heap.size w wr)) (fun i _ => 4 - (intOf i).toNat)
  case atStart => exact ⟨0, by omega, rfl, HB.out.1, HB.out.2.1, HB.out.2.2, by unfold Hid; go_grown⟩
  case round =>
    obtain ⟨k, hk, rfl, HX, HR, HD, Hb⟩ := hrel
    clear HB
    by_cases hk4 : k < 4
    · have i0 : (0 : Int) ≤ (k : Int) := by omega
      have i1 : (k : Int) < 4 := by omega
      have cm : wr.cell? ⟨w.heap.size, 1 + k, none⟩ = some (.int .u64 (wd M k : Nat)) := by rw [Nat.add_comm]; exact (HX.out.cell (k + 1)).trans (wideC_get n M k hk4)
      have fd : wr.frozen? ⟨w.heap.size + 1 + 1, 2 * k, none⟩ = false := HD.out.frozen _
      have fe : wr.frozen? ⟨w.heap.size + 1 + 1, 2 * k + 1, none⟩ = false := HD.out.frozen _
      have cd : wr.cell? ⟨w.heap.size + 1 + 1, 2 * k, none⟩ = some (.int .u64 (0 : Nat)) := (HD.out.cell _).trans ((digs_get _ (by omega)).trans (by rw [if_neg (by omega)]))
      have ce : wr.cell? ⟨w.heap.size + 1 + 1, 2 * k + 1, none⟩ = some (.int .u64 (0 : Nat)) := (HD.out.cell _).trans ((digs_get _ (by omega)).trans (by rw [if_neg (by omega)]))
      go_wp2_with fail
      go_roundw
      case rel =>
        rw [wd_rem, wd_quo]
        refine ⟨k + 1, by omega, by go_num, (HX.out.far (p := ⟨w.heap.size + 1 + 1, _, none⟩) (by simp; omega) _).far (p := ⟨w.heap.size + 1 + 1, _, none⟩) (by simp; omega) _, (HR.out.far (p := ⟨w.heap.size + 1 + 1, _, none⟩) (by simp) _).far (p := ⟨w.heap.size + 1 + 1, _, none⟩) (by simp) _, ?_, ?_⟩
        · have := two_set HD.out (i := 2 * k) (j := 2 * k + 1) (by omega) (by omega) (dig M (2 * k)) (dig M (2 * k + 1))
          rw [digs_congr (g := fun j => if j < 2 * (k + 1) then dig M j else 0)] at this
          · exact this
          · intro j hj
            by_cases e1 : j = 2 * k + 1
            · rw [if_pos e1, e1, if_pos (by omega)]
            · by_cases e2 : j = 2 * k
              · rw [if_neg e1, if_pos e2, e2, if_pos (by omega)]
              · rw [if_neg e1, if_neg e2]
                by_cases e3 : j < 2 * k
                · rw [if_pos e3, if_pos (by omega)]
                · rw [if_neg e3, if_neg (by omega)]
        · have := Hb.out
          unfold Hid
          go_grown
      case measure => simp [intOf]; omega
    · obtain rfl : k = 4 := by omega
      have HD' : Hid (Blk wr (w.heap.size + 1 + 1) 92 (digs 8 (dig M))) := by
        have := HD.out
        rw [digs_congr (g := dig M)] at this
        · exact this
        · intro j hj; exact if_pos (by omega)
      clear HD
      have c0 := HD'.out.cell 0; have c1 := HD'.out.cell 1; have c2 := HD'.out.cell 2; have c3 := HD'.out.cell 3; have c4 := HD'.out.cell 4; have c5 := HD'.out.cell 5; have c6 := HD'.out.cell 6; have c7 := HD'.out.cell 7
      rw [digs_get _ (by omega)] at c0 c1 c2 c3 c4 c5 c6 c7
      have r0 := HR.out.cell 0; have r1 := HR.out.cell 1; have r2 := HR.out.cell 2; have r3 := HR.out.cell 3; have r4 := HR.out.cell 4; have r5 := HR.out.cell 5; have r6 := HR.out.cell 6; have r7 := HR.out.cell 7
      rw [digs_get _ (by omega)] at r0 r1 r2 r3 r4 r5 r6 r7
      have f0 := HR.out.frozen 0; have f1 := HR.out.frozen 1; have f2 := HR.out.frozen 2; have f3 := HR.out.frozen 3; have f4 := HR.out.frozen 4; have f5 := HR.out.frozen 5; have f6 := HR.out.frozen 6; have f7 := HR.out.frozen 7
      go_wp2_with fail
      refine bodyPost_ret (results_cell_one rfl _ _ (w.heap.size + 1) 92 (digs 8 (dig M)) _ rfl (by with_reducible exact blk_row8 HR.out (dig M)) Tryd.underlying92 rfl (by rw [digs_size]; kernel_rfl)) rfl ⟨rfl, ?_⟩
      have := Hb.out
      go_grown
end Go.Proofs.YtfgeocpooimojaaDoor
