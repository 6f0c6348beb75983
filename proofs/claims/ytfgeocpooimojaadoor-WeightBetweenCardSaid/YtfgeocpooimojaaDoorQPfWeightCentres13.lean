/-
  What weight.total returns for each field of a list of weights. Conditions: as each theorem states them.
-/
import Derived.Deep.OwnRows
import Derived.Test.YtfgeocpooimojaaDoorQPfWeightCentres12
namespace Go.Proofs.YtfgeocpooimojaaDoor
open Go Go.RowKit

theorem Tryd.infoInt : (Tryd.prog.info? 3).map (fun i => (i.zero, i.size, i.bytes)) = some (some (.int .i64 0), 1, 8) := by kernel_rfl
/-- The row after k stores. -/
def rowTo (fs : List Int) (k : Nat) (j : Nat) : Value := if j < k then .int .i64 (nth fs j) else .int .i64 0
theorem rowTo_next (fs : List Int) (k : Nat) : (fun j => if j = k then Value.int .i64 (nth fs k) else rowTo fs k j) = rowTo fs (k + 1) := by
  funext j
  unfold rowTo
  by_cases h : j = k
  · subst h; simp
  · rw [if_neg h]; by_cases h2 : j < k
    · rw [if_pos h2, if_pos (by omega)]
    · rw [if_neg h2, if_neg (by omega)]
theorem row_reads {w : World} {b n : Nat} {t : TypeId} {fs : List Int} (h : w.rowIs b t n (rowTo fs n)) (hl : fs.length = n) : Reads w w.heap.size 1 (some ⟨b, 0, none⟩) n (fs.map (Value.int .i64)) := by
  refine ⟨by simp [hl], fun _ => ⟨_, rfl, h.lt, fun j u hu => ?_⟩⟩
  obtain ⟨x, hx, rfl⟩ := int_at hu
  have hj : j < n := by have := (List.getElem?_eq_some_iff.1 hx).1; omega
  have e : (⟨b, 0, none⟩ : Addr).add j = ⟨b, j, none⟩ := by unfold Addr.add; split <;> simp_all
  rw [e, h.cell hj]
  unfold rowTo
  unfold nth; rw [if_pos hj, List.getD_eq_getElem?_getD, hx]; rfl
theorem all_I64 {l : List Wt} {f : Wt → Int} (h : ∀ a ∈ l, I64 (f a)) : ∀ x ∈ l.map f, I64 x := by
  intro x hx
  obtain ⟨a, ha, rfl⟩ := List.mem_map.1 hx
  exact h a ha

set_option maxHeartbeats 1000000 in
theorem total_mass (A : Option Addr) (n c : Nat) (l : List Wt) (w : World) (hr : Reads w w.heap.size 5 A n (wtCells l)) (hln : l.length = n) (hn : n ≤ 1000000) (hI : ∀ a ∈ l, I64 a.m) :
    Calls Tryd.prog 52 #[.int .i64 n, .func (.func 53) #[.slice A n c] #[]] w fun e w' => e = .returned (.tuple #[.int .i64 (sumV (l.map Wt.m).sum), .bool (sumE (l.map Wt.m).sum == 0)]) ∧ Below w.heap.size w w' := by
  have Hr := Lib.hid hr; clear hr
  have HI := Lib.hid (all_I64 hI); clear hI
  have Hln := Lib.hid hln; clear hln
  have hmk := fun W : World => run_make_row' (P := Tryd.prog) 58 3 (.int .i64 0) 8 Tryd.underlying58 Tryd.infoInt rfl .i64 .i64 n (by omega) (by omega) W
  go_enter Tryd.func52, Tryd.ntmps52
  go_wp2_with fail
  have hrow := World.rowIs_made w (.int .i64 0) n 3
  have hr0 : ∀ j, j < n → (Value.int .i64 0) = rowTo (l.map Wt.m) 0 j := fun j _ => by simp [rowTo]
  go_loopw [14] (fun i wr => ∃ k : Nat, k ≤ n ∧ i = .int .i64 k ∧ wr.rowIs w.heap.size 3 n (rowTo (l.map Wt.m) k) ∧ Below w.heap.size w wr) (fun i _ => n - (intOf i).toNat)
  case atStart => exact ⟨0, Nat.zero_le _, rfl, hrow.congr hr0, by go_grown⟩
  case round =>
    obtain ⟨k, hk, rfl, hrow', hb⟩ := hrel
    clear hrow hr0
    have Hrow := Lib.hid hrow'
    have Hb := Lib.hid hb
    by_cases hlt : k < n
    · have hc := hrow'.cell hlt
      have hf := hrow'.frozen k
      clear hrow' hb
      have HC := Lib.hid (mass_at A n c w.heap.size k l wr (Hr.out.below Hb.out) hlt)
      have ⟨v0, hc0⟩ : ∃ v, wr.cell? ⟨w.heap.size, k, none⟩ = some v := ⟨_, hc⟩
      clear hc
      go_wp2_with (go_at_call 53; refine HC.out.mono ?_; rintro e w' ⟨rfl, rfl⟩)
      go_roundw
      case rel => exact ⟨k + 1, by omega, by go_num, by rw [← rowTo_next]; exact Hrow.out.set k _, Hb.out.setCell (Nat.le_refl _) _⟩
      case measure => simp [intOf]; omega
    · obtain rfl : k = n := by omega
      have hred := row_reads Hrow.out (by rw [List.length_map, Hln.out])
      have HC := Lib.hid (numSum_any (some ⟨w.heap.size, 0, none⟩) k k _ _ wr hred hn HI.out)
      clear hrow' hb hred
      go_wp2_with (go_at_call 80; refine HC.out.mono ?_; rintro e w' ⟨rfl, rfl⟩)
      go_ret2
      exact ⟨rfl, Hb.out⟩

set_option maxHeartbeats 1000000 in
theorem total_x (A : Option Addr) (n c : Nat) (l : List Wt) (w : World) (hr : Reads w w.heap.size 5 A n (wtCells l)) (hln : l.length = n) (hn : n ≤ 1000000) (hI : ∀ a ∈ l, I64 a.x) :
    Calls Tryd.prog 52 #[.int .i64 n, .func (.func 54) #[.slice A n c] #[]] w fun e w' => e = .returned (.tuple #[.int .i64 (sumV (l.map Wt.x).sum), .bool (sumE (l.map Wt.x).sum == 0)]) ∧ Below w.heap.size w w' := by
  have Hr := Lib.hid hr; clear hr
  have HI := Lib.hid (all_I64 hI); clear hI
  have Hln := Lib.hid hln; clear hln
  have hmk := fun W : World => run_make_row' (P := Tryd.prog) 58 3 (.int .i64 0) 8 Tryd.underlying58 Tryd.infoInt rfl .i64 .i64 n (by omega) (by omega) W
  go_enter Tryd.func52, Tryd.ntmps52
  go_wp2_with fail
  have hrow := World.rowIs_made w (.int .i64 0) n 3
  have hr0 : ∀ j, j < n → (Value.int .i64 0) = rowTo (l.map Wt.x) 0 j := fun j _ => by simp [rowTo]
  go_loopw [14] (fun i wr => ∃ k : Nat, k ≤ n ∧ i = .int .i64 k ∧ wr.rowIs w.heap.size 3 n (rowTo (l.map Wt.x) k) ∧ Below w.heap.size w wr) (fun i _ => n - (intOf i).toNat)
  case atStart => exact ⟨0, Nat.zero_le _, rfl, hrow.congr hr0, by go_grown⟩
  case round =>
    obtain ⟨k, hk, rfl, hrow', hb⟩ := hrel
    clear hrow hr0
    have Hrow := Lib.hid hrow'
    have Hb := Lib.hid hb
    by_cases hlt : k < n
    · have hc := hrow'.cell hlt
      have hf := hrow'.frozen k
      clear hrow' hb
      have HC := Lib.hid (x_at A n c w.heap.size k l wr (Hr.out.below Hb.out) hlt)
      have ⟨v0, hc0⟩ : ∃ v, wr.cell? ⟨w.heap.size, k, none⟩ = some v := ⟨_, hc⟩
      clear hc
      go_wp2_with (go_at_call 54; refine HC.out.mono ?_; rintro e w' ⟨rfl, rfl⟩)
      go_roundw
      case rel => exact ⟨k + 1, by omega, by go_num, by rw [← rowTo_next]; exact Hrow.out.set k _, Hb.out.setCell (Nat.le_refl _) _⟩
      case measure => simp [intOf]; omega
    · obtain rfl : k = n := by omega
      have hred := row_reads Hrow.out (by rw [List.length_map, Hln.out])
      have HC := Lib.hid (numSum_any (some ⟨w.heap.size, 0, none⟩) k k _ _ wr hred hn HI.out)
      clear hrow' hb hred
      go_wp2_with (go_at_call 80; refine HC.out.mono ?_; rintro e w' ⟨rfl, rfl⟩)
      go_ret2
      exact ⟨rfl, Hb.out⟩

set_option maxHeartbeats 1000000 in
theorem total_y (A : Option Addr) (n c : Nat) (l : List Wt) (w : World) (hr : Reads w w.heap.size 5 A n (wtCells l)) (hln : l.length = n) (hn : n ≤ 1000000) (hI : ∀ a ∈ l, I64 a.y) :
    Calls Tryd.prog 52 #[.int .i64 n, .func (.func 55) #[.slice A n c] #[]] w fun e w' => e = .returned (.tuple #[.int .i64 (sumV (l.map Wt.y).sum), .bool (sumE (l.map Wt.y).sum == 0)]) ∧ Below w.heap.size w w' := by
  have Hr := Lib.hid hr; clear hr
  have HI := Lib.hid (all_I64 hI); clear hI
  have Hln := Lib.hid hln; clear hln
  have hmk := fun W : World => run_make_row' (P := Tryd.prog) 58 3 (.int .i64 0) 8 Tryd.underlying58 Tryd.infoInt rfl .i64 .i64 n (by omega) (by omega) W
  go_enter Tryd.func52, Tryd.ntmps52
  go_wp2_with fail
  have hrow := World.rowIs_made w (.int .i64 0) n 3
  have hr0 : ∀ j, j < n → (Value.int .i64 0) = rowTo (l.map Wt.y) 0 j := fun j _ => by simp [rowTo]
  go_loopw [14] (fun i wr => ∃ k : Nat, k ≤ n ∧ i = .int .i64 k ∧ wr.rowIs w.heap.size 3 n (rowTo (l.map Wt.y) k) ∧ Below w.heap.size w wr) (fun i _ => n - (intOf i).toNat)
  case atStart => exact ⟨0, Nat.zero_le _, rfl, hrow.congr hr0, by go_grown⟩
  case round =>
    obtain ⟨k, hk, rfl, hrow', hb⟩ := hrel
    clear hrow hr0
    have Hrow := Lib.hid hrow'
    have Hb := Lib.hid hb
    by_cases hlt : k < n
    · have hc := hrow'.cell hlt
      have hf := hrow'.frozen k
      clear hrow' hb
      have HC := Lib.hid (y_at A n c w.heap.size k l wr (Hr.out.below Hb.out) hlt)
      have ⟨v0, hc0⟩ : ∃ v, wr.cell? ⟨w.heap.size, k, none⟩ = some v := ⟨_, hc⟩
      clear hc
      go_wp2_with (go_at_call 55; refine HC.out.mono ?_; rintro e w' ⟨rfl, rfl⟩)
      go_roundw
      case rel => exact ⟨k + 1, by omega, by go_num, by rw [← rowTo_next]; exact Hrow.out.set k _, Hb.out.setCell (Nat.le_refl _) _⟩
      case measure => simp [intOf]; omega
    · obtain rfl : k = n := by omega
      have hred := row_reads Hrow.out (by rw [List.length_map, Hln.out])
      have HC := Lib.hid (numSum_any (some ⟨w.heap.size, 0, none⟩) k k _ _ wr hred hn HI.out)
      clear hrow' hb hred
      go_wp2_with (go_at_call 80; refine HC.out.mono ?_; rintro e w' ⟨rfl, rfl⟩)
      go_ret2
      exact ⟨rfl, Hb.out⟩

set_option maxHeartbeats 1000000 in
theorem total_z (A : Option Addr) (n c : Nat) (l : List Wt) (w : World) (hr : Reads w w.heap.size 5 A n (wtCells l)) (hln : l.length = n) (hn : n ≤ 1000000) (hI : ∀ a ∈ l, I64 a.z) :
    Calls Tryd.prog 52 #[.int .i64 n, .func (.func 56) #[.slice A n c] #[]] w fun e w' => e = .returned (.tuple #[.int .i64 (sumV (l.map Wt.z).sum), .bool (sumE (l.map Wt.z).sum == 0)]) ∧ Below w.heap.size w w' := by
  have Hr := Lib.hid hr; clear hr
  have HI := Lib.hid (all_I64 hI); clear hI
  have Hln := Lib.hid hln; clear hln
  have hmk := fun W : World => run_make_row' (P := Tryd.prog) 58 3 (.int .i64 0) 8 Tryd.underlying58 Tryd.infoInt rfl .i64 .i64 n (by omega) (by omega) W
  go_enter Tryd.func52, Tryd.ntmps52
  go_wp2_with fail
  have hrow := World.rowIs_made w (.int .i64 0) n 3
  have hr0 : ∀ j, j < n → (Value.int .i64 0) = rowTo (l.map Wt.z) 0 j := fun j _ => by simp [rowTo]
  go_loopw [14] (fun i wr => ∃ k : Nat, k ≤ n ∧ i = .int .i64 k ∧ wr.rowIs w.heap.size 3 n (rowTo (l.map Wt.z) k) ∧ Below w.heap.size w wr) (fun i _ => n - (intOf i).toNat)
  case atStart => exact ⟨0, Nat.zero_le _, rfl, hrow.congr hr0, by go_grown⟩
  case round =>
    obtain ⟨k, hk, rfl, hrow', hb⟩ := hrel
    clear hrow hr0
    have Hrow := Lib.hid hrow'
    have Hb := Lib.hid hb
    by_cases hlt : k < n
    · have hc := hrow'.cell hlt
      have hf := hrow'.frozen k
      clear hrow' hb
      have HC := Lib.hid (z_at A n c w.heap.size k l wr (Hr.out.below Hb.out) hlt)
      have ⟨v0, hc0⟩ : ∃ v, wr.cell? ⟨w.heap.size, k, none⟩ = some v := ⟨_, hc⟩
      clear hc
      go_wp2_with (go_at_call 56; refine HC.out.mono ?_; rintro e w' ⟨rfl, rfl⟩)
      go_roundw
      case rel => exact ⟨k + 1, by omega, by go_num, by rw [← rowTo_next]; exact Hrow.out.set k _, Hb.out.setCell (Nat.le_refl _) _⟩
      case measure => simp [intOf]; omega
    · obtain rfl : k = n := by omega
      have hred := row_reads Hrow.out (by rw [List.length_map, Hln.out])
      have HC := Lib.hid (numSum_any (some ⟨w.heap.size, 0, none⟩) k k _ _ wr hred hn HI.out)
      clear hrow' hb hred
      go_wp2_with (go_at_call 80; refine HC.out.mono ?_; rintro e w' ⟨rfl, rfl⟩)
      go_ret2
      exact ⟨rfl, Hb.out⟩

set_option maxHeartbeats 1000000 in
theorem total_variance (A : Option Addr) (n c : Nat) (l : List Wt) (w : World) (hr : Reads w w.heap.size 5 A n (wtCells l)) (hln : l.length = n) (hn : n ≤ 1000000) (hI : ∀ a ∈ l, I64 a.v) :
    Calls Tryd.prog 52 #[.int .i64 n, .func (.func 57) #[.slice A n c] #[]] w fun e w' => e = .returned (.tuple #[.int .i64 (sumV (l.map Wt.v).sum), .bool (sumE (l.map Wt.v).sum == 0)]) ∧ Below w.heap.size w w' := by
  have Hr := Lib.hid hr; clear hr
  have HI := Lib.hid (all_I64 hI); clear hI
  have Hln := Lib.hid hln; clear hln
  have hmk := fun W : World => run_make_row' (P := Tryd.prog) 58 3 (.int .i64 0) 8 Tryd.underlying58 Tryd.infoInt rfl .i64 .i64 n (by omega) (by omega) W
  go_enter Tryd.func52, Tryd.ntmps52
  go_wp2_with fail
  have hrow := World.rowIs_made w (.int .i64 0) n 3
  have hr0 : ∀ j, j < n → (Value.int .i64 0) = rowTo (l.map Wt.v) 0 j := fun j _ => by simp [rowTo]
  go_loopw [14] (fun i wr => ∃ k : Nat, k ≤ n ∧ i = .int .i64 k ∧ wr.rowIs w.heap.size 3 n (rowTo (l.map Wt.v) k) ∧ Below w.heap.size w wr) (fun i _ => n - (intOf i).toNat)
  case atStart => exact ⟨0, Nat.zero_le _, rfl, hrow.congr hr0, by go_grown⟩
  case round =>
    obtain ⟨k, hk, rfl, hrow', hb⟩ := hrel
    clear hrow hr0
    have Hrow := Lib.hid hrow'
    have Hb := Lib.hid hb
    by_cases hlt : k < n
    · have hc := hrow'.cell hlt
      have hf := hrow'.frozen k
      clear hrow' hb
      have HC := Lib.hid (variance_at A n c w.heap.size k l wr (Hr.out.below Hb.out) hlt)
      have ⟨v0, hc0⟩ : ∃ v, wr.cell? ⟨w.heap.size, k, none⟩ = some v := ⟨_, hc⟩
      clear hc
      go_wp2_with (go_at_call 57; refine HC.out.mono ?_; rintro e w' ⟨rfl, rfl⟩)
      go_roundw
      case rel => exact ⟨k + 1, by omega, by go_num, by rw [← rowTo_next]; exact Hrow.out.set k _, Hb.out.setCell (Nat.le_refl _) _⟩
      case measure => simp [intOf]; omega
    · obtain rfl : k = n := by omega
      have hred := row_reads Hrow.out (by rw [List.length_map, Hln.out])
      have HC := Lib.hid (numSum_any (some ⟨w.heap.size, 0, none⟩) k k _ _ wr hred hn HI.out)
      clear hrow' hb hred
      go_wp2_with (go_at_call 80; refine HC.out.mono ?_; rintro e w' ⟨rfl, rfl⟩)
      go_ret2
      exact ⟨rfl, Hb.out⟩
end Go.Proofs.YtfgeocpooimojaaDoor
