/-
  What the functions of package weight, and of its reference, return. Conditions: as each theorem states them. Sums of weights: what Sum and Add of package weight return. Conditions: as each theorem states them.
-/
import Derived.Test.YtfgeocpooimojaaDoorQPfWeightCentres11
namespace Go.Proofs.YtfgeocpooimojaaDoor
open Go Go.RowKit

def btwB (n lo hi : Int) : Bool := decide (lo ≤ n) && decide (n ≤ hi)
theorem between_any (n lo hi : Int) (w : World) : Calls Tryd.prog 31 #[.int .i64 n, .int .i64 lo, .int .i64 hi] w fun e w' => e = .returned (.bool (btwB n lo hi)) ∧ w = w' := by
  unfold btwB
  by_cases h1 : lo ≤ n <;> by_cases h2 : n ≤ hi
  all_goals
    go_enter Tryd.func31, Tryd.ntmps31
    go_wp2
    go_ret
    exact ⟨by simp [h1, h2], rfl⟩
/-- A weight: mass, moments, variance. -/
abbrev wtV (m x y z v : Int) : Value := .agg #[.int .i64 m, .int .i64 x, .int .i64 y, .int .i64 z, .int .i64 v]
/-- Whether a weight is valid. -/
def okW (m x y z v : Int) : Bool :=
  btwB m 0 1099511627776 && btwB v 0 1152921504606846976 && btwB x (-1152921504606846976) 1152921504606846976 && btwB y (-1152921504606846976) 1152921504606846976 && btwB z (-1152921504606846976) 1152921504606846976
def chkE (m x y z v : Int) : Int := if okW m x y z v then 0 else 9
theorem okW_iff (m x y z v : Int) : okW m x y z v = true ↔ (0 ≤ m ∧ m ≤ 1099511627776) ∧ (0 ≤ v ∧ v ≤ 1152921504606846976) ∧ (-1152921504606846976 ≤ x ∧ x ≤ 1152921504606846976) ∧ (-1152921504606846976 ≤ y ∧ y ≤ 1152921504606846976) ∧ (-1152921504606846976 ≤ z ∧ z ≤ 1152921504606846976) := by
  simp only [okW, btwB, Bool.and_eq_true, decide_eq_true_eq]
  omega
set_option maxHeartbeats 1000000 in
theorem check_at (m x y z v : Int) (w : World) : Calls Tryd.prog 13 #[wtV m x y z v] w fun e w' => e = .returned (.int .i64 (chkE m x y z v)) ∧ w.alloc (.cells #[.int .i64 m, .int .i64 x, .int .i64 y, .int .i64 z, .int .i64 v] 23) = w' := by
  unfold chkE okW
  have i0 : ∀ w a b c, (Instr.index 62 (.agg #[a, b, c]) (.int .i64 0)).run Tryd.prog w = .ok a w := fun _ _ _ _ => by kernel_rfl
  have i1 : ∀ w a b c, (Instr.index 62 (.agg #[a, b, c]) (.int .i64 1)).run Tryd.prog w = .ok b w := fun _ _ _ _ => by kernel_rfl
  have i2 : ∀ w a b c, (Instr.index 62 (.agg #[a, b, c]) (.int .i64 2)).run Tryd.prog w = .ok c w := fun _ _ _ _ => by kernel_rfl
  cases h1 : btwB m 0 1099511627776
  · go_enter Tryd.func13, Tryd.ntmps13
    go_wp2_with (go_at_call 31; refine (between_any _ _ _ _).mono ?_; rintro e w' ⟨rfl, rfl⟩)
    go_ret
    exact ⟨rfl, rfl⟩
  cases h2 : btwB v 0 1152921504606846976
  · go_enter Tryd.func13, Tryd.ntmps13
    go_wp2_with (go_at_call 31; refine (between_any _ _ _ _).mono ?_; rintro e w' ⟨rfl, rfl⟩)
    go_ret
    exact ⟨rfl, rfl⟩
  cases h3 : btwB x (-1152921504606846976) 1152921504606846976
  · go_enter Tryd.func13, Tryd.ntmps13
    go_wp2_with (go_at_call 31; refine (between_any _ _ _ _).mono ?_; rintro e w' ⟨rfl, rfl⟩)
    refine wp_loop_rounds 1 ?_
    rw [rounds_succ]
    go_wp2_with (go_at_call 31; refine (between_any _ _ _ _).mono ?_; rintro e w' ⟨rfl, rfl⟩)
    go_ret
    exact ⟨rfl, rfl⟩
  cases h4 : btwB y (-1152921504606846976) 1152921504606846976
  · go_enter Tryd.func13, Tryd.ntmps13
    go_wp2_with (go_at_call 31; refine (between_any _ _ _ _).mono ?_; rintro e w' ⟨rfl, rfl⟩)
    refine wp_loop_rounds 2 ?_
    rw [rounds_succ]
    go_wp2_with (go_at_call 31; refine (between_any _ _ _ _).mono ?_; rintro e w' ⟨rfl, rfl⟩)
    rw [rounds_succ]
    go_wp2_with (go_at_call 31; refine (between_any _ _ _ _).mono ?_; rintro e w' ⟨rfl, rfl⟩)
    go_ret
    exact ⟨rfl, rfl⟩
  cases h5 : btwB z (-1152921504606846976) 1152921504606846976
  · go_enter Tryd.func13, Tryd.ntmps13
    go_wp2_with (go_at_call 31; refine (between_any _ _ _ _).mono ?_; rintro e w' ⟨rfl, rfl⟩)
    refine wp_loop_rounds 3 ?_
    iterate 3
      rw [rounds_succ]
      go_wp2_with (go_at_call 31; refine (between_any _ _ _ _).mono ?_; rintro e w' ⟨rfl, rfl⟩)
    go_ret
    exact ⟨rfl, rfl⟩
  · go_enter Tryd.func13, Tryd.ntmps13
    go_wp2_with (go_at_call 31; refine (between_any _ _ _ _).mono ?_; rintro e w' ⟨rfl, rfl⟩)
    refine wp_loop_rounds 4 ?_
    iterate 4
      rw [rounds_succ]
      go_wp2_with (go_at_call 31; refine (between_any _ _ _ _).mono ?_; rintro e w' ⟨rfl, rfl⟩)
    go_ret
    exact ⟨rfl, rfl⟩
theorem check_any (m x y z v : Int) (w : World) : Calls Tryd.prog 13 #[wtV m x y z v] w fun e w' => e = .returned (.int .i64 (chkE m x y z v)) ∧ Below w.heap.size w w' :=
  (check_at m x y z v w).mono fun _ _ ⟨he, hw⟩ => ⟨he, by rw [← hw]; go_grown⟩
theorem chkE_no {m x y z v : Int} (h : ¬ ((0 ≤ m ∧ m ≤ 1099511627776) ∧ (0 ≤ v ∧ v ≤ 1152921504606846976) ∧ (-1152921504606846976 ≤ x ∧ x ≤ 1152921504606846976) ∧ (-1152921504606846976 ≤ y ∧ y ≤ 1152921504606846976) ∧ (-1152921504606846976 ≤ z ∧ z ≤ 1152921504606846976))) : chkE m x y z v = 9 := by
  unfold chkE; rw [if_neg (by rw [okW_iff]; exact h)]
theorem chkE_yes {m x y z v : Int} (h : (0 ≤ m ∧ m ≤ 1099511627776) ∧ (0 ≤ v ∧ v ≤ 1152921504606846976) ∧ (-1152921504606846976 ≤ x ∧ x ≤ 1152921504606846976) ∧ (-1152921504606846976 ≤ y ∧ y ≤ 1152921504606846976) ∧ (-1152921504606846976 ≤ z ∧ z ≤ 1152921504606846976)) : chkE m x y z v = 0 := by
  unfold chkE; rw [if_pos (by rw [okW_iff]; exact h)]
set_option maxHeartbeats 1000000 in
theorem refCheck_at (m x y z v : Int) (w : World) : Calls Tryd.prog 14 #[wtV m x y z v] w fun e w' => e = .returned (.int .i64 (chkE m x y z v)) ∧ w.alloc (.cells #[.int .i64 m, .int .i64 x, .int .i64 y, .int .i64 z, .int .i64 v] 23) = w' := by
  by_cases h0 : m < 0
  · have E := Lib.hid (chkE_no (m := m) (x := x) (y := y) (z := z) (v := v) (by omega))
    go_enter Tryd.func14, Tryd.ntmps14
    go_wp2_with fail
    go_ret
    exact ⟨ret_int E.out.symm, rfl⟩
  by_cases h1 : 1099511627776 < m
  · have E := Lib.hid (chkE_no (m := m) (x := x) (y := y) (z := z) (v := v) (by omega))
    go_enter Tryd.func14, Tryd.ntmps14
    go_wp2_with fail
    go_ret
    exact ⟨ret_int E.out.symm, rfl⟩
  by_cases h2 : x < -1152921504606846976
  · have E := Lib.hid (chkE_no (m := m) (x := x) (y := y) (z := z) (v := v) (by omega))
    go_enter Tryd.func14, Tryd.ntmps14
    go_wp2_with fail
    go_ret
    exact ⟨ret_int E.out.symm, rfl⟩
  by_cases h3 : 1152921504606846976 < x
  · have E := Lib.hid (chkE_no (m := m) (x := x) (y := y) (z := z) (v := v) (by omega))
    go_enter Tryd.func14, Tryd.ntmps14
    go_wp2_with fail
    go_ret
    exact ⟨ret_int E.out.symm, rfl⟩
  by_cases h4 : y < -1152921504606846976
  · have E := Lib.hid (chkE_no (m := m) (x := x) (y := y) (z := z) (v := v) (by omega))
    go_enter Tryd.func14, Tryd.ntmps14
    go_wp2_with fail
    go_ret
    exact ⟨ret_int E.out.symm, rfl⟩
  by_cases h5 : 1152921504606846976 < y
  · have E := Lib.hid (chkE_no (m := m) (x := x) (y := y) (z := z) (v := v) (by omega))
    go_enter Tryd.func14, Tryd.ntmps14
    go_wp2_with fail
    go_ret
    exact ⟨ret_int E.out.symm, rfl⟩
  by_cases h6 : z < -1152921504606846976
  · have E := Lib.hid (chkE_no (m := m) (x := x) (y := y) (z := z) (v := v) (by omega))
    go_enter Tryd.func14, Tryd.ntmps14
    go_wp2_with fail
    go_ret
    exact ⟨ret_int E.out.symm, rfl⟩
  by_cases h7 : 1152921504606846976 < z
  · have E := Lib.hid (chkE_no (m := m) (x := x) (y := y) (z := z) (v := v) (by omega))
    go_enter Tryd.func14, Tryd.ntmps14
    go_wp2_with fail
    go_ret
    exact ⟨ret_int E.out.symm, rfl⟩
  by_cases h8 : v < 0
  · have E := Lib.hid (chkE_no (m := m) (x := x) (y := y) (z := z) (v := v) (by omega))
    go_enter Tryd.func14, Tryd.ntmps14
    go_wp2_with fail
    go_ret
    exact ⟨ret_int E.out.symm, rfl⟩
  by_cases h9 : 1152921504606846976 < v
  · have E := Lib.hid (chkE_no (m := m) (x := x) (y := y) (z := z) (v := v) (by omega))
    go_enter Tryd.func14, Tryd.ntmps14
    go_wp2_with fail
    go_ret
    exact ⟨ret_int E.out.symm, rfl⟩
  · have E := Lib.hid (chkE_yes (m := m) (x := x) (y := y) (z := z) (v := v) (by omega))
    go_enter Tryd.func14, Tryd.ntmps14
    go_wp2_with fail
    go_ret
    exact ⟨ret_int E.out.symm, rfl⟩
theorem refCheck_any (m x y z v : Int) (w : World) : Calls Tryd.prog 14 #[wtV m x y z v] w fun e w' => e = .returned (.int .i64 (chkE m x y z v)) ∧ Below w.heap.size w w' :=
  (refCheck_at m x y z v w).mono fun _ _ ⟨he, hw⟩ => ⟨he, by rw [← hw]; go_grown⟩
end Go.Proofs.YtfgeocpooimojaaDoor
namespace Go.Proofs.YtfgeocpooimojaaDoor
open Go Go.RowKit

/-- A weight. -/
structure Wt where
  m : Int
  x : Int
  y : Int
  z : Int
  v : Int
def Wt.cells (a : Wt) : List Value := [.int .i64 a.m, .int .i64 a.x, .int .i64 a.y, .int .i64 a.z, .int .i64 a.v]
def Wt.val (a : Wt) : Value := .agg #[.int .i64 a.m, .int .i64 a.x, .int .i64 a.y, .int .i64 a.z, .int .i64 a.v]
def Wt.In (a : Wt) : Prop := I64 a.m ∧ I64 a.x ∧ I64 a.y ∧ I64 a.z ∧ I64 a.v
def wtCells (l : List Wt) : List Value := l.flatMap Wt.cells
theorem wtCells_at (l : List Wt) (k : Nat) (a : Wt) (h : l[k]? = some a) (j : Nat) (u : Value) (hj : a.cells[j]? = some u) : (wtCells l)[k * 5 + j]? = some u := by
  induction l generalizing k with
  | nil => simp at h
  | cons b l ih =>
    have hjl : j < 5 := (List.getElem?_eq_some_iff.1 hj).1
    show (b.cells ++ wtCells l)[k * 5 + j]? = some u
    cases k with
    | zero =>
      simp at h; subst h
      rw [List.getElem?_append_left (by show _ < 5; omega)]
      simpa using hj
    | succ k =>
      rw [List.getElem?_append_right (by show 5 ≤ _; omega)]
      rw [show (k + 1) * 5 + j - b.cells.length = k * 5 + j by show (k + 1) * 5 + j - 5 = _; omega]
      exact ih k (by simpa using h)
theorem wtReads_at {w : World} {B n k : Nat} {A : Option Addr} {l : List Wt} (h : Reads w B 5 A n (wtCells l)) (hk : k < n) :
    ∃ ad a, A = some ad ∧ ad.block < B ∧ l[k]? = some a ∧ w.cell? (ad.add (k * 5)) = some (.int .i64 a.m) ∧ w.cell? ⟨(ad.add (k * 5)).block, (ad.add (k * 5)).off + 1, none⟩ = some (.int .i64 a.x) ∧ w.cell? ⟨(ad.add (k * 5)).block, (ad.add (k * 5)).off + 2, none⟩ = some (.int .i64 a.y) ∧
      w.cell? ⟨(ad.add (k * 5)).block, (ad.add (k * 5)).off + 3, none⟩ = some (.int .i64 a.z) ∧ w.cell? ⟨(ad.add (k * 5)).block, (ad.add (k * 5)).off + 4, none⟩ = some (.int .i64 a.v) := by
  obtain ⟨ad, e, hb, hc⟩ := h.2 (by omega)
  have hlen : (wtCells l).length = 5 * l.length := by
    clear h hc
    induction l with
    | nil => rfl
    | cons b l ih => show (b.cells ++ wtCells l).length = _; rw [List.length_append, ih]; simp [Wt.cells]; omega
  have hl : k < l.length := by have := h.1; omega
  have ha : l[k]? = some l[k] := List.getElem?_eq_getElem hl
  have h1 := fun j u hj => (add_of_add ad (k * 5) j ▸ hc _ u (wtCells_at l k _ ha j u hj) : w.cell? ((ad.add (k * 5)).add j) = some u)
  exact ⟨ad, l[k], e, hb, ha, h1 0 _ rfl, h1 1 _ rfl, h1 2 _ rfl, h1 3 _ rfl, h1 4 _ rfl⟩

/-- The k-th number; 0 beyond the end. -/
def nth (l : List Int) (k : Nat) : Int := l.getD k 0
theorem mass_at (A : Option Addr) (n c B k : Nat) (l : List Wt) (w : World) (hr : Reads w B 5 A n (wtCells l)) (hk : k < n) :
    Calls Tryd.prog 53 #[.slice A n c, .int .i64 k] w fun e w' => e = .returned (.int .i64 (nth (l.map Wt.m) k)) ∧ w = w' := by
  obtain ⟨ad, a, rfl, _, ha, c0, c1, c2, c3, c4⟩ := wtReads_at hr hk
  clear hr
  have E : Hid (nth (l.map Wt.m) k = a.m) := by unfold Hid nth; rw [List.getD_eq_getElem?_getD, List.getElem?_map, ha]; rfl
  clear ha
  go_enter Tryd.func53, Tryd.ntmps53
  go_wp2_with fail
  go_ret
  exact ⟨ret_int E.out.symm, rfl⟩
theorem x_at (A : Option Addr) (n c B k : Nat) (l : List Wt) (w : World) (hr : Reads w B 5 A n (wtCells l)) (hk : k < n) :
    Calls Tryd.prog 54 #[.slice A n c, .int .i64 k] w fun e w' => e = .returned (.int .i64 (nth (l.map Wt.x) k)) ∧ w = w' := by
  obtain ⟨ad, a, rfl, _, ha, c0, c1, c2, c3, c4⟩ := wtReads_at hr hk
  clear hr
  have E : Hid (nth (l.map Wt.x) k = a.x) := by unfold Hid nth; rw [List.getD_eq_getElem?_getD, List.getElem?_map, ha]; rfl
  clear ha
  go_enter Tryd.func54, Tryd.ntmps54
  go_wp2_with fail
  go_ret
  exact ⟨ret_int E.out.symm, rfl⟩
theorem y_at (A : Option Addr) (n c B k : Nat) (l : List Wt) (w : World) (hr : Reads w B 5 A n (wtCells l)) (hk : k < n) :
    Calls Tryd.prog 55 #[.slice A n c, .int .i64 k] w fun e w' => e = .returned (.int .i64 (nth (l.map Wt.y) k)) ∧ w = w' := by
  obtain ⟨ad, a, rfl, _, ha, c0, c1, c2, c3, c4⟩ := wtReads_at hr hk
  clear hr
  have E : Hid (nth (l.map Wt.y) k = a.y) := by unfold Hid nth; rw [List.getD_eq_getElem?_getD, List.getElem?_map, ha]; rfl
  clear ha
  go_enter Tryd.func55, Tryd.ntmps55
  go_wp2_with fail
  go_ret
  exact ⟨ret_int E.out.symm, rfl⟩
theorem z_at (A : Option Addr) (n c B k : Nat) (l : List Wt) (w : World) (hr : Reads w B 5 A n (wtCells l)) (hk : k < n) :
    Calls Tryd.prog 56 #[.slice A n c, .int .i64 k] w fun e w' => e = .returned (.int .i64 (nth (l.map Wt.z) k)) ∧ w = w' := by
  obtain ⟨ad, a, rfl, _, ha, c0, c1, c2, c3, c4⟩ := wtReads_at hr hk
  clear hr
  have E : Hid (nth (l.map Wt.z) k = a.z) := by unfold Hid nth; rw [List.getD_eq_getElem?_getD, List.getElem?_map, ha]; rfl
  clear ha
  go_enter Tryd.func56, Tryd.ntmps56
  go_wp2_with fail
  go_ret
  exact ⟨ret_int E.out.symm, rfl⟩
theorem variance_at (A : Option Addr) (n c B k : Nat) (l : List Wt) (w : World) (hr : Reads w B 5 A n (wtCells l)) (hk : k < n) :
    Calls Tryd.prog 57 #[.slice A n c, .int .i64 k] w fun e w' => e = .returned (.int .i64 (nth (l.map Wt.v) k)) ∧ w = w' := by
  obtain ⟨ad, a, rfl, _, ha, c0, c1, c2, c3, c4⟩ := wtReads_at hr hk
  clear hr
  have E : Hid (nth (l.map Wt.v) k = a.v) := by unfold Hid nth; rw [List.getD_eq_getElem?_getD, List.getElem?_map, ha]; rfl
  clear ha
  go_enter Tryd.func57, Tryd.ntmps57
  go_wp2_with fail
  go_ret
  exact ⟨ret_int E.out.symm, rfl⟩
end Go.Proofs.YtfgeocpooimojaaDoor
