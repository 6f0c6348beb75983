/-
  Sums of weights: what Sum and Add of package weight return. Conditions: as each theorem states them.
-/
import Derived.Test.YtfgeocpooimojaaDoorWeight
namespace Go.Proofs.YtfgeocpooimojaaDoor
open Go Go.RowKit

/-- A weight. -/
structure Wt where
  m : Int
  x : Int
  y : Int
  z : Int
  v : Int
def Wt.cells (a : Wt) : List Value := [.int .i64 a.m, .int .i64 a.x, .int .i64 a.y, .int .i64 a.z, .int .i64 a.v]
def Wt.val (a : Wt) : Value := .agg #[.int .i64 a.m, .int .i64 a.x, .int .i64 a.y, .int .i64 a.z, .int .i64 a.v]
def Wt.In (a : Wt) : Prop := I64 a.m ∧ I64 a.x ∧ I64 a.y ∧ I64 a.z ∧ I64 a.v
def wtCells (l : List Wt) : List Value := l.flatMap Wt.cells
theorem wtCells_at (l : List Wt) (k : Nat) (a : Wt) (h : l[k]? = some a) (j : Nat) (u : Value) (hj : a.cells[j]? = some u) : (wtCells l)[k * 5 + j]? = some u := by
  induction l generalizing k with
  | nil => simp at h
  | cons b l ih =>
    have hjl : j < 5 := (List.getElem?_eq_some_iff.1 hj).1
    show (b.cells ++ wtCells l)[k * 5 + j]? = some u
    cases k with
    | zero =>
      simp at h; subst h
      rw [List.getElem?_append_left (by show _ < 5; omega)]
      simpa using hj
    | succ k =>
      rw [List.getElem?_append_right (by show 5 ≤ _; omega)]
      rw [show (k + 1) * 5 + j - b.cells.length = k * 5 + j by show (k + 1) * 5 + j - 5 = _; omega]
      exact ih k (by simpa using h)
theorem wtReads_at {w : World} {B n k : Nat} {A : Option Addr} {l : List Wt} (h : Reads w B 5 A n (wtCells l)) (hk : k < n) :
    ∃ ad a, A = some ad ∧ ad.block < B ∧ l[k]? = some a ∧ w.cell? (ad.add (k * 5)) = some (.int .i64 a.m) ∧ w.cell? ⟨(ad.add (k * 5)).block, (ad.add (k * 5)).off + 1, none⟩ = some (.int .i64 a.x) ∧ w.cell? ⟨(ad.add (k * 5)).block, (ad.add (k * 5)).off + 2, none⟩ = some (.int .i64 a.y) ∧
      w.cell? ⟨(ad.add (k * 5)).block, (ad.add (k * 5)).off + 3, none⟩ = some (.int .i64 a.z) ∧ w.cell? ⟨(ad.add (k * 5)).block, (ad.add (k * 5)).off + 4, none⟩ = some (.int .i64 a.v) := by
  obtain ⟨ad, e, hb, hc⟩ := h.2 (by omega)
  have hlen : (wtCells l).length = 5 * l.length := by
    clear h hc
    induction l with
    | nil => rfl
    | cons b l ih => show (b.cells ++ wtCells l).length = _; rw [List.length_append, ih]; simp [Wt.cells]; omega
  have hl : k < l.length := by have := h.1; omega
  have ha : l[k]? = some l[k] := List.getElem?_eq_getElem hl
  have h1 := fun j u hj => (add_of_add ad (k * 5) j ▸ hc _ u (wtCells_at l k _ ha j u hj) : w.cell? ((ad.add (k * 5)).add j) = some u)
  exact ⟨ad, l[k], e, hb, ha, h1 0 _ rfl, h1 1 _ rfl, h1 2 _ rfl, h1 3 _ rfl, h1 4 _ rfl⟩

/-- The k-th number; 0 beyond the end. -/
def nth (l : List Int) (k : Nat) : Int := l.getD k 0
theorem mass_at (A : Option Addr) (n c B k : Nat) (l : List Wt) (w : World) (hr : Reads w B 5 A n (wtCells l)) (hk : k < n) :
    Calls Tryd.prog 53 #[.slice A n c, .int .i64 k] w fun e w' => e = .returned (.int .i64 (nth (l.map Wt.m) k)) ∧ w = w' := by
  obtain ⟨ad, a, rfl, _, ha, c0, c1, c2, c3, c4⟩ := wtReads_at hr hk
  clear hr
  have E : Hid (nth (l.map Wt.m) k = a.m) := by unfold Hid nth; rw [List.getD_eq_getElem?_getD, List.getElem?_map, ha]; rfl
  clear ha
  go_enter Tryd.func53, Tryd.ntmps53
  go_wp2_with fail
  go_ret
  exact ⟨ret_int E.out.symm, rfl⟩
theorem x_at (A : Option Addr) (n c B k : Nat) (l : List Wt) (w : World) (hr : Reads w B 5 A n (wtCells l)) (hk : k < n) :
    Calls Tryd.prog 54 #[.slice A n c, .int .i64 k] w fun e w' => e = .returned (.int .i64 (nth (l.map Wt.x) k)) ∧ w = w' := by
  obtain ⟨ad, a, rfl, _, ha, c0, c1, c2, c3, c4⟩ := wtReads_at hr hk
  clear hr
  have E : Hid (nth (l.map Wt.x) k = a.x) := by unfold Hid nth; rw [List.getD_eq_getElem?_getD, List.getElem?_map, ha]; rfl
  clear ha
  go_enter Tryd.func54, Tryd.ntmps54
  go_wp2_with fail
  go_ret
  exact ⟨ret_int E.out.symm, rfl⟩
theorem y_at (A : Option Addr) (n c B k : Nat) (l : List Wt) (w : World) (hr : Reads w B 5 A n (wtCells l)) (hk : k < n) :
    Calls Tryd.prog 55 #[.slice A n c, .int .i64 k] w fun e w' => e = .returned (.int .i64 (nth (l.map Wt.y) k)) ∧ w = w' := by
  obtain ⟨ad, a, rfl, _, ha, c0, c1, c2, c3, c4⟩ := wtReads_at hr hk
  clear hr
  have E : Hid (nth (l.map Wt.y) k = a.y) := by unfold Hid nth; rw [List.getD_eq_getElem?_getD, List.getElem?_map, ha]; rfl
  clear ha
  go_enter Tryd.func55, Tryd.ntmps55
  go_wp2_with fail
  go_ret
  exact ⟨ret_int E.out.symm, rfl⟩
theorem z_at (A : Option Addr) (n c B k : Nat) (l : List Wt) (w : World) (hr : Reads w B 5 A n (wtCells l)) (hk : k < n) :
    Calls Tryd.prog 56 #[.slice A n c, .int .i64 k] w fun e w' => e = .returned (.int .i64 (nth (l.map Wt.z) k)) ∧ w = w' := by
  obtain ⟨ad, a, rfl, _, ha, c0, c1, c2, c3, c4⟩ := wtReads_at hr hk
  clear hr
  have E : Hid (nth (l.map Wt.z) k = a.z) := by unfold Hid nth; rw [List.getD_eq_getElem?_getD, List.getElem?_map, ha]; rfl
  clear ha
  go_enter Tryd.func56, Tryd.ntmps56
  go_wp2_with fail
  go_ret
  exact ⟨ret_int E.out.symm, rfl⟩
theorem variance_at (A : Option Addr) (n c B k : Nat) (l : List Wt) (w : World) (hr : Reads w B 5 A n (wtCells l)) (hk : k < n) :
    Calls Tryd.prog 57 #[.slice A n c, .int .i64 k] w fun e w' => e = .returned (.int .i64 (nth (l.map Wt.v) k)) ∧ w = w' := by
  obtain ⟨ad, a, rfl, _, ha, c0, c1, c2, c3, c4⟩ := wtReads_at hr hk
  clear hr
  have E : Hid (nth (l.map Wt.v) k = a.v) := by unfold Hid nth; rw [List.getD_eq_getElem?_getD, List.getElem?_map, ha]; rfl
  clear ha
  go_enter Tryd.func57, Tryd.ntmps57
  go_wp2_with fail
  go_ret
  exact ⟨ret_int E.out.symm, rfl⟩
end Go.Proofs.YtfgeocpooimojaaDoor
