/-
  Arguments that are structs, opened to their cells by the types of the cells. Conditions: as each theorem states them.
-/
import Derived.Test.YtfgeocpooimojaaDoorOpen
import Derived.Test.YtfgeocpooimojaaDoorChecked
namespace Go.Proofs.YtfgeocpooimojaaDoor
open Go Go.RowKit Go.ChangeShapes Go.WideShapes Go.ChangeAt Go.Deep Go.Joins

section
variable {P : Program} {w : World} {r : Reach} {base : Nat} {t : TypeId} {v : Value}
theorem okCells {fs : Array Field} {ts : List TypeId} (hu : P.underlying t = some (.struct fs)) (hc : P.cellTypes P.depth t = some ts) (hn : P.cellsOf t = ts.length) (h : Value.okWide P w r base t v) :
    ∃ l : List Value, v = .agg l.toArray ∧ l.length = ts.length ∧ ∀ (i : Nat) (u : TypeId) (x : Value), ts[i]? = some u → l[i]? = some x → Cell.okWide P w r base u x := by
  unfold Value.okWide at h
  rw [hu] at h
  obtain ⟨cs, rfl, hsz, ts', hts, _, hall⟩ := h
  obtain rfl : ts = ts' := by rw [hc] at hts; exact Option.some.inj hts
  refine ⟨cs.toList, by simp, by simp; omega, fun i u x hi hx => ?_⟩
  have hlt : i < ts.length := (List.getElem?_eq_some_iff.1 hi).1
  obtain ⟨u', hu', hok⟩ := hall i x (by simpa using hx)
  rw [Nat.mod_eq_of_lt hlt, hi] at hu'
  obtain rfl := Option.some.inj hu'
  exact hok
theorem cell_int {k : IntKind} (ht : P.underlying t = some (.int k)) (h : Cell.okWide P w r base t v) : ∃ n, v = .int k n ∧ k.has n = true := by
  simp only [Cell.okWide, ht] at h
  cases v <;> simp_all [Cell.ok]
theorem cell_string (ht : P.underlying t = some .string) (h : Cell.okWide P w r base t v) : ∃ s, v = .string s := by
  simp only [Cell.okWide, ht] at h
  cases v <;> simp_all [Cell.ok]
theorem cell_bool (ht : P.underlying t = some .bool) (h : Cell.okWide P w r base t v) : ∃ s, v = .bool s := by
  simp only [Cell.okWide, ht] at h
  cases v <;> simp_all [Cell.ok]
theorem cell_slice {e : TypeId} (ht : P.underlying t = some (.slice e)) (h : Cell.okWide P w r base t v) : ∃ a n c, v = .slice a n c := by
  simp only [Cell.okWide, ht] at h
  cases v <;> simp_all [Cell.ok]
theorem list_eight {l : List Value} (h : l.length = 8) : ∃ a b c d e f g i, l = [a, b, c, d, e, f, g, i] := by
  match l, h with
  | [a, b, c, d, e, f, g, i], _ => exact ⟨a, b, c, d, e, f, g, i, rfl⟩
end
set_option maxRecDepth 100000 in
theorem open_wgh {W : World} {r : Reach} {b0 : Nat} {v : Value} (hv : Value.okWide Tryd.prog W r b0 49 v) : ∃ (bl : ByteArray) (at' m x y z s : Int) (sl : Option Addr) (n c : Nat), v = .agg #[.string bl, .int .i64 at', .int .i64 m, .int .i64 x, .int .i64 y, .int .i64 z, .int .i64 s, .slice sl n c] := by
  obtain ⟨l, rfl, hl, hc⟩ := okCells Tryd.underlying49 (ts := [9, 3, 3, 3, 3, 3, 3, 47]) (by kernel_rfl) (by kernel_rfl) hv
  obtain ⟨c0, c1, c2, c3, c4, c5, c6, c7, rfl⟩ := list_eight hl
  obtain ⟨s0, rfl⟩ := cell_string Tryd.underlying9 (hc 0 _ _ rfl rfl)
  obtain ⟨n1, rfl, _⟩ := cell_int Tryd.underlying3 (hc 1 _ _ rfl rfl)
  obtain ⟨n2, rfl, _⟩ := cell_int Tryd.underlying3 (hc 2 _ _ rfl rfl)
  obtain ⟨n3, rfl, _⟩ := cell_int Tryd.underlying3 (hc 3 _ _ rfl rfl)
  obtain ⟨n4, rfl, _⟩ := cell_int Tryd.underlying3 (hc 4 _ _ rfl rfl)
  obtain ⟨n5, rfl, _⟩ := cell_int Tryd.underlying3 (hc 5 _ _ rfl rfl)
  obtain ⟨n6, rfl, _⟩ := cell_int Tryd.underlying3 (hc 6 _ _ rfl rfl)
  obtain ⟨a7, n7, k7, rfl⟩ := cell_slice Tryd.underlying47 (hc 7 _ _ rfl rfl)
  exact ⟨s0, n1, n2, n3, n4, n5, n6, a7, n7, k7, rfl⟩
end Go.Proofs.YtfgeocpooimojaaDoor
