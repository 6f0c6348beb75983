/-
  Weights and lists of weights among the arguments, opened. Conditions: as each theorem states them.
-/
import Derived.Test.YtfgeocpooimojaaDoorOpen
import Derived.Test.YtfgeocpooimojaaDoorWsum
import Derived.Test.YtfgeocpooimojaaDoorChecked
namespace Go.Proofs.YtfgeocpooimojaaDoor
open Go Go.RowKit Go.ChangeShapes Go.WideShapes Go.ChangeAt Go.Deep Go.Joins

theorem i64_of_wf {x : Int} (h : (Lit.int .i64 x).wf = true) : I64 x := by
  simp [Lit.wf, IntKind.min, IntKind.max, IntKind.signed, IntKind.bits] at h
  exact ⟨by omega, by omega⟩
section
variable {H : Type} {enc : TypeId × Value → H} {W : World} {base : Nat} {spare : Nat → Bool} {held : Bool}
set_option maxRecDepth 100000 in
theorem open_wt {r : Reach} {b0 : Nat} {v : Value} {d : DataW H} {p : List MemPlace} (hv : Value.okWide Tryd.prog W r b0 23 v) (h : DataW.Trod enc Tryd.prog W base spare held 23 v d p) : ∃ a : Wt, v = a.val ∧ a.In := by
  obtain ⟨v0, v1, v2, v3, v4, y0, y1, y2, y3, y4, n, rfl, rfl, rfl, h0, h1, h2, h3, h4⟩ := open_agg5 Tryd.underlying23 (by kernel_rfl) (by kernel_rfl) hv h
  obtain ⟨a0, e0, _, w0⟩ := DataW.trod_int Tryd.underlying3 h0
  obtain ⟨a1, e1, _, w1⟩ := DataW.trod_int Tryd.underlying3 h1
  obtain ⟨a2, e2, _, w2⟩ := DataW.trod_int Tryd.underlying3 h2
  obtain ⟨a3, e3, _, w3⟩ := DataW.trod_int Tryd.underlying3 h3
  obtain ⟨a4, e4, _, w4⟩ := DataW.trod_int Tryd.underlying3 h4
  simp at e0 e1 e2 e3 e4
  subst e0 e1 e2 e3 e4
  exact ⟨⟨a0, a1, a2, a3, a4⟩, rfl, i64_of_wf w0, i64_of_wf w1, i64_of_wf w2, i64_of_wf w3, i64_of_wf w4⟩
theorem wtCells_split (l : List Wt) (j : Nat) (u : Value) (h : (wtCells l)[j]? = some u) : ∃ i r a, j = i * 5 + r ∧ l[i]? = some a ∧ a.cells[r]? = some u := by
  induction l generalizing j with
  | nil => simp [wtCells] at h
  | cons b l ih =>
    have e : wtCells (b :: l) = b.cells ++ wtCells l := rfl
    rw [e] at h
    by_cases hj : j < 5
    · rw [List.getElem?_append_left (by show _ < 5; exact hj)] at h
      exact ⟨0, j, b, by omega, rfl, h⟩
    · rw [List.getElem?_append_right (by show 5 ≤ _; omega)] at h
      obtain ⟨i, r, a, e1, e2, e3⟩ := ih _ h
      exact ⟨i + 1, r, a, by simp [Wt.cells] at e1; omega, by simpa using e2, e3⟩
set_option maxRecDepth 100000 in
theorem open_wts {fuel : Nat} {cs : List Value} {x : DataW H × List MemPlace} (h : DataW.trod enc Tryd.prog W base spare held fuel 24 cs = some x) :
    ∃ (A : Option Addr) (n c : Nat) (l : List Wt), cs = [.slice A n c] ∧ Reads W W.heap.size 5 A n (wtCells l) ∧ l.length = n ∧ (∀ a ∈ l, a.In) ∧ n ≤ maxLen := by
  rcases open_slice_fields Tryd.underlying24 Tryd.underlying23 (by kernel_rfl) (by kernel_rfl) h with ⟨rfl, _⟩ | ⟨ad, len, cap, m, D, Pl, rfl, _, hl, hm, hmm, _, hi⟩
  · exact ⟨none, 0, 0, [], rfl, Reads.none_, rfl, by simp, by unfold maxLen; omega⟩
  have hlm : len ≤ m := by rw [hmm]; split <;> omega
  have key : ∀ i, i < len → ∃ a : Wt, a.In ∧ ∀ r u, a.cells[r]? = some u → W.cell? (ad.add (i * 5 + r)) = some u := by
    intro i hil
    obtain ⟨ys, n, _, _, _, hf⟩ := hi i (by omega)
    obtain ⟨v0, y0, c0, _, t0⟩ := hf 0 _ rfl
    obtain ⟨v1, y1, c1, _, t1⟩ := hf 1 _ rfl
    obtain ⟨v2, y2, c2, _, t2⟩ := hf 2 _ rfl
    obtain ⟨v3, y3, c3, _, t3⟩ := hf 3 _ rfl
    obtain ⟨v4, y4, c4, _, t4⟩ := hf 4 _ rfl
    obtain ⟨a0, e0, _, w0⟩ := DataW.trod_int Tryd.underlying3 t0
    obtain ⟨a1, e1, _, w1⟩ := DataW.trod_int Tryd.underlying3 t1
    obtain ⟨a2, e2, _, w2⟩ := DataW.trod_int Tryd.underlying3 t2
    obtain ⟨a3, e3, _, w3⟩ := DataW.trod_int Tryd.underlying3 t3
    obtain ⟨a4, e4, _, w4⟩ := DataW.trod_int Tryd.underlying3 t4
    simp at e0 e1 e2 e3 e4
    subst e0 e1 e2 e3 e4
    refine ⟨⟨a0, a1, a2, a3, a4⟩, ⟨i64_of_wf w0, i64_of_wf w1, i64_of_wf w2, i64_of_wf w3, i64_of_wf w4⟩, fun r u hu => ?_⟩
    match r, hu with
    | 0, hu => simp [Wt.cells] at hu; subst hu; exact c0
    | 1, hu => simp [Wt.cells] at hu; subst hu; exact c1
    | 2, hu => simp [Wt.cells] at hu; subst hu; exact c2
    | 3, hu => simp [Wt.cells] at hu; subst hu; exact c3
    | 4, hu => simp [Wt.cells] at hu; subst hu; exact c4
    | r + 5, hu => simp [Wt.cells] at hu
  have build : ∀ k, k ≤ len → ∃ l : List Wt, l.length = k ∧ (∀ a ∈ l, a.In) ∧ ∀ i a, l[i]? = some a → ∀ r u, a.cells[r]? = some u → W.cell? (ad.add (i * 5 + r)) = some u := by
    intro k
    induction k with
    | zero => exact fun _ => ⟨[], rfl, by simp, by simp⟩
    | succ k ih =>
      intro hk
      obtain ⟨l, e, hin, hc⟩ := ih (by omega)
      obtain ⟨a, ha, hac⟩ := key k (by omega)
      refine ⟨l ++ [a], by simp [e], ?_, ?_⟩
      · intro b hb
        rw [List.mem_append] at hb
        rcases hb with hb | hb
        · exact hin b hb
        · simp at hb; subst hb; exact ha
      · intro i b hb
        by_cases hik : i < k
        · rw [List.getElem?_append_left (by omega)] at hb
          exact hc i b hb
        · rw [List.getElem?_append_right (by omega), e] at hb
          have : i = k := by
            rcases Nat.lt_or_ge k i with h | h
            · rw [List.getElem?_eq_none (by simp; omega)] at hb; cases hb
            · omega
          subst this
          simp at hb; subst hb; exact hac
  obtain ⟨l, e, hin, hc⟩ := build len (Nat.le_refl _)
  refine ⟨some ad, len, cap, l, rfl, ⟨?_, fun h0 => ⟨ad, rfl, ?_, ?_⟩⟩, e, hin, by omega⟩
  · clear hc hin
    rw [← e]
    clear e build key hi hlm hl
    induction l with
    | nil => rfl
    | cons a l ih => show (a.cells ++ wtCells l).length = _; rw [List.length_append, ih]; simp [Wt.cells]; omega
  · obtain ⟨a, _, hac⟩ := key 0 h0
    have := block_lt_of_cell (hac 0 _ rfl)
    simpa [block_of_add] using this
  · intro j u hu
    obtain ⟨i, r, a, rfl, h2, h3⟩ := wtCells_split l j u hu
    exact hc i a h2 r u h3
end
end Go.Proofs.YtfgeocpooimojaaDoor
