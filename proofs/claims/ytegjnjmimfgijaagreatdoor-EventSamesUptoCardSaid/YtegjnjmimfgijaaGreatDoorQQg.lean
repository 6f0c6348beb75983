/-
  The listed variables' cells, as the runs know them. Conditions: as each theorem states them. Arguments that lie below the worlds' growth read as before, all at once. Conditions: as each theorem states them.
-/
import Derived.Test.YtegjnjmimfgijaaGreatDoorRows
import Derived.Test.YtegjnjmimfgijaaGreatDoorChecked
import Derived.Test.YtegjnjmimfgijaaGreatDoorEva
import Derived.MakeChecks
import Derived.OpenShut
import Derived.ChangeBears2
import Derived.Test.YtegjnjmimfgijaaGreatDoorOpen
namespace Go.Proofs.YtegjnjmimfgijaaGreatDoor
open Go Go.RowKit Go.ChangeShapes
set_option maxRecDepth 100000
theorem cs_pieces {z : Nat} : ∀ {c : List (List Value)} {cs : List Value}, cs.length = c.length * z → (∀ i p, c[i]? = some p → (cs.drop (i * z)).take z = p) → cs = c.flatten
  | [], cs, hl, _ => by simp at hl; simp [hl]
  | a :: c, cs, hl, h => by
    have h0 := h 0 a rfl
    simp only [Nat.zero_mul, List.drop_zero] at h0
    have ih := cs_pieces (z := z) (c := c) (cs := cs.drop z) (by rw [List.length_drop, hl, List.length_cons, Nat.succ_mul]; omega) fun i p hp => by
      rw [List.drop_drop]
      have := h (i + 1) p (by simpa using hp)
      rwa [Nat.succ_mul, Nat.add_comm] at this
    rw [List.flatten_cons, ← ih, ← h0, List.take_append_drop]
def flat1 : DataW Unit → List Value
  | .lit (.string b) => [.string ⟨b.toArray⟩]
  | .lit (.int k n) => [.int k n]
  | _ => []
def flat2 : DataW Unit → List Value
  | .agg l => l.flatMap flat1
  | d => flat1 d
section
variable {enc : TypeId × Value → Unit} {P : Program} {w : World} {base : Nat} {spare : Nat → Bool} {held : Bool} {fuel : Nat} {t e : TypeId} {cs : List Value} {x : DataW Unit × List MemPlace}
theorem flat_string (ht : P.underlying t = some .string) (h : DataW.trod enc P w base spare held fuel t cs = some x) : cs = flat1 x.1 := by
  obtain ⟨s, rfl, rfl, _⟩ := DataW.trod_string ht h
  simp [flat1]
theorem flat_int {k : IntKind} (ht : P.underlying t = some (.int k)) (h : DataW.trod enc P w base spare held fuel t cs = some x) : cs = flat1 x.1 := by
  obtain ⟨s, rfl, rfl, _⟩ := DataW.trod_int ht h
  rfl
theorem flat_array {n : Nat} {F : DataW Unit → List Value} (ht : P.underlying t = some (.array n e)) (hz : P.cellsOf t = n * P.cellsOf e) (h : DataW.trod enc P w base spare held fuel t cs = some x)
    (hF : ∀ fuel cs x, DataW.trod enc P w base spare held fuel e cs = some x → cs = F x.1) : ∃ l, x.1 = .agg l ∧ cs = (l.map F).flatten := by
  obtain ⟨xs, m, _, rfl, hl, hxl, hi⟩ := DataW.trod_array ht h
  refine ⟨_, rfl, cs_pieces (z := P.cellsOf e) (by rw [List.length_map, List.length_map, hxl, hl, hz]) fun i p hp => ?_⟩
  rw [List.getElem?_map, List.getElem?_map] at hp
  cases hx : xs[i]? with
  | none => rw [hx] at hp; cases hp
  | some y =>
    rw [hx] at hp
    simp only [Option.map_some, Option.some.injEq] at hp
    subst hp
    have hin : i < n := by
      rw [← hxl]
      rcases Nat.lt_or_ge i xs.length with h' | h'
      · exact h'
      · rw [List.getElem?_eq_none h'] at hx; cases hx
    exact hF _ _ _ ((hi i hin).trans hx)
theorem flat_pair {f0 f1 : Field} (ht : P.underlying t = some (.struct #[f0, f1])) (hz : P.cellsOf t = 2) (h0 : f0.offset = 0) (h1 : f1.offset = 1) (c0 : P.cellsOf f0.type = 1) (c1 : P.cellsOf f1.type = 1) {k : IntKind}
    (u0 : P.underlying f0.type = some (.int k)) (u1 : P.underlying f1.type = some (.int k)) (h : DataW.trod enc P w base spare held fuel t cs = some x) : cs = flat2 x.1 := by
  obtain ⟨y0, y1, n, rfl, hl, g0, g1⟩ := trod_struct2 ht h
  rw [h0, c0] at g0
  rw [h1, c1] at g1
  have e0 := flat_int u0 g0
  have e1 := flat_int u1 g1
  match cs, hl.trans hz with
  | [a, b], _ =>
    simp at e0 e1
    show [a, b] = [y0.1, y1.1].flatMap flat1
    simp [← e0, ← e1]
end
theorem glob_laid {W : World} (h : laidMetH Tryz.prog Rows.eventSamesRow.laid W) : ∀ g cs, glob g = some cs → ∃ t fz, W.heap[g]? = some (.cells cs t fz) := by
  rw [MakeChecks.laidMetH_plain _ _ _ (by kernel_rfl)] at h
  obtain ⟨ps, ⟨g, t, cs, fuel, p, q, hg, ht, hv, htr, ⟨g', t', cs', fuel', p', q', hg', ht', hv', htr', _⟩, _⟩, _, _⟩ := h
  have heap : ∀ {n : String} {g : Nat} {cs : Array Value}, Tryz.prog.globalNamed n = some g → W.var? Tryz.prog n = some cs → ∃ t fz, W.heap[g]? = some (.cells cs t fz) := fun {n g cs} hg hv => by
    simp only [World.var?, hg, Option.bind_some] at hv
    split at hv
    · rename_i c t fz hh
      cases hv
      exact ⟨t, fz, hh⟩
    · cases hv
  obtain rfl : 3 = g := Option.some.inj ((show Tryz.prog.globalNamed "unicode/utf8.acceptRanges" = some 3 by kernel_rfl).symm.trans hg)
  obtain rfl : 0 = g' := Option.some.inj ((show Tryz.prog.globalNamed "shipyard/event.names" = some 0 by kernel_rfl).symm.trans hg')
  obtain rfl : 195 = t := Option.some.inj ((show (Tryz.prog.globals[3]?).map (·.type) = some 195 by kernel_rfl).symm.trans ht)
  obtain rfl : 73 = t' := Option.some.inj ((show (Tryz.prog.globals[0]?).map (·.type) = some 73 by kernel_rfl).symm.trans ht')
  obtain ⟨l, hl, hc⟩ := flat_array (F := flat2) Tryz.underlying195 (by kernel_rfl) htr fun fuel cs x hx => flat_pair Tryz.underlying194 (by kernel_rfl) rfl rfl (by kernel_rfl) (by kernel_rfl) Tryz.underlying5 Tryz.underlying5 hx
  obtain ⟨l', hl', hc'⟩ := flat_array (F := flat1) Tryz.underlying73 (by kernel_rfl) htr' fun fuel cs x hx => flat_string Tryz.underlying9 hx
  cases hl
  cases hl'
  intro k c hk
  unfold glob at hk
  cases h0 : k.beq 0 with
  | true =>
    rw [h0, cond_true] at hk
    obtain rfl := Nat.eq_of_beq_eq_true h0
    cases hk
    have := heap hg' hv'
    rwa [show cs' = _ from Array.toList_inj.1 (hc'.trans (by kernel_rfl))] at this
  | false =>
    rw [h0, cond_false] at hk
    cases h1 : k.beq 3 with
    | false => rw [h1] at hk; cases hk
    | true =>
      rw [h1, cond_true] at hk
      obtain rfl := Nat.eq_of_beq_eq_true h1
      cases hk
      have := heap hg hv
      rwa [show cs = _ from Array.toList_inj.1 (hc.trans (by kernel_rfl))] at this
end Go.Proofs.YtegjnjmimfgijaaGreatDoor
namespace Go.Proofs.YtegjnjmimfgijaaGreatDoor
open Go Go.RowKit Go.ChangeShapes Go.WideShapes Go.ChangeAt Go.Deep Go.Joins

theorem Tryz.own : ownKnob Tryz.prog.godebug = none := by kernel_rfl
theorem Tryz.laidOut : laidOutB Tryz.prog = true := by kernel_rfl
theorem trodAll_stays {H : Type} {enc : TypeId × Value → H} {P : Program} {W W' : World} {sp' : Nat → Bool} (hl : laidOutB P = true) : ∀ {ts : List TypeId} {vs : List Value} {ds : List (DataW H)} {ps : List MemPlace},
    (ts.all fun t => P.readableRec t && decide (t < P.types.size)) = true → DataW.TrodAll enc P W 0 (fun _ => true) true ts vs ds ps → (∀ p ∈ ps, W.sameAt W' p) → (∀ p ∈ ps, sp' p.block = true) →
    DataW.TrodAll enc P W' 0 sp' true ts vs ds ps := by
  intro ts
  induction ts with
  | nil =>
    intro vs ds ps _ h _ _
    obtain ⟨rfl, rfl, rfl⟩ := trodAll_nil h
    exact trodAll_mk0
  | cons t ts ih =>
    intro vs ds ps hr h hs hp
    obtain ⟨v, vs', d, ds', p, q, rfl, rfl, rfl, hd, hrest⟩ := trodAll_cons h
    simp only [List.all_cons, Bool.and_eq_true, decide_eq_true_eq] at hr
    exact trodAll_cons_mk (WideElems.Trod_stays hl hr.1.1 hr.1.2 hd (fun x hx => hs x (by simp [hx])) (fun x hx => hp x (by simp [hx])))
      (ih hr.2 hrest (fun x hx => hs x (by simp [hx])) (fun x hx => hp x (by simp [hx])))
end Go.Proofs.YtegjnjmimfgijaaGreatDoor
