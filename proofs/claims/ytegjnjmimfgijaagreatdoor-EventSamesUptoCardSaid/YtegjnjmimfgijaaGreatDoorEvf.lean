/-
  Closed runs by evaluation, part 6: memory: the relation of the heaps, one cell written, one block made. Conditions: as each theorem states them.
-/
import Derived.Test.YtegjnjmimfgijaaGreatDoorEve
noncomputable section
namespace Go.Proofs.YtegjnjmimfgijaaGreatDoor
open Go Go.RowKit

/-- A world, and which of its blocks may be written. -/
structure Base where
  w : World
  mu : Nat → Prop
  f0 : Nat → Option Obj
  ds : List Deferred
def Base.old (W : Base) (c : Nat) : Prop := c < W.w.heap.size ∧ ¬ W.mu c
/-- The old blocks are as they were. -/
structure Still (W : Base) (w : World) : Prop where
  os : w.os = W.w.os
  tape : w.tape = W.w.tape
  output : w.output = W.w.output
  size : W.w.heap.size ≤ w.heap.size
  block : ∀ k, W.old k → w.heap[k]? = W.w.heap[k]?
theorem Still.fresh {W : Base} {w : World} (h : Still W w) : ¬ W.old w.heap.size := fun h' => by have := h.size; have := h'.1; omega
theorem Still.drew {W : Base} {w : World} (h : Still W w) : Still W { w with drawn := w.drawn + 1 } := ⟨h.os, h.tape, h.output, h.size, h.block⟩
/-- Whether a block may be written. -/
def AObj.wr : AObj → Bool
  | .cells _ wr => wr
  | .iter _ _ => true
/-- An abstract block and a concrete one; O: the blocks that are old and never written. -/
def ORel (ρ : Place) (O : Nat → Prop) (c s z : Nat) : AObj → Obj → Prop
  | .cells l wr, .cells cs _ fr => cs.size = z ∧ s + l.length ≤ z ∧ (∀ o, o < z → ¬ (fr.1 ≤ o ∧ o < fr.2)) ∧ (∀ (i : Nat) (v : Value), l[i]? = some v → ∃ v', cs[s + i]? = some v' ∧ VR ρ v v') ∧ (wr = true → ¬ O c)
  | .iter st p, .stringIter st' p' => st' = st ∧ p' = p ∧ ¬ O c ∧ s = 0
  | _, _ => False
theorem ORel.mono {ρ ρ' : Place} (h : ρ.le ρ') {O : Nat → Prop} {c s z : Nat} {o : AObj} {ob : Obj} (ho : ORel ρ O c s z o ob) : ORel ρ' O c s z o ob := by
  cases o with
  | cells l wr =>
    cases ob <;> try exact ho.elim
    obtain ⟨h1, h2, h3, h4, h5⟩ := ho
    exact ⟨h1, h2, h3, fun i v hv => let ⟨v', e, hr⟩ := h4 i v hv; ⟨v', e, hr.mono h⟩, h5⟩
  | iter st p =>
    cases ob <;> try exact ho.elim
    exact ho

structure Rel (ρ : Place) (W : Base) (hp : Tr AObj) (nx : Nat) (w : World) : Prop where
  dom : ∀ b x, ρ b = some x → b < nx ∧ x.1 < w.heap.size
  obj : ∀ b o c s z, hp.get b = some o → ρ b = some (c, s, z) → ∃ ob, w.heap[c]? = some ob ∧ ORel ρ W.old c s z o ob
  inj : ∀ b b' x x' o o', hp.get b = some o → hp.get b' = some o' → ρ b = some x → ρ b' = some x' → x.1 = x'.1 → b = b'
  fresh : ∀ b, nx ≤ b → hp.get b = none
  below : Still W w
  frz : ∀ c ob, ρ.fr c = some ob → w.heap[c]? = some ob
  apart : ∀ b o c s z, hp.get b = some o → o.wr = true → ρ b = some (c, s, z) → ρ.fr c = none
  frn : ∀ c ob, ρ.fr c = some ob → W.f0 c = some ob ∨ ¬ W.old c
/-- Without the deferred calls. -/
def Base.bare (W : Base) : Base := ⟨W.w, W.mu, W.f0, []⟩
theorem Rel.bare {ρ : Place} {W : Base} {hp : Tr AObj} {nx : Nat} {w : World} (h : Rel ρ W hp nx w) : Rel ρ W.bare hp nx w :=
  ⟨h.dom, h.obj, h.inj, h.fresh, ⟨h.below.os, h.below.tape, h.below.output, h.below.size, h.below.block⟩, h.frz, h.apart, h.frn⟩
theorem Rel.unbare {ρ : Place} {W : Base} {hp : Tr AObj} {nx : Nat} {w : World} (h : Rel ρ W.bare hp nx w) : Rel ρ W hp nx w :=
  ⟨h.dom, h.obj, h.inj, h.fresh, ⟨h.below.os, h.below.tape, h.below.output, h.below.size, h.below.block⟩, h.frz, h.apart, h.frn⟩
theorem Rel.drew {ρ : Place} {W : Base} {hp : Tr AObj} {nx : Nat} {w : World} (h : Rel ρ W hp nx w) : Rel ρ W hp nx { w with drawn := w.drawn + 1 } :=
  ⟨h.dom, h.obj, h.inj, h.fresh, h.below.drew, h.frz, h.apart, h.frn⟩

/-- One abstract block more, of which nothing is laid yet. -/
theorem Rel.reserve {ρ : Place} {W : Base} {hp : Tr AObj} {nx : Nat} {w : World} (h : Rel ρ W hp nx w) (o : AObj) : Rel ρ W (hp.put nx (some o)) (nx + 1) w := by
  have hn : ρ nx = none := by
    cases hc : ρ nx with
    | none => rfl
    | some x => have := (h.dom nx x hc).1; omega
  have get : ∀ b x, ρ b = some x → (hp.put nx (some o)).get b = hp.get b := fun b x hb => by
    rw [Tr.get_put, if_neg (by intro e; subst e; rw [hn] at hb; cases hb)]
  refine ⟨fun b x hb => ⟨Nat.lt_succ_of_lt (h.dom b x hb).1, (h.dom b x hb).2⟩, fun b o' c s z ho hb => ?_, fun b b' x x' o1 o2 h1 h2 hb hb' hx => ?_, fun b hb => ?_, h.below, h.frz, fun b o' c s z ho hw hb => by rw [get b _ hb] at ho; exact h.apart b o' c s z ho hw hb, h.frn⟩
  · rw [get b _ hb] at ho
    exact h.obj b o' c s z ho hb
  · rw [get b _ hb] at h1
    rw [get b' _ hb'] at h2
    exact h.inj b b' x x' o1 o2 h1 h2 hb hb' hx
  · rw [Tr.get_put, if_neg (by omega)]
    exact h.fresh b (by omega)

def Place.set (ρ : Place) (b : Nat) (x : Nat × Nat × Nat) : Place := ⟨fun k => if k = b then some x else ρ k, ρ.fr, ρ.gl⟩
theorem Place.le_set {ρ : Place} {b : Nat} {x : Nat × Nat × Nat} (h : ρ b = none) : ρ.le (ρ.set b x) := ⟨fun k y hk => by
  unfold Place.set
  dsimp only
  rw [if_neg (by intro e; subst e; rw [h] at hk; cases hk)]
  exact hk, fun _ _ hc => hc⟩
theorem Place.set_same (ρ : Place) (b : Nat) (x : Nat × Nat × Nat) : (ρ.set b x) b = some x := by simp [Place.set]
theorem Place.set_other {ρ : Place} {b k : Nat} {x : Nat × Nat × Nat} (h : k ≠ b) : (ρ.set b x) k = ρ k := by simp [Place.set, h]

def pushed (w : World) (ob : Obj) : World := { w with heap := w.heap.push ob }
theorem pushed_lt (w : World) (ob : Obj) {c : Nat} (h : c < w.heap.size) : (pushed w ob).heap[c]? = w.heap[c]? := by
  show (w.heap.push ob)[c]? = _
  rw [Array.getElem?_push, if_neg (Nat.ne_of_lt h)]
theorem pushed_at (w : World) (ob : Obj) : (pushed w ob).heap[w.heap.size]? = some ob := by
  show (w.heap.push ob)[w.heap.size]? = _
  rw [Array.getElem?_push, if_pos rfl]
theorem below_pushed {W : Base} {w : World} (h : Still W w) (ob : Obj) : Still W (pushed w ob) :=
  ⟨h.os, h.tape, h.output, by have := h.size; show _ ≤ (w.heap.push ob).size; rw [Array.size_push]; omega, fun k hk => by rw [pushed_lt w ob (by have := h.size; have := hk.1; omega)]; exact h.block k hk⟩
/-- A reserved block is laid in new memory. -/
theorem Rel.realize {ρ : Place} {W : Base} {hp : Tr AObj} {nx : Nat} {w : World} (h : Rel ρ W hp nx w) {b : Nat} {o : AObj} {ob : Obj} {z : Nat} (hb : b < nx) (hn : ρ b = none) (ho : hp.get b = some o)
    (hr : ORel ρ W.old w.heap.size 0 z o ob) : Rel (ρ.set b (w.heap.size, 0, z)) W hp nx (pushed w ob) := by
  have hle := Place.le_set (x := (w.heap.size, 0, z)) hn
  refine ⟨fun k x hk => ?_, fun k o' c s z' ho' hk => ?_, fun k k' x x' o1 o2 h1 h2 hk hk' hx => ?_, h.fresh, below_pushed h.below ob, fun c ob' hc => ?_, fun k o' c s z' ho' hw hk => ?_, h.frn⟩
  · by_cases e : k = b
    · subst e
      rw [Place.set_same] at hk
      cases hk
      exact ⟨hb, by show _ < (w.heap.push ob).size; rw [Array.size_push]; omega⟩
    · rw [Place.set_other e] at hk
      have := h.dom k x hk
      exact ⟨this.1, by show _ < (w.heap.push ob).size; rw [Array.size_push]; omega⟩
  · by_cases e : k = b
    · subst e
      rw [Place.set_same] at hk
      cases hk
      rw [ho] at ho'
      cases ho'
      exact ⟨ob, pushed_at w ob, hr.mono hle⟩
    · rw [Place.set_other e] at hk
      obtain ⟨ob', e1, e2⟩ := h.obj k o' c s z' ho' hk
      have := (h.dom k _ hk).2
      exact ⟨ob', by rw [pushed_lt w ob this]; exact e1, e2.mono hle⟩
  · by_cases e : k = b
    · by_cases e' : k' = b
      · rw [e, e']
      · subst e
        rw [Place.set_same] at hk
        rw [Place.set_other e'] at hk'
        cases hk
        have := (h.dom k' x' hk').2
        simp only at hx
        omega
    · by_cases e' : k' = b
      · subst e'
        rw [Place.set_same] at hk'
        rw [Place.set_other e] at hk
        cases hk'
        have := (h.dom k x hk).2
        simp only at hx
        omega
      · rw [Place.set_other e] at hk
        rw [Place.set_other e'] at hk'
        exact h.inj k k' x x' o1 o2 h1 h2 hk hk' hx
  · have := h.frz c ob' hc
    rw [pushed_lt w ob (by
      rcases Nat.lt_or_ge c w.heap.size with h' | h'
      · exact h'
      · simp [Array.getElem?_eq_none h'] at this)]
    exact this
  · show ρ.fr c = none
    by_cases e : k = b
    · subst e
      rw [Place.set_same] at hk
      cases hk
      cases hf : ρ.fr w.heap.size with
      | none => rfl
      | some x => have := h.frz _ _ hf; simp at this
    · rw [Place.set_other e] at hk
      exact h.apart k o' c s z' ho' hw hk

def single : Value → Bool
  | .agg _ | .tuple _ => false
  | _ => true
theorem Rel.cell {ρ : Place} {W : Base} {hp : Tr AObj} {nx : Nat} {w : World} (h : Rel ρ W hp nx w) {b c s z : Nat} {l : List Value} {wr : Bool} (hb : hp.get b = some (.cells l wr)) (hr : ρ b = some (c, s, z))
    {i : Nat} {v : Value} (hv : l[i]? = some v) : ∃ v', w.cell? ⟨c, s + i, none⟩ = some v' ∧ VR ρ v v' := by
  obtain ⟨ob, e, ho⟩ := h.obj b _ c s z hb hr
  cases ob <;> try exact ho.elim
  obtain ⟨h1, h2, h3, h4, h5⟩ := ho
  obtain ⟨v', e', hv'⟩ := h4 i v hv
  exact ⟨v', by simp [World.cell?, e, e'], hv'⟩
/-- One cell is written; it may lie behind the abstract block's cells. -/
theorem store_run {P : Program} {w : World} {p : Addr} {v : Value} {cs : Array Value} {t : TypeId} {fr : Nat × Nat} (hc : w.heap[p.block]? = some (.cells cs t fr)) (hp : p.spot = none) (ho : p.off < cs.size)
    (hf : ¬ (fr.1 ≤ p.off ∧ p.off < fr.2)) (hs : single v = true) : (store p v).run P w = .ok () (w.setCell p v) := by
  have h1 : w.cell? p = some cs[p.off] := by simp [World.cell?, hc, hp, ho]
  have h2 : w.frozen? p = false := by
    simp only [World.frozen?, hc]
    simp only [Bool.and_eq_false_iff, decide_eq_false_iff_not]
    by_cases h : fr.1 ≤ p.off
    · exact .inr fun h' => hf ⟨h, h'⟩
    · exact .inl h
  unfold store
  have hn : ∀ c, v ≠ .agg c := fun c e => by subst e; exact absurd hs Bool.false_ne_true
  have hm : ∀ c, v ≠ .tuple c := fun c e => by subst e; exact absurd hs Bool.false_ne_true
  cases v <;> first | exact absurd rfl (hn _) | exact absurd rfl (hm _) | (simp only [Sem.run, h1, h2]; rfl)
theorem setCell_heap (w : World) {c : Nat} (o : Nat) (v : Value) {cs : Array Value} {t : TypeId} {fr : Nat × Nat} (hc : w.heap[c]? = some (.cells cs t fr)) (k : Nat) :
    (w.setCell ⟨c, o, none⟩ v).heap[k]? = if k = c then some (.cells (cs.setIfInBounds o v) t fr) else w.heap[k]? := by
  simp only [World.setCell, Array.getElem?_modify]
  by_cases h : c = k
  · subst h; simp [hc]
  · simp [h, Ne.symm h]
theorem below_setCell {W : Base} {w : World} (h : Still W w) {p : Addr} (hp : ¬ W.old p.block) (v : Value) : Still W (w.setCell p v) :=
  ⟨h.os, h.tape, h.output, by have := h.size; simp [World.setCell]; omega, fun k hk => by
    rw [← h.block k hk]
    simp only [World.setCell, Array.getElem?_modify]
    rw [if_neg (fun e => hp (by rw [e]; exact hk))]⟩
theorem Rel.write {ρ : Place} {W : Base} {hp : Tr AObj} {nx : Nat} {w : World} (h : Rel ρ W hp nx w) {b c s z : Nat} {l : List Value} (hb : hp.get b = some (.cells l true)) (hr : ρ b = some (c, s, z))
    {i : Nat} (hi : i < l.length) {v v' : Value} (hv : VR ρ v v') (hs : single v' = true) (P : Program) :
    (store ⟨c, s + i, none⟩ v').run P w = .ok () (w.setCell ⟨c, s + i, none⟩ v') ∧ Rel ρ W (hp.put b (some (.cells (l.set i v) true))) nx (w.setCell ⟨c, s + i, none⟩ v') := by
  obtain ⟨ob, e, ho⟩ := h.obj b _ c s z hb hr
  cases ob <;> try exact ho.elim
  rename_i cs t fr
  obtain ⟨h1, h2, h3, h4, h5⟩ := ho
  have hbn : b < nx := (h.dom b _ hr).1
  refine ⟨store_run e rfl (by show s + i < cs.size; omega) (h3 (s + i) (by omega)) hs, ⟨fun k x hk => ⟨(h.dom k x hk).1, by simpa [World.setCell] using (h.dom k x hk).2⟩, fun k o' c' s' z' ho' hk => ?_, fun k k' x x' o1 o2 g1 g2 hk hk' hx => ?_, fun k hk => ?_, below_setCell h.below (h5 rfl) v', fun c0 ob0 hc0 => ?_, fun k o' c' s' z' ho' hw hk => ?_, h.frn⟩⟩
  · rw [Tr.get_put] at ho'
    by_cases ek : k = b
    · rw [if_pos ek] at ho'
      cases ho'
      rw [ek, hr] at hk
      cases hk
      refine ⟨.cells (cs.setIfInBounds (s + i) v') t fr, by rw [setCell_heap w _ _ e, if_pos rfl], by simp [h1], by simpa using h2, h3, fun j u hu => ?_, h5⟩
      rw [List.getElem?_set] at hu
      by_cases hji : i = j
      · rw [if_pos hji] at hu
        split at hu
        · cases hu
          refine ⟨v', ?_, hv⟩
          rw [← hji, Array.getElem?_setIfInBounds, if_pos rfl, if_pos (by omega)]
        · exact absurd hi (by assumption)
      · rw [if_neg hji] at hu
        obtain ⟨u', e1, e2⟩ := h4 j u hu
        exact ⟨u', by rw [Array.getElem?_setIfInBounds_ne (by omega)]; exact e1, e2⟩
    · rw [if_neg ek] at ho'
      obtain ⟨ob', e1, e2⟩ := h.obj k o' c' s' z' ho' hk
      refine ⟨ob', ?_, e2⟩
      rw [setCell_heap w _ _ e, if_neg]
      · exact e1
      · intro ec
        exact ek (h.inj k b _ _ _ _ ho' hb hk hr ec)
  · have live : ∀ k o, (hp.put b (some (.cells (l.set i v) true))).get k = some o → ∃ o', hp.get k = some o' := fun k o hk => by
      rw [Tr.get_put] at hk
      by_cases ek : k = b
      · exact ⟨_, ek ▸ hb⟩
      · rw [if_neg ek] at hk; exact ⟨_, hk⟩
    obtain ⟨_, g1'⟩ := live k o1 g1
    obtain ⟨_, g2'⟩ := live k' o2 g2
    exact h.inj k k' x x' _ _ g1' g2' hk hk' hx
  · rw [Tr.get_put, if_neg (by omega)]
    exact h.fresh k hk
  · rw [setCell_heap w _ _ e, if_neg]
    · exact h.frz c0 ob0 hc0
    · intro ec
      have := h.apart b _ c s z hb rfl hr
      rw [ec, this] at hc0
      cases hc0
  · rw [Tr.get_put] at ho'
    by_cases ek : k = b
    · rw [ek, hr] at hk
      cases hk
      exact h.apart b _ c s z hb rfl hr
    · rw [if_neg ek] at ho'
      exact h.apart k o' c' s' z' ho' hw hk
end Go.Proofs.YtegjnjmimfgijaaGreatDoor
