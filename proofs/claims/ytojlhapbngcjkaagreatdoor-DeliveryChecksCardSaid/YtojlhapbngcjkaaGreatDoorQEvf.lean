/-
  Put together out of several texts, each in its own namespace's block. Conditions: as each theorem states them.
-/
import Derived.Test.YtojlhapbngcjkaaGreatDoorQEva
noncomputable section
namespace Go.Proofs.YtojlhapbngcjkaaGreatDoor
open Go Go.RowKit
set_option maxRecDepth 100000
set_option maxHeartbeats 8000000
structure Base where
 w : World
 mu : Nat → Prop
 f0 : Nat → Option Obj
 ds : List Deferred
def Base.old (W : Base) (c : Nat) : Prop := c < W.w.heap.size ∧ ¬ W.mu c
structure Still (W : Base) (w : World) : Prop where
 os : w.os = W.w.os
 tape : w.tape = W.w.tape
 output : w.output = W.w.output
 size : W.w.heap.size ≤ w.heap.size
 block : ∀ k, W.old k → w.heap[k]? = W.w.heap[k]?
theorem Still.fresh {W : Base} {w : World} (h : Still W w) : ¬ W.old w.heap.size := fun h' => by have := h.size; have := h'.1; omega
theorem Still.drew {W : Base} {w : World} (h : Still W w) : Still W { w with drawn := w.drawn + 1 } := ⟨h.os, h.tape, h.output, h.size, h.block⟩
def AObj.wr : AObj → Bool
 | .cells _ wr => wr
 | .iter _ _ => true
 | .map _ _ => true
 | .miter _ _ _ _ => true
def ORel (ρ : Place) (O : Nat → Prop) (c s z : Nat) : AObj → Obj → Prop
 | .cells l wr, .cells cs _ fr => cs.size = z ∧ s + l.length ≤ z ∧ (∀ o, o < z → ¬ (fr.1 ≤ o ∧ o < fr.2)) ∧ (∀ (i : Nat) (v : Value), l[i]? = some v → ∃ v', cs[s + i]? = some v' ∧ VR ρ v v') ∧ (wr = true → ¬ O c)
 | .iter st p, .stringIter st' p' => st' = st ∧ p' = p ∧ ¬ O c ∧ s = 0
 | .map es ck, .map es' ck' => ck' = ck ∧ ¬ O c ∧ s = 0 ∧ es'.size = es.length ∧ ∀ (i : Nat) (e : Value × Value × Nat), es[i]? = some e → ∃ e', es'[i]? = some e' ∧ e'.key = e.1 ∧ closed1 e.1 = true ∧ VR ρ e.2.1 e'.val ∧ e'.born = e.2.2
 | .miter m since last seen, .mapIter m' since' seen' last' => since' = since ∧ last' = last ∧ seen'.toList = seen ∧ ¬ O c ∧ s = 0 ∧ match m with | none => m' = none | some b => ∃ c2 s2 z2, ρ b = some (c2, s2, z2) ∧ m' = some c2
 | _, _ => False
theorem ORel.mono {ρ ρ' : Place} (h : ρ.le ρ') {O : Nat → Prop} {c s z : Nat} {o : AObj} {ob : Obj} (ho : ORel ρ O c s z o ob) : ORel ρ' O c s z o ob := by
 cases o with
 | cells l wr =>
  cases ob <;> try exact ho.elim
  obtain ⟨h1, h2, h3, h4, h5⟩ := ho
  exact ⟨h1, h2, h3, fun i v hv => let ⟨v', e, hr⟩ := h4 i v hv; ⟨v', e, hr.mono h⟩, h5⟩
 | iter st p =>
  cases ob <;> try exact ho.elim
  exact ho
 | map es ck =>
  cases ob <;> try exact ho.elim
  obtain ⟨h1, h2, h3, h4, h5⟩ := ho
  exact ⟨h1, h2, h3, h4, fun i e he => let ⟨e', a, b, c, d, f⟩ := h5 i e he; ⟨e', a, b, c, d.mono h, f⟩⟩
 | miter m since last seen =>
  cases ob <;> try exact ho.elim
  obtain ⟨h1, h2, h3, h4, h5, h6⟩ := ho
  refine ⟨h1, h2, h3, h4, h5, ?_⟩
  cases m with
  | none => exact h6
  | some b =>
   obtain ⟨c2, s2, z2, e1, e2⟩ := h6
   exact ⟨c2, s2, z2, h.1 _ _ e1, e2⟩
structure Rel (ρ : Place) (W : Base) (hp : Tr AObj) (nx : Nat) (w : World) : Prop where
 dom : ∀ b x, ρ b = some x → b < nx ∧ x.1 < w.heap.size
 obj : ∀ b o c s z, hp.get b = some o → ρ b = some (c, s, z) → ∃ ob, w.heap[c]? = some ob ∧ ORel ρ W.old c s z o ob
 inj : ∀ b b' x x' o o', hp.get b = some o → hp.get b' = some o' → ρ b = some x → ρ b' = some x' → x.1 = x'.1 → b = b'
 fresh : ∀ b, nx ≤ b → hp.get b = none
 below : Still W w
 frz : ∀ c ob, ρ.fr c = some ob → w.heap[c]? = some ob
 apart : ∀ b o c s z, hp.get b = some o → o.wr = true → ρ b = some (c, s, z) → ρ.fr c = none
 frn : ∀ c ob, ρ.fr c = some ob → W.f0 c = some ob ∨ ¬ W.old c
def Base.bare (W : Base) : Base := ⟨W.w, W.mu, W.f0, []⟩
theorem Rel.bare {ρ : Place} {W : Base} {hp : Tr AObj} {nx : Nat} {w : World} (h : Rel ρ W hp nx w) : Rel ρ W.bare hp nx w :=
 ⟨h.dom, h.obj, h.inj, h.fresh, ⟨h.below.os, h.below.tape, h.below.output, h.below.size, h.below.block⟩, h.frz, h.apart, h.frn⟩
theorem Rel.unbare {ρ : Place} {W : Base} {hp : Tr AObj} {nx : Nat} {w : World} (h : Rel ρ W.bare hp nx w) : Rel ρ W hp nx w :=
 ⟨h.dom, h.obj, h.inj, h.fresh, ⟨h.below.os, h.below.tape, h.below.output, h.below.size, h.below.block⟩, h.frz, h.apart, h.frn⟩
theorem Rel.drew {ρ : Place} {W : Base} {hp : Tr AObj} {nx : Nat} {w : World} (h : Rel ρ W hp nx w) : Rel ρ W hp nx { w with drawn := w.drawn + 1 } :=
 ⟨h.dom, h.obj, h.inj, h.fresh, h.below.drew, h.frz, h.apart, h.frn⟩
theorem Rel.reserve {ρ : Place} {W : Base} {hp : Tr AObj} {nx : Nat} {w : World} (h : Rel ρ W hp nx w) (o : AObj) : Rel ρ W (hp.put nx (some o)) (nx + 1) w := by
 have hn : ρ nx = none := by
  cases hc : ρ nx with
  | none => rfl
  | some x => have := (h.dom nx x hc).1; omega
 have get : ∀ b x, ρ b = some x → (hp.put nx (some o)).get b = hp.get b := fun b x hb => by
  rw [Tr.get_put, if_neg (by intro e; subst e; rw [hn] at hb; cases hb)]
 refine ⟨fun b x hb => ⟨Nat.lt_succ_of_lt (h.dom b x hb).1, (h.dom b x hb).2⟩, fun b o' c s z ho hb => ?_, fun b b' x x' o1 o2 h1 h2 hb hb' hx => ?_, fun b hb => ?_, h.below, h.frz, fun b o' c s z ho hw hb => by rw [get b _ hb] at ho; exact h.apart b o' c s z ho hw hb, h.frn⟩
 ·rw [get b _ hb] at ho
  exact h.obj b o' c s z ho hb
 ·rw [get b _ hb] at h1
  rw [get b' _ hb'] at h2
  exact h.inj b b' x x' o1 o2 h1 h2 hb hb' hx
 ·rw [Tr.get_put, if_neg (by omega)]
  exact h.fresh b (by omega)
def Place.set (ρ : Place) (b : Nat) (x : Nat × Nat × Nat) : Place := ⟨fun k => if k = b then some x else ρ k, ρ.fr, ρ.gl⟩
theorem Place.le_set {ρ : Place} {b : Nat} {x : Nat × Nat × Nat} (h : ρ b = none) : ρ.le (ρ.set b x) := ⟨fun k y hk => by
 unfold Place.set
 dsimp only
 rw [if_neg (by intro e; subst e; rw [h] at hk; cases hk)]
 exact hk, fun _ _ hc => hc⟩
theorem Place.set_same (ρ : Place) (b : Nat) (x : Nat × Nat × Nat) : (ρ.set b x) b = some x := by simp [Place.set]
theorem Place.set_other {ρ : Place} {b k : Nat} {x : Nat × Nat × Nat} (h : k ≠ b) : (ρ.set b x) k = ρ k := by simp [Place.set, h]
def pushed (w : World) (ob : Obj) : World := { w with heap := w.heap.push ob }
theorem pushed_lt (w : World) (ob : Obj) {c : Nat} (h : c < w.heap.size) : (pushed w ob).heap[c]? = w.heap[c]? := by
 show (w.heap.push ob)[c]? = _
 rw [Array.getElem?_push, if_neg (Nat.ne_of_lt h)]
theorem pushed_at (w : World) (ob : Obj) : (pushed w ob).heap[w.heap.size]? = some ob := by
 show (w.heap.push ob)[w.heap.size]? = _
 rw [Array.getElem?_push, if_pos rfl]
theorem below_pushed {W : Base} {w : World} (h : Still W w) (ob : Obj) : Still W (pushed w ob) :=
 ⟨h.os, h.tape, h.output, by have := h.size; show _ ≤ (w.heap.push ob).size; rw [Array.size_push]; omega, fun k hk => by rw [pushed_lt w ob (by have := h.size; have := hk.1; omega)]; exact h.block k hk⟩
theorem Rel.realize {ρ : Place} {W : Base} {hp : Tr AObj} {nx : Nat} {w : World} (h : Rel ρ W hp nx w) {b : Nat} {o : AObj} {ob : Obj} {z : Nat} (hb : b < nx) (hn : ρ b = none) (ho : hp.get b = some o)
  (hr : ORel ρ W.old w.heap.size 0 z o ob) : Rel (ρ.set b (w.heap.size, 0, z)) W hp nx (pushed w ob) := by
 have hle := Place.le_set (x := (w.heap.size, 0, z)) hn
 refine ⟨fun k x hk => ?_, fun k o' c s z' ho' hk => ?_, fun k k' x x' o1 o2 h1 h2 hk hk' hx => ?_, h.fresh, below_pushed h.below ob, fun c ob' hc => ?_, fun k o' c s z' ho' hw hk => ?_, h.frn⟩
 ·by_cases e : k = b
  ·subst e
   rw [Place.set_same] at hk
   cases hk
   exact ⟨hb, by show _ < (w.heap.push ob).size; rw [Array.size_push]; omega⟩
  ·rw [Place.set_other e] at hk
   have := h.dom k x hk
   exact ⟨this.1, by show _ < (w.heap.push ob).size; rw [Array.size_push]; omega⟩
 ·by_cases e : k = b
  ·subst e
   rw [Place.set_same] at hk
   cases hk
   rw [ho] at ho'
   cases ho'
   exact ⟨ob, pushed_at w ob, hr.mono hle⟩
  ·rw [Place.set_other e] at hk
   obtain ⟨ob', e1, e2⟩ := h.obj k o' c s z' ho' hk
   have := (h.dom k _ hk).2
   exact ⟨ob', by rw [pushed_lt w ob this]; exact e1, e2.mono hle⟩
 ·by_cases e : k = b
  ·by_cases e' : k' = b
   ·rw [e, e']
   ·subst e
    rw [Place.set_same] at hk
    rw [Place.set_other e'] at hk'
    cases hk
    have := (h.dom k' x' hk').2
    simp only at hx
    omega
  ·by_cases e' : k' = b
   ·subst e'
    rw [Place.set_same] at hk'
    rw [Place.set_other e] at hk
    cases hk'
    have := (h.dom k x hk).2
    simp only at hx
    omega
   ·rw [Place.set_other e] at hk
    rw [Place.set_other e'] at hk'
    exact h.inj k k' x x' o1 o2 h1 h2 hk hk' hx
 ·have := h.frz c ob' hc
  rw [pushed_lt w ob (by
   rcases Nat.lt_or_ge c w.heap.size with h' | h'
   ·exact h'
   ·simp [Array.getElem?_eq_none h'] at this)]
  exact this
 ·show ρ.fr c = none
  by_cases e : k = b
  ·subst e
   rw [Place.set_same] at hk
   cases hk
   cases hf : ρ.fr w.heap.size with
   | none => rfl
   | some x => have := h.frz _ _ hf; simp at this
  ·rw [Place.set_other e] at hk
   exact h.apart k o' c s z' ho' hw hk
def single : Value → Bool
 | .agg _ | .tuple _ => false
 | _ => true
theorem Rel.cell {ρ : Place} {W : Base} {hp : Tr AObj} {nx : Nat} {w : World} (h : Rel ρ W hp nx w) {b c s z : Nat} {l : List Value} {wr : Bool} (hb : hp.get b = some (.cells l wr)) (hr : ρ b = some (c, s, z))
  {i : Nat} {v : Value} (hv : l[i]? = some v) : ∃ v', w.cell? ⟨c, s + i, none⟩ = some v' ∧ VR ρ v v' := by
 obtain ⟨ob, e, ho⟩ := h.obj b _ c s z hb hr
 cases ob <;> try exact ho.elim
 obtain ⟨h1, h2, h3, h4, h5⟩ := ho
 obtain ⟨v', e', hv'⟩ := h4 i v hv
 exact ⟨v', by simp [World.cell?, e, e'], hv'⟩
theorem store_run {P : Program} {w : World} {p : Addr} {v : Value} {cs : Array Value} {t : TypeId} {fr : Nat × Nat} (hc : w.heap[p.block]? = some (.cells cs t fr)) (hp : p.spot = none) (ho : p.off < cs.size)
  (hf : ¬ (fr.1 ≤ p.off ∧ p.off < fr.2)) (hs : single v = true) : (store p v).run P w = .ok () (w.setCell p v) := by
 have h1 : w.cell? p = some cs[p.off] := by simp [World.cell?, hc, hp, ho]
 have h2 : w.frozen? p = false := by
  simp only [World.frozen?, hc]
  simp only [Bool.and_eq_false_iff, decide_eq_false_iff_not]
  by_cases h : fr.1 ≤ p.off
  ·exact .inr fun h' => hf ⟨h, h'⟩
  ·exact .inl h
 unfold store
 have hn : ∀ c, v ≠ .agg c := fun c e => by subst e; exact absurd hs Bool.false_ne_true
 have hm : ∀ c, v ≠ .tuple c := fun c e => by subst e; exact absurd hs Bool.false_ne_true
 cases v <;> first | exact absurd rfl (hn _) | exact absurd rfl (hm _) | (simp only [Sem.run, h1, h2]; rfl)
theorem setCell_heap (w : World) {c : Nat} (o : Nat) (v : Value) {cs : Array Value} {t : TypeId} {fr : Nat × Nat} (hc : w.heap[c]? = some (.cells cs t fr)) (k : Nat) :
  (w.setCell ⟨c, o, none⟩ v).heap[k]? = if k = c then some (.cells (cs.setIfInBounds o v) t fr) else w.heap[k]? := by
 simp only [World.setCell, Array.getElem?_modify]
 by_cases h : c = k
 ·subst h; simp [hc]
 ·simp [h, Ne.symm h]
theorem below_setCell {W : Base} {w : World} (h : Still W w) {p : Addr} (hp : ¬ W.old p.block) (v : Value) : Still W (w.setCell p v) :=
 ⟨h.os, h.tape, h.output, by have := h.size; simp [World.setCell]; omega, fun k hk => by
  rw [← h.block k hk]
  simp only [World.setCell, Array.getElem?_modify]
  rw [if_neg (fun e => hp (by rw [e]; exact hk))]⟩
theorem Rel.write {ρ : Place} {W : Base} {hp : Tr AObj} {nx : Nat} {w : World} (h : Rel ρ W hp nx w) {b c s z : Nat} {l : List Value} (hb : hp.get b = some (.cells l true)) (hr : ρ b = some (c, s, z))
  {i : Nat} (hi : i < l.length) {v v' : Value} (hv : VR ρ v v') (hs : single v' = true) (P : Program) :
  (store ⟨c, s + i, none⟩ v').run P w = .ok () (w.setCell ⟨c, s + i, none⟩ v') ∧ Rel ρ W (hp.put b (some (.cells (l.set i v) true))) nx (w.setCell ⟨c, s + i, none⟩ v') := by
 obtain ⟨ob, e, ho⟩ := h.obj b _ c s z hb hr
 cases ob <;> try exact ho.elim
 rename_i cs t fr
 obtain ⟨h1, h2, h3, h4, h5⟩ := ho
 have hbn : b < nx := (h.dom b _ hr).1
 refine ⟨store_run e rfl (by show s + i < cs.size; omega) (h3 (s + i) (by omega)) hs, ⟨fun k x hk => ⟨(h.dom k x hk).1, by simpa [World.setCell] using (h.dom k x hk).2⟩, fun k o' c' s' z' ho' hk => ?_, fun k k' x x' o1 o2 g1 g2 hk hk' hx => ?_, fun k hk => ?_, below_setCell h.below (h5 rfl) v', fun c0 ob0 hc0 => ?_, fun k o' c' s' z' ho' hw hk => ?_, h.frn⟩⟩
 ·rw [Tr.get_put] at ho'
  by_cases ek : k = b
  ·rw [if_pos ek] at ho'
   cases ho'
   rw [ek, hr] at hk
   cases hk
   refine ⟨.cells (cs.setIfInBounds (s + i) v') t fr, by rw [setCell_heap w _ _ e, if_pos rfl], by simp [h1], by simpa using h2, h3, fun j u hu => ?_, h5⟩
   rw [List.getElem?_set] at hu
   by_cases hji : i = j
   ·rw [if_pos hji] at hu
    split at hu
    ·cases hu
     refine ⟨v', ?_, hv⟩
     rw [← hji, Array.getElem?_setIfInBounds, if_pos rfl, if_pos (by omega)]
    ·exact absurd hi (by assumption)
   ·rw [if_neg hji] at hu
    obtain ⟨u', e1, e2⟩ := h4 j u hu
    exact ⟨u', by rw [Array.getElem?_setIfInBounds_ne (by omega)]; exact e1, e2⟩
  ·rw [if_neg ek] at ho'
   obtain ⟨ob', e1, e2⟩ := h.obj k o' c' s' z' ho' hk
   refine ⟨ob', ?_, e2⟩
   rw [setCell_heap w _ _ e, if_neg]
   ·exact e1
   ·intro ec
    exact ek (h.inj k b _ _ _ _ ho' hb hk hr ec)
 ·have live : ∀ k o, (hp.put b (some (.cells (l.set i v) true))).get k = some o → ∃ o', hp.get k = some o' := fun k o hk => by
   rw [Tr.get_put] at hk
   by_cases ek : k = b
   ·exact ⟨_, ek ▸ hb⟩
   ·rw [if_neg ek] at hk; exact ⟨_, hk⟩
  obtain ⟨_, g1'⟩ := live k o1 g1
  obtain ⟨_, g2'⟩ := live k' o2 g2
  exact h.inj k k' x x' _ _ g1' g2' hk hk' hx
 ·rw [Tr.get_put, if_neg (by omega)]
  exact h.fresh k hk
 ·rw [setCell_heap w _ _ e, if_neg]
  ·exact h.frz c0 ob0 hc0
  ·intro ec
   have := h.apart b _ c s z hb rfl hr
   rw [ec, this] at hc0
   cases hc0
 ·rw [Tr.get_put] at ho'
  by_cases ek : k = b
  ·rw [ek, hr] at hk
   cases hk
   exact h.apart b _ c s z hb rfl hr
  ·rw [if_neg ek] at ho'
   exact h.apart k o' c' s' z' ho' hw hk
theorem loadFrom_run {P : Program} {w : World} {a : Addr} : ∀ (vs : List Value) (k : Nat) (acc : Array Value), (∀ (i : Nat) (v : Value), vs[i]? = some v → w.cell? (a.add (k + i)) = some v) →
  (loadCellsFrom a k vs.length acc).run P w = .ok (acc ++ vs.toArray) w
 | [], k, acc, _ => by simp [loadCellsFrom]
 | v :: vs, k, acc, h => by
  have h0 : w.cell? (a.add k) = some v := by simpa using h 0 v rfl
  simp only [List.length_cons, loadCellsFrom]
  have hl : (load (a.add k)).run P w = .ok v w := by rw [run_load, h0]
  rw [Sem.run_bind, hl, Result.andThen_ok, loadFrom_run vs (k + 1) (acc.push v) fun i u hu => by
   have := h (i + 1) u (by simpa using hu)
   rw [show k + 1 + i = k + (i + 1) by omega]
   exact this]
  simp
def rowOf (hp : Tr AObj) (b o n : Nat) : Option (List Value) :=
 match hp.get b with
 | some (.cells l _) => bif (o + n).ble l.length then some ((l.drop o).take n) else none
 | _ => none
theorem rowOf_sound {P : Program} {ρ : Place} {W : Base} {hp : Tr AObj} {nx : Nat} {w : World} (h : Rel ρ W hp nx w) {b o n c s z : Nat} {l : List Value} (hl : rowOf hp b o n = some l) (hr : ρ b = some (c, s, z)) :
  ∃ l', VRL ρ l l' ∧ l.length = n ∧ (loadCells ⟨c, s + o, none⟩ n).run P w = .ok l'.toArray w := by
 unfold rowOf at hl
 cases hb : hp.get b with
 | none => rw [hb] at hl; cases hl
 | some ob =>
  rw [hb] at hl
  cases ob <;> try (cases hl)
  rename_i cs wr
  dsimp only at hl
  cases hc : (o + n).ble cs.length with
  | false => rw [hc] at hl; cases hl
  | true =>
   rw [hc, cond_true] at hl
   cases hl
   have hle := Nat.le_of_ble_eq_true hc
   have ex : ∀ i : Nat, i < n → ∃ v', w.cell? ⟨c, s + (o + i), none⟩ = some v' ∧ ∀ v, cs[o + i]? = some v → VR ρ v v' := by
    intro i hi
    have hlt : o + i < cs.length := by omega
    obtain ⟨v', e, hv⟩ := h.cell hb hr (i := o + i) (v := cs[o + i]) (by simp)
    exact ⟨v', e, fun v hv' => by simp [hlt] at hv'; rw [← hv']; exact hv⟩
   let f : Nat → Value := fun i => if hi : i < n then (ex i hi).choose else undef
   have hf : ∀ i, i < n → w.cell? ⟨c, s + (o + i), none⟩ = some (f i) ∧ ∀ v, cs[o + i]? = some v → VR ρ v (f i) := fun i hi => by
    simp only [f, hi, dif_pos]
    exact (ex i hi).choose_spec
   refine ⟨(List.range n).map f, .of (by simp; omega) (fun i v v' hv hv' => ?_), by simp; omega, ?_⟩
   ·simp only [List.getElem?_map, Option.map_eq_some_iff] at hv'
    obtain ⟨k, hk, rfl⟩ := hv'
    rw [List.getElem?_range] at hk
    ·cases hk
     have hi : i < n := by
      rcases Nat.lt_or_ge i n with h' | h'
      ·exact h'
      ·rw [List.getElem?_take, if_neg (by omega)] at hv; cases hv
     rw [List.getElem?_take, if_pos hi, List.getElem?_drop] at hv
     exact (hf i hi).2 v hv
    ·rcases Nat.lt_or_ge i n with h' | h'
     ·exact h'
     ·rw [List.getElem?_take, if_neg (by omega)] at hv; cases hv
   ·have := loadFrom_run (P := P) (w := w) (a := ⟨c, s + o, none⟩) ((List.range n).map f) 0 #[] (fun i v hv => by
     simp only [List.getElem?_map, Option.map_eq_some_iff] at hv
     obtain ⟨k, hk, rfl⟩ := hv
     have hi : i < n := by
      rcases Nat.lt_or_ge i n with h' | h'
      ·exact h'
      ·rw [List.getElem?_eq_none (by simp; omega)] at hk; cases hk
     rw [List.getElem?_range hi] at hk
     cases hk
     rw [Nat.zero_add, add_eq]
     exact (hf i hi).1)
    unfold loadCells
    simpa using this
def aLoad (P : Program) (hp : Tr AObj) (t : TypeId) (x : Value) : Option Value :=
 match x with
 | .pointer (some ⟨b, o, none⟩) => match pureRun P (isAgg t) with
  | some true => match pureRun P (sizeOf t) with
   | some z => match rowOf hp b o z with
    | some l => some (.agg l.toArray)
    | none => none
   | none => none
  | some false => match hp.get b with
   | some (.cells l _) => l[o]?
   | _ => none
  | none => none
 | _ => none
theorem aLoad_sound {P : Program} {ρ : Place} {W : Base} {hp : Tr AObj} {nx : Nat} {w : World} (h : Rel ρ W hp nx w) {t : TypeId} {x x' v : Value} (hx : VR ρ x x') (hv : aLoad P hp t x = some v) :
  ∃ v', (Instr.loadAt t x').run P w = .ok v' w ∧ VR ρ v v' := by
 unfold aLoad at hv
 cases hx <;> try simp only [reduceCtorEq] at hv
 case ptr b o c s z hr =>
  unfold Instr.loadAt
  show ∃ v', (loadVar t ⟨c, s + o, none⟩).run P w = _ ∧ _
  unfold loadVar
  cases hi : pureRun P (isAgg t) with
  | none => rw [hi] at hv; cases hv
  | some q =>
   rw [hi] at hv
   rw [bind_run hi]
   cases q with
   | true =>
    dsimp only at hv
    cases hz : pureRun P (sizeOf t) with
    | none => rw [hz] at hv; cases hv
    | some m =>
     rw [hz] at hv
     dsimp only at hv
     cases hl : rowOf hp b o m with
     | none => rw [hl] at hv; cases hv
     | some l =>
      rw [hl] at hv
      cases hv
      obtain ⟨l', h1, h2, h3⟩ := rowOf_sound (P := P) h hl hr
      rw [if_pos rfl, bind_run hz, Sem.run_bind, h3]
      exact ⟨_, rfl, .agg h1.arr.1 h1.arr.2⟩
   | false =>
    dsimp only at hv
    cases hb : hp.get b with
    | none => rw [hb] at hv; cases hv
    | some ob =>
     rw [hb] at hv
     cases ob <;> try (cases hv)
     rename_i l wr
     obtain ⟨v', e, hv'⟩ := h.cell hb hr hv
     rw [if_neg (by simp), run_load, e]
     exact ⟨v', rfl, hv'⟩
def bytesTail (cells : Array Value) : Sem Value := do
 let mut s := ByteArray.empty
 for c in cells do
  let .int .u8 n := c | stuck "bytesToString: byte expected"
  s := s.push (UInt8.ofNat n.toNat)
 pure (.string s)
theorem bytesToString_eq (a : Addr) (n c : Nat) : Conv.bytesToString (.slice (some a) n c) = loadCells a n >>= bytesTail := rfl
def aBytes (P : Program) (hp : Tr AObj) (src dst : TypeId) (x : Value) : Option Value :=
 match x with
 | .slice (some ⟨b, o, none⟩) n _ => match P.underlying src, P.underlying dst with
  | some (.slice e), some .string => match P.underlying e with
   | some (.int .u8) => match rowOf hp b o n with
    | some l => bif flats l.toArray then
      match pureRun P (bytesTail l.toArray) with
      | some (.string s) => some (.string s)
      | _ => none
     else none
    | none => none
   | _ => none
  | _, _ => none
 | _ => none
theorem aBytes_sound {P : Program} {ρ : Place} {W : Base} {hp : Tr AObj} {nx : Nat} {w : World} (h : Rel ρ W hp nx w) {src dst : TypeId} {x x' v : Value} (hx : VR ρ x x') (hv : aBytes P hp src dst x = some v) :
  ∃ v', (convert src dst x').run P w = .ok v' w ∧ VR ρ v v' := by
 unfold aBytes at hv
 have go : ∀ (b o n : Nat) (A : Addr) (cap : Nat), (∀ l, rowOf hp b o n = some l → ∃ l', VRL ρ l l' ∧ (loadCells A n).run P w = .ok l'.toArray w) →
   (match P.underlying src, P.underlying dst with
    | some (.slice e), some .string => match P.underlying e with
     | some (.int .u8) => match rowOf hp b o n with
      | some l => bif flats l.toArray then
        match pureRun P (bytesTail l.toArray) with
        | some (.string s) => some (.string s)
        | _ => none
       else none
      | none => none
     | _ => none
    | _, _ => none) = some v → ∃ v', (convert src dst (.slice (some A) n cap)).run P w = .ok v' w ∧ VR ρ v v' := by
  intro b o n A cap hL hh
  split at hh
  ·rename_i e hs hd
   split at hh
   ·rename_i he
    cases hl : rowOf hp b o n with
    | none => rw [hl] at hh; cases hh
    | some l =>
     rw [hl] at hh
     dsimp only at hh
     cases hf : flats l.toArray with
     | false => rw [hf] at hh; cases hh
     | true =>
      rw [hf, cond_true] at hh
      obtain ⟨l', h1, h2⟩ := hL l hl
      have hll : l'.toArray = l.toArray := arr_eq (fun _ _ => flat_eq) hf h1.arr.1 h1.arr.2
      split at hh
      ·rename_i s hp'
       cases hh
       refine ⟨.string s, ?_, .string s⟩
       unfold convert
       rw [bind_run (underlying_pure hs), bind_run (underlying_pure hd)]
       dsimp only
       rw [bind_run (underlying_pure he)]
       dsimp only
       rw [bytesToString_eq, Sem.run_bind, h2, hll]
       exact pureRun_run hp' w
      ·cases hh
   ·cases hh
  ·cases hh
 cases hx <;> try simp only [reduceCtorEq] at hv
 case slice b o n sz c s z cap hr h1 h2 =>
  refine go b o n ⟨c, s + o, none⟩ cap (fun l hl => ?_) hv
  obtain ⟨l', h1, _, h3⟩ := rowOf_sound (P := P) h hl hr
  exact ⟨l', h1, h3⟩
 case emptySlice b o y a' sz hr =>
  refine go b o 0 a' 0 (fun l hl => ⟨[], ?_, rfl⟩) hv
  unfold rowOf at hl
  split at hl
  ·rename_i l0 wr hb
   cases hc : (o + 0).ble l0.length with
   | false => rw [hc] at hl; cases hl
   | true => rw [hc, cond_true] at hl; cases hl; simp; exact .nil
  ·cases hl
def aread (P : Program) (hp : Tr AObj) (o : Oper) (ev : Operand → Option Value) : Option Value :=
 match o.op with
 | .load t x => match ev x with
  | some v => aLoad P hp t v
  | none => none
 | .convert src dst x => match ev x with
  | some v => aBytes P hp src dst v
  | none => none
 | _ => none
theorem aread_sound {P : Program} {ρ : Place} {W : Base} {hp : Tr AObj} {nx : Nat} {w : World} (h : Rel ρ W hp nx w) {ev : Operand → Option Value} {a : Act} (hF : ERel ρ ev a) {o : Oper} {v : Value} (hv : aread P hp o ev = some v) :
  ∃ v', (execOp a.eval o).run P w = .ok (.value v') w ∧ VR ρ v v' := by
 obtain ⟨dst, op, type, pos, after, guard⟩ := o
 unfold aread at hv
 cases op <;> dsimp only at hv <;> try (cases hv)
 case load t x =>
  cases hx : ev x with
  | none => rw [hx] at hv; cases hv
  | some u =>
   rw [hx] at hv
   obtain ⟨v', e, hr⟩ := aLoad_sound h (hF.eval hx) hv
   exact ⟨v', value_run e, hr⟩
 case convert src dst' x =>
  cases hx : ev x with
  | none => rw [hx] at hv; cases hv
  | some u =>
   rw [hx] at hv
   obtain ⟨v', e, hr⟩ := aBytes_sound h (hF.eval hx) hv
   exact ⟨v', value_run e, hr⟩
inductive NewV where
 | ptr
 | slice (n sz : Nat)
 | map
def NewV.val (b : Nat) : NewV → Value
 | .ptr => .pointer (some ⟨b, 0, none⟩)
 | .slice n sz => .slice (some ⟨b, 0, none⟩) n sz
 | .map => .map (some b)
def Makes (P : Program) (ρ : Place) (s : Sem Value) (ob : AObj) (nv : NewV) (w : World) : Prop :=
 ∃ v' ob' d z, s.run P w = .ok v' (pushed { w with drawn := d } ob') ∧ (∀ O : Nat → Prop, ¬ O w.heap.size → ORel ρ O w.heap.size 0 z ob ob') ∧ (∀ ρ' b, ρ' b = some (w.heap.size, 0, z) → VR ρ' (nv.val b) v')
theorem orel_row {ρ : Place} {l : List Value} {cs cs' : Array Value} (h : VRA ρ cs cs') (hl : l = cs.toList) (O : Nat → Prop) (k : Nat) (hB : ¬ O k) (t : TypeId) : ORel ρ O k 0 cs'.size (.cells l true) (.cells cs' t) := by
 subst hl
 refine ⟨rfl, by simp [h.1], fun o _ => by simp, fun i v hv => ?_, fun _ => hB⟩
 obtain ⟨v', e, hr⟩ := h.get (i := i) (v := v) (by simpa using hv)
 exact ⟨v', by simpa using e, hr⟩
theorem makes_row {P : Program} {ρ : Place} {w : World} {t : TypeId} {cs cs' : Array Value} (h : VRA ρ cs cs') {f : Addr → Value} {nv : NewV} {s : Sem Value} (hs : s.run P w = ((newRow t cs') >>= fun a => pure (f a)).run P w)
  (hv : ∀ ρ' b, ρ' b = some (w.heap.size, 0, cs'.size) → VR ρ' (nv.val b) (f ⟨w.heap.size, 0, none⟩)) : Makes P ρ s (.cells cs.toList true) nv w :=
 ⟨_, .cells cs' t, w.drawn, cs'.size, hs.trans rfl, fun B hB => orel_row h rfl B _ hB t, hv⟩
def aAlloc (P : Program) (t : TypeId) : Option AObj :=
 match pureRun P (zeroValue t) with
 | some z => bif flats z.cells then some (.cells z.cells.toList true) else none
 | none => none
theorem aAlloc_sound {P : Program} {ρ : Place} {t : TypeId} {ob : AObj} (h : aAlloc P t = some ob) (w : World) : Makes P ρ (Instr.alloc t true (.tuple #[])) ob .ptr w := by
 unfold aAlloc at h
 cases hz : pureRun P (zeroValue t) with
 | none => rw [hz] at h; cases h
 | some z =>
  rw [hz] at h
  dsimp only at h
  cases hf : flats z.cells with
  | false => rw [hf] at h; cases h
  | true =>
   rw [hf] at h
   cases h
   refine makes_row (t := t) (f := fun a => .pointer (some a)) (flats_refl hf) ?_ fun ρ' b hb => ?_
   ·unfold Instr.alloc
    rw [bind_run hz]
    rfl
   ·have := VR.ptr (ρ := ρ') (o := 0) hb
    exact this
theorem aBox_sound {P : Program} {ρ : Place} {t : TypeId} {v v' : Value} (hv : VR ρ v v') (w : World) : Makes P ρ (Instr.box t v') (.cells v.cells.toList true) .ptr w :=
 makes_row (t := t) (f := fun a => .pointer (some a)) hv.cells rfl fun ρ' _ hb => VR.ptr (ρ := ρ') (o := 0) hb
def aBuildSlice (P : Program) (t : TypeId) (len : Nat) (ps : List (Nat × Value)) : Option (AObj × NewV) :=
 match P.underlying t with
 | some (.slice elem) => match pureRun P (sizeOf elem) with
  | some size => bif (len * size).ble (2 ^ 24) then
    match (if len * size = 0 then some #[] else (pureRun P (zeroValue elem)).map Value.cells) with
    | some zero =>
     let base := (Array.range (len * size)).map (zero[· % zero.size]!)
     bif flats base then
      match Instr.fill (fun i => some (i * size, size)) base ps with
      | some cells => bif cells.size.beq (len * size) then some (.cells cells.toList true, .slice len size) else none
      | none => none
     else none
    | none => none
   else none
  | none => none
 | _ => none
theorem aBuildSlice_sound {P : Program} {ρ : Place} {t : TypeId} {len : Nat} {ps ps' : List (Nat × Value)} {ob : AObj} {nv : NewV} (hp : Parts ρ ps ps') (h : aBuildSlice P t len ps = some (ob, nv)) (w : World) :
  Makes P ρ (Instr.buildSlice t len ps'.toArray) ob nv w := by
 unfold aBuildSlice at h
 split at h
 case h_2 => cases h
 rename_i elem hu
 cases hz : pureRun P (sizeOf elem) with
 | none => rw [hz] at h; cases h
 | some size =>
  rw [hz] at h
  dsimp only at h
  cases hle : (len * size).ble (2 ^ 24) with
  | false => rw [hle] at h; cases h
  | true =>
   rw [hle, cond_true] at h
   have hle' := Nat.le_of_ble_eq_true hle
   split at h
   case h_2 => cases h
   rename_i zero hzero
   cases hf : flats ((Array.range (len * size)).map (zero[· % zero.size]!)) with
   | false => rw [hf] at h; cases h
   | true =>
    rw [hf, cond_true] at h
    split at h
    case h_2 => cases h
    rename_i cells hfill
    cases hsz : cells.size.beq (len * size) with
    | false => rw [hsz] at h; cases h
    | true =>
     rw [hsz, cond_true] at h
     cases h
     have hsz' := Nat.eq_of_beq_eq_true hsz
     obtain ⟨cells', e, hv⟩ := fill_rel _ hp (flats_refl (ρ := ρ) hf) hfill
     refine makes_row (t := elem) (f := fun a => .slice (some a) len len) hv ?_ fun ρ' b hb => ?_
     ·unfold Instr.buildSlice
      rw [bind_run (underlying_pure hu)]
      dsimp only
      rw [bind_run hz]
      rw [if_neg (by omega)]
      have hzr : pureRun P (if len * size = 0 then (pure #[] : Sem (Array Value)) else do pure (← zeroValue elem).cells) = some zero := by
       by_cases h0 : len * size = 0
       ·rw [if_pos h0] at hzero ⊢; cases hzero; rfl
       ·rw [if_neg h0] at hzero ⊢
        simp only [Option.map_eq_some_iff] at hzero
        obtain ⟨zv, h1, h2⟩ := hzero
        rw [pureRun_bind h1, ← h2]
        rfl
      have hj : ∀ (k : Array Value → Sem Value), (if len * size = 0 then (pure #[] : Sem (Array Value)) >>= k else zeroValue elem >>= fun z => pure z.cells >>= k).run P w = (k zero).run P w := by
       intro k
       rw [← bind_run hzr k w]
       by_cases h0 : len * size = 0
       ·rw [if_pos h0, if_pos h0]
       ·rw [if_neg h0, if_neg h0]
        simp only [bind_assoc]
      refine (hj _).trans ?_
      have e' : Instr.fill (fun i => some (i * size, size)) ((Array.range (len * size)).map (zero[· % zero.size]!)) ps'.toArray.toList = some cells' := e
      rw [e']
     ·have h2 := VR.slice (ρ := ρ') (o := 0) (n := len) (sz := size) (cap := len) hb (Nat.le_refl _) (by rw [← hv.1]; omega)
      exact h2
def aMakeSlice (P : Program) (t : TypeId) (x y : Value) : Option (AObj × NewV) :=
 match x, y, P.underlying t with
 | .int _ len, .int _ cap, some (.slice elem) => match pureRun P (typeInfo elem), pureRun P (sizeOf elem) with
  | some info, some size =>
   let l := IntKind.i64.wrap len
   let c := IntKind.i64.wrap cap
   bif (c < 0 || info.bytes * c > 2 ^ 48) || l < 0 || l > c then none else
   match (if c.toNat * size = 0 then some #[] else (pureRun P (zeroValue elem)).map Value.cells) with
   | some zero =>
    let cells := (Array.range (c.toNat * size)).map (zero[· % zero.size]!)
    bif flats cells then some (.cells cells.toList true, .slice l.toNat size) else none
   | none => none
  | _, _ => none
 | _, _, _ => none
theorem aMakeSlice_sound {P : Program} {ρ : Place} {t : TypeId} {x x' y y' : Value} {ob : AObj} {nv : NewV} (hx : VR ρ x x') (hy : VR ρ y y') (h : aMakeSlice P t x y = some (ob, nv)) (w : World) :
  Makes P ρ (Instr.makeSlice t x' y') ob nv w := by
 unfold aMakeSlice at h
 split at h
 case h_2 => cases h
 rename_i k1 len k2 cap elem hu
 cases hx
 cases hy
 split at h
 case h_2 => cases h
 rename_i info size hi hz
 dsimp only at h
 cases hc : ((decide (IntKind.i64.wrap cap < 0) || decide ((info.bytes : Int) * IntKind.i64.wrap cap > 2 ^ 48)) || decide (IntKind.i64.wrap len < 0) || decide (IntKind.i64.wrap len > IntKind.i64.wrap cap)) with
 | true => rw [hc] at h; cases h
 | false =>
  rw [hc, cond_false] at h
  split at h
  case h_2 => cases h
  rename_i zero hzero
  cases hf : flats ((Array.range ((IntKind.i64.wrap cap).toNat * size)).map (zero[· % zero.size]!)) with
  | false => rw [hf] at h; cases h
  | true =>
   rw [hf, cond_true] at h
   cases h
   refine makes_row (t := elem) (f := fun a => .slice (some a) (IntKind.i64.wrap len).toNat (IntKind.i64.wrap cap).toNat) (flats_refl hf) ?_ fun ρ' b hb => ?_
   ·unfold Instr.makeSlice
    rw [bind_run (underlying_pure hu)]
    dsimp only
    show ((typeInfo elem) >>= _).run P w = _
    rw [bind_run hi]
    dsimp only
    rw [if_neg (by rw [hc]; simp)]
    have hr : pureRun P (askRoom ((IntKind.i64.wrap cap).toNat * info.bytes)) = some () := by unfold askRoom; split <;> rfl
    rw [bind_run hr]
    rw [bind_run hz]
    have hzr : pureRun P (if (IntKind.i64.wrap cap).toNat * size = 0 then (pure #[] : Sem (Array Value)) else do pure (← zeroValue elem).cells) = some zero := by
     by_cases h0 : (IntKind.i64.wrap cap).toNat * size = 0
     ·rw [if_pos h0] at hzero ⊢; cases hzero; rfl
     ·rw [if_neg h0] at hzero ⊢
      simp only [Option.map_eq_some_iff] at hzero
      obtain ⟨zv, h1, h2⟩ := hzero
      rw [pureRun_bind h1, ← h2]
      rfl
    have hj : ∀ (k : Array Value → Sem Value), (if (IntKind.i64.wrap cap).toNat * size = 0 then (pure #[] : Sem (Array Value)) >>= k else zeroValue elem >>= fun z => pure z.cells >>= k).run P w = (k zero).run P w := by
     intro k
     rw [← bind_run hzr k w]
     by_cases h0 : (IntKind.i64.wrap cap).toNat * size = 0
     ·rw [if_pos h0, if_pos h0]
     ·rw [if_neg h0, if_neg h0]
      simp only [bind_assoc]
    exact hj _
   ·have : (IntKind.i64.wrap len).toNat ≤ (IntKind.i64.wrap cap).toNat := by
     simp at hc
     omega
    have h2 := VR.slice (ρ := ρ') (o := 0) (n := (IntKind.i64.wrap len).toNat) (sz := size) (cap := (IntKind.i64.wrap cap).toNat) hb this (by simp)
    exact h2
def byteCells (s : ByteArray) : Array Value := s.data.map fun b => .int .u8 b.toNat
theorem byteCells_flat (s : ByteArray) : flats (byteCells s) = true := by
 unfold flats byteCells
 rw [Array.all_eq_true_iff_forall_mem]
 intro x hx
 obtain ⟨b, _, rfl⟩ := Array.mem_map.1 hx
 rfl
theorem modify_push (h : Array Obj) (o : Obj) (f : Obj → Obj) : (h.push o).modify h.size f = h.push (f o) := by
 apply Array.ext (by simp)
 intro i h1 h2
 rw [Array.getElem_modify]
 by_cases hi : h.size = i
 ·subst hi; simp
 ·simp only [hi, if_false]
  rw [Array.getElem_push, Array.getElem_push]
  have : i < h.size := by simp at h2; omega
  simp [this]
theorem makes_bytes {P : Program} {ρ : Place} (e : TypeId) (s : ByteArray) (w : World) : Makes P ρ (Conv.stringToBytes e s) (.cells (byteCells s).toList true) (.slice s.size 1) w := by
 let cap := (Question.appendCap s.size 0 e).cut (w.tape w.drawn (.appendCap s.size 0 e))
 have hcap : s.size ≤ cap := Nat.le_add_right _ _
 have hsz : (byteCells s ++ Array.replicate (cap - s.size) (Value.int .u8 0)).size = cap := by
  simp [byteCells]
  have : s.data.size = s.size := rfl
  omega
 let cs := byteCells s ++ Array.replicate (cap - s.size) (Value.int .u8 0)
 refine ⟨.slice (some ⟨w.heap.size, 0, none⟩) s.size cap, .cells cs e (cap, cap + 1), w.drawn + 1, cap, ?_, fun B hB => ?_, fun ρ' b hb => ?_⟩
 ·unfold Conv.stringToBytes
  have hch : (choose (.appendCap s.size 0 e)).run P w = .ok cap { w with drawn := w.drawn + 1 } := by
   simp [choose, Sem.run, Question.forced, cap]
  rw [Sem.run_bind, hch, Result.andThen_ok]
  let w1 : World := { w with drawn := w.drawn + 1 }
  have hn : (newRow e cs).run P w1 = .ok ⟨w.heap.size, 0, none⟩ (pushed w1 (.cells cs e)) := rfl
  have hsh : (pushed w1 (.cells cs e)).shape? w.heap.size = some (e, cap) := by
   unfold World.shape?
   rw [pushed_at w1 (.cells cs e)]
   simp only [cs, hsz]
  have hm : (markStringish ⟨w.heap.size, 0, none⟩).run P (pushed w1 (.cells cs e)) = .ok () (pushed w1 (.cells cs e (cap, cap + 1))) := by
   unfold markStringish
   rw [Sem.run_bind]
   show (Result.andThen (.ok ((pushed w1 (.cells cs e)).shape? w.heap.size) (pushed w1 (.cells cs e))) _) = _
   rw [hsh, Result.andThen_ok]
   show Result.ok () ((pushed w1 (.cells cs e)).freeze ⟨w.heap.size, cap, none⟩ 1) = _
   congr 1
   unfold World.freeze pushed
   simp only [Nat.one_ne_zero, if_false]
   congr 1
   exact modify_push w.heap _ _
  show (newRow e cs >>= fun a => markStringish a >>= fun _ => (pure (Value.slice (some a) s.size cap) : Sem Value)).run P w1 = _
  rw [Sem.run_bind, hn, Result.andThen_ok, Sem.run_bind, hm, Result.andThen_ok]
  rfl
 ·refine ⟨hsz, by simp [byteCells]; have : s.data.size = s.size := rfl; omega, fun o ho => by simp; omega, fun i v hv => ?_, fun _ => hB⟩
  have hv' : (byteCells s)[i]? = some v := by simpa using hv
  have hi : i < (byteCells s).size := by
   rcases Nat.lt_or_ge i (byteCells s).size with h' | h'
   ·exact h'
   ·simp [Array.getElem?_eq_none h'] at hv'
  refine ⟨v, ?_, flat_refl (all_get (byteCells_flat s) hv')⟩
  rw [Nat.zero_add, Array.getElem?_append_left hi]
  exact hv'
 ·have h2 := VR.slice (ρ := ρ') (o := 0) (n := s.size) (sz := 1) (cap := cap) hb hcap (by omega)
  exact h2
def aToBytes (P : Program) (src dst : TypeId) (x : Value) : Option (AObj × NewV) :=
 match x with
 | .string s => match P.underlying src, P.underlying dst with
  | some _, some (.slice e) => match P.underlying e with
   | some (.int .u8) => some (.cells (byteCells s).toList true, .slice s.size 1)
   | _ => none
  | _, _ => none
 | _ => none
theorem aToBytes_sound {P : Program} {ρ : Place} {src dst : TypeId} {x x' : Value} {ob : AObj} {nv : NewV} (hx : VR ρ x x') (h : aToBytes P src dst x = some (ob, nv)) (w : World) : Makes P ρ (convert src dst x') ob nv w := by
 unfold aToBytes at h
 split at h
 case h_2 => cases h
 rename_i s
 cases hx
 split at h
 case h_2 => cases h
 rename_i d e hs hd
 split at h
 case h_2 => cases h
 rename_i he
 cases h
 obtain ⟨v', ob', k, z, h1, h2, h3⟩ := makes_bytes (P := P) (ρ := ρ) e s w
 refine ⟨v', ob', k, z, ?_, h2, h3⟩
 rw [← h1]
 unfold convert
 rw [bind_run (underlying_pure hs), bind_run (underlying_pure hd)]
 dsimp only
 rw [bind_run (underlying_pure he)]
def aRange (P : Program) (t : TypeId) (x : Value) : Option (AObj × NewV) :=
 match x with
 | .string s => match P.underlying t with
  | some .string => some (.iter s 0, .ptr)
  | _ => none
 | _ => none
theorem aRange_sound {P : Program} {ρ : Place} {t : TypeId} {x x' : Value} {ob : AObj} {nv : NewV} (hx : VR ρ x x') (h : aRange P t x = some (ob, nv)) (w : World) : Makes P ρ (Instr.range t x') ob nv w := by
 unfold aRange at h
 split at h
 case h_2 => cases h
 rename_i s
 cases hx
 split at h
 case h_2 => cases h
 rename_i hu
 cases h
 refine ⟨_, .stringIter s 0, w.drawn, 0, ?_, fun B hB => ⟨rfl, rfl, hB, rfl⟩, fun ρ' b hb => VR.ptr (ρ := ρ') (o := 0) hb⟩
 unfold Instr.range
 rw [bind_run (underlying_pure hu)]
 rfl
def anew (P : Program) (o : Oper) (ev : Operand → Option Value) : Option (AObj × NewV) :=
 match o.op with
 | .alloc t => (aAlloc P t).map fun ob => (ob, .ptr)
 | .box _ x => (ev x).map fun v => (.cells v.cells.toList true, .ptr)
 | .buildSlice t len ps => match evP ev ps.toList with
  | some l => aBuildSlice P t len l
  | none => none
 | .makeSlice t x y => match ev x, ev y with
  | some u, some v => aMakeSlice P t u v
  | _, _ => none
 | .convert src dst x => match ev x with
  | some v => aToBytes P src dst v
  | none => none
 | .range t x => match ev x with
  | some v => aRange P t v
  | none => none
 | _ => none
theorem makes_value {P : Program} {ρ : Place} {s : Sem Value} {ob : AObj} {nv : NewV} {w : World} (h : Makes P ρ s ob nv w) :
  ∃ v' ob' d z, (s >>= fun r => pure (Next.value r)).run P w = .ok (.value v') (pushed { w with drawn := d } ob') ∧ (∀ O : Nat → Prop, ¬ O w.heap.size → ORel ρ O w.heap.size 0 z ob ob') ∧ (∀ ρ' b, ρ' b = some (w.heap.size, 0, z) → VR ρ' (nv.val b) v') := by
 obtain ⟨v', ob', d, z, h1, h2, h3⟩ := h
 exact ⟨v', ob', d, z, value_run h1, h2, h3⟩
theorem anew_sound {P : Program} {ρ : Place} {ev : Operand → Option Value} {a : Act} (hF : ERel ρ ev a) {o : Oper} {ob : AObj} {nv : NewV} (h : anew P o ev = some (ob, nv)) (w : World) :
  ∃ v' ob' d z, (execOp a.eval o).run P w = .ok (.value v') (pushed { w with drawn := d } ob') ∧ (∀ O : Nat → Prop, ¬ O w.heap.size → ORel ρ O w.heap.size 0 z ob ob') ∧ (∀ ρ' b, ρ' b = some (w.heap.size, 0, z) → VR ρ' (nv.val b) v') := by
 obtain ⟨dst, op, type, pos, after, guard⟩ := o
 unfold anew at h
 cases op <;> dsimp only at h <;> try (cases h)
 case alloc t =>
  simp only [Option.map_eq_some_iff] at h
  obtain ⟨ob', h1, h2⟩ := h
  cases h2
  exact makes_value (aAlloc_sound h1 w)
 case box t x =>
  simp only [Option.map_eq_some_iff] at h
  obtain ⟨v, h1, h2⟩ := h
  cases h2
  exact makes_value (aBox_sound (hF.eval h1) w)
 case buildSlice t len ps =>
  cases hx : evP ev ps.toList with
  | none => rw [hx] at h; cases h
  | some l =>
   rw [hx] at h
   have := makes_value (aBuildSlice_sound (evP_sound hF hx) h w)
   have e : (ps.toList.map fun p => (p.1, a.eval p.2)).toArray = ps.map fun (i, x) => (i, a.eval x) := by apply Array.ext'; simp
   rw [e] at this
   exact this
 case makeSlice t x y =>
  split at h
  ·rename_i u v hx hy
   exact makes_value (aMakeSlice_sound (hF.eval hx) (hF.eval hy) h w)
  ·cases h
 case convert src dst' x =>
  cases hx : ev x with
  | none => rw [hx] at h; cases h
  | some u => rw [hx] at h; exact makes_value (aToBytes_sound (hF.eval hx) h w)
 case range t x =>
  cases hx : ev x with
  | none => rw [hx] at h; cases h
  | some u => rw [hx] at h; exact makes_value (aRange_sound (hF.eval hx) h w)
theorem Rel.congr {ρ : Place} {W : Base} {hp hp' : Tr AObj} {nx : Nat} {w : World} (h : Rel ρ W hp nx w) (he : ∀ b, hp'.get b = hp.get b) : Rel ρ W hp' nx w :=
 ⟨h.dom, fun b o c s z ho => h.obj b o c s z (by rw [← he]; exact ho), fun b b' x x' o o' h1 h2 => h.inj b b' x x' o o' (by rw [← he]; exact h1) (by rw [← he]; exact h2), fun b hb => by rw [he]; exact h.fresh b hb, h.below, h.frz, fun b o c s z ho => h.apart b o c s z (by rw [← he]; exact ho), h.frn⟩
structure Step (ρ ρ' : Place) (hp hp' : Tr AObj) (nx nx' : Nat) : Prop where
 le : ρ.le ρ'
 more : nx ≤ nx'
 old : ∀ b, b < nx → ρ b = none → ρ' b = none ∧ hp'.get b = hp.get b
theorem Step.refl (ρ : Place) (hp : Tr AObj) (nx : Nat) : Step ρ ρ hp hp nx nx := ⟨.refl ρ, Nat.le_refl _, fun _ _ h => ⟨h, rfl⟩⟩
theorem Step.trans {ρ ρ' ρ'' : Place} {hp hp' hp'' : Tr AObj} {nx nx' nx'' : Nat} (h : Step ρ ρ' hp hp' nx nx') (k : Step ρ' ρ'' hp' hp'' nx' nx'') : Step ρ ρ'' hp hp'' nx nx'' :=
 ⟨h.le.trans k.le, Nat.le_trans h.more k.more, fun b hb hr => by
  have h1 := h.old b hb hr
  have h2 := k.old b (Nat.lt_of_lt_of_le hb h.more) h1.1
  exact ⟨h2.1, h2.2.trans h1.2⟩⟩
theorem VR.single {ρ : Place} {v v' : Value} (h : VR ρ v v') : single v' = single v := by cases h <;> rfl
theorem Rel.write2 {ρ : Place} {W : Base} {hp : Tr AObj} {nx : Nat} {w : World} (h : Rel ρ W hp nx w) {b c s z : Nat} {l l2 : List Value} (hb : hp.get b = some (.cells l true)) (hr : ρ b = some (c, s, z))
  {i : Nat} {v v' : Value} (hi : s + i < z) (hz : s + l2.length ≤ z) (hl : ∀ (j : Nat) (u : Value), l2[j]? = some u → (j = i ∧ u = v) ∨ (j ≠ i ∧ l[j]? = some u)) (hv : VR ρ v v') (hs : single v' = true) (P : Program) :
  (store ⟨c, s + i, none⟩ v').run P w = .ok () (w.setCell ⟨c, s + i, none⟩ v') ∧ Rel ρ W (hp.put b (some (.cells l2 true))) nx (w.setCell ⟨c, s + i, none⟩ v') := by
 obtain ⟨ob, e, ho⟩ := h.obj b _ c s z hb hr
 cases ob <;> try exact ho.elim
 rename_i cs t fr
 obtain ⟨h1, h2, h3, h4, h5⟩ := ho
 have hbn : b < nx := (h.dom b _ hr).1
 refine ⟨store_run e rfl (by show s + i < cs.size; omega) (h3 (s + i) (by omega)) hs, ⟨fun k x hk => ⟨(h.dom k x hk).1, by simpa [World.setCell] using (h.dom k x hk).2⟩, fun k o' c' s' z' ho' hk => ?_, fun k k' x x' o1 o2 g1 g2 hk hk' hx => ?_, fun k hk => ?_, below_setCell h.below (h5 rfl) v', fun c0 ob0 hc0 => ?_, fun k o' c' s' z' ho' hw hk => ?_, h.frn⟩⟩
 ·rw [Tr.get_put] at ho'
  by_cases ek : k = b
  ·rw [if_pos ek] at ho'
   cases ho'
   rw [ek, hr] at hk
   cases hk
   refine ⟨.cells (cs.setIfInBounds (s + i) v') t fr, by rw [setCell_heap w _ _ e, if_pos rfl], by simp [h1], hz, h3, fun j u hu => ?_, h5⟩
   rcases hl j u hu with ⟨hji, hu'⟩ | ⟨hji, hu'⟩
   ·subst hu'
    refine ⟨v', ?_, hv⟩
    rw [hji, Array.getElem?_setIfInBounds, if_pos rfl, if_pos (by omega)]
   ·obtain ⟨u', e1, e2⟩ := h4 j u hu'
    exact ⟨u', by rw [Array.getElem?_setIfInBounds_ne (by omega)]; exact e1, e2⟩
  ·rw [if_neg ek] at ho'
   obtain ⟨ob', e1, e2⟩ := h.obj k o' c' s' z' ho' hk
   refine ⟨ob', ?_, e2⟩
   rw [setCell_heap w _ _ e, if_neg]
   ·exact e1
   ·intro ec
    exact ek (h.inj k b _ _ _ _ ho' hb hk hr ec)
 ·have live : ∀ k o, (hp.put b (some (.cells l2 true))).get k = some o → ∃ o', hp.get k = some o' := fun k o hk => by
   rw [Tr.get_put] at hk
   by_cases ek : k = b
   ·exact ⟨_, ek ▸ hb⟩
   ·rw [if_neg ek] at hk; exact ⟨_, hk⟩
  obtain ⟨_, g1'⟩ := live k o1 g1
  obtain ⟨_, g2'⟩ := live k' o2 g2
  exact h.inj k k' x x' _ _ g1' g2' hk hk' hx
 ·rw [Tr.get_put, if_neg (by omega)]
  exact h.fresh k hk
 ·rw [setCell_heap w _ _ e, if_neg]
  ·exact h.frz c0 ob0 hc0
  ·intro ec
   have := h.apart b _ c s z hb rfl hr
   rw [ec, this] at hc0
   cases hc0
 ·rw [Tr.get_put] at ho'
  by_cases ek : k = b
  ·rw [ek, hr] at hk
   cases hk
   exact h.apart b _ c s z hb rfl hr
  ·rw [if_neg ek] at ho'
   exact h.apart k o' c' s' z' ho' hw hk
def setFrom (l : List Value) (o : Nat) : List Value → List Value
 | [] => l
 | v :: vs => setFrom (l.set o v) (o + 1) vs
theorem storeCells_run {P : Program} {ρ : Place} {W : Base} {nx b c s z o : Nat} (hr : ρ b = some (c, s, z)) : ∀ {vs vs' : List Value}, VRL ρ vs vs' → ∀ (k : Nat) (hp : Tr AObj) (w : World) (l : List Value),
  Rel ρ W hp nx w → hp.get b = some (.cells l true) → o + k + vs.length ≤ l.length → vs.all single = true →
  ∃ w', (storeCells ⟨c, s + o, none⟩ vs' k).run P w = .ok () w' ∧ Rel ρ W (hp.put b (some (.cells (setFrom l (o + k) vs) true))) nx w' := by
 intro vs vs' hv
 induction hv with
 | nil =>
  intro k hp w l h hb _ _
  refine ⟨w, rfl, h.congr fun j => ?_⟩
  rw [Tr.get_put]
  split
  ·rename_i e; rw [e, hb]; rfl
  ·rfl
 | cons hv htl ih =>
  rename_i v v' vs vs'
  intro k hp w l h hb hlen hall
  simp only [List.all_cons, Bool.and_eq_true] at hall
  simp only [List.length_cons] at hlen
  obtain ⟨ob, e, ho⟩ := h.obj b _ c s z hb hr
  have hz : s + l.length ≤ z := by
   cases ob <;> try exact ho.elim
   exact ho.2.1
  obtain ⟨h1, h2⟩ := h.write2 (i := o + k) (v := v) (v' := v') (l2 := l.set (o + k) v) hb hr (by omega) (by simpa using hz) (fun j u hu => by
   rw [List.getElem?_set] at hu
   by_cases hj : o + k = j
   ·rw [if_pos hj] at hu
    split at hu
    ·cases hu; exact .inl ⟨hj.symm, rfl⟩
    ·cases hu
   ·rw [if_neg hj] at hu
    exact .inr ⟨Ne.symm hj, hu⟩) hv (by rw [hv.single]; exact hall.1) P
  obtain ⟨w', h3, h4⟩ := ih (k + 1) _ _ (l.set (o + k) v) h2 (by rw [Tr.get_put, if_pos rfl]) (by simp; omega) hall.2
  refine ⟨w', ?_, h4.congr fun j => ?_⟩
  ·show (store ((⟨c, s + o, none⟩ : Addr).add k) v' >>= fun _ => storeCells ⟨c, s + o, none⟩ vs' (k + 1)).run P w = _
   rw [add_eq, Sem.run_bind, h1, Result.andThen_ok]
   exact h3
  ·simp only [setFrom]
   rw [show o + (k + 1) = o + k + 1 by omega]
   rw [Tr.get_put, Tr.get_put, Tr.get_put]
   split <;> rfl
theorem extend_run {P : Program} {ρ : Place} {W : Base} {nx b c s z o : Nat} (hr : ρ b = some (c, s, z)) : ∀ {vs vs' : List Value}, VRL ρ vs vs' → ∀ (k : Nat) (hp : Tr AObj) (w : World) (l : List Value),
  Rel ρ W hp nx w → hp.get b = some (.cells l true) → l.length = o + k → s + (o + k) + vs.length ≤ z → vs.all single = true →
  ∃ w', (storeCells ⟨c, s + o, none⟩ vs' k).run P w = .ok () w' ∧ Rel ρ W (hp.put b (some (.cells (l ++ vs) true))) nx w' := by
 intro vs vs' hv
 induction hv with
 | nil =>
  intro k hp w l h hb _ _ _
  refine ⟨w, rfl, h.congr fun j => ?_⟩
  rw [Tr.get_put]
  split
  ·rename_i e; rw [e, hb]; simp
  ·rfl
 | cons hv htl ih =>
  rename_i v v' vs vs'
  intro k hp w l h hb hlen hz hall
  simp only [List.all_cons, Bool.and_eq_true] at hall
  simp only [List.length_cons] at hz
  obtain ⟨h1, h2⟩ := h.write2 (i := o + k) (v := v) (v' := v') (l2 := l ++ [v]) hb hr (by omega) (by simp; omega) (fun j u hu => by
   rcases Nat.lt_or_ge j l.length with hj | hj
   ·rw [List.getElem?_append_left hj] at hu
    exact .inr ⟨by omega, hu⟩
   ·rw [List.getElem?_append_right hj] at hu
    have : j - l.length = 0 := by
     rcases Nat.eq_zero_or_pos (j - l.length) with h' | h'
     ·exact h'
     ·rw [List.getElem?_eq_none (by simp; omega)] at hu; cases hu
    rw [this] at hu
    cases hu
    exact .inl ⟨by omega, rfl⟩) hv (by rw [hv.single]; exact hall.1) P
  obtain ⟨w', h3, h4⟩ := ih (k + 1) _ _ (l ++ [v]) h2 (by rw [Tr.get_put, if_pos rfl]) (by simp; omega) (by omega) hall.2
  refine ⟨w', ?_, h4.congr fun j => ?_⟩
  ·show (store ((⟨c, s + o, none⟩ : Addr).add k) v' >>= fun _ => storeCells ⟨c, s + o, none⟩ vs' (k + 1)).run P w = _
   rw [add_eq, Sem.run_bind, h1, Result.andThen_ok]
   exact h3
  ·rw [Tr.get_put, Tr.get_put, Tr.get_put]
   split <;> simp
def aStore (P : Program) (hp : Tr AObj) (t : TypeId) (x v : Value) : Option (Tr AObj) :=
 match x with
 | .pointer (some ⟨b, o, none⟩) => match hp.get b with
  | some (.cells l true) => match pureRun P (sizeOf t) with
   | some z => bif v.cells.size.beq z && (o + z).ble l.length && v.cells.toList.all single then some (hp.put b (some (.cells (setFrom l o v.cells.toList) true))) else none
   | none => none
  | _ => none
 | _ => none
theorem step_put {ρ : Place} {hp : Tr AObj} {nx b : Nat} {x : Nat × Nat × Nat} (hr : ρ b = some x) (o : Option AObj) : Step ρ ρ hp (hp.put b o) nx nx :=
 ⟨.refl ρ, Nat.le_refl _, fun k _ hk => ⟨hk, by rw [Tr.get_put, if_neg (by intro e; subst e; rw [hr] at hk; cases hk)]⟩⟩
theorem aStore_sound {P : Program} {ρ : Place} {W : Base} {hp hp' : Tr AObj} {nx : Nat} {w : World} (h : Rel ρ W hp nx w) {t : TypeId} {x x' v v' : Value} (hx : VR ρ x x') (hv : VR ρ v v') (hs : aStore P hp t x v = some hp') :
  ∃ w', (Instr.storeAt t x' v').run P w = .ok () w' ∧ Rel ρ W hp' nx w' ∧ Step ρ ρ hp hp' nx nx := by
 unfold aStore at hs
 cases hx <;> try simp only [reduceCtorEq] at hs
 case ptr b o c s z hr =>
  split at hs
  case h_2 => cases hs
  rename_i l hb
  split at hs
  case h_2 => cases hs
  rename_i m hz
  cases hc : v.cells.size.beq m && (o + m).ble l.length && v.cells.toList.all single with
  | false => rw [hc] at hs; cases hs
  | true =>
   rw [hc, cond_true] at hs
   cases hs
   simp only [Bool.and_eq_true] at hc
   obtain ⟨⟨h1, h2⟩, h3⟩ := hc
   have h1 := Nat.eq_of_beq_eq_true h1
   have h2 := Nat.le_of_ble_eq_true h2
   obtain ⟨w', h4, h5⟩ := storeCells_run (P := P) (o := o) hr hv.cells.list 0 hp w l h hb (by simp; omega) h3
   refine ⟨w', ?_, h5, step_put hr _⟩
   unfold Instr.storeAt
   show (storeVar t ⟨c, s + o, none⟩ v').run P w = _
   unfold storeVar
   rw [bind_run hz]
   rw [if_neg (by rw [← hv.cells.1]; simp [h1])]
   exact h4
def aNext (hp : Tr AObj) (x : Value) (isString : Bool) : Option (Value × Tr AObj) :=
 match x, isString with
 | .pointer (some ⟨b, 0, none⟩), true => match hp.get b with
  | some (.iter s pos) => bif pos.blt s.size then
    some (.tuple #[.bool true, goInt pos, .int .i32 (Utf8.decode s pos).1], hp.put b (some (.iter s (pos + (Utf8.decode s pos).2))))
   else some (.tuple #[.bool false], hp)
  | _ => none
 | _, _ => none
theorem aNext_sound {P : Program} {ρ : Place} {W : Base} {hp hp' : Tr AObj} {nx : Nat} {w : World} (h : Rel ρ W hp nx w) {t : TypeId} {x x' v : Value} {q : Bool} (hx : VR ρ x x') (hs : aNext hp x q = some (v, hp')) :
  ∃ v' w', (Instr.next x' q t).run P w = .ok v' w' ∧ VR ρ v v' ∧ Rel ρ W hp' nx w' ∧ Step ρ ρ hp hp' nx nx := by
 unfold aNext at hs
 split at hs
 case h_2 => cases hs
 rename_i b
 cases hx with
 | ptr hr =>
  rename_i c s z
  split at hs
  case h_2 => cases hs
  rename_i st pos hb
  obtain ⟨ob, e, ho⟩ := h.obj b _ c s z hb hr
  cases ob <;> try exact ho.elim
  obtain ⟨rfl, rfl, hB, rfl⟩ := ho
  rename_i st pos
  have hg : (getObj c).run P w = .ok (.stringIter st pos) w := by simp [getObj, Sem.run, e]
  have hc0 : c < w.heap.size := (h.dom b _ hr).2
  cases hlt : pos.blt st.size with
  | true =>
   rw [hlt, cond_true] at hs
   cases hs
   have hlt' : pos < st.size := Nat.le_of_ble_eq_true hlt
   let w' : World := { w with heap := w.heap.setIfInBounds c (.stringIter st (pos + (Utf8.decode st pos).2)) }
   have hset : (setObj c (.stringIter st (pos + (Utf8.decode st pos).2))).run P w = .ok () w' := by simp [setObj, Sem.run, e, w']
   refine ⟨_, w', ?_, closed_refl (by simp [closed, closed1, flat, goInt]), ?_, step_put hr _⟩
   ·unfold Instr.next
    show ((getObj c) >>= _).run P w = _
    rw [Sem.run_bind, hg, Result.andThen_ok]
    dsimp only
    rw [if_pos hlt']
    show ((setObj c (.stringIter st (pos + (Utf8.decode st pos).2))) >>= fun _ => pure (Value.tuple #[.bool true, goInt pos, .int .i32 (Utf8.decode st pos).1])).run P w = _
    rw [Sem.run_bind, hset, Result.andThen_ok]
    rfl
   ·have hget : ∀ k, w'.heap[k]? = if k = c then some (.stringIter st (pos + (Utf8.decode st pos).2)) else w.heap[k]? := by
     intro k
     simp only [w', Array.getElem?_setIfInBounds]
     by_cases hk : c = k
     ·subst hk; simp [hc0]
     ·simp [hk, Ne.symm hk]
    refine ⟨fun k x hk => ⟨(h.dom k x hk).1, by simpa [w'] using (h.dom k x hk).2⟩, fun k o' c' s' z' ho' hk => ?_, fun k k' x x' o1 o2 g1 g2 hk hk' hx => ?_, fun k hk => ?_, ⟨h.below.os, h.below.tape, h.below.output, by simpa [w'] using h.below.size, fun k hk => ?_⟩, fun c0 ob0 hc0 => ?_, fun k o' c' s' z' ho' hw hk => ?_, h.frn⟩
    ·rw [Tr.get_put] at ho'
     by_cases ek : k = b
     ·rw [if_pos ek] at ho'
      cases ho'
      rw [ek, hr] at hk
      cases hk
      exact ⟨.stringIter st (pos + (Utf8.decode st pos).2), by rw [hget, if_pos rfl], rfl, rfl, hB, rfl⟩
     ·rw [if_neg ek] at ho'
      obtain ⟨ob', e1, e2⟩ := h.obj k o' c' s' z' ho' hk
      refine ⟨ob', ?_, e2⟩
      rw [hget, if_neg]
      ·exact e1
      ·intro ec
       exact ek (h.inj k b _ _ _ _ ho' hb hk hr ec)
    ·have live : ∀ k o, (hp.put b (some (.iter st (pos + (Utf8.decode st pos).2)))).get k = some o → ∃ o', hp.get k = some o' := fun k o hk => by
      rw [Tr.get_put] at hk
      by_cases ek : k = b
      ·exact ⟨_, ek ▸ hb⟩
      ·rw [if_neg ek] at hk; exact ⟨_, hk⟩
     obtain ⟨_, g1'⟩ := live k o1 g1
     obtain ⟨_, g2'⟩ := live k' o2 g2
     exact h.inj k k' x x' _ _ g1' g2' hk hk' hx
    ·rw [Tr.get_put, if_neg (by have := (h.dom b _ hr).1; omega)]
     exact h.fresh k hk
    ·rw [hget, if_neg (fun e => hB (by rw [← e]; exact hk))]
     exact h.below.block k hk
    ·rw [hget, if_neg]
     ·exact h.frz c0 ob0 hc0
     ·intro ec
      have := h.apart b _ c _ z hb rfl hr
      rw [ec, this] at hc0
      cases hc0
    ·rw [Tr.get_put] at ho'
     by_cases ek : k = b
     ·rw [ek, hr] at hk
      cases hk
      exact h.apart b _ c _ z hb rfl hr
     ·rw [if_neg ek] at ho'
      exact h.apart k o' c' s' z' ho' hw hk
  | false =>
   rw [hlt, cond_false] at hs
   cases hs
   refine ⟨_, w, ?_, closed_refl (by simp [closed, closed1, flat]), h, .refl _ _ _⟩
   have hlt' : ¬ pos < st.size := fun h' => by
    have : pos.blt st.size = true := Nat.ble_eq_true_of_le h'
    rw [this] at hlt; cases hlt
   unfold Instr.next
   show ((getObj c) >>= _).run P w = _
   rw [Sem.run_bind, hg, Result.andThen_ok]
   dsimp only
   rw [if_neg hlt']
   rfl
def srcLen : Value → Option Nat
 | .slice _ n _ => some n
 | .string s => some s.size
 | .func (.via _ _ n false) _ _ => some n
 | _ => none
theorem srcLen_sound {P : Program} {ρ : Place} {x x' : Value} {n : Nat} (hx : VR ρ x x') (h : srcLen x = some n) : pureRun P (Builtin.lenOf x') = some n := by
 cases hx <;> simp only [srcLen, reduceCtorEq] at h <;> exact h
def srcCells (hp : Tr AObj) (size n : Nat) : Value → Option (List Value)
 | .slice none _ _ => bif n.beq 0 then some [] else none
 | .slice (some ⟨b, o, none⟩) _ _ => bif n.beq 0 then some [] else rowOf hp b o (n * size)
 | .string s => some ((s.extract 0 n).data.map fun b => Value.int .u8 b.toNat).toList
 | .func (.via sz _ m false) els _ => bif sz.beq size && n.beq m then some (els.toList.flatMap fun u => u.cells.toList) else none
 | _ => none
theorem flat_get {sz : Nat} : ∀ (els : List Value), (∀ u ∈ els, u.cells.size = sz) → ∀ (k : Nat) (v : Value), (els.flatMap fun u => u.cells.toList)[k]? = some v → ∃ i j u, els[i]? = some u ∧ u.cells[j]? = some v ∧ k = i * sz + j
 | [], _, k, v, h => by simp at h
 | u :: l, hu, k, v, h => by
  have h0 := hu u (by simp)
  rw [List.flatMap_cons] at h
  rcases Nat.lt_or_ge k sz with hk | hk
  ·rw [List.getElem?_append_left (by simpa [h0] using hk)] at h
   exact ⟨0, k, u, rfl, by simpa using h, by omega⟩
  ·rw [List.getElem?_append_right (by simpa [h0] using hk)] at h
   obtain ⟨i, j, x, h1, h2, h3⟩ := flat_get l (fun y hy => hu y (by simp [hy])) _ v h
   refine ⟨i + 1, j, x, by simpa using h1, h2, ?_⟩
   rw [Nat.succ_mul]
   simp only [Array.length_toList, h0] at h3
   omega
theorem flat_len {sz : Nat} : ∀ (els : List Value), (∀ u ∈ els, u.cells.size = sz) → (els.flatMap fun u => u.cells.toList).length = els.length * sz
 | [], _ => by simp
 | u :: l, hu => by
  rw [List.flatMap_cons, List.length_append, flat_len l fun y hy => hu y (by simp [hy])]
  simp only [Array.length_toList, hu u (by simp), List.length_cons, Nat.succ_mul]
  omega
theorem srcCells_sound {P : Program} {ρ : Place} {W : Base} {hp : Tr AObj} {nx : Nat} {w : World} (h : Rel ρ W hp nx w) {x x' : Value} {size n : Nat} {l : List Value} (hx : VR ρ x x') (hl : srcCells hp size n x = some l)
  (hn : ∀ m, srcLen x = some m → n ≤ m) : ∃ l', VRL ρ l l' ∧ (Builtin.firstCells size n x').run P w = .ok l'.toArray w := by
 cases hx <;> simp only [srcCells, reduceCtorEq] at hl
 case nilSlice m c =>
  cases h0 : n.beq 0 with
  | false => rw [h0] at hl; cases hl
  | true => rw [h0] at hl; cases hl; exact ⟨[], .nil, rfl⟩
 case slice b o m sz c s z cap hr h1 h2 =>
  cases h0 : n.beq 0 with
  | false =>
   rw [h0, cond_false] at hl
   obtain ⟨l', h3, _, h4⟩ := rowOf_sound (P := P) h hl hr
   exact ⟨l', h3, h4⟩
  | true =>
   rw [h0] at hl
   cases hl
   have := Nat.eq_of_beq_eq_true h0
   subst this
   refine ⟨[], .nil, ?_⟩
   show (loadCells _ (0 * size)).run P w = _
   rw [Nat.zero_mul]
   rfl
 case emptySlice b o y a' sz hr =>
  have := hn 0 rfl
  have : n = 0 := by omega
  subst this
  refine ⟨[], ?_, ?_⟩
  ·simp [Nat.beq] at hl
   subst hl
   exact .nil
  ·show (loadCells a' (0 * size)).run P w = _
   rw [Nat.zero_mul]
   rfl
 case treeNil sz a cap =>
  cases hc : sz.beq size && n.beq 0 with
  | false => rw [hc] at hl; cases hl
  | true =>
   rw [hc] at hl
   cases hl
   simp only [Bool.and_eq_true] at hc
   have := Nat.eq_of_beq_eq_true hc.2
   subst this
   refine ⟨[], .nil, ?_⟩
   cases a with
   | none => rfl
   | some a => show (loadCells _ (0 * size)).run P w = _; rw [Nat.zero_mul]; rfl
 case tree sz m cap c o els cs t fz hf hm hcap hs hsz hr =>
  cases hc : sz.beq size && n.beq m with
  | false => rw [hc] at hl; cases hl
  | true =>
   rw [hc] at hl
   cases hl
   simp only [Bool.and_eq_true] at hc
   have e1 := Nat.eq_of_beq_eq_true hc.1
   have e2 := Nat.eq_of_beq_eq_true hc.2
   subst e1 e2
   have hall : ∀ u ∈ els.toList, u.cells.size = sz := fun u hu => by
    obtain ⟨i, hi⟩ := List.mem_iff_getElem?.1 hu
    exact hsz i u (by simpa using hi)
   have hlen : (els.toList.flatMap fun u => u.cells.toList).length = n * sz := by rw [flat_len _ hall, Array.length_toList, hm]
   have hexl : (cs.extract o (o + n * sz)).toList.length = n * sz := by simp; omega
   refine ⟨(cs.extract o (o + n * sz)).toList, .of (by rw [hlen, hexl]) (fun k v v' hv hv' => ?_), ?_⟩
   ·obtain ⟨i, j, u, g1, g2, g3⟩ := flat_get _ hall k v hv
    have hk : cs[o + k]? = some v' := by
     rw [Array.getElem?_toList, Array.getElem?_extract] at hv'
     split at hv'
     ·exact hv'
     ·cases hv'
    refine (hr i j u v v' (by simpa using g1) g2 ?_).lift
    rw [← hk, g3]
    congr 1
    omega
   ·have := loadFrom_run (P := P) (w := w) (a := ⟨c, o, none⟩) (cs.extract o (o + n * sz)).toList 0 #[] (fun i v hv => by
     rw [Nat.zero_add, show (⟨c, o, none⟩ : Addr) = ⟨c, o + 0, none⟩ from rfl, add_eq]
     have hc : w.cell? ⟨c, o + (0 + i), none⟩ = cs[o + (0 + i)]? := by simp [World.cell?, h.frz c _ hf]
     rw [hc]
     rw [Array.getElem?_toList, Array.getElem?_extract] at hv
     split at hv
     ·rw [← hv]; congr 1; omega
     ·cases hv)
    show (loadCells ⟨c, o, none⟩ (n * sz)).run P w = _
    unfold loadCells
    rw [hexl] at this
    rw [this]
    simp
 case string s =>
  cases hl
  refine ⟨((s.extract 0 n).data.map fun b => Value.int .u8 b.toNat).toList, ?_, ?_⟩
  rotate_left
  ·show Result.ok ((s.extract 0 n).data.map fun b => Value.int .u8 b.toNat) w = _
   rw [Array.toArray_toList]
  ·exact .of rfl fun i v v' a b => by
    rw [a] at b
    cases b
    have hm := List.mem_of_getElem? a
    simp only [Array.toList_map, List.mem_map] at hm
    obtain ⟨y, _, rfl⟩ := hm
    exact .int _ _
theorem first0 {P : Program} {ρ : Place} {x x' : Value} {m : Nat} (hx : VR ρ x x') (h : srcLen x = some m) (size : Nat) (w : World) : (Builtin.firstCells size 0 x').run P w = .ok #[] w := by
 cases hx <;> simp only [srcLen, reduceCtorEq] at h
 case nilSlice => rfl
 case slice => show (loadCells _ (0 * size)).run P w = _; rw [Nat.zero_mul]; rfl
 case emptySlice => show (loadCells _ (0 * size)).run P w = _; rw [Nat.zero_mul]; rfl
 case tree => show (loadCells _ (0 * size)).run P w = _; rw [Nat.zero_mul]; rfl
 case treeNil sz a cap =>
  cases a with
  | none => rfl
  | some a => show (loadCells _ (0 * size)).run P w = _; rw [Nat.zero_mul]; rfl
 case string s =>
  show Result.ok ((s.extract 0 0).data.map fun b => Value.int .u8 b.toNat) w = _
  congr 1
  apply Array.eq_empty_of_size_eq_zero
  simp
def noMake (P : Program) (t : Option TypeId) : Bool :=
 match t with
 | none => true
 | some t => match P.underlying t with
  | some (.int _) => false
  | some _ => true
  | none => false
def aAppend (P : Program) (hp : Tr AObj) (nx : Nat) (argTypes : Array TypeId) (args : Array Value) : Option (Value × Tr AObj × Nat) :=
 match argTypes[0]?, (args[0]? : Option Value), (args[1]? : Option Value) with
 | some t, some (.slice base sLen sz), some x => match P.underlying t, srcLen x with
  | some (.slice elem), some n => match pureRun P (sizeOf elem) with
   | some size => bif noMake P argTypes[1]? then
     bif n.beq 0 then
      bif base.isSome || sLen.ble sz then some (.slice base sLen sz, hp, nx) else none
     else match pureRun P (typeInfo elem), pureRun P (zeroValue elem), srcCells hp size n x with
      | some info, some zero, some new =>
       bif zero.cells.size.beq size && (sLen + n).ble (2 ^ 25) && info.bytes.ble (2 ^ 20) && new.all single && new.length.beq (n * size) then
        match base with
        | none => bif sLen.beq 0 && sz.beq 0 then some (.slice (some ⟨nx, 0, none⟩) n size, hp.put nx (some (.cells new true)), nx + 1) else none
        | some ⟨b, o, none⟩ => match hp.get b with
         | some (.cells _ true) => bif sz.beq size then
           match rowOf hp b o (sLen * size) with
           | some old => some (.slice (some ⟨nx, 0, none⟩) (sLen + n) size, (hp.put b none).put nx (some (.cells (old ++ new) true)), nx + 1)
           | none => none
          else none
         | _ => none
        | _ => none
       else none
      | _, _, _ => none
    else none
   | none => none
  | _, _ => none
 | _, _, _ => none
theorem growBy_le (newLen M : Nat) (hM : ∀ c, c < newLen → c + (c + 768) / 4 ≤ M) : ∀ (r c : Nat), c ≤ M → Builtin.growBy newLen r c ≤ M
 | 0, c, h => h
 | r + 1, c, h => by
  simp only [Builtin.growBy]
  split
  ·exact h
  ·exact growBy_le newLen M hM r _ (hM c (by omega))
theorem nextcap_le {need cap : Nat} (h : cap < need) : Builtin.nextslicecap need cap ≤ 2 * need + 200 := by
 unfold Builtin.nextslicecap
 split
 ·omega
 ·split
  ·omega
  ·exact growBy_le need _ (fun c hc => by omega) 4 cap (by omega)
theorem Rel.drop {ρ : Place} {W : Base} {hp : Tr AObj} {nx : Nat} {w : World} (h : Rel ρ W hp nx w) (b : Nat) : Rel ρ W (hp.put b none) nx w := by
 have sub : ∀ k o, (hp.put b none).get k = some o → hp.get k = some o := fun k o hk => by
  rw [Tr.get_put] at hk
  split at hk
  ·cases hk
  ·exact hk
 refine ⟨h.dom, fun k o c s z ho hk => h.obj k o c s z (sub k o ho) hk, fun k k' x x' o o' h1 h2 => h.inj k k' x x' o o' (sub _ _ h1) (sub _ _ h2), fun k hk => ?_, h.below, h.frz, fun k o c s z ho => h.apart k o c s z (sub k o ho), h.frn⟩
 rw [Tr.get_put]
 split
 ·rfl
 ·exact h.fresh k hk
theorem Rel.rename {ρ : Place} {W : Base} {hp : Tr AObj} {nx : Nat} {w : World} (h : Rel ρ W hp nx w) {b c s z o : Nat} {l old : List Value} (hb : hp.get b = some (.cells l true)) (hr : ρ b = some (c, s, z))
  (hold : ∀ (i : Nat) (v : Value), old[i]? = some v → l[o + i]? = some v) (hlen : s + o + old.length ≤ z) : Rel (ρ.set nx (c, s + o, z)) W ((hp.put b none).put nx (some (.cells old true))) (nx + 1) w := by
 have hn : ρ nx = none := by
  cases hc : ρ nx with
  | none => rfl
  | some x => have := (h.dom nx x hc).1; omega
 have hle := Place.le_set (x := (c, s + o, z)) hn
 have hbn : b < nx := (h.dom b _ hr).1
 have sub : ∀ k ob, k ≠ nx → ((hp.put b none).put nx (some (.cells old true))).get k = some ob → k ≠ b ∧ hp.get k = some ob := fun k ob hk hg => by
  rw [Tr.get_put, if_neg hk, Tr.get_put] at hg
  split at hg
  ·cases hg
  ·rename_i e; exact ⟨e, hg⟩
 refine ⟨fun k x hk => ?_, fun k ob c' s' z' hg hk => ?_, fun k k' x x' o1 o2 h1 h2 hk hk' hx => ?_, fun k hk => ?_, h.below, h.frz, fun k o' c' s' z' hg hw hk => ?_, h.frn⟩
 ·by_cases e : k = nx
  ·subst e
   rw [Place.set_same] at hk
   cases hk
   exact ⟨by omega, (h.dom b _ hr).2⟩
  ·rw [Place.set_other e] at hk
   exact ⟨by have := (h.dom k x hk).1; omega, (h.dom k x hk).2⟩
 ·by_cases e : k = nx
  ·subst e
   rw [Place.set_same] at hk
   cases hk
   rw [Tr.get_put, if_pos rfl] at hg
   cases hg
   obtain ⟨ob, e1, e2⟩ := h.obj b _ c s z hb hr
   cases ob <;> try exact e2.elim
   rename_i cs t fr
   obtain ⟨g1, g2, g3, g4, g5⟩ := e2
   refine ⟨.cells cs t fr, e1, g1, hlen, g3, fun i v hv => ?_, g5⟩
   obtain ⟨v', e3, e4⟩ := g4 (o + i) v (hold i v hv)
   exact ⟨v', by rw [show s + o + i = s + (o + i) by omega]; exact e3, e4.mono hle⟩
  ·rw [Place.set_other e] at hk
   obtain ⟨ob', e1, e2⟩ := h.obj k ob c' s' z' (sub k ob e hg).2 hk
   exact ⟨ob', e1, e2.mono hle⟩
 ·by_cases e : k = nx
  ·by_cases e' : k' = nx
   ·rw [e, e']
   ·subst e
    rw [Place.set_same] at hk
    rw [Place.set_other e'] at hk'
    cases hk
    have := sub k' o2 e' h2
    exact absurd (h.inj b k' _ _ _ _ hb this.2 hr hk' hx).symm this.1
  ·by_cases e' : k' = nx
   ·subst e'
    rw [Place.set_same] at hk'
    rw [Place.set_other e] at hk
    cases hk'
    have := sub k o1 e h1
    exact absurd (h.inj k b _ _ _ _ this.2 hb hk hr hx) this.1
   ·rw [Place.set_other e] at hk
    rw [Place.set_other e'] at hk'
    exact h.inj k k' x x' o1 o2 (sub k o1 e h1).2 (sub k' o2 e' h2).2 hk hk' hx
 ·rw [Tr.get_put, if_neg (by omega), Tr.get_put]
  split
  ·rfl
  ·exact h.fresh k (by omega)
 ·show ρ.fr c' = none
  by_cases e : k = nx
  ·subst e
   rw [Place.set_same] at hk
   cases hk
   exact h.apart b _ c s z hb rfl hr
  ·rw [Place.set_other e] at hk
   exact h.apart k o' c' s' z' (sub k o' e hg).2 hw hk
def makeBool (t : Option TypeId) : Sem Bool :=
 match t with
 | some xType => do pure ((← underlying xType) matches .int _)
 | none => pure false
theorem noMake_run {P : Program} {t : Option TypeId} (h : noMake P t = true) : pureRun P (makeBool t) = some false := by
 unfold makeBool
 cases t with
 | none => rfl
 | some t =>
  simp only [noMake] at h
  cases hu : P.underlying t with
  | none => rw [hu] at h; cases h
  | some d =>
   rw [hu] at h
   dsimp only
   rw [pureRun_bind (underlying_pure hu)]
   cases d <;> first | rfl | cases h
theorem append_pre {P : Program} {argTypes : Array TypeId} {ty t elem : TypeId} {args : Array Value} {base : Option Addr} {sLen sCap n size : Nat} {x : Value} {w : World} (ht : argTypes[0]? = some t) (h0 : args[0]? = some (.slice base sLen sCap)) (h1 : args[1]? = some x)
  (hu : P.underlying t = some (.slice elem)) (hz : pureRun P (sizeOf elem) = some size) (hm : noMake P argTypes[1]? = true) (hl : pureRun P (Builtin.lenOf x) = some n) :
  (Builtin.append_ argTypes ty args).run P w = (if sLen + n ≤ sCap then (do
    let new ← Builtin.firstCells size n x
    if let some a := base then storeCells (a.add (sLen * size)) new.toList
    pure (.slice base (sLen + n) sCap))
   else (do
    if ((sLen + n : Nat) : Int) > IntKind.i64.max ∧ (false = true ∨ (← typeInfo elem).bytes = 0) then runtimePanic (.error "growslice: len out of range")
    if Builtin.nextslicecap (sLen + n) sCap * (← typeInfo elem).bytes > 2 ^ 48 then (do
     if !(← Builtin.mayShare size sLen n base x) then mark .noRoom
     unsupported (.resourceLimit "append: a slice or a string whose bytes no memory bears"))
    let newCap ← choose (.appendCap (sLen + n) sCap elem)
    askRoom (newCap * (← typeInfo elem).bytes)
    let old ← Builtin.firstCells size sLen (.slice base sLen sCap)
    let new ← Builtin.firstCells size n x
    let rest := Builtin.zeroCells (← zeroValue elem).cells (newCap - (sLen + n))
    pure (.slice (some (← newRow elem (old ++ new ++ rest))) (sLen + n) newCap)) : Sem Value).run P w := by
 unfold Builtin.append_
 rw [ht, h0, h1]
 dsimp only
 rw [bind_run (underlying_pure hu)]
 dsimp only
 rw [bind_run hz]
 have hmm := noMake_run hm
 have key : ∀ (k : Bool → Sem Value), (match argTypes[1]? with
   | some xType => underlying xType >>= fun d => pure (d matches .int _) >>= k
   | none => pure false >>= k).run P w = (k false).run P w := by
  intro k
  rw [← bind_run hmm k w]
  clear hmm hm
  generalize argTypes[1]? = q
  unfold makeBool
  cases q with
  | none => rfl
  | some t => simp only [bind_assoc]
 refine (key _).trans ?_
 simp only [Bool.false_eq_true, if_false]
 rw [bind_run hl]
 rfl
theorem append_in {P : Program} {base : Option Addr} {sLen sCap n size : Nat} {x : Value} {w w' : World} {new : Array Value} (hn : (Builtin.firstCells size n x).run P w = .ok new w)
  (hst : (match base with | some a => storeCells (a.add (sLen * size)) new.toList | none => pure () : Sem Unit).run P w = .ok () w') :
  ((do
    let new ← Builtin.firstCells size n x
    if let some a := base then storeCells (a.add (sLen * size)) new.toList
    pure (.slice base (sLen + n) sCap)) : Sem Value).run P w = .ok (.slice base (sLen + n) sCap) w' := by
 rw [Sem.run_bind, hn, Result.andThen_ok]
 cases base with
 | none =>
  cases hst
  rfl
 | some a =>
  dsimp only at hst ⊢
  rw [Sem.run_bind, hst, Result.andThen_ok]
  rfl
theorem append_out {P : Program} {elem : TypeId} {base : Option Addr} {sLen sCap n size : Nat} {x : Value} {w : World} {info : TypeInfo} {zero : Value} {old new : Array Value} (hi : pureRun P (typeInfo elem) = some info) (hz : pureRun P (zeroValue elem) = some zero)
  (hneed : sLen + n ≤ 2 ^ 25) (hb : info.bytes ≤ 2 ^ 20) (hlt : sCap < sLen + n)
  (hold : (Builtin.firstCells size sLen (.slice base sLen sCap)).run P { w with drawn := w.drawn + 1 } = .ok old { w with drawn := w.drawn + 1 })
  (hnew : (Builtin.firstCells size n x).run P { w with drawn := w.drawn + 1 } = .ok new { w with drawn := w.drawn + 1 }) :
  ∃ newCap, sLen + n ≤ newCap ∧ ((do
    if ((sLen + n : Nat) : Int) > IntKind.i64.max ∧ (false = true ∨ (← typeInfo elem).bytes = 0) then runtimePanic (.error "growslice: len out of range")
    if Builtin.nextslicecap (sLen + n) sCap * (← typeInfo elem).bytes > 2 ^ 48 then (do
     if !(← Builtin.mayShare size sLen n base x) then mark .noRoom
     unsupported (.resourceLimit "append: a slice or a string whose bytes no memory bears"))
    let newCap ← choose (.appendCap (sLen + n) sCap elem)
    askRoom (newCap * (← typeInfo elem).bytes)
    let old ← Builtin.firstCells size sLen (.slice base sLen sCap)
    let new ← Builtin.firstCells size n x
    let rest := Builtin.zeroCells (← zeroValue elem).cells (newCap - (sLen + n))
    pure (.slice (some (← newRow elem (old ++ new ++ rest))) (sLen + n) newCap)) : Sem Value).run P w =
   .ok (.slice (some ⟨w.heap.size, 0, none⟩) (sLen + n) newCap) (pushed { w with drawn := w.drawn + 1 } (.cells (old ++ new ++ Builtin.zeroCells zero.cells (newCap - (sLen + n))) elem)) := by
 let newCap := (Question.appendCap (sLen + n) sCap elem).cut (w.tape w.drawn (.appendCap (sLen + n) sCap elem))
 refine ⟨newCap, Nat.le_add_right _ _, ?_⟩
 have h1 : ¬ (((sLen + n : Nat) : Int) > IntKind.i64.max ∧ (false = true ∨ info.bytes = 0)) := by
  rintro ⟨h, _⟩
  have : IntKind.i64.max = 9223372036854775807 := by decide
  rw [this] at h
  omega
 have h2 : ¬ (Builtin.nextslicecap (sLen + n) sCap * info.bytes > 2 ^ 48) := by
  have := nextcap_le hlt
  have h3 : Builtin.nextslicecap (sLen + n) sCap ≤ 2 ^ 27 := by omega
  have : Builtin.nextslicecap (sLen + n) sCap * info.bytes ≤ 2 ^ 27 * 2 ^ 20 := Nat.mul_le_mul h3 hb
  omega
 have hch : (choose (.appendCap (sLen + n) sCap elem)).run P w = .ok newCap { w with drawn := w.drawn + 1 } := by
  simp [choose, Sem.run, Question.forced, newCap]
 have hr : pureRun P (askRoom (newCap * info.bytes)) = some () := by unfold askRoom; split <;> rfl
 rw [bind_run hi]
 rw [if_neg h1]
 rw [bind_run hi]
 rw [if_neg h2]
 rw [Sem.run_bind, hch, Result.andThen_ok]
 rw [bind_run hi]
 rw [bind_run hr]
 rw [Sem.run_bind, hold, Result.andThen_ok]
 rw [Sem.run_bind, hnew, Result.andThen_ok]
 rw [bind_run hz]
 rfl
theorem zeroCells_size (zero : Array Value) (n : Nat) : (Builtin.zeroCells zero n).size = n * zero.size := by simp [Builtin.zeroCells]
theorem append_moved {ρ : Place} {W : Base} {hp : Tr AObj} {nx : Nat} {w : World} (h : Rel ρ W hp nx w) {elem : TypeId} {old new old' new' : List Value} (ho : VRL ρ old old') (hn : VRL ρ new new') {zero : Array Value} {need newCap size : Nat} (hlen : old.length + new.length = need * size) (hcap : need ≤ newCap) (hz : zero.size = size) :
  let w' := pushed { w with drawn := w.drawn + 1 } (.cells (old'.toArray ++ new'.toArray ++ Builtin.zeroCells zero (newCap - need)) elem)
  ∃ ρ', Rel ρ' W (hp.put nx (some (.cells (old ++ new) true))) (nx + 1) w' ∧ ρ.le ρ' ∧ (∀ b, b < nx → ρ' b = ρ b) ∧ VR ρ' (.slice (some ⟨nx, 0, none⟩) need size) (.slice (some ⟨w.heap.size, 0, none⟩) need newCap) := by
 intro w'
 have hnx : ρ nx = none := by
  cases hc : ρ nx with
  | none => rfl
  | some x => have := (h.dom nx x hc).1; omega
 have hsz : (old'.toArray ++ new'.toArray ++ Builtin.zeroCells zero (newCap - need)).size = newCap * size := by
  simp only [Array.size_append, List.size_toArray, zeroCells_size, ← ho.len, ← hn.len, hz]
  rw [hlen, ← Nat.add_mul]
  congr 1
  omega
 have hrel := (h.drew.reserve (.cells (old ++ new) true)).realize (b := nx) (z := newCap * size) (ob := .cells (old'.toArray ++ new'.toArray ++ Builtin.zeroCells zero (newCap - need)) elem) (by omega) hnx (by rw [Tr.get_put, if_pos rfl]) (by
  refine ⟨hsz, ?_, fun o _ => by simp, fun i v hv => ?_, fun _ => h.below.fresh⟩
  ·rw [List.length_append, hlen, Nat.zero_add]
   exact Nat.mul_le_mul_right _ hcap
  ·have hvl := ho.append hn
   have hi : i < (old ++ new).length := by
    rcases Nat.lt_or_ge i (old ++ new).length with h' | h'
    ·exact h'
    ·rw [List.getElem?_eq_none h'] at hv; cases hv
   have hi' : i < (old' ++ new').length := by rw [← hvl.len]; exact hi
   refine ⟨(old' ++ new')[i], ?_, hvl.get hv (by simp)⟩
   rw [Nat.zero_add, Array.getElem?_append_left (by simpa using hi')]
   rw [show old'.toArray ++ new'.toArray = (old' ++ new').toArray by simp]
   simp)
 refine ⟨_, hrel, Place.le_set hnx, fun b hb => Place.set_other (by omega), ?_⟩
 have := VR.slice (ρ := ρ.set nx (w.heap.size, 0, newCap * size)) (o := 0) (n := need) (sz := size) (cap := newCap) (Place.set_same ρ nx _) hcap (by omega)
 exact this
theorem Rel.drawn {ρ : Place} {W : Base} {hp : Tr AObj} {nx : Nat} {w : World} (h : Rel ρ W hp nx w) : Rel ρ W hp nx { w with drawn := w.drawn + 1 } := h.drew
theorem aAppend_sound {P : Program} {ρ : Place} {W : Base} {hp hp' : Tr AObj} {nx nx' : Nat} {w : World} (h : Rel ρ W hp nx w) {argTypes : Array TypeId} {ty : TypeId} {args args' : Array Value} {v : Value} (hx : VRA ρ args args')
  (hs : aAppend P hp nx argTypes args = some (v, hp', nx')) : ∃ v' w' ρ', (Builtin.append_ argTypes ty args').run P w = .ok v' w' ∧ VR ρ' v v' ∧ Rel ρ' W hp' nx' w' ∧ Step ρ ρ' hp hp' nx nx' := by
 unfold aAppend at hs
 split at hs
 case h_2 => cases hs
 rename_i t base sLen sz x ht h0 h1
 obtain ⟨d', e0, hd⟩ := hx.get h0
 obtain ⟨x', e1, hxv⟩ := hx.get h1
 split at hs
 case h_2 => cases hs
 rename_i elem n hu hm
 split at hs
 case h_2 => cases hs
 rename_i size hz
 cases hmk : noMake P argTypes[1]? with
 | false => rw [hmk] at hs; cases hs
 | true =>
  rw [hmk, cond_true] at hs
  have hl := srcLen_sound (P := P) hxv hm
  cases hn0 : n.beq 0 with
  | true =>
   rw [hn0, cond_true] at hs
   have := Nat.eq_of_beq_eq_true hn0
   subst this
   cases hc : base.isSome || sLen.ble sz with
   | false => rw [hc] at hs; cases hs
   | true =>
    rw [hc] at hs
    cases hs
    have hf0 := first0 (P := P) hxv hm size w
    have fin : ∀ (A : Option Addr) (cap : Nat), d' = .slice A sLen cap → sLen ≤ cap → (Builtin.append_ argTypes ty args').run P w = .ok d' w := by
     intro A cap hA hle
     subst hA
     rw [append_pre ht e0 e1 hu hz hmk hl, if_pos (by omega)]
     rw [append_in (w' := w) hf0 (by cases A <;> rfl)]
     rfl
    refine ⟨d', w, ρ, ?_, hd, h, .refl _ _ _⟩
    cases hd with
    | nilSlice => exact fin _ _ rfl (Nat.le_of_ble_eq_true (by simpa using hc))
    | slice hr h3 h4 => exact fin _ _ rfl h3
    | emptySlice a' hb => exact fin _ _ rfl (Nat.le_refl _)
  | false =>
   rw [hn0, cond_false] at hs
   split at hs
   case h_2 => cases hs
   rename_i info zero new hi hzv hnew
   cases hc : zero.cells.size.beq size && (sLen + n).ble (2 ^ 25) && info.bytes.ble (2 ^ 20) && new.all single && new.length.beq (n * size) with
   | false => rw [hc] at hs; cases hs
   | true =>
    rw [hc, cond_true] at hs
    simp only [Bool.and_eq_true] at hc
    obtain ⟨⟨⟨⟨c1, c2⟩, c3⟩, c4⟩, c5⟩ := hc
    have c1 := Nat.eq_of_beq_eq_true c1
    have c2 := Nat.le_of_ble_eq_true c2
    have c3 := Nat.le_of_ble_eq_true c3
    have c5 := Nat.eq_of_beq_eq_true c5
    have hsrc : ∀ m, srcLen x = some m → n ≤ m := fun m hm' => by rw [hm] at hm'; cases hm'; exact Nat.le_refl _
    have hn1 : 0 < n := by
     rcases Nat.eq_zero_or_pos n with h' | h'
     ·subst h'; cases hn0
     ·exact h'
    have moved : ∀ (A : Option Addr) (cap : Nat) (old old' : List Value) (hq : Tr AObj), d' = .slice A sLen cap → cap < sLen + n → VRL ρ old old' → old.length = sLen * size →
      (Builtin.firstCells size sLen (.slice A sLen cap)).run P { w with drawn := w.drawn + 1 } = .ok old'.toArray { w with drawn := w.drawn + 1 } → Rel ρ W hq nx w →
      ∃ v' w' ρ', (Builtin.append_ argTypes ty args').run P w = .ok v' w' ∧ VR ρ' (.slice (some ⟨nx, 0, none⟩) (sLen + n) size) v' ∧ Rel ρ' W (hq.put nx (some (.cells (old ++ new) true))) (nx + 1) w' ∧ ρ.le ρ' ∧ (∀ b, b < nx → ρ' b = ρ b) := by
     intro A cap old old' hq hA hlt ho hol hfo hrq
     subst hA
     obtain ⟨new', g1, g2⟩ := srcCells_sound (P := P) h.drawn hxv hnew hsrc
     obtain ⟨newCap, k1, k2⟩ := append_out (P := P) (elem := elem) (base := A) (size := size) (x := x') (w := w) hi hzv c2 c3 hlt hfo g2
     obtain ⟨ρ', r1, r2, r3, r4⟩ := append_moved (elem := elem) hrq ho g1 (zero := zero.cells) (need := sLen + n) (newCap := newCap) (size := size) (by rw [hol, c5, Nat.add_mul]) k1 c1
     refine ⟨_, _, ρ', ?_, r4, r1, r2, r3⟩
     rw [append_pre ht e0 e1 hu hz hmk hl, if_neg (by omega)]
     exact k2
    cases hd with
    | nilSlice =>
     dsimp only at hs
     cases hc0 : sLen.beq 0 && sz.beq 0 with
     | false => rw [hc0] at hs; cases hs
     | true =>
      rw [hc0] at hs
      cases hs
      simp only [Bool.and_eq_true] at hc0
      have b1 := Nat.eq_of_beq_eq_true hc0.1
      have b2 := Nat.eq_of_beq_eq_true hc0.2
      subst b1 b2
      obtain ⟨v', w', ρ', r1, r2, r3, r4, r5⟩ := moved none 0 [] [] hp rfl (by omega) .nil (by simp) rfl h
      refine ⟨v', w', ρ', r1, by simpa using r2, by simpa using r3, r4, by omega, fun b hb hr => ⟨(r5 b hb).trans hr, ?_⟩⟩
      rw [Tr.get_put, if_neg (by omega)]
    | @emptySlice b o y a' _ hrb =>
     dsimp only at hs
     split at hs
     case h_2 => cases hs
     rename_i l hb
     cases hsz : sz.beq size with
     | false => rw [hsz] at hs; cases hs
     | true =>
      rw [hsz, cond_true] at hs
      split at hs
      case h_2 => cases hs
      rename_i old hold
      cases hs
      have hold0 : old = [] := by
       unfold rowOf at hold
       rw [hb] at hold
       dsimp only at hold
       rw [Nat.zero_mul] at hold
       cases hbb : (o + 0).ble l.length with
       | false => rw [hbb] at hold; cases hold
       | true => rw [hbb] at hold; cases hold; simp
      subst hold0
      obtain ⟨v', w', ρ', r1, r2, r3, r4, r5⟩ := moved (some a') 0 [] [] (hp.put b none) rfl (by omega) .nil (by simp) (by show (loadCells a' (0 * size)).run P _ = _; rw [Nat.zero_mul]; rfl) (h.drop b)
      refine ⟨v', w', ρ', r1, r2, r3, r4, by omega, fun k hk hr => ⟨(r5 k hk).trans hr, ?_⟩⟩
      rw [Tr.get_put, if_neg (by omega), Tr.get_put, if_neg (by intro e; subst e; rw [hrb] at hr; cases hr)]
    | slice hr h3 h4 =>
     rename_i b o c s z cap
     dsimp only at hs
     split at hs
     case h_2 => cases hs
     rename_i l hb
     cases hsz : sz.beq size with
     | false => rw [hsz] at hs; cases hs
     | true =>
      rw [hsz, cond_true] at hs
      have hsz := Nat.eq_of_beq_eq_true hsz
      subst hsz
      split at hs
      case h_2 => cases hs
      rename_i old hold
      cases hs
      by_cases hin : sLen + n ≤ cap
      ·obtain ⟨new', g1, g2⟩ := srcCells_sound (P := P) h hxv hnew hsrc
       obtain ⟨old', g3, g4, g5⟩ := rowOf_sound (P := P) h hold hr
       have hnx : ρ nx = none := by
        cases hc : ρ nx with
        | none => rfl
        | some x => have := (h.dom nx x hc).1; omega
       have hle := Place.le_set (x := (c, s + o, z)) hnx
       have hol : ∀ (i : Nat) (v : Value), old[i]? = some v → l[o + i]? = some v := fun i v hv => by
        unfold rowOf at hold
        rw [hb] at hold
        dsimp only at hold
        cases hbb : (o + sLen * sz).ble l.length with
        | false => rw [hbb] at hold; cases hold
        | true =>
         rw [hbb] at hold
         cases hold
         rw [List.getElem?_take] at hv
         split at hv
         ·rw [List.getElem?_drop] at hv; exact hv
         ·cases hv
       have hmul : (sLen + n) * sz ≤ cap * sz := Nat.mul_le_mul_right _ hin
       have hmul2 : (sLen + n) * sz = sLen * sz + n * sz := Nat.add_mul _ _ _
       have hren := h.rename (o := o) hb hr hol (by omega)
       obtain ⟨w', k1, k2⟩ := extend_run (P := P) (o := sLen * sz) (Place.set_same ρ nx (c, s + o, z)) (g1.mono hle) 0 _ w old hren (by rw [Tr.get_put, if_pos rfl]) (by omega) (by omega) c4
       refine ⟨.slice (some ⟨c, s + o, none⟩) (sLen + n) cap, w', ρ.set nx (c, s + o, z), ?_, ?_, k2.congr (fun k => ?_), hle, by omega, fun k hk hrk => ⟨by rw [Place.set_other (by omega)]; exact hrk, ?_⟩⟩
       ·rw [append_pre ht e0 e1 hu hz hmk hl, if_pos hin]
        refine append_in (base := some ⟨c, s + o, none⟩) (sLen := sLen) (sCap := cap) (w' := w') g2 ?_
        dsimp only
        rw [add_eq, show s + (o + sLen * sz) = s + o + sLen * sz by omega]
        exact k1
       ·have := VR.slice (ρ := ρ.set nx (c, s + o, z)) (o := 0) (n := sLen + n) (sz := sz) (cap := cap) (Place.set_same ρ nx _) hin (by omega)
        exact this
       ·simp only [Tr.get_put]
        split <;> rfl
       ·rw [Tr.get_put, if_neg (by omega), Tr.get_put, if_neg (by intro e; subst e; rw [hr] at hrk; cases hrk)]
      ·obtain ⟨old', g3, g4, g5⟩ := rowOf_sound (P := P) h.drawn hold hr
       obtain ⟨v', w', ρ', r1, r2, r3, r4, r5⟩ := moved (some ⟨c, s + o, none⟩) cap old old' (hp.put b none) rfl (by omega) g3 g4 g5 (h.drop b)
       refine ⟨v', w', ρ', r1, r2, r3, r4, by omega, fun k hk hrk => ⟨(r5 k hk).trans hrk, ?_⟩⟩
       rw [Tr.get_put, if_neg (by omega), Tr.get_put, if_neg (by intro e; subst e; rw [hr] at hrk; cases hrk)]
end Go.Proofs.YtojlhapbngcjkaaGreatDoor
