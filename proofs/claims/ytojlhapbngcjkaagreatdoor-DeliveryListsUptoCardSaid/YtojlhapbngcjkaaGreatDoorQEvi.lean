/-
  Put together out of several texts, each in its own namespace's block. Conditions: as each theorem states them.
-/
import Derived.Test.YtojlhapbngcjkaaGreatDoorQEva
noncomputable section
namespace Go.Proofs.YtojlhapbngcjkaaGreatDoor
open Go Go.RowKit
set_option maxRecDepth 100000
set_option maxHeartbeats 8000000
theorem Rel.congr {ρ : Place} {W : Base} {hp hp' : Tr AObj} {nx : Nat} {w : World} (h : Rel ρ W hp nx w) (he : ∀ b, hp'.get b = hp.get b) : Rel ρ W hp' nx w :=
 ⟨h.dom, fun b o c s z ho => h.obj b o c s z (by rw [← he]; exact ho), fun b b' x x' o o' h1 h2 => h.inj b b' x x' o o' (by rw [← he]; exact h1) (by rw [← he]; exact h2), fun b hb => by rw [he]; exact h.fresh b hb, h.below, h.frz, fun b o c s z ho => h.apart b o c s z (by rw [← he]; exact ho), h.frn⟩
structure Step (ρ ρ' : Place) (hp hp' : Tr AObj) (nx nx' : Nat) : Prop where
 le : ρ.le ρ'
 more : nx ≤ nx'
 old : ∀ b, b < nx → ρ b = none → ρ' b = none ∧ hp'.get b = hp.get b
theorem Step.refl (ρ : Place) (hp : Tr AObj) (nx : Nat) : Step ρ ρ hp hp nx nx := ⟨.refl ρ, Nat.le_refl _, fun _ _ h => ⟨h, rfl⟩⟩
theorem Step.trans {ρ ρ' ρ'' : Place} {hp hp' hp'' : Tr AObj} {nx nx' nx'' : Nat} (h : Step ρ ρ' hp hp' nx nx') (k : Step ρ' ρ'' hp' hp'' nx' nx'') : Step ρ ρ'' hp hp'' nx nx'' :=
 ⟨h.le.trans k.le, Nat.le_trans h.more k.more, fun b hb hr => by
  have h1 := h.old b hb hr
  have h2 := k.old b (Nat.lt_of_lt_of_le hb h.more) h1.1
  exact ⟨h2.1, h2.2.trans h1.2⟩⟩
theorem VR.single {ρ : Place} {v v' : Value} (h : VR ρ v v') : single v' = single v := by cases h <;> rfl
theorem Rel.write2 {ρ : Place} {W : Base} {hp : Tr AObj} {nx : Nat} {w : World} (h : Rel ρ W hp nx w) {b c s z : Nat} {l l2 : List Value} (hb : hp.get b = some (.cells l true)) (hr : ρ b = some (c, s, z))
  {i : Nat} {v v' : Value} (hi : s + i < z) (hz : s + l2.length ≤ z) (hl : ∀ (j : Nat) (u : Value), l2[j]? = some u → (j = i ∧ u = v) ∨ (j ≠ i ∧ l[j]? = some u)) (hv : VR ρ v v') (hs : single v' = true) (P : Program) :
  (store ⟨c, s + i, none⟩ v').run P w = .ok () (w.setCell ⟨c, s + i, none⟩ v') ∧ Rel ρ W (hp.put b (some (.cells l2 true))) nx (w.setCell ⟨c, s + i, none⟩ v') := by
 obtain ⟨ob, e, ho⟩ := h.obj b _ c s z hb hr
 cases ob <;> try exact ho.elim
 rename_i cs t fr
 obtain ⟨h1, h2, h3, h4, h5⟩ := ho
 have hbn : b < nx := (h.dom b _ hr).1
 refine ⟨store_run e rfl (by show s + i < cs.size; omega) (h3 (s + i) (by omega)) hs, ⟨fun k x hk => ⟨(h.dom k x hk).1, by simpa [World.setCell] using (h.dom k x hk).2⟩, fun k o' c' s' z' ho' hk => ?_, fun k k' x x' o1 o2 g1 g2 hk hk' hx => ?_, fun k hk => ?_, below_setCell h.below (h5 rfl) v', fun c0 ob0 hc0 => ?_, fun k o' c' s' z' ho' hw hk => ?_, h.frn⟩⟩
 ·rw [Tr.get_put] at ho'
  by_cases ek : k = b
  ·rw [if_pos ek] at ho'
   cases ho'
   rw [ek, hr] at hk
   cases hk
   refine ⟨.cells (cs.setIfInBounds (s + i) v') t fr, by rw [setCell_heap w _ _ e, if_pos rfl], by simp [h1], hz, h3, fun j u hu => ?_, h5⟩
   rcases hl j u hu with ⟨hji, hu'⟩ | ⟨hji, hu'⟩
   ·subst hu'
    refine ⟨v', ?_, hv⟩
    rw [hji, Array.getElem?_setIfInBounds, if_pos rfl, if_pos (by omega)]
   ·obtain ⟨u', e1, e2⟩ := h4 j u hu'
    exact ⟨u', by rw [Array.getElem?_setIfInBounds_ne (by omega)]; exact e1, e2⟩
  ·rw [if_neg ek] at ho'
   obtain ⟨ob', e1, e2⟩ := h.obj k o' c' s' z' ho' hk
   refine ⟨ob', ?_, e2⟩
   rw [setCell_heap w _ _ e, if_neg]
   ·exact e1
   ·intro ec
    exact ek (h.inj k b _ _ _ _ ho' hb hk hr ec)
 ·have live : ∀ k o, (hp.put b (some (.cells l2 true))).get k = some o → ∃ o', hp.get k = some o' := fun k o hk => by
   rw [Tr.get_put] at hk
   by_cases ek : k = b
   ·exact ⟨_, ek ▸ hb⟩
   ·rw [if_neg ek] at hk; exact ⟨_, hk⟩
  obtain ⟨_, g1'⟩ := live k o1 g1
  obtain ⟨_, g2'⟩ := live k' o2 g2
  exact h.inj k k' x x' _ _ g1' g2' hk hk' hx
 ·rw [Tr.get_put, if_neg (by omega)]
  exact h.fresh k hk
 ·rw [setCell_heap w _ _ e, if_neg]
  ·exact h.frz c0 ob0 hc0
  ·intro ec
   have := h.apart b _ c s z hb rfl hr
   rw [ec, this] at hc0
   cases hc0
 ·rw [Tr.get_put] at ho'
  by_cases ek : k = b
  ·rw [ek, hr] at hk
   cases hk
   exact h.apart b _ c s z hb rfl hr
  ·rw [if_neg ek] at ho'
   exact h.apart k o' c' s' z' ho' hw hk
def setFrom (l : List Value) (o : Nat) : List Value → List Value
 | [] => l
 | v :: vs => setFrom (l.set o v) (o + 1) vs
theorem storeCells_run {P : Program} {ρ : Place} {W : Base} {nx b c s z o : Nat} (hr : ρ b = some (c, s, z)) : ∀ {vs vs' : List Value}, VRL ρ vs vs' → ∀ (k : Nat) (hp : Tr AObj) (w : World) (l : List Value),
  Rel ρ W hp nx w → hp.get b = some (.cells l true) → o + k + vs.length ≤ l.length → vs.all single = true →
  ∃ w', (storeCells ⟨c, s + o, none⟩ vs' k).run P w = .ok () w' ∧ Rel ρ W (hp.put b (some (.cells (setFrom l (o + k) vs) true))) nx w' := by
 intro vs vs' hv
 induction hv with
 | nil =>
  intro k hp w l h hb _ _
  refine ⟨w, rfl, h.congr fun j => ?_⟩
  rw [Tr.get_put]
  split
  ·rename_i e; rw [e, hb]; rfl
  ·rfl
 | cons hv htl ih =>
  rename_i v v' vs vs'
  intro k hp w l h hb hlen hall
  simp only [List.all_cons, Bool.and_eq_true] at hall
  simp only [List.length_cons] at hlen
  obtain ⟨ob, e, ho⟩ := h.obj b _ c s z hb hr
  have hz : s + l.length ≤ z := by
   cases ob <;> try exact ho.elim
   exact ho.2.1
  obtain ⟨h1, h2⟩ := h.write2 (i := o + k) (v := v) (v' := v') (l2 := l.set (o + k) v) hb hr (by omega) (by simpa using hz) (fun j u hu => by
   rw [List.getElem?_set] at hu
   by_cases hj : o + k = j
   ·rw [if_pos hj] at hu
    split at hu
    ·cases hu; exact .inl ⟨hj.symm, rfl⟩
    ·cases hu
   ·rw [if_neg hj] at hu
    exact .inr ⟨Ne.symm hj, hu⟩) hv (by rw [hv.single]; exact hall.1) P
  obtain ⟨w', h3, h4⟩ := ih (k + 1) _ _ (l.set (o + k) v) h2 (by rw [Tr.get_put, if_pos rfl]) (by simp; omega) hall.2
  refine ⟨w', ?_, h4.congr fun j => ?_⟩
  ·show (store ((⟨c, s + o, none⟩ : Addr).add k) v' >>= fun _ => storeCells ⟨c, s + o, none⟩ vs' (k + 1)).run P w = _
   rw [add_eq, Sem.run_bind, h1, Result.andThen_ok]
   exact h3
  ·simp only [setFrom]
   rw [show o + (k + 1) = o + k + 1 by omega]
   rw [Tr.get_put, Tr.get_put, Tr.get_put]
   split <;> rfl
theorem extend_run {P : Program} {ρ : Place} {W : Base} {nx b c s z o : Nat} (hr : ρ b = some (c, s, z)) : ∀ {vs vs' : List Value}, VRL ρ vs vs' → ∀ (k : Nat) (hp : Tr AObj) (w : World) (l : List Value),
  Rel ρ W hp nx w → hp.get b = some (.cells l true) → l.length = o + k → s + (o + k) + vs.length ≤ z → vs.all single = true →
  ∃ w', (storeCells ⟨c, s + o, none⟩ vs' k).run P w = .ok () w' ∧ Rel ρ W (hp.put b (some (.cells (l ++ vs) true))) nx w' := by
 intro vs vs' hv
 induction hv with
 | nil =>
  intro k hp w l h hb _ _ _
  refine ⟨w, rfl, h.congr fun j => ?_⟩
  rw [Tr.get_put]
  split
  ·rename_i e; rw [e, hb]; simp
  ·rfl
 | cons hv htl ih =>
  rename_i v v' vs vs'
  intro k hp w l h hb hlen hz hall
  simp only [List.all_cons, Bool.and_eq_true] at hall
  simp only [List.length_cons] at hz
  obtain ⟨h1, h2⟩ := h.write2 (i := o + k) (v := v) (v' := v') (l2 := l ++ [v]) hb hr (by omega) (by simp; omega) (fun j u hu => by
   rcases Nat.lt_or_ge j l.length with hj | hj
   ·rw [List.getElem?_append_left hj] at hu
    exact .inr ⟨by omega, hu⟩
   ·rw [List.getElem?_append_right hj] at hu
    have : j - l.length = 0 := by
     rcases Nat.eq_zero_or_pos (j - l.length) with h' | h'
     ·exact h'
     ·rw [List.getElem?_eq_none (by simp; omega)] at hu; cases hu
    rw [this] at hu
    cases hu
    exact .inl ⟨by omega, rfl⟩) hv (by rw [hv.single]; exact hall.1) P
  obtain ⟨w', h3, h4⟩ := ih (k + 1) _ _ (l ++ [v]) h2 (by rw [Tr.get_put, if_pos rfl]) (by simp; omega) (by omega) hall.2
  refine ⟨w', ?_, h4.congr fun j => ?_⟩
  ·show (store ((⟨c, s + o, none⟩ : Addr).add k) v' >>= fun _ => storeCells ⟨c, s + o, none⟩ vs' (k + 1)).run P w = _
   rw [add_eq, Sem.run_bind, h1, Result.andThen_ok]
   exact h3
  ·rw [Tr.get_put, Tr.get_put, Tr.get_put]
   split <;> simp
def aStore (P : Program) (hp : Tr AObj) (t : TypeId) (x v : Value) : Option (Tr AObj) :=
 match x with
 | .pointer (some ⟨b, o, none⟩) => match hp.get b with
  | some (.cells l true) => match pureRun P (sizeOf t) with
   | some z => bif v.cells.size.beq z && (o + z).ble l.length && v.cells.toList.all single then some (hp.put b (some (.cells (setFrom l o v.cells.toList) true))) else none
   | none => none
  | _ => none
 | _ => none
theorem step_put {ρ : Place} {hp : Tr AObj} {nx b : Nat} {x : Nat × Nat × Nat} (hr : ρ b = some x) (o : Option AObj) : Step ρ ρ hp (hp.put b o) nx nx :=
 ⟨.refl ρ, Nat.le_refl _, fun k _ hk => ⟨hk, by rw [Tr.get_put, if_neg (by intro e; subst e; rw [hr] at hk; cases hk)]⟩⟩
theorem aStore_sound {P : Program} {ρ : Place} {W : Base} {hp hp' : Tr AObj} {nx : Nat} {w : World} (h : Rel ρ W hp nx w) {t : TypeId} {x x' v v' : Value} (hx : VR ρ x x') (hv : VR ρ v v') (hs : aStore P hp t x v = some hp') :
  ∃ w', (Instr.storeAt t x' v').run P w = .ok () w' ∧ Rel ρ W hp' nx w' ∧ Step ρ ρ hp hp' nx nx := by
 unfold aStore at hs
 cases hx <;> try simp only [reduceCtorEq] at hs
 case ptr b o c s z hr =>
  split at hs
  case h_2 => cases hs
  rename_i l hb
  split at hs
  case h_2 => cases hs
  rename_i m hz
  cases hc : v.cells.size.beq m && (o + m).ble l.length && v.cells.toList.all single with
  | false => rw [hc] at hs; cases hs
  | true =>
   rw [hc, cond_true] at hs
   cases hs
   simp only [Bool.and_eq_true] at hc
   obtain ⟨⟨h1, h2⟩, h3⟩ := hc
   have h1 := Nat.eq_of_beq_eq_true h1
   have h2 := Nat.le_of_ble_eq_true h2
   obtain ⟨w', h4, h5⟩ := storeCells_run (P := P) (o := o) hr hv.cells.list 0 hp w l h hb (by simp; omega) h3
   refine ⟨w', ?_, h5, step_put hr _⟩
   unfold Instr.storeAt
   show (storeVar t ⟨c, s + o, none⟩ v').run P w = _
   unfold storeVar
   rw [bind_run hz]
   rw [if_neg (by rw [← hv.cells.1]; simp [h1])]
   exact h4
def aNext (hp : Tr AObj) (x : Value) (isString : Bool) : Option (Value × Tr AObj) :=
 match x, isString with
 | .pointer (some ⟨b, 0, none⟩), true => match hp.get b with
  | some (.iter s pos) => bif pos.blt s.size then
    some (.tuple #[.bool true, goInt pos, .int .i32 (Utf8.decode s pos).1], hp.put b (some (.iter s (pos + (Utf8.decode s pos).2))))
   else some (.tuple #[.bool false], hp)
  | _ => none
 | _, _ => none
theorem aNext_sound {P : Program} {ρ : Place} {W : Base} {hp hp' : Tr AObj} {nx : Nat} {w : World} (h : Rel ρ W hp nx w) {t : TypeId} {x x' v : Value} {q : Bool} (hx : VR ρ x x') (hs : aNext hp x q = some (v, hp')) :
  ∃ v' w', (Instr.next x' q t).run P w = .ok v' w' ∧ VR ρ v v' ∧ Rel ρ W hp' nx w' ∧ Step ρ ρ hp hp' nx nx := by
 unfold aNext at hs
 split at hs
 case h_2 => cases hs
 rename_i b
 cases hx with
 | ptr hr =>
  rename_i c s z
  split at hs
  case h_2 => cases hs
  rename_i st pos hb
  obtain ⟨ob, e, ho⟩ := h.obj b _ c s z hb hr
  cases ob <;> try exact ho.elim
  obtain ⟨rfl, rfl, hB, rfl⟩ := ho
  rename_i st pos
  have hg : (getObj c).run P w = .ok (.stringIter st pos) w := by simp [getObj, Sem.run, e]
  have hc0 : c < w.heap.size := (h.dom b _ hr).2
  cases hlt : pos.blt st.size with
  | true =>
   rw [hlt, cond_true] at hs
   cases hs
   have hlt' : pos < st.size := Nat.le_of_ble_eq_true hlt
   let w' : World := { w with heap := w.heap.setIfInBounds c (.stringIter st (pos + (Utf8.decode st pos).2)) }
   have hset : (setObj c (.stringIter st (pos + (Utf8.decode st pos).2))).run P w = .ok () w' := by simp [setObj, Sem.run, e, w']
   refine ⟨_, w', ?_, closed_refl (by simp [closed, closed1, flat, goInt]), ?_, step_put hr _⟩
   ·unfold Instr.next
    show ((getObj c) >>= _).run P w = _
    rw [Sem.run_bind, hg, Result.andThen_ok]
    dsimp only
    rw [if_pos hlt']
    show ((setObj c (.stringIter st (pos + (Utf8.decode st pos).2))) >>= fun _ => pure (Value.tuple #[.bool true, goInt pos, .int .i32 (Utf8.decode st pos).1])).run P w = _
    rw [Sem.run_bind, hset, Result.andThen_ok]
    rfl
   ·have hget : ∀ k, w'.heap[k]? = if k = c then some (.stringIter st (pos + (Utf8.decode st pos).2)) else w.heap[k]? := by
     intro k
     simp only [w', Array.getElem?_setIfInBounds]
     by_cases hk : c = k
     ·subst hk; simp [hc0]
     ·simp [hk, Ne.symm hk]
    refine ⟨fun k x hk => ⟨(h.dom k x hk).1, by simpa [w'] using (h.dom k x hk).2⟩, fun k o' c' s' z' ho' hk => ?_, fun k k' x x' o1 o2 g1 g2 hk hk' hx => ?_, fun k hk => ?_, ⟨h.below.os, h.below.tape, h.below.output, by simpa [w'] using h.below.size, fun k hk => ?_⟩, fun c0 ob0 hc0 => ?_, fun k o' c' s' z' ho' hw hk => ?_, h.frn⟩
    ·rw [Tr.get_put] at ho'
     by_cases ek : k = b
     ·rw [if_pos ek] at ho'
      cases ho'
      rw [ek, hr] at hk
      cases hk
      exact ⟨.stringIter st (pos + (Utf8.decode st pos).2), by rw [hget, if_pos rfl], rfl, rfl, hB, rfl⟩
     ·rw [if_neg ek] at ho'
      obtain ⟨ob', e1, e2⟩ := h.obj k o' c' s' z' ho' hk
      refine ⟨ob', ?_, e2⟩
      rw [hget, if_neg]
      ·exact e1
      ·intro ec
       exact ek (h.inj k b _ _ _ _ ho' hb hk hr ec)
    ·have live : ∀ k o, (hp.put b (some (.iter st (pos + (Utf8.decode st pos).2)))).get k = some o → ∃ o', hp.get k = some o' := fun k o hk => by
      rw [Tr.get_put] at hk
      by_cases ek : k = b
      ·exact ⟨_, ek ▸ hb⟩
      ·rw [if_neg ek] at hk; exact ⟨_, hk⟩
     obtain ⟨_, g1'⟩ := live k o1 g1
     obtain ⟨_, g2'⟩ := live k' o2 g2
     exact h.inj k k' x x' _ _ g1' g2' hk hk' hx
    ·rw [Tr.get_put, if_neg (by have := (h.dom b _ hr).1; omega)]
     exact h.fresh k hk
    ·rw [hget, if_neg (fun e => hB (by rw [← e]; exact hk))]
     exact h.below.block k hk
    ·rw [hget, if_neg]
     ·exact h.frz c0 ob0 hc0
     ·intro ec
      have := h.apart b _ c _ z hb rfl hr
      rw [ec, this] at hc0
      cases hc0
    ·rw [Tr.get_put] at ho'
     by_cases ek : k = b
     ·rw [ek, hr] at hk
      cases hk
      exact h.apart b _ c _ z hb rfl hr
     ·rw [if_neg ek] at ho'
      exact h.apart k o' c' s' z' ho' hw hk
  | false =>
   rw [hlt, cond_false] at hs
   cases hs
   refine ⟨_, w, ?_, closed_refl (by simp [closed, closed1, flat]), h, .refl _ _ _⟩
   have hlt' : ¬ pos < st.size := fun h' => by
    have : pos.blt st.size = true := Nat.ble_eq_true_of_le h'
    rw [this] at hlt; cases hlt
   unfold Instr.next
   show ((getObj c) >>= _).run P w = _
   rw [Sem.run_bind, hg, Result.andThen_ok]
   dsimp only
   rw [if_neg hlt']
   rfl
def srcLen : Value → Option Nat
 | .slice _ n _ => some n
 | .string s => some s.size
 | .func (.via _ _ n false) _ _ => some n
 | _ => none
theorem srcLen_sound {P : Program} {ρ : Place} {x x' : Value} {n : Nat} (hx : VR ρ x x') (h : srcLen x = some n) : pureRun P (Builtin.lenOf x') = some n := by
 cases hx <;> simp only [srcLen, reduceCtorEq] at h <;> exact h
def srcCells (hp : Tr AObj) (size n : Nat) : Value → Option (List Value)
 | .slice none _ _ => bif n.beq 0 then some [] else none
 | .slice (some ⟨b, o, none⟩) _ _ => bif n.beq 0 then some [] else rowOf hp b o (n * size)
 | .string s => some ((s.extract 0 n).data.map fun b => Value.int .u8 b.toNat).toList
 | .func (.via sz _ m false) els _ => bif sz.beq size && n.beq m then some (els.toList.flatMap fun u => u.cells.toList) else none
 | _ => none
theorem flat_get {sz : Nat} : ∀ (els : List Value), (∀ u ∈ els, u.cells.size = sz) → ∀ (k : Nat) (v : Value), (els.flatMap fun u => u.cells.toList)[k]? = some v → ∃ i j u, els[i]? = some u ∧ u.cells[j]? = some v ∧ k = i * sz + j
 | [], _, k, v, h => by simp at h
 | u :: l, hu, k, v, h => by
  have h0 := hu u (by simp)
  rw [List.flatMap_cons] at h
  rcases Nat.lt_or_ge k sz with hk | hk
  ·rw [List.getElem?_append_left (by simpa [h0] using hk)] at h
   exact ⟨0, k, u, rfl, by simpa using h, by omega⟩
  ·rw [List.getElem?_append_right (by simpa [h0] using hk)] at h
   obtain ⟨i, j, x, h1, h2, h3⟩ := flat_get l (fun y hy => hu y (by simp [hy])) _ v h
   refine ⟨i + 1, j, x, by simpa using h1, h2, ?_⟩
   rw [Nat.succ_mul]
   simp only [Array.length_toList, h0] at h3
   omega
theorem flat_len {sz : Nat} : ∀ (els : List Value), (∀ u ∈ els, u.cells.size = sz) → (els.flatMap fun u => u.cells.toList).length = els.length * sz
 | [], _ => by simp
 | u :: l, hu => by
  rw [List.flatMap_cons, List.length_append, flat_len l fun y hy => hu y (by simp [hy])]
  simp only [Array.length_toList, hu u (by simp), List.length_cons, Nat.succ_mul]
  omega
theorem srcCells_sound {P : Program} {ρ : Place} {W : Base} {hp : Tr AObj} {nx : Nat} {w : World} (h : Rel ρ W hp nx w) {x x' : Value} {size n : Nat} {l : List Value} (hx : VR ρ x x') (hl : srcCells hp size n x = some l)
  (hn : ∀ m, srcLen x = some m → n ≤ m) : ∃ l', VRL ρ l l' ∧ (Builtin.firstCells size n x').run P w = .ok l'.toArray w := by
 cases hx <;> simp only [srcCells, reduceCtorEq] at hl
 case nilSlice m c =>
  cases h0 : n.beq 0 with
  | false => rw [h0] at hl; cases hl
  | true => rw [h0] at hl; cases hl; exact ⟨[], .nil, rfl⟩
 case slice b o m sz c s z cap hr h1 h2 =>
  cases h0 : n.beq 0 with
  | false =>
   rw [h0, cond_false] at hl
   obtain ⟨l', h3, _, h4⟩ := rowOf_sound (P := P) h hl hr
   exact ⟨l', h3, h4⟩
  | true =>
   rw [h0] at hl
   cases hl
   have := Nat.eq_of_beq_eq_true h0
   subst this
   refine ⟨[], .nil, ?_⟩
   show (loadCells _ (0 * size)).run P w = _
   rw [Nat.zero_mul]
   rfl
 case emptySlice b o y a' sz hr =>
  have := hn 0 rfl
  have : n = 0 := by omega
  subst this
  refine ⟨[], ?_, ?_⟩
  ·simp [Nat.beq] at hl
   subst hl
   exact .nil
  ·show (loadCells a' (0 * size)).run P w = _
   rw [Nat.zero_mul]
   rfl
 case treeNil sz a cap =>
  cases hc : sz.beq size && n.beq 0 with
  | false => rw [hc] at hl; cases hl
  | true =>
   rw [hc] at hl
   cases hl
   simp only [Bool.and_eq_true] at hc
   have := Nat.eq_of_beq_eq_true hc.2
   subst this
   refine ⟨[], .nil, ?_⟩
   cases a with
   | none => rfl
   | some a => show (loadCells _ (0 * size)).run P w = _; rw [Nat.zero_mul]; rfl
 case tree sz m cap c o els cs t fz hf hm hcap hs hsz hr =>
  cases hc : sz.beq size && n.beq m with
  | false => rw [hc] at hl; cases hl
  | true =>
   rw [hc] at hl
   cases hl
   simp only [Bool.and_eq_true] at hc
   have e1 := Nat.eq_of_beq_eq_true hc.1
   have e2 := Nat.eq_of_beq_eq_true hc.2
   subst e1 e2
   have hall : ∀ u ∈ els.toList, u.cells.size = sz := fun u hu => by
    obtain ⟨i, hi⟩ := List.mem_iff_getElem?.1 hu
    exact hsz i u (by simpa using hi)
   have hlen : (els.toList.flatMap fun u => u.cells.toList).length = n * sz := by rw [flat_len _ hall, Array.length_toList, hm]
   have hexl : (cs.extract o (o + n * sz)).toList.length = n * sz := by simp; omega
   refine ⟨(cs.extract o (o + n * sz)).toList, .of (by rw [hlen, hexl]) (fun k v v' hv hv' => ?_), ?_⟩
   ·obtain ⟨i, j, u, g1, g2, g3⟩ := flat_get _ hall k v hv
    have hk : cs[o + k]? = some v' := by
     rw [Array.getElem?_toList, Array.getElem?_extract] at hv'
     split at hv'
     ·exact hv'
     ·cases hv'
    refine (hr i j u v v' (by simpa using g1) g2 ?_).lift
    rw [← hk, g3]
    congr 1
    omega
   ·have := loadFrom_run (P := P) (w := w) (a := ⟨c, o, none⟩) (cs.extract o (o + n * sz)).toList 0 #[] (fun i v hv => by
     rw [Nat.zero_add, show (⟨c, o, none⟩ : Addr) = ⟨c, o + 0, none⟩ from rfl, add_eq]
     have hc : w.cell? ⟨c, o + (0 + i), none⟩ = cs[o + (0 + i)]? := by simp [World.cell?, h.frz c _ hf]
     rw [hc]
     rw [Array.getElem?_toList, Array.getElem?_extract] at hv
     split at hv
     ·rw [← hv]; congr 1; omega
     ·cases hv)
    show (loadCells ⟨c, o, none⟩ (n * sz)).run P w = _
    unfold loadCells
    rw [hexl] at this
    rw [this]
    simp
 case string s =>
  cases hl
  refine ⟨((s.extract 0 n).data.map fun b => Value.int .u8 b.toNat).toList, ?_, ?_⟩
  rotate_left
  ·show Result.ok ((s.extract 0 n).data.map fun b => Value.int .u8 b.toNat) w = _
   rw [Array.toArray_toList]
  ·exact .of rfl fun i v v' a b => by
    rw [a] at b
    cases b
    have hm := List.mem_of_getElem? a
    simp only [Array.toList_map, List.mem_map] at hm
    obtain ⟨y, _, rfl⟩ := hm
    exact .int _ _
theorem first0 {P : Program} {ρ : Place} {x x' : Value} {m : Nat} (hx : VR ρ x x') (h : srcLen x = some m) (size : Nat) (w : World) : (Builtin.firstCells size 0 x').run P w = .ok #[] w := by
 cases hx <;> simp only [srcLen, reduceCtorEq] at h
 case nilSlice => rfl
 case slice => show (loadCells _ (0 * size)).run P w = _; rw [Nat.zero_mul]; rfl
 case emptySlice => show (loadCells _ (0 * size)).run P w = _; rw [Nat.zero_mul]; rfl
 case tree => show (loadCells _ (0 * size)).run P w = _; rw [Nat.zero_mul]; rfl
 case treeNil sz a cap =>
  cases a with
  | none => rfl
  | some a => show (loadCells _ (0 * size)).run P w = _; rw [Nat.zero_mul]; rfl
 case string s =>
  show Result.ok ((s.extract 0 0).data.map fun b => Value.int .u8 b.toNat) w = _
  congr 1
  apply Array.eq_empty_of_size_eq_zero
  simp
def noMake (P : Program) (t : Option TypeId) : Bool :=
 match t with
 | none => true
 | some t => match P.underlying t with
  | some (.int _) => false
  | some _ => true
  | none => false
def aAppend (P : Program) (hp : Tr AObj) (nx : Nat) (argTypes : Array TypeId) (args : Array Value) : Option (Value × Tr AObj × Nat) :=
 match argTypes[0]?, (args[0]? : Option Value), (args[1]? : Option Value) with
 | some t, some (.slice base sLen sz), some x => match P.underlying t, srcLen x with
  | some (.slice elem), some n => match pureRun P (sizeOf elem) with
   | some size => bif noMake P argTypes[1]? then
     bif n.beq 0 then
      bif base.isSome || sLen.ble sz then some (.slice base sLen sz, hp, nx) else none
     else match pureRun P (typeInfo elem), pureRun P (zeroValue elem), srcCells hp size n x with
      | some info, some zero, some new =>
       bif zero.cells.size.beq size && (sLen + n).ble (2 ^ 25) && info.bytes.ble (2 ^ 20) && new.all single && new.length.beq (n * size) then
        match base with
        | none => bif sLen.beq 0 && sz.beq 0 then some (.slice (some ⟨nx, 0, none⟩) n size, hp.put nx (some (.cells new true)), nx + 1) else none
        | some ⟨b, o, none⟩ => match hp.get b with
         | some (.cells _ true) => bif sz.beq size then
           match rowOf hp b o (sLen * size) with
           | some old => some (.slice (some ⟨nx, 0, none⟩) (sLen + n) size, (hp.put b none).put nx (some (.cells (old ++ new) true)), nx + 1)
           | none => none
          else none
         | _ => none
        | _ => none
       else none
      | _, _, _ => none
    else none
   | none => none
  | _, _ => none
 | _, _, _ => none
theorem growBy_le (newLen M : Nat) (hM : ∀ c, c < newLen → c + (c + 768) / 4 ≤ M) : ∀ (r c : Nat), c ≤ M → Builtin.growBy newLen r c ≤ M
 | 0, c, h => h
 | r + 1, c, h => by
  simp only [Builtin.growBy]
  split
  ·exact h
  ·exact growBy_le newLen M hM r _ (hM c (by omega))
theorem nextcap_le {need cap : Nat} (h : cap < need) : Builtin.nextslicecap need cap ≤ 2 * need + 200 := by
 unfold Builtin.nextslicecap
 split
 ·omega
 ·split
  ·omega
  ·exact growBy_le need _ (fun c hc => by omega) 4 cap (by omega)
theorem Rel.drop {ρ : Place} {W : Base} {hp : Tr AObj} {nx : Nat} {w : World} (h : Rel ρ W hp nx w) (b : Nat) : Rel ρ W (hp.put b none) nx w := by
 have sub : ∀ k o, (hp.put b none).get k = some o → hp.get k = some o := fun k o hk => by
  rw [Tr.get_put] at hk
  split at hk
  ·cases hk
  ·exact hk
 refine ⟨h.dom, fun k o c s z ho hk => h.obj k o c s z (sub k o ho) hk, fun k k' x x' o o' h1 h2 => h.inj k k' x x' o o' (sub _ _ h1) (sub _ _ h2), fun k hk => ?_, h.below, h.frz, fun k o c s z ho => h.apart k o c s z (sub k o ho), h.frn⟩
 rw [Tr.get_put]
 split
 ·rfl
 ·exact h.fresh k hk
theorem Rel.rename {ρ : Place} {W : Base} {hp : Tr AObj} {nx : Nat} {w : World} (h : Rel ρ W hp nx w) {b c s z o : Nat} {l old : List Value} (hb : hp.get b = some (.cells l true)) (hr : ρ b = some (c, s, z))
  (hold : ∀ (i : Nat) (v : Value), old[i]? = some v → l[o + i]? = some v) (hlen : s + o + old.length ≤ z) : Rel (ρ.set nx (c, s + o, z)) W ((hp.put b none).put nx (some (.cells old true))) (nx + 1) w := by
 have hn : ρ nx = none := by
  cases hc : ρ nx with
  | none => rfl
  | some x => have := (h.dom nx x hc).1; omega
 have hle := Place.le_set (x := (c, s + o, z)) hn
 have hbn : b < nx := (h.dom b _ hr).1
 have sub : ∀ k ob, k ≠ nx → ((hp.put b none).put nx (some (.cells old true))).get k = some ob → k ≠ b ∧ hp.get k = some ob := fun k ob hk hg => by
  rw [Tr.get_put, if_neg hk, Tr.get_put] at hg
  split at hg
  ·cases hg
  ·rename_i e; exact ⟨e, hg⟩
 refine ⟨fun k x hk => ?_, fun k ob c' s' z' hg hk => ?_, fun k k' x x' o1 o2 h1 h2 hk hk' hx => ?_, fun k hk => ?_, h.below, h.frz, fun k o' c' s' z' hg hw hk => ?_, h.frn⟩
 ·by_cases e : k = nx
  ·subst e
   rw [Place.set_same] at hk
   cases hk
   exact ⟨by omega, (h.dom b _ hr).2⟩
  ·rw [Place.set_other e] at hk
   exact ⟨by have := (h.dom k x hk).1; omega, (h.dom k x hk).2⟩
 ·by_cases e : k = nx
  ·subst e
   rw [Place.set_same] at hk
   cases hk
   rw [Tr.get_put, if_pos rfl] at hg
   cases hg
   obtain ⟨ob, e1, e2⟩ := h.obj b _ c s z hb hr
   cases ob <;> try exact e2.elim
   rename_i cs t fr
   obtain ⟨g1, g2, g3, g4, g5⟩ := e2
   refine ⟨.cells cs t fr, e1, g1, hlen, g3, fun i v hv => ?_, g5⟩
   obtain ⟨v', e3, e4⟩ := g4 (o + i) v (hold i v hv)
   exact ⟨v', by rw [show s + o + i = s + (o + i) by omega]; exact e3, e4.mono hle⟩
  ·rw [Place.set_other e] at hk
   obtain ⟨ob', e1, e2⟩ := h.obj k ob c' s' z' (sub k ob e hg).2 hk
   exact ⟨ob', e1, e2.mono hle⟩
 ·by_cases e : k = nx
  ·by_cases e' : k' = nx
   ·rw [e, e']
   ·subst e
    rw [Place.set_same] at hk
    rw [Place.set_other e'] at hk'
    cases hk
    have := sub k' o2 e' h2
    exact absurd (h.inj b k' _ _ _ _ hb this.2 hr hk' hx).symm this.1
  ·by_cases e' : k' = nx
   ·subst e'
    rw [Place.set_same] at hk'
    rw [Place.set_other e] at hk
    cases hk'
    have := sub k o1 e h1
    exact absurd (h.inj k b _ _ _ _ this.2 hb hk hr hx) this.1
   ·rw [Place.set_other e] at hk
    rw [Place.set_other e'] at hk'
    exact h.inj k k' x x' o1 o2 (sub k o1 e h1).2 (sub k' o2 e' h2).2 hk hk' hx
 ·rw [Tr.get_put, if_neg (by omega), Tr.get_put]
  split
  ·rfl
  ·exact h.fresh k (by omega)
 ·show ρ.fr c' = none
  by_cases e : k = nx
  ·subst e
   rw [Place.set_same] at hk
   cases hk
   exact h.apart b _ c s z hb rfl hr
  ·rw [Place.set_other e] at hk
   exact h.apart k o' c' s' z' (sub k o' e hg).2 hw hk
def makeBool (t : Option TypeId) : Sem Bool :=
 match t with
 | some xType => do pure ((← underlying xType) matches .int _)
 | none => pure false
theorem noMake_run {P : Program} {t : Option TypeId} (h : noMake P t = true) : pureRun P (makeBool t) = some false := by
 unfold makeBool
 cases t with
 | none => rfl
 | some t =>
  simp only [noMake] at h
  cases hu : P.underlying t with
  | none => rw [hu] at h; cases h
  | some d =>
   rw [hu] at h
   dsimp only
   rw [pureRun_bind (underlying_pure hu)]
   cases d <;> first | rfl | cases h
theorem append_pre {P : Program} {argTypes : Array TypeId} {ty t elem : TypeId} {args : Array Value} {base : Option Addr} {sLen sCap n size : Nat} {x : Value} {w : World} (ht : argTypes[0]? = some t) (h0 : args[0]? = some (.slice base sLen sCap)) (h1 : args[1]? = some x)
  (hu : P.underlying t = some (.slice elem)) (hz : pureRun P (sizeOf elem) = some size) (hm : noMake P argTypes[1]? = true) (hl : pureRun P (Builtin.lenOf x) = some n) :
  (Builtin.append_ argTypes ty args).run P w = (if sLen + n ≤ sCap then (do
    let new ← Builtin.firstCells size n x
    if let some a := base then storeCells (a.add (sLen * size)) new.toList
    pure (.slice base (sLen + n) sCap))
   else (do
    if ((sLen + n : Nat) : Int) > IntKind.i64.max ∧ (false = true ∨ (← typeInfo elem).bytes = 0) then runtimePanic (.error "growslice: len out of range")
    if Builtin.nextslicecap (sLen + n) sCap * (← typeInfo elem).bytes > 2 ^ 48 then (do
     if !(← Builtin.mayShare size sLen n base x) then mark .noRoom
     unsupported (.resourceLimit "append: a slice or a string whose bytes no memory bears"))
    let newCap ← choose (.appendCap (sLen + n) sCap elem)
    askRoom (newCap * (← typeInfo elem).bytes)
    let old ← Builtin.firstCells size sLen (.slice base sLen sCap)
    let new ← Builtin.firstCells size n x
    let rest := Builtin.zeroCells (← zeroValue elem).cells (newCap - (sLen + n))
    pure (.slice (some (← newRow elem (old ++ new ++ rest))) (sLen + n) newCap)) : Sem Value).run P w := by
 unfold Builtin.append_
 rw [ht, h0, h1]
 dsimp only
 rw [bind_run (underlying_pure hu)]
 dsimp only
 rw [bind_run hz]
 have hmm := noMake_run hm
 have key : ∀ (k : Bool → Sem Value), (match argTypes[1]? with
   | some xType => underlying xType >>= fun d => pure (d matches .int _) >>= k
   | none => pure false >>= k).run P w = (k false).run P w := by
  intro k
  rw [← bind_run hmm k w]
  clear hmm hm
  generalize argTypes[1]? = q
  unfold makeBool
  cases q with
  | none => rfl
  | some t => simp only [bind_assoc]
 refine (key _).trans ?_
 simp only [Bool.false_eq_true, if_false]
 rw [bind_run hl]
 rfl
theorem append_in {P : Program} {base : Option Addr} {sLen sCap n size : Nat} {x : Value} {w w' : World} {new : Array Value} (hn : (Builtin.firstCells size n x).run P w = .ok new w)
  (hst : (match base with | some a => storeCells (a.add (sLen * size)) new.toList | none => pure () : Sem Unit).run P w = .ok () w') :
  ((do
    let new ← Builtin.firstCells size n x
    if let some a := base then storeCells (a.add (sLen * size)) new.toList
    pure (.slice base (sLen + n) sCap)) : Sem Value).run P w = .ok (.slice base (sLen + n) sCap) w' := by
 rw [Sem.run_bind, hn, Result.andThen_ok]
 cases base with
 | none =>
  cases hst
  rfl
 | some a =>
  dsimp only at hst ⊢
  rw [Sem.run_bind, hst, Result.andThen_ok]
  rfl
theorem append_out {P : Program} {elem : TypeId} {base : Option Addr} {sLen sCap n size : Nat} {x : Value} {w : World} {info : TypeInfo} {zero : Value} {old new : Array Value} (hi : pureRun P (typeInfo elem) = some info) (hz : pureRun P (zeroValue elem) = some zero)
  (hneed : sLen + n ≤ 2 ^ 25) (hb : info.bytes ≤ 2 ^ 20) (hlt : sCap < sLen + n)
  (hold : (Builtin.firstCells size sLen (.slice base sLen sCap)).run P { w with drawn := w.drawn + 1 } = .ok old { w with drawn := w.drawn + 1 })
  (hnew : (Builtin.firstCells size n x).run P { w with drawn := w.drawn + 1 } = .ok new { w with drawn := w.drawn + 1 }) :
  ∃ newCap, sLen + n ≤ newCap ∧ ((do
    if ((sLen + n : Nat) : Int) > IntKind.i64.max ∧ (false = true ∨ (← typeInfo elem).bytes = 0) then runtimePanic (.error "growslice: len out of range")
    if Builtin.nextslicecap (sLen + n) sCap * (← typeInfo elem).bytes > 2 ^ 48 then (do
     if !(← Builtin.mayShare size sLen n base x) then mark .noRoom
     unsupported (.resourceLimit "append: a slice or a string whose bytes no memory bears"))
    let newCap ← choose (.appendCap (sLen + n) sCap elem)
    askRoom (newCap * (← typeInfo elem).bytes)
    let old ← Builtin.firstCells size sLen (.slice base sLen sCap)
    let new ← Builtin.firstCells size n x
    let rest := Builtin.zeroCells (← zeroValue elem).cells (newCap - (sLen + n))
    pure (.slice (some (← newRow elem (old ++ new ++ rest))) (sLen + n) newCap)) : Sem Value).run P w =
   .ok (.slice (some ⟨w.heap.size, 0, none⟩) (sLen + n) newCap) (pushed { w with drawn := w.drawn + 1 } (.cells (old ++ new ++ Builtin.zeroCells zero.cells (newCap - (sLen + n))) elem)) := by
 let newCap := (Question.appendCap (sLen + n) sCap elem).cut (w.tape w.drawn (.appendCap (sLen + n) sCap elem))
 refine ⟨newCap, Nat.le_add_right _ _, ?_⟩
 have h1 : ¬ (((sLen + n : Nat) : Int) > IntKind.i64.max ∧ (false = true ∨ info.bytes = 0)) := by
  rintro ⟨h, _⟩
  have : IntKind.i64.max = 9223372036854775807 := by decide
  rw [this] at h
  omega
 have h2 : ¬ (Builtin.nextslicecap (sLen + n) sCap * info.bytes > 2 ^ 48) := by
  have := nextcap_le hlt
  have h3 : Builtin.nextslicecap (sLen + n) sCap ≤ 2 ^ 27 := by omega
  have : Builtin.nextslicecap (sLen + n) sCap * info.bytes ≤ 2 ^ 27 * 2 ^ 20 := Nat.mul_le_mul h3 hb
  omega
 have hch : (choose (.appendCap (sLen + n) sCap elem)).run P w = .ok newCap { w with drawn := w.drawn + 1 } := by
  simp [choose, Sem.run, Question.forced, newCap]
 have hr : pureRun P (askRoom (newCap * info.bytes)) = some () := by unfold askRoom; split <;> rfl
 rw [bind_run hi]
 rw [if_neg h1]
 rw [bind_run hi]
 rw [if_neg h2]
 rw [Sem.run_bind, hch, Result.andThen_ok]
 rw [bind_run hi]
 rw [bind_run hr]
 rw [Sem.run_bind, hold, Result.andThen_ok]
 rw [Sem.run_bind, hnew, Result.andThen_ok]
 rw [bind_run hz]
 rfl
theorem zeroCells_size (zero : Array Value) (n : Nat) : (Builtin.zeroCells zero n).size = n * zero.size := by simp [Builtin.zeroCells]
theorem append_moved {ρ : Place} {W : Base} {hp : Tr AObj} {nx : Nat} {w : World} (h : Rel ρ W hp nx w) {elem : TypeId} {old new old' new' : List Value} (ho : VRL ρ old old') (hn : VRL ρ new new') {zero : Array Value} {need newCap size : Nat} (hlen : old.length + new.length = need * size) (hcap : need ≤ newCap) (hz : zero.size = size) :
  let w' := pushed { w with drawn := w.drawn + 1 } (.cells (old'.toArray ++ new'.toArray ++ Builtin.zeroCells zero (newCap - need)) elem)
  ∃ ρ', Rel ρ' W (hp.put nx (some (.cells (old ++ new) true))) (nx + 1) w' ∧ ρ.le ρ' ∧ (∀ b, b < nx → ρ' b = ρ b) ∧ VR ρ' (.slice (some ⟨nx, 0, none⟩) need size) (.slice (some ⟨w.heap.size, 0, none⟩) need newCap) := by
 intro w'
 have hnx : ρ nx = none := by
  cases hc : ρ nx with
  | none => rfl
  | some x => have := (h.dom nx x hc).1; omega
 have hsz : (old'.toArray ++ new'.toArray ++ Builtin.zeroCells zero (newCap - need)).size = newCap * size := by
  simp only [Array.size_append, List.size_toArray, zeroCells_size, ← ho.len, ← hn.len, hz]
  rw [hlen, ← Nat.add_mul]
  congr 1
  omega
 have hrel := (h.drew.reserve (.cells (old ++ new) true)).realize (b := nx) (z := newCap * size) (ob := .cells (old'.toArray ++ new'.toArray ++ Builtin.zeroCells zero (newCap - need)) elem) (by omega) hnx (by rw [Tr.get_put, if_pos rfl]) (by
  refine ⟨hsz, ?_, fun o _ => by simp, fun i v hv => ?_, fun _ => h.below.fresh⟩
  ·rw [List.length_append, hlen, Nat.zero_add]
   exact Nat.mul_le_mul_right _ hcap
  ·have hvl := ho.append hn
   have hi : i < (old ++ new).length := by
    rcases Nat.lt_or_ge i (old ++ new).length with h' | h'
    ·exact h'
    ·rw [List.getElem?_eq_none h'] at hv; cases hv
   have hi' : i < (old' ++ new').length := by rw [← hvl.len]; exact hi
   refine ⟨(old' ++ new')[i], ?_, hvl.get hv (by simp)⟩
   rw [Nat.zero_add, Array.getElem?_append_left (by simpa using hi')]
   rw [show old'.toArray ++ new'.toArray = (old' ++ new').toArray by simp]
   simp)
 refine ⟨_, hrel, Place.le_set hnx, fun b hb => Place.set_other (by omega), ?_⟩
 have := VR.slice (ρ := ρ.set nx (w.heap.size, 0, newCap * size)) (o := 0) (n := need) (sz := size) (cap := newCap) (Place.set_same ρ nx _) hcap (by omega)
 exact this
theorem Rel.drawn {ρ : Place} {W : Base} {hp : Tr AObj} {nx : Nat} {w : World} (h : Rel ρ W hp nx w) : Rel ρ W hp nx { w with drawn := w.drawn + 1 } := h.drew
theorem aAppend_sound {P : Program} {ρ : Place} {W : Base} {hp hp' : Tr AObj} {nx nx' : Nat} {w : World} (h : Rel ρ W hp nx w) {argTypes : Array TypeId} {ty : TypeId} {args args' : Array Value} {v : Value} (hx : VRA ρ args args')
  (hs : aAppend P hp nx argTypes args = some (v, hp', nx')) : ∃ v' w' ρ', (Builtin.append_ argTypes ty args').run P w = .ok v' w' ∧ VR ρ' v v' ∧ Rel ρ' W hp' nx' w' ∧ Step ρ ρ' hp hp' nx nx' := by
 unfold aAppend at hs
 split at hs
 case h_2 => cases hs
 rename_i t base sLen sz x ht h0 h1
 obtain ⟨d', e0, hd⟩ := hx.get h0
 obtain ⟨x', e1, hxv⟩ := hx.get h1
 split at hs
 case h_2 => cases hs
 rename_i elem n hu hm
 split at hs
 case h_2 => cases hs
 rename_i size hz
 cases hmk : noMake P argTypes[1]? with
 | false => rw [hmk] at hs; cases hs
 | true =>
  rw [hmk, cond_true] at hs
  have hl := srcLen_sound (P := P) hxv hm
  cases hn0 : n.beq 0 with
  | true =>
   rw [hn0, cond_true] at hs
   have := Nat.eq_of_beq_eq_true hn0
   subst this
   cases hc : base.isSome || sLen.ble sz with
   | false => rw [hc] at hs; cases hs
   | true =>
    rw [hc] at hs
    cases hs
    have hf0 := first0 (P := P) hxv hm size w
    have fin : ∀ (A : Option Addr) (cap : Nat), d' = .slice A sLen cap → sLen ≤ cap → (Builtin.append_ argTypes ty args').run P w = .ok d' w := by
     intro A cap hA hle
     subst hA
     rw [append_pre ht e0 e1 hu hz hmk hl, if_pos (by omega)]
     rw [append_in (w' := w) hf0 (by cases A <;> rfl)]
     rfl
    refine ⟨d', w, ρ, ?_, hd, h, .refl _ _ _⟩
    cases hd with
    | nilSlice => exact fin _ _ rfl (Nat.le_of_ble_eq_true (by simpa using hc))
    | slice hr h3 h4 => exact fin _ _ rfl h3
    | emptySlice a' hb => exact fin _ _ rfl (Nat.le_refl _)
  | false =>
   rw [hn0, cond_false] at hs
   split at hs
   case h_2 => cases hs
   rename_i info zero new hi hzv hnew
   cases hc : zero.cells.size.beq size && (sLen + n).ble (2 ^ 25) && info.bytes.ble (2 ^ 20) && new.all single && new.length.beq (n * size) with
   | false => rw [hc] at hs; cases hs
   | true =>
    rw [hc, cond_true] at hs
    simp only [Bool.and_eq_true] at hc
    obtain ⟨⟨⟨⟨c1, c2⟩, c3⟩, c4⟩, c5⟩ := hc
    have c1 := Nat.eq_of_beq_eq_true c1
    have c2 := Nat.le_of_ble_eq_true c2
    have c3 := Nat.le_of_ble_eq_true c3
    have c5 := Nat.eq_of_beq_eq_true c5
    have hsrc : ∀ m, srcLen x = some m → n ≤ m := fun m hm' => by rw [hm] at hm'; cases hm'; exact Nat.le_refl _
    have hn1 : 0 < n := by
     rcases Nat.eq_zero_or_pos n with h' | h'
     ·subst h'; cases hn0
     ·exact h'
    have moved : ∀ (A : Option Addr) (cap : Nat) (old old' : List Value) (hq : Tr AObj), d' = .slice A sLen cap → cap < sLen + n → VRL ρ old old' → old.length = sLen * size →
      (Builtin.firstCells size sLen (.slice A sLen cap)).run P { w with drawn := w.drawn + 1 } = .ok old'.toArray { w with drawn := w.drawn + 1 } → Rel ρ W hq nx w →
      ∃ v' w' ρ', (Builtin.append_ argTypes ty args').run P w = .ok v' w' ∧ VR ρ' (.slice (some ⟨nx, 0, none⟩) (sLen + n) size) v' ∧ Rel ρ' W (hq.put nx (some (.cells (old ++ new) true))) (nx + 1) w' ∧ ρ.le ρ' ∧ (∀ b, b < nx → ρ' b = ρ b) := by
     intro A cap old old' hq hA hlt ho hol hfo hrq
     subst hA
     obtain ⟨new', g1, g2⟩ := srcCells_sound (P := P) h.drawn hxv hnew hsrc
     obtain ⟨newCap, k1, k2⟩ := append_out (P := P) (elem := elem) (base := A) (size := size) (x := x') (w := w) hi hzv c2 c3 hlt hfo g2
     obtain ⟨ρ', r1, r2, r3, r4⟩ := append_moved (elem := elem) hrq ho g1 (zero := zero.cells) (need := sLen + n) (newCap := newCap) (size := size) (by rw [hol, c5, Nat.add_mul]) k1 c1
     refine ⟨_, _, ρ', ?_, r4, r1, r2, r3⟩
     rw [append_pre ht e0 e1 hu hz hmk hl, if_neg (by omega)]
     exact k2
    cases hd with
    | nilSlice =>
     dsimp only at hs
     cases hc0 : sLen.beq 0 && sz.beq 0 with
     | false => rw [hc0] at hs; cases hs
     | true =>
      rw [hc0] at hs
      cases hs
      simp only [Bool.and_eq_true] at hc0
      have b1 := Nat.eq_of_beq_eq_true hc0.1
      have b2 := Nat.eq_of_beq_eq_true hc0.2
      subst b1 b2
      obtain ⟨v', w', ρ', r1, r2, r3, r4, r5⟩ := moved none 0 [] [] hp rfl (by omega) .nil (by simp) rfl h
      refine ⟨v', w', ρ', r1, by simpa using r2, by simpa using r3, r4, by omega, fun b hb hr => ⟨(r5 b hb).trans hr, ?_⟩⟩
      rw [Tr.get_put, if_neg (by omega)]
    | @emptySlice b o y a' _ hrb =>
     dsimp only at hs
     split at hs
     case h_2 => cases hs
     rename_i l hb
     cases hsz : sz.beq size with
     | false => rw [hsz] at hs; cases hs
     | true =>
      rw [hsz, cond_true] at hs
      split at hs
      case h_2 => cases hs
      rename_i old hold
      cases hs
      have hold0 : old = [] := by
       unfold rowOf at hold
       rw [hb] at hold
       dsimp only at hold
       rw [Nat.zero_mul] at hold
       cases hbb : (o + 0).ble l.length with
       | false => rw [hbb] at hold; cases hold
       | true => rw [hbb] at hold; cases hold; simp
      subst hold0
      obtain ⟨v', w', ρ', r1, r2, r3, r4, r5⟩ := moved (some a') 0 [] [] (hp.put b none) rfl (by omega) .nil (by simp) (by show (loadCells a' (0 * size)).run P _ = _; rw [Nat.zero_mul]; rfl) (h.drop b)
      refine ⟨v', w', ρ', r1, r2, r3, r4, by omega, fun k hk hr => ⟨(r5 k hk).trans hr, ?_⟩⟩
      rw [Tr.get_put, if_neg (by omega), Tr.get_put, if_neg (by intro e; subst e; rw [hrb] at hr; cases hr)]
    | slice hr h3 h4 =>
     rename_i b o c s z cap
     dsimp only at hs
     split at hs
     case h_2 => cases hs
     rename_i l hb
     cases hsz : sz.beq size with
     | false => rw [hsz] at hs; cases hs
     | true =>
      rw [hsz, cond_true] at hs
      have hsz := Nat.eq_of_beq_eq_true hsz
      subst hsz
      split at hs
      case h_2 => cases hs
      rename_i old hold
      cases hs
      by_cases hin : sLen + n ≤ cap
      ·obtain ⟨new', g1, g2⟩ := srcCells_sound (P := P) h hxv hnew hsrc
       obtain ⟨old', g3, g4, g5⟩ := rowOf_sound (P := P) h hold hr
       have hnx : ρ nx = none := by
        cases hc : ρ nx with
        | none => rfl
        | some x => have := (h.dom nx x hc).1; omega
       have hle := Place.le_set (x := (c, s + o, z)) hnx
       have hol : ∀ (i : Nat) (v : Value), old[i]? = some v → l[o + i]? = some v := fun i v hv => by
        unfold rowOf at hold
        rw [hb] at hold
        dsimp only at hold
        cases hbb : (o + sLen * sz).ble l.length with
        | false => rw [hbb] at hold; cases hold
        | true =>
         rw [hbb] at hold
         cases hold
         rw [List.getElem?_take] at hv
         split at hv
         ·rw [List.getElem?_drop] at hv; exact hv
         ·cases hv
       have hmul : (sLen + n) * sz ≤ cap * sz := Nat.mul_le_mul_right _ hin
       have hmul2 : (sLen + n) * sz = sLen * sz + n * sz := Nat.add_mul _ _ _
       have hren := h.rename (o := o) hb hr hol (by omega)
       obtain ⟨w', k1, k2⟩ := extend_run (P := P) (o := sLen * sz) (Place.set_same ρ nx (c, s + o, z)) (g1.mono hle) 0 _ w old hren (by rw [Tr.get_put, if_pos rfl]) (by omega) (by omega) c4
       refine ⟨.slice (some ⟨c, s + o, none⟩) (sLen + n) cap, w', ρ.set nx (c, s + o, z), ?_, ?_, k2.congr (fun k => ?_), hle, by omega, fun k hk hrk => ⟨by rw [Place.set_other (by omega)]; exact hrk, ?_⟩⟩
       ·rw [append_pre ht e0 e1 hu hz hmk hl, if_pos hin]
        refine append_in (base := some ⟨c, s + o, none⟩) (sLen := sLen) (sCap := cap) (w' := w') g2 ?_
        dsimp only
        rw [add_eq, show s + (o + sLen * sz) = s + o + sLen * sz by omega]
        exact k1
       ·have := VR.slice (ρ := ρ.set nx (c, s + o, z)) (o := 0) (n := sLen + n) (sz := sz) (cap := cap) (Place.set_same ρ nx _) hin (by omega)
        exact this
       ·simp only [Tr.get_put]
        split <;> rfl
       ·rw [Tr.get_put, if_neg (by omega), Tr.get_put, if_neg (by intro e; subst e; rw [hr] at hrk; cases hrk)]
      ·obtain ⟨old', g3, g4, g5⟩ := rowOf_sound (P := P) h.drawn hold hr
       obtain ⟨v', w', ρ', r1, r2, r3, r4, r5⟩ := moved (some ⟨c, s + o, none⟩) cap old old' (hp.put b none) rfl (by omega) g3 g4 g5 (h.drop b)
       refine ⟨v', w', ρ', r1, r2, r3, r4, by omega, fun k hk hrk => ⟨(r5 k hk).trans hrk, ?_⟩⟩
       rw [Tr.get_put, if_neg (by omega), Tr.get_put, if_neg (by intro e; subst e; rw [hr] at hrk; cases hrk)]
theorem Rel.setOb {ρ : Place} {W : Base} {hp : Tr AObj} {nx : Nat} {w : World} (h : Rel ρ W hp nx w) {b c s z : Nat} {o on : AObj} {obn : Obj} (hb : hp.get b = some o) (hr : ρ b = some (c, s, z)) (hw : o.wr = true) (hB : ¬ W.old c) (ho : ORel ρ W.old c s z on obn) :
  Rel ρ W (hp.put b (some on)) nx { w with heap := w.heap.setIfInBounds c obn } := by
 have hc0 : c < w.heap.size := (h.dom b _ hr).2
 have hget : ∀ k, (w.heap.setIfInBounds c obn)[k]? = if k = c then some obn else w.heap[k]? := by
  intro k
  simp only [Array.getElem?_setIfInBounds]
  by_cases hk : c = k
  ·subst hk; simp [hc0]
  ·simp [hk, Ne.symm hk]
 refine ⟨fun k x hk => ⟨(h.dom k x hk).1, by simpa using (h.dom k x hk).2⟩, fun k o' c' s' z' ho' hk => ?_, fun k k' x x' o1 o2 g1 g2 hk hk' hx => ?_, fun k hk => ?_, ⟨h.below.os, h.below.tape, h.below.output, by simpa using h.below.size, fun k hk => ?_⟩, fun c0 ob0 hc0 => ?_, fun k o' c' s' z' ho' hw' hk => ?_, h.frn⟩
 ·rw [Tr.get_put] at ho'
  by_cases ek : k = b
  ·rw [if_pos ek] at ho'
   cases ho'
   rw [ek, hr] at hk
   cases hk
   exact ⟨obn, by rw [hget, if_pos rfl], ho⟩
  ·rw [if_neg ek] at ho'
   obtain ⟨ob', e1, e2⟩ := h.obj k o' c' s' z' ho' hk
   refine ⟨ob', ?_, e2⟩
   rw [hget, if_neg]
   ·exact e1
   ·intro ec
    exact ek (h.inj k b _ _ _ _ ho' hb hk hr ec)
 ·have live : ∀ k o, (hp.put b (some on)).get k = some o → ∃ o', hp.get k = some o' := fun k o hk => by
   rw [Tr.get_put] at hk
   by_cases ek : k = b
   ·exact ⟨_, ek ▸ hb⟩
   ·rw [if_neg ek] at hk; exact ⟨_, hk⟩
  obtain ⟨_, g1'⟩ := live k o1 g1
  obtain ⟨_, g2'⟩ := live k' o2 g2
  exact h.inj k k' x x' _ _ g1' g2' hk hk' hx
 ·rw [Tr.get_put, if_neg (by have := (h.dom b _ hr).1; omega)]
  exact h.fresh k hk
 ·rw [hget, if_neg (fun e => hB (by rw [← e]; exact hk))]
  exact h.below.block k hk
 ·rw [hget, if_neg]
  ·exact h.frz c0 ob0 hc0
  ·intro ec
   have := h.apart b _ c _ z hb hw hr
   rw [ec, this] at hc0
   cases hc0
 ·rw [Tr.get_put] at ho'
  by_cases ek : k = b
  ·rw [ek, hr] at hk
   cases hk
   exact h.apart b _ c _ z hb hw hr
  ·rw [if_neg ek] at ho'
   exact h.apart k o' c' s' z' ho' hw' hk
abbrev Ment := Value × Value × Nat
def keyNow : TypeDesc → Bool
 | .int _ | .string | .bool => true
 | _ => false
theorem checkKey_now {P : Program} {e : Bool} {n : Nat} {t : TypeId} {d : TypeDesc} (ht : P.underlying t = some d) (hd : keyNow d = true) (v : Value) : pureRun P (Instr.checkKey e (n + 1) t v) = some () := by
 unfold Instr.checkKey
 rw [pureRun_bind (underlying_pure ht)]
 cases d <;> simp only [keyNow, reduceCtorEq, Bool.false_eq_true] at hd <;> (cases v <;> rfl)
def aFind (kind : TypeDesc) (k : Value) : List Ment → Nat → Option (Option Nat)
 | [], _ => some none
 | e :: es, i => match Instr.sameNow kind k e.1 with
  | some true => some (some i)
  | some false => aFind kind k es (i + 1)
  | none => none
theorem aFind_sound {kind : TypeDesc} {k : Value} : ∀ {es : List Ment} {es' : List MapEntry} {i : Nat} {r : Option Nat}, es'.length = es.length → (∀ (j : Nat) (e : Ment) (e' : MapEntry), es[j]? = some e → es'[j]? = some e' → e'.key = e.1) →
  aFind kind k es i = some r → Instr.findNow kind k es' i = some (r.map fun j => (j, ((es'[j - i]?).map (·.val)).getD undef)) ∧ ∀ j, r = some j → i ≤ j ∧ j - i < es.length
 | [], [], i, r, _, _, h => by
  simp only [aFind] at h
  cases h
  exact ⟨rfl, fun j h => by cases h⟩
 | [], _ :: _, _, _, hl, _, _ => by simp at hl
 | _ :: _, [], _, _, hl, _, _ => by simp at hl
 | e :: es, e' :: es', i, r, hl, hk, h => by
  have hk0 := hk 0 e e' rfl rfl
  simp only [aFind] at h
  unfold Instr.findNow
  rw [hk0]
  cases hs : Instr.sameNow kind k e.1 with
  | none => rw [hs] at h; cases h
  | some b =>
   rw [hs] at h
   cases b with
   | true =>
    cases h
    refine ⟨by simp, fun j h => by cases h; simp⟩
   | false =>
    obtain ⟨g1, g2⟩ := aFind_sound (es := es) (es' := es') (i := i + 1) (r := r) (by simpa using hl) (fun j e e' a b => hk (j + 1) e e' (by simpa using a) (by simpa using b)) h
    refine ⟨?_, fun j hj => ?_⟩
    ·show Instr.findNow kind k es' (i + 1) = _
     rw [g1]
     cases r with
     | none => rfl
     | some j =>
      have := (g2 j rfl).1
      simp only [Option.map_some]
      rw [show j - i = (j - (i + 1)) + 1 by omega, List.getElem?_cons_succ]
    ·have := g2 j hj
     simp only [List.length_cons]
     omega
def aMakeMap (P : Program) (t : TypeId) (r : Option Value) : Option (AObj × NewV) :=
 match r with
 | none => some (.map [] 0, .map)
 | some (.int _ _) => match P.underlying t with
  | some (.map _ _) => some (.map [] 0, .map)
  | _ => none
 | _ => none
theorem makes_map {P : Program} {ρ : Place} (w : World) : Makes P ρ (do pure (.map (some (← newObj (.map #[] 0))))) (.map [] 0) .map w :=
 ⟨_, .map #[] 0, w.drawn, 0, rfl, fun O hO => ⟨rfl, hO, rfl, rfl, fun i e he => by cases he⟩, fun ρ' b hb => .map hb⟩
theorem aMakeMap_sound {P : Program} {ρ : Place} {t : TypeId} {r r' : Option Value} {ob : AObj} {nv : NewV} (hr : match r, r' with | none, none => True | some v, some v' => VR ρ v v' | _, _ => False) (h : aMakeMap P t r = some (ob, nv)) (w : World) : Makes P ρ (Instr.makeMap t r') ob nv w := by
 unfold aMakeMap at h
 split at h
 ·cases r' with
  | some v => exact hr.elim
  | none => cases h; exact makes_map w
 ·cases r' with
  | none => exact hr.elim
  | some v =>
   cases hr
   split at h
   case h_2 => cases h
   rename_i hu
   cases h
   obtain ⟨v', ob', d, z, h1, h2, h3⟩ := makes_map (P := P) (ρ := ρ) w
   refine ⟨v', ob', d, z, ?_, h2, h3⟩
   rw [← h1]
   unfold Instr.makeMap
   dsimp only
   rw [bind_run (underlying_pure hu)]
   rfl
 ·cases h
def aLookup (P : Program) (hp : Tr AObj) (t : TypeId) (x k : Value) (ok : Bool) : Option Value :=
 match P.underlying t with
 | some (.map kt et) => match P.underlying kt, pureRun P (zeroValue et) with
  | some kd, some zv => bif keyNow kd && (closed1 k && closed1 zv) then
    match x with
    | .map none => some (bif ok then .tuple #[zv, .bool false] else zv)
    | .map (some b) => match hp.get b with
     | some (.map es _) => match aFind kd k es 0 with
      | some (some i) => match es[i]? with
       | some e => some (bif ok then .tuple #[e.2.1, .bool true] else e.2.1)
       | none => none
      | some none => some (bif ok then .tuple #[zv, .bool false] else zv)
      | none => none
     | _ => none
    | _ => none
   else none
  | _, _ => none
 | _ => none
theorem closed1_closed {v : Value} (h : closed1 v = true) : closed v = true := by
 cases v <;> first | exact h | (simp [closed1, flat] at h)
theorem vr_ok {ρ : Place} {v v' : Value} {b c : Bool} (h : VR ρ v v') : VR ρ (bif c then .tuple #[v, .bool b] else v) (if c then .tuple #[v', .bool b] else v') := by
 cases c with
 | false => exact h
 | true =>
  refine .tuple rfl fun i u u' a a' => ?_
  match i with
  | 0 => cases a; cases a'; exact h
  | 1 => cases a; cases a'; exact .bool b
  | i + 2 => cases a
theorem aLookup_sound {P : Program} {ρ : Place} {W : Base} {hp : Tr AObj} {nx : Nat} {w : World} (h : Rel ρ W hp nx w) {t : TypeId} {x x' k k' v : Value} {ok : Bool} (hx : VR ρ x x') (hk : VR ρ k k') (hs : aLookup P hp t x k ok = some v) :
  ∃ v', (Instr.lookup t x' k' ok).run P w = .ok v' w ∧ VR ρ v v' := by
 unfold aLookup at hs
 split at hs
 case h_2 => cases hs
 rename_i kt et hu
 split at hs
 case h_2 => cases hs
 rename_i kd zv hkd hz
 cases hc : keyNow kd && (closed1 k && closed1 zv) with
 | false => rw [hc] at hs; cases hs
 | true =>
  rw [hc, cond_true] at hs
  simp only [Bool.and_eq_true] at hc
  obtain ⟨c1, c2, c3⟩ := hc
  have hke : k' = k := closed_eq (closed1_closed c2) hk
  subst hke
  have hzv : VR ρ zv zv := closed_refl (closed1_closed c3)
  unfold Instr.lookup
  rw [bind_run (underlying_pure hu)]
  dsimp only
  have fin : ∀ {es' : List MapEntry} {r : Option (Nat × Value)}, Instr.findNow kd k' es' 0 = some r → pureRun P (Instr.findKey kt k' es') = some r := fun hf => by
   unfold Instr.findKey
   rw [pureRun_bind (underlying_pure hkd), hf]
   rfl
  have found : ∀ {es' : Array MapEntry} {i : Nat} {u u' : Value}, Instr.findNow kd k' es'.toList 0 = some (some (i, u')) → VR ρ u u' → ∃ v', (Instr.checkKey es'.isEmpty 10000 kt k' >>= fun _ => Instr.findKey kt k' es'.toList >>= fun r => match r with | some (_, v) => (pure (v, true) : Sem (Value × Bool)) >>= fun p => pure (if ok = true then Value.tuple #[p.1, .bool p.2] else p.1) | none => zeroValue et >>= fun z => (pure (z, false) : Sem (Value × Bool)) >>= fun p => pure (if ok = true then Value.tuple #[p.1, .bool p.2] else p.1)).run P w = .ok v' w ∧ VR ρ (bif ok then .tuple #[u, .bool true] else u) v' := fun hf hv => by
   refine ⟨_, ?_, vr_ok hv⟩
   rw [bind_run (checkKey_now hkd c1 k'), bind_run (fin hf)]
   rfl
  have missed : ∀ {es' : Array MapEntry}, Instr.findNow kd k' es'.toList 0 = some none → ∃ v', (Instr.checkKey es'.isEmpty 10000 kt k' >>= fun _ => Instr.findKey kt k' es'.toList >>= fun r => match r with | some (_, v) => (pure (v, true) : Sem (Value × Bool)) >>= fun p => pure (if ok = true then Value.tuple #[p.1, .bool p.2] else p.1) | none => zeroValue et >>= fun z => (pure (z, false) : Sem (Value × Bool)) >>= fun p => pure (if ok = true then Value.tuple #[p.1, .bool p.2] else p.1)).run P w = .ok v' w ∧ VR ρ (bif ok then .tuple #[zv, .bool false] else zv) v' := fun hf => by
   refine ⟨_, ?_, vr_ok hzv⟩
   rw [bind_run (checkKey_now hkd c1 k'), bind_run (fin hf)]
   show (zeroValue et >>= _).run P w = _
   rw [bind_run hz]
   rfl
  split at hs
  ·cases hs
   cases hx
   obtain ⟨v', r1, r2⟩ := missed (es' := #[]) rfl
   exact ⟨v', r1, r2⟩
  ·rename_i b
   split at hs
   case h_2 => cases hs
   rename_i es ck hg
   cases hx with
   | map hr =>
    rename_i c s z
    obtain ⟨ob', e1, e2⟩ := h.obj b _ c s z hg hr
    cases ob' <;> try exact e2.elim
    rename_i es' ck'
    obtain ⟨rfl, _, _, hl, he⟩ := e2
    have hgo : (getObj c).run P w = .ok (.map es' ck') w := by simp [getObj, Sem.run, e1]
    have hkeys : ∀ (j : Nat) (e : Ment) (e' : MapEntry), es[j]? = some e → es'.toList[j]? = some e' → e'.key = e.1 := fun j e e' a b => by
     obtain ⟨q, q1, q2, _⟩ := he j e a
     rw [Array.getElem?_toList] at b
     rw [q1] at b
     cases b
     exact q2
    split at hs
    ·rename_i i hf
     obtain ⟨g1, g2⟩ := aFind_sound (es' := es'.toList) (by simpa using hl) hkeys hf
     split at hs
     case h_2 => cases hs
     rename_i e hei
     cases hs
     obtain ⟨e', q1, _, _, q4, _⟩ := he i e hei
     have hval : (es'.toList[i - 0]?).map (·.val) = some e'.val := by rw [Nat.sub_zero, Array.getElem?_toList, q1]; rfl
     rw [Option.map_some, hval] at g1
     obtain ⟨e'', w1, _, _, w4, _⟩ := he i e hei
     rw [q1] at w1
     cases w1
     obtain ⟨v', r1, r2⟩ := found (u := e.2.1) g1 q4
     refine ⟨v', ?_, r2⟩
     show ((getObj c) >>= _).run P w = _
     rw [Sem.run_bind, hgo, Result.andThen_ok]
     exact r1
    ·rename_i hf
     obtain ⟨g1, _⟩ := aFind_sound (es' := es'.toList) (by simpa using hl) hkeys hf
     cases hs
     obtain ⟨v', r1, r2⟩ := missed g1
     refine ⟨v', ?_, r2⟩
     show ((getObj c) >>= _).run P w = _
     rw [Sem.run_bind, hgo, Result.andThen_ok]
     exact r1
    ·cases hs
  ·cases hs
def aRangeM (P : Program) (hp : Tr AObj) (t : TypeId) (x : Value) : Option (AObj × NewV) :=
 match x, P.underlying t with
 | .map none, some (.map _ _) => some (.miter none 0 0 [], .ptr)
 | .map (some b), some (.map _ _) => match hp.get b with
  | some (.map _ ck) => some (.miter (some b) ck ck [], .ptr)
  | _ => none
 | _, _ => none
theorem aRangeM_sound {P : Program} {ρ : Place} {W : Base} {hp : Tr AObj} {nx : Nat} {w : World} (h : Rel ρ W hp nx w) {t : TypeId} {x x' : Value} {ob : AObj} {nv : NewV} (hx : VR ρ x x') (hs : aRangeM P hp t x = some (ob, nv)) : Makes P ρ (Instr.range t x') ob nv w := by
 unfold aRangeM at hs
 split at hs
 ·rename_i hu
  cases hx
  cases hs
  refine ⟨_, .mapIter none 0 #[] 0, w.drawn, 0, ?_, fun O hO => ⟨rfl, rfl, rfl, hO, rfl, rfl⟩, fun ρ' b hb => VR.ptr (ρ := ρ') (o := 0) hb⟩
  unfold Instr.range
  rw [bind_run (underlying_pure hu)]
  rfl
 ·rename_i b k e hu
  split at hs
  case h_2 => cases hs
  rename_i es ck hg
  cases hs
  cases hx with
  | map hr =>
   rename_i c s z
   obtain ⟨ob', e1, e2⟩ := h.obj b _ c s z hg hr
   cases ob' <;> try exact e2.elim
   rename_i es' ck'
   obtain ⟨rfl, _, _, _, _⟩ := e2
   refine ⟨_, .mapIter (some c) ck' #[] ck', w.drawn, 0, ?_, fun O hO => ⟨rfl, rfl, rfl, hO, rfl, c, s, z, hr, rfl⟩, fun ρ' b hb => VR.ptr (ρ := ρ') (o := 0) hb⟩
   have hgo : (getObj c).run P w = .ok (.map es' ck') w := by simp [getObj, Sem.run, e1]
   unfold Instr.range
   rw [bind_run (underlying_pure hu)]
   show (((getObj c) >>= _) >>= _).run P w = _
   rw [Sem.run_bind, Sem.run_bind, hgo, Result.andThen_ok]
   rfl
 ·cases hs
def aUpdate (P : Program) (hp : Tr AObj) (t : TypeId) (m k v : Value) : Option (Tr AObj) :=
 match m, P.underlying t with
 | .map (some b), some (.map kt _) => match P.underlying kt with
  | some kd => bif keyNow kd && closed1 k then
    match hp.get b with
    | some (.map es ck) => match aFind kd k es 0 with
     | some (some i) => match es[i]? with
      | some e => bif Instr.sameBits 10000 e.1 k then some (hp.put b (some (.map (es.set i (k, v, e.2.2)) ck))) else none
      | none => none
     | some none => some (hp.put b (some (.map (es ++ [(k, v, ck)]) (ck + 1))))
     | none => none
    | _ => none
   else none
  | none => none
 | _, _ => none
theorem aUpdate_sound {P : Program} {ρ : Place} {W : Base} {hp hp' : Tr AObj} {nx : Nat} {w : World} (h : Rel ρ W hp nx w) {t : TypeId} {m m' k k' v v' : Value} (hm : VR ρ m m') (hk : VR ρ k k') (hv : VR ρ v v') (hs : aUpdate P hp t m k v = some hp') :
  ∃ w', (Instr.mapUpdate t m' k' v').run P w = .ok () w' ∧ Rel ρ W hp' nx w' ∧ Step ρ ρ hp hp' nx nx := by
 unfold aUpdate at hs
 split at hs
 case h_2 => cases hs
 rename_i b kt et hu
 split at hs
 case h_2 => cases hs
 rename_i kd hkd
 cases hc : keyNow kd && closed1 k with
 | false => rw [hc] at hs; cases hs
 | true =>
  rw [hc, cond_true] at hs
  simp only [Bool.and_eq_true] at hc
  obtain ⟨c1, c2⟩ := hc
  have hke : k' = k := closed_eq (closed1_closed c2) hk
  subst hke
  split at hs
  case h_2 => cases hs
  rename_i es ck hg
  cases hm with
  | map hr =>
   rename_i c s z
   obtain ⟨ob', e1, e2⟩ := h.obj b _ c s z hg hr
   cases ob' <;> try exact e2.elim
   rename_i es' ck'
   obtain ⟨rfl, hO, hs0, hl, he⟩ := e2
   have hgo : (getObj c).run P w = .ok (.map es' ck') w := by simp [getObj, Sem.run, e1]
   have hset : ∀ o : Obj, (setObj c o).run P w = .ok () { w with heap := w.heap.setIfInBounds c o } := fun o => by simp [setObj, Sem.run, e1]
   have hkeys : ∀ (j : Nat) (e : Ment) (e' : MapEntry), es[j]? = some e → es'.toList[j]? = some e' → e'.key = e.1 := fun j e e' a b => by
    obtain ⟨q, q1, q2, _⟩ := he j e a
    rw [Array.getElem?_toList] at b
    rw [q1] at b
    cases b
    exact q2
   have start : ∀ {X : Sem Unit} {r : Option (Nat × Value)}, Instr.findNow kd k' es'.toList 0 = some r → ∀ {w' : World}, ((match r with | some (i, _) => (Instr.keyThatStays (((es'[i]?).map (·.key)).getD k') k' >>= fun key => setObj c (.map (es'.modify i fun e => { e with key := key, val := v' }) ck')) | none => setObj c (.map (es'.push { key := k', val := v', born := ck' }) (ck' + 1))) : Sem Unit).run P w = .ok () w' → (Instr.mapUpdate t (.map (some c)) k' v').run P w = .ok () w' := fun {_ r} hf w' hr => by
    unfold Instr.mapUpdate
    rw [bind_run (underlying_pure hu)]
    dsimp only
    show ((getObj c) >>= _).run P w = _
    rw [Sem.run_bind, hgo, Result.andThen_ok]
    dsimp only
    rw [bind_run (checkKey_now hkd c1 k')]
    have hfk : pureRun P (Instr.findKey kt k' es'.toList) = some r := by
     unfold Instr.findKey
     rw [pureRun_bind (underlying_pure hkd), hf]
     rfl
    rw [bind_run hfk]
    cases r with
    | none => exact hr
    | some p => exact hr
   split at hs
   ·rename_i i hf
    obtain ⟨g1, g2⟩ := aFind_sound (es' := es'.toList) (by simpa using hl) hkeys hf
    split at hs
    case h_2 => cases hs
    rename_i e hei
    cases hsb : Instr.sameBits 10000 e.1 k' with
    | false => rw [hsb] at hs; cases hs
    | true =>
     rw [hsb, cond_true] at hs
     cases hs
     obtain ⟨e', q1, q2, q3, q4, q5⟩ := he i e hei
     refine ⟨_, start (X := pure ()) g1 (w' := { w with heap := w.heap.setIfInBounds c (.map (es'.modify i fun e => { e with key := k', val := v' }) ck') }) ?_, h.setOb hg hr rfl hO ?_, step_put hr _⟩
     ·have hstay : pureRun P (Instr.keyThatStays (((es'[i]?).map (·.key)).getD k') k') = some k' := by
       rw [q1]
       unfold Instr.keyThatStays
       show pureRun P (if Instr.sameBits 10000 e'.key k' = true then pure k' else _) = _
       rw [q2, if_pos hsb]
       rfl
      show (Instr.keyThatStays _ k' >>= _).run P w = _
      rw [bind_run hstay]
      exact hset _
     ·refine ⟨rfl, hO, hs0, by simp [hl], fun j f hj => ?_⟩
      rw [List.getElem?_set] at hj
      by_cases hij : i = j
      ·subst hij
       rw [if_pos rfl] at hj
       split at hj
       ·cases hj
        refine ⟨{ e' with key := k', val := v' }, by rw [Array.getElem?_modify, if_pos rfl, q1]; rfl, rfl, c2, hv, q5⟩
       ·cases hj
      ·rw [if_neg hij] at hj
       obtain ⟨f', w1, w2, w3, w4, w5⟩ := he j f hj
       exact ⟨f', by rw [Array.getElem?_modify, if_neg hij]; exact w1, w2, w3, w4, w5⟩
   ·rename_i hf
    obtain ⟨g1, _⟩ := aFind_sound (es' := es'.toList) (by simpa using hl) hkeys hf
    cases hs
    refine ⟨_, start (X := pure ()) g1 (hset _), h.setOb hg hr rfl hO ?_, step_put hr _⟩
    refine ⟨rfl, hO, hs0, by simp [hl], fun j f hj => ?_⟩
    rcases Nat.lt_or_ge j es.length with hlt | hge
    ·rw [List.getElem?_append_left hlt] at hj
     obtain ⟨f', w1, w2, w3, w4, w5⟩ := he j f hj
     exact ⟨f', by rw [Array.getElem?_push, if_neg (by omega)]; exact w1, w2, w3, w4, w5⟩
    ·rw [List.getElem?_append_right hge] at hj
     have hj0 : j = es.length := by
      rcases Nat.eq_zero_or_pos (j - es.length) with h0 | h0
      ·omega
      ·rw [List.getElem?_eq_none (by simp; omega)] at hj; cases hj
     subst hj0
     simp only [Nat.sub_self, List.getElem?_cons_zero, Option.some.injEq] at hj
     subst hj
     exact ⟨{ key := k', val := v', born := ck' }, by rw [Array.getElem?_push, if_pos hl.symm], rfl, c2, hv, rfl⟩
   ·cases hs
def MRel (ρ : Place) (e : Ment) (e' : MapEntry) : Prop := e'.key = e.1 ∧ closed1 e.1 = true ∧ VR ρ e.2.1 e'.val ∧ e'.born = e.2.2
inductive MRL (ρ : Place) : List Ment → List MapEntry → Prop where
 | nil : MRL ρ [] []
 | cons {e : Ment} {e' : MapEntry} {es : List Ment} {es' : List MapEntry} : MRel ρ e e' → MRL ρ es es' → MRL ρ (e :: es) (e' :: es')
theorem mrel_list {ρ : Place} {es : List Ment} {es' : Array MapEntry} (hl : es'.size = es.length) (he : ∀ (i : Nat) (e : Ment), es[i]? = some e → ∃ e', es'[i]? = some e' ∧ e'.key = e.1 ∧ closed1 e.1 = true ∧ VR ρ e.2.1 e'.val ∧ e'.born = e.2.2) : MRL ρ es es'.toList := by
 obtain ⟨l'⟩ := es'
 simp only [List.size_toArray] at hl
 have he' : ∀ (i : Nat) (e : Ment), es[i]? = some e → ∃ e', l'[i]? = some e' ∧ MRel ρ e e' := fun i e h => by
  obtain ⟨e', h1, h2, h3, h4, h5⟩ := he i e h
  exact ⟨e', by simpa using h1, h2, h3, h4, h5⟩
 show MRL ρ es l'
 clear he
 induction es generalizing l' with
 | nil =>
  cases l' with
  | nil => exact .nil
  | cons a l => simp at hl
 | cons e es ih =>
  cases l' with
  | nil => simp at hl
  | cons a l =>
   obtain ⟨e', h1, h2⟩ := he' 0 e rfl
   cases h1
   exact .cons h2 (ih l (by simpa using hl) fun i f hf => he' (i + 1) f (by simpa using hf))
theorem mrel_filter {ρ : Place} {p : Nat → Bool} {es : List Ment} {es' : List MapEntry} (h : MRL ρ es es') : MRL ρ (es.filter fun e => p e.2.2) (es'.filter fun e => p e.born) := by
 induction h with
 | nil => exact .nil
 | cons h1 _ ih =>
  rw [List.filter_cons, List.filter_cons, h1.2.2.2]
  split
  ·exact .cons h1 ih
  ·exact ih
theorem mrel_all {ρ : Place} {p : Nat → Bool} {es : List Ment} {es' : List MapEntry} (h : MRL ρ es es') : (es'.all fun e => p e.born) = (es.all fun e => p e.2.2) := by
 induction h with
 | nil => rfl
 | cons h1 _ ih => rw [List.all_cons, List.all_cons, ih, h1.2.2.2]
theorem mrel_empty {ρ : Place} {es : List Ment} {es' : List MapEntry} (h : MRL ρ es es') : es'.isEmpty = es.isEmpty := by
 cases h <;> rfl
theorem mrl_nil {ρ : Place} {l : List MapEntry} (h : MRL ρ [] l) : l = [] := by cases h; rfl
theorem mrl_get {ρ : Place} {l : List Ment} {l' : List MapEntry} (h : MRL ρ l l') : ∀ {k : Nat} {f : MapEntry}, l'[k]? = some f → ∃ e, l[k]? = some e ∧ MRel ρ e f := by
 induction h with
 | nil => intro k f hf; simp at hf
 | cons h1 _ ih =>
  intro k f hf
  cases k with
  | zero => cases hf; exact ⟨_, rfl, h1⟩
  | succ k => exact ih (by simpa using hf)
def allM (F : Ment → Prop) : List Ment → Prop
 | [] => True
 | e :: l => F e ∧ allM F l
theorem allM_get {F : Ment → Prop} : ∀ {l : List Ment}, allM F l → ∀ {k : Nat} {e : Ment}, l[k]? = some e → F e
 | [], _, k, e, he => by simp at he
 | x :: l, h, 0, e, he => by cases he; exact h.1
 | x :: l, h, k + 1, e, he => allM_get h.2 (k := k) (by simpa using he)
theorem choose_run {P : Program} {n : Nat} (hn : 0 < n) {α : Type} (f : Nat → Sem α) (w : World) : ∃ k d, k < n ∧ (choose (.mapNext n) >>= f).run P w = (f k).run P { w with drawn := d } := by
 by_cases h : n ≤ 1
 ·obtain rfl : n = 1 := by omega
  exact ⟨0, w.drawn, by omega, rfl⟩
 ·refine ⟨w.tape w.drawn (.mapNext n) % n, w.drawn + 1, Nat.mod_lt _ hn, ?_⟩
  have hf : (Question.mapNext n).forced = false := by simp [Question.forced, h]
  show (Sem.choose (.mapNext n) _).run P w = _
  simp only [Sem.run, hf]
  rfl
theorem Rel.drawnAt {ρ : Place} {W : Base} {hp : Tr AObj} {nx : Nat} {w : World} (h : Rel ρ W hp nx w) (d : Nat) : Rel ρ W hp nx { w with drawn := d } :=
 ⟨h.dom, h.obj, h.inj, h.fresh, ⟨h.below.os, h.below.tape, h.below.output, h.below.size, h.below.block⟩, h.frz, h.apart, h.frn⟩
def sNextM (hp : Tr AObj) (x : Value) (K : Value → Tr AObj → Prop) : Prop :=
 match x with
 | .pointer (some ⟨b, 0, none⟩) => match hp.get b with
  | some (.miter none _ _ _) => K (.tuple #[.bool false]) hp
  | some (.miter (some mb) since last seen) => match hp.get mb with
   | some (.map es ck) => bif !seen.isEmpty && (!es.isEmpty && es.all fun e => last.ble e.2.2) then False else
     match es.filter fun e => !seen.elem e.2.2 with
     | [] => K (.tuple #[.bool false]) hp
     | e0 :: l => bif (e0 :: l).all fun e => e.2.2.blt since then allM (fun e => K (.tuple #[.bool true, e.1, e.2.1]) (hp.put b (some (.miter (some mb) since ck (seen ++ [e.2.2]))))) (e0 :: l) else False
   | _ => False
  | _ => False
 | _ => False
theorem sNextM_sound {P : Program} {ρ : Place} {W : Base} {hp : Tr AObj} {nx : Nat} {w : World} (h : Rel ρ W hp nx w) {t : TypeId} {x x' : Value} {K : Value → Tr AObj → Prop} (hx : VR ρ x x') (hs : sNextM hp x K) :
  ∃ v hp' v' w', K v hp' ∧ (Instr.next x' false t).run P w = .ok v' w' ∧ VR ρ v v' ∧ Rel ρ W hp' nx w' ∧ Step ρ ρ hp hp' nx nx := by
 unfold sNextM at hs
 split at hs
 case h_2 => exact hs.elim
 rename_i b
 cases hx with
 | ptr hr =>
  rename_i c s z
  split at hs
  ·rename_i since last seen hb
   obtain ⟨ob, e, ho⟩ := h.obj b _ c s z hb hr
   cases ob <;> try exact ho.elim
   rename_i m' since' seen' last'
   obtain ⟨_, _, _, hO, h5, h6⟩ := ho
   subst h6
   subst h5
   have hg : (getObj c).run P w = .ok (.mapIter none since' seen' last') w := by simp [getObj, Sem.run, e]
   refine ⟨_, _, _, w, hs, ?_, closed_refl (by simp [closed, closed1, flat]), h, .refl _ _ _⟩
   unfold Instr.next
   show ((getObj c) >>= _).run P w = _
   rw [Sem.run_bind, hg, Result.andThen_ok]
   rfl
  ·rename_i mb since last seen hbb
   obtain ⟨ob, e, ho⟩ := h.obj b _ c s z hbb hr
   cases ob <;> try exact ho.elim
   rename_i m' since' seen' last'
   obtain ⟨rfl, rfl, rfl, hO, rfl, c2, s2, z2, hr2, rfl⟩ := ho
   split at hs
   case h_2 => exact hs.elim
   rename_i es ck hg2
   obtain ⟨ob2, e2, ho2⟩ := h.obj mb _ c2 s2 z2 hg2 hr2
   cases ob2 <;> try exact ho2.elim
   rename_i es' ck'
   obtain ⟨rfl, hO2, _, hl, he⟩ := ho2
   have rel := mrel_list hl he
   have hg : (getObj c).run P w = .ok (.mapIter (some c2) since' seen' last') w := by simp [getObj, Sem.run, e]
   have hgm : (getObj c2).run P w = .ok (.map es' ck') w := by simp [getObj, Sem.run, e2]
   have hset : ∀ (d : Nat) (o : Obj), (setObj c o).run P { w with drawn := d } = .ok () { w with drawn := d, heap := w.heap.setIfInBounds c o } := fun d o => by simp [setObj, Sem.run, e]
   have hq0 : (!seen'.isEmpty && !es'.isEmpty && es'.all (·.born ≥ last')) = (!seen'.toList.isEmpty && (!es.isEmpty && es.all fun e => last'.ble e.2.2)) := by
    have q1 : es'.isEmpty = es.isEmpty := by rw [← mrel_empty rel]; cases es'; simp
    have q2 : (es'.all fun x => decide (x.born ≥ last')) = es.all fun e => last'.ble e.2.2 := by
     rw [← mrel_all (p := fun n => last'.ble n) rel, ← Array.all_toList]
     congr 1
     funext x
     rw [Bool.eq_iff_iff, decide_eq_true_eq, Nat.ble_eq]
    have q3 : seen'.isEmpty = seen'.toList.isEmpty := by cases seen'; simp
    rw [q1, q2, q3, Bool.and_assoc]
   have hf := mrel_filter (p := fun n => !seen'.toList.elem n) rel
   have hfe : (es'.filter fun e => !seen'.contains e.born) = (es'.toList.filter fun e => !seen'.toList.elem e.born).toArray := by
    apply Array.ext'
    rw [Array.toList_filter]
    congr 1
    funext x
    rw [List.elem_eq_contains, Array.contains_toList]
   cases hc : !seen'.toList.isEmpty && (!es.isEmpty && es.all fun e => last'.ble e.2.2) with
   | true => rw [hc] at hs; exact hs.elim
   | false =>
    rw [hc, cond_false] at hs
    rw [hc] at hq0
    generalize hL : (es'.toList.filter fun e => !seen'.toList.elem e.born) = L at hf hfe
    have start : ∀ {r : Value} {w' : World} {C : Array (Option MapEntry)}, (if (L.toArray.filter (·.born < since')).isEmpty then #[none] else #[]) ++ (L.toArray.filter (·.born < since') ++ L.toArray.filter (·.born ≥ since')).map some = C → (choose (.mapNext C.size) >>= fun i => match C[i]? with | some (some e) => (setObj c (.mapIter (some c2) since' (seen'.push e.born) ck') >>= fun _ => pure (Value.tuple #[.bool true, e.key, e.val])) | some none => pure (Value.tuple #[.bool false]) | none => stuck "Next: no such candidate" : Sem Value).run P w = .ok r w' → (Instr.next (.pointer (some ⟨c, 0 + 0, none⟩)) false t).run P w = .ok r w' := fun {r w' C} hC hq => by
     subst hC
     rw [← hfe] at hq
     unfold Instr.next
     show ((getObj c) >>= _).run P w = _
     rw [Sem.run_bind, hg, Result.andThen_ok]
     show ((getObj c2) >>= _).run P w = _
     rw [Sem.run_bind, hgm, Result.andThen_ok]
     dsimp only
     rw [if_neg (by rw [hq0]; decide)]
     exact hq
    split at hs
    ·rename_i hfil
     rw [hfil] at hf
     obtain rfl := mrl_nil hf
     exact ⟨_, _, _, w, hs, start (C := #[none]) (by simp) rfl, closed_refl (by simp [closed, closed1, flat]), h, .refl _ _ _⟩
    ·rename_i e0 l hfil
     rw [hfil] at hf
     cases hlt : ((e0 :: l).all fun e => e.2.2.blt since') with
     | false => rw [hlt] at hs; exact hs.elim
     | true =>
      rw [hlt, cond_true] at hs
      have hb : (L.all fun e => e.born.blt since') = true := (mrel_all (p := fun n => n.blt since') hf).trans hlt
      have hb' : ∀ f ∈ L, f.born < since' := fun f hf => Nat.le_of_ble_eq_true (List.all_eq_true.1 hb f hf)
      have o1 : (L.toArray.filter fun x => decide (x.born < since')) = L.toArray := by
       apply Array.ext'
       rw [Array.toList_filter]
       exact List.filter_eq_self.2 fun f hf => decide_eq_true (hb' f hf)
      have o2 : (L.toArray.filter fun x => decide (x.born ≥ since')) = #[] := by
       apply Array.ext'
       rw [Array.toList_filter]
       exact List.filter_eq_nil_iff.2 fun f hf => by simpa using hb' f hf
      have hL0 : 0 < L.length := by
       cases hf
       simp
      have oC : (if (L.toArray.filter (·.born < since')).isEmpty then #[none] else #[]) ++ (L.toArray.filter (·.born < since') ++ L.toArray.filter (·.born ≥ since')).map some = (L.map some).toArray := by
       rw [o1, o2, if_neg (by simp; exact List.ne_nil_of_length_pos hL0)]
       simp
      obtain ⟨k, d, hk, hrun⟩ := choose_run (P := P) (n := (L.map some).toArray.size) (by simpa using hL0) (fun i => match (L.map some).toArray[i]? with | some (some e) => (setObj c (.mapIter (some c2) since' (seen'.push e.born) ck') >>= fun _ => pure (Value.tuple #[.bool true, e.key, e.val])) | some none => pure (Value.tuple #[.bool false]) | none => stuck "Next: no such candidate" : Nat → Sem Value) w
      have hkL : k < L.length := by simpa using hk
      have hkf : L[k]? = some L[k] := List.getElem?_eq_getElem hkL
      obtain ⟨e1, he1, m1, m2, m3, m4⟩ := mrl_get hf hkf
      refine ⟨_, _, .tuple #[.bool true, L[k].key, L[k].val], { w with drawn := d, heap := w.heap.setIfInBounds c (.mapIter (some c2) since' (seen'.push L[k].born) ck') }, allM_get hs he1, start oC ?_, ?_, (h.drawnAt d).setOb hbb hr rfl hO ⟨rfl, rfl, by simp [m4], hO, rfl, c2, s2, z2, hr2, rfl⟩, step_put hr _⟩
      ·rw [hrun]
       have : (L.map some).toArray[k]? = some (some L[k]) := by simp [hkf]
       rw [this]
       show ((setObj c _) >>= _).run P _ = _
       rw [Sem.run_bind, hset, Result.andThen_ok]
       rfl
      ·refine .tuple rfl fun i u u' a a' => ?_
       match i with
       | 0 => cases a; cases a'; exact .bool true
       | 1 =>
        cases a; cases a'
        rw [m1]
        exact closed_refl (closed1_closed m2)
       | 2 => cases a; cases a'; exact m3
       | i + 3 => cases a
  ·exact hs.elim
def aNextM (hp : Tr AObj) (x : Value) : Option (Value × Tr AObj) :=
 match x with
 | .pointer (some ⟨b, 0, none⟩) => match hp.get b with
  | some (.miter none _ _ _) => some (.tuple #[.bool false], hp)
  | some (.miter (some mb) since last seen) => match hp.get mb with
   | some (.map es ck) => bif !seen.isEmpty && (!es.isEmpty && es.all fun e => last.ble e.2.2) then none else
     match es.filter fun e => !seen.elem e.2.2 with
     | [] => some (.tuple #[.bool false], hp)
     | [e] => bif e.2.2.blt since then some (.tuple #[.bool true, e.1, e.2.1], hp.put b (some (.miter (some mb) since ck (seen ++ [e.2.2])))) else none
     | _ => none
   | _ => none
  | _ => none
 | _ => none
theorem aNextM_s {hp hp' : Tr AObj} {x v : Value} (hs : aNextM hp x = some (v, hp')) : sNextM hp x fun u hq => u = v ∧ hq = hp' := by
 unfold aNextM at hs
 split at hs
 case h_2 => cases hs
 rename_i b
 unfold sNextM
 split at hs
 case h_3 => cases hs
 ·rename_i hb
  cases hs
  simp only [hb, and_self]
 ·rename_i mb since last seen hb
  split at hs
  case h_2 => cases hs
  rename_i es ck hm
  cases hc : (!seen.isEmpty && (!es.isEmpty && es.all fun e => last.ble e.2.2)) with
  | true => rw [hc] at hs; cases hs
  | false =>
   rw [hc, cond_false] at hs
   split at hs
   ·rename_i hfil
    cases hs
    simp only [hb, hm, hc, hfil, cond_false, and_self]
   ·rename_i e hfil
    cases hlt : e.2.2.blt since with
    | false => rw [hlt] at hs; cases hs
    | true =>
     rw [hlt, cond_true] at hs
     cases hs
     simp only [hb, hm, hc, hfil, cond_false, List.all_cons, List.all_nil, hlt, Bool.and_self, cond_true, allM, and_self]
   ·cases hs
theorem aNextM_sound {P : Program} {ρ : Place} {W : Base} {hp hp' : Tr AObj} {nx : Nat} {w : World} (h : Rel ρ W hp nx w) {t : TypeId} {x x' v : Value} (hx : VR ρ x x') (hs : aNextM hp x = some (v, hp')) :
  ∃ v' w', (Instr.next x' false t).run P w = .ok v' w' ∧ VR ρ v v' ∧ Rel ρ W hp' nx w' ∧ Step ρ ρ hp hp' nx nx := by
 obtain ⟨_, _, v', w', ⟨rfl, rfl⟩, h1⟩ := sNextM_sound (P := P) (t := t) h hx (aNextM_s hs)
 exact ⟨v', w', h1⟩
def aEntry (hp : Tr AObj) (x : Value) : Option Value :=
 match x with
 | .pointer (some ⟨b, 0, none⟩) => match hp.get b with
  | some (.miter (some mb) _ last seen) => match seen.getLast?, hp.get mb with
   | some stamp, some (.map es ck) => bif ck.beq last then match es.find? (fun e => e.2.2.beq stamp) with
     | some e => some (.tuple #[e.1, e.2.1])
     | none => none
    else none
   | _, _ => none
  | _ => none
 | _ => none
theorem mrel_find {ρ : Place} {p : Nat → Bool} {es : List Ment} {es' : List MapEntry} (h : MRL ρ es es') {e : Ment} (hf : es.find? (fun e => p e.2.2) = some e) : ∃ e', es'.find? (fun e => p e.born) = some e' ∧ MRel ρ e e' := by
 induction h with
 | nil => cases hf
 | cons h1 _ ih =>
  rw [List.find?_cons] at hf ⊢
  rw [h1.2.2.2]
  split at hf
  ·cases hf; exact ⟨_, rfl, h1⟩
  ·exact ih hf
theorem aEntry_sound {P : Program} {ρ : Place} {W : Base} {hp : Tr AObj} {nx : Nat} {w : World} (h : Rel ρ W hp nx w) {x x' v : Value} (hx : VR ρ x x') (hs : aEntry hp x = some v) : ∃ v', (Instr.entry x').run P w = .ok v' w ∧ VR ρ v v' := by
 unfold aEntry at hs
 split at hs
 case h_2 => cases hs
 rename_i b
 cases hx with
 | ptr hr =>
  rename_i c s z
  split at hs
  case h_2 => cases hs
  rename_i mb since last seen hb
  obtain ⟨ob, e, ho⟩ := h.obj b _ c s z hb hr
  cases ob <;> try exact ho.elim
  rename_i m' since' seen' last'
  obtain ⟨rfl, rfl, rfl, hO, rfl, c2, s2, z2, hr2, rfl⟩ := ho
  split at hs
  case h_2 => cases hs
  rename_i stamp es ck hst hg2
  obtain ⟨ob2, e2, ho2⟩ := h.obj mb _ c2 s2 z2 hg2 hr2
  cases ob2 <;> try exact ho2.elim
  rename_i es' ck'
  obtain ⟨rfl, hO2, _, hl, he⟩ := ho2
  have rel := mrel_list hl he
  have hg : (getObj c).run P w = .ok (.mapIter (some c2) since' seen' last') w := by simp [getObj, Sem.run, e]
  have hgm : (getObj c2).run P w = .ok (.map es' ck') w := by simp [getObj, Sem.run, e2]
  cases hck : ck'.beq last' with
  | false => rw [hck] at hs; cases hs
  | true =>
   rw [hck, cond_true] at hs
   have hck' := Nat.eq_of_beq_eq_true hck
   subst hck'
   split at hs
   case h_2 => cases hs
   rename_i e0 hfi
   cases hs
   obtain ⟨e', f1, m1, m2, m3, m4⟩ := mrel_find (p := fun n => n.beq stamp) rel hfi
   have f2 : es'.find? (fun e => e.born == stamp) = some e' := by
    have q : (fun e : MapEntry => e.born == stamp) = fun e => e.born.beq stamp := by
     funext e
     rw [Bool.eq_iff_iff, beq_iff_eq, Nat.beq_eq]
    rw [q, ← Array.find?_toList]
    exact f1
   have hbk : seen'.back? = some stamp := by rw [← hst, Array.getLast?_toList]
   refine ⟨.tuple #[e'.key, e'.val], ?_, .tuple rfl fun i u u' a a' => ?_⟩
   ·unfold Instr.entry
    show ((getObj c) >>= _).run P w = _
    rw [Sem.run_bind, hg, Result.andThen_ok]
    dsimp only
    rw [hbk]
    show ((getObj c2) >>= _).run P w = _
    rw [Sem.run_bind, hgm, Result.andThen_ok]
    dsimp only
    rw [if_neg (by simp), f2]
    rfl
   ·match i with
    | 0 =>
     cases a; cases a'
     rw [m1]
     exact closed_refl (closed1_closed m2)
    | 1 => cases a; cases a'; exact m3
    | i + 2 => cases a
def aMapLen (P : Program) (hp : Tr AObj) (c : Call) (ev : Operand → Option Value) : Option Value :=
 match c.callee, c.argTypes[0]?, c.args[0]? with
 | .builtin .len, some t, some x => match ev x with
  | some (.map (some b)) => match P.underlying t, hp.get b with
   | some (.map _ _), some (.map es _) => some (goInt es.length)
   | _, _ => none
  | _ => none
 | _, _, _ => none
theorem aMapLen_sound {P : Program} {ρ : Place} {W : Base} {hp : Tr AObj} {nx : Nat} {w : World} (h : Rel ρ W hp nx w) {ev : Operand → Option Value} {a : Act} (hF : ERel ρ ev a) {o : Oper} {c : Call} (ho : o.op = .call c) {v : Value} (hs : aMapLen P hp c ev = some v) :
  ∃ v', (execOp a.eval o).run P w = .ok (.value v') w ∧ VR ρ v v' := by
 obtain ⟨callee, args, argTypes⟩ := c
 unfold aMapLen at hs
 dsimp only at hs
 split at hs
 case h_2 => cases hs
 rename_i t x hty har
 split at hs
 case h_2 => cases hs
 rename_i b hv
 split at hs
 case h_2 => cases hs
 rename_i kt et es ck hu hg
 cases hs
 have hx := hF.eval hv
 generalize he : a.eval x = e at hx
 cases hx with
 | map hr =>
  rename_i cc s z
  obtain ⟨ob', e1, e2⟩ := h.obj b _ cc s z hg hr
  cases ob' <;> try exact e2.elim
  rename_i es' ck'
  obtain ⟨_, _, _, hl, _⟩ := e2
  have hgo : (getObj cc).run P w = .ok (.map es' ck') w := by simp [getObj, Sem.run, e1]
  refine ⟨goInt es.length, ?_, .int _ _⟩
  unfold execOp
  rw [ho]
  have h0 : (args.map a.eval)[0]? = some (.map (some cc)) := by rw [Array.getElem?_map, har]; simp [he]
  have hl2 : (Builtin.len_ argTypes o.type (args.map a.eval)).run P w = .ok (goInt es.length) w := by
   unfold Builtin.len_
   rw [hty, h0]
   dsimp only
   rw [bind_run (underlying_pure hu)]
   show ((getObj cc) >>= _).run P w = _
   rw [Sem.run_bind, hgo, Result.andThen_ok]
   show Result.ok (goInt es'.size) w = _
   rw [hl]
  show ((Builtin.len_ argTypes o.type (args.map a.eval)) >>= fun r => pure (Next.value r)).run P w = _
  exact value_run hl2
theorem aMapLen_congr {P : Program} {hp : Tr AObj} {c : Call} {ev ev' : Operand → Option Value} (h : ∀ x ∈ c.operands, ev x = ev' x) : aMapLen P hp c ev = aMapLen P hp c ev' := by
 unfold aMapLen
 split
 ·rename_i t x _ _ hx
  rw [h x (by
   have : x ∈ c.args := Array.mem_of_getElem? hx
   simp [Call.operands]
   exact .inr this)]
 ·rfl
theorem aMapLen_ext {P : Program} {hp hp' : Tr AObj} (h : ∀ b x, hp.get b = some x → hp'.get b = some x) {c : Call} {ev : Operand → Option Value} {v : Value} (hl : aMapLen P hp c ev = some v) : aMapLen P hp' c ev = some v := by
 unfold aMapLen at *
 split at hl
 case h_2 => cases hl
 split at hl
 case h_2 => cases hl
 rename_i b hv
 split at hl
 case h_2 => cases hl
 rename_i hu hg
 rw [h _ _ hg, hu]
 exact hl
def mapLenQ (c : Call) (ev : Operand → Option Value) : Bool :=
 match c.callee, c.args[0]? with
 | .builtin .len, some x => match ev x with
  | some (.map (some _)) => true
  | _ => false
 | _, _ => false
theorem mapLenQ_congr {c : Call} {ev ev' : Operand → Option Value} (h : ∀ x ∈ c.operands, ev x = ev' x) : mapLenQ c ev = mapLenQ c ev' := by
 unfold mapLenQ
 split
 ·rename_i x _ hx
  rw [h x (by
   have : x ∈ c.args := Array.mem_of_getElem? hx
   simp [Call.operands]
   exact .inr this)]
 ·rfl
abbrev ACall := FuncId → List Value → Tr AObj → Nat → Option (Value × Tr AObj × Nat)
def CallOk (P : Program) (W : Base) (call : ACall) : Prop :=
 ∀ f args hp nx v hp' nx', call f args hp nx = some (v, hp', nx') → ∀ ρ w args', Rel ρ W hp nx w → VRL ρ args args' →
  Calls P f args'.toArray w fun e w' => ∃ v' ρ', e = .returned v' ∧ VR ρ' v v' ∧ Rel ρ' W hp' nx' w' ∧ Step ρ ρ' hp hp' nx nx'
def enters (P : Program) (f : FuncId) : Bool :=
 match P.funcs[f]? with
 | some fn => fn.body.isSome && !(fn.name == "runtime.NumGoroutine")
 | none => false
theorem enters_run {P : Program} {f : FuncId} (h : enters P f = true) (args : Array Value) : pureRun P (callFunc f args) = some (.enter f args) := by
 unfold enters at h
 unfold callFunc
 show pureRun P (match P.funcs[f]? with | none => _ | some fn => _) = _
 cases hf : P.funcs[f]? with
 | none => rw [hf] at h; cases h
 | some fn =>
  rw [hf] at h
  simp only [Bool.and_eq_true, Bool.not_eq_true'] at h
  dsimp only
  rw [if_neg (by rw [h.2]; simp), if_neg (by cases hb : fn.body with | none => rw [hb] at h; simp at h | some b => simp)]
  rfl
def aheavy (P : Program) (call : ACall) (hp : Tr AObj) (nx : Nat) (o : Oper) (ev : Operand → Option Value) : Option (Value × Tr AObj × Nat) :=
 match o.op with
 | .store t x y => match ev x, ev y with
  | some p, some v => match aStore P hp t p v with
   | some hp' => some (undef, hp', nx)
   | none => none
  | _, _ => none
 | .next x q => match ev x with
  | some p => match (bif q then aNext hp p true else aNextM hp p) with
   | some (v, hp') => some (v, hp', nx)
   | none => none
  | none => none
 | .mapUpdate t x y z | .insert t x y z => match ev x, ev y, ev z with
  | some m, some k, some v => match aUpdate P hp t m k v with
   | some hp' => some (undef, hp', nx)
   | none => none
  | _, _, _ => none
 | .call c => match c.callee with
  | .builtin .append => match evL ev c.args.toList with
   | some args => aAppend P hp nx c.argTypes args.toArray
   | none => none
  | .value f => match ev f, evL ev c.args.toList with
   | some (.func (.func k) first captured), some args => bif enters P k then call k (first.toList ++ args ++ captured.toList) hp nx else none
   | _, _ => none
  | _ => none
 | _ => none
theorem aheavy_sound {P : Program} {call : ACall} {ρ : Place} {W : Base} (hcall : CallOk P W call) {hp hp' : Tr AObj} {nx nx' : Nat} {w : World} (h : Rel ρ W hp nx w) {ev : Operand → Option Value} {a : Act} (hF : ERel ρ ev a) {o : Oper} {v : Value}
  (hs : aheavy P call hp nx o ev = some (v, hp', nx')) {next : Act → World → Prop} {Q : Exit → Act → World → Prop}
  (hk : ∀ v' w' ρ', VR ρ' v v' → Rel ρ' W hp' nx' w' → Step ρ ρ' hp hp' nx nx' → next (a.put o.dst v') w') : o.wp P a w next Q := by
 obtain ⟨dst, op, type, pos, after, guard⟩ := o
 unfold aheavy at hs
 unfold Oper.wp
 cases op <;> dsimp only at hs <;> try (cases hs)
 case store t x y =>
  split at hs
  case h_2 => cases hs
  rename_i p u hx hy
  split at hs
  case h_2 => cases hs
  rename_i hq hst
  cases hs
  obtain ⟨w', h1, h2, h3⟩ := aStore_sound h (hF.eval hx) (hF.eval hy) hst
  have : (execOp a.eval ⟨dst, .store t x y, type, pos, after, guard⟩).run P w = .ok .skip w' := by
   show ((Instr.storeAt t (a.eval x) (a.eval y)) >>= fun _ => pure Next.skip).run P w = _
   rw [Sem.run_bind, h1, Result.andThen_ok]
   rfl
  rw [this]
  exact hk undef w' ρ (closed_refl (by simp [undef, closed])) h2 h3
 case next x q =>
  split at hs
  case h_2 => cases hs
  rename_i p hx
  split at hs
  case h_2 => cases hs
  rename_i u hq hst
  cases hs
  have both : ∃ v' w', (Instr.next (a.eval x) q type).run P w = .ok v' w' ∧ VR ρ v v' ∧ Rel ρ W hp' nx w' ∧ Step ρ ρ hp hp' nx nx := by
   cases q with
   | true => exact aNext_sound (P := P) (t := type) h (hF.eval hx) hst
   | false => exact aNextM_sound (P := P) (t := type) h (hF.eval hx) hst
  obtain ⟨v', w', h1, h2, h3, h4⟩ := both
  have : (execOp a.eval ⟨dst, .next x q, type, pos, after, guard⟩).run P w = .ok (.value v') w' := value_run h1
  rw [this]
  exact hk v' w' ρ h2 h3 h4
 case mapUpdate t x y z =>
  split at hs
  case h_2 => cases hs
  rename_i m k u hx hy hz
  split at hs
  case h_2 => cases hs
  rename_i hq hst
  cases hs
  obtain ⟨w', h1, h2, h3⟩ := aUpdate_sound h (hF.eval hx) (hF.eval hy) (hF.eval hz) hst
  have : (execOp a.eval ⟨dst, .mapUpdate t x y z, type, pos, after, guard⟩).run P w = .ok .skip w' := by
   show ((Instr.mapUpdate t (a.eval x) (a.eval y) (a.eval z)) >>= fun _ => pure Next.skip).run P w = _
   rw [Sem.run_bind, h1, Result.andThen_ok]
   rfl
  rw [this]
  exact hk undef w' ρ (closed_refl (by simp [undef, closed])) h2 h3
 case insert t x y z =>
  split at hs
  case h_2 => cases hs
  rename_i m k u hx hy hz
  split at hs
  case h_2 => cases hs
  rename_i hq hst
  cases hs
  obtain ⟨w', h1, h2, h3⟩ := aUpdate_sound h (hF.eval hx) (hF.eval hy) (hF.eval hz) hst
  have : (execOp a.eval ⟨dst, .insert t x y z, type, pos, after, guard⟩).run P w = .ok .skip w' := by
   show ((Instr.mapUpdate t (a.eval x) (a.eval y) (a.eval z)) >>= fun _ => pure Next.skip).run P w = _
   rw [Sem.run_bind, h1, Result.andThen_ok]
   rfl
  rw [this]
  exact hk undef w' ρ (closed_refl (by simp [undef, closed])) h2 h3
 case call c =>
  obtain ⟨callee, args, argTypes⟩ := c
  dsimp only at hs
  split at hs
  ·split at hs
   case h_2 => cases hs
   rename_i as0 has
   have hA := (evL_sound hF has).arr
   have e1 : (args.toList.map a.eval).toArray = args.map a.eval := by apply Array.ext'; simp
   rw [e1] at hA
   obtain ⟨v', w', ρ', h1, h2, h3, h4⟩ := aAppend_sound (P := P) (ty := type) h hA hs
   have : (execOp a.eval ⟨dst, .call ⟨.builtin .append, args, argTypes⟩, type, pos, after, guard⟩).run P w = .ok (.value v') w' := by
    show ((Builtin.append_ argTypes type (args.map a.eval)) >>= fun r => pure (Next.value r)).run P w = _
    exact value_run h1
   rw [this]
   exact hk v' w' ρ' h2 h3 h4
  ·rename_i f
   split at hs
   case h_2 => cases hs
   rename_i k first captured as0 hf has
   cases he : enters P k with
   | false => rw [he] at hs; cases hs
   | true =>
    rw [he, cond_true] at hs
    have hfv := hF.eval hf
    generalize hE : a.eval f = E at hfv
    cases hfv
    rename_i first' captured' s1 v1 s2 v2
    have hA := evL_sound hF has
    have hL := ((VRA.list ⟨s1, v1⟩).append hA).append (VRA.list ⟨s2, v2⟩)
    have hc := hcall k _ hp nx v hp' nx' hs ρ w _ h hL
    have e2 : (first'.toList ++ args.toList.map a.eval ++ captured'.toList).toArray = first' ++ args.map a.eval ++ captured' := by apply Array.ext'; simp
    rw [e2] at hc
    have : (execOp a.eval ⟨dst, .call ⟨.value f, args, argTypes⟩, type, pos, after, guard⟩).run P w = .ok (.enter k (first' ++ args.map a.eval ++ captured')) w := by
     unfold execOp
     simp only [resolve, hE]
     show (callFunc k (first' ++ args.map a.eval ++ captured')).run P w = _
     exact pureRun_run (enters_run he _) w
    rw [this]
    refine hc.mono ?_
    rintro e w' ⟨v', ρ', rfl, h2, h3, h4⟩
    exact hk v' w' ρ' h2 h3 h4
  ·cases hs
inductive LRes where
 | val (v : Value)
 | new (ob : AObj) (nv : NewV)
def alight (P : Program) (hp : Tr AObj) (o : Oper) (ev : Operand → Option Value) : Option LRes :=
 match o.op with
 | .load .. => (aread P hp o ev).map .val
 | .alloc .. | .box .. | .buildSlice .. | .makeSlice .. => (anew P o ev).map fun p => .new p.1 p.2
 | .range t x => match ev x with
  | some (.map r) => (aRangeM P hp t (.map r)).map fun p => .new p.1 p.2
  | _ => (anew P o ev).map fun p => .new p.1 p.2
 | .makeMap t r => match r with
  | none => (aMakeMap P t none).map fun p => .new p.1 p.2
  | some x => match ev x with
   | some v => (aMakeMap P t (some v)).map fun p => .new p.1 p.2
   | none => none
 | .lookup t x y c => match ev x, ev y with
  | some u, some v => (aLookup P hp t u v c).map .val
  | _, _ => none
 | .entry x => match ev x with
  | some v => (aEntry hp v).map .val
  | none => none
 | .call c => bif mapLenQ c ev then (aMapLen P hp c ev).map .val else (apure P o ev).map .val
 | .convert _ _ x => match ev x with
  | some (.slice (some _) _ _) => (aread P hp o ev).map .val
  | some (.string _) => match apure P o ev with
   | some v => some (.val v)
   | none => (anew P o ev).map fun p => .new p.1 p.2
  | _ => (apure P o ev).map .val
 | _ => (apure P o ev).map .val
def LightRuns (P : Program) (ρ : Place) (o : Oper) (a : Act) (w : World) : LRes → Prop
 | .val v => ∃ v', (execOp a.eval o).run P w = .ok (.value v') w ∧ VR ρ v v'
 | .new ob nv => ∃ v' ob' d z, (execOp a.eval o).run P w = .ok (.value v') (pushed { w with drawn := d } ob') ∧ (∀ O : Nat → Prop, ¬ O w.heap.size → ORel ρ O w.heap.size 0 z ob ob') ∧ (∀ ρ' b, ρ' b = some (w.heap.size, 0, z) → VR ρ' (nv.val b) v')
theorem alight_sound {P : Program} {ρ : Place} {W : Base} {hp : Tr AObj} {nx : Nat} {w : World} (h : Rel ρ W hp nx w) {ev : Operand → Option Value} {a : Act} (hF : ERel ρ ev a) {o : Oper} {r : LRes} (hs : alight P hp o ev = some r) : LightRuns P ρ o a w r := by
 have hp1 : ∀ {v}, apure P o ev = some v → LightRuns P ρ o a w (.val v) := fun hv => apure_sound hF hv w
 have hr1 : ∀ {v}, aread P hp o ev = some v → LightRuns P ρ o a w (.val v) := fun hv => aread_sound h hF hv
 have hn1 : ∀ {p}, anew P o ev = some p → LightRuns P ρ o a w (.new p.1 p.2) := fun {p} hv => anew_sound hF (ob := p.1) (nv := p.2) hv w
 obtain ⟨dst, op, type, pos, after, guard⟩ := o
 unfold alight at hs
 cases op <;> dsimp only at hs
 case load => simp only [Option.map_eq_some_iff] at hs; obtain ⟨v, hv, rfl⟩ := hs; exact hr1 hv
 case range t x =>
  split at hs
  ·rename_i r' hx
   simp only [Option.map_eq_some_iff] at hs
   obtain ⟨p, hv, rfl⟩ := hs
   exact makes_value (aRangeM_sound h (hF.eval hx) (ob := p.1) (nv := p.2) hv)
  ·simp only [Option.map_eq_some_iff] at hs; obtain ⟨p, hv, rfl⟩ := hs; exact hn1 hv
 case makeMap t r0 =>
  split at hs
  ·simp only [Option.map_eq_some_iff] at hs
   obtain ⟨p, hv, rfl⟩ := hs
   exact makes_value (aMakeMap_sound (r := none) (r' := none) (ob := p.1) (nv := p.2) trivial hv w)
  ·rename_i x
   split at hs
   case h_2 => cases hs
   rename_i v hx
   simp only [Option.map_eq_some_iff] at hs
   obtain ⟨p, hv, rfl⟩ := hs
   exact makes_value (aMakeMap_sound (r := some v) (r' := some (a.eval x)) (ob := p.1) (nv := p.2) (hF.eval hx) hv w)
 case lookup t x y c =>
  split at hs
  case h_2 => cases hs
  rename_i u v hx hy
  simp only [Option.map_eq_some_iff] at hs
  obtain ⟨p, hv, rfl⟩ := hs
  obtain ⟨v', e, hr⟩ := aLookup_sound h (hF.eval hx) (hF.eval hy) hv
  exact ⟨v', value_run e, hr⟩
 case entry x =>
  split at hs
  case h_2 => cases hs
  rename_i v hx
  simp only [Option.map_eq_some_iff] at hs
  obtain ⟨p, hv, rfl⟩ := hs
  obtain ⟨v', e, hr⟩ := aEntry_sound h (hF.eval hx) hv
  exact ⟨v', value_run e, hr⟩
 case call c =>
  cases hq : mapLenQ c ev with
  | true =>
   rw [hq, cond_true] at hs
   simp only [Option.map_eq_some_iff] at hs
   obtain ⟨v, hv, rfl⟩ := hs
   exact aMapLen_sound h hF rfl hv
  | false =>
   rw [hq, cond_false] at hs
   simp only [Option.map_eq_some_iff] at hs
   obtain ⟨v, hv, rfl⟩ := hs
   exact hp1 hv
 case convert src dst' x =>
  split at hs
  ·simp only [Option.map_eq_some_iff] at hs; obtain ⟨v, hv, rfl⟩ := hs; exact hr1 hv
  ·split at hs
   ·rename_i v hv; cases hs; exact hp1 hv
   ·simp only [Option.map_eq_some_iff] at hs; obtain ⟨p, hv, rfl⟩ := hs; exact hn1 hv
  ·simp only [Option.map_eq_some_iff] at hs; obtain ⟨v, hv, rfl⟩ := hs; exact hp1 hv
 case alloc => simp only [Option.map_eq_some_iff] at hs; obtain ⟨p, hv, rfl⟩ := hs; exact hn1 hv
 case box => simp only [Option.map_eq_some_iff] at hs; obtain ⟨p, hv, rfl⟩ := hs; exact hn1 hv
 case buildSlice => simp only [Option.map_eq_some_iff] at hs; obtain ⟨p, hv, rfl⟩ := hs; exact hn1 hv
 case makeSlice => simp only [Option.map_eq_some_iff] at hs; obtain ⟨p, hv, rfl⟩ := hs; exact hn1 hv
 all_goals (simp only [Option.map_eq_some_iff] at hs; obtain ⟨v, hv, rfl⟩ := hs; exact hp1 hv)
def isHeavy : Op → Bool
 | .store .. | .next .. | .mapUpdate .. | .insert .. | .panic _ => true
 | .call c => match c.callee with
  | .builtin .append | .builtin .panic | .value _ | .invoke _ _ => true
  | _ => false
 | _ => false
def aany0 (P : Program) (call : ACall) (hp : Tr AObj) (nx : Nat) (o : Oper) (ev : Operand → Option Value) : Option (Value × Tr AObj × Nat) :=
 match (bif isHeavy o.op then aheavy P call hp nx o ev else none) with
 | some r => some r
 | none => match alight P hp o ev with
  | some (.val v) => some (v, hp, nx)
  | some (.new ob nv) => some (nv.val nx, hp.put nx (some ob), nx + 1)
  | none => none
def kval (hp : Tr AObj) (nx : Nat) : Option Value → Option (Value × Tr AObj × Nat)
 | some v => some (v, hp, nx)
 | none => none
def korelse (x y : Option (Value × Tr AObj × Nat)) : Option (Value × Tr AObj × Nat) :=
 match x with
 | some r => some r
 | none => y
def kbind (x : Option Value) (f : Value → Option Value) : Option Value :=
 match x with
 | some v => f v
 | none => none
def kpick (hp : Tr AObj) (nx : Nat) (c x y : Option Value) : Option (Value × Tr AObj × Nat) :=
 match c with
 | some (.bool true) => kval hp nx x
 | some (.bool false) => kval hp nx y
 | _ => none
def kextract (x : Option Value) (i : Nat) : Option Value :=
 match x with
 | some (.tuple vs) => vs[i]?
 | _ => none
def kbox (hp : Tr AObj) (nx : Nat) (x : Option Value) : Option (Value × Tr AObj × Nat) :=
 match x with
 | some v => some (.pointer (some ⟨nx, 0, none⟩), hp.put nx (some (.cells v.cells.toList true)), nx + 1)
 | none => none
def kstore (P : Program) (hp : Tr AObj) (nx : Nat) (t : TypeId) (x y : Option Value) : Option (Value × Tr AObj × Nat) :=
 match x, y with
 | some p, some v => match aStore P hp t p v with
  | some hp' => some (undef, hp', nx)
  | none => none
 | _, _ => none
def ktab (op : Op) : Program → ACall → Tr AObj → Nat → Oper → (Operand → Option Value) → Option (Value × Tr AObj × Nat) :=
 Op.rec (motive := fun _ => Program → ACall → Tr AObj → Nat → Oper → (Operand → Option Value) → Option (Value × Tr AObj × Nat))
  (fun x _ _ hp nx _ ev => kval hp nx (ev x))
  (fun x _ _ hp nx _ ev => kval hp nx (ev x))
  (fun c x y _ _ hp nx _ ev => kpick hp nx (ev c) (ev x) (ev y))
  (fun _ P call hp nx o ev => aany0 P call hp nx o ev)
  (fun _ x _ _ hp nx _ ev => kbox hp nx (ev x))
  (fun _ _ P call hp nx o ev => aany0 P call hp nx o ev)
  (fun _ _ _ P call hp nx o ev => aany0 P call hp nx o ev)
  (fun _ _ _ _ P call hp nx o ev => aany0 P call hp nx o ev)
  (fun t x P _ hp nx _ ev => kval hp nx (kbind (ev x) (aLoad P hp t)))
  (fun t x y P call hp nx o ev => korelse (kstore P hp nx t (ev x) (ev y)) (aany0 P call hp nx o ev))
  (fun _ P call hp nx o ev => aany0 P call hp nx o ev)
  (fun _ P call hp nx o ev => aany0 P call hp nx o ev)
  (fun _ P call hp nx o ev => aany0 P call hp nx o ev)
  (fun _ _ _ _ _ P call hp nx o ev => aany0 P call hp nx o ev)
  (fun _ _ _ P call hp nx o ev => aany0 P call hp nx o ev)
  (fun _ _ _ P call hp nx o ev => aany0 P call hp nx o ev)
  (fun _ _ P call hp nx o ev => aany0 P call hp nx o ev)
  (fun _ _ P call hp nx o ev => aany0 P call hp nx o ev)
  (fun _ _ _ P call hp nx o ev => aany0 P call hp nx o ev)
  (fun _ _ P call hp nx o ev => aany0 P call hp nx o ev)
  (fun _ _ P call hp nx o ev => aany0 P call hp nx o ev)
  (fun _ _ _ P call hp nx o ev => aany0 P call hp nx o ev)
  (fun _ _ _ _ _ P call hp nx o ev => aany0 P call hp nx o ev)
  (fun t x f P _ hp nx _ ev => kval hp nx (kbind (ev x) fun v => aFieldAddr P t v f))
  (fun _ _ _ P call hp nx o ev => aany0 P call hp nx o ev)
  (fun _ _ _ P call hp nx o ev => aany0 P call hp nx o ev)
  (fun _ _ _ P call hp nx o ev => aany0 P call hp nx o ev)
  (fun _ _ _ _ P call hp nx o ev => aany0 P call hp nx o ev)
  (fun _ _ _ _ P call hp nx o ev => aany0 P call hp nx o ev)
  (fun _ _ _ P call hp nx o ev => aany0 P call hp nx o ev)
  (fun _ _ _ _ P call hp nx o ev => aany0 P call hp nx o ev)
  (fun _ _ P call hp nx o ev => aany0 P call hp nx o ev)
  (fun _ _ P call hp nx o ev => aany0 P call hp nx o ev)
  (fun _ P call hp nx o ev => aany0 P call hp nx o ev)
  (fun _ _ _ _ P call hp nx o ev => aany0 P call hp nx o ev)
  (fun x i _ _ hp nx _ ev => kval hp nx (kextract (ev x) i))
  (fun _ P call hp nx o ev => aany0 P call hp nx o ev)
  (fun _ P call hp nx o ev => aany0 P call hp nx o ev)
  (fun _ P call hp nx o ev => aany0 P call hp nx o ev)
  (fun _ P call hp nx o ev => aany0 P call hp nx o ev)
  (fun _ _ P call hp nx o ev => aany0 P call hp nx o ev)
  (fun _ _ _ P call hp nx o ev => aany0 P call hp nx o ev)
  (fun _ _ P call hp nx o ev => aany0 P call hp nx o ev) op
def aany (P : Program) (call : ACall) (hp : Tr AObj) (nx : Nat) (o : Oper) (ev : Operand → Option Value) : Option (Value × Tr AObj × Nat) := ktab o.op P call hp nx o ev
theorem aany_eq (P : Program) (call : ACall) (hp : Tr AObj) (nx : Nat) (o : Oper) (ev : Operand → Option Value) : aany P call hp nx o ev = aany0 P call hp nx o ev := by
 obtain ⟨dst, op, type, pos, after, guard⟩ := o
 unfold aany
 cases op <;> try rfl
 case move x => show kval hp nx (ev x) = _; unfold aany0 alight apure isHeavy; dsimp only; cases ev x <;> rfl
 case assign x => show kval hp nx (ev x) = _; unfold aany0 alight apure isHeavy; dsimp only; cases ev x <;> rfl
 case pick c x y =>
  show kpick hp nx (ev c) (ev x) (ev y) = _
  unfold aany0 alight apure isHeavy kpick
  dsimp only
  cases ev c with
  | none => rfl
  | some v =>
   cases v <;> try rfl
   rename_i b
   cases b
   ·cases ev y <;> rfl
   ·cases ev x <;> rfl
 case load t x =>
  show kval hp nx (kbind (ev x) (aLoad P hp t)) = _
  unfold aany0 alight aread isHeavy kbind
  dsimp only
  cases ev x with
  | none => rfl
  | some v => dsimp only; cases aLoad P hp t v <;> rfl
 case fieldAddr t x f =>
  show kval hp nx (kbind (ev x) fun v => aFieldAddr P t v f) = _
  unfold aany0 alight apure isHeavy kbind
  dsimp only
  cases ev x with
  | none => rfl
  | some v => dsimp only; cases aFieldAddr P t v f <;> rfl
 case extract x i =>
  show kval hp nx (kextract (ev x) i) = _
  unfold aany0 alight apure isHeavy kextract
  dsimp only
  cases ev x with
  | none => rfl
  | some v =>
   cases v <;> try rfl
   rename_i vs
   dsimp only
   cases vs[i]? <;> rfl
 case box t x =>
  show kbox hp nx (ev x) = _
  unfold aany0 alight anew isHeavy kbox
  dsimp only
  cases ev x <;> rfl
 case store t x y =>
  have hk : aheavy P call hp nx ⟨dst, .store t x y, type, pos, after, guard⟩ ev = kstore P hp nx t (ev x) (ev y) := rfl
  show korelse (kstore P hp nx t (ev x) (ev y)) (aany0 P call hp nx ⟨dst, .store t x y, type, pos, after, guard⟩ ev) = _
  cases hr : kstore P hp nx t (ev x) (ev y) with
  | none => rfl
  | some r =>
   unfold aany0
   rw [hk, hr]
   rfl
theorem Rel.at_drawn {ρ : Place} {W : Base} {hp : Tr AObj} {nx : Nat} {w : World} (h : Rel ρ W hp nx w) (d : Nat) : Rel ρ W hp nx { w with drawn := d } :=
 ⟨h.dom, h.obj, h.inj, h.fresh, ⟨h.below.os, h.below.tape, h.below.output, h.below.size, h.below.block⟩, h.frz, h.apart, h.frn⟩
theorem Rel.dom_none {ρ : Place} {W : Base} {hp : Tr AObj} {nx : Nat} {w : World} (h : Rel ρ W hp nx w) : ρ nx = none := by
 cases hc : ρ nx with
 | none => rfl
 | some x => have := (h.dom nx x hc).1; omega
theorem aany_sound {P : Program} {call : ACall} {ρ : Place} {W : Base} (hcall : CallOk P W call) {hp hp' : Tr AObj} {nx nx' : Nat} {w : World} (h : Rel ρ W hp nx w) {ev : Operand → Option Value} {a : Act} (hF : ERel ρ ev a) {o : Oper} {v : Value}
  (hs : aany P call hp nx o ev = some (v, hp', nx')) {next : Act → World → Prop} {Q : Exit → Act → World → Prop}
  (hk : ∀ v' w' ρ', VR ρ' v v' → Rel ρ' W hp' nx' w' → Step ρ ρ' hp hp' nx nx' → next (a.put o.dst v') w') : o.wp P a w next Q := by
 rw [aany_eq] at hs
 unfold aany0 at hs
 split at hs
 ·rename_i r hr
  cases hs
  cases hh : isHeavy o.op with
  | false => rw [hh] at hr; cases hr
  | true => rw [hh, cond_true] at hr; exact aheavy_sound hcall h hF hr hk
 ·split at hs
  ·rename_i u hl
   cases hs
   obtain ⟨v', h1, h2⟩ := alight_sound (r := .val _) h hF hl
   unfold Oper.wp
   rw [h1]
   exact hk v' w ρ h2 h (.refl _ _ _)
  ·rename_i ob nv hl
   cases hs
   obtain ⟨v', ob', d, z, h1, h2, h3⟩ := alight_sound (r := .new _ _) h hF hl
   unfold Oper.wp
   rw [h1]
   have hrel := ((h.at_drawn d).reserve ob).realize (b := nx) (z := z) (ob := ob') (by omega) h.dom_none (by rw [Tr.get_put, if_pos rfl]) (h2 _ h.below.fresh)
   refine hk v' _ _ (h3 _ _ (Place.set_same ρ nx _)) hrel ⟨Place.le_set h.dom_none, by omega, fun b hb hr => ⟨by rw [Place.set_other (by omega)]; exact hr, by rw [Tr.get_put, if_neg (by omega)]⟩⟩
  ·cases hs
structure AS where
 tm : Tr Value
 hp : Tr AObj
 nx : Nat
def awanted (ops : Array Oper) (tm : Tr Value) (o : Oper) : Option Bool :=
 match o.guard with
 | none => some true
 | some (j, want) => match (ops[j]?).bind (·.dst) with
  | none => some false
  | some d => match tm.get d with
   | some (.bool b) => some (b == want)
   | some _ => some false
   | none => none
theorem awanted_sound {D : List Deferred} {ρ : Place} {tm : Tr Value} {n : Nat} {a : Act} (hF : FRel D ρ tm n a) {ops : Array Oper} {o : Oper} {b : Bool} (h : awanted ops tm o = some b) : Region.wanted o (yielded ops a.tmps) = b := by
 unfold awanted at h
 unfold Region.wanted
 cases hg : o.guard with
 | none => rw [hg] at h; cases h; rfl
 | some p =>
  obtain ⟨j, want⟩ := p
  rw [hg] at h
  dsimp only at h ⊢
  unfold yielded
  cases hd : (ops[j]?).bind (·.dst) with
  | none => rw [hd] at h; cases h; rfl
  | some d =>
   rw [hd] at h
   dsimp only at h
   cases hv : tm.get d with
   | none => rw [hv] at h; cases h
   | some u =>
    rw [hv] at h
    have hs := hF.slot d u hv
    have hlt : d < a.tmps.size := by rw [hF.size]; exact hs.1
    have he : a.tmps[d]? = some (a.tmps.getD d undef) := by simp [hlt]
    have hu := hs.2
    rw [Option.bind_some, he]
    generalize a.tmps.getD d undef = y at hu
    cases hu <;> simp only [Option.some.injEq] at h <;> subst h <;> first | rfl | simp
def aput (n : Nat) (tm : Tr Value) (dst : Option Tmp) (v : Value) : Option (Tr Value) :=
 match dst with
 | none => some tm
 | some d => bif d.blt n then some (tm.put d (some v)) else none
theorem aput_sound {D : List Deferred} {ρ : Place} {tm tm' : Tr Value} {n : Nat} {a : Act} (hF : FRel D ρ tm n a) {dst : Option Tmp} {v v' : Value} (h : aput n tm dst v = some tm') (hv : VR ρ v v') : FRel D ρ tm' n (a.put dst v') := by
 unfold aput at h
 cases dst with
 | none => cases h; exact hF
 | some d =>
  dsimp only at h
  cases hd : d.blt n with
  | false => rw [hd] at h; cases h
  | true => rw [hd] at h; cases h; exact hF.put (Nat.le_of_ble_eq_true hd) hv
def astep (P : Program) (call : ACall) (ops : Array Oper) (n : Nat) (st : AS) (o : Oper) : Option AS :=
 match awanted ops st.tm o with
 | some true => match aany P call st.hp st.nx o (aev st.tm) with
  | some (v, hp', nx') => match aput n st.tm o.dst v with
   | some tm' => some ⟨tm', hp', nx'⟩
   | none => none
  | none => none
 | some false => match aput n st.tm o.dst undef with
  | some tm' => some ⟨tm', st.hp, st.nx⟩
  | none => none
 | none => none
structure SRel (ρ : Place) (W : Base) (n : Nat) (st : AS) (a : Act) (w : World) : Prop where
 rel : Rel ρ W st.hp st.nx w
 frame : FRel W.ds ρ st.tm n a
theorem astep_sound {P : Program} {call : ACall} {ρ : Place} {W : Base} (hcall : CallOk P W call) {ops : Array Oper} {n : Nat} {st st' : AS} {a : Act} {w : World} (h : SRel ρ W n st a w) {i : Nat} {o : Oper} (hi : ops[i]? = some o)
  (hs : astep P call ops n st o = some st') {K : Act → World → Prop} {Q : Exit → Act → World → Prop} (hk : ∀ a' w' ρ', SRel ρ' W n st' a' w' → Step ρ ρ' st.hp st'.hp st.nx st'.nx → K a' w') : wpOp P ops Q i K a w := by
 unfold astep at hs
 unfold wpOp
 simp only [hi]
 split at hs
 ·rename_i hw
  rw [awanted_sound h.frame hw, if_pos rfl]
  split at hs
  case h_2 => cases hs
  rename_i v hp' nx' hv
  split at hs
  case h_2 => cases hs
  rename_i tm' ht
  cases hs
  exact .inl (aany_sound hcall h.rel h.frame.ev hv fun v' w' ρ' g1 g2 g3 => hk _ _ ρ' ⟨g2, aput_sound (h.frame.mono g3.le) ht g1⟩ g3)
 ·rename_i hw
  rw [awanted_sound h.frame hw, if_neg (by simp)]
  split at hs
  case h_2 => cases hs
  rename_i tm' ht
  cases hs
  exact hk _ _ ρ ⟨h.rel, aput_sound h.frame ht (closed_refl (by simp [undef, closed]))⟩ (.refl _ _ _)
 ·cases hs
def aseq (P : Program) (call : ACall) (ops : Array Oper) (n : Nat) (st : AS) : List Oper → Option AS
 | [] => some st
 | o :: l => match astep P call ops n st o with
  | some st' => aseq P call ops n st' l
  | none => none
theorem aseq_sound {P : Program} {call : ACall} {W : Base} (hcall : CallOk P W call) {ops : Array Oper} {n : Nat} {Q : Exit → Act → World → Prop} : ∀ (l : List Oper) (k : Nat) (st st' : AS) (ρ : Place) (a : Act) (w : World), ops.toList.drop k = l →
  SRel ρ W n st a w → aseq P call ops n st l = some st' → (∀ a' w' ρ', SRel ρ' W n st' a' w' → Step ρ ρ' st.hp st'.hp st.nx st'.nx → Q .normal a' w') → wpOps P ops Q (List.range' k l.length) a w
 | [], k, st, st', ρ, a, w, _, h, hs, hk => by
  simp only [aseq] at hs
  cases hs
  exact hk a w ρ h (.refl _ _ _)
 | o :: l, k, st, st', ρ, a, w, hd, h, hs, hk => by
  simp only [aseq] at hs
  split at hs
  case h_2 => cases hs
  rename_i st1 h1
  have hi : ops[k]? = some o := by
   have : (ops.toList.drop k)[0]? = some o := by rw [hd]; rfl
   rw [List.getElem?_drop] at this
   simpa using this
  rw [List.length_cons, List.range'_succ, wpOps_cons]
  refine astep_sound hcall h hi h1 fun a1 w1 ρ1 hr hst => ?_
  refine aseq_sound hcall l (k + 1) st1 st' ρ1 a1 w1 (by rw [← List.drop_drop, hd]; rfl) hr hs fun a' w' ρ' g1 g2 => hk a' w' ρ' g1 (hst.trans g2)
theorem region_seq {P : Program} {call : ACall} {W : Base} (hcall : CallOk P W call) {ops : Array Oper} {id n : Nat} {Q : Exit → Act → World → Prop} {st st' : AS} {ρ : Place} {a : Act} {w : World} (h : SRel ρ W n st a w)
  (hs : aseq P call ops n st ops.toList = some st') (hk : ∀ a' w' ρ', SRel ρ' W n st' a' w' → Step ρ ρ' st.hp st'.hp st.nx st'.nx → Q .normal a' w') : (Code.region id ops false).wp P Q a w := by
 refine wp_region ?_
 rw [List.range_eq_range']
 have := aseq_sound hcall (Q := Q) ops.toList 0 st st' ρ a w (by simp) h hs hk
 simpa using this
end Go.Proofs.YtojlhapbngcjkaaGreatDoor
