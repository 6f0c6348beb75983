/-
  Closed runs by evaluation, part 9: operations that write memory: store, the next rune of a string, append, copy. Conditions: as each theorem states them.
-/
import Derived.Test.YtegjnjmimfgijaaGreatDoorEvh
noncomputable section
namespace Go.Proofs.YtegjnjmimfgijaaGreatDoor
open Go Go.RowKit

theorem Rel.congr {ρ : Place} {W : Base} {hp hp' : Tr AObj} {nx : Nat} {w : World} (h : Rel ρ W hp nx w) (he : ∀ b, hp'.get b = hp.get b) : Rel ρ W hp' nx w :=
  ⟨h.dom, fun b o c s z ho => h.obj b o c s z (by rw [← he]; exact ho), fun b b' x x' o o' h1 h2 => h.inj b b' x x' o o' (by rw [← he]; exact h1) (by rw [← he]; exact h2), fun b hb => by rw [he]; exact h.fresh b hb, h.below, h.frz, fun b o c s z ho => h.apart b o c s z (by rw [← he]; exact ho), h.frn⟩
/-- What an operation that writes leaves alone. -/
structure Step (ρ ρ' : Place) (hp hp' : Tr AObj) (nx nx' : Nat) : Prop where
  le : ρ.le ρ'
  more : nx ≤ nx'
  old : ∀ b, b < nx → ρ b = none → ρ' b = none ∧ hp'.get b = hp.get b
theorem Step.refl (ρ : Place) (hp : Tr AObj) (nx : Nat) : Step ρ ρ hp hp nx nx := ⟨.refl ρ, Nat.le_refl _, fun _ _ h => ⟨h, rfl⟩⟩
theorem Step.trans {ρ ρ' ρ'' : Place} {hp hp' hp'' : Tr AObj} {nx nx' nx'' : Nat} (h : Step ρ ρ' hp hp' nx nx') (k : Step ρ' ρ'' hp' hp'' nx' nx'') : Step ρ ρ'' hp hp'' nx nx'' :=
  ⟨h.le.trans k.le, Nat.le_trans h.more k.more, fun b hb hr => by
    have h1 := h.old b hb hr
    have h2 := k.old b (Nat.lt_of_lt_of_le hb h.more) h1.1
    exact ⟨h2.1, h2.2.trans h1.2⟩⟩

theorem VR.single {ρ : Place} {v v' : Value} (h : VR ρ v v') : single v' = single v := by cases h <;> rfl
/-- One cell is written, among the abstract block's cells or right behind them. -/
theorem Rel.write2 {ρ : Place} {W : Base} {hp : Tr AObj} {nx : Nat} {w : World} (h : Rel ρ W hp nx w) {b c s z : Nat} {l l2 : List Value} (hb : hp.get b = some (.cells l true)) (hr : ρ b = some (c, s, z))
    {i : Nat} {v v' : Value} (hi : s + i < z) (hz : s + l2.length ≤ z) (hl : ∀ (j : Nat) (u : Value), l2[j]? = some u → (j = i ∧ u = v) ∨ (j ≠ i ∧ l[j]? = some u)) (hv : VR ρ v v') (hs : single v' = true) (P : Program) :
    (store ⟨c, s + i, none⟩ v').run P w = .ok () (w.setCell ⟨c, s + i, none⟩ v') ∧ Rel ρ W (hp.put b (some (.cells l2 true))) nx (w.setCell ⟨c, s + i, none⟩ v') := by
  obtain ⟨ob, e, ho⟩ := h.obj b _ c s z hb hr
  cases ob <;> try exact ho.elim
  rename_i cs t fr
  obtain ⟨h1, h2, h3, h4, h5⟩ := ho
  have hbn : b < nx := (h.dom b _ hr).1
  refine ⟨store_run e rfl (by show s + i < cs.size; omega) (h3 (s + i) (by omega)) hs, ⟨fun k x hk => ⟨(h.dom k x hk).1, by simpa [World.setCell] using (h.dom k x hk).2⟩, fun k o' c' s' z' ho' hk => ?_, fun k k' x x' o1 o2 g1 g2 hk hk' hx => ?_, fun k hk => ?_, below_setCell h.below (h5 rfl) v', fun c0 ob0 hc0 => ?_, fun k o' c' s' z' ho' hw hk => ?_, h.frn⟩⟩
  · rw [Tr.get_put] at ho'
    by_cases ek : k = b
    · rw [if_pos ek] at ho'
      cases ho'
      rw [ek, hr] at hk
      cases hk
      refine ⟨.cells (cs.setIfInBounds (s + i) v') t fr, by rw [setCell_heap w _ _ e, if_pos rfl], by simp [h1], hz, h3, fun j u hu => ?_, h5⟩
      rcases hl j u hu with ⟨hji, hu'⟩ | ⟨hji, hu'⟩
      · subst hu'
        refine ⟨v', ?_, hv⟩
        rw [hji, Array.getElem?_setIfInBounds, if_pos rfl, if_pos (by omega)]
      · obtain ⟨u', e1, e2⟩ := h4 j u hu'
        exact ⟨u', by rw [Array.getElem?_setIfInBounds_ne (by omega)]; exact e1, e2⟩
    · rw [if_neg ek] at ho'
      obtain ⟨ob', e1, e2⟩ := h.obj k o' c' s' z' ho' hk
      refine ⟨ob', ?_, e2⟩
      rw [setCell_heap w _ _ e, if_neg]
      · exact e1
      · intro ec
        exact ek (h.inj k b _ _ _ _ ho' hb hk hr ec)
  · have live : ∀ k o, (hp.put b (some (.cells l2 true))).get k = some o → ∃ o', hp.get k = some o' := fun k o hk => by
      rw [Tr.get_put] at hk
      by_cases ek : k = b
      · exact ⟨_, ek ▸ hb⟩
      · rw [if_neg ek] at hk; exact ⟨_, hk⟩
    obtain ⟨_, g1'⟩ := live k o1 g1
    obtain ⟨_, g2'⟩ := live k' o2 g2
    exact h.inj k k' x x' _ _ g1' g2' hk hk' hx
  · rw [Tr.get_put, if_neg (by omega)]
    exact h.fresh k hk
  · rw [setCell_heap w _ _ e, if_neg]
    · exact h.frz c0 ob0 hc0
    · intro ec
      have := h.apart b _ c s z hb rfl hr
      rw [ec, this] at hc0
      cases hc0
  · rw [Tr.get_put] at ho'
    by_cases ek : k = b
    · rw [ek, hr] at hk
      cases hk
      exact h.apart b _ c s z hb rfl hr
    · rw [if_neg ek] at ho'
      exact h.apart k o' c' s' z' ho' hw hk

def setFrom (l : List Value) (o : Nat) : List Value → List Value
  | [] => l
  | v :: vs => setFrom (l.set o v) (o + 1) vs
theorem storeCells_run {P : Program} {ρ : Place} {W : Base} {nx b c s z o : Nat} (hr : ρ b = some (c, s, z)) : ∀ {vs vs' : List Value}, VRL ρ vs vs' → ∀ (k : Nat) (hp : Tr AObj) (w : World) (l : List Value),
    Rel ρ W hp nx w → hp.get b = some (.cells l true) → o + k + vs.length ≤ l.length → vs.all single = true →
    ∃ w', (storeCells ⟨c, s + o, none⟩ vs' k).run P w = .ok () w' ∧ Rel ρ W (hp.put b (some (.cells (setFrom l (o + k) vs) true))) nx w' := by
  intro vs vs' hv
  induction hv with
  | nil =>
    intro k hp w l h hb _ _
    refine ⟨w, rfl, h.congr fun j => ?_⟩
    rw [Tr.get_put]
    split
    · rename_i e; rw [e, hb]; rfl
    · rfl
  | cons hv htl ih =>
    rename_i v v' vs vs'
    intro k hp w l h hb hlen hall
    simp only [List.all_cons, Bool.and_eq_true] at hall
    simp only [List.length_cons] at hlen
    obtain ⟨ob, e, ho⟩ := h.obj b _ c s z hb hr
    have hz : s + l.length ≤ z := by
      cases ob <;> try exact ho.elim
      exact ho.2.1
    obtain ⟨h1, h2⟩ := h.write2 (i := o + k) (v := v) (v' := v') (l2 := l.set (o + k) v) hb hr (by omega) (by simpa using hz) (fun j u hu => by
      rw [List.getElem?_set] at hu
      by_cases hj : o + k = j
      · rw [if_pos hj] at hu
        split at hu
        · cases hu; exact .inl ⟨hj.symm, rfl⟩
        · cases hu
      · rw [if_neg hj] at hu
        exact .inr ⟨Ne.symm hj, hu⟩) hv (by rw [hv.single]; exact hall.1) P
    obtain ⟨w', h3, h4⟩ := ih (k + 1) _ _ (l.set (o + k) v) h2 (by rw [Tr.get_put, if_pos rfl]) (by simp; omega) hall.2
    refine ⟨w', ?_, h4.congr fun j => ?_⟩
    · show (store ((⟨c, s + o, none⟩ : Addr).add k) v' >>= fun _ => storeCells ⟨c, s + o, none⟩ vs' (k + 1)).run P w = _
      rw [add_eq, Sem.run_bind, h1, Result.andThen_ok]
      exact h3
    · simp only [setFrom]
      rw [show o + (k + 1) = o + k + 1 by omega]
      rw [Tr.get_put, Tr.get_put, Tr.get_put]
      split <;> rfl
/-- Cells are written right behind an abstract block's own. -/
theorem extend_run {P : Program} {ρ : Place} {W : Base} {nx b c s z o : Nat} (hr : ρ b = some (c, s, z)) : ∀ {vs vs' : List Value}, VRL ρ vs vs' → ∀ (k : Nat) (hp : Tr AObj) (w : World) (l : List Value),
    Rel ρ W hp nx w → hp.get b = some (.cells l true) → l.length = o + k → s + (o + k) + vs.length ≤ z → vs.all single = true →
    ∃ w', (storeCells ⟨c, s + o, none⟩ vs' k).run P w = .ok () w' ∧ Rel ρ W (hp.put b (some (.cells (l ++ vs) true))) nx w' := by
  intro vs vs' hv
  induction hv with
  | nil =>
    intro k hp w l h hb _ _ _
    refine ⟨w, rfl, h.congr fun j => ?_⟩
    rw [Tr.get_put]
    split
    · rename_i e; rw [e, hb]; simp
    · rfl
  | cons hv htl ih =>
    rename_i v v' vs vs'
    intro k hp w l h hb hlen hz hall
    simp only [List.all_cons, Bool.and_eq_true] at hall
    simp only [List.length_cons] at hz
    obtain ⟨h1, h2⟩ := h.write2 (i := o + k) (v := v) (v' := v') (l2 := l ++ [v]) hb hr (by omega) (by simp; omega) (fun j u hu => by
      rcases Nat.lt_or_ge j l.length with hj | hj
      · rw [List.getElem?_append_left hj] at hu
        exact .inr ⟨by omega, hu⟩
      · rw [List.getElem?_append_right hj] at hu
        have : j - l.length = 0 := by
          rcases Nat.eq_zero_or_pos (j - l.length) with h' | h'
          · exact h'
          · rw [List.getElem?_eq_none (by simp; omega)] at hu; cases hu
        rw [this] at hu
        cases hu
        exact .inl ⟨by omega, rfl⟩) hv (by rw [hv.single]; exact hall.1) P
    obtain ⟨w', h3, h4⟩ := ih (k + 1) _ _ (l ++ [v]) h2 (by rw [Tr.get_put, if_pos rfl]) (by simp; omega) (by omega) hall.2
    refine ⟨w', ?_, h4.congr fun j => ?_⟩
    · show (store ((⟨c, s + o, none⟩ : Addr).add k) v' >>= fun _ => storeCells ⟨c, s + o, none⟩ vs' (k + 1)).run P w = _
      rw [add_eq, Sem.run_bind, h1, Result.andThen_ok]
      exact h3
    · rw [Tr.get_put, Tr.get_put, Tr.get_put]
      split <;> simp

def aStore (P : Program) (hp : Tr AObj) (t : TypeId) (x v : Value) : Option (Tr AObj) :=
  match x with
  | .pointer (some ⟨b, o, none⟩) => match hp.get b with
    | some (.cells l true) => match pureRun P (sizeOf t) with
      | some z => bif v.cells.size.beq z && (o + z).ble l.length && v.cells.toList.all single then some (hp.put b (some (.cells (setFrom l o v.cells.toList) true))) else none
      | none => none
    | _ => none
  | _ => none
theorem step_put {ρ : Place} {hp : Tr AObj} {nx b : Nat} {x : Nat × Nat × Nat} (hr : ρ b = some x) (o : Option AObj) : Step ρ ρ hp (hp.put b o) nx nx :=
  ⟨.refl ρ, Nat.le_refl _, fun k _ hk => ⟨hk, by rw [Tr.get_put, if_neg (by intro e; subst e; rw [hr] at hk; cases hk)]⟩⟩
theorem aStore_sound {P : Program} {ρ : Place} {W : Base} {hp hp' : Tr AObj} {nx : Nat} {w : World} (h : Rel ρ W hp nx w) {t : TypeId} {x x' v v' : Value} (hx : VR ρ x x') (hv : VR ρ v v') (hs : aStore P hp t x v = some hp') :
    ∃ w', (Instr.storeAt t x' v').run P w = .ok () w' ∧ Rel ρ W hp' nx w' ∧ Step ρ ρ hp hp' nx nx := by
  unfold aStore at hs
  cases hx <;> try simp only [reduceCtorEq] at hs
  case ptr b o c s z hr =>
    split at hs
    case h_2 => cases hs
    rename_i l hb
    split at hs
    case h_2 => cases hs
    rename_i m hz
    cases hc : v.cells.size.beq m && (o + m).ble l.length && v.cells.toList.all single with
    | false => rw [hc] at hs; cases hs
    | true =>
      rw [hc, cond_true] at hs
      cases hs
      simp only [Bool.and_eq_true] at hc
      obtain ⟨⟨h1, h2⟩, h3⟩ := hc
      have h1 := Nat.eq_of_beq_eq_true h1
      have h2 := Nat.le_of_ble_eq_true h2
      obtain ⟨w', h4, h5⟩ := storeCells_run (P := P) (o := o) hr hv.cells.list 0 hp w l h hb (by simp; omega) h3
      refine ⟨w', ?_, h5, step_put hr _⟩
      unfold Instr.storeAt
      show (storeVar t ⟨c, s + o, none⟩ v').run P w = _
      unfold storeVar
      rw [bind_run hz]
      rw [if_neg (by rw [← hv.cells.1]; simp [h1])]
      exact h4

def aNext (hp : Tr AObj) (x : Value) (isString : Bool) : Option (Value × Tr AObj) :=
  match x, isString with
  | .pointer (some ⟨b, 0, none⟩), true => match hp.get b with
    | some (.iter s pos) => bif pos.blt s.size then
        some (.tuple #[.bool true, goInt pos, .int .i32 (Utf8.decode s pos).1], hp.put b (some (.iter s (pos + (Utf8.decode s pos).2))))
      else some (.tuple #[.bool false], hp)
    | _ => none
  | _, _ => none
theorem aNext_sound {P : Program} {ρ : Place} {W : Base} {hp hp' : Tr AObj} {nx : Nat} {w : World} (h : Rel ρ W hp nx w) {t : TypeId} {x x' v : Value} {q : Bool} (hx : VR ρ x x') (hs : aNext hp x q = some (v, hp')) :
    ∃ v' w', (Instr.next x' q t).run P w = .ok v' w' ∧ VR ρ v v' ∧ Rel ρ W hp' nx w' ∧ Step ρ ρ hp hp' nx nx := by
  unfold aNext at hs
  split at hs
  case h_2 => cases hs
  rename_i b
  cases hx with
  | ptr hr =>
    rename_i c s z
    split at hs
    case h_2 => cases hs
    rename_i st pos hb
    obtain ⟨ob, e, ho⟩ := h.obj b _ c s z hb hr
    cases ob <;> try exact ho.elim
    obtain ⟨rfl, rfl, hB, rfl⟩ := ho
    rename_i st pos
    have hg : (getObj c).run P w = .ok (.stringIter st pos) w := by simp [getObj, Sem.run, e]
    have hc0 : c < w.heap.size := (h.dom b _ hr).2
    cases hlt : pos.blt st.size with
    | true =>
      rw [hlt, cond_true] at hs
      cases hs
      have hlt' : pos < st.size := Nat.le_of_ble_eq_true hlt
      let w' : World := { w with heap := w.heap.setIfInBounds c (.stringIter st (pos + (Utf8.decode st pos).2)) }
      have hset : (setObj c (.stringIter st (pos + (Utf8.decode st pos).2))).run P w = .ok () w' := by simp [setObj, Sem.run, e, w']
      refine ⟨_, w', ?_, closed_refl (by simp [closed, closed1, flat, goInt]), ?_, step_put hr _⟩
      · unfold Instr.next
        show ((getObj c) >>= _).run P w = _
        rw [Sem.run_bind, hg, Result.andThen_ok]
        dsimp only
        rw [if_pos hlt']
        show ((setObj c (.stringIter st (pos + (Utf8.decode st pos).2))) >>= fun _ => pure (Value.tuple #[.bool true, goInt pos, .int .i32 (Utf8.decode st pos).1])).run P w = _
        rw [Sem.run_bind, hset, Result.andThen_ok]
        rfl
      · have hget : ∀ k, w'.heap[k]? = if k = c then some (.stringIter st (pos + (Utf8.decode st pos).2)) else w.heap[k]? := by
          intro k
          simp only [w', Array.getElem?_setIfInBounds]
          by_cases hk : c = k
          · subst hk; simp [hc0]
          · simp [hk, Ne.symm hk]
        refine ⟨fun k x hk => ⟨(h.dom k x hk).1, by simpa [w'] using (h.dom k x hk).2⟩, fun k o' c' s' z' ho' hk => ?_, fun k k' x x' o1 o2 g1 g2 hk hk' hx => ?_, fun k hk => ?_, ⟨h.below.os, h.below.tape, h.below.output, by simpa [w'] using h.below.size, fun k hk => ?_⟩, fun c0 ob0 hc0 => ?_, fun k o' c' s' z' ho' hw hk => ?_, h.frn⟩
        · rw [Tr.get_put] at ho'
          by_cases ek : k = b
          · rw [if_pos ek] at ho'
            cases ho'
            rw [ek, hr] at hk
            cases hk
            exact ⟨.stringIter st (pos + (Utf8.decode st pos).2), by rw [hget, if_pos rfl], rfl, rfl, hB, rfl⟩
          · rw [if_neg ek] at ho'
            obtain ⟨ob', e1, e2⟩ := h.obj k o' c' s' z' ho' hk
            refine ⟨ob', ?_, e2⟩
            rw [hget, if_neg]
            · exact e1
            · intro ec
              exact ek (h.inj k b _ _ _ _ ho' hb hk hr ec)
        · have live : ∀ k o, (hp.put b (some (.iter st (pos + (Utf8.decode st pos).2)))).get k = some o → ∃ o', hp.get k = some o' := fun k o hk => by
            rw [Tr.get_put] at hk
            by_cases ek : k = b
            · exact ⟨_, ek ▸ hb⟩
            · rw [if_neg ek] at hk; exact ⟨_, hk⟩
          obtain ⟨_, g1'⟩ := live k o1 g1
          obtain ⟨_, g2'⟩ := live k' o2 g2
          exact h.inj k k' x x' _ _ g1' g2' hk hk' hx
        · rw [Tr.get_put, if_neg (by have := (h.dom b _ hr).1; omega)]
          exact h.fresh k hk
        · rw [hget, if_neg (fun e => hB (by rw [← e]; exact hk))]
          exact h.below.block k hk
        · rw [hget, if_neg]
          · exact h.frz c0 ob0 hc0
          · intro ec
            have := h.apart b _ c _ z hb rfl hr
            rw [ec, this] at hc0
            cases hc0
        · rw [Tr.get_put] at ho'
          by_cases ek : k = b
          · rw [ek, hr] at hk
            cases hk
            exact h.apart b _ c _ z hb rfl hr
          · rw [if_neg ek] at ho'
            exact h.apart k o' c' s' z' ho' hw hk
    | false =>
      rw [hlt, cond_false] at hs
      cases hs
      refine ⟨_, w, ?_, closed_refl (by simp [closed, closed1, flat]), h, .refl _ _ _⟩
      have hlt' : ¬ pos < st.size := fun h' => by
        have : pos.blt st.size = true := Nat.ble_eq_true_of_le h'
        rw [this] at hlt; cases hlt
      unfold Instr.next
      show ((getObj c) >>= _).run P w = _
      rw [Sem.run_bind, hg, Result.andThen_ok]
      dsimp only
      rw [if_neg hlt']
      rfl
end Go.Proofs.YtegjnjmimfgijaaGreatDoor
