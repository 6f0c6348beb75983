/-
  Symbolic runs, part 7b: slices taken for good, at a loop's head. Conditions: as each theorem states them.
-/
import Derived.Test.YtegjnjmimfgijaaGreatDoorSg
noncomputable section
namespace Go.Proofs.YtegjnjmimfgijaaGreatDoor
open Go Go.RowKit

def chunks (sz n : Nat) (l : List Value) : Array Value :=
  bif sz.beq 1 then (l.take n).toArray else ((List.range n).map fun i => Value.agg ((l.drop (i * sz)).take sz).toArray).toArray
theorem chunks_size {sz n : Nat} {l : List Value} (h : n * sz ≤ l.length) : (chunks sz n l).size = n := by
  unfold chunks
  cases hs : sz.beq 1 with
  | true =>
    have := Nat.eq_of_beq_eq_true hs
    subst this
    simp
    omega
  | false => simp
theorem chunks_get {sz n : Nat} {l : List Value} (h : n * sz ≤ l.length) (hl : NLs l) {i : Nat} {u : Value} (hu : (chunks sz n l)[i]? = some u) : i < n ∧ u.cells.size = sz ∧ ∀ (j : Nat) (v : Value), u.cells[j]? = some v → j < sz ∧ l[i * sz + j]? = some v := by
  unfold chunks at hu
  cases hs : sz.beq 1 with
  | true =>
    have := Nat.eq_of_beq_eq_true hs
    subst this
    rw [hs, cond_true] at hu
    have hu' : (l.take n)[i]? = some u := by simpa using hu
    rw [List.getElem?_take] at hu'
    split at hu'
    case isFalse => cases hu'
    rename_i hi
    have hnl := hl u (List.mem_of_getElem? hu')
    have hc : u.cells = #[u] := by cases u <;> first | rfl | cases hnl
    refine ⟨hi, by rw [hc]; rfl, fun j v hv => ?_⟩
    rw [hc] at hv
    cases j with
    | zero => simp at hv; subst hv; exact ⟨by omega, by simpa using hu'⟩
    | succ j => simp at hv
  | false =>
    rw [hs, cond_false] at hu
    have hu' : ((List.range n).map fun i => Value.agg ((l.drop (i * sz)).take sz).toArray)[i]? = some u := by simpa using hu
    rw [List.getElem?_map] at hu'
    have hi : i < n := by
      rcases Nat.lt_or_ge i n with h' | h'
      · exact h'
      · rw [List.getElem?_eq_none (by simpa using h')] at hu'; cases hu'
    rw [List.getElem?_range hi] at hu'
    cases hu'
    have hroom := mul_room hi h
    refine ⟨hi, by simp [Value.cells]; omega, fun j v hv => ?_⟩
    have hv' : ((l.drop (i * sz)).take sz)[j]? = some v := by simpa [Value.cells] using hv
    rw [List.getElem?_take] at hv'
    split at hv'
    · rename_i hj
      rw [List.getElem?_drop] at hv'
      exact ⟨hj, hv'⟩
    · cases hv'
def Place.freeze (ρ : Place) (c : Nat) (ob : Obj) : Place := ⟨ρ.pl, fun k => match ρ.fr k with | some o => some o | none => if k = c then some ob else none, fun g cs h => by
  obtain ⟨t, fz, hc⟩ := ρ.gl g cs h
  exact ⟨t, fz, by rw [hc]⟩⟩
theorem freeze_rel {ρ : Place} {W : Base} {hp : Tr AObj} {nx : Nat} {w : World} (h : Rel ρ W hp nx w) {b c s z : Nat} {l : List Value} {ob : Obj} (hb : hp.get b = some (.cells l true)) (hr : ρ b = some (c, s, z)) (hob : w.heap[c]? = some ob) :
    Rel (ρ.freeze c ob) W (hp.put b none) nx w ∧ ρ.le (ρ.freeze c ob) := by
  have hle : ρ.le (ρ.freeze c ob) := ⟨fun _ _ h => h, fun k x hk => by
    show (match ρ.fr k with | some o => some o | none => if k = c then some ob else none) = some x
    rw [hk]⟩
  have sub : ∀ k o, (hp.put b none).get k = some o → k ≠ b ∧ hp.get k = some o := fun k o hk => by
    rw [Tr.get_put] at hk
    split at hk
    · cases hk
    · rename_i e; exact ⟨e, hk⟩
  obtain ⟨ob0, e0, ho0⟩ := h.obj b _ c s z hb hr
  refine ⟨⟨h.dom, fun k o c' s' z' ho hk => ?_, fun k k' x x' o o' h1 h2 => h.inj k k' x x' o o' (sub _ _ h1).2 (sub _ _ h2).2, fun k hk => ?_, h.below, fun k x hk => ?_, fun k o c' s' z' ho hw hk => ?_, fun k x hk => ?_⟩, hle⟩
  · obtain ⟨ob', e1, e2⟩ := h.obj k o c' s' z' (sub k o ho).2 hk
    exact ⟨ob', e1, e2.mono hle⟩
  · rw [Tr.get_put]
    split
    · rfl
    · exact h.fresh k hk
  · have hk' : (match ρ.fr k with | some o => some o | none => if k = c then some ob else none) = some x := hk
    split at hk'
    · rename_i e; cases hk'; exact h.frz k x e
    · split at hk'
      · rename_i e; subst e; cases hk'; exact hob
      · cases hk'
  · show (match ρ.fr c' with | some o => some o | none => if c' = c then some ob else none) = none
    have := sub k o ho
    rw [h.apart k o c' s' z' this.2 hw hk]
    dsimp only
    rw [if_neg]
    · intro e
      exact this.1 (h.inj k b _ _ _ _ this.2 hb hk hr e)
  · have hk' : (match ρ.fr k with | some o => some o | none => if k = c then some ob else none) = some x := hk
    split at hk'
    · rename_i e; cases hk'; exact h.frn k x e
    · split at hk'
      · rename_i e
        subst e
        cases ob0 <;> try exact ho0.elim
        exact .inr (ho0.2.2.2.2 rfl)
      · cases hk'
/-- A slice of one's own, taken as it is, for good. N: the blocks that may not be taken. -/
def frzS (N : Nat) (hp : Tr AObj) (v : Value) : Option (Value × Tr AObj × Prop) :=
  match v with
  | .slice (some ⟨b, o, none⟩) n sz => match hp.get b with
    | some (.cells l true) => bif N.ble b then some (tree sz n (chunks sz n (l.drop o)), hp.put b none, o + n * sz ≤ l.length ∧ NLs (l.drop o)) else none
    | _ => none
  | v => some (v, hp, True)
theorem frzS_sound {N : Nat} {ρ : Place} {W : Base} {hp hp' : Tr AObj} {nx : Nat} {w : World} (h : Rel ρ W hp nx w) {v v' u : Value} {ob : Prop} (hv : VR ρ v v') (hf : frzS N hp v = some (u, hp', ob)) (hob : ob) :
    ∃ ρ', Rel ρ' W hp' nx w ∧ Step ρ ρ' hp hp' nx nx ∧ VR ρ' u v' := by
  unfold frzS at hf
  split at hf
  · rename_i b o n sz
    split at hf
    case h_2 => cases hf
    rename_i l hg
    cases hc : N.ble b with
    | false => rw [hc] at hf; cases hf
    | true =>
      rw [hc] at hf
      cases hf
      obtain ⟨hlen, hnl⟩ := hob
      suffices hs : ∃ ρ', Rel ρ' W (hp.put b none) nx w ∧ Step ρ ρ' hp (hp.put b none) nx nx ∧ VR0 ρ'.fr (tree sz n (chunks sz n (l.drop o))) v' by
        obtain ⟨ρ', s1, s2, s3⟩ := hs
        exact ⟨ρ', s1, s2, VR0.lift (ρ := ρ') s3⟩
      cases hv with
      | @slice _ _ _ _ c s zz cap hr h1 h2 =>
        obtain ⟨ob, e0, ho⟩ := h.obj b _ c s zz hg hr
        obtain ⟨g1, g2⟩ := freeze_rel h hg hr e0
        refine ⟨_, g1, ⟨g2, Nat.le_refl _, fun k _ hn => ⟨hn, by rw [Tr.get_put, if_neg (by intro e; subst e; have hr' := hr; rw [hn] at hr'; cases hr')]⟩⟩, ?_⟩
        cases ob <;> try exact ho.elim
        rename_i cs ct fz
        obtain ⟨k1, k2, k3, k4, k5⟩ := ho
        have hlen' : n * sz ≤ (l.drop o).length := by rw [List.length_drop]; omega
        have hmul : n * sz ≤ cap * sz := Nat.mul_le_mul_right _ h1
        refine VR0.tree (o := s + o) (cs := cs) (t := ct) (fz := fz) (by show (match ρ.fr c with | some o => some o | none => if c = c then _ else none) = _; rw [h.apart b _ c s zz hg rfl hr]; dsimp only; rw [if_pos rfl]) (chunks_size hlen') h1 (by omega) (fun i u hu => (chunks_get hlen' hnl hu).2.1) (fun i j u a a' hu ha ha' => ?_)
        obtain ⟨q1, q2, q3⟩ := chunks_get hlen' hnl hu
        obtain ⟨q4, q5⟩ := q3 j a ha
        have q6 := q5
        rw [List.getElem?_drop] at q5
        obtain ⟨a2, e1, e2⟩ := k4 _ a q5
        have : a2 = a' := by
          rw [show s + o + i * sz + j = s + (o + (i * sz + j)) by omega, e1] at ha'
          cases ha'
          rfl
        subst this
        have hn := hnl a (List.mem_of_getElem? q6)
        have h0 : VR0 ρ.fr a a2 := nl1_sound hn e2
        exact h0.mono g2.2
      | @emptySlice _ _ y a' _ hr =>
        obtain ⟨c, s, zz⟩ := y
        obtain ⟨ob, e0, ho⟩ := h.obj b _ c s zz hg hr
        obtain ⟨g1, g2⟩ := freeze_rel h hg hr e0
        refine ⟨_, g1, ⟨g2, Nat.le_refl _, fun k _ hn => ⟨hn, by rw [Tr.get_put, if_neg (by intro e; subst e; have hr' := hr; rw [hn] at hr'; cases hr')]⟩⟩, ?_⟩
        have : chunks sz 0 (l.drop o) = #[] := by
          unfold chunks
          cases sz.beq 1 <;> simp
        rw [this]
        exact .treeNil _ _ _
  · cases hf
    exact ⟨ρ, h, .refl _ _ _, hv⟩
/-- A slot's mark: 1000 and more means that its slice is taken for good. -/
def unmark (t : Nat) : Nat := bif Nat.ble 1000 t then t - 1000 else t
def frzTms (N : Nat) : List Nat → AS → Option (AS × Prop)
  | [], st => some (st, True)
  | t :: ts, st => bif Nat.ble 1000 t then match st.tm.get (t - 1000) with
      | some v => match frzS N st.hp v with
        | some (u, hp', ob) => match frzTms N ts ⟨st.tm.put (t - 1000) (some u), hp', st.nx⟩ with
          | some (st', ob') => some (st', ob ∧ ob')
          | none => none
        | none => none
      | none => none
    else frzTms N ts st
theorem frzTms_sound {N n : Nat} {W : Base} {a : Act} {w : World} : ∀ {ts : List Nat} {st st' : AS} {ρ : Place} {ob : Prop}, SRel ρ W n st a w → frzTms N ts st = some (st', ob) → ob →
    ∃ ρ', SRel ρ' W n st' a w ∧ ρ.le ρ'
  | [], st, st', ρ, ob, h, hf, hob => by
    simp only [frzTms] at hf
    cases hf
    exact ⟨ρ, h, ⟨fun _ _ h => h, fun _ _ h => h⟩⟩
  | t :: ts, st, st', ρ, ob, h, hf, hob => by
    simp only [frzTms] at hf
    cases hc : Nat.ble 1000 t with
    | false =>
      rw [hc] at hf
      exact frzTms_sound h hf hob
    | true =>
      rw [hc, cond_true] at hf
      clear hc
      generalize t - 1000 = q at hf
      split at hf
      case h_2 => cases hf
      rename_i v hv
      split at hf
      case h_2 => cases hf
      rename_i u hp' ob1 hz
      split at hf
      case h_2 => cases hf
      rename_i st1 ob2 hr
      cases hf
      obtain ⟨g0, g1⟩ := h.frame.slot _ _ hv
      obtain ⟨ρ1, k1, k2, k3⟩ := frzS_sound h.rel g1 hz hob.1
      have hs1 : SRel ρ1 W n ⟨st.tm.put q (some u), hp', st.nx⟩ a w := ⟨k1, ⟨h.frame.size, h.frame.defers, fun s x hx => by
        rw [Tr.get_put] at hx
        by_cases e : s = q
        · rw [if_pos e] at hx
          cases hx
          rw [e]
          exact ⟨g0, k3⟩
        · rw [if_neg e] at hx
          exact ⟨(h.frame.slot s x hx).1, (h.frame.slot s x hx).2.mono k2.le⟩⟩⟩
      obtain ⟨ρ2, q1, q2⟩ := frzTms_sound hs1 hr hob.2
      exact ⟨ρ2, q1, ⟨fun b x hb => q2.1 b x (k2.le.1 b x hb), fun c x hc => q2.2 c x (k2.le.2 c x hc)⟩⟩
end Go.Proofs.YtegjnjmimfgijaaGreatDoor
