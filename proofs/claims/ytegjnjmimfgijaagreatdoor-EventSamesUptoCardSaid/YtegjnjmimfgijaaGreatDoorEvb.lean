/-
  Closed runs by evaluation, part 2: operations that do not touch memory. Conditions: as each theorem states them.
-/
import Derived.Test.YtegjnjmimfgijaaGreatDoorEva
noncomputable section
namespace Go.Proofs.YtegjnjmimfgijaaGreatDoor
open Go

def aev (tm : Tr Value) (x : Operand) : Option Value :=
  Operand.rec (motive := fun _ => Tr Value → Option Value) (fun t tm => tm.get t) (fun v _ => Bool.rec (motive := fun _ => Option Value) none (some v) (closed v)) (fun g _ => match glob g with | some cs => bif flats cs then some (treeAt #[.agg cs] 0 0) else none | none => none) (fun f _ => some (.func (.func f) #[] #[])) x tm
theorem aev_const (tm : Tr Value) (v : Value) : aev tm (.const v) = bif closed v then some v else none := by
  show Bool.rec (motive := fun _ => Option Value) none (some v) (closed v) = _
  cases closed v <;> rfl

theorem glob_ev {ρ : Place} {tm : Tr Value} {g : Nat} {v : Value} (hv : aev tm (.global g) = some v) (a : Act) : VR ρ v (a.eval (.global g)) := by
  have hv' : (match glob g with | some cs => bif flats cs then some (treeAt #[.agg cs] 0 0) else none | none => none) = some v := hv
  split at hv'
  case h_2 => cases hv'
  rename_i cs hg
  cases hf : flats cs with
  | false => rw [hf] at hv'; cases hv'
  | true =>
    rw [hf] at hv'
    cases hv'
    obtain ⟨t, fz, hc⟩ := ρ.gl g cs hg
    exact VR.treeAt (c := g) (o := 0) (off := 0) (u := .agg cs) hc rfl (by simp [Value.cells]) fun j v v' h1 h2 => by
      have h1' : cs[j]? = some v := h1
      rw [Nat.zero_add, h1'] at h2
      cases h2
      exact flat_refl0 (all_get hf h1')
/-- The frame: its size, no deferred calls, and the slots that are known. -/
structure FRel (D : List Deferred) (ρ : Place) (tm : Tr Value) (n : Nat) (a : Act) : Prop where
  size : a.tmps.size = n
  defers : a.defers = D
  slot : ∀ t v, tm.get t = some v → t < n ∧ VR ρ v (a.tmps.getD t undef)
theorem FRel.mono {D : List Deferred} {ρ ρ' : Place} {tm : Tr Value} {n : Nat} {a : Act} (h : FRel D ρ tm n a) (hl : ρ.le ρ') : FRel D ρ' tm n a :=
  ⟨h.size, h.defers, fun t v hv => ⟨(h.slot t v hv).1, (h.slot t v hv).2.mono hl⟩⟩
theorem FRel.eval {D : List Deferred} {ρ : Place} {tm : Tr Value} {n : Nat} {a : Act} (h : FRel D ρ tm n a) {x : Operand} {v : Value} (hv : aev tm x = some v) : VR ρ v (a.eval x) := by
  cases x with
  | tmp t => exact (h.slot t v hv).2
  | const u =>
    rw [aev_const] at hv
    cases hc : closed u with
    | true => rw [hc] at hv; cases hv; exact closed_refl hc
    | false => rw [hc] at hv; cases hv
  | global g => exact glob_ev hv a
  | func f => cases hv; exact .func _ rfl (by simp) rfl (by simp)
theorem FRel.put {D : List Deferred} {ρ : Place} {tm : Tr Value} {n : Nat} {a : Act} (h : FRel D ρ tm n a) {d : Nat} {v v' : Value} (hd : d < n) (hv : VR ρ v v') : FRel D ρ (tm.put d (some v)) n (a.put (some d) v') := by
  refine ⟨by simp [Act.put, h.size], h.defers, fun t u hu => ?_⟩
  rw [Tr.get_put] at hu
  by_cases ht : t = d
  · subst ht
    rw [if_pos rfl] at hu
    cases hu
    exact ⟨hd, by simpa [Act.put, Array.getD_eq_getD_getElem?, h.size, hd] using hv⟩
  · rw [if_neg ht] at hu
    have := h.slot t u hu
    refine ⟨this.1, ?_⟩
    simpa [Act.put, Array.getD_eq_getD_getElem?, Array.getElem?_setIfInBounds_ne (Ne.symm ht)] using this.2

/-- What an evaluation of operands knows is right. -/
def ERel (ρ : Place) (ev : Operand → Option Value) (a : Act) : Prop := ∀ x v, ev x = some v → VR ρ v (a.eval x)
theorem ERel.eval {ρ : Place} {ev : Operand → Option Value} {a : Act} (h : ERel ρ ev a) {x : Operand} {v : Value} (hv : ev x = some v) : VR ρ v (a.eval x) := h x v hv
theorem FRel.ev {D : List Deferred} {ρ : Place} {tm : Tr Value} {n : Nat} {a : Act} (h : FRel D ρ tm n a) : ERel ρ (aev tm) a := fun _ _ hv => h.eval hv

theorem bind_run {P : Program} {α β : Type} {s : Sem α} {v : α} (h : pureRun P s = some v) (f : α → Sem β) (w : World) : (s >>= f).run P w = (f v).run P w := by
  induction s with
  | pure a => have h' : some a = some v := h; cases h'; rfl
  | program k ih => exact ih P h
  | mark m k ih => exact ih h
  | _ => exact nomatch (show (none : Option α) = some v from h)

theorem pureRun_bind {P : Program} {α β : Type} {s : Sem α} {v : α} (h : pureRun P s = some v) (f : α → Sem β) : pureRun P (s >>= f) = pureRun P (f v) := by
  induction s with
  | pure a => have h' : some a = some v := h; cases h'; rfl
  | program k ih => exact ih P h
  | mark m k ih => exact ih h
  | _ => exact nomatch (show (none : Option α) = some v from h)

def allClosed (ev : Operand → Option Value) (xs : Array Operand) : Bool := xs.all fun x => match ev x with | some v => closed v | none => false
def isSelect : Op → Bool
  | .select .. => true
  | _ => false
/-- An operation whose operands bear no address and that touches no memory. -/
def scalar (P : Program) (o : Oper) (ev : Operand → Option Value) : Option Value :=
  bif allClosed ev o.op.operands && !isSelect o.op then
    match pureRun P (execOp (fun x => (ev x).getD undef) o) with
    | some (.value v) => bif closed v then some v else none
    | _ => none
  else none
theorem scalar_sound {P : Program} {ρ : Place} {ev : Operand → Option Value} {a : Act} (hF : ERel ρ ev a) {o : Oper} {v : Value} (h : scalar P o ev = some v) (w : World) :
    ∃ v', (execOp a.eval o).run P w = .ok (.value v') w ∧ VR ρ v v' := by
  unfold scalar at h
  cases hc : allClosed ev o.op.operands && !isSelect o.op with
  | false => rw [hc] at h; cases h
  | true =>
    rw [hc, cond_true] at h
    simp only [Bool.and_eq_true] at hc
    obtain ⟨hc, hs⟩ := hc
    have he : execOp a.eval o = execOp (fun x => (ev x).getD undef) o := by
      refine execOp_congr o (fun cs b e => by rw [e] at hs; cases hs) fun x hx => ?_
      have := Array.all_eq_true_iff_forall_mem.1 hc x hx
      cases hv : ev x with
      | none => rw [hv] at this; cases this
      | some u => rw [hv] at this; exact closed_eq this (hF.eval hv)
    rw [he]
    cases hr : pureRun P (execOp (fun x => (ev x).getD undef) o) with
    | none => rw [hr] at h; cases h
    | some nx =>
      rw [hr] at h
      cases nx <;> try cases h
      rename_i u
      cases hu : closed u with
      | false => simp [hu] at h
      | true =>
        simp [hu] at h
        subst h
        exact ⟨u, pureRun_run hr w, closed_refl hu⟩

theorem VR.cells {ρ : Place} {v v' : Value} (h : VR ρ v v') : VRA ρ v.cells v'.cells := by
  cases h with
  | agg hs hc => exact ⟨hs, hc⟩
  | _ =>
    refine ⟨rfl, fun i u u' hu hu' => ?_⟩
    simp only [Value.cells] at hu hu'
    cases i with
    | zero =>
      simp at hu hu'
      subst hu hu'
      constructor <;> assumption
    | succ i => simp at hu

/-- A part of a struct or an array. -/
def aPart (P : Program) (t : TypeId) (cs : Array Value) (off : Nat) : Option Value :=
  match pureRun P (isAgg t) with
  | some true => match pureRun P (sizeOf t) with
    | some z => some (.agg (cs.extract off (off + z)))
    | none => none
  | some false => cs[off]?
  | none => none
theorem aPart_sound {P : Program} {ρ : Place} {t : TypeId} {cs cs' : Array Value} {off : Nat} {v : Value} (hc : VRA ρ cs cs') (h : aPart P t cs off = some v) (w : World) :
    ∃ v', (part t cs' off).run P w = .ok v' w ∧ VR ρ v v' := by
  unfold aPart at h
  unfold part
  cases hi : pureRun P (isAgg t) with
  | none => rw [hi] at h; cases h
  | some b =>
    rw [bind_run hi]
    rw [hi] at h
    cases b with
    | true =>
      simp only [if_true]
      cases hz : pureRun P (sizeOf t) with
      | none => rw [hz] at h; cases h
      | some z =>
        rw [hz] at h
        cases h
        rw [bind_run hz]
        refine ⟨_, rfl, .agg ?_ fun i u u' hu hu' => ?_⟩
        · simp [hc.1]
        · rw [Array.getElem?_extract] at hu hu'
          split at hu
          · split at hu'
            · exact hc.2 _ _ _ hu hu'
            · cases hu'
          · cases hu
    | false =>
      simp only [Bool.false_eq_true, if_false]
      have h' : cs[off]? = some v := h
      obtain ⟨v', e, hv⟩ := hc.get h'
      rw [e]
      exact ⟨v', rfl, hv⟩

def aField (P : Program) (t : TypeId) (x : Value) (f : Nat) : Option Value :=
  match x with
  | .agg cs => match P.underlying t with
    | some (.struct fields) => match fields[f]? with
      | some fd => aPart P fd.type cs fd.offset
      | none => none
    | _ => none
  | _ => none
theorem underlying_pure {P : Program} {t : TypeId} {d : TypeDesc} (h : P.underlying t = some d) : pureRun P (underlying t) = some d := by
  unfold underlying
  show pureRun P (match P.underlying t with | some d => (pure d : Sem TypeDesc) | none => stuck "no such type") = some d
  rw [h]
  rfl
theorem aField_sound {P : Program} {ρ : Place} {t : TypeId} {x x' : Value} {f : Nat} {v : Value} (hx : VR ρ x x') (h : aField P t x f = some v) (w : World) :
    ∃ v', (Instr.field t x' f).run P w = .ok v' w ∧ VR ρ v v' := by
  unfold aField at h
  cases hx <;> simp only [reduceCtorEq] at h
  case agg cs cs' hs hc =>
    cases hu : P.underlying t with
    | none => rw [hu] at h; cases h
    | some d =>
      rw [hu] at h
      cases d <;> simp only [reduceCtorEq] at h
      case struct fields =>
        cases hf : fields[f]? with
        | none => rw [hf] at h; cases h
        | some fd =>
          rw [hf] at h
          unfold Instr.field
          rw [bind_run (underlying_pure hu)]
          simp only [hf]
          exact aPart_sound ⟨hs, hc⟩ h w

def aIndex (P : Program) (t : TypeId) (x i : Value) : Option Value :=
  match x, i with
  | .agg cs, .int _ n => match P.underlying t with
    | some (.array len elem) => bif decide (0 ≤ n ∧ n < len) then
        match pureRun P (sizeOf elem) with
        | some z => aPart P elem cs (n.toNat * z)
        | none => none
      else none
    | _ => none
  | _, _ => none
theorem aIndex_sound {P : Program} {ρ : Place} {t : TypeId} {x x' i i' : Value} {v : Value} (hx : VR ρ x x') (hi : VR ρ i i') (h : aIndex P t x i = some v) (w : World) :
    ∃ v', (Instr.index t x' i').run P w = .ok v' w ∧ VR ρ v v' := by
  unfold aIndex at h
  cases hx <;> try simp only [reduceCtorEq] at h
  case agg cs cs' hs hc =>
    cases hi <;> try simp only [reduceCtorEq] at h
    case int k n =>
      cases hu : P.underlying t with
      | none => rw [hu] at h; cases h
      | some d =>
        rw [hu] at h
        cases d <;> simp only [reduceCtorEq] at h
        case array len elem =>
          cases hb : decide (0 ≤ n ∧ n < (len : Int)) with
          | false => rw [hb] at h; cases h
          | true =>
            rw [hb, cond_true] at h
            have hb' := of_decide_eq_true hb
            cases hz : pureRun P (sizeOf elem) with
            | none => rw [hz] at h; cases h
            | some z =>
              rw [hz] at h
              unfold Instr.index
              show ∃ v', ((underlying t) >>= _).run P w = _ ∧ _
              rw [bind_run (underlying_pure hu)]
              dsimp only
              rw [if_pos hb', bind_run hz]
              exact aPart_sound ⟨hs, hc⟩ h w

/-- Parts of a composite value, put into their places. -/
inductive Parts (ρ : Place) : List (Nat × Value) → List (Nat × Value) → Prop where
  | nil : Parts ρ [] []
  | cons (i : Nat) {v v' : Value} {l l' : List (Nat × Value)} : VR ρ v v' → Parts ρ l l' → Parts ρ ((i, v) :: l) ((i, v') :: l')
theorem VRA.set {ρ : Place} {c c' : Array Value} (h : VRA ρ c c') (i : Nat) {v v' : Value} (hv : VR ρ v v') : VRA ρ (c.setIfInBounds i v) (c'.setIfInBounds i v') := by
  refine ⟨by simp [h.1], fun j u u' hu hu' => ?_⟩
  rw [Array.getElem?_setIfInBounds] at hu hu'
  by_cases hij : i = j
  · rw [if_pos hij] at hu hu'
    split at hu
    · split at hu'
      · cases hu; cases hu'; exact hv
      · cases hu'
    · cases hu
  · rw [if_neg hij] at hu hu'
    exact h.2 j u u' hu hu'
theorem foldl_set_list {ρ : Place} (off : Nat) : ∀ (l l' : List (Value × Nat)) (c c' : Array Value), l.length = l'.length → (∀ k : Nat, ∀ x x', l[k]? = some x → l'[k]? = some x' → VR ρ x.1 x'.1 ∧ x.2 = x'.2) → VRA ρ c c' →
    VRA ρ (l.foldl (fun cs (p : Value × Nat) => cs.setIfInBounds (off + p.2) p.1) c) (l'.foldl (fun cs (p : Value × Nat) => cs.setIfInBounds (off + p.2) p.1) c')
  | [], [], _, _, _, _, h => h
  | [], _ :: _, _, _, hl, _, _ => by simp at hl
  | _ :: _, [], _, _, hl, _, _ => by simp at hl
  | (v, j) :: l, (v', j') :: l', c, c', hl, hx, h => by
    have h0 := hx 0 (v, j) (v', j') rfl rfl
    have hj : j = j' := h0.2
    subst hj
    simp only [List.foldl_cons]
    exact foldl_set_list off l l' _ _ (by simpa using hl) (fun k x x' a b => hx (k + 1) x x' a b) (h.set _ h0.1)
theorem foldl_set {ρ : Place} (off : Nat) {d d' c c' : Array Value} (hd : VRA ρ d d') (hc : VRA ρ c c') :
    VRA ρ (d.zipIdx.foldl (fun cs (x, j) => cs.setIfInBounds (off + j) x) c) (d'.zipIdx.foldl (fun cs (x, j) => cs.setIfInBounds (off + j) x) c') := by
  rw [← Array.foldl_toList, ← Array.foldl_toList, Array.toList_zipIdx, Array.toList_zipIdx]
  refine foldl_set_list off _ _ c c' (by simp [hd.1]) (fun k x x' hx hx' => ?_) hc
  simp only [List.getElem?_zipIdx, Option.map_eq_some_iff] at hx hx'
  obtain ⟨v, hv, rfl⟩ := hx
  obtain ⟨v', hv', rfl⟩ := hx'
  exact ⟨hd.2 k v v' (by simpa using hv) (by simpa using hv'), rfl⟩
theorem fill_rel {ρ : Place} (place : Nat → Option (Nat × Nat)) : ∀ {l l' : List (Nat × Value)} {c c' r : Array Value}, Parts ρ l l' → VRA ρ c c' → Instr.fill place c l = some r →
    ∃ r', Instr.fill place c' l' = some r' ∧ VRA ρ r r' := by
  intro l l' c c' r hp
  induction hp generalizing c c' with
  | nil => intro hc h; simp only [Instr.fill] at h; cases h; exact ⟨c', rfl, hc⟩
  | cons i hv _ ih =>
    intro hc h
    simp only [Instr.fill] at h ⊢
    cases hpl : place i with
    | none => rw [hpl] at h; cases h
    | some oz =>
      obtain ⟨off, size⟩ := oz
      rw [hpl] at h
      simp only at h ⊢
      have hcl := hv.cells
      rw [← hcl.1, ← hc.1]
      split at h
      · cases h
      · rename_i hn
        rw [if_neg hn]
        exact ih (foldl_set off hcl hc) h

def aBuild (P : Program) (t : TypeId) (ps : List (Nat × Value)) : Option Value :=
  match pureRun P (zeroValue t), P.underlying t with
  | some z, some (.struct fields) => bif flats z.cells then
      match pureRun P (fields.mapM fun f => do pure (f.offset, ← sizeOf f.type)) with
      | some places => (Instr.fill (places[·]?) z.cells ps).map .agg
      | none => none
    else none
  | some z, some (.array _ elem) => bif flats z.cells then
      match pureRun P (sizeOf elem) with
      | some size => (Instr.fill (fun i => some (i * size, size)) z.cells ps).map .agg
      | none => none
    else none
  | _, _ => none
theorem flats_refl {ρ : Place} {c : Array Value} (h : flats c = true) : VRA ρ c c := ⟨rfl, arr_refl (fun _ => flat_refl) h⟩
theorem aBuild_sound {P : Program} {ρ : Place} {t : TypeId} {ps ps' : List (Nat × Value)} {v : Value} (hp : Parts ρ ps ps') (h : aBuild P t ps = some v) (w : World) :
    ∃ v', (Instr.build t ps'.toArray).run P w = .ok v' w ∧ VR ρ v v' := by
  unfold aBuild at h
  unfold Instr.build
  cases hz : pureRun P (zeroValue t) with
  | none => rw [hz] at h; cases h
  | some z =>
    rw [hz] at h
    rw [bind_run hz]
    cases hu : P.underlying t with
    | none => rw [hu] at h; cases h
    | some d =>
      rw [hu] at h
      dsimp only
      rw [bind_run (underlying_pure hu)]
      cases d <;> simp only [reduceCtorEq] at h
      case struct fields =>
        cases hf : flats z.cells with
        | false => rw [hf] at h; cases h
        | true =>
          rw [hf, cond_true] at h
          cases hpl : pureRun P (fields.mapM fun f => do pure (f.offset, ← sizeOf f.type)) with
          | none => rw [hpl] at h; cases h
          | some places =>
            rw [hpl] at h
            simp only [Option.map_eq_some_iff] at h
            obtain ⟨r, hr, rfl⟩ := h
            obtain ⟨r', e, hv⟩ := fill_rel _ hp (flats_refl hf) hr
            dsimp only
            rw [bind_run hpl]
            simp only [e]
            exact ⟨_, rfl, .agg hv.1 hv.2⟩
      case array len elem =>
        cases hf : flats z.cells with
        | false => rw [hf] at h; cases h
        | true =>
          rw [hf, cond_true] at h
          cases hpl : pureRun P (sizeOf elem) with
          | none => rw [hpl] at h; cases h
          | some size =>
            rw [hpl] at h
            simp only [Option.map_eq_some_iff] at h
            obtain ⟨r, hr, rfl⟩ := h
            obtain ⟨r', e, hv⟩ := fill_rel _ hp (flats_refl hf) hr
            dsimp only
            rw [bind_run hpl]
            simp only [e]
            exact ⟨_, rfl, .agg hv.1 hv.2⟩
end Go.Proofs.YtegjnjmimfgijaaGreatDoor
