/-
  Closed runs by evaluation, part 12: one operation of any kind; regions in the text's order. Conditions: as each theorem states them.
-/
import Derived.Test.YtegjnjmimfgijaaGreatDoorEvk
noncomputable section
namespace Go.Proofs.YtegjnjmimfgijaaGreatDoor
open Go Go.RowKit

abbrev ACall := FuncId → List Value → Tr AObj → Nat → Option (Value × Tr AObj × Nat)
/-- An evaluator of calls is right. -/
def CallOk (P : Program) (W : Base) (call : ACall) : Prop :=
  ∀ f args hp nx v hp' nx', call f args hp nx = some (v, hp', nx') → ∀ ρ w args', Rel ρ W hp nx w → VRL ρ args args' →
    Calls P f args'.toArray w fun e w' => ∃ v' ρ', e = .returned v' ∧ VR ρ' v v' ∧ Rel ρ' W hp' nx' w' ∧ Step ρ ρ' hp hp' nx nx'

def enters (P : Program) (f : FuncId) : Bool :=
  match P.funcs[f]? with
  | some fn => fn.body.isSome && !(fn.name == "runtime.NumGoroutine")
  | none => false
theorem enters_run {P : Program} {f : FuncId} (h : enters P f = true) (args : Array Value) : pureRun P (callFunc f args) = some (.enter f args) := by
  unfold enters at h
  unfold callFunc
  show pureRun P (match P.funcs[f]? with | none => _ | some fn => _) = _
  cases hf : P.funcs[f]? with
  | none => rw [hf] at h; cases h
  | some fn =>
    rw [hf] at h
    simp only [Bool.and_eq_true, Bool.not_eq_true'] at h
    dsimp only
    rw [if_neg (by rw [h.2]; simp), if_neg (by cases hb : fn.body with | none => rw [hb] at h; simp at h | some b => simp)]
    rfl
/-- Operations that write, and calls. -/
def aheavy (P : Program) (call : ACall) (hp : Tr AObj) (nx : Nat) (o : Oper) (ev : Operand → Option Value) : Option (Value × Tr AObj × Nat) :=
  match o.op with
  | .store t x y => match ev x, ev y with
    | some p, some v => match aStore P hp t p v with
      | some hp' => some (undef, hp', nx)
      | none => none
    | _, _ => none
  | .next x q => match ev x with
    | some p => match aNext hp p q with
      | some (v, hp') => some (v, hp', nx)
      | none => none
    | none => none
  | .call c => match c.callee with
    | .builtin .append => match evL ev c.args.toList with
      | some args => aAppend P hp nx c.argTypes args.toArray
      | none => none
    | .value f => match ev f, evL ev c.args.toList with
      | some (.func (.func k) first captured), some args => bif enters P k then call k (first.toList ++ args ++ captured.toList) hp nx else none
      | _, _ => none
    | _ => none
  | _ => none
theorem aheavy_sound {P : Program} {call : ACall} {ρ : Place} {W : Base} (hcall : CallOk P W call) {hp hp' : Tr AObj} {nx nx' : Nat} {w : World} (h : Rel ρ W hp nx w) {ev : Operand → Option Value} {a : Act} (hF : ERel ρ ev a) {o : Oper} {v : Value}
    (hs : aheavy P call hp nx o ev = some (v, hp', nx')) {next : Act → World → Prop} {Q : Exit → Act → World → Prop}
    (hk : ∀ v' w' ρ', VR ρ' v v' → Rel ρ' W hp' nx' w' → Step ρ ρ' hp hp' nx nx' → next (a.put o.dst v') w') : o.wp P a w next Q := by
  obtain ⟨dst, op, type, pos, after, guard⟩ := o
  unfold aheavy at hs
  unfold Oper.wp
  cases op <;> dsimp only at hs <;> try (cases hs)
  case store t x y =>
    split at hs
    case h_2 => cases hs
    rename_i p u hx hy
    split at hs
    case h_2 => cases hs
    rename_i hq hst
    cases hs
    obtain ⟨w', h1, h2, h3⟩ := aStore_sound h (hF.eval hx) (hF.eval hy) hst
    have : (execOp a.eval ⟨dst, .store t x y, type, pos, after, guard⟩).run P w = .ok .skip w' := by
      show ((Instr.storeAt t (a.eval x) (a.eval y)) >>= fun _ => pure Next.skip).run P w = _
      rw [Sem.run_bind, h1, Result.andThen_ok]
      rfl
    rw [this]
    exact hk undef w' ρ (closed_refl (by simp [undef, closed])) h2 h3
  case next x q =>
    split at hs
    case h_2 => cases hs
    rename_i p hx
    split at hs
    case h_2 => cases hs
    rename_i u hq hst
    cases hs
    obtain ⟨v', w', h1, h2, h3, h4⟩ := aNext_sound (P := P) (t := type) h (hF.eval hx) hst
    have : (execOp a.eval ⟨dst, .next x q, type, pos, after, guard⟩).run P w = .ok (.value v') w' := value_run h1
    rw [this]
    exact hk v' w' ρ h2 h3 h4
  case call c =>
    obtain ⟨callee, args, argTypes⟩ := c
    dsimp only at hs
    split at hs
    · split at hs
      case h_2 => cases hs
      rename_i as0 has
      have hA := (evL_sound hF has).arr
      have e1 : (args.toList.map a.eval).toArray = args.map a.eval := by apply Array.ext'; simp
      rw [e1] at hA
      obtain ⟨v', w', ρ', h1, h2, h3, h4⟩ := aAppend_sound (P := P) (ty := type) h hA hs
      have : (execOp a.eval ⟨dst, .call ⟨.builtin .append, args, argTypes⟩, type, pos, after, guard⟩).run P w = .ok (.value v') w' := by
        show ((Builtin.append_ argTypes type (args.map a.eval)) >>= fun r => pure (Next.value r)).run P w = _
        exact value_run h1
      rw [this]
      exact hk v' w' ρ' h2 h3 h4
    · rename_i f
      split at hs
      case h_2 => cases hs
      rename_i k first captured as0 hf has
      cases he : enters P k with
      | false => rw [he] at hs; cases hs
      | true =>
        rw [he, cond_true] at hs
        have hfv := hF.eval hf
        generalize hE : a.eval f = E at hfv
        cases hfv
        rename_i first' captured' s1 v1 s2 v2
        have hA := evL_sound hF has
        have hL := ((VRA.list ⟨s1, v1⟩).append hA).append (VRA.list ⟨s2, v2⟩)
        have hc := hcall k _ hp nx v hp' nx' hs ρ w _ h hL
        have e2 : (first'.toList ++ args.toList.map a.eval ++ captured'.toList).toArray = first' ++ args.map a.eval ++ captured' := by apply Array.ext'; simp
        rw [e2] at hc
        have : (execOp a.eval ⟨dst, .call ⟨.value f, args, argTypes⟩, type, pos, after, guard⟩).run P w = .ok (.enter k (first' ++ args.map a.eval ++ captured')) w := by
          unfold execOp
          simp only [resolve, hE]
          show (callFunc k (first' ++ args.map a.eval ++ captured')).run P w = _
          exact pureRun_run (enters_run he _) w
        rw [this]
        refine hc.mono ?_
        rintro e w' ⟨v', ρ', rfl, h2, h3, h4⟩
        exact hk v' w' ρ' h2 h3 h4
    · cases hs

/-- Operations that write nothing: a value, or a new block. -/
inductive LRes where
  | val (v : Value)
  | new (ob : AObj) (nv : NewV)
def alight (P : Program) (hp : Tr AObj) (o : Oper) (ev : Operand → Option Value) : Option LRes :=
  match o.op with
  | .load .. => (aread P hp o ev).map .val
  | .alloc .. | .box .. | .buildSlice .. | .makeSlice .. | .range .. => (anew P o ev).map fun p => .new p.1 p.2
  | .convert _ _ x => match ev x with
    | some (.slice (some _) _ _) => (aread P hp o ev).map .val
    | some (.string _) => match apure P o ev with
      | some v => some (.val v)
      | none => (anew P o ev).map fun p => .new p.1 p.2
    | _ => (apure P o ev).map .val
  | _ => (apure P o ev).map .val
/-- What such an operation does. -/
def LightRuns (P : Program) (ρ : Place) (o : Oper) (a : Act) (w : World) : LRes → Prop
  | .val v => ∃ v', (execOp a.eval o).run P w = .ok (.value v') w ∧ VR ρ v v'
  | .new ob nv => ∃ v' ob' d z, (execOp a.eval o).run P w = .ok (.value v') (pushed { w with drawn := d } ob') ∧ (∀ O : Nat → Prop, ¬ O w.heap.size → ORel ρ O w.heap.size 0 z ob ob') ∧ (∀ ρ' b, ρ' b = some (w.heap.size, 0, z) → VR ρ' (nv.val b) v')
theorem alight_sound {P : Program} {ρ : Place} {W : Base} {hp : Tr AObj} {nx : Nat} {w : World} (h : Rel ρ W hp nx w) {ev : Operand → Option Value} {a : Act} (hF : ERel ρ ev a) {o : Oper} {r : LRes} (hs : alight P hp o ev = some r) : LightRuns P ρ o a w r := by
  have hp1 : ∀ {v}, apure P o ev = some v → LightRuns P ρ o a w (.val v) := fun hv => apure_sound hF hv w
  have hr1 : ∀ {v}, aread P hp o ev = some v → LightRuns P ρ o a w (.val v) := fun hv => aread_sound h hF hv
  have hn1 : ∀ {p}, anew P o ev = some p → LightRuns P ρ o a w (.new p.1 p.2) := fun {p} hv => anew_sound hF (ob := p.1) (nv := p.2) hv w
  unfold alight at hs
  split at hs
  case h_1 => simp only [Option.map_eq_some_iff] at hs; obtain ⟨v, hv, rfl⟩ := hs; exact hr1 hv
  case h_7 =>
    split at hs
    · simp only [Option.map_eq_some_iff] at hs; obtain ⟨v, hv, rfl⟩ := hs; exact hr1 hv
    · split at hs
      · rename_i v hv; cases hs; exact hp1 hv
      · simp only [Option.map_eq_some_iff] at hs; obtain ⟨p, hv, rfl⟩ := hs; exact hn1 hv
    · simp only [Option.map_eq_some_iff] at hs; obtain ⟨v, hv, rfl⟩ := hs; exact hp1 hv
  case h_8 => simp only [Option.map_eq_some_iff] at hs; obtain ⟨v, hv, rfl⟩ := hs; exact hp1 hv
  all_goals (simp only [Option.map_eq_some_iff] at hs; obtain ⟨p, hv, rfl⟩ := hs; exact hn1 hv)

def isHeavy : Op → Bool
  | .store .. | .next .. | .panic _ => true
  | .call c => match c.callee with
    | .builtin .append | .builtin .panic | .value _ | .invoke _ _ => true
    | _ => false
  | _ => false
def aany0 (P : Program) (call : ACall) (hp : Tr AObj) (nx : Nat) (o : Oper) (ev : Operand → Option Value) : Option (Value × Tr AObj × Nat) :=
  match (bif isHeavy o.op then aheavy P call hp nx o ev else none) with
  | some r => some r
  | none => match alight P hp o ev with
    | some (.val v) => some (v, hp, nx)
    | some (.new ob nv) => some (nv.val nx, hp.put nx (some ob), nx + 1)
    | none => none
def kval (hp : Tr AObj) (nx : Nat) : Option Value → Option (Value × Tr AObj × Nat)
  | some v => some (v, hp, nx)
  | none => none
def korelse (x y : Option (Value × Tr AObj × Nat)) : Option (Value × Tr AObj × Nat) :=
  match x with
  | some r => some r
  | none => y
def kbind (x : Option Value) (f : Value → Option Value) : Option Value :=
  match x with
  | some v => f v
  | none => none
def kpick (hp : Tr AObj) (nx : Nat) (c x y : Option Value) : Option (Value × Tr AObj × Nat) :=
  match c with
  | some (.bool true) => kval hp nx x
  | some (.bool false) => kval hp nx y
  | _ => none
def kextract (x : Option Value) (i : Nat) : Option Value :=
  match x with
  | some (.tuple vs) => vs[i]?
  | _ => none
def kbox (hp : Tr AObj) (nx : Nat) (x : Option Value) : Option (Value × Tr AObj × Nat) :=
  match x with
  | some v => some (.pointer (some ⟨nx, 0, none⟩), hp.put nx (some (.cells v.cells.toList true)), nx + 1)
  | none => none
def kstore (P : Program) (hp : Tr AObj) (nx : Nat) (t : TypeId) (x y : Option Value) : Option (Value × Tr AObj × Nat) :=
  match x, y with
  | some p, some v => match aStore P hp t p v with
    | some hp' => some (undef, hp', nx)
    | none => none
  | _, _ => none
/-- The table of operations (its entries are closed terms: the kernel does not copy them). -/
def ktab (op : Op) : Program → ACall → Tr AObj → Nat → Oper → (Operand → Option Value) → Option (Value × Tr AObj × Nat) :=
  Op.rec (motive := fun _ => Program → ACall → Tr AObj → Nat → Oper → (Operand → Option Value) → Option (Value × Tr AObj × Nat))
    (fun x _ _ hp nx _ ev => kval hp nx (ev x))
    (fun x _ _ hp nx _ ev => kval hp nx (ev x))
    (fun c x y _ _ hp nx _ ev => kpick hp nx (ev c) (ev x) (ev y))
    (fun _ P call hp nx o ev => aany0 P call hp nx o ev)
    (fun _ x _ _ hp nx _ ev => kbox hp nx (ev x))
    (fun _ _ P call hp nx o ev => aany0 P call hp nx o ev)
    (fun _ _ _ P call hp nx o ev => aany0 P call hp nx o ev)
    (fun _ _ _ _ P call hp nx o ev => aany0 P call hp nx o ev)
    (fun t x P _ hp nx _ ev => kval hp nx (kbind (ev x) (aLoad P hp t)))
    (fun t x y P call hp nx o ev => korelse (kstore P hp nx t (ev x) (ev y)) (aany0 P call hp nx o ev))
    (fun _ P call hp nx o ev => aany0 P call hp nx o ev)
    (fun _ P call hp nx o ev => aany0 P call hp nx o ev)
    (fun _ P call hp nx o ev => aany0 P call hp nx o ev)
    (fun _ _ _ _ _ P call hp nx o ev => aany0 P call hp nx o ev)
    (fun _ _ _ P call hp nx o ev => aany0 P call hp nx o ev)
    (fun _ _ _ P call hp nx o ev => aany0 P call hp nx o ev)
    (fun _ _ P call hp nx o ev => aany0 P call hp nx o ev)
    (fun _ _ P call hp nx o ev => aany0 P call hp nx o ev)
    (fun _ _ _ P call hp nx o ev => aany0 P call hp nx o ev)
    (fun _ _ P call hp nx o ev => aany0 P call hp nx o ev)
    (fun _ _ P call hp nx o ev => aany0 P call hp nx o ev)
    (fun _ _ _ P call hp nx o ev => aany0 P call hp nx o ev)
    (fun _ _ _ _ _ P call hp nx o ev => aany0 P call hp nx o ev)
    (fun t x f P _ hp nx _ ev => kval hp nx (kbind (ev x) fun v => aFieldAddr P t v f))
    (fun _ _ _ P call hp nx o ev => aany0 P call hp nx o ev)
    (fun _ _ _ P call hp nx o ev => aany0 P call hp nx o ev)
    (fun _ _ _ P call hp nx o ev => aany0 P call hp nx o ev)
    (fun _ _ _ _ P call hp nx o ev => aany0 P call hp nx o ev)
    (fun _ _ _ _ P call hp nx o ev => aany0 P call hp nx o ev)
    (fun _ _ _ P call hp nx o ev => aany0 P call hp nx o ev)
    (fun _ _ _ _ P call hp nx o ev => aany0 P call hp nx o ev)
    (fun _ _ P call hp nx o ev => aany0 P call hp nx o ev)
    (fun _ _ P call hp nx o ev => aany0 P call hp nx o ev)
    (fun _ P call hp nx o ev => aany0 P call hp nx o ev)
    (fun _ _ _ _ P call hp nx o ev => aany0 P call hp nx o ev)
    (fun x i _ _ hp nx _ ev => kval hp nx (kextract (ev x) i))
    (fun _ P call hp nx o ev => aany0 P call hp nx o ev)
    (fun _ P call hp nx o ev => aany0 P call hp nx o ev)
    (fun _ P call hp nx o ev => aany0 P call hp nx o ev)
    (fun _ P call hp nx o ev => aany0 P call hp nx o ev)
    (fun _ _ P call hp nx o ev => aany0 P call hp nx o ev)
    (fun _ _ _ P call hp nx o ev => aany0 P call hp nx o ev)
    (fun _ _ P call hp nx o ev => aany0 P call hp nx o ev) op
def aany (P : Program) (call : ACall) (hp : Tr AObj) (nx : Nat) (o : Oper) (ev : Operand → Option Value) : Option (Value × Tr AObj × Nat) := ktab o.op P call hp nx o ev
theorem aany_eq (P : Program) (call : ACall) (hp : Tr AObj) (nx : Nat) (o : Oper) (ev : Operand → Option Value) : aany P call hp nx o ev = aany0 P call hp nx o ev := by
  obtain ⟨dst, op, type, pos, after, guard⟩ := o
  unfold aany
  cases op <;> try rfl
  case move x => show kval hp nx (ev x) = _; unfold aany0 alight apure isHeavy; dsimp only; cases ev x <;> rfl
  case assign x => show kval hp nx (ev x) = _; unfold aany0 alight apure isHeavy; dsimp only; cases ev x <;> rfl
  case pick c x y =>
    show kpick hp nx (ev c) (ev x) (ev y) = _
    unfold aany0 alight apure isHeavy kpick
    dsimp only
    cases ev c with
    | none => rfl
    | some v =>
      cases v <;> try rfl
      rename_i b
      cases b
      · cases ev y <;> rfl
      · cases ev x <;> rfl
  case load t x =>
    show kval hp nx (kbind (ev x) (aLoad P hp t)) = _
    unfold aany0 alight aread isHeavy kbind
    dsimp only
    cases ev x with
    | none => rfl
    | some v => dsimp only; cases aLoad P hp t v <;> rfl
  case fieldAddr t x f =>
    show kval hp nx (kbind (ev x) fun v => aFieldAddr P t v f) = _
    unfold aany0 alight apure isHeavy kbind
    dsimp only
    cases ev x with
    | none => rfl
    | some v => dsimp only; cases aFieldAddr P t v f <;> rfl
  case extract x i =>
    show kval hp nx (kextract (ev x) i) = _
    unfold aany0 alight apure isHeavy kextract
    dsimp only
    cases ev x with
    | none => rfl
    | some v =>
      cases v <;> try rfl
      rename_i vs
      dsimp only
      cases vs[i]? <;> rfl
  case box t x =>
    show kbox hp nx (ev x) = _
    unfold aany0 alight anew isHeavy kbox
    dsimp only
    cases ev x <;> rfl
  case store t x y =>
    have hk : aheavy P call hp nx ⟨dst, .store t x y, type, pos, after, guard⟩ ev = kstore P hp nx t (ev x) (ev y) := rfl
    show korelse (kstore P hp nx t (ev x) (ev y)) (aany0 P call hp nx ⟨dst, .store t x y, type, pos, after, guard⟩ ev) = _
    cases hr : kstore P hp nx t (ev x) (ev y) with
    | none => rfl
    | some r =>
      unfold aany0
      rw [hk, hr]
      rfl
theorem Rel.at_drawn {ρ : Place} {W : Base} {hp : Tr AObj} {nx : Nat} {w : World} (h : Rel ρ W hp nx w) (d : Nat) : Rel ρ W hp nx { w with drawn := d } :=
  ⟨h.dom, h.obj, h.inj, h.fresh, ⟨h.below.os, h.below.tape, h.below.output, h.below.size, h.below.block⟩, h.frz, h.apart, h.frn⟩
theorem Rel.dom_none {ρ : Place} {W : Base} {hp : Tr AObj} {nx : Nat} {w : World} (h : Rel ρ W hp nx w) : ρ nx = none := by
  cases hc : ρ nx with
  | none => rfl
  | some x => have := (h.dom nx x hc).1; omega
theorem aany_sound {P : Program} {call : ACall} {ρ : Place} {W : Base} (hcall : CallOk P W call) {hp hp' : Tr AObj} {nx nx' : Nat} {w : World} (h : Rel ρ W hp nx w) {ev : Operand → Option Value} {a : Act} (hF : ERel ρ ev a) {o : Oper} {v : Value}
    (hs : aany P call hp nx o ev = some (v, hp', nx')) {next : Act → World → Prop} {Q : Exit → Act → World → Prop}
    (hk : ∀ v' w' ρ', VR ρ' v v' → Rel ρ' W hp' nx' w' → Step ρ ρ' hp hp' nx nx' → next (a.put o.dst v') w') : o.wp P a w next Q := by
  rw [aany_eq] at hs
  unfold aany0 at hs
  split at hs
  · rename_i r hr
    cases hs
    cases hh : isHeavy o.op with
    | false => rw [hh] at hr; cases hr
    | true => rw [hh, cond_true] at hr; exact aheavy_sound hcall h hF hr hk
  · split at hs
    · rename_i u hl
      cases hs
      obtain ⟨v', h1, h2⟩ := alight_sound (r := .val _) h hF hl
      unfold Oper.wp
      rw [h1]
      exact hk v' w ρ h2 h (.refl _ _ _)
    · rename_i ob nv hl
      cases hs
      obtain ⟨v', ob', d, z, h1, h2, h3⟩ := alight_sound (r := .new _ _) h hF hl
      unfold Oper.wp
      rw [h1]
      have hrel := ((h.at_drawn d).reserve ob).realize (b := nx) (z := z) (ob := ob') (by omega) h.dom_none (by rw [Tr.get_put, if_pos rfl]) (h2 _ h.below.fresh)
      refine hk v' _ _ (h3 _ _ (Place.set_same ρ nx _)) hrel ⟨Place.le_set h.dom_none, by omega, fun b hb hr => ⟨by rw [Place.set_other (by omega)]; exact hr, by rw [Tr.get_put, if_neg (by omega)]⟩⟩
    · cases hs

structure AS where
  tm : Tr Value
  hp : Tr AObj
  nx : Nat
def awanted (ops : Array Oper) (tm : Tr Value) (o : Oper) : Option Bool :=
  match o.guard with
  | none => some true
  | some (j, want) => match (ops[j]?).bind (·.dst) with
    | none => some false
    | some d => match tm.get d with
      | some (.bool b) => some (b == want)
      | some _ => some false
      | none => none
theorem awanted_sound {D : List Deferred} {ρ : Place} {tm : Tr Value} {n : Nat} {a : Act} (hF : FRel D ρ tm n a) {ops : Array Oper} {o : Oper} {b : Bool} (h : awanted ops tm o = some b) : Region.wanted o (yielded ops a.tmps) = b := by
  unfold awanted at h
  unfold Region.wanted
  cases hg : o.guard with
  | none => rw [hg] at h; cases h; rfl
  | some p =>
    obtain ⟨j, want⟩ := p
    rw [hg] at h
    dsimp only at h ⊢
    unfold yielded
    cases hd : (ops[j]?).bind (·.dst) with
    | none => rw [hd] at h; cases h; rfl
    | some d =>
      rw [hd] at h
      dsimp only at h
      cases hv : tm.get d with
      | none => rw [hv] at h; cases h
      | some u =>
        rw [hv] at h
        have hs := hF.slot d u hv
        have hlt : d < a.tmps.size := by rw [hF.size]; exact hs.1
        have he : a.tmps[d]? = some (a.tmps.getD d undef) := by simp [hlt]
        have hu := hs.2
        rw [Option.bind_some, he]
        generalize a.tmps.getD d undef = y at hu
        cases hu <;> simp only [Option.some.injEq] at h <;> subst h <;> first | rfl | simp
def aput (n : Nat) (tm : Tr Value) (dst : Option Tmp) (v : Value) : Option (Tr Value) :=
  match dst with
  | none => some tm
  | some d => bif d.blt n then some (tm.put d (some v)) else none
theorem aput_sound {D : List Deferred} {ρ : Place} {tm tm' : Tr Value} {n : Nat} {a : Act} (hF : FRel D ρ tm n a) {dst : Option Tmp} {v v' : Value} (h : aput n tm dst v = some tm') (hv : VR ρ v v') : FRel D ρ tm' n (a.put dst v') := by
  unfold aput at h
  cases dst with
  | none => cases h; exact hF
  | some d =>
    dsimp only at h
    cases hd : d.blt n with
    | false => rw [hd] at h; cases h
    | true => rw [hd] at h; cases h; exact hF.put (Nat.le_of_ble_eq_true hd) hv
def astep (P : Program) (call : ACall) (ops : Array Oper) (n : Nat) (st : AS) (o : Oper) : Option AS :=
  match awanted ops st.tm o with
  | some true => match aany P call st.hp st.nx o (aev st.tm) with
    | some (v, hp', nx') => match aput n st.tm o.dst v with
      | some tm' => some ⟨tm', hp', nx'⟩
      | none => none
    | none => none
  | some false => match aput n st.tm o.dst undef with
    | some tm' => some ⟨tm', st.hp, st.nx⟩
    | none => none
  | none => none
structure SRel (ρ : Place) (W : Base) (n : Nat) (st : AS) (a : Act) (w : World) : Prop where
  rel : Rel ρ W st.hp st.nx w
  frame : FRel W.ds ρ st.tm n a
theorem astep_sound {P : Program} {call : ACall} {ρ : Place} {W : Base} (hcall : CallOk P W call) {ops : Array Oper} {n : Nat} {st st' : AS} {a : Act} {w : World} (h : SRel ρ W n st a w) {i : Nat} {o : Oper} (hi : ops[i]? = some o)
    (hs : astep P call ops n st o = some st') {K : Act → World → Prop} {Q : Exit → Act → World → Prop} (hk : ∀ a' w' ρ', SRel ρ' W n st' a' w' → Step ρ ρ' st.hp st'.hp st.nx st'.nx → K a' w') : wpOp P ops Q i K a w := by
  unfold astep at hs
  unfold wpOp
  simp only [hi]
  split at hs
  · rename_i hw
    rw [awanted_sound h.frame hw, if_pos rfl]
    split at hs
    case h_2 => cases hs
    rename_i v hp' nx' hv
    split at hs
    case h_2 => cases hs
    rename_i tm' ht
    cases hs
    exact .inl (aany_sound hcall h.rel h.frame.ev hv fun v' w' ρ' g1 g2 g3 => hk _ _ ρ' ⟨g2, aput_sound (h.frame.mono g3.le) ht g1⟩ g3)
  · rename_i hw
    rw [awanted_sound h.frame hw, if_neg (by simp)]
    split at hs
    case h_2 => cases hs
    rename_i tm' ht
    cases hs
    exact hk _ _ ρ ⟨h.rel, aput_sound h.frame ht (closed_refl (by simp [undef, closed]))⟩ (.refl _ _ _)
  · cases hs
/-- A region in the text's order. -/
def aseq (P : Program) (call : ACall) (ops : Array Oper) (n : Nat) (st : AS) : List Oper → Option AS
  | [] => some st
  | o :: l => match astep P call ops n st o with
    | some st' => aseq P call ops n st' l
    | none => none
theorem aseq_sound {P : Program} {call : ACall} {W : Base} (hcall : CallOk P W call) {ops : Array Oper} {n : Nat} {Q : Exit → Act → World → Prop} : ∀ (l : List Oper) (k : Nat) (st st' : AS) (ρ : Place) (a : Act) (w : World), ops.toList.drop k = l →
    SRel ρ W n st a w → aseq P call ops n st l = some st' → (∀ a' w' ρ', SRel ρ' W n st' a' w' → Step ρ ρ' st.hp st'.hp st.nx st'.nx → Q .normal a' w') → wpOps P ops Q (List.range' k l.length) a w
  | [], k, st, st', ρ, a, w, _, h, hs, hk => by
    simp only [aseq] at hs
    cases hs
    exact hk a w ρ h (.refl _ _ _)
  | o :: l, k, st, st', ρ, a, w, hd, h, hs, hk => by
    simp only [aseq] at hs
    split at hs
    case h_2 => cases hs
    rename_i st1 h1
    have hi : ops[k]? = some o := by
      have : (ops.toList.drop k)[0]? = some o := by rw [hd]; rfl
      rw [List.getElem?_drop] at this
      simpa using this
    rw [List.length_cons, List.range'_succ, wpOps_cons]
    refine astep_sound hcall h hi h1 fun a1 w1 ρ1 hr hst => ?_
    refine aseq_sound hcall l (k + 1) st1 st' ρ1 a1 w1 (by rw [← List.drop_drop, hd]; rfl) hr hs fun a' w' ρ' g1 g2 => hk a' w' ρ' g1 (hst.trans g2)
theorem region_seq {P : Program} {call : ACall} {W : Base} (hcall : CallOk P W call) {ops : Array Oper} {id n : Nat} {Q : Exit → Act → World → Prop} {st st' : AS} {ρ : Place} {a : Act} {w : World} (h : SRel ρ W n st a w)
    (hs : aseq P call ops n st ops.toList = some st') (hk : ∀ a' w' ρ', SRel ρ' W n st' a' w' → Step ρ ρ' st.hp st'.hp st.nx st'.nx → Q .normal a' w') : (Code.region id ops false).wp P Q a w := by
  refine wp_region ?_
  rw [List.range_eq_range']
  have := aseq_sound hcall (Q := Q) ops.toList 0 st st' ρ a w (by simp) h hs hk
  simpa using this
end Go.Proofs.YtegjnjmimfgijaaGreatDoor
