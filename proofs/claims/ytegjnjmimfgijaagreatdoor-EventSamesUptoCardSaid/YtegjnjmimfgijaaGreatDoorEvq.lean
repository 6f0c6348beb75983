/-
  Closed runs by evaluation, part 17: code and calls. Conditions: as each theorem states them.
-/
import Derived.Test.YtegjnjmimfgijaaGreatDoorEvp
noncomputable section
namespace Go.Proofs.YtegjnjmimfgijaaGreatDoor
open Go Go.RowKit

inductive AEx where
  | normal
  | exit (id : Nat)
  | ret
def AEx.to : AEx → Exit
  | .normal => .normal
  | .exit id => .exit id
  | .ret => .ret

/-- The results of a function. -/
def aresL (P : Program) (hp : Tr AObj) (tm : Tr Value) : List ResultVar → Option (List Value)
  | [] => some []
  | .tmp t :: l => match tm.get t with
    | some v => match aresL P hp tm l with
      | some vs => some (v :: vs)
      | none => none
    | none => none
  | .cell a t :: l => match tm.get a with
    | some p => match aLoad P hp t p with
      | some v => match aresL P hp tm l with
        | some vs => some (v :: vs)
        | none => none
      | none => none
    | none => none
def ares (P : Program) (hp : Tr AObj) (tm : Tr Value) (fn : Func) : Option Value :=
  match aresL P hp tm fn.results.toList with
  | some [v] => some v
  | some vs => some (.tuple vs.toArray)
  | none => none
theorem aresL_sound {P : Program} {ρ : Place} {W : Base} {hp : Tr AObj} {nx : Nat} {w : World} (h : Rel ρ W hp nx w) {tm : Tr Value} {n : Nat} {D : List Deferred} {a : Act} (hF : FRel D ρ tm n a) : ∀ {l : List ResultVar} {vs : List Value}, aresL P hp tm l = some vs →
    ∃ vs', VRL ρ vs vs' ∧ (l.mapM fun x => (match x with | .tmp t => pure (a.tmps.getD t undef) | .cell p t => do loadVar t (← asAddr (a.tmps.getD p undef)) : Sem Value)).run P w = .ok vs' w
  | [], vs, hl => by simp only [aresL] at hl; cases hl; exact ⟨[], .nil, rfl⟩
  | .tmp t :: l, vs, hl => by
    simp only [aresL] at hl
    split at hl
    case h_2 => cases hl
    rename_i v hv
    split at hl
    case h_2 => cases hl
    rename_i us hus
    cases hl
    obtain ⟨vs', h1, h2⟩ := aresL_sound h hF hus
    refine ⟨a.tmps.getD t undef :: vs', .cons (hF.slot t v hv).2 h1, ?_⟩
    rw [List.mapM_cons, Sem.run_bind]
    show (Result.andThen (.ok (a.tmps.getD t undef) w) _) = _
    rw [Result.andThen_ok, Sem.run_bind, h2, Result.andThen_ok]
    rfl
  | .cell p t :: l, vs, hl => by
    simp only [aresL] at hl
    split at hl
    case h_2 => cases hl
    rename_i q hq
    split at hl
    case h_2 => cases hl
    rename_i v hv
    split at hl
    case h_2 => cases hl
    rename_i us hus
    cases hl
    obtain ⟨vs', h1, h2⟩ := aresL_sound h hF hus
    have hp' := (hF.slot p q hq).2
    obtain ⟨v', e, hr⟩ := aLoad_sound h hp' hv
    refine ⟨v' :: vs', .cons hr h1, ?_⟩
    have e' : ((asAddr (a.tmps.getD p undef)) >>= fun x => loadVar t x).run P w = .ok v' w := by
      rw [← e]
      unfold Instr.loadAt
      generalize a.tmps.getD p undef = y at hp' ⊢
      unfold aLoad at hv
      cases hp' <;> try simp only [reduceCtorEq] at hv
      rfl
    rw [List.mapM_cons, Sem.run_bind, e', Result.andThen_ok, Sem.run_bind, h2, Result.andThen_ok]
    rfl
theorem ares_sound {P : Program} {ρ : Place} {W : Base} {hp : Tr AObj} {nx : Nat} {w : World} (h : Rel ρ W hp nx w) {tm : Tr Value} {n : Nat} {D : List Deferred} {a : Act} (hF : FRel D ρ tm n a) {fn : Func} {v : Value} (hv : ares P hp tm fn = some v) :
    ∃ v', (results fn a.tmps).run P w = .ok v' w ∧ VR ρ v v' := by
  unfold ares at hv
  have run : ∀ vs', (fn.results.toList.mapM fun x => (match x with | .tmp t => pure (a.tmps.getD t undef) | .cell p t => do loadVar t (← asAddr (a.tmps.getD p undef)) : Sem Value)).run P w = .ok vs' w →
      (results fn a.tmps).run P w = .ok (if h : vs'.toArray.size = 1 then vs'.toArray[0] else .tuple vs'.toArray) w := by
    intro vs' hr
    unfold results
    rw [Sem.run_bind]
    have : (fn.results.mapM fun x => (match x with | .tmp t => pure (a.tmps.getD t undef) | .cell p t => do loadVar t (← asAddr (a.tmps.getD p undef)) : Sem Value)).run P w = .ok vs'.toArray w := by
      rw [Array.mapM_eq_mapM_toList, Sem.run_map, hr]
      rfl
    exact (congrArg (fun r => Result.andThen r _) this).trans rfl
  split at hv
  · rename_i u hl
    cases hv
    obtain ⟨vs', h1, h2⟩ := aresL_sound h hF hl
    cases h1 with
    | cons hu hnil =>
      cases hnil
      exact ⟨_, run _ h2, by simpa using hu⟩
  · rename_i vs hne hl
    cases hv
    obtain ⟨vs', h1, h2⟩ := aresL_sound h hF hl
    refine ⟨_, run _ h2, ?_⟩
    have hlen : vs'.length ≠ 1 := fun e => by
      have := h1.len
      match vs, hne, this with
      | [v], hne, _ => exact hne v rfl
      | [], _, h => rw [e] at h; cases h
      | _ :: _ :: _, _, h => rw [e] at h; simp at h
    rw [dif_neg (by simpa using hlen)]
    exact .tuple h1.arr.1 h1.arr.2
  · cases hv

def putArgs : Nat → List Value → Tr Value → Tr Value
  | _, [], t => t
  | i, v :: l, t => putArgs (i + 1) l (t.put i (some v))
theorem putArgs_get : ∀ (l : List Value) (i : Nat) (t : Tr Value) (k : Nat), (putArgs i l t).get k = if i ≤ k ∧ k < i + l.length then l[k - i]? else t.get k
  | [], i, t, k => by simp [putArgs]; omega
  | v :: l, i, t, k => by
    simp only [putArgs]
    rw [putArgs_get l (i + 1) _ k, Tr.get_put]
    by_cases h : k = i
    · subst h
      rw [if_neg (by omega), if_pos rfl, if_pos (by simp)]
      simp
    · by_cases h1 : i + 1 ≤ k ∧ k < i + 1 + l.length
      · rw [if_pos h1, if_pos (by simp; omega)]
        obtain ⟨j, hj⟩ : ∃ j, k = i + 1 + j := ⟨k - (i + 1), by omega⟩
        subst hj
        rw [show i + 1 + j - (i + 1) = j by omega, show i + 1 + j - i = j + 1 by omega]
        simp
      · rw [if_neg h1, if_neg h, if_neg (by simp; omega)]

def acallR (P : Program) (R : Nat → Code → AS → Option (AEx × AS)) : ACall := fun f args hp nx => match P.funcs[f]? with
  | some fn => match fn.body with
    | some c => match R (args.length + (fn.ntmps - args.length)) c ⟨putArgs 0 args .e, hp, nx⟩ with
      | some (.normal, st') | some (.ret, st') => match ares P st'.hp st'.tm fn with
        | some v => some (v, st'.hp, st'.nx)
        | none => none
      | _ => none
    | none => none
  | none => none
def cregion (P : Program) (R : Nat → Code → AS → Option (AEx × AS)) (n : Nat) (st : AS) (ops : Array Oper) (draw : Bool) : Option (AEx × AS) :=
  match (bif draw then (bif drawOk ops then adraw P (acallR P R) ops n ops.size (Array.replicate ops.size false) st [] else none) else aseq P (acallR P R) ops n st ops.toList) with
  | some st' => some (.normal, st')
  | none => none
def cseq (R : Nat → Code → AS → Option (AEx × AS)) (n : Nat) (y : Code) (r : Option (AEx × AS)) : Option (AEx × AS) :=
  match r with
  | some (.normal, st') => R n y st'
  | r => r
def ccond (R : Nat → Code → AS → Option (AEx × AS)) (n : Nat) (st : AS) (x y : Code) (c : Option Value) : Option (AEx × AS) :=
  match c with
  | some (.bool true) => R n x st
  | some (.bool false) => R n y st
  | _ => none
def cblock (id : Nat) (r : Option (AEx × AS)) : Option (AEx × AS) :=
  match r with
  | some (.exit j, st') => bif j.beq id then some (.normal, st') else some (.exit j, st')
  | r => r
/-- The table of statements. -/
def ctab (c : Code) : Program → (Nat → Code → AS → Option (AEx × AS)) → Nat → AS → Option (AEx × AS) :=
  Code.rec (motive := fun _ => Program → (Nat → Code → AS → Option (AEx × AS)) → Nat → AS → Option (AEx × AS))
    (fun _ _ _ st => some (.normal, st))
    (fun _ ops draw P R n st => cregion P R n st ops draw)
    (fun x y _ _ _ R n st => cseq R n y (R n x st))
    (fun c x y _ _ _ R n st => ccond R n st x y (aev st.tm c))
    (fun id b _ _ R n st => cblock id (R n b st))
    (fun b _ _ R n st => cseq R n (.loop b) (R n b st))
    (fun _ _ _ _ _ _ _ _ _ _ => none)
    (fun id _ _ _ st => some (.exit id, st))
    (fun _ _ _ _ _ _ => none)
    (fun _ _ _ _ st => some (.normal, st))
    (fun _ _ _ _ _ => none)
    (fun _ _ _ st => some (.ret, st))
    (fun _ _ _ _ _ => none) c
def acode (P : Program) (k : Nat) : Nat → Code → AS → Option (AEx × AS) :=
  Nat.rec (motive := fun _ => Nat → Code → AS → Option (AEx × AS)) (fun _ _ _ => none) (fun _ ih n c st => ctab c P ih n st) k
theorem acode_zero (P : Program) (n : Nat) (c : Code) (st : AS) : acode P 0 n c st = none := rfl
theorem acode_succ (P : Program) (k n : Nat) (c : Code) (st : AS) : acode P (k + 1) n c st =
    (match c with
    | .skip | .label _ => some (.normal, st)
    | .region _ ops draw => cregion P (acode P k) n st ops draw
    | .seq x y => cseq (acode P k) n y (acode P k n x st)
    | .cond c x y => ccond (acode P k) n st x y (aev st.tm c)
    | .block id b => cblock id (acode P k n b st)
    | .loop b => cseq (acode P k) n (.loop b) (acode P k n b st)
    | .exit id => some (.exit id, st)
    | .ret => some (.ret, st)
    | _ => none) := by cases c <;> rfl
def acall (P : Program) (k : Nat) : ACall := acallR P (acode P k)

/-- The rounds of a loop that are left. -/
def LoopWp (P : Program) (b : Code) (Q : Exit → Act → World → Prop) (a : Act) (w : World) : Prop :=
  ∀ (fr : Frame) (k : List Item) (cs : List Frame), ∃ e a' w', Q e a' w' ∧ Arrives P (lone (fr.at a (.code b :: .inLoop b :: k)) cs w) fr k cs e a' w'
theorem loop_of {P : Program} {b : Code} {Q : Exit → Act → World → Prop} {a : Act} {w : World} (h : LoopWp P b Q a w) : (Code.loop b).wp P Q a w :=
  fun fr k cs => let ⟨e, a', w', q, r⟩ := h fr k cs; ⟨e, a', w', q, .of_steps (.one step_loop) r⟩
theorem loop_round {P : Program} {b : Code} {Q : Exit → Act → World → Prop} {a : Act} {w : World} (h : b.wp P (Exit.then (LoopWp P b Q) Q) a w) : LoopWp P b Q a w := by
  intro fr k cs
  obtain ⟨e, a₁, w₁, hq, harr⟩ := h fr (.inLoop b :: k) cs
  cases e with
  | normal =>
    obtain ⟨e₂, a₂, w₂, hq₂, harr₂⟩ := hq fr k cs
    exact ⟨e₂, a₂, w₂, hq₂, .of_steps (Steps.trans harr (.one step_inLoop)) harr₂⟩
  | exit id => exact ⟨_, a₁, w₁, hq, .pass (x := .inLoop b) rfl (fun _ _ => .inl (by simp)) harr⟩
  | goto l => exact ⟨_, a₁, w₁, hq, .pass (x := .inLoop b) rfl (fun _ _ => .inl (by simp)) harr⟩
  | ret => exact ⟨_, a₁, w₁, hq, .pass (x := .inLoop b) rfl (fun _ _ => .inl (by simp)) harr⟩
  | panic ch => exact ⟨_, a₁, w₁, hq, .pass (x := .inLoop b) rfl (fun _ _ => .inl (by simp)) harr⟩
  | outgrown => exact ⟨_, a₁, w₁, hq, .pass (x := .inLoop b) rfl (fun _ _ => .inl (by simp)) harr⟩

def Runs (W : Base) (n : Nat) (st st' : AS) (e : AEx) (g : (Exit → Act → World → Prop) → Act → World → Prop) : Prop :=
  ∀ (ρ : Place) (a : Act) (w : World) (Q : Exit → Act → World → Prop), SRel ρ W n st a w → (∀ a' w' ρ', SRel ρ' W n st' a' w' → Step ρ ρ' st.hp st'.hp st.nx st'.nx → Q e.to a' w') → g Q a w
theorem acode_sound {P : Program} (hm : P.follows .mixedOrders = true) : ∀ k, (∀ W n c st e st', acode P k n c st = some (e, st') → Runs W n st st' e (c.wp P)) ∧
    (∀ W n b st e st', acode P k n (.loop b) st = some (e, st') → Runs W n st st' e (LoopWp P b)) ∧ ∀ W, CallOk P W (acall P k) := by
  intro k
  induction k with
  | zero =>
    refine ⟨fun W n c st e st' h => (nomatch (show (none : Option (AEx × AS)) = some (e, st') from h)), fun W n b st e st' h => (nomatch (show (none : Option (AEx × AS)) = some (e, st') from h)), fun W f args hp nx v hp' nx' h => ?_⟩
    unfold acall acallR at h
    split at h
    case h_2 => cases h
    split at h
    case h_2 => cases h
    simp [acode_zero] at h
  | succ k ih =>
    obtain ⟨ih1, ih2, ih3⟩ := ih
    have loops : ∀ W n b st e st', acode P (k + 1) n (.loop b) st = some (e, st') → Runs W n st st' e (LoopWp P b) := by
      intro W n b st e st' h ρ a w Q hs hQ
      rw [acode_succ] at h; dsimp only [cseq, ccond, cblock, cregion] at h
      refine loop_round ?_
      split at h
      · rename_i st1 h1
        refine ih1 W n b st .normal st1 h1 ρ a w _ hs fun a' w' ρ' g1 g2 => ?_
        exact ih2 W n b st1 e st' h ρ' a' w' Q g1 fun a2 w2 ρ2 k1 k2 => hQ a2 w2 ρ2 k1 (g2.trans k2)
      · rename_i hne
        refine ih1 W n b st e st' h ρ a w _ hs fun a' w' ρ' g1 g2 => ?_
        cases e with
        | normal => exact (hne st' h).elim
        | exit id => exact hQ a' w' ρ' g1 g2
        | ret => exact hQ a' w' ρ' g1 g2
    have codes : ∀ W n c st e st', acode P (k + 1) n c st = some (e, st') → Runs W n st st' e (c.wp P) := by
      intro W n c st e st' h ρ a w Q hs hQ
      cases c with
      | loop b => exact loop_of (loops W n b st e st' h ρ a w Q hs hQ)
      | skip => rw [acode_succ] at h; dsimp only [cseq, ccond, cblock, cregion] at h; cases h; exact wp_skip (hQ a w ρ hs (.refl _ _ _))
      | label l => rw [acode_succ] at h; dsimp only [cseq, ccond, cblock, cregion] at h; cases h; exact wp_label (hQ a w ρ hs (.refl _ _ _))
      | exit id => rw [acode_succ] at h; dsimp only [cseq, ccond, cblock, cregion] at h; cases h; exact wp_exit (hQ a w ρ hs (.refl _ _ _))
      | ret => rw [acode_succ] at h; dsimp only [cseq, ccond, cblock, cregion] at h; cases h; exact wp_ret (hQ a w ρ hs (.refl _ _ _))
      | goto l => rw [acode_succ] at h; cases h
      | refuse y => rw [acode_succ] at h; cases h
      | scope b => rw [acode_succ] at h; cases h
      | rangeFunc f ps x y => rw [acode_succ] at h; cases h
      | region id ops draw =>
        rw [acode_succ] at h; dsimp only [cseq, ccond, cblock, cregion] at h
        split at h
        case h_2 => cases h
        rename_i st1 h1
        cases h
        cases draw with
        | false =>
          simp only [cond_false] at h1
          exact region_seq (call := acall P k) (ih3 W) hs h1 hQ
        | true =>
          simp only [cond_true] at h1
          cases hD : drawOk ops with
          | false => rw [hD] at h1; cases h1
          | true =>
            rw [hD, cond_true] at h1
            exact region_draw (call := acall P k) (ih3 W) hm hD hs h1 hQ
      | seq x y =>
        rw [acode_succ] at h; dsimp only [cseq, ccond, cblock, cregion] at h
        refine wp_seq ?_
        split at h
        · rename_i st1 h1
          refine ih1 W n x st .normal st1 h1 ρ a w _ hs fun a' w' ρ' g1 g2 => ?_
          exact ih1 W n y st1 e st' h ρ' a' w' Q g1 fun a2 w2 ρ2 k1 k2 => hQ a2 w2 ρ2 k1 (g2.trans k2)
        · rename_i hne
          refine ih1 W n x st e st' h ρ a w _ hs fun a' w' ρ' g1 g2 => ?_
          cases e with
          | normal => exact (hne st' h).elim
          | exit id => exact hQ a' w' ρ' g1 g2
          | ret => exact hQ a' w' ρ' g1 g2
      | cond c x y =>
        rw [acode_succ] at h; dsimp only [cseq, ccond, cblock, cregion] at h
        split at h
        · rename_i hc
          have := hs.frame.eval hc
          refine wp_cond_true (c := c) ?_ (ih1 W n x st e st' h ρ a w Q hs hQ)
          generalize a.eval c = z at this
          cases this
          rfl
        · rename_i hc
          have := hs.frame.eval hc
          refine wp_cond_false (c := c) ?_ (ih1 W n y st e st' h ρ a w Q hs hQ)
          generalize a.eval c = z at this
          cases this
          rfl
        · cases h
      | block id b =>
        rw [acode_succ] at h; dsimp only [cseq, ccond, cblock, cregion] at h
        refine wp_block ?_
        split at h
        · rename_i j st1 h1
          refine ih1 W n b st (.exit j) st1 h1 ρ a w _ hs fun a' w' ρ' g1 g2 => ?_
          simp only [AEx.to, Exit.inBlock]
          cases hj : j.beq id with
          | true =>
            rw [hj] at h
            cases h
            rw [if_pos (Nat.eq_of_beq_eq_true hj)]
            exact hQ a' w' ρ' g1 g2
          | false =>
            rw [hj] at h
            cases h
            rw [if_neg (fun e => by subst e; simp at hj)]
            exact hQ a' w' ρ' g1 g2
        · rename_i hne
          refine ih1 W n b st e st' h ρ a w _ hs fun a' w' ρ' g1 g2 => ?_
          cases e with
          | normal => exact hQ a' w' ρ' g1 g2
          | exit j => exact (hne j st' h).elim
          | ret => exact hQ a' w' ρ' g1 g2
    refine ⟨codes, loops, fun W f args hp nx v hp' nx' h ρ w args' hrel hargs => ?_⟩
    unfold acall acallR at h
    split at h
    case h_2 => cases h
    rename_i fn hfn
    split at h
    case h_2 => cases h
    rename_i c hc
    have start : SRel ρ W.bare (args.length + (fn.ntmps - args.length)) ⟨putArgs 0 args .e, hp, nx⟩ { tmps := args'.toArray ++ Array.replicate (fn.ntmps - args'.toArray.size) undef, defers := [] } w := by
      refine ⟨hrel.bare, ?_, rfl, fun t u hu => ?_⟩
      · simp [hargs.len]
      · rw [putArgs_get] at hu
        by_cases ht : 0 ≤ t ∧ t < 0 + args.length
        · rw [if_pos ht] at hu
          have hlt : t < args'.length := by rw [← hargs.len]; omega
          refine ⟨by omega, ?_⟩
          have hg := hargs.get (i := t) (v := u) (v' := args'[t]) (by simpa using hu) (by simp)
          rw [Array.getD_eq_getD_getElem?, Array.getElem?_append_left (by simpa using hlt)]
          simpa [hlt] using hg
        · rw [if_neg ht] at hu
          simp [Tr.get_e] at hu
    have fin : ∀ e st', acode P (k + 1) (args.length + (fn.ntmps - args.length)) c ⟨putArgs 0 args .e, hp, nx⟩ = some (e, st') → (e = .normal ∨ e = .ret) → (match ares P st'.hp st'.tm fn with | some v => some (v, st'.hp, st'.nx) | none => none) = some (v, hp', nx') →
        Calls P f args'.toArray w fun e w' => ∃ v' ρ', e = .returned v' ∧ VR ρ' v v' ∧ Rel ρ' W hp' nx' w' ∧ Step ρ ρ' hp hp' nx nx' := by
      intro e st' hac he hr
      split at hr
      case h_2 => cases hr
      rename_i u hu
      cases hr
      refine calls_of_wp hfn hc (codes _ _ c _ e st' hac ρ _ w _ start fun a' w' ρ' g1 g2 => ?_)
      obtain ⟨v', r1, r2⟩ := ares_sound g1.rel g1.frame hu
      rcases he with rfl | rfl
      · exact ⟨g1.frame.defers, v', r1, v', ρ', rfl, r2, g1.rel.unbare, g2⟩
      · exact ⟨g1.frame.defers, v', r1, v', ρ', rfl, r2, g1.rel.unbare, g2⟩
    split at h
    · rename_i st' hac
      exact fin _ st' hac (.inl rfl) h
    · rename_i st' hac
      exact fin _ st' hac (.inr rfl) h
    · cases h
/-- A closed call, by evaluation. -/
theorem closed_call {P : Program} (hm : P.follows .mixedOrders = true) {k f : Nat} {args : List Value} {v : Value} {st : Tr AObj × Nat} (hargs : args.all closed = true) (hv : closed v = true) (h : acall P k f args .e 0 = some (v, st)) (w : World) (hg : ∀ g cs, glob g = some cs → ∃ t fz, w.heap[g]? = some (.cells cs t fz)) :
    Calls P f args.toArray w fun e w' => e = .returned v ∧ Below w.heap.size w w' := by
  have hc := (acode_sound hm k).2.2 ⟨w, fun _ => False, fun c => w.heap[c]?, []⟩ f args .e 0 v st.1 st.2 h ⟨fun _ => none, fun c => w.heap[c]?, hg⟩ w args ⟨fun b x hb => (by cases hb), fun b o c s z ho => (by cases ho), fun b b' x x' o o' ho => (by cases ho), fun b _ => rfl, ⟨rfl, rfl, rfl, Nat.le_refl _, fun _ _ => rfl⟩, fun c ob hc => hc, fun b o c s z ho => (by cases ho), fun c ob hc => .inl hc⟩
    (.of rfl fun i u u' a b => by rw [a] at b; cases b; exact closed_refl (List.all_eq_true.1 hargs u (List.mem_of_getElem? a)))
  refine hc.mono ?_
  rintro e w' ⟨v', ρ', rfl, h1, h2, h3⟩
  rw [closed_eq hv h1]
  exact ⟨rfl, h2.below.os, h2.below.tape, h2.below.output, h2.below.size, fun k hk => h2.below.block k ⟨hk, fun h => h⟩⟩
end Go.Proofs.YtegjnjmimfgijaaGreatDoor
