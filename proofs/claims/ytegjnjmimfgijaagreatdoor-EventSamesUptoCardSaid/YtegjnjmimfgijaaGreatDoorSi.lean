/-
  Symbolic runs, part 9: results; contracts of functions. Conditions: as each theorem states them.
-/
import Derived.Test.YtegjnjmimfgijaaGreatDoorSh
noncomputable section
namespace Go.Proofs.YtegjnjmimfgijaaGreatDoor
open Go Go.RowKit


/-- A result without names: rows are taken as they are, for good. N: the blocks that may not be taken. -/
def frzL (P : Program) (N : Nat) (t : TypeId) (hp : Tr AObj) (v : Value) : Option (Value × Tr AObj × Prop) :=
  match P.underlying t, v with
  | some (.slice e), .slice (some ⟨b, o, none⟩) n sz => match pureRun P (sizeOf e), hp.get b with
    | some z, some (.cells l true) => bif z.beq sz && N.ble b then some (tree sz n (chunks sz n (l.drop o)), hp.put b none, o + n * sz ≤ l.length ∧ NLs (l.drop o)) else none
    | _, _ => none
  | some (.slice e), .slice none 0 _ => match pureRun P (sizeOf e) with
    | some z => some (tree z 0 #[], hp, True)
    | none => none
  | _, v => bif nl1 v then some (v, hp, True) else none
theorem frzL_sound {P : Program} {N : Nat} {t : TypeId} {ρ : Place} {W : Base} {hp hp' : Tr AObj} {nx : Nat} {w : World} (h : Rel ρ W hp nx w) {v v' u : Value} {ob : Prop} (hv : VR ρ v v') (hf : frzL P N t hp v = some (u, hp', ob)) (hob : ob) :
    ∃ ρ', Rel ρ' W hp' nx w ∧ Step ρ ρ' hp hp' nx nx ∧ VR0 ρ'.fr u v' := by
  have base : ∀ {v : Value}, VR ρ v v' → (bif nl1 v then some (v, hp, True) else none) = some (u, hp', ob) → ∃ ρ', Rel ρ' W hp' nx w ∧ Step ρ ρ' hp hp' nx nx ∧ VR0 ρ'.fr u v' := fun {v} hv hf => by
    cases hn : nl1 v with
    | false => rw [hn] at hf; cases hf
    | true => rw [hn] at hf; cases hf; exact ⟨ρ, h, .refl _ _ _, nl1_sound hn hv⟩
  unfold frzL at hf
  split at hf
  · rename_i e b o n sz hu
    split at hf
    case h_2 => cases hf
    rename_i z l hz hg
    cases hc : z.beq sz && N.ble b with
    | false => rw [hc] at hf; cases hf
    | true =>
      rw [hc] at hf
      cases hf
      obtain ⟨hlen, hnl⟩ := hob
      cases hv with
      | @slice _ _ _ _ c s zz cap hr h1 h2 =>
        obtain ⟨ob, e0, ho⟩ := h.obj b _ c s zz hg hr
        obtain ⟨g1, g2⟩ := freeze_rel h hg hr e0
        refine ⟨_, g1, ⟨g2, Nat.le_refl _, fun k _ hn => ⟨hn, by rw [Tr.get_put, if_neg (by intro e; subst e; have hr' := hr; rw [hn] at hr'; cases hr')]⟩⟩, ?_⟩
        cases ob <;> try exact ho.elim
        rename_i cs ct fz
        obtain ⟨k1, k2, k3, k4, k5⟩ := ho
        have hlen' : n * sz ≤ (l.drop o).length := by rw [List.length_drop]; omega
        have hmul : n * sz ≤ cap * sz := Nat.mul_le_mul_right _ h1
        refine VR0.tree (o := s + o) (cs := cs) (t := ct) (fz := fz) (by show (match ρ.fr c with | some o => some o | none => if c = c then _ else none) = _; rw [h.apart b _ c s zz hg rfl hr]; dsimp only; rw [if_pos rfl]) (chunks_size hlen') h1 (by omega) (fun i u hu => (chunks_get hlen' hnl hu).2.1) (fun i j u a a' hu ha ha' => ?_)
        obtain ⟨q1, q2, q3⟩ := chunks_get hlen' hnl hu
        obtain ⟨q4, q5⟩ := q3 j a ha
        have q6 := q5
        rw [List.getElem?_drop] at q5
        obtain ⟨a2, e1, e2⟩ := k4 _ a q5
        have : a2 = a' := by
          rw [show s + o + i * sz + j = s + (o + (i * sz + j)) by omega, e1] at ha'
          cases ha'
          rfl
        subst this
        have hn := hnl a (List.mem_of_getElem? q6)
        have h0 : VR0 ρ.fr a a2 := nl1_sound hn e2
        exact h0.mono g2.2
      | @emptySlice _ _ y a' _ hr =>
        obtain ⟨c, s, zz⟩ := y
        obtain ⟨ob, e0, ho⟩ := h.obj b _ c s zz hg hr
        obtain ⟨g1, g2⟩ := freeze_rel h hg hr e0
        refine ⟨_, g1, ⟨g2, Nat.le_refl _, fun k _ hn => ⟨hn, by rw [Tr.get_put, if_neg (by intro e; subst e; have hr' := hr; rw [hn] at hr'; cases hr')]⟩⟩, ?_⟩
        have : chunks sz 0 (l.drop o) = #[] := by
          unfold chunks
          cases sz.beq 1 <;> simp
        rw [this]
        exact .treeNil _ _ _
  · rename_i e cp hu
    split at hf
    case h_2 => cases hf
    cases hf
    cases hv with
    | nilSlice => exact ⟨ρ, h, .refl _ _ _, .treeNil _ _ _⟩
  · exact base hv hf
def frzC (P : Program) (N : Nat) : List TypeId → List Value → Tr AObj → Option (List Value × Tr AObj × Prop)
  | [], [], hp => some ([], hp, True)
  | t :: ts, v :: vs, hp => match frzL P N t hp v with
    | some (u, hp1, o1) => match frzC P N ts vs hp1 with
      | some (us, hp2, o2) => some (u :: us, hp2, o1 ∧ o2)
      | none => none
    | none => none
  | _, _, _ => none
theorem VR0L {fr : Nat → Option Obj} {c c' : List Value} (h : c.length = c'.length ∧ ∀ (i : Nat) (v v' : Value), c[i]? = some v → c'[i]? = some v' → VR0 fr v v') : VR0 fr (.agg c.toArray) (.agg c'.toArray) :=
  .agg (by simp [h.1]) fun i v v' a b => h.2 i v v' (by simpa using a) (by simpa using b)
theorem frzC_sound {P : Program} {N : Nat} {W : Base} {nx : Nat} {w : World} : ∀ {ts : List TypeId} {vs vs' us : List Value} {ρ : Place} {hp hp' : Tr AObj} {ob : Prop}, Rel ρ W hp nx w → VRL ρ vs vs' → frzC P N ts vs hp = some (us, hp', ob) → ob →
    ∃ ρ', Rel ρ' W hp' nx w ∧ Step ρ ρ' hp hp' nx nx ∧ us.length = vs'.length ∧ ∀ (i : Nat) (v v' : Value), us[i]? = some v → vs'[i]? = some v' → VR0 ρ'.fr v v'
  | [], [], vs', us, ρ, hp, hp', ob, h, hl, hf, _ => by
    simp only [frzC] at hf
    cases hf
    cases hl
    exact ⟨ρ, h, .refl _ _ _, rfl, fun i v v' a => by simp at a⟩
  | [], _ :: _, vs', us, ρ, hp, hp', ob, h, hl, hf, _ => by simp [frzC] at hf
  | _ :: _, [], vs', us, ρ, hp, hp', ob, h, hl, hf, _ => by simp [frzC] at hf
  | t :: ts, v :: vs, vs', us, ρ, hp, hp', ob, h, hl, hf, hob => by
    simp only [frzC] at hf
    split at hf
    case h_2 => cases hf
    rename_i u hp1 o1 h1
    split at hf
    case h_2 => cases hf
    rename_i us0 hp2 o2 h2
    cases hf
    cases hl with
    | cons hv hl =>
      obtain ⟨ρ1, g1, g2, g3⟩ := frzL_sound h hv h1 hob.1
      obtain ⟨ρ2, k1, k2, k3, k4⟩ := frzC_sound g1 (hl.mono g2.le) h2 hob.2
      refine ⟨ρ2, k1, g2.trans k2, by simp [k3], fun i x x' a b => ?_⟩
      cases i with
      | zero => simp at a b; subst a b; exact g3.mono k2.le.2
      | succ i => exact k4 i x x' (by simpa using a) (by simpa using b)
def frzT (P : Program) (N : Nat) (t : TypeId) (hp : Tr AObj) (v : Value) : Option (Value × Tr AObj × Prop) :=
  match v with
  | .agg c => match leaves P 20 t with
    | some ts => match frzC P N ts c.toList hp with
      | some (us, hp', ob) => some (.agg us.toArray, hp', ob)
      | none => none
    | none => none
  | v => frzL P N t hp v
theorem frzT_sound {P : Program} {N : Nat} {t : TypeId} {ρ : Place} {W : Base} {hp hp' : Tr AObj} {nx : Nat} {w : World} (h : Rel ρ W hp nx w) {v v' u : Value} {ob : Prop} (hv : VR ρ v v') (hf : frzT P N t hp v = some (u, hp', ob)) (hob : ob) :
    ∃ ρ', Rel ρ' W hp' nx w ∧ Step ρ ρ' hp hp' nx nx ∧ VR0 ρ'.fr u v' := by
  unfold frzT at hf
  split at hf
  · rename_i c
    split at hf
    case h_2 => cases hf
    split at hf
    case h_2 => cases hf
    rename_i us hp2 ob2 h2
    cases hf
    cases hv with
    | agg hs hc =>
      rename_i c'
      obtain ⟨ρ', g1, g2, g3, g4⟩ := frzC_sound h (VRA.list ⟨hs, hc⟩) h2 hob
      refine ⟨ρ', g1, g2, ?_⟩
      have := VR0L ⟨g3, g4⟩
      simpa using this
  · exact frzL_sound h hv hf hob
def frzTs (P : Program) (N : Nat) : List TypeId → List Value → Tr AObj → Option (List Value × Tr AObj × Prop)
  | [], [], hp => some ([], hp, True)
  | t :: ts, v :: vs, hp => match frzT P N t hp v with
    | some (u, hp1, o1) => match frzTs P N ts vs hp1 with
      | some (us, hp2, o2) => some (u :: us, hp2, o1 ∧ o2)
      | none => none
    | none => none
  | _, _, _ => none
theorem frzTs_sound {P : Program} {N : Nat} {W : Base} {nx : Nat} {w : World} : ∀ {ts : List TypeId} {vs vs' us : List Value} {ρ : Place} {hp hp' : Tr AObj} {ob : Prop}, Rel ρ W hp nx w → VRL ρ vs vs' → frzTs P N ts vs hp = some (us, hp', ob) → ob →
    ∃ ρ', Rel ρ' W hp' nx w ∧ Step ρ ρ' hp hp' nx nx ∧ us.length = vs'.length ∧ ∀ (i : Nat) (v v' : Value), us[i]? = some v → vs'[i]? = some v' → VR0 ρ'.fr v v'
  | [], [], vs', us, ρ, hp, hp', ob, h, hl, hf, _ => by
    simp only [frzTs] at hf
    cases hf
    cases hl
    exact ⟨ρ, h, .refl _ _ _, rfl, fun i v v' a => by simp at a⟩
  | [], _ :: _, vs', us, ρ, hp, hp', ob, h, hl, hf, _ => by simp [frzTs] at hf
  | _ :: _, [], vs', us, ρ, hp, hp', ob, h, hl, hf, _ => by simp [frzTs] at hf
  | t :: ts, v :: vs, vs', us, ρ, hp, hp', ob, h, hl, hf, hob => by
    simp only [frzTs] at hf
    split at hf
    case h_2 => cases hf
    rename_i u hp1 o1 h1
    split at hf
    case h_2 => cases hf
    rename_i us0 hp2 o2 h2
    cases hf
    cases hl with
    | cons hv hl =>
      obtain ⟨ρ1, g1, g2, g3⟩ := frzT_sound h hv h1 hob.1
      obtain ⟨ρ2, k1, k2, k3, k4⟩ := frzTs_sound g1 (hl.mono g2.le) h2 hob.2
      refine ⟨ρ2, k1, g2.trans k2, by simp [k3], fun i x x' a b => ?_⟩
      cases i with
      | zero => simp at a b; subst a b; exact g3.mono k2.le.2
      | succ i => exact k4 i x x' (by simpa using a) (by simpa using b)
/-- The result of a function, without names. -/
def frzR (P : Program) (N : Nat) (ts : List TypeId) (hp : Tr AObj) (v : Value) : Option (Value × Tr AObj × Prop) :=
  match ts with
  | [t] => frzT P N t hp v
  | ts => match v with
    | .tuple vs => match frzTs P N ts vs.toList hp with
      | some (us, hp', ob) => some (.tuple us.toArray, hp', ob)
      | none => none
    | _ => none
theorem frzR_sound {P : Program} {N : Nat} {ts : List TypeId} {ρ : Place} {W : Base} {hp hp' : Tr AObj} {nx : Nat} {w : World} (h : Rel ρ W hp nx w) {v v' u : Value} {ob : Prop} (hv : VR ρ v v') (hf : frzR P N ts hp v = some (u, hp', ob)) (hob : ob) :
    ∃ ρ', Rel ρ' W hp' nx w ∧ Step ρ ρ' hp hp' nx nx ∧ VR0 ρ'.fr u v' := by
  unfold frzR at hf
  split at hf
  · exact frzT_sound h hv hf hob
  · split at hf
    case h_2 => cases hf
    rename_i vs
    split at hf
    case h_2 => cases hf
    rename_i us hp2 ob2 h2
    cases hf
    cases hv with
    | tuple hs hc =>
      rename_i c'
      obtain ⟨ρ', g1, g2, g3, g4⟩ := frzTs_sound h (VRA.list ⟨hs, hc⟩) h2 hob
      refine ⟨ρ', g1, g2, .tuple (by simpa using g3) fun i v v' a b => g4 i v v' (by simpa using a) (by simpa using b)⟩
/-- What a function's end must show. -/
def finOf (P : Program) (fn : Func) (N : Nat) (Post : Value → Tr AObj → Prop) (st : AS) : Prop :=
  match ares P st.hp st.tm fn with
  | some v => match frzR P N fn.resultTypes.toList st.hp v with
    | some (u, hp', ob) => ob ∧ Post u hp'
    | none => False
  | none => False
/-- A contract: arguments, and the first N blocks as they are; what comes back, and what the blocks are then. -/
def Spec (P : Program) (f : FuncId) (N : Nat) (hp : Tr AObj) (args : List Value) (Post : Value → Tr AObj → Prop) : Prop :=
  ∀ (W : Base) ρ w args', Rel ρ W hp N w → VRL ρ args args' → Calls P f args'.toArray w fun e w' => ∃ v hp' nx' v' ρ', Post v hp' ∧ e = .returned v' ∧ VR0 ρ'.fr v v' ∧ Rel ρ' W hp' nx' w' ∧ StepG N ρ ρ'
/-- The first N blocks are as they are. -/
def FinQ (P : Program) (fn : Func) (W : Base) (N : Nat) (ρ : Place) (Post : Value → Tr AObj → Prop) (e : Exit) (a : Act) (w : World) : Prop :=
  bodyPost P fn (fun e w' => ∃ v hp' nx' v' ρ', Post v hp' ∧ e = .returned v' ∧ VR0 ρ'.fr v v' ∧ Rel ρ' W hp' nx' w' ∧ StepG N ρ ρ') e a w
theorem finOf_ok {P : Program} {fn : Func} {N n : Nat} {Post : Value → Tr AObj → Prop} {st : AS} (h : finOf P fn N Post st) {W : Base} (hd : W.ds = []) {ρ0 ρ : Place} {a : Act} {w : World} (hs : SRel ρ W n st a w) (hr : StepG N ρ0 ρ) :
    FinQ P fn W N ρ0 Post .normal a w ∧ FinQ P fn W N ρ0 Post .ret a w := by
  unfold finOf at h
  split at h
  case h_2 => exact h.elim
  rename_i v hv
  split at h
  case h_2 => exact h.elim
  rename_i u hp' ob hf
  obtain ⟨v', r1, r2⟩ := ares_sound hs.rel hs.frame hv
  obtain ⟨ρ', g1, g2, g3⟩ := frzR_sound hs.rel r2 hf h.1
  have : ∃ v hp' nx' v'' ρ', Post v hp' ∧ Ending.returned v' = .returned v'' ∧ VR0 ρ'.fr v v'' ∧ Rel ρ' W hp' nx' w ∧ StepG N ρ0 ρ' :=
    ⟨u, hp', st.nx, v', ρ', h.2, rfl, g3, g1, fun b x hb hx => g2.le.1 b x (hr.1 b x hb hx), fun c x hx => g2.le.2 c x (hr.2 c x hx)⟩
  exact ⟨⟨hs.frame.defers.trans hd, v', r1, this⟩, ⟨hs.frame.defers.trans hd, v', r1, this⟩⟩
def slotsN (args : List Value) (fn : Func) : Nat := args.length + (fn.ntmps - args.length)
theorem start_rel {ρ : Place} {W : Base} (hd : W.ds = []) {hp : Tr AObj} {nx : Nat} {w : World} (h : Rel ρ W hp nx w) {args args' : List Value} (hargs : VRL ρ args args') (fn : Func) :
    SRel ρ W (slotsN args fn) ⟨putArgs 0 args .e, hp, nx⟩ { tmps := args'.toArray ++ Array.replicate (fn.ntmps - args'.toArray.size) undef, defers := [] } w := by
  refine ⟨h, ?_, hd.symm, fun t u hu => ?_⟩
  · simp [slotsN, hargs.len]
  · rw [putArgs_get] at hu
    by_cases ht : 0 ≤ t ∧ t < 0 + args.length
    · rw [if_pos ht] at hu
      have hlt : t < args'.length := by rw [← hargs.len]; omega
      refine ⟨by unfold slotsN; omega, ?_⟩
      have hg := hargs.get (i := t) (v := u) (v' := args'[t]) (by simpa using hu) (by simp)
      rw [Array.getD_eq_getD_getElem?, Array.getElem?_append_left (by simpa using hlt)]
      simpa [hlt] using hg
    · rw [if_neg ht] at hu
      simp [Tr.get_e] at hu
/-- A contract, by its function's code. -/
theorem spec_of {P : Program} {vc : VCall} (hcall : VCallOk P vc) (hm : P.follows .mixedOrders = true) {f : FuncId} {fn : Func} {c : Code} (hf : P.funcs[f]? = some fn) (hc : fn.body = some c) {lt : List (Nat × List Nat)} {base : List Bool} {hp : Tr AObj} {args : List Value} {Post : Value → Tr AObj → Prop} (k : Nat)
    (h : vrun P vc (slotsN args fn) lt base (Good P (slotsN args fn) base (finOf P fn base.length Post)) (finOf P fn base.length Post) k (.code c) [] ⟨putArgs 0 args .e, hp, base.length⟩) : Spec P f base.length hp args Post := by
  intro W ρ w args' hrel hargs
  suffices hb : Calls P f args'.toArray w fun e w' => ∃ v hp' nx' v' ρ', Post v hp' ∧ e = .returned v' ∧ VR0 ρ'.fr v v' ∧ Rel ρ' W.bare hp' nx' w' ∧ StepG base.length ρ ρ' from hb.mono fun e w' ⟨v, hp', nx', v', ρ', g1, g2, g3, g4, g5⟩ => ⟨v, hp', nx', v', ρ', g1, g2, g3, g4.unbare, g5⟩
  refine calls_of_wp hf hc ?_
  exact vrun_sound (R := fun ρ' _ => StepG base.length ρ ρ') (Q := FinQ P fn W.bare base.length ρ Post) hcall hm (fun _ _ _ _ h k => h.step k)
    (fun b k st h ρ' a w hs hr => good_vloop h W.bare ρ _ (fun st hst ρ' a w hs hr => finOf_ok hst rfl hs hr) ρ' a w hs hr) (fun st hst ρ' a w hs hr => finOf_ok hst rfl hs hr) k (.code c) [] _ h ρ _ w (start_rel rfl hrel.bare hargs fn) (.refl _ _)

/-- A contract of a function that writes nothing but its own. -/
def Pure (P : Program) (f : FuncId) (args : List Value) (Post : Value → Prop) : Prop := Spec P f 0 .e args fun v _ => Post v
theorem Pure.call {P : Program} {f : FuncId} {args : List Value} {Post : Value → Prop} (h : Pure P f args Post) (hn : args.all nl = true) {W : Base} {ρ : Place} {hp : Tr AObj} {nx : Nat} {w : World} {args' : List Value} (hrel : Rel ρ W hp nx w) (hargs : VRL ρ args args') :
    Calls P f args'.toArray w fun e w' => ∃ v v' ρ', Post v ∧ e = .returned v' ∧ VR ρ' v v' ∧ VR0 ρ'.fr v v' ∧ Rel ρ' W hp nx w' ∧ Step ρ ρ' hp hp nx nx ∧ Below w.heap.size w w' := by
  have hargs1 : VRL ⟨fun _ => none, ρ.fr, ρ.gl⟩ args args' := .of hargs.len fun i v v' a b => by
    have h0 : VR0 ρ.fr v v' := nl_sound (List.all_eq_true.1 hn v (List.mem_of_getElem? a)) (hargs.get a b)
    exact VR0.lift (ρ := ⟨fun _ => none, ρ.fr, ρ.gl⟩) h0
  have hrel1 : Rel ⟨fun _ => none, ρ.fr, ρ.gl⟩ ⟨w, fun _ => False, ρ.fr, []⟩ .e 0 w := ⟨fun b x hb => (by cases hb), fun b o c s z ho => (by cases ho), fun b b' x x' o o' ho => (by cases ho), fun b _ => rfl, ⟨rfl, rfl, rfl, Nat.le_refl _, fun _ _ => rfl⟩, hrel.frz, fun b o c s z ho => (by cases ho), fun c ob hc => .inl hc⟩
  refine (h ⟨w, fun _ => False, ρ.fr, []⟩ _ w args' hrel1 hargs1).mono ?_
  rintro e w' ⟨v, hp', nx', v', ρ1, hP, rfl, hv, hr, hg⟩
  have old : ∀ c, c < w.heap.size → w'.heap[c]? = w.heap[c]? := fun c hc => hr.below.block c ⟨hc, fun h => h⟩
  have hsz : w.heap.size ≤ w'.heap.size := hr.below.size
  have lt : ∀ {c : Nat} {ob : Obj}, w.heap[c]? = some ob → c < w.heap.size := fun {c ob} hc => by
    rcases Nat.lt_or_ge c w.heap.size with h' | h'
    · exact h'
    · rw [Array.getElem?_eq_none h'] at hc; cases hc
  have hle : ρ.le ⟨ρ.pl, ρ1.fr, ρ1.gl⟩ := ⟨fun _ _ h => h, fun c x hc => hg.2 c x hc⟩
  refine ⟨v, v', ⟨ρ.pl, ρ1.fr, ρ1.gl⟩, hP, rfl, VR0.lift (ρ := ⟨ρ.pl, ρ1.fr, ρ1.gl⟩) hv, hv, ?_, ⟨hle, Nat.le_refl _, fun _ _ h => ⟨h, rfl⟩⟩, ⟨hr.below.os, hr.below.tape, hr.below.output, hsz, old⟩⟩
  refine ⟨fun b x hb => ⟨(hrel.dom b x hb).1, Nat.lt_of_lt_of_le (hrel.dom b x hb).2 hsz⟩, fun b o c s z ho hb => ?_, hrel.inj, hrel.fresh, ⟨hr.below.os.trans hrel.below.os, hr.below.tape.trans hrel.below.tape, hr.below.output.trans hrel.below.output, Nat.le_trans hrel.below.size hsz, fun k hk => ?_⟩, hr.frz, fun b o c s z ho hw hb => ?_, fun c ob hc => ?_⟩
  · obtain ⟨ob, e1, e2⟩ := hrel.obj b o c s z ho hb
    exact ⟨ob, by rw [old c (lt e1)]; exact e1, e2.mono hle⟩
  · rw [old k (Nat.lt_of_lt_of_le hk.1 hrel.below.size)]
    exact hrel.below.block k hk
  · show ρ1.fr c = none
    cases hc : ρ1.fr c with
    | none => rfl
    | some ob =>
      have hcl := (hrel.dom b _ hb).2
      rcases hr.frn c ob hc with h1 | h1
      · have := hrel.apart b o c s z ho hw hb
        have h2 : ρ.fr c = some ob := h1
        rw [this] at h2
        cases h2
      · exact absurd ⟨hcl, fun h => h⟩ h1
  · rcases hr.frn c ob hc with h1 | h1
    · exact hrel.frn c ob h1
    · refine .inr fun h2 => h1 ⟨Nat.lt_of_lt_of_le h2.1 hrel.below.size, fun h => h⟩
/-- A table of contracts. -/
structure Ent where
  f : FuncId
  c : List Value → (Value → Prop) → Prop
def EntOk (P : Program) (e : Ent) : Prop := ∀ args Post, e.c args Post → Pure P e.f args Post
def entOf (f : FuncId) : List Ent → Option Ent
  | [] => none
  | e :: l => bif e.f.beq f then some e else entOf f l
theorem entOf_mem {f : FuncId} {e : Ent} : ∀ {l : List Ent}, entOf f l = some e → e ∈ l ∧ e.f = f
  | [], h => by simp [entOf] at h
  | x :: l, h => by
    simp only [entOf] at h
    cases hx : x.f.beq f with
    | true => rw [hx] at h; cases h; exact ⟨by simp, Nat.eq_of_beq_eq_true hx⟩
    | false => rw [hx, cond_false] at h; exact ⟨by simp [(entOf_mem h).1], (entOf_mem h).2⟩
def tabCall (tab : List Ent) (next : VCall) : VCall := fun f args hp nx K =>
  match entOf f tab with
  | some e => bif args.all nl then e.c args fun v => K v false hp nx else False
  | none => next f args hp nx K
theorem tabCall_ok {P : Program} {tab : List Ent} {next : VCall} (ht : ∀ e ∈ tab, EntOk P e) (hn : VCallOk P next) : VCallOk P (tabCall tab next) := by
  intro f args hp nx K h W ρ w args' hrel hargs
  unfold tabCall at h
  split at h
  · rename_i e he
    obtain ⟨h1, rfl⟩ := entOf_mem he
    cases ha : args.all nl with
    | false => rw [ha] at h; exact h.elim
    | true =>
      rw [ha, cond_true] at h
      refine ((ht e h1 args _ h).call ha hrel hargs).mono ?_
      rintro e' w' ⟨v, v', ρ', hK, rfl, g1, _, g2, g3, _⟩
      exact ⟨v, false, hp, nx, v', ρ', hK, fun _ => rfl, rfl, g1, g2, g3⟩
  · exact hn f args hp nx K h W ρ w args' hrel hargs
def noCall : VCall := fun _ _ _ _ _ => False
theorem noCall_ok {P : Program} : VCallOk P noCall := fun _ _ _ _ _ h => h.elim
/-- Functions that are carried out on the spot. -/
def inlCall (P : Program) (inl : List FuncId) (next : VCall) : Nat → VCall
  | 0 => next
  | k + 1 => fun f args hp nx K => bif inl.contains f then match P.funcs[f]? with
      | some fn => match fn.body with
        | some c => vrun P (inlCall P inl next k) (slotsN args fn) [] [] (fun _ _ _ => False) (fun st => match ares P st.hp st.tm fn with | some v => K v true st.hp st.nx | none => False) 1000 (.code c) [] ⟨putArgs 0 args .e, hp, nx⟩
        | none => False
      | none => False
    else next f args hp nx K
theorem inlCall_ok {P : Program} (hm : P.follows .mixedOrders = true) {inl : List FuncId} {next : VCall} (hn : VCallOk P next) : ∀ k, VCallOk P (inlCall P inl next k)
  | 0 => hn
  | k + 1 => by
    intro f args hp nx K h W ρ w args' hrel hargs
    unfold inlCall at h
    cases hi : inl.contains f with
    | false => rw [hi] at h; exact hn f args hp nx K h W ρ w args' hrel hargs
    | true =>
      rw [hi, cond_true] at h
      split at h
      case h_2 => exact h.elim
      rename_i fn hf
      split at h
      case h_2 => exact h.elim
      rename_i c hc
      refine calls_of_wp hf hc ?_
      have fin : ∀ st, (match ares P st.hp st.tm fn with | some v => K v true st.hp st.nx | none => False) → ∀ ρ' a w', SRel ρ' W.bare (slotsN args fn) st a w' → Step ρ ρ' hp st.hp nx st.nx →
          a.defers = [] ∧ ∃ v', (results fn a.tmps).run P w' = .ok v' w' ∧ ∃ v c hp' nx' v'' ρ', K v c hp' nx' ∧ (c = false → hp' = hp) ∧ Ending.returned v' = .returned v'' ∧ VR ρ' v v'' ∧ Rel ρ' W hp' nx' w' ∧ Step ρ ρ' hp hp' nx nx' := by
        intro st hst ρ' a w' hs hr
        split at hst
        case h_2 => exact hst.elim
        rename_i v hv
        obtain ⟨v', r1, r2⟩ := ares_sound hs.rel hs.frame hv
        exact ⟨hs.frame.defers, v', r1, v, true, st.hp, st.nx, v', ρ', hst, fun e => (by cases e), rfl, r2, hs.rel.unbare, hr⟩
      exact vrun_sound (W := W.bare) (R := fun ρ' st => Step ρ ρ' hp st.hp nx st.nx) (inlCall_ok hm hn k) hm (fun _ _ _ _ h k => h.trans k)
        (fun b k st h ρ' a w hs hr => by
          unfold vloop at h
          split at h
          case h_2 => exact h.elim
          split at h
          case h_2 => exact h.elim
          split at h
          case h_2 => exact h.elim
          exact h.2.2.elim) (fun st hst ρ' a w hs hr => ⟨fin st hst ρ' a w hs hr, fin st hst ρ' a w hs hr⟩) 1000 (.code c) [] _ h ρ _ w (start_rel rfl hrel.bare hargs fn) (.refl _ _ _)
end Go.Proofs.YtegjnjmimfgijaaGreatDoor
