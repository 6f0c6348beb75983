/-
  Put together out of several texts, each in its own namespace's block. Conditions: as each theorem states them.
-/
import Derived.Test.YtojlhapbngcjkaaGreatDoorQEvr
import Derived.KernelRfl
import Derived.Test.YtojlhapbngcjkaaGreatDoorProg
noncomputable section
namespace Go.Proofs.YtojlhapbngcjkaaGreatDoor
open Go Go.RowKit
set_option maxRecDepth 100000
set_option maxHeartbeats 8000000
def frzL (P : Program) (N : Nat) (t : TypeId) (hp : Tr AObj) (v : Value) : Option (Value × Tr AObj × Prop) :=
 match P.underlying t, v with
 | some (.slice e), .slice (some ⟨b, o, none⟩) n sz => match pureRun P (sizeOf e), hp.get b with
  | some z, some (.cells l true) => bif z.beq sz && N.ble b then some (tree sz n (chunks sz n (l.drop o)), hp.put b none, o + n * sz ≤ l.length ∧ NLs (l.drop o)) else none
  | _, _ => none
 | some (.slice e), .slice none 0 _ => match pureRun P (sizeOf e) with
  | some z => some (tree z 0 #[], hp, True)
  | none => none
 | _, v => bif nl1 v then some (v, hp, True) else none
theorem frzL_sound {P : Program} {N : Nat} {t : TypeId} {ρ : Place} {W : Base} {hp hp' : Tr AObj} {nx : Nat} {w : World} (h : Rel ρ W hp nx w) {v v' u : Value} {ob : Prop} (hv : VR ρ v v') (hf : frzL P N t hp v = some (u, hp', ob)) (hob : ob) :
  ∃ ρ', Rel ρ' W hp' nx w ∧ Step ρ ρ' hp hp' nx nx ∧ VR0 ρ'.fr u v' := by
 have base : ∀ {v : Value}, VR ρ v v' → (bif nl1 v then some (v, hp, True) else none) = some (u, hp', ob) → ∃ ρ', Rel ρ' W hp' nx w ∧ Step ρ ρ' hp hp' nx nx ∧ VR0 ρ'.fr u v' := fun {v} hv hf => by
  cases hn : nl1 v with
  | false => rw [hn] at hf; cases hf
  | true => rw [hn] at hf; cases hf; exact ⟨ρ, h, .refl _ _ _, nl1_sound hn hv⟩
 unfold frzL at hf
 split at hf
 ·rename_i e b o n sz hu
  split at hf
  case h_2 => cases hf
  rename_i z l hz hg
  cases hc : z.beq sz && N.ble b with
  | false => rw [hc] at hf; cases hf
  | true =>
   rw [hc] at hf
   cases hf
   obtain ⟨hlen, hnl⟩ := hob
   cases hv with
   | @slice _ _ _ _ c s zz cap hr h1 h2 =>
    obtain ⟨ob, e0, ho⟩ := h.obj b _ c s zz hg hr
    obtain ⟨g1, g2⟩ := freeze_rel h hg hr e0
    refine ⟨_, g1, ⟨g2, Nat.le_refl _, fun k _ hn => ⟨hn, by rw [Tr.get_put, if_neg (by intro e; subst e; have hr' := hr; rw [hn] at hr'; cases hr')]⟩⟩, ?_⟩
    cases ob <;> try exact ho.elim
    rename_i cs ct fz
    obtain ⟨k1, k2, k3, k4, k5⟩ := ho
    have hlen' : n * sz ≤ (l.drop o).length := by rw [List.length_drop]; omega
    have hmul : n * sz ≤ cap * sz := Nat.mul_le_mul_right _ h1
    refine VR0.tree (o := s + o) (cs := cs) (t := ct) (fz := fz) (by show (match ρ.fr c with | some o => some o | none => if c = c then _ else none) = _; rw [h.apart b _ c s zz hg rfl hr]; dsimp only; rw [if_pos rfl]) (chunks_size hlen') h1 (by omega) (fun i u hu => (chunks_get hlen' hnl hu).2.1) (fun i j u a a' hu ha ha' => ?_)
    obtain ⟨q1, q2, q3⟩ := chunks_get hlen' hnl hu
    obtain ⟨q4, q5⟩ := q3 j a ha
    have q6 := q5
    rw [List.getElem?_drop] at q5
    obtain ⟨a2, e1, e2⟩ := k4 _ a q5
    have : a2 = a' := by
     rw [show s + o + i * sz + j = s + (o + (i * sz + j)) by omega, e1] at ha'
     cases ha'
     rfl
    subst this
    have hn := hnl a (List.mem_of_getElem? q6)
    have h0 : VR0 ρ.fr a a2 := nl1_sound hn e2
    exact h0.mono g2.2
   | @emptySlice _ _ y a' _ hr =>
    obtain ⟨c, s, zz⟩ := y
    obtain ⟨ob, e0, ho⟩ := h.obj b _ c s zz hg hr
    obtain ⟨g1, g2⟩ := freeze_rel h hg hr e0
    refine ⟨_, g1, ⟨g2, Nat.le_refl _, fun k _ hn => ⟨hn, by rw [Tr.get_put, if_neg (by intro e; subst e; have hr' := hr; rw [hn] at hr'; cases hr')]⟩⟩, ?_⟩
    have : chunks sz 0 (l.drop o) = #[] := by
     unfold chunks
     cases sz.beq 1 <;> simp
    rw [this]
    exact .treeNil _ _ _
 ·rename_i e cp hu
  split at hf
  case h_2 => cases hf
  cases hf
  cases hv with
  | nilSlice => exact ⟨ρ, h, .refl _ _ _, .treeNil _ _ _⟩
 ·exact base hv hf
def frzC (P : Program) (N : Nat) : List TypeId → List Value → Tr AObj → Option (List Value × Tr AObj × Prop)
 | [], [], hp => some ([], hp, True)
 | t :: ts, v :: vs, hp => match frzL P N t hp v with
  | some (u, hp1, o1) => match frzC P N ts vs hp1 with
   | some (us, hp2, o2) => some (u :: us, hp2, o1 ∧ o2)
   | none => none
  | none => none
 | _, _, _ => none
theorem VR0L {fr : Nat → Option Obj} {c c' : List Value} (h : c.length = c'.length ∧ ∀ (i : Nat) (v v' : Value), c[i]? = some v → c'[i]? = some v' → VR0 fr v v') : VR0 fr (.agg c.toArray) (.agg c'.toArray) :=
 .agg (by simp [h.1]) fun i v v' a b => h.2 i v v' (by simpa using a) (by simpa using b)
theorem frzC_sound {P : Program} {N : Nat} {W : Base} {nx : Nat} {w : World} : ∀ {ts : List TypeId} {vs vs' us : List Value} {ρ : Place} {hp hp' : Tr AObj} {ob : Prop}, Rel ρ W hp nx w → VRL ρ vs vs' → frzC P N ts vs hp = some (us, hp', ob) → ob →
  ∃ ρ', Rel ρ' W hp' nx w ∧ Step ρ ρ' hp hp' nx nx ∧ us.length = vs'.length ∧ ∀ (i : Nat) (v v' : Value), us[i]? = some v → vs'[i]? = some v' → VR0 ρ'.fr v v'
 | [], [], vs', us, ρ, hp, hp', ob, h, hl, hf, _ => by
  simp only [frzC] at hf
  cases hf
  cases hl
  exact ⟨ρ, h, .refl _ _ _, rfl, fun i v v' a => by simp at a⟩
 | [], _ :: _, vs', us, ρ, hp, hp', ob, h, hl, hf, _ => by simp [frzC] at hf
 | _ :: _, [], vs', us, ρ, hp, hp', ob, h, hl, hf, _ => by simp [frzC] at hf
 | t :: ts, v :: vs, vs', us, ρ, hp, hp', ob, h, hl, hf, hob => by
  simp only [frzC] at hf
  split at hf
  case h_2 => cases hf
  rename_i u hp1 o1 h1
  split at hf
  case h_2 => cases hf
  rename_i us0 hp2 o2 h2
  cases hf
  cases hl with
  | cons hv hl =>
   obtain ⟨ρ1, g1, g2, g3⟩ := frzL_sound h hv h1 hob.1
   obtain ⟨ρ2, k1, k2, k3, k4⟩ := frzC_sound g1 (hl.mono g2.le) h2 hob.2
   refine ⟨ρ2, k1, g2.trans k2, by simp [k3], fun i x x' a b => ?_⟩
   cases i with
   | zero => simp at a b; subst a b; exact g3.mono k2.le.2
   | succ i => exact k4 i x x' (by simpa using a) (by simpa using b)
def frzT (P : Program) (N : Nat) (t : TypeId) (hp : Tr AObj) (v : Value) : Option (Value × Tr AObj × Prop) :=
 match v with
 | .agg c => match leaves P 20 t with
  | some ts => match frzC P N ts c.toList hp with
   | some (us, hp', ob) => some (.agg us.toArray, hp', ob)
   | none => none
  | none => none
 | v => frzL P N t hp v
theorem frzT_sound {P : Program} {N : Nat} {t : TypeId} {ρ : Place} {W : Base} {hp hp' : Tr AObj} {nx : Nat} {w : World} (h : Rel ρ W hp nx w) {v v' u : Value} {ob : Prop} (hv : VR ρ v v') (hf : frzT P N t hp v = some (u, hp', ob)) (hob : ob) :
  ∃ ρ', Rel ρ' W hp' nx w ∧ Step ρ ρ' hp hp' nx nx ∧ VR0 ρ'.fr u v' := by
 unfold frzT at hf
 split at hf
 ·rename_i c
  split at hf
  case h_2 => cases hf
  split at hf
  case h_2 => cases hf
  rename_i us hp2 ob2 h2
  cases hf
  cases hv with
  | agg hs hc =>
   rename_i c'
   obtain ⟨ρ', g1, g2, g3, g4⟩ := frzC_sound h (VRA.list ⟨hs, hc⟩) h2 hob
   refine ⟨ρ', g1, g2, ?_⟩
   have := VR0L ⟨g3, g4⟩
   simpa using this
 ·exact frzL_sound h hv hf hob
def frzTs (P : Program) (N : Nat) : List TypeId → List Value → Tr AObj → Option (List Value × Tr AObj × Prop)
 | [], [], hp => some ([], hp, True)
 | t :: ts, v :: vs, hp => match frzT P N t hp v with
  | some (u, hp1, o1) => match frzTs P N ts vs hp1 with
   | some (us, hp2, o2) => some (u :: us, hp2, o1 ∧ o2)
   | none => none
  | none => none
 | _, _, _ => none
theorem frzTs_sound {P : Program} {N : Nat} {W : Base} {nx : Nat} {w : World} : ∀ {ts : List TypeId} {vs vs' us : List Value} {ρ : Place} {hp hp' : Tr AObj} {ob : Prop}, Rel ρ W hp nx w → VRL ρ vs vs' → frzTs P N ts vs hp = some (us, hp', ob) → ob →
  ∃ ρ', Rel ρ' W hp' nx w ∧ Step ρ ρ' hp hp' nx nx ∧ us.length = vs'.length ∧ ∀ (i : Nat) (v v' : Value), us[i]? = some v → vs'[i]? = some v' → VR0 ρ'.fr v v'
 | [], [], vs', us, ρ, hp, hp', ob, h, hl, hf, _ => by
  simp only [frzTs] at hf
  cases hf
  cases hl
  exact ⟨ρ, h, .refl _ _ _, rfl, fun i v v' a => by simp at a⟩
 | [], _ :: _, vs', us, ρ, hp, hp', ob, h, hl, hf, _ => by simp [frzTs] at hf
 | _ :: _, [], vs', us, ρ, hp, hp', ob, h, hl, hf, _ => by simp [frzTs] at hf
 | t :: ts, v :: vs, vs', us, ρ, hp, hp', ob, h, hl, hf, hob => by
  simp only [frzTs] at hf
  split at hf
  case h_2 => cases hf
  rename_i u hp1 o1 h1
  split at hf
  case h_2 => cases hf
  rename_i us0 hp2 o2 h2
  cases hf
  cases hl with
  | cons hv hl =>
   obtain ⟨ρ1, g1, g2, g3⟩ := frzT_sound h hv h1 hob.1
   obtain ⟨ρ2, k1, k2, k3, k4⟩ := frzTs_sound g1 (hl.mono g2.le) h2 hob.2
   refine ⟨ρ2, k1, g2.trans k2, by simp [k3], fun i x x' a b => ?_⟩
   cases i with
   | zero => simp at a b; subst a b; exact g3.mono k2.le.2
   | succ i => exact k4 i x x' (by simpa using a) (by simpa using b)
def frzR (P : Program) (N : Nat) (ts : List TypeId) (hp : Tr AObj) (v : Value) : Option (Value × Tr AObj × Prop) :=
 match ts with
 | [t] => frzT P N t hp v
 | ts => match v with
  | .tuple vs => match frzTs P N ts vs.toList hp with
   | some (us, hp', ob) => some (.tuple us.toArray, hp', ob)
   | none => none
  | _ => none
theorem frzR_sound {P : Program} {N : Nat} {ts : List TypeId} {ρ : Place} {W : Base} {hp hp' : Tr AObj} {nx : Nat} {w : World} (h : Rel ρ W hp nx w) {v v' u : Value} {ob : Prop} (hv : VR ρ v v') (hf : frzR P N ts hp v = some (u, hp', ob)) (hob : ob) :
  ∃ ρ', Rel ρ' W hp' nx w ∧ Step ρ ρ' hp hp' nx nx ∧ VR0 ρ'.fr u v' := by
 unfold frzR at hf
 split at hf
 ·exact frzT_sound h hv hf hob
 ·split at hf
  case h_2 => cases hf
  rename_i vs
  split at hf
  case h_2 => cases hf
  rename_i us hp2 ob2 h2
  cases hf
  cases hv with
  | tuple hs hc =>
   rename_i c'
   obtain ⟨ρ', g1, g2, g3, g4⟩ := frzTs_sound h (VRA.list ⟨hs, hc⟩) h2 hob
   refine ⟨ρ', g1, g2, .tuple (by simpa using g3) fun i v v' a b => g4 i v v' (by simpa using a) (by simpa using b)⟩
def finOf (P : Program) (fn : Func) (N : Nat) (Post : Value → Tr AObj → Prop) (st : AS) : Prop :=
 match ares P st.hp st.tm fn with
 | some v => match frzR P N fn.resultTypes.toList st.hp v with
  | some (u, hp', ob) => ob ∧ Post u hp'
  | none => False
 | none => False
def Spec (P : Program) (f : FuncId) (N : Nat) (hp : Tr AObj) (args : List Value) (Post : Value → Tr AObj → Prop) : Prop :=
 ∀ (W : Base) ρ w args', Rel ρ W hp N w → VRL ρ args args' → Calls P f args'.toArray w fun e w' => ∃ v hp' nx' v' ρ', Post v hp' ∧ e = .returned v' ∧ VR0 ρ'.fr v v' ∧ Rel ρ' W hp' nx' w' ∧ StepG N ρ ρ'
def FinQ (P : Program) (fn : Func) (W : Base) (N : Nat) (ρ : Place) (Post : Value → Tr AObj → Prop) (e : Exit) (a : Act) (w : World) : Prop :=
 bodyPost P fn (fun e w' => ∃ v hp' nx' v' ρ', Post v hp' ∧ e = .returned v' ∧ VR0 ρ'.fr v v' ∧ Rel ρ' W hp' nx' w' ∧ StepG N ρ ρ') e a w
theorem finOf_ok {P : Program} {fn : Func} {N n : Nat} {Post : Value → Tr AObj → Prop} {st : AS} (h : finOf P fn N Post st) {W : Base} (hd : W.ds = []) {ρ0 ρ : Place} {a : Act} {w : World} (hs : SRel ρ W n st a w) (hr : StepG N ρ0 ρ) :
  FinQ P fn W N ρ0 Post .normal a w ∧ FinQ P fn W N ρ0 Post .ret a w := by
 unfold finOf at h
 split at h
 case h_2 => exact h.elim
 rename_i v hv
 split at h
 case h_2 => exact h.elim
 rename_i u hp' ob hf
 obtain ⟨v', r1, r2⟩ := ares_sound hs.rel hs.frame hv
 obtain ⟨ρ', g1, g2, g3⟩ := frzR_sound hs.rel r2 hf h.1
 have : ∃ v hp' nx' v'' ρ', Post v hp' ∧ Ending.returned v' = .returned v'' ∧ VR0 ρ'.fr v v'' ∧ Rel ρ' W hp' nx' w ∧ StepG N ρ0 ρ' :=
  ⟨u, hp', st.nx, v', ρ', h.2, rfl, g3, g1, fun b x hb hx => g2.le.1 b x (hr.1 b x hb hx), fun c x hx => g2.le.2 c x (hr.2 c x hx)⟩
 exact ⟨⟨hs.frame.defers.trans hd, v', r1, this⟩, ⟨hs.frame.defers.trans hd, v', r1, this⟩⟩
def slotsN (args : List Value) (fn : Func) : Nat := args.length + (fn.ntmps - args.length)
theorem start_rel {ρ : Place} {W : Base} (hd : W.ds = []) {hp : Tr AObj} {nx : Nat} {w : World} (h : Rel ρ W hp nx w) {args args' : List Value} (hargs : VRL ρ args args') (fn : Func) :
  SRel ρ W (slotsN args fn) ⟨putArgs 0 args .e, hp, nx⟩ { tmps := args'.toArray ++ Array.replicate (fn.ntmps - args'.toArray.size) undef, defers := [] } w := by
 refine ⟨h, ?_, hd.symm, fun t u hu => ?_⟩
 ·simp [slotsN, hargs.len]
 ·rw [putArgs_get] at hu
  by_cases ht : 0 ≤ t ∧ t < 0 + args.length
  ·rw [if_pos ht] at hu
   have hlt : t < args'.length := by rw [← hargs.len]; omega
   refine ⟨by unfold slotsN; omega, ?_⟩
   have hg := hargs.get (i := t) (v := u) (v' := args'[t]) (by simpa using hu) (by simp)
   rw [Array.getD_eq_getD_getElem?, Array.getElem?_append_left (by simpa using hlt)]
   simpa [hlt] using hg
  ·rw [if_neg ht] at hu
   simp [Tr.get_e] at hu
theorem spec_of {P : Program} {vc : VCall} (hcall : VCallOk P vc) (hm : P.follows .mixedOrders = true) {f : FuncId} {fn : Func} {c : Code} (hf : P.funcs[f]? = some fn) (hc : fn.body = some c) {lt : List (Nat × List Nat)} {base : List Bool} {hp : Tr AObj} {args : List Value} {Post : Value → Tr AObj → Prop} (k : Nat)
  (h : vrun P vc (slotsN args fn) lt base (Good P (slotsN args fn) base (finOf P fn base.length Post)) (finOf P fn base.length Post) k (.code c) [] ⟨putArgs 0 args .e, hp, base.length⟩) : Spec P f base.length hp args Post := by
 intro W ρ w args' hrel hargs
 suffices hb : Calls P f args'.toArray w fun e w' => ∃ v hp' nx' v' ρ', Post v hp' ∧ e = .returned v' ∧ VR0 ρ'.fr v v' ∧ Rel ρ' W.bare hp' nx' w' ∧ StepG base.length ρ ρ' from hb.mono fun e w' ⟨v, hp', nx', v', ρ', g1, g2, g3, g4, g5⟩ => ⟨v, hp', nx', v', ρ', g1, g2, g3, g4.unbare, g5⟩
 refine calls_of_wp hf hc ?_
 exact vrun_sound (R := fun ρ' _ => StepG base.length ρ ρ') (Q := FinQ P fn W.bare base.length ρ Post) hcall hm (fun _ _ _ _ h k => h.step k)
  (fun b k st h ρ' a w hs hr => good_vloop h W.bare ρ _ (fun st hst ρ' a w hs hr => finOf_ok hst rfl hs hr) ρ' a w hs hr) (fun st hst ρ' a w hs hr => finOf_ok hst rfl hs hr) k (.code c) [] _ h ρ _ w (start_rel rfl hrel.bare hargs fn) (.refl _ _)
def Pure (P : Program) (f : FuncId) (args : List Value) (Post : Value → Prop) : Prop := Spec P f 0 .e args fun v _ => Post v
theorem Pure.call {P : Program} {f : FuncId} {args : List Value} {Post : Value → Prop} (h : Pure P f args Post) (hn : args.all nl = true) {W : Base} {ρ : Place} {hp : Tr AObj} {nx : Nat} {w : World} {args' : List Value} (hrel : Rel ρ W hp nx w) (hargs : VRL ρ args args') :
  Calls P f args'.toArray w fun e w' => ∃ v v' ρ', Post v ∧ e = .returned v' ∧ VR ρ' v v' ∧ VR0 ρ'.fr v v' ∧ Rel ρ' W hp nx w' ∧ Step ρ ρ' hp hp nx nx ∧ Below w.heap.size w w' := by
 have hargs1 : VRL ⟨fun _ => none, ρ.fr, ρ.gl⟩ args args' := .of hargs.len fun i v v' a b => by
  have h0 : VR0 ρ.fr v v' := nl_sound (List.all_eq_true.1 hn v (List.mem_of_getElem? a)) (hargs.get a b)
  exact VR0.lift (ρ := ⟨fun _ => none, ρ.fr, ρ.gl⟩) h0
 have hrel1 : Rel ⟨fun _ => none, ρ.fr, ρ.gl⟩ ⟨w, fun _ => False, ρ.fr, []⟩ .e 0 w := ⟨fun b x hb => (by cases hb), fun b o c s z ho => (by cases ho), fun b b' x x' o o' ho => (by cases ho), fun b _ => rfl, ⟨rfl, rfl, rfl, Nat.le_refl _, fun _ _ => rfl⟩, hrel.frz, fun b o c s z ho => (by cases ho), fun c ob hc => .inl hc⟩
 refine (h ⟨w, fun _ => False, ρ.fr, []⟩ _ w args' hrel1 hargs1).mono ?_
 rintro e w' ⟨v, hp', nx', v', ρ1, hP, rfl, hv, hr, hg⟩
 have old : ∀ c, c < w.heap.size → w'.heap[c]? = w.heap[c]? := fun c hc => hr.below.block c ⟨hc, fun h => h⟩
 have hsz : w.heap.size ≤ w'.heap.size := hr.below.size
 have lt : ∀ {c : Nat} {ob : Obj}, w.heap[c]? = some ob → c < w.heap.size := fun {c ob} hc => by
  rcases Nat.lt_or_ge c w.heap.size with h' | h'
  ·exact h'
  ·rw [Array.getElem?_eq_none h'] at hc; cases hc
 have hle : ρ.le ⟨ρ.pl, ρ1.fr, ρ1.gl⟩ := ⟨fun _ _ h => h, fun c x hc => hg.2 c x hc⟩
 refine ⟨v, v', ⟨ρ.pl, ρ1.fr, ρ1.gl⟩, hP, rfl, VR0.lift (ρ := ⟨ρ.pl, ρ1.fr, ρ1.gl⟩) hv, hv, ?_, ⟨hle, Nat.le_refl _, fun _ _ h => ⟨h, rfl⟩⟩, ⟨hr.below.os, hr.below.tape, hr.below.output, hsz, old⟩⟩
 refine ⟨fun b x hb => ⟨(hrel.dom b x hb).1, Nat.lt_of_lt_of_le (hrel.dom b x hb).2 hsz⟩, fun b o c s z ho hb => ?_, hrel.inj, hrel.fresh, ⟨hr.below.os.trans hrel.below.os, hr.below.tape.trans hrel.below.tape, hr.below.output.trans hrel.below.output, Nat.le_trans hrel.below.size hsz, fun k hk => ?_⟩, hr.frz, fun b o c s z ho hw hb => ?_, fun c ob hc => ?_⟩
 ·obtain ⟨ob, e1, e2⟩ := hrel.obj b o c s z ho hb
  exact ⟨ob, by rw [old c (lt e1)]; exact e1, e2.mono hle⟩
 ·rw [old k (Nat.lt_of_lt_of_le hk.1 hrel.below.size)]
  exact hrel.below.block k hk
 ·show ρ1.fr c = none
  cases hc : ρ1.fr c with
  | none => rfl
  | some ob =>
   have hcl := (hrel.dom b _ hb).2
   rcases hr.frn c ob hc with h1 | h1
   ·have := hrel.apart b o c s z ho hw hb
    have h2 : ρ.fr c = some ob := h1
    rw [this] at h2
    cases h2
   ·exact absurd ⟨hcl, fun h => h⟩ h1
 ·rcases hr.frn c ob hc with h1 | h1
  ·exact hrel.frn c ob h1
  ·refine .inr fun h2 => h1 ⟨Nat.lt_of_lt_of_le h2.1 hrel.below.size, fun h => h⟩
structure Ent where
 f : FuncId
 c : List Value → (Value → Prop) → Prop
def EntOk (P : Program) (e : Ent) : Prop := ∀ args Post, e.c args Post → Pure P e.f args Post
def entOf (f : FuncId) : List Ent → Option Ent
 | [] => none
 | e :: l => bif e.f.beq f then some e else entOf f l
theorem entOf_mem {f : FuncId} {e : Ent} : ∀ {l : List Ent}, entOf f l = some e → e ∈ l ∧ e.f = f
 | [], h => by simp [entOf] at h
 | x :: l, h => by
  simp only [entOf] at h
  cases hx : x.f.beq f with
  | true => rw [hx] at h; cases h; exact ⟨by simp, Nat.eq_of_beq_eq_true hx⟩
  | false => rw [hx, cond_false] at h; exact ⟨by simp [(entOf_mem h).1], (entOf_mem h).2⟩
def tabCall (tab : List Ent) (next : VCall) : VCall := fun f args hp nx K =>
 match entOf f tab with
 | some e => bif args.all nl then e.c args fun v => K v false hp nx else False
 | none => next f args hp nx K
theorem tabCall_ok {P : Program} {tab : List Ent} {next : VCall} (ht : ∀ e ∈ tab, EntOk P e) (hn : VCallOk P next) : VCallOk P (tabCall tab next) := by
 intro f args hp nx K h W ρ w args' hrel hargs
 unfold tabCall at h
 split at h
 ·rename_i e he
  obtain ⟨h1, rfl⟩ := entOf_mem he
  cases ha : args.all nl with
  | false => rw [ha] at h; exact h.elim
  | true =>
   rw [ha, cond_true] at h
   refine ((ht e h1 args _ h).call ha hrel hargs).mono ?_
   rintro e' w' ⟨v, v', ρ', hK, rfl, g1, _, g2, g3, _⟩
   exact ⟨v, false, hp, nx, v', ρ', hK, fun _ => rfl, rfl, g1, g2, g3⟩
 ·exact hn f args hp nx K h W ρ w args' hrel hargs
def noCall : VCall := fun _ _ _ _ _ => False
theorem noCall_ok {P : Program} : VCallOk P noCall := fun _ _ _ _ _ h => h.elim
def inlCall (P : Program) (inl : List FuncId) (next : VCall) : Nat → VCall
 | 0 => next
 | k + 1 => fun f args hp nx K => bif inl.contains f then match P.funcs[f]? with
   | some fn => match fn.body with
    | some c => vrun P (inlCall P inl next k) (slotsN args fn) [] [] (fun _ _ _ => False) (fun st => match ares P st.hp st.tm fn with | some v => K v true st.hp st.nx | none => False) 1000 (.code c) [] ⟨putArgs 0 args .e, hp, nx⟩
    | none => False
   | none => False
  else next f args hp nx K
theorem inlCall_ok {P : Program} (hm : P.follows .mixedOrders = true) {inl : List FuncId} {next : VCall} (hn : VCallOk P next) : ∀ k, VCallOk P (inlCall P inl next k)
 | 0 => hn
 | k + 1 => by
  intro f args hp nx K h W ρ w args' hrel hargs
  unfold inlCall at h
  cases hi : inl.contains f with
  | false => rw [hi] at h; exact hn f args hp nx K h W ρ w args' hrel hargs
  | true =>
   rw [hi, cond_true] at h
   split at h
   case h_2 => exact h.elim
   rename_i fn hf
   split at h
   case h_2 => exact h.elim
   rename_i c hc
   refine calls_of_wp hf hc ?_
   have fin : ∀ st, (match ares P st.hp st.tm fn with | some v => K v true st.hp st.nx | none => False) → ∀ ρ' a w', SRel ρ' W.bare (slotsN args fn) st a w' → Step ρ ρ' hp st.hp nx st.nx →
     a.defers = [] ∧ ∃ v', (results fn a.tmps).run P w' = .ok v' w' ∧ ∃ v c hp' nx' v'' ρ', K v c hp' nx' ∧ (c = false → hp' = hp) ∧ Ending.returned v' = .returned v'' ∧ VR ρ' v v'' ∧ Rel ρ' W hp' nx' w' ∧ Step ρ ρ' hp hp' nx nx' := by
    intro st hst ρ' a w' hs hr
    split at hst
    case h_2 => exact hst.elim
    rename_i v hv
    obtain ⟨v', r1, r2⟩ := ares_sound hs.rel hs.frame hv
    exact ⟨hs.frame.defers, v', r1, v, true, st.hp, st.nx, v', ρ', hst, fun e => (by cases e), rfl, r2, hs.rel.unbare, hr⟩
   exact vrun_sound (W := W.bare) (R := fun ρ' st => Step ρ ρ' hp st.hp nx st.nx) (inlCall_ok hm hn k) hm (fun _ _ _ _ h k => h.trans k)
    (fun b k st h ρ' a w hs hr => by
     unfold vloop at h
     split at h
     case h_2 => exact h.elim
     split at h
     case h_2 => exact h.elim
     split at h
     case h_2 => exact h.elim
     exact h.2.2.elim) (fun st hst ρ' a w hs hr => ⟨fin st hst ρ' a w hs hr, fin st hst ρ' a w hs hr⟩) 1000 (.code c) [] _ h ρ _ w (start_rel rfl hrel.bare hargs fn) (.refl _ _ _)
abbrev eqL (a b : List Value) : Prop := a = b
def trV {α : Type} (l : List (Nat × Option α)) : Tr α := l.foldl (fun t p => t.put p.1 p.2) .e
def stV (tm : List (Nat × Option Value)) (hp : List (Nat × Option AObj)) (nx : Nat) : AS := ⟨trV tm, trV hp, nx⟩
def fnAt (P : Program) (f : FuncId) : Func := (P.funcs[f]?).getD default
def codeOf (fn : Func) : Code := fn.body.getD .skip
def findL (r : Nat) : Code → List Fr → Option (Code × List Fr)
 | .seq x y, k => match findL r x (.seq y :: k) with
  | some p => some p
  | none => findL r y k
 | .cond _ x y, k => match findL r x k with
  | some p => some p
  | none => findL r y k
 | .block id b, k => findL r b (.block id :: k)
 | .loop b, k => match rid b with
  | some j => bif j.beq r then some (b, k) else findL r b (.loop b :: k)
  | none => none
 | _, _ => none
def lpC (P : Program) (f : FuncId) (r : Nat) : Code := ((findL r (codeOf (fnAt P f)) []).map (·.1)).getD .skip
def lpK (P : Program) (f : FuncId) (r : Nat) : List Fr := ((findL r (codeOf (fnAt P f)) []).map (·.2)).getD []
def vcE (P : Program) (vc : VCall) (f : FuncId) (lt : List (Nat × List Nat)) (base : List Bool) (hp : Tr AObj) (args : List Value) (H : Code → List Fr → AS → Prop) (Post : Value → Tr AObj → Prop) : Prop :=
 vrun P vc (slotsN args (fnAt P f)) lt base H (finOf P (fnAt P f) base.length Post) 3000 (.code (codeOf (fnAt P f))) [] ⟨putArgs 0 args .e, hp, base.length⟩
def vcL (P : Program) (vc : VCall) (f : FuncId) (na : List Value) (lt : List (Nat × List Nat)) (base : List Bool) (r : Nat) (st : AS) (H : Code → List Fr → AS → Prop) (Post : Value → Tr AObj → Prop) : Prop :=
 vrun P vc (slotsN na (fnAt P f)) lt base H (finOf P (fnAt P f) base.length Post) 3000 (.code (lpC P f r)) (.loop (lpC P f r) :: lpK P f r) st
def Ok (P : Program) (f : FuncId) (na : List Value) (base : List Bool) (Post : Value → Tr AObj → Prop) : Code → List Fr → AS → Prop :=
 Good P (slotsN na (fnAt P f)) base (finOf P (fnAt P f) base.length Post)
theorem spec_E {P : Program} {vc : VCall} (hcall : VCallOk P vc) (hm : P.follows .mixedOrders = true) {f : FuncId} (hf : (P.funcs[f]?).isSome = true) (hc : (fnAt P f).body.isSome = true) {lt : List (Nat × List Nat)} {base : List Bool} {hp : Tr AObj} {args : List Value} {Post : Value → Tr AObj → Prop}
  (h : vcE P vc f lt base hp args (Ok P f args base Post) Post) : Spec P f base.length hp args Post := by
 have hf' : P.funcs[f]? = some (fnAt P f) := by
  unfold fnAt
  cases hx : P.funcs[f]? with
  | none => rw [hx] at hf; cases hf
  | some x => rfl
 have hc' : (fnAt P f).body = some (codeOf (fnAt P f)) := by
  unfold codeOf
  cases hx : (fnAt P f).body with
  | none => rw [hx] at hc; cases hc
  | some x => rfl
 exact spec_of hcall hm hf' hc' 3000 h
theorem pure_E {P : Program} {vc : VCall} (hcall : VCallOk P vc) (hm : P.follows .mixedOrders = true) {f : FuncId} (hf : (P.funcs[f]?).isSome = true) (hc : (fnAt P f).body.isSome = true) {lt : List (Nat × List Nat)} {args : List Value} {Post : Value → Prop}
  (h : vcE P vc f lt [] .e args (Ok P f args [] fun v _ => Post v) fun v _ => Post v) : Pure P f args Post := spec_E hcall hm hf hc h
theorem ok_L {P : Program} {vc : VCall} (hcall : VCallOk P vc) (hm : P.follows .mixedOrders = true) {f : FuncId} {na : List Value} {lt : List (Nat × List Nat)} {base : List Bool} {r : Nat} {st : AS} {Post : Value → Tr AObj → Prop}
  (h : vcL P vc f na lt base r st (Ok P f na base Post) Post) : Ok P f na base Post (lpC P f r) (lpK P f r) st := good_round hcall hm 3000 h
def vcP (P : Program) (vc : VCall) (f : FuncId) (lt : List (Nat × List Nat)) (args : List Value) (H : Code → List Fr → AS → Prop) (Post : Value → Prop) : Prop := vcE P vc f lt [] .e args H fun v _ => Post v
def vcLP (P : Program) (vc : VCall) (f : FuncId) (na : List Value) (lt : List (Nat × List Nat)) (r : Nat) (st : AS) (H : Code → List Fr → AS → Prop) (Post : Value → Prop) : Prop := vcL P vc f na lt [] r st H fun v _ => Post v
def OkAt (P : Program) (f : FuncId) (na : List Value) (Post : Value → Prop) : Code → List Fr → AS → Prop := Ok P f na [] fun v _ => Post v
theorem pure_P {P : Program} {vc : VCall} (hcall : VCallOk P vc) (hm : P.follows .mixedOrders = true) {f : FuncId} (hf : (P.funcs[f]?).isSome = true) (hc : (fnAt P f).body.isSome = true) (lt : List (Nat × List Nat)) {args : List Value} {Post : Value → Prop}
  {X : Prop} (e : vcP P vc f lt args (OkAt P f args Post) Post = X) (h : X) : Pure P f args Post := pure_E (lt := lt) hcall hm hf hc (Eq.mpr e h)
theorem ok_P {P : Program} {vc : VCall} (hcall : VCallOk P vc) (hm : P.follows .mixedOrders = true) {f : FuncId} {na : List Value} (lt : List (Nat × List Nat)) {r : Nat} {st : AS} {Post : Value → Prop}
  {X : Prop} (e : vcLP P vc f na lt r st (OkAt P f na Post) Post = X) (h : X) : OkAt P f na Post (lpC P f r) (lpK P f r) st := ok_L (lt := lt) hcall hm (Eq.mpr e h)
abbrev HT : Type := Code → List Fr → AS → Prop
abbrev PV : Type := Value → Prop
abbrev PI : Type := Value → List (List Value) → Prop
def hpOf (conts : List (List Value)) : Tr AObj := putObjs 0 (conts.map fun l => some (.cells l true)) .e
def outs (hp : Tr AObj) : Nat → Nat → Option (List (List Value))
 | _, 0 => some []
 | i, n + 1 => match hp.get i with
  | some (.cells l true) => match outs hp (i + 1) n with
   | some ls => some (l :: ls)
   | none => none
  | _ => none
theorem Rel.later {ρ : Place} {W : Base} {hp : Tr AObj} {nx : Nat} {w w' : World} (h : Rel ρ W hp nx w) (hb : Below w.heap.size w w') : Rel ρ W hp nx w' := by
 have lt : ∀ {c : Nat} {ob : Obj}, w.heap[c]? = some ob → c < w.heap.size := fun {c ob} hc => by
  rcases Nat.lt_or_ge c w.heap.size with h' | h'
  ·exact h'
  ·rw [Array.getElem?_eq_none h'] at hc; cases hc
 refine ⟨fun b x hx => ⟨(h.dom b x hx).1, Nat.lt_of_lt_of_le (h.dom b x hx).2 hb.size⟩, fun b o c s z ho hx => ?_, h.inj, h.fresh, ⟨hb.os.trans h.below.os, hb.tape.trans h.below.tape, hb.output.trans h.below.output, Nat.le_trans h.below.size hb.size, fun k hk => ?_⟩, fun c ob hc => ?_, h.apart, h.frn⟩
 ·obtain ⟨ob, e1, e2⟩ := h.obj b o c s z ho hx
  exact ⟨ob, by rw [hb.block c (lt e1)]; exact e1, e2⟩
 ·rw [hb.block k (Nat.lt_of_lt_of_le hk.1 h.below.size)]
  exact h.below.block k hk
 ·have := h.frz c ob hc
  rw [hb.block c (lt this)]
  exact this
def tabCallF (P : Program) (tab : List Ent) (next : VCall) : VCall := fun f args hp nx K =>
 match entOf f tab with
 | some e => match P.funcs[f]? with
  | some fn => match frzTs P 0 fn.params.toList args hp with
   | some (us, hp', ob) => bif us.all nl then ob ∧ e.c us fun v => Bool.rec (motive := fun _ => Prop) (K v true hp' nx) (K v false hp nx) (closed v) else False
   | none => False
  | none => False
 | none => next f args hp nx K
theorem tabCallF_ok {P : Program} {tab : List Ent} {next : VCall} (ht : ∀ e ∈ tab, EntOk P e) (hnx : VCallOk P next) : VCallOk P (tabCallF P tab next) := by
 intro f args hp nx K h W ρ w args' hrel hargs
 unfold tabCallF at h
 split at h
 case h_2 => exact hnx f args hp nx K h W ρ w args' hrel hargs
 rename_i e he
 obtain ⟨h1, rfl⟩ := entOf_mem he
 split at h
 case h_2 => exact h.elim
 split at h
 case h_2 => exact h.elim
 rename_i us hp' ob hf
 cases ha : us.all nl with
 | false => rw [ha] at h; exact h.elim
 | true =>
  rw [ha, cond_true] at h
  obtain ⟨hob, hc⟩ := h
  obtain ⟨ρ1, g1, g2, g3, g4⟩ := frzTs_sound hrel hargs hf hob
  have hargs1 : VRL ρ1 us args' := .of g3 fun i v v' a b => VR0.lift (g4 i v v' a b)
  refine ((ht e h1 us _ hc).call ha g1 hargs1).mono ?_
  rintro e' w' ⟨v, v', ρ2, hK, rfl, q1, q2, q3, q4, q5⟩
  cases hcl : closed v with
  | true =>
   rw [hcl] at hK
   have e : v' = v := closed_eq hcl q1
   exact ⟨v, false, hp, nx, v', ρ, hK, fun _ => rfl, rfl, by rw [e]; exact closed_refl hcl, hrel.later q5, .refl _ _ _⟩
  | false =>
   rw [hcl] at hK
   exact ⟨v, true, hp', nx, v', ρ2, hK, fun e => (by cases e), rfl, q1, q3, g2.trans q4⟩
class Enc (α : Type) where
 sz : Nat
 cells : α → List Value
 len : ∀ a, (cells a).length = sz
 nl : ∀ a, NLs (cells a)
def elt : List Value → Value
 | [v] => v
 | l => .agg l.toArray
def encL {α : Type} [Enc α] (l : List α) : Array Value := (l.map fun a => elt (Enc.cells a)).toArray
instance instEncList {α : Type} [Enc α] : Enc (List α) where
 sz := 1
 cells l := [tree (Enc.sz α) l.length (encL l)]
 len _ := rfl
 nl l := by intro v hv; simp at hv; subst hv; rfl
instance : Enc Int where
 sz := 1
 cells n := [.int .i64 n]
 len _ := rfl
 nl n := by intro v hv; simp at hv; subst hv; rfl
instance : Enc ByteArray where
 sz := 1
 cells s := [.string s]
 len _ := rfl
 nl n := by intro v hv; simp at hv; subst hv; rfl
instance : Enc Bool where
 sz := 1
 cells b := [.bool b]
 len _ := rfl
 nl n := by intro v hv; simp at hv; subst hv; rfl
instance {α β : Type} [Enc α] [Enc β] : Enc (α × β) where
 sz := Enc.sz α + Enc.sz β
 cells p := Enc.cells p.1 ++ Enc.cells p.2
 len p := by rw [List.length_append, Enc.len, Enc.len]
 nl p := by
  intro v hv
  rcases List.mem_append.1 hv with h | h
  ·exact Enc.nl p.1 v h
  ·exact Enc.nl p.2 v h
theorem toI_int (k : IntKind) (n : Int) : toI (.int k n) = n := rfl
abbrev OkP (f : FuncId) (na : List Value) (r : Nat) (Post : Value → Prop) (st : AS) : Prop := OkAt Tryz.prog f na Post (lpC Tryz.prog f r) (lpK Tryz.prog f r) st
theorem mixed : Tryz.prog.follows .mixedOrders = true := by kernel_rfl
theorem wrap64 {n : Int} (h1 : -9223372036854775808 ≤ n) (h2 : n < 9223372036854775808) : IntKind.i64.wrap n = n := by
 have e : IntKind.i64.wrap n = if (n % 18446744073709551616 : Int) ≥ 9223372036854775808 then n % 18446744073709551616 - 18446744073709551616 else n % 18446744073709551616 := by
  unfold IntKind.wrap
  simp [IntKind.signed, IntKind.bits]
 rw [e]
 split <;> omega
theorem wrapSucc {n : Nat} (h : n < 2 ^ 62) : IntKind.i64.wrap ((n : Int) + 1) = ((n + 1 : Nat) : Int) := by
 rw [wrap64 (by omega) (by omega)]; omega
structure Pt where
 x : Int
 y : Int
 deriving DecidableEq
theorem Pt.ext' {p q : Pt} (h1 : p.x = q.x) (h2 : p.y = q.y) : p = q := by
 cases p; cases q; cases h1; cases h2; rfl
instance : Inhabited Pt := ⟨⟨0, 0⟩⟩
instance : Enc Pt where
 sz := 2
 cells p := [.int .i64 p.x, .int .i64 p.y]
 len _ := rfl
 nl p := by intro v hv; simp at hv; rcases hv with rfl | rfl <;> rfl
theorem down {p : Nat → Prop} {n : Nat} (h0 : p n) (h : ∀ k, k < n → p (k + 1) → p k) : p 0 := by
 have : ∀ j k, k + j = n → p k := by
  intro j
  induction j with
  | zero => intro k hk; rw [show k = n by omega]; exact h0
  | succ j ih => intro k hk; exact h k (by omega) (ih (k + 1) (by omega))
 exact this n 0 (by omega)
theorem e_crc (s : ByteArray) (H : HT) (Post : PV) : vcP Tryz.prog noCall 75 [(3, [0, 2, 7, 8])] [.string s] H Post = (T8 (True ∧ H (lpC Tryz.prog 75 3) (lpK Tryz.prog 75 3) (stV [(0, some (vs s)), (2, some (Value.int IntKind.u32 (IntKind.wrap IntKind.u32 (↑4294967295 : Int)))), (7, some (vi (↑s.size : Int))), (8, some (vi 0))] [] 0))) := by kernel_rfl
theorem l_crc (s : ByteArray) (r k : Int) (H : HT) (Post : PV) : vcLP Tryz.prog noCall 75 [.string s] [(3, [0, 2, 7, 8])] 3 (stV [(0, some (.string s)), (2, some (.int .u32 r)), (7, some (.int .i64 s.size)), (8, some (.int .i64 k))] [] 0) H Post = (let q5 := (IntKind.wrap IntKind.u32 (↑(BitVec.toNat (BitVec.ofInt 32 r ^^^ BitVec.ofInt 32 (IntKind.wrap IntKind.u32 (↑(UInt8.toNat (Array.getD (ByteArray.data s) (Int.toNat k) 0)) : Int)))) : Int)); let q2 := #[Value.agg #[Value.int IntKind.u32 0, Value.int IntKind.u32 274646895, Value.int IntKind.u32 549293790, Value.int IntKind.u32 820201905, Value.int IntKind.u32 1098587580, Value.int IntKind.u32 1361435347, Value.int IntKind.u32 1640403810, Value.int IntKind.u32 1905808397, Value.int IntKind.u32 2197175160, Value.int IntKind.u32 2460548119, Value.int IntKind.u32 2722870694, Value.int IntKind.u32 2987750089, Value.int IntKind.u32 3280807620, Value.int IntKind.u32 3553878443, Value.int IntKind.u32 3811616794, Value.int IntKind.u32 4084100981]]; let q3 := (↑(BitVec.toNat (BitVec.ofInt 32 q5 &&& BitVec.ofInt 32 15)) : Int); let q6 := 0 + Int.toNat (IntKind.wrap IntKind.u32 q3) * 1; let q1 := (IntKind.wrap IntKind.u32 (↑(BitVec.toNat (BitVec.ofInt 32 (Int.fdiv q5 (2 ^ 4)) ^^^ BitVec.ofInt 32 (toI (cellAt q2 0 q6)))) : Int)); let q4 := (↑(BitVec.toNat (BitVec.ofInt 32 q1 &&& BitVec.ofInt 32 15)) : Int); let q7 := 0 + Int.toNat (IntKind.wrap IntKind.u32 q4) * 1; True ∧ pIf (decide (k < (↑s.size : Int))) (T4 (True ∧ (0 ≤ k ∧ k < (↑s.size : Int)) ∧ T4 (toI (vi 0) ≤ 4 ∧ T2 ((0 ≤ IntKind.wrap IntKind.u32 q3 ∧ IntKind.wrap IntKind.u32 q3 < (↑16 : Int)) ∧ cellAt q2 0 q6 = Value.int IntKind.u32 (toI (cellAt q2 0 q6)) ∧ T2 (True ∧ toI (vi 0) ≤ 4 ∧ T2 ((0 ≤ IntKind.wrap IntKind.u32 q4 ∧ IntKind.wrap IntKind.u32 q4 < (↑16 : Int)) ∧ cellAt q2 0 q7 = Value.int IntKind.u32 (toI (cellAt q2 0 q7)) ∧ T4 (T2 (H (lpC Tryz.prog 75 3) (lpK Tryz.prog 75 3) (stV [(0, some (vs s)), (2, some (Value.int IntKind.u32 (IntKind.wrap IntKind.u32 (↑(BitVec.toNat (BitVec.ofInt 32 (Int.fdiv q1 (2 ^ 4)) ^^^ BitVec.ofInt 32 (toI (cellAt q2 0 q7)))) : Int)))), (7, some (vi (↑s.size : Int))), (8, some (vi (IntKind.wrap IntKind.i64 (k + 1))))] [] 0))))))))) (T4 (Post (Value.int IntKind.u32 (IntKind.wrap IntKind.u32 (↑(BitVec.toNat (BitVec.ofInt 32 (if IntKind.signed IntKind.u32 = true then -1 else IntKind.max IntKind.u32) ^^^ BitVec.ofInt 32 r)) : Int)))))) := by kernel_rfl
def halvesL : List Nat := [0, 274646895, 549293790, 820201905, 1098587580, 1361435347, 1640403810, 1905808397, 2197175160, 2460548119, 2722870694, 2987750089, 3280807620, 3553878443, 3811616794, 4084100981]
def halfC (b : BitVec 32) : BitVec 32 := (b >>> 4) ^^^ BitVec.ofNat 32 (halvesL.getD (b &&& 15#32).toNat 0)
def stepC (b : BitVec 32) (x : UInt8) : BitVec 32 := halfC (halfC (b ^^^ BitVec.ofNat 32 x.toNat))
def crcB (s : ByteArray) : BitVec 32 := ~~~ (s.data.toList.foldl stepC (BitVec.allOnes 32))
def c_crc (args : List Value) (Post : Value → Prop) : Prop := ∃ s : ByteArray, args = [.string s] ∧ s.size ≤ 4611686018427387904 ∧ Post (.int .u32 (crcB s).toNat)
theorem wU (b : BitVec 32) : IntKind.wrap .u32 ((b.toNat : Nat) : Int) = ((b.toNat : Nat) : Int) := by
 have := b.isLt
 simp [IntKind.wrap, IntKind.bits, IntKind.signed]
 omega
theorem oU (b : BitVec 32) : BitVec.ofInt 32 ((b.toNat : Nat) : Int) = b := by
 simp
theorem wX (x : UInt8) : IntKind.wrap .u32 ((x.toNat : Nat) : Int) = ((x.toNat : Nat) : Int) := by
 have := x.toNat_lt
 simp [IntKind.wrap, IntKind.bits, IntKind.signed]
 omega
theorem oX (x : UInt8) : BitVec.ofInt 32 ((x.toNat : Nat) : Int) = BitVec.ofNat 32 x.toNat := by simp
theorem fU (b : BitVec 32) : Int.fdiv ((b.toNat : Nat) : Int) (2 ^ 4) = (((b >>> 4).toNat : Nat) : Int) := by
 rw [BitVec.toNat_ushiftRight, Nat.shiftRight_eq_div_pow, Int.fdiv_eq_ediv_of_nonneg _ (by decide)]
 rfl
theorem o15 : BitVec.ofInt 32 15 = 15#32 := by decide
theorem and15 (b : BitVec 32) : (b &&& 15#32).toNat < 16 := by
 rw [BitVec.toNat_and]
 exact Nat.lt_of_le_of_lt Nat.and_le_right (by decide)
theorem cell_half : ∀ k : Nat, k < 16 → cellAt #[Value.agg #[Value.int IntKind.u32 0, Value.int IntKind.u32 274646895, Value.int IntKind.u32 549293790, Value.int IntKind.u32 820201905, Value.int IntKind.u32 1098587580, Value.int IntKind.u32 1361435347, Value.int IntKind.u32 1640403810, Value.int IntKind.u32 1905808397, Value.int IntKind.u32 2197175160, Value.int IntKind.u32 2460548119, Value.int IntKind.u32 2722870694, Value.int IntKind.u32 2987750089, Value.int IntKind.u32 3280807620, Value.int IntKind.u32 3553878443, Value.int IntKind.u32 3811616794, Value.int IntKind.u32 4084100981]] 0 (0 + k * 1) = .int .u32 ((halvesL.getD k 0 : Nat) : Int)
 | 0, _ | 1, _ | 2, _ | 3, _ | 4, _ | 5, _ | 6, _ | 7, _ | 8, _ | 9, _ | 10, _ | 11, _ | 12, _ | 13, _ | 14, _ | 15, _ => rfl
 | k + 16, h => by omega
theorem oT (k : Nat) : BitVec.ofInt 32 ((halvesL.getD k 0 : Nat) : Int) = BitVec.ofNat 32 (halvesL.getD k 0) := by simp
theorem ifC {p : Prop} [Decidable p] {X Y : Prop} (h1 : p → X) (h2 : ¬ p → Y) : pIf (decide p) X Y := pIf_intro (fun e => h1 (of_decide_eq_true e)) (fun e => h2 (of_decide_eq_false e))
theorem ok_crc : EntOk Tryz.prog ⟨75, c_crc⟩ := by
 rintro args Post ⟨s, rfl, hs, h⟩
 refine pure_P noCall_ok mixed (by kernel_rfl) (by kernel_rfl) _ (e_crc s _ _) ?_
 have e0 : IntKind.wrap IntKind.u32 4294967295 = (((BitVec.allOnes 32).toNat : Nat) : Int) := by decide
 have em : (if IntKind.signed IntKind.u32 = true then (-1 : Int) else IntKind.max IntKind.u32) = (((BitVec.allOnes 32).toNat : Nat) : Int) := by decide
 simp only [true_and]
 rw [e0]
 refine down (n := s.size) (p := fun k => OkP 75 [.string s] 3 Post (stV [(0, some (.string s)), (2, some (.int .u32 ((((s.data.toList.take k).foldl stepC (BitVec.allOnes 32)).toNat : Nat) : Int))), (7, some (.int .i64 s.size)), (8, some (.int .i64 k))] [] 0)) ?_ (fun k h1 ih => ?_)
 ·refine ok_P noCall_ok mixed _ (l_crc s _ s.size _ _) ?_
  simp only [true_and]
  refine ifC (fun h' => by omega) (fun _ => ?_)
  rw [em, oU, oU, wU, List.take_of_length_le (by rw [Array.length_toList]; exact Nat.le_refl _)]
  have : BitVec.allOnes 32 ^^^ s.data.toList.foldl stepC (BitVec.allOnes 32) = crcB s := by
   unfold crcB
   rw [BitVec.not_def]
  rw [this]
  exact h
 ·refine ok_P noCall_ok mixed _ (l_crc s _ k _ _) ?_
  have hk : ((k : Nat) : Int).toNat = k := Int.toNat_natCast k
  have hx : s.data.toList[k]? = some (s.data.getD k 0) := by
   have : k < s.data.size := h1
   rw [Array.getElem?_toList, Array.getD_eq_getD_getElem?, Array.getElem?_eq_getElem this]
   rfl
  have ht : s.data.toList.take (k + 1) = s.data.toList.take k ++ [s.data.getD k 0] := by
   rw [List.take_add_one, hx]
   rfl
  have hlt : ∀ b : BitVec 32, (0 : Int) ≤ (((b &&& 15#32).toNat : Nat) : Int) ∧ (((b &&& 15#32).toNat : Nat) : Int) < 16 := fun b => ⟨by omega, by have := and15 b; omega⟩
  rw [ht, List.foldl_append] at ih
  simp only [true_and, and_true, hk, wU, oU, wX, oX, fU, o15, Int.toNat_natCast, cell_half _ (and15 _), toI_int, oT, hlt, wrapSucc (show k < 2 ^ 62 by omega)]
  exact ifC (fun _ => ⟨⟨by omega, by omega⟩, by decide, by decide, ih⟩) (fun h' => by omega)
theorem e_rcrc (s : ByteArray) (H : Code → List Fr → AS → Prop) (Post : Value → Prop) : vcP Tryz.prog noCall 77 [(3, [0, 3, 4]), (7, [0, 3, 4, 5])] [.string s] H Post = (True ∧ True ∧ True ∧ True ∧ True ∧ H (lpC Tryz.prog 77 3) (lpK Tryz.prog 77 3) (stV [(0, some (Value.string s)), (3, some (Value.int IntKind.u32 4294967295)), (4, some (Value.int IntKind.i64 0))] [] 0)) := by kernel_rfl
theorem l_rcrc (s : ByteArray) (r k : Int) (H : HT) (Post : PV) : vcLP Tryz.prog noCall 77 [.string s] [(3, [0, 3, 4]), (7, [0, 3, 4, 5])] 3 (stV [(0, some (.string s)), (3, some (.int .u32 r)), (4, some (.int .i64 k))] [] 0) H Post = (T4 (pIf (decide (k < (↑s.size : Int))) (T2 (True ∧ (0 ≤ k ∧ k < (↑s.size : Int)) ∧ T4 (T2 (H (lpC Tryz.prog 77 7) (lpK Tryz.prog 77 7) (stV [(0, some (vs s)), (3, some (Value.int IntKind.u32 (IntKind.wrap IntKind.u32 (↑(BitVec.toNat (BitVec.ofInt 32 r ^^^ BitVec.ofInt 32 (IntKind.wrap IntKind.u32 (↑(UInt8.toNat (Array.getD (ByteArray.data s) (Int.toNat k) 0)) : Int)))) : Int)))), (4, some (vi k)), (5, some (vi 0))] [] 0))))) (T4 (Post (Value.int IntKind.u32 (IntKind.wrap IntKind.u32 (↑(BitVec.toNat (BitVec.ofInt 32 r ^^^ BitVec.ofInt 32 4294967295)) : Int))))))) := by kernel_rfl
theorem m_rcrc (s : ByteArray) (r k j : Int) (H : HT) (Post : PV) : vcLP Tryz.prog noCall 77 [.string s] [(3, [0, 3, 4]), (7, [0, 3, 4, 5])] 7 (stV [(0, some (.string s)), (3, some (.int .u32 r)), (4, some (.int .i64 k)), (5, some (.int .i64 j))] [] 0) H Post = (let q3 := IntKind.wrap IntKind.u32 (Int.tdiv r 2); let q2 := toI (vi 2) = 0 → False; let q1 := (5, some (vi (IntKind.wrap IntKind.i64 (j + 1)))); T2 (pIf (decide (j < 8)) (True ∧ q2 ∧ True ∧ pIf (decide (Int.tmod r 2 = 1)) (True ∧ q2 ∧ T4 (T2 (True ∧ H (lpC Tryz.prog 77 7) (lpK Tryz.prog 77 7) (stV [(0, some (vs s)), (3, some (Value.int IntKind.u32 (IntKind.wrap IntKind.u32 (↑(BitVec.toNat (BitVec.ofInt 32 q3 ^^^ BitVec.ofInt 32 2197175160)) : Int)))), (4, some (vi k)), q1] [] 0)))) (True ∧ q2 ∧ T4 (T2 (H (lpC Tryz.prog 77 7) (lpK Tryz.prog 77 7) (stV [(0, some (vs s)), (3, some (Value.int IntKind.u32 q3)), (4, some (vi k)), q1] [] 0))))) (T4 (True ∧ H (lpC Tryz.prog 77 3) (lpK Tryz.prog 77 3) (stV [(0, some (vs s)), (3, some (Value.int IntKind.u32 r)), (4, some (vi (IntKind.wrap IntKind.i64 (k + 1))))] [] 0))))) := by kernel_rfl
def bitC (b : BitVec 32) : BitVec 32 := if b.getLsbD 0 then (b >>> 1) ^^^ 2197175160#32 else b >>> 1
theorem bitC_xor (a c : BitVec 32) : bitC (a ^^^ c) = bitC a ^^^ bitC c := by
 unfold bitC
 rw [BitVec.getLsbD_xor, BitVec.ushiftRight_xor_distrib]
 cases a.getLsbD 0 <;> cases c.getLsbD 0
 ·simp
 ·simp [BitVec.xor_assoc]
 ·simp only [Bool.xor_false, if_true, if_false, Bool.false_eq_true]
  rw [BitVec.xor_assoc, BitVec.xor_comm (c >>> 1), ← BitVec.xor_assoc]
 ·simp only [Bool.xor_self, if_true, if_false, Bool.false_eq_true]
  rw [BitVec.xor_assoc, ← BitVec.xor_assoc 2197175160#32, BitVec.xor_comm 2197175160#32 (c >>> 1), BitVec.xor_assoc (c >>> 1), BitVec.xor_self, BitVec.xor_zero]
theorem split4 (b : BitVec 32) : (b >>> 4 <<< 4) ^^^ (b &&& 15#32) = b := by
 apply BitVec.eq_of_getLsbD_eq
 intro i hi
 have h15 : ∀ i : Fin 32, (15#32).getLsbD i.val = decide (i.val < 4) := by decide
 have h := h15 ⟨i, hi⟩
 dsimp only at h
 rw [BitVec.getLsbD_xor, BitVec.getLsbD_shiftLeft, BitVec.getLsbD_ushiftRight, BitVec.getLsbD_and, h]
 by_cases h4 : i < 4
 ·simp [h4]
 ·simp [h4, hi, show 4 + (i - 4) = i by omega]
theorem bit_high (b : BitVec 32) : bitC (bitC (bitC (bitC (b >>> 4 <<< 4)))) = b >>> 4 := by
 have z : ∀ k, k < 4 → ((b >>> 4 <<< 4) >>> k).getLsbD 0 = false := fun k hk => by
  rw [BitVec.getLsbD_ushiftRight, BitVec.getLsbD_shiftLeft]
  simp [hk]
 have s : ∀ k, k < 4 → bitC ((b >>> 4 <<< 4) >>> k) = (b >>> 4 <<< 4) >>> (k + 1) := fun k hk => by
  unfold bitC
  rw [z k hk, BitVec.shiftRight_add]
  rfl
 have s0 := s 0 (by decide)
 rw [BitVec.ushiftRight_zero] at s0
 rw [s0, s 1 (by decide), s 2 (by decide), s 3 (by decide)]
 apply BitVec.eq_of_getLsbD_eq
 intro i hi
 rw [BitVec.getLsbD_ushiftRight, BitVec.getLsbD_shiftLeft, BitVec.getLsbD_ushiftRight]
 by_cases h : i < 28
 ·simp [show ¬ 4 + i < 4 by omega, show 4 + i < 32 by omega, show 4 + i - 4 = i by omega]
 ·have : b.getLsbD (4 + i) = false := BitVec.getLsbD_of_ge _ _ (by omega)
  simp [this, show ¬ 4 + i < 32 by omega]
theorem bit_low : ∀ k : Fin 16, bitC (bitC (bitC (bitC (BitVec.ofNat 32 k.val)))) = BitVec.ofNat 32 (halvesL.getD k.val 0) := by decide +kernel
theorem half_bits (b : BitVec 32) : bitC (bitC (bitC (bitC b))) = halfC b := by
 have e := split4 b
 have hl := bit_low ⟨(b &&& 15#32).toNat, and15 b⟩
 dsimp only at hl
 rw [BitVec.ofNat_toNat, BitVec.setWidth_eq] at hl
 calc bitC (bitC (bitC (bitC b))) = bitC (bitC (bitC (bitC ((b >>> 4 <<< 4) ^^^ (b &&& 15#32))))) := by rw [e]
  _ = halfC b := by rw [bitC_xor, bitC_xor, bitC_xor, bitC_xor, bit_high, hl]; rfl
def bits (j : Nat) (b : BitVec 32) : BitVec 32 := Nat.repeat bitC j b
theorem bits8 (b : BitVec 32) : bits 8 b = halfC (halfC b) := by
 rw [← half_bits b, ← half_bits]
 rfl
theorem oA : BitVec.ofInt 32 2197175160 = 2197175160#32 := by decide
theorem oB : BitVec.ofInt 32 4294967295 = BitVec.allOnes 32 := by decide
theorem wHalf (b : BitVec 32) : IntKind.wrap .u32 (Int.tdiv ((b.toNat : Nat) : Int) 2) = (((b >>> 1).toNat : Nat) : Int) := by
 have e : Int.tdiv ((b.toNat : Nat) : Int) 2 = (((b >>> 1).toNat : Nat) : Int) := by
  rw [BitVec.toNat_ushiftRight, Nat.shiftRight_eq_div_pow]
  rfl
 rw [e, wU]
theorem mod_bit (b : BitVec 32) : (Int.tmod ((b.toNat : Nat) : Int) 2 = 1) ↔ b.getLsbD 0 = true := by
 have e : Int.tmod ((b.toNat : Nat) : Int) 2 = ((b.toNat % 2 : Nat) : Int) := rfl
 rw [e, show b.getLsbD 0 = b.toNat.testBit 0 from rfl, Nat.testBit_zero]
 simp
 omega
theorem ok_rcrc : EntOk Tryz.prog ⟨77, c_crc⟩ := by
 rintro args Post ⟨s, rfl, hs, h⟩
 refine pure_P noCall_ok mixed (by kernel_rfl) (by kernel_rfl) _ (e_rcrc s _ _) ?_
 have e0 : (4294967295 : Int) = (((BitVec.allOnes 32).toNat : Nat) : Int) := by decide
 simp only [true_and]
 rw [e0]
 refine down (n := s.size) (p := fun k => OkP 77 [.string s] 3 Post (stV [(0, some (.string s)), (3, some (.int .u32 ((((s.data.toList.take k).foldl stepC (BitVec.allOnes 32)).toNat : Nat) : Int))), (4, some (.int .i64 k))] [] 0)) ?_ (fun k h1 ih => ?_)
 ·refine ok_P noCall_ok mixed _ (l_rcrc s _ s.size _ _) ?_
  simp only [true_and]
  refine ifC (fun h' => by omega) (fun _ => ?_)
  rw [oB, oU, wU, List.take_of_length_le (by rw [Array.length_toList]; exact Nat.le_refl _)]
  have : s.data.toList.foldl stepC (BitVec.allOnes 32) ^^^ BitVec.allOnes 32 = crcB s := by
   unfold crcB
   rw [BitVec.not_def, BitVec.xor_comm]
  rw [this]
  exact h
 ·refine ok_P noCall_ok mixed _ (l_rcrc s _ k _ _) ?_
  have hk : ((k : Nat) : Int).toNat = k := Int.toNat_natCast k
  have hx : s.data.toList[k]? = some (s.data.getD k 0) := by
   have : k < s.data.size := h1
   rw [Array.getElem?_toList, Array.getD_eq_getD_getElem?, Array.getElem?_eq_getElem this]
   rfl
  have ht : s.data.toList.take (k + 1) = s.data.toList.take k ++ [s.data.getD k 0] := by
   rw [List.take_add_one, hx]
   rfl
  rw [ht, List.foldl_append] at ih
  simp only [true_and, and_true, hk, wU, oU, wX, oX]
  refine ifC (fun _ => ⟨⟨by omega, by omega⟩, ?_⟩) (fun h' => by omega)
  generalize (s.data.toList.take k).foldl stepC (BitVec.allOnes 32) = b at ih ⊢
  have ih' : OkP 77 [.string s] 3 Post (stV [(0, some (.string s)), (3, some (.int .u32 (((bits 8 (b ^^^ BitVec.ofNat 32 (s.data.getD k 0).toNat)).toNat : Nat) : Int))), (4, some (.int .i64 ((k + 1 : Nat) : Int)))] [] 0) := by
   rw [bits8]
   exact ih
  generalize b ^^^ BitVec.ofNat 32 (s.data.getD k 0).toNat = c at ih' ⊢
  refine down (n := 8) (p := fun j => OkP 77 [.string s] 7 Post (stV [(0, some (.string s)), (3, some (.int .u32 (((bits j c).toNat : Nat) : Int))), (4, some (.int .i64 k)), (5, some (.int .i64 j))] [] 0)) ?_ (fun j hj ihj => ?_)
  ·refine ok_P noCall_ok mixed _ (m_rcrc s _ k 8 _ _) ?_
   simp only [true_and, wrapSucc (show k < 2 ^ 62 by omega)]
   exact ifC (fun h' => by omega) (fun _ => ih')
  ·refine ok_P noCall_ok mixed _ (m_rcrc s _ k j _ _) ?_
   simp only [true_and, wHalf, oU, oA, wU, wrapSucc (show j < 2 ^ 62 by omega)]
   have hb : bits (j + 1) c = bitC (bits j c) := rfl
   rw [hb] at ihj
   unfold bitC at ihj
   refine ifC (fun _ => ⟨by decide, ifC (fun hm => ⟨by decide, ?_⟩) (fun hm => ⟨by decide, ?_⟩)⟩) (fun h' => by omega)
   ·rw [if_pos ((mod_bit _).1 hm)] at ihj
    exact ihj
   ·rw [if_neg (fun e => hm ((mod_bit _).2 e))] at ihj
    exact ihj
def c_at (a : List Value) (v : Value) (args : List Value) (Post : Value → Prop) : Prop := args = a ∧ Post v
theorem ok_at {f : FuncId} {a : List Value} {v : Value} (h : Pure Tryz.prog f a fun u => u = v) : EntOk Tryz.prog ⟨f, c_at a v⟩ := by
 rintro args Post ⟨rfl, hP⟩
 exact fun W ρ w args' h1 h2 => (h W ρ w args' h1 h2).mono fun e w' ⟨u, hp', nx', v', ρ', q, r⟩ => ⟨u, hp', nx', v', ρ', q ▸ hP, r⟩
def vcTz : VCall := inlCall Tryz.prog [253] noCall 3
theorem e_tz  (H : HT) (Post : PV) : vcP Tryz.prog vcTz 226 [] [.int .u64 16] H Post = (let q3 := IntKind.bits IntKind.u64; let q2 := (IntKind.wrap IntKind.u64 (IntKind.wrap IntKind.u64 (↑(BitVec.toNat (BitVec.ofInt q3 16 &&& BitVec.ofInt q3 (IntKind.wrap IntKind.u64 (0 - 16)))) : Int) * 285870213051353865)); let q1 := toI (cellAt #[Value.agg #[Value.int IntKind.u8 0, Value.int IntKind.u8 1, Value.int IntKind.u8 56, Value.int IntKind.u8 2, Value.int IntKind.u8 57, Value.int IntKind.u8 49, Value.int IntKind.u8 28, Value.int IntKind.u8 3, Value.int IntKind.u8 61, Value.int IntKind.u8 58, Value.int IntKind.u8 42, Value.int IntKind.u8 50, Value.int IntKind.u8 38, Value.int IntKind.u8 29, Value.int IntKind.u8 17, Value.int IntKind.u8 4, Value.int IntKind.u8 62, Value.int IntKind.u8 47, Value.int IntKind.u8 59, Value.int IntKind.u8 36, Value.int IntKind.u8 45, Value.int IntKind.u8 43, Value.int IntKind.u8 51, Value.int IntKind.u8 22, Value.int IntKind.u8 53, Value.int IntKind.u8 39, Value.int IntKind.u8 33, Value.int IntKind.u8 30, Value.int IntKind.u8 24, Value.int IntKind.u8 18, Value.int IntKind.u8 12, Value.int IntKind.u8 5, Value.int IntKind.u8 63, Value.int IntKind.u8 55, Value.int IntKind.u8 48, Value.int IntKind.u8 27, Value.int IntKind.u8 60, Value.int IntKind.u8 41, Value.int IntKind.u8 37, Value.int IntKind.u8 16, Value.int IntKind.u8 46, Value.int IntKind.u8 35, Value.int IntKind.u8 44, Value.int IntKind.u8 21, Value.int IntKind.u8 52, Value.int IntKind.u8 32, Value.int IntKind.u8 23, Value.int IntKind.u8 11, Value.int IntKind.u8 54, Value.int IntKind.u8 26, Value.int IntKind.u8 40, Value.int IntKind.u8 15, Value.int IntKind.u8 34, Value.int IntKind.u8 20, Value.int IntKind.u8 31, Value.int IntKind.u8 10, Value.int IntKind.u8 25, Value.int IntKind.u8 14, Value.int IntKind.u8 19, Value.int IntKind.u8 9, Value.int IntKind.u8 13, Value.int IntKind.u8 8, Value.int IntKind.u8 7, Value.int IntKind.u8 6]] 0 (0 + 15)); T8 (T2 (toI (vi 0) ≤ 58 ∧ (toI (vi 0) ≤ Int.fdiv q2 (2 ^ min (Int.toNat 58) q3) ∧ toI (vi (Int.fdiv q2 (2 ^ min (Int.toNat 58) q3))) < (↑64 : Int)) ∧ Value.int IntKind.u8 4 = Value.int IntKind.u8 q1 ∧ T4 (Post (vi (IntKind.wrap IntKind.i64 q1)))))) := by kernel_rfl
theorem tz16 : Pure Tryz.prog 226 [.int .u64 16] fun u => u = .int .i64 4 := by
 refine pure_P (inlCall_ok mixed noCall_ok 3) mixed (by kernel_rfl) (by kernel_rfl) _ (e_tz _ _) ?_
 repeat' (first | exact rfl | refine And.intro ?_ ?_ | trivial | decide | kernel_rfl)
def vcFm : VCall := inlCall Tryz.prog [225] (tabCall [⟨226, c_at [.int .u64 16] (.int .i64 4)⟩] noCall) 3
theorem e_fmt (n : Int) (H : HT) (Post : PV) : vcP Tryz.prog vcFm 172 [(11, [0, 1, 2, 3, 4, 10, 11, 12, 13, 14, 15, 16])] [.slice none 0 0, .int .u64 n, .int .i64 16, .bool false, .bool false] H Post = (T16 (T8 (True ∧ eqL [Value.int IntKind.u64 (IntKind.wrap IntKind.u64 16)] [Value.int IntKind.u64 16] ∧ T8 (T2 ((True ∧ True) ∧ H (lpC Tryz.prog 172 11) (lpK Tryz.prog 172 11) (stV [(0, some (nS)), (1, some (Value.int IntKind.u64 n)), (2, some (vi 16)), (3, some (vb false)), (4, some (vb false)), (10, some (nS)), (11, some (vz)), (12, some (pt 0)), (13, some (vi 65)), (14, some (Value.int IntKind.u64 (IntKind.wrap IntKind.u64 4))), (15, some (Value.int IntKind.u64 (IntKind.wrap IntKind.u64 16))), (16, some (Value.int IntKind.u64 (IntKind.wrap IntKind.u64 (IntKind.wrap IntKind.u64 16 - 1))))] [(0, some (AObj.cells [Value.int IntKind.u8 0, Value.int IntKind.u8 0, Value.int IntKind.u8 0, Value.int IntKind.u8 0, Value.int IntKind.u8 0, Value.int IntKind.u8 0, Value.int IntKind.u8 0, Value.int IntKind.u8 0, Value.int IntKind.u8 0, Value.int IntKind.u8 0, Value.int IntKind.u8 0, Value.int IntKind.u8 0, Value.int IntKind.u8 0, Value.int IntKind.u8 0, Value.int IntKind.u8 0, Value.int IntKind.u8 0, Value.int IntKind.u8 0, Value.int IntKind.u8 0, Value.int IntKind.u8 0, Value.int IntKind.u8 0, Value.int IntKind.u8 0, Value.int IntKind.u8 0, Value.int IntKind.u8 0, Value.int IntKind.u8 0, Value.int IntKind.u8 0, Value.int IntKind.u8 0, Value.int IntKind.u8 0, Value.int IntKind.u8 0, Value.int IntKind.u8 0, Value.int IntKind.u8 0, Value.int IntKind.u8 0, Value.int IntKind.u8 0, Value.int IntKind.u8 0, Value.int IntKind.u8 0, Value.int IntKind.u8 0, Value.int IntKind.u8 0, Value.int IntKind.u8 0, Value.int IntKind.u8 0, Value.int IntKind.u8 0, Value.int IntKind.u8 0, Value.int IntKind.u8 0, Value.int IntKind.u8 0, Value.int IntKind.u8 0, Value.int IntKind.u8 0, Value.int IntKind.u8 0, Value.int IntKind.u8 0, Value.int IntKind.u8 0, Value.int IntKind.u8 0, Value.int IntKind.u8 0, Value.int IntKind.u8 0, Value.int IntKind.u8 0, Value.int IntKind.u8 0, Value.int IntKind.u8 0, Value.int IntKind.u8 0, Value.int IntKind.u8 0, Value.int IntKind.u8 0, Value.int IntKind.u8 0, Value.int IntKind.u8 0, Value.int IntKind.u8 0, Value.int IntKind.u8 0, Value.int IntKind.u8 0, Value.int IntKind.u8 0, Value.int IntKind.u8 0, Value.int IntKind.u8 0, Value.int IntKind.u8 0] true))] 1)))))) := by kernel_rfl
theorem l_fmt0 (n m : Int) (H : HT) (Post : PV) : vcLP Tryz.prog vcFm 172 [.slice none 0 0, .int .u64 m, .int .i64 16, .bool false, .bool false] [(11, [0, 1, 2, 3, 4, 10, 11, 12, 13, 14, 15, 16])] 11 (stV [(0, some (.slice none 0 0)), (1, some (.int .u64 n)), (2, some (.int .i64 16)), (3, some (.bool false)), (4, some (.bool false)), (10, some (.slice none 0 0)), (11, some (.string ⟨#[]⟩)), (12, some (.pointer (some ⟨0, 0, none⟩))), (13, some (.int .i64 65)), (14, some (.int .u64 4)), (15, some (.int .u64 16)), (16, some (.int .u64 15))] [(0, some (.cells [.int .u8 0, .int .u8 0, .int .u8 0, .int .u8 0, .int .u8 0, .int .u8 0, .int .u8 0, .int .u8 0, .int .u8 0, .int .u8 0, .int .u8 0, .int .u8 0, .int .u8 0, .int .u8 0, .int .u8 0, .int .u8 0, .int .u8 0, .int .u8 0, .int .u8 0, .int .u8 0, .int .u8 0, .int .u8 0, .int .u8 0, .int .u8 0, .int .u8 0, .int .u8 0, .int .u8 0, .int .u8 0, .int .u8 0, .int .u8 0, .int .u8 0, .int .u8 0, .int .u8 0, .int .u8 0, .int .u8 0, .int .u8 0, .int .u8 0, .int .u8 0, .int .u8 0, .int .u8 0, .int .u8 0, .int .u8 0, .int .u8 0, .int .u8 0, .int .u8 0, .int .u8 0, .int .u8 0, .int .u8 0, .int .u8 0, .int .u8 0, .int .u8 0, .int .u8 0, .int .u8 0, .int .u8 0, .int .u8 0, .int .u8 0, .int .u8 0, .int .u8 0, .int .u8 0, .int .u8 0, .int .u8 0, .int .u8 0, .int .u8 0, .int .u8 0, .int .u8 0] true))] 1) H Post = (let q5 := vi (IntKind.wrap IntKind.i64 (65 - 1)); let q1 := ByteArray.data (ByteArray.mk #[48, 49, 50, 51, 52, 53, 54, 55, 56, 57, 97, 98, 99, 100, 101, 102, 103, 104, 105, 106, 107, 108, 109, 110, 111, 112, 113, 114, 115, 116, 117, 118, 119, 120, 121, 122]); let q4 := [Value.int IntKind.u8 (↑(UInt8.toNat (Array.getD q1 (Int.toNat n) 0)) : Int)]; let q3 := (toI (vi 0) ≤ IntKind.wrap IntKind.i64 (65 - 1) ∧ toI q5 < (↑65 : Int)); let q2 := (↑(BitVec.toNat (BitVec.ofInt 64 n &&& BitVec.ofInt 64 15)) : Int); T2 (True ∧ pIf (decide (n ≥ 16)) (T4 (T2 (True ∧ (0 ≤ IntKind.wrap IntKind.u64 q2 ∧ IntKind.wrap IntKind.u64 q2 < (↑36 : Int)) ∧ q3 ∧ 65 ≤ 65 ∧ T2 (toI (vi 0) ≤ 4 ∧ T2 ((True ∧ True) ∧ H (lpC Tryz.prog 172 11) (lpK Tryz.prog 172 11) (stV [(0, some (nS)), (1, some (Value.int IntKind.u64 (Int.fdiv n (2 ^ 4)))), (2, some (vi 16)), (3, some (vb false)), (4, some (vb false)), (10, some (nS)), (11, some (vz)), (12, some (pt 0)), (13, some q5), (14, some (Value.int IntKind.u64 4)), (15, some (Value.int IntKind.u64 16)), (16, some (Value.int IntKind.u64 15))] [(0, some (AObj.cells [Value.int IntKind.u8 0, Value.int IntKind.u8 0, Value.int IntKind.u8 0, Value.int IntKind.u8 0, Value.int IntKind.u8 0, Value.int IntKind.u8 0, Value.int IntKind.u8 0, Value.int IntKind.u8 0, Value.int IntKind.u8 0, Value.int IntKind.u8 0, Value.int IntKind.u8 0, Value.int IntKind.u8 0, Value.int IntKind.u8 0, Value.int IntKind.u8 0, Value.int IntKind.u8 0, Value.int IntKind.u8 0, Value.int IntKind.u8 0, Value.int IntKind.u8 0, Value.int IntKind.u8 0, Value.int IntKind.u8 0, Value.int IntKind.u8 0, Value.int IntKind.u8 0, Value.int IntKind.u8 0, Value.int IntKind.u8 0, Value.int IntKind.u8 0, Value.int IntKind.u8 0, Value.int IntKind.u8 0, Value.int IntKind.u8 0, Value.int IntKind.u8 0, Value.int IntKind.u8 0, Value.int IntKind.u8 0, Value.int IntKind.u8 0, Value.int IntKind.u8 0, Value.int IntKind.u8 0, Value.int IntKind.u8 0, Value.int IntKind.u8 0, Value.int IntKind.u8 0, Value.int IntKind.u8 0, Value.int IntKind.u8 0, Value.int IntKind.u8 0, Value.int IntKind.u8 0, Value.int IntKind.u8 0, Value.int IntKind.u8 0, Value.int IntKind.u8 0, Value.int IntKind.u8 0, Value.int IntKind.u8 0, Value.int IntKind.u8 0, Value.int IntKind.u8 0, Value.int IntKind.u8 0, Value.int IntKind.u8 0, Value.int IntKind.u8 0, Value.int IntKind.u8 0, Value.int IntKind.u8 0, Value.int IntKind.u8 0, Value.int IntKind.u8 0, Value.int IntKind.u8 0, Value.int IntKind.u8 0, Value.int IntKind.u8 0, Value.int IntKind.u8 0, Value.int IntKind.u8 0, Value.int IntKind.u8 0, Value.int IntKind.u8 0, Value.int IntKind.u8 0, Value.int IntKind.u8 0, Value.int IntKind.u8 (↑(UInt8.toNat (Array.getD q1 (Int.toNat (IntKind.wrap IntKind.u64 q2)) 0)) : Int)] true))] 1)))))) (T4 (True ∧ (0 ≤ n ∧ n < (↑36 : Int)) ∧ q3 ∧ 65 ≤ 65 ∧ T2 (True ∧ (True ∧ toI (vi 0) ≤ IntKind.wrap IntKind.i64 (65 - 1) ∧ 64 ≤ 65 ∧ 65 ≤ 65 ∧ 65 ≤ 65) ∧ (65 ≤ 65 ∧ AllU8 q4) ∧ True ∧ (T2 (True)) ∧ Post (Value.tuple #[tree 1 0 #[], vs (bytesL q4)])))))) := by kernel_rfl
theorem l_fmt1 (n m a0 : Int) (H : HT) (Post : PV) : vcLP Tryz.prog vcFm 172 [.slice none 0 0, .int .u64 m, .int .i64 16, .bool false, .bool false] [(11, [0, 1, 2, 3, 4, 10, 11, 12, 13, 14, 15, 16])] 11 (stV [(0, some (.slice none 0 0)), (1, some (.int .u64 n)), (2, some (.int .i64 16)), (3, some (.bool false)), (4, some (.bool false)), (10, some (.slice none 0 0)), (11, some (.string ⟨#[]⟩)), (12, some (.pointer (some ⟨0, 0, none⟩))), (13, some (.int .i64 64)), (14, some (.int .u64 4)), (15, some (.int .u64 16)), (16, some (.int .u64 15))] [(0, some (.cells [.int .u8 0, .int .u8 0, .int .u8 0, .int .u8 0, .int .u8 0, .int .u8 0, .int .u8 0, .int .u8 0, .int .u8 0, .int .u8 0, .int .u8 0, .int .u8 0, .int .u8 0, .int .u8 0, .int .u8 0, .int .u8 0, .int .u8 0, .int .u8 0, .int .u8 0, .int .u8 0, .int .u8 0, .int .u8 0, .int .u8 0, .int .u8 0, .int .u8 0, .int .u8 0, .int .u8 0, .int .u8 0, .int .u8 0, .int .u8 0, .int .u8 0, .int .u8 0, .int .u8 0, .int .u8 0, .int .u8 0, .int .u8 0, .int .u8 0, .int .u8 0, .int .u8 0, .int .u8 0, .int .u8 0, .int .u8 0, .int .u8 0, .int .u8 0, .int .u8 0, .int .u8 0, .int .u8 0, .int .u8 0, .int .u8 0, .int .u8 0, .int .u8 0, .int .u8 0, .int .u8 0, .int .u8 0, .int .u8 0, .int .u8 0, .int .u8 0, .int .u8 0, .int .u8 0, .int .u8 0, .int .u8 0, .int .u8 0, .int .u8 0, .int .u8 0, .int .u8 a0] true))] 1) H Post = (let q5 := vi (IntKind.wrap IntKind.i64 (64 - 1)); let q1 := ByteArray.data (ByteArray.mk #[48, 49, 50, 51, 52, 53, 54, 55, 56, 57, 97, 98, 99, 100, 101, 102, 103, 104, 105, 106, 107, 108, 109, 110, 111, 112, 113, 114, 115, 116, 117, 118, 119, 120, 121, 122]); let q4 := [Value.int IntKind.u8 (↑(UInt8.toNat (Array.getD q1 (Int.toNat n) 0)) : Int), Value.int IntKind.u8 a0]; let q3 := (toI (vi 0) ≤ IntKind.wrap IntKind.i64 (64 - 1) ∧ toI q5 < (↑65 : Int)); let q2 := (↑(BitVec.toNat (BitVec.ofInt 64 n &&& BitVec.ofInt 64 15)) : Int); T2 (True ∧ pIf (decide (n ≥ 16)) (T4 (T2 (True ∧ (0 ≤ IntKind.wrap IntKind.u64 q2 ∧ IntKind.wrap IntKind.u64 q2 < (↑36 : Int)) ∧ q3 ∧ 64 ≤ 65 ∧ T2 (toI (vi 0) ≤ 4 ∧ T2 ((True ∧ True) ∧ H (lpC Tryz.prog 172 11) (lpK Tryz.prog 172 11) (stV [(0, some (nS)), (1, some (Value.int IntKind.u64 (Int.fdiv n (2 ^ 4)))), (2, some (vi 16)), (3, some (vb false)), (4, some (vb false)), (10, some (nS)), (11, some (vz)), (12, some (pt 0)), (13, some q5), (14, some (Value.int IntKind.u64 4)), (15, some (Value.int IntKind.u64 16)), (16, some (Value.int IntKind.u64 15))] [(0, some (AObj.cells [Value.int IntKind.u8 0, Value.int IntKind.u8 0, Value.int IntKind.u8 0, Value.int IntKind.u8 0, Value.int IntKind.u8 0, Value.int IntKind.u8 0, Value.int IntKind.u8 0, Value.int IntKind.u8 0, Value.int IntKind.u8 0, Value.int IntKind.u8 0, Value.int IntKind.u8 0, Value.int IntKind.u8 0, Value.int IntKind.u8 0, Value.int IntKind.u8 0, Value.int IntKind.u8 0, Value.int IntKind.u8 0, Value.int IntKind.u8 0, Value.int IntKind.u8 0, Value.int IntKind.u8 0, Value.int IntKind.u8 0, Value.int IntKind.u8 0, Value.int IntKind.u8 0, Value.int IntKind.u8 0, Value.int IntKind.u8 0, Value.int IntKind.u8 0, Value.int IntKind.u8 0, Value.int IntKind.u8 0, Value.int IntKind.u8 0, Value.int IntKind.u8 0, Value.int IntKind.u8 0, Value.int IntKind.u8 0, Value.int IntKind.u8 0, Value.int IntKind.u8 0, Value.int IntKind.u8 0, Value.int IntKind.u8 0, Value.int IntKind.u8 0, Value.int IntKind.u8 0, Value.int IntKind.u8 0, Value.int IntKind.u8 0, Value.int IntKind.u8 0, Value.int IntKind.u8 0, Value.int IntKind.u8 0, Value.int IntKind.u8 0, Value.int IntKind.u8 0, Value.int IntKind.u8 0, Value.int IntKind.u8 0, Value.int IntKind.u8 0, Value.int IntKind.u8 0, Value.int IntKind.u8 0, Value.int IntKind.u8 0, Value.int IntKind.u8 0, Value.int IntKind.u8 0, Value.int IntKind.u8 0, Value.int IntKind.u8 0, Value.int IntKind.u8 0, Value.int IntKind.u8 0, Value.int IntKind.u8 0, Value.int IntKind.u8 0, Value.int IntKind.u8 0, Value.int IntKind.u8 0, Value.int IntKind.u8 0, Value.int IntKind.u8 0, Value.int IntKind.u8 0, Value.int IntKind.u8 (↑(UInt8.toNat (Array.getD q1 (Int.toNat (IntKind.wrap IntKind.u64 q2)) 0)) : Int), Value.int IntKind.u8 a0] true))] 1)))))) (T4 (True ∧ (0 ≤ n ∧ n < (↑36 : Int)) ∧ q3 ∧ 64 ≤ 65 ∧ T2 (True ∧ (True ∧ toI (vi 0) ≤ IntKind.wrap IntKind.i64 (64 - 1) ∧ 63 ≤ 65 ∧ 65 ≤ 65 ∧ 65 ≤ 65) ∧ (65 ≤ 65 ∧ AllU8 q4) ∧ True ∧ (T2 (True)) ∧ Post (Value.tuple #[tree 1 0 #[], vs (bytesL q4)])))))) := by kernel_rfl
theorem l_fmt2 (n m a0 a1 : Int) (H : HT) (Post : PV) : vcLP Tryz.prog vcFm 172 [.slice none 0 0, .int .u64 m, .int .i64 16, .bool false, .bool false] [(11, [0, 1, 2, 3, 4, 10, 11, 12, 13, 14, 15, 16])] 11 (stV [(0, some (.slice none 0 0)), (1, some (.int .u64 n)), (2, some (.int .i64 16)), (3, some (.bool false)), (4, some (.bool false)), (10, some (.slice none 0 0)), (11, some (.string ⟨#[]⟩)), (12, some (.pointer (some ⟨0, 0, none⟩))), (13, some (.int .i64 63)), (14, some (.int .u64 4)), (15, some (.int .u64 16)), (16, some (.int .u64 15))] [(0, some (.cells [.int .u8 0, .int .u8 0, .int .u8 0, .int .u8 0, .int .u8 0, .int .u8 0, .int .u8 0, .int .u8 0, .int .u8 0, .int .u8 0, .int .u8 0, .int .u8 0, .int .u8 0, .int .u8 0, .int .u8 0, .int .u8 0, .int .u8 0, .int .u8 0, .int .u8 0, .int .u8 0, .int .u8 0, .int .u8 0, .int .u8 0, .int .u8 0, .int .u8 0, .int .u8 0, .int .u8 0, .int .u8 0, .int .u8 0, .int .u8 0, .int .u8 0, .int .u8 0, .int .u8 0, .int .u8 0, .int .u8 0, .int .u8 0, .int .u8 0, .int .u8 0, .int .u8 0, .int .u8 0, .int .u8 0, .int .u8 0, .int .u8 0, .int .u8 0, .int .u8 0, .int .u8 0, .int .u8 0, .int .u8 0, .int .u8 0, .int .u8 0, .int .u8 0, .int .u8 0, .int .u8 0, .int .u8 0, .int .u8 0, .int .u8 0, .int .u8 0, .int .u8 0, .int .u8 0, .int .u8 0, .int .u8 0, .int .u8 0, .int .u8 0, .int .u8 a0, .int .u8 a1] true))] 1) H Post = (let q5 := vi (IntKind.wrap IntKind.i64 (63 - 1)); let q4 := (toI (vi 0) ≤ IntKind.wrap IntKind.i64 (63 - 1) ∧ toI q5 < (↑65 : Int)); let q1 := ByteArray.data (ByteArray.mk #[48, 49, 50, 51, 52, 53, 54, 55, 56, 57, 97, 98, 99, 100, 101, 102, 103, 104, 105, 106, 107, 108, 109, 110, 111, 112, 113, 114, 115, 116, 117, 118, 119, 120, 121, 122]); let q3 := [Value.int IntKind.u8 (↑(UInt8.toNat (Array.getD q1 (Int.toNat n) 0)) : Int), Value.int IntKind.u8 a0, Value.int IntKind.u8 a1]; let q2 := (↑(BitVec.toNat (BitVec.ofInt 64 n &&& BitVec.ofInt 64 15)) : Int); T2 (True ∧ pIf (decide (n ≥ 16)) (T4 (T2 (True ∧ (0 ≤ IntKind.wrap IntKind.u64 q2 ∧ IntKind.wrap IntKind.u64 q2 < (↑36 : Int)) ∧ q4 ∧ 63 ≤ 65 ∧ T2 (toI (vi 0) ≤ 4 ∧ T2 ((True ∧ True) ∧ H (lpC Tryz.prog 172 11) (lpK Tryz.prog 172 11) (stV [(0, some (nS)), (1, some (Value.int IntKind.u64 (Int.fdiv n (2 ^ 4)))), (2, some (vi 16)), (3, some (vb false)), (4, some (vb false)), (10, some (nS)), (11, some (vz)), (12, some (pt 0)), (13, some q5), (14, some (Value.int IntKind.u64 4)), (15, some (Value.int IntKind.u64 16)), (16, some (Value.int IntKind.u64 15))] [(0, some (AObj.cells [Value.int IntKind.u8 0, Value.int IntKind.u8 0, Value.int IntKind.u8 0, Value.int IntKind.u8 0, Value.int IntKind.u8 0, Value.int IntKind.u8 0, Value.int IntKind.u8 0, Value.int IntKind.u8 0, Value.int IntKind.u8 0, Value.int IntKind.u8 0, Value.int IntKind.u8 0, Value.int IntKind.u8 0, Value.int IntKind.u8 0, Value.int IntKind.u8 0, Value.int IntKind.u8 0, Value.int IntKind.u8 0, Value.int IntKind.u8 0, Value.int IntKind.u8 0, Value.int IntKind.u8 0, Value.int IntKind.u8 0, Value.int IntKind.u8 0, Value.int IntKind.u8 0, Value.int IntKind.u8 0, Value.int IntKind.u8 0, Value.int IntKind.u8 0, Value.int IntKind.u8 0, Value.int IntKind.u8 0, Value.int IntKind.u8 0, Value.int IntKind.u8 0, Value.int IntKind.u8 0, Value.int IntKind.u8 0, Value.int IntKind.u8 0, Value.int IntKind.u8 0, Value.int IntKind.u8 0, Value.int IntKind.u8 0, Value.int IntKind.u8 0, Value.int IntKind.u8 0, Value.int IntKind.u8 0, Value.int IntKind.u8 0, Value.int IntKind.u8 0, Value.int IntKind.u8 0, Value.int IntKind.u8 0, Value.int IntKind.u8 0, Value.int IntKind.u8 0, Value.int IntKind.u8 0, Value.int IntKind.u8 0, Value.int IntKind.u8 0, Value.int IntKind.u8 0, Value.int IntKind.u8 0, Value.int IntKind.u8 0, Value.int IntKind.u8 0, Value.int IntKind.u8 0, Value.int IntKind.u8 0, Value.int IntKind.u8 0, Value.int IntKind.u8 0, Value.int IntKind.u8 0, Value.int IntKind.u8 0, Value.int IntKind.u8 0, Value.int IntKind.u8 0, Value.int IntKind.u8 0, Value.int IntKind.u8 0, Value.int IntKind.u8 0, Value.int IntKind.u8 (↑(UInt8.toNat (Array.getD q1 (Int.toNat (IntKind.wrap IntKind.u64 q2)) 0)) : Int), Value.int IntKind.u8 a0, Value.int IntKind.u8 a1] true))] 1)))))) (T4 (True ∧ (0 ≤ n ∧ n < (↑36 : Int)) ∧ q4 ∧ 63 ≤ 65 ∧ T2 (True ∧ (True ∧ toI (vi 0) ≤ IntKind.wrap IntKind.i64 (63 - 1) ∧ 62 ≤ 65 ∧ 65 ≤ 65 ∧ 65 ≤ 65) ∧ (65 ≤ 65 ∧ AllU8 q3) ∧ True ∧ (T2 (True)) ∧ Post (Value.tuple #[tree 1 0 #[], vs (bytesL q3)])))))) := by kernel_rfl
theorem l_fmt3 (n m a0 a1 a2 : Int) (H : HT) (Post : PV) : vcLP Tryz.prog vcFm 172 [.slice none 0 0, .int .u64 m, .int .i64 16, .bool false, .bool false] [(11, [0, 1, 2, 3, 4, 10, 11, 12, 13, 14, 15, 16])] 11 (stV [(0, some (.slice none 0 0)), (1, some (.int .u64 n)), (2, some (.int .i64 16)), (3, some (.bool false)), (4, some (.bool false)), (10, some (.slice none 0 0)), (11, some (.string ⟨#[]⟩)), (12, some (.pointer (some ⟨0, 0, none⟩))), (13, some (.int .i64 62)), (14, some (.int .u64 4)), (15, some (.int .u64 16)), (16, some (.int .u64 15))] [(0, some (.cells [.int .u8 0, .int .u8 0, .int .u8 0, .int .u8 0, .int .u8 0, .int .u8 0, .int .u8 0, .int .u8 0, .int .u8 0, .int .u8 0, .int .u8 0, .int .u8 0, .int .u8 0, .int .u8 0, .int .u8 0, .int .u8 0, .int .u8 0, .int .u8 0, .int .u8 0, .int .u8 0, .int .u8 0, .int .u8 0, .int .u8 0, .int .u8 0, .int .u8 0, .int .u8 0, .int .u8 0, .int .u8 0, .int .u8 0, .int .u8 0, .int .u8 0, .int .u8 0, .int .u8 0, .int .u8 0, .int .u8 0, .int .u8 0, .int .u8 0, .int .u8 0, .int .u8 0, .int .u8 0, .int .u8 0, .int .u8 0, .int .u8 0, .int .u8 0, .int .u8 0, .int .u8 0, .int .u8 0, .int .u8 0, .int .u8 0, .int .u8 0, .int .u8 0, .int .u8 0, .int .u8 0, .int .u8 0, .int .u8 0, .int .u8 0, .int .u8 0, .int .u8 0, .int .u8 0, .int .u8 0, .int .u8 0, .int .u8 0, .int .u8 a0, .int .u8 a1, .int .u8 a2] true))] 1) H Post = (let q5 := vi (IntKind.wrap IntKind.i64 (62 - 1)); let q4 := (toI (vi 0) ≤ IntKind.wrap IntKind.i64 (62 - 1) ∧ toI q5 < (↑65 : Int)); let q3 := (↑(BitVec.toNat (BitVec.ofInt 64 n &&& BitVec.ofInt 64 15)) : Int); let q1 := ByteArray.data (ByteArray.mk #[48, 49, 50, 51, 52, 53, 54, 55, 56, 57, 97, 98, 99, 100, 101, 102, 103, 104, 105, 106, 107, 108, 109, 110, 111, 112, 113, 114, 115, 116, 117, 118, 119, 120, 121, 122]); let q2 := [Value.int IntKind.u8 (↑(UInt8.toNat (Array.getD q1 (Int.toNat n) 0)) : Int), Value.int IntKind.u8 a0, Value.int IntKind.u8 a1, Value.int IntKind.u8 a2]; T2 (True ∧ pIf (decide (n ≥ 16)) (T4 (T2 (True ∧ (0 ≤ IntKind.wrap IntKind.u64 q3 ∧ IntKind.wrap IntKind.u64 q3 < (↑36 : Int)) ∧ q4 ∧ 62 ≤ 65 ∧ T2 (toI (vi 0) ≤ 4 ∧ T2 ((True ∧ True) ∧ H (lpC Tryz.prog 172 11) (lpK Tryz.prog 172 11) (stV [(0, some (nS)), (1, some (Value.int IntKind.u64 (Int.fdiv n (2 ^ 4)))), (2, some (vi 16)), (3, some (vb false)), (4, some (vb false)), (10, some (nS)), (11, some (vz)), (12, some (pt 0)), (13, some q5), (14, some (Value.int IntKind.u64 4)), (15, some (Value.int IntKind.u64 16)), (16, some (Value.int IntKind.u64 15))] [(0, some (AObj.cells [Value.int IntKind.u8 0, Value.int IntKind.u8 0, Value.int IntKind.u8 0, Value.int IntKind.u8 0, Value.int IntKind.u8 0, Value.int IntKind.u8 0, Value.int IntKind.u8 0, Value.int IntKind.u8 0, Value.int IntKind.u8 0, Value.int IntKind.u8 0, Value.int IntKind.u8 0, Value.int IntKind.u8 0, Value.int IntKind.u8 0, Value.int IntKind.u8 0, Value.int IntKind.u8 0, Value.int IntKind.u8 0, Value.int IntKind.u8 0, Value.int IntKind.u8 0, Value.int IntKind.u8 0, Value.int IntKind.u8 0, Value.int IntKind.u8 0, Value.int IntKind.u8 0, Value.int IntKind.u8 0, Value.int IntKind.u8 0, Value.int IntKind.u8 0, Value.int IntKind.u8 0, Value.int IntKind.u8 0, Value.int IntKind.u8 0, Value.int IntKind.u8 0, Value.int IntKind.u8 0, Value.int IntKind.u8 0, Value.int IntKind.u8 0, Value.int IntKind.u8 0, Value.int IntKind.u8 0, Value.int IntKind.u8 0, Value.int IntKind.u8 0, Value.int IntKind.u8 0, Value.int IntKind.u8 0, Value.int IntKind.u8 0, Value.int IntKind.u8 0, Value.int IntKind.u8 0, Value.int IntKind.u8 0, Value.int IntKind.u8 0, Value.int IntKind.u8 0, Value.int IntKind.u8 0, Value.int IntKind.u8 0, Value.int IntKind.u8 0, Value.int IntKind.u8 0, Value.int IntKind.u8 0, Value.int IntKind.u8 0, Value.int IntKind.u8 0, Value.int IntKind.u8 0, Value.int IntKind.u8 0, Value.int IntKind.u8 0, Value.int IntKind.u8 0, Value.int IntKind.u8 0, Value.int IntKind.u8 0, Value.int IntKind.u8 0, Value.int IntKind.u8 0, Value.int IntKind.u8 0, Value.int IntKind.u8 0, Value.int IntKind.u8 (↑(UInt8.toNat (Array.getD q1 (Int.toNat (IntKind.wrap IntKind.u64 q3)) 0)) : Int), Value.int IntKind.u8 a0, Value.int IntKind.u8 a1, Value.int IntKind.u8 a2] true))] 1)))))) (T4 (True ∧ (0 ≤ n ∧ n < (↑36 : Int)) ∧ q4 ∧ 62 ≤ 65 ∧ T2 (True ∧ (True ∧ toI (vi 0) ≤ IntKind.wrap IntKind.i64 (62 - 1) ∧ 61 ≤ 65 ∧ 65 ≤ 65 ∧ 65 ≤ 65) ∧ (65 ≤ 65 ∧ AllU8 q2) ∧ True ∧ (T2 (True)) ∧ Post (Value.tuple #[tree 1 0 #[], vs (bytesL q2)])))))) := by kernel_rfl
theorem l_fmt4 (n m a0 a1 a2 a3 : Int) (H : HT) (Post : PV) : vcLP Tryz.prog vcFm 172 [.slice none 0 0, .int .u64 m, .int .i64 16, .bool false, .bool false] [(11, [0, 1, 2, 3, 4, 10, 11, 12, 13, 14, 15, 16])] 11 (stV [(0, some (.slice none 0 0)), (1, some (.int .u64 n)), (2, some (.int .i64 16)), (3, some (.bool false)), (4, some (.bool false)), (10, some (.slice none 0 0)), (11, some (.string ⟨#[]⟩)), (12, some (.pointer (some ⟨0, 0, none⟩))), (13, some (.int .i64 61)), (14, some (.int .u64 4)), (15, some (.int .u64 16)), (16, some (.int .u64 15))] [(0, some (.cells [.int .u8 0, .int .u8 0, .int .u8 0, .int .u8 0, .int .u8 0, .int .u8 0, .int .u8 0, .int .u8 0, .int .u8 0, .int .u8 0, .int .u8 0, .int .u8 0, .int .u8 0, .int .u8 0, .int .u8 0, .int .u8 0, .int .u8 0, .int .u8 0, .int .u8 0, .int .u8 0, .int .u8 0, .int .u8 0, .int .u8 0, .int .u8 0, .int .u8 0, .int .u8 0, .int .u8 0, .int .u8 0, .int .u8 0, .int .u8 0, .int .u8 0, .int .u8 0, .int .u8 0, .int .u8 0, .int .u8 0, .int .u8 0, .int .u8 0, .int .u8 0, .int .u8 0, .int .u8 0, .int .u8 0, .int .u8 0, .int .u8 0, .int .u8 0, .int .u8 0, .int .u8 0, .int .u8 0, .int .u8 0, .int .u8 0, .int .u8 0, .int .u8 0, .int .u8 0, .int .u8 0, .int .u8 0, .int .u8 0, .int .u8 0, .int .u8 0, .int .u8 0, .int .u8 0, .int .u8 0, .int .u8 0, .int .u8 a0, .int .u8 a1, .int .u8 a2, .int .u8 a3] true))] 1) H Post = (let q5 := vi (IntKind.wrap IntKind.i64 (61 - 1)); let q4 := (toI (vi 0) ≤ IntKind.wrap IntKind.i64 (61 - 1) ∧ toI q5 < (↑65 : Int)); let q3 := (↑(BitVec.toNat (BitVec.ofInt 64 n &&& BitVec.ofInt 64 15)) : Int); let q1 := ByteArray.data (ByteArray.mk #[48, 49, 50, 51, 52, 53, 54, 55, 56, 57, 97, 98, 99, 100, 101, 102, 103, 104, 105, 106, 107, 108, 109, 110, 111, 112, 113, 114, 115, 116, 117, 118, 119, 120, 121, 122]); let q2 := [Value.int IntKind.u8 (↑(UInt8.toNat (Array.getD q1 (Int.toNat n) 0)) : Int), Value.int IntKind.u8 a0, Value.int IntKind.u8 a1, Value.int IntKind.u8 a2, Value.int IntKind.u8 a3]; T2 (True ∧ pIf (decide (n ≥ 16)) (T4 (T2 (True ∧ (0 ≤ IntKind.wrap IntKind.u64 q3 ∧ IntKind.wrap IntKind.u64 q3 < (↑36 : Int)) ∧ q4 ∧ 61 ≤ 65 ∧ T2 (toI (vi 0) ≤ 4 ∧ T2 ((True ∧ True) ∧ H (lpC Tryz.prog 172 11) (lpK Tryz.prog 172 11) (stV [(0, some (nS)), (1, some (Value.int IntKind.u64 (Int.fdiv n (2 ^ 4)))), (2, some (vi 16)), (3, some (vb false)), (4, some (vb false)), (10, some (nS)), (11, some (vz)), (12, some (pt 0)), (13, some q5), (14, some (Value.int IntKind.u64 4)), (15, some (Value.int IntKind.u64 16)), (16, some (Value.int IntKind.u64 15))] [(0, some (AObj.cells [Value.int IntKind.u8 0, Value.int IntKind.u8 0, Value.int IntKind.u8 0, Value.int IntKind.u8 0, Value.int IntKind.u8 0, Value.int IntKind.u8 0, Value.int IntKind.u8 0, Value.int IntKind.u8 0, Value.int IntKind.u8 0, Value.int IntKind.u8 0, Value.int IntKind.u8 0, Value.int IntKind.u8 0, Value.int IntKind.u8 0, Value.int IntKind.u8 0, Value.int IntKind.u8 0, Value.int IntKind.u8 0, Value.int IntKind.u8 0, Value.int IntKind.u8 0, Value.int IntKind.u8 0, Value.int IntKind.u8 0, Value.int IntKind.u8 0, Value.int IntKind.u8 0, Value.int IntKind.u8 0, Value.int IntKind.u8 0, Value.int IntKind.u8 0, Value.int IntKind.u8 0, Value.int IntKind.u8 0, Value.int IntKind.u8 0, Value.int IntKind.u8 0, Value.int IntKind.u8 0, Value.int IntKind.u8 0, Value.int IntKind.u8 0, Value.int IntKind.u8 0, Value.int IntKind.u8 0, Value.int IntKind.u8 0, Value.int IntKind.u8 0, Value.int IntKind.u8 0, Value.int IntKind.u8 0, Value.int IntKind.u8 0, Value.int IntKind.u8 0, Value.int IntKind.u8 0, Value.int IntKind.u8 0, Value.int IntKind.u8 0, Value.int IntKind.u8 0, Value.int IntKind.u8 0, Value.int IntKind.u8 0, Value.int IntKind.u8 0, Value.int IntKind.u8 0, Value.int IntKind.u8 0, Value.int IntKind.u8 0, Value.int IntKind.u8 0, Value.int IntKind.u8 0, Value.int IntKind.u8 0, Value.int IntKind.u8 0, Value.int IntKind.u8 0, Value.int IntKind.u8 0, Value.int IntKind.u8 0, Value.int IntKind.u8 0, Value.int IntKind.u8 0, Value.int IntKind.u8 0, Value.int IntKind.u8 (↑(UInt8.toNat (Array.getD q1 (Int.toNat (IntKind.wrap IntKind.u64 q3)) 0)) : Int), Value.int IntKind.u8 a0, Value.int IntKind.u8 a1, Value.int IntKind.u8 a2, Value.int IntKind.u8 a3] true))] 1)))))) (T4 (True ∧ (0 ≤ n ∧ n < (↑36 : Int)) ∧ q4 ∧ 61 ≤ 65 ∧ T2 (True ∧ (True ∧ toI (vi 0) ≤ IntKind.wrap IntKind.i64 (61 - 1) ∧ 60 ≤ 65 ∧ 65 ≤ 65 ∧ 65 ≤ 65) ∧ (65 ≤ 65 ∧ AllU8 q2) ∧ True ∧ (T2 (True)) ∧ Post (Value.tuple #[tree 1 0 #[], vs (bytesL q2)])))))) := by kernel_rfl
theorem l_fmt5 (n m a0 a1 a2 a3 a4 : Int) (H : HT) (Post : PV) : vcLP Tryz.prog vcFm 172 [.slice none 0 0, .int .u64 m, .int .i64 16, .bool false, .bool false] [(11, [0, 1, 2, 3, 4, 10, 11, 12, 13, 14, 15, 16])] 11 (stV [(0, some (.slice none 0 0)), (1, some (.int .u64 n)), (2, some (.int .i64 16)), (3, some (.bool false)), (4, some (.bool false)), (10, some (.slice none 0 0)), (11, some (.string ⟨#[]⟩)), (12, some (.pointer (some ⟨0, 0, none⟩))), (13, some (.int .i64 60)), (14, some (.int .u64 4)), (15, some (.int .u64 16)), (16, some (.int .u64 15))] [(0, some (.cells [.int .u8 0, .int .u8 0, .int .u8 0, .int .u8 0, .int .u8 0, .int .u8 0, .int .u8 0, .int .u8 0, .int .u8 0, .int .u8 0, .int .u8 0, .int .u8 0, .int .u8 0, .int .u8 0, .int .u8 0, .int .u8 0, .int .u8 0, .int .u8 0, .int .u8 0, .int .u8 0, .int .u8 0, .int .u8 0, .int .u8 0, .int .u8 0, .int .u8 0, .int .u8 0, .int .u8 0, .int .u8 0, .int .u8 0, .int .u8 0, .int .u8 0, .int .u8 0, .int .u8 0, .int .u8 0, .int .u8 0, .int .u8 0, .int .u8 0, .int .u8 0, .int .u8 0, .int .u8 0, .int .u8 0, .int .u8 0, .int .u8 0, .int .u8 0, .int .u8 0, .int .u8 0, .int .u8 0, .int .u8 0, .int .u8 0, .int .u8 0, .int .u8 0, .int .u8 0, .int .u8 0, .int .u8 0, .int .u8 0, .int .u8 0, .int .u8 0, .int .u8 0, .int .u8 0, .int .u8 0, .int .u8 a0, .int .u8 a1, .int .u8 a2, .int .u8 a3, .int .u8 a4] true))] 1) H Post = (let q5 := vi (IntKind.wrap IntKind.i64 (60 - 1)); let q4 := (toI (vi 0) ≤ IntKind.wrap IntKind.i64 (60 - 1) ∧ toI q5 < (↑65 : Int)); let q3 := (↑(BitVec.toNat (BitVec.ofInt 64 n &&& BitVec.ofInt 64 15)) : Int); let q2 := ByteArray.data (ByteArray.mk #[48, 49, 50, 51, 52, 53, 54, 55, 56, 57, 97, 98, 99, 100, 101, 102, 103, 104, 105, 106, 107, 108, 109, 110, 111, 112, 113, 114, 115, 116, 117, 118, 119, 120, 121, 122]); let q1 := [Value.int IntKind.u8 (↑(UInt8.toNat (Array.getD q2 (Int.toNat n) 0)) : Int), Value.int IntKind.u8 a0, Value.int IntKind.u8 a1, Value.int IntKind.u8 a2, Value.int IntKind.u8 a3, Value.int IntKind.u8 a4]; T2 (True ∧ pIf (decide (n ≥ 16)) (T4 (T2 (True ∧ (0 ≤ IntKind.wrap IntKind.u64 q3 ∧ IntKind.wrap IntKind.u64 q3 < (↑36 : Int)) ∧ q4 ∧ 60 ≤ 65 ∧ T2 (toI (vi 0) ≤ 4 ∧ T2 ((True ∧ True) ∧ H (lpC Tryz.prog 172 11) (lpK Tryz.prog 172 11) (stV [(0, some (nS)), (1, some (Value.int IntKind.u64 (Int.fdiv n (2 ^ 4)))), (2, some (vi 16)), (3, some (vb false)), (4, some (vb false)), (10, some (nS)), (11, some (vz)), (12, some (pt 0)), (13, some q5), (14, some (Value.int IntKind.u64 4)), (15, some (Value.int IntKind.u64 16)), (16, some (Value.int IntKind.u64 15))] [(0, some (AObj.cells [Value.int IntKind.u8 0, Value.int IntKind.u8 0, Value.int IntKind.u8 0, Value.int IntKind.u8 0, Value.int IntKind.u8 0, Value.int IntKind.u8 0, Value.int IntKind.u8 0, Value.int IntKind.u8 0, Value.int IntKind.u8 0, Value.int IntKind.u8 0, Value.int IntKind.u8 0, Value.int IntKind.u8 0, Value.int IntKind.u8 0, Value.int IntKind.u8 0, Value.int IntKind.u8 0, Value.int IntKind.u8 0, Value.int IntKind.u8 0, Value.int IntKind.u8 0, Value.int IntKind.u8 0, Value.int IntKind.u8 0, Value.int IntKind.u8 0, Value.int IntKind.u8 0, Value.int IntKind.u8 0, Value.int IntKind.u8 0, Value.int IntKind.u8 0, Value.int IntKind.u8 0, Value.int IntKind.u8 0, Value.int IntKind.u8 0, Value.int IntKind.u8 0, Value.int IntKind.u8 0, Value.int IntKind.u8 0, Value.int IntKind.u8 0, Value.int IntKind.u8 0, Value.int IntKind.u8 0, Value.int IntKind.u8 0, Value.int IntKind.u8 0, Value.int IntKind.u8 0, Value.int IntKind.u8 0, Value.int IntKind.u8 0, Value.int IntKind.u8 0, Value.int IntKind.u8 0, Value.int IntKind.u8 0, Value.int IntKind.u8 0, Value.int IntKind.u8 0, Value.int IntKind.u8 0, Value.int IntKind.u8 0, Value.int IntKind.u8 0, Value.int IntKind.u8 0, Value.int IntKind.u8 0, Value.int IntKind.u8 0, Value.int IntKind.u8 0, Value.int IntKind.u8 0, Value.int IntKind.u8 0, Value.int IntKind.u8 0, Value.int IntKind.u8 0, Value.int IntKind.u8 0, Value.int IntKind.u8 0, Value.int IntKind.u8 0, Value.int IntKind.u8 0, Value.int IntKind.u8 (↑(UInt8.toNat (Array.getD q2 (Int.toNat (IntKind.wrap IntKind.u64 q3)) 0)) : Int), Value.int IntKind.u8 a0, Value.int IntKind.u8 a1, Value.int IntKind.u8 a2, Value.int IntKind.u8 a3, Value.int IntKind.u8 a4] true))] 1)))))) (T4 (True ∧ (0 ≤ n ∧ n < (↑36 : Int)) ∧ q4 ∧ 60 ≤ 65 ∧ T2 (True ∧ (True ∧ toI (vi 0) ≤ IntKind.wrap IntKind.i64 (60 - 1) ∧ 59 ≤ 65 ∧ 65 ≤ 65 ∧ 65 ≤ 65) ∧ (65 ≤ 65 ∧ AllU8 q1) ∧ True ∧ (T2 (True)) ∧ Post (Value.tuple #[tree 1 0 #[], vs (bytesL q1)])))))) := by kernel_rfl
theorem l_fmt6 (n m a0 a1 a2 a3 a4 a5 : Int) (H : HT) (Post : PV) : vcLP Tryz.prog vcFm 172 [.slice none 0 0, .int .u64 m, .int .i64 16, .bool false, .bool false] [(11, [0, 1, 2, 3, 4, 10, 11, 12, 13, 14, 15, 16])] 11 (stV [(0, some (.slice none 0 0)), (1, some (.int .u64 n)), (2, some (.int .i64 16)), (3, some (.bool false)), (4, some (.bool false)), (10, some (.slice none 0 0)), (11, some (.string ⟨#[]⟩)), (12, some (.pointer (some ⟨0, 0, none⟩))), (13, some (.int .i64 59)), (14, some (.int .u64 4)), (15, some (.int .u64 16)), (16, some (.int .u64 15))] [(0, some (.cells [.int .u8 0, .int .u8 0, .int .u8 0, .int .u8 0, .int .u8 0, .int .u8 0, .int .u8 0, .int .u8 0, .int .u8 0, .int .u8 0, .int .u8 0, .int .u8 0, .int .u8 0, .int .u8 0, .int .u8 0, .int .u8 0, .int .u8 0, .int .u8 0, .int .u8 0, .int .u8 0, .int .u8 0, .int .u8 0, .int .u8 0, .int .u8 0, .int .u8 0, .int .u8 0, .int .u8 0, .int .u8 0, .int .u8 0, .int .u8 0, .int .u8 0, .int .u8 0, .int .u8 0, .int .u8 0, .int .u8 0, .int .u8 0, .int .u8 0, .int .u8 0, .int .u8 0, .int .u8 0, .int .u8 0, .int .u8 0, .int .u8 0, .int .u8 0, .int .u8 0, .int .u8 0, .int .u8 0, .int .u8 0, .int .u8 0, .int .u8 0, .int .u8 0, .int .u8 0, .int .u8 0, .int .u8 0, .int .u8 0, .int .u8 0, .int .u8 0, .int .u8 0, .int .u8 0, .int .u8 a0, .int .u8 a1, .int .u8 a2, .int .u8 a3, .int .u8 a4, .int .u8 a5] true))] 1) H Post = (let q5 := vi (IntKind.wrap IntKind.i64 (59 - 1)); let q4 := (toI (vi 0) ≤ IntKind.wrap IntKind.i64 (59 - 1) ∧ toI q5 < (↑65 : Int)); let q3 := (↑(BitVec.toNat (BitVec.ofInt 64 n &&& BitVec.ofInt 64 15)) : Int); let q2 := ByteArray.data (ByteArray.mk #[48, 49, 50, 51, 52, 53, 54, 55, 56, 57, 97, 98, 99, 100, 101, 102, 103, 104, 105, 106, 107, 108, 109, 110, 111, 112, 113, 114, 115, 116, 117, 118, 119, 120, 121, 122]); let q1 := [Value.int IntKind.u8 (↑(UInt8.toNat (Array.getD q2 (Int.toNat n) 0)) : Int), Value.int IntKind.u8 a0, Value.int IntKind.u8 a1, Value.int IntKind.u8 a2, Value.int IntKind.u8 a3, Value.int IntKind.u8 a4, Value.int IntKind.u8 a5]; T2 (True ∧ pIf (decide (n ≥ 16)) (T4 (T2 (True ∧ (0 ≤ IntKind.wrap IntKind.u64 q3 ∧ IntKind.wrap IntKind.u64 q3 < (↑36 : Int)) ∧ q4 ∧ 59 ≤ 65 ∧ T2 (toI (vi 0) ≤ 4 ∧ T2 ((True ∧ True) ∧ H (lpC Tryz.prog 172 11) (lpK Tryz.prog 172 11) (stV [(0, some (nS)), (1, some (Value.int IntKind.u64 (Int.fdiv n (2 ^ 4)))), (2, some (vi 16)), (3, some (vb false)), (4, some (vb false)), (10, some (nS)), (11, some (vz)), (12, some (pt 0)), (13, some q5), (14, some (Value.int IntKind.u64 4)), (15, some (Value.int IntKind.u64 16)), (16, some (Value.int IntKind.u64 15))] [(0, some (AObj.cells [Value.int IntKind.u8 0, Value.int IntKind.u8 0, Value.int IntKind.u8 0, Value.int IntKind.u8 0, Value.int IntKind.u8 0, Value.int IntKind.u8 0, Value.int IntKind.u8 0, Value.int IntKind.u8 0, Value.int IntKind.u8 0, Value.int IntKind.u8 0, Value.int IntKind.u8 0, Value.int IntKind.u8 0, Value.int IntKind.u8 0, Value.int IntKind.u8 0, Value.int IntKind.u8 0, Value.int IntKind.u8 0, Value.int IntKind.u8 0, Value.int IntKind.u8 0, Value.int IntKind.u8 0, Value.int IntKind.u8 0, Value.int IntKind.u8 0, Value.int IntKind.u8 0, Value.int IntKind.u8 0, Value.int IntKind.u8 0, Value.int IntKind.u8 0, Value.int IntKind.u8 0, Value.int IntKind.u8 0, Value.int IntKind.u8 0, Value.int IntKind.u8 0, Value.int IntKind.u8 0, Value.int IntKind.u8 0, Value.int IntKind.u8 0, Value.int IntKind.u8 0, Value.int IntKind.u8 0, Value.int IntKind.u8 0, Value.int IntKind.u8 0, Value.int IntKind.u8 0, Value.int IntKind.u8 0, Value.int IntKind.u8 0, Value.int IntKind.u8 0, Value.int IntKind.u8 0, Value.int IntKind.u8 0, Value.int IntKind.u8 0, Value.int IntKind.u8 0, Value.int IntKind.u8 0, Value.int IntKind.u8 0, Value.int IntKind.u8 0, Value.int IntKind.u8 0, Value.int IntKind.u8 0, Value.int IntKind.u8 0, Value.int IntKind.u8 0, Value.int IntKind.u8 0, Value.int IntKind.u8 0, Value.int IntKind.u8 0, Value.int IntKind.u8 0, Value.int IntKind.u8 0, Value.int IntKind.u8 0, Value.int IntKind.u8 0, Value.int IntKind.u8 (↑(UInt8.toNat (Array.getD q2 (Int.toNat (IntKind.wrap IntKind.u64 q3)) 0)) : Int), Value.int IntKind.u8 a0, Value.int IntKind.u8 a1, Value.int IntKind.u8 a2, Value.int IntKind.u8 a3, Value.int IntKind.u8 a4, Value.int IntKind.u8 a5] true))] 1)))))) (T4 (True ∧ (0 ≤ n ∧ n < (↑36 : Int)) ∧ q4 ∧ 59 ≤ 65 ∧ T2 (True ∧ (True ∧ toI (vi 0) ≤ IntKind.wrap IntKind.i64 (59 - 1) ∧ 58 ≤ 65 ∧ 65 ≤ 65 ∧ 65 ≤ 65) ∧ (65 ≤ 65 ∧ AllU8 q1) ∧ True ∧ (T2 (True)) ∧ Post (Value.tuple #[tree 1 0 #[], vs (bytesL q1)])))))) := by kernel_rfl
theorem l_fmt7 (n m a0 a1 a2 a3 a4 a5 a6 : Int) (H : HT) (Post : PV) : vcLP Tryz.prog vcFm 172 [.slice none 0 0, .int .u64 m, .int .i64 16, .bool false, .bool false] [(11, [0, 1, 2, 3, 4, 10, 11, 12, 13, 14, 15, 16])] 11 (stV [(0, some (.slice none 0 0)), (1, some (.int .u64 n)), (2, some (.int .i64 16)), (3, some (.bool false)), (4, some (.bool false)), (10, some (.slice none 0 0)), (11, some (.string ⟨#[]⟩)), (12, some (.pointer (some ⟨0, 0, none⟩))), (13, some (.int .i64 58)), (14, some (.int .u64 4)), (15, some (.int .u64 16)), (16, some (.int .u64 15))] [(0, some (.cells [.int .u8 0, .int .u8 0, .int .u8 0, .int .u8 0, .int .u8 0, .int .u8 0, .int .u8 0, .int .u8 0, .int .u8 0, .int .u8 0, .int .u8 0, .int .u8 0, .int .u8 0, .int .u8 0, .int .u8 0, .int .u8 0, .int .u8 0, .int .u8 0, .int .u8 0, .int .u8 0, .int .u8 0, .int .u8 0, .int .u8 0, .int .u8 0, .int .u8 0, .int .u8 0, .int .u8 0, .int .u8 0, .int .u8 0, .int .u8 0, .int .u8 0, .int .u8 0, .int .u8 0, .int .u8 0, .int .u8 0, .int .u8 0, .int .u8 0, .int .u8 0, .int .u8 0, .int .u8 0, .int .u8 0, .int .u8 0, .int .u8 0, .int .u8 0, .int .u8 0, .int .u8 0, .int .u8 0, .int .u8 0, .int .u8 0, .int .u8 0, .int .u8 0, .int .u8 0, .int .u8 0, .int .u8 0, .int .u8 0, .int .u8 0, .int .u8 0, .int .u8 0, .int .u8 a0, .int .u8 a1, .int .u8 a2, .int .u8 a3, .int .u8 a4, .int .u8 a5, .int .u8 a6] true))] 1) H Post = (let q5 := vi (IntKind.wrap IntKind.i64 (58 - 1)); let q4 := (toI (vi 0) ≤ IntKind.wrap IntKind.i64 (58 - 1) ∧ toI q5 < (↑65 : Int)); let q3 := (↑(BitVec.toNat (BitVec.ofInt 64 n &&& BitVec.ofInt 64 15)) : Int); let q2 := ByteArray.data (ByteArray.mk #[48, 49, 50, 51, 52, 53, 54, 55, 56, 57, 97, 98, 99, 100, 101, 102, 103, 104, 105, 106, 107, 108, 109, 110, 111, 112, 113, 114, 115, 116, 117, 118, 119, 120, 121, 122]); let q1 := [Value.int IntKind.u8 (↑(UInt8.toNat (Array.getD q2 (Int.toNat n) 0)) : Int), Value.int IntKind.u8 a0, Value.int IntKind.u8 a1, Value.int IntKind.u8 a2, Value.int IntKind.u8 a3, Value.int IntKind.u8 a4, Value.int IntKind.u8 a5, Value.int IntKind.u8 a6]; T2 (True ∧ pIf (decide (n ≥ 16)) (T4 (T2 (True ∧ (0 ≤ IntKind.wrap IntKind.u64 q3 ∧ IntKind.wrap IntKind.u64 q3 < (↑36 : Int)) ∧ q4 ∧ 58 ≤ 65 ∧ T2 (toI (vi 0) ≤ 4 ∧ T2 ((True ∧ True) ∧ H (lpC Tryz.prog 172 11) (lpK Tryz.prog 172 11) (stV [(0, some (nS)), (1, some (Value.int IntKind.u64 (Int.fdiv n (2 ^ 4)))), (2, some (vi 16)), (3, some (vb false)), (4, some (vb false)), (10, some (nS)), (11, some (vz)), (12, some (pt 0)), (13, some q5), (14, some (Value.int IntKind.u64 4)), (15, some (Value.int IntKind.u64 16)), (16, some (Value.int IntKind.u64 15))] [(0, some (AObj.cells [Value.int IntKind.u8 0, Value.int IntKind.u8 0, Value.int IntKind.u8 0, Value.int IntKind.u8 0, Value.int IntKind.u8 0, Value.int IntKind.u8 0, Value.int IntKind.u8 0, Value.int IntKind.u8 0, Value.int IntKind.u8 0, Value.int IntKind.u8 0, Value.int IntKind.u8 0, Value.int IntKind.u8 0, Value.int IntKind.u8 0, Value.int IntKind.u8 0, Value.int IntKind.u8 0, Value.int IntKind.u8 0, Value.int IntKind.u8 0, Value.int IntKind.u8 0, Value.int IntKind.u8 0, Value.int IntKind.u8 0, Value.int IntKind.u8 0, Value.int IntKind.u8 0, Value.int IntKind.u8 0, Value.int IntKind.u8 0, Value.int IntKind.u8 0, Value.int IntKind.u8 0, Value.int IntKind.u8 0, Value.int IntKind.u8 0, Value.int IntKind.u8 0, Value.int IntKind.u8 0, Value.int IntKind.u8 0, Value.int IntKind.u8 0, Value.int IntKind.u8 0, Value.int IntKind.u8 0, Value.int IntKind.u8 0, Value.int IntKind.u8 0, Value.int IntKind.u8 0, Value.int IntKind.u8 0, Value.int IntKind.u8 0, Value.int IntKind.u8 0, Value.int IntKind.u8 0, Value.int IntKind.u8 0, Value.int IntKind.u8 0, Value.int IntKind.u8 0, Value.int IntKind.u8 0, Value.int IntKind.u8 0, Value.int IntKind.u8 0, Value.int IntKind.u8 0, Value.int IntKind.u8 0, Value.int IntKind.u8 0, Value.int IntKind.u8 0, Value.int IntKind.u8 0, Value.int IntKind.u8 0, Value.int IntKind.u8 0, Value.int IntKind.u8 0, Value.int IntKind.u8 0, Value.int IntKind.u8 0, Value.int IntKind.u8 (↑(UInt8.toNat (Array.getD q2 (Int.toNat (IntKind.wrap IntKind.u64 q3)) 0)) : Int), Value.int IntKind.u8 a0, Value.int IntKind.u8 a1, Value.int IntKind.u8 a2, Value.int IntKind.u8 a3, Value.int IntKind.u8 a4, Value.int IntKind.u8 a5, Value.int IntKind.u8 a6] true))] 1)))))) (T4 (True ∧ (0 ≤ n ∧ n < (↑36 : Int)) ∧ q4 ∧ 58 ≤ 65 ∧ T2 (True ∧ (True ∧ toI (vi 0) ≤ IntKind.wrap IntKind.i64 (58 - 1) ∧ 57 ≤ 65 ∧ 65 ≤ 65 ∧ 65 ≤ 65) ∧ (65 ≤ 65 ∧ AllU8 q1) ∧ True ∧ (T2 (True)) ∧ Post (Value.tuple #[tree 1 0 #[], vs (bytesL q1)])))))) := by kernel_rfl
end Go.Proofs.YtojlhapbngcjkaaGreatDoor
