/-
  Put together out of several texts, each in its own namespace's block. Conditions: as each theorem states them.
-/
import Derived.Test.YtegjnjmimfgijaaGreatDoorQEvo
import Derived.KernelRfl
import Derived.Test.YtegjnjmimfgijaaGreatDoorProg
noncomputable section
namespace Go.Proofs.YtegjnjmimfgijaaGreatDoor
open Go Go.RowKit
abbrev eqL (a b : List Value) : Prop := a = b
def trV {α : Type} (l : List (Nat × Option α)) : Tr α := l.foldl (fun t p => t.put p.1 p.2) .e
def stV (tm : List (Nat × Option Value)) (hp : List (Nat × Option AObj)) (nx : Nat) : AS := ⟨trV tm, trV hp, nx⟩
def fnAt (P : Program) (f : FuncId) : Func := (P.funcs[f]?).getD default
def codeOf (fn : Func) : Code := fn.body.getD .skip
def findL (r : Nat) : Code → List Fr → Option (Code × List Fr)
 | .seq x y, k => match findL r x (.seq y :: k) with
  | some p => some p
  | none => findL r y k
 | .cond _ x y, k => match findL r x k with
  | some p => some p
  | none => findL r y k
 | .block id b, k => findL r b (.block id :: k)
 | .loop b, k => match rid b with
  | some j => bif j.beq r then some (b, k) else findL r b (.loop b :: k)
  | none => none
 | _, _ => none
def lpC (P : Program) (f : FuncId) (r : Nat) : Code := ((findL r (codeOf (fnAt P f)) []).map (·.1)).getD .skip
def lpK (P : Program) (f : FuncId) (r : Nat) : List Fr := ((findL r (codeOf (fnAt P f)) []).map (·.2)).getD []
def vcE (P : Program) (vc : VCall) (f : FuncId) (lt : List (Nat × List Nat)) (base : List Bool) (hp : Tr AObj) (args : List Value) (H : Code → List Fr → AS → Prop) (Post : Value → Tr AObj → Prop) : Prop :=
 vrun P vc (slotsN args (fnAt P f)) lt base H (finOf P (fnAt P f) base.length Post) 3000 (.code (codeOf (fnAt P f))) [] ⟨putArgs 0 args .e, hp, base.length⟩
def vcL (P : Program) (vc : VCall) (f : FuncId) (na : List Value) (lt : List (Nat × List Nat)) (base : List Bool) (r : Nat) (st : AS) (H : Code → List Fr → AS → Prop) (Post : Value → Tr AObj → Prop) : Prop :=
 vrun P vc (slotsN na (fnAt P f)) lt base H (finOf P (fnAt P f) base.length Post) 3000 (.code (lpC P f r)) (.loop (lpC P f r) :: lpK P f r) st
def Ok (P : Program) (f : FuncId) (na : List Value) (base : List Bool) (Post : Value → Tr AObj → Prop) : Code → List Fr → AS → Prop :=
 Good P (slotsN na (fnAt P f)) base (finOf P (fnAt P f) base.length Post)
theorem spec_E {P : Program} {vc : VCall} (hcall : VCallOk P vc) (hm : P.follows .mixedOrders = true) {f : FuncId} (hf : (P.funcs[f]?).isSome = true) (hc : (fnAt P f).body.isSome = true) {lt : List (Nat × List Nat)} {base : List Bool} {hp : Tr AObj} {args : List Value} {Post : Value → Tr AObj → Prop}
  (h : vcE P vc f lt base hp args (Ok P f args base Post) Post) : Spec P f base.length hp args Post := by
 have hf' : P.funcs[f]? = some (fnAt P f) := by
  unfold fnAt
  cases hx : P.funcs[f]? with
  | none => rw [hx] at hf; cases hf
  | some x => rfl
 have hc' : (fnAt P f).body = some (codeOf (fnAt P f)) := by
  unfold codeOf
  cases hx : (fnAt P f).body with
  | none => rw [hx] at hc; cases hc
  | some x => rfl
 exact spec_of hcall hm hf' hc' 3000 h
theorem pure_E {P : Program} {vc : VCall} (hcall : VCallOk P vc) (hm : P.follows .mixedOrders = true) {f : FuncId} (hf : (P.funcs[f]?).isSome = true) (hc : (fnAt P f).body.isSome = true) {lt : List (Nat × List Nat)} {args : List Value} {Post : Value → Prop}
  (h : vcE P vc f lt [] .e args (Ok P f args [] fun v _ => Post v) fun v _ => Post v) : Pure P f args Post := spec_E hcall hm hf hc h
theorem ok_L {P : Program} {vc : VCall} (hcall : VCallOk P vc) (hm : P.follows .mixedOrders = true) {f : FuncId} {na : List Value} {lt : List (Nat × List Nat)} {base : List Bool} {r : Nat} {st : AS} {Post : Value → Tr AObj → Prop}
  (h : vcL P vc f na lt base r st (Ok P f na base Post) Post) : Ok P f na base Post (lpC P f r) (lpK P f r) st := good_round hcall hm 3000 h
def vcP (P : Program) (vc : VCall) (f : FuncId) (lt : List (Nat × List Nat)) (args : List Value) (H : Code → List Fr → AS → Prop) (Post : Value → Prop) : Prop := vcE P vc f lt [] .e args H fun v _ => Post v
def vcLP (P : Program) (vc : VCall) (f : FuncId) (na : List Value) (lt : List (Nat × List Nat)) (r : Nat) (st : AS) (H : Code → List Fr → AS → Prop) (Post : Value → Prop) : Prop := vcL P vc f na lt [] r st H fun v _ => Post v
def OkAt (P : Program) (f : FuncId) (na : List Value) (Post : Value → Prop) : Code → List Fr → AS → Prop := Ok P f na [] fun v _ => Post v
theorem pure_P {P : Program} {vc : VCall} (hcall : VCallOk P vc) (hm : P.follows .mixedOrders = true) {f : FuncId} (hf : (P.funcs[f]?).isSome = true) (hc : (fnAt P f).body.isSome = true) (lt : List (Nat × List Nat)) {args : List Value} {Post : Value → Prop}
  {X : Prop} (e : vcP P vc f lt args (OkAt P f args Post) Post = X) (h : X) : Pure P f args Post := pure_E (lt := lt) hcall hm hf hc (Eq.mpr e h)
theorem ok_P {P : Program} {vc : VCall} (hcall : VCallOk P vc) (hm : P.follows .mixedOrders = true) {f : FuncId} {na : List Value} (lt : List (Nat × List Nat)) {r : Nat} {st : AS} {Post : Value → Prop}
  {X : Prop} (e : vcLP P vc f na lt r st (OkAt P f na Post) Post = X) (h : X) : OkAt P f na Post (lpC P f r) (lpK P f r) st := ok_L (lt := lt) hcall hm (Eq.mpr e h)
theorem of_b {Post : Value → Prop} {b c : Bool} (h : Post (.bool b)) (e : b = c) : Post (.bool c) := e ▸ h
theorem of_v {Post : Value → Prop} {b c : Value} (h : Post b) (e : b = c) : Post c := e ▸ h
end Go.Proofs.YtegjnjmimfgijaaGreatDoor

noncomputable section
namespace Go.Proofs.YtegjnjmimfgijaaGreatDoor
open Go Go.RowKit
def hpOf (conts : List (List Value)) : Tr AObj := putObjs 0 (conts.map fun l => some (.cells l true)) .e
theorem hpOf_get (conts : List (List Value)) (i : Nat) : (hpOf conts).get i = (conts[i]?).map fun l => .cells l true := by
 unfold hpOf
 rw [putObjs_get]
 simp only [Nat.zero_le, true_and, List.length_map, Nat.zero_add, Nat.sub_zero, List.getElem?_map]
 by_cases h : i < conts.length
 ·rw [if_pos h, List.getElem?_eq_getElem h]; rfl
 ·rw [if_neg h, List.getElem?_eq_none (by omega)]; exact Tr.get_e i
def outs (hp : Tr AObj) : Nat → Nat → Option (List (List Value))
 | _, 0 => some []
 | i, n + 1 => match hp.get i with
  | some (.cells l true) => match outs hp (i + 1) n with
   | some ls => some (l :: ls)
   | none => none
  | _ => none
theorem outs_get {hp : Tr AObj} : ∀ {n i : Nat} {ls : List (List Value)}, outs hp i n = some ls → ls.length = n ∧ ∀ (j : Nat) (l : List Value), ls[j]? = some l → hp.get (i + j) = some (.cells l true)
 | 0, i, ls, h => by simp only [outs] at h; cases h; exact ⟨rfl, fun j l hj => by simp at hj⟩
 | n + 1, i, ls, h => by
  simp only [outs] at h
  split at h
  case h_2 => cases h
  rename_i l hl
  split at h
  case h_2 => cases h
  rename_i ls0 h0
  cases h
  obtain ⟨g1, g2⟩ := outs_get h0
  refine ⟨by simp [g1], fun j x hx => ?_⟩
  cases j with
  | zero => simp at hx; subst hx; exact hl
  | succ j => rw [show i + (j + 1) = i + 1 + j by omega]; exact g2 j x (by simpa using hx)
def putConts : List (Nat × Bool) → List (List Value) → Tr AObj → Tr AObj
 | (b, _) :: l, c :: cs, hp => putConts l cs (hp.put b (some (.cells c true)))
 | _, _, hp => hp
theorem putConts_get : ∀ {l : List (Nat × Bool)} {cs : List (List Value)} {hp : Tr AObj}, nodupB l = true → cs.length = l.length → ∀ b, (∀ (i : Nat) (k : Bool) (c : List Value), l[i]? = some (b, k) → cs[i]? = some c → (putConts l cs hp).get b = some (.cells c true)) ∧ (memB b l = false → (putConts l cs hp).get b = hp.get b)
 | [], cs, hp, _, hl, b => by
  cases cs with
  | nil => exact ⟨fun i k c hi => by simp at hi, fun _ => rfl⟩
  | cons c cs => simp at hl
 | (x, k0) :: l, [], hp, _, hl, b => by simp at hl
 | (x, k0) :: l, c :: cs, hp, hn, hl, b => by
  simp only [nodupB] at hn
  cases hm : memB x l with
  | true => rw [hm] at hn; cases hn
  | false =>
   rw [hm, cond_false] at hn
   obtain ⟨g1, g2⟩ := putConts_get (hp := hp.put x (some (.cells c true))) hn (by simpa using hl) b
   simp only [putConts]
   refine ⟨fun i k c' hi hc => ?_, fun hb => ?_⟩
   ·cases i with
    | zero =>
     simp at hi hc
     obtain ⟨rfl, rfl⟩ := hi
     subst hc
     rw [g2 hm, Tr.get_put, if_pos rfl]
    | succ i => exact g1 i k c' (by simpa using hi) (by simpa using hc)
   ·simp only [memB] at hb
    cases hx : x.beq b with
    | true => rw [hx] at hb; cases hb
    | false =>
     rw [hx, cond_false] at hb
     rw [g2 hb, Tr.get_put, if_neg (fun e => by subst e; simp at hx)]
theorem addB_mem {b b' : Nat} {k k' : Bool} {l : List (Nat × Bool)} (h : (b', k') ∈ addB b k l) : (b', k') ∈ l ∨ b' = b := by
 unfold addB at h
 cases hm : memB b l with
 | true => rw [hm] at h; exact .inl h
 | false =>
  rw [hm, cond_false] at h
  rcases List.mem_append.1 h with h | h
  ·exact .inl h
  ·simp at h; exact .inr h.1
theorem scan0_placed {ρ : Place} : ∀ {args args' : List Value} {l : List (Nat × Bool)}, VRL ρ args args' → (∀ p ∈ l, ∃ x, ρ.pl p.1 = some x) → ∀ p ∈ args.foldl scan0 l, ∃ x, ρ.pl p.1 = some x
 | [], _, l, _, hl, p, hp => hl p hp
 | v :: vs, _, l, h, hl, p, hp => by
  cases h with
  | cons hv hvs =>
   refine scan0_placed hvs (fun q hq => ?_) p hp
   obtain ⟨b', k'⟩ := q
   cases hv <;> try exact hl _ hq
   case ptr hb =>
    rcases addB_mem hq with hq | rfl
    ·exact hl _ hq
    ·exact ⟨_, hb⟩
   case slice hb _ _ =>
    rcases addB_mem hq with hq | rfl
    ·exact hl _ hq
    ·exact ⟨_, hb⟩
   case emptySlice hb =>
    rcases addB_mem hq with hq | rfl
    ·exact hl _ hq
    ·exact ⟨_, hb⟩
   case iface ht =>
    cases ht <;> try exact hl _ hq
    case ptr hb =>
     rcases addB_mem hq with hq | rfl
     ·exact hl _ hq
     ·exact ⟨_, hb⟩
theorem memB_mem {b : Nat} : ∀ {l : List (Nat × Bool)}, memB b l = true → ∃ (i : Nat) (k : Bool), l[i]? = some (b, k)
 | [], h => by cases h
 | x :: l, h => by
  simp only [memB] at h
  cases hx : x.1.beq b with
  | true => exact ⟨0, x.2, by simp [← Nat.eq_of_beq_eq_true hx]⟩
  | false =>
   rw [hx, cond_false] at h
   obtain ⟨i, k, hi⟩ := memB_mem h
   exact ⟨i + 1, k, by simpa using hi⟩
end Go.Proofs.YtegjnjmimfgijaaGreatDoor

noncomputable section
namespace Go.Proofs.YtegjnjmimfgijaaGreatDoor
open Go Go.RowKit
def finF (P : Program) (fn : Func) (Post : List Value → Nat → Nat → Prop) (st : AS) : Prop :=
 match ares P st.hp st.tm fn with
 | some (.slice (some ⟨b, o, none⟩) n sz) => match st.hp.get b with
  | some (.cells l true) => (o + n * sz = l.length ∧ NLs (l.drop o)) ∧ Post (l.drop o) n sz
  | _ => False
 | _ => False
def PureF (P : Program) (f : FuncId) (args : List Value) (Post : List Value → Nat → Nat → Prop) : Prop :=
 ∀ (W : Base) ρ w args', Rel ρ W .e 0 w → VRL ρ args args' → Calls P f args'.toArray w fun e w' => ∃ b o n sz l hp' nx' v' ρ', Post (l.drop o) n sz ∧ e = .returned v' ∧ VR ρ' (.slice (some ⟨b, o, none⟩) n sz) v' ∧ hp'.get b = some (.cells l true) ∧ o + n * sz = l.length ∧ NLs (l.drop o) ∧ Rel ρ' W hp' nx' w' ∧ StepG 0 ρ ρ'
def FinQF (P : Program) (fn : Func) (W : Base) (ρ : Place) (Post : List Value → Nat → Nat → Prop) (e : Exit) (a : Act) (w : World) : Prop :=
 bodyPost P fn (fun e w' => ∃ b o n sz l hp' nx' v' ρ', Post (l.drop o) n sz ∧ e = .returned v' ∧ VR ρ' (.slice (some ⟨b, o, none⟩) n sz) v' ∧ hp'.get b = some (.cells l true) ∧ o + n * sz = l.length ∧ NLs (l.drop o) ∧ Rel ρ' W hp' nx' w' ∧ StepG 0 ρ ρ') e a w
theorem finF_ok {P : Program} {fn : Func} {n : Nat} {Post : List Value → Nat → Nat → Prop} {st : AS} (h : finF P fn Post st) {W : Base} (hd : W.ds = []) {ρ0 ρ : Place} {a : Act} {w : World} (hs : SRel ρ W n st a w) (hr : StepG 0 ρ0 ρ) :
  FinQF P fn W ρ0 Post .normal a w ∧ FinQF P fn W ρ0 Post .ret a w := by
 unfold finF at h
 split at h
 case h_2 => exact h.elim
 rename_i b o m sz hv
 split at h
 case h_2 => exact h.elim
 rename_i l hl
 obtain ⟨v', r1, r2⟩ := ares_sound hs.rel hs.frame hv
 have : ∃ b o n sz l hp' nx' v'' ρ', Post (l.drop o) n sz ∧ Ending.returned v' = .returned v'' ∧ VR ρ' (.slice (some ⟨b, o, none⟩) n sz) v'' ∧ hp'.get b = some (.cells l true) ∧ o + n * sz = l.length ∧ NLs (l.drop o) ∧ Rel ρ' W hp' nx' w ∧ StepG 0 ρ0 ρ' :=
  ⟨b, o, m, sz, l, st.hp, st.nx, v', ρ, h.2, rfl, r2, hl, h.1.1, h.1.2, hs.rel, hr⟩
 exact ⟨⟨hs.frame.defers.trans hd, v', r1, this⟩, ⟨hs.frame.defers.trans hd, v', r1, this⟩⟩
def vcF (P : Program) (vc : VCall) (f : FuncId) (lt : List (Nat × List Nat)) (args : List Value) (H : Code → List Fr → AS → Prop) (Post : List Value → Nat → Nat → Prop) : Prop :=
 vrun P vc (slotsN args (fnAt P f)) lt [] H (finF P (fnAt P f) Post) 3000 (.code (codeOf (fnAt P f))) [] ⟨putArgs 0 args .e, .e, 0⟩
def vcLF (P : Program) (vc : VCall) (f : FuncId) (na : List Value) (lt : List (Nat × List Nat)) (r : Nat) (st : AS) (H : Code → List Fr → AS → Prop) (Post : List Value → Nat → Nat → Prop) : Prop :=
 vrun P vc (slotsN na (fnAt P f)) lt [] H (finF P (fnAt P f) Post) 3000 (.code (lpC P f r)) (.loop (lpC P f r) :: lpK P f r) st
def OkF (P : Program) (f : FuncId) (na : List Value) (Post : List Value → Nat → Nat → Prop) : Code → List Fr → AS → Prop :=
 Good P (slotsN na (fnAt P f)) [] (finF P (fnAt P f) Post)
theorem pure_F {P : Program} {vc : VCall} (hcall : VCallOk P vc) (hm : P.follows .mixedOrders = true) {f : FuncId} (hf : (P.funcs[f]?).isSome = true) (hc : (fnAt P f).body.isSome = true) (lt : List (Nat × List Nat)) {args : List Value} {Post : List Value → Nat → Nat → Prop}
  {X : Prop} (e : vcF P vc f lt args (OkF P f args Post) Post = X) (h : X) : PureF P f args Post := by
 have hf' : P.funcs[f]? = some (fnAt P f) := by
  unfold fnAt
  cases hx : P.funcs[f]? with
  | none => rw [hx] at hf; cases hf
  | some x => rfl
 have hc' : (fnAt P f).body = some (codeOf (fnAt P f)) := by
  unfold codeOf
  cases hx : (fnAt P f).body with
  | none => rw [hx] at hc; cases hc
  | some x => rfl
 have h' := Eq.mpr e h
 intro W ρ w args' hrel hargs
 suffices hb : Calls P f args'.toArray w fun e w' => ∃ b o n sz l hp' nx' v' ρ', Post (l.drop o) n sz ∧ e = .returned v' ∧ VR ρ' (.slice (some ⟨b, o, none⟩) n sz) v' ∧ hp'.get b = some (.cells l true) ∧ o + n * sz = l.length ∧ NLs (l.drop o) ∧ Rel ρ' W.bare hp' nx' w' ∧ StepG 0 ρ ρ' from
  hb.mono fun e w' ⟨b, o, n, sz, l, hp', nx', v', ρ', g1, g2, g3, g4, g5, g6, g7, g8⟩ => ⟨b, o, n, sz, l, hp', nx', v', ρ', g1, g2, g3, g4, g5, g6, g7.unbare, g8⟩
 refine calls_of_wp hf' hc' ?_
 exact vrun_sound (R := fun ρ' _ => StepG 0 ρ ρ') (Q := FinQF P (fnAt P f) W.bare ρ Post) hcall hm (fun _ _ _ _ h k => h.step k)
  (fun b k st h ρ' a w hs hr => good_vloop (base := []) h W.bare ρ _ (fun st hst ρ' a w hs hr => finF_ok hst rfl hs hr) ρ' a w hs hr) (fun st hst ρ' a w hs hr => finF_ok hst rfl hs hr) 3000 _ [] _ h' ρ _ w (start_rel rfl hrel.bare hargs (fnAt P f)) (.refl _ _)
theorem ok_F {P : Program} {vc : VCall} (hcall : VCallOk P vc) (hm : P.follows .mixedOrders = true) {f : FuncId} {na : List Value} (lt : List (Nat × List Nat)) {r : Nat} {st : AS} {Post : List Value → Nat → Nat → Prop}
  {X : Prop} (e : vcLF P vc f na lt r st (OkF P f na Post) Post = X) (h : X) : OkF P f na Post (lpC P f r) (lpK P f r) st := good_round hcall hm 3000 (Eq.mpr e h)
structure FEnt where
 f : FuncId
 c : List Value → (List Value → Nat → Nat → Prop) → Prop
def FEntOk (P : Program) (e : FEnt) : Prop := ∀ args Post, e.c args Post → PureF P e.f args Post
def fentOf (f : FuncId) : List FEnt → Option FEnt
 | [] => none
 | e :: l => bif e.f.beq f then some e else fentOf f l
theorem fentOf_mem {f : FuncId} {e : FEnt} : ∀ {l : List FEnt}, fentOf f l = some e → e ∈ l ∧ e.f = f
 | [], h => by simp [fentOf] at h
 | x :: l, h => by
  simp only [fentOf] at h
  cases hx : x.f.beq f with
  | true => rw [hx] at h; cases h; exact ⟨by simp, Nat.eq_of_beq_eq_true hx⟩
  | false => rw [hx, cond_false] at h; exact ⟨by simp [(fentOf_mem h).1], (fentOf_mem h).2⟩
def ftabCall (tab : List FEnt) (next : VCall) : VCall := fun f args hp nx K =>
 match fentOf f tab with
 | some e => bif args.all nl then e.c args fun l n sz => K (.slice (some ⟨nx, 0, none⟩) n sz) true (hp.put nx (some (.cells l true))) (nx + 1) else False
 | none => next f args hp nx K
theorem ftabCall_ok {P : Program} {tab : List FEnt} {next : VCall} (ht : ∀ e ∈ tab, FEntOk P e) (hnx : VCallOk P next) : VCallOk P (ftabCall tab next) := by
 intro f args hp nx K h W ρ w args' hrel hargs
 unfold ftabCall at h
 split at h
 case h_2 => exact hnx f args hp nx K h W ρ w args' hrel hargs
 rename_i e he
 obtain ⟨h1, rfl⟩ := fentOf_mem he
 cases ha : args.all nl with
 | false => rw [ha] at h; exact h.elim
 | true =>
  rw [ha, cond_true] at h
  have hargs1 : VRL ⟨fun _ => none, ρ.fr, ρ.gl⟩ args args' := .of hargs.len fun i v v' a b => by
   have h0 : VR0 ρ.fr v v' := nl_sound (List.all_eq_true.1 ha v (List.mem_of_getElem? a)) (hargs.get a b)
   exact VR0.lift (ρ := ⟨fun _ => none, ρ.fr, ρ.gl⟩) h0
  have hrel1 : Rel ⟨fun _ => none, ρ.fr, ρ.gl⟩ ⟨w, fun _ => False, ρ.fr, []⟩ .e 0 w := ⟨fun b x hb => (by cases hb), fun b o c s z ho => (by cases ho), fun b b' x x' o o' ho => (by cases ho), fun b _ => rfl, ⟨rfl, rfl, rfl, Nat.le_refl _, fun _ _ => rfl⟩, hrel.frz, fun b o c s z ho => (by cases ho), fun c ob hc => .inl hc⟩
  refine (ht e h1 args _ h ⟨w, fun _ => False, ρ.fr, []⟩ _ w args' hrel1 hargs1).mono ?_
  rintro e' w' ⟨b, o, n, sz, l, hp', nx', v', ρ1, hP, rfl, hv, hb, hlen, hnl, hr, hg⟩
  have old : ∀ c, c < w.heap.size → w'.heap[c]? = w.heap[c]? := fun c hc => hr.below.block c ⟨hc, fun h => h⟩
  have hsz : w.heap.size ≤ w'.heap.size := hr.below.size
  have lt : ∀ {c : Nat} {ob : Obj}, w.heap[c]? = some ob → c < w.heap.size := fun {c ob} hc => by
   rcases Nat.lt_or_ge c w.heap.size with h' | h'
   ·exact h'
   ·rw [Array.getElem?_eq_none h'] at hc; cases hc
  -- the new block
  have hplace : ∃ c s z, ρ1.pl b = some (c, s, z) := by
   cases hv with
   | slice hx _ _ => exact ⟨_, _, _, hx⟩
   | emptySlice a' hx => exact ⟨_, _, _, hx⟩
  obtain ⟨c, s, z, hx⟩ := hplace
  obtain ⟨ob, e1, e2⟩ := hr.obj b _ c s z hb hx
  cases ob <;> try exact e2.elim
  rename_i cs ct fz
  obtain ⟨k1, k2, k3, k4, k5⟩ := e2
  have hc0 : w.heap.size ≤ c := by
   rcases Nat.lt_or_ge c w.heap.size with h' | h'
   ·exact absurd ⟨h', fun h => h⟩ (k5 rfl)
   ·exact h'
  have hcl : c < w'.heap.size := (hr.dom b _ hx).2
  have hno : ρ.pl nx = none := hrel.dom_none
  let ρ' : Place := ⟨fun k => if k = nx then some (c, s + o, z) else ρ.pl k, ρ1.fr, ρ1.gl⟩
  have hle : ρ.le ρ' := ⟨fun k x hk => by
   show (if k = nx then _ else _) = _
   rw [if_neg (by intro e; rw [e, hno] at hk; cases hk)]
   exact hk, fun c x hc => hg.2 c x hc⟩
  have pl_nx : ρ'.pl nx = some (c, s + o, z) := by show (if nx = nx then _ else _) = _; rw [if_pos rfl]
  have pl_other : ∀ k, k ≠ nx → ρ'.pl k = ρ.pl k := fun k hk => by show (if k = nx then _ else _) = _; rw [if_neg hk]
  have hdl : (l.drop o).length = n * sz := by rw [List.length_drop]; omega
  have hval : VR ρ' (.slice (some ⟨nx, 0, none⟩) n sz) v' := by
   cases hv with
   | @slice _ _ _ _ c2 s2 z2 cap hx2 q1 q2 =>
    rw [hx] at hx2
    cases hx2
    exact VR.slice (ρ := ρ') (s := s + o) (o := 0) pl_nx q1 (by omega)
   | emptySlice a' hx2 => exact VR.emptySlice (ρ := ρ') a' pl_nx
  have hget : ∀ k, k ≠ nx → (hp.put nx (some (.cells (l.drop o) true))).get k = hp.get k := fun k hk => by rw [Tr.get_put, if_neg hk]
  have hgetn : (hp.put nx (some (.cells (l.drop o) true))).get nx = some (.cells (l.drop o) true) := by rw [Tr.get_put, if_pos rfl]
  refine ⟨_, true, _, _, v', ρ', hP, fun e => (by cases e), rfl, hval, ?_, ⟨hle, Nat.le_succ _, fun k hk hn => ⟨by rw [pl_other k (by omega)]; exact hn, hget k (by omega)⟩⟩⟩
  refine ⟨fun k x hk => ?_, fun k o' c' s' z' ho hk => ?_, fun k k' x x' o1 o2 g1 g2 hk hk' hxx => ?_, fun k hk => ?_, ⟨hr.below.os.trans hrel.below.os, hr.below.tape.trans hrel.below.tape, hr.below.output.trans hrel.below.output, Nat.le_trans hrel.below.size hsz, fun k hk => ?_⟩, hr.frz, fun k o' c' s' z' ho hw hk => ?_, fun c' ob hc => ?_⟩
  ·by_cases e : k = nx
   ·subst e
    rw [pl_nx] at hk
    cases hk
    exact ⟨by omega, hcl⟩
   ·rw [pl_other k e] at hk
    exact ⟨by have := (hrel.dom k x hk).1; omega, Nat.lt_of_lt_of_le (hrel.dom k x hk).2 hsz⟩
  ·by_cases e : k = nx
   ·subst e
    rw [hgetn] at ho
    cases ho
    rw [pl_nx] at hk
    cases hk
    refine ⟨.cells cs ct fz, e1, k1, ?_, k3, fun j v hj => ?_, fun _ ho => ?_⟩
    ·rw [hdl]; omega
    ·have hj2 := hj
     rw [List.getElem?_drop] at hj
     obtain ⟨u, q1, q2⟩ := k4 _ v hj
     have h0 : VR0 ρ1.fr v u := nl1_sound (hnl v (List.mem_of_getElem? hj2)) q2
     exact ⟨u, by rw [show s + o + j = s + (o + j) by omega]; exact q1, VR0.lift (ρ := ρ') h0⟩
    ·have := hrel.below.size
     have := ho.1
     omega
   ·rw [hget k e] at ho
    rw [pl_other k e] at hk
    obtain ⟨ob, q1, q2⟩ := hrel.obj k o' c' s' z' ho hk
    exact ⟨ob, by rw [old c' (lt q1)]; exact q1, q2.mono hle⟩
  ·by_cases e : k = nx
   ·by_cases e' : k' = nx
    ·rw [e, e']
    ·subst e
     rw [pl_nx] at hk
     cases hk
     rw [pl_other k' e'] at hk'
     have := (hrel.dom k' x' hk').2
     simp only at hxx
     omega
   ·by_cases e' : k' = nx
    ·subst e'
     rw [pl_nx] at hk'
     cases hk'
     rw [pl_other k e] at hk
     have := (hrel.dom k x hk).2
     simp only at hxx
     omega
    ·rw [hget k e] at g1
     rw [hget k' e'] at g2
     rw [pl_other k e] at hk
     rw [pl_other k' e'] at hk'
     exact hrel.inj k k' x x' o1 o2 g1 g2 hk hk' hxx
  ·rw [hget k (by omega)]
   exact hrel.fresh k (by omega)
  ·rw [old k (Nat.lt_of_lt_of_le hk.1 hrel.below.size)]
   exact hrel.below.block k hk
  ·show ρ1.fr c' = none
   by_cases e : k = nx
   ·subst e
    rw [pl_nx] at hk
    cases hk
    exact hr.apart b _ c s z hb rfl hx
   ·rw [hget k e] at ho
    rw [pl_other k e] at hk
    cases hcf : ρ1.fr c' with
    | none => rfl
    | some ob =>
     have hcl' := (hrel.dom k _ hk).2
     rcases hr.frn c' ob hcf with q | q
     ·have h2 : ρ.fr c' = some ob := q
      rw [hrel.apart k o' c' s' z' ho hw hk] at h2
      cases h2
     ·exact absurd ⟨hcl', fun h => h⟩ q
  ·rcases hr.frn c' ob hc with q | q
   ·exact hrel.frn c' ob q
   ·refine .inr fun h2 => q ⟨Nat.lt_of_lt_of_le h2.1 hrel.below.size, fun h => h⟩
end Go.Proofs.YtegjnjmimfgijaaGreatDoor

noncomputable section
namespace Go.Proofs.YtegjnjmimfgijaaGreatDoor
open Go Go.RowKit
theorem Rel.later {ρ : Place} {W : Base} {hp : Tr AObj} {nx : Nat} {w w' : World} (h : Rel ρ W hp nx w) (hb : Below w.heap.size w w') : Rel ρ W hp nx w' := by
 have lt : ∀ {c : Nat} {ob : Obj}, w.heap[c]? = some ob → c < w.heap.size := fun {c ob} hc => by
  rcases Nat.lt_or_ge c w.heap.size with h' | h'
  ·exact h'
  ·rw [Array.getElem?_eq_none h'] at hc; cases hc
 refine ⟨fun b x hx => ⟨(h.dom b x hx).1, Nat.lt_of_lt_of_le (h.dom b x hx).2 hb.size⟩, fun b o c s z ho hx => ?_, h.inj, h.fresh, ⟨hb.os.trans h.below.os, hb.tape.trans h.below.tape, hb.output.trans h.below.output, Nat.le_trans h.below.size hb.size, fun k hk => ?_⟩, fun c ob hc => ?_, h.apart, h.frn⟩
 ·obtain ⟨ob, e1, e2⟩ := h.obj b o c s z ho hx
  exact ⟨ob, by rw [hb.block c (lt e1)]; exact e1, e2⟩
 ·rw [hb.block k (Nat.lt_of_lt_of_le hk.1 h.below.size)]
  exact h.below.block k hk
 ·have := h.frz c ob hc
  rw [hb.block c (lt this)]
  exact this
def tabCallF (P : Program) (tab : List Ent) (next : VCall) : VCall := fun f args hp nx K =>
 match entOf f tab with
 | some e => match P.funcs[f]? with
  | some fn => match frzTs P 0 fn.params.toList args hp with
   | some (us, hp', ob) => bif us.all nl then ob ∧ e.c us fun v => Bool.rec (motive := fun _ => Prop) (K v true hp' nx) (K v false hp nx) (closed v) else False
   | none => False
  | none => False
 | none => next f args hp nx K
theorem tabCallF_ok {P : Program} {tab : List Ent} {next : VCall} (ht : ∀ e ∈ tab, EntOk P e) (hnx : VCallOk P next) : VCallOk P (tabCallF P tab next) := by
 intro f args hp nx K h W ρ w args' hrel hargs
 unfold tabCallF at h
 split at h
 case h_2 => exact hnx f args hp nx K h W ρ w args' hrel hargs
 rename_i e he
 obtain ⟨h1, rfl⟩ := entOf_mem he
 split at h
 case h_2 => exact h.elim
 split at h
 case h_2 => exact h.elim
 rename_i us hp' ob hf
 cases ha : us.all nl with
 | false => rw [ha] at h; exact h.elim
 | true =>
  rw [ha, cond_true] at h
  obtain ⟨hob, hc⟩ := h
  obtain ⟨ρ1, g1, g2, g3, g4⟩ := frzTs_sound hrel hargs hf hob
  have hargs1 : VRL ρ1 us args' := .of g3 fun i v v' a b => VR0.lift (g4 i v v' a b)
  refine ((ht e h1 us _ hc).call ha g1 hargs1).mono ?_
  rintro e' w' ⟨v, v', ρ2, hK, rfl, q1, q2, q3, q4, q5⟩
  cases hcl : closed v with
  | true =>
   rw [hcl] at hK
   have e : v' = v := closed_eq hcl q1
   exact ⟨v, false, hp, nx, v', ρ, hK, fun _ => rfl, rfl, by rw [e]; exact closed_refl hcl, hrel.later q5, .refl _ _ _⟩
  | false =>
   rw [hcl] at hK
   exact ⟨v, true, hp', nx, v', ρ2, hK, fun e => (by cases e), rfl, q1, q3, g2.trans q4⟩
end Go.Proofs.YtegjnjmimfgijaaGreatDoor

noncomputable section
namespace Go.Proofs.YtegjnjmimfgijaaGreatDoor
open Go Go.RowKit
inductive Out where
 | ret (v : Value)
 | pan (v : Value)
abbrev PCall := FuncId → List Value → Tr AObj → Nat → (Out → Tr AObj → Nat → Prop) → Prop
def Out.Ends (ρ : Place) (r : Out) (e : Ending) : Prop :=
 match r with
 | .ret v => ∃ v', e = .returned v' ∧ VR ρ v v'
 | .pan v => ∃ v', e = .panicked [{ v := v', recovered := false }] ∧ VR ρ v v'
def PCallOk (P : Program) (pc : PCall) : Prop :=
 ∀ f args hp nx K, pc f args hp nx K → ∀ (W : Base) ρ w args', Rel ρ W hp nx w → VRL ρ args args' →
  Calls P f args'.toArray w fun e w' => ∃ r hp' nx' ρ', K r hp' nx' ∧ r.Ends ρ' e ∧ Rel ρ' W hp' nx' w' ∧ Step ρ ρ' hp hp' nx nx'
def ofV (vc : VCall) : PCall := fun f args hp nx K => vc f args hp nx fun v _ hp' nx' => K (.ret v) hp' nx'
def onRet (K : Value → Bool → Tr AObj → Nat → Prop) (r : Out) (hp : Tr AObj) (nx : Nat) : Prop :=
 match r with
 | .ret v => K v true hp nx
 | .pan _ => False
def toV (pc : PCall) : VCall := fun f args hp nx K => pc f args hp nx (onRet K)
theorem ofV_ok {P : Program} {vc : VCall} (h : VCallOk P vc) : PCallOk P (ofV vc) := fun f args hp nx K hs W ρ w args' hr ha =>
 (h f args hp nx _ hs W ρ w args' hr ha).mono fun _ _ ⟨v, _, hp', nx', v', ρ', k, _, e, g1, g2, g3⟩ => ⟨.ret v, hp', nx', ρ', k, ⟨v', e, g1⟩, g2, g3⟩
theorem toV_ok {P : Program} {pc : PCall} (h : PCallOk P pc) : VCallOk P (toV pc) := fun f args hp nx K hs W ρ w args' hr ha =>
 (h f args hp nx _ hs W ρ w args' hr ha).mono fun _ _ ⟨r, hp', nx', ρ', k, e, g2, g3⟩ => by
  cases r with
  | ret v => obtain ⟨v', e, g1⟩ := e; exact ⟨v, true, hp', nx', v', ρ', k, fun e => (by cases e), e, g1, g2, g3⟩
  | pan v => exact k.elim
def pheavy (P : Program) (pc : PCall) (hp : Tr AObj) (nx : Nat) (o : Oper) (ev : Operand → Option Value) (K : Out → Tr AObj → Nat → Prop) : Prop :=
 match o.op with
 | .panic x => match ev x with
  | some (.iface t v) => K (.pan (.iface t v)) hp nx
  | _ => False
 | .call c => match c.callee with
  | .value f => match ev f, evL ev c.args.toList with
   | some (.func (.func k) first captured), some args => bif enters P k then pc k (first.toList ++ args ++ captured.toList) hp nx K else False
   | _, _ => False
  | .invoke x name => match ev x, evL ev c.args.toList with
   | some (.iface t v), some args => match aMethod P t name with
    | some k => bif enters P k then pc k (v :: args) hp nx K else False
    | none => False
   | _, _ => False
  | .builtin .panic => match c.args.toList with
   | [x] => match ev x with
    | some (.iface t v) => K (.pan (.iface t v)) hp nx
    | _ => False
   | _ => False
  | _ => vheavy P (toV pc) hp nx o ev fun v _ hp' nx' => K (.ret v) hp' nx'
 | _ => vheavy P (toV pc) hp nx o ev fun v _ hp' nx' => K (.ret v) hp' nx'
theorem pheavy_sound {P : Program} {pc : PCall} {ρ : Place} {W : Base} (hcall : PCallOk P pc) {hp : Tr AObj} {nx : Nat} {w : World} (h : Rel ρ W hp nx w) {ev : Operand → Option Value} {a : Act} (hF : ERel ρ ev a) {o : Oper} {K : Out → Tr AObj → Nat → Prop}
  (hs : pheavy P pc hp nx o ev K) {next : Act → World → Prop} {Q : Exit → Act → World → Prop}
  (hk : ∀ v hp' nx' v' w' ρ', K (.ret v) hp' nx' → VR ρ' v v' → Rel ρ' W hp' nx' w' → Step ρ ρ' hp hp' nx nx' → next (a.put o.dst v') w')
  (hq : ∀ v hp' nx' v' w' ρ', K (.pan v) hp' nx' → VR ρ' v v' → Rel ρ' W hp' nx' w' → Step ρ ρ' hp hp' nx nx' → Q (.panic [{ v := v', recovered := false }]) a w') : o.wp P a w next Q := by
 have base : (vheavy P (toV pc) hp nx o ev fun v _ hp' nx' => K (.ret v) hp' nx') → o.wp P a w next Q := fun hb =>
  vheavy_sound (toV_ok hcall) h hF hb fun v _ hp' nx' v' w' ρ' k _ g1 g2 g3 => hk v hp' nx' v' w' ρ' k g1 g2 g3
 have ends : ∀ (k : FuncId) (args args' : List Value), pc k args hp nx K → VRL ρ args args' → (execOp a.eval o).run P w = .ok (.enter k args'.toArray) w → o.wp P a w next Q := by
  intro k args args' hc hA hrun
  unfold Oper.wp
  rw [hrun]
  refine (hcall k args hp nx K hc W ρ w _ h hA).mono ?_
  rintro e w' ⟨r, hp', nx', ρ', hK, he, g2, g3⟩
  cases r with
  | ret v => obtain ⟨v', rfl, g1⟩ := he; exact hk v hp' nx' v' w' ρ' hK g1 g2 g3
  | pan v => obtain ⟨v', rfl, g1⟩ := he; exact hq v hp' nx' v' w' ρ' hK g1 g2 g3
 have pans : ∀ (t : TypeId) (u : Value) (X : Value), VR ρ (.iface t u) X → K (.pan (.iface t u)) hp nx → (execOp a.eval o).run P w = ((Instr.panic X) >>= fun r => pure (Next.value r)).run P w → o.wp P a w next Q := by
  intro t u X hX hK hrun
  unfold Oper.wp
  rw [hrun]
  cases hX with
  | iface _ hu => exact hq _ _ _ _ _ ρ hK (.iface t hu) h (.refl _ _ _)
 obtain ⟨dst, op, type, pos, after, guard⟩ := o
 unfold pheavy at hs
 cases op <;> dsimp only at hs <;> try exact base hs
 case panic x =>
  split at hs
  case h_2 => exact hs.elim
  rename_i t u hx
  exact pans t u _ (hF.eval hx) hs rfl
 case call c =>
  obtain ⟨callee, args, argTypes⟩ := c
  dsimp only at hs
  split at hs
  ·rename_i f
   split at hs
   case h_2 => exact hs.elim
   rename_i k first captured as0 hf has
   cases he : enters P k with
   | false => rw [he] at hs; exact hs.elim
   | true =>
    rw [he, cond_true] at hs
    have hfv := hF.eval hf
    generalize hE : a.eval f = E at hfv
    cases hfv
    rename_i first' captured' s1 v1 s2 v2
    have hA := evL_sound hF has
    have hL := ((VRA.list ⟨s1, v1⟩).append hA).append (VRA.list ⟨s2, v2⟩)
    refine ends k _ _ hs hL ?_
    have e2 : (first'.toList ++ args.toList.map a.eval ++ captured'.toList).toArray = first' ++ args.map a.eval ++ captured' := by apply Array.ext'; simp
    rw [e2]
    unfold execOp
    simp only [resolve, hE]
    show (callFunc k (first' ++ args.map a.eval ++ captured')).run P w = _
    exact pureRun_run (enters_run he _) w
  ·rename_i x name
   split at hs
   case h_2 => exact hs.elim
   rename_i t v as0 hx has
   split at hs
   case h_2 => exact hs.elim
   rename_i k hm
   cases he : enters P k with
   | false => rw [he] at hs; exact hs.elim
   | true =>
    rw [he, cond_true] at hs
    have hxv := hF.eval hx
    have hA := evL_sound hF has
    generalize hE : a.eval x = E at hxv
    cases hxv with
    | @iface _ _ v' hv =>
     refine ends k (v :: as0) (v' :: args.toList.map a.eval) hs (.cons hv hA) ?_
     have hpos : ∃ j, P.types.size + Made.depth = j + 1 := ⟨P.types.size + Made.depth - 1, by (have : 0 < Made.depth := by decide); omega⟩
     obtain ⟨j, hj⟩ := hpos
     have e2 : (v' :: args.toList.map a.eval).toArray = #[v'] ++ args.map a.eval := by apply Array.ext'; simp
     have e3 : (#[Value.iface t v'] ++ args.map a.eval).extract 1 (#[Value.iface t v'] ++ args.map a.eval).size = args.map a.eval := by
      apply Array.ext'
      simp
      exact List.take_of_length_le (by simp)
     have e0 : (#[Value.iface t v'] ++ args.map a.eval)[0]? = some (.iface t v') := by rw [Array.getElem?_append_left (Nat.zero_lt_one)]; rfl
     rw [e2]
     unfold execOp
     simp only [resolve, hE]
     show (invoke (.fn (.method name) #[]) (#[Value.iface t v'] ++ args.map a.eval)).run P w = _
     unfold invoke
     dsimp only
     rw [e0]
     dsimp only
     rw [e3]
     unfold callMethod
     dsimp only
     have hprog : pureRun P program = some P := rfl
     rw [bind_run hprog]
     rw [hj]
     rw [bind_run (aMethod_run hm v' j)]
     exact pureRun_run (enters_run he _) w
  ·split at hs
   case h_2 => exact hs.elim
   rename_i x hargs
   split at hs
   case h_2 => exact hs.elim
   rename_i t u hx
   refine pans t u _ (hF.eval hx) hs ?_
   have : args = #[x] := by apply Array.ext'; simpa using hargs
   subst this
   have e1 : (#[x].map a.eval) = #[a.eval x] := by simp
   unfold execOp
   simp only [resolve, e1]
   rfl
  ·exact base hs
def isPan : Op → Bool
 | .panic _ => true
 | .call c => match c.callee with
  | .builtin .panic | .invoke _ _ => true
  | _ => false
 | _ => false
def vseqP (P : Program) (pc : PCall) (ops : Array Oper) (n : Nat) : List Oper → AS → (AS → Prop) → (Value → AS → Prop) → Prop
 | [], st, K, _ => K st
 | o :: l, st, K, X => vguard ops st.tm o
   (bif isHeavy o.op || isPan o.op then pheavy P pc st.hp st.nx o (aev st.tm) fun r hp' nx' => match r with
     | .ret v => vsplit v fun v => match aput n st.tm o.dst v with
      | some tm' => vseqP P pc ops n l ⟨tm', hp', nx'⟩ K X
      | none => False
     | .pan v => X v ⟨st.tm, hp', nx'⟩
    else match slight P st.hp o (aev st.tm) with
     | some (.val v, ob) => ob ∧ vsplit v fun v => match aput n st.tm o.dst v with
      | some tm' => vseqP P pc ops n l ⟨tm', st.hp, st.nx⟩ K X
      | none => False
     | some (.new b nv, ob) => match aput n st.tm o.dst (nv.val st.nx) with
      | some tm' => ob ∧ vseqP P pc ops n l ⟨tm', st.hp.put st.nx (some b), st.nx + 1⟩ K X
      | none => False
     | none => False)
   (match aput n st.tm o.dst undef with
    | some tm' => vseqP P pc ops n l ⟨tm', st.hp, st.nx⟩ K X
    | none => False)
theorem vseqP_sound {P : Program} {pc : PCall} {W : Base} (hcall : PCallOk P pc) {ops : Array Oper} {n : Nat} {Q : Exit → Act → World → Prop} : ∀ (l : List Oper) (k : Nat) (st : AS) (K : AS → Prop) (X : Value → AS → Prop) (ρ : Place) (a : Act) (w : World), ops.toList.drop k = l →
  SRel ρ W n st a w → vseqP P pc ops n l st K X → (∀ st', K st' → ∀ a' w' ρ', SRel ρ' W n st' a' w' → Step ρ ρ' st.hp st'.hp st.nx st'.nx → Q .normal a' w') →
  (∀ v st', X v st' → ∀ v' a' w' ρ', VR ρ' v v' → SRel ρ' W n st' a' w' → Step ρ ρ' st.hp st'.hp st.nx st'.nx → Q (.panic [{ v := v', recovered := false }]) a' w') → wpOps P ops Q (List.range' k l.length) a w
 | [], k, st, K, X, ρ, a, w, _, h, hs, hk, _ => by
  simp only [vseqP] at hs
  exact hk st hs a w ρ h (.refl _ _ _)
 | o :: l, k, st, K, X, ρ, a, w, hd, h, hs, hk, hx => by
  simp only [vseqP] at hs
  have hi : ops[k]? = some o := by
   have : (ops.toList.drop k)[0]? = some o := by rw [hd]; rfl
   rw [List.getElem?_drop] at this
   simpa using this
  have next : ∀ (st1 : AS) (a1 : Act) (w1 : World) (ρ1 : Place), SRel ρ1 W n st1 a1 w1 → Step ρ ρ1 st.hp st1.hp st.nx st1.nx → vseqP P pc ops n l st1 K X → wpOps P ops Q (List.range' (k + 1) l.length) a1 w1 :=
   fun st1 a1 w1 ρ1 hr hst hv => vseqP_sound hcall l (k + 1) st1 K X ρ1 a1 w1 (by rw [← List.drop_drop, hd]; rfl) hr hv (fun st' hK a' w' ρ' g1 g2 => hk st' hK a' w' ρ' g1 (hst.trans g2)) (fun v st' hX v' a' w' ρ' g0 g1 g2 => hx v st' hX v' a' w' ρ' g0 g1 (hst.trans g2))
  rw [List.length_cons, List.range'_succ, wpOps_cons]
  unfold wpOp
  simp only [hi]
  rcases vguard_cases hs with ⟨hw, hs⟩ | ⟨hw, hs⟩
  ·rw [awanted_sound h.frame hw, if_pos rfl]
   refine .inl ?_
   cases hh : isHeavy o.op || isPan o.op with
   | true =>
    rw [hh, cond_true] at hs
    refine pheavy_sound hcall h.rel h.frame.ev hs (fun v hp' nx' v' w' ρ' hK q1 q2 q3 => ?_) (fun v hp' nx' v' w' ρ' hK q1 q2 q3 => ?_)
    ·dsimp only at hK
     replace hK := vsplit_ap hK
     split at hK
     case h_2 => exact hK.elim
     rename_i tm' ht
     exact next ⟨tm', hp', nx'⟩ _ _ ρ' ⟨q2, aput_sound (h.frame.mono q3.le) ht q1⟩ q3 hK
    ·exact hx v _ hK v' a w' ρ' q1 ⟨q2, h.frame.mono q3.le⟩ q3
   | false =>
    rw [hh, cond_false] at hs
    split at hs
    ·rename_i v ob hv
     obtain ⟨hob, hs⟩ := hs
     replace hs := vsplit_ap hs
     split at hs
     case h_2 => exact hs.elim
     rename_i tm' ht
     obtain ⟨v', h1, h2⟩ := slight_sound (r := .val v) h.rel h.frame.ev hv hob
     unfold Oper.wp
     rw [h1]
     exact next ⟨tm', st.hp, st.nx⟩ _ _ ρ ⟨h.rel, aput_sound h.frame ht h2⟩ (.refl _ _ _) hs
    ·rename_i ob nv obp hv
     split at hs
     case h_2 => exact hs.elim
     rename_i tm' ht
     obtain ⟨v', ob', d, z, h1, h2, h3⟩ := slight_sound (r := .new ob nv) h.rel h.frame.ev hv hs.1
     unfold Oper.wp
     rw [h1]
     have hrel := ((h.rel.at_drawn d).reserve ob).realize (b := st.nx) (z := z) (ob := ob') (by omega) h.rel.dom_none (by rw [Tr.get_put, if_pos rfl]) (h2 _ h.rel.below.fresh)
     have hle := Place.le_set (x := (w.heap.size, 0, z)) h.rel.dom_none
     exact next ⟨tm', st.hp.put st.nx (some ob), st.nx + 1⟩ _ _ _ ⟨hrel, aput_sound (h.frame.mono hle) ht (h3 _ _ (Place.set_same ρ st.nx _))⟩ ⟨hle, Nat.le_succ _, fun b hb hr => ⟨by rw [Place.set_other (by omega)]; exact hr, by show (st.hp.put st.nx (some ob)).get b = _; rw [Tr.get_put, if_neg (by omega)]⟩⟩ hs.2
    ·exact hs.elim
  ·rw [awanted_sound h.frame hw, if_neg (by simp)]
   split at hs
   case h_2 => exact hs.elim
   rename_i tm' ht
   exact next ⟨tm', st.hp, st.nx⟩ _ _ ρ ⟨h.rel, aput_sound h.frame ht (closed_refl (by simp [undef, closed]))⟩ (.refl _ _ _) hs
theorem pheavy_congr {P : Program} {pc : PCall} {hp : Tr AObj} {nx : Nat} {o : Oper} {ev ev' : Operand → Option Value} {K : Out → Tr AObj → Nat → Prop} (h : ∀ x ∈ o.op.operands, ev x = ev' x) : pheavy P pc hp nx o ev K = pheavy P pc hp nx o ev' K := by
 have hb : (vheavy P (toV pc) hp nx o ev fun v _ hp' nx' => K (.ret v) hp' nx') = (vheavy P (toV pc) hp nx o ev' fun v _ hp' nx' => K (.ret v) hp' nx') := vheavy_congr h
 obtain ⟨dst, op, type, pos, after, guard⟩ := o
 unfold pheavy
 cases op <;> dsimp only <;> try exact hb
 case panic x => rw [h x (by simp [Op.operands])]
 case call c =>
  obtain ⟨callee, args, argTypes⟩ := c
  dsimp only
  have hA : evL ev args.toList = evL ev' args.toList := evL_congr fun x hx => h x (by simp [Op.operands, Call.operands]; exact .inr (by simpa using hx))
  split
  ·rename_i f
   rw [hA, h f (by simp [Op.operands, Call.operands])]
  ·rename_i x name
   rw [hA, h x (by simp [Op.operands, Call.operands])]
  ·split
   ·rename_i x hargs
    rw [h x (by
     have : x ∈ args := by (have : x ∈ args.toList := by rw [hargs]; simp); simpa using this
     simp [Op.operands, Call.operands, this])]
   ·rfl
  ·exact hb
def vdrawP (P : Program) (pc : PCall) (ops : Array Oper) (n : Nat) : Nat → Array Bool → AS → List Rd → (AS → Prop) → (Value → AS → Prop) → Prop
 | 0, listed, st, _, K, _ => match Region.ready .any ops listed with
  | [] => K st
  | _ => False
 | f + 1, listed, st, rds, K, X => match Region.ready .any ops listed with
  | [] => K st
  | r :: rs => match (r :: rs).find? (lightIdx ops) with
   | some i => match ops[i]? with
    | some o => vguard ops st.tm o
      (match slight P st.hp o (aev st.tm) with
      | some (.val v, ob) => ob ∧ vsplit v fun v => match aput n st.tm o.dst v with
       | some tm' => vdrawP P pc ops n f (listed.setIfInBounds i true) ⟨tm', st.hp, st.nx⟩ (bif isRead o (aev st.tm) then ⟨i, o, st.tm, v⟩ :: rds else rds) K X
       | none => False
      | some (.new b nv, ob) => match aput n st.tm o.dst (nv.val st.nx) with
       | some tm' => bif isRead o (aev st.tm) then False else ob ∧ vdrawP P pc ops n f (listed.setIfInBounds i true) ⟨tm', st.hp.put st.nx (some b), st.nx + 1⟩ rds K X
       | none => False
      | none => False)
      (match aput n st.tm o.dst undef with
      | some tm' => vdrawP P pc ops n f (listed.setIfInBounds i true) ⟨tm', st.hp, st.nx⟩ rds K X
      | none => False)
    | none => False
   | none => match rs with
    | [] => match ops[r]? with
     | some o => vguard ops st.tm o
       (pheavy P pc st.hp st.nx o (aev st.tm) fun res hp' nx' => match res with
        | .ret v => vsplit v fun v => match aput n st.tm o.dst v with
         | some tm' => vstab P hp' ops r rds ∧ vdrawP P pc ops n f (listed.setIfInBounds r true) ⟨tm', hp', nx'⟩ rds K X
         | none => False
        | .pan v => X v ⟨.e, hp', nx'⟩)
       (match aput n st.tm o.dst undef with
       | some tm' => vdrawP P pc ops n f (listed.setIfInBounds r true) ⟨tm', st.hp, st.nx⟩ rds K X
       | none => False)
     | none => False
    | _ => False
section
variable {P : Program} {W : Base} {ops : Array Oper} {n : Nat} {st0 : AS} {ρ0 : Place} {Q : Exit → Act → World → Prop}
theorem vdrawP_main {pc : PCall} (hcall : PCallOk P pc) (hD : drawOk ops = true) {K : AS → Prop} {X : Value → AS → Prop} (hQ : ∀ st, K st → ∀ a' w' ρ', SRel ρ' W n st a' w' → Step ρ0 ρ' st0.hp st.hp st0.nx st.nx → Q .normal a' w')
  (hX : ∀ v st, X v st → ∀ v' a' w' ρ', VR ρ' v v' → SRel ρ' W n st a' w' → Step ρ0 ρ' st0.hp st.hp st0.nx st.nx → Q (.panic [{ v := v', recovered := false }]) a' w') :
  ∀ (m f : Nat) (C : Array Bool) (st : AS) (rds : List Rd) (I : Info) (L : Array Bool) (a : Act) (w : World) (ρ : Place), unl ops L ≤ m → Inv P W ops n st0 ρ0 C st rds I L a w ρ → vdrawP P pc ops n f C st rds K X → wpAny P .any ops Q m L a w := by
 intro m
 induction m with
 | zero =>
  intro f C st rds I L a w ρ hm h hs
  have hr : Region.ready .any ops L = [] := by
   have hnil : ((List.range ops.size).filter fun i => !L.getD i true) = [] := List.eq_nil_of_length_eq_zero (Nat.le_zero.1 hm)
   apply List.eq_nil_iff_forall_not_mem.2
   intro j hj
   obtain ⟨h1, o, h2, h3⟩ := mem_ready.1 hj
   have : j ∈ ((List.range ops.size).filter fun i => !L.getD i true) := by
    simp only [List.mem_filter, List.mem_range]
    exact ⟨(Array.getElem?_eq_some_iff.1 h2).1, by rw [h1]; rfl⟩
   rw [hnil] at this
   cases this
  have hall := h.all hD hr
  have hallI : ∀ i, i < ops.size → In L i := fun i hi => Classical.byContradiction fun hn => by
   have : i ∈ ((List.range ops.size).filter fun i => !L.getD i true) := by
    simp only [List.mem_filter, List.mem_range]
    exact ⟨hi, by rw [unlisted_of (by rw [h.ls]; exact hi) hn]; rfl⟩
   rw [List.eq_nil_of_length_eq_zero (Nat.le_zero.1 hm)] at this
   cases this
  have hrC : Region.ready .any ops C = [] := by
   apply List.eq_nil_iff_forall_not_mem.2
   intro j hj
   obtain ⟨h1, o, h2, h3⟩ := mem_ready.1 hj
   exact (unlisted h1).2 (h.sub j (hallI j (Array.getElem?_eq_some_iff.1 h2).1))
  have hst : K st := by
   cases f with
   | zero => simp only [vdrawP, hrC] at hs; exact hs
   | succ f => simp only [vdrawP, hrC] at hs; exact hs
  exact ⟨hr, hQ st hst a w ρ (h.done hall) h.step⟩
 | succ m ihm =>
  intro f
  induction f with
  | zero =>
   intro C st rds I L a w ρ hm h hs
   have hs0 := hs
   simp only [vdrawP] at hs
   split at hs
   case h_2 => exact hs.elim
   rename_i hrC
   refine ⟨fun hr => hQ st hs a w ρ (h.done (h.all hD hr)) h.step, fun j hj => ?_⟩
   obtain ⟨h1, h2, h3, o, h4, h5⟩ := ready_in h.cs h.sub hj
   rw [hrC] at h1
   have hjC := h1.resolve_right (by simp)
   refine wpOp_mono ?_ (h.run hD h4 hjC h2 h5)
   rintro a' w' ⟨ρ', h'⟩
   refine ihm 0 C _ rds I _ a' w' ρ' ?_ h' hs0
   have := unl_set (ops := ops) (L := L) h3 h.ls (mem_ready.1 hj).1
   omega
  | succ f ihf =>
   intro C st rds I L a w ρ hm h hs
   have pending : ∀ j, j ∈ Region.ready .any ops L → In C j → ∀ o, ops[j]? = some o → (∀ e ∈ o.after, Region.binds .any e = true → In L e.on) → wpOp P ops Q j (wpAny P .any ops Q m (L.setIfInBounds j true)) a w := by
    intro j hj hjC o ho hall
    refine wpOp_mono ?_ (h.run hD ho hjC (unlisted (mem_ready.1 hj).1).2 hall)
    rintro a' w' ⟨ρ', h'⟩
    refine ihm (f + 1) C st rds I _ a' w' ρ' ?_ h' hs
    have := unl_set (ops := ops) (L := L) (Array.getElem?_eq_some_iff.1 ho).1 h.ls (mem_ready.1 hj).1
    omega
   have hs0 := hs
   simp only [vdrawP] at hs
   split at hs
   ·rename_i hrC
    refine ⟨fun hr => hQ st hs a w ρ (h.done (h.all hD hr)) h.step, fun j hj => ?_⟩
    obtain ⟨h1, h2, h3, o, h4, h5⟩ := ready_in h.cs h.sub hj
    rw [hrC] at h1
    exact pending j hj (h1.resolve_right (by simp)) o h4 h5
   ·rename_i r rs hrC
    split at hs
    ·rename_i i hf
     have him : i ∈ Region.ready .any ops C := by rw [hrC]; exact List.mem_of_find?_eq_some hf
     have hil := List.find?_some hf
     obtain ⟨g1, o, g2, g3⟩ := mem_ready.1 him
     have hnC := (unlisted g1).2
     have hh : isHeavy o.op = false := by
      unfold lightIdx at hil
      rw [g2] at hil
      simpa using hil
     rw [g2] at hs
     dsimp only at hs
     rcases vguard_cases hs with ⟨hw, hs⟩ | ⟨hw, hs⟩
     ·split at hs
      ·rename_i v ob hv
       obtain ⟨hob, hs⟩ := hs
       replace hs := vsplit_ap hs
       split at hs
       case h_2 => exact hs.elim
       rename_i tm' ht
       refine ihf _ ⟨tm', st.hp, st.nx⟩ _ (I.set i st.tm v none) L a w ρ hm (h.absorb hD g2 hnC g3 hh (st' := ⟨tm', st.hp, st.nx⟩) (v := v) (B := none) ht h.rel (fun _ _ h => h) (Nat.le_refl _) h.step (fun b hb => by cases hb) (fun I' e1 e2 e3 => .inr (.inl ⟨by rw [e1]; exact hw, .inr ⟨ob, by rw [e1, e2]; exact hv, hob⟩, e3⟩)) ?_ ?_) hs
       ·intro x hx
        cases isRead o (aev st.tm) <;> simp [hx]
       ·intro _ hrd
        rw [hrd]
        simp
      ·rename_i ob nv obp hv
       split at hs
       case h_2 => exact hs.elim
       rename_i tm' ht
       cases hrd : isRead o (aev st.tm) with
       | true => rw [hrd] at hs; exact hs.elim
       | false =>
        rw [hrd, cond_false] at hs
        obtain ⟨hob, hs⟩ := hs
        refine ihf _ ⟨tm', st.hp.put st.nx (some ob), st.nx + 1⟩ _ (I.set i st.tm (nv.val st.nx) (some st.nx)) L a w ρ hm (h.absorb hD g2 hnC g3 hh (st' := ⟨tm', st.hp.put st.nx (some ob), st.nx + 1⟩) (v := nv.val st.nx) (B := some st.nx) ht (h.rel.reserve ob) ?_ (Nat.le_succ _) ?_ (fun b hb => by cases hb; exact Nat.le_refl _) (fun I' e1 e2 e3 => ?_) (fun _ h => h) (fun _ h' => by rw [hrd] at h'; cases h')) hs
        ·intro b x hb
         have : b ≠ st.nx := fun e => by rw [e, h.rel.fresh _ (Nat.le_refl _)] at hb; cases hb
         rw [Tr.get_put, if_neg this]
         exact hb
        ·exact ⟨h.step.le, Nat.le_succ_of_le h.step.more, fun b hb hr => by
          have := h.step.old b hb hr
          refine ⟨this.1, ?_⟩
          rw [Tr.get_put, if_neg (by have := h.step.more; omega)]
          exact this.2⟩
        ·refine .inr (.inr ⟨by rw [e1]; exact hw, by rw [e1]; exact hrd, ob, nv, st.nx, ?_, e2, e3, by simp, h.step.more, h.rel.dom_none, by rw [Tr.get_put, if_pos rfl]⟩)
         rw [e1]
         exact LOk.still (hp := st.hp) hrd (.inr ⟨obp, hv, hob⟩)
      ·exact hs.elim
     ·split at hs
      case h_2 => exact hs.elim
      rename_i tm' ht
      exact ihf _ ⟨tm', st.hp, st.nx⟩ _ (I.set i st.tm undef none) L a w ρ hm (h.absorb hD g2 hnC g3 hh (st' := ⟨tm', st.hp, st.nx⟩) (v := undef) (B := none) ht h.rel (fun _ _ h => h) (Nat.le_refl _) h.step (fun b hb => by cases hb) (fun I' e1 e2 e3 => .inl ⟨by rw [e1]; exact hw, e2, e3⟩) (fun _ h => h) (fun h' => by rw [hw] at h'; cases h')) hs
    ·split at hs
     case h_2 => exact hs.elim
     split at hs
     case h_2 => exact hs.elim
     rename_i o ho
     have hrm : r ∈ Region.ready .any ops C := by rw [hrC]; simp
     obtain ⟨g1, o', g2, g3⟩ := mem_ready.1 hrm
     rw [ho] at g2
     cases g2
     have hnC := (unlisted g1).2
     refine ⟨fun hr => ?_, fun j hj => ?_⟩
     ·exfalso
      have hall := h.all hD hr
      have : r ∈ Region.ready .any ops L := mem_ready.2 ⟨unlisted_of (by rw [h.ls]; exact (Array.getElem?_eq_some_iff.1 ho).1) (fun h' => hnC (h.sub r h')), o, ho, fun e he hb => hall _ (g3 e he hb)⟩
      rw [hr] at this
      cases this
     ·obtain ⟨h1, h2, h3, oj, h4, h5⟩ := ready_in h.cs h.sub hj
      rcases h1 with h1 | h1
      ·exact pending j hj h1 oj h4 h5
      ·rw [hrC] at h1
       have hjr : j = r := by simpa using h1
       subst hjr
       rw [ho] at h4
       cases h4
       have hlk := h.heavyLook hD ho hnC g3 h5
       obtain ⟨ev', he1, he2⟩ := erel_of_looks hlk
       have fin : ∀ (st' : AS) (a' : Act) (w' : World), (∃ ρ' I', Inv P W ops n st0 ρ0 (C.setIfInBounds j true) st' rds I' (L.setIfInBounds j true) a' w' ρ') → vdrawP P pc ops n f (C.setIfInBounds j true) st' rds K X → wpAny P .any ops Q m (L.setIfInBounds j true) a' w' := by
        rintro st' a' w' ⟨ρ', I', h'⟩ hs'
        refine ihm f _ st' rds I' _ a' w' ρ' ?_ h' hs'
        have := unl_set (ops := ops) (L := L) h3 h.ls (mem_ready.1 hj).1
        omega
       unfold wpOp
       simp only [ho]
       rcases vguard_cases hs with ⟨hw, hs⟩ | ⟨hw, hs⟩
       ·rw [awanted_sound' h.size hlk hw, if_pos rfl]
        rw [pheavy_congr he2] at hs
        refine .inl (pheavy_sound hcall h.rel he1 hs (fun v hp' nx' v' w' ρ' hK q1 q2 q3 => ?_) (fun v hp' nx' v' w' ρ' hK q1 q2 q3 => ?_))
        ·dsimp only at hK
         replace hK := vsplit_ap hK
         split at hK
         case h_2 => exact hK.elim
         rename_i tm' ht
         exact fin ⟨tm', hp', nx'⟩ _ _ (h.heavyFin hD ho hnC g3 h5 (st' := ⟨tm', hp', nx'⟩) (.inr (vstab_ok hK.1)) v v' w' ρ' ht q1 q2 q3) hK.2
        ·exact hX v ⟨.e, hp', nx'⟩ hK v' a w' ρ' q1 ⟨q2, ⟨h.size, h.defers, fun t u hu => by cases hu⟩⟩ (h.step.trans q3)
       ·rw [awanted_sound' h.size hlk hw, if_neg (by simp)]
        split at hs
        case h_2 => exact hs.elim
        rename_i tm' ht
        exact fin ⟨tm', st.hp, st.nx⟩ _ _ (h.heavyFin hD ho hnC g3 h5 (st' := ⟨tm', st.hp, st.nx⟩) (.inl rfl) undef undef w ρ ht (closed_refl (by simp [undef, closed])) h.rel (.refl _ _ _)) hs
end
def vregionP (P : Program) (pc : PCall) (n : Nat) (ops : Array Oper) (draw : Bool) (st : AS) (K : AS → Prop) (X : Value → AS → Prop) : Prop :=
 bif draw then (bif drawOk ops then vdrawP P pc ops n ops.size (Array.replicate ops.size false) st [] K X else False) else vseqP P pc ops n ops.toList st K X
theorem vregionP_sound {P : Program} {pc : PCall} {W : Base} (hcall : PCallOk P pc) (hm : P.follows .mixedOrders = true) {ops : Array Oper} {draw : Bool} {id n : Nat} {Q : Exit → Act → World → Prop} {st : AS} {K : AS → Prop} {X : Value → AS → Prop} {ρ : Place} {a : Act} {w : World} (h : SRel ρ W n st a w)
  (hs : vregionP P pc n ops draw st K X) (hk : ∀ st', K st' → ∀ a' w' ρ', SRel ρ' W n st' a' w' → Step ρ ρ' st.hp st'.hp st.nx st'.nx → Q .normal a' w')
  (hx : ∀ v st', X v st' → ∀ v' a' w' ρ', VR ρ' v v' → SRel ρ' W n st' a' w' → Step ρ ρ' st.hp st'.hp st.nx st'.nx → Q (.panic [{ v := v', recovered := false }]) a' w') : (Code.region id ops draw).wp P Q a w := by
 unfold vregionP at hs
 cases draw with
 | true =>
  rw [cond_true] at hs
  cases hD : drawOk ops with
  | false => rw [hD] at hs; exact hs.elim
  | true =>
   rw [hD, cond_true] at hs
   refine wp_region_any hm ?_
   have hnot : ∀ i, ¬ In (Array.replicate ops.size false) i := fun i hi => by
    have := lt_of_in (ops := ops) (by simp) hi
    simp [In, this] at hi
   refine vdrawP_main hcall hD hk hx ops.size ops.size _ st [] ⟨fun _ => .e, fun _ => undef, fun _ => none⟩ _ a _ ρ ?_ ⟨by simp, by simp, fun i hi => (hnot i hi).elim, fun i hi => (hnot i hi).elim, fun i hi => hi, fun j o t hj => (hnot j hj).elim, fun t _ => rfl, h.rel.drew, h.frame.size, h.frame.defers, fun j o t hj => (hnot j hj).elim, fun t v _ hv => h.frame.slot t v hv, fun j o hj => (hnot j hj).elim, fun j k b hj => (hnot j hj).elim, .refl _ _ _, fun j o hj => (hnot j hj).elim⟩ hs
   unfold unl
   exact Nat.le_trans (List.length_filter_le _ _) (by simp)
 | false =>
  rw [cond_false] at hs
  refine wp_region ?_
  rw [List.range_eq_range']
  have := vseqP_sound hcall (Q := Q) ops.toList 0 st K X ρ a w (by simp) h hs hk hx
  simpa using this
def vrunP (P : Program) (pc : PCall) (n : Nat) (lt : List (Nat × List Nat)) (base : List Bool) (H : Code → List Fr → AS → Prop) (Fin : AS → Prop) (X : Value → AS → Prop) : Nat → VM → List Fr → AS → Prop
 | 0, _, _, _ => False
 | f + 1, .normal, k, st => match k with
  | [] => Fin st
  | .seq y :: k' => vrunP P pc n lt base H Fin X f (.code y) k' st
  | .block _ :: k' => vrunP P pc n lt base H Fin X f .normal k' st
  | .loop b :: k' => match slotsOf (rid b) lt with
   | some _ => vloop lt base H b k' st
   | none => vrunP P pc n lt base H Fin X f (.code b) (.loop b :: k') st
 | f + 1, .exit id, k, st => match k with
  | [] => False
  | .block j :: k' => bif id.beq j then vrunP P pc n lt base H Fin X f .normal k' st else vrunP P pc n lt base H Fin X f (.exit id) k' st
  | _ :: k' => vrunP P pc n lt base H Fin X f (.exit id) k' st
 | _ + 1, .ret, _, st => Fin st
 | f + 1, .code c, k, st => match c with
  | .skip | .label _ => vrunP P pc n lt base H Fin X f .normal k st
  | .region _ ops draw => vregionP P pc n ops draw st (fun st' => vrunP P pc n lt base H Fin X f .normal k st') X
  | .seq x y => vrunP P pc n lt base H Fin X f (.code x) (.seq y :: k) st
  | .cond c x y => match aev st.tm c with
   | some (.bool b) => pIf b (vrunP P pc n lt base H Fin X f (.code x) k st) (vrunP P pc n lt base H Fin X f (.code y) k st)
   | _ => False
  | .block id b => vrunP P pc n lt base H Fin X f (.code b) (.block id :: k) st
  | .loop b => match slotsOf (rid b) lt with
   | some _ => vloop lt base H b k st
   | none => vrunP P pc n lt base H Fin X f (.code b) (.loop b :: k) st
  | .exit id => vrunP P pc n lt base H Fin X f (.exit id) k st
  | .ret => vrunP P pc n lt base H Fin X f .ret k st
  | _ => False
theorem contQ_panic {P : Program} {Q : Exit → Act → World → Prop} {a : Act} {w : World} {ch : List PanicEntry} {k : List Fr} (h : Q (.panic ch) a w) : contQ P Q k (.panic ch) a w := by
 induction k with
 | nil => exact h
 | cons x k ih => cases x <;> exact ih
section
variable {P : Program} {pc : PCall} {W : Base} {n : Nat} {lt : List (Nat × List Nat)} {base : List Bool} {H : Code → List Fr → AS → Prop} {Fin : AS → Prop} {X : Value → AS → Prop} {R : Place → AS → Prop} {Q : Exit → Act → World → Prop}
theorem vrunP_sound (hcall : PCallOk P pc) (hm : P.follows .mixedOrders = true)
  (hR : ∀ ρ st ρ' st', R ρ st → Step ρ ρ' st.hp st'.hp st.nx st'.nx → R ρ' st')
  (hH : ∀ b k st, vloop lt base H b k st → ∀ ρ a w, SRel ρ W n st a w → R ρ st → LoopWp P b (contQ P Q k) a w)
  (hF : ∀ st, Fin st → ∀ ρ a w, SRel ρ W n st a w → R ρ st → Q .normal a w ∧ Q .ret a w)
  (hX : ∀ v st, X v st → ∀ ρ v' a w, VR ρ v v' → SRel ρ W n st a w → R ρ st → Q (.panic [{ v := v', recovered := false }]) a w) :
  ∀ (f : Nat) (m : VM) (k : List Fr) (st : AS), vrunP P pc n lt base H Fin X f m k st → ∀ ρ a w, SRel ρ W n st a w → R ρ st → (match m with
   | .code c => c.wp P (contQ P Q k) a w
   | .normal => contQ P Q k .normal a w
   | .exit id => contQ P Q k (.exit id) a w
   | .ret => contQ P Q k .ret a w) := by
 intro f
 induction f with
 | zero => intro m k st h; simp only [vrunP] at h
 | succ f ih =>
  intro m k st h ρ a w hs hr
  cases m with
  | normal =>
   simp only [vrunP] at h
   dsimp only
   cases k with
   | nil => exact (hF st h ρ a w hs hr).1
   | cons x k =>
    cases x with
    | seq y => exact ih (.code y) k st h ρ a w hs hr
    | block id => exact ih .normal k st h ρ a w hs hr
    | loop b =>
     dsimp only at h
     split at h
     ·exact hH b k st h ρ a w hs hr
     ·exact loop_round (ih (.code b) (.loop b :: k) st h ρ a w hs hr)
  | exit id =>
   simp only [vrunP] at h
   dsimp only
   cases k with
   | nil => exact h.elim
   | cons x k =>
    cases x with
    | seq y => exact ih (.exit id) k st h ρ a w hs hr
    | block j =>
     show Exit.inBlock j (contQ P Q k) (.exit id) a w
     simp only [Exit.inBlock]
     dsimp only at h
     cases hj : id.beq j with
     | true =>
      rw [hj] at h
      rw [if_pos (Nat.eq_of_beq_eq_true hj)]
      exact ih .normal k st h ρ a w hs hr
     | false =>
      rw [hj] at h
      rw [if_neg (fun e => by subst e; simp at hj)]
      exact ih (.exit id) k st h ρ a w hs hr
    | loop b => exact ih (.exit id) k st h ρ a w hs hr
  | ret =>
   simp only [vrunP] at h
   exact contQ_ret (hF st h ρ a w hs hr).2
  | code c =>
   simp only [vrunP] at h
   dsimp only
   cases c with
   | skip => exact wp_skip (ih .normal k st h ρ a w hs hr)
   | label l => exact wp_label (ih .normal k st h ρ a w hs hr)
   | region id ops draw => exact vregionP_sound hcall hm hs h (fun st' hK a' w' ρ' g1 g2 => ih .normal k st' hK ρ' a' w' g1 (hR _ _ _ _ hr g2)) (fun v st' hK v' a' w' ρ' g0 g1 g2 => contQ_panic (hX v st' hK ρ' v' a' w' g0 g1 (hR _ _ _ _ hr g2)))
   | seq x y => exact wp_seq (ih (.code x) (.seq y :: k) st h ρ a w hs hr)
   | cond c x y =>
    dsimp only at h
    split at h
    ·rename_i b hc
     have := hs.frame.eval hc
     cases b with
     | true =>
      refine wp_cond_true (c := c) ?_ (ih (.code x) k st h ρ a w hs hr)
      generalize a.eval c = z at this
      cases this
      rfl
     | false =>
      refine wp_cond_false (c := c) ?_ (ih (.code y) k st h ρ a w hs hr)
      generalize a.eval c = z at this
      cases this
      rfl
    ·exact h.elim
   | block id b => exact wp_block (ih (.code b) (.block id :: k) st h ρ a w hs hr)
   | loop b =>
    dsimp only at h
    split at h
    ·exact loop_of (hH b k st h ρ a w hs hr)
    ·exact loop_of (loop_round (ih (.code b) (.loop b :: k) st h ρ a w hs hr))
   | exit id => exact wp_exit (ih (.exit id) k st h ρ a w hs hr)
   | ret => exact wp_ret (ih .ret k st h ρ a w hs hr)
   | goto l => exact h.elim
   | refuse y => exact h.elim
   | scope b => exact h.elim
   | rangeFunc f ps x y => exact h.elim
end
end Go.Proofs.YtegjnjmimfgijaaGreatDoor

noncomputable section
namespace Go.Proofs.YtegjnjmimfgijaaGreatDoor
open Go Go.RowKit
def GoodX (P : Program) (n : Nat) (base : List Bool) (Fin : AS → Prop) (X : Value → AS → Prop) (b : Code) (k : List Fr) (st : AS) : Prop :=
 ∀ (W : Base) (ρ0 : Place) (Q : Exit → Act → World → Prop), (∀ st, Fin st → ∀ ρ a w, SRel ρ W n st a w → StepG base.length ρ0 ρ → Q .normal a w ∧ Q .ret a w) →
  (∀ v st, X v st → ∀ ρ v' a w, VR ρ v v' → SRel ρ W n st a w → StepG base.length ρ0 ρ → Q (.panic [{ v := v', recovered := false }]) a w) →
  ∀ ρ a w, SRel ρ W n st a w → StepG base.length ρ0 ρ → LoopWp P b (contQ P Q k) a w
theorem goodX_vloop {P : Program} {n : Nat} {lt : List (Nat × List Nat)} {base : List Bool} {Fin : AS → Prop} {X : Value → AS → Prop} {b : Code} {k : List Fr} {st : AS} (h : vloop lt base (GoodX P n base Fin X) b k st) : GoodX P n base Fin X b k st := by
 unfold vloop at h
 split at h
 case h_2 => exact h.elim
 split at h
 case h_2 => exact h.elim
 rename_i st0 ob0 hz
 split at h
 case h_2 => exact h.elim
 rename_i st' ob hc
 intro W ρ0 Q hF hX ρ a w hs hr
 obtain ⟨ρ1, f1, f2⟩ := frzTms_sound hs hz h.1
 obtain ⟨ρ', g1, g2, g3⟩ := canon_sound f1 hc h.2.1
 exact h.2.2 W ρ0 Q hF hX ρ' a w g1 ⟨fun b x hb hx => by rw [g3 b hb]; exact f2.1 b x (hr.1 b x hb hx), fun c x hx => by rw [g2]; exact f2.2 c x (hr.2 c x hx)⟩
theorem goodX_round {P : Program} {pc : PCall} (hcall : PCallOk P pc) (hm : P.follows .mixedOrders = true) {n : Nat} {lt : List (Nat × List Nat)} {base : List Bool} {Fin : AS → Prop} {X : Value → AS → Prop} {b : Code} {k : List Fr} {st : AS} (f : Nat)
  (h : vrunP P pc n lt base (GoodX P n base Fin X) Fin X f (.code b) (.loop b :: k) st) : GoodX P n base Fin X b k st := by
 intro W ρ0 Q hF hX ρ a w hs hr
 refine loop_round ?_
 exact vrunP_sound (R := fun ρ _ => StepG base.length ρ0 ρ) hcall hm (fun ρ st ρ' st' h k => h.step k) (fun b k st h ρ a w hs hr => goodX_vloop h W ρ0 Q hF hX ρ a w hs hr) hF hX f (.code b) (.loop b :: k) st h ρ a w hs hr
def frzRow (N : Nat) : List Value → Tr AObj → Option (List Value × Tr AObj × Prop)
 | [], hp => some ([], hp, True)
 | v :: l, hp => match frzS N hp v with
  | some (u, hp1, o1) => match frzRow N l hp1 with
   | some (us, hp2, o2) => some (u :: us, hp2, o1 ∧ o2)
   | none => none
  | none => none
theorem frzS_get {N : Nat} {hp hp' : Tr AObj} {v u : Value} {ob : Prop} (h : frzS N hp v = some (u, hp', ob)) {i : Nat} (hi : i < N) : hp'.get i = hp.get i := by
 unfold frzS at h
 split at h
 ·rename_i b o n sz
  split at h
  case h_2 => cases h
  cases hb : N.ble b with
  | false => rw [hb] at h; cases h
  | true =>
   rw [hb] at h
   cases h
   have := Nat.le_of_ble_eq_true hb
   rw [Tr.get_put, if_neg (by omega)]
 ·cases h; rfl
theorem frzRow_get {N : Nat} {i : Nat} (hi : i < N) : ∀ {l us : List Value} {hp hp' : Tr AObj} {ob : Prop}, frzRow N l hp = some (us, hp', ob) → hp'.get i = hp.get i
 | [], us, hp, hp', ob, h => by simp only [frzRow] at h; cases h; rfl
 | v :: l, us, hp, hp', ob, h => by
  simp only [frzRow] at h
  split at h
  case h_2 => cases h
  rename_i u hp1 o1 h1
  split at h
  case h_2 => cases h
  rename_i us0 hp2 o2 h2
  cases h
  rw [frzRow_get hi h2, frzS_get h1 hi]
theorem frzRow_len {N : Nat} : ∀ {l us : List Value} {hp hp' : Tr AObj} {ob : Prop}, frzRow N l hp = some (us, hp', ob) → us.length = l.length
 | [], us, hp, hp', ob, h => by simp only [frzRow] at h; cases h; rfl
 | v :: l, us, hp, hp', ob, h => by
  simp only [frzRow] at h
  split at h
  case h_2 => cases h
  rename_i u hp1 o1 h1
  split at h
  case h_2 => cases h
  rename_i us0 hp2 o2 h2
  cases h
  exact congrArg (· + 1) (frzRow_len h2)
theorem frzRow_sound {N : Nat} {W : Base} {nx : Nat} {w : World} : ∀ {l l' us : List Value} {ρ : Place} {hp hp' : Tr AObj} {ob : Prop}, Rel ρ W hp nx w → VRL ρ l l' → frzRow N l hp = some (us, hp', ob) → ob →
  ∃ ρ', Rel ρ' W hp' nx w ∧ ρ.le ρ' ∧ VRL ρ' us l'
 | [], l', us, ρ, hp, hp', ob, h, hl, hf, _ => by
  simp only [frzRow] at hf
  cases hf
  cases hl
  exact ⟨ρ, h, .refl _, .nil⟩
 | v :: l, l', us, ρ, hp, hp', ob, h, hl, hf, hob => by
  simp only [frzRow] at hf
  split at hf
  case h_2 => cases hf
  rename_i u hp1 o1 h1
  split at hf
  case h_2 => cases hf
  rename_i us0 hp2 o2 h2
  cases hf
  cases hl with
  | cons hv hl =>
   obtain ⟨ρ1, g1, g2, g3⟩ := frzS_sound h hv h1 hob.1
   obtain ⟨ρ2, k1, k2, k3⟩ := frzRow_sound g1 (hl.mono g2.le) h2 hob.2
   exact ⟨ρ2, k1, g2.le.trans k2, .cons (g3.mono k2) k3⟩
theorem Rel.recell {ρ : Place} {W : Base} {hp : Tr AObj} {nx : Nat} {w : World} (h : Rel ρ W hp nx w) {i : Nat} {l us : List Value} (hi : hp.get i = some (.cells l true)) (hlen : us.length = l.length)
  (hu : ∀ c s z cs t fz, ρ i = some (c, s, z) → w.heap[c]? = some (.cells cs t fz) → ∀ (j : Nat) (u : Value), us[j]? = some u → ∃ v', cs[s + j]? = some v' ∧ VR ρ u v') : Rel ρ W (hp.put i (some (.cells us true))) nx w := by
 have live : ∀ b o, (hp.put i (some (.cells us true))).get b = some o → ∃ o', hp.get b = some o' ∧ (o.wr = true → o'.wr = true) := fun b o ho => by
  rw [Tr.get_put] at ho
  by_cases e : b = i
  ·subst e; exact ⟨_, hi, fun _ => rfl⟩
  ·rw [if_neg e] at ho; exact ⟨o, ho, fun h => h⟩
 refine ⟨h.dom, fun b o c s z ho hb => ?_, fun b b' x x' o o' h1 h2 hx hx' hxx => ?_, fun b hb => ?_, h.below, h.frz, fun b o c s z ho hw hb => ?_, h.frn⟩
 ·rw [Tr.get_put] at ho
  by_cases e : b = i
  ·subst e
   rw [if_pos rfl] at ho
   cases ho
   obtain ⟨ob, e1, e2⟩ := h.obj b _ c s z hi hb
   refine ⟨ob, e1, ?_⟩
   cases ob <;> try exact e2.elim
   obtain ⟨k1, k2, k3, k4, k5⟩ := e2
   exact ⟨k1, by rw [hlen]; exact k2, k3, fun j u hj => hu c s z _ _ _ hb e1 j u hj, k5⟩
  ·rw [if_neg e] at ho
   exact h.obj b o c s z ho hb
 ·obtain ⟨_, g1, _⟩ := live b o h1
  obtain ⟨_, g2, _⟩ := live b' o' h2
  exact h.inj b b' x x' _ _ g1 g2 hx hx' hxx
 ·rw [Tr.get_put]
  by_cases e : b = i
  ·subst e; have := h.fresh b hb; rw [hi] at this; cases this
  ·rw [if_neg e]; exact h.fresh b hb
 ·obtain ⟨o', g1, g2⟩ := live b o ho
  exact h.apart b o' c s z g1 (g2 hw) hb
def frzBl (N : Nat) : Nat → Nat → Tr AObj → Option (Tr AObj × Prop)
 | 0, _, hp => some (hp, True)
 | k + 1, i, hp => match hp.get i with
  | some (.cells l true) => bif i.blt N then match frzRow N l hp with
   | some (us, hp1, o1) => match frzBl N k (i + 1) (hp1.put i (some (.cells us true))) with
    | some (hp2, o2) => some (hp2, o1 ∧ o2)
    | none => none
   | none => none
   else none
  | _ => none
theorem frzBl_sound {N : Nat} {W : Base} {nx : Nat} {w : World} : ∀ {k i : Nat} {ρ : Place} {hp hp' : Tr AObj} {ob : Prop}, (∀ b, b < N → ∃ x, ρ b = some x) → Rel ρ W hp nx w → frzBl N k i hp = some (hp', ob) → ob → ∃ ρ', Rel ρ' W hp' nx w ∧ ρ.le ρ'
 | 0, i, ρ, hp, hp', ob, _, h, hf, _ => by
  simp only [frzBl] at hf
  cases hf
  exact ⟨ρ, h, .refl _⟩
 | k + 1, i, ρ, hp, hp', ob, hpl, h, hf, hob => by
  simp only [frzBl] at hf
  split at hf
  case h_2 => cases hf
  rename_i l hl
  cases hb : i.blt N with
  | false => rw [hb] at hf; cases hf
  | true =>
   have hi : i < N := Nat.le_of_ble_eq_true hb
   rw [hb, cond_true] at hf
   split at hf
   case h_2 => cases hf
   rename_i us hp1 o1 h1
   split at hf
   case h_2 => cases hf
   rename_i hp2 o2 h2
   cases hf
   have hi1 := frzRow_get hi h1
   rw [hl] at hi1
   have hlenU := frzRow_len h1
   -- the concrete row
   have key : ∃ ρ1, Rel ρ1 W hp1 nx w ∧ ρ.le ρ1 ∧ ∀ c s z cs t fz, ρ1 i = some (c, s, z) → w.heap[c]? = some (.cells cs t fz) → ∀ (j : Nat) (u : Value), us[j]? = some u → ∃ v', cs[s + j]? = some v' ∧ VR ρ1 u v' := by
    obtain ⟨x, hr⟩ := hpl i hi
    obtain ⟨c, s, z⟩ := x
    obtain ⟨ob, e1, e2⟩ := h.obj i _ c s z hl hr
    cases ob <;> try exact e2.elim
    rename_i cs t fz
    obtain ⟨k1, k2, k3, k4, k5⟩ := e2
    have hrow : VRL ρ l ((cs.toList.drop s).take l.length) := by
     refine .of ?_ fun j v v' hj hj' => ?_
     ·rw [List.length_take, List.length_drop]
      simp only [Array.length_toList]
      omega
     ·obtain ⟨v2, q1, q2⟩ := k4 j v hj
      have hlt := (List.getElem?_eq_some_iff.1 hj).1
      rw [List.getElem?_take, if_pos hlt, List.getElem?_drop, Array.getElem?_toList, q1] at hj'
      cases hj'
      exact q2
    obtain ⟨ρ1, g1, g2, g3⟩ := frzRow_sound h hrow h1 hob.1
    refine ⟨ρ1, g1, g2, fun c' s' z' cs' t' fz' hr' hc' j u hj => ?_⟩
    have hr2 := g2.1 i _ hr
    rw [hr'] at hr2
    cases hr2
    rw [hc'] at e1
    cases e1
    have hlt : j < l.length := by rw [← hlenU]; exact (List.getElem?_eq_some_iff.1 hj).1
    have hv : ∃ v', ((cs.toList.drop s).take l.length)[j]? = some v' := by
     have hl2 := g3.len
     have : j < ((cs.toList.drop s).take l.length).length := by rw [← hl2, hlenU]; exact hlt
     exact ⟨_, List.getElem?_eq_getElem this⟩
    obtain ⟨v', hv'⟩ := hv
    refine ⟨v', ?_, g3.get hj hv'⟩
    rw [List.getElem?_take, if_pos hlt, List.getElem?_drop, Array.getElem?_toList] at hv'
    exact hv'
   obtain ⟨ρ1, g1, g2, g3⟩ := key
   obtain ⟨ρ2, q1, q2⟩ := frzBl_sound (fun b hb => let ⟨x, hx⟩ := hpl b hb; ⟨x, g2.1 b x hx⟩) (g1.recell hi1 hlenU g3) h2 hob.2
   exact ⟨ρ2, q1, g2.trans q2⟩
def Out.Ends0 (ρ : Place) (r : Out) (e : Ending) : Prop :=
 match r with
 | .ret v => ∃ v', e = .returned v' ∧ VR0 ρ.fr v v'
 | .pan v => ∃ v', e = .panicked [{ v := v', recovered := false }] ∧ VR0 ρ.fr v v'
def SpecX (P : Program) (f : FuncId) (N : Nat) (hp : Tr AObj) (args : List Value) (Post : Out → Tr AObj → Prop) : Prop :=
 ∀ (W : Base) ρ w args', (∀ b, b < N → ∃ x, ρ.pl b = some x) → Rel ρ W hp N w → VRL ρ args args' → Calls P f args'.toArray w fun e w' => ∃ r hp' nx' ρ', Post r hp' ∧ r.Ends0 ρ' e ∧ Rel ρ' W hp' nx' w' ∧ StepG N ρ ρ'
def finX (P : Program) (fn : Func) (N : Nat) (Post : Out → Tr AObj → Prop) (st : AS) : Prop :=
 match ares P st.hp st.tm fn with
 | some v => match frzBl N N 0 st.hp with
  | some (hp1, o1) => match frzR P N fn.resultTypes.toList hp1 v with
   | some (u, hp2, o2) => (o1 ∧ o2) ∧ Post (.ret u) hp2
   | none => False
  | none => False
 | none => False
def panX (N : Nat) (Post : Out → Tr AObj → Prop) (v : Value) (st : AS) : Prop :=
 match frzBl N N 0 st.hp with
 | some (hp1, o1) => bif nl1 v then o1 ∧ Post (.pan v) hp1 else False
 | none => False
def FinQX (P : Program) (fn : Func) (W : Base) (N : Nat) (ρ : Place) (Post : Out → Tr AObj → Prop) (e : Exit) (a : Act) (w : World) : Prop :=
 bodyPost P fn (fun e w' => ∃ r hp' nx' ρ', Post r hp' ∧ r.Ends0 ρ' e ∧ Rel ρ' W hp' nx' w' ∧ StepG N ρ ρ') e a w
theorem stepG_le {N : Nat} {ρ ρ' ρ'' : Place} (h : StepG N ρ ρ') (k : ρ'.le ρ'') : StepG N ρ ρ'' := ⟨fun b x hb hx => k.1 b x (h.1 b x hb hx), fun c x hc => k.2 c x (h.2 c x hc)⟩
theorem stepG_placed {N : Nat} {ρ ρ' : Place} (h : StepG N ρ ρ') (hp : ∀ b, b < N → ∃ x, ρ.pl b = some x) : ∀ b, b < N → ∃ x, ρ'.pl b = some x := fun b hb => let ⟨x, hx⟩ := hp b hb; ⟨x, h.1 b x hb hx⟩
theorem finX_ok {P : Program} {fn : Func} {N n : Nat} {Post : Out → Tr AObj → Prop} {st : AS} (h : finX P fn N Post st) {W : Base} (hd : W.ds = []) {ρ0 ρ : Place} {a : Act} {w : World} (hpl : ∀ b, b < N → ∃ x, ρ0.pl b = some x) (hs : SRel ρ W n st a w) (hr : StepG N ρ0 ρ) :
  FinQX P fn W N ρ0 Post .normal a w ∧ FinQX P fn W N ρ0 Post .ret a w := by
 unfold finX at h
 split at h
 case h_2 => exact h.elim
 rename_i v hv
 split at h
 case h_2 => exact h.elim
 rename_i hp1 o1 h1
 split at h
 case h_2 => exact h.elim
 rename_i u hp2 o2 h2
 obtain ⟨v', r1, r2⟩ := ares_sound hs.rel hs.frame hv
 obtain ⟨ρ1, g1, g2⟩ := frzBl_sound (stepG_placed hr hpl) hs.rel h1 h.1.1
 obtain ⟨ρ2, k1, k2, k3⟩ := frzR_sound g1 (r2.mono g2) h2 h.1.2
 have : ∃ r hp' nx' ρ', Post r hp' ∧ r.Ends0 ρ' (Ending.returned v') ∧ Rel ρ' W hp' nx' w ∧ StepG N ρ0 ρ' :=
  ⟨.ret u, hp2, st.nx, ρ2, h.2, ⟨v', rfl, k3⟩, k1, stepG_le (stepG_le hr g2) k2.le⟩
 exact ⟨⟨hs.frame.defers.trans hd, v', r1, this⟩, ⟨hs.frame.defers.trans hd, v', r1, this⟩⟩
theorem panX_ok {P : Program} {fn : Func} {N n : Nat} {Post : Out → Tr AObj → Prop} {v : Value} {st : AS} (h : panX N Post v st) {W : Base} (hd : W.ds = []) {ρ0 ρ : Place} {v' : Value} {a : Act} {w : World} (hpl : ∀ b, b < N → ∃ x, ρ0.pl b = some x) (hv : VR ρ v v') (hs : SRel ρ W n st a w) (hr : StepG N ρ0 ρ) :
  FinQX P fn W N ρ0 Post (.panic [{ v := v', recovered := false }]) a w := by
 unfold panX at h
 split at h
 case h_2 => exact h.elim
 rename_i hp1 o1 h1
 cases hn : nl1 v with
 | false => rw [hn] at h; exact h.elim
 | true =>
  rw [hn, cond_true] at h
  obtain ⟨ρ1, g1, g2⟩ := frzBl_sound (stepG_placed hr hpl) hs.rel h1 h.1
  exact ⟨hs.frame.defers.trans hd, .pan v, hp1, st.nx, ρ1, h.2, ⟨v', rfl, nl1_sound hn (hv.mono g2)⟩, g1, stepG_le hr g2⟩
theorem specX_of {P : Program} {pc : PCall} (hcall : PCallOk P pc) (hm : P.follows .mixedOrders = true) {f : FuncId} {fn : Func} {c : Code} (hf : P.funcs[f]? = some fn) (hc : fn.body = some c) {lt : List (Nat × List Nat)} {base : List Bool} {hp : Tr AObj} {args : List Value} {Post : Out → Tr AObj → Prop} (k : Nat)
  (h : vrunP P pc (slotsN args fn) lt base (GoodX P (slotsN args fn) base (finX P fn base.length Post) (panX base.length Post)) (finX P fn base.length Post) (panX base.length Post) k (.code c) [] ⟨putArgs 0 args .e, hp, base.length⟩) : SpecX P f base.length hp args Post := by
 intro W ρ w args' hpl hrel hargs
 suffices hb : Calls P f args'.toArray w fun e w' => ∃ r hp' nx' ρ', Post r hp' ∧ r.Ends0 ρ' e ∧ Rel ρ' W.bare hp' nx' w' ∧ StepG base.length ρ ρ' from hb.mono fun e w' ⟨r, hp', nx', ρ', g1, g2, g3, g4⟩ => ⟨r, hp', nx', ρ', g1, g2, g3.unbare, g4⟩
 refine calls_of_wp hf hc ?_
 exact vrunP_sound (R := fun ρ' _ => StepG base.length ρ ρ') (Q := FinQX P fn W.bare base.length ρ Post) hcall hm (fun _ _ _ _ h k => h.step k)
  (fun b k st h ρ' a w hs hr => goodX_vloop h W.bare ρ _ (fun st hst ρ' a w hs hr => finX_ok hst rfl hpl hs hr) (fun v st hst ρ' v' a w hv hs hr => panX_ok hst rfl hpl hv hs hr) ρ' a w hs hr)
  (fun st hst ρ' a w hs hr => finX_ok hst rfl hpl hs hr) (fun v st hst ρ' v' a w hv hs hr => panX_ok hst rfl hpl hv hs hr) k (.code c) [] _ h ρ _ w (start_rel rfl hrel.bare hargs fn) (.refl _ _)
def okc (N : Nat) : Value → Bool
 | .pointer (some ⟨b, _, none⟩) => b.blt N
 | v => nl1 v
def okAll (N : Nat) : List (List Value) → Bool
 | [] => true
 | l :: ls => l.all (okc N) && okAll N ls
theorem okAll_get {N : Nat} : ∀ {ls : List (List Value)}, okAll N ls = true → ∀ l ∈ ls, ∀ v ∈ l, okc N v = true
 | [], _, l, h => by cases h
 | x :: ls, h, l, hl => by
  simp only [okAll, Bool.and_eq_true] at h
  rcases List.mem_cons.1 hl with rfl | hl
  ·exact fun v hv => List.all_eq_true.1 h.1 v hv
  ·exact okAll_get h.2 l hl
def xpost (n : Nat) (Post : Out → List (List Value) → Prop) (r : Out) (hp : Tr AObj) : Prop :=
 match outs hp 0 n with
 | some ls => okAll n ls = true ∧ Post r ls
 | none => False
structure XEnt where
 f : FuncId
 c : List Value → List (List Value) → (Out → List (List Value) → Prop) → Prop
def XEntOk (P : Program) (e : XEnt) : Prop := ∀ args conts Post, e.c args conts Post → SpecX P e.f conts.length (hpOf conts) args (xpost conts.length Post)
def xentOf (f : FuncId) : List XEnt → Option XEnt
 | [] => none
 | e :: l => bif e.f.beq f then some e else xentOf f l
theorem xentOf_mem {f : FuncId} {e : XEnt} : ∀ {l : List XEnt}, xentOf f l = some e → e ∈ l ∧ e.f = f
 | [], h => by simp [xentOf] at h
 | x :: l, h => by
  simp only [xentOf] at h
  cases hx : x.f.beq f with
  | true => rw [hx] at h; cases h; exact ⟨by simp, Nat.eq_of_beq_eq_true hx⟩
  | false => rw [hx, cond_false] at h; exact ⟨by simp [(xentOf_mem h).1], (xentOf_mem h).2⟩
def contsX (bl : List (Nat × Bool)) (hp : Tr AObj) : List (Nat × Bool) → Option (List (List Value))
 | [] => some []
 | (b, _) :: l => match hp.get b with
  | some (.cells c true) => match mapO (ren0 bl) c, contsX bl hp l with
   | some c', some cs => some (c' :: cs)
   | _, _ => none
  | _ => none
theorem contsX_get {bl : List (Nat × Bool)} {hp : Tr AObj} : ∀ {l : List (Nat × Bool)} {cs : List (List Value)}, contsX bl hp l = some cs → cs.length = l.length ∧ ∀ (i b : Nat) (k : Bool), l[i]? = some (b, k) → ∃ c c', cs[i]? = some c' ∧ hp.get b = some (.cells c true) ∧ mapO (ren0 bl) c = some c'
 | [], cs, h => by simp only [contsX] at h; cases h; exact ⟨rfl, fun i b k hi => by simp at hi⟩
 | (b, k) :: l, cs, h => by
  simp only [contsX] at h
  split at h
  case h_2 => cases h
  rename_i c hc
  split at h
  case h_2 => cases h
  rename_i c' cs0 h1 h0
  cases h
  obtain ⟨g1, g2⟩ := contsX_get h0
  refine ⟨by simp [g1], fun i b' k' hi => ?_⟩
  cases i with
  | zero => simp at hi; obtain ⟨rfl, rfl⟩ := hi; exact ⟨c, c', rfl, hc, h1⟩
  | succ i => simpa using g2 i b' k' (by simpa using hi)
def backV (bl : List (Nat × Bool)) : Value → Value
 | .pointer (some ⟨i, o, none⟩) => match bl[i]? with
  | some p => .pointer (some ⟨p.1, o, none⟩)
  | none => undef
 | v => v
def backL (bl : List (Nat × Bool)) (cs : List (List Value)) : List (List Value) := cs.map fun l => l.map (backV bl)
def xcall (e : XEnt) (args : List Value) (hp : Tr AObj) (nx : Nat) (K : Out → Tr AObj → Nat → Prop) : Prop :=
 let bl := scanB hp 60 0 (args.foldl scan0 [])
 bif nodupB bl then match mapO (ren bl) args, contsX bl hp bl with
  | some vs0, some cs => e.c vs0 cs fun r cs' => cs'.length = cs.length ∧ K r (putConts bl (backL bl cs') hp) nx
  | _, _ => False
 else False
def Placed (ρ : Place) (l : List (Nat × Bool)) : Prop := ∀ p ∈ l, ∃ x, ρ.pl p.1 = some x
theorem addB_placed {ρ : Place} {l : List (Nat × Bool)} (h : Placed ρ l) {b : Nat} {k : Bool} {x : Nat × Nat × Nat} (hb : ρ.pl b = some x) : Placed ρ (addB b k l) := fun q hq => by
 obtain ⟨b', k'⟩ := q
 rcases addB_mem hq with hq | rfl
 ·exact h _ hq
 ·exact ⟨_, hb⟩
theorem scan0_p {ρ : Place} {l : List (Nat × Bool)} (h : Placed ρ l) {v v' : Value} (hv : VR ρ v v') : Placed ρ (scan0 l v) := by
 cases hv <;> try exact h
 case ptr hb => exact addB_placed h hb
 case slice hb _ _ => exact addB_placed h hb
 case emptySlice hb => exact addB_placed h hb
 case iface ht =>
  cases ht <;> try exact h
  case ptr hb => exact addB_placed h hb
theorem scanL_p {ρ : Place} : ∀ {c : List Value} {l : List (Nat × Bool)}, Placed ρ l → (∀ v ∈ c, ∃ v', VR ρ v v') → Placed ρ (c.foldl scan0 l)
 | [], l, h, _ => h
 | v :: c, l, h, hc => by
  obtain ⟨_, hv⟩ := hc v (by simp)
  exact scanL_p (l := scan0 l v) (scan0_p h hv) fun u hu => hc u (by simp [hu])
theorem scan1_p {ρ : Place} {l : List (Nat × Bool)} (h : Placed ρ l) {v v' : Value} (hv : VR ρ v v') : Placed ρ (scan1 l v) := by
 cases v <;> try exact scan0_p h hv
 case func fn f c =>
  cases fn <;> try exact scan0_p h hv
  cases hv with
  | func _ s1 r1 s2 r2 =>
   have arr : ∀ {x x' : Array Value}, x.size = x'.size → (∀ (i : Nat) (v v' : Value), x[i]? = some v → x'[i]? = some v' → VR ρ v v') → ∀ v ∈ x.toList, ∃ v', VR ρ v v' := fun {x x'} hs hr v hv => by
    obtain ⟨i, hi, rfl⟩ := List.mem_iff_getElem.1 hv
    simp only [Array.length_toList] at hi
    exact ⟨x'[i]'(by omega), hr i _ _ (by simp [hi]) (by simp)⟩
   exact scanL_p (scanL_p h (arr s1 r1)) (arr s2 r2)
theorem scan1L_p {ρ : Place} : ∀ {c : List Value} {l : List (Nat × Bool)}, Placed ρ l → (∀ v ∈ c, ∃ v', VR ρ v v') → Placed ρ (c.foldl scan1 l)
 | [], l, h, _ => h
 | v :: c, l, h, hc => by
  obtain ⟨_, hv⟩ := hc v (by simp)
  exact scan1L_p (l := scan1 l v) (scan1_p h hv) fun u hu => hc u (by simp [hu])
theorem scanB_p {ρ : Place} {W : Base} {hp : Tr AObj} {nx : Nat} {w : World} (hr : Rel ρ W hp nx w) : ∀ {f i : Nat} {l : List (Nat × Bool)}, Placed ρ l → Placed ρ (scanB hp f i l)
 | 0, i, l, h => h
 | f + 1, i, l, h => by
  simp only [scanB]
  split
  ·exact h
  ·rename_i b k hb
   refine scanB_p hr ?_
   cases k with
   | false => exact h
   | true =>
    rw [cond_true]
    split
    ·rename_i c wr hc
     obtain ⟨x, hx⟩ := h (b, true) (List.mem_of_getElem? hb)
     obtain ⟨ob, e1, e2⟩ := hr.obj b _ x.1 x.2.1 x.2.2 hc hx
     cases ob <;> try exact e2.elim
     obtain ⟨_, _, _, k4, _⟩ := e2
     have hall : ∀ v ∈ c, ∃ v', VR ρ v v' := fun v hv => by
      obtain ⟨j, hj, rfl⟩ := List.mem_iff_getElem.1 hv
      obtain ⟨v', _, q⟩ := k4 j _ (List.getElem?_eq_getElem hj)
      exact ⟨v', q⟩
     exact scan1L_p h hall
    ·exact h
theorem xcall_ok {P : Program} {e : XEnt} (he : XEntOk P e) {args : List Value} {hp : Tr AObj} {nx : Nat} {K : Out → Tr AObj → Nat → Prop} (h : xcall e args hp nx K) {W : Base} {ρ : Place} {w : World} {args' : List Value} (hrel : Rel ρ W hp nx w) (hargs : VRL ρ args args') :
  Calls P e.f args'.toArray w fun e w' => ∃ r hp' nx' ρ', K r hp' nx' ∧ r.Ends ρ' e ∧ Rel ρ' W hp' nx' w' ∧ Step ρ ρ' hp hp' nx nx' := by
 unfold xcall at h
 dsimp only at h
 have hplaced : Placed ρ (scanB hp 60 0 (args.foldl scan0 [])) := scanB_p hrel (scan0_placed (l := []) hargs (fun p hp => by cases hp))
 generalize scanB hp 60 0 (args.foldl scan0 []) = bl at h hplaced
 cases hnd : nodupB bl with
 | false => rw [hnd] at h; exact h.elim
 | true =>
  rw [hnd, cond_true] at h
  split at h
  case h_2 => exact h.elim
  rename_i vs0 cs ha hc
  obtain ⟨hlen, hget⟩ := contsX_get hc
  have hvia : ∀ (i : Nat) (x : Nat × Nat × Nat), (ρ.via bl).pl i = some x → ∃ (b : Nat) (k : Bool), bl[i]? = some (b, k) ∧ ρ.pl b = some x := fun i x hx => by
   unfold Place.via at hx
   dsimp only at hx
   split at hx
   ·rename_i p hp
    exact ⟨p.1, p.2, hp, hx⟩
   ·cases hx
  have viaAt : ∀ (i b : Nat) (k : Bool), bl[i]? = some (b, k) → (ρ.via bl).pl i = ρ.pl b := fun i b k hi => by unfold Place.via; simp [hi]
  let mu : Nat → Prop := fun c => ∃ (i b : Nat) (k : Bool) (x : Nat × Nat × Nat), bl[i]? = some (b, k) ∧ ρ.pl b = some x ∧ x.1 = c
  have hobj : ∀ i o x, (hpOf cs).get i = some o → (ρ.via bl).pl i = some x → ∃ (b : Nat) (k : Bool) (c0 c : List Value), bl[i]? = some (b, k) ∧ ρ.pl b = some x ∧ mapO (ren0 bl) c0 = some c ∧ o = .cells c true ∧ hp.get b = some (.cells c0 true) := fun i o x ho hx => by
   obtain ⟨b, k, h1, h2⟩ := hvia i x hx
   obtain ⟨c0, c, h3, h4, h5⟩ := hget i b k h1
   rw [hpOf_get, h3] at ho
   cases ho
   exact ⟨b, k, c0, c, h1, h2, h5, rfl, h4⟩
  have muNew : ∀ c, mu c → ¬ W.old c := fun c ⟨i, b, k, x, h1, h2, h3⟩ => by
   obtain ⟨cc, _, _, h4, _⟩ := hget i b k h1
   obtain ⟨ob, _, ho⟩ := hrel.obj b _ x.1 x.2.1 x.2.2 h4 h2
   cases ob <;> try exact ho.elim
   rw [← h3]
   exact ho.2.2.2.2 rfl
  have hrel1 : Rel (ρ.via bl) ⟨w, mu, ρ.fr, []⟩ (hpOf cs) cs.length w := by
   refine ⟨fun i x hx => ?_, fun i o c s z ho hx => ?_, fun i j x y o1 o2 g1 g2 hx hy hxy => ?_, fun i hi => ?_, ⟨rfl, rfl, rfl, Nat.le_refl _, fun _ _ => rfl⟩, hrel.frz, fun i o c s z ho _ hx => ?_, fun c ob hc => .inl hc⟩
   ·obtain ⟨b, k, h1, h2⟩ := hvia i x hx
    refine ⟨?_, (hrel.dom b x h2).2⟩
    rw [hlen]
    exact (List.getElem?_eq_some_iff.1 h1).1
   ·obtain ⟨b, k, c0, cc, h1, h2, h3, rfl, h4⟩ := hobj i o _ ho hx
    obtain ⟨ob, e1, e2⟩ := hrel.obj b _ c s z h4 h2
    refine ⟨ob, e1, ?_⟩
    cases ob <;> try exact e2.elim
    obtain ⟨k1, k2, k3, k4, k5⟩ := e2
    obtain ⟨m1, m2⟩ := mapO_get h3
    refine ⟨k1, by rw [m1]; exact k2, k3, fun j v hv => ?_, fun _ ho' => ho'.2 ⟨i, b, k, _, h1, h2, rfl⟩⟩
    obtain ⟨u, hu, hr0⟩ := m2 j v hv
    obtain ⟨v', q1, q2⟩ := k4 j u hu
    exact ⟨v', q1, ren0_sound hr0 q2⟩
   ·obtain ⟨b, k, c0, cc, h1, h2, h3, _, h4⟩ := hobj i o1 _ g1 hx
    obtain ⟨b', k', c0', cc', r1, r2, r3, _, r4⟩ := hobj j o2 _ g2 hy
    have e := hrel.inj b b' x y _ _ h4 r4 h2 r2 hxy
    subst e
    exact nodupB_inj hnd h1 r1
   ·rw [hpOf_get, List.getElem?_eq_none hi]; rfl
   ·obtain ⟨b, k, c0, cc, h1, h2, h3, _, h4⟩ := hobj i o _ ho hx
    exact hrel.apart b _ c s z h4 rfl h2
  have hargs1 : VRL (ρ.via bl) vs0 args' := mapO_sound (fun _ _ _ => ren_sound) ha hargs
  have hpl1 : ∀ b, b < cs.length → ∃ x, (ρ.via bl).pl b = some x := fun i hi => by
   have hib : i < bl.length := by omega
   obtain ⟨x, hx⟩ := hplaced bl[i] (List.getElem_mem hib)
   exact ⟨x, by rw [viaAt i bl[i].1 bl[i].2 (List.getElem?_eq_getElem hib)]; exact hx⟩
  refine (he vs0 cs _ h ⟨w, mu, ρ.fr, []⟩ (ρ.via bl) w args' hpl1 hrel1 hargs1).mono ?_
  rintro e' w' ⟨r, hp1, nx1, ρ1, hP, hv, hr, hg⟩
  unfold xpost at hP
  split at hP
  case h_2 => exact hP.elim
  rename_i cs' hcs'
  obtain ⟨hnl', hlen', hK⟩ := hP
  obtain ⟨_, hget'⟩ := outs_get hcs'
  have hnls' := okAll_get hnl'
  have hlb : cs'.length = bl.length := hlen'.trans hlen
  have hsz : w.heap.size ≤ w'.heap.size := hr.below.size
  have hle : ρ.le ⟨ρ.pl, ρ1.fr, ρ1.gl⟩ := ⟨fun _ _ h => h, fun c x hc => hg.2 c x hc⟩
  have lt : ∀ {c : Nat} {ob : Obj}, w.heap[c]? = some ob → c < w.heap.size := fun {c ob} hc => by
   rcases Nat.lt_or_ge c w.heap.size with h' | h'
   ·exact h'
   ·rw [Array.getElem?_eq_none h'] at hc; cases hc
  have old : ∀ c, c < w.heap.size → ¬ mu c → w'.heap[c]? = w.heap[c]? := fun c hc hm => hr.below.block c ⟨hc, hm⟩
  -- the blocks that were handed over
  have inb : ∀ b, memB b bl = true → ∃ (i : Nat) (k : Bool) (x : Nat × Nat × Nat) (c c' : List Value), bl[i]? = some (b, k) ∧ ρ.pl b = some x ∧ ρ1.pl i = some x ∧ hp.get b = some (.cells c true) ∧ cs'[i]? = some c' ∧ hp1.get i = some (.cells c' true) ∧ (putConts bl (backL bl cs') hp).get b = some (.cells (c'.map (backV bl)) true) := fun b hb => by
   obtain ⟨i, k, hi⟩ := memB_mem hb
   obtain ⟨x, hx⟩ := hplaced (b, k) (List.mem_of_getElem? hi)
   obtain ⟨c, _, _, h4, _⟩ := hget i b k hi
   have hil : i < bl.length := (List.getElem?_eq_some_iff.1 hi).1
   have hc' : cs'[i]? = some (cs'[i]'(by omega)) := List.getElem?_eq_getElem (by omega)
   have h5 := hget' i _ hc'
   rw [Nat.zero_add] at h5
   exact ⟨i, k, x, c, _, hi, hx, hg.1 i x (by omega) (by rw [viaAt i b k hi]; exact hx), h4, hc', h5, (putConts_get hnd (by unfold backL; rw [List.length_map]; exact hlb) b).1 i k _ hi (by unfold backL; rw [List.getElem?_map, hc']; rfl)⟩
  have outb : ∀ b, memB b bl = false → (putConts bl (backL bl cs') hp).get b = hp.get b := fun b hb => (putConts_get hnd (by unfold backL; rw [List.length_map]; exact hlb) b).2 hb
  have notmu : ∀ b o x, memB b bl = false → hp.get b = some o → ρ.pl b = some x → ¬ mu x.1 := fun b o x hb ho hx ⟨i, b', k, x', h1, h2, h3⟩ => by
   obtain ⟨c, _, _, h4, _⟩ := hget i b' k h1
   have e := hrel.inj b' b x' x _ _ h4 ho h2 hx h3
   subst e
   rw [memB_of h1] at hb
   cases hb
  have live : ∀ b o, (putConts bl (backL bl cs') hp).get b = some o → ∃ o', hp.get b = some o' ∧ (o.wr = true → o'.wr = true) := fun b o ho => by
   cases hb : memB b bl with
   | true =>
    obtain ⟨i, k, x, c, c', h1, h2, h3, h4, h5, h6, h7⟩ := inb b hb
    exact ⟨_, h4, fun _ => rfl⟩
   | false => rw [outb b hb] at ho; exact ⟨o, ho, fun h => h⟩
  have hback : ∀ (c' : List Value), c' ∈ cs' → ∀ u ∈ c', ∀ u', VR ρ1 u u' → VR ⟨ρ.pl, ρ1.fr, ρ1.gl⟩ (backV bl u) u' := fun c' hc' u hu u' hvr => by
   have hok := hnls' c' hc' u hu
   have base : backV bl u = u → nl1 u = true → VR ⟨ρ.pl, ρ1.fr, ρ1.gl⟩ (backV bl u) u' := fun e hn => by
    rw [e]
    have h0 : VR0 ρ1.fr u u' := nl1_sound hn hvr
    exact VR0.lift (ρ := ⟨ρ.pl, ρ1.fr, ρ1.gl⟩) h0
   cases u <;> try exact base rfl hok
   case pointer a =>
    cases a with
    | none => exact base rfl hok
    | some a =>
     obtain ⟨i, o, sp⟩ := a
     cases sp with
     | some sp => exact base rfl hok
     | none =>
      have hi : i < cs.length := Nat.le_of_ble_eq_true hok
      have hib : i < bl.length := by omega
      obtain ⟨x, hx⟩ := hplaced bl[i] (List.getElem_mem hib)
      have h1 := hg.1 i x hi (by rw [viaAt i bl[i].1 bl[i].2 (List.getElem?_eq_getElem hib)]; exact hx)
      show VR _ (match bl[i]? with | some p => _ | none => _) _
      rw [List.getElem?_eq_getElem hib]
      cases hvr with
      | ptr hb =>
       have hb' := hb
       rw [h1] at hb'
       cases hb'
       exact .ptr hx
  have hends : r.Ends ⟨ρ.pl, ρ1.fr, ρ1.gl⟩ e' := by
   cases r with
   | ret v => obtain ⟨v', e, h0⟩ := hv; exact ⟨v', e, VR0.lift (ρ := ⟨ρ.pl, ρ1.fr, ρ1.gl⟩) h0⟩
   | pan v => obtain ⟨v', e, h0⟩ := hv; exact ⟨v', e, VR0.lift (ρ := ⟨ρ.pl, ρ1.fr, ρ1.gl⟩) h0⟩
  refine ⟨r, putConts bl (backL bl cs') hp, nx, ⟨ρ.pl, ρ1.fr, ρ1.gl⟩, hK, hends, ?_, ⟨hle, Nat.le_refl _, fun b hb hn => ⟨hn, ?_⟩⟩⟩
  ·refine ⟨fun b x hb => ⟨(hrel.dom b x hb).1, Nat.lt_of_lt_of_le (hrel.dom b x hb).2 hsz⟩, fun b o c s z ho hx => ?_, fun b b' x x' o o' h1 h2 hx hx' hxx => ?_, fun b hb => ?_, ⟨hr.below.os.trans hrel.below.os, hr.below.tape.trans hrel.below.tape, hr.below.output.trans hrel.below.output, Nat.le_trans hrel.below.size hsz, fun k hk => ?_⟩, hr.frz, fun b o c s z ho hw hx => ?_, fun c ob hc => ?_⟩
   ·cases hb : memB b bl with
    | true =>
     obtain ⟨i, k, x, c0, c', h1, h2, h3, h4, h5, h6, h7⟩ := inb b hb
     rw [h7] at ho
     cases ho
     have hx' : ρ.pl b = some (c, s, z) := hx
     rw [h2] at hx'
     cases hx'
     obtain ⟨ob, e1, e2⟩ := hr.obj i _ c s z h6 h3
     refine ⟨ob, e1, ?_⟩
     cases ob <;> try exact e2.elim
     obtain ⟨k1, k2, k3, k4, k5⟩ := e2
     refine ⟨k1, by rw [List.length_map]; exact k2, k3, fun j u hu => ?_, fun _ => muNew c ⟨i, b, k, _, h1, h2, rfl⟩⟩
     rw [List.getElem?_map] at hu
     cases hj : c'[j]? with
     | none => rw [hj] at hu; cases hu
     | some u0 =>
      rw [hj] at hu
      cases hu
      obtain ⟨u', q1, q2⟩ := k4 j u0 hj
      exact ⟨u', q1, hback c' (List.mem_of_getElem? h5) u0 (List.mem_of_getElem? hj) u' q2⟩
    | false =>
     rw [outb b hb] at ho
     obtain ⟨ob, e1, e2⟩ := hrel.obj b o c s z ho hx
     exact ⟨ob, by rw [old c (lt e1) (notmu b o _ hb ho hx)]; exact e1, e2.mono hle⟩
   ·obtain ⟨_, g1, _⟩ := live b o h1
    obtain ⟨_, g2, _⟩ := live b' o' h2
    exact hrel.inj b b' x x' _ _ g1 g2 hx hx' hxx
   ·cases hm : memB b bl with
    | true =>
     obtain ⟨i, k, x, c0, c', h1, h2, _⟩ := inb b hm
     have := (hrel.dom b x h2).1
     omega
    | false => rw [outb b hm]; exact hrel.fresh b hb
   ·have hkw : k < w.heap.size := Nat.lt_of_lt_of_le hk.1 hrel.below.size
    rw [old k hkw fun hm => muNew k hm hk]
    exact hrel.below.block k hk
   ·show ρ1.fr c = none
    cases hcf : ρ1.fr c with
    | none => rfl
    | some ob =>
     exfalso
     obtain ⟨o', g1, g2⟩ := live b o ho
     have hcl := (hrel.dom b _ hx).2
     cases hb : memB b bl with
     | true =>
      obtain ⟨i, k, x, c0, c', h1, h2, h3, h4, h5, h6, h7⟩ := inb b hb
      have hx' : ρ.pl b = some (c, s, z) := hx
      rw [h2] at hx'
      cases hx'
      have := hr.apart i _ c s z h6 rfl h3
      rw [this] at hcf
      cases hcf
     | false =>
      rcases hr.frn c ob hcf with q | q
      ·have h5 : ρ.fr c = some ob := q
       rw [hrel.apart b o' c s z g1 (g2 hw) hx] at h5
       cases h5
      ·rw [outb b hb] at ho
       exact q ⟨hcl, notmu b o _ hb ho hx⟩
   ·rcases hr.frn c ob hc with q | q
    ·exact hrel.frn c ob q
    ·refine .inr fun h2 => ?_
     have hcw : c < w.heap.size := Nat.lt_of_lt_of_le h2.1 hrel.below.size
     exact q ⟨hcw, fun hm => muNew c hm h2⟩
  ·refine outb b ?_
   cases hm : memB b bl with
   | false => rfl
   | true =>
    obtain ⟨i, k, x, c0, c', h1, h2, _⟩ := inb b hm
    rw [h2] at hn
    cases hn
def xtabCall (tab : List XEnt) (next : PCall) : PCall := fun f args hp nx K =>
 match xentOf f tab with
 | some e => xcall e args hp nx K
 | none => next f args hp nx K
theorem xtabCall_ok {P : Program} {tab : List XEnt} {next : PCall} (ht : ∀ e ∈ tab, XEntOk P e) (hn : PCallOk P next) : PCallOk P (xtabCall tab next) := by
 intro f args hp nx K h W ρ w args' hrel hargs
 unfold xtabCall at h
 split at h
 ·rename_i e he
  obtain ⟨h1, rfl⟩ := xentOf_mem he
  exact xcall_ok (ht e h1) h hrel hargs
 ·exact hn f args hp nx K h W ρ w args' hrel hargs
def inlP (P : Program) (inl : List FuncId) (next : PCall) : Nat → PCall
 | 0 => next
 | k + 1 => fun f args hp nx K => bif inl.contains f then match P.funcs[f]? with
   | some fn => match fn.body with
    | some c => vrunP P (inlP P inl next k) (slotsN args fn) [] [] (fun _ _ _ => False) (fun st => match ares P st.hp st.tm fn with | some v => K (.ret v) st.hp st.nx | none => False) (fun v st => K (.pan v) st.hp st.nx) 1000 (.code c) [] ⟨putArgs 0 args .e, hp, nx⟩
    | none => False
   | none => False
  else next f args hp nx K
theorem inlP_ok {P : Program} (hm : P.follows .mixedOrders = true) {inl : List FuncId} {next : PCall} (hn : PCallOk P next) : ∀ k, PCallOk P (inlP P inl next k)
 | 0 => hn
 | k + 1 => by
  intro f args hp nx K h W ρ w args' hrel hargs
  unfold inlP at h
  cases hi : inl.contains f with
  | false => rw [hi] at h; exact hn f args hp nx K h W ρ w args' hrel hargs
  | true =>
   rw [hi, cond_true] at h
   split at h
   case h_2 => exact h.elim
   rename_i fn hf
   split at h
   case h_2 => exact h.elim
   rename_i c hc
   refine calls_of_wp hf hc ?_
   have fin : ∀ st, (match ares P st.hp st.tm fn with | some v => K (.ret v) st.hp st.nx | none => False) → ∀ ρ' a w', SRel ρ' W.bare (slotsN args fn) st a w' → Step ρ ρ' hp st.hp nx st.nx →
     a.defers = [] ∧ ∃ v', (results fn a.tmps).run P w' = .ok v' w' ∧ ∃ r hp' nx' ρ', K r hp' nx' ∧ r.Ends ρ' (Ending.returned v') ∧ Rel ρ' W hp' nx' w' ∧ Step ρ ρ' hp hp' nx nx' := by
    intro st hst ρ' a w' hs hr
    split at hst
    case h_2 => exact hst.elim
    rename_i v hv
    obtain ⟨v', r1, r2⟩ := ares_sound hs.rel hs.frame hv
    exact ⟨hs.frame.defers, v', r1, .ret v, st.hp, st.nx, ρ', hst, ⟨v', rfl, r2⟩, hs.rel.unbare, hr⟩
   exact vrunP_sound (W := W.bare) (R := fun ρ' st => Step ρ ρ' hp st.hp nx st.nx) (inlP_ok hm hn k) hm (fun _ _ _ _ h k => h.trans k)
    (fun b k st h ρ' a w hs hr => by
     unfold vloop at h
     split at h
     case h_2 => exact h.elim
     split at h
     case h_2 => exact h.elim
     split at h
     case h_2 => exact h.elim
     exact h.2.2.elim) (fun st hst ρ' a w hs hr => ⟨fin st hst ρ' a w hs hr, fin st hst ρ' a w hs hr⟩)
    (fun v st hst ρ' v' a w' hv hs hr => ⟨hs.frame.defers, .pan v, st.hp, st.nx, ρ', hst, ⟨v', rfl, hv⟩, hs.rel.unbare, hr⟩) 1000 (.code c) [] _ h ρ _ w (start_rel rfl hrel.bare hargs fn) (.refl _ _ _)
def vcX (P : Program) (pc : PCall) (f : FuncId) (lt : List (Nat × List Nat)) (conts : List (List Value)) (args : List Value) (H : Code → List Fr → AS → Prop) (Post : Out → List (List Value) → Prop) : Prop :=
 vrunP P pc (slotsN args (fnAt P f)) lt (List.replicate conts.length true) H (finX P (fnAt P f) conts.length (xpost conts.length Post)) (panX conts.length (xpost conts.length Post)) 3000 (.code (codeOf (fnAt P f))) [] ⟨putArgs 0 args .e, hpOf conts, conts.length⟩
def vcLX (P : Program) (pc : PCall) (f : FuncId) (na : List Value) (lt : List (Nat × List Nat)) (n : Nat) (r : Nat) (st : AS) (H : Code → List Fr → AS → Prop) (Post : Out → List (List Value) → Prop) : Prop :=
 vrunP P pc (slotsN na (fnAt P f)) lt (List.replicate n true) H (finX P (fnAt P f) n (xpost n Post)) (panX n (xpost n Post)) 3000 (.code (lpC P f r)) (.loop (lpC P f r) :: lpK P f r) st
def OkX (P : Program) (f : FuncId) (na : List Value) (n : Nat) (Post : Out → List (List Value) → Prop) : Code → List Fr → AS → Prop :=
 GoodX P (slotsN na (fnAt P f)) (List.replicate n true) (finX P (fnAt P f) n (xpost n Post)) (panX n (xpost n Post))
theorem spec_X {P : Program} {pc : PCall} (hcall : PCallOk P pc) (hm : P.follows .mixedOrders = true) {f : FuncId} (hf : (P.funcs[f]?).isSome = true) (hc : (fnAt P f).body.isSome = true) (lt : List (Nat × List Nat)) {conts : List (List Value)} {args : List Value} {Post : Out → List (List Value) → Prop}
  {X : Prop} (e : vcX P pc f lt conts args (OkX P f args conts.length Post) Post = X) (h : X) : SpecX P f conts.length (hpOf conts) args (xpost conts.length Post) := by
 have hf' : P.funcs[f]? = some (fnAt P f) := by
  unfold fnAt
  cases hx : P.funcs[f]? with
  | none => rw [hx] at hf; cases hf
  | some x => rfl
 have hc' : (fnAt P f).body = some (codeOf (fnAt P f)) := by
  unfold codeOf
  cases hx : (fnAt P f).body with
  | none => rw [hx] at hc; cases hc
  | some x => rfl
 have h' := Eq.mpr e h
 unfold vcX OkX at h'
 have hl : (List.replicate conts.length true).length = conts.length := List.length_replicate ..
 have := specX_of (base := List.replicate conts.length true) (Post := xpost conts.length Post) (hp := hpOf conts) (args := args) hcall hm hf' hc' 3000 (lt := lt) (by rw [hl]; exact h')
 rw [hl] at this
 exact this
theorem ok_X {P : Program} {pc : PCall} (hcall : PCallOk P pc) (hm : P.follows .mixedOrders = true) {f : FuncId} {na : List Value} (lt : List (Nat × List Nat)) {n r : Nat} {st : AS} {Post : Out → List (List Value) → Prop}
  {X : Prop} (e : vcLX P pc f na lt n r st (OkX P f na n Post) Post = X) (h : X) : OkX P f na n Post (lpC P f r) (lpK P f r) st := goodX_round hcall hm 3000 (Eq.mpr e h)
end Go.Proofs.YtegjnjmimfgijaaGreatDoor

noncomputable section
namespace Go.Proofs.YtegjnjmimfgijaaGreatDoor
open Go Go.RowKit
def tabNil (P : Program) (tab : List Ent) (next : PCall) : PCall := fun f args hp nx K =>
 match entOf f tab with
 | some e => match frzTs P nx (fnAt P f).params.toList args hp with
  | some (us, hp', ob) => bif us.all nl then ob ∧ e.c us fun v => K (.ret v) hp' nx else False
  | none => False
 | none => next f args hp nx K
theorem tabNil_ok {P : Program} {tab : List Ent} {next : PCall} (ht : ∀ e ∈ tab, EntOk P e) (hn : PCallOk P next) : PCallOk P (tabNil P tab next) := by
 intro f args hp nx K h W ρ w args' hrel hargs
 unfold tabNil at h
 split at h
 ·rename_i e he
  obtain ⟨h1, rfl⟩ := entOf_mem he
  split at h
  case h_2 => exact h.elim
  rename_i us hp' ob hf
  cases ha : us.all nl with
  | false => rw [ha] at h; exact h.elim
  | true =>
   rw [ha, cond_true] at h
   obtain ⟨ρ1, hr1, hs1, hlen, hvr⟩ := frzTs_sound hrel hargs hf h.1
   refine ((ht e h1 us _ h.2).call ha hr1 (.of hlen fun i v v' a b => VR0.lift (ρ := ρ1) (hvr i v v' a b))).mono ?_
   rintro e' w' ⟨v, v', ρ', hK, rfl, g1, _, g2, g3, _⟩
   exact ⟨.ret v, hp', nx, ρ', hK, ⟨v', rfl, g1⟩, g2, hs1.trans g3⟩
 ·exact hn f args hp nx K h W ρ w args' hrel hargs
end Go.Proofs.YtegjnjmimfgijaaGreatDoor

noncomputable section
namespace Go.Proofs.YtegjnjmimfgijaaGreatDoor
open Go Go.RowKit
class Enc (α : Type) where
 sz : Nat
 cells : α → List Value
 len : ∀ a, (cells a).length = sz
 nl : ∀ a, NLs (cells a)
def elt : List Value → Value
 | [v] => v
 | l => .agg l.toArray
theorem elt_cells : ∀ {l : List Value}, NLs l → (elt l).cells = l.toArray
 | [], _ => rfl
 | [v], h => by
  have := h v (by simp)
  cases v <;> first | rfl | (simp [nl1] at this)
 | _ :: _ :: _, _ => rfl
def encL {α : Type} [Enc α] (l : List α) : Array Value := (l.map fun a => elt (Enc.cells a)).toArray
instance instEncList {α : Type} [Enc α] : Enc (List α) where
 sz := 1
 cells l := [tree (Enc.sz α) l.length (encL l)]
 len _ := rfl
 nl l := by intro v hv; simp at hv; subst hv; rfl
instance : Enc Int where
 sz := 1
 cells n := [.int .i64 n]
 len _ := rfl
 nl n := by intro v hv; simp at hv; subst hv; rfl
instance : Enc ByteArray where
 sz := 1
 cells s := [.string s]
 len _ := rfl
 nl n := by intro v hv; simp at hv; subst hv; rfl
instance : Enc Bool where
 sz := 1
 cells b := [.bool b]
 len _ := rfl
 nl n := by intro v hv; simp at hv; subst hv; rfl
instance {α β : Type} [Enc α] [Enc β] : Enc (α × β) where
 sz := Enc.sz α + Enc.sz β
 cells p := Enc.cells p.1 ++ Enc.cells p.2
 len p := by rw [List.length_append, Enc.len, Enc.len]
 nl p := by
  intro v hv
  rcases List.mem_append.1 hv with h | h
  ·exact Enc.nl p.1 v h
  ·exact Enc.nl p.2 v h
theorem cellAt_encL {α : Type} [Enc α] {l : List α} {i j : Nat} {a : α} (h : l[i]? = some a) : cellAt (encL l) i j = ((Enc.cells a)[j]?).getD undef := by
 unfold cellAt encL
 simp [Array.getD_eq_getD_getElem?, h, elt_cells (Enc.nl a)]
theorem cellAt_encL' {α : Type} [Enc α] {l : List α} {i j : Nat} (h : i < l.length) : cellAt (encL l) i j = ((Enc.cells l[i])[j]?).getD undef := cellAt_encL (by simp)
theorem toI_int (k : IntKind) (n : Int) : toI (.int k n) = n := rfl
theorem toN_tree (sz n : Nat) (els : Array Value) : toN (tree sz n els) = n := rfl
theorem toE_tree (sz n : Nat) (els : Array Value) : toE (tree sz n els) = els := rfl
abbrev OkP (f : FuncId) (na : List Value) (r : Nat) (Post : Value → Prop) (st : AS) : Prop := OkAt Tryz.prog f na Post (lpC Tryz.prog f r) (lpK Tryz.prog f r) st
theorem mixed : Tryz.prog.follows .mixedOrders = true := by kernel_rfl
end Go.Proofs.YtegjnjmimfgijaaGreatDoor

noncomputable section
namespace Go.Proofs.YtegjnjmimfgijaaGreatDoor
open Go Go.RowKit
theorem wrap64 {n : Int} (h1 : -9223372036854775808 ≤ n) (h2 : n < 9223372036854775808) : IntKind.i64.wrap n = n := by
 have e : IntKind.i64.wrap n = if (n % 18446744073709551616 : Int) ≥ 9223372036854775808 then n % 18446744073709551616 - 18446744073709551616 else n % 18446744073709551616 := by
  unfold IntKind.wrap
  simp [IntKind.signed, IntKind.bits]
 rw [e]
 split <;> omega
abbrev Short {α : Type} (l : List α) : Prop := l.length < 2 ^ 62
theorem wrapNat {n : Nat} (h : n < 2 ^ 62) : IntKind.i64.wrap (n : Int) = n := wrap64 (by omega) (by omega)
theorem wrapSucc {n : Nat} (h : n < 2 ^ 62) : IntKind.i64.wrap ((n : Int) + 1) = ((n + 1 : Nat) : Int) := by
 rw [wrap64 (by omega) (by omega)]; omega
structure Pt where
 x : Int
 y : Int
 deriving DecidableEq
theorem Pt.ext' {p q : Pt} (h1 : p.x = q.x) (h2 : p.y = q.y) : p = q := by
 cases p; cases q; cases h1; cases h2; rfl
instance : Inhabited Pt := ⟨⟨0, 0⟩⟩
instance : Enc Pt where
 sz := 2
 cells p := [.int .i64 p.x, .int .i64 p.y]
 len _ := rfl
 nl p := by intro v hv; simp at hv; rcases hv with rfl | rfl <;> rfl
abbrev trPt (l : List Pt) : Value := tree 2 l.length (encL l)
theorem cell_pt {l : List Pt} {i : Nat} (h : i < l.length) : cellAt (encL l) i 0 = .int .i64 l[i].x ∧ cellAt (encL l) i 1 = .int .i64 l[i].y := by
 rw [cellAt_encL' h, cellAt_encL' h]
 exact ⟨rfl, rfl⟩
abbrev trPts (l : List (List Pt)) : Value := tree 1 l.length (encL l)
theorem cell_pts {l : List (List Pt)} {i : Nat} (h : i < l.length) : cellAt (encL l) i 0 = trPt l[i] := by
 rw [cellAt_encL' h]
 rfl
structure Vec3 where
 x : Int
 y : Int
 z : Int
 deriving DecidableEq
structure Part where
 id : ByteArray
 rev : Int
 kind : Int
 node : ByteArray
 grade : ByteArray
 thick : Int
 outer : List Pt
 holes : List (List Pt)
 sect : ByteArray
 long : Int
 mass : Int
 centre : Vec3
 at_ : Vec3
 turn : Int
 deriving DecidableEq
def partC (p : Part) : List Value := [.string p.id, .int .i64 p.rev, .int .i64 p.kind, .string p.node, .string p.grade, .int .i64 p.thick, trPt p.outer, trPts p.holes, .string p.sect, .int .i64 p.long, .int .i64 p.mass,
 .int .i64 p.centre.x, .int .i64 p.centre.y, .int .i64 p.centre.z, .int .i64 p.at_.x, .int .i64 p.at_.y, .int .i64 p.at_.z, .int .i64 p.turn]
abbrev partV (p : Part) : Value := .agg (partC p).toArray
abbrev shapeV (o : List Pt) (h : List (List Pt)) : Value := .agg [trPt o, trPts h].toArray
theorem down {p : Nat → Prop} {n : Nat} (h0 : p n) (h : ∀ k, k < n → p (k + 1) → p k) : p 0 := by
 have : ∀ j k, k + j = n → p k := by
  intro j
  induction j with
  | zero => intro k hk; rw [show k = n by omega]; exact h0
  | succ j ih => intro k hk; exact h k (by omega) (ih (k + 1) (by omega))
 exact this n 0 (by omega)
theorem list_same {α : Type} {l m : List α} (hlen : l.length = m.length) (h : ∀ i : Nat, i < l.length → l[i]? = m[i]?) : l = m :=
 List.ext_getElem? fun i => by
  rcases Nat.lt_or_ge i l.length with h' | h'
  ·exact h i h'
  ·rw [List.getElem?_eq_none h', List.getElem?_eq_none (by omega)]
theorem same_next {α : Type} {l m : List α} {k : Nat} (h1 : k < l.length) (h2 : k < m.length) (h : ∀ i : Nat, i < k → l[i]? = m[i]?) (he : l[k] = m[k]) : ∀ i : Nat, i < k + 1 → l[i]? = m[i]? := fun i hi => by
 rcases Nat.lt_or_ge i k with h' | h'
 ·exact h i h'
 ·have : i = k := by omega
  subst this
  rw [List.getElem?_eq_getElem h1, List.getElem?_eq_getElem h2, he]
theorem ne_at {α : Type} {l m : List α} {k : Nat} (h1 : k < l.length) (h2 : k < m.length) (h : l[k] ≠ m[k]) : l ≠ m := fun e => by subst e; exact h rfl
end Go.Proofs.YtegjnjmimfgijaaGreatDoor

noncomputable section
namespace Go.Proofs.YtegjnjmimfgijaaGreatDoor
open Go Go.RowKit
set_option maxRecDepth 100000
def be : Nat → Nat → List UInt8
 | 0, _ => []
 | n + 1, v => UInt8.ofNat (v / 256 ^ n) :: be n v
def hd (k v : Nat) : List UInt8 :=
 if v < 24 then [UInt8.ofNat (32 * k + v)]
 else if v < 256 then UInt8.ofNat (32 * k + 24) :: be 1 v
 else if v < 65536 then UInt8.ofNat (32 * k + 25) :: be 2 v
 else if v < 4294967296 then UInt8.ofNat (32 * k + 26) :: be 4 v
 else UInt8.ofNat (32 * k + 27) :: be 8 v
def b8 (x : UInt8) : Value := .int .u8 x.toNat
def cellsB (l : List UInt8) : List Value := l.map b8
theorem byteOf_b8 (x : UInt8) : byteOf (b8 x) = x := by
 show UInt8.ofNat ((x.toNat : Int)).toNat = x
 simp
theorem bytesL_cellsB (l : List UInt8) : bytesL (cellsB l) = ⟨l.toArray⟩ := by
 unfold bytesL cellsB
 rw [List.map_map, show (byteOf ∘ b8) = id from funext byteOf_b8, List.map_id]
theorem allU8_cellsB (l : List UInt8) : AllU8 (cellsB l) := by
 intro v hv
 obtain ⟨x, _, rfl⟩ := List.mem_map.1 hv
 exact ⟨_, rfl⟩
theorem nls_cellsB (l : List UInt8) : NLs (cellsB l) := by
 intro v hv
 obtain ⟨x, _, rfl⟩ := List.mem_map.1 hv
 rfl
theorem cellsB_len (l : List UInt8) : (cellsB l).length = l.length := by simp [cellsB]
theorem be_len : ∀ n v, (be n v).length = n
 | 0, _ => rfl
 | n + 1, v => by simp [be, be_len n v]
theorem wrapU8 (n : Nat) : IntKind.u8.wrap (n : Int) = ((UInt8.ofNat n).toNat : Int) := by
 unfold IntKind.wrap
 simp [IntKind.signed, IntKind.bits]
theorem wrapU64 {n : Nat} (h : n < 18446744073709551616) : IntKind.u64.wrap (n : Int) = n := by
 unfold IntKind.wrap
 simp [IntKind.signed, IntKind.bits]
 omega
theorem wrapU8s {n : Nat} (h : n < 256) : IntKind.u8.wrap (n : Int) = n := by rw [wrapU8]; simp; omega
theorem u8_small {n : Nat} (h : n < 256) : (UInt8.ofNat n).toNat = n := by simp; omega
theorem orBytes : ∀ k < 8, ∀ v < 32, ((BitVec.ofInt 8 ((32 * k : Nat) : Int) ||| BitVec.ofInt 8 ((v : Nat) : Int)).toNat) = 32 * k + v := by decide
theorem shl5 {k : Nat} (h : k < 8) : IntKind.u8.wrap (IntKind.i64.wrap ((k : Int) * 2 ^ 5)) = ((32 * k : Nat) : Int) := by
 rw [wrap64 (by omega) (by omega), show (k : Int) * 2 ^ 5 = ((32 * k : Nat) : Int) by omega, wrapU8, u8_small (by omega)]
theorem fdivNat (v m : Nat) : Int.fdiv (v : Int) (2 ^ m) = ((v / 2 ^ m : Nat) : Int) := by
 rw [Int.fdiv_eq_ediv_of_nonneg _ (Int.le_of_lt (Int.pow_pos (by decide)))]
 simp
theorem fdivNat' (v m : Nat) : Int.fdiv (v : Int) (2 ^ min ((m : Int).toNat) 64) = ((v / 2 ^ min m 64 : Nat) : Int) := fdivNat v _
theorem e_head (k v : Int) (H : Code → List Fr → AS → Prop) (Post : List Value → Nat → Nat → Prop) : vcF Tryz.prog noCall 56 [(5, [0, 2, 7, 8]), (9, [0, 2, 9])] [.slice none 0 0, .int .i64 k, .int .u64 v] H Post = (T2 (toI (vi 0) ≤ 5 ∧ T4 (pIf (decide (v < 24)) (T4 (T2 (1 ≤ 1 ∧ 1 ≤ 33554432 ∧ true = true ∧ 1 = 1 ∧ True ∧ (1 = 1 ∧ NLs [Value.int IntKind.u8 (IntKind.wrap IntKind.u8 (↑(BitVec.toNat (BitVec.ofInt 8 (IntKind.wrap IntKind.u8 (IntKind.wrap IntKind.i64 (k * 2 ^ 5))) ||| BitVec.ofInt 8 (IntKind.wrap IntKind.u8 v))) : Int))]) ∧ Post [Value.int IntKind.u8 (IntKind.wrap IntKind.u8 (↑(BitVec.toNat (BitVec.ofInt 8 (IntKind.wrap IntKind.u8 (IntKind.wrap IntKind.i64 (k * 2 ^ 5))) ||| BitVec.ofInt 8 (IntKind.wrap IntKind.u8 v))) : Int))] 1 1))) (T2 (True ∧ H (lpC Tryz.prog 56 5) (lpK Tryz.prog 56 5) (stV [(0, some (Value.slice none 0 0)), (2, some (Value.int IntKind.u64 v)), (7, some (Value.int IntKind.u8 (IntKind.wrap IntKind.u8 (IntKind.wrap IntKind.i64 (k * 2 ^ 5))))), (8, some (vi 0))] [] 0)))))) := by kernel_rfl
theorem l_head5 (k v f s : Int) (H : Code → List Fr → AS → Prop) (Post : List Value → Nat → Nat → Prop) : vcLF Tryz.prog noCall 56 [.slice none 0 0, .int .i64 k, .int .u64 v] [(5, [0, 2, 7, 8]), (9, [0, 2, 9])] 5 (stV [(0, some (.slice none 0 0)), (2, some (.int .u64 v)), (7, some (.int .u8 f)), (8, some (.int .i64 s))] [] 0) H Post = (T2 (pIf (decide (s < 3)) (T2 (True ∧ 0 ≤ s ∧ 0 ≤ IntKind.wrap IntKind.u64 (8 * 2 ^ min (Int.toNat s) 64) ∧ True ∧ pIf (!decide (Int.fdiv v (2 ^ min (Int.toNat (IntKind.wrap IntKind.u64 (8 * 2 ^ min (Int.toNat s) 64))) 64) = 0)) (T4 (T2 (H (lpC Tryz.prog 56 5) (lpK Tryz.prog 56 5) (stV [(0, some (Value.slice none 0 0)), (2, some (Value.int IntKind.u64 v)), (7, some (Value.int IntKind.u8 f)), (8, some (vi (IntKind.wrap IntKind.i64 (s + 1))))] [] 0)))) (T8 (1 ≤ 1 ∧ 1 ≤ 33554432 ∧ true = true ∧ 1 = 1 ∧ T2 (0 ≤ s ∧ T2 (True ∧ (NLs [Value.int IntKind.u8 (IntKind.wrap IntKind.u8 (↑(BitVec.toNat (BitVec.ofInt 8 f ||| BitVec.ofInt 8 (IntKind.wrap IntKind.u8 (IntKind.wrap IntKind.i64 (24 + s))))) : Int))] ∧ True) ∧ H (lpC Tryz.prog 56 9) (lpK Tryz.prog 56 9) (stV [(0, some (Value.slice (some (Addr.mk 0 0 none)) 1 1)), (2, some (Value.int IntKind.u64 v)), (9, some (vi (IntKind.wrap IntKind.i64 (IntKind.wrap IntKind.i64 (8 * 2 ^ min (Int.toNat s) 64) - 8))))] [(0, some (AObj.cells [Value.int IntKind.u8 (IntKind.wrap IntKind.u8 (↑(BitVec.toNat (BitVec.ofInt 8 f ||| BitVec.ofInt 8 (IntKind.wrap IntKind.u8 (IntKind.wrap IntKind.i64 (24 + s))))) : Int))] true))] 1))))))) (T8 (True ∧ 1 ≤ 1 ∧ 1 ≤ 33554432 ∧ true = true ∧ 1 = 1 ∧ T2 (0 ≤ s ∧ T2 (True ∧ (NLs [Value.int IntKind.u8 (IntKind.wrap IntKind.u8 (↑(BitVec.toNat (BitVec.ofInt 8 f ||| BitVec.ofInt 8 (IntKind.wrap IntKind.u8 (IntKind.wrap IntKind.i64 (24 + s))))) : Int))] ∧ True) ∧ H (lpC Tryz.prog 56 9) (lpK Tryz.prog 56 9) (stV [(0, some (Value.slice (some (Addr.mk 0 0 none)) 1 1)), (2, some (Value.int IntKind.u64 v)), (9, some (vi (IntKind.wrap IntKind.i64 (IntKind.wrap IntKind.i64 (8 * 2 ^ min (Int.toNat s) 64) - 8))))] [(0, some (AObj.cells [Value.int IntKind.u8 (IntKind.wrap IntKind.u8 (↑(BitVec.toNat (BitVec.ofInt 8 f ||| BitVec.ofInt 8 (IntKind.wrap IntKind.u8 (IntKind.wrap IntKind.i64 (24 + s))))) : Int))] true))] 1))))))) := by kernel_rfl
theorem l_head9 (k v s : Int) (n : Nat) (l : List Value) (H : Code → List Fr → AS → Prop) (Post : List Value → Nat → Nat → Prop) : vcLF Tryz.prog noCall 56 [.slice none 0 0, .int .i64 k, .int .u64 v] [(5, [0, 2, 7, 8]), (9, [0, 2, 9])] 9 (stV [(0, some (.slice (some ⟨0, 0, none⟩) n 1)), (2, some (.int .u64 v)), (9, some (.int .i64 s))] [(0, some (.cells l true))] 1) H Post = (T2 (pIf (decide (s ≥ 0)) (T2 (True ∧ 0 ≤ s ∧ T2 (1 ≤ 1 ∧ n + 1 ≤ 33554432 ∧ true = true ∧ 1 = 1 ∧ 0 + n * 1 = List.length l ∧ T4 (True ∧ (NLs (l ++ [Value.int IntKind.u8 (IntKind.wrap IntKind.u8 (Int.fdiv v (2 ^ min (Int.toNat s) 64)))]) ∧ True) ∧ H (lpC Tryz.prog 56 9) (lpK Tryz.prog 56 9) (stV [(0, some (Value.slice (some (Addr.mk 0 0 none)) (n + 1) 1)), (2, some (Value.int IntKind.u64 v)), (9, some (vi (IntKind.wrap IntKind.i64 (s - 8))))] [(0, some (AObj.cells (l ++ [Value.int IntKind.u8 (IntKind.wrap IntKind.u8 (Int.fdiv v (2 ^ min (Int.toNat s) 64)))]) true))] 1))))) (T2 ((0 + n * 1 = List.length l ∧ NLs l) ∧ Post l n 1)))) := by kernel_rfl
theorem b8_wrap (n : Nat) : Value.int .u8 (IntKind.u8.wrap (n : Int)) = b8 (UInt8.ofNat n) := by rw [wrapU8]; rfl
theorem b8_or {k v : Nat} (hk : k < 8) (hv : v < 32) : Value.int .u8 (IntKind.u8.wrap (((BitVec.ofInt 8 ((32 * k : Nat) : Int) ||| BitVec.ofInt 8 ((v : Nat) : Int)).toNat : Nat) : Int)) = b8 (UInt8.ofNat (32 * k + v)) := by
 rw [orBytes k hk v hv, b8_wrap]
def OkH (k v : Nat) (r : Nat) (Post : List Value → Nat → Nat → Prop) (st : AS) : Prop := OkF Tryz.prog 56 [.slice none 0 0, .int .i64 k, .int .u64 v] Post (lpC Tryz.prog 56 r) (lpK Tryz.prog 56 r) st
theorem head_bytes (k v : Nat) (Post : List Value → Nat → Nat → Prop) : ∀ (j : Nat) (s : Int) (n : Nat) (l : List UInt8), j ≤ 8 → s = 8 * (j : Int) - 8 → n = l.length → n + j ≤ 9 → Post (cellsB (l ++ be j v)) (n + j) 1 →
  OkH k v 9 Post (stV [(0, some (.slice (some ⟨0, 0, none⟩) n 1)), (2, some (.int .u64 v)), (9, some (.int .i64 s))] [(0, some (.cells (cellsB l) true))] 1) := by
 intro j
 induction j with
 | zero =>
  intro s n l _ hs hn _ h
  refine ok_F (vc := noCall) noCall_ok mixed _ (l_head9 k v s n (cellsB l) _ _) ?_
  simp only [true_and, pIf_iff, decide_eq_true_eq, decide_eq_false_iff_not]
  refine ⟨fun h' => by omega, fun _ => ⟨⟨by rw [cellsB_len]; omega, nls_cellsB l⟩, ?_⟩⟩
  simpa [be] using h
 | succ j ih =>
  intro s n l hj hs hn hm h
  refine ok_F (vc := noCall) noCall_ok mixed _ (l_head9 k v s n (cellsB l) _ _) ?_
  have hs' : s = ((8 * j : Nat) : Int) := by omega
  subst hs'
  have e1 : IntKind.i64.wrap (((8 * j : Nat) : Int) - 8) = 8 * (j : Int) - 8 := by rw [wrap64 (by omega) (by omega)]; omega
  have e2 : Value.int .u8 (IntKind.u8.wrap (Int.fdiv (v : Int) (2 ^ min (((8 * j : Nat) : Int).toNat) 64))) = b8 (UInt8.ofNat (v / 256 ^ j)) := by
   rw [fdivNat', b8_wrap, Nat.min_eq_left (by omega), Nat.pow_mul]
  have e3 : cellsB l ++ [b8 (UInt8.ofNat (v / 256 ^ j))] = cellsB (l ++ [UInt8.ofNat (v / 256 ^ j)]) := by simp [cellsB]
  simp only [e2, e3, e1]
  simp only [true_and, pIf_iff, decide_eq_true_eq, decide_eq_false_iff_not]
  refine ⟨fun _ => ⟨by omega, by omega, by omega, by rw [cellsB_len]; omega, ⟨nls_cellsB _, trivial⟩, ?_⟩, fun h' => by omega⟩
  refine ih _ _ _ (by omega) rfl (by simp [hn]) (by omega) ?_
  rw [List.append_assoc, show n + 1 + j = n + (j + 1) by omega]
  exact h
theorem head_size (k v : Nat) (hk : k < 8) (hv : v < 18446744073709551616) (hv24 : 24 ≤ v) (Post : List Value → Nat → Nat → Prop) (h : Post (cellsB (hd k v)) (hd k v).length 1) : ∀ (j s : Nat), s + j = 3 → (s = 0 ∨ (s = 1 ∧ 256 ≤ v) ∨ (s = 2 ∧ 65536 ≤ v) ∨ (s = 3 ∧ 4294967296 ≤ v)) →
  OkH k v 5 Post (stV [(0, some (.slice none 0 0)), (2, some (.int .u64 v)), (7, some (.int .u8 ((32 * k : Nat) : Int))), (8, some (.int .i64 s))] [] 0) := by
 have last : ∀ s : Nat, s ≤ 3 → hd k v = UInt8.ofNat (32 * k + (24 + s)) :: be (2 ^ s) v → OkH k v 9 Post (stV [(0, some (.slice (some ⟨0, 0, none⟩) 1 1)), (2, some (.int .u64 v)), (9, some (.int .i64 (IntKind.i64.wrap (IntKind.i64.wrap (8 * 2 ^ min ((s : Int).toNat) 64) - 8))))] [(0, some (.cells [.int .u8 (IntKind.u8.wrap (((BitVec.ofInt 8 ((32 * k : Nat) : Int) ||| BitVec.ofInt 8 (IntKind.u8.wrap (IntKind.i64.wrap (24 + (s : Int))))).toNat : Nat) : Int))] true))] 1) := by
  intro s hs he
  have e1 : IntKind.i64.wrap (24 + (s : Int)) = ((24 + s : Nat) : Int) := by rw [wrap64 (by omega) (by omega)]; omega
  have e2 : Value.int .u8 (IntKind.u8.wrap (((BitVec.ofInt 8 ((32 * k : Nat) : Int) ||| BitVec.ofInt 8 (IntKind.u8.wrap (IntKind.i64.wrap (24 + (s : Int))))).toNat : Nat) : Int)) = b8 (UInt8.ofNat (32 * k + (24 + s))) := by
   rw [e1, wrapU8s (n := 24 + s) (by omega), b8_or hk (by omega)]
  rw [e2]
  refine head_bytes k v Post (2 ^ s) _ 1 [UInt8.ofNat (32 * k + (24 + s))] ?_ ?_ rfl ?_ ?_
  ·have : s = 0 ∨ s = 1 ∨ s = 2 ∨ s = 3 := by omega
   rcases this with rfl | rfl | rfl | rfl <;> decide
  ·have : s = 0 ∨ s = 1 ∨ s = 2 ∨ s = 3 := by omega
   rcases this with rfl | rfl | rfl | rfl <;> decide
  ·have : s = 0 ∨ s = 1 ∨ s = 2 ∨ s = 3 := by omega
   rcases this with rfl | rfl | rfl | rfl <;> decide
  ·rw [he] at h
   rw [List.length_cons, be_len, Nat.add_comm (2 ^ s) 1] at h
   exact h
 have shift : ∀ s : Nat, s < 3 → Int.fdiv (v : Int) (2 ^ min (IntKind.u64.wrap (8 * 2 ^ min ((s : Int).toNat) 64)).toNat 64) = ((v / 2 ^ (8 * 2 ^ s) : Nat) : Int) := by
  intro s hs
  have : s = 0 ∨ s = 1 ∨ s = 2 := by omega
  rcases this with rfl | rfl | rfl <;> exact fdivNat v _
 have pos : ∀ s : Nat, s < 3 → 0 ≤ IntKind.u64.wrap (8 * 2 ^ min ((s : Int).toNat) 64) := by
  intro s hs
  have : s = 0 ∨ s = 1 ∨ s = 2 := by omega
  rcases this with rfl | rfl | rfl <;> decide
 intro j
 induction j with
 | zero =>
  intro s hs hc
  have h3 : s = 3 := by omega
  subst h3
  refine ok_F (vc := noCall) noCall_ok mixed _ (l_head5 k v _ _ _ _) ?_
  simp only [true_and, pIf_iff, decide_eq_true_eq, decide_eq_false_iff_not]
  refine ⟨fun h' => by omega, fun _ => ⟨by omega, by omega, by omega, ⟨?_, trivial⟩, ?_⟩⟩
  ·intro u hu
   simp at hu
   subst hu
   rfl
  ·refine last 3 (by omega) ?_
   unfold hd
   rw [if_neg (by omega), if_neg (by omega), if_neg (by omega), if_neg (by omega)]
 | succ j ih =>
  intro s hs hc
  refine ok_F (vc := noCall) noCall_ok mixed _ (l_head5 k v _ _ _ _) ?_
  simp only [true_and, pIf_iff, decide_eq_true_eq, decide_eq_false_iff_not, Bool.not_eq_true', Bool.not_eq_false']
  refine ⟨fun _ => ⟨by omega, pos s (by omega), fun h' => ?_, fun h' => ⟨by omega, by omega, by omega, ⟨?_, trivial⟩, ?_⟩⟩, fun h' => by omega⟩
  ·rw [shift s (by omega)] at h'
   rw [wrap64 (by omega) (by omega), show (s : Int) + 1 = ((s + 1 : Nat) : Int) by omega]
   refine ih (s + 1) (by omega) ?_
   have : s = 0 ∨ s = 1 ∨ s = 2 := by omega
   rcases this with rfl | rfl | rfl
   ·have : v / 256 ≠ 0 := fun e => h' (by show ((v / 256 : Nat) : Int) = 0; omega)
    omega
   ·have : v / 65536 ≠ 0 := fun e => h' (by show ((v / 65536 : Nat) : Int) = 0; omega)
    omega
   ·have : v / 4294967296 ≠ 0 := fun e => h' (by show ((v / 4294967296 : Nat) : Int) = 0; omega)
    omega
  ·intro u hu
   simp at hu
   subst hu
   rfl
  ·rw [shift s (by omega)] at h'
   refine last s (by omega) ?_
   unfold hd
   have : s = 0 ∨ s = 1 ∨ s = 2 := by omega
   rcases this with rfl | rfl | rfl
   ·have : ((v / 256 : Nat) : Int) = 0 := h'
    rw [if_neg (by omega), if_pos (by omega)]
   ·have : ((v / 65536 : Nat) : Int) = 0 := h'
    rw [if_neg (by omega), if_neg (by omega), if_pos (by omega)]
   ·have : ((v / 4294967296 : Nat) : Int) = 0 := h'
    rw [if_neg (by omega), if_neg (by omega), if_neg (by omega), if_pos (by omega)]
def c_head (args : List Value) (Post : List Value → Nat → Nat → Prop) : Prop := ∃ k v : Nat, args = [.slice none 0 0, .int .i64 k, .int .u64 v] ∧ k < 8 ∧ v < 18446744073709551616 ∧ Post (cellsB (hd k v)) (hd k v).length 1
theorem ok_head : FEntOk Tryz.prog ⟨56, c_head⟩ := by
 rintro args Post ⟨k, v, rfl, hk, hv, h⟩
 refine pure_F (vc := noCall) noCall_ok mixed (by kernel_rfl) (by kernel_rfl) _ (e_head k v _ _) ?_
 simp only [true_and, pIf_iff, decide_eq_true_eq, decide_eq_false_iff_not, shl5 hk]
 refine ⟨by decide, fun h' => ?_, fun h' => ?_⟩
 ·have e : Value.int .u8 (IntKind.u8.wrap (((BitVec.ofInt 8 ((32 * k : Nat) : Int) ||| BitVec.ofInt 8 (IntKind.u8.wrap ((v : Nat) : Int))).toNat : Nat) : Int)) = b8 (UInt8.ofNat (32 * k + v)) := by
   rw [wrapU8s (n := v) (by omega), b8_or hk (by omega)]
  rw [e]
  have e2 : hd k v = [UInt8.ofNat (32 * k + v)] := by unfold hd; rw [if_pos (by omega)]
  rw [e2] at h
  exact ⟨by omega, by omega, nls_cellsB [_], h⟩
 ·exact head_size k v hk hv (by omega) Post h 3 0 rfl (.inl rfl)
end Go.Proofs.YtegjnjmimfgijaaGreatDoor

noncomputable section
namespace Go.Proofs.YtegjnjmimfgijaaGreatDoor
open Go Go.RowKit
set_option maxRecDepth 100000
def str (l : List UInt8) : ByteArray := ⟨l.toArray⟩
def bInt (n : Int) : ByteArray := if n < 0 then str (hd 1 (-1 - n).toNat) else str (hd 0 n.toNat)
def bText (s : ByteArray) : ByteArray := str (hd 2 s.size) ++ s
def bList (n : Nat) : ByteArray := str (hd 4 n)
theorem ba_ext {a b : ByteArray} (h : a.data.toList = b.data.toList) : a = b := by
 cases a; cases b; congr 1; exact Array.toList_inj.1 h
theorem str_app (a b : List UInt8) : str a ++ str b = str (a ++ b) := ba_ext (by simp [str])
theorem str_size (l : List UInt8) : (str l).size = l.length := by simp [str, ByteArray.size]
theorem str_data (s : ByteArray) : str s.data.toList = s := ba_ext (by simp [str])
theorem hd_len (k v : Nat) : (hd k v).length ≤ 9 := by
 unfold hd
 split
 ·simp
 split
 ·simp [be_len]
 split
 ·simp [be_len]
 split
 ·simp [be_len]
 ·simp [be_len]
theorem byteCells_eq (s : ByteArray) : (byteCells s).toList = cellsB s.data.toList := by
 unfold byteCells cellsB b8
 simp
theorem take_all {l : List UInt8} : (cellsB l).take l.length = cellsB l := List.take_of_length_le (by rw [cellsB_len]; exact Nat.le_refl _)
theorem not64 {n : Int} (h1 : -9223372036854775808 ≤ n) (h2 : n < 0) : IntKind.u64.wrap (IntKind.i64.wrap (((BitVec.ofInt 64 (if IntKind.signed IntKind.i64 = true then -1 else IntKind.max IntKind.i64) ^^^ BitVec.ofInt 64 n).toNat : Nat) : Int)) = (((-1 - n).toNat : Nat) : Int) := by
 have e0 : (BitVec.ofInt 64 (if IntKind.signed IntKind.i64 = true then -1 else IntKind.max IntKind.i64)) = BitVec.allOnes 64 := by decide
 rw [e0, BitVec.allOnes_xor]
 have e1 : (~~~ BitVec.ofInt 64 n).toNat = (-1 - n).toNat := by
  rw [BitVec.toNat_not, BitVec.toNat_ofInt]
  omega
 rw [e1, wrap64 (by omega) (by omega), wrapU64 (by omega)]
theorem all_single (l : List UInt8) : (cellsB l).all single = true := List.all_eq_true.2 fun v hv => by
 obtain ⟨x, _, rfl⟩ := List.mem_map.1 hv
 rfl
def tabH : List FEnt := [⟨56, c_head⟩]
def callH : VCall := ftabCall tabH noCall
theorem e_cInt (n : Int) (H : Code → List Fr → AS → Prop) (Post : Value → Prop) : vcP Tryz.prog callH 32 [] [.int .i64 n] H Post = (T2 (True ∧ pIf (decide (n < 0)) (T2 (True ∧ ∃ (k : Nat), ∃ (v : Nat), eqL [Value.slice none 0 0, vi 1, Value.int IntKind.u64 (IntKind.wrap IntKind.u64 (IntKind.wrap IntKind.i64 (↑(BitVec.toNat (BitVec.ofInt 64 (if IntKind.signed IntKind.i64 = true then -1 else IntKind.max IntKind.i64) ^^^ BitVec.ofInt 64 n)) : Int)))] [Value.slice none 0 0, vi (↑k : Int), Value.int IntKind.u64 (↑v : Int)] ∧ k < 8 ∧ v < 18446744073709551616 ∧ (0 + List.length (hd k v) ≤ List.length (cellsB (hd k v)) ∧ AllU8 (List.take (List.length (hd k v)) (List.drop 0 (cellsB (hd k v))))) ∧ T2 (Post (vs (bytesL (List.take (List.length (hd k v)) (List.drop 0 (cellsB (hd k v))))))))) (T2 (∃ (k : Nat), ∃ (v : Nat), eqL [Value.slice none 0 0, vi 0, Value.int IntKind.u64 (IntKind.wrap IntKind.u64 n)] [Value.slice none 0 0, vi (↑k : Int), Value.int IntKind.u64 (↑v : Int)] ∧ k < 8 ∧ v < 18446744073709551616 ∧ (0 + List.length (hd k v) ≤ List.length (cellsB (hd k v)) ∧ AllU8 (List.take (List.length (hd k v)) (List.drop 0 (cellsB (hd k v))))) ∧ T2 (Post (vs (bytesL (List.take (List.length (hd k v)) (List.drop 0 (cellsB (hd k v))))))))))) := by kernel_rfl
theorem e_cText (s : ByteArray) (H : Code → List Fr → AS → Prop) (Post : Value → Prop) : vcP Tryz.prog callH 69 [] [.string s] H Post = (T4 (∃ (k : Nat), ∃ (v : Nat), eqL [Value.slice none 0 0, vi 2, Value.int IntKind.u64 (IntKind.wrap IntKind.u64 (↑(ByteArray.size s) : Int))] [Value.slice none 0 0, vi (↑k : Int), Value.int IntKind.u64 (↑v : Int)] ∧ k < 8 ∧ v < 18446744073709551616 ∧ T2 (pIf (Nat.beq (ByteArray.size s) 0) (true = true ∧ (0 + List.length (hd k v) ≤ List.length (cellsB (hd k v)) ∧ AllU8 (List.take (List.length (hd k v)) (List.drop 0 (cellsB (hd k v))))) ∧ T2 (Post (vs (bytesL (List.take (List.length (hd k v)) (List.drop 0 (cellsB (hd k v)))))))) (List.length (hd k v) + ByteArray.size s ≤ 33554432 ∧ List.all (Array.toList (byteCells s)) single = true ∧ List.length (Array.toList (byteCells s)) = ByteArray.size s * 1 ∧ 0 + List.length (hd k v) * 1 = List.length (cellsB (hd k v)) ∧ (0 + (List.length (hd k v) + ByteArray.size s) ≤ List.length (List.drop 0 (cellsB (hd k v)) ++ Array.toList (byteCells s)) ∧ AllU8 (List.take (List.length (hd k v) + ByteArray.size s) (List.drop 0 (List.drop 0 (cellsB (hd k v)) ++ Array.toList (byteCells s))))) ∧ T2 (Post (vs (bytesL (List.take (List.length (hd k v) + ByteArray.size s) (List.drop 0 (List.drop 0 (cellsB (hd k v)) ++ Array.toList (byteCells s))))))))))) := by kernel_rfl
theorem e_cList (n : Int) (H : Code → List Fr → AS → Prop) (Post : Value → Prop) : vcP Tryz.prog callH 70 [] [.int .i64 n] H Post = (T2 (True ∧ pIf (decide (n < 0)) (T2 (Post (vs (ByteArray.mk #[])))) (T2 (∃ (k : Nat), ∃ (v : Nat), eqL [Value.slice none 0 0, vi 4, Value.int IntKind.u64 (IntKind.wrap IntKind.u64 n)] [Value.slice none 0 0, vi (↑k : Int), Value.int IntKind.u64 (↑v : Int)] ∧ k < 8 ∧ v < 18446744073709551616 ∧ (0 + List.length (hd k v) ≤ List.length (cellsB (hd k v)) ∧ AllU8 (List.take (List.length (hd k v)) (List.drop 0 (cellsB (hd k v))))) ∧ T2 (Post (vs (bytesL (List.take (List.length (hd k v)) (List.drop 0 (cellsB (hd k v))))))))))) := by kernel_rfl
def c_cInt (args : List Value) (Post : Value → Prop) : Prop := ∃ n : Int, args = [.int .i64 n] ∧ (-9223372036854775808 ≤ n ∧ n < 9223372036854775808) ∧ Post (.string (bInt n))
def c_cText (args : List Value) (Post : Value → Prop) : Prop := ∃ s : ByteArray, args = [.string s] ∧ s.size ≤ 16000000 ∧ Post (.string (bText s))
def c_cList (args : List Value) (Post : Value → Prop) : Prop := ∃ n : Nat, args = [.int .i64 n] ∧ n < 9223372036854775808 ∧ Post (.string (bList n))
theorem callH_ok : VCallOk Tryz.prog callH := ftabCall_ok (by
 intro e he
 simp only [tabH, List.mem_cons, List.not_mem_nil, or_false] at he
 rcases he with rfl
 exact ok_head) noCall_ok
theorem ok_cInt : EntOk Tryz.prog ⟨32, c_cInt⟩ := by
 rintro args Post ⟨n, rfl, ⟨h1, h2⟩, h⟩
 refine pure_P (vc := callH) callH_ok mixed (by kernel_rfl) (by kernel_rfl) _ (e_cInt n _ _) ?_
 simp only [true_and, pIf_iff, decide_eq_true_eq, decide_eq_false_iff_not, List.drop_zero, take_all, Nat.zero_add, bytesL_cellsB]
 refine ⟨fun h' => ⟨1, (-1 - n).toNat, ?_, by omega, by omega, ⟨by rw [cellsB_len]; exact Nat.le_refl _, allU8_cellsB _⟩, ?_⟩, fun h' => ⟨0, n.toNat, ?_, by omega, by omega, ⟨by rw [cellsB_len]; exact Nat.le_refl _, allU8_cellsB _⟩, ?_⟩⟩
 ·rw [not64 h1 h']; rfl
 ·unfold bInt at h; rwa [if_pos h'] at h
 ·rw [show n = ((n.toNat : Nat) : Int) by omega, wrapU64 (by omega)]; rfl
 ·unfold bInt at h; rwa [if_neg h'] at h
theorem ok_cList : EntOk Tryz.prog ⟨70, c_cList⟩ := by
 rintro args Post ⟨n, rfl, h1, h⟩
 refine pure_P (vc := callH) callH_ok mixed (by kernel_rfl) (by kernel_rfl) _ (e_cList n _ _) ?_
 simp only [true_and, pIf_iff, decide_eq_true_eq, decide_eq_false_iff_not, List.drop_zero, take_all, Nat.zero_add, bytesL_cellsB]
 refine ⟨fun h' => by omega, fun h' => ⟨4, n, ?_, by omega, by omega, ⟨by rw [cellsB_len]; exact Nat.le_refl _, allU8_cellsB _⟩, h⟩⟩
 rw [wrapU64 (by omega)]; rfl
theorem ok_cText : EntOk Tryz.prog ⟨69, c_cText⟩ := by
 rintro args Post ⟨s, rfl, h1, h⟩
 refine pure_P (vc := callH) callH_ok mixed (by kernel_rfl) (by kernel_rfl) _ (e_cText s _ _) ?_
 have hl := hd_len 2 s.size
 have hsz : s.data.toList.length = s.size := rfl
 have key : cellsB (hd 2 s.size) ++ cellsB s.data.toList = cellsB (hd 2 s.size ++ s.data.toList) := by simp [cellsB]
 have key2 : (hd 2 s.size).length + s.size = (hd 2 s.size ++ s.data.toList).length := by rw [List.length_append, hsz]
 simp only [true_and]
 refine ⟨2, s.size, ?_, by omega, by omega, ?_⟩
 ·rw [wrapU64 (by omega)]; rfl
 ·simp only [true_and, pIf_iff, List.drop_zero, Nat.zero_add, byteCells_eq, key, key2, take_all, bytesL_cellsB, cellsB_len, Nat.mul_one, hsz, all_single]
  have fin : bText s = ⟨(hd 2 s.size ++ s.data.toList).toArray⟩ := by
   unfold bText
   conv => lhs; rw [← str_data s]
   rw [str_app, str_data]
   rfl
  refine ⟨fun h' => ⟨⟨Nat.le_refl _, allU8_cellsB _⟩, ?_⟩, fun h' => ⟨by rw [← key2]; omega, ⟨Nat.le_refl _, allU8_cellsB _⟩, ?_⟩⟩
  ·have h0 : s.data.toList = [] := List.eq_nil_of_length_eq_zero (Nat.eq_of_beq_eq_true h')
   rw [fin, h0, List.append_nil] at h
   exact h
  ·rw [fin] at h
   exact h
end Go.Proofs.YtegjnjmimfgijaaGreatDoor

