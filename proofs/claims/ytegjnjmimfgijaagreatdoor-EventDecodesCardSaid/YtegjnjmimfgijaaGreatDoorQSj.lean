/-
  Put together out of several texts, each in its own namespace's block. Conditions: as each theorem states them.
-/
import Derived.Test.YtegjnjmimfgijaaGreatDoorQEvo
import Derived.KernelRfl
import Derived.Test.YtegjnjmimfgijaaGreatDoorProg
import Derived.Handy
import Derived.Below
import Derived.Laws.OwnMore
import Derived.Deep.AppendLies
import Derived.Deep.Draws
import Derived.Laws.Rows
import Derived.Lib.Hide
import Derived.Lib.SmallJoins
import Derived.Deep.Slices
import Derived.Deep.Fields
import Derived.ChangeSame
import Derived.ProofKit
import Derived.LaidMore
import Derived.OpenShut
import Derived.Stop.Joined
import Derived.Test.YtegjnjmimfgijaaGreatDoorChecked
noncomputable section
namespace Go.Proofs.YtegjnjmimfgijaaGreatDoor
open Go Go.RowKit
set_option maxRecDepth 100000
set_option maxHeartbeats 8000000
abbrev eqL (a b : List Value) : Prop := a = b
def trV {α : Type} (l : List (Nat × Option α)) : Tr α := l.foldl (fun t p => t.put p.1 p.2) .e
def stV (tm : List (Nat × Option Value)) (hp : List (Nat × Option AObj)) (nx : Nat) : AS := ⟨trV tm, trV hp, nx⟩
def fnAt (P : Program) (f : FuncId) : Func := (P.funcs[f]?).getD default
def codeOf (fn : Func) : Code := fn.body.getD .skip
def findL (r : Nat) : Code → List Fr → Option (Code × List Fr)
 | .seq x y, k => match findL r x (.seq y :: k) with
  | some p => some p
  | none => findL r y k
 | .cond _ x y, k => match findL r x k with
  | some p => some p
  | none => findL r y k
 | .block id b, k => findL r b (.block id :: k)
 | .loop b, k => match rid b with
  | some j => bif j.beq r then some (b, k) else findL r b (.loop b :: k)
  | none => none
 | _, _ => none
def lpC (P : Program) (f : FuncId) (r : Nat) : Code := ((findL r (codeOf (fnAt P f)) []).map (·.1)).getD .skip
def lpK (P : Program) (f : FuncId) (r : Nat) : List Fr := ((findL r (codeOf (fnAt P f)) []).map (·.2)).getD []
def vcE (P : Program) (vc : VCall) (f : FuncId) (lt : List (Nat × List Nat)) (base : List Bool) (hp : Tr AObj) (args : List Value) (H : Code → List Fr → AS → Prop) (Post : Value → Tr AObj → Prop) : Prop :=
 vrun P vc (slotsN args (fnAt P f)) lt base H (finOf P (fnAt P f) base.length Post) 3000 (.code (codeOf (fnAt P f))) [] ⟨putArgs 0 args .e, hp, base.length⟩
def vcL (P : Program) (vc : VCall) (f : FuncId) (na : List Value) (lt : List (Nat × List Nat)) (base : List Bool) (r : Nat) (st : AS) (H : Code → List Fr → AS → Prop) (Post : Value → Tr AObj → Prop) : Prop :=
 vrun P vc (slotsN na (fnAt P f)) lt base H (finOf P (fnAt P f) base.length Post) 3000 (.code (lpC P f r)) (.loop (lpC P f r) :: lpK P f r) st
def Ok (P : Program) (f : FuncId) (na : List Value) (base : List Bool) (Post : Value → Tr AObj → Prop) : Code → List Fr → AS → Prop :=
 Good P (slotsN na (fnAt P f)) base (finOf P (fnAt P f) base.length Post)
theorem spec_E {P : Program} {vc : VCall} (hcall : VCallOk P vc) (hm : P.follows .mixedOrders = true) {f : FuncId} (hf : (P.funcs[f]?).isSome = true) (hc : (fnAt P f).body.isSome = true) {lt : List (Nat × List Nat)} {base : List Bool} {hp : Tr AObj} {args : List Value} {Post : Value → Tr AObj → Prop}
  (h : vcE P vc f lt base hp args (Ok P f args base Post) Post) : Spec P f base.length hp args Post := by
 have hf' : P.funcs[f]? = some (fnAt P f) := by
  unfold fnAt
  cases hx : P.funcs[f]? with
  | none => rw [hx] at hf; cases hf
  | some x => rfl
 have hc' : (fnAt P f).body = some (codeOf (fnAt P f)) := by
  unfold codeOf
  cases hx : (fnAt P f).body with
  | none => rw [hx] at hc; cases hc
  | some x => rfl
 exact spec_of hcall hm hf' hc' 3000 h
theorem pure_E {P : Program} {vc : VCall} (hcall : VCallOk P vc) (hm : P.follows .mixedOrders = true) {f : FuncId} (hf : (P.funcs[f]?).isSome = true) (hc : (fnAt P f).body.isSome = true) {lt : List (Nat × List Nat)} {args : List Value} {Post : Value → Prop}
  (h : vcE P vc f lt [] .e args (Ok P f args [] fun v _ => Post v) fun v _ => Post v) : Pure P f args Post := spec_E hcall hm hf hc h
theorem ok_L {P : Program} {vc : VCall} (hcall : VCallOk P vc) (hm : P.follows .mixedOrders = true) {f : FuncId} {na : List Value} {lt : List (Nat × List Nat)} {base : List Bool} {r : Nat} {st : AS} {Post : Value → Tr AObj → Prop}
  (h : vcL P vc f na lt base r st (Ok P f na base Post) Post) : Ok P f na base Post (lpC P f r) (lpK P f r) st := good_round hcall hm 3000 h
def vcP (P : Program) (vc : VCall) (f : FuncId) (lt : List (Nat × List Nat)) (args : List Value) (H : Code → List Fr → AS → Prop) (Post : Value → Prop) : Prop := vcE P vc f lt [] .e args H fun v _ => Post v
def vcLP (P : Program) (vc : VCall) (f : FuncId) (na : List Value) (lt : List (Nat × List Nat)) (r : Nat) (st : AS) (H : Code → List Fr → AS → Prop) (Post : Value → Prop) : Prop := vcL P vc f na lt [] r st H fun v _ => Post v
def OkAt (P : Program) (f : FuncId) (na : List Value) (Post : Value → Prop) : Code → List Fr → AS → Prop := Ok P f na [] fun v _ => Post v
theorem pure_P {P : Program} {vc : VCall} (hcall : VCallOk P vc) (hm : P.follows .mixedOrders = true) {f : FuncId} (hf : (P.funcs[f]?).isSome = true) (hc : (fnAt P f).body.isSome = true) (lt : List (Nat × List Nat)) {args : List Value} {Post : Value → Prop}
  {X : Prop} (e : vcP P vc f lt args (OkAt P f args Post) Post = X) (h : X) : Pure P f args Post := pure_E (lt := lt) hcall hm hf hc (Eq.mpr e h)
theorem ok_P {P : Program} {vc : VCall} (hcall : VCallOk P vc) (hm : P.follows .mixedOrders = true) {f : FuncId} {na : List Value} (lt : List (Nat × List Nat)) {r : Nat} {st : AS} {Post : Value → Prop}
  {X : Prop} (e : vcLP P vc f na lt r st (OkAt P f na Post) Post = X) (h : X) : OkAt P f na Post (lpC P f r) (lpK P f r) st := ok_L (lt := lt) hcall hm (Eq.mpr e h)
theorem of_b {Post : Value → Prop} {b c : Bool} (h : Post (.bool b)) (e : b = c) : Post (.bool c) := e ▸ h
abbrev HT : Type := Code → List Fr → AS → Prop
abbrev PV : Type := Value → Prop
abbrev PI : Type := Value → List (List Value) → Prop
def hpOf (conts : List (List Value)) : Tr AObj := putObjs 0 (conts.map fun l => some (.cells l true)) .e
theorem hpOf_get (conts : List (List Value)) (i : Nat) : (hpOf conts).get i = (conts[i]?).map fun l => .cells l true := by
 unfold hpOf
 rw [putObjs_get]
 simp only [Nat.zero_le, true_and, List.length_map, Nat.zero_add, Nat.sub_zero, List.getElem?_map]
 by_cases h : i < conts.length
 ·rw [if_pos h, List.getElem?_eq_getElem h]; rfl
 ·rw [if_neg h, List.getElem?_eq_none (by omega)]; exact Tr.get_e i
def outs (hp : Tr AObj) : Nat → Nat → Option (List (List Value))
 | _, 0 => some []
 | i, n + 1 => match hp.get i with
  | some (.cells l true) => match outs hp (i + 1) n with
   | some ls => some (l :: ls)
   | none => none
  | _ => none
theorem outs_get {hp : Tr AObj} : ∀ {n i : Nat} {ls : List (List Value)}, outs hp i n = some ls → ls.length = n ∧ ∀ (j : Nat) (l : List Value), ls[j]? = some l → hp.get (i + j) = some (.cells l true)
 | 0, i, ls, h => by simp only [outs] at h; cases h; exact ⟨rfl, fun j l hj => by simp at hj⟩
 | n + 1, i, ls, h => by
  simp only [outs] at h
  split at h
  case h_2 => cases h
  rename_i l hl
  split at h
  case h_2 => cases h
  rename_i ls0 h0
  cases h
  obtain ⟨g1, g2⟩ := outs_get h0
  refine ⟨by simp [g1], fun j x hx => ?_⟩
  cases j with
  | zero => simp at hx; subst hx; exact hl
  | succ j => rw [show i + (j + 1) = i + 1 + j by omega]; exact g2 j x (by simpa using hx)
def nlAll : List (List Value) → Bool
 | [] => true
 | l :: ls => l.all nl1 && nlAll ls
theorem nlAll_get : ∀ {ls : List (List Value)}, nlAll ls = true → ∀ l ∈ ls, NLs l
 | [], _, l, h => by cases h
 | x :: ls, h, l, hl => by
  simp only [nlAll, Bool.and_eq_true] at h
  rcases List.mem_cons.1 hl with rfl | hl
  ·exact fun v hv => List.all_eq_true.1 h.1 v hv
  ·exact nlAll_get h.2 l hl
def ipost (n : Nat) (Post : Value → List (List Value) → Prop) (v : Value) (hp : Tr AObj) : Prop :=
 match outs hp 0 n with
 | some ls => nlAll ls = true ∧ Post v ls
 | none => False
def SpecI (P : Program) (f : FuncId) (conts : List (List Value)) (args : List Value) (Post : Value → List (List Value) → Prop) : Prop := Spec P f conts.length (hpOf conts) args (ipost conts.length Post)
structure IEnt where
 f : FuncId
 c : List Value → List (List Value) → (Value → List (List Value) → Prop) → Prop
def IEntOk (P : Program) (e : IEnt) : Prop := ∀ args conts Post, e.c args conts Post → SpecI P e.f conts args Post
def ientOf (f : FuncId) : List IEnt → Option IEnt
 | [] => none
 | e :: l => bif e.f.beq f then some e else ientOf f l
theorem ientOf_mem {f : FuncId} {e : IEnt} : ∀ {l : List IEnt}, ientOf f l = some e → e ∈ l ∧ e.f = f
 | [], h => by simp [ientOf] at h
 | x :: l, h => by
  simp only [ientOf] at h
  cases hx : x.f.beq f with
  | true => rw [hx] at h; cases h; exact ⟨by simp, Nat.eq_of_beq_eq_true hx⟩
  | false => rw [hx, cond_false] at h; exact ⟨by simp [(ientOf_mem h).1], (ientOf_mem h).2⟩
def contsOf (hp : Tr AObj) : List (Nat × Bool) → Option (List (List Value))
 | [] => some []
 | (b, _) :: l => match hp.get b with
  | some (.cells c true) => match contsOf hp l with
   | some cs => some (c :: cs)
   | none => none
  | _ => none
theorem contsOf_get {hp : Tr AObj} : ∀ {l : List (Nat × Bool)} {cs : List (List Value)}, contsOf hp l = some cs → cs.length = l.length ∧ ∀ (i b : Nat) (k : Bool), l[i]? = some (b, k) → ∃ c, cs[i]? = some c ∧ hp.get b = some (.cells c true)
 | [], cs, h => by simp only [contsOf] at h; cases h; exact ⟨rfl, fun i b k hi => by simp at hi⟩
 | (b, k) :: l, cs, h => by
  simp only [contsOf] at h
  split at h
  case h_2 => cases h
  rename_i c hc
  split at h
  case h_2 => cases h
  rename_i cs0 h0
  cases h
  obtain ⟨g1, g2⟩ := contsOf_get h0
  refine ⟨by simp [g1], fun i b' k' hi => ?_⟩
  cases i with
  | zero => simp at hi; obtain ⟨rfl, rfl⟩ := hi; exact ⟨c, rfl, hc⟩
  | succ i => simpa using g2 i b' k' (by simpa using hi)
def putConts : List (Nat × Bool) → List (List Value) → Tr AObj → Tr AObj
 | (b, _) :: l, c :: cs, hp => putConts l cs (hp.put b (some (.cells c true)))
 | _, _, hp => hp
theorem putConts_get : ∀ {l : List (Nat × Bool)} {cs : List (List Value)} {hp : Tr AObj}, nodupB l = true → cs.length = l.length → ∀ b, (∀ (i : Nat) (k : Bool) (c : List Value), l[i]? = some (b, k) → cs[i]? = some c → (putConts l cs hp).get b = some (.cells c true)) ∧ (memB b l = false → (putConts l cs hp).get b = hp.get b)
 | [], cs, hp, _, hl, b => by
  cases cs with
  | nil => exact ⟨fun i k c hi => by simp at hi, fun _ => rfl⟩
  | cons c cs => simp at hl
 | (x, k0) :: l, [], hp, _, hl, b => by simp at hl
 | (x, k0) :: l, c :: cs, hp, hn, hl, b => by
  simp only [nodupB] at hn
  cases hm : memB x l with
  | true => rw [hm] at hn; cases hn
  | false =>
   rw [hm, cond_false] at hn
   obtain ⟨g1, g2⟩ := putConts_get (hp := hp.put x (some (.cells c true))) hn (by simpa using hl) b
   simp only [putConts]
   refine ⟨fun i k c' hi hc => ?_, fun hb => ?_⟩
   ·cases i with
    | zero =>
     simp at hi hc
     obtain ⟨rfl, rfl⟩ := hi
     subst hc
     rw [g2 hm, Tr.get_put, if_pos rfl]
    | succ i => exact g1 i k c' (by simpa using hi) (by simpa using hc)
   ·simp only [memB] at hb
    cases hx : x.beq b with
    | true => rw [hx] at hb; cases hb
    | false =>
     rw [hx, cond_false] at hb
     rw [g2 hb, Tr.get_put, if_neg (fun e => by subst e; simp at hx)]
def icall (e : IEnt) (args : List Value) (hp : Tr AObj) (nx : Nat) (K : Value → Bool → Tr AObj → Nat → Prop) : Prop :=
 let bl := args.foldl scan0 []
 bif nodupB bl then match mapO (ren bl) args, contsOf hp bl with
  | some vs0, some cs => nlAll cs = true ∧ e.c vs0 cs fun v cs' => cs'.length = cs.length ∧ K v true (putConts bl cs' hp) nx
  | _, _ => False
 else False
theorem addB_mem {b b' : Nat} {k k' : Bool} {l : List (Nat × Bool)} (h : (b', k') ∈ addB b k l) : (b', k') ∈ l ∨ b' = b := by
 unfold addB at h
 cases hm : memB b l with
 | true => rw [hm] at h; exact .inl h
 | false =>
  rw [hm, cond_false] at h
  rcases List.mem_append.1 h with h | h
  ·exact .inl h
  ·simp at h; exact .inr h.1
theorem scan0_placed {ρ : Place} : ∀ {args args' : List Value} {l : List (Nat × Bool)}, VRL ρ args args' → (∀ p ∈ l, ∃ x, ρ.pl p.1 = some x) → ∀ p ∈ args.foldl scan0 l, ∃ x, ρ.pl p.1 = some x
 | [], _, l, _, hl, p, hp => hl p hp
 | v :: vs, _, l, h, hl, p, hp => by
  cases h with
  | cons hv hvs =>
   refine scan0_placed hvs (fun q hq => ?_) p hp
   obtain ⟨b', k'⟩ := q
   cases hv <;> try exact hl _ hq
   case ptr hb =>
    rcases addB_mem hq with hq | rfl
    ·exact hl _ hq
    ·exact ⟨_, hb⟩
   case slice hb _ _ =>
    rcases addB_mem hq with hq | rfl
    ·exact hl _ hq
    ·exact ⟨_, hb⟩
   case emptySlice hb =>
    rcases addB_mem hq with hq | rfl
    ·exact hl _ hq
    ·exact ⟨_, hb⟩
   case iface ht =>
    cases ht <;> try exact hl _ hq
    case ptr hb =>
     rcases addB_mem hq with hq | rfl
     ·exact hl _ hq
     ·exact ⟨_, hb⟩
theorem memB_mem {b : Nat} : ∀ {l : List (Nat × Bool)}, memB b l = true → ∃ (i : Nat) (k : Bool), l[i]? = some (b, k)
 | [], h => by cases h
 | x :: l, h => by
  simp only [memB] at h
  cases hx : x.1.beq b with
  | true => exact ⟨0, x.2, by simp [← Nat.eq_of_beq_eq_true hx]⟩
  | false =>
   rw [hx, cond_false] at h
   obtain ⟨i, k, hi⟩ := memB_mem h
   exact ⟨i + 1, k, by simpa using hi⟩
theorem icall_ok {P : Program} {e : IEnt} (he : IEntOk P e) {args : List Value} {hp : Tr AObj} {nx : Nat} {K : Value → Bool → Tr AObj → Nat → Prop} (h : icall e args hp nx K) {W : Base} {ρ : Place} {w : World} {args' : List Value} (hrel : Rel ρ W hp nx w) (hargs : VRL ρ args args') :
  Calls P e.f args'.toArray w fun e w' => ∃ v c hp' nx' v' ρ', K v c hp' nx' ∧ (c = false → hp' = hp) ∧ e = .returned v' ∧ VR ρ' v v' ∧ Rel ρ' W hp' nx' w' ∧ Step ρ ρ' hp hp' nx nx' := by
 unfold icall at h
 dsimp only at h
 have hplaced := scan0_placed (l := []) hargs (fun p hp => by cases hp)
 generalize args.foldl scan0 [] = bl at h hplaced
 cases hnd : nodupB bl with
 | false => rw [hnd] at h; exact h.elim
 | true =>
  rw [hnd, cond_true] at h
  split at h
  case h_2 => exact h.elim
  rename_i vs0 cs ha hc
  obtain ⟨hnl, h⟩ := h
  obtain ⟨hlen, hget⟩ := contsOf_get hc
  have hnls := nlAll_get hnl
  have hvia : ∀ (i : Nat) (x : Nat × Nat × Nat), (ρ.via bl).pl i = some x → ∃ (b : Nat) (k : Bool), bl[i]? = some (b, k) ∧ ρ.pl b = some x := fun i x hx => by
   unfold Place.via at hx
   dsimp only at hx
   split at hx
   ·rename_i p hp
    exact ⟨p.1, p.2, hp, hx⟩
   ·cases hx
  have viaAt : ∀ (i b : Nat) (k : Bool), bl[i]? = some (b, k) → (ρ.via bl).pl i = ρ.pl b := fun i b k hi => by unfold Place.via; simp [hi]
  let mu : Nat → Prop := fun c => ∃ (i b : Nat) (k : Bool) (x : Nat × Nat × Nat), bl[i]? = some (b, k) ∧ ρ.pl b = some x ∧ x.1 = c
  have hobj : ∀ i o x, (hpOf cs).get i = some o → (ρ.via bl).pl i = some x → ∃ (b : Nat) (k : Bool) (c : List Value), bl[i]? = some (b, k) ∧ ρ.pl b = some x ∧ cs[i]? = some c ∧ o = .cells c true ∧ hp.get b = some (.cells c true) := fun i o x ho hx => by
   obtain ⟨b, k, h1, h2⟩ := hvia i x hx
   obtain ⟨c, h3, h4⟩ := hget i b k h1
   rw [hpOf_get, h3] at ho
   cases ho
   exact ⟨b, k, c, h1, h2, h3, rfl, h4⟩
  have muNew : ∀ c, mu c → ¬ W.old c := fun c ⟨i, b, k, x, h1, h2, h3⟩ => by
   obtain ⟨cc, _, h4⟩ := hget i b k h1
   obtain ⟨ob, _, ho⟩ := hrel.obj b _ x.1 x.2.1 x.2.2 h4 h2
   cases ob <;> try exact ho.elim
   rw [← h3]
   exact ho.2.2.2.2 rfl
  have hrel1 : Rel (ρ.via bl) ⟨w, mu, ρ.fr, []⟩ (hpOf cs) cs.length w := by
   refine ⟨fun i x hx => ?_, fun i o c s z ho hx => ?_, fun i j x y o1 o2 g1 g2 hx hy hxy => ?_, fun i hi => ?_, ⟨rfl, rfl, rfl, Nat.le_refl _, fun _ _ => rfl⟩, hrel.frz, fun i o c s z ho _ hx => ?_, fun c ob hc => .inl hc⟩
   ·obtain ⟨b, k, h1, h2⟩ := hvia i x hx
    refine ⟨?_, (hrel.dom b x h2).2⟩
    rw [hlen]
    exact (List.getElem?_eq_some_iff.1 h1).1
   ·obtain ⟨b, k, cc, h1, h2, h3, rfl, h4⟩ := hobj i o _ ho hx
    obtain ⟨ob, e1, e2⟩ := hrel.obj b _ c s z h4 h2
    refine ⟨ob, e1, ?_⟩
    cases ob <;> try exact e2.elim
    obtain ⟨k1, k2, k3, k4, k5⟩ := e2
    refine ⟨k1, k2, k3, fun j v hv => ?_, fun _ ho' => ho'.2 ⟨i, b, k, _, h1, h2, rfl⟩⟩
    obtain ⟨v', q1, q2⟩ := k4 j v hv
    have h0 : VR0 ρ.fr v v' := nl1_sound (hnls cc (List.mem_of_getElem? h3) v (List.mem_of_getElem? hv)) q2
    exact ⟨v', q1, VR0.lift (ρ := ρ.via bl) h0⟩
   ·obtain ⟨b, k, cc, h1, h2, h3, _, h4⟩ := hobj i o1 _ g1 hx
    obtain ⟨b', k', cc', r1, r2, r3, _, r4⟩ := hobj j o2 _ g2 hy
    have e := hrel.inj b b' x y _ _ h4 r4 h2 r2 hxy
    subst e
    exact nodupB_inj hnd h1 r1
   ·rw [hpOf_get, List.getElem?_eq_none hi]; rfl
   ·obtain ⟨b, k, cc, h1, h2, h3, _, h4⟩ := hobj i o _ ho hx
    exact hrel.apart b _ c s z h4 rfl h2
  have hargs1 : VRL (ρ.via bl) vs0 args' := mapO_sound (fun _ _ _ => ren_sound) ha hargs
  refine (he vs0 cs _ h ⟨w, mu, ρ.fr, []⟩ (ρ.via bl) w args' hrel1 hargs1).mono ?_
  rintro e' w' ⟨v, hp1, nx1, v', ρ1, hP, rfl, hv, hr, hg⟩
  unfold ipost at hP
  split at hP
  case h_2 => exact hP.elim
  rename_i cs' hcs'
  obtain ⟨hnl', hlen', hK⟩ := hP
  obtain ⟨_, hget'⟩ := outs_get hcs'
  have hnls' := nlAll_get hnl'
  have hlb : cs'.length = bl.length := hlen'.trans hlen
  have hsz : w.heap.size ≤ w'.heap.size := hr.below.size
  have hle : ρ.le ⟨ρ.pl, ρ1.fr, ρ1.gl⟩ := ⟨fun _ _ h => h, fun c x hc => hg.2 c x hc⟩
  have lt : ∀ {c : Nat} {ob : Obj}, w.heap[c]? = some ob → c < w.heap.size := fun {c ob} hc => by
   rcases Nat.lt_or_ge c w.heap.size with h' | h'
   ·exact h'
   ·rw [Array.getElem?_eq_none h'] at hc; cases hc
  have old : ∀ c, c < w.heap.size → ¬ mu c → w'.heap[c]? = w.heap[c]? := fun c hc hm => hr.below.block c ⟨hc, hm⟩
  -- the blocks that were handed over
  have inb : ∀ b, memB b bl = true → ∃ (i : Nat) (k : Bool) (x : Nat × Nat × Nat) (c c' : List Value), bl[i]? = some (b, k) ∧ ρ.pl b = some x ∧ ρ1.pl i = some x ∧ hp.get b = some (.cells c true) ∧ cs'[i]? = some c' ∧ hp1.get i = some (.cells c' true) ∧ (putConts bl cs' hp).get b = some (.cells c' true) := fun b hb => by
   obtain ⟨i, k, hi⟩ := memB_mem hb
   obtain ⟨x, hx⟩ := hplaced (b, k) (List.mem_of_getElem? hi)
   obtain ⟨c, _, h4⟩ := hget i b k hi
   have hil : i < bl.length := (List.getElem?_eq_some_iff.1 hi).1
   have hc' : cs'[i]? = some (cs'[i]'(by omega)) := List.getElem?_eq_getElem (by omega)
   have h5 := hget' i _ hc'
   rw [Nat.zero_add] at h5
   exact ⟨i, k, x, c, _, hi, hx, hg.1 i x (by omega) (by rw [viaAt i b k hi]; exact hx), h4, hc', h5, (putConts_get hnd hlb b).1 i k _ hi hc'⟩
  have outb : ∀ b, memB b bl = false → (putConts bl cs' hp).get b = hp.get b := fun b hb => (putConts_get hnd hlb b).2 hb
  have notmu : ∀ b o x, memB b bl = false → hp.get b = some o → ρ.pl b = some x → ¬ mu x.1 := fun b o x hb ho hx ⟨i, b', k, x', h1, h2, h3⟩ => by
   obtain ⟨c, _, h4⟩ := hget i b' k h1
   have e := hrel.inj b' b x' x _ _ h4 ho h2 hx h3
   subst e
   rw [memB_of h1] at hb
   cases hb
  have live : ∀ b o, (putConts bl cs' hp).get b = some o → ∃ o', hp.get b = some o' ∧ (o.wr = true → o'.wr = true) := fun b o ho => by
   cases hb : memB b bl with
   | true =>
    obtain ⟨i, k, x, c, c', h1, h2, h3, h4, h5, h6, h7⟩ := inb b hb
    exact ⟨_, h4, fun _ => rfl⟩
   | false => rw [outb b hb] at ho; exact ⟨o, ho, fun h => h⟩
  refine ⟨v, true, putConts bl cs' hp, nx, v', ⟨ρ.pl, ρ1.fr, ρ1.gl⟩, hK, fun e => (by cases e), rfl, VR0.lift (ρ := ⟨ρ.pl, ρ1.fr, ρ1.gl⟩) hv, ?_, ⟨hle, Nat.le_refl _, fun b hb hn => ⟨hn, ?_⟩⟩⟩
  ·refine ⟨fun b x hb => ⟨(hrel.dom b x hb).1, Nat.lt_of_lt_of_le (hrel.dom b x hb).2 hsz⟩, fun b o c s z ho hx => ?_, fun b b' x x' o o' h1 h2 hx hx' hxx => ?_, fun b hb => ?_, ⟨hr.below.os.trans hrel.below.os, hr.below.tape.trans hrel.below.tape, hr.below.output.trans hrel.below.output, Nat.le_trans hrel.below.size hsz, fun k hk => ?_⟩, hr.frz, fun b o c s z ho hw hx => ?_, fun c ob hc => ?_⟩
   ·cases hb : memB b bl with
    | true =>
     obtain ⟨i, k, x, c0, c', h1, h2, h3, h4, h5, h6, h7⟩ := inb b hb
     rw [h7] at ho
     cases ho
     have hx' : ρ.pl b = some (c, s, z) := hx
     rw [h2] at hx'
     cases hx'
     obtain ⟨ob, e1, e2⟩ := hr.obj i _ c s z h6 h3
     refine ⟨ob, e1, ?_⟩
     cases ob <;> try exact e2.elim
     obtain ⟨k1, k2, k3, k4, k5⟩ := e2
     refine ⟨k1, k2, k3, fun j u hu => ?_, fun _ => muNew c ⟨i, b, k, _, h1, h2, rfl⟩⟩
     obtain ⟨u', q1, q2⟩ := k4 j u hu
     have h0 : VR0 ρ1.fr u u' := nl1_sound (hnls' c' (List.mem_of_getElem? h5) u (List.mem_of_getElem? hu)) q2
     exact ⟨u', q1, VR0.lift (ρ := ⟨ρ.pl, ρ1.fr, ρ1.gl⟩) h0⟩
    | false =>
     rw [outb b hb] at ho
     obtain ⟨ob, e1, e2⟩ := hrel.obj b o c s z ho hx
     exact ⟨ob, by rw [old c (lt e1) (notmu b o _ hb ho hx)]; exact e1, e2.mono hle⟩
   ·obtain ⟨_, g1, _⟩ := live b o h1
    obtain ⟨_, g2, _⟩ := live b' o' h2
    exact hrel.inj b b' x x' _ _ g1 g2 hx hx' hxx
   ·cases hm : memB b bl with
    | true =>
     obtain ⟨i, k, x, c0, c', h1, h2, _⟩ := inb b hm
     have := (hrel.dom b x h2).1
     omega
    | false => rw [outb b hm]; exact hrel.fresh b hb
   ·have hkw : k < w.heap.size := Nat.lt_of_lt_of_le hk.1 hrel.below.size
    rw [old k hkw fun hm => muNew k hm hk]
    exact hrel.below.block k hk
   ·show ρ1.fr c = none
    cases hcf : ρ1.fr c with
    | none => rfl
    | some ob =>
     exfalso
     obtain ⟨o', g1, g2⟩ := live b o ho
     have hcl := (hrel.dom b _ hx).2
     cases hb : memB b bl with
     | true =>
      obtain ⟨i, k, x, c0, c', h1, h2, h3, h4, h5, h6, h7⟩ := inb b hb
      have hx' : ρ.pl b = some (c, s, z) := hx
      rw [h2] at hx'
      cases hx'
      have := hr.apart i _ c s z h6 rfl h3
      rw [this] at hcf
      cases hcf
     | false =>
      rcases hr.frn c ob hcf with q | q
      ·have h5 : ρ.fr c = some ob := q
       rw [hrel.apart b o' c s z g1 (g2 hw) hx] at h5
       cases h5
      ·rw [outb b hb] at ho
       exact q ⟨hcl, notmu b o _ hb ho hx⟩
   ·rcases hr.frn c ob hc with q | q
    ·exact hrel.frn c ob q
    ·refine .inr fun h2 => ?_
     have hcw : c < w.heap.size := Nat.lt_of_lt_of_le h2.1 hrel.below.size
     exact q ⟨hcw, fun hm => muNew c hm h2⟩
  ·refine outb b ?_
   cases hm : memB b bl with
   | false => rfl
   | true =>
    obtain ⟨i, k, x, c0, c', h1, h2, _⟩ := inb b hm
    rw [h2] at hn
    cases hn
def itabCall (tab : List IEnt) (next : VCall) : VCall := fun f args hp nx K =>
 match ientOf f tab with
 | some e => icall e args hp nx K
 | none => next f args hp nx K
theorem itabCall_ok {P : Program} {tab : List IEnt} {next : VCall} (ht : ∀ e ∈ tab, IEntOk P e) (hn : VCallOk P next) : VCallOk P (itabCall tab next) := by
 intro f args hp nx K h W ρ w args' hrel hargs
 unfold itabCall at h
 split at h
 ·rename_i e he
  obtain ⟨h1, rfl⟩ := ientOf_mem he
  exact icall_ok (ht e h1) h hrel hargs
 ·exact hn f args hp nx K h W ρ w args' hrel hargs
def vcI (P : Program) (vc : VCall) (f : FuncId) (lt : List (Nat × List Nat)) (conts : List (List Value)) (args : List Value) (H : Code → List Fr → AS → Prop) (Post : Value → List (List Value) → Prop) : Prop :=
 vcE P vc f lt (List.replicate conts.length false) (hpOf conts) args H (ipost conts.length Post)
def vcLI (P : Program) (vc : VCall) (f : FuncId) (na : List Value) (lt : List (Nat × List Nat)) (n : Nat) (r : Nat) (st : AS) (H : Code → List Fr → AS → Prop) (Post : Value → List (List Value) → Prop) : Prop :=
 vcL P vc f na lt (List.replicate n false) r st H (ipost n Post)
def OkI (P : Program) (f : FuncId) (na : List Value) (n : Nat) (Post : Value → List (List Value) → Prop) : Code → List Fr → AS → Prop := Ok P f na (List.replicate n false) (ipost n Post)
theorem spec_I {P : Program} {vc : VCall} (hcall : VCallOk P vc) (hm : P.follows .mixedOrders = true) {f : FuncId} (hf : (P.funcs[f]?).isSome = true) (hc : (fnAt P f).body.isSome = true) (lt : List (Nat × List Nat)) {conts : List (List Value)} {args : List Value} {Post : Value → List (List Value) → Prop}
  {X : Prop} (e : vcI P vc f lt conts args (OkI P f args conts.length Post) Post = X) (h : X) : SpecI P f conts args Post := by
 have := spec_E (base := List.replicate conts.length false) hcall hm hf hc (lt := lt) (Eq.mpr e h)
 rw [List.length_replicate] at this
 exact this
theorem ok_I {P : Program} {vc : VCall} (hcall : VCallOk P vc) (hm : P.follows .mixedOrders = true) {f : FuncId} {na : List Value} (lt : List (Nat × List Nat)) {n r : Nat} {st : AS} {Post : Value → List (List Value) → Prop}
  {X : Prop} (e : vcLI P vc f na lt n r st (OkI P f na n Post) Post = X) (h : X) : OkI P f na n Post (lpC P f r) (lpK P f r) st := ok_L (lt := lt) hcall hm (Eq.mpr e h)
def finF (P : Program) (fn : Func) (Post : List Value → Nat → Nat → Prop) (st : AS) : Prop :=
 match ares P st.hp st.tm fn with
 | some (.slice (some ⟨b, o, none⟩) n sz) => match st.hp.get b with
  | some (.cells l true) => (o + n * sz = l.length ∧ NLs (l.drop o)) ∧ Post (l.drop o) n sz
  | _ => False
 | _ => False
def PureF (P : Program) (f : FuncId) (args : List Value) (Post : List Value → Nat → Nat → Prop) : Prop :=
 ∀ (W : Base) ρ w args', Rel ρ W .e 0 w → VRL ρ args args' → Calls P f args'.toArray w fun e w' => ∃ b o n sz l hp' nx' v' ρ', Post (l.drop o) n sz ∧ e = .returned v' ∧ VR ρ' (.slice (some ⟨b, o, none⟩) n sz) v' ∧ hp'.get b = some (.cells l true) ∧ o + n * sz = l.length ∧ NLs (l.drop o) ∧ Rel ρ' W hp' nx' w' ∧ StepG 0 ρ ρ'
def FinQF (P : Program) (fn : Func) (W : Base) (ρ : Place) (Post : List Value → Nat → Nat → Prop) (e : Exit) (a : Act) (w : World) : Prop :=
 bodyPost P fn (fun e w' => ∃ b o n sz l hp' nx' v' ρ', Post (l.drop o) n sz ∧ e = .returned v' ∧ VR ρ' (.slice (some ⟨b, o, none⟩) n sz) v' ∧ hp'.get b = some (.cells l true) ∧ o + n * sz = l.length ∧ NLs (l.drop o) ∧ Rel ρ' W hp' nx' w' ∧ StepG 0 ρ ρ') e a w
theorem finF_ok {P : Program} {fn : Func} {n : Nat} {Post : List Value → Nat → Nat → Prop} {st : AS} (h : finF P fn Post st) {W : Base} (hd : W.ds = []) {ρ0 ρ : Place} {a : Act} {w : World} (hs : SRel ρ W n st a w) (hr : StepG 0 ρ0 ρ) :
  FinQF P fn W ρ0 Post .normal a w ∧ FinQF P fn W ρ0 Post .ret a w := by
 unfold finF at h
 split at h
 case h_2 => exact h.elim
 rename_i b o m sz hv
 split at h
 case h_2 => exact h.elim
 rename_i l hl
 obtain ⟨v', r1, r2⟩ := ares_sound hs.rel hs.frame hv
 have : ∃ b o n sz l hp' nx' v'' ρ', Post (l.drop o) n sz ∧ Ending.returned v' = .returned v'' ∧ VR ρ' (.slice (some ⟨b, o, none⟩) n sz) v'' ∧ hp'.get b = some (.cells l true) ∧ o + n * sz = l.length ∧ NLs (l.drop o) ∧ Rel ρ' W hp' nx' w ∧ StepG 0 ρ0 ρ' :=
  ⟨b, o, m, sz, l, st.hp, st.nx, v', ρ, h.2, rfl, r2, hl, h.1.1, h.1.2, hs.rel, hr⟩
 exact ⟨⟨hs.frame.defers.trans hd, v', r1, this⟩, ⟨hs.frame.defers.trans hd, v', r1, this⟩⟩
def vcF (P : Program) (vc : VCall) (f : FuncId) (lt : List (Nat × List Nat)) (args : List Value) (H : Code → List Fr → AS → Prop) (Post : List Value → Nat → Nat → Prop) : Prop :=
 vrun P vc (slotsN args (fnAt P f)) lt [] H (finF P (fnAt P f) Post) 3000 (.code (codeOf (fnAt P f))) [] ⟨putArgs 0 args .e, .e, 0⟩
def vcLF (P : Program) (vc : VCall) (f : FuncId) (na : List Value) (lt : List (Nat × List Nat)) (r : Nat) (st : AS) (H : Code → List Fr → AS → Prop) (Post : List Value → Nat → Nat → Prop) : Prop :=
 vrun P vc (slotsN na (fnAt P f)) lt [] H (finF P (fnAt P f) Post) 3000 (.code (lpC P f r)) (.loop (lpC P f r) :: lpK P f r) st
def OkF (P : Program) (f : FuncId) (na : List Value) (Post : List Value → Nat → Nat → Prop) : Code → List Fr → AS → Prop :=
 Good P (slotsN na (fnAt P f)) [] (finF P (fnAt P f) Post)
theorem pure_F {P : Program} {vc : VCall} (hcall : VCallOk P vc) (hm : P.follows .mixedOrders = true) {f : FuncId} (hf : (P.funcs[f]?).isSome = true) (hc : (fnAt P f).body.isSome = true) (lt : List (Nat × List Nat)) {args : List Value} {Post : List Value → Nat → Nat → Prop}
  {X : Prop} (e : vcF P vc f lt args (OkF P f args Post) Post = X) (h : X) : PureF P f args Post := by
 have hf' : P.funcs[f]? = some (fnAt P f) := by
  unfold fnAt
  cases hx : P.funcs[f]? with
  | none => rw [hx] at hf; cases hf
  | some x => rfl
 have hc' : (fnAt P f).body = some (codeOf (fnAt P f)) := by
  unfold codeOf
  cases hx : (fnAt P f).body with
  | none => rw [hx] at hc; cases hc
  | some x => rfl
 have h' := Eq.mpr e h
 intro W ρ w args' hrel hargs
 suffices hb : Calls P f args'.toArray w fun e w' => ∃ b o n sz l hp' nx' v' ρ', Post (l.drop o) n sz ∧ e = .returned v' ∧ VR ρ' (.slice (some ⟨b, o, none⟩) n sz) v' ∧ hp'.get b = some (.cells l true) ∧ o + n * sz = l.length ∧ NLs (l.drop o) ∧ Rel ρ' W.bare hp' nx' w' ∧ StepG 0 ρ ρ' from
  hb.mono fun e w' ⟨b, o, n, sz, l, hp', nx', v', ρ', g1, g2, g3, g4, g5, g6, g7, g8⟩ => ⟨b, o, n, sz, l, hp', nx', v', ρ', g1, g2, g3, g4, g5, g6, g7.unbare, g8⟩
 refine calls_of_wp hf' hc' ?_
 exact vrun_sound (R := fun ρ' _ => StepG 0 ρ ρ') (Q := FinQF P (fnAt P f) W.bare ρ Post) hcall hm (fun _ _ _ _ h k => h.step k)
  (fun b k st h ρ' a w hs hr => good_vloop (base := []) h W.bare ρ _ (fun st hst ρ' a w hs hr => finF_ok hst rfl hs hr) ρ' a w hs hr) (fun st hst ρ' a w hs hr => finF_ok hst rfl hs hr) 3000 _ [] _ h' ρ _ w (start_rel rfl hrel.bare hargs (fnAt P f)) (.refl _ _)
theorem ok_F {P : Program} {vc : VCall} (hcall : VCallOk P vc) (hm : P.follows .mixedOrders = true) {f : FuncId} {na : List Value} (lt : List (Nat × List Nat)) {r : Nat} {st : AS} {Post : List Value → Nat → Nat → Prop}
  {X : Prop} (e : vcLF P vc f na lt r st (OkF P f na Post) Post = X) (h : X) : OkF P f na Post (lpC P f r) (lpK P f r) st := good_round hcall hm 3000 (Eq.mpr e h)
structure FEnt where
 f : FuncId
 c : List Value → (List Value → Nat → Nat → Prop) → Prop
def FEntOk (P : Program) (e : FEnt) : Prop := ∀ args Post, e.c args Post → PureF P e.f args Post
def fentOf (f : FuncId) : List FEnt → Option FEnt
 | [] => none
 | e :: l => bif e.f.beq f then some e else fentOf f l
theorem fentOf_mem {f : FuncId} {e : FEnt} : ∀ {l : List FEnt}, fentOf f l = some e → e ∈ l ∧ e.f = f
 | [], h => by simp [fentOf] at h
 | x :: l, h => by
  simp only [fentOf] at h
  cases hx : x.f.beq f with
  | true => rw [hx] at h; cases h; exact ⟨by simp, Nat.eq_of_beq_eq_true hx⟩
  | false => rw [hx, cond_false] at h; exact ⟨by simp [(fentOf_mem h).1], (fentOf_mem h).2⟩
def ftabCall (tab : List FEnt) (next : VCall) : VCall := fun f args hp nx K =>
 match fentOf f tab with
 | some e => bif args.all nl then e.c args fun l n sz => K (.slice (some ⟨nx, 0, none⟩) n sz) true (hp.put nx (some (.cells l true))) (nx + 1) else False
 | none => next f args hp nx K
theorem ftabCall_ok {P : Program} {tab : List FEnt} {next : VCall} (ht : ∀ e ∈ tab, FEntOk P e) (hnx : VCallOk P next) : VCallOk P (ftabCall tab next) := by
 intro f args hp nx K h W ρ w args' hrel hargs
 unfold ftabCall at h
 split at h
 case h_2 => exact hnx f args hp nx K h W ρ w args' hrel hargs
 rename_i e he
 obtain ⟨h1, rfl⟩ := fentOf_mem he
 cases ha : args.all nl with
 | false => rw [ha] at h; exact h.elim
 | true =>
  rw [ha, cond_true] at h
  have hargs1 : VRL ⟨fun _ => none, ρ.fr, ρ.gl⟩ args args' := .of hargs.len fun i v v' a b => by
   have h0 : VR0 ρ.fr v v' := nl_sound (List.all_eq_true.1 ha v (List.mem_of_getElem? a)) (hargs.get a b)
   exact VR0.lift (ρ := ⟨fun _ => none, ρ.fr, ρ.gl⟩) h0
  have hrel1 : Rel ⟨fun _ => none, ρ.fr, ρ.gl⟩ ⟨w, fun _ => False, ρ.fr, []⟩ .e 0 w := ⟨fun b x hb => (by cases hb), fun b o c s z ho => (by cases ho), fun b b' x x' o o' ho => (by cases ho), fun b _ => rfl, ⟨rfl, rfl, rfl, Nat.le_refl _, fun _ _ => rfl⟩, hrel.frz, fun b o c s z ho => (by cases ho), fun c ob hc => .inl hc⟩
  refine (ht e h1 args _ h ⟨w, fun _ => False, ρ.fr, []⟩ _ w args' hrel1 hargs1).mono ?_
  rintro e' w' ⟨b, o, n, sz, l, hp', nx', v', ρ1, hP, rfl, hv, hb, hlen, hnl, hr, hg⟩
  have old : ∀ c, c < w.heap.size → w'.heap[c]? = w.heap[c]? := fun c hc => hr.below.block c ⟨hc, fun h => h⟩
  have hsz : w.heap.size ≤ w'.heap.size := hr.below.size
  have lt : ∀ {c : Nat} {ob : Obj}, w.heap[c]? = some ob → c < w.heap.size := fun {c ob} hc => by
   rcases Nat.lt_or_ge c w.heap.size with h' | h'
   ·exact h'
   ·rw [Array.getElem?_eq_none h'] at hc; cases hc
  -- the new block
  have hplace : ∃ c s z, ρ1.pl b = some (c, s, z) := by
   cases hv with
   | slice hx _ _ => exact ⟨_, _, _, hx⟩
   | emptySlice a' hx => exact ⟨_, _, _, hx⟩
  obtain ⟨c, s, z, hx⟩ := hplace
  obtain ⟨ob, e1, e2⟩ := hr.obj b _ c s z hb hx
  cases ob <;> try exact e2.elim
  rename_i cs ct fz
  obtain ⟨k1, k2, k3, k4, k5⟩ := e2
  have hc0 : w.heap.size ≤ c := by
   rcases Nat.lt_or_ge c w.heap.size with h' | h'
   ·exact absurd ⟨h', fun h => h⟩ (k5 rfl)
   ·exact h'
  have hcl : c < w'.heap.size := (hr.dom b _ hx).2
  have hno : ρ.pl nx = none := hrel.dom_none
  let ρ' : Place := ⟨fun k => if k = nx then some (c, s + o, z) else ρ.pl k, ρ1.fr, ρ1.gl⟩
  have hle : ρ.le ρ' := ⟨fun k x hk => by
   show (if k = nx then _ else _) = _
   rw [if_neg (by intro e; rw [e, hno] at hk; cases hk)]
   exact hk, fun c x hc => hg.2 c x hc⟩
  have pl_nx : ρ'.pl nx = some (c, s + o, z) := by show (if nx = nx then _ else _) = _; rw [if_pos rfl]
  have pl_other : ∀ k, k ≠ nx → ρ'.pl k = ρ.pl k := fun k hk => by show (if k = nx then _ else _) = _; rw [if_neg hk]
  have hdl : (l.drop o).length = n * sz := by rw [List.length_drop]; omega
  have hval : VR ρ' (.slice (some ⟨nx, 0, none⟩) n sz) v' := by
   cases hv with
   | @slice _ _ _ _ c2 s2 z2 cap hx2 q1 q2 =>
    rw [hx] at hx2
    cases hx2
    exact VR.slice (ρ := ρ') (s := s + o) (o := 0) pl_nx q1 (by omega)
   | emptySlice a' hx2 => exact VR.emptySlice (ρ := ρ') a' pl_nx
  have hget : ∀ k, k ≠ nx → (hp.put nx (some (.cells (l.drop o) true))).get k = hp.get k := fun k hk => by rw [Tr.get_put, if_neg hk]
  have hgetn : (hp.put nx (some (.cells (l.drop o) true))).get nx = some (.cells (l.drop o) true) := by rw [Tr.get_put, if_pos rfl]
  refine ⟨_, true, _, _, v', ρ', hP, fun e => (by cases e), rfl, hval, ?_, ⟨hle, Nat.le_succ _, fun k hk hn => ⟨by rw [pl_other k (by omega)]; exact hn, hget k (by omega)⟩⟩⟩
  refine ⟨fun k x hk => ?_, fun k o' c' s' z' ho hk => ?_, fun k k' x x' o1 o2 g1 g2 hk hk' hxx => ?_, fun k hk => ?_, ⟨hr.below.os.trans hrel.below.os, hr.below.tape.trans hrel.below.tape, hr.below.output.trans hrel.below.output, Nat.le_trans hrel.below.size hsz, fun k hk => ?_⟩, hr.frz, fun k o' c' s' z' ho hw hk => ?_, fun c' ob hc => ?_⟩
  ·by_cases e : k = nx
   ·subst e
    rw [pl_nx] at hk
    cases hk
    exact ⟨by omega, hcl⟩
   ·rw [pl_other k e] at hk
    exact ⟨by have := (hrel.dom k x hk).1; omega, Nat.lt_of_lt_of_le (hrel.dom k x hk).2 hsz⟩
  ·by_cases e : k = nx
   ·subst e
    rw [hgetn] at ho
    cases ho
    rw [pl_nx] at hk
    cases hk
    refine ⟨.cells cs ct fz, e1, k1, ?_, k3, fun j v hj => ?_, fun _ ho => ?_⟩
    ·rw [hdl]; omega
    ·have hj2 := hj
     rw [List.getElem?_drop] at hj
     obtain ⟨u, q1, q2⟩ := k4 _ v hj
     have h0 : VR0 ρ1.fr v u := nl1_sound (hnl v (List.mem_of_getElem? hj2)) q2
     exact ⟨u, by rw [show s + o + j = s + (o + j) by omega]; exact q1, VR0.lift (ρ := ρ') h0⟩
    ·have := hrel.below.size
     have := ho.1
     omega
   ·rw [hget k e] at ho
    rw [pl_other k e] at hk
    obtain ⟨ob, q1, q2⟩ := hrel.obj k o' c' s' z' ho hk
    exact ⟨ob, by rw [old c' (lt q1)]; exact q1, q2.mono hle⟩
  ·by_cases e : k = nx
   ·by_cases e' : k' = nx
    ·rw [e, e']
    ·subst e
     rw [pl_nx] at hk
     cases hk
     rw [pl_other k' e'] at hk'
     have := (hrel.dom k' x' hk').2
     simp only at hxx
     omega
   ·by_cases e' : k' = nx
    ·subst e'
     rw [pl_nx] at hk'
     cases hk'
     rw [pl_other k e] at hk
     have := (hrel.dom k x hk).2
     simp only at hxx
     omega
    ·rw [hget k e] at g1
     rw [hget k' e'] at g2
     rw [pl_other k e] at hk
     rw [pl_other k' e'] at hk'
     exact hrel.inj k k' x x' o1 o2 g1 g2 hk hk' hxx
  ·rw [hget k (by omega)]
   exact hrel.fresh k (by omega)
  ·rw [old k (Nat.lt_of_lt_of_le hk.1 hrel.below.size)]
   exact hrel.below.block k hk
  ·show ρ1.fr c' = none
   by_cases e : k = nx
   ·subst e
    rw [pl_nx] at hk
    cases hk
    exact hr.apart b _ c s z hb rfl hx
   ·rw [hget k e] at ho
    rw [pl_other k e] at hk
    cases hcf : ρ1.fr c' with
    | none => rfl
    | some ob =>
     have hcl' := (hrel.dom k _ hk).2
     rcases hr.frn c' ob hcf with q | q
     ·have h2 : ρ.fr c' = some ob := q
      rw [hrel.apart k o' c' s' z' ho hw hk] at h2
      cases h2
     ·exact absurd ⟨hcl', fun h => h⟩ q
  ·rcases hr.frn c' ob hc with q | q
   ·exact hrel.frn c' ob q
   ·refine .inr fun h2 => q ⟨Nat.lt_of_lt_of_le h2.1 hrel.below.size, fun h => h⟩
theorem Rel.later {ρ : Place} {W : Base} {hp : Tr AObj} {nx : Nat} {w w' : World} (h : Rel ρ W hp nx w) (hb : Below w.heap.size w w') : Rel ρ W hp nx w' := by
 have lt : ∀ {c : Nat} {ob : Obj}, w.heap[c]? = some ob → c < w.heap.size := fun {c ob} hc => by
  rcases Nat.lt_or_ge c w.heap.size with h' | h'
  ·exact h'
  ·rw [Array.getElem?_eq_none h'] at hc; cases hc
 refine ⟨fun b x hx => ⟨(h.dom b x hx).1, Nat.lt_of_lt_of_le (h.dom b x hx).2 hb.size⟩, fun b o c s z ho hx => ?_, h.inj, h.fresh, ⟨hb.os.trans h.below.os, hb.tape.trans h.below.tape, hb.output.trans h.below.output, Nat.le_trans h.below.size hb.size, fun k hk => ?_⟩, fun c ob hc => ?_, h.apart, h.frn⟩
 ·obtain ⟨ob, e1, e2⟩ := h.obj b o c s z ho hx
  exact ⟨ob, by rw [hb.block c (lt e1)]; exact e1, e2⟩
 ·rw [hb.block k (Nat.lt_of_lt_of_le hk.1 h.below.size)]
  exact h.below.block k hk
 ·have := h.frz c ob hc
  rw [hb.block c (lt this)]
  exact this
def tabCallF (P : Program) (tab : List Ent) (next : VCall) : VCall := fun f args hp nx K =>
 match entOf f tab with
 | some e => match P.funcs[f]? with
  | some fn => match frzTs P 0 fn.params.toList args hp with
   | some (us, hp', ob) => bif us.all nl then ob ∧ e.c us fun v => Bool.rec (motive := fun _ => Prop) (K v true hp' nx) (K v false hp nx) (closed v) else False
   | none => False
  | none => False
 | none => next f args hp nx K
theorem tabCallF_ok {P : Program} {tab : List Ent} {next : VCall} (ht : ∀ e ∈ tab, EntOk P e) (hnx : VCallOk P next) : VCallOk P (tabCallF P tab next) := by
 intro f args hp nx K h W ρ w args' hrel hargs
 unfold tabCallF at h
 split at h
 case h_2 => exact hnx f args hp nx K h W ρ w args' hrel hargs
 rename_i e he
 obtain ⟨h1, rfl⟩ := entOf_mem he
 split at h
 case h_2 => exact h.elim
 split at h
 case h_2 => exact h.elim
 rename_i us hp' ob hf
 cases ha : us.all nl with
 | false => rw [ha] at h; exact h.elim
 | true =>
  rw [ha, cond_true] at h
  obtain ⟨hob, hc⟩ := h
  obtain ⟨ρ1, g1, g2, g3, g4⟩ := frzTs_sound hrel hargs hf hob
  have hargs1 : VRL ρ1 us args' := .of g3 fun i v v' a b => VR0.lift (g4 i v v' a b)
  refine ((ht e h1 us _ hc).call ha g1 hargs1).mono ?_
  rintro e' w' ⟨v, v', ρ2, hK, rfl, q1, q2, q3, q4, q5⟩
  cases hcl : closed v with
  | true =>
   rw [hcl] at hK
   have e : v' = v := closed_eq hcl q1
   exact ⟨v, false, hp, nx, v', ρ, hK, fun _ => rfl, rfl, by rw [e]; exact closed_refl hcl, hrel.later q5, .refl _ _ _⟩
  | false =>
   rw [hcl] at hK
   exact ⟨v, true, hp', nx, v', ρ2, hK, fun e => (by cases e), rfl, q1, q3, g2.trans q4⟩
class Enc (α : Type) where
 sz : Nat
 cells : α → List Value
 len : ∀ a, (cells a).length = sz
 nl : ∀ a, NLs (cells a)
def elt : List Value → Value
 | [v] => v
 | l => .agg l.toArray
theorem elt_cells : ∀ {l : List Value}, NLs l → (elt l).cells = l.toArray
 | [], _ => rfl
 | [v], h => by
  have := h v (by simp)
  cases v <;> first | rfl | (simp [nl1] at this)
 | _ :: _ :: _, _ => rfl
def encL {α : Type} [Enc α] (l : List α) : Array Value := (l.map fun a => elt (Enc.cells a)).toArray
instance instEncList {α : Type} [Enc α] : Enc (List α) where
 sz := 1
 cells l := [tree (Enc.sz α) l.length (encL l)]
 len _ := rfl
 nl l := by intro v hv; simp at hv; subst hv; rfl
instance : Enc Int where
 sz := 1
 cells n := [.int .i64 n]
 len _ := rfl
 nl n := by intro v hv; simp at hv; subst hv; rfl
instance : Enc ByteArray where
 sz := 1
 cells s := [.string s]
 len _ := rfl
 nl n := by intro v hv; simp at hv; subst hv; rfl
instance : Enc Bool where
 sz := 1
 cells b := [.bool b]
 len _ := rfl
 nl n := by intro v hv; simp at hv; subst hv; rfl
instance {α β : Type} [Enc α] [Enc β] : Enc (α × β) where
 sz := Enc.sz α + Enc.sz β
 cells p := Enc.cells p.1 ++ Enc.cells p.2
 len p := by rw [List.length_append, Enc.len, Enc.len]
 nl p := by
  intro v hv
  rcases List.mem_append.1 hv with h | h
  ·exact Enc.nl p.1 v h
  ·exact Enc.nl p.2 v h
theorem cellAt_encL {α : Type} [Enc α] {l : List α} {i j : Nat} {a : α} (h : l[i]? = some a) : cellAt (encL l) i j = ((Enc.cells a)[j]?).getD undef := by
 unfold cellAt encL
 simp [Array.getD_eq_getD_getElem?, h, elt_cells (Enc.nl a)]
theorem cellAt_encL' {α : Type} [Enc α] {l : List α} {i j : Nat} (h : i < l.length) : cellAt (encL l) i j = ((Enc.cells l[i])[j]?).getD undef := cellAt_encL (by simp)
theorem toI_int (k : IntKind) (n : Int) : toI (.int k n) = n := rfl
theorem toN_tree (sz n : Nat) (els : Array Value) : toN (tree sz n els) = n := rfl
theorem toE_tree (sz n : Nat) (els : Array Value) : toE (tree sz n els) = els := rfl
abbrev OkP (f : FuncId) (na : List Value) (r : Nat) (Post : Value → Prop) (st : AS) : Prop := OkAt Tryz.prog f na Post (lpC Tryz.prog f r) (lpK Tryz.prog f r) st
theorem mixed : Tryz.prog.follows .mixedOrders = true := by kernel_rfl
theorem wrap64 {n : Int} (h1 : -9223372036854775808 ≤ n) (h2 : n < 9223372036854775808) : IntKind.i64.wrap n = n := by
 have e : IntKind.i64.wrap n = if (n % 18446744073709551616 : Int) ≥ 9223372036854775808 then n % 18446744073709551616 - 18446744073709551616 else n % 18446744073709551616 := by
  unfold IntKind.wrap
  simp [IntKind.signed, IntKind.bits]
 rw [e]
 split <;> omega
abbrev Short {α : Type} (l : List α) : Prop := l.length < 2 ^ 62
theorem wrapNat {n : Nat} (h : n < 2 ^ 62) : IntKind.i64.wrap (n : Int) = n := wrap64 (by omega) (by omega)
theorem wrapSucc {n : Nat} (h : n < 2 ^ 62) : IntKind.i64.wrap ((n : Int) + 1) = ((n + 1 : Nat) : Int) := by
 rw [wrap64 (by omega) (by omega)]; omega
structure Pt where
 x : Int
 y : Int
 deriving DecidableEq
theorem Pt.ext' {p q : Pt} (h1 : p.x = q.x) (h2 : p.y = q.y) : p = q := by
 cases p; cases q; cases h1; cases h2; rfl
instance : Inhabited Pt := ⟨⟨0, 0⟩⟩
instance : Enc Pt where
 sz := 2
 cells p := [.int .i64 p.x, .int .i64 p.y]
 len _ := rfl
 nl p := by intro v hv; simp at hv; rcases hv with rfl | rfl <;> rfl
abbrev trPt (l : List Pt) : Value := tree 2 l.length (encL l)
theorem cell_pt {l : List Pt} {i : Nat} (h : i < l.length) : cellAt (encL l) i 0 = .int .i64 l[i].x ∧ cellAt (encL l) i 1 = .int .i64 l[i].y := by
 rw [cellAt_encL' h, cellAt_encL' h]
 exact ⟨rfl, rfl⟩
abbrev trPts (l : List (List Pt)) : Value := tree 1 l.length (encL l)
theorem cell_pts {l : List (List Pt)} {i : Nat} (h : i < l.length) : cellAt (encL l) i 0 = trPt l[i] := by
 rw [cellAt_encL' h]
 rfl
structure Vec3 where
 x : Int
 y : Int
 z : Int
 deriving DecidableEq
structure Part where
 id : ByteArray
 rev : Int
 kind : Int
 node : ByteArray
 grade : ByteArray
 thick : Int
 outer : List Pt
 holes : List (List Pt)
 sect : ByteArray
 long : Int
 mass : Int
 centre : Vec3
 at_ : Vec3
 turn : Int
 deriving DecidableEq
def partC (p : Part) : List Value := [.string p.id, .int .i64 p.rev, .int .i64 p.kind, .string p.node, .string p.grade, .int .i64 p.thick, trPt p.outer, trPts p.holes, .string p.sect, .int .i64 p.long, .int .i64 p.mass,
 .int .i64 p.centre.x, .int .i64 p.centre.y, .int .i64 p.centre.z, .int .i64 p.at_.x, .int .i64 p.at_.y, .int .i64 p.at_.z, .int .i64 p.turn]
abbrev partV (p : Part) : Value := .agg (partC p).toArray
abbrev shapeV (o : List Pt) (h : List (List Pt)) : Value := .agg [trPt o, trPts h].toArray
theorem down {p : Nat → Prop} {n : Nat} (h0 : p n) (h : ∀ k, k < n → p (k + 1) → p k) : p 0 := by
 have : ∀ j k, k + j = n → p k := by
  intro j
  induction j with
  | zero => intro k hk; rw [show k = n by omega]; exact h0
  | succ j ih => intro k hk; exact h k (by omega) (ih (k + 1) (by omega))
 exact this n 0 (by omega)
theorem list_same {α : Type} {l m : List α} (hlen : l.length = m.length) (h : ∀ i : Nat, i < l.length → l[i]? = m[i]?) : l = m :=
 List.ext_getElem? fun i => by
  rcases Nat.lt_or_ge i l.length with h' | h'
  ·exact h i h'
  ·rw [List.getElem?_eq_none h', List.getElem?_eq_none (by omega)]
theorem same_next {α : Type} {l m : List α} {k : Nat} (h1 : k < l.length) (h2 : k < m.length) (h : ∀ i : Nat, i < k → l[i]? = m[i]?) (he : l[k] = m[k]) : ∀ i : Nat, i < k + 1 → l[i]? = m[i]? := fun i hi => by
 rcases Nat.lt_or_ge i k with h' | h'
 ·exact h i h'
 ·have : i = k := by omega
  subst this
  rw [List.getElem?_eq_getElem h1, List.getElem?_eq_getElem h2, he]
theorem ne_at {α : Type} {l m : List α} {k : Nat} (h1 : k < l.length) (h2 : k < m.length) (h : l[k] ≠ m[k]) : l ≠ m := fun e => by subst e; exact h rfl
def be : Nat → Nat → List UInt8
 | 0, _ => []
 | n + 1, v => UInt8.ofNat (v / 256 ^ n) :: be n v
def hd (k v : Nat) : List UInt8 :=
 if v < 24 then [UInt8.ofNat (32 * k + v)]
 else if v < 256 then UInt8.ofNat (32 * k + 24) :: be 1 v
 else if v < 65536 then UInt8.ofNat (32 * k + 25) :: be 2 v
 else if v < 4294967296 then UInt8.ofNat (32 * k + 26) :: be 4 v
 else UInt8.ofNat (32 * k + 27) :: be 8 v
def b8 (x : UInt8) : Value := .int .u8 x.toNat
def cellsB (l : List UInt8) : List Value := l.map b8
theorem byteOf_b8 (x : UInt8) : byteOf (b8 x) = x := by
 show UInt8.ofNat ((x.toNat : Int)).toNat = x
 simp
theorem bytesL_cellsB (l : List UInt8) : bytesL (cellsB l) = ⟨l.toArray⟩ := by
 unfold bytesL cellsB
 rw [List.map_map, show (byteOf ∘ b8) = id from funext byteOf_b8, List.map_id]
theorem allU8_cellsB (l : List UInt8) : AllU8 (cellsB l) := by
 intro v hv
 obtain ⟨x, _, rfl⟩ := List.mem_map.1 hv
 exact ⟨_, rfl⟩
theorem nls_cellsB (l : List UInt8) : NLs (cellsB l) := by
 intro v hv
 obtain ⟨x, _, rfl⟩ := List.mem_map.1 hv
 rfl
theorem cellsB_len (l : List UInt8) : (cellsB l).length = l.length := by simp [cellsB]
theorem be_len : ∀ n v, (be n v).length = n
 | 0, _ => rfl
 | n + 1, v => by simp [be, be_len n v]
theorem wrapU8 (n : Nat) : IntKind.u8.wrap (n : Int) = ((UInt8.ofNat n).toNat : Int) := by
 unfold IntKind.wrap
 simp [IntKind.signed, IntKind.bits]
theorem wrapU64 {n : Nat} (h : n < 18446744073709551616) : IntKind.u64.wrap (n : Int) = n := by
 unfold IntKind.wrap
 simp [IntKind.signed, IntKind.bits]
 omega
theorem wrapU8s {n : Nat} (h : n < 256) : IntKind.u8.wrap (n : Int) = n := by rw [wrapU8]; simp; omega
theorem u8_small {n : Nat} (h : n < 256) : (UInt8.ofNat n).toNat = n := by simp; omega
theorem orBytes : ∀ k < 8, ∀ v < 32, ((BitVec.ofInt 8 ((32 * k : Nat) : Int) ||| BitVec.ofInt 8 ((v : Nat) : Int)).toNat) = 32 * k + v := by decide
theorem shl5 {k : Nat} (h : k < 8) : IntKind.u8.wrap (IntKind.i64.wrap ((k : Int) * 2 ^ 5)) = ((32 * k : Nat) : Int) := by
 rw [wrap64 (by omega) (by omega), show (k : Int) * 2 ^ 5 = ((32 * k : Nat) : Int) by omega, wrapU8, u8_small (by omega)]
theorem fdivNat (v m : Nat) : Int.fdiv (v : Int) (2 ^ m) = ((v / 2 ^ m : Nat) : Int) := by
 rw [Int.fdiv_eq_ediv_of_nonneg _ (Int.le_of_lt (Int.pow_pos (by decide)))]
 simp
theorem fdivNat' (v m : Nat) : Int.fdiv (v : Int) (2 ^ min ((m : Int).toNat) 64) = ((v / 2 ^ min m 64 : Nat) : Int) := fdivNat v _
theorem e_head (k v : Int) (H : HT) (Post : List Value → Nat → Nat → Prop) : vcF Tryz.prog noCall 56 [(5, [0, 2, 7, 8]), (9, [0, 2, 9])] [.slice none 0 0, .int .i64 k, .int .u64 v] H Post = (let q1 := [Value.int IntKind.u8 (IntKind.wrap IntKind.u8 (↑(BitVec.toNat (BitVec.ofInt 8 (IntKind.wrap IntKind.u8 (IntKind.wrap IntKind.i64 (k * 2 ^ 5))) ||| BitVec.ofInt 8 (IntKind.wrap IntKind.u8 v))) : Int))]; T2 (toI (vi 0) ≤ 5 ∧ T4 (pIf (decide (v < 24)) (T4 (T2 (1 ≤ 1 ∧ 1 ≤ 33554432 ∧ true = true ∧ 1 = 1 ∧ True ∧ (1 = 1 ∧ NLs q1) ∧ Post q1 1 1))) (T2 (True ∧ H (lpC Tryz.prog 56 5) (lpK Tryz.prog 56 5) (stV [(0, some (nS)), (2, some (Value.int IntKind.u64 v)), (7, some (Value.int IntKind.u8 (IntKind.wrap IntKind.u8 (IntKind.wrap IntKind.i64 (k * 2 ^ 5))))), (8, some (vi 0))] [] 0)))))) := by kernel_rfl
theorem l_head5 (k v f s : Int) (H : HT) (Post : List Value → Nat → Nat → Prop) : vcLF Tryz.prog noCall 56 [.slice none 0 0, .int .i64 k, .int .u64 v] [(5, [0, 2, 7, 8]), (9, [0, 2, 9])] 5 (stV [(0, some (.slice none 0 0)), (2, some (.int .u64 v)), (7, some (.int .u8 f)), (8, some (.int .i64 s))] [] 0) H Post = (let q2 := [Value.int IntKind.u8 (IntKind.wrap IntKind.u8 (↑(BitVec.toNat (BitVec.ofInt 8 f ||| BitVec.ofInt 8 (IntKind.wrap IntKind.u8 (IntKind.wrap IntKind.i64 (24 + s))))) : Int))]; let q1 := 0 ≤ s ∧ T2 (True ∧ (NLs q2 ∧ True) ∧ H (lpC Tryz.prog 56 9) (lpK Tryz.prog 56 9) (stV [(0, some (Value.slice (some (Addr.mk 0 0 none)) 1 1)), (2, some (Value.int IntKind.u64 v)), (9, some (vi (IntKind.wrap IntKind.i64 (IntKind.wrap IntKind.i64 (8 * 2 ^ min (Int.toNat s) 64) - 8))))] [(0, some (AObj.cells q2 true))] 1)); T2 (pIf (decide (s < 3)) (T2 (True ∧ 0 ≤ s ∧ 0 ≤ IntKind.wrap IntKind.u64 (8 * 2 ^ min (Int.toNat s) 64) ∧ True ∧ pIf (!decide (Int.fdiv v (2 ^ min (Int.toNat (IntKind.wrap IntKind.u64 (8 * 2 ^ min (Int.toNat s) 64))) 64) = 0)) (T4 (T2 (H (lpC Tryz.prog 56 5) (lpK Tryz.prog 56 5) (stV [(0, some (nS)), (2, some (Value.int IntKind.u64 v)), (7, some (Value.int IntKind.u8 f)), (8, some (vi (IntKind.wrap IntKind.i64 (s + 1))))] [] 0)))) (T8 (1 ≤ 1 ∧ 1 ≤ 33554432 ∧ true = true ∧ 1 = 1 ∧ T2 q1)))) (T8 (True ∧ 1 ≤ 1 ∧ 1 ≤ 33554432 ∧ true = true ∧ 1 = 1 ∧ T2 q1)))) := by kernel_rfl
theorem l_head9 (k v s : Int) (n : Nat) (l : List Value) (H : HT) (Post : List Value → Nat → Nat → Prop) : vcLF Tryz.prog noCall 56 [.slice none 0 0, .int .i64 k, .int .u64 v] [(5, [0, 2, 7, 8]), (9, [0, 2, 9])] 9 (stV [(0, some (.slice (some ⟨0, 0, none⟩) n 1)), (2, some (.int .u64 v)), (9, some (.int .i64 s))] [(0, some (.cells l true))] 1) H Post = (let q1 := l ++ [Value.int IntKind.u8 (IntKind.wrap IntKind.u8 (Int.fdiv v (2 ^ min (Int.toNat s) 64)))]; T2 (pIf (decide (s ≥ 0)) (T2 (True ∧ 0 ≤ s ∧ T2 (1 ≤ 1 ∧ n + 1 ≤ 33554432 ∧ true = true ∧ 1 = 1 ∧ 0 + n * 1 = List.length l ∧ T4 (True ∧ (NLs q1 ∧ True) ∧ H (lpC Tryz.prog 56 9) (lpK Tryz.prog 56 9) (stV [(0, some (Value.slice (some (Addr.mk 0 0 none)) (n + 1) 1)), (2, some (Value.int IntKind.u64 v)), (9, some (vi (IntKind.wrap IntKind.i64 (s - 8))))] [(0, some (AObj.cells q1 true))] 1))))) (T2 ((0 + n * 1 = List.length l ∧ NLs l) ∧ Post l n 1)))) := by kernel_rfl
theorem b8_wrap (n : Nat) : Value.int .u8 (IntKind.u8.wrap (n : Int)) = b8 (UInt8.ofNat n) := by rw [wrapU8]; rfl
theorem b8_or {k v : Nat} (hk : k < 8) (hv : v < 32) : Value.int .u8 (IntKind.u8.wrap (((BitVec.ofInt 8 ((32 * k : Nat) : Int) ||| BitVec.ofInt 8 ((v : Nat) : Int)).toNat : Nat) : Int)) = b8 (UInt8.ofNat (32 * k + v)) := by
 rw [orBytes k hk v hv, b8_wrap]
def OkH (k v : Nat) (r : Nat) (Post : List Value → Nat → Nat → Prop) (st : AS) : Prop := OkF Tryz.prog 56 [.slice none 0 0, .int .i64 k, .int .u64 v] Post (lpC Tryz.prog 56 r) (lpK Tryz.prog 56 r) st
theorem head_bytes (k v : Nat) (Post : List Value → Nat → Nat → Prop) : ∀ (j : Nat) (s : Int) (n : Nat) (l : List UInt8), j ≤ 8 → s = 8 * (j : Int) - 8 → n = l.length → n + j ≤ 9 → Post (cellsB (l ++ be j v)) (n + j) 1 →
  OkH k v 9 Post (stV [(0, some (.slice (some ⟨0, 0, none⟩) n 1)), (2, some (.int .u64 v)), (9, some (.int .i64 s))] [(0, some (.cells (cellsB l) true))] 1) := by
 intro j
 induction j with
 | zero =>
  intro s n l _ hs hn _ h
  refine ok_F (vc := noCall) noCall_ok mixed _ (l_head9 k v s n (cellsB l) _ _) ?_
  simp only [true_and, pIf_iff, decide_eq_true_eq, decide_eq_false_iff_not]
  refine ⟨fun h' => by omega, fun _ => ⟨⟨by rw [cellsB_len]; omega, nls_cellsB l⟩, ?_⟩⟩
  simpa [be] using h
 | succ j ih =>
  intro s n l hj hs hn hm h
  refine ok_F (vc := noCall) noCall_ok mixed _ (l_head9 k v s n (cellsB l) _ _) ?_
  have hs' : s = ((8 * j : Nat) : Int) := by omega
  subst hs'
  have e1 : IntKind.i64.wrap (((8 * j : Nat) : Int) - 8) = 8 * (j : Int) - 8 := by rw [wrap64 (by omega) (by omega)]; omega
  have e2 : Value.int .u8 (IntKind.u8.wrap (Int.fdiv (v : Int) (2 ^ min (((8 * j : Nat) : Int).toNat) 64))) = b8 (UInt8.ofNat (v / 256 ^ j)) := by
   rw [fdivNat', b8_wrap, Nat.min_eq_left (by omega), Nat.pow_mul]
  have e3 : cellsB l ++ [b8 (UInt8.ofNat (v / 256 ^ j))] = cellsB (l ++ [UInt8.ofNat (v / 256 ^ j)]) := by simp [cellsB]
  simp only [e2, e3, e1]
  simp only [true_and, pIf_iff, decide_eq_true_eq, decide_eq_false_iff_not]
  refine ⟨fun _ => ⟨by omega, by omega, by omega, by rw [cellsB_len]; omega, ⟨nls_cellsB _, trivial⟩, ?_⟩, fun h' => by omega⟩
  refine ih _ _ _ (by omega) rfl (by simp [hn]) (by omega) ?_
  rw [List.append_assoc, show n + 1 + j = n + (j + 1) by omega]
  exact h
theorem head_size (k v : Nat) (hk : k < 8) (hv : v < 18446744073709551616) (hv24 : 24 ≤ v) (Post : List Value → Nat → Nat → Prop) (h : Post (cellsB (hd k v)) (hd k v).length 1) : ∀ (j s : Nat), s + j = 3 → (s = 0 ∨ (s = 1 ∧ 256 ≤ v) ∨ (s = 2 ∧ 65536 ≤ v) ∨ (s = 3 ∧ 4294967296 ≤ v)) →
  OkH k v 5 Post (stV [(0, some (.slice none 0 0)), (2, some (.int .u64 v)), (7, some (.int .u8 ((32 * k : Nat) : Int))), (8, some (.int .i64 s))] [] 0) := by
 have last : ∀ s : Nat, s ≤ 3 → hd k v = UInt8.ofNat (32 * k + (24 + s)) :: be (2 ^ s) v → OkH k v 9 Post (stV [(0, some (.slice (some ⟨0, 0, none⟩) 1 1)), (2, some (.int .u64 v)), (9, some (.int .i64 (IntKind.i64.wrap (IntKind.i64.wrap (8 * 2 ^ min ((s : Int).toNat) 64) - 8))))] [(0, some (.cells [.int .u8 (IntKind.u8.wrap (((BitVec.ofInt 8 ((32 * k : Nat) : Int) ||| BitVec.ofInt 8 (IntKind.u8.wrap (IntKind.i64.wrap (24 + (s : Int))))).toNat : Nat) : Int))] true))] 1) := by
  intro s hs he
  have e1 : IntKind.i64.wrap (24 + (s : Int)) = ((24 + s : Nat) : Int) := by rw [wrap64 (by omega) (by omega)]; omega
  have e2 : Value.int .u8 (IntKind.u8.wrap (((BitVec.ofInt 8 ((32 * k : Nat) : Int) ||| BitVec.ofInt 8 (IntKind.u8.wrap (IntKind.i64.wrap (24 + (s : Int))))).toNat : Nat) : Int)) = b8 (UInt8.ofNat (32 * k + (24 + s))) := by
   rw [e1, wrapU8s (n := 24 + s) (by omega), b8_or hk (by omega)]
  rw [e2]
  refine head_bytes k v Post (2 ^ s) _ 1 [UInt8.ofNat (32 * k + (24 + s))] ?_ ?_ rfl ?_ ?_
  ·have : s = 0 ∨ s = 1 ∨ s = 2 ∨ s = 3 := by omega
   rcases this with rfl | rfl | rfl | rfl <;> decide
  ·have : s = 0 ∨ s = 1 ∨ s = 2 ∨ s = 3 := by omega
   rcases this with rfl | rfl | rfl | rfl <;> decide
  ·have : s = 0 ∨ s = 1 ∨ s = 2 ∨ s = 3 := by omega
   rcases this with rfl | rfl | rfl | rfl <;> decide
  ·rw [he] at h
   rw [List.length_cons, be_len, Nat.add_comm (2 ^ s) 1] at h
   exact h
 have shift : ∀ s : Nat, s < 3 → Int.fdiv (v : Int) (2 ^ min (IntKind.u64.wrap (8 * 2 ^ min ((s : Int).toNat) 64)).toNat 64) = ((v / 2 ^ (8 * 2 ^ s) : Nat) : Int) := by
  intro s hs
  have : s = 0 ∨ s = 1 ∨ s = 2 := by omega
  rcases this with rfl | rfl | rfl <;> exact fdivNat v _
 have pos : ∀ s : Nat, s < 3 → 0 ≤ IntKind.u64.wrap (8 * 2 ^ min ((s : Int).toNat) 64) := by
  intro s hs
  have : s = 0 ∨ s = 1 ∨ s = 2 := by omega
  rcases this with rfl | rfl | rfl <;> decide
 intro j
 induction j with
 | zero =>
  intro s hs hc
  have h3 : s = 3 := by omega
  subst h3
  refine ok_F (vc := noCall) noCall_ok mixed _ (l_head5 k v _ _ _ _) ?_
  simp only [true_and, pIf_iff, decide_eq_true_eq, decide_eq_false_iff_not]
  refine ⟨fun h' => by omega, fun _ => ⟨by omega, by omega, by omega, ⟨?_, trivial⟩, ?_⟩⟩
  ·intro u hu
   simp at hu
   subst hu
   rfl
  ·refine last 3 (by omega) ?_
   unfold hd
   rw [if_neg (by omega), if_neg (by omega), if_neg (by omega), if_neg (by omega)]
 | succ j ih =>
  intro s hs hc
  refine ok_F (vc := noCall) noCall_ok mixed _ (l_head5 k v _ _ _ _) ?_
  simp only [true_and, pIf_iff, decide_eq_true_eq, decide_eq_false_iff_not, Bool.not_eq_true', Bool.not_eq_false']
  refine ⟨fun _ => ⟨by omega, pos s (by omega), fun h' => ?_, fun h' => ⟨by omega, by omega, by omega, ⟨?_, trivial⟩, ?_⟩⟩, fun h' => by omega⟩
  ·rw [shift s (by omega)] at h'
   rw [wrap64 (by omega) (by omega), show (s : Int) + 1 = ((s + 1 : Nat) : Int) by omega]
   refine ih (s + 1) (by omega) ?_
   have : s = 0 ∨ s = 1 ∨ s = 2 := by omega
   rcases this with rfl | rfl | rfl
   ·have : v / 256 ≠ 0 := fun e => h' (by show ((v / 256 : Nat) : Int) = 0; omega)
    omega
   ·have : v / 65536 ≠ 0 := fun e => h' (by show ((v / 65536 : Nat) : Int) = 0; omega)
    omega
   ·have : v / 4294967296 ≠ 0 := fun e => h' (by show ((v / 4294967296 : Nat) : Int) = 0; omega)
    omega
  ·intro u hu
   simp at hu
   subst hu
   rfl
  ·rw [shift s (by omega)] at h'
   refine last s (by omega) ?_
   unfold hd
   have : s = 0 ∨ s = 1 ∨ s = 2 := by omega
   rcases this with rfl | rfl | rfl
   ·have : ((v / 256 : Nat) : Int) = 0 := h'
    rw [if_neg (by omega), if_pos (by omega)]
   ·have : ((v / 65536 : Nat) : Int) = 0 := h'
    rw [if_neg (by omega), if_neg (by omega), if_pos (by omega)]
   ·have : ((v / 4294967296 : Nat) : Int) = 0 := h'
    rw [if_neg (by omega), if_neg (by omega), if_neg (by omega), if_pos (by omega)]
def c_head (args : List Value) (Post : List Value → Nat → Nat → Prop) : Prop := ∃ k v : Nat, args = [.slice none 0 0, .int .i64 k, .int .u64 v] ∧ k < 8 ∧ v < 18446744073709551616 ∧ Post (cellsB (hd k v)) (hd k v).length 1
theorem ok_head : FEntOk Tryz.prog ⟨56, c_head⟩ := by
 rintro args Post ⟨k, v, rfl, hk, hv, h⟩
 refine pure_F (vc := noCall) noCall_ok mixed (by kernel_rfl) (by kernel_rfl) _ (e_head k v _ _) ?_
 simp only [true_and, pIf_iff, decide_eq_true_eq, decide_eq_false_iff_not, shl5 hk]
 refine ⟨by decide, fun h' => ?_, fun h' => ?_⟩
 ·have e : Value.int .u8 (IntKind.u8.wrap (((BitVec.ofInt 8 ((32 * k : Nat) : Int) ||| BitVec.ofInt 8 (IntKind.u8.wrap ((v : Nat) : Int))).toNat : Nat) : Int)) = b8 (UInt8.ofNat (32 * k + v)) := by
   rw [wrapU8s (n := v) (by omega), b8_or hk (by omega)]
  rw [e]
  have e2 : hd k v = [UInt8.ofNat (32 * k + v)] := by unfold hd; rw [if_pos (by omega)]
  rw [e2] at h
  exact ⟨by omega, by omega, nls_cellsB [_], h⟩
 ·exact head_size k v hk hv (by omega) Post h 3 0 rfl (.inl rfl)
def str (l : List UInt8) : ByteArray := ⟨l.toArray⟩
def bInt (n : Int) : ByteArray := if n < 0 then str (hd 1 (-1 - n).toNat) else str (hd 0 n.toNat)
def bText (s : ByteArray) : ByteArray := str (hd 2 s.size) ++ s
def bList (n : Nat) : ByteArray := str (hd 4 n)
theorem ba_ext {a b : ByteArray} (h : a.data.toList = b.data.toList) : a = b := by
 cases a; cases b; congr 1; exact Array.toList_inj.1 h
theorem str_app (a b : List UInt8) : str a ++ str b = str (a ++ b) := ba_ext (by simp [str])
theorem str_size (l : List UInt8) : (str l).size = l.length := by simp [str, ByteArray.size]
theorem str_data (s : ByteArray) : str s.data.toList = s := ba_ext (by simp [str])
theorem hd_len (k v : Nat) : (hd k v).length ≤ 9 := by
 unfold hd
 split
 ·simp
 split
 ·simp [be_len]
 split
 ·simp [be_len]
 split
 ·simp [be_len]
 ·simp [be_len]
theorem byteCells_eq (s : ByteArray) : (byteCells s).toList = cellsB s.data.toList := by
 unfold byteCells cellsB b8
 simp
theorem take_all {l : List UInt8} : (cellsB l).take l.length = cellsB l := List.take_of_length_le (by rw [cellsB_len]; exact Nat.le_refl _)
theorem not64 {n : Int} (h1 : -9223372036854775808 ≤ n) (h2 : n < 0) : IntKind.u64.wrap (IntKind.i64.wrap (((BitVec.ofInt 64 (if IntKind.signed IntKind.i64 = true then -1 else IntKind.max IntKind.i64) ^^^ BitVec.ofInt 64 n).toNat : Nat) : Int)) = (((-1 - n).toNat : Nat) : Int) := by
 have e0 : (BitVec.ofInt 64 (if IntKind.signed IntKind.i64 = true then -1 else IntKind.max IntKind.i64)) = BitVec.allOnes 64 := by decide
 rw [e0, BitVec.allOnes_xor]
 have e1 : (~~~ BitVec.ofInt 64 n).toNat = (-1 - n).toNat := by
  rw [BitVec.toNat_not, BitVec.toNat_ofInt]
  omega
 rw [e1, wrap64 (by omega) (by omega), wrapU64 (by omega)]
theorem all_single (l : List UInt8) : (cellsB l).all single = true := List.all_eq_true.2 fun v hv => by
 obtain ⟨x, _, rfl⟩ := List.mem_map.1 hv
 rfl
def tabH : List FEnt := [⟨56, c_head⟩]
def callH : VCall := ftabCall tabH noCall
theorem e_cInt (n : Int) (H : HT) (Post : PV) : vcP Tryz.prog callH 32 [] [.int .i64 n] H Post = (T2 (True ∧ pIf (decide (n < 0)) (T2 (True ∧ ∃ (k : Nat), ∃ (v : Nat), eqL [nS, vi 1, Value.int IntKind.u64 (IntKind.wrap IntKind.u64 (IntKind.wrap IntKind.i64 (↑(BitVec.toNat (BitVec.ofInt 64 (if IntKind.signed IntKind.i64 = true then -1 else IntKind.max IntKind.i64) ^^^ BitVec.ofInt 64 n)) : Int)))] [nS, vi (↑k : Int), Value.int IntKind.u64 (↑v : Int)] ∧ k < 8 ∧ v < 18446744073709551616 ∧ (0 + List.length (hd k v) ≤ List.length (cellsB (hd k v)) ∧ AllU8 (List.take (List.length (hd k v)) (List.drop 0 (cellsB (hd k v))))) ∧ T2 (Post (vs (bytesL (List.take (List.length (hd k v)) (List.drop 0 (cellsB (hd k v))))))))) (T2 (∃ (k : Nat), ∃ (v : Nat), eqL [nS, vi 0, Value.int IntKind.u64 (IntKind.wrap IntKind.u64 n)] [nS, vi (↑k : Int), Value.int IntKind.u64 (↑v : Int)] ∧ k < 8 ∧ v < 18446744073709551616 ∧ (0 + List.length (hd k v) ≤ List.length (cellsB (hd k v)) ∧ AllU8 (List.take (List.length (hd k v)) (List.drop 0 (cellsB (hd k v))))) ∧ T2 (Post (vs (bytesL (List.take (List.length (hd k v)) (List.drop 0 (cellsB (hd k v))))))))))) := by kernel_rfl
theorem e_cText (s : ByteArray) (H : HT) (Post : PV) : vcP Tryz.prog callH 69 [] [.string s] H Post = (T4 (∃ (k : Nat), ∃ (v : Nat), eqL [nS, vi 2, Value.int IntKind.u64 (IntKind.wrap IntKind.u64 (↑s.size : Int))] [nS, vi (↑k : Int), Value.int IntKind.u64 (↑v : Int)] ∧ k < 8 ∧ v < 18446744073709551616 ∧ T2 (pIf (Nat.beq s.size 0) (true = true ∧ (0 + List.length (hd k v) ≤ List.length (cellsB (hd k v)) ∧ AllU8 (List.take (List.length (hd k v)) (List.drop 0 (cellsB (hd k v))))) ∧ T2 (Post (vs (bytesL (List.take (List.length (hd k v)) (List.drop 0 (cellsB (hd k v)))))))) (List.length (hd k v) + s.size ≤ 33554432 ∧ List.all (Array.toList (byteCells s)) single = true ∧ List.length (Array.toList (byteCells s)) = s.size * 1 ∧ 0 + List.length (hd k v) * 1 = List.length (cellsB (hd k v)) ∧ (0 + (List.length (hd k v) + s.size) ≤ List.length (List.drop 0 (cellsB (hd k v)) ++ Array.toList (byteCells s)) ∧ AllU8 (List.take (List.length (hd k v) + s.size) (List.drop 0 (List.drop 0 (cellsB (hd k v)) ++ Array.toList (byteCells s))))) ∧ T2 (Post (vs (bytesL (List.take (List.length (hd k v) + s.size) (List.drop 0 (List.drop 0 (cellsB (hd k v)) ++ Array.toList (byteCells s))))))))))) := by kernel_rfl
theorem e_cList (n : Int) (H : HT) (Post : PV) : vcP Tryz.prog callH 70 [] [.int .i64 n] H Post = (T2 (True ∧ pIf (decide (n < 0)) (T2 (Post (vz))) (T2 (∃ (k : Nat), ∃ (v : Nat), eqL [nS, vi 4, Value.int IntKind.u64 (IntKind.wrap IntKind.u64 n)] [nS, vi (↑k : Int), Value.int IntKind.u64 (↑v : Int)] ∧ k < 8 ∧ v < 18446744073709551616 ∧ (0 + List.length (hd k v) ≤ List.length (cellsB (hd k v)) ∧ AllU8 (List.take (List.length (hd k v)) (List.drop 0 (cellsB (hd k v))))) ∧ T2 (Post (vs (bytesL (List.take (List.length (hd k v)) (List.drop 0 (cellsB (hd k v))))))))))) := by kernel_rfl
def c_cInt (args : List Value) (Post : Value → Prop) : Prop := ∃ n : Int, args = [.int .i64 n] ∧ (-9223372036854775808 ≤ n ∧ n < 9223372036854775808) ∧ Post (.string (bInt n))
def c_cText (args : List Value) (Post : Value → Prop) : Prop := ∃ s : ByteArray, args = [.string s] ∧ s.size ≤ 16000000 ∧ Post (.string (bText s))
def c_cList (args : List Value) (Post : Value → Prop) : Prop := ∃ n : Nat, args = [.int .i64 n] ∧ n < 9223372036854775808 ∧ Post (.string (bList n))
theorem callH_ok : VCallOk Tryz.prog callH := ftabCall_ok (by
 intro e he
 simp only [tabH, List.mem_cons, List.not_mem_nil, or_false] at he
 rcases he with rfl
 exact ok_head) noCall_ok
theorem ok_cInt : EntOk Tryz.prog ⟨32, c_cInt⟩ := by
 rintro args Post ⟨n, rfl, ⟨h1, h2⟩, h⟩
 refine pure_P (vc := callH) callH_ok mixed (by kernel_rfl) (by kernel_rfl) _ (e_cInt n _ _) ?_
 simp only [true_and, pIf_iff, decide_eq_true_eq, decide_eq_false_iff_not, List.drop_zero, take_all, Nat.zero_add, bytesL_cellsB]
 refine ⟨fun h' => ⟨1, (-1 - n).toNat, ?_, by omega, by omega, ⟨by rw [cellsB_len]; exact Nat.le_refl _, allU8_cellsB _⟩, ?_⟩, fun h' => ⟨0, n.toNat, ?_, by omega, by omega, ⟨by rw [cellsB_len]; exact Nat.le_refl _, allU8_cellsB _⟩, ?_⟩⟩
 ·rw [not64 h1 h']; rfl
 ·unfold bInt at h; rwa [if_pos h'] at h
 ·rw [show n = ((n.toNat : Nat) : Int) by omega, wrapU64 (by omega)]; rfl
 ·unfold bInt at h; rwa [if_neg h'] at h
theorem ok_cList : EntOk Tryz.prog ⟨70, c_cList⟩ := by
 rintro args Post ⟨n, rfl, h1, h⟩
 refine pure_P (vc := callH) callH_ok mixed (by kernel_rfl) (by kernel_rfl) _ (e_cList n _ _) ?_
 simp only [true_and, pIf_iff, decide_eq_true_eq, decide_eq_false_iff_not, List.drop_zero, take_all, Nat.zero_add, bytesL_cellsB]
 refine ⟨fun h' => by omega, fun h' => ⟨4, n, ?_, by omega, by omega, ⟨by rw [cellsB_len]; exact Nat.le_refl _, allU8_cellsB _⟩, h⟩⟩
 rw [wrapU64 (by omega)]; rfl
theorem ok_cText : EntOk Tryz.prog ⟨69, c_cText⟩ := by
 rintro args Post ⟨s, rfl, h1, h⟩
 refine pure_P (vc := callH) callH_ok mixed (by kernel_rfl) (by kernel_rfl) _ (e_cText s _ _) ?_
 have hl := hd_len 2 s.size
 have hsz : s.data.toList.length = s.size := rfl
 have key : cellsB (hd 2 s.size) ++ cellsB s.data.toList = cellsB (hd 2 s.size ++ s.data.toList) := by simp [cellsB]
 have key2 : (hd 2 s.size).length + s.size = (hd 2 s.size ++ s.data.toList).length := by rw [List.length_append, hsz]
 simp only [true_and]
 refine ⟨2, s.size, ?_, by omega, by omega, ?_⟩
 ·rw [wrapU64 (by omega)]; rfl
 ·simp only [true_and, pIf_iff, List.drop_zero, Nat.zero_add, byteCells_eq, key, key2, take_all, bytesL_cellsB, cellsB_len, Nat.mul_one, hsz, all_single]
  have fin : bText s = ⟨(hd 2 s.size ++ s.data.toList).toArray⟩ := by
   unfold bText
   conv => lhs; rw [← str_data s]
   rw [str_app, str_data]
   rfl
  refine ⟨fun h' => ⟨⟨Nat.le_refl _, allU8_cellsB _⟩, ?_⟩, fun h' => ⟨by rw [← key2]; omega, ⟨Nat.le_refl _, allU8_cellsB _⟩, ?_⟩⟩
  ·have h0 : s.data.toList = [] := List.eq_nil_of_length_eq_zero (Nat.eq_of_beq_eq_true h')
   rw [fin, h0, List.append_nil] at h
   exact h
  ·rw [fin] at h
   exact h
def byte0 (s : ByteArray) : UInt8 := Array.getD s.data 0 0
def ofBE (l : List UInt8) : Nat := l.foldl (fun v b => 256 * v + b.toNat) 0
def pk (s : ByteArray) (one two : Nat) : Nat × Nat × Nat × Nat :=
 if s.size = 0 then (0, 0, 0, 3)
 else if ((byte0 s).toNat / 32 ≠ one ∧ (byte0 s).toNat / 32 ≠ two) ∨ (byte0 s).toNat % 32 > 27 then (0, 0, 0, 5)
 else if (byte0 s).toNat % 32 < 24 then ((byte0 s).toNat / 32, (byte0 s).toNat % 32, 1, 0)
 else if s.size < 1 + 2 ^ ((byte0 s).toNat % 32 - 24) then (0, 0, 0, 3)
 else if str (hd ((byte0 s).toNat / 32) (ofBE (s.extract 1 (1 + 2 ^ ((byte0 s).toNat % 32 - 24))).data.toList)) ≠ s.extract 0 (1 + 2 ^ ((byte0 s).toNat % 32 - 24)) then (0, 0, 0, 5)
 else ((byte0 s).toNat / 32, ofBE (s.extract 1 (1 + 2 ^ ((byte0 s).toNat % 32 - 24))).data.toList, 1 + 2 ^ ((byte0 s).toNat % 32 - 24), 0)
theorem kindOf (b : UInt8) : IntKind.i64.wrap (Int.fdiv ((b.toNat : Nat) : Int) (2 ^ 5)) = ((b.toNat / 32 : Nat) : Int) := by
 have := b.toNat_lt
 rw [fdivNat, wrap64 (by omega) (by omega)]
theorem and31 : ∀ n < 256, (BitVec.ofInt 8 ((n : Nat) : Int) &&& BitVec.ofInt 8 31).toNat = n % 32 := by decide +kernel
theorem lowOf (b : UInt8) : IntKind.i64.wrap (IntKind.u8.wrap (((BitVec.ofInt 8 ((b.toNat : Nat) : Int) &&& BitVec.ofInt 8 31).toNat : Nat) : Int)) = ((b.toNat % 32 : Nat) : Int) := by
 rw [and31 _ b.toNat_lt, wrapU8s (by omega), wrap64 (by omega) (by omega)]
theorem sizeOf' {m : Nat} (h1 : 24 ≤ m) (h2 : m ≤ 27) : IntKind.i64.wrap (1 + IntKind.i64.wrap (1 * 2 ^ min (IntKind.i64.wrap ((m : Int) - 24)).toNat 64)) = ((1 + 2 ^ (m - 24) : Nat) : Int) := by
 have : m = 24 ∨ m = 25 ∨ m = 26 ∨ m = 27 := by omega
 rcases this with rfl | rfl | rfl | rfl <;> decide
theorem e_peek (s : ByteArray) (e one two : Int) (H : HT) (Post : PI) : vcI Tryz.prog callH 91 [(13, [0, 6, 7, 8, 1071, 72, 73])] [[.string s, .int .i64 e]] [.pointer (some ⟨0, 0, none⟩), .int .i64 one, .int .i64 two] H Post = (let q3 := (IntKind.wrap IntKind.u8 (↑(BitVec.toNat (BitVec.ofInt 8 (↑(UInt8.toNat (Array.getD (ByteArray.data s) 0 0)) : Int) &&& BitVec.ofInt 8 31)) : Int)); let q1 := 1 + IntKind.wrap IntKind.i64 (1 * 2 ^ min (Int.toNat (IntKind.wrap IntKind.i64 (IntKind.wrap IntKind.i64 q3 - 24))) 64); let q8 := IntKind.wrap IntKind.i64 q1; let q7 := T4 ((T4 (True)) ∧ true = true ∧ Post (Value.tuple #[vi 0, Value.int IntKind.u64 0, vi 0, vi 3]) [[vs s, vi e]]); let q6 := (Int.fdiv (↑(UInt8.toNat (Array.getD (ByteArray.data s) 0 0)) : Int) (2 ^ 5)); let q5 := True ∧ (T4 (True)) ∧ true = true ∧ Post (Value.tuple #[vi 0, Value.int IntKind.u64 0, vi 0, vi 5]) [[vs s, vi e]]; let q4 := ByteArray.extract s 1 (Int.toNat q8); let q2 := (T2 (True ∧ pIf (decide (IntKind.wrap IntKind.i64 q3 < 24)) (T4 (T2 (True ∧ (T4 (True)) ∧ true = true ∧ Post (Value.tuple #[vi (IntKind.wrap IntKind.i64 q6), Value.int IntKind.u64 (IntKind.wrap IntKind.u64 (IntKind.wrap IntKind.i64 q3)), vi 1, vi 0]) [[vs s, vi e]]))) (T2 (0 ≤ IntKind.wrap IntKind.i64 (IntKind.wrap IntKind.i64 q3 - 24) ∧ T8 (T2 (pIf (decide ((↑s.size : Int) < IntKind.wrap IntKind.i64 q1)) q7 (T4 (T2 ((0 ≤ IntKind.wrap IntKind.i64 q1 ∧ toI (vi 0) ≤ 1 ∧ 1 ≤ Int.toNat q8 ∧ Int.toNat q8 ≤ s.size) ∧ T2 (True ∧ ((0 + ByteArray.size q4 * 1 ≤ List.length (Array.toList (byteCells q4)) ∧ NLs (List.drop 0 (Array.toList (byteCells q4)))) ∧ True) ∧ (NLs [vs s, vi e] ∧ True) ∧ H (lpC Tryz.prog 91 13) (lpK Tryz.prog 91 13) (stV [(0, some (pt 0)), (6, some (vi (IntKind.wrap IntKind.i64 q6))), (7, some (Value.int IntKind.u64 0)), (8, some (vi q8)), (71, some (tree 1 (ByteArray.size q4) (chunks 1 (ByteArray.size q4) (List.drop 0 (Array.toList (byteCells q4)))))), (72, some (vi (↑(ByteArray.size q4) : Int))), (73, some (vi 0))] [(0, some (AObj.cells [vs s, vi e] true))] 1))))))))))); T8 (T2 (pIf (decide (s = ByteArray.mk #[])) q7 (T4 (True ∧ (toI (vi 0) ≤ 0 ∧ 0 < (↑s.size : Int)) ∧ toI (vi 0) ≤ 5 ∧ T4 (T2 (True ∧ (toI (vi 0) ≤ 0 ∧ 0 < (↑s.size : Int)) ∧ T4 (T2 (pIf (!decide (IntKind.wrap IntKind.i64 q6 = one)) (T4 (pIf (!decide (IntKind.wrap IntKind.i64 q6 = two)) (T4 (T2 q5)) (T4 (pIf (decide (IntKind.wrap IntKind.i64 q3 > 27)) (T4 q5) q2)))) (T4 (True ∧ pIf (decide (IntKind.wrap IntKind.i64 q3 > 27)) (T4 q5) q2))))))))))) := by kernel_rfl
theorem l_peek (s : ByteArray) (e one two k v z i : Int) (n : Nat) (A : Array Value) (H : HT) (Post : PI) : vcLI Tryz.prog callH 91 [.pointer (some ⟨0, 0, none⟩), .int .i64 one, .int .i64 two] [(13, [0, 6, 7, 8, 1071, 72, 73])] 1 13 (stV [(0, some (.pointer (some ⟨0, 0, none⟩))), (6, some (.int .i64 k)), (7, some (.int .u64 v)), (8, some (.int .i64 z)), (71, some (tree 1 n A)), (72, some (.int .i64 n)), (73, some (.int .i64 i))] [(0, some (.cells [.string s, .int .i64 e] true))] 1) H Post = (True ∧ pIf (decide (i < (↑n : Int))) ((0 ≤ i ∧ i < (↑n : Int)) ∧ cellAt A (Int.toNat i) 0 = Value.int IntKind.u8 (toI (cellAt A (Int.toNat i) 0)) ∧ T2 (toI (vi 0) ≤ 8 ∧ T4 (T2 ((True ∧ True) ∧ (NLs [vs s, vi e] ∧ True) ∧ H (lpC Tryz.prog 91 13) (lpK Tryz.prog 91 13) (stV [(0, some (pt 0)), (6, some (vi k)), (7, some (Value.int IntKind.u64 (IntKind.wrap IntKind.u64 (↑(BitVec.toNat (BitVec.ofInt 64 (IntKind.wrap IntKind.u64 (v * 2 ^ 8)) ||| BitVec.ofInt 64 (IntKind.wrap IntKind.u64 (toI (cellAt A (Int.toNat i) 0))))) : Int)))), (8, some (vi z)), (71, some (tree 1 n A)), (72, some (vi (↑n : Int))), (73, some (vi (IntKind.wrap IntKind.i64 (i + 1))))] [(0, some (AObj.cells [vs s, vi e] true))] 1))))) (T8 ((0 ≤ z ∧ True ∧ 0 ≤ Int.toNat z ∧ Int.toNat z ≤ s.size) ∧ ∃ (k_1 : Nat), ∃ (v_1 : Nat), eqL [nS, vi k, Value.int IntKind.u64 v] [nS, vi (↑k_1 : Int), Value.int IntKind.u64 (↑v_1 : Int)] ∧ k_1 < 8 ∧ v_1 < 18446744073709551616 ∧ ((vs s = vs s ∧ True) ∧ True) ∧ (0 + List.length (hd k_1 v_1) ≤ List.length (cellsB (hd k_1 v_1)) ∧ AllU8 (List.take (List.length (hd k_1 v_1)) (List.drop 0 (cellsB (hd k_1 v_1))))) ∧ True ∧ pIf (!decide (bytesL (List.take (List.length (hd k_1 v_1)) (List.drop 0 (cellsB (hd k_1 v_1)))) = ByteArray.extract s 0 (Int.toNat z))) (T4 ((T4 (True)) ∧ true = true ∧ Post (Value.tuple #[vi 0, Value.int IntKind.u64 0, vi 0, vi 5]) [[vs s, vi e]])) (T4 (T2 (True ∧ (T4 (True)) ∧ true = true ∧ Post (Value.tuple #[vi k, Value.int IntKind.u64 v, vi z, vi 0]) [[vs s, vi e]])))))) := by kernel_rfl
theorem ofBE_snoc (l : List UInt8) (b : UInt8) : ofBE (l ++ [b]) = 256 * ofBE l + b.toNat := by simp [ofBE, List.foldl_append]
theorem ofBE_lt : ∀ (n : Nat) (l : List UInt8), l.length = n → ofBE l < 256 ^ n
 | 0, l, h => by rw [List.eq_nil_of_length_eq_zero h]; decide
 | n + 1, l, h => by
  have hne : l ≠ [] := by intro e; rw [e] at h; cases h
  rw [← List.dropLast_concat_getLast hne, ofBE_snoc, Nat.pow_succ]
  have h1 := ofBE_lt n l.dropLast (by simp [h])
  have h2 := (l.getLast hne).toNat_lt
  omega
theorem orStep {v : Nat} {b : UInt8} (h : 256 * v + b.toNat < 18446744073709551616) : IntKind.u64.wrap (((BitVec.ofInt 64 (IntKind.u64.wrap ((v : Int) * 2 ^ 8)) ||| BitVec.ofInt 64 (IntKind.u64.wrap ((b.toNat : Nat) : Int))).toNat : Nat) : Int) = ((256 * v + b.toNat : Nat) : Int) := by
 have hb := b.toNat_lt
 rw [show (v : Int) * 2 ^ 8 = ((2 ^ 8 * v : Nat) : Int) by omega, wrapU64 (n := 2 ^ 8 * v) (by omega), wrapU64 (n := b.toNat) (by omega), BitVec.toNat_or]
 have e1 : (BitVec.ofInt 64 ((2 ^ 8 * v : Nat) : Int)).toNat = 2 ^ 8 * v := by rw [BitVec.toNat_ofInt]; omega
 have e2 : (BitVec.ofInt 64 ((b.toNat : Nat) : Int)).toNat = b.toNat := by rw [BitVec.toNat_ofInt]; omega
 rw [e1, e2, ← Nat.two_pow_add_eq_or_of_lt (by omega), wrapU64 (by omega)]
def peekV (r : Nat × Nat × Nat × Nat) : Value := .tuple [.int .i64 r.1, .int .u64 r.2.1, .int .i64 r.2.2.1, .int .i64 r.2.2.2].toArray
def c_peek (args : List Value) (conts : List (List Value)) (Post : Value → List (List Value) → Prop) : Prop :=
 ∃ (s : ByteArray) (e : Int) (one two : Nat), args = [.pointer (some ⟨0, 0, none⟩), .int .i64 one, .int .i64 two] ∧ conts = [[.string s, .int .i64 e]] ∧ s.size < 2 ^ 62 ∧ Post (peekV (pk s one two)) conts
theorem cell_b8 {L : List UInt8} {i : Nat} (h : i < L.length) : cellAt (cellsB L).toArray i 0 = b8 L[i] := by
 unfold cellAt cellsB
 simp [Array.getD_eq_getD_getElem?, h, b8, Value.cells]
theorem chunks_b8 (T : ByteArray) : chunks 1 T.size (List.drop 0 (byteCells T).toList) = (cellsB T.data.toList).toArray := by
 unfold chunks
 rw [byteCells_eq, List.drop_zero, List.take_of_length_le (by rw [cellsB_len]; exact Nat.le_refl _)]
 rfl
theorem bytes_fit (T : ByteArray) : 0 + T.size * 1 ≤ (byteCells T).toList.length ∧ NLs (List.drop 0 (byteCells T).toList) := by
 rw [List.drop_zero, byteCells_eq, cellsB_len]
 refine ⟨?_, nls_cellsB _⟩
 have : T.data.toList.length = T.size := rfl
 omega
abbrev argsPk (one two : Int) : List Value := [.pointer (some ⟨0, 0, none⟩), .int .i64 one, .int .i64 two]
theorem peek_loop (s : ByteArray) (e one two : Int) (k z : Nat) (L : List UInt8) (hL : L.length ≤ 8) (hk : k < 8) (hz : z ≤ s.size) (Post : Value → List (List Value) → Prop)
  (h1 : str (hd k (ofBE L)) ≠ s.extract 0 z → Post (.tuple #[.int .i64 0, .int .u64 0, .int .i64 0, .int .i64 5]) [[.string s, .int .i64 e]])
  (h2 : str (hd k (ofBE L)) = s.extract 0 z → Post (.tuple #[.int .i64 k, .int .u64 (ofBE L : Nat), .int .i64 z, .int .i64 0]) [[.string s, .int .i64 e]]) :
  OkI Tryz.prog 91 (argsPk one two) 1 Post (lpC Tryz.prog 91 13) (lpK Tryz.prog 91 13)
   (stV [(0, some (.pointer (some ⟨0, 0, none⟩))), (6, some (.int .i64 k)), (7, some (.int .u64 0)), (8, some (.int .i64 z)), (71, some (tree 1 L.length (cellsB L).toArray)), (72, some (.int .i64 L.length)), (73, some (.int .i64 0))] [(0, some (.cells [.string s, .int .i64 e] true))] 1) := by
 have hlt : ofBE L < 18446744073709551616 := Nat.lt_of_lt_of_le (ofBE_lt L.length L rfl) (Nat.le_trans (Nat.pow_le_pow_right (by decide) hL) (by decide))
 refine down (n := L.length) (p := fun i => OkI Tryz.prog 91 (argsPk one two) 1 Post (lpC Tryz.prog 91 13) (lpK Tryz.prog 91 13)
   (stV [(0, some (.pointer (some ⟨0, 0, none⟩))), (6, some (.int .i64 k)), (7, some (.int .u64 (ofBE (L.take i) : Nat))), (8, some (.int .i64 z)), (71, some (tree 1 L.length (cellsB L).toArray)), (72, some (.int .i64 L.length)), (73, some (.int .i64 i))] [(0, some (.cells [.string s, .int .i64 e] true))] 1)) ?_ (fun i hi ih => ?_)
 ·refine ok_I (vc := callH) callH_ok mixed _ (l_peek s e one two k (ofBE (L.take L.length) : Nat) z L.length L.length (cellsB L).toArray _ _) ?_
  rw [List.take_length]
  simp only [true_and, and_true, pIf_iff, decide_eq_true_eq, decide_eq_false_iff_not, Bool.not_eq_true', Bool.not_eq_false', List.drop_zero, take_all, Nat.zero_add, bytesL_cellsB, Int.toNat_natCast]
  refine ⟨fun h' => by omega, fun _ => ⟨⟨by omega, by omega, hz⟩, k, ofBE L, rfl, hk, hlt, ⟨by rw [cellsB_len]; exact Nat.le_refl _, allU8_cellsB _⟩, fun h' => h1 h', fun h' => h2 h'⟩⟩
 ·refine ok_I (vc := callH) callH_ok mixed _ (l_peek s e one two k (ofBE (L.take i) : Nat) z i L.length (cellsB L).toArray _ _) ?_
  have hc := cell_b8 hi
  have hv : 256 * ofBE (L.take i) + L[i].toNat < 18446744073709551616 := by
   have := ofBE_lt (i + 1) (L.take (i + 1)) (by rw [List.length_take]; omega)
   rw [← List.take_append_getElem hi, ofBE_snoc] at this
   exact Nat.lt_of_lt_of_le this (Nat.le_trans (Nat.pow_le_pow_right (by decide) (show i + 1 ≤ 8 by omega)) (by decide))
  simp only [true_and, and_true, pIf_iff, decide_eq_true_eq, decide_eq_false_iff_not, Int.toNat_natCast, hc, b8, toI, orStep hv, wrapSucc (show i < 2 ^ 62 by omega)]
  refine ⟨fun _ => ⟨by omega, by decide, fun v hv => ?_, ?_⟩, fun h' => by omega⟩
  ·simp at hv
   rcases hv with rfl | rfl <;> rfl
  ·rw [← List.take_append_getElem hi, ofBE_snoc] at ih
   exact ih
theorem ok_peek : IEntOk Tryz.prog ⟨91, c_peek⟩ := by
 rintro args conts Post ⟨s, e, one, two, rfl, rfl, hs, h⟩
 refine spec_I (vc := callH) callH_ok mixed (by kernel_rfl) (by kernel_rfl) _ (e_peek s e one two _ _) ?_
 simp only [true_and, and_true, pIf_iff, decide_eq_true_eq, decide_eq_false_iff_not, Bool.not_eq_true', Bool.not_eq_false']
 simp only [kindOf, lowOf]
 have b0 : s.data.getD 0 0 = byte0 s := rfl
 simp only [b0]
 have hlt := (byte0 s).toNat_lt
 generalize hb : (byte0 s).toNat = b at *
 have fail : ∀ r : Nat, pk s one two = (0, 0, 0, r) → Post (.tuple #[.int .i64 0, .int .u64 0, .int .i64 0, .int .i64 r]) [[.string s, .int .i64 e]] := fun r hr => by rw [hr] at h; exact h
 have key : ∀ k V z : Nat, pk s one two = (k, V, z, 0) → Post (.tuple #[.int .i64 k, .int .u64 V, .int .i64 z, .int .i64 0]) [[.string s, .int .i64 e]] := fun k V z hr => by rw [hr] at h; exact h
 have hsz : ¬ s = ⟨#[]⟩ → 0 < s.size := fun hn => by
  rcases Nat.eq_zero_or_pos s.size with h0 | h0
  ·exact absurd (ba_ext (List.eq_nil_of_length_eq_zero h0)) hn
  ·exact h0
 refine ⟨fun h0 => fail 3 (by subst h0; rfl), fun h0 => ?_⟩
 have hz := hsz h0
 refine ⟨⟨by decide, by omega⟩, by decide, ⟨by decide, by omega⟩, fun n1 => ⟨fun n2 => fail 5 ?_, fun e2 => ?_⟩, fun e1 => ?_⟩
 ·unfold pk
  rw [if_neg (by omega), if_pos (.inl ⟨by rw [hb]; omega, by rw [hb]; omega⟩)]
 all_goals
  have hk : ¬ (b / 32 ≠ one ∧ b / 32 ≠ two) := by omega
  refine ⟨fun h1 => fail 5 ?_, fun h1 => ⟨fun h2 => ?_, fun h2 => ?_⟩⟩
  ·unfold pk
   rw [if_neg (by omega), if_pos (.inr (by rw [hb]; omega))]
  ·have : pk s one two = (b / 32, b % 32, 1, 0) := by
    unfold pk
    rw [if_neg (by omega), hb, if_neg (by omega), if_pos (by omega)]
   rw [this] at h
   rw [wrapU64 (by omega)]
   exact h
  ·have hm1 : 24 ≤ b % 32 := by omega
   have hm2 : b % 32 ≤ 27 := by omega
   have hz64 := sizeOf' hm1 hm2
   have hpw : 2 ^ (b % 32 - 24) ≤ 8 := by
    have : b % 32 - 24 = 0 ∨ b % 32 - 24 = 1 ∨ b % 32 - 24 = 2 ∨ b % 32 - 24 = 3 := by omega
    rcases this with h | h | h | h <;> rw [h] <;> decide
   rw [hz64]
   have hsub : IntKind.i64.wrap (((b % 32 : Nat) : Int) - 24) = ((b % 32 - 24 : Nat) : Int) := by rw [wrap64 (by omega) (by omega)]; omega
   simp only [Int.toNat_natCast, hsub]
   refine ⟨by omega, fun h3 => fail 3 ?_, fun h3 => ?_⟩
   ·unfold pk
    rw [if_neg (by omega), hb, if_neg (by omega), if_neg (by omega), if_pos (by omega)]
   ·have hT : (s.extract 1 (1 + 2 ^ (b % 32 - 24))).data.toList.length ≤ 8 := by
     rw [ByteArray.data_extract, Array.toList_extract]
     show ((s.data.toList.drop 1).take (1 + 2 ^ (b % 32 - 24) - 1)).length ≤ 8
     rw [List.length_take]
     omega
    have pkE : pk s one two = if str (hd (b / 32) (ofBE (s.extract 1 (1 + 2 ^ (b % 32 - 24))).data.toList)) ≠ s.extract 0 (1 + 2 ^ (b % 32 - 24)) then (0, 0, 0, 5) else (b / 32, ofBE (s.extract 1 (1 + 2 ^ (b % 32 - 24))).data.toList, 1 + 2 ^ (b % 32 - 24), 0) := by
     unfold pk
     rw [if_neg (by omega), hb, if_neg (by omega), if_neg (by omega), if_neg (by omega)]
    refine ⟨⟨Int.natCast_nonneg _, by decide, Nat.le_add_right _ _, by omega⟩, ?_, ?_, ?_⟩
    ·exact bytes_fit _
    ·intro v hv
     simp at hv
     rcases hv with rfl | rfl <;> rfl
    ·rw [chunks_b8]
     refine peek_loop s e one two (b / 32) (1 + 2 ^ (b % 32 - 24)) _ hT (by omega) (by omega) Post (fun hne => fail 5 (by rw [pkE, if_pos hne])) (fun heq => ?_)
     exact key _ _ _ (by rw [pkE, if_neg (fun hn => hn heq)])
end Go.Proofs.YtegjnjmimfgijaaGreatDoor
namespace Go.Proofs.YtegjnjmimfgijaaGreatDoor
open Go Go.RowKit
theorem block_of_add (a : Addr) (n : Nat) : (a.add n).block = a.block := by unfold Addr.add; split <;> rfl
theorem add_of_add (a : Addr) (i j : Nat) : (a.add i).add j = a.add (i + j) := by
 unfold Addr.add
 by_cases hi : i = 0 <;> by_cases hj : j = 0 <;> simp [hi, hj, Nat.add_assoc]
def Reads (w : World) (B size : Nat) (A : Option Addr) (n : Nat) (xs : List Value) : Prop :=
 xs.length = n * size ∧ (0 < n → ∃ ad, A = some ad ∧ ad.block < B ∧ ∀ j u, xs[j]? = some u → w.cell? (ad.add j) = some u)
section
variable {w w' : World} {B B' size n : Nat} {A : Option Addr} {xs : List Value}
theorem Reads.at_ {k : Nat} (h : Reads w B 1 A n xs) (hk : k < n) : ∃ ad u, A = some ad ∧ ad.block < B ∧ xs[k]? = some u ∧ w.cell? (ad.add k) = some u := by
 obtain ⟨ad, e, hb, hc⟩ := h.2 (by omega)
 have hl : k < xs.length := by have := h.1; omega
 exact ⟨ad, xs[k], e, hb, List.getElem?_eq_getElem hl, hc k _ (List.getElem?_eq_getElem hl)⟩
theorem Reads.keep (h : Reads w B size A n xs) (hk : ∀ p : Addr, p.block < B → w'.cell? p = w.cell? p) : Reads w' B size A n xs :=
 ⟨h.1, fun hn => by
  obtain ⟨ad, e, hb, hc⟩ := h.2 hn
  exact ⟨ad, e, hb, fun j u hu => (hk _ (by rw [block_of_add]; exact hb)).trans (hc j u hu)⟩⟩
theorem Reads.more (h : Reads w B size A n xs) (hB : B ≤ B') : Reads w B' size A n xs :=
 ⟨h.1, fun hn => by
  obtain ⟨ad, e, hb, hc⟩ := h.2 hn
  exact ⟨ad, e, by omega, hc⟩⟩
theorem Reads.below (h : Reads w B size A n xs) (hb : Below B w w') : Reads w' B size A n xs := h.keep fun _ hp => hb.cell hp
theorem Reads.drew (h : Reads w B size A n xs) : Reads w.drew B size A n xs := h
theorem Reads.alloc (h : Reads w B size A n xs) (hB : B ≤ w.heap.size) (o : Obj) : Reads (w.alloc o) B size A n xs := h.keep fun p hp => World.cell?_alloc_lt w o p (by omega)
theorem Reads.setCell (h : Reads w B size A n xs) {p : Addr} (hB : B ≤ p.block) (u : Value) : Reads (w.setCell p u) B size A n xs :=
 h.keep fun q hq => World.cell?_setCell_other w p q u (fun e => by subst e; omega)
theorem Reads.cut (h : Reads w B size A n xs) {k cap : Nat} (hk : k ≤ n) (hc : n ≤ cap) :
  Reads w B size (if cap = k then A else A.map (·.add (k * size))) (n - k) (xs.drop (k * size)) := by
 refine ⟨by rw [List.length_drop, h.1, Nat.sub_mul], fun hn => ?_⟩
 obtain ⟨ad, rfl, hb, hcell⟩ := h.2 (by omega)
 rw [if_neg (by omega)]
 refine ⟨ad.add (k * size), rfl, by rw [block_of_add]; exact hb, fun j u hu => ?_⟩
 rw [add_of_add]
 exact hcell _ u (by rw [← hu, List.getElem?_drop])
end
def Blk (w : World) (g : Nat) (t : TypeId) (cs : Array Value) : Prop := w.heap[g]? = some (.cells cs t (0, 0))
section
variable {w w' : World} {g : Nat} {t : TypeId} {cs : Array Value}
theorem Blk.lt (h : Blk w g t cs) : g < w.heap.size := by
 rcases Nat.lt_or_ge g w.heap.size with hlt | hge
 ·exact hlt
 ·unfold Blk at h; rw [Array.getElem?_eq_none hge] at h; cases h
theorem Blk.cell (h : Blk w g t cs) (i : Nat) : w.cell? ⟨g, i, none⟩ = cs[i]? := cell_of_row w g i cs t (0, 0) h
theorem Blk.frozen (h : Blk w g t cs) (i : Nat) : w.frozen? ⟨g, i, none⟩ = false := by
 unfold Blk at h
 simp [World.frozen?, h]
theorem Blk.new (w : World) (t : TypeId) (cs : Array Value) : Blk (w.alloc (.cells cs t)) w.heap.size t cs := heap_alloc_new w _
theorem Blk.drew (h : Blk w g t cs) : Blk w.drew g t cs := h
theorem Blk.alloc (h : Blk w g t cs) (o : Obj) : Blk (w.alloc o) g t cs := (Below.heap_alloc w o g h.lt).trans h
theorem Blk.below {B : Nat} (h : Blk w g t cs) (hb : Below B w w') (hg : g < B) : Blk w' g t cs := (hb.block g hg).trans h
end
end Go.Proofs.YtegjnjmimfgijaaGreatDoor

namespace Go.Proofs.YtegjnjmimfgijaaGreatDoor
open Go Go.RowKit Go.ChangeShapes Go.WideShapes Go.ChangeAt Go.Deep Go.Joins
section
variable {H : Type} {enc : TypeId × Value → H} {P : Program} {w : World} {base : Nat} {spare : Nat → Bool} {held : Bool}
theorem post_of_below {f : Func} {s : ChangeSpec} {apart fresh handsOn again : Bool} {W W' : World} {args : Array Value} {v : Value} {ds gs : List (DataW H)} {before pa pv : List MemPlace}
  (hW : DataW.Whole enc P f.params.toList s.vars apart W args.toList ds gs before)
  (hres : ∀ (b : Nat) (sp : Nat → Bool) (hd : Bool), DataW.TrodAll enc P W' b sp hd f.resultTypes.toList (v.resultList f.resultTypes.size) (s.fn H (ds ++ gs)).results [])
  (hargs : ∀ sp : Nat → Bool, (∀ p ∈ before, sp p.block = true) → DataW.TrodAll enc P W' 0 sp true f.params.toList args.toList (s.fn H (ds ++ gs)).args pa)
  (hvars : ∀ sp : Nat → Bool, (∀ p ∈ before, sp p.block = true) → DataW.TrodVars enc P W' sp s.vars (s.fn H (ds ++ gs)).vars pv)
  (hps : before = pa ++ pv) (hb : Below W.heap.size W W')
  (hok : ∀ (j : Nat) (t : TypeId) (r : Value), f.resultTypes[j]? = some t → (v.resultList f.resultTypes.size)[j]? = some r → Value.okWide P W' .any 0 t r) :
  s.post enc P f apart fresh handsOn again W args v W' := by
 have hlt : ∀ p ∈ before, p.block < W.heap.size := fun p hp => hW.lt p hp
 have hold : ∀ p ∈ before, (fun b => decide (b < W.heap.size)) p.block = true := fun p hp => by simpa using hlt p hp
 refine ⟨ds, gs, before, [], pa, pv, hW, hres _ _ _, hargs _ hold, hvars _ hold, World.keptBut_mono (fun p hp => ⟨hp, ?_⟩) (hb.frame (· ∈ before)), fun _ => ?_⟩
 ·rw [hps, List.mem_append] at hp
  exact Or.inr hp
 ·obtain ⟨_, _, _, _, _, hz, hn⟩ := hW
  refine ⟨hok, _, _, ([] ++ pa) ++ pv, ⟨[] ++ pa, pv, trodAll_append (hargs _ (fun _ _ => rfl)) (hres _ _ _), hvars _ (fun _ _ => rfl), rfl, ?_, ?_⟩, ?_⟩
  ·intro b off hp
   have hin : MemPlace.cell b off ∈ before := by rw [hps]; simpa using hp
   rw [hb.frozen (hlt _ hin)]
   exact hz b off hin
  ·intro ha
   have := hn ha
   rw [hps] at this
   simpa using this
  ·intro p hp _
   rw [hps]
   simpa using hp
end
end Go.Proofs.YtegjnjmimfgijaaGreatDoor

noncomputable section
namespace Go.Proofs.YtegjnjmimfgijaaGreatDoor
open Go Go.RowKit Go.ChangeShapes Go.WideShapes Go.ChangeAt Go.Deep Go.Joins
def frW (w : World) : Nat → Option Obj := fun c => w.heap[c]?
def VRC (fr : Nat → Option Obj) (l cs : List Value) : Prop := l.length = cs.length ∧ ∀ (i : Nat) (v v' : Value), l[i]? = some v → cs[i]? = some v' → VR0 fr v v'
theorem VRC.one {fr : Nat → Option Obj} {v v' : Value} (h : VR0 fr v v') : VRC fr [v] [v'] := ⟨rfl, fun i a b ha hb => by
 cases i with
 | zero => simp at ha hb; subst ha hb; exact h
 | succ i => simp at ha⟩
theorem VRC.append {fr : Nat → Option Obj} {l m cs ds : List Value} (h : VRC fr l cs) (k : VRC fr m ds) : VRC fr (l ++ m) (cs ++ ds) := by
 refine ⟨by rw [List.length_append, List.length_append, h.1, k.1], fun i a b ha hb => ?_⟩
 rcases Nat.lt_or_ge i l.length with hi | hi
 ·rw [List.getElem?_append_left hi] at ha
  rw [List.getElem?_append_left (by rw [← h.1]; exact hi)] at hb
  exact h.2 i a b ha hb
 ·rw [List.getElem?_append_right hi] at ha
  rw [List.getElem?_append_right (by rw [← h.1]; exact hi), ← h.1] at hb
  exact k.2 _ a b ha hb
theorem VRC.step {fr : Nat → Option Obj} {l m cs : List Value} {o k : Nat} (h : VRC fr l ((cs.drop o).take k)) (r : VRC fr m (cs.drop (o + k))) : VRC fr (l ++ m) (cs.drop o) := by
 have := h.append r
 rwa [← List.drop_drop, List.take_append_drop] at this
theorem VRC.next {fr : Nat → Option Obj} {l m cs : List Value} {o k : Nat} (h : VRC fr l ((cs.drop o).take k)) (r : VRC fr m (cs.drop (o + l.length))) : VRC fr (l ++ m) (cs.drop o) := by
 have e : (cs.drop o).take k = (cs.drop o).take l.length := by
  have h1 := h.1
  rw [List.length_take] at h1
  rcases Nat.le_total k (cs.drop o).length with hk | hk
  ·rw [show l.length = k by omega]
  ·rw [List.take_of_length_le hk, List.take_of_length_le (by omega)]
 rw [e] at h
 exact h.step r
theorem VRC.done {fr : Nat → Option Obj} {cs : List Value} {n : Nat} (h : cs.length = n) : VRC fr [] (cs.drop n) := by
 rw [List.drop_eq_nil_of_le (by omega)]
 exact ⟨rfl, fun i a b ha => by simp at ha⟩
def Opens (P : Program) (w : World) (t : TypeId) (α : Type) [Enc α] (Ok : α → Prop) : Prop :=
 ∀ (H : Type) (enc : TypeId × Value → H) (base : Nat) (spare : Nat → Bool) (held : Bool) (fuel : Nat) (cs : List Value) (x : DataW H × List MemPlace), DataW.trod enc P w base spare held fuel t cs = some x → ∃ a : α, Ok a ∧ VRC (frW w) (Enc.cells a) cs
def In64 (n : Int) : Prop := -9223372036854775808 ≤ n ∧ n < 9223372036854775808
section
variable {P : Program} {w : World}
theorem opens_string {t : TypeId} (ht : P.underlying t = some .string) : Opens P w t ByteArray fun s => s.size ≤ maxLen := fun H enc base spare held fuel cs x h => by
 obtain ⟨s, rfl, _, hs⟩ := DataW.trod_string ht h
 exact ⟨s, hs, .one (.string _)⟩
theorem open_arg {t : TypeId} {α : Type} [Enc α] {Ok : α → Prop} (ho : Opens P w t α Ok) {H : Type} {enc : TypeId × Value → H} {base : Nat} {spare : Nat → Bool} {held : Bool} {v : Value} {d : DataW H} {p : List MemPlace} (h : DataW.Trod enc P w base spare held t v d p) :
  ∃ a : α, Ok a ∧ VRC (frW w) (Enc.cells a) v.cells.toList := by
 obtain ⟨fuel, hf⟩ := h
 exact ho H enc _ _ _ _ _ _ hf
theorem VRC.agg {l : List Value} {c : Array Value} (h : VRC (frW w) l c.toList) : VR0 (frW w) (.agg l.toArray) (.agg c) :=
 .agg (by simp [h.1]) fun i v v' a b => h.2 i v v' (by simpa using a) (by simpa using b)
theorem Pure.at {f : FuncId} {args : List Value} {Post : Value → Prop} (h : Pure P f args Post) (hg : ∀ g cs, glob g = some cs → ∃ t fz, w.heap[g]? = some (.cells cs t fz)) (hn : args.all nl = true) {args' : List Value} (hargs : VRC (frW w) args args') :
  Calls P f args'.toArray w fun e w' => ∃ v v', Post v ∧ e = .returned v' ∧ (closed v = true → v' = v) ∧ Below w.heap.size w w' := by
 refine (h.call hn (W := ⟨w, fun _ => False, frW w, []⟩) (ρ := ⟨fun _ => none, frW w, hg⟩) (hp := .e) (nx := 0) (w := w) ⟨fun b x hb => (by cases hb), fun b o c s z ho => (by cases ho), fun b b' x x' o o' ho => (by cases ho), fun b _ => rfl, ⟨rfl, rfl, rfl, Nat.le_refl _, fun _ _ => rfl⟩, fun c ob hc => hc, fun b o c s z ho => (by cases ho), fun c ob hc => .inl hc⟩ (.of hargs.1 fun i v v' a b => VR0.lift (ρ := ⟨fun _ => none, frW w, hg⟩) (hargs.2 i v v' a b))).mono ?_
 rintro e w' ⟨v, v', ρ', hP, rfl, hv, _, _, _, hb⟩
 exact ⟨v, v', hP, rfl, fun hc => closed_eq hc hv, hb⟩
end
end Go.Proofs.YtegjnjmimfgijaaGreatDoor

noncomputable section
namespace Go.Proofs.YtegjnjmimfgijaaGreatDoor
open Go Go.RowKit Go.ChangeShapes Go.WideShapes Go.ChangeAt Go.Deep Go.Joins
set_option maxRecDepth 100000
instance : Enc Vec3 where
 sz := 3
 cells p := [.int .i64 p.x, .int .i64 p.y, .int .i64 p.z]
 len _ := rfl
 nl p := by intro v hv; simp at hv; rcases hv with rfl | rfl | rfl <;> rfl
instance : Enc Part where
 sz := 18
 cells := partC
 len _ := rfl
 nl p := by intro v hv; simp [partC] at hv; rcases hv with rfl | rfl | rfl | rfl | rfl | rfl | rfl | rfl | rfl | rfl | rfl | rfl | rfl | rfl | rfl | rfl | rfl | rfl <;> rfl
def InPt (p : Pt) : Prop := In64 p.x ∧ In64 p.y
def InV (p : Vec3) : Prop := In64 p.x ∧ In64 p.y ∧ In64 p.z
structure InPart (p : Part) : Prop where
 rev : In64 p.rev
 kind : In64 p.kind
 thick : In64 p.thick
 outer : ∀ x ∈ p.outer, InPt x
 holes : ∀ l ∈ p.holes, ∀ x ∈ l, InPt x
 long : In64 p.long
 mass : In64 p.mass
 centre : InV p.centre
 at_ : InV p.at_
 turn : In64 p.turn
 id : p.id.size ≤ maxLen
 node : p.node.size ≤ maxLen
 grade : p.grade.size ≤ maxLen
 sect : p.sect.size ≤ maxLen
variable {w : World}
end Go.Proofs.YtegjnjmimfgijaaGreatDoor

noncomputable section
namespace Go.Proofs.YtegjnjmimfgijaaGreatDoor
open Go Go.RowKit
set_option maxRecDepth 100000
set_option maxHeartbeats 8000000
def tabI : List Ent := [⟨32, c_cInt⟩, ⟨70, c_cList⟩, ⟨69, c_cText⟩]
theorem tabI_ok : VCallOk Tryz.prog (tabCall tabI noCall) := tabCall_ok (by
 intro e he
 simp only [tabI, List.mem_cons, List.not_mem_nil, or_false] at he
 rcases he with rfl | rfl | rfl
 ·exact ok_cInt
 ·exact ok_cList
 ·exact ok_cText) noCall_ok
theorem e_ints (n : Nat) (A : Array Value) (H : HT) (Post : PV) : vcP Tryz.prog (tabCall tabI noCall) 93 [(3, [3, 6, 7, 8])] [tree 1 n A] H Post = (T4 (T2 (True ∧ H (lpC Tryz.prog 93 3) (lpK Tryz.prog 93 3) (stV [(3, some (vz)), (6, some (tree 1 n A)), (7, some (vi (↑n : Int))), (8, some (vi 0))] [] 0)))) := by kernel_rfl
theorem l_ints (n : Nat) (A : Array Value) (s : ByteArray) (i : Int) (H : HT) (Post : PV) : vcLP Tryz.prog (tabCall tabI noCall) 93 [tree 1 n A] [(3, [3, 6, 7, 8])] 3 (stV [(3, some (.string s)), (6, some (tree 1 n A)), (7, some (.int .i64 n)), (8, some (.int .i64 i))] [] 0) H Post = (True ∧ pIf (decide (i < (↑n : Int))) ((0 ≤ i ∧ i < (↑n : Int)) ∧ cellAt A (Int.toNat i) 0 = vi (toI (cellAt A (Int.toNat i) 0)) ∧ T2 (True ∧ ∃ (n_1 : Int), eqL [vi (toI (cellAt A (Int.toNat i) 0))] [vi n_1] ∧ (-9223372036854775808 ≤ n_1 ∧ n_1 < 9223372036854775808) ∧ s.size + ByteArray.size (bInt n_1) ≤ 9223372036854775807 ∧ T4 (True ∧ H (lpC Tryz.prog 93 3) (lpK Tryz.prog 93 3) (stV [(3, some (vs (s ++ bInt n_1))), (6, some (tree 1 n A)), (7, some (vi (↑n : Int))), (8, some (vi (IntKind.wrap IntKind.i64 (i + 1))))] [] 0)))) (T2 (True ∧ Post (vs s)))) := by kernel_rfl
theorem e_corners (n : Nat) (A : Array Value) (H : HT) (Post : PV) : vcP Tryz.prog (tabCall tabI noCall) 94 [(3, [3, 9, 10, 11])] [tree 2 n A] H Post = (T2 (True ∧ ∃ (n_1 : Nat), eqL [vi (↑n : Int)] [vi (↑n_1 : Int)] ∧ n_1 < 9223372036854775808 ∧ T4 (T2 (H (lpC Tryz.prog 94 3) (lpK Tryz.prog 94 3) (stV [(3, some (vs (bList n_1))), (9, some (tree 2 n A)), (10, some (vi (↑n : Int))), (11, some (vi 0))] [] 0))))) := by kernel_rfl
theorem l_corners (n : Nat) (A : Array Value) (s : ByteArray) (i : Int) (H : HT) (Post : PV) : vcLP Tryz.prog (tabCall tabI noCall) 94 [tree 2 n A] [(3, [3, 9, 10, 11])] 3 (stV [(3, some (.string s)), (9, some (tree 2 n A)), (10, some (.int .i64 n)), (11, some (.int .i64 i))] [] 0) H Post = (True ∧ pIf (decide (i < (↑n : Int))) ((0 ≤ i ∧ i < (↑n : Int)) ∧ (cellAt A (Int.toNat i) 0 = vi (toI (cellAt A (Int.toNat i) 0)) ∧ cellAt A (Int.toNat i) 1 = vi (toI (cellAt A (Int.toNat i) 1)) ∧ True) ∧ True ∧ 2 ≤ 2 ∧ T4 (True ∧ ∃ (n_1 : Int), eqL [vi (toI (cellAt A (Int.toNat i) 0))] [vi n_1] ∧ (-9223372036854775808 ≤ n_1 ∧ n_1 < 9223372036854775808) ∧ True ∧ ∃ (n_2 : Int), eqL [vi (toI (cellAt A (Int.toNat i) 1))] [vi n_2] ∧ (-9223372036854775808 ≤ n_2 ∧ n_2 < 9223372036854775808) ∧ True ∧ ByteArray.size (bInt n_1) + ByteArray.size (bInt n_2) ≤ 9223372036854775807 ∧ s.size + ByteArray.size (bInt n_1 ++ bInt n_2) ≤ 9223372036854775807 ∧ T4 (True ∧ H (lpC Tryz.prog 94 3) (lpK Tryz.prog 94 3) (stV [(3, some (vs (s ++ (bInt n_1 ++ bInt n_2)))), (9, some (tree 2 n A)), (10, some (vi (↑n : Int))), (11, some (vi (IntKind.wrap IntKind.i64 (i + 1))))] [] 0)))) (T2 (True ∧ Post (vs s)))) := by kernel_rfl
theorem ba_assoc (a b c : ByteArray) : a ++ b ++ c = a ++ (b ++ c) := ba_ext (by rw [ByteArray.data_append, ByteArray.data_append, ByteArray.data_append, ByteArray.data_append, Array.append_assoc])
theorem ba_nil (a : ByteArray) : (⟨#[]⟩ : ByteArray) ++ a = a := ba_ext (by rw [ByteArray.data_append, Array.toList_append]; rfl)
theorem ba_size (a b : ByteArray) : (a ++ b).size = a.size + b.size := ByteArray.size_append
theorem bInt_size (n : Int) : (bInt n).size ≤ 9 := by
 unfold bInt
 split <;> rw [str_size] <;> exact hd_len _ _
theorem bText_size (s : ByteArray) : (bText s).size ≤ 9 + s.size := by
 unfold bText
 rw [ba_size, str_size]
 have := hd_len 2 s.size
 omega
theorem bList_size (n : Nat) : (bList n).size ≤ 9 := by unfold bList; rw [str_size]; exact hd_len _ _
def bInts (l : List Int) : ByteArray := l.foldl (fun s n => s ++ bInt n) ⟨#[]⟩
def bPts (l : List Pt) : ByteArray := l.foldl (fun s p => s ++ (bInt p.x ++ bInt p.y)) (bList l.length)
theorem fold_size {α : Type} (f : ByteArray → α → ByteArray) (c : Nat) (hf : ∀ s a, (f s a).size ≤ s.size + c) : ∀ (l : List α) (s : ByteArray), (l.foldl f s).size ≤ s.size + c * l.length
 | [], s => by simp
 | a :: l, s => by
  have h1 := fold_size f c hf l (f s a)
  have h2 := hf s a
  simp only [List.foldl_cons, List.length_cons, Nat.mul_add, Nat.mul_one]
  omega
theorem fold_take {α β : Type} (f : β → α → β) (s : β) {l : List α} {i : Nat} (h : i < l.length) : (l.take (i + 1)).foldl f s = f ((l.take i).foldl f s) l[i] := by
 rw [← List.take_append_getElem h, List.foldl_append]
 rfl
theorem bPts_size (l : List Pt) : (bPts l).size ≤ 9 + 18 * l.length := by
 have h := fold_size (fun s (p : Pt) => s ++ (bInt p.x ++ bInt p.y)) 18 (fun s p => by
  rw [ba_size, ba_size]
  have := bInt_size p.x
  have := bInt_size p.y
  omega) l (bList l.length)
 have := bList_size l.length
 unfold bPts
 omega
abbrev encI (l : List Int) : Array Value := encL l
def c_ints (args : List Value) (Post : Value → Prop) : Prop := ∃ l : List Int, args = [tree 1 l.length (encI l)] ∧ l.length ≤ 1000 ∧ (∀ n ∈ l, In64 n) ∧ Post (.string (bInts l))
def c_pts (args : List Value) (Post : Value → Prop) : Prop := ∃ l : List Pt, args = [trPt l] ∧ l.length ≤ 1000 ∧ (∀ p ∈ l, InPt p) ∧ Post (.string (bPts l))
theorem cell_int {l : List Int} {i : Nat} (h : i < l.length) : cellAt (encI l) i 0 = .int .i64 l[i] := by
 rw [cellAt_encL' h]
 rfl
theorem ok_ints : EntOk Tryz.prog ⟨93, c_ints⟩ := by
 rintro args Post ⟨l, rfl, hn, hin, h⟩
 refine pure_P (vc := tabCall tabI noCall) tabI_ok mixed (by kernel_rfl) (by kernel_rfl) _ (e_ints l.length (encI l) _ _) ?_
 simp only [true_and]
 let f : ByteArray → Int → ByteArray := fun s n => s ++ bInt n
 have bound : ∀ i, ((l.take i).foldl f ⟨#[]⟩).size ≤ 9 * i := fun i => by
  have := fold_size f 9 (fun s a => by show (s ++ bInt a).size ≤ _; rw [ba_size]; have := bInt_size a; omega) (l.take i) ⟨#[]⟩
  have h0 : (⟨#[]⟩ : ByteArray).size = 0 := rfl
  have := List.length_take_le i l
  omega
 refine down (n := l.length) (p := fun i => OkP 93 [tree 1 l.length (encI l)] 3 Post (stV [(3, some (.string ((l.take i).foldl f ⟨#[]⟩))), (6, some (tree 1 l.length (encI l))), (7, some (.int .i64 l.length)), (8, some (.int .i64 i))] [] 0)) ?_ (fun i hi ih => ?_)
 ·refine ok_P (vc := tabCall tabI noCall) tabI_ok mixed _ (l_ints _ _ _ _ _ _) ?_
  simp only [true_and, pIf_iff, decide_eq_true_eq, decide_eq_false_iff_not]
  refine ⟨fun h' => by omega, fun _ => ?_⟩
  rwa [List.take_length]
 ·refine ok_P (vc := tabCall tabI noCall) tabI_ok mixed _ (l_ints _ _ _ _ _ _) ?_
  simp only [true_and, pIf_iff, decide_eq_true_eq, decide_eq_false_iff_not, Int.toNat_natCast, cell_int hi, toI]
  refine ⟨fun _ => ⟨by omega, l[i], rfl, hin _ (List.getElem_mem hi), ?_, ?_⟩, fun h' => by omega⟩
  ·have := bound i
   have := bInt_size l[i]
   omega
  ·rw [wrapSucc (by omega)]
   rw [fold_take f _ hi] at ih
   exact ih
theorem pts_step (s : ByteArray) (p : Pt) : (s ++ (bInt p.x ++ bInt p.y)).size ≤ s.size + 18 := by
 rw [ba_size, ba_size]
 have := bInt_size p.x
 have := bInt_size p.y
 omega
theorem pts_bound (l : List Pt) (i : Nat) (hn : l.length ≤ 1000) : ((l.take i).foldl (fun s (p : Pt) => s ++ (bInt p.x ++ bInt p.y)) (bList l.length)).size ≤ 20000 := by
 have h1 := fold_size _ 18 pts_step (l.take i) (bList l.length)
 have h2 := bList_size l.length
 have h3 := List.length_take_le' i l
 omega
theorem ok_corners : EntOk Tryz.prog ⟨94, c_pts⟩ := by
 rintro args Post ⟨l, rfl, hn, hin, h⟩
 refine pure_P (vc := tabCall tabI noCall) tabI_ok mixed (by kernel_rfl) (by kernel_rfl) _ (e_corners l.length (encL l) _ _) ?_
 simp only [true_and]
 refine ⟨l.length, rfl, by omega, ?_⟩
 refine down (n := l.length) (p := fun i => OkP 94 [trPt l] 3 Post (stV [(3, some (.string ((l.take i).foldl (fun s (p : Pt) => s ++ (bInt p.x ++ bInt p.y)) (bList l.length)))), (9, some (trPt l)), (10, some (.int .i64 l.length)), (11, some (.int .i64 i))] [] 0)) ?_ (fun i hi ih => ?_)
 ·refine ok_P (vc := tabCall tabI noCall) tabI_ok mixed _ (l_corners _ _ _ _ _ _) ?_
  simp only [true_and, pIf_iff, decide_eq_true_eq, decide_eq_false_iff_not]
  refine ⟨fun h' => by omega, fun _ => ?_⟩
  rwa [List.take_length]
 ·refine ok_P (vc := tabCall tabI noCall) tabI_ok mixed _ (l_corners _ _ _ _ _ _) ?_
  simp only [true_and, and_true, pIf_iff, decide_eq_true_eq, decide_eq_false_iff_not, Int.toNat_natCast, cell_pt hi, toI]
  have hp := hin _ (List.getElem_mem hi)
  have b1 := bInt_size l[i].x
  have b2 := bInt_size l[i].y
  have b3 := pts_bound l i hn
  refine ⟨fun _ => ⟨by omega, by omega, l[i].x, rfl, hp.1, l[i].y, rfl, hp.2, by omega, by rw [ba_size]; omega, ?_⟩, fun h' => by omega⟩
  rw [wrapSucc (by omega)]
  rw [fold_take _ _ hi] at ih
  exact ih
def c_eqPts (args : List Value) (Post : Value → Prop) : Prop := ∃ l m : List Pt, args = [trPt l, trPt m] ∧ Short l ∧ Post (.bool (decide (l = m)))
theorem e_same (n m : Nat) (A B : Array Value) (H : HT) (Post : PV) : vcP Tryz.prog noCall 105 [(4, [0, 1, 5])] [tree 2 n A, tree 2 m B] H Post = (T4 (T2 (pIf (!decide ((↑n : Int) = (↑m : Int))) (T2 (Post (vb false))) (T2 (True ∧ H (lpC Tryz.prog 105 4) (lpK Tryz.prog 105 4) (stV [(0, some (tree 2 n A)), (1, some (tree 2 m B)), (5, some (vi 0))] [] 0)))))) := by kernel_rfl
theorem l_same (n m : Nat) (k : Int) (A B : Array Value) (H : HT) (Post : PV) : vcLP Tryz.prog noCall 105 [tree 2 n A, tree 2 m B] [(4, [0, 1, 5])] 4 (stV [(0, some (tree 2 n A)), (1, some (tree 2 m B)), (5, some (.int .i64 k))] [] 0) H Post = (T4 (pIf (decide (k < (↑n : Int))) (T2 ((0 ≤ k ∧ k < (↑n : Int)) ∧ (cellAt A (Int.toNat k) 0 = vi (toI (cellAt A (Int.toNat k) 0)) ∧ cellAt A (Int.toNat k) 1 = vi (toI (cellAt A (Int.toNat k) 1)) ∧ True) ∧ T2 ((0 ≤ k ∧ k < (↑m : Int)) ∧ (cellAt B (Int.toNat k) 0 = vi (toI (cellAt B (Int.toNat k) 0)) ∧ cellAt B (Int.toNat k) 1 = vi (toI (cellAt B (Int.toNat k) 1)) ∧ True) ∧ True ∧ pIf (!(decide (toI (cellAt A (Int.toNat k) 0) = toI (cellAt B (Int.toNat k) 0)) && (decide (toI (cellAt A (Int.toNat k) 1) = toI (cellAt B (Int.toNat k) 1)) && true))) (T2 (Post (vb false))) (T4 (True ∧ H (lpC Tryz.prog 105 4) (lpK Tryz.prog 105 4) (stV [(0, some (tree 2 n A)), (1, some (tree 2 m B)), (5, some (vi (IntKind.wrap IntKind.i64 (k + 1))))] [] 0)))))) (T2 (Post (vb true))))) := by kernel_rfl
theorem ok_same : EntOk Tryz.prog ⟨105, c_eqPts⟩ := by
 rintro args Post ⟨l, m, rfl, hs, h⟩
 refine pure_P (vc := noCall) noCall_ok mixed (by kernel_rfl) (by kernel_rfl) _ (e_same l.length m.length (encL l) (encL m) _ _) ?_
 simp only [true_and, pIf_iff, Bool.not_eq_true', decide_eq_false_iff_not, Bool.not_eq_false', decide_eq_true_eq]
 refine ⟨fun hne => ?_, fun heq => ?_⟩
 ·rwa [decide_eq_false (fun e => hne (by rw [e]))] at h
 have hlen : l.length = m.length := by omega
 refine down (n := l.length) (p := fun k => (∀ i : Nat, i < k → l[i]? = m[i]?) → OkP 105 [trPt l, trPt m] 4 Post (stV [(0, some (trPt l)), (1, some (trPt m)), (5, some (.int .i64 k))] [] 0)) (fun hall => ?_) (fun k h1 ih hall => ?_) (fun i hi => by omega)
 ·refine ok_P (vc := noCall) noCall_ok mixed _ (l_same l.length m.length l.length (encL l) (encL m) _ _) ?_
  simp only [true_and, pIf_iff, decide_eq_true_eq, decide_eq_false_iff_not]
  refine ⟨fun hlt => by omega, fun _ => ?_⟩
  rwa [decide_eq_true (list_same hlen hall)] at h
 ·refine ok_P (vc := noCall) noCall_ok mixed _ (l_same l.length m.length k (encL l) (encL m) _ _) ?_
  have h2 : k < m.length := by omega
  simp only [true_and, and_true, pIf_iff, decide_eq_true_eq, decide_eq_false_iff_not, Int.toNat_natCast, cell_pt h1, cell_pt h2, toI_int, wrapSucc (show k < 2 ^ 62 by omega)]
  refine ⟨fun _ => ⟨by omega, by omega, fun hne => ?_, fun he => ?_⟩, fun h' => by omega⟩
  ·rwa [decide_eq_false (ne_at h1 h2 fun e => by simp [e] at hne)] at h
  ·simp at he
   exact ih (same_next h1 h2 hall (Pt.ext' he.1 he.2))
def vcSame : VCall := tabCall [⟨105, c_eqPts⟩] noCall
theorem vcSame_ok : VCallOk Tryz.prog vcSame := tabCall_ok (by
 intro e he
 simp only [List.mem_cons, List.not_mem_nil, or_false] at he
 subst he
 exact ok_same) noCall_ok
theorem e_Same13 (o h p g : Array Value) (no nh np ng : Nat) (H : HT) (Post : PV) : vcP Tryz.prog vcSame 100 [(4, [2, 3, 5])] [.agg [tree 2 no o, tree 1 nh h].toArray, .agg [tree 2 np p, tree 1 ng g].toArray] H Post = (T4 (T2 (True ∧ ∃ (l : List Pt), ∃ (m : List Pt), eqL [tree 2 no o, tree 2 np p] [trPt l, trPt m] ∧ Short l ∧ pIf (decide (l = m)) (T8 (True ∧ pIf (!decide ((↑nh : Int) = (↑ng : Int))) (T2 (True ∧ Post (vb false))) (T2 (True ∧ (T2 (True)) ∧ H (lpC Tryz.prog 100 4) (lpK Tryz.prog 100 4) (stV [(2, some (pt 0)), (3, some (pt 1)), (5, some (vi 0))] [(0, some (AObj.cells [tree 2 no o, tree 1 nh h] true)), (1, some (AObj.cells [tree 2 np p, tree 1 ng g] true))] 2))))) (T4 (True ∧ Post (vb false)))))) := by kernel_rfl
theorem l_Same13 (o h p g : Array Value) (no nh np ng : Nat) (k : Int) (H : HT) (Post : PV) : vcLP Tryz.prog vcSame 100 [.agg [tree 2 no o, tree 1 nh h].toArray, .agg [tree 2 np p, tree 1 ng g].toArray] [(4, [2, 3, 5])] 4 (stV [(2, some (.pointer (some ⟨0, 0, none⟩))), (3, some (.pointer (some ⟨1, 0, none⟩))), (5, some (.int .i64 k))] [(0, some (.cells [tree 2 no o, tree 1 nh h] true)), (1, some (.cells [tree 2 np p, tree 1 ng g] true))] 2) H Post = (T4 (True ∧ pIf (decide (k < (↑nh : Int))) (T2 (True ∧ (0 ≤ k ∧ k < (↑nh : Int)) ∧ cellAt h (Int.toNat k) 0 = tree 2 (toN (cellAt h (Int.toNat k) 0)) (toE (cellAt h (Int.toNat k) 0)) ∧ T2 (True ∧ (0 ≤ k ∧ k < (↑ng : Int)) ∧ cellAt g (Int.toNat k) 0 = tree 2 (toN (cellAt g (Int.toNat k) 0)) (toE (cellAt g (Int.toNat k) 0)) ∧ ∃ (l : List Pt), ∃ (m : List Pt), eqL [tree 2 (toN (cellAt h (Int.toNat k) 0)) (toE (cellAt h (Int.toNat k) 0)), tree 2 (toN (cellAt g (Int.toNat k) 0)) (toE (cellAt g (Int.toNat k) 0))] [trPt l, trPt m] ∧ Short l ∧ pIf (decide (l = m)) (T4 (T2 ((T2 (True)) ∧ H (lpC Tryz.prog 100 4) (lpK Tryz.prog 100 4) (stV [(2, some (pt 0)), (3, some (pt 1)), (5, some (vi (IntKind.wrap IntKind.i64 (k + 1))))] [(0, some (AObj.cells [tree 2 no o, tree 1 nh h] true)), (1, some (AObj.cells [tree 2 np p, tree 1 ng g] true))] 2)))) (T4 (Post (vb false)))))) (T2 (Post (vb true))))) := by kernel_rfl
def c_Same13 (args : List Value) (Post : Value → Prop) : Prop := ∃ (o : List Pt) (h : List (List Pt)) (p : List Pt) (g : List (List Pt)), args = [shapeV o h, shapeV p g] ∧ Short o ∧ Short h ∧ (∀ x ∈ h, Short x) ∧ Post (.bool (decide (o = p ∧ h = g)))
theorem ok_Same13 : EntOk Tryz.prog ⟨100, c_Same13⟩ := by
 rintro args Post ⟨o, h, p, g, rfl, hs, hs1, hs2, hP⟩
 refine pure_P (vc := vcSame) vcSame_ok mixed (by kernel_rfl) (by kernel_rfl) _ (e_Same13 (encL o) (encL h) (encL p) (encL g) o.length h.length p.length g.length _ _) ?_
 simp only [true_and, pIf_iff, Bool.not_eq_true', decide_eq_false_iff_not, Bool.not_eq_false', decide_eq_true_eq]
 refine ⟨o, p, rfl, hs, fun he => ⟨fun hne => ?_, fun heq => ?_⟩, fun hne => ?_⟩
 ·exact of_b hP (decide_eq_false fun e => hne (by rw [e.2]))
 ·have hlen : h.length = g.length := by omega
  refine down (n := h.length) (p := fun k => (∀ i : Nat, i < k → h[i]? = g[i]?) → OkP 100 [shapeV o h, shapeV p g] 4 Post
   (stV [(2, some (.pointer (some ⟨0, 0, none⟩))), (3, some (.pointer (some ⟨1, 0, none⟩))), (5, some (.int .i64 k))] [(0, some (.cells [trPt o, trPts h] true)), (1, some (.cells [trPt p, trPts g] true))] 2)) (fun hall => ?_) (fun k h1 ih hall => ?_) (fun i hi => by omega)
  ·refine ok_P (vc := vcSame) vcSame_ok mixed _ (l_Same13 (encL o) (encL h) (encL p) (encL g) o.length h.length p.length g.length h.length _ _) ?_
   simp only [true_and, pIf_iff, decide_eq_true_eq, decide_eq_false_iff_not]
   exact ⟨fun hlt => by omega, fun _ => of_b hP (decide_eq_true ⟨he, list_same hlen hall⟩)⟩
  ·refine ok_P (vc := vcSame) vcSame_ok mixed _ (l_Same13 (encL o) (encL h) (encL p) (encL g) o.length h.length p.length g.length k _ _) ?_
   have h2 : k < g.length := by omega
   simp only [true_and, and_true, pIf_iff, decide_eq_true_eq, decide_eq_false_iff_not, Int.toNat_natCast, cell_pts h1, cell_pts h2, toN_tree, toE_tree, wrapSucc (show k < 2 ^ 62 by omega)]
   refine ⟨fun _ => ⟨by omega, by omega, h[k], g[k], rfl, hs2 _ (List.getElem_mem h1), fun he => ?_, fun hne => ?_⟩, fun h' => by omega⟩
   ·exact ih (same_next h1 h2 hall he)
   ·exact of_b hP (decide_eq_false fun e => ne_at h1 h2 hne e.2)
 ·exact of_b hP (decide_eq_false fun e => hne e.1)
def few16 (p : Part) : Prop := p.id.size ≤ 200 ∧ p.node.size ≤ 200 ∧ p.grade.size ≤ 200 ∧ p.sect.size ≤ 200 ∧ p.outer.length ≤ 40 ∧ p.holes.length ≤ 12 ∧ ∀ h ∈ p.holes, h.length ≤ 40
instance (p : Part) : Decidable (few16 p) := by unfold few16; infer_instance
end Go.Proofs.YtegjnjmimfgijaaGreatDoor
