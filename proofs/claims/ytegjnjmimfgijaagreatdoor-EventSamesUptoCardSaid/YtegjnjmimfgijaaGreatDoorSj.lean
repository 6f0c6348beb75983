/-
  Symbolic runs, part 10: what must be shown for a function and for a loop, by their numbers. Conditions: as each theorem states them.
-/
import Derived.Test.YtegjnjmimfgijaaGreatDoorSi
import Derived.KernelRfl
noncomputable section
namespace Go.Proofs.YtegjnjmimfgijaaGreatDoor
open Go Go.RowKit

/-- Equality of lists of values. -/
abbrev eqL (a b : List Value) : Prop := a = b
def trV {α : Type} (l : List (Nat × Option α)) : Tr α := l.foldl (fun t p => t.put p.1 p.2) .e
def stV (tm : List (Nat × Option Value)) (hp : List (Nat × Option AObj)) (nx : Nat) : AS := ⟨trV tm, trV hp, nx⟩
def fnAt (P : Program) (f : FuncId) : Func := (P.funcs[f]?).getD default
def codeOf (fn : Func) : Code := fn.body.getD .skip
def findL (r : Nat) : Code → List Fr → Option (Code × List Fr)
  | .seq x y, k => match findL r x (.seq y :: k) with
    | some p => some p
    | none => findL r y k
  | .cond _ x y, k => match findL r x k with
    | some p => some p
    | none => findL r y k
  | .block id b, k => findL r b (.block id :: k)
  | .loop b, k => match rid b with
    | some j => bif j.beq r then some (b, k) else findL r b (.loop b :: k)
    | none => none
  | _, _ => none
def lpC (P : Program) (f : FuncId) (r : Nat) : Code := ((findL r (codeOf (fnAt P f)) []).map (·.1)).getD .skip
def lpK (P : Program) (f : FuncId) (r : Nat) : List Fr := ((findL r (codeOf (fnAt P f)) []).map (·.2)).getD []
/-- What must be shown for a function. -/
def vcE (P : Program) (vc : VCall) (f : FuncId) (lt : List (Nat × List Nat)) (base : List Bool) (hp : Tr AObj) (args : List Value) (H : Code → List Fr → AS → Prop) (Post : Value → Tr AObj → Prop) : Prop :=
  vrun P vc (slotsN args (fnAt P f)) lt base H (finOf P (fnAt P f) base.length Post) 3000 (.code (codeOf (fnAt P f))) [] ⟨putArgs 0 args .e, hp, base.length⟩
/-- What must be shown for one round of the loop whose first region is r. -/
def vcL (P : Program) (vc : VCall) (f : FuncId) (na : List Value) (lt : List (Nat × List Nat)) (base : List Bool) (r : Nat) (st : AS) (H : Code → List Fr → AS → Prop) (Post : Value → Tr AObj → Prop) : Prop :=
  vrun P vc (slotsN na (fnAt P f)) lt base H (finOf P (fnAt P f) base.length Post) 3000 (.code (lpC P f r)) (.loop (lpC P f r) :: lpK P f r) st
/-- From the head of the loop r on, all ends well. -/
def Ok (P : Program) (f : FuncId) (na : List Value) (base : List Bool) (Post : Value → Tr AObj → Prop) : Code → List Fr → AS → Prop :=
  Good P (slotsN na (fnAt P f)) base (finOf P (fnAt P f) base.length Post)
theorem spec_E {P : Program} {vc : VCall} (hcall : VCallOk P vc) (hm : P.follows .mixedOrders = true) {f : FuncId} (hf : (P.funcs[f]?).isSome = true) (hc : (fnAt P f).body.isSome = true) {lt : List (Nat × List Nat)} {base : List Bool} {hp : Tr AObj} {args : List Value} {Post : Value → Tr AObj → Prop}
    (h : vcE P vc f lt base hp args (Ok P f args base Post) Post) : Spec P f base.length hp args Post := by
  have hf' : P.funcs[f]? = some (fnAt P f) := by
    unfold fnAt
    cases hx : P.funcs[f]? with
    | none => rw [hx] at hf; cases hf
    | some x => rfl
  have hc' : (fnAt P f).body = some (codeOf (fnAt P f)) := by
    unfold codeOf
    cases hx : (fnAt P f).body with
    | none => rw [hx] at hc; cases hc
    | some x => rfl
  exact spec_of hcall hm hf' hc' 3000 h
theorem pure_E {P : Program} {vc : VCall} (hcall : VCallOk P vc) (hm : P.follows .mixedOrders = true) {f : FuncId} (hf : (P.funcs[f]?).isSome = true) (hc : (fnAt P f).body.isSome = true) {lt : List (Nat × List Nat)} {args : List Value} {Post : Value → Prop}
    (h : vcE P vc f lt [] .e args (Ok P f args [] fun v _ => Post v) fun v _ => Post v) : Pure P f args Post := spec_E hcall hm hf hc h
theorem ok_L {P : Program} {vc : VCall} (hcall : VCallOk P vc) (hm : P.follows .mixedOrders = true) {f : FuncId} {na : List Value} {lt : List (Nat × List Nat)} {base : List Bool} {r : Nat} {st : AS} {Post : Value → Tr AObj → Prop}
    (h : vcL P vc f na lt base r st (Ok P f na base Post) Post) : Ok P f na base Post (lpC P f r) (lpK P f r) st := good_round hcall hm 3000 h
/-- The same for functions that write nothing but their own. -/
def vcP (P : Program) (vc : VCall) (f : FuncId) (lt : List (Nat × List Nat)) (args : List Value) (H : Code → List Fr → AS → Prop) (Post : Value → Prop) : Prop := vcE P vc f lt [] .e args H fun v _ => Post v
def vcLP (P : Program) (vc : VCall) (f : FuncId) (na : List Value) (lt : List (Nat × List Nat)) (r : Nat) (st : AS) (H : Code → List Fr → AS → Prop) (Post : Value → Prop) : Prop := vcL P vc f na lt [] r st H fun v _ => Post v
/-- From the head of the loop r on, all ends well. -/
def OkAt (P : Program) (f : FuncId) (na : List Value) (Post : Value → Prop) : Code → List Fr → AS → Prop := Ok P f na [] fun v _ => Post v
theorem pure_P {P : Program} {vc : VCall} (hcall : VCallOk P vc) (hm : P.follows .mixedOrders = true) {f : FuncId} (hf : (P.funcs[f]?).isSome = true) (hc : (fnAt P f).body.isSome = true) (lt : List (Nat × List Nat)) {args : List Value} {Post : Value → Prop}
    {X : Prop} (e : vcP P vc f lt args (OkAt P f args Post) Post = X) (h : X) : Pure P f args Post := pure_E (lt := lt) hcall hm hf hc (Eq.mpr e h)
theorem ok_P {P : Program} {vc : VCall} (hcall : VCallOk P vc) (hm : P.follows .mixedOrders = true) {f : FuncId} {na : List Value} (lt : List (Nat × List Nat)) {r : Nat} {st : AS} {Post : Value → Prop}
    {X : Prop} (e : vcLP P vc f na lt r st (OkAt P f na Post) Post = X) (h : X) : OkAt P f na Post (lpC P f r) (lpK P f r) st := ok_L (lt := lt) hcall hm (Eq.mpr e h)
theorem of_b {Post : Value → Prop} {b c : Bool} (h : Post (.bool b)) (e : b = c) : Post (.bool c) := e ▸ h
theorem of_v {Post : Value → Prop} {b c : Value} (h : Post b) (e : b = c) : Post c := e ▸ h
/-- A closed run as a contract. -/
theorem pure_yields {P : Program} (hm : P.follows .mixedOrders = true) {k f : Nat} (h : yields P k f = true) : EntOk P ⟨f, fun args Post => args = [] ∧ Post (.bool true)⟩ := by
  rintro args Post ⟨rfl, hP⟩
  unfold yields at h
  split at h
  case h_2 => cases h
  rename_i b st hc
  subst h
  intro W ρ w args' hrel hargs
  refine ((acode_sound hm k).2.2 W f [] .e 0 (.bool true) st.1 st.2 hc ρ w args' hrel hargs).mono ?_
  rintro e w' ⟨v', ρ', rfl, h1, h2, h3⟩
  exact ⟨.bool true, st.1, st.2, v', ρ', hP, rfl, nl1_sound (by rfl) h1, h2, ⟨fun b x hb => by omega, h3.le.2⟩⟩
end Go.Proofs.YtegjnjmimfgijaaGreatDoor
