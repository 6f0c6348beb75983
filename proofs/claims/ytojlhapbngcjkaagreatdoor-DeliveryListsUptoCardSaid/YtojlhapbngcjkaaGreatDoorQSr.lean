/-
  Put together out of several texts, each in its own namespace's block. Conditions: as each theorem states them.
-/
import Derived.Test.YtojlhapbngcjkaaGreatDoorQMc
import Derived.Recover
import Derived.Test.YtojlhapbngcjkaaGreatDoorProg
import Derived.Test.YtojlhapbngcjkaaGreatDoorQSgb
import Derived.WalkSpells
import Derived.WalkLawsBesides
import Derived.Deep.QuietTactic
import Derived.BigQuiet
import Derived.Shelf.Strings.Builder1
import Derived.Test.YtojlhapbngcjkaaGreatDoorQYg
noncomputable section
namespace Go.Proofs.YtojlhapbngcjkaaGreatDoor
open Go Go.RowKit
set_option maxRecDepth 100000
set_option maxHeartbeats 8000000
def noP : PCall := fun _ _ _ _ _ => False
theorem noP_ok {P : Program} : PCallOk P noP := fun _ _ _ _ _ h => h.elim
theorem vloop_false {lt : List (Nat × List Nat)} {base : List Bool} {b : Code} {k : List Fr} {st : AS} (h : vloop lt base (fun _ _ _ => False) b k st) : False := by
 unfold vloop at h
 split at h
 case h_2 => exact h.elim
 split at h
 case h_2 => exact h.elim
 split at h
 case h_2 => exact h.elim
 exact h.2.2.elim
theorem CallsD.mono {P : Program} {f : FuncId} {args : Array Value} {u : FrameMode} {w : World} {R R' : Ending → FrameMode → World → Prop} (h : CallsD P f args u w R) (k : ∀ e u' w', R e u' w' → R' e u' w') : CallsD P f args u w R' := fun c cs hc =>
 let ⟨e, u', w', fr, h1, h2⟩ := h c cs hc
 ⟨e, u', w', fr, k _ _ _ h1, h2⟩
theorem Rel.withDs {ρ : Place} {W : Base} {hp : Tr AObj} {nx : Nat} {w : World} (D : List Deferred) (h : Rel ρ W hp nx w) : Rel ρ ⟨W.w, W.mu, W.f0, D⟩ hp nx w :=
 ⟨h.dom, h.obj, h.inj, h.fresh, ⟨h.below.os, h.below.tape, h.below.output, h.below.size, h.below.block⟩, h.frz, h.apart, h.frn⟩
theorem all_of {P : Program} (g : FuncId) (h : enters P g = true) : P.funcs[g]? = some (fnAt P g) ∧ (fnAt P g).body = some (codeOf (fnAt P g)) := by
 unfold enters at h
 unfold fnAt codeOf
 cases hf : P.funcs[g]? with
 | none => rw [hf] at h; cases h
 | some fn =>
  rw [hf] at h
  simp only [Bool.and_eq_true] at h
  refine ⟨rfl, ?_⟩
  show fn.body = some (fn.body.getD .skip)
  cases hb : fn.body with
  | none => rw [hb] at h; simp at h
  | some b => rfl
end Go.Proofs.YtojlhapbngcjkaaGreatDoor
noncomputable section
namespace Go.Proofs.YtojlhapbngcjkaaGreatDoor
open Go Go.RowKit
variable {γ : Type}
abbrev GCall (γ : Type) := FuncId → List Value → Tr AObj → Nat → γ → (Out → Tr AObj → Nat → γ → Prop) → Prop
def GCallOk (P : Program) (I : Base → γ → Prop) (kb : Nat) (kx : Nat × Nat × Nat) (gc : GCall γ) : Prop :=
 ∀ f args hp nx g K, gc f args hp nx g K → ∀ (W : Base) ρ w args', I W g → ρ.pl kb = some kx → Rel ρ W hp nx w → VRL ρ args args' →
  Calls P f args'.toArray w fun e w' => ∃ r hp' nx' g' ρ' W', K r hp' nx' g' ∧ r.Ends ρ' e ∧ (I W' g' ∧ W'.ds = W.ds) ∧ Rel ρ' W' hp' nx' w' ∧ Step ρ ρ' hp hp' nx nx'
def ofP (pc : PCall) : GCall γ := fun f args hp nx g K => pc f args hp nx fun r hp' nx' => K r hp' nx' g
theorem ofP_ok {P : Program} {I : Base → γ → Prop} {kb : Nat} {kx : Nat × Nat × Nat} {pc : PCall} (h : PCallOk P pc) : GCallOk P I kb kx (ofP pc) := fun f args hp nx g K hs W ρ w args' hI _ hr ha =>
 (h f args hp nx _ hs W ρ w args' hr ha).mono fun _ _ ⟨r, hp', nx', ρ', k, e, g2, g3⟩ => ⟨r, hp', nx', g, ρ', W, k, e, ⟨hI, rfl⟩, g2, g3⟩
def gheavy (P : Program) (pc : GCall γ) (hp : Tr AObj) (nx : Nat) (g : γ) (o : Oper) (ev : Operand → Option Value) (K : Out → Tr AObj → Nat → γ → Prop) : Prop :=
 match o.op with
 | .panic x => match ev x with
  | some (.iface t v) => K (.pan (.iface t v)) hp nx g
  | _ => False
 | .call c => match c.callee with
  | .value f => match ev f, evL ev c.args.toList with
   | some (.func (.func k) first captured), some args => bif enters P k then pc k (first.toList ++ args ++ captured.toList) hp nx g K else False
   | _, _ => False
  | .invoke x name => match ev x, evL ev c.args.toList with
   | some (.iface t v), some args => match aMethod P t name with
    | some k => bif enters P k then pc k (v :: args) hp nx g K else False
    | none => False
   | _, _ => False
  | .builtin .panic => match c.args.toList with
   | [x] => match ev x with
    | some (.iface t v) => K (.pan (.iface t v)) hp nx g
    | _ => False
   | _ => False
  | _ => vheavy P (toV noP) hp nx o ev fun v _ hp' nx' => K (.ret v) hp' nx' g
 | _ => vheavy P (toV noP) hp nx o ev fun v _ hp' nx' => K (.ret v) hp' nx' g
theorem gheavy_sound {P : Program} {I : Base → γ → Prop} {kb : Nat} {kx : Nat × Nat × Nat} {pc : GCall γ} {ρ : Place} {W : Base} (hcall : GCallOk P I kb kx pc) {g : γ} (hI : I W g) (hkx : ρ.pl kb = some kx) {hp : Tr AObj} {nx : Nat} {w : World} (h : Rel ρ W hp nx w) {ev : Operand → Option Value} {a : Act} (hF : ERel ρ ev a) {o : Oper} {K : Out → Tr AObj → Nat → γ → Prop}
  (hs : gheavy P pc hp nx g o ev K) {next : Act → World → Prop} {Q : Exit → Act → World → Prop}
  (hk : ∀ v hp' nx' g' v' w' ρ' W', K (.ret v) hp' nx' g' → I W' g' ∧ W'.ds = W.ds → VR ρ' v v' → Rel ρ' W' hp' nx' w' → Step ρ ρ' hp hp' nx nx' → next (a.put o.dst v') w')
  (hq : ∀ v hp' nx' g' v' w' ρ' W', K (.pan v) hp' nx' g' → I W' g' ∧ W'.ds = W.ds → VR ρ' v v' → Rel ρ' W' hp' nx' w' → Step ρ ρ' hp hp' nx nx' → Q (.panic [{ v := v', recovered := false }]) a w') : o.wp P a w next Q := by
 have base : (vheavy P (toV noP) hp nx o ev fun v _ hp' nx' => K (.ret v) hp' nx' g) → o.wp P a w next Q := fun hb =>
  vheavy_sound (toV_ok noP_ok) h hF hb fun v _ hp' nx' v' w' ρ' k _ g1 g2 g3 => hk v hp' nx' g v' w' ρ' W k ⟨hI, rfl⟩ g1 g2 g3
 have ends : ∀ (k : FuncId) (args args' : List Value), pc k args hp nx g K → VRL ρ args args' → (execOp a.eval o).run P w = .ok (.enter k args'.toArray) w → o.wp P a w next Q := by
  intro k args args' hc hA hrun
  unfold Oper.wp
  rw [hrun]
  refine (hcall k args hp nx g K hc W ρ w _ hI hkx h hA).mono ?_
  rintro e w' ⟨r, hp', nx', g', ρ', W', hK, he, hI', g2, g3⟩
  cases r with
  | ret v => obtain ⟨v', rfl, g1⟩ := he; exact hk v hp' nx' g' v' w' ρ' W' hK hI' g1 g2 g3
  | pan v => obtain ⟨v', rfl, g1⟩ := he; exact hq v hp' nx' g' v' w' ρ' W' hK hI' g1 g2 g3
 have pans : ∀ (t : TypeId) (u : Value) (X : Value), VR ρ (.iface t u) X → K (.pan (.iface t u)) hp nx g → (execOp a.eval o).run P w = ((Instr.panic X) >>= fun r => pure (Next.value r)).run P w → o.wp P a w next Q := by
  intro t u X hX hK hrun
  unfold Oper.wp
  rw [hrun]
  cases hX with
  | iface _ hu => exact hq _ _ _ _ _ _ ρ W hK ⟨hI, rfl⟩ (.iface t hu) h (.refl _ _ _)
 obtain ⟨dst, op, type, pos, after, guard⟩ := o
 unfold gheavy at hs
 cases op <;> dsimp only at hs <;> try exact base hs
 case panic x =>
  split at hs
  case h_2 => exact hs.elim
  rename_i t u hx
  exact pans t u _ (hF.eval hx) hs rfl
 case call c =>
  obtain ⟨callee, args, argTypes⟩ := c
  dsimp only at hs
  split at hs
  ·rename_i f
   split at hs
   case h_2 => exact hs.elim
   rename_i k first captured as0 hf has
   cases he : enters P k with
   | false => rw [he] at hs; exact hs.elim
   | true =>
    rw [he, cond_true] at hs
    have hfv := hF.eval hf
    generalize hE : a.eval f = E at hfv
    cases hfv
    rename_i first' captured' s1 v1 s2 v2
    have hA := evL_sound hF has
    have hL := ((VRA.list ⟨s1, v1⟩).append hA).append (VRA.list ⟨s2, v2⟩)
    refine ends k _ _ hs hL ?_
    have e2 : (first'.toList ++ args.toList.map a.eval ++ captured'.toList).toArray = first' ++ args.map a.eval ++ captured' := by apply Array.ext'; simp
    rw [e2]
    unfold execOp
    simp only [resolve, hE]
    show (callFunc k (first' ++ args.map a.eval ++ captured')).run P w = _
    exact pureRun_run (enters_run he _) w
  ·rename_i x name
   split at hs
   case h_2 => exact hs.elim
   rename_i t v as0 hx has
   split at hs
   case h_2 => exact hs.elim
   rename_i k hm
   cases he : enters P k with
   | false => rw [he] at hs; exact hs.elim
   | true =>
    rw [he, cond_true] at hs
    have hxv := hF.eval hx
    have hA := evL_sound hF has
    generalize hE : a.eval x = E at hxv
    cases hxv with
    | @iface _ _ v' hv =>
     refine ends k (v :: as0) (v' :: args.toList.map a.eval) hs (.cons hv hA) ?_
     have hpos : ∃ j, P.types.size + Made.depth = j + 1 := ⟨P.types.size + Made.depth - 1, by (have : 0 < Made.depth := by decide); omega⟩
     obtain ⟨j, hj⟩ := hpos
     have e2 : (v' :: args.toList.map a.eval).toArray = #[v'] ++ args.map a.eval := by apply Array.ext'; simp
     have e3 : (#[Value.iface t v'] ++ args.map a.eval).extract 1 (#[Value.iface t v'] ++ args.map a.eval).size = args.map a.eval := by
      apply Array.ext'
      simp
      exact List.take_of_length_le (by simp)
     have e0 : (#[Value.iface t v'] ++ args.map a.eval)[0]? = some (.iface t v') := by rw [Array.getElem?_append_left (Nat.zero_lt_one)]; rfl
     rw [e2]
     unfold execOp
     simp only [resolve, hE]
     show (invoke (.fn (.method name) #[]) (#[Value.iface t v'] ++ args.map a.eval)).run P w = _
     unfold invoke
     dsimp only
     rw [e0]
     dsimp only
     rw [e3]
     unfold callMethod
     dsimp only
     have hprog : pureRun P program = some P := rfl
     rw [bind_run hprog]
     rw [hj]
     rw [bind_run (aMethod_run hm v' j)]
     exact pureRun_run (enters_run he _) w
  ·split at hs
   case h_2 => exact hs.elim
   rename_i x hargs
   split at hs
   case h_2 => exact hs.elim
   rename_i t u hx
   refine pans t u _ (hF.eval hx) hs ?_
   have : args = #[x] := by apply Array.ext'; simpa using hargs
   subst this
   have e1 : (#[x].map a.eval) = #[a.eval x] := by simp
   unfold execOp
   simp only [resolve, e1]
   rfl
  ·exact base hs
def gseq (P : Program) (pc : GCall γ) (ops : Array Oper) (n : Nat) : List Oper → AS → γ → (AS → γ → Prop) → (Value → AS → γ → Prop) → Prop
 | [], st, g, K, _ => K st g
 | o :: l, st, g, K, X => vguard ops st.tm o
   (bif isHeavy o.op || isPan o.op then gheavy P pc st.hp st.nx g o (aev st.tm) fun r hp' nx' g' => match r with
     | .ret v => vsplit v fun v => match aput n st.tm o.dst v with
      | some tm' => gseq P pc ops n l ⟨tm', hp', nx'⟩ g' K X
      | none => False
     | .pan v => X v ⟨st.tm, hp', nx'⟩ g'
    else match slight P st.hp o (aev st.tm) with
     | some (.val v, ob) => ob ∧ vsplit v fun v => match aput n st.tm o.dst v with
      | some tm' => gseq P pc ops n l ⟨tm', st.hp, st.nx⟩ g K X
      | none => False
     | some (.new b nv, ob) => match aput n st.tm o.dst (nv.val st.nx) with
      | some tm' => ob ∧ gseq P pc ops n l ⟨tm', st.hp.put st.nx (some b), st.nx + 1⟩ g K X
      | none => False
     | none => False)
   (match aput n st.tm o.dst undef with
    | some tm' => gseq P pc ops n l ⟨tm', st.hp, st.nx⟩ g K X
    | none => False)
theorem gseq_sound {P : Program} {I : Base → γ → Prop} {kb : Nat} {kx : Nat × Nat × Nat} {pc : GCall γ} (hcall : GCallOk P I kb kx pc) {ops : Array Oper} {n : Nat} {Q : Exit → Act → World → Prop} : ∀ (l : List Oper) (k : Nat) (st : AS) (g : γ) (K : AS → γ → Prop) (X : Value → AS → γ → Prop) (W : Base) (ρ : Place) (a : Act) (w : World), ops.toList.drop k = l → I W g → ρ.pl kb = some kx →
  SRel ρ W n st a w → gseq P pc ops n l st g K X → (∀ st' g', K st' g' → ∀ a' w' ρ' W', I W' g' ∧ W'.ds = W.ds → SRel ρ' W' n st' a' w' → Step ρ ρ' st.hp st'.hp st.nx st'.nx → Q .normal a' w') →
  (∀ v st' g', X v st' g' → ∀ v' a' w' ρ' W', I W' g' ∧ W'.ds = W.ds → VR ρ' v v' → SRel ρ' W' n st' a' w' → Step ρ ρ' st.hp st'.hp st.nx st'.nx → Q (.panic [{ v := v', recovered := false }]) a' w') → wpOps P ops Q (List.range' k l.length) a w
 | [], k, st, g, K, X, W, ρ, a, w, _, hI, _, h, hs, hk, _ => by
  simp only [gseq] at hs
  exact hk st g hs a w ρ W ⟨hI, rfl⟩ h (.refl _ _ _)
 | o :: l, k, st, g, K, X, W, ρ, a, w, hd, hI, hkx, h, hs, hk, hx => by
  simp only [gseq] at hs
  have hi : ops[k]? = some o := by
   have : (ops.toList.drop k)[0]? = some o := by rw [hd]; rfl
   rw [List.getElem?_drop] at this
   simpa using this
  have next : ∀ (st1 : AS) (g1 : γ) (a1 : Act) (w1 : World) (ρ1 : Place) (W1 : Base), I W1 g1 ∧ W1.ds = W.ds → SRel ρ1 W1 n st1 a1 w1 → Step ρ ρ1 st.hp st1.hp st.nx st1.nx → gseq P pc ops n l st1 g1 K X → wpOps P ops Q (List.range' (k + 1) l.length) a1 w1 :=
   fun st1 g1 a1 w1 ρ1 W1 hI1 hr hst hv => gseq_sound hcall l (k + 1) st1 g1 K X W1 ρ1 a1 w1 (by rw [← List.drop_drop, hd]; rfl) hI1.1 (hst.le.1 kb kx hkx) hr hv (fun st' g' hK a' w' ρ' W' i1 g1 g2 => hk st' g' hK a' w' ρ' W' ⟨i1.1, i1.2.trans hI1.2⟩ g1 (hst.trans g2)) (fun v st' g' hX v' a' w' ρ' W' i1 g0 g1 g2 => hx v st' g' hX v' a' w' ρ' W' ⟨i1.1, i1.2.trans hI1.2⟩ g0 g1 (hst.trans g2))
  rw [List.length_cons, List.range'_succ, wpOps_cons]
  unfold wpOp
  simp only [hi]
  rcases vguard_cases hs with ⟨hw, hs⟩ | ⟨hw, hs⟩
  ·rw [awanted_sound h.frame hw, if_pos rfl]
   refine .inl ?_
   cases hh : isHeavy o.op || isPan o.op with
   | true =>
    rw [hh, cond_true] at hs
    refine gheavy_sound hcall hI hkx h.rel h.frame.ev hs (fun v hp' nx' g' v' w' ρ' W' hK i1 q1 q2 q3 => ?_) (fun v hp' nx' g' v' w' ρ' W' hK i1 q1 q2 q3 => ?_)
    ·dsimp only at hK
     replace hK := vsplit_ap hK
     split at hK
     case h_2 => exact hK.elim
     rename_i tm' ht
     exact next ⟨tm', hp', nx'⟩ g' _ _ ρ' W' i1 ⟨q2, by rw [i1.2]; exact aput_sound (h.frame.mono q3.le) ht q1⟩ q3 hK
    ·exact hx v _ g' hK v' a w' ρ' W' i1 q1 ⟨q2, by rw [i1.2]; exact h.frame.mono q3.le⟩ q3
   | false =>
    rw [hh, cond_false] at hs
    split at hs
    ·rename_i v ob hv
     obtain ⟨hob, hs⟩ := hs
     replace hs := vsplit_ap hs
     split at hs
     case h_2 => exact hs.elim
     rename_i tm' ht
     obtain ⟨v', h1, h2⟩ := slight_sound (r := .val v) h.rel h.frame.ev hv hob
     unfold Oper.wp
     rw [h1]
     exact next ⟨tm', st.hp, st.nx⟩ g _ _ ρ W ⟨hI, rfl⟩ ⟨h.rel, aput_sound h.frame ht h2⟩ (.refl _ _ _) hs
    ·rename_i ob nv obp hv
     split at hs
     case h_2 => exact hs.elim
     rename_i tm' ht
     obtain ⟨v', ob', d, z, h1, h2, h3⟩ := slight_sound (r := .new ob nv) h.rel h.frame.ev hv hs.1
     unfold Oper.wp
     rw [h1]
     have hrel := ((h.rel.at_drawn d).reserve ob).realize (b := st.nx) (z := z) (ob := ob') (by omega) h.rel.dom_none (by rw [Tr.get_put, if_pos rfl]) (h2 _ h.rel.below.fresh)
     have hle := Place.le_set (x := (w.heap.size, 0, z)) h.rel.dom_none
     exact next ⟨tm', st.hp.put st.nx (some ob), st.nx + 1⟩ g _ _ _ W ⟨hI, rfl⟩ ⟨hrel, aput_sound (h.frame.mono hle) ht (h3 _ _ (Place.set_same ρ st.nx _))⟩ ⟨hle, Nat.le_succ _, fun b hb hr => ⟨by rw [Place.set_other (by omega)]; exact hr, by show (st.hp.put st.nx (some ob)).get b = _; rw [Tr.get_put, if_neg (by omega)]⟩⟩ hs.2
    ·exact hs.elim
  ·rw [awanted_sound h.frame hw, if_neg (by simp)]
   split at hs
   case h_2 => exact hs.elim
   rename_i tm' ht
   exact next ⟨tm', st.hp, st.nx⟩ g _ _ ρ W ⟨hI, rfl⟩ ⟨h.rel, aput_sound h.frame ht (closed_refl (by simp [undef, closed]))⟩ (.refl _ _ _) hs
theorem gheavy_congr {P : Program} {pc : GCall γ} {hp : Tr AObj} {nx : Nat} {g : γ} {o : Oper} {ev ev' : Operand → Option Value} {K : Out → Tr AObj → Nat → γ → Prop} (h : ∀ x ∈ o.op.operands, ev x = ev' x) : gheavy P pc hp nx g o ev K = gheavy P pc hp nx g o ev' K := by
 have hb : (vheavy P (toV noP) hp nx o ev fun v _ hp' nx' => K (.ret v) hp' nx' g) = (vheavy P (toV noP) hp nx o ev' fun v _ hp' nx' => K (.ret v) hp' nx' g) := vheavy_congr h
 obtain ⟨dst, op, type, pos, after, guard⟩ := o
 unfold gheavy
 cases op <;> dsimp only <;> try exact hb
 case panic x => rw [h x (by simp [Op.operands])]
 case call c =>
  obtain ⟨callee, args, argTypes⟩ := c
  dsimp only
  have hA : evL ev args.toList = evL ev' args.toList := evL_congr fun x hx => h x (by simp [Op.operands, Call.operands]; exact .inr (by simpa using hx))
  split
  ·rename_i f
   rw [hA, h f (by simp [Op.operands, Call.operands])]
  ·rename_i x name
   rw [hA, h x (by simp [Op.operands, Call.operands])]
  ·split
   ·rename_i x hargs
    rw [h x (by
     have : x ∈ args := by (have : x ∈ args.toList := by rw [hargs]; simp); simpa using this
     simp [Op.operands, Call.operands, this])]
   ·rfl
  ·exact hb
def gdraw (P : Program) (pc : GCall γ) (ops : Array Oper) (n : Nat) : Nat → Array Bool → AS → γ → List Rd → (AS → γ → Prop) → (Value → AS → γ → Prop) → Prop
 | 0, listed, st, g, _, K, _ => match Region.ready .any ops listed with
  | [] => K st g
  | _ => False
 | f + 1, listed, st, g, rds, K, X => match Region.ready .any ops listed with
  | [] => K st g
  | r :: rs => match (r :: rs).find? (lightIdx ops) with
   | some i => match ops[i]? with
    | some o => vguard ops st.tm o
      (match slight P st.hp o (aev st.tm) with
      | some (.val v, ob) => ob ∧ vsplit v fun v => match aput n st.tm o.dst v with
       | some tm' => gdraw P pc ops n f (listed.setIfInBounds i true) ⟨tm', st.hp, st.nx⟩ g (bif isRead o (aev st.tm) then ⟨i, o, st.tm, v⟩ :: rds else rds) K X
       | none => False
      | some (.new b nv, ob) => match aput n st.tm o.dst (nv.val st.nx) with
       | some tm' => bif isRead o (aev st.tm) then False else ob ∧ gdraw P pc ops n f (listed.setIfInBounds i true) ⟨tm', st.hp.put st.nx (some b), st.nx + 1⟩ g rds K X
       | none => False
      | none => False)
      (match aput n st.tm o.dst undef with
      | some tm' => gdraw P pc ops n f (listed.setIfInBounds i true) ⟨tm', st.hp, st.nx⟩ g rds K X
      | none => False)
    | none => False
   | none => match rs with
    | [] => match ops[r]? with
     | some o => vguard ops st.tm o
       (gheavy P pc st.hp st.nx g o (aev st.tm) fun res hp' nx' g' => match res with
        | .ret v => vsplit v fun v => match aput n st.tm o.dst v with
         | some tm' => vstab P hp' ops r rds ∧ gdraw P pc ops n f (listed.setIfInBounds r true) ⟨tm', hp', nx'⟩ g' rds K X
         | none => False
        | .pan v => X v ⟨.e, hp', nx'⟩ g')
       (match aput n st.tm o.dst undef with
       | some tm' => gdraw P pc ops n f (listed.setIfInBounds r true) ⟨tm', st.hp, st.nx⟩ g rds K X
       | none => False)
     | none => False
    | _ => False
section
variable {P : Program} {I : Base → γ → Prop} {kb : Nat} {kx : Nat × Nat × Nat} {W0 : Base} {ops : Array Oper} {n : Nat} {st0 : AS} {ρ0 : Place} {Q : Exit → Act → World → Prop}
theorem gdraw_main {pc : GCall γ} (hcall : GCallOk P I kb kx pc) (hkx : ρ0.pl kb = some kx) (hD : drawOk ops = true) {K : AS → γ → Prop} {X : Value → AS → γ → Prop} (hQ : ∀ st g, K st g → ∀ a' w' ρ' W, I W g ∧ W.ds = W0.ds → SRel ρ' W n st a' w' → Step ρ0 ρ' st0.hp st.hp st0.nx st.nx → Q .normal a' w')
  (hX : ∀ v st g, X v st g → ∀ v' a' w' ρ' W, I W g ∧ W.ds = W0.ds → VR ρ' v v' → SRel ρ' W n st a' w' → Step ρ0 ρ' st0.hp st.hp st0.nx st.nx → Q (.panic [{ v := v', recovered := false }]) a' w') :
  ∀ (m f : Nat) (C : Array Bool) (st : AS) (g : γ) (rds : List Rd) (J : Info) (L : Array Bool) (a : Act) (w : World) (ρ : Place) (W : Base), unl ops L ≤ m → I W g ∧ W.ds = W0.ds → Inv P W ops n st0 ρ0 C st rds J L a w ρ → gdraw P pc ops n f C st g rds K X → wpAny P .any ops Q m L a w := by
 intro m
 induction m with
 | zero =>
  intro f C st g rds J L a w ρ W hm hI h hs
  have hr : Region.ready .any ops L = [] := by
   have hnil : ((List.range ops.size).filter fun i => !L.getD i true) = [] := List.eq_nil_of_length_eq_zero (Nat.le_zero.1 hm)
   apply List.eq_nil_iff_forall_not_mem.2
   intro j hj
   obtain ⟨h1, o, h2, h3⟩ := mem_ready.1 hj
   have : j ∈ ((List.range ops.size).filter fun i => !L.getD i true) := by
    simp only [List.mem_filter, List.mem_range]
    exact ⟨(Array.getElem?_eq_some_iff.1 h2).1, by rw [h1]; rfl⟩
   rw [hnil] at this
   cases this
  have hall := h.all hD hr
  have hallI : ∀ i, i < ops.size → In L i := fun i hi => Classical.byContradiction fun hn => by
   have : i ∈ ((List.range ops.size).filter fun i => !L.getD i true) := by
    simp only [List.mem_filter, List.mem_range]
    exact ⟨hi, by rw [unlisted_of (by rw [h.ls]; exact hi) hn]; rfl⟩
   rw [List.eq_nil_of_length_eq_zero (Nat.le_zero.1 hm)] at this
   cases this
  have hrC : Region.ready .any ops C = [] := by
   apply List.eq_nil_iff_forall_not_mem.2
   intro j hj
   obtain ⟨h1, o, h2, h3⟩ := mem_ready.1 hj
   exact (unlisted h1).2 (h.sub j (hallI j (Array.getElem?_eq_some_iff.1 h2).1))
  have hst : K st g := by
   cases f with
   | zero => simp only [gdraw, hrC] at hs; exact hs
   | succ f => simp only [gdraw, hrC] at hs; exact hs
  exact ⟨hr, hQ st g hst a w ρ W hI (h.done hall) h.step⟩
 | succ m ihm =>
  intro f
  induction f with
  | zero =>
   intro C st g rds J L a w ρ W hm hI h hs
   have hs0 := hs
   simp only [gdraw] at hs
   split at hs
   case h_2 => exact hs.elim
   rename_i hrC
   refine ⟨fun hr => hQ st g hs a w ρ W hI (h.done (h.all hD hr)) h.step, fun j hj => ?_⟩
   obtain ⟨h1, h2, h3, o, h4, h5⟩ := ready_in h.cs h.sub hj
   rw [hrC] at h1
   have hjC := h1.resolve_right (by simp)
   refine wpOp_mono ?_ (h.run hD h4 hjC h2 h5)
   rintro a' w' ⟨ρ', h'⟩
   refine ihm 0 C _ g rds J _ a' w' ρ' W ?_ hI h' hs0
   have := unl_set (ops := ops) (L := L) h3 h.ls (mem_ready.1 hj).1
   omega
  | succ f ihf =>
   intro C st g rds J L a w ρ W hm hI h hs
   have pending : ∀ j, j ∈ Region.ready .any ops L → In C j → ∀ o, ops[j]? = some o → (∀ e ∈ o.after, Region.binds .any e = true → In L e.on) → wpOp P ops Q j (wpAny P .any ops Q m (L.setIfInBounds j true)) a w := by
    intro j hj hjC o ho hall
    refine wpOp_mono ?_ (h.run hD ho hjC (unlisted (mem_ready.1 hj).1).2 hall)
    rintro a' w' ⟨ρ', h'⟩
    refine ihm (f + 1) C st g rds J _ a' w' ρ' W ?_ hI h' hs
    have := unl_set (ops := ops) (L := L) (Array.getElem?_eq_some_iff.1 ho).1 h.ls (mem_ready.1 hj).1
    omega
   have hs0 := hs
   simp only [gdraw] at hs
   split at hs
   ·rename_i hrC
    refine ⟨fun hr => hQ st g hs a w ρ W hI (h.done (h.all hD hr)) h.step, fun j hj => ?_⟩
    obtain ⟨h1, h2, h3, o, h4, h5⟩ := ready_in h.cs h.sub hj
    rw [hrC] at h1
    exact pending j hj (h1.resolve_right (by simp)) o h4 h5
   ·rename_i r rs hrC
    split at hs
    ·rename_i i hf
     have him : i ∈ Region.ready .any ops C := by rw [hrC]; exact List.mem_of_find?_eq_some hf
     have hil := List.find?_some hf
     obtain ⟨g1, o, g2, g3⟩ := mem_ready.1 him
     have hnC := (unlisted g1).2
     have hh : isHeavy o.op = false := by
      unfold lightIdx at hil
      rw [g2] at hil
      simpa using hil
     rw [g2] at hs
     dsimp only at hs
     rcases vguard_cases hs with ⟨hw, hs⟩ | ⟨hw, hs⟩
     ·split at hs
      ·rename_i v ob hv
       obtain ⟨hob, hs⟩ := hs
       replace hs := vsplit_ap hs
       split at hs
       case h_2 => exact hs.elim
       rename_i tm' ht
       refine ihf _ ⟨tm', st.hp, st.nx⟩ g _ (J.set i st.tm v none) L a w ρ W hm hI (h.absorb hD g2 hnC g3 hh (st' := ⟨tm', st.hp, st.nx⟩) (v := v) (B := none) ht h.rel (fun _ _ h => h) (Nat.le_refl _) h.step (fun b hb => by cases hb) (fun J' e1 e2 e3 => .inr (.inl ⟨by rw [e1]; exact hw, .inr ⟨ob, by rw [e1, e2]; exact hv, hob⟩, e3⟩)) ?_ ?_) hs
       ·intro x hx
        cases isRead o (aev st.tm) <;> simp [hx]
       ·intro _ hrd
        rw [hrd]
        simp
      ·rename_i ob nv obp hv
       split at hs
       case h_2 => exact hs.elim
       rename_i tm' ht
       cases hrd : isRead o (aev st.tm) with
       | true => rw [hrd] at hs; exact hs.elim
       | false =>
        rw [hrd, cond_false] at hs
        obtain ⟨hob, hs⟩ := hs
        refine ihf _ ⟨tm', st.hp.put st.nx (some ob), st.nx + 1⟩ g _ (J.set i st.tm (nv.val st.nx) (some st.nx)) L a w ρ W hm hI (h.absorb hD g2 hnC g3 hh (st' := ⟨tm', st.hp.put st.nx (some ob), st.nx + 1⟩) (v := nv.val st.nx) (B := some st.nx) ht (h.rel.reserve ob) ?_ (Nat.le_succ _) ?_ (fun b hb => by cases hb; exact Nat.le_refl _) (fun J' e1 e2 e3 => ?_) (fun _ h => h) (fun _ h' => by rw [hrd] at h'; cases h')) hs
        ·intro b x hb
         have : b ≠ st.nx := fun e => by rw [e, h.rel.fresh _ (Nat.le_refl _)] at hb; cases hb
         rw [Tr.get_put, if_neg this]
         exact hb
        ·exact ⟨h.step.le, Nat.le_succ_of_le h.step.more, fun b hb hr => by
          have := h.step.old b hb hr
          refine ⟨this.1, ?_⟩
          rw [Tr.get_put, if_neg (by have := h.step.more; omega)]
          exact this.2⟩
        ·refine .inr (.inr ⟨by rw [e1]; exact hw, by rw [e1]; exact hrd, ob, nv, st.nx, ?_, e2, e3, by simp, h.step.more, h.rel.dom_none, by rw [Tr.get_put, if_pos rfl]⟩)
         rw [e1]
         exact LOk.still (hp := st.hp) hrd (.inr ⟨obp, hv, hob⟩)
      ·exact hs.elim
     ·split at hs
      case h_2 => exact hs.elim
      rename_i tm' ht
      exact ihf _ ⟨tm', st.hp, st.nx⟩ g _ (J.set i st.tm undef none) L a w ρ W hm hI (h.absorb hD g2 hnC g3 hh (st' := ⟨tm', st.hp, st.nx⟩) (v := undef) (B := none) ht h.rel (fun _ _ h => h) (Nat.le_refl _) h.step (fun b hb => by cases hb) (fun J' e1 e2 e3 => .inl ⟨by rw [e1]; exact hw, e2, e3⟩) (fun _ h => h) (fun h' => by rw [hw] at h'; cases h')) hs
    ·split at hs
     case h_2 => exact hs.elim
     split at hs
     case h_2 => exact hs.elim
     rename_i o ho
     have hrm : r ∈ Region.ready .any ops C := by rw [hrC]; simp
     obtain ⟨g1, o', g2, g3⟩ := mem_ready.1 hrm
     rw [ho] at g2
     cases g2
     have hnC := (unlisted g1).2
     refine ⟨fun hr => ?_, fun j hj => ?_⟩
     ·exfalso
      have hall := h.all hD hr
      have : r ∈ Region.ready .any ops L := mem_ready.2 ⟨unlisted_of (by rw [h.ls]; exact (Array.getElem?_eq_some_iff.1 ho).1) (fun h' => hnC (h.sub r h')), o, ho, fun e he hb => hall _ (g3 e he hb)⟩
      rw [hr] at this
      cases this
     ·obtain ⟨h1, h2, h3, oj, h4, h5⟩ := ready_in h.cs h.sub hj
      rcases h1 with h1 | h1
      ·exact pending j hj h1 oj h4 h5
      ·rw [hrC] at h1
       have hjr : j = r := by simpa using h1
       subst hjr
       rw [ho] at h4
       cases h4
       have hlk := h.heavyLook hD ho hnC g3 h5
       obtain ⟨ev', he1, he2⟩ := erel_of_looks hlk
       have fin : ∀ (st' : AS) (g' : γ) (a' : Act) (w' : World) (W' : Base), I W' g' ∧ W'.ds = W0.ds → (∃ ρ' I', Inv P W' ops n st0 ρ0 (C.setIfInBounds j true) st' rds I' (L.setIfInBounds j true) a' w' ρ') → gdraw P pc ops n f (C.setIfInBounds j true) st' g' rds K X → wpAny P .any ops Q m (L.setIfInBounds j true) a' w' := by
        rintro st' g' a' w' W' hI' ⟨ρ', I', h'⟩ hs'
        refine ihm f _ st' g' rds I' _ a' w' ρ' W' ?_ hI' h' hs'
        have := unl_set (ops := ops) (L := L) h3 h.ls (mem_ready.1 hj).1
        omega
       unfold wpOp
       simp only [ho]
       rcases vguard_cases hs with ⟨hw, hs⟩ | ⟨hw, hs⟩
       ·rw [awanted_sound' h.size hlk hw, if_pos rfl]
        rw [gheavy_congr he2] at hs
        refine .inl (gheavy_sound hcall hI.1 (h.step.le.1 kb kx hkx) h.rel he1 hs (fun v hp' nx' g' v' w' ρ' W' hK i1 q1 q2 q3 => ?_) (fun v hp' nx' g' v' w' ρ' W' hK i1 q1 q2 q3 => ?_))
        ·dsimp only at hK
         replace hK := vsplit_ap hK
         split at hK
         case h_2 => exact hK.elim
         rename_i tm' ht
         exact fin ⟨tm', hp', nx'⟩ g' _ _ W' ⟨i1.1, i1.2.trans hI.2⟩ (h.heavyFinW i1.2 hD ho hnC g3 h5 (st' := ⟨tm', hp', nx'⟩) (.inr (vstab_ok hK.1)) v v' w' ρ' ht q1 q2 q3) hK.2
        ·exact hX v ⟨.e, hp', nx'⟩ g' hK v' a w' ρ' W' ⟨i1.1, i1.2.trans hI.2⟩ q1 ⟨q2, ⟨h.size, h.defers.trans i1.2.symm, fun t u hu => by cases hu⟩⟩ (h.step.trans q3)
       ·rw [awanted_sound' h.size hlk hw, if_neg (by simp)]
        split at hs
        case h_2 => exact hs.elim
        rename_i tm' ht
        exact fin ⟨tm', st.hp, st.nx⟩ g _ _ W hI (h.heavyFin hD ho hnC g3 h5 (st' := ⟨tm', st.hp, st.nx⟩) (.inl rfl) undef undef w ρ ht (closed_refl (by simp [undef, closed])) h.rel (.refl _ _ _)) hs
end
def gregion (P : Program) (pc : GCall γ) (n : Nat) (ops : Array Oper) (draw : Bool) (st : AS) (g : γ) (K : AS → γ → Prop) (X : Value → AS → γ → Prop) : Prop :=
 bif draw then (bif drawOk ops then gdraw P pc ops n ops.size (Array.replicate ops.size false) st g [] K X else False) else gseq P pc ops n ops.toList st g K X
theorem gregion_sound {P : Program} {I : Base → γ → Prop} {kb : Nat} {kx : Nat × Nat × Nat} {pc : GCall γ} {W : Base} (hcall : GCallOk P I kb kx pc) (hm : P.follows .mixedOrders = true) {ops : Array Oper} {draw : Bool} {id n : Nat} {Q : Exit → Act → World → Prop} {st : AS} {g : γ} (hI : I W g) {ρ : Place} (hkx : ρ.pl kb = some kx) {K : AS → γ → Prop} {X : Value → AS → γ → Prop} {a : Act} {w : World} (h : SRel ρ W n st a w)
  (hs : gregion P pc n ops draw st g K X) (hk : ∀ st' g', K st' g' → ∀ a' w' ρ' W', I W' g' ∧ W'.ds = W.ds → SRel ρ' W' n st' a' w' → Step ρ ρ' st.hp st'.hp st.nx st'.nx → Q .normal a' w')
  (hx : ∀ v st' g', X v st' g' → ∀ v' a' w' ρ' W', I W' g' ∧ W'.ds = W.ds → VR ρ' v v' → SRel ρ' W' n st' a' w' → Step ρ ρ' st.hp st'.hp st.nx st'.nx → Q (.panic [{ v := v', recovered := false }]) a' w') : (Code.region id ops draw).wp P Q a w := by
 unfold gregion at hs
 cases draw with
 | true =>
  rw [cond_true] at hs
  cases hD : drawOk ops with
  | false => rw [hD] at hs; exact hs.elim
  | true =>
   rw [hD, cond_true] at hs
   refine wp_region_any hm ?_
   have hnot : ∀ i, ¬ In (Array.replicate ops.size false) i := fun i hi => by
    have := lt_of_in (ops := ops) (by simp) hi
    simp [In, this] at hi
   refine gdraw_main (W0 := W) hcall hkx hD hk hx ops.size ops.size _ st g [] ⟨fun _ => .e, fun _ => undef, fun _ => none⟩ _ a _ ρ W ?_ ⟨hI, rfl⟩ ⟨by simp, by simp, fun i hi => (hnot i hi).elim, fun i hi => (hnot i hi).elim, fun i hi => hi, fun j o t hj => (hnot j hj).elim, fun t _ => rfl, h.rel.drew, h.frame.size, h.frame.defers, fun j o t hj => (hnot j hj).elim, fun t v _ hv => h.frame.slot t v hv, fun j o hj => (hnot j hj).elim, fun j k b hj => (hnot j hj).elim, .refl _ _ _, fun j o hj => (hnot j hj).elim⟩ hs
   unfold unl
   exact Nat.le_trans (List.length_filter_le _ _) (by simp)
 | false =>
  rw [cond_false] at hs
  refine wp_region ?_
  rw [List.range_eq_range']
  have := gseq_sound hcall (Q := Q) ops.toList 0 st g K X W ρ a w (by simp) hI hkx h hs hk hx
  simpa using this
def grun (P : Program) (pc : GCall γ) (n : Nat) (lt : List (Nat × List Nat)) (base : List Bool) (H : Code → List Fr → AS → γ → Prop) (Fin : AS → γ → Prop) (X : Value → AS → γ → Prop) : Nat → VM → List Fr → AS → γ → Prop
 | 0, _, _, _, _ => False
 | f + 1, .normal, k, st, g => match k with
  | [] => Fin st g
  | .seq y :: k' => grun P pc n lt base H Fin X f (.code y) k' st g
  | .block _ :: k' => grun P pc n lt base H Fin X f .normal k' st g
  | .loop b :: k' => match slotsOf (rid b) lt with
   | some _ => vloop lt base (fun b k st => H b k st g) b k' st
   | none => grun P pc n lt base H Fin X f (.code b) (.loop b :: k') st g
 | f + 1, .exit id, k, st, g => match k with
  | [] => False
  | .block j :: k' => bif id.beq j then grun P pc n lt base H Fin X f .normal k' st g else grun P pc n lt base H Fin X f (.exit id) k' st g
  | _ :: k' => grun P pc n lt base H Fin X f (.exit id) k' st g
 | _ + 1, .ret, _, st, g => Fin st g
 | f + 1, .code c, k, st, g => match c with
  | .skip | .label _ => grun P pc n lt base H Fin X f .normal k st g
  | .region _ ops draw => gregion P pc n ops draw st g (fun st' g' => grun P pc n lt base H Fin X f .normal k st' g') X
  | .seq x y => grun P pc n lt base H Fin X f (.code x) (.seq y :: k) st g
  | .cond c x y => match aev st.tm c with
   | some (.bool b) => pIf b (grun P pc n lt base H Fin X f (.code x) k st g) (grun P pc n lt base H Fin X f (.code y) k st g)
   | _ => False
  | .block id b => grun P pc n lt base H Fin X f (.code b) (.block id :: k) st g
  | .loop b => match slotsOf (rid b) lt with
   | some _ => vloop lt base (fun b k st => H b k st g) b k st
   | none => grun P pc n lt base H Fin X f (.code b) (.loop b :: k) st g
  | .exit id => grun P pc n lt base H Fin X f (.exit id) k st g
  | .ret => grun P pc n lt base H Fin X f .ret k st g
  | _ => False
section
variable {P : Program} {I : Base → γ → Prop} {kb : Nat} {kx : Nat × Nat × Nat} {pc : GCall γ} {W0 : Base} {n : Nat} {lt : List (Nat × List Nat)} {base : List Bool} {H : Code → List Fr → AS → γ → Prop} {Fin : AS → γ → Prop} {X : Value → AS → γ → Prop} {R : Place → AS → Prop} {Q : Exit → Act → World → Prop}
theorem grun_sound (hcall : GCallOk P I kb kx pc) (hm : P.follows .mixedOrders = true)
  (hR : ∀ ρ st ρ' st', R ρ st → Step ρ ρ' st.hp st'.hp st.nx st'.nx → R ρ' st')
  (hH : ∀ b k st g, vloop lt base (fun b k st => H b k st g) b k st → ∀ W ρ a w, I W g ∧ W.ds = W0.ds → ρ.pl kb = some kx → SRel ρ W n st a w → R ρ st → LoopWp P b (contQ P Q k) a w)
  (hF : ∀ st g, Fin st g → ∀ W ρ a w, I W g ∧ W.ds = W0.ds → ρ.pl kb = some kx → SRel ρ W n st a w → R ρ st → Q .normal a w ∧ Q .ret a w)
  (hX : ∀ v st g, X v st g → ∀ W ρ v' a w, I W g ∧ W.ds = W0.ds → VR ρ v v' → SRel ρ W n st a w → R ρ st → Q (.panic [{ v := v', recovered := false }]) a w) :
  ∀ (f : Nat) (m : VM) (k : List Fr) (st : AS) (g : γ), grun P pc n lt base H Fin X f m k st g → ∀ W ρ a w, I W g ∧ W.ds = W0.ds → ρ.pl kb = some kx → SRel ρ W n st a w → R ρ st → (match m with
   | .code c => c.wp P (contQ P Q k) a w
   | .normal => contQ P Q k .normal a w
   | .exit id => contQ P Q k (.exit id) a w
   | .ret => contQ P Q k .ret a w) := by
 intro f
 induction f with
 | zero => intro m k st g h; simp only [grun] at h
 | succ f ih =>
  intro m k st g h W ρ a w hI hkx hs hr
  cases m with
  | normal =>
   simp only [grun] at h
   dsimp only
   cases k with
   | nil => exact (hF st g h W ρ a w hI hkx hs hr).1
   | cons x k =>
    cases x with
    | seq y => exact ih (.code y) k st g h W ρ a w hI hkx hs hr
    | block id => exact ih .normal k st g h W ρ a w hI hkx hs hr
    | loop b =>
     dsimp only at h
     split at h
     ·exact hH b k st g h W ρ a w hI hkx hs hr
     ·exact loop_round (ih (.code b) (.loop b :: k) st g h W ρ a w hI hkx hs hr)
  | exit id =>
   simp only [grun] at h
   dsimp only
   cases k with
   | nil => exact h.elim
   | cons x k =>
    cases x with
    | seq y => exact ih (.exit id) k st g h W ρ a w hI hkx hs hr
    | block j =>
     show Exit.inBlock j (contQ P Q k) (.exit id) a w
     simp only [Exit.inBlock]
     dsimp only at h
     cases hj : id.beq j with
     | true =>
      rw [hj] at h
      rw [if_pos (Nat.eq_of_beq_eq_true hj)]
      exact ih .normal k st g h W ρ a w hI hkx hs hr
     | false =>
      rw [hj] at h
      rw [if_neg (fun e => by subst e; simp at hj)]
      exact ih (.exit id) k st g h W ρ a w hI hkx hs hr
    | loop b => exact ih (.exit id) k st g h W ρ a w hI hkx hs hr
  | ret =>
   simp only [grun] at h
   exact contQ_ret (hF st g h W ρ a w hI hkx hs hr).2
  | code c =>
   simp only [grun] at h
   dsimp only
   cases c with
   | skip => exact wp_skip (ih .normal k st g h W ρ a w hI hkx hs hr)
   | label l => exact wp_label (ih .normal k st g h W ρ a w hI hkx hs hr)
   | region id ops draw => exact gregion_sound hcall hm hI.1 hkx hs h (fun st' g' hK a' w' ρ' W' i1 g1 g2 => ih .normal k st' g' hK W' ρ' a' w' ⟨i1.1, i1.2.trans hI.2⟩ (g2.le.1 kb kx hkx) g1 (hR _ _ _ _ hr g2)) (fun v st' g' hK v' a' w' ρ' W' i1 g0 g1 g2 => contQ_panic (hX v st' g' hK W' ρ' v' a' w' ⟨i1.1, i1.2.trans hI.2⟩ g0 g1 (hR _ _ _ _ hr g2)))
   | seq x y => exact wp_seq (ih (.code x) (.seq y :: k) st g h W ρ a w hI hkx hs hr)
   | cond c x y =>
    dsimp only at h
    split at h
    ·rename_i b hc
     have := hs.frame.eval hc
     cases b with
     | true =>
      refine wp_cond_true (c := c) ?_ (ih (.code x) k st g h W ρ a w hI hkx hs hr)
      generalize a.eval c = z at this
      cases this
      rfl
     | false =>
      refine wp_cond_false (c := c) ?_ (ih (.code y) k st g h W ρ a w hI hkx hs hr)
      generalize a.eval c = z at this
      cases this
      rfl
    ·exact h.elim
   | block id b => exact wp_block (ih (.code b) (.block id :: k) st g h W ρ a w hI hkx hs hr)
   | loop b =>
    dsimp only at h
    split at h
    ·exact loop_of (hH b k st g h W ρ a w hI hkx hs hr)
    ·exact loop_of (loop_round (ih (.code b) (.loop b :: k) st g h W ρ a w hI hkx hs hr))
   | exit id => exact wp_exit (ih (.exit id) k st g h W ρ a w hI hkx hs hr)
   | ret => exact wp_ret (ih .ret k st g h W ρ a w hI hkx hs hr)
   | goto l => exact h.elim
   | refuse y => exact h.elim
   | scope b => exact h.elim
   | rangeFunc f ps x y => exact h.elim
end
end Go.Proofs.YtojlhapbngcjkaaGreatDoor

noncomputable section
namespace Go.Proofs.YtojlhapbngcjkaaGreatDoor
open Go Go.RowKit
set_option maxRecDepth 100000
set_option maxHeartbeats 8000000
def IsBT (T : TypeId) : Prop := T = 80 ∨ T = 78
def Bld (c : Nat) (p : Value) (bs : List Value) (w : World) : Prop := ∃ T, IsBT T ∧ Lib.BuilderAt T 5 0 c p bs w
theorem info_byte : ∃ i0, Tryz.prog.info? 5 = some i0 ∧ i0.zero = some (.int .u8 0) ∧ i0.size = 1 ∧ i0.bytes = 1 := info_parts (by kernel_rfl)
theorem info_bld : ∃ j, Tryz.prog.info? 78 = some j ∧ j.size = 2 := by
 have h : (Tryz.prog.info? 78).map (·.size) = some 2 := by kernel_rfl
 obtain ⟨j, hj, h2⟩ := Option.map_eq_some_iff.1 h
 exact ⟨j, hj, h2⟩
theorem lies_bld {T : TypeId} (hT : IsBT T) : liesAt Tryz.prog Tryz.prog.depth T (2 / Tryz.prog.cellsOf T) 0 78 1 = true := by
 rcases hT with rfl | rfl <;> kernel_rfl
set_option maxHeartbeats 1000000 in
set_option maxRecDepth 100000 in
theorem copyCheck_used (c : Nat) (w : World) (h0 : w.cell? ⟨c, 0, none⟩ = some (.pointer (some ⟨c, 0, none⟩))) :
  Calls Tryz.prog 111 #[.pointer (some ⟨c, 0, none⟩)] w fun e w' => e = .returned (.tuple #[]) ∧ w' = w := by
 obtain ⟨j, hj, _⟩ := info_bld
 go_enter Tryz.func111, Tryz.ntmps111
 go_wp2
 rw [Lib.run_neq_ptr_same w _ Tryz.underlying75 hj]
 go_wp2
 go_end0
 exact ⟨rfl, rfl⟩
set_option maxHeartbeats 1000000 in
set_option maxRecDepth 100000 in
theorem copyCheck_fresh {T : TypeId} (hT : IsBT T) (c : Nat) (w : World) (h0 : w.cell? ⟨c, 0, none⟩ = some (.pointer none)) (hsh : w.shape? c = some (T, 2)) (hfz : w.frozen? ⟨c, 0, none⟩ = false) :
  Calls Tryz.prog 111 #[.pointer (some ⟨c, 0, none⟩)] w fun e w' => e = .returned (.tuple #[]) ∧ w' = w.setCell ⟨c, 0, none⟩ (.pointer (some ⟨c, 0, none⟩)) := by
 obtain ⟨j, hj, hjs⟩ := info_bld
 go_enter Tryz.func111, Tryz.ntmps111
 go_wp2
 rw [Lib.run_to_unsafe w ⟨c, 0, none⟩ Tryz.underlying75 Tryz.underlying252 hj (by rw [hjs]; decide) hsh (Nat.zero_lt_succ 1)]
 simp only [Result.andThen]
 rw [Oper.upon_value]
 go_wp2
 rw [run_callFunc_extern Tryz.func163 (by kernel_rfl) (by kernel_rfl) (by kernel_rfl) (e := Extern.AbiNoEscape.same) (by kernel_rfl)]
 rw [Lib.run_noEscape]
 simp only [Result.andThen]
 rw [Oper.upon_value]
 go_wp2
 rw [Lib.run_from_unsafe w ⟨c, 0, none⟩ Tryz.underlying252 Tryz.underlying75 hj hsh (lies_bld hT)]
 simp only [Result.andThen]
 rw [Oper.upon_value]
 go_wp2
 go_end0
 exact ⟨rfl, rfl⟩
def bufOf (c : Nat) (w : World) : Option Nat := match w.heap[c]? with
 | some (.cells cs _ _) => match cs[1]? with
  | some v => v.ownBlock
  | none => none
 | _ => none
theorem copyCheck_any (c : Nat) (bs : List Value) (w : World) (h : Bld c (.pointer none) bs w ∨ Bld c (.pointer (some ⟨c, 0, none⟩)) bs w) :
  Calls Tryz.prog 111 #[.pointer (some ⟨c, 0, none⟩)] w fun e w' => e = .returned (.tuple #[]) ∧ Bld c (.pointer (some ⟨c, 0, none⟩)) bs w' ∧ w.grownBy w' (some c) ∧ bufOf c w' = bufOf c w := by
 rcases h with ⟨T, hT, h⟩ | ⟨T, hT, h⟩
 ·refine (copyCheck_fresh hT c w h.cell0 h.shape h.frozen0).mono ?_
  rintro e w' ⟨rfl, rfl⟩
  refine ⟨rfl, ⟨T, hT, h.used _⟩, ⟨rfl, rfl, rfl, by simp [World.setCell], fun k _ hk => Below.heap_setCell _ _ _ _ (fun e => hk (by simp [e]))⟩, ?_⟩
  obtain ⟨_, v, hb, _⟩ := h
  simp [bufOf, World.setCell, Array.getElem?_modify, hb]
 ·refine (copyCheck_used c w h.cell0).mono ?_
  rintro e w' ⟨rfl, rfl⟩
  exact ⟨rfl, ⟨T, hT, h⟩, ⟨rfl, rfl, rfl, Nat.le_refl _, fun _ _ _ => rfl⟩, rfl⟩
theorem append_row {P : Program} (w : World) (t u ty e : TypeId) (i : TypeInfo) (ht : P.underlying t = some (.slice e)) (hu : P.underlying u = some .string) (hi : P.info? e = some i) (hz : i.zero = some (.int .u8 0)) (hsize : i.size = 1) (hby : i.bytes = 1)
  (v : Value) (n : Nat) (xs : List Value) (hown : w.ownsRow 0 e 1 v n xs) (s : ByteArray) (hlen : n + s.size ≤ 140737488355328) :
  ∃ v' w', (Builtin.append_ #[t, u] ty #[v, .string s]).run P w = .ok v' w' ∧ w'.ownsRow 0 e 1 v' (n + s.size) (xs ++ Lib.strCells s) ∧ w.grownBy w' v.ownBlock ∧ (∀ g, v'.ownBlock = some g → v.ownBlock = some g ∨ w.heap.size ≤ g) := by
 have h63 : n + s.size ≤ maxLen := by unfold maxLen; omega
 have hxl : xs.length = n := by simpa using hown.1
 rcases hown.2 with ⟨rfl, rfl⟩ | ⟨g, cap, cur, rfl, hbg, hg, hnc, hcm, hcs, htake⟩
 ·have hx : xs = [] := List.eq_nil_of_length_eq_zero hxl
  subst hx
  obtain ⟨v', w', h1, h2, h3, _⟩ := Lib.run_append_own_string (P := P) w w.heap.size t u ty e i ht hu hi hz hsize hby _ _ _ (World.ownsRow_nil w w.heap.size e 1) s h63 hlen (Nat.le_refl _)
  refine ⟨v', w', h1, ⟨h2.1, ?_⟩, h3, fun g hg => ?_⟩
  ·rcases h2.2 with h | ⟨g, cap, cur, a1, a2, a3⟩
   ·exact .inl h
   ·exact .inr ⟨g, cap, cur, a1, Nat.zero_le _, a3⟩
  ·rcases h2.2 with ⟨rfl, _⟩ | ⟨g', cap, cur, rfl, a2, _⟩
   ·cases hg
   ·cases hg; exact .inr a2
 ·obtain ⟨v', w', h1, h2, h3, _⟩ := Lib.run_append_own_string (P := P) w 0 t u ty e i ht hu hi hz hsize hby _ _ _ hown s h63 hlen (Nat.zero_le _)
  refine ⟨v', w', h1, h2, h3, fun g' hg' => ?_⟩
  have hcs' : cur.size = cap := by simpa using hcs
  by_cases hroom : n + s.size ≤ cap
  ·have hr := Lib.run_append_room_string (P := P) w t u ty e i ht hu hi hsize g n cap cur hg s hroom (by omega)
   rw [hr] at h1
   cases h1
   cases hg'
   exact .inl rfl
  ·have holds : ∀ j u, xs[j]? = some u → w.cell? ((⟨g, 0, none⟩ : Addr).add j) = some u := hown.cells (g := g) rfl
   have hr := Lib.run_append_grow_string (P := P) w t u ty e i (.int .u8 0) ht hu hi hz ⟨g, 0, none⟩ n cap xs (by rw [hsize]; simpa using hxl) holds s (by omega) (by unfold maxLen at h63; omega) (by rw [hby]; exact growslice_fits (by omega) (by omega))
   rw [hr] at h1
   cases h1
   cases hg'
   exact .inr (Nat.le_refl _)
theorem wpList_append_row {P : Program} {ops : Array Oper} {rest : List Oper} {o : Oper} {a : Act} {w : World} {Q : Exit → Act → World → Prop} (hgd : o.guard = none) (sl x : Operand) (t u : TypeId)
  (ho : o.op = .call { callee := .builtin .append, args := #[sl, x], argTypes := #[t, u] }) (e : TypeId) (i : TypeInfo) (ht : P.underlying t = some (.slice e)) (hu : P.underlying u = some .string) (hi : P.info? e = some i) (hz : i.zero = some (.int .u8 0)) (hsize : i.size = 1) (hby : i.bytes = 1)
  (v : Value) (n : Nat) (xs : List Value) (hs : a.eval sl = v) (hown : w.ownsRow 0 e 1 v n xs) (s : ByteArray) (hx : a.eval x = .string s) (hlen : n + s.size ≤ 140737488355328)
  (h : ∀ v' w', w'.ownsRow 0 e 1 v' (n + s.size) (xs ++ Lib.strCells s) → w.grownBy w' v.ownBlock → (∀ g, v'.ownBlock = some g → v.ownBlock = some g ∨ w.heap.size ≤ g) → wpList P ops Q rest (a.put o.dst v') w') : wpList P ops Q (o :: rest) a w := by
 refine wpList_plain hgd fun K hK => ?_
 obtain ⟨v', w', hr, h2, h3, h4⟩ := append_row (P := P) w t u o.type e i ht hu hi hz hsize hby v n xs hown s hlen
 unfold Oper.wp execOp
 simp only [ho, resolve, invoke, builtin, Sem.run_bind, Sem.run_pure, Result.andThen_ok, List.map_toArray, List.map_cons, List.map_nil, hs, hx, hr]
 exact hK _ _ (h v' w' h2 h3 h4)
set_option maxHeartbeats 2000000 in
set_option maxRecDepth 100000 in
theorem writeString (c : Nat) (bs : List Value) (s : ByteArray) (w : World) (h : Bld c (.pointer none) bs w ∨ Bld c (.pointer (some ⟨c, 0, none⟩)) bs w) (hlen : bs.length + s.size ≤ 140737488355328) :
  Calls Tryz.prog 55 #[.pointer (some ⟨c, 0, none⟩), .string s] w fun e w' => e = .returned (.tuple #[.int .i64 s.size, .nilIface]) ∧ Bld c (.pointer (some ⟨c, 0, none⟩)) (bs ++ Lib.strCells s) w' ∧
   (w'.os = w.os ∧ w'.tape = w.tape ∧ w'.output = w.output ∧ w.heap.size ≤ w'.heap.size) ∧ (∀ k, k < w.heap.size → k ≠ c → some k ≠ bufOf c w → w'.heap[k]? = w.heap[k]?) ∧ (∀ k, bufOf c w' = some k → bufOf c w = some k ∨ w.heap.size ≤ k) := by
 obtain ⟨i0, hi, hz0, hz1, hz2⟩ := info_byte
 go_enter Tryz.func55, Tryz.ntmps55
 go_wp2_with (go_at_call 111; refine (copyCheck_any c bs _ h).mono ?_)
 rintro e w1 ⟨rfl, h1, hb1, hr1⟩
 obtain ⟨T, hT, hB, v, hbk, hown, hne⟩ := h1
 have c0 : w1.cell? ⟨c, 0, none⟩ = some (.pointer (some ⟨c, 0, none⟩)) := by rw [Lib.cell_of_heap hbk]; rfl
 have c1 : w1.cell? ⟨c, 1, none⟩ = some v := by rw [Lib.cell_of_heap hbk]; rfl
 go_wp2_with (at_builtin; refine wpList_append_row rfl _ _ 76 9 rfl 5 i0 Tryz.underlying76 Tryz.underlying9 hi hz0 hz1 hz2 _ _ _ rfl hown s rfl hlen ?_)
 intro v' w2 hown' hgrow hrow
 have hlt : c < w1.heap.size := by
  rcases Nat.lt_or_ge c w1.heap.size with h' | h'
  ·exact h'
  ·simp [Array.getElem?_eq_none h'] at hbk
 have hb2 : w2.heap[c]? = some (.cells #[.pointer (some ⟨c, 0, none⟩), v] T (0, 0)) := by
  rw [hgrow.block c hlt (fun e => hne e.symm)]
  exact hbk
 have d0 : w2.cell? ⟨c, 0, none⟩ = some (.pointer (some ⟨c, 0, none⟩)) := by rw [Lib.cell_of_heap hb2]; rfl
 have d1 : w2.cell? ⟨c, 1, none⟩ = some v := by rw [Lib.cell_of_heap hb2]; rfl
 have f1 : w2.frozen? ⟨c, 1, none⟩ = false := Lib.frozen_of_heap hb2 1
 obtain ⟨ao, n', cap, rfl⟩ : ∃ ao n' cap, v' = .slice ao n' cap := by
  rcases hown'.2 with ⟨hv, _⟩ | ⟨g, cap, cur, hv, _⟩
  ·exact ⟨_, _, _, hv⟩
  ·exact ⟨_, _, _, hv⟩
 go_wp2
 go_ret2
 have hr2 : bufOf c w1 = v.ownBlock := by simp [bufOf, hbk]
 have hcell : ∀ k, k ≠ c → (w2.setCell ⟨c, 1, none⟩ (.slice ao n' cap)).heap[k]? = w2.heap[k]? := fun k hk => Below.heap_setCell _ _ _ _ hk
 refine ⟨rfl, ?_, ⟨?_, ?_, ?_, ?_⟩, ?_, ?_⟩
 ·exact ⟨T, hT, Lib.BuilderAt.put (T := T) (e := 5) hB hb2 (bs' := bs ++ Lib.strCells s) (by simpa [Lib.strCells_length] using hown') (by rcases hT with rfl | rfl <;> decide)⟩
 ·exact hgrow.os.trans hb1.os
 ·exact hgrow.tape.trans hb1.tape
 ·exact hgrow.output.trans hb1.output
 ·have := hgrow.size
  have := hb1.size
  simp [World.setCell]
  omega
 ·intro k hk hkc hkr
  rw [hcell k hkc, hgrow.block k (Nat.lt_of_lt_of_le hk hb1.size) (by rw [← hr2, hr1]; exact hkr), hb1.block k hk (by simpa using hkc)]
 ·intro k hk
  have hk' : Value.ownBlock (.slice ao n' cap) = some k := by
   rw [← hk]
   simp [bufOf, World.setCell, Array.getElem?_modify, hb2]
  rcases hrow k hk' with h' | h'
  ·exact .inl (by rw [← hr1, hr2]; exact h')
  ·exact .inr (Nat.le_trans hb1.size h')
theorem grown_freeze (w : World) (g n : Nat) : w.grownBy (w.drew.freeze ⟨g, 0, none⟩ n) (some g) := by
 unfold World.freeze
 split
 ·exact ⟨rfl, rfl, rfl, Nat.le_refl _, fun _ _ _ => rfl⟩
 ·refine ⟨rfl, rfl, rfl, by simp, fun k _ hk => ?_⟩
  simp only [Array.getElem?_modify]
  rw [if_neg (fun e => hk (by simp [e]))]
  rfl
set_option maxHeartbeats 2000000 in
set_option maxRecDepth 100000 in
/-- String, where there is a byte at least: these are frozen in their row. -/
theorem stringOf (c : Nat) (l : List UInt8) (w : World) (h : Bld c (.pointer none) (Lib.byteCells l) w ∨ Bld c (.pointer (some ⟨c, 0, none⟩)) (Lib.byteCells l) w) (h0 : l ≠ []) :
  Calls Tryz.prog 25 #[.pointer (some ⟨c, 0, none⟩)] w fun e w' => e = .returned (.string ⟨l.toArray⟩) ∧ w.grownBy w' (bufOf c w) := by
 obtain ⟨p, T, hT, hB, v, hbk, hown, hne⟩ : ∃ p, Bld c p (Lib.byteCells l) w := by
  rcases h with h | h
  ·exact ⟨_, h⟩
  ·exact ⟨_, h⟩
 have hl0 : l.length ≠ 0 := by simpa using h0
 rw [Lib.byteCells_length] at hown
 obtain ⟨g, cap, cur, rfl, hbg, hg, hnc, hcm, hcs, htake⟩ : ∃ g cap cur, v = .slice (some ⟨g, 0, none⟩) l.length cap ∧ 0 ≤ g ∧ w.heap[g]? = some (.cells cur 5 (0, 0)) ∧ l.length ≤ cap ∧ cap ≤ maxLen ∧ cur.size = cap * 1 ∧ cur.toList.take (l.length * 1) = Lib.byteCells l := by
  rcases hown.2 with ⟨_, hz⟩ | ⟨g, cap, cur, hv, r⟩
  ·exact absurd hz hl0
  ·exact ⟨g, cap, cur, hv, r⟩
 have c1 : w.drew.cell? ⟨c, 1, none⟩ = some (.slice (some ⟨g, 0, none⟩) l.length cap) := by
  have : w.drew.heap[c]? = some (.cells #[p, .slice (some ⟨g, 0, none⟩) l.length cap] T (0, 0)) := hbk
  rw [Lib.cell_of_heap this]; rfl
 have hSD : (Builtin.unsafeSliceData_ #[76] 144 #[.slice (some ⟨g, 0, none⟩) l.length cap]).run Tryz.prog w.drew = .ok (.pointer (some ⟨g, 0, none⟩)) w.drew :=
  Lib.run_unsafeSliceData_row _ _ _ _ _ _ (by omega)
 have hUS : (Builtin.unsafeString_ #[144, 3] 9 #[.pointer (some ⟨g, 0, none⟩), .int .i64 l.length]).run Tryz.prog w.drew = .ok (.string ⟨l.toArray⟩) (w.drew.freeze ⟨g, 0, none⟩ l.length) := by
  refine Lib.run_unsafeString_row w.drew 144 3 9 5 Tryz.underlying144 (by kernel_rfl) g cur.size (by have hg' : w.drew.heap[g]? = some (.cells cur 5 (0, 0)) := hg; simp [World.shape?, hg']) l h0 (by omega) (by unfold maxLen at hcm; omega) ?_
  intro j x hx
  have := hown.cells (g := g) rfl j (.int .u8 x.toNat) (by simp [Lib.byteCells, hx])
  exact this
 have hrow : bufOf c w = some g := by simp [bufOf, hbk, Value.ownBlock]
 go_enter Tryz.func25, Tryz.ntmps25
 go_wp2
 go_region
 all_goals (go_wp2; go_ret; refine ⟨rfl, ?_⟩; rw [hrow]; exact grown_freeze w g _)
structure Hid (W0 : Base) (c : Nat) (W : Base) (S : ByteArray) : Prop where
 size : W0.w.heap.size ≤ W.w.heap.size
 os : W.w.os = W0.w.os
 tape : W.w.tape = W0.w.tape
 output : W.w.output = W0.w.output
 old : ∀ k, W0.old k → W.old k ∧ W.w.heap[k]? = W0.w.heap[k]?
 f0 : ∀ k ob, W.f0 k = some ob → W0.f0 k = some ob ∨ ¬ W0.old k
 cont : Bld c (.pointer none) (Lib.strCells S) W.w ∨ Bld c (.pointer (some ⟨c, 0, none⟩)) (Lib.strCells S) W.w
 mine : ∀ k, k = c ∨ bufOf c W.w = some k → W.old k ∧ ¬ W0.old k ∧ W.f0 k = none
structure Lnk (W0 W : Base) : Prop where
 size : W0.w.heap.size ≤ W.w.heap.size
 os : W.w.os = W0.w.os
 tape : W.w.tape = W0.w.tape
 output : W.w.output = W0.w.output
 old : ∀ k, W0.old k → W.old k ∧ W.w.heap[k]? = W0.w.heap[k]?
 f0 : ∀ k ob, W.f0 k = some ob → W0.f0 k = some ob ∨ ¬ W0.old k
theorem Hid.lnk {W0 W : Base} {c : Nat} {S : ByteArray} (h : Hid W0 c W S) : Lnk W0 W := ⟨h.size, h.os, h.tape, h.output, h.old, h.f0⟩
def HidO (W0 : Base) (c : Nat) (W : Base) (g : Option ByteArray) : Prop :=
 match g with
 | some S => Hid W0 c W S
 | none => Lnk W0 W
theorem HidO.lnk {W0 W : Base} {c : Nat} {g : Option ByteArray} (h : HidO W0 c W g) : Lnk W0 W := by
 cases g with
 | none => exact h
 | some S => exact Hid.lnk h
theorem Bld.at_row {c : Nat} {p : Value} {bs : List Value} {w w' : World} (h : Bld c p bs w) (hc : w'.heap[c]? = w.heap[c]?) (hr : ∀ k, bufOf c w = some k → w'.heap[k]? = w.heap[k]?) : Bld c p bs w' ∧ bufOf c w' = bufOf c w := by
 obtain ⟨T, hT, hB, v, hb, hown, hne⟩ := h
 have hrow : bufOf c w = v.ownBlock := by simp [bufOf, hb]
 refine ⟨⟨T, hT, hB, v, by rw [hc]; exact hb, ⟨hown.1, ?_⟩, hne⟩, by unfold bufOf; rw [hc]⟩
 rcases hown.2 with h | ⟨g, cap, cur, rfl, a2, a3, a4⟩
 ·exact .inl h
 ·exact .inr ⟨g, cap, cur, rfl, a2, by rw [hr g (by rw [hrow]; rfl)]; exact a3, a4⟩
theorem Bld.row_lt {c : Nat} {p : Value} {bs : List Value} {w : World} (h : Bld c p bs w) {k : Nat} (hk : bufOf c w = some k) : k < w.heap.size := by
 obtain ⟨T, hT, hB, v, hb, hown, hne⟩ := h
 have hrow : bufOf c w = v.ownBlock := by simp [bufOf, hb]
 rcases hown.2 with ⟨rfl, _⟩ | ⟨g, cap, cur, rfl, a2, a3, a4⟩
 ·rw [hrow] at hk; cases hk
 ·rw [hrow] at hk
  cases hk
  rcases Nat.lt_or_ge g w.heap.size with h' | h'
  ·exact h'
  ·rw [Array.getElem?_eq_none h'] at a3; cases a3
theorem Hid.now {W0 W : Base} {c : Nat} {S : ByteArray} (h : Hid W0 c W S) {w : World} (hs : Still W w) :
  (Bld c (.pointer none) (Lib.strCells S) w ∨ Bld c (.pointer (some ⟨c, 0, none⟩)) (Lib.strCells S) w) ∧ bufOf c w = bufOf c W.w := by
 have hc := hs.block c (h.mine c (.inl rfl)).1
 have hr : ∀ k, bufOf c W.w = some k → w.heap[k]? = W.w.heap[k]? := fun k hk => hs.block k (h.mine k (.inr hk)).1
 rcases h.cont with q | q
 ·exact ⟨.inl (q.at_row hc hr).1, (q.at_row hc hr).2⟩
 ·exact ⟨.inr (q.at_row hc hr).1, (q.at_row hc hr).2⟩
def allWr (kb : Nat) (hp : Tr AObj) : Nat → Bool
 | 0 => true
 | n + 1 => allWr kb hp n && match hp.get n with
  | some o => o.wr || n.beq kb
  | none => true
theorem allWr_get {kb : Nat} {hp : Tr AObj} : ∀ {n : Nat}, allWr kb hp n = true → ∀ b o, b < n → hp.get b = some o → o.wr = true ∨ b = kb
 | 0, _, b, o, hb, _ => by omega
 | n + 1, h, b, o, hb, ho => by
  simp only [allWr, Bool.and_eq_true] at h
  by_cases e : b = n
  ·subst e
   rw [ho] at h
   have := h.2
   simp only [Bool.or_eq_true] at this
   exact this.imp id Nat.eq_of_beq_eq_true
  ·exact allWr_get h.1 b o (by omega) ho
def none0 (hp : Tr AObj) (kb : Nat) : Bool :=
 match hp.get kb with
 | some (.cells [] false) => true
 | none => true
 | _ => false
theorem wr_old {ρ : Place} {O : Nat → Prop} {c s z : Nat} {o : AObj} {ob : Obj} (h : ORel ρ O c s z o ob) (hw : o.wr = true) : ¬ O c := by
 cases o with
 | cells l wr =>
  cases ob <;> try exact h.elim
  exact h.2.2.2.2 hw
 | iter st p =>
  cases ob <;> try exact h.elim
  exact h.2.2.1
 | map es ck =>
  cases ob <;> try exact h.elim
  exact h.2.1
 | miter m si la se =>
  cases ob <;> try exact h.elim
  exact h.2.2.2.1
theorem ORel.other {ρ : Place} {O O' : Nat → Prop} {c s z : Nat} {o : AObj} {ob : Obj} (h : ORel ρ O c s z o ob) (hw : o.wr = true) (hO : ¬ O' c) : ORel ρ O' c s z o ob := by
 cases o with
 | cells l wr =>
  cases ob <;> try exact h.elim
  exact ⟨h.1, h.2.1, h.2.2.1, h.2.2.2.1, fun _ => hO⟩
 | iter st p =>
  cases ob <;> try exact h.elim
  exact ⟨h.1, h.2.1, hO, h.2.2.2⟩
 | map es ck =>
  cases ob <;> try exact h.elim
  exact ⟨h.1, hO, h.2.2⟩
 | miter m si la se =>
  cases ob <;> try exact h.elim
  exact ⟨h.1, h.2.1, h.2.2.1, hO, h.2.2.2.2⟩
theorem strCells_append (a b : ByteArray) : Lib.strCells (a ++ b) = Lib.strCells a ++ Lib.strCells b := by
 simp [Lib.strCells, ByteArray.data_append]
def bldCall (kb : Nat) (next : GCall (Option ByteArray)) : GCall (Option ByteArray) := fun f args hp nx g K =>
 bif f.beq 55 then match args, g with
  | [.pointer (some ⟨b, o, none⟩), .string s], some g => bif b.beq kb && (o.beq 0 && (allWr kb hp nx && none0 hp kb)) then g.size + s.size ≤ 140737488355328 ∧ K (.ret (.tuple #[.int .i64 s.size, .nilIface])) hp nx (some (g ++ s)) else False
  | _, _ => False
 else bif f.beq 25 then match args, g with
  | [.pointer (some ⟨b, o, none⟩)], some g => bif b.beq kb && (o.beq 0 && (allWr kb hp nx && none0 hp kb)) then 0 < g.size ∧ K (.ret (.string g)) hp nx none else False
  | _, _ => False
 else next f args hp nx g K
theorem bldCall_ok {W0 : Base} {c kb : Nat} {next : GCall (Option ByteArray)} (hn : GCallOk Tryz.prog (HidO W0 c) kb (c, 0, 2) next) : GCallOk Tryz.prog (HidO W0 c) kb (c, 0, 2) (bldCall kb next) := by
 intro f args hp nx g0 K h W ρ w args' hI0 hkx hrel hargs
 unfold bldCall at h
 cases hf : f.beq 55 with
 | false =>
  rw [hf, cond_false] at h
  cases hf2 : f.beq 25 with
  | false => rw [hf2] at h; exact hn f args hp nx g0 K h W ρ w args' hI0 hkx hrel hargs
  | true =>
   rw [hf2, cond_true] at h
   have hf' := Nat.eq_of_beq_eq_true hf2
   subst hf'
   split at h
   case h_2 => exact h.elim
   rename_i b o g
   have hI : Hid W0 c W g := hI0
   cases hc : b.beq kb && (o.beq 0 && (allWr kb hp nx && none0 hp kb)) with
   | false => rw [hc] at h; exact h.elim
   | true =>
    rw [hc, cond_true] at h
    simp only [Bool.and_eq_true] at hc
    obtain ⟨hb, ho, hwr, hno⟩ := hc
    have hb := Nat.eq_of_beq_eq_true hb
    have ho := Nat.eq_of_beq_eq_true ho
    subst hb ho
    obtain ⟨hpos, hK⟩ := h
    cases hargs with
    | cons ha hrest =>
     cases hrest
     cases ha with
     | ptr hpl =>
      have hpl' := hpl
      rw [hkx] at hpl'
      cases hpl'
      obtain ⟨hcont, hrow⟩ := hI.now hrel.below
      have hne : g.data.toList ≠ [] := fun e => by
       have h1 : g.data.toList.length = g.size := by rw [Array.length_toList]; rfl
       rw [e] at h1
       simp at h1
       omega
      refine (stringOf c g.data.toList w hcont hne).mono ?_
      rintro e w' ⟨rfl, hg⟩
      have hmine := hI.mine
      rw [← hrow] at hmine
      have hgd : (⟨g.data.toList.toArray⟩ : ByteArray) = g := rfl
      have lt_of : ∀ {k : Nat} {ob : Obj}, w.heap[k]? = some ob → k < w.heap.size := fun {k ob} hk => by
       rcases Nat.lt_or_ge k w.heap.size with h' | h'
       ·exact h'
       ·rw [Array.getElem?_eq_none h'] at hk; cases hk
      have unch : ∀ k, k < w.heap.size → bufOf c w ≠ some k → w'.heap[k]? = w.heap[k]? := fun k h1 h3 => hg.block k h1 fun e => h3 e.symm
      have Wlt : ∀ k, W.old k → k < w.heap.size := fun k hk => Nat.lt_of_lt_of_le hk.1 hrel.below.size
      have hnot : ∀ k, ¬ W.old k → ¬ W0.old k := fun k hk h' => hk (hI.old k h').1
      have hcw : c < w.heap.size := (hrel.dom _ _ hkx).2
      have hcr : bufOf c w ≠ some c := by
       rcases hcont with ⟨_, _, _, v, hbk, _, hne⟩ | ⟨_, _, _, v, hbk, _, hne⟩
       ·simpa [bufOf, hbk] using hne
       ·simpa [bufOf, hbk] using hne
      refine ⟨_, hp, nx, none, ρ, ⟨W0.w, W0.mu, W0.f0, W.ds⟩, hK, ⟨_, rfl, .string _⟩, ⟨?_, rfl⟩, ⟨fun b x hb => ⟨(hrel.dom b x hb).1, Nat.lt_of_lt_of_le (hrel.dom b x hb).2 hg.size⟩, fun b o c' s' z ho1 hb1 => ?_, hrel.inj, hrel.fresh, ⟨?_, ?_, ?_, ?_, fun k hk => ?_⟩, fun k ob hk => ?_, hrel.apart, fun k ob hk => ?_⟩, .refl _ _ _⟩
      ·exact ⟨Nat.le_refl _, rfl, rfl, rfl, fun k hk => ⟨hk, rfl⟩, fun k ob hk => .inl hk⟩
      ·obtain ⟨ob, e1, e2⟩ := hrel.obj b o c' s' z ho1 hb1
       rcases allWr_get hwr b o (hrel.dom b _ hb1).1 ho1 with hw | hw
       ·have hno' := wr_old e2 hw
        exact ⟨ob, by rw [unch c' (lt_of e1) fun e => hno' (hmine c' (.inr e)).1]; exact e1, e2.other hw (hnot c' hno')⟩
       ·subst hw
        have hb' : ρ.pl b = some (c', s', z) := hb1
        rw [hkx] at hb'
        cases hb'
        have ho' : o = .cells [] false := by
         unfold none0 at hno
         rw [ho1] at hno
         split at hno
         ·rename_i q; cases q; rfl
         ·rename_i q; cases q
         ·cases hno
        subst ho'
        refine ⟨ob, by rw [unch _ hcw hcr]; exact e1, ?_⟩
        cases ob <;> try exact e2.elim
        exact ⟨e2.1, e2.2.1, e2.2.2.1, e2.2.2.2.1, fun h' => by cases h'⟩
      ·exact hg.os.trans (hrel.below.os.trans hI.os)
      ·exact hg.tape.trans (hrel.below.tape.trans hI.tape)
      ·exact hg.output.trans (hrel.below.output.trans hI.output)
      ·exact Nat.le_trans hI.size (Nat.le_trans hrel.below.size hg.size)
      ·have h1 := hI.old k hk
       show w'.heap[k]? = W0.w.heap[k]?
       rw [unch k (Wlt k h1.1) fun e => (hmine k (.inr e)).2.1 hk, hrel.below.block k h1.1]
       exact h1.2
      ·have e1 := hrel.frz k ob hk
       rw [unch k (lt_of e1) fun e => ?_]
       ·exact e1
       ·rcases hrel.frn k ob hk with q | q
        ·rw [(hmine k (.inr e)).2.2] at q; cases q
        ·exact q (hmine k (.inr e)).1
      ·rcases hrel.frn k ob hk with q | q
       ·exact hI.f0 k ob q
       ·exact .inr (hnot k q)
 | true =>
  rw [hf, cond_true] at h
  have hf' := Nat.eq_of_beq_eq_true hf
  subst hf'
  split at h
  case h_2 => exact h.elim
  rename_i b o s g
  have hI : Hid W0 c W g := hI0
  cases hc : b.beq kb && (o.beq 0 && (allWr kb hp nx && none0 hp kb)) with
  | false => rw [hc] at h; exact h.elim
  | true =>
   rw [hc, cond_true] at h
   simp only [Bool.and_eq_true] at hc
   obtain ⟨hb, ho, hwr, hno⟩ := hc
   have hb := Nat.eq_of_beq_eq_true hb
   have ho := Nat.eq_of_beq_eq_true ho
   subst hb ho
   obtain ⟨hlen, hK⟩ := h
   cases hargs with
   | cons ha hrest =>
    cases hrest with
    | cons hs hrest =>
     cases hrest
     cases hs
     cases ha with
     | ptr hpl =>
      have hpl' := hpl
      rw [hkx] at hpl'
      cases hpl'
      obtain ⟨hcont, hrow⟩ := hI.now hrel.below
      have hl : (Lib.strCells g).length + s.size ≤ 140737488355328 := by rw [Lib.strCells_length]; exact hlen
      refine (writeString c (Lib.strCells g) s w hcont hl).mono ?_
      rintro e w' ⟨rfl, hB, ⟨f1, f2, f3, f4⟩, f5, f6⟩
      have hcw : c < w.heap.size := (hrel.dom _ _ hkx).2
      have hmine := hI.mine
      rw [← hrow] at hmine
      have unch : ∀ k, k < w.heap.size → k ≠ c → bufOf c w ≠ some k → w'.heap[k]? = w.heap[k]? := fun k h1 h2 h3 => f5 k h1 h2 fun e => h3 e.symm
      have free : ∀ k, ¬ W.old k → k ≠ c ∧ bufOf c w ≠ some k := fun k hk => ⟨fun e => hk (hmine k (.inl e)).1, fun e => hk (hmine k (.inr e)).1⟩
      have frno : ∀ k, k = c ∨ bufOf c w = some k → ρ.fr k = none := fun k hk => by
       cases hfr : ρ.fr k with
       | none => rfl
       | some ob =>
        rcases hrel.frn k ob hfr with q | q
        ·rw [(hmine k hk).2.2] at q; cases q
        ·exact (q (hmine k hk).1).elim
      have lt_of : ∀ {k : Nat} {ob : Obj}, w.heap[k]? = some ob → k < w.heap.size := fun {k ob} hk => by
       rcases Nat.lt_or_ge k w.heap.size with h' | h'
       ·exact h'
       ·rw [Array.getElem?_eq_none h'] at hk; cases hk
      have frnew : ∀ k, bufOf c w' = some k → ρ.fr k = none := fun k hk => by
       rcases f6 k hk with q | q
       ·exact frno k (.inr q)
       ·cases hfr : ρ.fr k with
        | none => rfl
        | some ob => have := lt_of (hrel.frz k ob hfr); omega
      have hold : ∀ k, (⟨w', fun k => ¬ (W.old k ∨ k = c ∨ bufOf c w' = some k), ρ.fr, W.ds⟩ : Base).old k ↔ k < w'.heap.size ∧ (W.old k ∨ k = c ∨ bufOf c w' = some k) := fun k => by
       unfold Base.old
       dsimp only
       rw [Classical.not_not]
      have Wlt : ∀ k, W.old k → k < w.heap.size := fun k hk => Nat.lt_of_lt_of_le hk.1 hrel.below.size
      refine ⟨_, hp, nx, some (g ++ s), ρ, ⟨w', fun k => ¬ (W.old k ∨ k = c ∨ bufOf c w' = some k), ρ.fr, W.ds⟩, hK, ⟨_, rfl, .tuple rfl fun i v v' h1 h2 => ?_⟩, ⟨⟨?_, ?_, ?_, ?_, fun k hk => ⟨?_, ?_⟩, fun k ob hk => ?_, .inr ?_, fun k hk => ⟨?_, ?_, ?_⟩⟩, rfl⟩, ⟨fun b x hb => ⟨(hrel.dom b x hb).1, Nat.lt_of_lt_of_le (hrel.dom b x hb).2 f4⟩, fun b o c' s' z ho1 hb1 => ?_, hrel.inj, hrel.fresh, ⟨rfl, rfl, rfl, Nat.le_refl _, fun _ _ => rfl⟩, fun k ob hk => ?_, hrel.apart, fun k ob hk => .inl hk⟩, .refl _ _ _⟩
      ·rcases i with _ | _ | i
       ·cases h1; cases h2; exact .int _ _
       ·cases h1; cases h2; exact .nilIface
       ·simp at h1
      ·exact Nat.le_trans hI.size (Nat.le_trans hrel.below.size f4)
      ·exact f1.trans (hrel.below.os.trans hI.os)
      ·exact f2.trans (hrel.below.tape.trans hI.tape)
      ·exact f3.trans (hrel.below.output.trans hI.output)
      ·exact (hold k).2 ⟨Nat.lt_of_lt_of_le (Wlt k (hI.old k hk).1) f4, .inl (hI.old k hk).1⟩
      ·have h1 := hI.old k hk
       have h2 : k ≠ c := fun e => (hmine k (.inl e)).2.1 hk
       have h3 : bufOf c w ≠ some k := fun e => (hmine k (.inr e)).2.1 hk
       show w'.heap[k]? = _
       rw [unch k (Wlt k h1.1) h2 h3, hrel.below.block k h1.1]
       exact h1.2
      ·rcases hrel.frn k ob hk with q | q
       ·exact hI.f0 k ob q
       ·exact .inr fun h' => q (hI.old k h').1
      ·rw [strCells_append]; exact hB
      ·rcases hk with rfl | hk
       ·exact (hold _).2 ⟨Nat.lt_of_lt_of_le hcw f4, .inr (.inl rfl)⟩
       ·exact (hold _).2 ⟨hB.row_lt hk, .inr (.inr hk)⟩
      ·rcases hk with rfl | hk
       ·exact (hmine _ (.inl rfl)).2.1
       ·rcases f6 k hk with q | q
        ·exact (hmine _ (.inr q)).2.1
        ·intro h'
         have := h'.1
         have := hI.size
         have := hrel.below.size
         omega
      ·rcases hk with rfl | hk
       ·exact frno _ (.inl rfl)
       ·exact frnew k hk
      ·obtain ⟨ob, e1, e2⟩ := hrel.obj b o c' s' z ho1 hb1
       rcases allWr_get hwr b o (hrel.dom b _ hb1).1 ho1 with hw | hw
       ·have hno' := wr_old e2 hw
        have h2 := free c' hno'
        refine ⟨ob, by rw [unch c' (lt_of e1) h2.1 h2.2]; exact e1, e2.other hw fun h' => ?_⟩
        rcases ((hold c').1 h').2 with q | q | q
        ·exact hno' q
        ·exact h2.1 q
        ·rcases f6 c' q with q | q
         ·exact h2.2 q
         ·have := lt_of e1; omega
       ·subst hw
        have hb' : ρ.pl b = some (c', s', z) := hb1
        rw [hkx] at hb'
        cases hb'
        have ho' : o = .cells [] false := by
         unfold none0 at hno
         rw [ho1] at hno
         split at hno
         ·rename_i q; cases q; rfl
         ·rename_i q; cases q
         ·cases hno
        subst ho'
        obtain ⟨_, _, _, v, hbk, _⟩ := hB
        exact ⟨_, hbk, rfl, Nat.zero_le _, fun o _ h' => by simp at h', fun i v hv => by simp at hv, fun h' => by cases h'⟩
      ·have e1 := hrel.frz k ob hk
       have h2 : k ≠ c := fun e => by rw [frno k (.inl e)] at hk; cases hk
       have h3 : bufOf c w ≠ some k := fun e => by rw [frno k (.inr e)] at hk; cases hk
       rw [unch k (lt_of e1) h2 h3]
       exact e1
end Go.Proofs.YtojlhapbngcjkaaGreatDoor
noncomputable section
namespace Go.Proofs.YtojlhapbngcjkaaGreatDoor
open Go Go.RowKit
variable {γ : Type}
def inlG (P : Program) (inl : List FuncId) (next : GCall γ) : Nat → GCall γ
 | 0 => next
 | k + 1 => fun f args hp nx g K => bif inl.contains f then match P.funcs[f]? with
   | some fn => match fn.body with
    | some c => grun P (inlG P inl next k) (slotsN args fn) [] [] (fun _ _ _ _ => False) (fun st g' => match ares P st.hp st.tm fn with | some v => K (.ret v) st.hp st.nx g' | none => False) (fun v st g' => K (.pan v) st.hp st.nx g') 1000 (.code c) [] ⟨putArgs 0 args .e, hp, nx⟩ g
    | none => False
   | none => False
  else next f args hp nx g K
theorem inlG_ok {P : Program} {I : Base → γ → Prop} {kb : Nat} {kx : Nat × Nat × Nat} (hm : P.follows .mixedOrders = true) (hD : ∀ W D g, I W g → I ⟨W.w, W.mu, W.f0, D⟩ g) {inl : List FuncId} {next : GCall γ} (hn : GCallOk P I kb kx next) : ∀ k, GCallOk P I kb kx (inlG P inl next k)
 | 0 => hn
 | k + 1 => by
  intro f args hp nx g K h W ρ w args' hI hkx hrel hargs
  unfold inlG at h
  cases hi : inl.contains f with
  | false => rw [hi] at h; exact hn f args hp nx g K h W ρ w args' hI hkx hrel hargs
  | true =>
   rw [hi, cond_true] at h
   split at h
   case h_2 => exact h.elim
   rename_i fn hf
   split at h
   case h_2 => exact h.elim
   rename_i c hc
   refine calls_of_wp hf hc ?_
   have fin : ∀ st g', (match ares P st.hp st.tm fn with | some v => K (.ret v) st.hp st.nx g' | none => False) → ∀ W1 ρ' a w', I W1 g' ∧ W1.ds = W.bare.ds → SRel ρ' W1 (slotsN args fn) st a w' → Step ρ ρ' hp st.hp nx st.nx →
     a.defers = [] ∧ ∃ v', (results fn a.tmps).run P w' = .ok v' w' ∧ ∃ r hp' nx' g' ρ' W', K r hp' nx' g' ∧ r.Ends ρ' (Ending.returned v') ∧ (I W' g' ∧ W'.ds = W.ds) ∧ Rel ρ' W' hp' nx' w' ∧ Step ρ ρ' hp hp' nx nx' := by
    intro st g' hst W1 ρ' a w' hI1 hs hr
    split at hst
    case h_2 => exact hst.elim
    rename_i v hv
    obtain ⟨v', r1, r2⟩ := ares_sound hs.rel hs.frame hv
    exact ⟨hs.frame.defers.trans hI1.2, v', r1, .ret v, st.hp, st.nx, g', ρ', ⟨W1.w, W1.mu, W1.f0, W.ds⟩, hst, ⟨v', rfl, r2⟩, ⟨hD W1 W.ds g' hI1.1, rfl⟩, Rel.withDs _ hs.rel, hr⟩
   exact grun_sound (W0 := W.bare) (R := fun ρ' st => Step ρ ρ' hp st.hp nx st.nx) (inlG_ok hm hD hn k) hm (fun _ _ _ _ h k => h.trans k)
    (fun b k st g h => (vloop_false h).elim) (fun st g' hst W1 ρ' a w' hI1 _ hs hr => ⟨fin st g' hst W1 ρ' a w' hI1 hs hr, fin st g' hst W1 ρ' a w' hI1 hs hr⟩)
    (fun v st g' hst W1 ρ' v' a w' hI1 hv hs hr => ⟨hs.frame.defers.trans hI1.2, .pan v, st.hp, st.nx, g', ρ', ⟨W1.w, W1.mu, W1.f0, W.ds⟩, hst, ⟨v', rfl, hv⟩, ⟨hD W1 W.ds g' hI1.1, rfl⟩, Rel.withDs _ hs.rel, hr⟩) 1000 (.code c) [] _ g h W.bare ρ _ w ⟨hD W [] g hI, rfl⟩ hkx (start_rel rfl hrel.bare hargs fn) (.refl _ _ _)
end Go.Proofs.YtojlhapbngcjkaaGreatDoor

noncomputable section
namespace Go.Proofs.YtojlhapbngcjkaaGreatDoor
open Go Go.RowKit
set_option maxRecDepth 100000
set_option maxHeartbeats 8000000
theorem Lnk.back {W0 W : Base} (h : Lnk W0 W) {ρ : Place} {hp : Tr AObj} {nx : Nat} {w : World} (hr : Rel ρ W hp nx w) : Rel ρ W0 hp nx w := by
 have hnot : ∀ k, ¬ W.old k → ¬ W0.old k := fun k hk h' => hk (h.old k h').1
 refine ⟨hr.dom, fun b o c s z ho hb => ?_, hr.inj, hr.fresh, ⟨hr.below.os.trans h.os, hr.below.tape.trans h.tape, hr.below.output.trans h.output, Nat.le_trans h.size hr.below.size, fun k hk => (hr.below.block k (h.old k hk).1).trans (h.old k hk).2⟩, hr.frz, hr.apart, fun k ob hk => ?_⟩
 ·obtain ⟨ob, e1, e2⟩ := hr.obj b o c s z ho hb
  refine ⟨ob, e1, ?_⟩
  cases o with
  | cells l wr =>
   cases ob <;> try exact e2.elim
   exact ⟨e2.1, e2.2.1, e2.2.2.1, e2.2.2.2.1, fun hw => hnot c (e2.2.2.2.2 hw)⟩
  | iter st p =>
   cases ob <;> try exact e2.elim
   exact ⟨e2.1, e2.2.1, hnot c e2.2.2.1, e2.2.2.2⟩
  | map es ck =>
   cases ob <;> try exact e2.elim
   exact ⟨e2.1, hnot c e2.2.1, e2.2.2⟩
  | miter m si la se =>
   cases ob <;> try exact e2.elim
   exact ⟨e2.1, e2.2.1, e2.2.2.1, hnot c e2.2.2.2.1, e2.2.2.2.2⟩
 ·rcases hr.frn k ob hk with q | q
  ·exact h.f0 k ob q
  ·exact .inr (hnot k q)
def isAllocW (ops : Array Oper) (draw : Bool) : Option Tmp :=
 match draw, ops.toList with
 | false, [o] => match o.op, o.dst, o.guard with
  | .alloc t, some d, none => bif t.beq 80 || t.beq 78 then some d else none
  | _, _, _ => none
 | _, _ => none
theorem isAllocW_eq {ops : Array Oper} {draw : Bool} {d : Tmp} (h : isAllocW ops draw = some d) : ∃ o T, IsBT T ∧ draw = false ∧ ops = #[o] ∧ o.op = .alloc T ∧ o.dst = some d ∧ o.guard = none := by
 unfold isAllocW at h
 split at h
 case h_2 => cases h
 rename_i o ho
 split at h
 case h_2 => cases h
 rename_i t d' h1 h2 h3
 cases ht : (t.beq 80 || t.beq 78) with
 | false => rw [ht] at h; cases h
 | true =>
  rw [ht] at h
  cases h
  have hT : IsBT t := by
   rcases (Bool.or_eq_true _ _).mp ht with h | h
   ·exact .inl (Nat.eq_of_beq_eq_true h)
   ·exact .inr (Nat.eq_of_beq_eq_true h)
  exact ⟨o, t, hT, rfl, by apply Array.ext'; simpa using ho, h1, h2, h3⟩
theorem zero_writer {T : TypeId} (hT : IsBT T) : (pureRun Tryz.prog (zeroValue T)).map Value.cells = some #[.pointer none, .slice none 0 0] := by
 rcases hT with rfl | rfl <;> kernel_rfl
theorem alloc_writer {T : TypeId} (hT : IsBT T) (w : World) : (Instr.alloc T true (.tuple #[])).run Tryz.prog w = .ok (.pointer (some ⟨w.heap.size, 0, none⟩)) (pushed w (.cells #[.pointer none, .slice none 0 0] T)) := by
 obtain ⟨z, hz, hc⟩ := Option.map_eq_some_iff.1 (zero_writer hT)
 unfold Instr.alloc
 rw [bind_run hz]
 show ((newRow T z.cells) >>= fun a => pure (Value.pointer (some a))).run Tryz.prog w = _
 rw [hc]
 rfl
theorem start_hid {T : TypeId} (hT : IsBT T) {ρ : Place} {W : Base} {hp : Tr AObj} {nx : Nat} {w : World} (h : Rel ρ W hp nx w) :
  HidO W w.heap.size ⟨pushed w (.cells #[.pointer none, .slice none 0 0] T), fun k => ¬ (W.old k ∨ k = w.heap.size), ρ.fr, W.ds⟩ (some .empty) ∧
  Rel (ρ.set nx (w.heap.size, 0, 2)) ⟨pushed w (.cells #[.pointer none, .slice none 0 0] T), fun k => ¬ (W.old k ∨ k = w.heap.size), ρ.fr, W.ds⟩ (hp.put nx (some (.cells [] false))) (nx + 1) (pushed w (.cells #[.pointer none, .slice none 0 0] T)) := by
 have hsz : (pushed w (.cells #[.pointer none, .slice none 0 0] T)).heap.size = w.heap.size + 1 := by show (w.heap.push _).size = _; rw [Array.size_push]
 have hat := pushed_at w (.cells #[.pointer none, .slice none 0 0] T)
 have Wlt : ∀ k, W.old k → k < w.heap.size := fun k hk => Nat.lt_of_lt_of_le hk.1 h.below.size
 have hold : ∀ k, (⟨pushed w (.cells #[.pointer none, .slice none 0 0] T), fun k => ¬ (W.old k ∨ k = w.heap.size), ρ.fr, W.ds⟩ : Base).old k ↔ k < w.heap.size + 1 ∧ (W.old k ∨ k = w.heap.size) := fun k => by
  unfold Base.old
  dsimp only
  rw [Classical.not_not, hsz]
 have hfr : ρ.fr w.heap.size = none := by
  cases hf : ρ.fr w.heap.size with
  | none => rfl
  | some ob => have := h.frz _ _ hf; simp at this
 have hnw : ¬ W.old w.heap.size := fun h' => by have := Wlt _ h'; omega
 constructor
 ·refine ⟨?_, h.below.os, h.below.tape, h.below.output, fun k hk => ⟨(hold k).2 ⟨by have := Wlt k hk; omega, .inl hk⟩, ?_⟩, fun k ob hk => h.frn k ob hk, .inl ⟨T, hT, Nat.zero_le _, _, hat, World.ownsRow_nil _ _ _ _, by simp [Value.ownBlock]⟩, fun k hk => ?_⟩
  ·show _ ≤ (pushed w _).heap.size
   rw [hsz]
   have := h.below.size
   omega
  ·show (pushed w _).heap[k]? = _
   rw [pushed_lt w _ (Wlt k hk)]
   exact h.below.block k hk
  ·rcases hk with rfl | hk
   ·exact ⟨(hold _).2 ⟨by omega, .inr rfl⟩, hnw, hfr⟩
   ·have hk' : bufOf w.heap.size (pushed w (.cells #[.pointer none, .slice none 0 0] T)) = some k := hk
    unfold bufOf at hk'
    rw [hat] at hk'
    cases hk'
 ·have hr := (h.reserve (.cells [] false)).realize (b := nx) (o := .cells [] false) (ob := .cells #[.pointer none, .slice none 0 0] T) (z := 2) (Nat.lt_succ_self _) h.dom_none (by rw [Tr.get_put, if_pos rfl]) ⟨rfl, by decide, fun o _ => by simp, fun i v hv => by simp at hv, fun h' => by cases h'⟩
  refine ⟨hr.dom, fun b o c s z ho hb => ?_, hr.inj, hr.fresh, ⟨rfl, rfl, rfl, Nat.le_refl _, fun _ _ => rfl⟩, hr.frz, hr.apart, fun k ob hk => .inl hk⟩
  obtain ⟨ob, e1, e2⟩ := hr.obj b o c s z ho hb
  refine ⟨ob, e1, ?_⟩
  by_cases e : b = nx
  ·subst e
   rw [Tr.get_put, if_pos rfl] at ho
   cases ho
   cases ob <;> try exact e2.elim
   exact ⟨e2.1, e2.2.1, e2.2.2.1, e2.2.2.2.1, fun h' => by cases h'⟩
  ·have hb' : ρ b = some (c, s, z) := by
    rw [Place.set_other e] at hb
    exact hb
   have hc := (h.dom b _ hb').2
   cases o with
   | cells l wr =>
    cases ob <;> try exact e2.elim
    exact ⟨e2.1, e2.2.1, e2.2.2.1, e2.2.2.2.1, fun hw h' => ((hold c).1 h').2.elim (e2.2.2.2.2 hw) (by intro e; dsimp only at hc; omega)⟩
   | iter st p =>
    cases ob <;> try exact e2.elim
    exact ⟨e2.1, e2.2.1, fun h' => ((hold c).1 h').2.elim e2.2.2.1 (by intro e; dsimp only at hc; omega), e2.2.2.2⟩
   | map es ck =>
    cases ob <;> try exact e2.elim
    exact ⟨e2.1, fun h' => ((hold c).1 h').2.elim e2.2.1 (by intro e; dsimp only at hc; omega), e2.2.2⟩
   | miter m si la se =>
    cases ob <;> try exact e2.elim
    exact ⟨e2.1, e2.2.1, e2.2.2.1, fun h' => ((hold c).1 h').2.elim e2.2.2.2.1 (by intro e; dsimp only at hc; omega), e2.2.2.2.2⟩
def onNone (g : Option ByteArray) (X : Prop) : Prop := match g with | none => X | some _ => False
theorem onNone_eq {g : Option ByteArray} {X : Prop} (h : onNone g X) : g = none ∧ X := by
 cases g with
 | none => exact ⟨rfl, h⟩
 | some s => exact h.elim
def wrun (P : Program) (pc : PCall) (mk : Nat → GCall (Option ByteArray)) (n : Nat) (Fin : AS → Prop) (X : Value → AS → Prop) : Nat → VM → List Fr → AS → Prop
 | 0, _, _, _ => False
 | f + 1, .normal, k, st => match k with
  | [] => Fin st
  | .seq y :: k' => wrun P pc mk n Fin X f (.code y) k' st
  | .block _ :: k' => wrun P pc mk n Fin X f .normal k' st
  | .loop b :: k' => wrun P pc mk n Fin X f (.code b) (.loop b :: k') st
 | f + 1, .exit id, k, st => match k with
  | [] => False
  | .block j :: k' => bif id.beq j then wrun P pc mk n Fin X f .normal k' st else wrun P pc mk n Fin X f (.exit id) k' st
  | _ :: k' => wrun P pc mk n Fin X f (.exit id) k' st
 | _ + 1, .ret, _, st => Fin st
 | f + 1, .code c, k, st => match c with
  | .skip | .label _ => wrun P pc mk n Fin X f .normal k st
  | .region _ ops draw => match isAllocW ops draw with
   | some d => match aput n st.tm (some d) (.pointer (some ⟨st.nx, 0, none⟩)) with
    | some tm => grun P (mk st.nx) n [] [] (fun _ _ _ _ => False) (fun st g => onNone g (Fin st)) (fun v st g => onNone g (X v st)) 3000 .normal k ⟨tm, st.hp.put st.nx (some (.cells [] false)), st.nx + 1⟩ (some .empty)
    | none => False
   | none => vregionP P pc n ops draw st (fun st' => wrun P pc mk n Fin X f .normal k st') X
  | .seq x y => wrun P pc mk n Fin X f (.code x) (.seq y :: k) st
  | .cond c x y => match aev st.tm c with
   | some (.bool b) => pIf b (wrun P pc mk n Fin X f (.code x) k st) (wrun P pc mk n Fin X f (.code y) k st)
   | _ => False
  | .block id b => wrun P pc mk n Fin X f (.code b) (.block id :: k) st
  | .loop b => wrun P pc mk n Fin X f (.code b) (.loop b :: k) st
  | .exit id => wrun P pc mk n Fin X f (.exit id) k st
  | .ret => wrun P pc mk n Fin X f .ret k st
  | _ => False
theorem wrun_sound {pc : PCall} {mk : Nat → GCall (Option ByteArray)} {W : Base} {n : Nat} {Fin : AS → Prop} {X : Value → AS → Prop} {R : Place → AS → Prop} {Q : Exit → Act → World → Prop} (hcall : PCallOk Tryz.prog pc) (hmk : ∀ W0 c kb, GCallOk Tryz.prog (HidO W0 c) kb (c, 0, 2) (mk kb)) (hm : Tryz.prog.follows .mixedOrders = true)
  (hR : ∀ ρ st ρ' st', R ρ st → Step ρ ρ' st.hp st'.hp st.nx st'.nx → R ρ' st')
  (hF : ∀ st, Fin st → ∀ ρ a w, SRel ρ W n st a w → R ρ st → Q .normal a w ∧ Q .ret a w)
  (hX : ∀ v st, X v st → ∀ ρ v' a w, VR ρ v v' → SRel ρ W n st a w → R ρ st → Q (.panic [{ v := v', recovered := false }]) a w) :
  ∀ (f : Nat) (m : VM) (k : List Fr) (st : AS), wrun Tryz.prog pc mk n Fin X f m k st → ∀ ρ a w, SRel ρ W n st a w → R ρ st → (match m with
   | .code c => c.wp Tryz.prog (contQ Tryz.prog Q k) a w
   | .normal => contQ Tryz.prog Q k .normal a w
   | .exit id => contQ Tryz.prog Q k (.exit id) a w
   | .ret => contQ Tryz.prog Q k .ret a w) := by
 intro f
 induction f with
 | zero => intro m k st h; simp only [wrun] at h
 | succ f ih =>
  intro m k st h ρ a w hs hr
  cases m with
  | normal =>
   simp only [wrun] at h
   dsimp only
   cases k with
   | nil => exact (hF st h ρ a w hs hr).1
   | cons x k =>
    cases x with
    | seq y => exact ih (.code y) k st h ρ a w hs hr
    | block id => exact ih .normal k st h ρ a w hs hr
    | loop b =>
     exact loop_round (ih (.code b) (.loop b :: k) st h ρ a w hs hr)
  | exit id =>
   simp only [wrun] at h
   dsimp only
   cases k with
   | nil => exact h.elim
   | cons x k =>
    cases x with
    | seq y => exact ih (.exit id) k st h ρ a w hs hr
    | block j =>
     show Exit.inBlock j (contQ Tryz.prog Q k) (.exit id) a w
     simp only [Exit.inBlock]
     dsimp only at h
     cases hj : id.beq j with
     | true =>
      rw [hj] at h
      rw [if_pos (Nat.eq_of_beq_eq_true hj)]
      exact ih .normal k st h ρ a w hs hr
     | false =>
      rw [hj] at h
      rw [if_neg (fun e => by subst e; simp at hj)]
      exact ih (.exit id) k st h ρ a w hs hr
    | loop b => exact ih (.exit id) k st h ρ a w hs hr
  | ret =>
   simp only [wrun] at h
   exact contQ_ret (hF st h ρ a w hs hr).2
  | code c =>
   simp only [wrun] at h
   dsimp only
   cases c with
   | skip => exact wp_skip (ih .normal k st h ρ a w hs hr)
   | label l => exact wp_label (ih .normal k st h ρ a w hs hr)
   | region id ops draw =>
    dsimp only at h
    split at h
    ·rename_i d hd
     split at h
     case h_2 => exact h.elim
     rename_i tm htm
     obtain ⟨o, T, hT, rfl, rfl, ho, hdst, hgd⟩ := isAllocW_eq hd
     refine wp_region ?_
     show wpOps Tryz.prog #[o] _ [0] a w
     rw [wpOps_cons]
     unfold wpOp
     have e0 : (#[o])[0]? = some o := rfl
     simp only [e0]
     have hw : ∀ q, Region.wanted o q = true := fun q => by unfold Region.wanted; rw [hgd]
     rw [hw, if_pos rfl]
     refine .inl ?_
     obtain ⟨dst, op, type, pos, after, guard⟩ := o
     dsimp only at ho hdst hgd
     subst ho hdst hgd
     have hrun : (execOp a.eval ⟨some d, .alloc T, type, pos, after, none⟩).run Tryz.prog w = .ok (.value (.pointer (some ⟨w.heap.size, 0, none⟩))) (pushed w (.cells #[.pointer none, .slice none 0 0] T)) := value_run (alloc_writer hT w)
     unfold Oper.wp
     rw [hrun]
     show contQ Tryz.prog Q k .normal _ _
     have hnone := hs.rel.dom_none
     have hle := Place.le_set (x := (w.heap.size, 0, 2)) hnone
     have hstep : Step ρ (ρ.set st.nx (w.heap.size, 0, 2)) st.hp (st.hp.put st.nx (some (.cells [] false))) st.nx (st.nx + 1) := ⟨hle, Nat.le_succ _, fun b hb hr => ⟨by rw [Place.set_other (by omega)]; exact hr, by rw [Tr.get_put, if_neg (by omega)]⟩⟩
     obtain ⟨hhid, hrel⟩ := start_hid hT hs.rel
     refine grun_sound (I := HidO W w.heap.size) (kb := st.nx) (kx := (w.heap.size, 0, 2)) (W0 := ⟨pushed w (.cells #[.pointer none, .slice none 0 0] T), fun k => ¬ (W.old k ∨ k = w.heap.size), ρ.fr, W.ds⟩) (R := fun ρ' st' => Step (ρ.set st.nx (w.heap.size, 0, 2)) ρ' (st.hp.put st.nx (some (.cells [] false))) st'.hp (st.nx + 1) st'.nx)
      (hmk W w.heap.size st.nx) hm (fun _ _ _ _ h k => h.trans k) (fun b k st g h => (vloop_false h).elim) (fun st' g hst W' ρ' a' w' hI hkx hs' hr' => ?_) (fun v st' g hst W' ρ' v' a' w' hI hv hs' hr' => ?_) 3000 .normal k _ _ h _ _ _ _ ⟨hhid, rfl⟩ (Place.set_same _ _ _) ⟨hrel, aput_sound (hs.frame.mono hle) htm (.ptr (Place.set_same _ _ _))⟩ (.refl _ _ _)
     ·obtain ⟨rfl, hst⟩ := onNone_eq hst
      exact hF st' hst ρ' a' w' ⟨(HidO.lnk hI.1).back hs'.rel, by have := hs'.frame; rw [hI.2] at this; exact this⟩ (hR _ _ _ _ hr (hstep.trans hr'))
     ·obtain ⟨rfl, hst⟩ := onNone_eq hst
      exact hX v st' hst ρ' v' a' w' hv ⟨(HidO.lnk hI.1).back hs'.rel, by have := hs'.frame; rw [hI.2] at this; exact this⟩ (hR _ _ _ _ hr (hstep.trans hr'))
    ·exact vregionP_sound hcall hm hs h (fun st' hK a' w' ρ' g1 g2 => ih .normal k st' hK ρ' a' w' g1 (hR _ _ _ _ hr g2)) (fun v st' hK v' a' w' ρ' g0 g1 g2 => contQ_panic (hX v st' hK ρ' v' a' w' g0 g1 (hR _ _ _ _ hr g2)))
   | seq x y => exact wp_seq (ih (.code x) (.seq y :: k) st h ρ a w hs hr)
   | cond c x y =>
    dsimp only at h
    split at h
    ·rename_i b hc
     have := hs.frame.eval hc
     cases b with
     | true =>
      refine wp_cond_true (c := c) ?_ (ih (.code x) k st h ρ a w hs hr)
      generalize a.eval c = z at this
      cases this
      rfl
     | false =>
      refine wp_cond_false (c := c) ?_ (ih (.code y) k st h ρ a w hs hr)
      generalize a.eval c = z at this
      cases this
      rfl
    ·exact h.elim
   | block id b => exact wp_block (ih (.code b) (.block id :: k) st h ρ a w hs hr)
   | loop b =>
    exact loop_of (loop_round (ih (.code b) (.loop b :: k) st h ρ a w hs hr))
   | exit id => exact wp_exit (ih (.exit id) k st h ρ a w hs hr)
   | ret => exact wp_ret (ih .ret k st h ρ a w hs hr)
   | goto l => exact h.elim
   | refuse y => exact h.elim
   | scope b => exact h.elim
   | rangeFunc f ps x y => exact h.elim
theorem HidO.ds {W0 : Base} {c : Nat} (W : Base) (D : List Deferred) (g : Option ByteArray) (h : HidO W0 c W g) : HidO W0 c ⟨W.w, W.mu, W.f0, D⟩ g := by
 cases g with
 | none => exact ⟨h.size, h.os, h.tape, h.output, h.old, h.f0⟩
 | some S => exact ⟨h.size, h.os, h.tape, h.output, h.old, h.f0, h.cont, h.mine⟩
def mkW (inl : List FuncId) (pc : PCall) (kb : Nat) : GCall (Option ByteArray) := inlG Tryz.prog inl (bldCall kb (ofP pc)) 6
theorem mkW_ok {inl : List FuncId} {pc : PCall} (hm : Tryz.prog.follows .mixedOrders = true) (h : PCallOk Tryz.prog pc) (W0 : Base) (c kb : Nat) : GCallOk Tryz.prog (HidO W0 c) kb (c, 0, 2) (mkW inl pc kb) :=
 inlG_ok hm HidO.ds (bldCall_ok (ofP_ok h)) 6
def vcW (pc : PCall) (mk : Nat → GCall (Option ByteArray)) (f : FuncId) (args : List Value) (Post : Out → List (List Value) → Prop) : Prop :=
 wrun Tryz.prog pc mk (slotsN args (fnAt Tryz.prog f)) (finX Tryz.prog (fnAt Tryz.prog f) 0 (xpost 0 Post)) (panX 0 (xpost 0 Post)) 3000 (.code (codeOf (fnAt Tryz.prog f))) [] ⟨putArgs 0 args .e, hpOf [], 0⟩
set_option maxRecDepth 100000 in
theorem spec_W {pc : PCall} {mk : Nat → GCall (Option ByteArray)} (hcall : PCallOk Tryz.prog pc) (hmk : ∀ W0 c kb, GCallOk Tryz.prog (HidO W0 c) kb (c, 0, 2) (mk kb)) (hm : Tryz.prog.follows .mixedOrders = true) {f : FuncId} (hf : enters Tryz.prog f = true) {args : List Value} {Post : Out → List (List Value) → Prop}
  (h : vcW pc mk f args Post) : SpecX Tryz.prog f 0 (hpOf []) args (xpost 0 Post) := by
 intro W ρ w args' hpl hrel hargs
 obtain ⟨hf', hb'⟩ := all_of f hf
 suffices hb : Calls Tryz.prog f args'.toArray w fun e w' => ∃ r hp' nx' ρ', xpost 0 Post r hp' ∧ r.Ends0 ρ' e ∧ Rel ρ' W.bare hp' nx' w' ∧ StepG 0 ρ ρ' from hb.mono fun e w' ⟨r, hp', nx', ρ', g1, g2, g3, g4⟩ => ⟨r, hp', nx', ρ', g1, g2, g3.unbare, g4⟩
 refine calls_of_wp hf' hb' ?_
 unfold vcW at h
 have hst := start_rel (W := W.bare) rfl hrel.bare hargs (fnAt Tryz.prog f)
 exact wrun_sound (W := W.bare) (R := fun ρ' _ => StepG 0 ρ ρ') (Q := FinQX Tryz.prog (fnAt Tryz.prog f) W.bare 0 ρ (xpost 0 Post)) hcall hmk hm (fun _ _ _ _ h k => h.step k)
  (fun st hst ρ' a w hs hr => finX_ok hst rfl hpl hs hr) (fun v st hst ρ' v' a w hv hs hr => panX_ok hst rfl hpl hv hs hr) 3000 (.code _) [] _ h ρ _ w hst (.refl _ _)
end Go.Proofs.YtojlhapbngcjkaaGreatDoor
noncomputable section
namespace Go.Proofs.YtojlhapbngcjkaaGreatDoor
open Go Go.RowKit
variable {γ : Type}
def GoodG (P : Program) (Is : (Base → γ → Prop) → Nat × Nat × Nat → Prop) (kb n : Nat) (base : List Bool) (Fin : AS → γ → Prop) (X : Value → AS → γ → Prop) (b : Code) (k : List Fr) (st : AS) (g : γ) : Prop :=
 ∀ I kx, Is I kx → ∀ (W0 : Base) (ρ0 : Place) (Q : Exit → Act → World → Prop), (∀ st g, Fin st g → ∀ W ρ a w, I W g ∧ W.ds = W0.ds → ρ.pl kb = some kx → SRel ρ W n st a w → StepG base.length ρ0 ρ → Q .normal a w ∧ Q .ret a w) →
  (∀ v st g, X v st g → ∀ W ρ v' a w, I W g ∧ W.ds = W0.ds → VR ρ v v' → SRel ρ W n st a w → StepG base.length ρ0 ρ → Q (.panic [{ v := v', recovered := false }]) a w) →
  ∀ W ρ a w, I W g ∧ W.ds = W0.ds → ρ.pl kb = some kx → SRel ρ W n st a w → StepG base.length ρ0 ρ → LoopWp P b (contQ P Q k) a w
theorem goodG_vloop {P : Program} {Is : (Base → γ → Prop) → Nat × Nat × Nat → Prop} {kb n : Nat} {lt : List (Nat × List Nat)} {base : List Bool} (hkb : kb < base.length) {Fin : AS → γ → Prop} {X : Value → AS → γ → Prop} {b : Code} {k : List Fr} {st : AS} {g : γ}
  (h : vloop lt base (fun b k st => GoodG P Is kb n base Fin X b k st g) b k st) : GoodG P Is kb n base Fin X b k st g := by
 unfold vloop at h
 split at h
 case h_2 => exact h.elim
 split at h
 case h_2 => exact h.elim
 rename_i st0 ob0 hz
 split at h
 case h_2 => exact h.elim
 rename_i st' ob hc
 intro I kx hIs W0 ρ0 Q hF hX W ρ a w hI hkx hs hr
 obtain ⟨ρ1, f1, f2⟩ := frzTms_sound hs hz h.1
 obtain ⟨ρ', g1, g2, g3⟩ := canon_sound f1 hc h.2.1
 exact h.2.2 I kx hIs W0 ρ0 Q hF hX W ρ' a w hI (by rw [g3 kb hkb]; exact f2.1 kb kx hkx) g1 ⟨fun b x hb hx => by rw [g3 b hb]; exact f2.1 b x (hr.1 b x hb hx), fun c x hx => by rw [g2]; exact f2.2 c x (hr.2 c x hx)⟩
theorem goodG_round {P : Program} {Is : (Base → γ → Prop) → Nat × Nat × Nat → Prop} {gc : GCall γ} {kb : Nat} (hcall : ∀ I kx, Is I kx → GCallOk P I kb kx gc) (hm : P.follows .mixedOrders = true) {n : Nat} {lt : List (Nat × List Nat)} {base : List Bool} (hkb : kb < base.length) {Fin : AS → γ → Prop} {X : Value → AS → γ → Prop} {b : Code} {k : List Fr} {st : AS} {g : γ} (f : Nat)
  (h : grun P gc n lt base (GoodG P Is kb n base Fin X) Fin X f (.code b) (.loop b :: k) st g) : GoodG P Is kb n base Fin X b k st g := by
 intro I kx hIs W0 ρ0 Q hF hX W ρ a w hI hkx hs hr
 refine loop_round ?_
 exact grun_sound (I := I) (kb := kb) (kx := kx) (W0 := W0) (R := fun ρ _ => StepG base.length ρ0 ρ) (hcall I kx hIs) hm (fun ρ st ρ' st' h k => h.step k) (fun b k st g h W ρ a w hI hkx hs hr => goodG_vloop hkb h I kx hIs W0 ρ0 Q hF hX W ρ a w hI hkx hs hr) hF hX f (.code b) (.loop b :: k) st g h W ρ a w hI hkx hs hr
section
variable {P : Program} {Is : (Base → γ → Prop) → Nat × Nat × Nat → Prop} {gc : GCall γ} {kb : Nat}
end
end Go.Proofs.YtojlhapbngcjkaaGreatDoor

noncomputable section
namespace Go.Proofs.YtojlhapbngcjkaaGreatDoor
open Go Go.RowKit
set_option maxRecDepth 100000
set_option maxHeartbeats 8000000
namespace B
def IsW (I : Base → Option ByteArray → Prop) (kx : Nat × Nat × Nat) : Prop := ∃ W0 c, I = HidO W0 c ∧ kx = (c, 0, 2)
def wrunL (P : Program) (pc : PCall) (mk : Nat → GCall (Option ByteArray)) (n : Nat) (lt : List (Nat × List Nat)) (base : List Bool) (H : Code → List Fr → AS → Option ByteArray → Prop) (Fin : AS → Prop) (X : Value → AS → Prop) : Nat → VM → List Fr → AS → Prop
 | 0, _, _, _ => False
 | f + 1, .normal, k, st => match k with
  | [] => Fin st
  | .seq y :: k' => wrunL P pc mk n lt base H Fin X f (.code y) k' st
  | .block _ :: k' => wrunL P pc mk n lt base H Fin X f .normal k' st
  | .loop _ :: _ => False
 | f + 1, .exit id, k, st => match k with
  | [] => False
  | .block j :: k' => bif id.beq j then wrunL P pc mk n lt base H Fin X f .normal k' st else wrunL P pc mk n lt base H Fin X f (.exit id) k' st
  | _ :: k' => wrunL P pc mk n lt base H Fin X f (.exit id) k' st
 | _ + 1, .ret, _, st => Fin st
 | f + 1, .code c, k, st => match c with
  | .skip | .label _ => wrunL P pc mk n lt base H Fin X f .normal k st
  | .region _ ops draw => match isAllocW ops draw with
   | some d => match aput n st.tm (some d) (.pointer (some ⟨st.nx, 0, none⟩)) with
    | some tm => bif base.length.beq (st.nx + 1) then grun P (mk st.nx) n lt base H (fun st g => onNone g (Fin st)) (fun v st g => onNone g (X v st)) 3000 .normal k ⟨tm, st.hp.put st.nx (some (.cells [] false)), st.nx + 1⟩ (some .empty) else False
    | none => False
   | none => vregionP P pc n ops draw st (fun st' => wrunL P pc mk n lt base H Fin X f .normal k st') X
  | .seq x y => wrunL P pc mk n lt base H Fin X f (.code x) (.seq y :: k) st
  | .cond c x y => match aev st.tm c with
   | some (.bool b) => pIf b (wrunL P pc mk n lt base H Fin X f (.code x) k st) (wrunL P pc mk n lt base H Fin X f (.code y) k st)
   | _ => False
  | .block id b => wrunL P pc mk n lt base H Fin X f (.code b) (.block id :: k) st
  | .exit id => wrunL P pc mk n lt base H Fin X f (.exit id) k st
  | .ret => wrunL P pc mk n lt base H Fin X f .ret k st
  | _ => False
theorem wrunL_sound {pc : PCall} {mk : Nat → GCall (Option ByteArray)} {W : Base} {n : Nat} {lt : List (Nat × List Nat)} {base : List Bool} (hbase : 0 < base.length) {Fin : AS → Prop} {X : Value → AS → Prop} {ρs : Place} {Q : Exit → Act → World → Prop} (hcall : PCallOk Tryz.prog pc) (hmk : ∀ W0 c kb, GCallOk Tryz.prog (HidO W0 c) kb (c, 0, 2) (mk kb)) (hm : Tryz.prog.follows .mixedOrders = true)
  (hF : ∀ st, Fin st → ∀ ρ a w, SRel ρ W n st a w → StepG 0 ρs ρ → Q .normal a w ∧ Q .ret a w)
  (hX : ∀ v st, X v st → ∀ ρ v' a w, VR ρ v v' → SRel ρ W n st a w → StepG 0 ρs ρ → Q (.panic [{ v := v', recovered := false }]) a w) :
  ∀ (f : Nat) (m : VM) (k : List Fr) (st : AS), wrunL Tryz.prog pc mk n lt base (GoodG Tryz.prog IsW (base.length - 1) n base (fun st g => onNone g (Fin st)) (fun v st g => onNone g (X v st))) Fin X f m k st → ∀ ρ a w, SRel ρ W n st a w → StepG 0 ρs ρ → (match m with
   | .code c => c.wp Tryz.prog (contQ Tryz.prog Q k) a w
   | .normal => contQ Tryz.prog Q k .normal a w
   | .exit id => contQ Tryz.prog Q k (.exit id) a w
   | .ret => contQ Tryz.prog Q k .ret a w) := by
 intro f
 induction f with
 | zero => intro m k st h; simp only [wrunL] at h
 | succ f ih =>
  intro m k st h ρ a w hs hr
  cases m with
  | normal =>
   simp only [wrunL] at h
   dsimp only
   cases k with
   | nil => exact (hF st h ρ a w hs hr).1
   | cons x k =>
    cases x with
    | seq y => exact ih (.code y) k st h ρ a w hs hr
    | block id => exact ih .normal k st h ρ a w hs hr
    | loop b => exact h.elim
  | exit id =>
   simp only [wrunL] at h
   dsimp only
   cases k with
   | nil => exact h.elim
   | cons x k =>
    cases x with
    | seq y => exact ih (.exit id) k st h ρ a w hs hr
    | block j =>
     show Exit.inBlock j (contQ Tryz.prog Q k) (.exit id) a w
     simp only [Exit.inBlock]
     dsimp only at h
     cases hj : id.beq j with
     | true =>
      rw [hj] at h
      rw [if_pos (Nat.eq_of_beq_eq_true hj)]
      exact ih .normal k st h ρ a w hs hr
     | false =>
      rw [hj] at h
      rw [if_neg (fun e => by subst e; simp at hj)]
      exact ih (.exit id) k st h ρ a w hs hr
    | loop b => exact ih (.exit id) k st h ρ a w hs hr
  | ret =>
   simp only [wrunL] at h
   exact contQ_ret (hF st h ρ a w hs hr).2
  | code c =>
   simp only [wrunL] at h
   dsimp only
   cases c with
   | skip => exact wp_skip (ih .normal k st h ρ a w hs hr)
   | label l => exact wp_label (ih .normal k st h ρ a w hs hr)
   | region id ops draw =>
    dsimp only at h
    split at h
    ·rename_i d hd
     split at h
     case h_2 => exact h.elim
     rename_i tm htm
     cases hbl : base.length.beq (st.nx + 1) with
     | false => rw [hbl] at h; exact h.elim
     | true =>
     rw [hbl, cond_true] at h
     have hbl := Nat.eq_of_beq_eq_true hbl
     obtain ⟨o, T, hT, rfl, rfl, ho, hdst, hgd⟩ := isAllocW_eq hd
     refine wp_region ?_
     show wpOps Tryz.prog #[o] _ [0] a w
     rw [wpOps_cons]
     unfold wpOp
     have e0 : (#[o])[0]? = some o := rfl
     simp only [e0]
     have hw : ∀ q, Region.wanted o q = true := fun q => by unfold Region.wanted; rw [hgd]
     rw [hw, if_pos rfl]
     refine .inl ?_
     obtain ⟨dst, op, type, pos, after, guard⟩ := o
     dsimp only at ho hdst hgd
     subst ho hdst hgd
     have hrun : (execOp a.eval ⟨some d, .alloc T, type, pos, after, none⟩).run Tryz.prog w = .ok (.value (.pointer (some ⟨w.heap.size, 0, none⟩))) (pushed w (.cells #[.pointer none, .slice none 0 0] T)) := value_run (alloc_writer hT w)
     unfold Oper.wp
     rw [hrun]
     show contQ Tryz.prog Q k .normal _ _
     have hnone := hs.rel.dom_none
     have hle := Place.le_set (x := (w.heap.size, 0, 2)) hnone
     obtain ⟨hhid, hrel⟩ := start_hid hT hs.rel
     have e1 : base.length - 1 = st.nx := by omega
     rw [e1] at h
     have key : ∀ ρ', StepG base.length (ρ.set st.nx (w.heap.size, 0, 2)) ρ' → StepG 0 ρs ρ' := fun ρ' hk => ⟨fun b x hb => by omega, fun c x hc => hk.2 c x (hr.2 c x hc)⟩
     have fin : ∀ st' g, onNone g (Fin st') → ∀ W' ρ' a' w', HidO W w.heap.size W' g ∧ W'.ds = W.ds → ρ'.pl st.nx = some (w.heap.size, 0, 2) → SRel ρ' W' n st' a' w' → StepG base.length (ρ.set st.nx (w.heap.size, 0, 2)) ρ' → Q .normal a' w' ∧ Q .ret a' w' := by
      intro st' g hst W' ρ' a' w' hI hkx hs' hr'
      obtain ⟨rfl, hst⟩ := onNone_eq hst
      exact hF st' hst ρ' a' w' ⟨(HidO.lnk hI.1).back hs'.rel, by have := hs'.frame; rw [hI.2] at this; exact this⟩ (key ρ' hr')
     have pan : ∀ v st' g, onNone g (X v st') → ∀ W' ρ' v' a' w', HidO W w.heap.size W' g ∧ W'.ds = W.ds → VR ρ' v v' → SRel ρ' W' n st' a' w' → StepG base.length (ρ.set st.nx (w.heap.size, 0, 2)) ρ' → Q (.panic [{ v := v', recovered := false }]) a' w' := by
      intro v st' g hst W' ρ' v' a' w' hI hv hs' hr'
      obtain ⟨rfl, hst⟩ := onNone_eq hst
      exact hX v st' hst ρ' v' a' w' hv ⟨(HidO.lnk hI.1).back hs'.rel, by have := hs'.frame; rw [hI.2] at this; exact this⟩ (key ρ' hr')
     exact grun_sound (I := HidO W w.heap.size) (kb := st.nx) (kx := (w.heap.size, 0, 2)) (W0 := ⟨pushed w (.cells #[.pointer none, .slice none 0 0] T), fun k => ¬ (W.old k ∨ k = w.heap.size), ρ.fr, W.ds⟩) (R := fun ρ' _ => StepG base.length (ρ.set st.nx (w.heap.size, 0, 2)) ρ')
      (hmk W w.heap.size st.nx) hm (fun _ _ _ _ h k => h.step k)
      (fun b k st' g hl W' ρ' a' w' hI hkx hs' hr' => goodG_vloop (by omega) hl (HidO W w.heap.size) (w.heap.size, 0, 2) ⟨W, w.heap.size, rfl, rfl⟩ ⟨pushed w (.cells #[.pointer none, .slice none 0 0] T), fun k => ¬ (W.old k ∨ k = w.heap.size), ρ.fr, W.ds⟩ (ρ.set st.nx (w.heap.size, 0, 2)) Q fin pan W' ρ' a' w' hI hkx hs' hr')
      fin pan 3000 .normal k _ _ h _ _ _ _ ⟨hhid, rfl⟩ (Place.set_same _ _ _) ⟨hrel, aput_sound (hs.frame.mono hle) htm (.ptr (Place.set_same _ _ _))⟩ (.refl _ _)
    ·exact vregionP_sound hcall hm hs h (fun st' hK a' w' ρ' g1 g2 => ih .normal k st' hK ρ' a' w' g1 (hr.step g2)) (fun v st' hK v' a' w' ρ' g0 g1 g2 => contQ_panic (hX v st' hK ρ' v' a' w' g0 g1 (hr.step g2)))
   | seq x y => exact wp_seq (ih (.code x) (.seq y :: k) st h ρ a w hs hr)
   | cond c x y =>
    dsimp only at h
    split at h
    ·rename_i b hc
     have := hs.frame.eval hc
     cases b with
     | true =>
      refine wp_cond_true (c := c) ?_ (ih (.code x) k st h ρ a w hs hr)
      generalize a.eval c = z at this
      cases this
      rfl
     | false =>
      refine wp_cond_false (c := c) ?_ (ih (.code y) k st h ρ a w hs hr)
      generalize a.eval c = z at this
      cases this
      rfl
    ·exact h.elim
   | block id b => exact wp_block (ih (.code b) (.block id :: k) st h ρ a w hs hr)
   | loop b => exact h.elim
   | exit id => exact wp_exit (ih (.exit id) k st h ρ a w hs hr)
   | ret => exact wp_ret (ih .ret k st h ρ a w hs hr)
   | goto l => exact h.elim
   | refuse y => exact h.elim
   | scope b => exact h.elim
   | rangeFunc f ps x y => exact h.elim
def finL (P : Program) (f : FuncId) (Post : Out → List (List Value) → Prop) (st : AS) (g : Option ByteArray) : Prop := onNone g (finX P (fnAt P f) 0 (xpost 0 Post) st)
def panL (Post : Out → List (List Value) → Prop) (v : Value) (st : AS) (g : Option ByteArray) : Prop := onNone g (panX 0 (xpost 0 Post) v st)
def vcWl (P : Program) (f : FuncId) (pc : PCall) (mk : Nat → GCall (Option ByteArray)) (lt : List (Nat × List Nat)) (base : List Bool) (args : List Value) (H : Code → List Fr → AS → Option ByteArray → Prop) (Post : Out → List (List Value) → Prop) : Prop :=
 wrunL P pc mk (slotsN args (fnAt P f)) lt base H (finX P (fnAt P f) 0 (xpost 0 Post)) (panX 0 (xpost 0 Post)) 3000 (.code (codeOf (fnAt P f))) [] ⟨putArgs 0 args .e, hpOf [], 0⟩
def vcLWl (P : Program) (f : FuncId) (mk : Nat → GCall (Option ByteArray)) (na : List Value) (lt : List (Nat × List Nat)) (base : List Bool) (r : Nat) (st : AS) (g : Option ByteArray) (H : Code → List Fr → AS → Option ByteArray → Prop) (Post : Out → List (List Value) → Prop) : Prop :=
 grun P (mk (base.length - 1)) (slotsN na (fnAt P f)) lt base H (finL P f Post) (panL Post) 3000 (.code (lpC P f r)) (.loop (lpC P f r) :: lpK P f r) st g
def OkWl (f : FuncId) (na : List Value) (base : List Bool) (Post : Out → List (List Value) → Prop) : Code → List Fr → AS → Option ByteArray → Prop :=
 GoodG Tryz.prog IsW (base.length - 1) (slotsN na (fnAt Tryz.prog f)) base (finL Tryz.prog f Post) (panL Post)
set_option maxRecDepth 100000 in
theorem spec_Wl {pc : PCall} {mk : Nat → GCall (Option ByteArray)} (hcall : PCallOk Tryz.prog pc) (hmk : ∀ W0 c kb, GCallOk Tryz.prog (HidO W0 c) kb (c, 0, 2) (mk kb)) (hm : Tryz.prog.follows .mixedOrders = true) {f : FuncId} (hf : enters Tryz.prog f = true) (lt : List (Nat × List Nat)) {base : List Bool} (hbase : 0 < base.length) {args : List Value} {Post : Out → List (List Value) → Prop}
  {Y : Prop} (e : vcWl Tryz.prog f pc mk lt base args (OkWl f args base Post) Post = Y) (hy : Y) : SpecX Tryz.prog f 0 (hpOf []) args (xpost 0 Post) := by
 have h := Eq.mpr e hy
 intro W ρ w args' hpl hrel hargs
 obtain ⟨hf', hb'⟩ := all_of f hf
 suffices hb : Calls Tryz.prog f args'.toArray w fun e w' => ∃ r hp' nx' ρ', xpost 0 Post r hp' ∧ r.Ends0 ρ' e ∧ Rel ρ' W.bare hp' nx' w' ∧ StepG 0 ρ ρ' from hb.mono fun e w' ⟨r, hp', nx', ρ', g1, g2, g3, g4⟩ => ⟨r, hp', nx', ρ', g1, g2, g3.unbare, g4⟩
 refine calls_of_wp hf' hb' ?_
 unfold vcWl at h
 have hst := start_rel (W := W.bare) rfl hrel.bare hargs (fnAt Tryz.prog f)
 exact wrunL_sound (W := W.bare) hbase (ρs := ρ) (Q := FinQX Tryz.prog (fnAt Tryz.prog f) W.bare 0 ρ (xpost 0 Post)) hcall hmk hm
  (fun st hst ρ' a w hs hr => finX_ok hst rfl hpl hs hr) (fun v st hst ρ' v' a w hv hs hr => panX_ok hst rfl hpl hv hs hr) 3000 (.code _) [] _ h ρ _ w hst (.refl _ _)
set_option maxRecDepth 100000 in
theorem ok_Wl {mk : Nat → GCall (Option ByteArray)} (hmk : ∀ W0 c kb, GCallOk Tryz.prog (HidO W0 c) kb (c, 0, 2) (mk kb)) (hm : Tryz.prog.follows .mixedOrders = true) {f : FuncId} {na : List Value} (lt : List (Nat × List Nat)) {base : List Bool} (hbase : 0 < base.length) {r : Nat} {st : AS} {g : Option ByteArray} {Post : Out → List (List Value) → Prop}
  {Y : Prop} (e : vcLWl Tryz.prog f mk na lt base r st g (OkWl f na base Post) Post = Y) (hy : Y) : OkWl f na base Post (lpC Tryz.prog f r) (lpK Tryz.prog f r) st g :=
 goodG_round (gc := mk (base.length - 1)) (fun I kx ⟨W0, c, hI, hk⟩ => by subst hI hk; exact hmk W0 c _) hm (by omega) 3000 (Eq.mpr e hy)
def retV (Post : Value → Prop) (r : Out) (_ : List (List Value)) : Prop := match r with | .ret v => Post v | .pan _ => False
theorem pure_of_X {P : Program} {f : FuncId} {args : List Value} {Post : Value → Prop} (h : SpecX P f 0 (hpOf []) args (xpost 0 (retV Post))) : Pure P f args Post := by
 intro W ρ w args' hrel hargs
 refine (h W ρ w args' (fun b hb => by omega) hrel hargs).mono ?_
 rintro e w' ⟨r, hp', nx', ρ', hP, hE, hR, hS⟩
 unfold xpost at hP
 obtain ⟨_, hv⟩ := hP
 cases r with
 | pan v => exact hv.elim
 | ret v =>
 obtain ⟨v', e1, e2⟩ := hE
 exact ⟨v, hp', nx', v', ρ', hv, e1, e2, hR, hS⟩
end B
def inlM : List FuncId := [21]
def baseM : PCall := ofV (tabCallF Tryz.prog [⟨33, c_joinV⟩, ⟨22, c_text⟩, ⟨23, c_piece⟩, ⟨29, c_weld⟩, ⟨24, c_words⟩] noCall)
def callM : PCall := inlP Tryz.prog inlM baseM 6
def mkM : Nat → GCall (Option ByteArray) := mkW inlM baseM
theorem e_mat (s : StateD) (H : Code → List Fr → AS → Option ByteArray → Prop) (Post : PX) : B.vcWl Tryz.prog 7 callM mkM [(4, [1, 3, 17, 18, 19])] [true, true] [stateDV s] H Post = (let q7 := ByteArray.mk #[32]; let q6 := StateD.stock s; let q5 := ByteArray.mk #[77, 65, 84, 69, 82, 73, 65, 76, 83]; let q2 := StateD.design s; let q1 := List.map toS [(vs q5), (vs (Design6.hull q2))]; let q4 := joinB q1 q7 ++ ByteArray.mk #[10]; let q3 := Design6.parts q2; T8 (T2 (((2 ≤ 2 ∧ NLs [vs q5, vs (Design6.hull q2)]) ∧ True ∧ True) ∧ true = true ∧ 2 ≤ 140737488355328 ∧ ByteArray.size (joinB q1 q7) ≤ 140737488355328 ∧ True ∧ ByteArray.size (joinB q1 q7) + 1 ≤ 9223372036854775807 ∧ 0 + ByteArray.size q4 ≤ 140737488355328 ∧ T4 (T2 (True ∧ (T2 (True)) ∧ H (lpC Tryz.prog 7 4) (lpK Tryz.prog 7 4) (stV [(1, some (pt 0)), (3, some (pt 1)), (17, some (tree 18 (List.length q3) (encL q3))), (18, some (vi (↑(List.length q3) : Int))), (19, some (vi 0))] [(0, some (AObj.cells [vi (StateD.now s), vs (Design6.hull q2), tree 3 (List.length (Design6.nodes q2)) (encL (Design6.nodes q2)), tree 18 (List.length q3) (encL q3), tree 6 (List.length (Design6.seams q2)) (encL (Design6.seams q2)), tree 5 (List.length (Design6.packs q2)) (encL (Design6.packs q2)), tree 3 (List.length (Design6.needs q2)) (encL (Design6.needs q2)), tree 1 (List.length (StateD.orders s)) (encL (StateD.orders s)), tree 6 (List.length (Stock2.sheets q6)) (encL (Stock2.sheets q6)), tree 5 (List.length (Stock2.bars q6)) (encL (Stock2.bars q6)), tree 6 (List.length (StateD.pieces s)) (encL (StateD.pieces s)), tree 6 (List.length (StateD.scrap s)) (encL (StateD.scrap s)), tree 8 (List.length (StateD.welds s)) (encL (StateD.welds s)), tree 1 (List.length (StateD.done s)) (encL (StateD.done s)), tree 8 (List.length (StateD.weighs s)) (encL (StateD.weighs s)), tree 3 (List.length (StateD.raised s)) (encL (StateD.raised s)), tree 4 (List.length (StateD.permits s)) (encL (StateD.permits s)), tree 3 (List.length (StateD.tests s)) (encL (StateD.tests s)), vi (StateD.launched s), vi (StateD.delivered s)] true)), (1, some (AObj.cells [] false))] 2) (some (ByteArray.empty ++ q4))))))) := by kernel_rfl
theorem l_mat (s : StateD) (n : Nat) (A : Array Value) (S : ByteArray) (k : Int) (H : Code → List Fr → AS → Option ByteArray → Prop) (Post : PX) : B.vcLWl Tryz.prog 7 mkM [stateDV s] [(4, [1, 3, 17, 18, 19])] [true, true] 4 (stV [(1, some (.pointer (some ⟨0, 0, none⟩))), (3, some (.pointer (some ⟨1, 0, none⟩))), (17, some (tree 18 n A)), (18, some (.int .i64 n)), (19, some (.int .i64 k))] [(0, some (.cells (stateDC s) true)), (1, some (.cells [] false))] 2) (some S) H Post = (let q30 := toI (cellAt A (Int.toNat k) 1); let q29 := StateD.tests s; let q28 := StateD.welds s; let q27 := StateD.scrap s; let q26 := StateD.raised s; let q25 := StateD.weighs s; let q24 := StateD.pieces s; let q12 := StateD.stock s; let q23 := Stock2.bars q12; let q22 := StateD.orders s; let q21 := StateD.permits s; let q6 := StateD.design s; let q20 := Design6.needs q6; let q19 := Design6.packs q6; let q18 := Design6.seams q6; let q17 := Design6.parts q6; let q16 := Design6.nodes q6; let q15 := lpK Tryz.prog 7 4; let q14 := lpC Tryz.prog 7 4; let q13 := Stock2.sheets q12; let q11 := ByteArray.mk #[99, 117, 116]; let q10 := ByteArray.mk #[102, 105, 116, 116, 101, 100]; let q9 := ByteArray.mk #[109, 105, 115, 115, 105, 110, 103]; let q8 := ByteArray.mk #[117, 110, 107, 110, 111, 119, 110]; let q7 := ByteArray.mk #[32]; let q5 := ByteArray.mk #[104, 101, 97, 116]; let q4 := ByteArray.mk #[102, 114, 111, 109]; let q3 := ByteArray.mk #[114, 101, 118]; let q2 := toS (cellAt A (Int.toNat k) 0); let q1 := (stV [(1, some (pt 0)), (3, some (pt 1)), (17, some (tree 18 n A)), (18, some (vi (↑n : Int))), (19, some (vi (IntKind.wrap IntKind.i64 (k + 1))))] [(0, some (AObj.cells [vi (StateD.now s), vs (Design6.hull q6), tree 3 (List.length q16) (encL q16), tree 18 (List.length q17) (encL q17), tree 6 (List.length q18) (encL q18), tree 5 (List.length q19) (encL q19), tree 3 (List.length q20) (encL q20), tree 1 (List.length q22) (encL q22), tree 6 (List.length q13) (encL q13), tree 5 (List.length q23) (encL q23), tree 6 (List.length q24) (encL q24), tree 6 (List.length q27) (encL q27), tree 8 (List.length q28) (encL q28), tree 1 (List.length (StateD.done s)) (encL (StateD.done s)), tree 8 (List.length q25) (encL q25), tree 3 (List.length q26) (encL q26), tree 4 (List.length q21) (encL q21), tree 3 (List.length q29) (encL q29), vi (StateD.launched s), vi (StateD.delivered s)] true)), (1, some (AObj.cells [] false))] 2); True ∧ pIf (decide (k < (↑n : Int))) ((0 ≤ k ∧ k < (↑n : Int)) ∧ (cellAt A (Int.toNat k) 0 = vs q2 ∧ cellAt A (Int.toNat k) 1 = vi q30 ∧ cellAt A (Int.toNat k) 2 = vi (toI (cellAt A (Int.toNat k) 2)) ∧ cellAt A (Int.toNat k) 3 = vs (toS (cellAt A (Int.toNat k) 3)) ∧ cellAt A (Int.toNat k) 4 = vs (toS (cellAt A (Int.toNat k) 4)) ∧ cellAt A (Int.toNat k) 5 = vi (toI (cellAt A (Int.toNat k) 5)) ∧ cellAt A (Int.toNat k) 6 = tree 2 (toN (cellAt A (Int.toNat k) 6)) (toE (cellAt A (Int.toNat k) 6)) ∧ cellAt A (Int.toNat k) 7 = tree 1 (toN (cellAt A (Int.toNat k) 7)) (toE (cellAt A (Int.toNat k) 7)) ∧ cellAt A (Int.toNat k) 8 = vs (toS (cellAt A (Int.toNat k) 8)) ∧ cellAt A (Int.toNat k) 9 = vi (toI (cellAt A (Int.toNat k) 9)) ∧ cellAt A (Int.toNat k) 10 = vi (toI (cellAt A (Int.toNat k) 10)) ∧ cellAt A (Int.toNat k) 11 = vi (toI (cellAt A (Int.toNat k) 11)) ∧ cellAt A (Int.toNat k) 12 = vi (toI (cellAt A (Int.toNat k) 12)) ∧ cellAt A (Int.toNat k) 13 = vi (toI (cellAt A (Int.toNat k) 13)) ∧ cellAt A (Int.toNat k) 14 = vi (toI (cellAt A (Int.toNat k) 14)) ∧ cellAt A (Int.toNat k) 15 = vi (toI (cellAt A (Int.toNat k) 15)) ∧ cellAt A (Int.toNat k) 16 = vi (toI (cellAt A (Int.toNat k) 16)) ∧ cellAt A (Int.toNat k) 17 = vi (toI (cellAt A (Int.toNat k) 17)) ∧ True) ∧ True ∧ 18 ≤ 18 ∧ T4 ((True ∧ True) ∧ ∃ (n_1 : Int), eqL [vi q30] [vi n_1] ∧ (-9223372036854775808 ≤ n_1 ∧ n_1 < 9223372036854775808) ∧ ((vs q2 = vs q2 ∧ True) ∧ True) ∧ T4 (True ∧ ((T16 (T4 (True))) ∧ True ∧ True) ∧ ∃ (s_1 : StateD), ∃ (id : ByteArray), eqL [Value.agg #[vi (StateD.now s), vs (Design6.hull q6), tree 3 (List.length q16) (encL q16), tree 18 (List.length q17) (encL q17), tree 6 (List.length q18) (encL q18), tree 5 (List.length q19) (encL q19), tree 3 (List.length q20) (encL q20), tree 1 (List.length q22) (encL q22), tree 6 (List.length q13) (encL q13), tree 5 (List.length q23) (encL q23), tree 6 (List.length q24) (encL q24), tree 6 (List.length q27) (encL q27), tree 8 (List.length q28) (encL q28), tree 1 (List.length (StateD.done s)) (encL (StateD.done s)), tree 8 (List.length q25) (encL q25), tree 3 (List.length q26) (encL q26), tree 4 (List.length q21) (encL q21), tree 3 (List.length q29) (encL q29), vi (StateD.launched s), vi (StateD.delivered s)], vs q2] [stateDV s_1, vs id] ∧ List.length (StateD.pieces s_1) ≤ 1048576 ∧ (∀ (x : Piece6), pieceAt s_1 id = some x → T4 (6 ≤ 6 ∧ T4 (T2 (True ∧ pIf (decide (Piece6.state x = 1)) (T8 ((True ∧ True) ∧ ∃ (b : ByteArray), eqL [vs (Piece6.from_ x)] [vs b] ∧ ((vs (Piece6.heat x) = vs (Piece6.heat x) ∧ True) ∧ True) ∧ (True ∧ True) ∧ ∃ (b_1 : ByteArray), eqL [vs (Piece6.heat x)] [vs b_1] ∧ T2 (5 ≤ 5 ∧ 8 ≤ 33554432 ∧ true = true ∧ 5 = 5 ∧ 3 = 3 ∧ T4 (True ∧ ((8 ≤ 8 ∧ NLs [vs q2, vs q3, vs (decB n_1), vs q4, vs (shownB b), vs q5, vs (shownB b_1), vs q11]) ∧ True ∧ True) ∧ true = true ∧ 8 ≤ 140737488355328 ∧ ByteArray.size (joinB (List.map toS [(vs q2), (vs q3), (vs (decB n_1)), (vs q4), (vs (shownB b)), (vs q5), (vs (shownB b_1)), (vs q11)]) q7) ≤ 140737488355328 ∧ True ∧ ByteArray.size (joinB (List.map toS [(vs q2), (vs q3), (vs (decB n_1)), (vs q4), (vs (shownB b)), (vs q5), (vs (shownB b_1)), (vs q11)]) q7) + 1 ≤ 9223372036854775807 ∧ S.size + ByteArray.size (joinB (List.map toS [(vs q2), (vs q3), (vs (decB n_1)), (vs q4), (vs (shownB b)), (vs q5), (vs (shownB b_1)), (vs q11)]) q7 ++ ByteArray.mk #[10]) ≤ 140737488355328 ∧ T4 (True ∧ (T2 (True)) ∧ H q14 q15 q1 (some (S ++ (joinB (List.map toS [(vs q2), (vs q3), (vs (decB n_1)), (vs q4), (vs (shownB b)), (vs q5), (vs (shownB b_1)), (vs q11)]) q7 ++ ByteArray.mk #[10])))))))) (T2 (pIf (decide (Piece6.state x = 2)) (T8 ((True ∧ True) ∧ ∃ (b : ByteArray), eqL [vs (Piece6.from_ x)] [vs b] ∧ ((vs (Piece6.heat x) = vs (Piece6.heat x) ∧ True) ∧ True) ∧ (True ∧ True) ∧ ∃ (b_1 : ByteArray), eqL [vs (Piece6.heat x)] [vs b_1] ∧ T2 (5 ≤ 5 ∧ 8 ≤ 33554432 ∧ true = true ∧ 5 = 5 ∧ 3 = 3 ∧ T4 (True ∧ ((8 ≤ 8 ∧ NLs [vs q2, vs q3, vs (decB n_1), vs q4, vs (shownB b), vs q5, vs (shownB b_1), vs q10]) ∧ True ∧ True) ∧ true = true ∧ 8 ≤ 140737488355328 ∧ ByteArray.size (joinB (List.map toS [(vs q2), (vs q3), (vs (decB n_1)), (vs q4), (vs (shownB b)), (vs q5), (vs (shownB b_1)), (vs q10)]) q7) ≤ 140737488355328 ∧ True ∧ ByteArray.size (joinB (List.map toS [(vs q2), (vs q3), (vs (decB n_1)), (vs q4), (vs (shownB b)), (vs q5), (vs (shownB b_1)), (vs q10)]) q7) + 1 ≤ 9223372036854775807 ∧ S.size + ByteArray.size (joinB (List.map toS [(vs q2), (vs q3), (vs (decB n_1)), (vs q4), (vs (shownB b)), (vs q5), (vs (shownB b_1)), (vs q10)]) q7 ++ ByteArray.mk #[10]) ≤ 140737488355328 ∧ T4 (True ∧ (T2 (True)) ∧ H q14 q15 q1 (some (S ++ (joinB (List.map toS [(vs q2), (vs q3), (vs (decB n_1)), (vs q4), (vs (shownB b)), (vs q5), (vs (shownB b_1)), (vs q10)]) q7 ++ ByteArray.mk #[10])))))))) (T4 (T2 (True ∧ (True ∧ True) ∧ ∃ (b : ByteArray), eqL [vs (Piece6.from_ x)] [vs b] ∧ ((vs (Piece6.heat x) = vs (Piece6.heat x) ∧ True) ∧ True) ∧ (True ∧ True) ∧ ∃ (b_1 : ByteArray), eqL [vs (Piece6.heat x)] [vs b_1] ∧ T2 (5 ≤ 5 ∧ 8 ≤ 33554432 ∧ true = true ∧ 5 = 5 ∧ 3 = 3 ∧ T4 (True ∧ ((8 ≤ 8 ∧ NLs [vs q2, vs q3, vs (decB n_1), vs q4, vs (shownB b), vs q5, vs (shownB b_1), vs q8]) ∧ True ∧ True) ∧ true = true ∧ 8 ≤ 140737488355328 ∧ ByteArray.size (joinB (List.map toS [(vs q2), (vs q3), (vs (decB n_1)), (vs q4), (vs (shownB b)), (vs q5), (vs (shownB b_1)), (vs q8)]) q7) ≤ 140737488355328 ∧ True ∧ ByteArray.size (joinB (List.map toS [(vs q2), (vs q3), (vs (decB n_1)), (vs q4), (vs (shownB b)), (vs q5), (vs (shownB b_1)), (vs q8)]) q7) + 1 ≤ 9223372036854775807 ∧ S.size + ByteArray.size (joinB (List.map toS [(vs q2), (vs q3), (vs (decB n_1)), (vs q4), (vs (shownB b)), (vs q5), (vs (shownB b_1)), (vs q8)]) q7 ++ ByteArray.mk #[10]) ≤ 140737488355328 ∧ T4 (True ∧ (T2 (True)) ∧ H q14 q15 q1 (some (S ++ (joinB (List.map toS [(vs q2), (vs q3), (vs (decB n_1)), (vs q4), (vs (shownB b)), (vs q5), (vs (shownB b_1)), (vs q8)]) q7 ++ ByteArray.mk #[10]))))))))))))))) ∧ (pieceAt s_1 id = none → T4 (6 ≤ 6 ∧ T4 (True ∧ 1 ≤ 1 ∧ 4 ≤ 33554432 ∧ true = true ∧ 1 = 1 ∧ 3 = 3 ∧ T4 (((4 ≤ 4 ∧ NLs [vs q2, vs q3, vs (decB n_1), vs q9]) ∧ True ∧ True) ∧ true = true ∧ 4 ≤ 140737488355328 ∧ ByteArray.size (joinB (List.map toS [(vs q2), (vs q3), (vs (decB n_1)), (vs q9)]) q7) ≤ 140737488355328 ∧ True ∧ ByteArray.size (joinB (List.map toS [(vs q2), (vs q3), (vs (decB n_1)), (vs q9)]) q7) + 1 ≤ 9223372036854775807 ∧ S.size + ByteArray.size (joinB (List.map toS [(vs q2), (vs q3), (vs (decB n_1)), (vs q9)]) q7 ++ ByteArray.mk #[10]) ≤ 140737488355328 ∧ T4 ((T2 (True)) ∧ H q14 q15 q1 (some (S ++ (joinB (List.map toS [(vs q2), (vs q3), (vs (decB n_1)), (vs q9)]) q7 ++ ByteArray.mk #[10]))))))))))) (True ∧ 0 < S.size ∧ True ∧ (True ∧ True) ∧ true = true ∧ Post (Out.ret (vs S)) [])) := by kernel_rfl
def vcRm : VCall := tabCall [⟨26, c_text⟩, ⟨27, c_piece⟩, ⟨30, c_weld⟩, ⟨28, c_words⟩, ⟨31, c_howW⟩] noCall
theorem e_rmat (s : StateD) (H : HT) (Post : PV) : vcP Tryz.prog vcRm 8 [(3, [1, 3, 4])] [stateDV s] H Post = (let q2 := StateD.stock s; let q1 := StateD.design s; T4 (True ∧ 10 + ByteArray.size (Design6.hull q1) ≤ 9223372036854775807 ∧ ByteArray.size (ByteArray.mk #[77, 65, 84, 69, 82, 73, 65, 76, 83, 32] ++ Design6.hull q1) + 1 ≤ 9223372036854775807 ∧ T2 (True ∧ (True ∧ True) ∧ H (lpC Tryz.prog 8 3) (lpK Tryz.prog 8 3) (stV [(1, some (pt 0)), (3, some (vs (ByteArray.mk #[77, 65, 84, 69, 82, 73, 65, 76, 83, 32] ++ Design6.hull q1 ++ ByteArray.mk #[10]))), (4, some (vi 0))] [(0, some (AObj.cells [vi (StateD.now s), vs (Design6.hull q1), tree 3 (List.length (Design6.nodes q1)) (encL (Design6.nodes q1)), tree 18 (List.length (Design6.parts q1)) (encL (Design6.parts q1)), tree 6 (List.length (Design6.seams q1)) (encL (Design6.seams q1)), tree 5 (List.length (Design6.packs q1)) (encL (Design6.packs q1)), tree 3 (List.length (Design6.needs q1)) (encL (Design6.needs q1)), tree 1 (List.length (StateD.orders s)) (encL (StateD.orders s)), tree 6 (List.length (Stock2.sheets q2)) (encL (Stock2.sheets q2)), tree 5 (List.length (Stock2.bars q2)) (encL (Stock2.bars q2)), tree 6 (List.length (StateD.pieces s)) (encL (StateD.pieces s)), tree 6 (List.length (StateD.scrap s)) (encL (StateD.scrap s)), tree 8 (List.length (StateD.welds s)) (encL (StateD.welds s)), tree 1 (List.length (StateD.done s)) (encL (StateD.done s)), tree 8 (List.length (StateD.weighs s)) (encL (StateD.weighs s)), tree 3 (List.length (StateD.raised s)) (encL (StateD.raised s)), tree 4 (List.length (StateD.permits s)) (encL (StateD.permits s)), tree 3 (List.length (StateD.tests s)) (encL (StateD.tests s)), vi (StateD.launched s), vi (StateD.delivered s)] true))] 1)))) := by kernel_rfl
theorem l_rmat (s : StateD) (S : ByteArray) (k : Int) (H : HT) (Post : PV) : vcLP Tryz.prog vcRm 8 [stateDV s] [(3, [1, 3, 4])] 3 (stV [(1, some (.pointer (some ⟨0, 0, none⟩))), (3, some (.string S)), (4, some (.int .i64 k))] [(0, some (.cells (stateDC s) true))] 1) H Post = (let q4 := StateD.design s; let q2 := encL (Design6.parts q4); let q25 := toI (cellAt q2 (Int.toNat k) 1); let q24 := StateD.tests s; let q23 := StateD.welds s; let q22 := StateD.scrap s; let q7 := StateD.stock s; let q21 := Stock2.bars q7; let q20 := StateD.raised s; let q19 := StateD.weighs s; let q18 := StateD.pieces s; let q17 := StateD.orders s; let q16 := StateD.permits s; let q15 := Stock2.sheets q7; let q14 := Design6.needs q4; let q13 := Design6.packs q4; let q12 := Design6.seams q4; let q11 := Design6.nodes q4; let q10 := (1, some (pt 0)); let q9 := lpK Tryz.prog 8 3; let q8 := lpC Tryz.prog 8 3; let q6 := List.length (Design6.parts q4); let q5 := (4, some (vi (IntKind.wrap IntKind.i64 (k + 1)))); let q3 := cellAt q2 (Int.toNat k) 0; let q1 := [(0, some (AObj.cells [vi (StateD.now s), vs (Design6.hull q4), tree 3 (List.length q11) (encL q11), tree 18 q6 q2, tree 6 (List.length q12) (encL q12), tree 5 (List.length q13) (encL q13), tree 3 (List.length q14) (encL q14), tree 1 (List.length q17) (encL q17), tree 6 (List.length q15) (encL q15), tree 5 (List.length q21) (encL q21), tree 6 (List.length q18) (encL q18), tree 6 (List.length q22) (encL q22), tree 8 (List.length q23) (encL q23), tree 1 (List.length (StateD.done s)) (encL (StateD.done s)), tree 8 (List.length q19) (encL q19), tree 3 (List.length q20) (encL q20), tree 4 (List.length q16) (encL q16), tree 3 (List.length q24) (encL q24), vi (StateD.launched s), vi (StateD.delivered s)] true))]; T4 (T2 (pIf (decide (k < (↑q6 : Int))) (T4 ((0 ≤ k ∧ k < (↑q6 : Int)) ∧ (cellAt q2 (Int.toNat k) 0 = vs (toS q3) ∧ cellAt q2 (Int.toNat k) 1 = vi q25 ∧ cellAt q2 (Int.toNat k) 2 = vi (toI (cellAt q2 (Int.toNat k) 2)) ∧ cellAt q2 (Int.toNat k) 3 = vs (toS (cellAt q2 (Int.toNat k) 3)) ∧ cellAt q2 (Int.toNat k) 4 = vs (toS (cellAt q2 (Int.toNat k) 4)) ∧ cellAt q2 (Int.toNat k) 5 = vi (toI (cellAt q2 (Int.toNat k) 5)) ∧ cellAt q2 (Int.toNat k) 6 = tree 2 (toN (cellAt q2 (Int.toNat k) 6)) (toE (cellAt q2 (Int.toNat k) 6)) ∧ cellAt q2 (Int.toNat k) 7 = tree 1 (toN (cellAt q2 (Int.toNat k) 7)) (toE (cellAt q2 (Int.toNat k) 7)) ∧ cellAt q2 (Int.toNat k) 8 = vs (toS (cellAt q2 (Int.toNat k) 8)) ∧ cellAt q2 (Int.toNat k) 9 = vi (toI (cellAt q2 (Int.toNat k) 9)) ∧ cellAt q2 (Int.toNat k) 10 = vi (toI (cellAt q2 (Int.toNat k) 10)) ∧ cellAt q2 (Int.toNat k) 11 = vi (toI (cellAt q2 (Int.toNat k) 11)) ∧ cellAt q2 (Int.toNat k) 12 = vi (toI (cellAt q2 (Int.toNat k) 12)) ∧ cellAt q2 (Int.toNat k) 13 = vi (toI (cellAt q2 (Int.toNat k) 13)) ∧ cellAt q2 (Int.toNat k) 14 = vi (toI (cellAt q2 (Int.toNat k) 14)) ∧ cellAt q2 (Int.toNat k) 15 = vi (toI (cellAt q2 (Int.toNat k) 15)) ∧ cellAt q2 (Int.toNat k) 16 = vi (toI (cellAt q2 (Int.toNat k) 16)) ∧ cellAt q2 (Int.toNat k) 17 = vi (toI (cellAt q2 (Int.toNat k) 17)) ∧ True) ∧ True ∧ 18 ≤ 18 ∧ T2 (True ∧ S.size + ByteArray.size (toS q3) ≤ 9223372036854775807 ∧ ByteArray.size (S ++ toS q3) + 5 ≤ 9223372036854775807 ∧ T2 (∃ (n : Int), eqL [vi q25] [vi n] ∧ (-9223372036854775808 ≤ n ∧ n < 9223372036854775808) ∧ True ∧ ByteArray.size (S ++ toS q3 ++ ByteArray.mk #[32, 114, 101, 118, 32]) + ByteArray.size (decB n) ≤ 9223372036854775807 ∧ T4 (∃ (s_1 : StateD), ∃ (id : ByteArray), eqL [Value.agg #[vi (StateD.now s), vs (Design6.hull q4), tree 3 (List.length q11) (encL q11), tree 18 q6 q2, tree 6 (List.length q12) (encL q12), tree 5 (List.length q13) (encL q13), tree 3 (List.length q14) (encL q14), tree 1 (List.length q17) (encL q17), tree 6 (List.length q15) (encL q15), tree 5 (List.length q21) (encL q21), tree 6 (List.length q18) (encL q18), tree 6 (List.length q22) (encL q22), tree 8 (List.length q23) (encL q23), tree 1 (List.length (StateD.done s)) (encL (StateD.done s)), tree 8 (List.length q19) (encL q19), tree 3 (List.length q20) (encL q20), tree 4 (List.length q16) (encL q16), tree 3 (List.length q24) (encL q24), vi (StateD.launched s), vi (StateD.delivered s)], vs (toS q3)] [stateDV s_1, vs id] ∧ List.length (StateD.pieces s_1) ≤ 1048576 ∧ (∀ (x : Piece6), pieceAt s_1 id = some x → T4 (6 ≤ 6 ∧ T4 (T2 (True ∧ pIf (decide (Piece6.state x = 1)) (T4 (pIf (decide (Piece6.state x = 2)) (T2 (ByteArray.size (S ++ toS q3 ++ ByteArray.mk #[32, 114, 101, 118, 32] ++ decB n) + 6 ≤ 9223372036854775807 ∧ T4 (True ∧ ∃ (b : ByteArray), eqL [vs (Piece6.from_ x)] [vs b] ∧ True ∧ ByteArray.size (S ++ toS q3 ++ ByteArray.mk #[32, 114, 101, 118, 32] ++ decB n ++ ByteArray.mk #[32, 102, 114, 111, 109, 32]) + ByteArray.size (shownB b) ≤ 9223372036854775807 ∧ ByteArray.size (S ++ toS q3 ++ ByteArray.mk #[32, 114, 101, 118, 32] ++ decB n ++ ByteArray.mk #[32, 102, 114, 111, 109, 32] ++ shownB b) + 6 ≤ 9223372036854775807 ∧ ∃ (b_1 : ByteArray), eqL [vs (Piece6.heat x)] [vs b_1] ∧ True ∧ ByteArray.size (S ++ toS q3 ++ ByteArray.mk #[32, 114, 101, 118, 32] ++ decB n ++ ByteArray.mk #[32, 102, 114, 111, 109, 32] ++ shownB b ++ ByteArray.mk #[32, 104, 101, 97, 116, 32]) + ByteArray.size (shownB b_1) ≤ 9223372036854775807 ∧ ByteArray.size (S ++ toS q3 ++ ByteArray.mk #[32, 114, 101, 118, 32] ++ decB n ++ ByteArray.mk #[32, 102, 114, 111, 109, 32] ++ shownB b ++ ByteArray.mk #[32, 104, 101, 97, 116, 32] ++ shownB b_1) + 1 ≤ 9223372036854775807 ∧ ByteArray.size (S ++ toS q3 ++ ByteArray.mk #[32, 114, 101, 118, 32] ++ decB n ++ ByteArray.mk #[32, 102, 114, 111, 109, 32] ++ shownB b ++ ByteArray.mk #[32, 104, 101, 97, 116, 32] ++ shownB b_1 ++ ByteArray.mk #[32]) + 6 ≤ 9223372036854775807 ∧ ByteArray.size (S ++ toS q3 ++ ByteArray.mk #[32, 114, 101, 118, 32] ++ decB n ++ ByteArray.mk #[32, 102, 114, 111, 109, 32] ++ shownB b ++ ByteArray.mk #[32, 104, 101, 97, 116, 32] ++ shownB b_1 ++ ByteArray.mk #[32] ++ ByteArray.mk #[102, 105, 116, 116, 101, 100]) + 1 ≤ 9223372036854775807 ∧ T4 (True ∧ (True ∧ True) ∧ H q8 q9 (stV [q10, (3, some (vs (S ++ toS q3 ++ ByteArray.mk #[32, 114, 101, 118, 32] ++ decB n ++ ByteArray.mk #[32, 102, 114, 111, 109, 32] ++ shownB b ++ ByteArray.mk #[32, 104, 101, 97, 116, 32] ++ shownB b_1 ++ ByteArray.mk #[32] ++ ByteArray.mk #[102, 105, 116, 116, 101, 100] ++ ByteArray.mk #[10]))), q5] q1 1))))) (True ∧ ByteArray.size (S ++ toS q3 ++ ByteArray.mk #[32, 114, 101, 118, 32] ++ decB n) + 6 ≤ 9223372036854775807 ∧ T4 (True ∧ ∃ (b : ByteArray), eqL [vs (Piece6.from_ x)] [vs b] ∧ True ∧ ByteArray.size (S ++ toS q3 ++ ByteArray.mk #[32, 114, 101, 118, 32] ++ decB n ++ ByteArray.mk #[32, 102, 114, 111, 109, 32]) + ByteArray.size (shownB b) ≤ 9223372036854775807 ∧ ByteArray.size (S ++ toS q3 ++ ByteArray.mk #[32, 114, 101, 118, 32] ++ decB n ++ ByteArray.mk #[32, 102, 114, 111, 109, 32] ++ shownB b) + 6 ≤ 9223372036854775807 ∧ ∃ (b_1 : ByteArray), eqL [vs (Piece6.heat x)] [vs b_1] ∧ True ∧ ByteArray.size (S ++ toS q3 ++ ByteArray.mk #[32, 114, 101, 118, 32] ++ decB n ++ ByteArray.mk #[32, 102, 114, 111, 109, 32] ++ shownB b ++ ByteArray.mk #[32, 104, 101, 97, 116, 32]) + ByteArray.size (shownB b_1) ≤ 9223372036854775807 ∧ ByteArray.size (S ++ toS q3 ++ ByteArray.mk #[32, 114, 101, 118, 32] ++ decB n ++ ByteArray.mk #[32, 102, 114, 111, 109, 32] ++ shownB b ++ ByteArray.mk #[32, 104, 101, 97, 116, 32] ++ shownB b_1) + 1 ≤ 9223372036854775807 ∧ ByteArray.size (S ++ toS q3 ++ ByteArray.mk #[32, 114, 101, 118, 32] ++ decB n ++ ByteArray.mk #[32, 102, 114, 111, 109, 32] ++ shownB b ++ ByteArray.mk #[32, 104, 101, 97, 116, 32] ++ shownB b_1 ++ ByteArray.mk #[32]) + 3 ≤ 9223372036854775807 ∧ ByteArray.size (S ++ toS q3 ++ ByteArray.mk #[32, 114, 101, 118, 32] ++ decB n ++ ByteArray.mk #[32, 102, 114, 111, 109, 32] ++ shownB b ++ ByteArray.mk #[32, 104, 101, 97, 116, 32] ++ shownB b_1 ++ ByteArray.mk #[32] ++ ByteArray.mk #[99, 117, 116]) + 1 ≤ 9223372036854775807 ∧ T4 (True ∧ (True ∧ True) ∧ H q8 q9 (stV [q10, (3, some (vs (S ++ toS q3 ++ ByteArray.mk #[32, 114, 101, 118, 32] ++ decB n ++ ByteArray.mk #[32, 102, 114, 111, 109, 32] ++ shownB b ++ ByteArray.mk #[32, 104, 101, 97, 116, 32] ++ shownB b_1 ++ ByteArray.mk #[32] ++ ByteArray.mk #[99, 117, 116] ++ ByteArray.mk #[10]))), q5] q1 1)))))) (T2 (True ∧ pIf (decide (Piece6.state x = 2)) (T2 (ByteArray.size (S ++ toS q3 ++ ByteArray.mk #[32, 114, 101, 118, 32] ++ decB n) + 6 ≤ 9223372036854775807 ∧ T4 (True ∧ ∃ (b : ByteArray), eqL [vs (Piece6.from_ x)] [vs b] ∧ True ∧ ByteArray.size (S ++ toS q3 ++ ByteArray.mk #[32, 114, 101, 118, 32] ++ decB n ++ ByteArray.mk #[32, 102, 114, 111, 109, 32]) + ByteArray.size (shownB b) ≤ 9223372036854775807 ∧ ByteArray.size (S ++ toS q3 ++ ByteArray.mk #[32, 114, 101, 118, 32] ++ decB n ++ ByteArray.mk #[32, 102, 114, 111, 109, 32] ++ shownB b) + 6 ≤ 9223372036854775807 ∧ ∃ (b_1 : ByteArray), eqL [vs (Piece6.heat x)] [vs b_1] ∧ True ∧ ByteArray.size (S ++ toS q3 ++ ByteArray.mk #[32, 114, 101, 118, 32] ++ decB n ++ ByteArray.mk #[32, 102, 114, 111, 109, 32] ++ shownB b ++ ByteArray.mk #[32, 104, 101, 97, 116, 32]) + ByteArray.size (shownB b_1) ≤ 9223372036854775807 ∧ ByteArray.size (S ++ toS q3 ++ ByteArray.mk #[32, 114, 101, 118, 32] ++ decB n ++ ByteArray.mk #[32, 102, 114, 111, 109, 32] ++ shownB b ++ ByteArray.mk #[32, 104, 101, 97, 116, 32] ++ shownB b_1) + 1 ≤ 9223372036854775807 ∧ ByteArray.size (S ++ toS q3 ++ ByteArray.mk #[32, 114, 101, 118, 32] ++ decB n ++ ByteArray.mk #[32, 102, 114, 111, 109, 32] ++ shownB b ++ ByteArray.mk #[32, 104, 101, 97, 116, 32] ++ shownB b_1 ++ ByteArray.mk #[32]) + 6 ≤ 9223372036854775807 ∧ ByteArray.size (S ++ toS q3 ++ ByteArray.mk #[32, 114, 101, 118, 32] ++ decB n ++ ByteArray.mk #[32, 102, 114, 111, 109, 32] ++ shownB b ++ ByteArray.mk #[32, 104, 101, 97, 116, 32] ++ shownB b_1 ++ ByteArray.mk #[32] ++ ByteArray.mk #[102, 105, 116, 116, 101, 100]) + 1 ≤ 9223372036854775807 ∧ T4 (True ∧ (True ∧ True) ∧ H q8 q9 (stV [q10, (3, some (vs (S ++ toS q3 ++ ByteArray.mk #[32, 114, 101, 118, 32] ++ decB n ++ ByteArray.mk #[32, 102, 114, 111, 109, 32] ++ shownB b ++ ByteArray.mk #[32, 104, 101, 97, 116, 32] ++ shownB b_1 ++ ByteArray.mk #[32] ++ ByteArray.mk #[102, 105, 116, 116, 101, 100] ++ ByteArray.mk #[10]))), q5] q1 1))))) (True ∧ ByteArray.size (S ++ toS q3 ++ ByteArray.mk #[32, 114, 101, 118, 32] ++ decB n) + 6 ≤ 9223372036854775807 ∧ T4 (True ∧ ∃ (b : ByteArray), eqL [vs (Piece6.from_ x)] [vs b] ∧ True ∧ ByteArray.size (S ++ toS q3 ++ ByteArray.mk #[32, 114, 101, 118, 32] ++ decB n ++ ByteArray.mk #[32, 102, 114, 111, 109, 32]) + ByteArray.size (shownB b) ≤ 9223372036854775807 ∧ ByteArray.size (S ++ toS q3 ++ ByteArray.mk #[32, 114, 101, 118, 32] ++ decB n ++ ByteArray.mk #[32, 102, 114, 111, 109, 32] ++ shownB b) + 6 ≤ 9223372036854775807 ∧ ∃ (b_1 : ByteArray), eqL [vs (Piece6.heat x)] [vs b_1] ∧ True ∧ ByteArray.size (S ++ toS q3 ++ ByteArray.mk #[32, 114, 101, 118, 32] ++ decB n ++ ByteArray.mk #[32, 102, 114, 111, 109, 32] ++ shownB b ++ ByteArray.mk #[32, 104, 101, 97, 116, 32]) + ByteArray.size (shownB b_1) ≤ 9223372036854775807 ∧ ByteArray.size (S ++ toS q3 ++ ByteArray.mk #[32, 114, 101, 118, 32] ++ decB n ++ ByteArray.mk #[32, 102, 114, 111, 109, 32] ++ shownB b ++ ByteArray.mk #[32, 104, 101, 97, 116, 32] ++ shownB b_1) + 1 ≤ 9223372036854775807 ∧ ByteArray.size (S ++ toS q3 ++ ByteArray.mk #[32, 114, 101, 118, 32] ++ decB n ++ ByteArray.mk #[32, 102, 114, 111, 109, 32] ++ shownB b ++ ByteArray.mk #[32, 104, 101, 97, 116, 32] ++ shownB b_1 ++ ByteArray.mk #[32]) + 7 ≤ 9223372036854775807 ∧ ByteArray.size (S ++ toS q3 ++ ByteArray.mk #[32, 114, 101, 118, 32] ++ decB n ++ ByteArray.mk #[32, 102, 114, 111, 109, 32] ++ shownB b ++ ByteArray.mk #[32, 104, 101, 97, 116, 32] ++ shownB b_1 ++ ByteArray.mk #[32] ++ ByteArray.mk #[117, 110, 107, 110, 111, 119, 110]) + 1 ≤ 9223372036854775807 ∧ T4 (True ∧ (True ∧ True) ∧ H q8 q9 (stV [q10, (3, some (vs (S ++ toS q3 ++ ByteArray.mk #[32, 114, 101, 118, 32] ++ decB n ++ ByteArray.mk #[32, 102, 114, 111, 109, 32] ++ shownB b ++ ByteArray.mk #[32, 104, 101, 97, 116, 32] ++ shownB b_1 ++ ByteArray.mk #[32] ++ ByteArray.mk #[117, 110, 107, 110, 111, 119, 110] ++ ByteArray.mk #[10]))), q5] q1 1)))))))))) ∧ (pieceAt s_1 id = none → T4 (6 ≤ 6 ∧ T4 (ByteArray.size (S ++ toS q3 ++ ByteArray.mk #[32, 114, 101, 118, 32] ++ decB n) + 9 ≤ 9223372036854775807 ∧ T4 (True ∧ (True ∧ True) ∧ H q8 q9 (stV [q10, (3, some (vs (S ++ toS q3 ++ ByteArray.mk #[32, 114, 101, 118, 32] ++ decB n ++ ByteArray.mk #[32, 109, 105, 115, 115, 105, 110, 103, 10]))), q5] q1 1)))))))))) (T2 (True ∧ Post (vs S)))))) := by kernel_rfl
end Go.Proofs.YtojlhapbngcjkaaGreatDoor
