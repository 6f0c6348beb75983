/-
  Put together out of several texts, each in its own namespace's block. Conditions: as each theorem states them.
-/
import Derived.Test.YtojlhapbngcjkaaGreatDoorQSi
import Derived.Recover
noncomputable section
namespace Go.Proofs.YtojlhapbngcjkaaGreatDoor
open Go Go.RowKit
inductive Out where
 | ret (v : Value)
 | pan (v : Value)
abbrev PCall := FuncId → List Value → Tr AObj → Nat → (Out → Tr AObj → Nat → Prop) → Prop
def Out.Ends (ρ : Place) (r : Out) (e : Ending) : Prop :=
 match r with
 | .ret v => ∃ v', e = .returned v' ∧ VR ρ v v'
 | .pan v => ∃ v', e = .panicked [{ v := v', recovered := false }] ∧ VR ρ v v'
def PCallOk (P : Program) (pc : PCall) : Prop :=
 ∀ f args hp nx K, pc f args hp nx K → ∀ (W : Base) ρ w args', Rel ρ W hp nx w → VRL ρ args args' →
  Calls P f args'.toArray w fun e w' => ∃ r hp' nx' ρ', K r hp' nx' ∧ r.Ends ρ' e ∧ Rel ρ' W hp' nx' w' ∧ Step ρ ρ' hp hp' nx nx'
def ofV (vc : VCall) : PCall := fun f args hp nx K => vc f args hp nx fun v _ hp' nx' => K (.ret v) hp' nx'
def onRet (K : Value → Bool → Tr AObj → Nat → Prop) (r : Out) (hp : Tr AObj) (nx : Nat) : Prop :=
 match r with
 | .ret v => K v true hp nx
 | .pan _ => False
def toV (pc : PCall) : VCall := fun f args hp nx K => pc f args hp nx (onRet K)
theorem ofV_ok {P : Program} {vc : VCall} (h : VCallOk P vc) : PCallOk P (ofV vc) := fun f args hp nx K hs W ρ w args' hr ha =>
 (h f args hp nx _ hs W ρ w args' hr ha).mono fun _ _ ⟨v, _, hp', nx', v', ρ', k, _, e, g1, g2, g3⟩ => ⟨.ret v, hp', nx', ρ', k, ⟨v', e, g1⟩, g2, g3⟩
theorem toV_ok {P : Program} {pc : PCall} (h : PCallOk P pc) : VCallOk P (toV pc) := fun f args hp nx K hs W ρ w args' hr ha =>
 (h f args hp nx _ hs W ρ w args' hr ha).mono fun _ _ ⟨r, hp', nx', ρ', k, e, g2, g3⟩ => by
  cases r with
  | ret v => obtain ⟨v', e, g1⟩ := e; exact ⟨v, true, hp', nx', v', ρ', k, fun e => (by cases e), e, g1, g2, g3⟩
  | pan v => exact k.elim
def pheavy (P : Program) (pc : PCall) (hp : Tr AObj) (nx : Nat) (o : Oper) (ev : Operand → Option Value) (K : Out → Tr AObj → Nat → Prop) : Prop :=
 match o.op with
 | .panic x => match ev x with
  | some (.iface t v) => K (.pan (.iface t v)) hp nx
  | _ => False
 | .call c => match c.callee with
  | .value f => match ev f, evL ev c.args.toList with
   | some (.func (.func k) first captured), some args => bif enters P k then pc k (first.toList ++ args ++ captured.toList) hp nx K else False
   | _, _ => False
  | .invoke x name => match ev x, evL ev c.args.toList with
   | some (.iface t v), some args => match aMethod P t name with
    | some k => bif enters P k then pc k (v :: args) hp nx K else False
    | none => False
   | _, _ => False
  | .builtin .panic => match c.args.toList with
   | [x] => match ev x with
    | some (.iface t v) => K (.pan (.iface t v)) hp nx
    | _ => False
   | _ => False
  | _ => vheavy P (toV pc) hp nx o ev fun v _ hp' nx' => K (.ret v) hp' nx'
 | _ => vheavy P (toV pc) hp nx o ev fun v _ hp' nx' => K (.ret v) hp' nx'
theorem pheavy_sound {P : Program} {pc : PCall} {ρ : Place} {W : Base} (hcall : PCallOk P pc) {hp : Tr AObj} {nx : Nat} {w : World} (h : Rel ρ W hp nx w) {ev : Operand → Option Value} {a : Act} (hF : ERel ρ ev a) {o : Oper} {K : Out → Tr AObj → Nat → Prop}
  (hs : pheavy P pc hp nx o ev K) {next : Act → World → Prop} {Q : Exit → Act → World → Prop}
  (hk : ∀ v hp' nx' v' w' ρ', K (.ret v) hp' nx' → VR ρ' v v' → Rel ρ' W hp' nx' w' → Step ρ ρ' hp hp' nx nx' → next (a.put o.dst v') w')
  (hq : ∀ v hp' nx' v' w' ρ', K (.pan v) hp' nx' → VR ρ' v v' → Rel ρ' W hp' nx' w' → Step ρ ρ' hp hp' nx nx' → Q (.panic [{ v := v', recovered := false }]) a w') : o.wp P a w next Q := by
 have base : (vheavy P (toV pc) hp nx o ev fun v _ hp' nx' => K (.ret v) hp' nx') → o.wp P a w next Q := fun hb =>
  vheavy_sound (toV_ok hcall) h hF hb fun v _ hp' nx' v' w' ρ' k _ g1 g2 g3 => hk v hp' nx' v' w' ρ' k g1 g2 g3
 have ends : ∀ (k : FuncId) (args args' : List Value), pc k args hp nx K → VRL ρ args args' → (execOp a.eval o).run P w = .ok (.enter k args'.toArray) w → o.wp P a w next Q := by
  intro k args args' hc hA hrun
  unfold Oper.wp
  rw [hrun]
  refine (hcall k args hp nx K hc W ρ w _ h hA).mono ?_
  rintro e w' ⟨r, hp', nx', ρ', hK, he, g2, g3⟩
  cases r with
  | ret v => obtain ⟨v', rfl, g1⟩ := he; exact hk v hp' nx' v' w' ρ' hK g1 g2 g3
  | pan v => obtain ⟨v', rfl, g1⟩ := he; exact hq v hp' nx' v' w' ρ' hK g1 g2 g3
 have pans : ∀ (t : TypeId) (u : Value) (X : Value), VR ρ (.iface t u) X → K (.pan (.iface t u)) hp nx → (execOp a.eval o).run P w = ((Instr.panic X) >>= fun r => pure (Next.value r)).run P w → o.wp P a w next Q := by
  intro t u X hX hK hrun
  unfold Oper.wp
  rw [hrun]
  cases hX with
  | iface _ hu => exact hq _ _ _ _ _ ρ hK (.iface t hu) h (.refl _ _ _)
 obtain ⟨dst, op, type, pos, after, guard⟩ := o
 unfold pheavy at hs
 cases op <;> dsimp only at hs <;> try exact base hs
 case panic x =>
  split at hs
  case h_2 => exact hs.elim
  rename_i t u hx
  exact pans t u _ (hF.eval hx) hs rfl
 case call c =>
  obtain ⟨callee, args, argTypes⟩ := c
  dsimp only at hs
  split at hs
  ·rename_i f
   split at hs
   case h_2 => exact hs.elim
   rename_i k first captured as0 hf has
   cases he : enters P k with
   | false => rw [he] at hs; exact hs.elim
   | true =>
    rw [he, cond_true] at hs
    have hfv := hF.eval hf
    generalize hE : a.eval f = E at hfv
    cases hfv
    rename_i first' captured' s1 v1 s2 v2
    have hA := evL_sound hF has
    have hL := ((VRA.list ⟨s1, v1⟩).append hA).append (VRA.list ⟨s2, v2⟩)
    refine ends k _ _ hs hL ?_
    have e2 : (first'.toList ++ args.toList.map a.eval ++ captured'.toList).toArray = first' ++ args.map a.eval ++ captured' := by apply Array.ext'; simp
    rw [e2]
    unfold execOp
    simp only [resolve, hE]
    show (callFunc k (first' ++ args.map a.eval ++ captured')).run P w = _
    exact pureRun_run (enters_run he _) w
  ·rename_i x name
   split at hs
   case h_2 => exact hs.elim
   rename_i t v as0 hx has
   split at hs
   case h_2 => exact hs.elim
   rename_i k hm
   cases he : enters P k with
   | false => rw [he] at hs; exact hs.elim
   | true =>
    rw [he, cond_true] at hs
    have hxv := hF.eval hx
    have hA := evL_sound hF has
    generalize hE : a.eval x = E at hxv
    cases hxv with
    | @iface _ _ v' hv =>
     refine ends k (v :: as0) (v' :: args.toList.map a.eval) hs (.cons hv hA) ?_
     have hpos : ∃ j, P.types.size + Made.depth = j + 1 := ⟨P.types.size + Made.depth - 1, by (have : 0 < Made.depth := by decide); omega⟩
     obtain ⟨j, hj⟩ := hpos
     have e2 : (v' :: args.toList.map a.eval).toArray = #[v'] ++ args.map a.eval := by apply Array.ext'; simp
     have e3 : (#[Value.iface t v'] ++ args.map a.eval).extract 1 (#[Value.iface t v'] ++ args.map a.eval).size = args.map a.eval := by
      apply Array.ext'
      simp
      exact List.take_of_length_le (by simp)
     have e0 : (#[Value.iface t v'] ++ args.map a.eval)[0]? = some (.iface t v') := by rw [Array.getElem?_append_left (Nat.zero_lt_one)]; rfl
     rw [e2]
     unfold execOp
     simp only [resolve, hE]
     show (invoke (.fn (.method name) #[]) (#[Value.iface t v'] ++ args.map a.eval)).run P w = _
     unfold invoke
     dsimp only
     rw [e0]
     dsimp only
     rw [e3]
     unfold callMethod
     dsimp only
     have hprog : pureRun P program = some P := rfl
     rw [bind_run hprog]
     rw [hj]
     rw [bind_run (aMethod_run hm v' j)]
     exact pureRun_run (enters_run he _) w
  ·split at hs
   case h_2 => exact hs.elim
   rename_i x hargs
   split at hs
   case h_2 => exact hs.elim
   rename_i t u hx
   refine pans t u _ (hF.eval hx) hs ?_
   have : args = #[x] := by apply Array.ext'; simpa using hargs
   subst this
   have e1 : (#[x].map a.eval) = #[a.eval x] := by simp
   unfold execOp
   simp only [resolve, e1]
   rfl
  ·exact base hs
def isPan : Op → Bool
 | .panic _ => true
 | .call c => match c.callee with
  | .builtin .panic | .invoke _ _ => true
  | _ => false
 | _ => false
def vseqP (P : Program) (pc : PCall) (ops : Array Oper) (n : Nat) : List Oper → AS → (AS → Prop) → (Value → AS → Prop) → Prop
 | [], st, K, _ => K st
 | o :: l, st, K, X => vguard ops st.tm o
   (bif isHeavy o.op || isPan o.op then pheavy P pc st.hp st.nx o (aev st.tm) fun r hp' nx' => match r with
     | .ret v => vsplit v fun v => match aput n st.tm o.dst v with
      | some tm' => vseqP P pc ops n l ⟨tm', hp', nx'⟩ K X
      | none => False
     | .pan v => X v ⟨st.tm, hp', nx'⟩
    else match slight P st.hp o (aev st.tm) with
     | some (.val v, ob) => ob ∧ vsplit v fun v => match aput n st.tm o.dst v with
      | some tm' => vseqP P pc ops n l ⟨tm', st.hp, st.nx⟩ K X
      | none => False
     | some (.new b nv, ob) => match aput n st.tm o.dst (nv.val st.nx) with
      | some tm' => ob ∧ vseqP P pc ops n l ⟨tm', st.hp.put st.nx (some b), st.nx + 1⟩ K X
      | none => False
     | none => False)
   (match aput n st.tm o.dst undef with
    | some tm' => vseqP P pc ops n l ⟨tm', st.hp, st.nx⟩ K X
    | none => False)
theorem vseqP_sound {P : Program} {pc : PCall} {W : Base} (hcall : PCallOk P pc) {ops : Array Oper} {n : Nat} {Q : Exit → Act → World → Prop} : ∀ (l : List Oper) (k : Nat) (st : AS) (K : AS → Prop) (X : Value → AS → Prop) (ρ : Place) (a : Act) (w : World), ops.toList.drop k = l →
  SRel ρ W n st a w → vseqP P pc ops n l st K X → (∀ st', K st' → ∀ a' w' ρ', SRel ρ' W n st' a' w' → Step ρ ρ' st.hp st'.hp st.nx st'.nx → Q .normal a' w') →
  (∀ v st', X v st' → ∀ v' a' w' ρ', VR ρ' v v' → SRel ρ' W n st' a' w' → Step ρ ρ' st.hp st'.hp st.nx st'.nx → Q (.panic [{ v := v', recovered := false }]) a' w') → wpOps P ops Q (List.range' k l.length) a w
 | [], k, st, K, X, ρ, a, w, _, h, hs, hk, _ => by
  simp only [vseqP] at hs
  exact hk st hs a w ρ h (.refl _ _ _)
 | o :: l, k, st, K, X, ρ, a, w, hd, h, hs, hk, hx => by
  simp only [vseqP] at hs
  have hi : ops[k]? = some o := by
   have : (ops.toList.drop k)[0]? = some o := by rw [hd]; rfl
   rw [List.getElem?_drop] at this
   simpa using this
  have next : ∀ (st1 : AS) (a1 : Act) (w1 : World) (ρ1 : Place), SRel ρ1 W n st1 a1 w1 → Step ρ ρ1 st.hp st1.hp st.nx st1.nx → vseqP P pc ops n l st1 K X → wpOps P ops Q (List.range' (k + 1) l.length) a1 w1 :=
   fun st1 a1 w1 ρ1 hr hst hv => vseqP_sound hcall l (k + 1) st1 K X ρ1 a1 w1 (by rw [← List.drop_drop, hd]; rfl) hr hv (fun st' hK a' w' ρ' g1 g2 => hk st' hK a' w' ρ' g1 (hst.trans g2)) (fun v st' hX v' a' w' ρ' g0 g1 g2 => hx v st' hX v' a' w' ρ' g0 g1 (hst.trans g2))
  rw [List.length_cons, List.range'_succ, wpOps_cons]
  unfold wpOp
  simp only [hi]
  rcases vguard_cases hs with ⟨hw, hs⟩ | ⟨hw, hs⟩
  ·rw [awanted_sound h.frame hw, if_pos rfl]
   refine .inl ?_
   cases hh : isHeavy o.op || isPan o.op with
   | true =>
    rw [hh, cond_true] at hs
    refine pheavy_sound hcall h.rel h.frame.ev hs (fun v hp' nx' v' w' ρ' hK q1 q2 q3 => ?_) (fun v hp' nx' v' w' ρ' hK q1 q2 q3 => ?_)
    ·dsimp only at hK
     replace hK := vsplit_ap hK
     split at hK
     case h_2 => exact hK.elim
     rename_i tm' ht
     exact next ⟨tm', hp', nx'⟩ _ _ ρ' ⟨q2, aput_sound (h.frame.mono q3.le) ht q1⟩ q3 hK
    ·exact hx v _ hK v' a w' ρ' q1 ⟨q2, h.frame.mono q3.le⟩ q3
   | false =>
    rw [hh, cond_false] at hs
    split at hs
    ·rename_i v ob hv
     obtain ⟨hob, hs⟩ := hs
     replace hs := vsplit_ap hs
     split at hs
     case h_2 => exact hs.elim
     rename_i tm' ht
     obtain ⟨v', h1, h2⟩ := slight_sound (r := .val v) h.rel h.frame.ev hv hob
     unfold Oper.wp
     rw [h1]
     exact next ⟨tm', st.hp, st.nx⟩ _ _ ρ ⟨h.rel, aput_sound h.frame ht h2⟩ (.refl _ _ _) hs
    ·rename_i ob nv obp hv
     split at hs
     case h_2 => exact hs.elim
     rename_i tm' ht
     obtain ⟨v', ob', d, z, h1, h2, h3⟩ := slight_sound (r := .new ob nv) h.rel h.frame.ev hv hs.1
     unfold Oper.wp
     rw [h1]
     have hrel := ((h.rel.at_drawn d).reserve ob).realize (b := st.nx) (z := z) (ob := ob') (by omega) h.rel.dom_none (by rw [Tr.get_put, if_pos rfl]) (h2 _ h.rel.below.fresh)
     have hle := Place.le_set (x := (w.heap.size, 0, z)) h.rel.dom_none
     exact next ⟨tm', st.hp.put st.nx (some ob), st.nx + 1⟩ _ _ _ ⟨hrel, aput_sound (h.frame.mono hle) ht (h3 _ _ (Place.set_same ρ st.nx _))⟩ ⟨hle, Nat.le_succ _, fun b hb hr => ⟨by rw [Place.set_other (by omega)]; exact hr, by show (st.hp.put st.nx (some ob)).get b = _; rw [Tr.get_put, if_neg (by omega)]⟩⟩ hs.2
    ·exact hs.elim
  ·rw [awanted_sound h.frame hw, if_neg (by simp)]
   split at hs
   case h_2 => exact hs.elim
   rename_i tm' ht
   exact next ⟨tm', st.hp, st.nx⟩ _ _ ρ ⟨h.rel, aput_sound h.frame ht (closed_refl (by simp [undef, closed]))⟩ (.refl _ _ _) hs
theorem pheavy_congr {P : Program} {pc : PCall} {hp : Tr AObj} {nx : Nat} {o : Oper} {ev ev' : Operand → Option Value} {K : Out → Tr AObj → Nat → Prop} (h : ∀ x ∈ o.op.operands, ev x = ev' x) : pheavy P pc hp nx o ev K = pheavy P pc hp nx o ev' K := by
 have hb : (vheavy P (toV pc) hp nx o ev fun v _ hp' nx' => K (.ret v) hp' nx') = (vheavy P (toV pc) hp nx o ev' fun v _ hp' nx' => K (.ret v) hp' nx') := vheavy_congr h
 obtain ⟨dst, op, type, pos, after, guard⟩ := o
 unfold pheavy
 cases op <;> dsimp only <;> try exact hb
 case panic x => rw [h x (by simp [Op.operands])]
 case call c =>
  obtain ⟨callee, args, argTypes⟩ := c
  dsimp only
  have hA : evL ev args.toList = evL ev' args.toList := evL_congr fun x hx => h x (by simp [Op.operands, Call.operands]; exact .inr (by simpa using hx))
  split
  ·rename_i f
   rw [hA, h f (by simp [Op.operands, Call.operands])]
  ·rename_i x name
   rw [hA, h x (by simp [Op.operands, Call.operands])]
  ·split
   ·rename_i x hargs
    rw [h x (by
     have : x ∈ args := by (have : x ∈ args.toList := by rw [hargs]; simp); simpa using this
     simp [Op.operands, Call.operands, this])]
   ·rfl
  ·exact hb
def vdrawP (P : Program) (pc : PCall) (ops : Array Oper) (n : Nat) : Nat → Array Bool → AS → List Rd → (AS → Prop) → (Value → AS → Prop) → Prop
 | 0, listed, st, _, K, _ => match Region.ready .any ops listed with
  | [] => K st
  | _ => False
 | f + 1, listed, st, rds, K, X => match Region.ready .any ops listed with
  | [] => K st
  | r :: rs => match (r :: rs).find? (lightIdx ops) with
   | some i => match ops[i]? with
    | some o => vguard ops st.tm o
      (match slight P st.hp o (aev st.tm) with
      | some (.val v, ob) => ob ∧ vsplit v fun v => match aput n st.tm o.dst v with
       | some tm' => vdrawP P pc ops n f (listed.setIfInBounds i true) ⟨tm', st.hp, st.nx⟩ (bif isRead o (aev st.tm) then ⟨i, o, st.tm, v⟩ :: rds else rds) K X
       | none => False
      | some (.new b nv, ob) => match aput n st.tm o.dst (nv.val st.nx) with
       | some tm' => bif isRead o (aev st.tm) then False else ob ∧ vdrawP P pc ops n f (listed.setIfInBounds i true) ⟨tm', st.hp.put st.nx (some b), st.nx + 1⟩ rds K X
       | none => False
      | none => False)
      (match aput n st.tm o.dst undef with
      | some tm' => vdrawP P pc ops n f (listed.setIfInBounds i true) ⟨tm', st.hp, st.nx⟩ rds K X
      | none => False)
    | none => False
   | none => match rs with
    | [] => match ops[r]? with
     | some o => vguard ops st.tm o
       (pheavy P pc st.hp st.nx o (aev st.tm) fun res hp' nx' => match res with
        | .ret v => vsplit v fun v => match aput n st.tm o.dst v with
         | some tm' => vstab P hp' ops r rds ∧ vdrawP P pc ops n f (listed.setIfInBounds r true) ⟨tm', hp', nx'⟩ rds K X
         | none => False
        | .pan v => X v ⟨.e, hp', nx'⟩)
       (match aput n st.tm o.dst undef with
       | some tm' => vdrawP P pc ops n f (listed.setIfInBounds r true) ⟨tm', st.hp, st.nx⟩ rds K X
       | none => False)
     | none => False
    | _ => False
section
variable {P : Program} {W : Base} {ops : Array Oper} {n : Nat} {st0 : AS} {ρ0 : Place} {Q : Exit → Act → World → Prop}
theorem vdrawP_main {pc : PCall} (hcall : PCallOk P pc) (hD : drawOk ops = true) {K : AS → Prop} {X : Value → AS → Prop} (hQ : ∀ st, K st → ∀ a' w' ρ', SRel ρ' W n st a' w' → Step ρ0 ρ' st0.hp st.hp st0.nx st.nx → Q .normal a' w')
  (hX : ∀ v st, X v st → ∀ v' a' w' ρ', VR ρ' v v' → SRel ρ' W n st a' w' → Step ρ0 ρ' st0.hp st.hp st0.nx st.nx → Q (.panic [{ v := v', recovered := false }]) a' w') :
  ∀ (m f : Nat) (C : Array Bool) (st : AS) (rds : List Rd) (I : Info) (L : Array Bool) (a : Act) (w : World) (ρ : Place), unl ops L ≤ m → Inv P W ops n st0 ρ0 C st rds I L a w ρ → vdrawP P pc ops n f C st rds K X → wpAny P .any ops Q m L a w := by
 intro m
 induction m with
 | zero =>
  intro f C st rds I L a w ρ hm h hs
  have hr : Region.ready .any ops L = [] := by
   have hnil : ((List.range ops.size).filter fun i => !L.getD i true) = [] := List.eq_nil_of_length_eq_zero (Nat.le_zero.1 hm)
   apply List.eq_nil_iff_forall_not_mem.2
   intro j hj
   obtain ⟨h1, o, h2, h3⟩ := mem_ready.1 hj
   have : j ∈ ((List.range ops.size).filter fun i => !L.getD i true) := by
    simp only [List.mem_filter, List.mem_range]
    exact ⟨(Array.getElem?_eq_some_iff.1 h2).1, by rw [h1]; rfl⟩
   rw [hnil] at this
   cases this
  have hall := h.all hD hr
  have hallI : ∀ i, i < ops.size → In L i := fun i hi => Classical.byContradiction fun hn => by
   have : i ∈ ((List.range ops.size).filter fun i => !L.getD i true) := by
    simp only [List.mem_filter, List.mem_range]
    exact ⟨hi, by rw [unlisted_of (by rw [h.ls]; exact hi) hn]; rfl⟩
   rw [List.eq_nil_of_length_eq_zero (Nat.le_zero.1 hm)] at this
   cases this
  have hrC : Region.ready .any ops C = [] := by
   apply List.eq_nil_iff_forall_not_mem.2
   intro j hj
   obtain ⟨h1, o, h2, h3⟩ := mem_ready.1 hj
   exact (unlisted h1).2 (h.sub j (hallI j (Array.getElem?_eq_some_iff.1 h2).1))
  have hst : K st := by
   cases f with
   | zero => simp only [vdrawP, hrC] at hs; exact hs
   | succ f => simp only [vdrawP, hrC] at hs; exact hs
  exact ⟨hr, hQ st hst a w ρ (h.done hall) h.step⟩
 | succ m ihm =>
  intro f
  induction f with
  | zero =>
   intro C st rds I L a w ρ hm h hs
   have hs0 := hs
   simp only [vdrawP] at hs
   split at hs
   case h_2 => exact hs.elim
   rename_i hrC
   refine ⟨fun hr => hQ st hs a w ρ (h.done (h.all hD hr)) h.step, fun j hj => ?_⟩
   obtain ⟨h1, h2, h3, o, h4, h5⟩ := ready_in h.cs h.sub hj
   rw [hrC] at h1
   have hjC := h1.resolve_right (by simp)
   refine wpOp_mono ?_ (h.run hD h4 hjC h2 h5)
   rintro a' w' ⟨ρ', h'⟩
   refine ihm 0 C _ rds I _ a' w' ρ' ?_ h' hs0
   have := unl_set (ops := ops) (L := L) h3 h.ls (mem_ready.1 hj).1
   omega
  | succ f ihf =>
   intro C st rds I L a w ρ hm h hs
   have pending : ∀ j, j ∈ Region.ready .any ops L → In C j → ∀ o, ops[j]? = some o → (∀ e ∈ o.after, Region.binds .any e = true → In L e.on) → wpOp P ops Q j (wpAny P .any ops Q m (L.setIfInBounds j true)) a w := by
    intro j hj hjC o ho hall
    refine wpOp_mono ?_ (h.run hD ho hjC (unlisted (mem_ready.1 hj).1).2 hall)
    rintro a' w' ⟨ρ', h'⟩
    refine ihm (f + 1) C st rds I _ a' w' ρ' ?_ h' hs
    have := unl_set (ops := ops) (L := L) (Array.getElem?_eq_some_iff.1 ho).1 h.ls (mem_ready.1 hj).1
    omega
   have hs0 := hs
   simp only [vdrawP] at hs
   split at hs
   ·rename_i hrC
    refine ⟨fun hr => hQ st hs a w ρ (h.done (h.all hD hr)) h.step, fun j hj => ?_⟩
    obtain ⟨h1, h2, h3, o, h4, h5⟩ := ready_in h.cs h.sub hj
    rw [hrC] at h1
    exact pending j hj (h1.resolve_right (by simp)) o h4 h5
   ·rename_i r rs hrC
    split at hs
    ·rename_i i hf
     have him : i ∈ Region.ready .any ops C := by rw [hrC]; exact List.mem_of_find?_eq_some hf
     have hil := List.find?_some hf
     obtain ⟨g1, o, g2, g3⟩ := mem_ready.1 him
     have hnC := (unlisted g1).2
     have hh : isHeavy o.op = false := by
      unfold lightIdx at hil
      rw [g2] at hil
      simpa using hil
     rw [g2] at hs
     dsimp only at hs
     rcases vguard_cases hs with ⟨hw, hs⟩ | ⟨hw, hs⟩
     ·split at hs
      ·rename_i v ob hv
       obtain ⟨hob, hs⟩ := hs
       replace hs := vsplit_ap hs
       split at hs
       case h_2 => exact hs.elim
       rename_i tm' ht
       refine ihf _ ⟨tm', st.hp, st.nx⟩ _ (I.set i st.tm v none) L a w ρ hm (h.absorb hD g2 hnC g3 hh (st' := ⟨tm', st.hp, st.nx⟩) (v := v) (B := none) ht h.rel (fun _ _ h => h) (Nat.le_refl _) h.step (fun b hb => by cases hb) (fun I' e1 e2 e3 => .inr (.inl ⟨by rw [e1]; exact hw, .inr ⟨ob, by rw [e1, e2]; exact hv, hob⟩, e3⟩)) ?_ ?_) hs
       ·intro x hx
        cases isRead o (aev st.tm) <;> simp [hx]
       ·intro _ hrd
        rw [hrd]
        simp
      ·rename_i ob nv obp hv
       split at hs
       case h_2 => exact hs.elim
       rename_i tm' ht
       cases hrd : isRead o (aev st.tm) with
       | true => rw [hrd] at hs; exact hs.elim
       | false =>
        rw [hrd, cond_false] at hs
        obtain ⟨hob, hs⟩ := hs
        refine ihf _ ⟨tm', st.hp.put st.nx (some ob), st.nx + 1⟩ _ (I.set i st.tm (nv.val st.nx) (some st.nx)) L a w ρ hm (h.absorb hD g2 hnC g3 hh (st' := ⟨tm', st.hp.put st.nx (some ob), st.nx + 1⟩) (v := nv.val st.nx) (B := some st.nx) ht (h.rel.reserve ob) ?_ (Nat.le_succ _) ?_ (fun b hb => by cases hb; exact Nat.le_refl _) (fun I' e1 e2 e3 => ?_) (fun _ h => h) (fun _ h' => by rw [hrd] at h'; cases h')) hs
        ·intro b x hb
         have : b ≠ st.nx := fun e => by rw [e, h.rel.fresh _ (Nat.le_refl _)] at hb; cases hb
         rw [Tr.get_put, if_neg this]
         exact hb
        ·exact ⟨h.step.le, Nat.le_succ_of_le h.step.more, fun b hb hr => by
          have := h.step.old b hb hr
          refine ⟨this.1, ?_⟩
          rw [Tr.get_put, if_neg (by have := h.step.more; omega)]
          exact this.2⟩
        ·refine .inr (.inr ⟨by rw [e1]; exact hw, by rw [e1]; exact hrd, ob, nv, st.nx, ?_, e2, e3, by simp, h.step.more, h.rel.dom_none, by rw [Tr.get_put, if_pos rfl]⟩)
         rw [e1]
         exact LOk.still (hp := st.hp) hrd (.inr ⟨obp, hv, hob⟩)
      ·exact hs.elim
     ·split at hs
      case h_2 => exact hs.elim
      rename_i tm' ht
      exact ihf _ ⟨tm', st.hp, st.nx⟩ _ (I.set i st.tm undef none) L a w ρ hm (h.absorb hD g2 hnC g3 hh (st' := ⟨tm', st.hp, st.nx⟩) (v := undef) (B := none) ht h.rel (fun _ _ h => h) (Nat.le_refl _) h.step (fun b hb => by cases hb) (fun I' e1 e2 e3 => .inl ⟨by rw [e1]; exact hw, e2, e3⟩) (fun _ h => h) (fun h' => by rw [hw] at h'; cases h')) hs
    ·split at hs
     case h_2 => exact hs.elim
     split at hs
     case h_2 => exact hs.elim
     rename_i o ho
     have hrm : r ∈ Region.ready .any ops C := by rw [hrC]; simp
     obtain ⟨g1, o', g2, g3⟩ := mem_ready.1 hrm
     rw [ho] at g2
     cases g2
     have hnC := (unlisted g1).2
     refine ⟨fun hr => ?_, fun j hj => ?_⟩
     ·exfalso
      have hall := h.all hD hr
      have : r ∈ Region.ready .any ops L := mem_ready.2 ⟨unlisted_of (by rw [h.ls]; exact (Array.getElem?_eq_some_iff.1 ho).1) (fun h' => hnC (h.sub r h')), o, ho, fun e he hb => hall _ (g3 e he hb)⟩
      rw [hr] at this
      cases this
     ·obtain ⟨h1, h2, h3, oj, h4, h5⟩ := ready_in h.cs h.sub hj
      rcases h1 with h1 | h1
      ·exact pending j hj h1 oj h4 h5
      ·rw [hrC] at h1
       have hjr : j = r := by simpa using h1
       subst hjr
       rw [ho] at h4
       cases h4
       have hlk := h.heavyLook hD ho hnC g3 h5
       obtain ⟨ev', he1, he2⟩ := erel_of_looks hlk
       have fin : ∀ (st' : AS) (a' : Act) (w' : World), (∃ ρ' I', Inv P W ops n st0 ρ0 (C.setIfInBounds j true) st' rds I' (L.setIfInBounds j true) a' w' ρ') → vdrawP P pc ops n f (C.setIfInBounds j true) st' rds K X → wpAny P .any ops Q m (L.setIfInBounds j true) a' w' := by
        rintro st' a' w' ⟨ρ', I', h'⟩ hs'
        refine ihm f _ st' rds I' _ a' w' ρ' ?_ h' hs'
        have := unl_set (ops := ops) (L := L) h3 h.ls (mem_ready.1 hj).1
        omega
       unfold wpOp
       simp only [ho]
       rcases vguard_cases hs with ⟨hw, hs⟩ | ⟨hw, hs⟩
       ·rw [awanted_sound' h.size hlk hw, if_pos rfl]
        rw [pheavy_congr he2] at hs
        refine .inl (pheavy_sound hcall h.rel he1 hs (fun v hp' nx' v' w' ρ' hK q1 q2 q3 => ?_) (fun v hp' nx' v' w' ρ' hK q1 q2 q3 => ?_))
        ·dsimp only at hK
         replace hK := vsplit_ap hK
         split at hK
         case h_2 => exact hK.elim
         rename_i tm' ht
         exact fin ⟨tm', hp', nx'⟩ _ _ (h.heavyFin hD ho hnC g3 h5 (st' := ⟨tm', hp', nx'⟩) (.inr (vstab_ok hK.1)) v v' w' ρ' ht q1 q2 q3) hK.2
        ·exact hX v ⟨.e, hp', nx'⟩ hK v' a w' ρ' q1 ⟨q2, ⟨h.size, h.defers, fun t u hu => by cases hu⟩⟩ (h.step.trans q3)
       ·rw [awanted_sound' h.size hlk hw, if_neg (by simp)]
        split at hs
        case h_2 => exact hs.elim
        rename_i tm' ht
        exact fin ⟨tm', st.hp, st.nx⟩ _ _ (h.heavyFin hD ho hnC g3 h5 (st' := ⟨tm', st.hp, st.nx⟩) (.inl rfl) undef undef w ρ ht (closed_refl (by simp [undef, closed])) h.rel (.refl _ _ _)) hs
end
def vregionP (P : Program) (pc : PCall) (n : Nat) (ops : Array Oper) (draw : Bool) (st : AS) (K : AS → Prop) (X : Value → AS → Prop) : Prop :=
 bif draw then (bif drawOk ops then vdrawP P pc ops n ops.size (Array.replicate ops.size false) st [] K X else False) else vseqP P pc ops n ops.toList st K X
theorem vregionP_sound {P : Program} {pc : PCall} {W : Base} (hcall : PCallOk P pc) (hm : P.follows .mixedOrders = true) {ops : Array Oper} {draw : Bool} {id n : Nat} {Q : Exit → Act → World → Prop} {st : AS} {K : AS → Prop} {X : Value → AS → Prop} {ρ : Place} {a : Act} {w : World} (h : SRel ρ W n st a w)
  (hs : vregionP P pc n ops draw st K X) (hk : ∀ st', K st' → ∀ a' w' ρ', SRel ρ' W n st' a' w' → Step ρ ρ' st.hp st'.hp st.nx st'.nx → Q .normal a' w')
  (hx : ∀ v st', X v st' → ∀ v' a' w' ρ', VR ρ' v v' → SRel ρ' W n st' a' w' → Step ρ ρ' st.hp st'.hp st.nx st'.nx → Q (.panic [{ v := v', recovered := false }]) a' w') : (Code.region id ops draw).wp P Q a w := by
 unfold vregionP at hs
 cases draw with
 | true =>
  rw [cond_true] at hs
  cases hD : drawOk ops with
  | false => rw [hD] at hs; exact hs.elim
  | true =>
   rw [hD, cond_true] at hs
   refine wp_region_any hm ?_
   have hnot : ∀ i, ¬ In (Array.replicate ops.size false) i := fun i hi => by
    have := lt_of_in (ops := ops) (by simp) hi
    simp [In, this] at hi
   refine vdrawP_main hcall hD hk hx ops.size ops.size _ st [] ⟨fun _ => .e, fun _ => undef, fun _ => none⟩ _ a _ ρ ?_ ⟨by simp, by simp, fun i hi => (hnot i hi).elim, fun i hi => (hnot i hi).elim, fun i hi => hi, fun j o t hj => (hnot j hj).elim, fun t _ => rfl, h.rel.drew, h.frame.size, h.frame.defers, fun j o t hj => (hnot j hj).elim, fun t v _ hv => h.frame.slot t v hv, fun j o hj => (hnot j hj).elim, fun j k b hj => (hnot j hj).elim, .refl _ _ _, fun j o hj => (hnot j hj).elim⟩ hs
   unfold unl
   exact Nat.le_trans (List.length_filter_le _ _) (by simp)
 | false =>
  rw [cond_false] at hs
  refine wp_region ?_
  rw [List.range_eq_range']
  have := vseqP_sound hcall (Q := Q) ops.toList 0 st K X ρ a w (by simp) h hs hk hx
  simpa using this
def vrunP (P : Program) (pc : PCall) (n : Nat) (lt : List (Nat × List Nat)) (base : List Bool) (H : Code → List Fr → AS → Prop) (Fin : AS → Prop) (X : Value → AS → Prop) : Nat → VM → List Fr → AS → Prop
 | 0, _, _, _ => False
 | f + 1, .normal, k, st => match k with
  | [] => Fin st
  | .seq y :: k' => vrunP P pc n lt base H Fin X f (.code y) k' st
  | .block _ :: k' => vrunP P pc n lt base H Fin X f .normal k' st
  | .loop b :: k' => match slotsOf (rid b) lt with
   | some _ => vloop lt base H b k' st
   | none => vrunP P pc n lt base H Fin X f (.code b) (.loop b :: k') st
 | f + 1, .exit id, k, st => match k with
  | [] => False
  | .block j :: k' => bif id.beq j then vrunP P pc n lt base H Fin X f .normal k' st else vrunP P pc n lt base H Fin X f (.exit id) k' st
  | _ :: k' => vrunP P pc n lt base H Fin X f (.exit id) k' st
 | _ + 1, .ret, _, st => Fin st
 | f + 1, .code c, k, st => match c with
  | .skip | .label _ => vrunP P pc n lt base H Fin X f .normal k st
  | .region _ ops draw => vregionP P pc n ops draw st (fun st' => vrunP P pc n lt base H Fin X f .normal k st') X
  | .seq x y => vrunP P pc n lt base H Fin X f (.code x) (.seq y :: k) st
  | .cond c x y => match aev st.tm c with
   | some (.bool b) => pIf b (vrunP P pc n lt base H Fin X f (.code x) k st) (vrunP P pc n lt base H Fin X f (.code y) k st)
   | _ => False
  | .block id b => vrunP P pc n lt base H Fin X f (.code b) (.block id :: k) st
  | .loop b => match slotsOf (rid b) lt with
   | some _ => vloop lt base H b k st
   | none => vrunP P pc n lt base H Fin X f (.code b) (.loop b :: k) st
  | .exit id => vrunP P pc n lt base H Fin X f (.exit id) k st
  | .ret => vrunP P pc n lt base H Fin X f .ret k st
  | _ => False
theorem contQ_panic {P : Program} {Q : Exit → Act → World → Prop} {a : Act} {w : World} {ch : List PanicEntry} {k : List Fr} (h : Q (.panic ch) a w) : contQ P Q k (.panic ch) a w := by
 induction k with
 | nil => exact h
 | cons x k ih => cases x <;> exact ih
section
variable {P : Program} {pc : PCall} {W : Base} {n : Nat} {lt : List (Nat × List Nat)} {base : List Bool} {H : Code → List Fr → AS → Prop} {Fin : AS → Prop} {X : Value → AS → Prop} {R : Place → AS → Prop} {Q : Exit → Act → World → Prop}
theorem vrunP_sound (hcall : PCallOk P pc) (hm : P.follows .mixedOrders = true)
  (hR : ∀ ρ st ρ' st', R ρ st → Step ρ ρ' st.hp st'.hp st.nx st'.nx → R ρ' st')
  (hH : ∀ b k st, vloop lt base H b k st → ∀ ρ a w, SRel ρ W n st a w → R ρ st → LoopWp P b (contQ P Q k) a w)
  (hF : ∀ st, Fin st → ∀ ρ a w, SRel ρ W n st a w → R ρ st → Q .normal a w ∧ Q .ret a w)
  (hX : ∀ v st, X v st → ∀ ρ v' a w, VR ρ v v' → SRel ρ W n st a w → R ρ st → Q (.panic [{ v := v', recovered := false }]) a w) :
  ∀ (f : Nat) (m : VM) (k : List Fr) (st : AS), vrunP P pc n lt base H Fin X f m k st → ∀ ρ a w, SRel ρ W n st a w → R ρ st → (match m with
   | .code c => c.wp P (contQ P Q k) a w
   | .normal => contQ P Q k .normal a w
   | .exit id => contQ P Q k (.exit id) a w
   | .ret => contQ P Q k .ret a w) := by
 intro f
 induction f with
 | zero => intro m k st h; simp only [vrunP] at h
 | succ f ih =>
  intro m k st h ρ a w hs hr
  cases m with
  | normal =>
   simp only [vrunP] at h
   dsimp only
   cases k with
   | nil => exact (hF st h ρ a w hs hr).1
   | cons x k =>
    cases x with
    | seq y => exact ih (.code y) k st h ρ a w hs hr
    | block id => exact ih .normal k st h ρ a w hs hr
    | loop b =>
     dsimp only at h
     split at h
     ·exact hH b k st h ρ a w hs hr
     ·exact loop_round (ih (.code b) (.loop b :: k) st h ρ a w hs hr)
  | exit id =>
   simp only [vrunP] at h
   dsimp only
   cases k with
   | nil => exact h.elim
   | cons x k =>
    cases x with
    | seq y => exact ih (.exit id) k st h ρ a w hs hr
    | block j =>
     show Exit.inBlock j (contQ P Q k) (.exit id) a w
     simp only [Exit.inBlock]
     dsimp only at h
     cases hj : id.beq j with
     | true =>
      rw [hj] at h
      rw [if_pos (Nat.eq_of_beq_eq_true hj)]
      exact ih .normal k st h ρ a w hs hr
     | false =>
      rw [hj] at h
      rw [if_neg (fun e => by subst e; simp at hj)]
      exact ih (.exit id) k st h ρ a w hs hr
    | loop b => exact ih (.exit id) k st h ρ a w hs hr
  | ret =>
   simp only [vrunP] at h
   exact contQ_ret (hF st h ρ a w hs hr).2
  | code c =>
   simp only [vrunP] at h
   dsimp only
   cases c with
   | skip => exact wp_skip (ih .normal k st h ρ a w hs hr)
   | label l => exact wp_label (ih .normal k st h ρ a w hs hr)
   | region id ops draw => exact vregionP_sound hcall hm hs h (fun st' hK a' w' ρ' g1 g2 => ih .normal k st' hK ρ' a' w' g1 (hR _ _ _ _ hr g2)) (fun v st' hK v' a' w' ρ' g0 g1 g2 => contQ_panic (hX v st' hK ρ' v' a' w' g0 g1 (hR _ _ _ _ hr g2)))
   | seq x y => exact wp_seq (ih (.code x) (.seq y :: k) st h ρ a w hs hr)
   | cond c x y =>
    dsimp only at h
    split at h
    ·rename_i b hc
     have := hs.frame.eval hc
     cases b with
     | true =>
      refine wp_cond_true (c := c) ?_ (ih (.code x) k st h ρ a w hs hr)
      generalize a.eval c = z at this
      cases this
      rfl
     | false =>
      refine wp_cond_false (c := c) ?_ (ih (.code y) k st h ρ a w hs hr)
      generalize a.eval c = z at this
      cases this
      rfl
    ·exact h.elim
   | block id b => exact wp_block (ih (.code b) (.block id :: k) st h ρ a w hs hr)
   | loop b =>
    dsimp only at h
    split at h
    ·exact loop_of (hH b k st h ρ a w hs hr)
    ·exact loop_of (loop_round (ih (.code b) (.loop b :: k) st h ρ a w hs hr))
   | exit id => exact wp_exit (ih (.exit id) k st h ρ a w hs hr)
   | ret => exact wp_ret (ih .ret k st h ρ a w hs hr)
   | goto l => exact h.elim
   | refuse y => exact h.elim
   | scope b => exact h.elim
   | rangeFunc f ps x y => exact h.elim
end
abbrev PX : Type := Out → List (List Value) → Prop
end Go.Proofs.YtojlhapbngcjkaaGreatDoor

noncomputable section
namespace Go.Proofs.YtojlhapbngcjkaaGreatDoor
open Go Go.RowKit
set_option maxRecDepth 100000
set_option maxHeartbeats 8000000
def frzRow (N : Nat) : List Value → Tr AObj → Option (List Value × Tr AObj × Prop)
 | [], hp => some ([], hp, True)
 | v :: l, hp => match frzS N hp v with
  | some (u, hp1, o1) => match frzRow N l hp1 with
   | some (us, hp2, o2) => some (u :: us, hp2, o1 ∧ o2)
   | none => none
  | none => none
theorem frzS_get {N : Nat} {hp hp' : Tr AObj} {v u : Value} {ob : Prop} (h : frzS N hp v = some (u, hp', ob)) {i : Nat} (hi : i < N) : hp'.get i = hp.get i := by
 unfold frzS at h
 split at h
 ·rename_i b o n sz
  split at h
  case h_2 => cases h
  cases hb : N.ble b with
  | false => rw [hb] at h; cases h
  | true =>
   rw [hb] at h
   cases h
   have := Nat.le_of_ble_eq_true hb
   rw [Tr.get_put, if_neg (by omega)]
 ·cases h; rfl
theorem frzRow_get {N : Nat} {i : Nat} (hi : i < N) : ∀ {l us : List Value} {hp hp' : Tr AObj} {ob : Prop}, frzRow N l hp = some (us, hp', ob) → hp'.get i = hp.get i
 | [], us, hp, hp', ob, h => by simp only [frzRow] at h; cases h; rfl
 | v :: l, us, hp, hp', ob, h => by
  simp only [frzRow] at h
  split at h
  case h_2 => cases h
  rename_i u hp1 o1 h1
  split at h
  case h_2 => cases h
  rename_i us0 hp2 o2 h2
  cases h
  rw [frzRow_get hi h2, frzS_get h1 hi]
theorem frzRow_len {N : Nat} : ∀ {l us : List Value} {hp hp' : Tr AObj} {ob : Prop}, frzRow N l hp = some (us, hp', ob) → us.length = l.length
 | [], us, hp, hp', ob, h => by simp only [frzRow] at h; cases h; rfl
 | v :: l, us, hp, hp', ob, h => by
  simp only [frzRow] at h
  split at h
  case h_2 => cases h
  rename_i u hp1 o1 h1
  split at h
  case h_2 => cases h
  rename_i us0 hp2 o2 h2
  cases h
  exact congrArg (· + 1) (frzRow_len h2)
theorem frzRow_sound {N : Nat} {W : Base} {nx : Nat} {w : World} : ∀ {l l' us : List Value} {ρ : Place} {hp hp' : Tr AObj} {ob : Prop}, Rel ρ W hp nx w → VRL ρ l l' → frzRow N l hp = some (us, hp', ob) → ob →
  ∃ ρ', Rel ρ' W hp' nx w ∧ ρ.le ρ' ∧ VRL ρ' us l'
 | [], l', us, ρ, hp, hp', ob, h, hl, hf, _ => by
  simp only [frzRow] at hf
  cases hf
  cases hl
  exact ⟨ρ, h, .refl _, .nil⟩
 | v :: l, l', us, ρ, hp, hp', ob, h, hl, hf, hob => by
  simp only [frzRow] at hf
  split at hf
  case h_2 => cases hf
  rename_i u hp1 o1 h1
  split at hf
  case h_2 => cases hf
  rename_i us0 hp2 o2 h2
  cases hf
  cases hl with
  | cons hv hl =>
   obtain ⟨ρ1, g1, g2, g3⟩ := frzS_sound h hv h1 hob.1
   obtain ⟨ρ2, k1, k2, k3⟩ := frzRow_sound g1 (hl.mono g2.le) h2 hob.2
   exact ⟨ρ2, k1, g2.le.trans k2, .cons (g3.mono k2) k3⟩
theorem Rel.recell {ρ : Place} {W : Base} {hp : Tr AObj} {nx : Nat} {w : World} (h : Rel ρ W hp nx w) {i : Nat} {l us : List Value} (hi : hp.get i = some (.cells l true)) (hlen : us.length = l.length)
  (hu : ∀ c s z cs t fz, ρ i = some (c, s, z) → w.heap[c]? = some (.cells cs t fz) → ∀ (j : Nat) (u : Value), us[j]? = some u → ∃ v', cs[s + j]? = some v' ∧ VR ρ u v') : Rel ρ W (hp.put i (some (.cells us true))) nx w := by
 have live : ∀ b o, (hp.put i (some (.cells us true))).get b = some o → ∃ o', hp.get b = some o' ∧ (o.wr = true → o'.wr = true) := fun b o ho => by
  rw [Tr.get_put] at ho
  by_cases e : b = i
  ·subst e; exact ⟨_, hi, fun _ => rfl⟩
  ·rw [if_neg e] at ho; exact ⟨o, ho, fun h => h⟩
 refine ⟨h.dom, fun b o c s z ho hb => ?_, fun b b' x x' o o' h1 h2 hx hx' hxx => ?_, fun b hb => ?_, h.below, h.frz, fun b o c s z ho hw hb => ?_, h.frn⟩
 ·rw [Tr.get_put] at ho
  by_cases e : b = i
  ·subst e
   rw [if_pos rfl] at ho
   cases ho
   obtain ⟨ob, e1, e2⟩ := h.obj b _ c s z hi hb
   refine ⟨ob, e1, ?_⟩
   cases ob <;> try exact e2.elim
   obtain ⟨k1, k2, k3, k4, k5⟩ := e2
   exact ⟨k1, by rw [hlen]; exact k2, k3, fun j u hj => hu c s z _ _ _ hb e1 j u hj, k5⟩
  ·rw [if_neg e] at ho
   exact h.obj b o c s z ho hb
 ·obtain ⟨_, g1, _⟩ := live b o h1
  obtain ⟨_, g2, _⟩ := live b' o' h2
  exact h.inj b b' x x' _ _ g1 g2 hx hx' hxx
 ·rw [Tr.get_put]
  by_cases e : b = i
  ·subst e; have := h.fresh b hb; rw [hi] at this; cases this
  ·rw [if_neg e]; exact h.fresh b hb
 ·obtain ⟨o', g1, g2⟩ := live b o ho
  exact h.apart b o' c s z g1 (g2 hw) hb
def frzBl (N : Nat) : Nat → Nat → Tr AObj → Option (Tr AObj × Prop)
 | 0, _, hp => some (hp, True)
 | k + 1, i, hp => match hp.get i with
  | some (.cells l true) => bif i.blt N then match frzRow N l hp with
   | some (us, hp1, o1) => match frzBl N k (i + 1) (hp1.put i (some (.cells us true))) with
    | some (hp2, o2) => some (hp2, o1 ∧ o2)
    | none => none
   | none => none
   else none
  | _ => none
theorem frzBl_sound {N : Nat} {W : Base} {nx : Nat} {w : World} : ∀ {k i : Nat} {ρ : Place} {hp hp' : Tr AObj} {ob : Prop}, (∀ b, b < N → ∃ x, ρ b = some x) → Rel ρ W hp nx w → frzBl N k i hp = some (hp', ob) → ob → ∃ ρ', Rel ρ' W hp' nx w ∧ ρ.le ρ'
 | 0, i, ρ, hp, hp', ob, _, h, hf, _ => by
  simp only [frzBl] at hf
  cases hf
  exact ⟨ρ, h, .refl _⟩
 | k + 1, i, ρ, hp, hp', ob, hpl, h, hf, hob => by
  simp only [frzBl] at hf
  split at hf
  case h_2 => cases hf
  rename_i l hl
  cases hb : i.blt N with
  | false => rw [hb] at hf; cases hf
  | true =>
   have hi : i < N := Nat.le_of_ble_eq_true hb
   rw [hb, cond_true] at hf
   split at hf
   case h_2 => cases hf
   rename_i us hp1 o1 h1
   split at hf
   case h_2 => cases hf
   rename_i hp2 o2 h2
   cases hf
   have hi1 := frzRow_get hi h1
   rw [hl] at hi1
   have hlenU := frzRow_len h1
   -- the concrete row
   have key : ∃ ρ1, Rel ρ1 W hp1 nx w ∧ ρ.le ρ1 ∧ ∀ c s z cs t fz, ρ1 i = some (c, s, z) → w.heap[c]? = some (.cells cs t fz) → ∀ (j : Nat) (u : Value), us[j]? = some u → ∃ v', cs[s + j]? = some v' ∧ VR ρ1 u v' := by
    obtain ⟨x, hr⟩ := hpl i hi
    obtain ⟨c, s, z⟩ := x
    obtain ⟨ob, e1, e2⟩ := h.obj i _ c s z hl hr
    cases ob <;> try exact e2.elim
    rename_i cs t fz
    obtain ⟨k1, k2, k3, k4, k5⟩ := e2
    have hrow : VRL ρ l ((cs.toList.drop s).take l.length) := by
     refine .of ?_ fun j v v' hj hj' => ?_
     ·rw [List.length_take, List.length_drop]
      simp only [Array.length_toList]
      omega
     ·obtain ⟨v2, q1, q2⟩ := k4 j v hj
      have hlt := (List.getElem?_eq_some_iff.1 hj).1
      rw [List.getElem?_take, if_pos hlt, List.getElem?_drop, Array.getElem?_toList, q1] at hj'
      cases hj'
      exact q2
    obtain ⟨ρ1, g1, g2, g3⟩ := frzRow_sound h hrow h1 hob.1
    refine ⟨ρ1, g1, g2, fun c' s' z' cs' t' fz' hr' hc' j u hj => ?_⟩
    have hr2 := g2.1 i _ hr
    rw [hr'] at hr2
    cases hr2
    rw [hc'] at e1
    cases e1
    have hlt : j < l.length := by rw [← hlenU]; exact (List.getElem?_eq_some_iff.1 hj).1
    have hv : ∃ v', ((cs.toList.drop s).take l.length)[j]? = some v' := by
     have hl2 := g3.len
     have : j < ((cs.toList.drop s).take l.length).length := by rw [← hl2, hlenU]; exact hlt
     exact ⟨_, List.getElem?_eq_getElem this⟩
    obtain ⟨v', hv'⟩ := hv
    refine ⟨v', ?_, g3.get hj hv'⟩
    rw [List.getElem?_take, if_pos hlt, List.getElem?_drop, Array.getElem?_toList] at hv'
    exact hv'
   obtain ⟨ρ1, g1, g2, g3⟩ := key
   obtain ⟨ρ2, q1, q2⟩ := frzBl_sound (fun b hb => let ⟨x, hx⟩ := hpl b hb; ⟨x, g2.1 b x hx⟩) (g1.recell hi1 hlenU g3) h2 hob.2
   exact ⟨ρ2, q1, g2.trans q2⟩
def Out.Ends0 (ρ : Place) (r : Out) (e : Ending) : Prop :=
 match r with
 | .ret v => ∃ v', e = .returned v' ∧ VR0 ρ.fr v v'
 | .pan v => ∃ v', e = .panicked [{ v := v', recovered := false }] ∧ VR0 ρ.fr v v'
def SpecX (P : Program) (f : FuncId) (N : Nat) (hp : Tr AObj) (args : List Value) (Post : Out → Tr AObj → Prop) : Prop :=
 ∀ (W : Base) ρ w args', (∀ b, b < N → ∃ x, ρ.pl b = some x) → Rel ρ W hp N w → VRL ρ args args' → Calls P f args'.toArray w fun e w' => ∃ r hp' nx' ρ', Post r hp' ∧ r.Ends0 ρ' e ∧ Rel ρ' W hp' nx' w' ∧ StepG N ρ ρ'
def finX (P : Program) (fn : Func) (N : Nat) (Post : Out → Tr AObj → Prop) (st : AS) : Prop :=
 match ares P st.hp st.tm fn with
 | some v => match frzBl N N 0 st.hp with
  | some (hp1, o1) => match frzR P N fn.resultTypes.toList hp1 v with
   | some (u, hp2, o2) => (o1 ∧ o2) ∧ Post (.ret u) hp2
   | none => False
  | none => False
 | none => False
def panX (N : Nat) (Post : Out → Tr AObj → Prop) (v : Value) (st : AS) : Prop :=
 match frzBl N N 0 st.hp with
 | some (hp1, o1) => bif nl1 v then o1 ∧ Post (.pan v) hp1 else False
 | none => False
def FinQX (P : Program) (fn : Func) (W : Base) (N : Nat) (ρ : Place) (Post : Out → Tr AObj → Prop) (e : Exit) (a : Act) (w : World) : Prop :=
 bodyPost P fn (fun e w' => ∃ r hp' nx' ρ', Post r hp' ∧ r.Ends0 ρ' e ∧ Rel ρ' W hp' nx' w' ∧ StepG N ρ ρ') e a w
theorem stepG_le {N : Nat} {ρ ρ' ρ'' : Place} (h : StepG N ρ ρ') (k : ρ'.le ρ'') : StepG N ρ ρ'' := ⟨fun b x hb hx => k.1 b x (h.1 b x hb hx), fun c x hc => k.2 c x (h.2 c x hc)⟩
theorem stepG_placed {N : Nat} {ρ ρ' : Place} (h : StepG N ρ ρ') (hp : ∀ b, b < N → ∃ x, ρ.pl b = some x) : ∀ b, b < N → ∃ x, ρ'.pl b = some x := fun b hb => let ⟨x, hx⟩ := hp b hb; ⟨x, h.1 b x hb hx⟩
theorem finX_ok {P : Program} {fn : Func} {N n : Nat} {Post : Out → Tr AObj → Prop} {st : AS} (h : finX P fn N Post st) {W : Base} (hd : W.ds = []) {ρ0 ρ : Place} {a : Act} {w : World} (hpl : ∀ b, b < N → ∃ x, ρ0.pl b = some x) (hs : SRel ρ W n st a w) (hr : StepG N ρ0 ρ) :
  FinQX P fn W N ρ0 Post .normal a w ∧ FinQX P fn W N ρ0 Post .ret a w := by
 unfold finX at h
 split at h
 case h_2 => exact h.elim
 rename_i v hv
 split at h
 case h_2 => exact h.elim
 rename_i hp1 o1 h1
 split at h
 case h_2 => exact h.elim
 rename_i u hp2 o2 h2
 obtain ⟨v', r1, r2⟩ := ares_sound hs.rel hs.frame hv
 obtain ⟨ρ1, g1, g2⟩ := frzBl_sound (stepG_placed hr hpl) hs.rel h1 h.1.1
 obtain ⟨ρ2, k1, k2, k3⟩ := frzR_sound g1 (r2.mono g2) h2 h.1.2
 have : ∃ r hp' nx' ρ', Post r hp' ∧ r.Ends0 ρ' (Ending.returned v') ∧ Rel ρ' W hp' nx' w ∧ StepG N ρ0 ρ' :=
  ⟨.ret u, hp2, st.nx, ρ2, h.2, ⟨v', rfl, k3⟩, k1, stepG_le (stepG_le hr g2) k2.le⟩
 exact ⟨⟨hs.frame.defers.trans hd, v', r1, this⟩, ⟨hs.frame.defers.trans hd, v', r1, this⟩⟩
theorem panX_ok {P : Program} {fn : Func} {N n : Nat} {Post : Out → Tr AObj → Prop} {v : Value} {st : AS} (h : panX N Post v st) {W : Base} (hd : W.ds = []) {ρ0 ρ : Place} {v' : Value} {a : Act} {w : World} (hpl : ∀ b, b < N → ∃ x, ρ0.pl b = some x) (hv : VR ρ v v') (hs : SRel ρ W n st a w) (hr : StepG N ρ0 ρ) :
  FinQX P fn W N ρ0 Post (.panic [{ v := v', recovered := false }]) a w := by
 unfold panX at h
 split at h
 case h_2 => exact h.elim
 rename_i hp1 o1 h1
 cases hn : nl1 v with
 | false => rw [hn] at h; exact h.elim
 | true =>
  rw [hn, cond_true] at h
  obtain ⟨ρ1, g1, g2⟩ := frzBl_sound (stepG_placed hr hpl) hs.rel h1 h.1
  exact ⟨hs.frame.defers.trans hd, .pan v, hp1, st.nx, ρ1, h.2, ⟨v', rfl, nl1_sound hn (hv.mono g2)⟩, g1, stepG_le hr g2⟩
def okc (N : Nat) : Value → Bool
 | .pointer (some ⟨b, _, none⟩) => b.blt N
 | v => nl1 v
def okAll (N : Nat) : List (List Value) → Bool
 | [] => true
 | l :: ls => l.all (okc N) && okAll N ls
def xpost (n : Nat) (Post : Out → List (List Value) → Prop) (r : Out) (hp : Tr AObj) : Prop :=
 match outs hp 0 n with
 | some ls => okAll n ls = true ∧ Post r ls
 | none => False
def inlP (P : Program) (inl : List FuncId) (next : PCall) : Nat → PCall
 | 0 => next
 | k + 1 => fun f args hp nx K => bif inl.contains f then match P.funcs[f]? with
   | some fn => match fn.body with
    | some c => vrunP P (inlP P inl next k) (slotsN args fn) [] [] (fun _ _ _ => False) (fun st => match ares P st.hp st.tm fn with | some v => K (.ret v) st.hp st.nx | none => False) (fun v st => K (.pan v) st.hp st.nx) 1000 (.code c) [] ⟨putArgs 0 args .e, hp, nx⟩
    | none => False
   | none => False
  else next f args hp nx K
theorem inlP_ok {P : Program} (hm : P.follows .mixedOrders = true) {inl : List FuncId} {next : PCall} (hn : PCallOk P next) : ∀ k, PCallOk P (inlP P inl next k)
 | 0 => hn
 | k + 1 => by
  intro f args hp nx K h W ρ w args' hrel hargs
  unfold inlP at h
  cases hi : inl.contains f with
  | false => rw [hi] at h; exact hn f args hp nx K h W ρ w args' hrel hargs
  | true =>
   rw [hi, cond_true] at h
   split at h
   case h_2 => exact h.elim
   rename_i fn hf
   split at h
   case h_2 => exact h.elim
   rename_i c hc
   refine calls_of_wp hf hc ?_
   have fin : ∀ st, (match ares P st.hp st.tm fn with | some v => K (.ret v) st.hp st.nx | none => False) → ∀ ρ' a w', SRel ρ' W.bare (slotsN args fn) st a w' → Step ρ ρ' hp st.hp nx st.nx →
     a.defers = [] ∧ ∃ v', (results fn a.tmps).run P w' = .ok v' w' ∧ ∃ r hp' nx' ρ', K r hp' nx' ∧ r.Ends ρ' (Ending.returned v') ∧ Rel ρ' W hp' nx' w' ∧ Step ρ ρ' hp hp' nx nx' := by
    intro st hst ρ' a w' hs hr
    split at hst
    case h_2 => exact hst.elim
    rename_i v hv
    obtain ⟨v', r1, r2⟩ := ares_sound hs.rel hs.frame hv
    exact ⟨hs.frame.defers, v', r1, .ret v, st.hp, st.nx, ρ', hst, ⟨v', rfl, r2⟩, hs.rel.unbare, hr⟩
   exact vrunP_sound (W := W.bare) (R := fun ρ' st => Step ρ ρ' hp st.hp nx st.nx) (inlP_ok hm hn k) hm (fun _ _ _ _ h k => h.trans k)
    (fun b k st h ρ' a w hs hr => by
     unfold vloop at h
     split at h
     case h_2 => exact h.elim
     split at h
     case h_2 => exact h.elim
     split at h
     case h_2 => exact h.elim
     exact h.2.2.elim) (fun st hst ρ' a w hs hr => ⟨fin st hst ρ' a w hs hr, fin st hst ρ' a w hs hr⟩)
    (fun v st hst ρ' v' a w' hv hs hr => ⟨hs.frame.defers, .pan v, st.hp, st.nx, ρ', hst, ⟨v', rfl, hv⟩, hs.rel.unbare, hr⟩) 1000 (.code c) [] _ h ρ _ w (start_rel rfl hrel.bare hargs fn) (.refl _ _ _)
def noP : PCall := fun _ _ _ _ _ => False
theorem noP_ok {P : Program} : PCallOk P noP := fun _ _ _ _ _ h => h.elim
theorem vloop_false {lt : List (Nat × List Nat)} {base : List Bool} {b : Code} {k : List Fr} {st : AS} (h : vloop lt base (fun _ _ _ => False) b k st) : False := by
 unfold vloop at h
 split at h
 case h_2 => exact h.elim
 split at h
 case h_2 => exact h.elim
 split at h
 case h_2 => exact h.elim
 exact h.2.2.elim
theorem CallsD.mono {P : Program} {f : FuncId} {args : Array Value} {u : FrameMode} {w : World} {R R' : Ending → FrameMode → World → Prop} (h : CallsD P f args u w R) (k : ∀ e u' w', R e u' w' → R' e u' w') : CallsD P f args u w R' := fun c cs hc =>
 let ⟨e, u', w', fr, h1, h2⟩ := h c cs hc
 ⟨e, u', w', fr, k _ _ _ h1, h2⟩
theorem Rel.withDs {ρ : Place} {W : Base} {hp : Tr AObj} {nx : Nat} {w : World} (D : List Deferred) (h : Rel ρ W hp nx w) : Rel ρ ⟨W.w, W.mu, W.f0, D⟩ hp nx w :=
 ⟨h.dom, h.obj, h.inj, h.fresh, ⟨h.below.os, h.below.tape, h.below.output, h.below.size, h.below.block⟩, h.frz, h.apart, h.frn⟩
theorem all_of {P : Program} (g : FuncId) (h : enters P g = true) : P.funcs[g]? = some (fnAt P g) ∧ (fnAt P g).body = some (codeOf (fnAt P g)) := by
 unfold enters at h
 unfold fnAt codeOf
 cases hf : P.funcs[g]? with
 | none => rw [hf] at h; cases h
 | some fn =>
  rw [hf] at h
  simp only [Bool.and_eq_true] at h
  refine ⟨rfl, ?_⟩
  show fn.body = some (fn.body.getD .skip)
  cases hb : fn.body with
  | none => rw [hb] at h; simp at h
  | some b => rfl
end Go.Proofs.YtojlhapbngcjkaaGreatDoor
noncomputable section
namespace Go.Proofs.YtojlhapbngcjkaaGreatDoor
open Go Go.RowKit
variable {γ : Type}
abbrev GCall (γ : Type) := FuncId → List Value → Tr AObj → Nat → γ → (Out → Tr AObj → Nat → γ → Prop) → Prop
def GCallOk (P : Program) (I : Base → γ → Prop) (kb : Nat) (kx : Nat × Nat × Nat) (gc : GCall γ) : Prop :=
 ∀ f args hp nx g K, gc f args hp nx g K → ∀ (W : Base) ρ w args', I W g → ρ.pl kb = some kx → Rel ρ W hp nx w → VRL ρ args args' →
  Calls P f args'.toArray w fun e w' => ∃ r hp' nx' g' ρ' W', K r hp' nx' g' ∧ r.Ends ρ' e ∧ (I W' g' ∧ W'.ds = W.ds) ∧ Rel ρ' W' hp' nx' w' ∧ Step ρ ρ' hp hp' nx nx'
def ofP (pc : PCall) : GCall γ := fun f args hp nx g K => pc f args hp nx fun r hp' nx' => K r hp' nx' g
theorem ofP_ok {P : Program} {I : Base → γ → Prop} {kb : Nat} {kx : Nat × Nat × Nat} {pc : PCall} (h : PCallOk P pc) : GCallOk P I kb kx (ofP pc) := fun f args hp nx g K hs W ρ w args' hI _ hr ha =>
 (h f args hp nx _ hs W ρ w args' hr ha).mono fun _ _ ⟨r, hp', nx', ρ', k, e, g2, g3⟩ => ⟨r, hp', nx', g, ρ', W, k, e, ⟨hI, rfl⟩, g2, g3⟩
def gheavy (P : Program) (pc : GCall γ) (hp : Tr AObj) (nx : Nat) (g : γ) (o : Oper) (ev : Operand → Option Value) (K : Out → Tr AObj → Nat → γ → Prop) : Prop :=
 match o.op with
 | .panic x => match ev x with
  | some (.iface t v) => K (.pan (.iface t v)) hp nx g
  | _ => False
 | .call c => match c.callee with
  | .value f => match ev f, evL ev c.args.toList with
   | some (.func (.func k) first captured), some args => bif enters P k then pc k (first.toList ++ args ++ captured.toList) hp nx g K else False
   | _, _ => False
  | .invoke x name => match ev x, evL ev c.args.toList with
   | some (.iface t v), some args => match aMethod P t name with
    | some k => bif enters P k then pc k (v :: args) hp nx g K else False
    | none => False
   | _, _ => False
  | .builtin .panic => match c.args.toList with
   | [x] => match ev x with
    | some (.iface t v) => K (.pan (.iface t v)) hp nx g
    | _ => False
   | _ => False
  | _ => vheavy P (toV noP) hp nx o ev fun v _ hp' nx' => K (.ret v) hp' nx' g
 | _ => vheavy P (toV noP) hp nx o ev fun v _ hp' nx' => K (.ret v) hp' nx' g
theorem gheavy_sound {P : Program} {I : Base → γ → Prop} {kb : Nat} {kx : Nat × Nat × Nat} {pc : GCall γ} {ρ : Place} {W : Base} (hcall : GCallOk P I kb kx pc) {g : γ} (hI : I W g) (hkx : ρ.pl kb = some kx) {hp : Tr AObj} {nx : Nat} {w : World} (h : Rel ρ W hp nx w) {ev : Operand → Option Value} {a : Act} (hF : ERel ρ ev a) {o : Oper} {K : Out → Tr AObj → Nat → γ → Prop}
  (hs : gheavy P pc hp nx g o ev K) {next : Act → World → Prop} {Q : Exit → Act → World → Prop}
  (hk : ∀ v hp' nx' g' v' w' ρ' W', K (.ret v) hp' nx' g' → I W' g' ∧ W'.ds = W.ds → VR ρ' v v' → Rel ρ' W' hp' nx' w' → Step ρ ρ' hp hp' nx nx' → next (a.put o.dst v') w')
  (hq : ∀ v hp' nx' g' v' w' ρ' W', K (.pan v) hp' nx' g' → I W' g' ∧ W'.ds = W.ds → VR ρ' v v' → Rel ρ' W' hp' nx' w' → Step ρ ρ' hp hp' nx nx' → Q (.panic [{ v := v', recovered := false }]) a w') : o.wp P a w next Q := by
 have base : (vheavy P (toV noP) hp nx o ev fun v _ hp' nx' => K (.ret v) hp' nx' g) → o.wp P a w next Q := fun hb =>
  vheavy_sound (toV_ok noP_ok) h hF hb fun v _ hp' nx' v' w' ρ' k _ g1 g2 g3 => hk v hp' nx' g v' w' ρ' W k ⟨hI, rfl⟩ g1 g2 g3
 have ends : ∀ (k : FuncId) (args args' : List Value), pc k args hp nx g K → VRL ρ args args' → (execOp a.eval o).run P w = .ok (.enter k args'.toArray) w → o.wp P a w next Q := by
  intro k args args' hc hA hrun
  unfold Oper.wp
  rw [hrun]
  refine (hcall k args hp nx g K hc W ρ w _ hI hkx h hA).mono ?_
  rintro e w' ⟨r, hp', nx', g', ρ', W', hK, he, hI', g2, g3⟩
  cases r with
  | ret v => obtain ⟨v', rfl, g1⟩ := he; exact hk v hp' nx' g' v' w' ρ' W' hK hI' g1 g2 g3
  | pan v => obtain ⟨v', rfl, g1⟩ := he; exact hq v hp' nx' g' v' w' ρ' W' hK hI' g1 g2 g3
 have pans : ∀ (t : TypeId) (u : Value) (X : Value), VR ρ (.iface t u) X → K (.pan (.iface t u)) hp nx g → (execOp a.eval o).run P w = ((Instr.panic X) >>= fun r => pure (Next.value r)).run P w → o.wp P a w next Q := by
  intro t u X hX hK hrun
  unfold Oper.wp
  rw [hrun]
  cases hX with
  | iface _ hu => exact hq _ _ _ _ _ _ ρ W hK ⟨hI, rfl⟩ (.iface t hu) h (.refl _ _ _)
 obtain ⟨dst, op, type, pos, after, guard⟩ := o
 unfold gheavy at hs
 cases op <;> dsimp only at hs <;> try exact base hs
 case panic x =>
  split at hs
  case h_2 => exact hs.elim
  rename_i t u hx
  exact pans t u _ (hF.eval hx) hs rfl
 case call c =>
  obtain ⟨callee, args, argTypes⟩ := c
  dsimp only at hs
  split at hs
  ·rename_i f
   split at hs
   case h_2 => exact hs.elim
   rename_i k first captured as0 hf has
   cases he : enters P k with
   | false => rw [he] at hs; exact hs.elim
   | true =>
    rw [he, cond_true] at hs
    have hfv := hF.eval hf
    generalize hE : a.eval f = E at hfv
    cases hfv
    rename_i first' captured' s1 v1 s2 v2
    have hA := evL_sound hF has
    have hL := ((VRA.list ⟨s1, v1⟩).append hA).append (VRA.list ⟨s2, v2⟩)
    refine ends k _ _ hs hL ?_
    have e2 : (first'.toList ++ args.toList.map a.eval ++ captured'.toList).toArray = first' ++ args.map a.eval ++ captured' := by apply Array.ext'; simp
    rw [e2]
    unfold execOp
    simp only [resolve, hE]
    show (callFunc k (first' ++ args.map a.eval ++ captured')).run P w = _
    exact pureRun_run (enters_run he _) w
  ·rename_i x name
   split at hs
   case h_2 => exact hs.elim
   rename_i t v as0 hx has
   split at hs
   case h_2 => exact hs.elim
   rename_i k hm
   cases he : enters P k with
   | false => rw [he] at hs; exact hs.elim
   | true =>
    rw [he, cond_true] at hs
    have hxv := hF.eval hx
    have hA := evL_sound hF has
    generalize hE : a.eval x = E at hxv
    cases hxv with
    | @iface _ _ v' hv =>
     refine ends k (v :: as0) (v' :: args.toList.map a.eval) hs (.cons hv hA) ?_
     have hpos : ∃ j, P.types.size + Made.depth = j + 1 := ⟨P.types.size + Made.depth - 1, by (have : 0 < Made.depth := by decide); omega⟩
     obtain ⟨j, hj⟩ := hpos
     have e2 : (v' :: args.toList.map a.eval).toArray = #[v'] ++ args.map a.eval := by apply Array.ext'; simp
     have e3 : (#[Value.iface t v'] ++ args.map a.eval).extract 1 (#[Value.iface t v'] ++ args.map a.eval).size = args.map a.eval := by
      apply Array.ext'
      simp
      exact List.take_of_length_le (by simp)
     have e0 : (#[Value.iface t v'] ++ args.map a.eval)[0]? = some (.iface t v') := by rw [Array.getElem?_append_left (Nat.zero_lt_one)]; rfl
     rw [e2]
     unfold execOp
     simp only [resolve, hE]
     show (invoke (.fn (.method name) #[]) (#[Value.iface t v'] ++ args.map a.eval)).run P w = _
     unfold invoke
     dsimp only
     rw [e0]
     dsimp only
     rw [e3]
     unfold callMethod
     dsimp only
     have hprog : pureRun P program = some P := rfl
     rw [bind_run hprog]
     rw [hj]
     rw [bind_run (aMethod_run hm v' j)]
     exact pureRun_run (enters_run he _) w
  ·split at hs
   case h_2 => exact hs.elim
   rename_i x hargs
   split at hs
   case h_2 => exact hs.elim
   rename_i t u hx
   refine pans t u _ (hF.eval hx) hs ?_
   have : args = #[x] := by apply Array.ext'; simpa using hargs
   subst this
   have e1 : (#[x].map a.eval) = #[a.eval x] := by simp
   unfold execOp
   simp only [resolve, e1]
   rfl
  ·exact base hs
def gseq (P : Program) (pc : GCall γ) (ops : Array Oper) (n : Nat) : List Oper → AS → γ → (AS → γ → Prop) → (Value → AS → γ → Prop) → Prop
 | [], st, g, K, _ => K st g
 | o :: l, st, g, K, X => vguard ops st.tm o
   (bif isHeavy o.op || isPan o.op then gheavy P pc st.hp st.nx g o (aev st.tm) fun r hp' nx' g' => match r with
     | .ret v => vsplit v fun v => match aput n st.tm o.dst v with
      | some tm' => gseq P pc ops n l ⟨tm', hp', nx'⟩ g' K X
      | none => False
     | .pan v => X v ⟨st.tm, hp', nx'⟩ g'
    else match slight P st.hp o (aev st.tm) with
     | some (.val v, ob) => ob ∧ vsplit v fun v => match aput n st.tm o.dst v with
      | some tm' => gseq P pc ops n l ⟨tm', st.hp, st.nx⟩ g K X
      | none => False
     | some (.new b nv, ob) => match aput n st.tm o.dst (nv.val st.nx) with
      | some tm' => ob ∧ gseq P pc ops n l ⟨tm', st.hp.put st.nx (some b), st.nx + 1⟩ g K X
      | none => False
     | none => False)
   (match aput n st.tm o.dst undef with
    | some tm' => gseq P pc ops n l ⟨tm', st.hp, st.nx⟩ g K X
    | none => False)
theorem gseq_sound {P : Program} {I : Base → γ → Prop} {kb : Nat} {kx : Nat × Nat × Nat} {pc : GCall γ} (hcall : GCallOk P I kb kx pc) {ops : Array Oper} {n : Nat} {Q : Exit → Act → World → Prop} : ∀ (l : List Oper) (k : Nat) (st : AS) (g : γ) (K : AS → γ → Prop) (X : Value → AS → γ → Prop) (W : Base) (ρ : Place) (a : Act) (w : World), ops.toList.drop k = l → I W g → ρ.pl kb = some kx →
  SRel ρ W n st a w → gseq P pc ops n l st g K X → (∀ st' g', K st' g' → ∀ a' w' ρ' W', I W' g' ∧ W'.ds = W.ds → SRel ρ' W' n st' a' w' → Step ρ ρ' st.hp st'.hp st.nx st'.nx → Q .normal a' w') →
  (∀ v st' g', X v st' g' → ∀ v' a' w' ρ' W', I W' g' ∧ W'.ds = W.ds → VR ρ' v v' → SRel ρ' W' n st' a' w' → Step ρ ρ' st.hp st'.hp st.nx st'.nx → Q (.panic [{ v := v', recovered := false }]) a' w') → wpOps P ops Q (List.range' k l.length) a w
 | [], k, st, g, K, X, W, ρ, a, w, _, hI, _, h, hs, hk, _ => by
  simp only [gseq] at hs
  exact hk st g hs a w ρ W ⟨hI, rfl⟩ h (.refl _ _ _)
 | o :: l, k, st, g, K, X, W, ρ, a, w, hd, hI, hkx, h, hs, hk, hx => by
  simp only [gseq] at hs
  have hi : ops[k]? = some o := by
   have : (ops.toList.drop k)[0]? = some o := by rw [hd]; rfl
   rw [List.getElem?_drop] at this
   simpa using this
  have next : ∀ (st1 : AS) (g1 : γ) (a1 : Act) (w1 : World) (ρ1 : Place) (W1 : Base), I W1 g1 ∧ W1.ds = W.ds → SRel ρ1 W1 n st1 a1 w1 → Step ρ ρ1 st.hp st1.hp st.nx st1.nx → gseq P pc ops n l st1 g1 K X → wpOps P ops Q (List.range' (k + 1) l.length) a1 w1 :=
   fun st1 g1 a1 w1 ρ1 W1 hI1 hr hst hv => gseq_sound hcall l (k + 1) st1 g1 K X W1 ρ1 a1 w1 (by rw [← List.drop_drop, hd]; rfl) hI1.1 (hst.le.1 kb kx hkx) hr hv (fun st' g' hK a' w' ρ' W' i1 g1 g2 => hk st' g' hK a' w' ρ' W' ⟨i1.1, i1.2.trans hI1.2⟩ g1 (hst.trans g2)) (fun v st' g' hX v' a' w' ρ' W' i1 g0 g1 g2 => hx v st' g' hX v' a' w' ρ' W' ⟨i1.1, i1.2.trans hI1.2⟩ g0 g1 (hst.trans g2))
  rw [List.length_cons, List.range'_succ, wpOps_cons]
  unfold wpOp
  simp only [hi]
  rcases vguard_cases hs with ⟨hw, hs⟩ | ⟨hw, hs⟩
  ·rw [awanted_sound h.frame hw, if_pos rfl]
   refine .inl ?_
   cases hh : isHeavy o.op || isPan o.op with
   | true =>
    rw [hh, cond_true] at hs
    refine gheavy_sound hcall hI hkx h.rel h.frame.ev hs (fun v hp' nx' g' v' w' ρ' W' hK i1 q1 q2 q3 => ?_) (fun v hp' nx' g' v' w' ρ' W' hK i1 q1 q2 q3 => ?_)
    ·dsimp only at hK
     replace hK := vsplit_ap hK
     split at hK
     case h_2 => exact hK.elim
     rename_i tm' ht
     exact next ⟨tm', hp', nx'⟩ g' _ _ ρ' W' i1 ⟨q2, by rw [i1.2]; exact aput_sound (h.frame.mono q3.le) ht q1⟩ q3 hK
    ·exact hx v _ g' hK v' a w' ρ' W' i1 q1 ⟨q2, by rw [i1.2]; exact h.frame.mono q3.le⟩ q3
   | false =>
    rw [hh, cond_false] at hs
    split at hs
    ·rename_i v ob hv
     obtain ⟨hob, hs⟩ := hs
     replace hs := vsplit_ap hs
     split at hs
     case h_2 => exact hs.elim
     rename_i tm' ht
     obtain ⟨v', h1, h2⟩ := slight_sound (r := .val v) h.rel h.frame.ev hv hob
     unfold Oper.wp
     rw [h1]
     exact next ⟨tm', st.hp, st.nx⟩ g _ _ ρ W ⟨hI, rfl⟩ ⟨h.rel, aput_sound h.frame ht h2⟩ (.refl _ _ _) hs
    ·rename_i ob nv obp hv
     split at hs
     case h_2 => exact hs.elim
     rename_i tm' ht
     obtain ⟨v', ob', d, z, h1, h2, h3⟩ := slight_sound (r := .new ob nv) h.rel h.frame.ev hv hs.1
     unfold Oper.wp
     rw [h1]
     have hrel := ((h.rel.at_drawn d).reserve ob).realize (b := st.nx) (z := z) (ob := ob') (by omega) h.rel.dom_none (by rw [Tr.get_put, if_pos rfl]) (h2 _ h.rel.below.fresh)
     have hle := Place.le_set (x := (w.heap.size, 0, z)) h.rel.dom_none
     exact next ⟨tm', st.hp.put st.nx (some ob), st.nx + 1⟩ g _ _ _ W ⟨hI, rfl⟩ ⟨hrel, aput_sound (h.frame.mono hle) ht (h3 _ _ (Place.set_same ρ st.nx _))⟩ ⟨hle, Nat.le_succ _, fun b hb hr => ⟨by rw [Place.set_other (by omega)]; exact hr, by show (st.hp.put st.nx (some ob)).get b = _; rw [Tr.get_put, if_neg (by omega)]⟩⟩ hs.2
    ·exact hs.elim
  ·rw [awanted_sound h.frame hw, if_neg (by simp)]
   split at hs
   case h_2 => exact hs.elim
   rename_i tm' ht
   exact next ⟨tm', st.hp, st.nx⟩ g _ _ ρ W ⟨hI, rfl⟩ ⟨h.rel, aput_sound h.frame ht (closed_refl (by simp [undef, closed]))⟩ (.refl _ _ _) hs
theorem gheavy_congr {P : Program} {pc : GCall γ} {hp : Tr AObj} {nx : Nat} {g : γ} {o : Oper} {ev ev' : Operand → Option Value} {K : Out → Tr AObj → Nat → γ → Prop} (h : ∀ x ∈ o.op.operands, ev x = ev' x) : gheavy P pc hp nx g o ev K = gheavy P pc hp nx g o ev' K := by
 have hb : (vheavy P (toV noP) hp nx o ev fun v _ hp' nx' => K (.ret v) hp' nx' g) = (vheavy P (toV noP) hp nx o ev' fun v _ hp' nx' => K (.ret v) hp' nx' g) := vheavy_congr h
 obtain ⟨dst, op, type, pos, after, guard⟩ := o
 unfold gheavy
 cases op <;> dsimp only <;> try exact hb
 case panic x => rw [h x (by simp [Op.operands])]
 case call c =>
  obtain ⟨callee, args, argTypes⟩ := c
  dsimp only
  have hA : evL ev args.toList = evL ev' args.toList := evL_congr fun x hx => h x (by simp [Op.operands, Call.operands]; exact .inr (by simpa using hx))
  split
  ·rename_i f
   rw [hA, h f (by simp [Op.operands, Call.operands])]
  ·rename_i x name
   rw [hA, h x (by simp [Op.operands, Call.operands])]
  ·split
   ·rename_i x hargs
    rw [h x (by
     have : x ∈ args := by (have : x ∈ args.toList := by rw [hargs]; simp); simpa using this
     simp [Op.operands, Call.operands, this])]
   ·rfl
  ·exact hb
def gdraw (P : Program) (pc : GCall γ) (ops : Array Oper) (n : Nat) : Nat → Array Bool → AS → γ → List Rd → (AS → γ → Prop) → (Value → AS → γ → Prop) → Prop
 | 0, listed, st, g, _, K, _ => match Region.ready .any ops listed with
  | [] => K st g
  | _ => False
 | f + 1, listed, st, g, rds, K, X => match Region.ready .any ops listed with
  | [] => K st g
  | r :: rs => match (r :: rs).find? (lightIdx ops) with
   | some i => match ops[i]? with
    | some o => vguard ops st.tm o
      (match slight P st.hp o (aev st.tm) with
      | some (.val v, ob) => ob ∧ vsplit v fun v => match aput n st.tm o.dst v with
       | some tm' => gdraw P pc ops n f (listed.setIfInBounds i true) ⟨tm', st.hp, st.nx⟩ g (bif isRead o (aev st.tm) then ⟨i, o, st.tm, v⟩ :: rds else rds) K X
       | none => False
      | some (.new b nv, ob) => match aput n st.tm o.dst (nv.val st.nx) with
       | some tm' => bif isRead o (aev st.tm) then False else ob ∧ gdraw P pc ops n f (listed.setIfInBounds i true) ⟨tm', st.hp.put st.nx (some b), st.nx + 1⟩ g rds K X
       | none => False
      | none => False)
      (match aput n st.tm o.dst undef with
      | some tm' => gdraw P pc ops n f (listed.setIfInBounds i true) ⟨tm', st.hp, st.nx⟩ g rds K X
      | none => False)
    | none => False
   | none => match rs with
    | [] => match ops[r]? with
     | some o => vguard ops st.tm o
       (gheavy P pc st.hp st.nx g o (aev st.tm) fun res hp' nx' g' => match res with
        | .ret v => vsplit v fun v => match aput n st.tm o.dst v with
         | some tm' => vstab P hp' ops r rds ∧ gdraw P pc ops n f (listed.setIfInBounds r true) ⟨tm', hp', nx'⟩ g' rds K X
         | none => False
        | .pan v => X v ⟨.e, hp', nx'⟩ g')
       (match aput n st.tm o.dst undef with
       | some tm' => gdraw P pc ops n f (listed.setIfInBounds r true) ⟨tm', st.hp, st.nx⟩ g rds K X
       | none => False)
     | none => False
    | _ => False
section
variable {P : Program} {I : Base → γ → Prop} {kb : Nat} {kx : Nat × Nat × Nat} {W0 : Base} {ops : Array Oper} {n : Nat} {st0 : AS} {ρ0 : Place} {Q : Exit → Act → World → Prop}
theorem gdraw_main {pc : GCall γ} (hcall : GCallOk P I kb kx pc) (hkx : ρ0.pl kb = some kx) (hD : drawOk ops = true) {K : AS → γ → Prop} {X : Value → AS → γ → Prop} (hQ : ∀ st g, K st g → ∀ a' w' ρ' W, I W g ∧ W.ds = W0.ds → SRel ρ' W n st a' w' → Step ρ0 ρ' st0.hp st.hp st0.nx st.nx → Q .normal a' w')
  (hX : ∀ v st g, X v st g → ∀ v' a' w' ρ' W, I W g ∧ W.ds = W0.ds → VR ρ' v v' → SRel ρ' W n st a' w' → Step ρ0 ρ' st0.hp st.hp st0.nx st.nx → Q (.panic [{ v := v', recovered := false }]) a' w') :
  ∀ (m f : Nat) (C : Array Bool) (st : AS) (g : γ) (rds : List Rd) (J : Info) (L : Array Bool) (a : Act) (w : World) (ρ : Place) (W : Base), unl ops L ≤ m → I W g ∧ W.ds = W0.ds → Inv P W ops n st0 ρ0 C st rds J L a w ρ → gdraw P pc ops n f C st g rds K X → wpAny P .any ops Q m L a w := by
 intro m
 induction m with
 | zero =>
  intro f C st g rds J L a w ρ W hm hI h hs
  have hr : Region.ready .any ops L = [] := by
   have hnil : ((List.range ops.size).filter fun i => !L.getD i true) = [] := List.eq_nil_of_length_eq_zero (Nat.le_zero.1 hm)
   apply List.eq_nil_iff_forall_not_mem.2
   intro j hj
   obtain ⟨h1, o, h2, h3⟩ := mem_ready.1 hj
   have : j ∈ ((List.range ops.size).filter fun i => !L.getD i true) := by
    simp only [List.mem_filter, List.mem_range]
    exact ⟨(Array.getElem?_eq_some_iff.1 h2).1, by rw [h1]; rfl⟩
   rw [hnil] at this
   cases this
  have hall := h.all hD hr
  have hallI : ∀ i, i < ops.size → In L i := fun i hi => Classical.byContradiction fun hn => by
   have : i ∈ ((List.range ops.size).filter fun i => !L.getD i true) := by
    simp only [List.mem_filter, List.mem_range]
    exact ⟨hi, by rw [unlisted_of (by rw [h.ls]; exact hi) hn]; rfl⟩
   rw [List.eq_nil_of_length_eq_zero (Nat.le_zero.1 hm)] at this
   cases this
  have hrC : Region.ready .any ops C = [] := by
   apply List.eq_nil_iff_forall_not_mem.2
   intro j hj
   obtain ⟨h1, o, h2, h3⟩ := mem_ready.1 hj
   exact (unlisted h1).2 (h.sub j (hallI j (Array.getElem?_eq_some_iff.1 h2).1))
  have hst : K st g := by
   cases f with
   | zero => simp only [gdraw, hrC] at hs; exact hs
   | succ f => simp only [gdraw, hrC] at hs; exact hs
  exact ⟨hr, hQ st g hst a w ρ W hI (h.done hall) h.step⟩
 | succ m ihm =>
  intro f
  induction f with
  | zero =>
   intro C st g rds J L a w ρ W hm hI h hs
   have hs0 := hs
   simp only [gdraw] at hs
   split at hs
   case h_2 => exact hs.elim
   rename_i hrC
   refine ⟨fun hr => hQ st g hs a w ρ W hI (h.done (h.all hD hr)) h.step, fun j hj => ?_⟩
   obtain ⟨h1, h2, h3, o, h4, h5⟩ := ready_in h.cs h.sub hj
   rw [hrC] at h1
   have hjC := h1.resolve_right (by simp)
   refine wpOp_mono ?_ (h.run hD h4 hjC h2 h5)
   rintro a' w' ⟨ρ', h'⟩
   refine ihm 0 C _ g rds J _ a' w' ρ' W ?_ hI h' hs0
   have := unl_set (ops := ops) (L := L) h3 h.ls (mem_ready.1 hj).1
   omega
  | succ f ihf =>
   intro C st g rds J L a w ρ W hm hI h hs
   have pending : ∀ j, j ∈ Region.ready .any ops L → In C j → ∀ o, ops[j]? = some o → (∀ e ∈ o.after, Region.binds .any e = true → In L e.on) → wpOp P ops Q j (wpAny P .any ops Q m (L.setIfInBounds j true)) a w := by
    intro j hj hjC o ho hall
    refine wpOp_mono ?_ (h.run hD ho hjC (unlisted (mem_ready.1 hj).1).2 hall)
    rintro a' w' ⟨ρ', h'⟩
    refine ihm (f + 1) C st g rds J _ a' w' ρ' W ?_ hI h' hs
    have := unl_set (ops := ops) (L := L) (Array.getElem?_eq_some_iff.1 ho).1 h.ls (mem_ready.1 hj).1
    omega
   have hs0 := hs
   simp only [gdraw] at hs
   split at hs
   ·rename_i hrC
    refine ⟨fun hr => hQ st g hs a w ρ W hI (h.done (h.all hD hr)) h.step, fun j hj => ?_⟩
    obtain ⟨h1, h2, h3, o, h4, h5⟩ := ready_in h.cs h.sub hj
    rw [hrC] at h1
    exact pending j hj (h1.resolve_right (by simp)) o h4 h5
   ·rename_i r rs hrC
    split at hs
    ·rename_i i hf
     have him : i ∈ Region.ready .any ops C := by rw [hrC]; exact List.mem_of_find?_eq_some hf
     have hil := List.find?_some hf
     obtain ⟨g1, o, g2, g3⟩ := mem_ready.1 him
     have hnC := (unlisted g1).2
     have hh : isHeavy o.op = false := by
      unfold lightIdx at hil
      rw [g2] at hil
      simpa using hil
     rw [g2] at hs
     dsimp only at hs
     rcases vguard_cases hs with ⟨hw, hs⟩ | ⟨hw, hs⟩
     ·split at hs
      ·rename_i v ob hv
       obtain ⟨hob, hs⟩ := hs
       replace hs := vsplit_ap hs
       split at hs
       case h_2 => exact hs.elim
       rename_i tm' ht
       refine ihf _ ⟨tm', st.hp, st.nx⟩ g _ (J.set i st.tm v none) L a w ρ W hm hI (h.absorb hD g2 hnC g3 hh (st' := ⟨tm', st.hp, st.nx⟩) (v := v) (B := none) ht h.rel (fun _ _ h => h) (Nat.le_refl _) h.step (fun b hb => by cases hb) (fun J' e1 e2 e3 => .inr (.inl ⟨by rw [e1]; exact hw, .inr ⟨ob, by rw [e1, e2]; exact hv, hob⟩, e3⟩)) ?_ ?_) hs
       ·intro x hx
        cases isRead o (aev st.tm) <;> simp [hx]
       ·intro _ hrd
        rw [hrd]
        simp
      ·rename_i ob nv obp hv
       split at hs
       case h_2 => exact hs.elim
       rename_i tm' ht
       cases hrd : isRead o (aev st.tm) with
       | true => rw [hrd] at hs; exact hs.elim
       | false =>
        rw [hrd, cond_false] at hs
        obtain ⟨hob, hs⟩ := hs
        refine ihf _ ⟨tm', st.hp.put st.nx (some ob), st.nx + 1⟩ g _ (J.set i st.tm (nv.val st.nx) (some st.nx)) L a w ρ W hm hI (h.absorb hD g2 hnC g3 hh (st' := ⟨tm', st.hp.put st.nx (some ob), st.nx + 1⟩) (v := nv.val st.nx) (B := some st.nx) ht (h.rel.reserve ob) ?_ (Nat.le_succ _) ?_ (fun b hb => by cases hb; exact Nat.le_refl _) (fun J' e1 e2 e3 => ?_) (fun _ h => h) (fun _ h' => by rw [hrd] at h'; cases h')) hs
        ·intro b x hb
         have : b ≠ st.nx := fun e => by rw [e, h.rel.fresh _ (Nat.le_refl _)] at hb; cases hb
         rw [Tr.get_put, if_neg this]
         exact hb
        ·exact ⟨h.step.le, Nat.le_succ_of_le h.step.more, fun b hb hr => by
          have := h.step.old b hb hr
          refine ⟨this.1, ?_⟩
          rw [Tr.get_put, if_neg (by have := h.step.more; omega)]
          exact this.2⟩
        ·refine .inr (.inr ⟨by rw [e1]; exact hw, by rw [e1]; exact hrd, ob, nv, st.nx, ?_, e2, e3, by simp, h.step.more, h.rel.dom_none, by rw [Tr.get_put, if_pos rfl]⟩)
         rw [e1]
         exact LOk.still (hp := st.hp) hrd (.inr ⟨obp, hv, hob⟩)
      ·exact hs.elim
     ·split at hs
      case h_2 => exact hs.elim
      rename_i tm' ht
      exact ihf _ ⟨tm', st.hp, st.nx⟩ g _ (J.set i st.tm undef none) L a w ρ W hm hI (h.absorb hD g2 hnC g3 hh (st' := ⟨tm', st.hp, st.nx⟩) (v := undef) (B := none) ht h.rel (fun _ _ h => h) (Nat.le_refl _) h.step (fun b hb => by cases hb) (fun J' e1 e2 e3 => .inl ⟨by rw [e1]; exact hw, e2, e3⟩) (fun _ h => h) (fun h' => by rw [hw] at h'; cases h')) hs
    ·split at hs
     case h_2 => exact hs.elim
     split at hs
     case h_2 => exact hs.elim
     rename_i o ho
     have hrm : r ∈ Region.ready .any ops C := by rw [hrC]; simp
     obtain ⟨g1, o', g2, g3⟩ := mem_ready.1 hrm
     rw [ho] at g2
     cases g2
     have hnC := (unlisted g1).2
     refine ⟨fun hr => ?_, fun j hj => ?_⟩
     ·exfalso
      have hall := h.all hD hr
      have : r ∈ Region.ready .any ops L := mem_ready.2 ⟨unlisted_of (by rw [h.ls]; exact (Array.getElem?_eq_some_iff.1 ho).1) (fun h' => hnC (h.sub r h')), o, ho, fun e he hb => hall _ (g3 e he hb)⟩
      rw [hr] at this
      cases this
     ·obtain ⟨h1, h2, h3, oj, h4, h5⟩ := ready_in h.cs h.sub hj
      rcases h1 with h1 | h1
      ·exact pending j hj h1 oj h4 h5
      ·rw [hrC] at h1
       have hjr : j = r := by simpa using h1
       subst hjr
       rw [ho] at h4
       cases h4
       have hlk := h.heavyLook hD ho hnC g3 h5
       obtain ⟨ev', he1, he2⟩ := erel_of_looks hlk
       have fin : ∀ (st' : AS) (g' : γ) (a' : Act) (w' : World) (W' : Base), I W' g' ∧ W'.ds = W0.ds → (∃ ρ' I', Inv P W' ops n st0 ρ0 (C.setIfInBounds j true) st' rds I' (L.setIfInBounds j true) a' w' ρ') → gdraw P pc ops n f (C.setIfInBounds j true) st' g' rds K X → wpAny P .any ops Q m (L.setIfInBounds j true) a' w' := by
        rintro st' g' a' w' W' hI' ⟨ρ', I', h'⟩ hs'
        refine ihm f _ st' g' rds I' _ a' w' ρ' W' ?_ hI' h' hs'
        have := unl_set (ops := ops) (L := L) h3 h.ls (mem_ready.1 hj).1
        omega
       unfold wpOp
       simp only [ho]
       rcases vguard_cases hs with ⟨hw, hs⟩ | ⟨hw, hs⟩
       ·rw [awanted_sound' h.size hlk hw, if_pos rfl]
        rw [gheavy_congr he2] at hs
        refine .inl (gheavy_sound hcall hI.1 (h.step.le.1 kb kx hkx) h.rel he1 hs (fun v hp' nx' g' v' w' ρ' W' hK i1 q1 q2 q3 => ?_) (fun v hp' nx' g' v' w' ρ' W' hK i1 q1 q2 q3 => ?_))
        ·dsimp only at hK
         replace hK := vsplit_ap hK
         split at hK
         case h_2 => exact hK.elim
         rename_i tm' ht
         exact fin ⟨tm', hp', nx'⟩ g' _ _ W' ⟨i1.1, i1.2.trans hI.2⟩ (h.heavyFinW i1.2 hD ho hnC g3 h5 (st' := ⟨tm', hp', nx'⟩) (.inr (vstab_ok hK.1)) v v' w' ρ' ht q1 q2 q3) hK.2
        ·exact hX v ⟨.e, hp', nx'⟩ g' hK v' a w' ρ' W' ⟨i1.1, i1.2.trans hI.2⟩ q1 ⟨q2, ⟨h.size, h.defers.trans i1.2.symm, fun t u hu => by cases hu⟩⟩ (h.step.trans q3)
       ·rw [awanted_sound' h.size hlk hw, if_neg (by simp)]
        split at hs
        case h_2 => exact hs.elim
        rename_i tm' ht
        exact fin ⟨tm', st.hp, st.nx⟩ g _ _ W hI (h.heavyFin hD ho hnC g3 h5 (st' := ⟨tm', st.hp, st.nx⟩) (.inl rfl) undef undef w ρ ht (closed_refl (by simp [undef, closed])) h.rel (.refl _ _ _)) hs
end
def gregion (P : Program) (pc : GCall γ) (n : Nat) (ops : Array Oper) (draw : Bool) (st : AS) (g : γ) (K : AS → γ → Prop) (X : Value → AS → γ → Prop) : Prop :=
 bif draw then (bif drawOk ops then gdraw P pc ops n ops.size (Array.replicate ops.size false) st g [] K X else False) else gseq P pc ops n ops.toList st g K X
theorem gregion_sound {P : Program} {I : Base → γ → Prop} {kb : Nat} {kx : Nat × Nat × Nat} {pc : GCall γ} {W : Base} (hcall : GCallOk P I kb kx pc) (hm : P.follows .mixedOrders = true) {ops : Array Oper} {draw : Bool} {id n : Nat} {Q : Exit → Act → World → Prop} {st : AS} {g : γ} (hI : I W g) {ρ : Place} (hkx : ρ.pl kb = some kx) {K : AS → γ → Prop} {X : Value → AS → γ → Prop} {a : Act} {w : World} (h : SRel ρ W n st a w)
  (hs : gregion P pc n ops draw st g K X) (hk : ∀ st' g', K st' g' → ∀ a' w' ρ' W', I W' g' ∧ W'.ds = W.ds → SRel ρ' W' n st' a' w' → Step ρ ρ' st.hp st'.hp st.nx st'.nx → Q .normal a' w')
  (hx : ∀ v st' g', X v st' g' → ∀ v' a' w' ρ' W', I W' g' ∧ W'.ds = W.ds → VR ρ' v v' → SRel ρ' W' n st' a' w' → Step ρ ρ' st.hp st'.hp st.nx st'.nx → Q (.panic [{ v := v', recovered := false }]) a' w') : (Code.region id ops draw).wp P Q a w := by
 unfold gregion at hs
 cases draw with
 | true =>
  rw [cond_true] at hs
  cases hD : drawOk ops with
  | false => rw [hD] at hs; exact hs.elim
  | true =>
   rw [hD, cond_true] at hs
   refine wp_region_any hm ?_
   have hnot : ∀ i, ¬ In (Array.replicate ops.size false) i := fun i hi => by
    have := lt_of_in (ops := ops) (by simp) hi
    simp [In, this] at hi
   refine gdraw_main (W0 := W) hcall hkx hD hk hx ops.size ops.size _ st g [] ⟨fun _ => .e, fun _ => undef, fun _ => none⟩ _ a _ ρ W ?_ ⟨hI, rfl⟩ ⟨by simp, by simp, fun i hi => (hnot i hi).elim, fun i hi => (hnot i hi).elim, fun i hi => hi, fun j o t hj => (hnot j hj).elim, fun t _ => rfl, h.rel.drew, h.frame.size, h.frame.defers, fun j o t hj => (hnot j hj).elim, fun t v _ hv => h.frame.slot t v hv, fun j o hj => (hnot j hj).elim, fun j k b hj => (hnot j hj).elim, .refl _ _ _, fun j o hj => (hnot j hj).elim⟩ hs
   unfold unl
   exact Nat.le_trans (List.length_filter_le _ _) (by simp)
 | false =>
  rw [cond_false] at hs
  refine wp_region ?_
  rw [List.range_eq_range']
  have := gseq_sound hcall (Q := Q) ops.toList 0 st g K X W ρ a w (by simp) hI hkx h hs hk hx
  simpa using this
def grun (P : Program) (pc : GCall γ) (n : Nat) (lt : List (Nat × List Nat)) (base : List Bool) (H : Code → List Fr → AS → γ → Prop) (Fin : AS → γ → Prop) (X : Value → AS → γ → Prop) : Nat → VM → List Fr → AS → γ → Prop
 | 0, _, _, _, _ => False
 | f + 1, .normal, k, st, g => match k with
  | [] => Fin st g
  | .seq y :: k' => grun P pc n lt base H Fin X f (.code y) k' st g
  | .block _ :: k' => grun P pc n lt base H Fin X f .normal k' st g
  | .loop b :: k' => match slotsOf (rid b) lt with
   | some _ => vloop lt base (fun b k st => H b k st g) b k' st
   | none => grun P pc n lt base H Fin X f (.code b) (.loop b :: k') st g
 | f + 1, .exit id, k, st, g => match k with
  | [] => False
  | .block j :: k' => bif id.beq j then grun P pc n lt base H Fin X f .normal k' st g else grun P pc n lt base H Fin X f (.exit id) k' st g
  | _ :: k' => grun P pc n lt base H Fin X f (.exit id) k' st g
 | _ + 1, .ret, _, st, g => Fin st g
 | f + 1, .code c, k, st, g => match c with
  | .skip | .label _ => grun P pc n lt base H Fin X f .normal k st g
  | .region _ ops draw => gregion P pc n ops draw st g (fun st' g' => grun P pc n lt base H Fin X f .normal k st' g') X
  | .seq x y => grun P pc n lt base H Fin X f (.code x) (.seq y :: k) st g
  | .cond c x y => match aev st.tm c with
   | some (.bool b) => pIf b (grun P pc n lt base H Fin X f (.code x) k st g) (grun P pc n lt base H Fin X f (.code y) k st g)
   | _ => False
  | .block id b => grun P pc n lt base H Fin X f (.code b) (.block id :: k) st g
  | .loop b => match slotsOf (rid b) lt with
   | some _ => vloop lt base (fun b k st => H b k st g) b k st
   | none => grun P pc n lt base H Fin X f (.code b) (.loop b :: k) st g
  | .exit id => grun P pc n lt base H Fin X f (.exit id) k st g
  | .ret => grun P pc n lt base H Fin X f .ret k st g
  | _ => False
section
variable {P : Program} {I : Base → γ → Prop} {kb : Nat} {kx : Nat × Nat × Nat} {pc : GCall γ} {W0 : Base} {n : Nat} {lt : List (Nat × List Nat)} {base : List Bool} {H : Code → List Fr → AS → γ → Prop} {Fin : AS → γ → Prop} {X : Value → AS → γ → Prop} {R : Place → AS → Prop} {Q : Exit → Act → World → Prop}
theorem grun_sound (hcall : GCallOk P I kb kx pc) (hm : P.follows .mixedOrders = true)
  (hR : ∀ ρ st ρ' st', R ρ st → Step ρ ρ' st.hp st'.hp st.nx st'.nx → R ρ' st')
  (hH : ∀ b k st g, vloop lt base (fun b k st => H b k st g) b k st → ∀ W ρ a w, I W g ∧ W.ds = W0.ds → ρ.pl kb = some kx → SRel ρ W n st a w → R ρ st → LoopWp P b (contQ P Q k) a w)
  (hF : ∀ st g, Fin st g → ∀ W ρ a w, I W g ∧ W.ds = W0.ds → ρ.pl kb = some kx → SRel ρ W n st a w → R ρ st → Q .normal a w ∧ Q .ret a w)
  (hX : ∀ v st g, X v st g → ∀ W ρ v' a w, I W g ∧ W.ds = W0.ds → VR ρ v v' → SRel ρ W n st a w → R ρ st → Q (.panic [{ v := v', recovered := false }]) a w) :
  ∀ (f : Nat) (m : VM) (k : List Fr) (st : AS) (g : γ), grun P pc n lt base H Fin X f m k st g → ∀ W ρ a w, I W g ∧ W.ds = W0.ds → ρ.pl kb = some kx → SRel ρ W n st a w → R ρ st → (match m with
   | .code c => c.wp P (contQ P Q k) a w
   | .normal => contQ P Q k .normal a w
   | .exit id => contQ P Q k (.exit id) a w
   | .ret => contQ P Q k .ret a w) := by
 intro f
 induction f with
 | zero => intro m k st g h; simp only [grun] at h
 | succ f ih =>
  intro m k st g h W ρ a w hI hkx hs hr
  cases m with
  | normal =>
   simp only [grun] at h
   dsimp only
   cases k with
   | nil => exact (hF st g h W ρ a w hI hkx hs hr).1
   | cons x k =>
    cases x with
    | seq y => exact ih (.code y) k st g h W ρ a w hI hkx hs hr
    | block id => exact ih .normal k st g h W ρ a w hI hkx hs hr
    | loop b =>
     dsimp only at h
     split at h
     ·exact hH b k st g h W ρ a w hI hkx hs hr
     ·exact loop_round (ih (.code b) (.loop b :: k) st g h W ρ a w hI hkx hs hr)
  | exit id =>
   simp only [grun] at h
   dsimp only
   cases k with
   | nil => exact h.elim
   | cons x k =>
    cases x with
    | seq y => exact ih (.exit id) k st g h W ρ a w hI hkx hs hr
    | block j =>
     show Exit.inBlock j (contQ P Q k) (.exit id) a w
     simp only [Exit.inBlock]
     dsimp only at h
     cases hj : id.beq j with
     | true =>
      rw [hj] at h
      rw [if_pos (Nat.eq_of_beq_eq_true hj)]
      exact ih .normal k st g h W ρ a w hI hkx hs hr
     | false =>
      rw [hj] at h
      rw [if_neg (fun e => by subst e; simp at hj)]
      exact ih (.exit id) k st g h W ρ a w hI hkx hs hr
    | loop b => exact ih (.exit id) k st g h W ρ a w hI hkx hs hr
  | ret =>
   simp only [grun] at h
   exact contQ_ret (hF st g h W ρ a w hI hkx hs hr).2
  | code c =>
   simp only [grun] at h
   dsimp only
   cases c with
   | skip => exact wp_skip (ih .normal k st g h W ρ a w hI hkx hs hr)
   | label l => exact wp_label (ih .normal k st g h W ρ a w hI hkx hs hr)
   | region id ops draw => exact gregion_sound hcall hm hI.1 hkx hs h (fun st' g' hK a' w' ρ' W' i1 g1 g2 => ih .normal k st' g' hK W' ρ' a' w' ⟨i1.1, i1.2.trans hI.2⟩ (g2.le.1 kb kx hkx) g1 (hR _ _ _ _ hr g2)) (fun v st' g' hK v' a' w' ρ' W' i1 g0 g1 g2 => contQ_panic (hX v st' g' hK W' ρ' v' a' w' ⟨i1.1, i1.2.trans hI.2⟩ g0 g1 (hR _ _ _ _ hr g2)))
   | seq x y => exact wp_seq (ih (.code x) (.seq y :: k) st g h W ρ a w hI hkx hs hr)
   | cond c x y =>
    dsimp only at h
    split at h
    ·rename_i b hc
     have := hs.frame.eval hc
     cases b with
     | true =>
      refine wp_cond_true (c := c) ?_ (ih (.code x) k st g h W ρ a w hI hkx hs hr)
      generalize a.eval c = z at this
      cases this
      rfl
     | false =>
      refine wp_cond_false (c := c) ?_ (ih (.code y) k st g h W ρ a w hI hkx hs hr)
      generalize a.eval c = z at this
      cases this
      rfl
    ·exact h.elim
   | block id b => exact wp_block (ih (.code b) (.block id :: k) st g h W ρ a w hI hkx hs hr)
   | loop b =>
    dsimp only at h
    split at h
    ·exact loop_of (hH b k st g h W ρ a w hI hkx hs hr)
    ·exact loop_of (loop_round (ih (.code b) (.loop b :: k) st g h W ρ a w hI hkx hs hr))
   | exit id => exact wp_exit (ih (.exit id) k st g h W ρ a w hI hkx hs hr)
   | ret => exact wp_ret (ih .ret k st g h W ρ a w hI hkx hs hr)
   | goto l => exact h.elim
   | refuse y => exact h.elim
   | scope b => exact h.elim
   | rangeFunc f ps x y => exact h.elim
end
end Go.Proofs.YtojlhapbngcjkaaGreatDoor

