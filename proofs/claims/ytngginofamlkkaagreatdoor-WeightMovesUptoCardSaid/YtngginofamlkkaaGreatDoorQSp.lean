/-
  Put together out of several texts, each in its own namespace's block. Conditions: as each theorem states them.
-/
import Derived.Test.YtngginofamlkkaaGreatDoorQSm
import Derived.Test.YtngginofamlkkaaGreatDoorQGc
noncomputable section
namespace Go.Proofs.YtngginofamlkkaaGreatDoor
open Go Go.RowKit
inductive Out where
 | ret (v : Value)
 | pan (v : Value)
abbrev eE:=FuncId -> List Value -> Tr AObj -> Nat -> (Out -> Tr AObj -> Nat -> Prop) -> Prop
def Out.Ends (ρ : Place) (r : Out) (e : Ending) : Prop :=
 match r with
 | .ret v=>∃ v',e = .returned v' /\ VR ρ v v'
 | .pan v=>∃ v',e = .panicked [{ v:=v',recovered:=false }] /\ VR ρ v v'
def dY (P : Program) (pc : eE) : Prop :=
 ∀ f args hp nx K,pc f args hp nx K -> ∀ (W : Base) ρ w args',Rel ρ W hp nx w -> VRL ρ args args' ->
  Calls P f args'.toArray w fun e w'=>∃ r hp' nx' ρ',K r hp' nx' /\ r.Ends ρ' e /\ Rel ρ' W hp' nx' w' /\ Step ρ ρ' hp hp' nx nx'
def ofV (vc : bH) : eE:=fun f args hp nx K=>vc f args hp nx fun v _ hp' nx'=>K (.ret v) hp' nx'
def onRet (K : Value -> Bool -> Tr AObj -> Nat -> Prop) (r : Out) (hp : Tr AObj) (nx : Nat) : Prop :=
 match r with
 | .ret v=>K v true hp nx
 | .pan _=>False
def toV (pc : eE) : bH:=fun f args hp nx K=>pc f args hp nx (onRet K)
theorem aAX {P : Program} {vc : bH} (h : aW P vc) : dY P (ofV vc):=fun f args hp nx K hs W ρ w args' hr ha =>
 (h f args hp nx _ hs W ρ w args' hr ha).mono fun _ _ ⟨v,_,hp',nx',v',ρ',k,_,e,g1,g2,g3⟩=>⟨.ret v,hp',nx',ρ',k,⟨v',e,g1⟩,g2,g3⟩
theorem aRp {P : Program} {pc : eE} (h : dY P pc) : aW P (toV pc):=fun f args hp nx K hs W ρ w args' hr ha =>
 (h f args hp nx _ hs W ρ w args' hr ha).mono fun _ _ ⟨r,hp',nx',ρ',k,e,g2,g3⟩=>by
  cases r with
  | ret v=>obtain ⟨v',e,g1⟩:=e; exact ⟨v,true,hp',nx',v',ρ',k,fun e=>(by cases e),e,g1,g2,g3⟩
  | pan v=>exact k.elim
def sO (P : Program) (pc : eE) (hp : Tr AObj) (nx : Nat) (o : Oper) (ev : Operand -> Option Value) (K : Out -> Tr AObj -> Nat -> Prop) : Prop :=
 match o.op with
 | .panic x=>match ev x with
  | some (.iface t v)=>K (.pan (.iface t v)) hp nx
  | _=>False
 | .call c=>match c.callee with
  | .value f=>match ev f,evL ev c.args.toList with
   | some (.func (.func k) first captured),some args=>bif nF P k then pc k (first.toList ++ args ++ captured.toList) hp nx K else False
   | _,_=>False
  | .invoke x name=>match ev x,evL ev c.args.toList with
   | some (.iface t v),some args=>match rG P t name with
    | some k=>bif nF P k then pc k (v :: args) hp nx K else False
    | none=>False
   | _,_=>False
  | .builtin .panic=>match c.args.toList with
   | [x]=>match ev x with
    | some (.iface t v)=>K (.pan (.iface t v)) hp nx
    | _=>False
   | _=>False
  | _=>kX P (toV pc) hp nx o ev fun v _ hp' nx'=>K (.ret v) hp' nx'
 | _=>kX P (toV pc) hp nx o ev fun v _ hp' nx'=>K (.ret v) hp' nx'
theorem tM {P : Program} {pc : eE} {ρ : Place} {W : Base} (hcall : dY P pc) {hp : Tr AObj} {nx : Nat} {w : World} (h : Rel ρ W hp nx w) {ev : Operand -> Option Value} {a : Act} (hF : ERel ρ ev a) {o : Oper} {K : Out -> Tr AObj -> Nat -> Prop}
  (hs : sO P pc hp nx o ev K) {next : Act -> World -> Prop} {Q : Exit -> Act -> World -> Prop}
  (hk : ∀ v hp' nx' v' w' ρ',K (.ret v) hp' nx' -> VR ρ' v v' -> Rel ρ' W hp' nx' w' -> Step ρ ρ' hp hp' nx nx' -> next (a.put o.dst v') w')
  (hq : ∀ v hp' nx' v' w' ρ',K (.pan v) hp' nx' -> VR ρ' v v' -> Rel ρ' W hp' nx' w' -> Step ρ ρ' hp hp' nx nx' -> Q (.panic [{ v:=v',recovered:=false }]) a w') : o.wp P a w next Q:=by
 have base : (kX P (toV pc) hp nx o ev fun v _ hp' nx'=>K (.ret v) hp' nx') -> o.wp P a w next Q:=fun hb =>
  oX (aRp hcall) h hF hb fun v _ hp' nx' v' w' ρ' k _ g1 g2 g3=>hk v hp' nx' v' w' ρ' k g1 g2 g3
 have ends : ∀ (k : FuncId) (args args' : List Value),pc k args hp nx K -> VRL ρ args args' -> (execOp a.eval o).run P w = .ok (.enter k args'.toArray) w -> o.wp P a w next Q:=by
  intro k args args' hc hA hrun
  unfold Oper.wp
  rw [hrun]
  refine (hcall k args hp nx K hc W ρ w _ h hA).mono ?_
  rintro e w' ⟨r,hp',nx',ρ',hK,he,g2,g3⟩
  cases r with
  | ret v=>obtain ⟨v',rfl,g1⟩:=he; exact hk v hp' nx' v' w' ρ' hK g1 g2 g3
  | pan v=>obtain ⟨v',rfl,g1⟩:=he; exact hq v hp' nx' v' w' ρ' hK g1 g2 g3
 have pans : ∀ (t : TypeId) (u : Value) (X : Value),VR ρ (.iface t u) X -> K (.pan (.iface t u)) hp nx -> (execOp a.eval o).run P w = ((Instr.panic X) >>= fun r=>pure (Next.value r)).run P w -> o.wp P a w next Q:=by
  intro t u X hX hK hrun
  unfold Oper.wp
  rw [hrun]
  cases hX with
  | iface _ hu=>exact hq _ _ _ _ _ ρ hK (.iface t hu) h (.refl _ _ _)
 obtain ⟨dst,op,type,pos,after,guard⟩:=o
 unfold sO at hs
 cases op <;> dsimp only at hs <;> try exact base hs
 case panic x =>
  split at hs
  case h_2=>exact hs.elim
  rename_i t u hx
  exact pans t u _ (hF.eval hx) hs rfl
 case call c =>
  obtain ⟨callee,args,argTypes⟩:=c
  dsimp only at hs
  split at hs
  ·rename_i f
   split at hs
   case h_2=>exact hs.elim
   rename_i k first captured as0 hf has
   cases he : nF P k with
   | false=>rw [he] at hs; exact hs.elim
   | true =>
    rw [he,cond_true] at hs
    have hfv:=hF.eval hf
    generalize hE : a.eval f = E at hfv
    cases hfv
    rename_i first' captured' s1 v1 s2 v2
    have hA:=fB hF has
    have hL:=((VRA.list ⟨s1,v1⟩).append hA).append (VRA.list ⟨s2,v2⟩)
    refine ends k _ _ hs hL ?_
    have e2 : (first'.toList ++ args.toList.map a.eval ++ captured'.toList).toArray = first' ++ args.map a.eval ++ captured':=by apply Array.ext'; simp
    rw [e2]
    unfold execOp
    simp only [resolve,hE]
    show (callFunc k (first' ++ args.map a.eval ++ captured')).run P w = _
    exact fI (oS he _) w
  ·rename_i x name
   split at hs
   case h_2=>exact hs.elim
   rename_i t v as0 hx has
   split at hs
   case h_2=>exact hs.elim
   rename_i k hm
   cases he : nF P k with
   | false=>rw [he] at hs; exact hs.elim
   | true =>
    rw [he,cond_true] at hs
    have hxv:=hF.eval hx
    have hA:=fB hF has
    generalize hE : a.eval x = E at hxv
    cases hxv with
    | @iface _ _ v' hv =>
     refine ends k (v :: as0) (v' :: args.toList.map a.eval) hs (.cons hv hA) ?_
     have hpos : ∃ j,P.types.size + Made.depth = j + 1:=⟨P.types.size + Made.depth - 1,by (have : 0 < Made.depth:=by decide); omega⟩
     obtain ⟨j,hj⟩:=hpos
     have e2 : (v' :: args.toList.map a.eval).toArray = #[v'] ++ args.map a.eval:=by apply Array.ext'; simp
     have e3 : (#[Value.iface t v'] ++ args.map a.eval).extract 1 (#[Value.iface t v'] ++ args.map a.eval).size = args.map a.eval:=by
      apply Array.ext'
      simp
      exact List.take_of_length_le (by simp)
     have e0 : (#[Value.iface t v'] ++ args.map a.eval)[0]? = some (.iface t v'):=by rw [Array.getElem?_append_left (Nat.zero_lt_one)]; rfl
     rw [e2]
     unfold execOp
     simp only [resolve,hE]
     show (invoke (.fn (.method name) #[]) (#[Value.iface t v'] ++ args.map a.eval)).run P w = _
     unfold invoke
     dsimp only
     rw [e0]
     dsimp only
     rw [e3]
     unfold callMethod
     dsimp only
     have hprog : aF P program = some P:=rfl
     rw [aL hprog]
     rw [hj]
     rw [aL (aFC hm v' j)]
     exact fI (oS he _) w
  ·split at hs
   case h_2=>exact hs.elim
   rename_i x hargs
   split at hs
   case h_2=>exact hs.elim
   rename_i t u hx
   refine pans t u _ (hF.eval hx) hs ?_
   have : args = #[x]:=by apply Array.ext'; simpa using hargs
   subst this
   have e1 : (#[x].map a.eval) = #[a.eval x]:=by simp
   unfold execOp
   simp only [resolve,e1]
   rfl
  ·exact base hs
def aQI : Op -> Bool
 | .panic _=>true
 | .call c=>match c.callee with
  | .builtin .panic | .invoke _ _=>true
  | _=>false
 | _=>false
def vK (P : Program) (pc : eE) (ops : Array Oper) (n : Nat) : List Oper -> AS -> (AS -> Prop) -> (Value -> AS -> Prop) -> Prop
 | [],st,K,_=>K st
 | o :: l,st,K,X=>qJ ops st.tm o
   (bif eC o.op || aQI o.op then sO P pc st.hp st.nx o (aev st.tm) fun r hp' nx'=>match r with
     | .ret v=>oJ v fun v=>match iZ n st.tm o.dst v with
      | some tm'=>vK P pc ops n l ⟨tm',hp',nx'⟩ K X
      | none=>False
     | .pan v=>X v ⟨st.tm,hp',nx'⟩
    else match gR P st.hp o (aev st.tm) with
     | some (.val v,ob)=>ob /\ oJ v fun v=>match iZ n st.tm o.dst v with
      | some tm'=>vK P pc ops n l ⟨tm',st.hp,st.nx⟩ K X
      | none=>False
     | some (.new b nv,ob)=>match iZ n st.tm o.dst (nv.val st.nx) with
      | some tm'=>ob /\ vK P pc ops n l ⟨tm',st.hp.put st.nx (some b),st.nx + 1⟩ K X
      | none=>False
     | none=>False)
   (match iZ n st.tm o.dst undef with
    | some tm'=>vK P pc ops n l ⟨tm',st.hp,st.nx⟩ K X
    | none=>False)
theorem yR {P : Program} {pc : eE} {W : Base} (hcall : dY P pc) {ops : Array Oper} {n : Nat} {Q : Exit -> Act -> World -> Prop} : ∀ (l : List Oper) (k : Nat) (st : AS) (K : AS -> Prop) (X : Value -> AS -> Prop) (ρ : Place) (a : Act) (w : World),ops.toList.drop k = l ->
  SRel ρ W n st a w -> vK P pc ops n l st K X -> (∀ st',K st' -> ∀ a' w' ρ',SRel ρ' W n st' a' w' -> Step ρ ρ' st.hp st'.hp st.nx st'.nx -> Q .normal a' w') ->
  (∀ v st',X v st' -> ∀ v' a' w' ρ',VR ρ' v v' -> SRel ρ' W n st' a' w' -> Step ρ ρ' st.hp st'.hp st.nx st'.nx -> Q (.panic [{ v:=v',recovered:=false }]) a' w') -> wpOps P ops Q (List.range' k l.length) a w
 | [],k,st,K,X,ρ,a,w,_,h,hs,hk,_=>by
  simp only [vK] at hs
  exact hk st hs a w ρ h (.refl _ _ _)
 | o :: l,k,st,K,X,ρ,a,w,hd,h,hs,hk,hx=>by
  simp only [vK] at hs
  have hi : ops[k]? = some o:=by
   have : (ops.toList.drop k)[0]? = some o:=by rw [hd]; rfl
   rw [List.getElem?_drop] at this
   simpa using this
  have next : ∀ (st1 : AS) (a1 : Act) (w1 : World) (ρ1 : Place),SRel ρ1 W n st1 a1 w1 -> Step ρ ρ1 st.hp st1.hp st.nx st1.nx -> vK P pc ops n l st1 K X -> wpOps P ops Q (List.range' (k + 1) l.length) a1 w1 :=
   fun st1 a1 w1 ρ1 hr hst hv=>yR hcall l (k + 1) st1 K X ρ1 a1 w1 (by rw [← List.drop_drop,hd]; rfl) hr hv (fun st' hK a' w' ρ' g1 g2=>hk st' hK a' w' ρ' g1 (hst.trans g2)) (fun v st' hX v' a' w' ρ' g0 g1 g2=>hx v st' hX v' a' w' ρ' g0 g1 (hst.trans g2))
  rw [List.length_cons,List.range'_succ,wpOps_cons]
  unfold wpOp
  simp only [hi]
  rcases gX hs with ⟨hw,hs⟩ | ⟨hw,hs⟩
  ·rw [fU h.frame hw,if_pos rfl]
   refine .inl ?_
   cases hh : eC o.op || aQI o.op with
   | true =>
    rw [hh,cond_true] at hs
    refine tM hcall h.rel h.frame.ev hs (fun v hp' nx' v' w' ρ' hK q1 q2 q3=>?_) (fun v hp' nx' v' w' ρ' hK q1 q2 q3=>?_)
    ·dsimp only at hK
     replace hK:=iY hK
     split at hK
     case h_2=>exact hK.elim
     rename_i tm' ht
     exact next ⟨tm',hp',nx'⟩ _ _ ρ' ⟨q2,eV (h.frame.mono q3.le) ht q1⟩ q3 hK
    ·exact hx v _ hK v' a w' ρ' q1 ⟨q2,h.frame.mono q3.le⟩ q3
   | false =>
    rw [hh,cond_false] at hs
    split at hs
    ·rename_i v ob hv
     obtain ⟨hob,hs⟩:=hs
     replace hs:=iY hs
     split at hs
     case h_2=>exact hs.elim
     rename_i tm' ht
     obtain ⟨v',h1,h2⟩:=jG (r:=.val v) h.rel h.frame.ev hv hob
     unfold Oper.wp
     rw [h1]
     exact next ⟨tm',st.hp,st.nx⟩ _ _ ρ ⟨h.rel,eV h.frame ht h2⟩ (.refl _ _ _) hs
    ·rename_i ob nv obp hv
     split at hs
     case h_2=>exact hs.elim
     rename_i tm' ht
     obtain ⟨v',ob',d,z,h1,h2,h3⟩:=jG (r:=.new ob nv) h.rel h.frame.ev hv hs.1
     unfold Oper.wp
     rw [h1]
     have hrel:=((h.rel.at_drawn d).reserve ob).realize (b:=st.nx) (z:=z) (ob:=ob') (by omega) h.rel.dom_none (by rw [Tr.get_put,if_pos rfl]) (h2 _ h.rel.below.fresh)
     have hle:=Place.le_set (x:=(w.heap.size,0,z)) h.rel.dom_none
     exact next ⟨tm',st.hp.put st.nx (some ob),st.nx + 1⟩ _ _ _ ⟨hrel,eV (h.frame.mono hle) ht (h3 _ _ (Place.set_same ρ st.nx _))⟩ ⟨hle,Nat.le_succ _,fun b hb hr=>⟨by rw [Place.set_other (by omega)]; exact hr,by show (st.hp.put st.nx (some ob)).get b = _; rw [Tr.get_put,if_neg (by omega)]⟩⟩ hs.2
    ·exact hs.elim
  ·rw [fU h.frame hw,if_neg (by simp)]
   split at hs
   case h_2=>exact hs.elim
   rename_i tm' ht
   exact next ⟨tm',st.hp,st.nx⟩ _ _ ρ ⟨h.rel,eV h.frame ht (cJ (by simp [undef,dK]))⟩ (.refl _ _ _) hs
theorem aDM {P : Program} {pc : eE} {hp : Tr AObj} {nx : Nat} {o : Oper} {ev ev' : Operand -> Option Value} {K : Out -> Tr AObj -> Nat -> Prop} (h : ∀ x ∈ o.op.operands,ev x = ev' x) : sO P pc hp nx o ev K = sO P pc hp nx o ev' K:=by
 have hb : (kX P (toV pc) hp nx o ev fun v _ hp' nx'=>K (.ret v) hp' nx') = (kX P (toV pc) hp nx o ev' fun v _ hp' nx'=>K (.ret v) hp' nx'):=uR h
 obtain ⟨dst,op,type,pos,after,guard⟩:=o
 unfold sO
 cases op <;> dsimp only <;> try exact hb
 case panic x=>rw [h x (by simp [Op.operands])]
 case call c =>
  obtain ⟨callee,args,argTypes⟩:=c
  dsimp only
  have hA : evL ev args.toList = evL ev' args.toList:=iW fun x hx=>h x (by simp [Op.operands,Call.operands]; exact .inr (by simpa using hx))
  split
  ·rename_i f
   rw [hA,h f (by simp [Op.operands,Call.operands])]
  ·rename_i x name
   rw [hA,h x (by simp [Op.operands,Call.operands])]
  ·split
   ·rename_i x hargs
    rw [h x (by
     have : x ∈ args:=by (have : x ∈ args.toList:=by rw [hargs]; simp); simpa using this
     simp [Op.operands,Call.operands,this])]
   ·rfl
  ·exact hb
def kY (P : Program) (pc : eE) (ops : Array Oper) (n : Nat) : Nat -> Array Bool -> AS -> List Rd -> (AS -> Prop) -> (Value -> AS -> Prop) -> Prop
 | 0,listed,st,_,K,_=>match Region.ready .any ops listed with
  | []=>K st
  | _=>False
 | f + 1,listed,st,rds,K,X=>match Region.ready .any ops listed with
  | []=>K st
  | r :: rs=>match (r :: rs).find? (oC ops) with
   | some i=>match ops[i]? with
    | some o=>qJ ops st.tm o
      (match gR P st.hp o (aev st.tm) with
      | some (.val v,ob)=>ob /\ oJ v fun v=>match iZ n st.tm o.dst v with
       | some tm'=>kY P pc ops n f (listed.setIfInBounds i true) ⟨tm',st.hp,st.nx⟩ (bif eW o (aev st.tm) then ⟨i,o,st.tm,v⟩ :: rds else rds) K X
       | none=>False
      | some (.new b nv,ob)=>match iZ n st.tm o.dst (nv.val st.nx) with
       | some tm'=>bif eW o (aev st.tm) then False else ob /\ kY P pc ops n f (listed.setIfInBounds i true) ⟨tm',st.hp.put st.nx (some b),st.nx + 1⟩ rds K X
       | none=>False
      | none=>False)
      (match iZ n st.tm o.dst undef with
      | some tm'=>kY P pc ops n f (listed.setIfInBounds i true) ⟨tm',st.hp,st.nx⟩ rds K X
      | none=>False)
    | none=>False
   | none=>match rs with
    | []=>match ops[r]? with
     | some o=>qJ ops st.tm o
       (sO P pc st.hp st.nx o (aev st.tm) fun res hp' nx'=>match res with
        | .ret v=>oJ v fun v=>match iZ n st.tm o.dst v with
         | some tm'=>aC0 P hp' ops r rds /\ kY P pc ops n f (listed.setIfInBounds r true) ⟨tm',hp',nx'⟩ rds K X
         | none=>False
        | .pan v=>X v ⟨.e,hp',nx'⟩)
       (match iZ n st.tm o.dst undef with
       | some tm'=>kY P pc ops n f (listed.setIfInBounds r true) ⟨tm',st.hp,st.nx⟩ rds K X
       | none=>False)
     | none=>False
    | _=>False
section
variable {P : Program} {W : Base} {ops : Array Oper} {n : Nat} {st0 : AS} {ρ0 : Place} {Q : Exit -> Act -> World -> Prop}
theorem aGq {pc : eE} (hcall : dY P pc) (hD : eU ops = true) {K : AS -> Prop} {X : Value -> AS -> Prop} (hQ : ∀ st,K st -> ∀ a' w' ρ',SRel ρ' W n st a' w' -> Step ρ0 ρ' st0.hp st.hp st0.nx st.nx -> Q .normal a' w')
  (hX : ∀ v st,X v st -> ∀ v' a' w' ρ',VR ρ' v v' -> SRel ρ' W n st a' w' -> Step ρ0 ρ' st0.hp st.hp st0.nx st.nx -> Q (.panic [{ v:=v',recovered:=false }]) a' w') :
  ∀ (m f : Nat) (C : Array Bool) (st : AS) (rds : List Rd) (I : Info) (L : Array Bool) (a : Act) (w : World) (ρ : Place),unl ops L <= m -> Inv P W ops n st0 ρ0 C st rds I L a w ρ -> kY P pc ops n f C st rds K X -> wpAny P .any ops Q m L a w:=by
 intro m
 induction m with
 | zero =>
  intro f C st rds I L a w ρ hm h hs
  have hr : Region.ready .any ops L = []:=by
   have hnil : ((List.range ops.size).filter fun i=>!L.getD i true) = []:=List.eq_nil_of_length_eq_zero (Nat.le_zero.1 hm)
   apply List.eq_nil_iff_forall_not_mem.2
   intro j hj
   obtain ⟨h1,o,h2,h3⟩:=mem_ready.1 hj
   have : j ∈ ((List.range ops.size).filter fun i=>!L.getD i true):=by
    simp only [List.mem_filter,List.mem_range]
    exact ⟨(Array.getElem?_eq_some_iff.1 h2).1,by rw [h1]; rfl⟩
   rw [hnil] at this
   cases this
  have hall:=h.all hD hr
  have hallI : ∀ i,i < ops.size -> In L i:=fun i hi=>Classical.byContradiction fun hn=>by
   have : i ∈ ((List.range ops.size).filter fun i=>!L.getD i true):=by
    simp only [List.mem_filter,List.mem_range]
    exact ⟨hi,by rw [fK (by rw [h.ls]; exact hi) hn]; rfl⟩
   rw [List.eq_nil_of_length_eq_zero (Nat.le_zero.1 hm)] at this
   cases this
  have hrC : Region.ready .any ops C = []:=by
   apply List.eq_nil_iff_forall_not_mem.2
   intro j hj
   obtain ⟨h1,o,h2,h3⟩:=mem_ready.1 hj
   exact (fC h1).2 (h.sub j (hallI j (Array.getElem?_eq_some_iff.1 h2).1))
  have hst : K st:=by
   cases f with
   | zero=>simp only [kY,hrC] at hs; exact hs
   | succ f=>simp only [kY,hrC] at hs; exact hs
  exact ⟨hr,hQ st hst a w ρ (h.done hall) h.step⟩
 | succ m ihm =>
  intro f
  induction f with
  | zero =>
   intro C st rds I L a w ρ hm h hs
   have hs0:=hs
   simp only [kY] at hs
   split at hs
   case h_2=>exact hs.elim
   rename_i hrC
   refine ⟨fun hr=>hQ st hs a w ρ (h.done (h.all hD hr)) h.step,fun j hj=>?_⟩
   obtain ⟨h1,h2,h3,o,h4,h5⟩:=jL h.cs h.sub hj
   rw [hrC] at h1
   have hjC:=h1.resolve_right (by simp)
   refine wpOp_mono ?_ (h.run hD h4 hjC h2 h5)
   rintro a' w' ⟨ρ',h'⟩
   refine ihm 0 C _ rds I _ a' w' ρ' ?_ h' hs0
   have:=lH (ops:=ops) (L:=L) h3 h.ls (mem_ready.1 hj).1
   omega
  | succ f ihf =>
   intro C st rds I L a w ρ hm h hs
   have pending : ∀ j,j ∈ Region.ready .any ops L -> In C j -> ∀ o,ops[j]? = some o -> (∀ e ∈ o.after,Region.binds .any e = true -> In L e.on) -> wpOp P ops Q j (wpAny P .any ops Q m (L.setIfInBounds j true)) a w:=by
    intro j hj hjC o ho hall
    refine wpOp_mono ?_ (h.run hD ho hjC (fC (mem_ready.1 hj).1).2 hall)
    rintro a' w' ⟨ρ',h'⟩
    refine ihm (f + 1) C st rds I _ a' w' ρ' ?_ h' hs
    have:=lH (ops:=ops) (L:=L) (Array.getElem?_eq_some_iff.1 ho).1 h.ls (mem_ready.1 hj).1
    omega
   have hs0:=hs
   simp only [kY] at hs
   split at hs
   ·rename_i hrC
    refine ⟨fun hr=>hQ st hs a w ρ (h.done (h.all hD hr)) h.step,fun j hj=>?_⟩
    obtain ⟨h1,h2,h3,o,h4,h5⟩:=jL h.cs h.sub hj
    rw [hrC] at h1
    exact pending j hj (h1.resolve_right (by simp)) o h4 h5
   ·rename_i r rs hrC
    split at hs
    ·rename_i i hf
     have him : i ∈ Region.ready .any ops C:=by rw [hrC]; exact List.mem_of_find?_eq_some hf
     have hil:=List.find?_some hf
     obtain ⟨g1,o,g2,g3⟩:=mem_ready.1 him
     have hnC:=(fC g1).2
     have hh : eC o.op = false:=by
      unfold oC at hil
      rw [g2] at hil
      simpa using hil
     rw [g2] at hs
     dsimp only at hs
     rcases gX hs with ⟨hw,hs⟩ | ⟨hw,hs⟩
     ·split at hs
      ·rename_i v ob hv
       obtain ⟨hob,hs⟩:=hs
       replace hs:=iY hs
       split at hs
       case h_2=>exact hs.elim
       rename_i tm' ht
       refine ihf _ ⟨tm',st.hp,st.nx⟩ _ (I.set i st.tm v none) L a w ρ hm (h.absorb hD g2 hnC g3 hh (st':=⟨tm',st.hp,st.nx⟩) (v:=v) (B:=none) ht h.rel (fun _ _ h=>h) (Nat.le_refl _) h.step (fun b hb=>by cases hb) (fun I' e1 e2 e3=>.inr (.inl ⟨by rw [e1]; exact hw,.inr ⟨ob,by rw [e1,e2]; exact hv,hob⟩,e3⟩)) ?_ ?_) hs
       ·intro x hx
        cases eW o (aev st.tm) <;> simp [hx]
       ·intro _ hrd
        rw [hrd]
        simp
      ·rename_i ob nv obp hv
       split at hs
       case h_2=>exact hs.elim
       rename_i tm' ht
       cases hrd : eW o (aev st.tm) with
       | true=>rw [hrd] at hs; exact hs.elim
       | false =>
        rw [hrd,cond_false] at hs
        obtain ⟨hob,hs⟩:=hs
        refine ihf _ ⟨tm',st.hp.put st.nx (some ob),st.nx + 1⟩ _ (I.set i st.tm (nv.val st.nx) (some st.nx)) L a w ρ hm (h.absorb hD g2 hnC g3 hh (st':=⟨tm',st.hp.put st.nx (some ob),st.nx + 1⟩) (v:=nv.val st.nx) (B:=some st.nx) ht (h.rel.reserve ob) ?_ (Nat.le_succ _) ?_ (fun b hb=>by cases hb; exact Nat.le_refl _) (fun I' e1 e2 e3=>?_) (fun _ h=>h) (fun _ h'=>by rw [hrd] at h'; cases h')) hs
        ·intro b x hb
         have : b ≠ st.nx:=fun e=>by rw [e,h.rel.fresh _ (Nat.le_refl _)] at hb; cases hb
         rw [Tr.get_put,if_neg this]
         exact hb
        ·exact ⟨h.step.le,Nat.le_succ_of_le h.step.more,fun b hb hr=>by
          have:=h.step.old b hb hr
          refine ⟨this.1,?_⟩
          rw [Tr.get_put,if_neg (by have:=h.step.more; omega)]
          exact this.2⟩
        ·refine .inr (.inr ⟨by rw [e1]; exact hw,by rw [e1]; exact hrd,ob,nv,st.nx,?_,e2,e3,by simp,h.step.more,h.rel.dom_none,by rw [Tr.get_put,if_pos rfl]⟩)
         rw [e1]
         exact LOk.still (hp:=st.hp) hrd (.inr ⟨obp,hv,hob⟩)
      ·exact hs.elim
     ·split at hs
      case h_2=>exact hs.elim
      rename_i tm' ht
      exact ihf _ ⟨tm',st.hp,st.nx⟩ _ (I.set i st.tm undef none) L a w ρ hm (h.absorb hD g2 hnC g3 hh (st':=⟨tm',st.hp,st.nx⟩) (v:=undef) (B:=none) ht h.rel (fun _ _ h=>h) (Nat.le_refl _) h.step (fun b hb=>by cases hb) (fun I' e1 e2 e3=>.inl ⟨by rw [e1]; exact hw,e2,e3⟩) (fun _ h=>h) (fun h'=>by rw [hw] at h'; cases h')) hs
    ·split at hs
     case h_2=>exact hs.elim
     split at hs
     case h_2=>exact hs.elim
     rename_i o ho
     have hrm : r ∈ Region.ready .any ops C:=by rw [hrC]; simp
     obtain ⟨g1,o',g2,g3⟩:=mem_ready.1 hrm
     rw [ho] at g2
     cases g2
     have hnC:=(fC g1).2
     refine ⟨fun hr=>?_,fun j hj=>?_⟩
     ·exfalso
      have hall:=h.all hD hr
      have : r ∈ Region.ready .any ops L:=mem_ready.2 ⟨fK (by rw [h.ls]; exact (Array.getElem?_eq_some_iff.1 ho).1) (fun h'=>hnC (h.sub r h')),o,ho,fun e he hb=>hall _ (g3 e he hb)⟩
      rw [hr] at this
      cases this
     ·obtain ⟨h1,h2,h3,oj,h4,h5⟩:=jL h.cs h.sub hj
      rcases h1 with h1 | h1
      ·exact pending j hj h1 oj h4 h5
      ·rw [hrC] at h1
       have hjr : j = r:=by simpa using h1
       subst hjr
       rw [ho] at h4
       cases h4
       have hlk:=h.heavyLook hD ho hnC g3 h5
       obtain ⟨ev',he1,he2⟩:=kE hlk
       have fin : ∀ (st' : AS) (a' : Act) (w' : World),(∃ ρ' I',Inv P W ops n st0 ρ0 (C.setIfInBounds j true) st' rds I' (L.setIfInBounds j true) a' w' ρ') -> kY P pc ops n f (C.setIfInBounds j true) st' rds K X -> wpAny P .any ops Q m (L.setIfInBounds j true) a' w':=by
        rintro st' a' w' ⟨ρ',I',h'⟩ hs'
        refine ihm f _ st' rds I' _ a' w' ρ' ?_ h' hs'
        have:=lH (ops:=ops) (L:=L) h3 h.ls (mem_ready.1 hj).1
        omega
       unfold wpOp
       simp only [ho]
       rcases gX hs with ⟨hw,hs⟩ | ⟨hw,hs⟩
       ·rw [dL h.size hlk hw,if_pos rfl]
        rw [aDM he2] at hs
        refine .inl (tM hcall h.rel he1 hs (fun v hp' nx' v' w' ρ' hK q1 q2 q3=>?_) (fun v hp' nx' v' w' ρ' hK q1 q2 q3=>?_))
        ·dsimp only at hK
         replace hK:=iY hK
         split at hK
         case h_2=>exact hK.elim
         rename_i tm' ht
         exact fin ⟨tm',hp',nx'⟩ _ _ (h.heavyFin hD ho hnC g3 h5 (st':=⟨tm',hp',nx'⟩) (.inr (uJ hK.1)) v v' w' ρ' ht q1 q2 q3) hK.2
        ·exact hX v ⟨.e,hp',nx'⟩ hK v' a w' ρ' q1 ⟨q2,⟨h.size,h.defers,fun t u hu=>by cases hu⟩⟩ (h.step.trans q3)
       ·rw [dL h.size hlk hw,if_neg (by simp)]
        split at hs
        case h_2=>exact hs.elim
        rename_i tm' ht
        exact fin ⟨tm',st.hp,st.nx⟩ _ _ (h.heavyFin hD ho hnC g3 h5 (st':=⟨tm',st.hp,st.nx⟩) (.inl rfl) undef undef w ρ ht (cJ (by simp [undef,dK])) h.rel (.refl _ _ _)) hs
end
def aAP (P : Program) (pc : eE) (n : Nat) (ops : Array Oper) (draw : Bool) (st : AS) (K : AS -> Prop) (X : Value -> AS -> Prop) : Prop :=
 bif draw then (bif eU ops then kY P pc ops n ops.size (Array.replicate ops.size false) st [] K X else False) else vK P pc ops n ops.toList st K X
theorem aBe {P : Program} {pc : eE} {W : Base} (hcall : dY P pc) (hm : P.follows .mixedOrders = true) {ops : Array Oper} {draw : Bool} {id n : Nat} {Q : Exit -> Act -> World -> Prop} {st : AS} {K : AS -> Prop} {X : Value -> AS -> Prop} {ρ : Place} {a : Act} {w : World} (h : SRel ρ W n st a w)
  (hs : aAP P pc n ops draw st K X) (hk : ∀ st',K st' -> ∀ a' w' ρ',SRel ρ' W n st' a' w' -> Step ρ ρ' st.hp st'.hp st.nx st'.nx -> Q .normal a' w')
  (hx : ∀ v st',X v st' -> ∀ v' a' w' ρ',VR ρ' v v' -> SRel ρ' W n st' a' w' -> Step ρ ρ' st.hp st'.hp st.nx st'.nx -> Q (.panic [{ v:=v',recovered:=false }]) a' w') : (Code.region id ops draw).wp P Q a w:=by
 unfold aAP at hs
 cases draw with
 | true =>
  rw [cond_true] at hs
  cases hD : eU ops with
  | false=>rw [hD] at hs; exact hs.elim
  | true =>
   rw [hD,cond_true] at hs
   refine wp_region_any hm ?_
   have hnot : ∀ i,¬ In (Array.replicate ops.size false) i:=fun i hi=>by
    have:=tI (ops:=ops) (by simp) hi
    simp [In,this] at hi
   refine aGq hcall hD hk hx ops.size ops.size _ st [] ⟨fun _=>.e,fun _=>undef,fun _=>none⟩ _ a _ ρ ?_ ⟨by simp,by simp,fun i hi=>(hnot i hi).elim,fun i hi=>(hnot i hi).elim,fun i hi=>hi,fun j o t hj=>(hnot j hj).elim,fun t _=>rfl,h.rel.drew,h.frame.size,h.frame.defers,fun j o t hj=>(hnot j hj).elim,fun t v _ hv=>h.frame.slot t v hv,fun j o hj=>(hnot j hj).elim,fun j k b hj=>(hnot j hj).elim,.refl _ _ _,fun j o hj=>(hnot j hj).elim⟩ hs
   unfold unl
   exact Nat.le_trans (List.length_filter_le _ _) (by simp)
 | false =>
  rw [cond_false] at hs
  refine wp_region ?_
  rw [List.range_eq_range']
  have:=yR hcall (Q:=Q) ops.toList 0 st K X ρ a w (by simp) h hs hk hx
  simpa using this
def fJ (P : Program) (pc : eE) (n : Nat) (lt : List (Nat × List Nat)) (base : List Bool) (H : Code -> List Fr -> AS -> Prop) (Fin : AS -> Prop) (X : Value -> AS -> Prop) : Nat -> VM -> List Fr -> AS -> Prop
 | 0,_,_,_=>False
 | f + 1,.normal,k,st=>match k with
  | []=>Fin st
  | .seq y :: k'=>fJ P pc n lt base H Fin X f (.code y) k' st
  | .block _ :: k'=>fJ P pc n lt base H Fin X f .normal k' st
  | .loop b :: k'=>match rR (rid b) lt with
   | some _=>nY lt base H b k' st
   | none=>fJ P pc n lt base H Fin X f (.code b) (.loop b :: k') st
 | f + 1,.exit id,k,st=>match k with
  | []=>False
  | .block j :: k'=>bif id.beq j then fJ P pc n lt base H Fin X f .normal k' st else fJ P pc n lt base H Fin X f (.exit id) k' st
  | _ :: k'=>fJ P pc n lt base H Fin X f (.exit id) k' st
 | _ + 1,.ret,_,st=>Fin st
 | f + 1,.code c,k,st=>match c with
  | .skip | .label _=>fJ P pc n lt base H Fin X f .normal k st
  | .region _ ops draw=>aAP P pc n ops draw st (fun st'=>fJ P pc n lt base H Fin X f .normal k st') X
  | .seq x y=>fJ P pc n lt base H Fin X f (.code x) (.seq y :: k) st
  | .cond c x y=>match aev st.tm c with
   | some (.bool b)=>pIf b (fJ P pc n lt base H Fin X f (.code x) k st) (fJ P pc n lt base H Fin X f (.code y) k st)
   | _=>False
  | .block id b=>fJ P pc n lt base H Fin X f (.code b) (.block id :: k) st
  | .loop b=>match rR (rid b) lt with
   | some _=>nY lt base H b k st
   | none=>fJ P pc n lt base H Fin X f (.code b) (.loop b :: k) st
  | .exit id=>fJ P pc n lt base H Fin X f (.exit id) k st
  | .ret=>fJ P pc n lt base H Fin X f .ret k st
  | _=>False
theorem aFw {P : Program} {Q : Exit -> Act -> World -> Prop} {a : Act} {w : World} {ch : List PanicEntry} {k : List Fr} (h : Q (.panic ch) a w) : iJ P Q k (.panic ch) a w:=by
 induction k with
 | nil=>exact h
 | cons x k ih=>cases x <;> exact ih
section
variable {P : Program} {pc : eE} {W : Base} {n : Nat} {lt : List (Nat × List Nat)} {base : List Bool} {H : Code -> List Fr -> AS -> Prop} {Fin : AS -> Prop} {X : Value -> AS -> Prop} {R : Place -> AS -> Prop} {Q : Exit -> Act -> World -> Prop}
theorem pZ (hcall : dY P pc) (hm : P.follows .mixedOrders = true)
  (hR : ∀ ρ st ρ' st',R ρ st -> Step ρ ρ' st.hp st'.hp st.nx st'.nx -> R ρ' st')
  (hH : ∀ b k st,nY lt base H b k st -> ∀ ρ a w,SRel ρ W n st a w -> R ρ st -> nM P b (iJ P Q k) a w)
  (hF : ∀ st,Fin st -> ∀ ρ a w,SRel ρ W n st a w -> R ρ st -> Q .normal a w /\ Q .ret a w)
  (hX : ∀ v st,X v st -> ∀ ρ v' a w,VR ρ v v' -> SRel ρ W n st a w -> R ρ st -> Q (.panic [{ v:=v',recovered:=false }]) a w) :
  ∀ (f : Nat) (m : VM) (k : List Fr) (st : AS),fJ P pc n lt base H Fin X f m k st -> ∀ ρ a w,SRel ρ W n st a w -> R ρ st -> (match m with
   | .code c=>c.wp P (iJ P Q k) a w
   | .normal=>iJ P Q k .normal a w
   | .exit id=>iJ P Q k (.exit id) a w
   | .ret=>iJ P Q k .ret a w):=by
 intro f
 induction f with
 | zero=>intro m k st h; simp only [fJ] at h
 | succ f ih =>
  intro m k st h ρ a w hs hr
  cases m with
  | normal =>
   simp only [fJ] at h
   dsimp only
   cases k with
   | nil=>exact (hF st h ρ a w hs hr).1
   | cons x k =>
    cases x with
    | seq y=>exact ih (.code y) k st h ρ a w hs hr
    | block id=>exact ih .normal k st h ρ a w hs hr
    | loop b =>
     dsimp only at h
     split at h
     ·exact hH b k st h ρ a w hs hr
     ·exact iT (ih (.code b) (.loop b :: k) st h ρ a w hs hr)
  | exit id =>
   simp only [fJ] at h
   dsimp only
   cases k with
   | nil=>exact h.elim
   | cons x k =>
    cases x with
    | seq y=>exact ih (.exit id) k st h ρ a w hs hr
    | block j =>
     show Exit.inBlock j (iJ P Q k) (.exit id) a w
     simp only [Exit.inBlock]
     dsimp only at h
     cases hj : id.beq j with
     | true =>
      rw [hj] at h
      rw [if_pos (Nat.eq_of_beq_eq_true hj)]
      exact ih .normal k st h ρ a w hs hr
     | false =>
      rw [hj] at h
      rw [if_neg (fun e=>by subst e; simp at hj)]
      exact ih (.exit id) k st h ρ a w hs hr
    | loop b=>exact ih (.exit id) k st h ρ a w hs hr
  | ret =>
   simp only [fJ] at h
   exact aCU (hF st h ρ a w hs hr).2
  | code c =>
   simp only [fJ] at h
   dsimp only
   cases c with
   | skip=>exact wp_skip (ih .normal k st h ρ a w hs hr)
   | label l=>exact wp_label (ih .normal k st h ρ a w hs hr)
   | region id ops draw=>exact aBe hcall hm hs h (fun st' hK a' w' ρ' g1 g2=>ih .normal k st' hK ρ' a' w' g1 (hR _ _ _ _ hr g2)) (fun v st' hK v' a' w' ρ' g0 g1 g2=>aFw (hX v st' hK ρ' v' a' w' g0 g1 (hR _ _ _ _ hr g2)))
   | seq x y=>exact wp_seq (ih (.code x) (.seq y :: k) st h ρ a w hs hr)
   | cond c x y =>
    dsimp only at h
    split at h
    ·rename_i b hc
     have:=hs.frame.eval hc
     cases b with
     | true =>
      refine wp_cond_true (c:=c) ?_ (ih (.code x) k st h ρ a w hs hr)
      generalize a.eval c = z at this
      cases this
      rfl
     | false =>
      refine wp_cond_false (c:=c) ?_ (ih (.code y) k st h ρ a w hs hr)
      generalize a.eval c = z at this
      cases this
      rfl
    ·exact h.elim
   | block id b=>exact wp_block (ih (.code b) (.block id :: k) st h ρ a w hs hr)
   | loop b =>
    dsimp only at h
    split at h
    ·exact tR (hH b k st h ρ a w hs hr)
    ·exact tR (iT (ih (.code b) (.loop b :: k) st h ρ a w hs hr))
   | exit id=>exact wp_exit (ih (.exit id) k st h ρ a w hs hr)
   | ret=>exact wp_ret (ih .ret k st h ρ a w hs hr)
   | goto l=>exact h.elim
   | refuse y=>exact h.elim
   | scope b=>exact h.elim
   | rangeFunc f ps x y=>exact h.elim
end
abbrev PX : Type:=Out -> List (List Value) -> Prop
end Go.Proofs.YtngginofamlkkaaGreatDoor

noncomputable section
namespace Go.Proofs.YtngginofamlkkaaGreatDoor
open Go Go.RowKit
open Int (tmod)
open Go.IntKind (i64 wrap)
open List (length mem_cons not_mem_nil)
set_option maxRecDepth 100000
set_option maxHeartbeats 8000000
def aCf (P : Program) (n : Nat) (base : List Bool) (Fin : AS -> Prop) (X : Value -> AS -> Prop) (b : Code) (k : List Fr) (st : AS) : Prop :=
 ∀ (W : Base) (ρ0 : Place) (Q : Exit -> Act -> World -> Prop),(∀ st,Fin st -> ∀ ρ a w,SRel ρ W n st a w -> StepG base.length ρ0 ρ -> Q .normal a w /\ Q .ret a w) ->
  (∀ v st,X v st -> ∀ ρ v' a w,VR ρ v v' -> SRel ρ W n st a w -> StepG base.length ρ0 ρ -> Q (.panic [{ v:=v',recovered:=false }]) a w) ->
  ∀ ρ a w,SRel ρ W n st a w -> StepG base.length ρ0 ρ -> nM P b (iJ P Q k) a w
theorem xZ {P : Program} {n : Nat} {lt : List (Nat × List Nat)} {base : List Bool} {Fin : AS -> Prop} {X : Value -> AS -> Prop} {b : Code} {k : List Fr} {st : AS} (h : nY lt base (aCf P n base Fin X) b k st) : aCf P n base Fin X b k st:=by
 unfold nY at h
 split at h
 case h_2=>exact h.elim
 split at h
 case h_2=>exact h.elim
 rename_i st0 ob0 hz
 split at h
 case h_2=>exact h.elim
 rename_i st' ob hc
 intro W ρ0 Q hF hX ρ a w hs hr
 obtain ⟨ρ1,f1,f2⟩:=lL hs hz h.1
 obtain ⟨ρ',g1,g2,g3⟩:=yN f1 hc h.2.1
 exact h.2.2 W ρ0 Q hF hX ρ' a w g1 ⟨fun b x hb hx=>by rw [g3 b hb]; exact f2.1 b x (hr.1 b x hb hx),fun c x hx=>by rw [g2]; exact f2.2 c x (hr.2 c x hx)⟩
theorem aEK {P : Program} {pc : eE} (hcall : dY P pc) (hm : P.follows .mixedOrders = true) {n : Nat} {lt : List (Nat × List Nat)} {base : List Bool} {Fin : AS -> Prop} {X : Value -> AS -> Prop} {b : Code} {k : List Fr} {st : AS} (f : Nat)
  (h : fJ P pc n lt base (aCf P n base Fin X) Fin X f (.code b) (.loop b :: k) st) : aCf P n base Fin X b k st:=by
 intro W ρ0 Q hF hX ρ a w hs hr
 refine iT ?_
 exact pZ (R:=fun ρ _=>StepG base.length ρ0 ρ) hcall hm (fun ρ st ρ' st' h k=>h.step k) (fun b k st h ρ a w hs hr=>xZ h W ρ0 Q hF hX ρ a w hs hr) hF hX f (.code b) (.loop b :: k) st h ρ a w hs hr
def mE (N : Nat) : List Value -> Tr AObj -> Option (List Value × Tr AObj × Prop)
 | [],hp=>some ([],hp,True)
 | v :: l,hp=>match aK8 N hp v with
  | some (u,hp1,o1)=>match mE N l hp1 with
   | some (us,hp2,o2)=>some (u :: us,hp2,o1 /\ o2)
   | none=>none
  | none=>none
theorem aLB {N : Nat} {hp hp' : Tr AObj} {v u : Value} {ob : Prop} (h : aK8 N hp v = some (u,hp',ob)) {i : Nat} (hi : i < N) : hp'.get i = hp.get i:=by
 unfold aK8 at h
 split at h
 ·rename_i b o n sz
  split at h
  case h_2=>cases h
  cases hb : N.ble b with
  | false=>rw [hb] at h; cases h
  | true =>
   rw [hb] at h
   cases h
   have:=Nat.le_of_ble_eq_true hb
   rw [Tr.get_put,if_neg (by omega)]
 ·cases h; rfl
theorem aAc {N : Nat} {i : Nat} (hi : i < N) : ∀ {l us : List Value} {hp hp' : Tr AObj} {ob : Prop},mE N l hp = some (us,hp',ob) -> hp'.get i = hp.get i
 | [],us,hp,hp',ob,h=>by simp only [mE] at h; cases h; rfl
 | v :: l,us,hp,hp',ob,h=>by
  simp only [mE] at h
  split at h
  case h_2=>cases h
  rename_i u hp1 o1 h1
  split at h
  case h_2=>cases h
  rename_i us0 hp2 o2 h2
  cases h
  rw [aAc hi h2,aLB h1 hi]
theorem aBf {N : Nat} : ∀ {l us : List Value} {hp hp' : Tr AObj} {ob : Prop},mE N l hp = some (us,hp',ob) -> us.length = l.length
 | [],us,hp,hp',ob,h=>by simp only [mE] at h; cases h; rfl
 | v :: l,us,hp,hp',ob,h=>by
  simp only [mE] at h
  split at h
  case h_2=>cases h
  rename_i u hp1 o1 h1
  split at h
  case h_2=>cases h
  rename_i us0 hp2 o2 h2
  cases h
  exact congrArg (· + 1) (aBf h2)
theorem tN {N : Nat} {W : Base} {nx : Nat} {w : World} : ∀ {l l' us : List Value} {ρ : Place} {hp hp' : Tr AObj} {ob : Prop},Rel ρ W hp nx w -> VRL ρ l l' -> mE N l hp = some (us,hp',ob) -> ob ->
  ∃ ρ',Rel ρ' W hp' nx w /\ ρ.le ρ' /\ VRL ρ' us l'
 | [],l',us,ρ,hp,hp',ob,h,hl,hf,_=>by
  simp only [mE] at hf
  cases hf
  cases hl
  exact ⟨ρ,h,.refl _,.nil⟩
 | v :: l,l',us,ρ,hp,hp',ob,h,hl,hf,hob=>by
  simp only [mE] at hf
  split at hf
  case h_2=>cases hf
  rename_i u hp1 o1 h1
  split at hf
  case h_2=>cases hf
  rename_i us0 hp2 o2 h2
  cases hf
  cases hl with
  | cons hv hl =>
   obtain ⟨ρ1,g1,g2,g3⟩:=aB7 h hv h1 hob.1
   obtain ⟨ρ2,k1,k2,k3⟩:=tN g1 (hl.mono g2.le) h2 hob.2
   exact ⟨ρ2,k1,g2.le.trans k2,.cons (g3.mono k2) k3⟩
theorem Rel.recell {ρ : Place} {W : Base} {hp : Tr AObj} {nx : Nat} {w : World} (h : Rel ρ W hp nx w) {i : Nat} {l us : List Value} (hi : hp.get i = some (.cells l true)) (hlen : us.length = l.length)
  (hu : ∀ c s z cs t fz,ρ i = some (c,s,z) -> w.heap[c]? = some (.cells cs t fz) -> ∀ (j : Nat) (u : Value),us[j]? = some u -> ∃ v',cs[s + j]? = some v' /\ VR ρ u v') : Rel ρ W (hp.put i (some (.cells us true))) nx w:=by
 have live : ∀ b o,(hp.put i (some (.cells us true))).get b = some o -> ∃ o',hp.get b = some o' /\ (o.wr = true -> o'.wr = true):=fun b o ho=>by
  rw [Tr.get_put] at ho
  by_cases e : b = i
  ·subst e; exact ⟨_,hi,fun _=>rfl⟩
  ·rw [if_neg e] at ho; exact ⟨o,ho,fun h=>h⟩
 refine ⟨h.dom,fun b o c s z ho hb=>?_,fun b b' x x' o o' h1 h2 hx hx' hxx=>?_,fun b hb=>?_,h.below,h.frz,fun b o c s z ho hw hb=>?_,h.frn⟩
 ·rw [Tr.get_put] at ho
  by_cases e : b = i
  ·subst e
   rw [if_pos rfl] at ho
   cases ho
   obtain ⟨ob,e1,e2⟩:=h.obj b _ c s z hi hb
   refine ⟨ob,e1,?_⟩
   cases ob <;> try exact e2.elim
   obtain ⟨k1,k2,k3,k4,k5⟩:=e2
   exact ⟨k1,by rw [hlen]; exact k2,k3,fun j u hj=>hu c s z _ _ _ hb e1 j u hj,k5⟩
  ·rw [if_neg e] at ho
   exact h.obj b o c s z ho hb
 ·obtain ⟨_,g1,_⟩:=live b o h1
  obtain ⟨_,g2,_⟩:=live b' o' h2
  exact h.inj b b' x x' _ _ g1 g2 hx hx' hxx
 ·rw [Tr.get_put]
  by_cases e : b = i
  ·subst e; have:=h.fresh b hb; rw [hi] at this; cases this
  ·rw [if_neg e]; exact h.fresh b hb
 ·obtain ⟨o',g1,g2⟩:=live b o ho
  exact h.apart b o' c s z g1 (g2 hw) hb
def aCW (N : Nat) : Nat -> Nat -> Tr AObj -> Option (Tr AObj × Prop)
 | 0,_,hp=>some (hp,True)
 | k + 1,i,hp=>match hp.get i with
  | some (.cells l true)=>bif i.blt N then match mE N l hp with
   | some (us,hp1,o1)=>match aCW N k (i + 1) (hp1.put i (some (.cells us true))) with
    | some (hp2,o2)=>some (hp2,o1 /\ o2)
    | none=>none
   | none=>none
   else none
  | _=>none
theorem qG {N : Nat} {W : Base} {nx : Nat} {w : World} : ∀ {k i : Nat} {ρ : Place} {hp hp' : Tr AObj} {ob : Prop},(∀ b,b < N -> ∃ x,ρ b = some x) -> Rel ρ W hp nx w -> aCW N k i hp = some (hp',ob) -> ob -> ∃ ρ',Rel ρ' W hp' nx w /\ ρ.le ρ'
 | 0,i,ρ,hp,hp',ob,_,h,hf,_=>by
  simp only [aCW] at hf
  cases hf
  exact ⟨ρ,h,.refl _⟩
 | k + 1,i,ρ,hp,hp',ob,hpl,h,hf,hob=>by
  simp only [aCW] at hf
  split at hf
  case h_2=>cases hf
  rename_i l hl
  cases hb : i.blt N with
  | false=>rw [hb] at hf; cases hf
  | true =>
   have hi : i < N:=Nat.le_of_ble_eq_true hb
   rw [hb,cond_true] at hf
   split at hf
   case h_2=>cases hf
   rename_i us hp1 o1 h1
   split at hf
   case h_2=>cases hf
   rename_i hp2 o2 h2
   cases hf
   have hi1:=aAc hi h1
   rw [hl] at hi1
   have hlenU:=aBf h1
   -- the concrete row
   have key : ∃ ρ1,Rel ρ1 W hp1 nx w /\ ρ.le ρ1 /\ ∀ c s z cs t fz,ρ1 i = some (c,s,z) -> w.heap[c]? = some (.cells cs t fz) -> ∀ (j : Nat) (u : Value),us[j]? = some u -> ∃ v',cs[s + j]? = some v' /\ VR ρ1 u v':=by
    obtain ⟨x,hr⟩:=hpl i hi
    obtain ⟨c,s,z⟩:=x
    obtain ⟨ob,e1,e2⟩:=h.obj i _ c s z hl hr
    cases ob <;> try exact e2.elim
    rename_i cs t fz
    obtain ⟨k1,k2,k3,k4,k5⟩:=e2
    have hrow : VRL ρ l ((cs.toList.drop s).take l.length):=by
     refine .of ?_ fun j v v' hj hj'=>?_
     ·rw [List.length_take,List.length_drop]
      simp only [Array.length_toList]
      omega
     ·obtain ⟨v2,q1,q2⟩:=k4 j v hj
      have hlt:=(List.getElem?_eq_some_iff.1 hj).1
      rw [List.getElem?_take,if_pos hlt,List.getElem?_drop,Array.getElem?_toList,q1] at hj'
      cases hj'
      exact q2
    obtain ⟨ρ1,g1,g2,g3⟩:=tN h hrow h1 hob.1
    refine ⟨ρ1,g1,g2,fun c' s' z' cs' t' fz' hr' hc' j u hj=>?_⟩
    have hr2:=g2.1 i _ hr
    rw [hr'] at hr2
    cases hr2
    rw [hc'] at e1
    cases e1
    have hlt : j < l.length:=by rw [← hlenU]; exact (List.getElem?_eq_some_iff.1 hj).1
    have hv : ∃ v',((cs.toList.drop s).take l.length)[j]? = some v':=by
     have hl2:=g3.len
     have : j < ((cs.toList.drop s).take l.length).length:=by rw [← hl2,hlenU]; exact hlt
     exact ⟨_,List.getElem?_eq_getElem this⟩
    obtain ⟨v',hv'⟩:=hv
    refine ⟨v',?_,g3.get hj hv'⟩
    rw [List.getElem?_take,if_pos hlt,List.getElem?_drop,Array.getElem?_toList] at hv'
    exact hv'
   obtain ⟨ρ1,g1,g2,g3⟩:=key
   obtain ⟨ρ2,q1,q2⟩:=qG (fun b hb=>let ⟨x,hx⟩:=hpl b hb; ⟨x,g2.1 b x hx⟩) (g1.recell hi1 hlenU g3) h2 hob.2
   exact ⟨ρ2,q1,g2.trans q2⟩
def Out.Ends0 (ρ : Place) (r : Out) (e : Ending) : Prop :=
 match r with
 | .ret v=>∃ v',e = .returned v' /\ VR0 ρ.fr v v'
 | .pan v=>∃ v',e = .panicked [{ v:=v',recovered:=false }] /\ VR0 ρ.fr v v'
def aHZ (P : Program) (f : FuncId) (N : Nat) (hp : Tr AObj) (args : List Value) (Post : Out -> Tr AObj -> Prop) : Prop :=
 ∀ (W : Base) ρ w args',(∀ b,b < N -> ∃ x,ρ.pl b = some x) -> Rel ρ W hp N w -> VRL ρ args args' -> Calls P f args'.toArray w fun e w'=>∃ r hp' nx' ρ',Post r hp' /\ r.Ends0 ρ' e /\ Rel ρ' W hp' nx' w' /\ StepG N ρ ρ'
def aHO (P : Program) (fn : Func) (N : Nat) (Post : Out -> Tr AObj -> Prop) (st : AS) : Prop :=
 match aBC P st.hp st.tm fn with
 | some v=>match aCW N N 0 st.hp with
  | some (hp1,o1)=>match aQ0 P N fn.resultTypes.toList hp1 v with
   | some (u,hp2,o2)=>(o1 /\ o2) /\ Post (.ret u) hp2
   | none=>False
  | none=>False
 | none=>False
def aGZ (N : Nat) (Post : Out -> Tr AObj -> Prop) (v : Value) (st : AS) : Prop :=
 match aCW N N 0 st.hp with
 | some (hp1,o1)=>bif nl1 v then o1 /\ Post (.pan v) hp1 else False
 | none=>False
def aIT (P : Program) (fn : Func) (W : Base) (N : Nat) (ρ : Place) (Post : Out -> Tr AObj -> Prop) (e : Exit) (a : Act) (w : World) : Prop :=
 bodyPost P fn (fun e w'=>∃ r hp' nx' ρ',Post r hp' /\ r.Ends0 ρ' e /\ Rel ρ' W hp' nx' w' /\ StepG N ρ ρ') e a w
theorem aA9 {N : Nat} {ρ ρ' ρ'' : Place} (h : StepG N ρ ρ') (k : ρ'.le ρ'') : StepG N ρ ρ'':=⟨fun b x hb hx=>k.1 b x (h.1 b x hb hx),fun c x hc=>k.2 c x (h.2 c x hc)⟩
theorem tX {N : Nat} {ρ ρ' : Place} (h : StepG N ρ ρ') (hp : ∀ b,b < N -> ∃ x,ρ.pl b = some x) : ∀ b,b < N -> ∃ x,ρ'.pl b = some x:=fun b hb=>let ⟨x,hx⟩:=hp b hb; ⟨x,h.1 b x hb hx⟩
theorem aIf {P : Program} {fn : Func} {N n : Nat} {Post : Out -> Tr AObj -> Prop} {st : AS} (h : aHO P fn N Post st) {W : Base} (hd : W.ds = []) {ρ0 ρ : Place} {a : Act} {w : World} (hpl : ∀ b,b < N -> ∃ x,ρ0.pl b = some x) (hs : SRel ρ W n st a w) (hr : StepG N ρ0 ρ) :
  aIT P fn W N ρ0 Post .normal a w /\ aIT P fn W N ρ0 Post .ret a w:=by
 unfold aHO at h
 split at h
 case h_2=>exact h.elim
 rename_i v hv
 split at h
 case h_2=>exact h.elim
 rename_i hp1 o1 h1
 split at h
 case h_2=>exact h.elim
 rename_i u hp2 o2 h2
 obtain ⟨v',r1,r2⟩:=lX hs.rel hs.frame hv
 obtain ⟨ρ1,g1,g2⟩:=qG (tX hr hpl) hs.rel h1 h.1.1
 obtain ⟨ρ2,k1,k2,k3⟩:=aAG g1 (r2.mono g2) h2 h.1.2
 have : ∃ r hp' nx' ρ',Post r hp' /\ r.Ends0 ρ' (Ending.returned v') /\ Rel ρ' W hp' nx' w /\ StepG N ρ0 ρ' :=
  ⟨.ret u,hp2,st.nx,ρ2,h.2,⟨v',rfl,k3⟩,k1,aA9 (aA9 hr g2) k2.le⟩
 exact ⟨⟨hs.frame.defers.trans hd,v',r1,this⟩,⟨hs.frame.defers.trans hd,v',r1,this⟩⟩
theorem aIP {P : Program} {fn : Func} {N n : Nat} {Post : Out -> Tr AObj -> Prop} {v : Value} {st : AS} (h : aGZ N Post v st) {W : Base} (hd : W.ds = []) {ρ0 ρ : Place} {v' : Value} {a : Act} {w : World} (hpl : ∀ b,b < N -> ∃ x,ρ0.pl b = some x) (hv : VR ρ v v') (hs : SRel ρ W n st a w) (hr : StepG N ρ0 ρ) :
  aIT P fn W N ρ0 Post (.panic [{ v:=v',recovered:=false }]) a w:=by
 unfold aGZ at h
 split at h
 case h_2=>exact h.elim
 rename_i hp1 o1 h1
 cases hn : nl1 v with
 | false=>rw [hn] at h; exact h.elim
 | true =>
  rw [hn,cond_true] at h
  obtain ⟨ρ1,g1,g2⟩:=qG (tX hr hpl) hs.rel h1 h.1
  exact ⟨hs.frame.defers.trans hd,.pan v,hp1,st.nx,ρ1,h.2,⟨v',rfl,fF hn (hv.mono g2)⟩,g1,aA9 hr g2⟩
theorem aMN {P : Program} {pc : eE} (hcall : dY P pc) (hm : P.follows .mixedOrders = true) {f : FuncId} {fn : Func} {c : Code} (hf : P.funcs[f]? = some fn) (hc : fn.body = some c) {lt : List (Nat × List Nat)} {base : List Bool} {hp : Tr AObj} {args : List Value} {Post : Out -> Tr AObj -> Prop} (k : Nat)
  (h : fJ P pc (gO args fn) lt base (aCf P (gO args fn) base (aHO P fn base.length Post) (aGZ base.length Post)) (aHO P fn base.length Post) (aGZ base.length Post) k (.code c) [] ⟨gE 0 args .e,hp,base.length⟩) : aHZ P f base.length hp args Post:=by
 intro W ρ w args' hpl hrel hargs
 suffices hb : Calls P f args'.toArray w fun e w'=>∃ r hp' nx' ρ',Post r hp' /\ r.Ends0 ρ' e /\ Rel ρ' W.bare hp' nx' w' /\ StepG base.length ρ ρ' from hb.mono fun e w' ⟨r,hp',nx',ρ',g1,g2,g3,g4⟩=>⟨r,hp',nx',ρ',g1,g2,g3.unbare,g4⟩
 refine calls_of_wp hf hc ?_
 exact pZ (R:=fun ρ' _=>StepG base.length ρ ρ') (Q:=aIT P fn W.bare base.length ρ Post) hcall hm (fun _ _ _ _ h k=>h.step k)
  (fun b k st h ρ' a w hs hr=>xZ h W.bare ρ _ (fun st hst ρ' a w hs hr=>aIf hst rfl hpl hs hr) (fun v st hst ρ' v' a w hv hs hr=>aIP hst rfl hpl hv hs hr) ρ' a w hs hr)
  (fun st hst ρ' a w hs hr=>aIf hst rfl hpl hs hr) (fun v st hst ρ' v' a w hv hs hr=>aIP hst rfl hpl hv hs hr) k (.code c) [] _ h ρ _ w (rM rfl hrel.bare hargs fn) (.refl _ _)
def okc (N : Nat) : Value -> Bool
 | .pointer (some ⟨b,_,none⟩)=>b.blt N
 | v=>nl1 v
def aIZ (N : Nat) : List (List Value) -> Bool
 | []=>true
 | l :: ls=>l.all (okc N) && aIZ N ls
theorem aCS {N : Nat} : ∀ {ls : List (List Value)},aIZ N ls = true -> ∀ l ∈ ls,∀ v ∈ l,okc N v = true
 | [],_,l,h=>by cases h
 | x :: ls,h,l,hl=>by
  simp only [aIZ,Bool.and_eq_true] at h
  rcases List.mem_cons.1 hl with rfl | hl
  ·exact fun v hv=>List.all_eq_true.1 h.1 v hv
  ·exact aCS h.2 l hl
def pN (n : Nat) (Post : Out -> List (List Value) -> Prop) (r : Out) (hp : Tr AObj) : Prop :=
 match aNP hp 0 n with
 | some ls=>aIZ n ls = true /\ Post r ls
 | none=>False
structure XEnt where
 f : FuncId
 c : List Value -> List (List Value) -> (Out -> List (List Value) -> Prop) -> Prop
def xL (P : Program) (e : XEnt) : Prop:=∀ args conts Post,e.c args conts Post -> aHZ P e.f conts.length (aDy conts) args (pN conts.length Post)
def zS (f : FuncId) : List XEnt -> Option XEnt
 | []=>none
 | e :: l=>bif e.f.beq f then some e else zS f l
theorem sU {f : FuncId} {e : XEnt} : ∀ {l : List XEnt},zS f l = some e -> e ∈ l /\ e.f = f
 | [],h=>by simp [zS] at h
 | x :: l,h=>by
  simp only [zS] at h
  cases hx : x.f.beq f with
  | true=>rw [hx] at h; cases h; exact ⟨by simp,Nat.eq_of_beq_eq_true hx⟩
  | false=>rw [hx,cond_false] at h; exact ⟨by simp [(sU h).1],(sU h).2⟩
def aAg (bl : List (Nat × Bool)) (hp : Tr AObj) : List (Nat × Bool) -> Option (List (List Value))
 | []=>some []
 | (b,_) :: l=>match hp.get b with
  | some (.cells c true)=>match sP (aBJ bl) c,aAg bl hp l with
   | some c',some cs=>some (c' :: cs)
   | _,_=>none
  | _=>none
theorem aAk {bl : List (Nat × Bool)} {hp : Tr AObj} : ∀ {l : List (Nat × Bool)} {cs : List (List Value)},aAg bl hp l = some cs -> cs.length = l.length /\ ∀ (i b : Nat) (k : Bool),l[i]? = some (b,k) -> ∃ c c',cs[i]? = some c' /\ hp.get b = some (.cells c true) /\ sP (aBJ bl) c = some c'
 | [],cs,h=>by simp only [aAg] at h; cases h; exact ⟨rfl,fun i b k hi=>by simp at hi⟩
 | (b,k) :: l,cs,h=>by
  simp only [aAg] at h
  split at h
  case h_2=>cases h
  rename_i c hc
  split at h
  case h_2=>cases h
  rename_i c' cs0 h1 h0
  cases h
  obtain ⟨g1,g2⟩:=aAk h0
  refine ⟨by simp [g1],fun i b' k' hi=>?_⟩
  cases i with
  | zero=>simp at hi; obtain ⟨rfl,rfl⟩:=hi; exact ⟨c,c',rfl,hc,h1⟩
  | succ i=>simpa using g2 i b' k' (by simpa using hi)
def aFH (bl : List (Nat × Bool)) : Value -> Value
 | .pointer (some ⟨i,o,none⟩)=>match bl[i]? with
  | some p=>.pointer (some ⟨p.1,o,none⟩)
  | none=>undef
 | v=>v
def yE (bl : List (Nat × Bool)) (cs : List (List Value)) : List (List Value):=cs.map fun l=>l.map (aFH bl)
def aLc (e : XEnt) (args : List Value) (hp : Tr AObj) (nx : Nat) (K : Out -> Tr AObj -> Nat -> Prop) : Prop :=
 let bl:=xU hp 60 0 (args.foldl qE [])
 bif oW bl then match sP (ren bl) args,aAg bl hp bl with
  | some vs0,some cs=>e.c vs0 cs fun r cs'=>cs'.length = cs.length /\ K r (jH bl (yE bl cs') hp) nx
  | _,_=>False
 else False
def iQ (ρ : Place) (l : List (Nat × Bool)) : Prop:=∀ p ∈ l,∃ x,ρ.pl p.1 = some x
theorem nC {ρ : Place} {l : List (Nat × Bool)} (h : iQ ρ l) {b : Nat} {k : Bool} {x : Nat × Nat × Nat} (hb : ρ.pl b = some x) : iQ ρ (aJF b k l):=fun q hq=>by
 obtain ⟨b',k'⟩:=q
 rcases aO4 hq with hq | rfl
 ·exact h _ hq
 ·exact ⟨_,hb⟩
theorem aE0 {ρ : Place} {l : List (Nat × Bool)} (h : iQ ρ l) {v v' : Value} (hv : VR ρ v v') : iQ ρ (aCO l v):=by
 cases hv <;> try exact h
 case ptr hb=>exact nC h hb
 case slice hb _ _=>exact nC h hb
 case emptySlice hb=>exact nC h hb
 case iface ht =>
  cases ht <;> try exact h
  case ptr hb=>exact nC h hb
theorem aD2 {ρ : Place} : ∀ {c : List Value} {l : List (Nat × Bool)},iQ ρ l -> (∀ v ∈ c,∃ v',VR ρ v v') -> iQ ρ (c.foldl aCO l)
 | [],l,h,_=>h
 | v :: c,l,h,hc=>by
  obtain ⟨_,hv⟩:=hc v (by simp)
  exact aD2 (l:=aCO l v) (aE0 h hv) fun u hu=>hc u (by simp [hu])
theorem aJb {ρ : Place} {l : List (Nat × Bool)} (h : iQ ρ l) {v v' : Value} (hv : VR ρ v v') : iQ ρ (qE l v):=by
 cases v <;> try exact aE0 h hv
 case func fn f c =>
  cases fn <;> try exact aE0 h hv
  cases hv with
  | func _ s1 r1 s2 r2 =>
   have arr : ∀ {x x' : Array Value},x.size = x'.size -> (∀ (i : Nat) (v v' : Value),x[i]? = some v -> x'[i]? = some v' -> VR ρ v v') -> ∀ v ∈ x.toList,∃ v',VR ρ v v':=fun {x x'} hs hr v hv=>by
    obtain ⟨i,hi,rfl⟩:=List.mem_iff_getElem.1 hv
    simp only [Array.length_toList] at hi
    exact ⟨x'[i]'(by omega),hr i _ _ (by simp [hi]) (by simp)⟩
   exact aD2 (aD2 h (arr s1 r1)) (arr s2 r2)
theorem aFi {ρ : Place} : ∀ {c : List Value} {l : List (Nat × Bool)},iQ ρ l -> (∀ v ∈ c,∃ v',VR ρ v v') -> iQ ρ (c.foldl qE l)
 | [],l,h,_=>h
 | v :: c,l,h,hc=>by
  obtain ⟨_,hv⟩:=hc v (by simp)
  exact aFi (l:=qE l v) (aJb h hv) fun u hu=>hc u (by simp [hu])
theorem aF1 {ρ : Place} : ∀ {args args' : List Value} {l : List (Nat × Bool)},VRL ρ args args' -> iQ ρ l -> iQ ρ (args.foldl qE l)
 | [],_,l,_,h=>h
 | v :: c,args',l,ha,h=>by
  cases ha with
  | cons hv hvs=>exact aF1 (l:=qE l v) hvs (aJb h hv)
theorem aJ1 {ρ : Place} {W : Base} {hp : Tr AObj} {nx : Nat} {w : World} (hr : Rel ρ W hp nx w) : ∀ {f i : Nat} {l : List (Nat × Bool)},iQ ρ l -> iQ ρ (xU hp f i l)
 | 0,i,l,h=>h
 | f + 1,i,l,h=>by
  simp only [xU]
  split
  ·exact h
  ·rename_i b k hb
   refine aJ1 hr ?_
   cases k with
   | false=>exact h
   | true =>
    rw [cond_true]
    split
    ·rename_i c wr hc
     obtain ⟨x,hx⟩:=h (b,true) (List.mem_of_getElem? hb)
     obtain ⟨ob,e1,e2⟩:=hr.obj b _ x.1 x.2.1 x.2.2 hc hx
     cases ob <;> try exact e2.elim
     obtain ⟨_,_,_,k4,_⟩:=e2
     have hall : ∀ v ∈ c,∃ v',VR ρ v v':=fun v hv=>by
      obtain ⟨j,hj,rfl⟩:=List.mem_iff_getElem.1 hv
      obtain ⟨v',_,q⟩:=k4 j _ (List.getElem?_eq_getElem hj)
      exact ⟨v',q⟩
     exact aFi h hall
    ·exact h
theorem aNh {P : Program} {e : XEnt} (he : xL P e) {args : List Value} {hp : Tr AObj} {nx : Nat} {K : Out -> Tr AObj -> Nat -> Prop} (h : aLc e args hp nx K) {W : Base} {ρ : Place} {w : World} {args' : List Value} (hrel : Rel ρ W hp nx w) (hargs : VRL ρ args args') :
  Calls P e.f args'.toArray w fun e w'=>∃ r hp' nx' ρ',K r hp' nx' /\ r.Ends ρ' e /\ Rel ρ' W hp' nx' w' /\ Step ρ ρ' hp hp' nx nx':=by
 unfold aLc at h
 dsimp only at h
 have hplaced : iQ ρ (xU hp 60 0 (args.foldl qE [])):=aJ1 hrel (aF1 (l:=[]) hargs (fun p hp=>by cases hp))
 generalize xU hp 60 0 (args.foldl qE []) = bl at h hplaced
 cases hnd : oW bl with
 | false=>rw [hnd] at h; exact h.elim
 | true =>
  rw [hnd,cond_true] at h
  split at h
  case h_2=>exact h.elim
  rename_i vs0 cs ha hc
  obtain ⟨hlen,hget⟩:=aAk hc
  have hvia : ∀ (i : Nat) (x : Nat × Nat × Nat),(ρ.via bl).pl i = some x -> ∃ (b : Nat) (k : Bool),bl[i]? = some (b,k) /\ ρ.pl b = some x:=fun i x hx=>by
   unfold Place.via at hx
   dsimp only at hx
   split at hx
   ·rename_i p hp
    exact ⟨p.1,p.2,hp,hx⟩
   ·cases hx
  have viaAt : ∀ (i b : Nat) (k : Bool),bl[i]? = some (b,k) -> (ρ.via bl).pl i = ρ.pl b:=fun i b k hi=>by unfold Place.via; simp [hi]
  let mu : Nat -> Prop:=fun c=>∃ (i b : Nat) (k : Bool) (x : Nat × Nat × Nat),bl[i]? = some (b,k) /\ ρ.pl b = some x /\ x.1 = c
  have hobj : ∀ i o x,(aDy cs).get i = some o -> (ρ.via bl).pl i = some x -> ∃ (b : Nat) (k : Bool) (c0 c : List Value),bl[i]? = some (b,k) /\ ρ.pl b = some x /\ sP (aBJ bl) c0 = some c /\ o = .cells c true /\ hp.get b = some (.cells c0 true):=fun i o x ho hx=>by
   obtain ⟨b,k,h1,h2⟩:=hvia i x hx
   obtain ⟨c0,c,h3,h4,h5⟩:=hget i b k h1
   rw [aFW,h3] at ho
   cases ho
   exact ⟨b,k,c0,c,h1,h2,h5,rfl,h4⟩
  have muNew : ∀ c,mu c -> ¬ W.old c:=fun c ⟨i,b,k,x,h1,h2,h3⟩=>by
   obtain ⟨cc,_,_,h4,_⟩:=hget i b k h1
   obtain ⟨ob,_,ho⟩:=hrel.obj b _ x.1 x.2.1 x.2.2 h4 h2
   cases ob <;> try exact ho.elim
   rw [← h3]
   exact ho.2.2.2.2 rfl
  have hrel1 : Rel (ρ.via bl) ⟨w,mu,ρ.fr,[]⟩ (aDy cs) cs.length w:=by
   refine ⟨fun i x hx=>?_,fun i o c s z ho hx=>?_,fun i j x y o1 o2 g1 g2 hx hy hxy=>?_,fun i hi=>?_,⟨rfl,rfl,rfl,Nat.le_refl _,fun _ _=>rfl⟩,hrel.frz,fun i o c s z ho _ hx=>?_,fun c ob hc=>.inl hc⟩
   ·obtain ⟨b,k,h1,h2⟩:=hvia i x hx
    refine ⟨?_,(hrel.dom b x h2).2⟩
    rw [hlen]
    exact (List.getElem?_eq_some_iff.1 h1).1
   ·obtain ⟨b,k,c0,cc,h1,h2,h3,rfl,h4⟩:=hobj i o _ ho hx
    obtain ⟨ob,e1,e2⟩:=hrel.obj b _ c s z h4 h2
    refine ⟨ob,e1,?_⟩
    cases ob <;> try exact e2.elim
    obtain ⟨k1,k2,k3,k4,k5⟩:=e2
    obtain ⟨m1,m2⟩:=aAj h3
    refine ⟨k1,by rw [m1]; exact k2,k3,fun j v hv=>?_,fun _ ho'=>ho'.2 ⟨i,b,k,_,h1,h2,rfl⟩⟩
    obtain ⟨u,hu,hr0⟩:=m2 j v hv
    obtain ⟨v',q1,q2⟩:=k4 j u hu
    exact ⟨v',q1,mH hr0 q2⟩
   ·obtain ⟨b,k,c0,cc,h1,h2,h3,_,h4⟩:=hobj i o1 _ g1 hx
    obtain ⟨b',k',c0',cc',r1,r2,r3,_,r4⟩:=hobj j o2 _ g2 hy
    have e:=hrel.inj b b' x y _ _ h4 r4 h2 r2 hxy
    subst e
    exact tG hnd h1 r1
   ·rw [aFW,List.getElem?_eq_none hi]; rfl
   ·obtain ⟨b,k,c0,cc,h1,h2,h3,_,h4⟩:=hobj i o _ ho hx
    exact hrel.apart b _ c s z h4 rfl h2
  have hargs1 : VRL (ρ.via bl) vs0 args':=mD (fun _ _ _=>aCd) ha hargs
  have hpl1 : ∀ b,b < cs.length -> ∃ x,(ρ.via bl).pl b = some x:=fun i hi=>by
   have hib : i < bl.length:=by omega
   obtain ⟨x,hx⟩:=hplaced bl[i] (List.getElem_mem hib)
   exact ⟨x,by rw [viaAt i bl[i].1 bl[i].2 (List.getElem?_eq_getElem hib)]; exact hx⟩
  refine (he vs0 cs _ h ⟨w,mu,ρ.fr,[]⟩ (ρ.via bl) w args' hpl1 hrel1 hargs1).mono ?_
  rintro e' w' ⟨r,hp1,nx1,ρ1,hP,hv,hr,hg⟩
  unfold pN at hP
  split at hP
  case h_2=>exact hP.elim
  rename_i cs' hcs'
  obtain ⟨hnl',hlen',hK⟩:=hP
  obtain ⟨_,hget'⟩:=aFY hcs'
  have hnls':=aCS hnl'
  have hlb : cs'.length = bl.length:=hlen'.trans hlen
  have hsz : w.heap.size <= w'.heap.size:=hr.below.size
  have hle : ρ.le ⟨ρ.pl,ρ1.fr,ρ1.gl⟩:=⟨fun _ _ h=>h,fun c x hc=>hg.2 c x hc⟩
  have lt : ∀ {c : Nat} {ob : Obj},w.heap[c]? = some ob -> c < w.heap.size:=fun {c ob} hc=>by
   rcases Nat.lt_or_ge c w.heap.size with h' | h'
   ·exact h'
   ·rw [Array.getElem?_eq_none h'] at hc; cases hc
  have old : ∀ c,c < w.heap.size -> ¬ mu c -> w'.heap[c]? = w.heap[c]?:=fun c hc hm=>hr.below.block c ⟨hc,hm⟩
  -- the blocks that were handed over
  have inb : ∀ b,nH b bl = true -> ∃ (i : Nat) (k : Bool) (x : Nat × Nat × Nat) (c c' : List Value),bl[i]? = some (b,k) /\ ρ.pl b = some x /\ ρ1.pl i = some x /\ hp.get b = some (.cells c true) /\ cs'[i]? = some c' /\ hp1.get i = some (.cells c' true) /\ (jH bl (yE bl cs') hp).get b = some (.cells (c'.map (aFH bl)) true):=fun b hb=>by
   obtain ⟨i,k,hi⟩:=aG4 hb
   obtain ⟨x,hx⟩:=hplaced (b,k) (List.mem_of_getElem? hi)
   obtain ⟨c,_,_,h4,_⟩:=hget i b k hi
   have hil : i < bl.length:=(List.getElem?_eq_some_iff.1 hi).1
   have hc' : cs'[i]? = some (cs'[i]'(by omega)):=List.getElem?_eq_getElem (by omega)
   have h5:=hget' i _ hc'
   rw [Nat.zero_add] at h5
   exact ⟨i,k,x,c,_,hi,hx,hg.1 i x (by omega) (by rw [viaAt i b k hi]; exact hx),h4,hc',h5,(pB hnd (by unfold yE; rw [List.length_map]; exact hlb) b).1 i k _ hi (by unfold yE; rw [List.getElem?_map,hc']; rfl)⟩
  have outb : ∀ b,nH b bl = false -> (jH bl (yE bl cs') hp).get b = hp.get b:=fun b hb=>(pB hnd (by unfold yE; rw [List.length_map]; exact hlb) b).2 hb
  have notmu : ∀ b o x,nH b bl = false -> hp.get b = some o -> ρ.pl b = some x -> ¬ mu x.1:=fun b o x hb ho hx ⟨i,b',k,x',h1,h2,h3⟩=>by
   obtain ⟨c,_,_,h4,_⟩:=hget i b' k h1
   have e:=hrel.inj b' b x' x _ _ h4 ho h2 hx h3
   subst e
   rw [zI h1] at hb
   cases hb
  have live : ∀ b o,(jH bl (yE bl cs') hp).get b = some o -> ∃ o',hp.get b = some o' /\ (o.wr = true -> o'.wr = true):=fun b o ho=>by
   cases hb : nH b bl with
   | true =>
    obtain ⟨i,k,x,c,c',h1,h2,h3,h4,h5,h6,h7⟩:=inb b hb
    exact ⟨_,h4,fun _=>rfl⟩
   | false=>rw [outb b hb] at ho; exact ⟨o,ho,fun h=>h⟩
  have hback : ∀ (c' : List Value),c' ∈ cs' -> ∀ u ∈ c',∀ u',VR ρ1 u u' -> VR ⟨ρ.pl,ρ1.fr,ρ1.gl⟩ (aFH bl u) u':=fun c' hc' u hu u' hvr=>by
   have hok:=hnls' c' hc' u hu
   have base : aFH bl u = u -> nl1 u = true -> VR ⟨ρ.pl,ρ1.fr,ρ1.gl⟩ (aFH bl u) u':=fun e hn=>by
    rw [e]
    have h0 : VR0 ρ1.fr u u':=fF hn hvr
    exact VR0.lift (ρ:=⟨ρ.pl,ρ1.fr,ρ1.gl⟩) h0
   cases u <;> try exact base rfl hok
   case pointer a =>
    cases a with
    | none=>exact base rfl hok
    | some a =>
     obtain ⟨i,o,sp⟩:=a
     cases sp with
     | some sp=>exact base rfl hok
     | none =>
      have hi : i < cs.length:=Nat.le_of_ble_eq_true hok
      have hib : i < bl.length:=by omega
      obtain ⟨x,hx⟩:=hplaced bl[i] (List.getElem_mem hib)
      have h1:=hg.1 i x hi (by rw [viaAt i bl[i].1 bl[i].2 (List.getElem?_eq_getElem hib)]; exact hx)
      show VR _ (match bl[i]? with | some p=>_ | none=>_) _
      rw [List.getElem?_eq_getElem hib]
      cases hvr with
      | ptr hb =>
       have hb':=hb
       rw [h1] at hb'
       cases hb'
       exact .ptr hx
  have hends : r.Ends ⟨ρ.pl,ρ1.fr,ρ1.gl⟩ e':=by
   cases r with
   | ret v=>obtain ⟨v',e,h0⟩:=hv; exact ⟨v',e,VR0.lift (ρ:=⟨ρ.pl,ρ1.fr,ρ1.gl⟩) h0⟩
   | pan v=>obtain ⟨v',e,h0⟩:=hv; exact ⟨v',e,VR0.lift (ρ:=⟨ρ.pl,ρ1.fr,ρ1.gl⟩) h0⟩
  refine ⟨r,jH bl (yE bl cs') hp,nx,⟨ρ.pl,ρ1.fr,ρ1.gl⟩,hK,hends,?_,⟨hle,Nat.le_refl _,fun b hb hn=>⟨hn,?_⟩⟩⟩
  ·refine ⟨fun b x hb=>⟨(hrel.dom b x hb).1,Nat.lt_of_lt_of_le (hrel.dom b x hb).2 hsz⟩,fun b o c s z ho hx=>?_,fun b b' x x' o o' h1 h2 hx hx' hxx=>?_,fun b hb=>?_,⟨hr.below.os.trans hrel.below.os,hr.below.tape.trans hrel.below.tape,hr.below.output.trans hrel.below.output,Nat.le_trans hrel.below.size hsz,fun k hk=>?_⟩,hr.frz,fun b o c s z ho hw hx=>?_,fun c ob hc=>?_⟩
   ·cases hb : nH b bl with
    | true =>
     obtain ⟨i,k,x,c0,c',h1,h2,h3,h4,h5,h6,h7⟩:=inb b hb
     rw [h7] at ho
     cases ho
     have hx' : ρ.pl b = some (c,s,z):=hx
     rw [h2] at hx'
     cases hx'
     obtain ⟨ob,e1,e2⟩:=hr.obj i _ c s z h6 h3
     refine ⟨ob,e1,?_⟩
     cases ob <;> try exact e2.elim
     obtain ⟨k1,k2,k3,k4,k5⟩:=e2
     refine ⟨k1,by rw [List.length_map]; exact k2,k3,fun j u hu=>?_,fun _=>muNew c ⟨i,b,k,_,h1,h2,rfl⟩⟩
     rw [List.getElem?_map] at hu
     cases hj : c'[j]? with
     | none=>rw [hj] at hu; cases hu
     | some u0 =>
      rw [hj] at hu
      cases hu
      obtain ⟨u',q1,q2⟩:=k4 j u0 hj
      exact ⟨u',q1,hback c' (List.mem_of_getElem? h5) u0 (List.mem_of_getElem? hj) u' q2⟩
    | false =>
     rw [outb b hb] at ho
     obtain ⟨ob,e1,e2⟩:=hrel.obj b o c s z ho hx
     exact ⟨ob,by rw [old c (lt e1) (notmu b o _ hb ho hx)]; exact e1,e2.mono hle⟩
   ·obtain ⟨_,g1,_⟩:=live b o h1
    obtain ⟨_,g2,_⟩:=live b' o' h2
    exact hrel.inj b b' x x' _ _ g1 g2 hx hx' hxx
   ·cases hm : nH b bl with
    | true =>
     obtain ⟨i,k,x,c0,c',h1,h2,_⟩:=inb b hm
     have:=(hrel.dom b x h2).1
     omega
    | false=>rw [outb b hm]; exact hrel.fresh b hb
   ·have hkw : k < w.heap.size:=Nat.lt_of_lt_of_le hk.1 hrel.below.size
    rw [old k hkw fun hm=>muNew k hm hk]
    exact hrel.below.block k hk
   ·show ρ1.fr c = none
    cases hcf : ρ1.fr c with
    | none=>rfl
    | some ob =>
     exfalso
     obtain ⟨o',g1,g2⟩:=live b o ho
     have hcl:=(hrel.dom b _ hx).2
     cases hb : nH b bl with
     | true =>
      obtain ⟨i,k,x,c0,c',h1,h2,h3,h4,h5,h6,h7⟩:=inb b hb
      have hx' : ρ.pl b = some (c,s,z):=hx
      rw [h2] at hx'
      cases hx'
      have:=hr.apart i _ c s z h6 rfl h3
      rw [this] at hcf
      cases hcf
     | false =>
      rcases hr.frn c ob hcf with q | q
      ·have h5 : ρ.fr c = some ob:=q
       rw [hrel.apart b o' c s z g1 (g2 hw) hx] at h5
       cases h5
      ·rw [outb b hb] at ho
       exact q ⟨hcl,notmu b o _ hb ho hx⟩
   ·rcases hr.frn c ob hc with q | q
    ·exact hrel.frn c ob q
    ·refine .inr fun h2=>?_
     have hcw : c < w.heap.size:=Nat.lt_of_lt_of_le h2.1 hrel.below.size
     exact q ⟨hcw,fun hm=>muNew c hm h2⟩
  ·refine outb b ?_
   cases hm : nH b bl with
   | false=>rfl
   | true =>
    obtain ⟨i,k,x,c0,c',h1,h2,_⟩:=inb b hm
    rw [h2] at hn
    cases hn
def qK (tab : List XEnt) (next : eE) : eE:=fun f args hp nx K =>
 match zS f tab with
 | some e=>aLc e args hp nx K
 | none=>next f args hp nx K
theorem qQ {P : Program} {tab : List XEnt} {next : eE} (ht : ∀ e ∈ tab,xL P e) (hn : dY P next) : dY P (qK tab next):=by
 intro f args hp nx K h W ρ w args' hrel hargs
 unfold qK at h
 split at h
 ·rename_i e he
  obtain ⟨h1,rfl⟩:=sU he
  exact aNh (ht e h1) h hrel hargs
 ·exact hn f args hp nx K h W ρ w args' hrel hargs
def aMh (P : Program) (inl : List FuncId) (next : eE) : Nat -> eE
 | 0=>next
 | k + 1=>fun f args hp nx K=>bif inl.contains f then match P.funcs[f]? with
   | some fn=>match fn.body with
    | some c=>fJ P (aMh P inl next k) (gO args fn) [] [] (fun _ _ _=>False) (fun st=>match aBC P st.hp st.tm fn with | some v=>K (.ret v) st.hp st.nx | none=>False) (fun v st=>K (.pan v) st.hp st.nx) 1000 (.code c) [] ⟨gE 0 args .e,hp,nx⟩
    | none=>False
   | none=>False
  else next f args hp nx K
theorem aDA {P : Program} (hm : P.follows .mixedOrders = true) {inl : List FuncId} {next : eE} (hn : dY P next) : ∀ k,dY P (aMh P inl next k)
 | 0=>hn
 | k + 1=>by
  intro f args hp nx K h W ρ w args' hrel hargs
  unfold aMh at h
  cases hi : inl.contains f with
  | false=>rw [hi] at h; exact hn f args hp nx K h W ρ w args' hrel hargs
  | true =>
   rw [hi,cond_true] at h
   split at h
   case h_2=>exact h.elim
   rename_i fn hf
   split at h
   case h_2=>exact h.elim
   rename_i c hc
   refine calls_of_wp hf hc ?_
   have fin : ∀ st,(match aBC P st.hp st.tm fn with | some v=>K (.ret v) st.hp st.nx | none=>False) -> ∀ ρ' a w',SRel ρ' W.bare (gO args fn) st a w' -> Step ρ ρ' hp st.hp nx st.nx ->
     a.defers = [] /\ ∃ v',(results fn a.tmps).run P w' = .ok v' w' /\ ∃ r hp' nx' ρ',K r hp' nx' /\ r.Ends ρ' (Ending.returned v') /\ Rel ρ' W hp' nx' w' /\ Step ρ ρ' hp hp' nx nx':=by
    intro st hst ρ' a w' hs hr
    split at hst
    case h_2=>exact hst.elim
    rename_i v hv
    obtain ⟨v',r1,r2⟩:=lX hs.rel hs.frame hv
    exact ⟨hs.frame.defers,v',r1,.ret v,st.hp,st.nx,ρ',hst,⟨v',rfl,r2⟩,hs.rel.unbare,hr⟩
   exact pZ (W:=W.bare) (R:=fun ρ' st=>Step ρ ρ' hp st.hp nx st.nx) (aDA hm hn k) hm (fun _ _ _ _ h k=>h.trans k)
    (fun b k st h ρ' a w hs hr=>by
     unfold nY at h
     split at h
     case h_2=>exact h.elim
     split at h
     case h_2=>exact h.elim
     split at h
     case h_2=>exact h.elim
     exact h.2.2.elim) (fun st hst ρ' a w hs hr=>⟨fin st hst ρ' a w hs hr,fin st hst ρ' a w hs hr⟩)
    (fun v st hst ρ' v' a w' hv hs hr=>⟨hs.frame.defers,.pan v,st.hp,st.nx,ρ',hst,⟨v',rfl,hv⟩,hs.rel.unbare,hr⟩) 1000 (.code c) [] _ h ρ _ w (rM rfl hrel.bare hargs fn) (.refl _ _ _)
def vcX (P : Program) (pc : eE) (f : FuncId) (lt : List (Nat × List Nat)) (conts : List (List Value)) (args : List Value) (H : Code -> List Fr -> AS -> Prop) (Post : Out -> List (List Value) -> Prop) : Prop :=
 fJ P pc (gO args (jC P f)) lt (List.replicate conts.length true) H (aHO P (jC P f) conts.length (pN conts.length Post)) (aGZ conts.length (pN conts.length Post)) 3000 (.code (qS (jC P f))) [] ⟨gE 0 args .e,aDy conts,conts.length⟩
def aOF (P : Program) (pc : eE) (f : FuncId) (na : List Value) (lt : List (Nat × List Nat)) (n : Nat) (r : Nat) (st : AS) (H : Code -> List Fr -> AS -> Prop) (Post : Out -> List (List Value) -> Prop) : Prop :=
 fJ P pc (gO na (jC P f)) lt (List.replicate n true) H (aHO P (jC P f) n (pN n Post)) (aGZ n (pN n Post)) 3000 (.code (lpC P f r)) (.loop (lpC P f r) :: lpK P f r) st
def OkX (P : Program) (f : FuncId) (na : List Value) (n : Nat) (Post : Out -> List (List Value) -> Prop) : Code -> List Fr -> AS -> Prop :=
 aCf P (gO na (jC P f)) (List.replicate n true) (aHO P (jC P f) n (pN n Post)) (aGZ n (pN n Post))
theorem sL {P : Program} {pc : eE} (hcall : dY P pc) (hm : P.follows .mixedOrders = true) {f : FuncId} (hf : (P.funcs[f]?).isSome = true) (hc : (jC P f).body.isSome = true) (lt : List (Nat × List Nat)) {conts : List (List Value)} {args : List Value} {Post : Out -> List (List Value) -> Prop}
  {X : Prop} (e : vcX P pc f lt conts args (OkX P f args conts.length Post) Post = X) (h : X) : aHZ P f conts.length (aDy conts) args (pN conts.length Post):=by
 have hf' : P.funcs[f]? = some (jC P f):=by
  unfold jC
  cases hx : P.funcs[f]? with
  | none=>rw [hx] at hf; cases hf
  | some x=>rfl
 have hc' : (jC P f).body = some (qS (jC P f)):=by
  unfold qS
  cases hx : (jC P f).body with
  | none=>rw [hx] at hc; cases hc
  | some x=>rfl
 have h':=Eq.mpr e h
 unfold vcX OkX at h'
 have hl : (List.replicate conts.length true).length = conts.length:=List.length_replicate ..
 have:=aMN (base:=List.replicate conts.length true) (Post:=pN conts.length Post) (hp:=aDy conts) (args:=args) hcall hm hf' hc' 3000 (lt:=lt) (by rw [hl]; exact h')
 rw [hl] at this
 exact this
theorem aKp {P : Program} {pc : eE} (hcall : dY P pc) (hm : P.follows .mixedOrders = true) {f : FuncId} {na : List Value} (lt : List (Nat × List Nat)) {n r : Nat} {st : AS} {Post : Out -> List (List Value) -> Prop}
  {X : Prop} (e : aOF P pc f na lt n r st (OkX P f na n Post) Post = X) (h : X) : OkX P f na n Post (lpC P f r) (lpK P f r) st:=aEK hcall hm 3000 (Eq.mpr e h)
def aQx (args : List Value) (Post : Value -> Prop) : Prop:=∃ a b q : Pt,args = [ptV a,ptV b,ptV q] /\ Post (.bool (decide (min a.x b.x <= q.x /\ q.x <= max a.x b.x /\ min a.y b.y <= q.y /\ q.y <= max a.y b.y)))
theorem aNL (a b c : Pt) (H : HT) (Post : PV) : vcP Tryz.prog aI 232 [] [ptV a,ptV b,ptV c] H Post = (T16 (T8 (T4 (True /\ Post (vi (wrap i64 (wrap i64 (wrap i64 (b.x - a.x) * wrap i64 (c.y - a.y)) - wrap i64 (wrap i64 (b.y - a.y) * wrap i64 (c.x - a.x))))))))):=by kernel_rfl
theorem aS4 (n : Int) (H : Code -> List Fr -> AS -> Prop) (Post : Value -> Prop) : vcP Tryz.prog aI 231 [] [.int .i64 n] H Post = (True /\ True /\ True /\ True /\ True /\ True /\ Post (Value.int i64 (if 1 < if -1 > n then -1 else n then 1 else if -1 > n then -1 else n))):=by kernel_rfl
theorem e_ron (a b c : Pt) (H : HT) (Post : PV) : vcP Tryz.prog aI 233 [] [ptV a,ptV b,ptV c] H Post = (let q1:=True /\ Post (vb false); T8 (T4 (pIf (decide (c.x >= if b.x < a.x then b.x else a.x)) (T8 (True /\ pIf (decide (c.x <= if b.x > a.x then b.x else a.x)) (T8 (T2 (pIf (decide (c.y >= if b.y < a.y then b.y else a.y)) (T8 (T2 (pIf (decide (c.y <= if b.y > a.y then b.y else a.y)) (T2 (True /\ Post (vb true))) (T2 q1)))) (T4 q1)))) (T4 (T2 q1)))) (T8 (Post (vb false)))))):=by kernel_rfl
theorem aPj (a b c d : Pt) (H : HT) (Post : PV) : vcP Tryz.prog (aU [⟨232,jI⟩,⟨231,vU⟩,⟨233,aQx⟩] aI) 200 [] [ptV a,ptV b,ptV c,ptV d] H Post = (let q8:=True /\ Post (vb true); let q7:=#[vi b.x,vi b.y]; let q6:=#[vi c.x,vi c.y]; let q5:=#[vi d.x,vi d.y]; let q4:=T4 (Post (vb false)); let q3:=Post (vb true); let q2:=T4 (True /\ Post (vb false)); let q1:=[Value.agg q6,Value.agg q5,Value.agg q7]; T8 (T2 (True /\ ∃ (a_1 : Pt),∃ (b_1 : Pt),∃ (c_1 : Pt),eqL [Value.agg #[vi a.x,vi a.y],Value.agg q7,Value.agg q6] [ptV a_1,ptV b_1,ptV c_1] /\ Nr a_1 /\ Nr b_1 /\ Nr c_1 /\ T2 (∃ (a_2 : Pt),∃ (b_2 : Pt),∃ (c_2 : Pt),eqL [Value.agg #[vi a.x,vi a.y],Value.agg q7,Value.agg q5] [ptV a_2,ptV b_2,ptV c_2] /\ Nr a_2 /\ Nr b_2 /\ Nr c_2 /\ T8 (T2 (∃ (a_3 : Pt),∃ (b_3 : Pt),∃ (c_3 : Pt),eqL [Value.agg q6,Value.agg q5,Value.agg #[vi a.x,vi a.y]] [ptV a_3,ptV b_3,ptV c_3] /\ Nr a_3 /\ Nr b_3 /\ Nr c_3 /\ T2 (∃ (a_4 : Pt),∃ (b_4 : Pt),∃ (c_4 : Pt),eqL q1 [ptV a_4,ptV b_4,ptV c_4] /\ Nr a_4 /\ Nr b_4 /\ Nr c_4 /\ T8 (pIf (decide (wrap i64 (dI (aY a_1 b_1 c_1) * dI (aY a_2 b_2 c_2)) < 0)) (T4 (True /\ pIf (decide (wrap i64 (dI (aY a_3 b_3 c_3) * dI (aY a_4 b_4 c_4)) < 0)) (T2 q8) (T2 (True /\ pIf (decide (dI (aY a_1 b_1 c_1) = 0)) (T4 (∃ (a_5 : Pt),∃ (b_5 : Pt),∃ (q : Pt),eqL [Value.agg #[vi a.x,vi a.y],Value.agg q7,Value.agg q6] [ptV a_5,ptV b_5,ptV q] /\ pIf (decide (min a_5.x b_5.x <= q.x /\ q.x <= max a_5.x b_5.x /\ min a_5.y b_5.y <= q.y /\ q.y <= max a_5.y b_5.y)) (T8 q8) (T4 (pIf (decide (dI (aY a_2 b_2 c_2) = 0)) (T4 (∃ (a_6 : Pt),∃ (b_6 : Pt),∃ (q : Pt),eqL [Value.agg #[vi a.x,vi a.y],Value.agg q7,Value.agg q5] [ptV a_6,ptV b_6,ptV q] /\ pIf (decide (min a_6.x b_6.x <= q.x /\ q.x <= max a_6.x b_6.x /\ min a_6.y b_6.y <= q.y /\ q.y <= max a_6.y b_6.y)) (T8 q3) (T4 (True /\ pIf (decide (dI (aY a_3 b_3 c_3) = 0)) (T4 (∃ (a_7 : Pt),∃ (b_7 : Pt),∃ (q : Pt),eqL [Value.agg q6,Value.agg q5,Value.agg #[vi a.x,vi a.y]] [ptV a_7,ptV b_7,ptV q] /\ pIf (decide (min a_7.x b_7.x <= q.x /\ q.x <= max a_7.x b_7.x /\ min a_7.y b_7.y <= q.y /\ q.y <= max a_7.y b_7.y)) (T4 (T2 q3)) (T4 (True /\ pIf (decide (dI (aY a_4 b_4 c_4) = 0)) (T4 (∃ (a : Pt),∃ (b_8 : Pt),∃ (q : Pt),eqL q1 [ptV a,ptV b_8,ptV q] /\ pIf (decide (min a.x b_8.x <= q.x /\ q.x <= max a.x b_8.x /\ min a.y b_8.y <= q.y /\ q.y <= max a.y b_8.y)) (T4 q3) q4)) q2)))) (T4 (T2 (pIf (decide (dI (aY a_4 b_4 c_4) = 0)) (T4 (∃ (a : Pt),∃ (b_7 : Pt),∃ (q : Pt),eqL q1 [ptV a,ptV b_7,ptV q] /\ pIf (decide (min a.x b_7.x <= q.x /\ q.x <= max a.x b_7.x /\ min a.y b_7.y <= q.y /\ q.y <= max a.y b_7.y)) (T4 q3) q4)) q2))))))) (T4 (T2 (pIf (decide (dI (aY a_3 b_3 c_3) = 0)) (T4 (∃ (a_6 : Pt),∃ (b_6 : Pt),∃ (q : Pt),eqL [Value.agg q6,Value.agg q5,Value.agg #[vi a.x,vi a.y]] [ptV a_6,ptV b_6,ptV q] /\ pIf (decide (min a_6.x b_6.x <= q.x /\ q.x <= max a_6.x b_6.x /\ min a_6.y b_6.y <= q.y /\ q.y <= max a_6.y b_6.y)) (T4 (T2 q3)) (T4 (True /\ pIf (decide (dI (aY a_4 b_4 c_4) = 0)) (T4 (∃ (a : Pt),∃ (b_7 : Pt),∃ (q : Pt),eqL q1 [ptV a,ptV b_7,ptV q] /\ pIf (decide (min a.x b_7.x <= q.x /\ q.x <= max a.x b_7.x /\ min a.y b_7.y <= q.y /\ q.y <= max a.y b_7.y)) (T4 q3) q4)) q2)))) (T4 (T2 (pIf (decide (dI (aY a_4 b_4 c_4) = 0)) (T4 (∃ (a : Pt),∃ (b_6 : Pt),∃ (q : Pt),eqL q1 [ptV a,ptV b_6,ptV q] /\ pIf (decide (min a.x b_6.x <= q.x /\ q.x <= max a.x b_6.x /\ min a.y b_6.y <= q.y /\ q.y <= max a.y b_6.y)) (T4 q3) q4)) q2)))))))))) (T4 (True /\ pIf (decide (dI (aY a_2 b_2 c_2) = 0)) (T4 (∃ (a_5 : Pt),∃ (b_5 : Pt),∃ (q : Pt),eqL [Value.agg #[vi a.x,vi a.y],Value.agg q7,Value.agg q5] [ptV a_5,ptV b_5,ptV q] /\ pIf (decide (min a_5.x b_5.x <= q.x /\ q.x <= max a_5.x b_5.x /\ min a_5.y b_5.y <= q.y /\ q.y <= max a_5.y b_5.y)) (T8 q3) (T4 (True /\ pIf (decide (dI (aY a_3 b_3 c_3) = 0)) (T4 (∃ (a_6 : Pt),∃ (b_6 : Pt),∃ (q : Pt),eqL [Value.agg q6,Value.agg q5,Value.agg #[vi a.x,vi a.y]] [ptV a_6,ptV b_6,ptV q] /\ pIf (decide (min a_6.x b_6.x <= q.x /\ q.x <= max a_6.x b_6.x /\ min a_6.y b_6.y <= q.y /\ q.y <= max a_6.y b_6.y)) (T4 (T2 q3)) (T4 (True /\ pIf (decide (dI (aY a_4 b_4 c_4) = 0)) (T4 (∃ (a : Pt),∃ (b_7 : Pt),∃ (q : Pt),eqL q1 [ptV a,ptV b_7,ptV q] /\ pIf (decide (min a.x b_7.x <= q.x /\ q.x <= max a.x b_7.x /\ min a.y b_7.y <= q.y /\ q.y <= max a.y b_7.y)) (T4 q3) q4)) q2)))) (T4 (T2 (pIf (decide (dI (aY a_4 b_4 c_4) = 0)) (T4 (∃ (a : Pt),∃ (b_6 : Pt),∃ (q : Pt),eqL q1 [ptV a,ptV b_6,ptV q] /\ pIf (decide (min a.x b_6.x <= q.x /\ q.x <= max a.x b_6.x /\ min a.y b_6.y <= q.y /\ q.y <= max a.y b_6.y)) (T4 q3) q4)) q2))))))) (T4 (T2 (pIf (decide (dI (aY a_3 b_3 c_3) = 0)) (T4 (∃ (a_5 : Pt),∃ (b_5 : Pt),∃ (q : Pt),eqL [Value.agg q6,Value.agg q5,Value.agg #[vi a.x,vi a.y]] [ptV a_5,ptV b_5,ptV q] /\ pIf (decide (min a_5.x b_5.x <= q.x /\ q.x <= max a_5.x b_5.x /\ min a_5.y b_5.y <= q.y /\ q.y <= max a_5.y b_5.y)) (T4 (T2 q3)) (T4 (True /\ pIf (decide (dI (aY a_4 b_4 c_4) = 0)) (T4 (∃ (a : Pt),∃ (b_6 : Pt),∃ (q : Pt),eqL q1 [ptV a,ptV b_6,ptV q] /\ pIf (decide (min a.x b_6.x <= q.x /\ q.x <= max a.x b_6.x /\ min a.y b_6.y <= q.y /\ q.y <= max a.y b_6.y)) (T4 q3) q4)) q2)))) (T4 (T2 (pIf (decide (dI (aY a_4 b_4 c_4) = 0)) (T4 (∃ (a : Pt),∃ (b_5 : Pt),∃ (q : Pt),eqL q1 [ptV a,ptV b_5,ptV q] /\ pIf (decide (min a.x b_5.x <= q.x /\ q.x <= max a.x b_5.x /\ min a.y b_5.y <= q.y /\ q.y <= max a.y b_5.y)) (T4 q3) q4)) q2)))))))))))) (T4 (pIf (decide (dI (aY a_1 b_1 c_1) = 0)) (T4 (∃ (a_5 : Pt),∃ (b_5 : Pt),∃ (q : Pt),eqL [Value.agg #[vi a.x,vi a.y],Value.agg q7,Value.agg q6] [ptV a_5,ptV b_5,ptV q] /\ pIf (decide (min a_5.x b_5.x <= q.x /\ q.x <= max a_5.x b_5.x /\ min a_5.y b_5.y <= q.y /\ q.y <= max a_5.y b_5.y)) (T8 q8) (T4 (pIf (decide (dI (aY a_2 b_2 c_2) = 0)) (T4 (∃ (a_6 : Pt),∃ (b_6 : Pt),∃ (q : Pt),eqL [Value.agg #[vi a.x,vi a.y],Value.agg q7,Value.agg q5] [ptV a_6,ptV b_6,ptV q] /\ pIf (decide (min a_6.x b_6.x <= q.x /\ q.x <= max a_6.x b_6.x /\ min a_6.y b_6.y <= q.y /\ q.y <= max a_6.y b_6.y)) (T8 q3) (T4 (True /\ pIf (decide (dI (aY a_3 b_3 c_3) = 0)) (T4 (∃ (a_7 : Pt),∃ (b_7 : Pt),∃ (q : Pt),eqL [Value.agg q6,Value.agg q5,Value.agg #[vi a.x,vi a.y]] [ptV a_7,ptV b_7,ptV q] /\ pIf (decide (min a_7.x b_7.x <= q.x /\ q.x <= max a_7.x b_7.x /\ min a_7.y b_7.y <= q.y /\ q.y <= max a_7.y b_7.y)) (T4 (T2 q3)) (T4 (True /\ pIf (decide (dI (aY a_4 b_4 c_4) = 0)) (T4 (∃ (a : Pt),∃ (b_8 : Pt),∃ (q : Pt),eqL q1 [ptV a,ptV b_8,ptV q] /\ pIf (decide (min a.x b_8.x <= q.x /\ q.x <= max a.x b_8.x /\ min a.y b_8.y <= q.y /\ q.y <= max a.y b_8.y)) (T4 q3) q4)) q2)))) (T4 (T2 (pIf (decide (dI (aY a_4 b_4 c_4) = 0)) (T4 (∃ (a : Pt),∃ (b_7 : Pt),∃ (q : Pt),eqL q1 [ptV a,ptV b_7,ptV q] /\ pIf (decide (min a.x b_7.x <= q.x /\ q.x <= max a.x b_7.x /\ min a.y b_7.y <= q.y /\ q.y <= max a.y b_7.y)) (T4 q3) q4)) q2))))))) (T4 (T2 (pIf (decide (dI (aY a_3 b_3 c_3) = 0)) (T4 (∃ (a_6 : Pt),∃ (b_6 : Pt),∃ (q : Pt),eqL [Value.agg q6,Value.agg q5,Value.agg #[vi a.x,vi a.y]] [ptV a_6,ptV b_6,ptV q] /\ pIf (decide (min a_6.x b_6.x <= q.x /\ q.x <= max a_6.x b_6.x /\ min a_6.y b_6.y <= q.y /\ q.y <= max a_6.y b_6.y)) (T4 (T2 q3)) (T4 (True /\ pIf (decide (dI (aY a_4 b_4 c_4) = 0)) (T4 (∃ (a : Pt),∃ (b_7 : Pt),∃ (q : Pt),eqL q1 [ptV a,ptV b_7,ptV q] /\ pIf (decide (min a.x b_7.x <= q.x /\ q.x <= max a.x b_7.x /\ min a.y b_7.y <= q.y /\ q.y <= max a.y b_7.y)) (T4 q3) q4)) q2)))) (T4 (T2 (pIf (decide (dI (aY a_4 b_4 c_4) = 0)) (T4 (∃ (a : Pt),∃ (b_6 : Pt),∃ (q : Pt),eqL q1 [ptV a,ptV b_6,ptV q] /\ pIf (decide (min a.x b_6.x <= q.x /\ q.x <= max a.x b_6.x /\ min a.y b_6.y <= q.y /\ q.y <= max a.y b_6.y)) (T4 q3) q4)) q2)))))))))) (T4 (True /\ pIf (decide (dI (aY a_2 b_2 c_2) = 0)) (T4 (∃ (a_5 : Pt),∃ (b_5 : Pt),∃ (q : Pt),eqL [Value.agg #[vi a.x,vi a.y],Value.agg q7,Value.agg q5] [ptV a_5,ptV b_5,ptV q] /\ pIf (decide (min a_5.x b_5.x <= q.x /\ q.x <= max a_5.x b_5.x /\ min a_5.y b_5.y <= q.y /\ q.y <= max a_5.y b_5.y)) (T8 q3) (T4 (True /\ pIf (decide (dI (aY a_3 b_3 c_3) = 0)) (T4 (∃ (a_6 : Pt),∃ (b_6 : Pt),∃ (q : Pt),eqL [Value.agg q6,Value.agg q5,Value.agg #[vi a.x,vi a.y]] [ptV a_6,ptV b_6,ptV q] /\ pIf (decide (min a_6.x b_6.x <= q.x /\ q.x <= max a_6.x b_6.x /\ min a_6.y b_6.y <= q.y /\ q.y <= max a_6.y b_6.y)) (T4 (T2 q3)) (T4 (True /\ pIf (decide (dI (aY a_4 b_4 c_4) = 0)) (T4 (∃ (a : Pt),∃ (b_7 : Pt),∃ (q : Pt),eqL q1 [ptV a,ptV b_7,ptV q] /\ pIf (decide (min a.x b_7.x <= q.x /\ q.x <= max a.x b_7.x /\ min a.y b_7.y <= q.y /\ q.y <= max a.y b_7.y)) (T4 q3) q4)) q2)))) (T4 (T2 (pIf (decide (dI (aY a_4 b_4 c_4) = 0)) (T4 (∃ (a : Pt),∃ (b_6 : Pt),∃ (q : Pt),eqL q1 [ptV a,ptV b_6,ptV q] /\ pIf (decide (min a.x b_6.x <= q.x /\ q.x <= max a.x b_6.x /\ min a.y b_6.y <= q.y /\ q.y <= max a.y b_6.y)) (T4 q3) q4)) q2))))))) (T4 (T2 (pIf (decide (dI (aY a_3 b_3 c_3) = 0)) (T4 (∃ (a_5 : Pt),∃ (b_5 : Pt),∃ (q : Pt),eqL [Value.agg q6,Value.agg q5,Value.agg #[vi a.x,vi a.y]] [ptV a_5,ptV b_5,ptV q] /\ pIf (decide (min a_5.x b_5.x <= q.x /\ q.x <= max a_5.x b_5.x /\ min a_5.y b_5.y <= q.y /\ q.y <= max a_5.y b_5.y)) (T4 (T2 q3)) (T4 (True /\ pIf (decide (dI (aY a_4 b_4 c_4) = 0)) (T4 (∃ (a : Pt),∃ (b_6 : Pt),∃ (q : Pt),eqL q1 [ptV a,ptV b_6,ptV q] /\ pIf (decide (min a.x b_6.x <= q.x /\ q.x <= max a.x b_6.x /\ min a.y b_6.y <= q.y /\ q.y <= max a.y b_6.y)) (T4 q3) q4)) q2)))) (T4 (T2 (pIf (decide (dI (aY a_4 b_4 c_4) = 0)) (T4 (∃ (a : Pt),∃ (b_5 : Pt),∃ (q : Pt),eqL q1 [ptV a,ptV b_5,ptV q] /\ pIf (decide (min a.x b_5.x <= q.x /\ q.x <= max a.x b_5.x /\ min a.y b_5.y <= q.y /\ q.y <= max a.y b_5.y)) (T4 q3) q4)) q2)))))))))))))))))):=by kernel_rfl
def aDu (args : List Value) (Post : Value -> Prop) : Prop:=∃ p q : List Pt,args = [aR p,aR q,fnV 200] /\ p.length <= 32 /\ q.length <= 32 /\ (∀ x ∈ p,Nr x) /\ (∀ x ∈ q,Nr x) /\ Post (.bool (decide (cN p q)))
def aP4 : bH:=aU [⟨200,mT⟩] aI
theorem aQ7 (n m : Nat) (A B : Array Value) (H : HT) (Post : PV) : vcP Tryz.prog aP4 199 [(2,[0,1,2,11,12,13]),(5,[0,1,2,7,8,11,12,13,18,19,20])] [tree 2 n A,tree 2 m B,fnV 200] H Post = (T4 (T2 (HP H 199 2 (stV [(0,some (tree 2 n A)),(1,some (tree 2 m B)),(2,some (Value.func (Fn.func 200) #[] #[])),(11,some (tree 2 n A)),(12,some (vi (↑n : Int))),(13,some (vi 0))] [] 0)))):=by kernel_rfl
theorem aIQ (n m : Nat) (k : Int) (A B : Array Value) (H : HT) (Post : PV) : bX Tryz.prog aP4 199 [tree 2 n A,tree 2 m B,fnV 200] [(2,[0,1,2,11,12,13]),(5,[0,1,2,7,8,11,12,13,18,19,20])] 2 (stV [(0,some (tree 2 n A)),(1,some (tree 2 m B)),(2,some (fnV 200)),(11,some (tree 2 n A)),(12,some (vi n)),(13,some (vi k))] [] 0) H Post = (let q2:=toI (aA A k.toNat 1); let q1:=toI (aA A k.toNat 0); True /\ pIf (decide (k < (↑n : Int))) (True /\ (0 <= k /\ k < (↑n : Int)) /\ (aA A k.toNat 0 = vi q1 /\ aA A k.toNat 1 = vi q2 /\ True) /\ T2 (2 <= 2 /\ T4 ((True /\ True) /\ HP H 199 5 (stV [(0,some (tree 2 n A)),(1,some (tree 2 m B)),(2,some (Value.func (Fn.func 200) #[] #[])),(7,some (vi k)),(8,some (pt 0)),(11,some (tree 2 n A)),(12,some (vi (↑n : Int))),(13,some (vi k)),(18,some (tree 2 m B)),(19,some (vi (↑m : Int))),(20,some (vi 0))] [(0,some (AObj.cells [vi q1,vi q2] true))] 1)))) (T2 (Post (vb false)))):=by kernel_rfl
theorem aIt (n m : Nat) (k j : Int) (a : Pt) (A B : Array Value) (H : HT) (Post : PV) : bX Tryz.prog aP4 199 [tree 2 n A,tree 2 m B,fnV 200] [(2,[0,1,2,11,12,13]),(5,[0,1,2,7,8,11,12,13,18,19,20])] 5 (stV [(0,some (tree 2 n A)),(1,some (tree 2 m B)),(2,some (fnV 200)),(7,some (vi k)),(8,some (pt 0)),(11,some (tree 2 n A)),(12,some (vi n)),(13,some (vi k)),(18,some (tree 2 m B)),(19,some (vi m)),(20,some (vi j))] [(0,some (.cells [.int .i64 a.x,.int .i64 a.y] true))] 1) H Post = (let q7:=toI (aA B j.toNat 1); let q6:=toI (aA B j.toNat 0); let q5:=(2,some (Value.func (Fn.func 200) #[] #[])); let q4:=wrap i64 (j + 1); let q3:=wrap i64 (k + 1); let q2:=(Int.toNat (tmod q4 (↑m : Int))); let q1:=(Int.toNat (tmod q3 (↑n : Int))); True /\ pIf (decide (j < (↑m : Int))) (True /\ (0 <= j /\ j < (↑m : Int)) /\ (aA B j.toNat 0 = vi q6 /\ aA B j.toNat 1 = vi q7 /\ True) /\ T2 (2 <= 2 /\ T4 (T2 (True /\ ((↑n : Int) = 0 -> False) /\ (0 <= tmod q3 (↑n : Int) /\ tmod q3 (↑n : Int) < (↑n : Int)) /\ (aA A q1 0 = vi (toI (aA A q1 0)) /\ aA A q1 1 = vi (toI (aA A q1 1)) /\ True) /\ T4 (T2 (((↑m : Int) = 0 -> False) /\ (0 <= tmod q4 (↑m : Int) /\ tmod q4 (↑m : Int) < (↑m : Int)) /\ (aA B q2 0 = vi (toI (aA B q2 0)) /\ aA B q2 1 = vi (toI (aA B q2 1)) /\ True) /\ ∃ (a_1 : Pt),∃ (b : Pt),∃ (c : Pt),∃ (d : Pt),eqL [Value.agg #[vi a.x,vi a.y],Value.agg #[vi (toI (aA A q1 0)),vi (toI (aA A q1 1))],Value.agg #[vi q6,vi q7],Value.agg #[vi (toI (aA B q2 0)),vi (toI (aA B q2 1))]] [ptV a_1,ptV b,ptV c,ptV d] /\ Nr a_1 /\ Nr b /\ Nr c /\ Nr d /\ pIf (decide (fH a_1 b c d)) (T2 (True /\ Post (vb true))) (T4 ((True /\ True) /\ HP H 199 5 (stV [(0,some (tree 2 n A)),(1,some (tree 2 m B)),q5,(7,some (vi k)),(8,some (pt 0)),(11,some (tree 2 n A)),(12,some (vi (↑n : Int))),(13,some (vi k)),(18,some (tree 2 m B)),(19,some (vi (↑m : Int))),(20,some (vi q4))] [(0,some (AObj.cells [vi a.x,vi a.y] true))] 1))))))))) (T4 (HP H 199 2 (stV [(0,some (tree 2 n A)),(1,some (tree 2 m B)),q5,(11,some (tree 2 n A)),(12,some (vi (↑n : Int))),(13,some (vi q3))] [] 0)))):=by kernel_rfl
abbrev fnW : Value:=.func (.func 201) #[] #[.pointer (some ⟨0,0,none⟩)]
def aNN (args : List Value) (conts : List (List Value)) (Post : Out -> List (List Value) -> Prop) : Prop:=∃ l o : List Pt,args = [aR l,fnW] /\ conts = [[aR o]] /\ aH l /\ aH o /\ ∀ i : Int,(0 <= i ↔ ∃ c ∈ l,cL o c ≠ 1) -> Post (.ret (.int .i64 i)) [[aR o]]
def aLr (args : List Value) (conts : List (List Value)) (Post : Out -> List (List Value) -> Prop) : Prop:=∃ l o : List Pt,args = [aR l,fnW] /\ conts = [[aR o]] /\ aH l /\ aH o /\ Post (.ret (.bool (decide (∃ c ∈ l,cL o c ≠ 1)))) [[aR o]]
def aHT : eE:=aMh Tryz.prog [201] (ofV (aU [⟨202,qC⟩] aI)) 2
theorem aS5 (n m : Nat) (A B : Array Value) (H : HT) (Post : PX) : vcX Tryz.prog aHT 228 [(2,[0,1,7,8])] [[tree 2 m B]] [tree 2 n A,fnW] H Post = (T4 (True /\ (True /\ True) /\ HP H 228 2 (stV [(0,some (tree 2 n A)),(1,some (Value.func (Fn.func 201) #[] #[pt 0])),(7,some (vi (↑n : Int))),(8,some (vi 0))] [(0,some (AObj.cells [tree 2 m B] true))] 1))):=by kernel_rfl
theorem aMI (n m : Nat) (k : Int) (A B : Array Value) (H : HT) (Post : PX) : aOF Tryz.prog aHT 228 [tree 2 n A,fnW] [(2,[0,1,7,8])] 1 2 (stV [(0,some (tree 2 n A)),(1,some fnW),(7,some (vi n)),(8,some (vi k))] [(0,some (.cells [tree 2 m B] true))] 1) H Post = (let q3:=((True /\ True) /\ True) /\ True; let q2:=toI (aA A k.toNat 1); let q1:=toI (aA A k.toNat 0); True /\ pIf (decide (k < (↑n : Int))) (T4 (True /\ (0 <= k /\ k < (↑n : Int)) /\ (aA A k.toNat 0 = vi q1 /\ aA A k.toNat 1 = vi q2 /\ True) /\ T4 (∃ (l : List Pt),∃ (q : Pt),eqL [tree 2 m B,Value.agg #[vi q1,vi q2]] [aR l,ptV q] /\ aH l /\ True /\ pIf (!decide (cL l q = 1)) (T2 (True /\ q3 /\ true = true /\ Post (Out.ret (vi k)) [[tree 2 m B]])) (T4 ((True /\ True) /\ HP H 228 2 (stV [(0,some (tree 2 n A)),(1,some (Value.func (Fn.func 201) #[] #[pt 0])),(7,some (vi (↑n : Int))),(8,some (vi (wrap i64 (k + 1))))] [(0,some (AObj.cells [tree 2 m B] true))] 1)))))) (True /\ q3 /\ true = true /\ Post (Out.ret (vi (-1))) [[tree 2 m B]])):=by kernel_rfl
def aME : eE:=qK [⟨228,aNN⟩] (ofV aI)
theorem aRW (n m : Nat) (A B : Array Value) (H : HT) (Post : PX) : vcX Tryz.prog aME 195 [] [[tree 2 m B]] [tree 2 n A,fnW] H Post = (let q1:=((True /\ True) /\ True) /\ True; T2 (True /\ ∃ (l : List Pt),∃ (o : List Pt),eqL [tree 2 n A,Value.func (Fn.func 201) #[] #[pt 0]] [aR l,Value.func (Fn.func 201) #[] #[pt 0]] /\ [[tree 2 m B]] = [[aR o]] /\ aH l /\ aH o /\ ∀ (i : Int),(0 <= i ↔ ∃ (c : Pt),c ∈ l /\ cL o c ≠ 1) -> 1 = 1 /\ True /\ pIf (decide (i >= 0)) (True /\ q1 /\ true = true /\ Post (Out.ret (vb true)) [[tree 2 o.length (aB o)]]) (True /\ q1 /\ true = true /\ Post (Out.ret (vb false)) [[tree 2 o.length (aB o)]]))):=by kernel_rfl
def aEt (args : List Value) (Post : Value -> Prop) : Prop:=∃ h o : List Pt,args = [aR h,aR o] /\ h.length <= 32 /\ o.length <= 32 /\ (∀ x ∈ h,Nr x) /\ (∀ x ∈ o,Nr x) /\ Post (.bool (decide (gF h o)))
def aIw (args : List Value) (Post : Value -> Prop) : Prop:=∃ p q : List Pt,args = [aR p,aR q] /\ 0 < p.length /\ 0 < q.length /\ p.length <= 32 /\ q.length <= 32 /\ (∀ x ∈ p,Nr x) /\ (∀ x ∈ q,Nr x) /\ Post (.bool (decide (gC p q)))
def aNF : eE:=qK [⟨195,aLr⟩] (ofV (aU [⟨199,aDu⟩] aI))
theorem aLR (n m : Nat) (A B : Array Value) (H : HT) (Post : PX) : vcX Tryz.prog aNF 122 [] [] [tree 2 n A,tree 2 m B] H Post = (T4 (∃ (p : List Pt),∃ (q : List Pt),eqL [tree 2 n A,tree 2 m B,Value.func (Fn.func 200) #[] #[]] [aR p,aR q,fnV 200] /\ length p <= 32 /\ length q <= 32 /\ (∀ (x : Pt),x ∈ p -> Nr x) /\ (∀ (x : Pt),x ∈ q -> Nr x) /\ pIf (decide (cN p q)) (T4 ((True /\ True) /\ true = true /\ Post (Out.ret (vb false)) [])) (T4 (∃ (l : List Pt),∃ (o : List Pt),eqL [tree 2 n A,Value.func (Fn.func 201) #[] #[pt 0]] [aR l,Value.func (Fn.func 201) #[] #[pt 0]] /\ [[tree 2 m B]] = [[aR o]] /\ aH l /\ aH o /\ 1 = 1 /\ pIf (decide (∃ (c : Pt),c ∈ l /\ cL o c ≠ 1)) (T2 (True /\ (True /\ True) /\ true = true /\ Post (Out.ret (vb false)) [])) (T2 (True /\ (True /\ True) /\ true = true /\ Post (Out.ret (vb true)) [])))))):=by kernel_rfl
theorem aPz (n m : Nat) (A B : Array Value) (H : HT) (Post : PV) : vcP Tryz.prog (aU [⟨199,aDu⟩,⟨202,qC⟩] aI) 123 [] [tree 2 n A,tree 2 m B] H Post = (let q1:=True /\ Post (vb false); T2 (True /\ ∃ (p : List Pt),∃ (q : List Pt),eqL [tree 2 n A,tree 2 m B,Value.func (Fn.func 200) #[] #[]] [aR p,aR q,fnV 200] /\ length p <= 32 /\ length q <= 32 /\ (∀ (x : Pt),x ∈ p -> Nr x) /\ (∀ (x : Pt),x ∈ q -> Nr x) /\ pIf (decide (cN p q)) (T4 (T2 q1)) (T4 ((toI (vi 0) <= 0 /\ 0 < (↑m : Int)) /\ (aA B 0 0 = vi (toI (aA B 0 0)) /\ aA B 0 1 = vi (toI (aA B 0 1)) /\ True) /\ ∃ (l : List Pt),∃ (q : Pt),eqL [tree 2 n A,Value.agg #[vi (toI (aA B 0 0)),vi (toI (aA B 0 1))]] [aR l,ptV q] /\ aH l /\ True /\ pIf (decide (cL l q < 0)) (T4 ((toI (vi 0) <= 0 /\ 0 < (↑n : Int)) /\ (aA A 0 0 = vi (toI (aA A 0 0)) /\ aA A 0 1 = vi (toI (aA A 0 1)) /\ True) /\ ∃ (l : List Pt),∃ (q : Pt),eqL [tree 2 m B,Value.agg #[vi (toI (aA A 0 0)),vi (toI (aA A 0 1))]] [aR l,ptV q] /\ aH l /\ True /\ pIf (decide (cL l q < 0)) (T2 (True /\ Post (vb true))) (T2 q1))) (T4 q1))))):=by kernel_rfl
def retP (Post : Value -> Prop) (r : Out) (_ : List (List Value)) : Prop:=match r with | .ret v=>Post v | .pan _=>False
theorem aLO {P : Program} {f : FuncId} {args : List Value} {Post : Value -> Prop} (h : aHZ P f 0 (aDy []) args (pN 0 (retP Post))) : Pure P f args Post:=by
 intro W ρ w args' hrel hargs
 refine (h W ρ w args' (fun b hb=>by omega) hrel hargs).mono ?_
 rintro e w' ⟨r,hp',nx',ρ',hP,hE,hR,hS⟩
 unfold pN at hP
 obtain ⟨_,hv⟩:=hP
 cases r with
 | pan v=>exact hv.elim
 | ret v =>
 obtain ⟨v',e1,e2⟩:=hE
 exact ⟨v,hp',nx',v',ρ',hv,e1,e2,hR,hS⟩
theorem aKg : aZ Tryz.prog ⟨232,jI⟩:=by
 rintro args Post ⟨a,b,c,rfl,ha,hb,hc,h⟩
 refine aN (vc:=aI) aD mixed (by kernel_rfl) (by kernel_rfl) _ (aNL a b c _ _) ?_
 rw [← oI ha hb hc] at h
 simp only [true_and]
 exact h
theorem aOC : aZ Tryz.prog ⟨231,vU⟩:=by
 intro args Post hc
 unfold vU at hc
 dsimp only at hc
 split at hc
 case h_2=>exact hc.elim
 rename_i n
 refine aN aD mixed (by kernel_rfl) (by kernel_rfl) _ (aS4 n _ _) ?_
 simp only [true_and]
 have e : (if 1 < (if -1 > n then -1 else n) then 1 else if -1 > n then -1 else n) = dI n:=by
  rcases lW n with ⟨h,e⟩ | ⟨h,e⟩ | ⟨h,e⟩
  ·rw [e]
   by_cases h1 : -1 > n
   ·rw [if_pos h1,if_neg (by decide)]
   ·rw [if_neg h1,if_neg (by omega)]; omega
  ·rw [e,if_neg (show ¬ (-1 > n) by omega),if_neg (by omega),h]
  ·rw [e,if_neg (show ¬ (-1 > n) by omega)]
   by_cases h1 : 1 < n
   ·rw [if_pos h1]
   ·rw [if_neg h1]; omega
 rw [e]
 exact hc
theorem aRg : aZ Tryz.prog ⟨233,aQx⟩:=by
 rintro args Post ⟨a,b,q,rfl,h⟩
 refine aN aD mixed (by kernel_rfl) (by kernel_rfl) _ (e_ron a b q _ _) ?_
 simp only [true_and,aEj,aEa]
 have yes : (min a.x b.x <= q.x /\ q.x <= max a.x b.x /\ min a.y b.y <= q.y /\ q.y <= max a.y b.y) -> Post (.bool true):=fun hp=>by rwa [decide_eq_true hp] at h
 have no : ¬ (min a.x b.x <= q.x /\ q.x <= max a.x b.x /\ min a.y b.y <= q.y /\ q.y <= max a.y b.y) -> Post (.bool false):=fun hp=>by rwa [decide_eq_false hp] at h
 refine ifD (fun h2=>?_) (fun h2=>no fun hp=>h2 hp.1)
 refine ifD (fun h3=>?_) (fun h3=>no fun hp=>h3 hp.2.1)
 refine ifD (fun h4=>?_) (fun h4=>no fun hp=>h4 hp.2.2.1)
 exact ifD (fun h5=>yes ⟨h2,h3,h4,h5⟩) (fun h5=>no fun hp=>h5 hp.2.2.2)
theorem aCD (p : Int) : dI p = 0 ↔ p = 0:=by
 rcases lW p with ⟨h,e⟩ | ⟨h,e⟩ | ⟨h,e⟩ <;> omega
theorem aNt : aZ Tryz.prog ⟨200,mT⟩:=by
 rintro args Post ⟨a,b,c,d,rfl,ha,hb,hc,hd,h⟩
 refine aN (aM (by
  intro e he
  simp only [mem_cons,not_mem_nil,or_false] at he
  rcases he with rfl | rfl | rfl
  ·exact aKg
  ·exact aOC
  ·exact aRg) aD) mixed (by kernel_rfl) (by kernel_rfl) _ (aPj a b c d _ _) ?_
 simp only [true_and,zG,aCD]
 have yes : fH a b c d -> Post (.bool true):=fun hp=>by rwa [decide_eq_true hp] at h
 have no : ¬ fH a b c d -> Post (.bool false):=fun hp=>by rwa [decide_eq_false hp] at h
 refine ⟨a,b,c,rfl,ha,hb,hc,a,b,d,rfl,ha,hb,hd,c,d,a,rfl,hc,hd,ha,c,d,b,rfl,hc,hd,hb,?_⟩
 repeat' (first
  | refine ifD (fun _=>?_) (fun _=>?_)
  | exact yes (.inr (.inr (.inr (.inr ⟨by assumption,by assumption⟩))))
  | exact yes (.inl ⟨by assumption,by assumption⟩)
  | exact yes (.inr (.inl ⟨by assumption,by assumption⟩))
  | exact yes (.inr (.inr (.inl ⟨by assumption,by assumption⟩)))
  | exact yes (.inr (.inr (.inr (.inl ⟨by assumption,by assumption⟩))))
  | exact no (by rintro (⟨h,hb⟩ | ⟨h,hb⟩ | ⟨h,hb⟩ | ⟨h,hb⟩ | ⟨h,hb⟩) <;> contradiction)
  | refine ⟨_,_,_,rfl,?_⟩)
theorem uH : aW Tryz.prog aP4:=aM (by
 intro e he
 simp only [mem_cons,not_mem_nil,or_false] at he
 subst he
 exact aNt) aD
theorem aEn : aZ Tryz.prog ⟨199,aDu⟩:=by
 rintro args Post ⟨p,q,rfl,hp,hq,np,nq,h⟩
 have yes : cN p q -> Post (.bool true):=fun hp=>by rwa [decide_eq_true hp] at h
 have no : ¬ cN p q -> Post (.bool false):=fun hp=>by rwa [decide_eq_false hp] at h
 refine aN uH mixed (by kernel_rfl) (by kernel_rfl) _ (aQ7 p.length q.length (aB p) (aB q) _ _) ?_
 simp only [true_and]
 refine cS (n:=p.length) (p:=fun k=>(∀ i,i < k -> ∀ t,t < q.length -> ¬ fH (cyc p i) (cyc p (i + 1)) (cyc q t) (cyc q (t + 1))) -> OkP 199 [aR p,aR q,fnV 200] 2 Post (stV [(0,some (aR p)),(1,some (aR q)),(2,some (fnV 200)),(11,some (aR p)),(12,some (vi p.length)),(13,some (vi k))] [] 0)) (fun hall=>?_) (fun k h1 ih hall=>?_) (fun i hi=>by omega)
 ·refine aV uH mixed _ (aIQ p.length q.length p.length (aB p) (aB q) _ _) ?_
  simp only [true_and]
  refine ifD (fun hlt=>by omega) (fun _=>no ?_)
  rintro ⟨i,hi,t,ht,hm⟩
  exact hall i hi t ht hm
 ·have h0 : 0 < p.length:=by omega
  have hk : ((k : Nat) : Int).toNat = k:=Int.toNat_natCast k
  obtain ⟨c0,c1⟩:=cK h1
  refine aV uH mixed _ (aIQ p.length q.length k (aB p) (aB q) _ _) ?_
  simp only [true_and,and_true,hk,c0,c1,aQ]
  refine ifD (fun _=>⟨⟨by omega,by omega⟩,by decide,?_⟩) (fun h'=>by omega)
  refine cS (n:=q.length) (p:=fun j=>(∀ t,t < j -> ¬ fH (cyc p k) (cyc p (k + 1)) (cyc q t) (cyc q (t + 1))) -> OkP 199 [aR p,aR q,fnV 200] 5 Post (stV [(0,some (aR p)),(1,some (aR q)),(2,some (fnV 200)),(7,some (vi k)),(8,some (pt 0)),(11,some (aR p)),(12,some (vi p.length)),(13,some (vi k)),(18,some (aR q)),(19,some (vi q.length)),(20,some (vi j))] [(0,some (.cells [.int .i64 (cyc p k).x,.int .i64 (cyc p k).y] true))] 1)) (fun hin=>?_) (fun j j1 jh hin=>?_) (fun i hi=>by omega)
  ·refine aV uH mixed _ (aIt p.length q.length k q.length (cyc p k) (aB p) (aB q) _ _) ?_
   simp only [true_and,and_true,aJ (show k < 2 ^ 62 by omega)]
   refine ifD (fun hlt=>by omega) (fun _=>ih fun i hi t ht=>?_)
   rcases Nat.lt_or_ge i k with h' | h'
   ·exact hall i h' t ht
   ·rw [show i = k by omega]; exact hin t ht
  ·have q0 : 0 < q.length:=by omega
   have hk1 : (((k + 1) % p.length : Nat) : Int).toNat = (k + 1) % p.length:=Int.toNat_natCast _
   have hj : ((j : Nat) : Int).toNat = j:=Int.toNat_natCast j
   have hj1 : (((j + 1) % q.length : Nat) : Int).toNat = (j + 1) % q.length:=Int.toNat_natCast _
   have hm:=Nat.mod_lt (k + 1) h0
   have hmj:=Nat.mod_lt (j + 1) q0
   obtain ⟨d0,d1⟩:=dV h0 (k + 1)
   obtain ⟨f0,f1⟩:=cK j1
   obtain ⟨g0,g1⟩:=dV q0 (j + 1)
   refine aV uH mixed _ (aIt p.length q.length k j (cyc p k) (aB p) (aB q) _ _) ?_
   simp only [true_and,and_true,hj,tmN,hk1,hj1,d0,d1,f0,f1,g0,g1,aQ,aJ (show k < 2 ^ 62 by omega),aJ (show j < 2 ^ 62 by omega)]
   refine ifD (fun _=>⟨⟨by omega,by omega⟩,by decide,fun h=>by omega,⟨by omega,by omega⟩,fun h=>by omega,⟨by omega,by omega⟩,cyc p k,cyc p (k + 1),cyc q j,cyc q (j + 1),rfl,bR np h0 k,bR np h0 (k + 1),bR nq q0 j,bR nq q0 (j + 1),ifD (fun hm=>yes ⟨k,h1,j,j1,hm⟩) (fun hm=>jh fun t ht=>?_)⟩) (fun h'=>by omega)
   rcases Nat.lt_or_ge t j with h' | h'
   ·exact hin t h'
   ·rw [show t = j by omega]; exact hm
theorem wR : dY Tryz.prog aHT:=aDA mixed (aAX (aM (by
 intro e he
 simp only [mem_cons,not_mem_nil,or_false] at he
 subst he
 exact aBX) aD)) 2
theorem aOg : xL Tryz.prog ⟨228,aNN⟩:=by
 rintro args conts Post ⟨l,o,rfl,rfl,hl,ho,h⟩
 refine sL (conts:=[[aR o]]) wR mixed (by kernel_rfl) (by kernel_rfl) _ (aS5 l.length o.length (aB l) (aB o) _ _) ?_
 simp only [true_and]
 refine cS (n:=l.length) (p:=fun k=>(∀ i,i < k -> cL o (cyc l i) = 1) -> OkX Tryz.prog 228 [aR l,fnW] 1 Post (lpC Tryz.prog 228 2) (lpK Tryz.prog 228 2) (stV [(0,some (aR l)),(1,some fnW),(7,some (vi l.length)),(8,some (vi k))] [(0,some (.cells [aR o] true))] 1)) (fun hall=>?_) (fun k h1 ih hall=>?_) (fun i hi=>by omega)
 ·refine aKp wR mixed _ (aMI l.length o.length l.length (aB l) (aB o) _ _) ?_
  simp only [true_and]
  refine ifD (fun hlt=>by omega) (fun _=>h (-1) ⟨fun h=>by omega,fun hp=>?_⟩)
  obtain ⟨p,hp,hf⟩:=hp
  obtain ⟨i,hi,rfl⟩:=List.mem_iff_getElem.1 hp
  have:=hall i hi
  rw [gN hi,xO hi] at this
  exact absurd this hf
 ·refine aKp wR mixed _ (aMI l.length o.length k (aB l) (aB o) _ _) ?_
  have hk : ((k : Nat) : Int).toNat = k:=Int.toNat_natCast k
  obtain ⟨c0,c1⟩:=cK h1
  simp only [true_and,and_true,hk,c0,c1,aQ,aJ (show k < 2 ^ 62 by omega)]
  refine ifD (fun _=>⟨⟨by omega,by omega⟩,o,cyc l k,rfl,ho,ifN (fun hw=>h k ⟨fun _=>⟨_,kD (by omega) k,hw⟩,fun _=>by omega⟩) (fun hw=>ih fun i hi=>?_)⟩) (fun h'=>by omega)
  rcases Nat.lt_or_ge i k with h' | h'
  ·exact hall i h'
  ·rw [show i = k by omega]; exact hw
theorem aKs : dY Tryz.prog aME:=qQ (by
 intro e he
 simp only [mem_cons,not_mem_nil,or_false] at he
 subst he
 exact aOg) (aAX aD)
theorem aOG : xL Tryz.prog ⟨195,aLr⟩:=by
 rintro args conts Post ⟨l,o,rfl,rfl,hl,ho,h⟩
 refine sL (conts:=[[aR o]]) aKs mixed (by kernel_rfl) (by kernel_rfl) _ (aRW l.length o.length (aB l) (aB o) _ _) ?_
 simp only [true_and,and_true]
 refine ⟨l,o,rfl,rfl,hl,ho,fun i hi=>ifD (fun h1=>?_) (fun h1=>?_)⟩
 ·rwa [decide_eq_true (hi.1 h1)] at h
 ·rwa [decide_eq_false (fun hp=>h1 (hi.2 hp))] at h
theorem aJY : dY Tryz.prog aNF:=qQ (by
 intro e he
 simp only [mem_cons,not_mem_nil,or_false] at he
 subst he
 exact aOG) (aAX (aM (by
 intro e he
 simp only [mem_cons,not_mem_nil,or_false] at he
 subst he
 exact aEn) aD))
theorem aKN : aZ Tryz.prog ⟨122,aEt⟩:=by
 rintro args Post ⟨hh,o,rfl,l1,l2,n1,n2,h⟩
 refine aLO ?_
 refine sL (conts:=[]) aJY mixed (by kernel_rfl) (by kernel_rfl) [] (aLR hh.length o.length (aB hh) (aB o) _ _) ?_
 simp only [true_and,and_true]
 have yes : gF hh o -> retP Post (.ret (.bool true)) []:=fun hp=>by rw [decide_eq_true hp] at h; exact h
 have no : ¬ gF hh o -> retP Post (.ret (.bool false)) []:=fun hp=>by rw [decide_eq_false hp] at h; exact h
 refine ⟨hh,o,rfl,l1,l2,n1,n2,ifD (fun hx=>no fun hp=>hp.1 hx) (fun hx=>⟨hh,o,rfl,rfl,show _ < _ by omega,show _ < _ by omega,ifD (fun hw=>no fun hp=>?_) (fun hw=>yes ⟨hx,fun c hc=>?_⟩)⟩)⟩
 ·obtain ⟨c,hc,hn⟩:=hw
  exact hn (hp.2 c hc)
 ·exact Decidable.byContradiction fun hn=>hw ⟨c,hc,hn⟩
theorem aMm : aZ Tryz.prog ⟨123,aIw⟩:=by
 rintro args Post ⟨p,q,rfl,p0,q0,l1,l2,n1,n2,h⟩
 have yes : gC p q -> Post (.bool true):=fun hp=>by rwa [decide_eq_true hp] at h
 have no : ¬ gC p q -> Post (.bool false):=fun hp=>by rwa [decide_eq_false hp] at h
 refine aN (aM (by
  intro e he
  simp only [mem_cons,not_mem_nil,or_false] at he
  rcases he with rfl | rfl
  ·exact aEn
  ·exact aBX) aD) mixed (by kernel_rfl) (by kernel_rfl) _ (aPz p.length q.length (aB p) (aB q) _ _) ?_
 obtain ⟨c0,c1⟩:=cK p0
 obtain ⟨d0,d1⟩:=cK q0
 rw [gN p0] at c0 c1
 rw [gN q0] at d0 d1
 simp only [true_and,and_true,c0,c1,d0,d1,aQ]
 refine ⟨p,q,rfl,l1,l2,n1,n2,ifD (fun hx=>no fun hp=>hp.1 hx) (fun hx=>⟨⟨by decide,by omega⟩,p,cor q 0,rfl,show _ < _ by omega,ifD (fun h1=>⟨⟨by decide,by omega⟩,q,cor p 0,rfl,show _ < _ by omega,ifD (fun h2=>yes ⟨hx,h1,h2⟩) (fun h2=>no fun hp=>h2 hp.2.2)⟩) (fun h1=>no fun hp=>h1 hp.2.1)⟩)⟩
end Go.Proofs.YtngginofamlkkaaGreatDoor
namespace Go.Proofs.YtngginofamlkkaaGreatDoor.PlaneG
open List (map_cons)
open Nat (le_refl)
theorem aMn (l m : List (Rat × Int)) (x : Rat) : iP (l ++ m) x = iP l x + iP m x:=by
 unfold iP; rw [List.map_append,List.sum_append]
theorem aNw (l m : List (Rat × Int)) : gS (l ++ m) = gS l + gS m:=by
 unfold gS; rw [List.map_append,List.sum_append]
theorem aNa (l m : List (Rat × Int)) : cW (l ++ m) = cW l + cW m:=by
 unfold cW; rw [List.map_append,List.sum_append]
theorem aJ9 : ∀ (l : List (Rat × Int)),l ≠ [] -> ∃ e ∈ l,∀ f ∈ l,e.1 <= f.1
 | [],h=>absurd rfl h
 | [a],_=>⟨a,by simp,fun f hf=>by simp at hf; subst hf; exact Rat.le_refl⟩
 | a :: b :: l,_=>by
  obtain ⟨e,he,h⟩:=aJ9 (b :: l) (by simp)
  by_cases hc : a.1 < e.1
  ·refine ⟨a,by simp,fun f hf=>?_⟩
   rcases List.mem_cons.1 hf with rfl | hf
   ·exact Rat.le_refl
   ·have:=h f hf; grind
  ·refine ⟨e,List.mem_cons_of_mem _ he,fun f hf=>?_⟩
   rcases List.mem_cons.1 hf with rfl | hf
   ·grind
   ·exact h f hf
theorem aGg (l : List (Rat × Int)) (x : Rat) : iP l x = gS (l.filter fun e=>decide (x < e.1)):=by
 unfold iP gS
 induction l with
 | nil=>rfl
 | cons a l ih =>
  rw [map_cons,List.sum_cons,ih,List.filter_cons]
  by_cases h : x < a.1
  ·rw [if_pos h,if_pos (by simpa using h),map_cons,List.sum_cons]
  ·rw [if_neg h,if_neg (by simpa using h),Int.zero_add]
theorem aGQ {l : List (Rat × Int)} {x : Rat} {e : Rat × Int} (nd : (l.map (·.1)).Nodup) (he : e ∈ l) (hx : x < e.1) (hmin : ∀ f ∈ l,x < f.1 -> e.1 <= f.1) : iP l x = iP l e.1 + e.2:=by
 unfold iP
 induction l with
 | nil=>simp at he
 | cons a l ih =>
  rw [map_cons,List.nodup_cons] at nd
  rw [map_cons,List.sum_cons,map_cons,List.sum_cons]
  rcases List.mem_cons.1 he with rfl | he'
  ·have hs : (l.map fun f=>if x < f.1 then f.2 else 0) = l.map fun f=>if e.1 < f.1 then f.2 else 0:=by
    apply List.map_congr_left
    intro f hf
    have hne : f.1 ≠ e.1:=fun h=>nd.1 (List.mem_map.2 ⟨f,hf,h⟩)
    by_cases h1 : x < f.1
    ·have:=hmin f (List.mem_cons_of_mem _ hf) h1
     rw [if_pos h1,if_pos (by grind)]
    ·rw [if_neg h1,if_neg (by grind)]
   rw [hs,if_pos hx,if_neg (by grind)]
   omega
  ·have:=ih nd.2 he' (fun f hf=>hmin f (List.mem_cons_of_mem _ hf))
   have hne : a.1 ≠ e.1:=fun h=>nd.1 (List.mem_map.2 ⟨e,he',h.symm⟩)
   have ha : (if x < a.1 then a.2 else 0) = if e.1 < a.1 then a.2 else 0:=by
    by_cases h1 : x < a.1
    ·have:=hmin a (by simp) h1
     rw [if_pos h1,if_pos (by grind)]
    ·rw [if_neg h1,if_neg (by grind)]
   rw [this,ha]
   omega
theorem Alt.g01 {l : List (Rat × Int)} (a : Alt l) (x : Rat) : iP l x = 0 ∨ iP l x = 1:=by
 by_cases h : l.filter (fun e=>decide (x < e.1)) = []
 ·left
  rw [aGg,h]
  rfl
 ·obtain ⟨e,he,hm⟩:=aJ9 _ h
  rw [List.mem_filter] at he
  have hx : x < e.1:=by simpa using he.2
  have:=aGQ a.nd he.1 hx fun f hf hxf=>hm f (List.mem_filter.2 ⟨hf,by simpa using hxf⟩)
  rw [this]
  rcases a.alt e he.1 with ⟨h1,h2⟩ | ⟨h1,h2⟩ <;> omega
theorem Contour.w01 {n : Nat} {P : Nat -> Q2} (c : Contour n P) {p : Q2} (gen : ∀ j,(P j).h ≠ p.h) : ((∀ s,val n P s = 0) -> fG n P p = 0 ∨ fG n P p = 1) /\ ((∀ s,val n P s = -1) -> fG n P p = 0 ∨ fG n P p = -1):=by
 have e:=rO c p.x p.h
 rw [← tK] at e
 have ep : (⟨p.x,p.h⟩ : Q2) = p:=rfl
 rw [ep] at e
 constructor
 ·intro hv
  rw [e]
  exact (aGU c hv gen).g01 p.x
 ·intro hv
  have:=(aDx c hv gen).g01 p.x
  rw [aCv] at this
  omega
theorem aEd {f : Nat -> Rat} (h : ∀ k,0 <= f k) : ∀ K,0 <= bO K f
 | 0=>Rat.le_refl
 | K + 1=>by
  have i:=aEd h K
  have:=h K
  show 0 <= bO K f + f K
  grind
theorem Contour.sign {n : Nat} {P : Nat -> Q2} (c : Contour n P) {H : Nat -> Int} (hH : ∀ j,(P j).h = H j) {lo : Int} {K : Nat} (h1 : ∀ j,lo <= H j) (h2 : ∀ j,H j <= lo + K) : ((∀ s,val n P s = 0) -> 0 <= lC n P) /\ ((∀ s,val n P s = -1) -> lC n P <= 0):=by
 have gen : ∀ (z : Int) j,(P j).h ≠ lv z:=fun z j e=>by
  rw [hH] at e
  rcases Int.lt_or_le z (H j) with h | h
  ·have:=fR.2 h; grind
  ·have:=fS.2 h; grind
 rw [kG c hH h1 h2]
 constructor
 ·intro hv
  exact aEd (fun k=>by
   have:=(iK _ _ (le_refl _) (aGU c hv (gen (lo + k))) (qT c (gen (lo + k)))).1
   grind) K
 ·intro hv
  have:=aEd (f:=fun k=>-(2 * cW (cl P (lv (lo + k)) n))) (fun k=>by
   have:=(iK _ _ (le_refl _) (aDx c hv (gen (lo + k))) (by rw [aC3,qT c (gen _)]; rfl)).1
   rw [aCH] at this
   grind) K
  rw [rB] at this
  grind
theorem uB {n : Nat} {P : Nat -> Q2} (c : Contour n P) {p x : Q2} (h : p.h < x.h) (gp : ∀ j,p.h ≠ (P j).h) (gx : ∀ j,x.h ≠ (P j).h) (ha : ∀ j,jS p x (P j) (P (j + 1))) : fG n P p = fG n P x:=by
 have n3:=c.n3
 have hw:=qU c p x 0
 have z : isum n (fun j=>dlt p x (P (j + 0),P (j + 0 + 1))) = 0:=by
  rw [cM (g:=fun _=>0) fun j _=>lP h (c.lev _ _ (by omega) (by omega)) (gp _) (gp _) (gx _) (gx _) (ha _),lR]
 omega
structure Family (m : Nat) (N : Nat -> Nat) (P : Nat -> Nat -> Q2) : Prop where
 con : ∀ i,i < m -> Contour (N i) (P i)
 lev : ∀ i k,i < m -> k < m -> i ≠ k -> ∀ s t,(P i s).h ≠ (P k t).h
 apart : ∀ i k,i < m -> k < m -> i ≠ k -> ∀ s t,jS (P i s) (P i (s + 1)) (P k t) (P k (t + 1))
 bal : ∀ i,i < m -> ∀ s,val (N i) (P i) s + isum m (fun k=>if k = i then 0 else fG (N k) (P k) (P i s)) = 0
def fam (N : Nat -> Nat) (P : Nat -> Nat -> Q2) (y : Rat) : Nat -> List (Rat × Int)
 | 0=>[]
 | m + 1=>cl (P m) y (N m) ++ fam N P y m
theorem zE {N : Nat -> Nat} {P : Nat -> Nat -> Q2} {y : Rat} {e : Rat × Int} : ∀ {m},e ∈ fam N P y m -> ∃ i,i < m /\ e ∈ cl (P i) y (N i)
 | 0,h=>by simp [fam] at h
 | m + 1,h=>by
  rcases List.mem_append.1 h with h | h
  ·exact ⟨m,by omega,h⟩
  ·obtain ⟨i,hi,hm⟩:=zE h
   exact ⟨i,by omega,hm⟩
theorem aET (N : Nat -> Nat) (P : Nat -> Nat -> Q2) (y x : Rat) : ∀ m,iP (fam N P y m) x = isum m fun i=>iP (cl (P i) y (N i)) x
 | 0=>rfl
 | m + 1=>by
  show iP (_ ++ _) x = isum m _ + _
  rw [aMn,aET N P y x m,Int.add_comm]
theorem aEl (N : Nat -> Nat) (P : Nat -> Nat -> Q2) (y : Rat) : ∀ m,gS (fam N P y m) = isum m fun i=>gS (cl (P i) y (N i))
 | 0=>rfl
 | m + 1=>by
  show gS (_ ++ _) = isum m _ + _
  rw [aNw,aEl N P y m,Int.add_comm]
theorem qZ (N : Nat -> Nat) (P : Nat -> Nat -> Q2) (y : Rat) : ∀ m,cW (fam N P y m) = bO m fun i=>cW (cl (P i) y (N i))
 | 0=>rfl
 | m + 1=>by
  show cW (_ ++ _) = bO m _ + _
  rw [aNa,qZ N P y m,Rat.add_comm]
theorem aB8 (f : Nat -> Int) {i : Nat} : ∀ {m},i < m -> isum m f = f i + isum m (fun k=>if k = i then 0 else f k)
 | 0,h=>by omega
 | m + 1,h=>by
  show isum m f + f m = f i + (isum m _ + if m = i then 0 else f m)
  by_cases e : m = i
  ·subst e
   rw [if_pos rfl,cM (n:=m) (f:=fun k=>if k = m then 0 else f k) (g:=f) fun j hj=>by rw [if_neg (by omega)]]
   omega
  ·rw [if_neg e,aB8 f (show i < m by omega)]
   omega
theorem Family.nodup {m : Nat} {N : Nat -> Nat} {P : Nat -> Nat -> Q2} (F : Family m N P) {y : Rat} (gen : ∀ i j,i < m -> (P i j).h ≠ y) : ∀ q,q <= m -> ((fam N P y q).map (·.1)).Nodup
 | 0,_=>List.nodup_nil
 | q + 1,hq=>by
  show ((cl (P q) y (N q) ++ fam N P y q).map (·.1)).Nodup
  rw [List.map_append,List.nodup_append]
  refine ⟨uF (F.con q (by omega)) (fun j=>gen q j (by omega)) _ (le_refl _),F.nodup gen q (by omega),fun a ha b hb e=>?_⟩
  subst e
  obtain ⟨e1,h1,rfl⟩:=List.mem_map.1 ha
  obtain ⟨e2,h2,h3⟩:=List.mem_map.1 hb
  obtain ⟨i,hi,h2⟩:=zE h2
  obtain ⟨s,_,ds,rfl⟩:=oO h1
  obtain ⟨t,_,dt,rfl⟩:=oO h2
  exact aQF ds dt (F.apart q i (by omega) (by omega) (by omega) s t) h3.symm
theorem Family.alt {m : Nat} {N : Nat -> Nat} {P : Nat -> Nat -> Q2} (F : Family m N P) {y : Rat} (gen : ∀ i j,i < m -> (P i j).h ≠ y) : Alt (fam N P y m):=by
 refine ⟨F.nodup gen m (le_refl _),fun e he=>?_⟩
 obtain ⟨i,hi,he⟩:=zE he
 obtain ⟨j,hj,hd,rfl⟩:=oO he
 have c:=F.con i hi
 have n3:=c.n3
 simp only
 rw [aET,cM (fun k hk=>by rw [tK,← rO (F.con k hk)]),aB8 _ hi]
 have p0 : P i (j + N i - 1 + 1) = P i j:=by rw [show j + N i - 1 + 1 = j + N i by omega,c.per]
 have p1 : P i (j + N i - 1 + 2) = P i (j + 1):=by rw [show j + N i - 1 + 2 = j + 1 + N i by omega,c.per]
 rcases dS hd with ⟨g1,g2,g3⟩ | ⟨g1,g2,g3⟩
 ·left
  refine ⟨g3,?_⟩
  have hu : (P i j).h < (P i (j + 1)).h:=by grind
  have hw:=sQ c (s:=j + N i - 1) (y:=y) (by rw [p0,p1]; exact hu) (by rw [p0]; exact g1) (by rw [p1]; exact g2) (fun k=>gen i k hi)
  rw [p0,p1,gW c] at hw
  have hb:=F.bal i hi j
  rw [gW c] at hb
  have ho : isum m (fun k=>if k = i then 0 else fG (N k) (P k) ⟨X (P i j) (P i (j + 1)) y,y⟩) = isum m (fun k=>if k = i then 0 else fG (N k) (P k) (P i j)):=cM fun k hk=>by
   by_cases e : k = i
   ·rw [if_pos e,if_pos e]
   ·rw [if_neg e,if_neg e]
    exact (uB (F.con k hk) (x:=at_ (P i j) (P i (j + 1)) y) g1 (fun t=>F.lev i k hi hk (fun e'=>e e'.symm) j t) (fun t=>fun e'=>gen k t hk e'.symm) fun t=>pG hu g1 g2 (F.apart i k hi hk (fun e'=>e e'.symm) j t)).symm
  rw [ho]
  unfold at_ at hw
  omega
 ·right
  refine ⟨g3,?_⟩
  have hu : (P i (j + 1)).h < (P i j).h:=by grind
  have hw:=oK c (s:=j + N i - 1) (y:=y) (by rw [p0,p1]; exact hu) (by rw [p1]; exact g1) (by rw [p0]; exact g2) (fun k=>gen i k hi)
  rw [p0,p1,gW c] at hw
  have hb:=F.bal i hi (j + 1)
  rw [gW c] at hb
  have hx : X (P i j) (P i (j + 1)) y = X (P i (j + 1)) (P i j) y:=aB6 (by grind) y
  rw [hx]
  have ho : isum m (fun k=>if k = i then 0 else fG (N k) (P k) ⟨X (P i (j + 1)) (P i j) y,y⟩) = isum m (fun k=>if k = i then 0 else fG (N k) (P k) (P i (j + 1))):=cM fun k hk=>by
   by_cases e : k = i
   ·rw [if_pos e,if_pos e]
   ·rw [if_neg e,if_neg e]
    exact (uB (F.con k hk) (x:=at_ (P i (j + 1)) (P i j) y) g1 (fun t=>F.lev i k hi hk (fun e'=>e e'.symm) (j + 1) t) (fun t=>fun e'=>gen k t hk e'.symm) fun t=>pG hu g1 g2 (oQ (F.apart i k hi hk (fun e'=>e e'.symm) j t))).symm
  rw [ho]
  unfold at_ at hw
  omega
theorem Family.total {m : Nat} {N : Nat -> Nat} {P : Nat -> Nat -> Q2} (F : Family m N P) {y : Rat} (gen : ∀ i j,i < m -> (P i j).h ≠ y) : gS (fam N P y m) = 0:=by
 rw [aEl,cM (g:=fun _=>0) fun i hi=>qT (F.con i hi) fun j=>gen i j hi,lR]
theorem Family.area {m : Nat} {N : Nat -> Nat} {P : Nat -> Nat -> Q2} (F : Family m N P) (hm : 0 < m) {H : Nat -> Nat -> Int} (hH : ∀ i j,(P i j).h = H i j) {lo : Int} {K : Nat} (h1 : ∀ i j,lo <= H i j) (h2 : ∀ i j,H i j <= lo + K) : 0 < bO m fun i=>lC (N i) (P i):=by
 have gen : ∀ (z : Int) i j,i < m -> (P i j).h ≠ lv z:=fun z i j _ e=>by
  rw [hH] at e
  rcases Int.lt_or_le z (H i j) with h | h
  ·have:=fR.2 h; grind
  ·have:=fS.2 h; grind
 have c:=F.con 0 hm
 have n3:=c.n3
 have hne : H 0 0 ≠ H 0 1:=fun e=>c.lev 0 1 (by omega) (by omega) (by rw [hH,hH,e])
 obtain ⟨k,hk,hd⟩ : ∃ k : Nat,k < K /\ dir (P 0 0) (P 0 1) (lv (lo + k)) ≠ 0:=by
  have a0:=h1 0 0; have a1:=h1 0 1; have b0:=h2 0 0; have b1:=h2 0 1
  rcases Int.lt_or_lt_of_ne hne with h | h
  ·refine ⟨(H 0 0 - lo).toNat,by omega,?_⟩
   unfold dir
   rw [hH,hH,if_pos (by rw [fS,fR]; omega)]
   decide
  ·refine ⟨(H 0 1 - lo).toNat,by omega,?_⟩
   unfold dir
   rw [hH,hH,if_neg (by rw [fS,fR]; omega),if_pos (by rw [fS,fR]; omega)]
   decide
 have hc:=aE9 (n:=N 0) (j:=0) (by omega) hd
 have hf : fam N P (lv (lo + k)) m ≠ []:=by
  intro e
  have key : ∀ q,0 < q -> fam N P (lv (lo + k)) q = [] -> cl (P 0) (lv (lo + k)) (N 0) = []:=fun q=>by
   induction q with
   | zero=>intro h; omega
   | succ q ih =>
    intro _ he
    have he : cl (P q) (lv (lo + k)) (N q) ++ fam N P (lv (lo + k)) q = []:=he
    rw [List.append_eq_nil_iff] at he
    rcases Nat.eq_zero_or_pos q with hq | hq
    ·subst hq; exact he.1
    ·exact ih hq he.2
  exact hc (key m hm e)
 have e : bO m (fun i=>lC (N i) (P i)) = bO K fun k=>2 * cW (fam N P (lv (lo + k)) m):=by
  rw [bJ fun i hi=>kG (F.con i hi) (hH i) (h1 i) (h2 i),gV]
  refine bJ fun k _=>?_
  rw [qZ]
  have:=aFG m (fun _=>1) fun i=>cW (cl (P i) (lv (lo + k)) (N i))
  simp only [Rat.one_mul] at this
  exact this
 rw [e]
 refine aAC (i:=k) (fun j _=>?_) hk ?_
 ·have:=(iK _ _ (le_refl _) (F.alt (gen (lo + j))) (F.total (gen (lo + j)))).1
  grind
 ·have:=(iK _ _ (le_refl _) (F.alt (gen (lo + k))) (F.total (gen (lo + k)))).2 hf
  grind
end Go.Proofs.YtngginofamlkkaaGreatDoor.PlaneG

namespace Go.Proofs.YtngginofamlkkaaGreatDoor.PlaneG
theorem zA {M N : Int} (hM : 2 * N < M) {a b : I2} (ha : Bd N a) (hb : Bd N b) : lvl M a < lvl M b ↔ a.y < b.y ∨ (a.y = b.y /\ b.x < a.x):=by
 unfold Bd at *
 unfold lvl
 have e : M * b.y - M * a.y = M * (b.y - a.y):=by rw [Int.mul_sub]
 have hM0 : 0 <= M:=by omega
 constructor
 ·intro h
  rcases Int.lt_or_le a.y b.y with h1 | h1
  ·exact .inl h1
  ·right
   rcases Int.lt_or_eq_of_le h1 with h2 | h2
   ·have:=Int.mul_le_mul_of_nonneg_left (show b.y - a.y <= -1 by omega) hM0
    omega
   ·rw [h2] at h
    exact ⟨h2.symm,by omega⟩
 ·rintro (h | ⟨h1,h2⟩)
  ·have:=Int.mul_le_mul_of_nonneg_left (show 1 <= b.y - a.y by omega) hM0
   omega
  ·rw [h1]; omega
theorem aOd {a b q : I2} (h : a.y = q.y) : cri a b q = (b.y - a.y) * (a.x - q.x):=by unfold cri; rw [← h]; grind
theorem aJA {a b q : I2} (h : b.y = q.y) : cri a b q = (b.y - a.y) * (b.x - q.x):=by unfold cri; rw [← h]; grind
theorem aJg {m n : Int} : (0 < m -> (0 < n ↔ 0 < m * n) /\ (n < 0 ↔ m * n < 0)) /\ (m < 0 -> (0 < n ↔ m * n < 0) /\ (n < 0 ↔ 0 < m * n)):=by
 constructor
 ·intro hm
  rcases Int.lt_or_le n 0 with h | h
  ·have:=Int.mul_neg_of_pos_of_neg hm h; omega
  ·rcases Int.lt_or_eq_of_le h with h | h
   ·have:=Int.mul_pos hm h; omega
   ·subst h; rw [Int.mul_zero]; omega
 ·intro hm
  rcases Int.lt_or_le n 0 with h | h
  ·have:=Int.mul_pos_of_neg_of_neg hm h; omega
  ·rcases Int.lt_or_eq_of_le h with h | h
   ·have:=Int.mul_neg_of_neg_of_pos hm h; omega
   ·subst h; rw [Int.mul_zero]; omega
theorem aS0 {M N : Int} (hM : 2 * N < M) {a b q : I2} (ha : Bd N a) (hb : Bd N b) (hq : Bd N q) (hn : ¬ onI a b q) : wt (shp M a,shp M b) (shp M q) = wtI a b q:=by
 have hM0 : 0 < M:=by unfold Bd at ha; omega
 unfold wt wtI
 simp only [aJa hM0,aJd hM0,aHw,zA hM ha hq,zA hM hq hb,zA hM hb hq,zA hM hq ha]
 have hl:=@aOd a b q
 have hr:=@aJA a b q
 obtain ⟨s1,s2⟩:=@aJg (b.y - a.y) (a.x - q.x)
 obtain ⟨s3,s4⟩:=@aJg (b.y - a.y) (b.x - q.x)
 unfold onI at hn
 by_cases h1 : a.y = q.y
 ·rw [← hl h1] at s1 s2
  by_cases h2 : b.y = q.y
  ·have hc : cri a b q = 0:=by rw [hl h1,h1,h2,Int.sub_self,Int.zero_mul]
   rw [if_neg (by omega),if_neg (by omega),if_neg (by omega),if_neg (by omega)]
  ·rcases Int.lt_or_gt_of_ne h2 with h3 | h3
   ·have s2:=s2 (by omega)
    clear s1 s3 s4
    by_cases hx : q.x < a.x
    ·rw [if_neg (by omega),if_neg (by omega),if_neg (by omega),if_neg (by omega)]
    ·rw [if_neg (by omega),if_neg (by omega),if_neg (by omega),if_neg (by omega)]
   ·have s1:=s1 (by omega)
    clear s2 s3 s4
    by_cases hx : q.x < a.x
    ·rw [if_pos (by omega),if_pos (by omega)]
    ·rw [if_neg (by omega),if_neg (by omega),if_neg (by omega),if_neg (by omega)]
 ·by_cases h2 : b.y = q.y
  ·rw [← hr h2] at s3 s4
   rcases Int.lt_or_gt_of_ne h1 with h3 | h3
   ·have s3:=s3 (by omega)
    clear s1 s2 s4
    by_cases hx : q.x < b.x
    ·rw [if_neg (by omega),if_neg (by omega),if_neg (by omega),if_neg (by omega)]
    ·rw [if_neg (by omega),if_neg (by omega),if_neg (by omega),if_neg (by omega)]
   ·have s4:=s4 (by omega)
    clear s1 s2 s3
    by_cases hx : q.x < b.x
    ·rw [if_neg (by omega),if_pos (by omega),if_neg (by omega),if_pos (by omega)]
    ·rw [if_neg (by omega),if_neg (by omega),if_neg (by omega),if_neg (by omega)]
  ·clear s1 s2 s3 s4 hl hr
   by_cases c1 : a.y <= q.y /\ q.y < b.y /\ 0 < cri a b q
   ·rw [if_pos (by omega),if_pos (by omega)]
   ·rw [if_neg (by omega),if_neg c1]
    by_cases c2 : b.y <= q.y /\ q.y < a.y /\ cri a b q < 0
    ·rw [if_pos (by omega),if_pos c2]
    ·rw [if_neg (by omega),if_neg c2]
theorem aGb {M N : Int} (hM : 2 * N < M) {n : Nat} {p : Nat -> I2} (hb : ∀ i,Bd N (p i)) {q : I2} (hq : Bd N q) (hn : ∀ i,¬ onI (p i) (p (i + 1)) q) : fG n (fun i=>shp M (p i)) (shp M q) = pR n p q :=
 cM fun j _=>aS0 hM (hb _) (hb _) hq (hn _)
def Bx (N : Int) (a : I2) : Prop:=-N <= a.x /\ a.x <= N /\ -N <= a.y /\ a.y <= N
theorem Simp.way {n : Nat} {p : Nat -> I2} (s : Simp n p) {N : Int} (hb : ∀ i,Bx N (p i)) : (0 < a2 n p -> ∀ t,val n (fun i=>shp (2 * N + 1) (p i)) t = 0) /\ (a2 n p < 0 -> ∀ t,val n (fun i=>shp (2 * N + 1) (p i)) t = -1):=by
 have hN : 0 <= N:=by have:=hb 0; unfold Bx at this; omega
 have hl : ∀ i,-(2 * N + 1) * N - N <= lvl (2 * N + 1) (p i) /\ lvl (2 * N + 1) (p i) <= (2 * N + 1) * N + N:=fun i=>by
  obtain ⟨h1,h2,h3,h4⟩:=hb i
  have a1:=Int.mul_le_mul_of_nonneg_left h3 (show 0 <= 2 * N + 1 by omega)
  have a2:=Int.mul_le_mul_of_nonneg_left h4 (show 0 <= 2 * N + 1 by omega)
  have a3 : (2 * N + 1) * -N = -(2 * N + 1) * N:=by grind
  unfold lvl
  omega
 have c:=s.contour (M:=2 * N + 1) (N:=N) (by omega) fun i=>⟨(hb i).1,(hb i).2.1⟩
 have h:=c.sign (H:=fun j=>lvl (2 * N + 1) (p j)) (fun _=>rfl) (lo:=-(2 * N + 1) * N - N) (K:=(2 * ((2 * N + 1) * N + N)).toNat) (fun j=>(hl j).1) (fun j=>by
  have:=hl j
  have e : -(2 * N + 1) * N = -((2 * N + 1) * N):=Int.neg_mul _ _
  have nn:=Int.mul_nonneg (show 0 <= 2 * N + 1 by omega) hN
  generalize (2 * N + 1) * N = z at *
  omega)
 rw [vY s.per] at h
 obtain ⟨k1,k2⟩:=h
 constructor
 ·intro ha
  rcases aHD c with hv | hv
  ·exact hv
  ·exfalso
   have:=k2 hv
   have h2 : ((2 * N + 1) * a2 n p : Int) <= 0:=by
    have h3 : (((2 * N + 1) * a2 n p : Int) : Rat) <= ((0 : Int) : Rat):=this
    exact Rat.intCast_le_intCast.1 h3
   have:=Int.mul_pos (show 0 < 2 * N + 1 by omega) ha
   omega
 ·intro ha
  rcases aHD c with hv | hv
  ·exfalso
   have:=k1 hv
   have h2 : 0 <= ((2 * N + 1) * a2 n p : Int):=by
    have h3 : ((0 : Int) : Rat) <= (((2 * N + 1) * a2 n p : Int) : Rat):=this
    exact Rat.intCast_le_intCast.1 h3
   have:=Int.mul_neg_of_pos_of_neg (show 0 < 2 * N + 1 by omega) ha
   omega
  ·exact hv
structure Holes (N : Int) (m : Nat) (n : Nat -> Nat) (p : Nat -> Nat -> I2) : Prop where
 m0 : 0 < m
 simp : ∀ i,i < m -> Simp (n i) (p i)
 bd : ∀ i s,Bx N (p i s)
 off : ∀ i k,i < m -> k < m -> i ≠ k -> ∀ s t,¬ aCY (p i s) (p i (s + 1)) (p k t) (p k (t + 1))
 out : 0 < a2 (n 0) (p 0)
 hole : ∀ i,0 < i -> i < m -> a2 (n i) (p i) < 0
 inn : ∀ i,0 < i -> i < m -> ∀ s,oddI (n 0) (p 0) (p i s) = true
 apt : ∀ i k,0 < i -> i < m -> 0 < k -> k < m -> i ≠ k -> ∀ s,oddI (n k) (p k) (p i s) = false
theorem Holes.family {N : Int} {m : Nat} {n : Nat -> Nat} {p : Nat -> Nat -> I2} (h : Holes N m n p) : Family m n fun i s=>shp (2 * N + 1) (p i s):=by
 have hbd : ∀ i s,Bd N (p i s):=fun i s=>⟨(h.bd i s).1,(h.bd i s).2.1⟩
 have hM : 2 * N < 2 * N + 1:=by omega
 have con : ∀ i,i < m -> Contour (n i) (fun s=>shp (2 * N + 1) (p i s)):=fun i hi=>(h.simp i hi).contour hM (hbd i)
 have noton : ∀ i k,i < m -> k < m -> i ≠ k -> ∀ s t,¬ onI (p k t) (p k (t + 1)) (p i s):=fun i k hi hk hne s t ho=>h.off i k hi hk hne s t (.inr (.inr (.inl ho)))
 have lev : ∀ i k,i < m -> k < m -> i ≠ k -> ∀ s t,(shp (2 * N + 1) (p i s)).h ≠ (shp (2 * N + 1) (p k t)).h:=fun i k hi hk hne s t e=>by
  refine aDO hM (hbd i s) (hbd k t) (fun e'=>noton i k hi hk hne s t ?_) (Rat.intCast_inj.1 e)
  rw [e']
  exact aJj _ _
 have apart : ∀ i k,i < m -> k < m -> i ≠ k -> ∀ s t,jS (shp (2 * N + 1) (p i s)) (shp (2 * N + 1) (p i (s + 1))) (shp (2 * N + 1) (p k t)) (shp (2 * N + 1) (p k (t + 1))):=fun i k hi hk hne s t =>
  aEI hM (hbd _ _) (hbd _ _) (hbd _ _) (hbd _ _) ((h.simp i hi).ne s) ((h.simp k hk).ne t) (h.off i k hi hk hne s t)
 have v0:=((h.simp 0 h.m0).way (h.bd 0)).1 h.out
 have vh : ∀ i,0 < i -> i < m -> ∀ t,val (n i) (fun s=>shp (2 * N + 1) (p i s)) t = -1:=fun i h0 hi=>((h.simp i hi).way (h.bd i)).2 (h.hole i h0 hi)
 have w1 : ∀ i,0 < i -> i < m -> ∀ s,fG (n 0) (fun s=>shp (2 * N + 1) (p 0 s)) (shp (2 * N + 1) (p i s)) = 1:=fun i h0 hi s=>by
  have e:=aGb hM (n:=n 0) (hbd 0) (hbd i s) (noton i 0 hi h.m0 (by omega) s)
  have c:=((con 0 h.m0).w01 (p:=shp (2 * N + 1) (p i s)) (fun j=>lev 0 i h.m0 hi (by omega) j s)).1 v0
  have o:=(lQ (p 0) (p i s) (n 0)).1 (h.inn i h0 hi s)
  omega
 have w0 : ∀ i k,0 < i -> i < m -> 0 < k -> k < m -> i ≠ k -> ∀ s,fG (n k) (fun s=>shp (2 * N + 1) (p k s)) (shp (2 * N + 1) (p i s)) = 0:=fun i k h0 hi k0 hk hne s=>by
  have e:=aGb hM (n:=n k) (hbd k) (hbd i s) (noton i k hi hk hne s)
  have c:=((con k hk).w01 (p:=shp (2 * N + 1) (p i s)) (fun j=>lev k i hk hi (fun e=>hne e.symm) j s)).2 (vh k k0 hk)
  have o:=lQ (p k) (p i s) (n k)
  rw [h.apt i k h0 hi k0 hk hne s] at o
  simp at o
  omega
 have wn : ∀ k,0 < k -> k < m -> ∀ s,fG (n k) (fun s=>shp (2 * N + 1) (p k s)) (shp (2 * N + 1) (p 0 s)) = 0:=fun k k0 hk=>by
  have step : ∀ s,fG (n k) (fun s=>shp (2 * N + 1) (p k s)) (shp (2 * N + 1) (p 0 s)) = fG (n k) (fun s=>shp (2 * N + 1) (p k s)) (shp (2 * N + 1) (p 0 (s + 1))):=fun s=>by
   have d : (shp (2 * N + 1) (p 0 s)).h ≠ (shp (2 * N + 1) (p 0 (s + 1))).h:=(con 0 h.m0).lev s (s + 1) (by omega) (by have:=(con 0 h.m0).n3; omega)
   by_cases hu : (shp (2 * N + 1) (p 0 s)).h < (shp (2 * N + 1) (p 0 (s + 1))).h
   ·exact uB (con k hk) hu (fun j=>lev 0 k h.m0 hk (by omega) s j) (fun j=>lev 0 k h.m0 hk (by omega) (s + 1) j) fun j=>apart 0 k h.m0 hk (by omega) s j
   ·exact (uB (con k hk) (p:=shp (2 * N + 1) (p 0 (s + 1))) (by grind) (fun j=>lev 0 k h.m0 hk (by omega) (s + 1) j) (fun j=>lev 0 k h.m0 hk (by omega) s j) fun j=>oQ (apart 0 k h.m0 hk (by omega) s j)).symm
  have all : ∀ s,fG (n k) (fun s=>shp (2 * N + 1) (p k s)) (shp (2 * N + 1) (p 0 s)) = fG (n k) (fun s=>shp (2 * N + 1) (p k s)) (shp (2 * N + 1) (p 0 0)):=fun s=>by
   induction s with
   | zero=>rfl
   | succ s ih=>rw [← step s,ih]
  obtain ⟨s0,hs0⟩:=sX (con 0 h.m0)
  obtain ⟨t0,ht0⟩:=sX (con k hk)
  have hz : fG (n k) (fun s=>shp (2 * N + 1) (p k s)) (shp (2 * N + 1) (p 0 (s0 + 1))) = 0:=by
   by_cases hh : (shp (2 * N + 1) (p k (t0 + 1))).h <= (shp (2 * N + 1) (p 0 (s0 + 1))).h
   ·exact aAh fun j=>by
     have h2:=ht0 j
     exact Rat.le_trans h2 hh
   ·exfalso
    have h3:=w1 k k0 hk (t0 + 1)
    rw [aAh fun j=>by
     have h2:=hs0 j
     have h2 : (shp (2 * N + 1) (p 0 j)).h <= (shp (2 * N + 1) (p 0 (s0 + 1))).h:=h2
     show (shp (2 * N + 1) (p 0 j)).h <= (shp (2 * N + 1) (p k (t0 + 1))).h
     grind] at h3
    omega
  intro s
  rw [all s,← all (s0 + 1),hz]
 refine ⟨con,lev,apart,fun i hi s=>?_⟩
 by_cases h0 : i = 0
 ·subst h0
  rw [v0 s,cM (g:=fun _=>0) fun k hk=>?_,lR]
  ·rfl
  ·by_cases hk0 : k = 0
   ·rw [if_pos hk0]
   ·rw [if_neg hk0]
    exact wn k (by omega) hk s
 ·rw [vh i (by omega) hi s,aB8 _ h.m0,cM (n:=m) (f:=fun k=>if k = 0 then 0 else if k = i then 0 else fG (n k) (fun s=>shp (2 * N + 1) (p k s)) (shp (2 * N + 1) (p i s))) (g:=fun _=>0) fun k hk=>?_,lR,if_neg (by omega),w1 i (by omega) hi s]
  ·rfl
  ·by_cases hk0 : k = 0
   ·rw [if_pos hk0]
   ·rw [if_neg hk0]
    by_cases hki : k = i
    ·rw [if_pos hki]
    ·rw [if_neg hki]
     exact w0 i k (by omega) hi (by omega) hk (fun e=>hki e.symm) s
theorem Holes.area {N : Int} {m : Nat} {n : Nat -> Nat} {p : Nat -> Nat -> I2} (h : Holes N m n p) : 0 < isum m fun i=>a2 (n i) (p i):=by
 have hN : 0 <= N:=by have:=h.bd 0 0; unfold Bx at this; omega
 have hl : ∀ i s,-(2 * N + 1) * N - N <= lvl (2 * N + 1) (p i s) /\ lvl (2 * N + 1) (p i s) <= (2 * N + 1) * N + N:=fun i s=>by
  obtain ⟨h1,h2,h3,h4⟩:=h.bd i s
  have a1:=Int.mul_le_mul_of_nonneg_left h3 (show 0 <= 2 * N + 1 by omega)
  have a2:=Int.mul_le_mul_of_nonneg_left h4 (show 0 <= 2 * N + 1 by omega)
  have a3 : (2 * N + 1) * -N = -(2 * N + 1) * N:=by grind
  unfold lvl
  omega
 have hp:=h.family.area h.m0 (H:=fun i s=>lvl (2 * N + 1) (p i s)) (fun _ _=>rfl) (lo:=-(2 * N + 1) * N - N) (K:=(2 * ((2 * N + 1) * N + N)).toNat) (fun i s=>(hl i s).1) (fun i s=>by
  have:=hl i s
  have e : -(2 * N + 1) * N = -((2 * N + 1) * N):=Int.neg_mul _ _
  have nn:=Int.mul_nonneg (show 0 <= 2 * N + 1 by omega) hN
  generalize (2 * N + 1) * N = z at *
  omega)
 rw [bJ fun i hi=>vY (h.simp i hi).per (2 * N + 1),iV m fun i=>(2 * N + 1) * a2 (n i) (p i),iL] at hp
 have h3 : ((0 : Int) : Rat) < (((2 * N + 1) * isum m (fun i=>a2 (n i) (p i)) : Int) : Rat):=hp
 have h4:=Rat.intCast_lt_intCast.1 h3
 rcases Int.lt_or_le 0 (isum m fun i=>a2 (n i) (p i)) with h5 | h5
 ·exact h5
 ·have:=Int.mul_nonpos_of_nonneg_of_nonpos (show 0 <= 2 * N + 1 by omega) h5
  omega
end Go.Proofs.YtngginofamlkkaaGreatDoor.PlaneG

namespace Go.Proofs.YtngginofamlkkaaGreatDoor.PlaneG
def lvr (r : Rat) (z : Int) : Rat:=(z : Rat) + r
theorem aCq {r : Rat} (h0 : 0 < r) (h1 : r < 1) {a z : Int} : (a : Rat) < lvr r z ↔ a <= z:=by
 unfold lvr
 constructor
 ·intro h
  rcases Int.lt_or_le z a with h' | h'
  ·have : (z : Rat) + 1 <= a:=by exact_mod_cast h'
   grind
  ·exact h'
 ·intro h
  have : (a : Rat) <= z:=by exact_mod_cast h
  grind
theorem aC4 {r : Rat} (h0 : 0 < r) (h1 : r < 1) {b z : Int} : lvr r z < (b : Rat) ↔ z < b:=by
 unfold lvr
 constructor
 ·intro h
  rcases Int.lt_or_le z b with h' | h'
  ·exact h'
  ·have : (b : Rat) <= z:=by exact_mod_cast h'
   grind
 ·intro h
  have : (z : Rat) + 1 <= b:=by exact_mod_cast h
  grind
theorem aNx {r : Rat} (h0 : 0 < r) (h1 : r < 1) (a z : Int) : (a : Rat) ≠ lvr r z:=by
 intro e
 rcases Int.lt_or_le z a with h | h
 ·have:=(aC4 h0 h1 (b:=a) (z:=z)).2 h; grind
 ·have:=(aCq h0 h1 (a:=a) (z:=z)).2 h; grind
def q3 (f : Rat -> Rat) (z : Int) : Rat:=3 / 8 * f (lvr (1 / 6) z) + 1 / 4 * f (lvr (1 / 2) z) + 3 / 8 * f (lvr (5 / 6) z)
theorem r1 : (0 : Rat) < 1 / 6 /\ (1 / 6 : Rat) < 1:=by grind
theorem r2 : (0 : Rat) < 1 / 2 /\ (1 / 2 : Rat) < 1:=by grind
theorem r3 : (0 : Rat) < 5 / 6 /\ (5 / 6 : Rat) < 1:=by grind
theorem aIX {f g : Rat -> Rat} {z : Int} (h : ∀ r,0 < r -> r < 1 -> f (lvr r z) <= g (lvr r z)) : q3 f z <= q3 g z:=by
 have h1:=h _ r1.1 r1.2
 have h2:=h _ r2.1 r2.2
 have h3:=h _ r3.1 r3.2
 unfold q3
 grind
theorem aDv (k : Rat) (f : Rat -> Rat) (z : Int) : q3 (fun y=>k * f y) z = k * q3 f z:=by unfold q3; grind
theorem lJ (f : Nat -> Rat -> Rat) (z : Int) : ∀ n,q3 (fun y=>bO n fun j=>f j y) z = bO n fun j=>q3 (f j) z
 | 0=>by unfold q3; show _ = (0 : Rat); simp only [bO]; grind
 | n + 1=>by
  have ih:=lJ f z n
  show q3 (fun y=>bO n (fun j=>f j y) + f n y) z = bO n _ + q3 (f n) z
  rw [← ih]
  unfold q3
  grind
theorem nU {u v : Q2} {a b : Int} (hu : u.h = a) (hv : v.h = b) {r : Rat} (h0 : 0 < r) (h1 : r < 1) (z : Int) : dir u v (lvr r z) = if a <= z /\ z < b then 1 else if b <= z /\ z < a then -1 else 0:=by
 unfold dir
 simp only [hu,hv,aCq h0 h1,aC4 h0 h1]
theorem X_lin (u v : Q2) (r : Rat) (z : Int) : X u v (lvr r z) = (u.x + (v.x - u.x) * (((z : Rat) - u.h) / (v.h - u.h))) + (v.x - u.x) / (v.h - u.h) * r:=by
 unfold X lvr
 rw [Rat.div_def,Rat.div_def,Rat.div_def]
 grind
theorem aOb {u v : Q2} {a b : Int} (hu : u.h = a) (hv : v.h = b) (z : Int) : q3 (fun y=>(dir u v y : Rat) * X u v y) z = (dir u v (lv z) : Rat) * X u v (lv z):=by
 have e : lv z = lvr (1 / 2) z:=rfl
 rw [e]
 unfold q3
 simp only [nU hu hv r1.1 r1.2,nU hu hv r2.1 r2.2,nU hu hv r3.1 r3.2,X_lin]
 generalize u.x + (v.x - u.x) * (((z : Rat) - u.h) / (v.h - u.h)) = p
 generalize (v.x - u.x) / (v.h - u.h) = q
 generalize (if a <= z /\ z < b then (1 : Int) else if b <= z /\ z < a then -1 else 0) = d
 generalize ((d : Int) : Rat) = d
 grind
def sqd (u v : Q2) (y : Rat) : Rat:=(dir u v y : Rat) * (X u v y * X u v y)
theorem aGA {u v : Q2} {a b lo : Int} (hu : u.h = a) (hv : v.h = b) (hab : a < b) (hlo : lo <= a) (m : Nat) :
  bO m (fun k=>3 * q3 (sqd u v) (lo + k)) = 3 * u.x * u.x * cZ a b lo m + 3 * u.x * ((v.x - u.x) / (b - a)) * cZ a b lo m * cZ a b lo m + (v.x - u.x) / (b - a) * ((v.x - u.x) / (b - a)) * cZ a b lo m * cZ a b lo m * cZ a b lo m:=by
 induction m with
 | zero =>
  have : cZ a b lo 0 = 0:=by unfold cZ; rw [if_pos (by omega)]
  rw [this]
  show (0 : Rat) = _
  grind
 | succ m ih =>
  show bO m _ + 3 * q3 (sqd u v) (lo + m) = _
  rw [ih]
  have hs : ∀ r : Rat,0 < r -> r < 1 -> dir u v (lvr r (lo + m)) = if a <= lo + m /\ lo + m < b then 1 else 0:=fun r h0 h1=>by
   rw [nU hu hv h0 h1]
   by_cases h : a <= lo + m /\ lo + m < b
   ·rw [if_pos h,if_pos h]
   ·rw [if_neg h,if_neg h,if_neg (by omega)]
  unfold q3 sqd
  simp only [hs _ r1.1 r1.2,hs _ r2.1 r2.2,hs _ r3.1 r3.2]
  by_cases h1 : lo + m + 1 <= a
  ·have e1 : cZ a b lo m = 0:=by unfold cZ; rw [if_pos (by omega)]
   have e2 : cZ a b lo (m + 1) = 0:=by unfold cZ; rw [if_pos (by omega)]
   rw [e1,e2,if_neg (by omega)]
   grind
  ·by_cases h2 : b <= lo + m
   ·have e1 : cZ a b lo m = b - a:=by unfold cZ; rw [if_neg (by omega),if_pos (by omega)]
    have e2 : cZ a b lo (m + 1) = b - a:=by unfold cZ; rw [if_neg (by omega),if_pos (by omega)]
    rw [e1,e2,if_neg (by omega)]
    grind
   ·have e1 : cZ a b lo m = lo + m - a:=by
     unfold cZ
     by_cases h3 : lo + (m : Int) <= a
     ·rw [if_pos h3]; omega
     ·rw [if_neg h3,if_neg (by omega)]
    have e2 : cZ a b lo (m + 1) = lo + m - a + 1:=by
     unfold cZ
     rw [if_neg (by omega)]
     by_cases h3 : b <= lo + ((m + 1 : Nat) : Int)
     ·rw [if_pos h3]; omega
     ·rw [if_neg h3]; omega
    rw [e1,e2,if_pos (by omega)]
    generalize hz : lo + (m : Int) = z
    unfold X lvr
    rw [hu,hv]
    have d1 : ∀ t : Rat,(v.x - u.x) * (t / ((b : Rat) - a)) = (v.x - u.x) / (b - a) * t:=fun t=>by
     rw [Rat.div_def,Rat.div_def]; grind
    simp only [d1]
    generalize (v.x - u.x) / ((b : Rat) - a) = k
    simp only [Rat.intCast_add,Rat.intCast_sub,Rat.intCast_one]
    grind
theorem aCk {u v : Q2} {a b lo : Int} {K : Nat} (hu : u.h = a) (hv : v.h = b) (hab : a < b) (hlo : lo <= a) (hK : b <= lo + K) :
  bO K (fun k=>3 * q3 (sqd u v) (lo + k)) = (v.h - u.h) * (u.x * u.x + u.x * v.x + v.x * v.x):=by
 rw [aGA hu hv hab hlo,hu,hv]
 have e : cZ a b lo K = b - a:=by unfold cZ; rw [if_neg (by omega),if_pos hK]
 have hn : (b : Rat) - a ≠ 0:=by
  have : (a : Rat) < b:=by exact_mod_cast hab
  grind
 rw [e,Rat.intCast_sub]
 have d1 : (v.x - u.x) / ((b : Rat) - a) * ((b : Rat) - a) = v.x - u.x:=by
  rw [Rat.div_def,Rat.mul_assoc,Rat.inv_mul_cancel _ hn,Rat.mul_one]
 generalize (v.x - u.x) / ((b : Rat) - a) = k at *
 have hk : v.x = u.x + k * (b - a):=by grind
 rw [hk]
 grind
theorem aP3 {u v : Q2} (h : u.h ≠ v.h) (y : Rat) : sqd u v y = - sqd v u y:=by
 unfold sqd
 rw [aDK u v,aB6 h,Rat.intCast_neg]
 grind
theorem aKW {u v : Q2} {a b lo : Int} {K : Nat} (hu : u.h = a) (hv : v.h = b) (hab : a ≠ b) (ha : lo <= a) (hb : lo <= b) (hKa : a <= lo + K) (hKb : b <= lo + K) :
  bO K (fun k=>3 * q3 (sqd u v) (lo + k)) = (v.h - u.h) * (u.x * u.x + u.x * v.x + v.x * v.x):=by
 rcases Int.lt_or_lt_of_ne hab with h | h
 ·exact aCk hu hv h ha hKb
 ·have hne : u.h ≠ v.h:=by
   rw [hu,hv]
   intro e
   have : a = b:=by exact_mod_cast e
   exact hab this
  have e:=aCk hv hu h hb hKa
  have : bO K (fun k=>3 * q3 (sqd u v) (lo + k)) = bO K (fun k=>- (3 * q3 (sqd v u) (lo + k))):=bJ fun k _=>by
   unfold q3
   simp only [aP3 hne]
   grind
  rw [this,rB,e]
  grind
def chg (f : Rat -> Rat) (l : List (Rat × Int)) : List (Rat × Int):=l.map fun e=>(f e.1,e.2)
theorem aIN {f : Rat -> Rat} {l : List (Rat × Int)} (a : Alt l) (h : ∀ e ∈ l,∀ g ∈ l,e.1 < g.1 -> f e.1 < f g.1) : Alt (chg f l):=by
 have hc : ∀ e ∈ l,∀ g ∈ l,f e.1 < f g.1 -> e.1 < g.1:=fun e he g hg hl=>by
  by_cases h1 : e.1 < g.1
  ·exact h1
  ·by_cases h2 : g.1 < e.1
   ·have:=h g hg e he h2; grind
   ·have : e.1 = g.1:=by grind
    rw [this] at hl; grind
 constructor
 ·have:=a.nd
  unfold chg
  rw [List.map_map]
  unfold List.Nodup at *
  rw [List.pairwise_map] at *
  refine List.Pairwise.imp_of_mem (fun {e g} he hg hne heq=>?_) this
  have heq : f e.1 = f g.1:=heq
  by_cases h1 : e.1 < g.1
  ·have:=h e he g hg h1; grind
  ·have:=h g hg e he (by grind); grind
 ·intro e he
  obtain ⟨g,hg,rfl⟩:=List.mem_map.1 he
  have : iP (chg f l) (f g.1) = iP l g.1:=by
   unfold iP chg
   rw [List.map_map]
   congr 1
   apply List.map_congr_left
   intro k hk
   show (if f g.1 < f k.1 then k.2 else 0) = _
   by_cases h1 : g.1 < k.1
   ·rw [if_pos h1,if_pos (h g hg k hk h1)]
   ·rw [if_neg h1,if_neg fun h2=>h1 (hc g hg k hk h2)]
  simp only
  rw [this]
  exact a.alt g hg
theorem aF7 (f : Rat -> Rat) (l : List (Rat × Int)) : gS (chg f l) = gS l:=by
 unfold gS chg; rw [List.map_map]; rfl
def dsq (l : List (Rat × Int)) : Rat:=(l.map fun e=>(e.2 : Rat) * (e.1 * e.1)).sum
theorem aP5 (L : Rat) (l : List (Rat × Int)) : cW (chg (fun x=>(x - L) * (x - L)) l) = dsq l - 2 * L * cW l + L * L * (gS l : Int):=by
 unfold cW dsq gS chg
 rw [List.map_map]
 induction l with
 | nil=>simp; grind
 | cons a l ih =>
  simp only [List.map_cons,List.sum_cons,Function.comp] at ih ⊢
  rw [ih,Rat.intCast_add]
  grind
theorem aLS (L : Rat) (l : List (Rat × Int)) : cW (chg (fun x=>-((L - x) * (L - x))) l) = -(dsq l - 2 * L * cW l + L * L * (gS l : Int)):=by
 unfold cW dsq gS chg
 rw [List.map_map]
 induction l with
 | nil=>simp; grind
 | cons a l ih =>
  simp only [List.map_cons,List.sum_cons,Function.comp] at ih ⊢
  rw [ih,Rat.intCast_add]
  grind
theorem Alt.low {l : List (Rat × Int)} (a : Alt l) (ht : gS l = 0) {L : Rat} (h : ∀ e ∈ l,L <= e.1) : 2 * L * cW l <= dsq l:=by
 have:=(iK _ _ (Nat.le_refl _) (aIN (f:=fun x=>(x - L) * (x - L)) a fun e he g hg hl=>by
  have h1:=h e he
  have h2 : 0 <= e.1 - L:=by grind
  have h3 : 0 < g.1 - e.1:=by grind
  have h4 : 0 < g.1 - L:=by grind
  have h5:=Rat.mul_nonneg h2 (show 0 <= g.1 - e.1 by grind)
  have h6:=Rat.mul_pos h4 h3
  show (e.1 - L) * (e.1 - L) < (g.1 - L) * (g.1 - L)
  grind) (by rw [aF7,ht])).1
 rw [aP5,ht] at this
 grind
theorem Alt.high {l : List (Rat × Int)} (a : Alt l) (ht : gS l = 0) {L : Rat} (h : ∀ e ∈ l,e.1 <= L) : dsq l <= 2 * L * cW l:=by
 have:=(iK _ _ (Nat.le_refl _) (aIN (f:=fun x=>-((L - x) * (L - x))) a fun e he g hg hl=>by
  have h1:=h g hg
  have h2 : 0 <= L - g.1:=by grind
  have h3 : 0 < g.1 - e.1:=by grind
  have h4 : 0 < L - e.1:=by grind
  have h5:=Rat.mul_nonneg h2 (show 0 <= g.1 - e.1 by grind)
  have h6:=Rat.mul_pos h4 h3
  show -((L - e.1) * (L - e.1)) < -((L - g.1) * (L - g.1))
  grind) (by rw [aF7,ht])).1
 rw [aLS,ht] at this
 grind
theorem aOP (l m : List (Rat × Int)) : dsq (l ++ m) = dsq l + dsq m:=by
 unfold dsq; rw [List.map_append,List.sum_append]
theorem aNr (P : Nat -> Q2) (y : Rat) : ∀ n,dsq (cl P y n) = bO n (fun j=>sqd (P j) (P (j + 1)) y)
 | 0=>rfl
 | n + 1=>by
  have ih:=aNr P y n
  show dsq (if _ then _ else _) = bO n _ + _
  rw [← ih]
  by_cases h : dir (P n) (P (n + 1)) y = 0
  ·rw [if_pos h]
   unfold sqd
   simp only [h,Rat.intCast_zero]
   grind
  ·rw [if_neg h]
   unfold dsq sqd
   simp only [List.map_cons,List.sum_cons]
   grind
theorem aJ6 (N : Nat -> Nat) (P : Nat -> Nat -> Q2) (y : Rat) : ∀ m,dsq (fam N P y m) = bO m fun i=>dsq (cl (P i) y (N i))
 | 0=>rfl
 | m + 1=>by
  show dsq (_ ++ _) = bO m _ + _
  rw [aOP,aJ6 N P y m,Rat.add_comm]
theorem eH (k : Rat) (f : Nat -> Rat) : ∀ n,bO n (fun j=>k * f j) = k * bO n f
 | 0=>by show (0 : Rat) = k * 0; grind
 | n + 1=>by show bO n _ + k * f n = k * (bO n f + f n); rw [eH k f n]; grind
def aF5 (n : Nat) (P : Nat -> Q2) : Rat:=bO n (fun j=>((P (j + 1)).h - (P j).h) * ((P j).x * (P j).x + (P j).x * (P (j + 1)).x + (P (j + 1)).x * (P (j + 1)).x))
theorem aHL {n : Nat} {P : Nat -> Q2} (c : Contour n P) {H : Nat -> Int} (hH : ∀ j,(P j).h = H j) {lo : Int} {K : Nat} (h1 : ∀ j,lo <= H j) (h2 : ∀ j,H j <= lo + K) :
  aF5 n P = bO K (fun k=>3 * q3 (fun y=>dsq (cl P y n)) (lo + k)):=by
 have n3:=c.n3
 have e : ∀ j,j < n -> ((P (j + 1)).h - (P j).h) * ((P j).x * (P j).x + (P j).x * (P (j + 1)).x + (P (j + 1)).x * (P (j + 1)).x) = bO K (fun k=>3 * q3 (sqd (P j) (P (j + 1))) (lo + k)):=fun j _ =>
  (aKW (hH j) (hH (j + 1)) (fun e=>c.lev j (j + 1) (by omega) (by omega) (by rw [hH,hH,e])) (h1 j) (h1 (j + 1)) (h2 j) (h2 (j + 1))).symm
 unfold aF5
 rw [bJ e,gV]
 refine bJ fun k _=>?_
 have e2 : (fun y=>dsq (cl P y n)) = fun y=>bO n fun j=>sqd (P j) (P (j + 1)) y:=by funext y; exact aNr P y n
 rw [e2,lJ]
 exact eH 3 (fun j=>q3 (sqd (P j) (P (j + 1))) (lo + k)) n
theorem uX {f g : Nat -> Rat} : ∀ (K : Nat),(∀ k,k < K -> f k <= g k) -> bO K f <= bO K g
 | 0,_=>Rat.le_refl
 | K + 1,h=>by
  have:=uX K fun k hk=>h k (by omega)
  have h2:=h K (by omega)
  show bO K f + f K <= bO K g + g K
  grind
theorem X_bd {u v : Q2} {y L U : Rat} (hd : dir u v y ≠ 0) (h1 : L <= u.x) (h2 : L <= v.x) (h3 : u.x <= U) (h4 : v.x <= U) : L <= X u v y /\ X u v y <= U:=by
 have key : ∀ {t : Rat},0 <= t -> t <= 1 -> L <= u.x + (v.x - u.x) * t /\ u.x + (v.x - u.x) * t <= U:=fun {t} t0 t1=>by
  have a1:=Rat.mul_nonneg (show 0 <= u.x - L by grind) (show 0 <= 1 - t by grind)
  have a2:=Rat.mul_nonneg (show 0 <= v.x - L by grind) t0
  have a3:=Rat.mul_nonneg (show 0 <= U - u.x by grind) (show 0 <= 1 - t by grind)
  have a4:=Rat.mul_nonneg (show 0 <= U - v.x by grind) t0
  constructor <;> grind
 have hne : v.h - u.h ≠ 0:=by
  rcases dS hd with ⟨g1,g2,_⟩ | ⟨g1,g2,_⟩ <;> grind
 have hm : (y - u.h) / (v.h - u.h) * (v.h - u.h) = y - u.h:=by
  rw [Rat.div_def,Rat.mul_assoc,Rat.inv_mul_cancel _ hne,Rat.mul_one]
 unfold X
 generalize (y - u.h) / (v.h - u.h) = t at *
 refine key ?_ ?_
 ·by_cases h0 : 0 <= t
  ·exact h0
  ·exfalso
   rcases dS hd with ⟨g1,g2,_⟩ | ⟨g1,g2,_⟩
   ·have:=Rat.mul_pos (show 0 < -t by grind) (show 0 < v.h - u.h by grind); grind
   ·have:=Rat.mul_pos (show 0 < -t by grind) (show 0 < u.h - v.h by grind); grind
 ·by_cases h0 : t <= 1
  ·exact h0
  ·exfalso
   rcases dS hd with ⟨g1,g2,_⟩ | ⟨g1,g2,_⟩
   ·have:=Rat.mul_pos (show 0 < t - 1 by grind) (show 0 < v.h - u.h by grind); grind
   ·have:=Rat.mul_pos (show 0 < t - 1 by grind) (show 0 < u.h - v.h by grind); grind
theorem Family.centre {m : Nat} {N : Nat -> Nat} {P : Nat -> Nat -> Q2} (F : Family m N P) {H : Nat -> Nat -> Int} (hH : ∀ i j,(P i j).h = H i j) {lo : Int} {K : Nat} (h1 : ∀ i j,lo <= H i j) (h2 : ∀ i j,H i j <= lo + K) {L U : Rat} (hx : ∀ i,i < m -> ∀ j,L <= (P i j).x /\ (P i j).x <= U) :
  3 * L * bO m (fun i=>lC (N i) (P i)) <= bO m (fun i=>aF5 (N i) (P i)) /\ bO m (fun i=>aF5 (N i) (P i)) <= 3 * U * bO m fun i=>lC (N i) (P i):=by
 have gen : ∀ (z : Int) (r : Rat),0 < r -> r < 1 -> ∀ i j,i < m -> (P i j).h ≠ lvr r z:=fun z r r0 r1 i j _ e=>aNx r0 r1 (H i j) z (by rw [← hH]; exact e)
 have ea : bO m (fun i=>lC (N i) (P i)) = bO K fun k=>2 * q3 (fun y=>cW (fam N P y m)) (lo + k):=by
  rw [bJ fun i hi=>kG (F.con i hi) (hH i) (h1 i) (h2 i),gV]
  refine bJ fun k _=>?_
  rw [eH]
  congr 1
  have e2 : (fun y=>cW (fam N P y m)) = fun y=>bO m fun i=>cW (cl (P i) y (N i)):=by funext y; exact qZ N P y m
  rw [e2,lJ]
  refine bJ fun i _=>?_
  have e3 : (fun y=>cW (cl (P i) y (N i))) = fun y=>bO (N i) fun j=>(dir (P i j) (P i (j + 1)) y : Rat) * X (P i j) (P i (j + 1)) y:=by funext y; exact pC (P i) y (N i)
  rw [e3,lJ,pC]
  exact (bJ fun j _=>aOb (hH i j) (hH i (j + 1)) (lo + k)).symm
 have em : bO m (fun i=>aF5 (N i) (P i)) = bO K fun k=>3 * q3 (fun y=>dsq (fam N P y m)) (lo + k):=by
  rw [bJ fun i hi=>aHL (F.con i hi) (hH i) (h1 i) (h2 i),gV]
  refine bJ fun k _=>?_
  rw [eH]
  congr 1
  have e2 : (fun y=>dsq (fam N P y m)) = fun y=>bO m fun i=>dsq (cl (P i) y (N i)):=by funext y; exact aJ6 N P y m
  rw [e2,lJ]
 have hb : ∀ y,∀ e ∈ fam N P y m,L <= e.1 /\ e.1 <= U:=fun y e he=>by
  obtain ⟨i,hi,he⟩:=zE he
  obtain ⟨j,_,hd,rfl⟩:=oO he
  exact X_bd hd (hx i hi j).1 (hx i hi (j + 1)).1 (hx i hi j).2 (hx i hi (j + 1)).2
 rw [ea,em,← eH,← eH]
 constructor
 ·refine uX K fun k _=>?_
  have : q3 (fun y=>2 * L * cW (fam N P y m)) (lo + k) <= q3 (fun y=>dsq (fam N P y m)) (lo + k):=aIX fun r r0 r1=>(F.alt (gen _ r r0 r1)).low (F.total (gen _ r r0 r1)) fun e he=>(hb _ e he).1
  rw [aDv] at this
  grind
 ·refine uX K fun k _=>?_
  have : q3 (fun y=>dsq (fam N P y m)) (lo + k) <= q3 (fun y=>2 * U * cW (fam N P y m)) (lo + k):=aIX fun r r0 r1=>(F.alt (gen _ r r0 r1)).high (F.total (gen _ r r0 r1)) fun e he=>(hb _ e he).2
  rw [aDv] at this
  grind
end Go.Proofs.YtngginofamlkkaaGreatDoor.PlaneG

