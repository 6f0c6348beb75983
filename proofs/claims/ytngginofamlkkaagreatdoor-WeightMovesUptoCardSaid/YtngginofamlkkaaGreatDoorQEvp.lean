/-
  Put together out of several texts, each in its own namespace's block. Conditions: as each theorem states them.
-/
import Derived.Test.YtngginofamlkkaaGreatDoorQEvl
import Derived.KernelRfl
noncomputable section
namespace Go.Proofs.YtngginofamlkkaaGreatDoor
open Go Go.RowKit
def unl (ops : Array Oper) (L : Array Bool) : Nat:=((List.range ops.size).filter fun i=>!L.getD i true).length
theorem lH {ops : Array Oper} {L : Array Bool} {i : Nat} (hi : i < ops.size) (hs : L.size = ops.size) (hn : L.getD i true = false) : unl ops (L.setIfInBounds i true) < unl ops L:=by
 unfold unl
 have e : ((List.range ops.size).filter fun k=>!(L.setIfInBounds i true).getD k true) = ((List.range ops.size).filter fun k=>!L.getD k true).filter fun k=>!(L.setIfInBounds i true).getD k true:=by
  rw [List.filter_filter]
  apply List.filter_congr
  intro k _
  by_cases hk : i = k
  ·subst hk; simp [hs,hi]
  ·rw [getD_set_ne true hk]; simp
 rw [e,List.length_filter_lt_length_iff_exists]
 exact ⟨i,by simp only [List.mem_filter,List.mem_range]; exact ⟨hi,by rw [hn]; rfl⟩,by simp [hs,hi]⟩
section
variable {P : Program} {W : Base} {ops : Array Oper} {n : Nat} {st0 : AS} {ρ0 : Place} {Q : Exit -> Act -> World -> Prop}
theorem tI {ops : Array Oper} {L : Array Bool} (hs : L.size = ops.size) {i : Nat} (h : In L i) : i < ops.size:=by
 rw [← hs]
 rcases Nat.lt_or_ge i L.size with h' | h'
 ·exact h'
 ·simp [In,Array.getElem?_eq_none h'] at h
theorem Inv.all {C : Array Bool} {st : AS} {rds : List Rd} {I : Info} {L : Array Bool} {a : Act} {w : World} {ρ : Place} (hD : eU ops = true) (h : Inv P W ops n st0 ρ0 C st rds I L a w ρ) (hr : Region.ready .any ops L = []) : ∀ i,In C i -> In L i:=by
 intro i
 induction i using Nat.strongRecOn with
 | _ i ih =>
  intro hi
  refine Classical.byContradiction fun hn=>?_
  have hlt:=tI h.cs hi
  have hm : i ∈ Region.ready .any ops L:=by
   rw [mem_ready]
   refine ⟨fK (by rw [h.ls]; exact hlt) hn,ops[i],by simp [hlt],fun e he hb=>?_⟩
   have:=aEH hD (i:=i) (o:=ops[i]) (by simp [hlt]) he hb
   exact ih e.on this (h.cclosed i hi ops[i] (by simp [hlt]) e he hb)
  rw [hr] at hm
  cases hm
theorem Inv.done {C : Array Bool} {st : AS} {rds : List Rd} {I : Info} {L : Array Bool} {a : Act} {w : World} {ρ : Place} (h : Inv P W ops n st0 ρ0 C st rds I L a w ρ) (hall : ∀ i,In C i -> In L i) : SRel ρ W n st a w:=by
 refine ⟨h.rel,h.size,h.defers,fun t v hv=>?_⟩
 by_cases hex : ∃ j oj,In C j /\ ops[j]? = some oj /\ oj.dst = some t
 ·obtain ⟨j,oj,hj,hoj,hdj⟩:=hex
  rw [h.tmC j oj t hj hoj hdj] at hv
  cases hv
  exact h.lv j oj t (hall j hj) hoj hdj
 ·rw [h.tm0 t fun j oj hj hoj hdj=>hex ⟨j,oj,hj,hoj,hdj⟩] at hv
  exact h.l0 t v (fun j oj hj hoj hdj=>hex ⟨j,oj,h.sub j hj,hoj,hdj⟩) hv
theorem jL {C L : Array Bool} (hc : C.size = ops.size) (hsub : ∀ i,In L i -> In C i) {j : Nat} (hj : j ∈ Region.ready .any ops L) : (In C j ∨ j ∈ Region.ready .any ops C) /\ ¬ In L j /\ j < ops.size /\ ∃ o,ops[j]? = some o /\ ∀ e ∈ o.after,Region.binds .any e = true -> In L e.on:=by
 obtain ⟨h1,o,h2,h3⟩:=mem_ready.1 hj
 have hlt:=(Array.getElem?_eq_some_iff.1 h2).1
 refine ⟨?_,(fC h1).2,hlt,o,h2,h3⟩
 by_cases hC : In C j
 ·exact .inl hC
 ·exact .inr (mem_ready.2 ⟨fK (by rw [hc]; exact hlt) hC,o,h2,fun e he hb=>hsub _ (h3 e he hb)⟩)
theorem aKO {call : iC} (hcall : pH P W call) (hD : eU ops = true) {stF : AS} (hQ : ∀ a' w' ρ',SRel ρ' W n stF a' w' -> Step ρ0 ρ' st0.hp stF.hp st0.nx stF.nx -> Q .normal a' w') :
  ∀ (m f : Nat) (C : Array Bool) (st : AS) (rds : List Rd) (I : Info) (L : Array Bool) (a : Act) (w : World) (ρ : Place),unl ops L <= m -> Inv P W ops n st0 ρ0 C st rds I L a w ρ -> pP P call ops n f C st rds = some stF -> wpAny P .any ops Q m L a w:=by
 intro m
 induction m with
 | zero =>
  intro f C st rds I L a w ρ hm h hs
  have hr : Region.ready .any ops L = []:=by
   have hnil : ((List.range ops.size).filter fun i=>!L.getD i true) = []:=List.eq_nil_of_length_eq_zero (Nat.le_zero.1 hm)
   apply List.eq_nil_iff_forall_not_mem.2
   intro j hj
   obtain ⟨h1,o,h2,h3⟩:=mem_ready.1 hj
   have : j ∈ ((List.range ops.size).filter fun i=>!L.getD i true):=by
    simp only [List.mem_filter,List.mem_range]
    exact ⟨(Array.getElem?_eq_some_iff.1 h2).1,by rw [h1]; rfl⟩
   rw [hnil] at this
   cases this
  have hall:=h.all hD hr
  have hallI : ∀ i,i < ops.size -> In L i:=fun i hi=>Classical.byContradiction fun hn=>by
   have : i ∈ ((List.range ops.size).filter fun i=>!L.getD i true):=by
    simp only [List.mem_filter,List.mem_range]
    exact ⟨hi,by rw [fK (by rw [h.ls]; exact hi) hn]; rfl⟩
   rw [List.eq_nil_of_length_eq_zero (Nat.le_zero.1 hm)] at this
   cases this
  have hrC : Region.ready .any ops C = []:=by
   apply List.eq_nil_iff_forall_not_mem.2
   intro j hj
   obtain ⟨h1,o,h2,h3⟩:=mem_ready.1 hj
   exact (fC h1).2 (h.sub j (hallI j (Array.getElem?_eq_some_iff.1 h2).1))
  have hst : st = stF:=by
   cases f with
   | zero=>simp only [pP,hrC] at hs; cases hs; rfl
   | succ f=>simp only [pP,hrC] at hs; cases hs; rfl
  subst hst
  exact ⟨hr,hQ a w ρ (h.done hall) h.step⟩
 | succ m ihm =>
  intro f
  induction f with
  | zero =>
   intro C st rds I L a w ρ hm h hs
   simp only [pP] at hs
   split at hs
   case h_2=>cases hs
   rename_i hrC
   cases hs
   refine ⟨fun hr=>hQ a w ρ (h.done (h.all hD hr)) h.step,fun j hj=>?_⟩
   obtain ⟨h1,h2,h3,o,h4,h5⟩:=jL h.cs h.sub hj
   rw [hrC] at h1
   have hjC:=h1.resolve_right (by simp)
   refine wpOp_mono ?_ (h.run hD h4 hjC h2 h5)
   rintro a' w' ⟨ρ',h'⟩
   refine ihm 0 C _ rds I _ a' w' ρ' ?_ h' (by simp only [pP,hrC])
   have:=lH (ops:=ops) (L:=L) h3 h.ls (mem_ready.1 hj).1
   omega
  | succ f ihf =>
   intro C st rds I L a w ρ hm h hs
   have pending : ∀ j,j ∈ Region.ready .any ops L -> In C j -> ∀ o,ops[j]? = some o -> (∀ e ∈ o.after,Region.binds .any e = true -> In L e.on) -> wpOp P ops Q j (wpAny P .any ops Q m (L.setIfInBounds j true)) a w:=by
    intro j hj hjC o ho hall
    refine wpOp_mono ?_ (h.run hD ho hjC (fC (mem_ready.1 hj).1).2 hall)
    rintro a' w' ⟨ρ',h'⟩
    refine ihm (f + 1) C st rds I _ a' w' ρ' ?_ h' hs
    have:=lH (ops:=ops) (L:=L) (Array.getElem?_eq_some_iff.1 ho).1 h.ls (mem_ready.1 hj).1
    omega
   have hs0:=hs
   simp only [pP] at hs
   split at hs
   ·rename_i hrC
    cases hs
    refine ⟨fun hr=>hQ a w ρ (h.done (h.all hD hr)) h.step,fun j hj=>?_⟩
    obtain ⟨h1,h2,h3,o,h4,h5⟩:=jL h.cs h.sub hj
    rw [hrC] at h1
    exact pending j hj (h1.resolve_right (by simp)) o h4 h5
   ·rename_i r rs hrC
    split at hs
    ·rename_i i hf
     have him : i ∈ Region.ready .any ops C:=by rw [hrC]; exact List.mem_of_find?_eq_some hf
     have hil:=List.find?_some hf
     obtain ⟨g1,o,g2,g3⟩:=mem_ready.1 him
     have hnC:=(fC g1).2
     have hh : eC o.op = false:=by
      unfold oC at hil
      rw [g2] at hil
      simpa using hil
     rw [g2] at hs
     dsimp only at hs
     split at hs
     ·rename_i hw
      split at hs
      ·rename_i v hv
       split at hs
       case h_2=>cases hs
       rename_i tm' ht
       refine ihf _ ⟨tm',st.hp,st.nx⟩ _ (I.set i st.tm v none) L a w ρ hm (h.absorb hD g2 hnC g3 hh (st':=⟨tm',st.hp,st.nx⟩) (v:=v) (B:=none) ht h.rel (fun _ _ h=>h) (Nat.le_refl _) h.step (fun b hb=>by cases hb) (fun I' e1 e2 e3=>.inr (.inl ⟨by rw [e1]; exact hw,.inl (by rw [e1,e2]; exact hv),e3⟩)) ?_ ?_) hs
       ·intro x hx
        cases eW o (aev st.tm) <;> simp [hx]
       ·intro _ hrd
        rw [hrd]
        simp
      ·rename_i ob nv hv
       split at hs
       case h_2=>cases hs
       rename_i tm' ht
       cases hrd : eW o (aev st.tm) with
       | true=>rw [hrd] at hs; cases hs
       | false =>
        rw [hrd,cond_false] at hs
        refine ihf _ ⟨tm',st.hp.put st.nx (some ob),st.nx + 1⟩ _ (I.set i st.tm (nv.val st.nx) (some st.nx)) L a w ρ hm (h.absorb hD g2 hnC g3 hh (st':=⟨tm',st.hp.put st.nx (some ob),st.nx + 1⟩) (v:=nv.val st.nx) (B:=some st.nx) ht (h.rel.reserve ob) ?_ (Nat.le_succ _) ?_ (fun b hb=>by cases hb; exact Nat.le_refl _) (fun I' e1 e2 e3=>?_) (fun _ h=>h) (fun _ h'=>by rw [hrd] at h'; cases h')) hs
        ·intro b x hb
         have : b ≠ st.nx:=fun e=>by rw [e,h.rel.fresh _ (Nat.le_refl _)] at hb; cases hb
         rw [Tr.get_put,if_neg this]
         exact hb
        ·exact ⟨h.step.le,Nat.le_succ_of_le h.step.more,fun b hb hr=>by
          have:=h.step.old b hb hr
          refine ⟨this.1,?_⟩
          rw [Tr.get_put,if_neg (by have:=h.step.more; omega)]
          exact this.2⟩
        ·refine .inr (.inr ⟨by rw [e1]; exact hw,by rw [e1]; exact hrd,ob,nv,st.nx,?_,e2,e3,by simp,h.step.more,h.rel.dom_none,by rw [Tr.get_put,if_pos rfl]⟩)
         rw [e1]
         refine .inl ?_
         rw [← oP (hp:=st.hp) hrd]
         exact hv
      ·cases hs
     ·rename_i hw
      split at hs
      case h_2=>cases hs
      rename_i tm' ht
      exact ihf _ ⟨tm',st.hp,st.nx⟩ _ (I.set i st.tm undef none) L a w ρ hm (h.absorb hD g2 hnC g3 hh (st':=⟨tm',st.hp,st.nx⟩) (v:=undef) (B:=none) ht h.rel (fun _ _ h=>h) (Nat.le_refl _) h.step (fun b hb=>by cases hb) (fun I' e1 e2 e3=>.inl ⟨by rw [e1]; exact hw,e2,e3⟩) (fun _ h=>h) (fun h'=>by rw [hw] at h'; cases h')) hs
     ·cases hs
    ·split at hs
     case h_2=>cases hs
     split at hs
     case h_2=>cases hs
     rename_i o ho
     split at hs
     case h_2=>cases hs
     rename_i st' hst
     cases hchk : rds.all (fun rd=>bN ops rd.i r || aE8 P st'.hp rd) with
     | false=>rw [hchk] at hs; cases hs
     | true =>
      rw [hchk,cond_true] at hs
      have hrm : r ∈ Region.ready .any ops C:=by rw [hrC]; simp
      obtain ⟨g1,o',g2,g3⟩:=mem_ready.1 hrm
      rw [ho] at g2
      cases g2
      have hnC:=(fC g1).2
      refine ⟨fun hr=>?_,fun j hj=>?_⟩
      ·exfalso
       have hall:=h.all hD hr
       have : r ∈ Region.ready .any ops L:=mem_ready.2 ⟨fK (by rw [h.ls]; exact (Array.getElem?_eq_some_iff.1 ho).1) (fun h'=>hnC (h.sub r h')),o,ho,fun e he hb=>hall _ (g3 e he hb)⟩
       rw [hr] at this
       cases this
      ·obtain ⟨h1,h2,h3,oj,h4,h5⟩:=jL h.cs h.sub hj
       rcases h1 with h1 | h1
       ·exact pending j hj h1 oj h4 h5
       ·rw [hrC] at h1
        have hjr : j = r:=by simpa using h1
        subst hjr
        rw [ho] at h4
        cases h4
        refine wpOp_mono ?_ (h.heavy hcall hD ho hnC g3 h5 hst hchk)
        rintro a' w' ⟨ρ',I',h'⟩
        refine ihm f _ st' rds I' _ a' w' ρ' ?_ h' hs
        have:=lH (ops:=ops) (L:=L) h3 h.ls (mem_ready.1 hj).1
        omega
theorem aFB {call : iC} (hcall : pH P W call) (hm : P.follows .mixedOrders = true) (hD : eU ops = true) {id : Nat} {stF : AS} {a : Act} {w : World} (h : SRel ρ0 W n st0 a w)
  (hs : pP P call ops n ops.size (Array.replicate ops.size false) st0 [] = some stF) (hQ : ∀ a' w' ρ',SRel ρ' W n stF a' w' -> Step ρ0 ρ' st0.hp stF.hp st0.nx stF.nx -> Q .normal a' w') : (Code.region id ops true).wp P Q a w:=by
 refine wp_region_any hm ?_
 have hnot : ∀ i,¬ In (Array.replicate ops.size false) i:=fun i hi=>by
  have:=tI (ops:=ops) (by simp) hi
  simp [In,this] at hi
 refine aKO hcall hD hQ ops.size ops.size _ st0 [] ⟨fun _=>.e,fun _=>undef,fun _=>none⟩ _ a _ ρ0 ?_ ⟨by simp,by simp,fun i hi=>(hnot i hi).elim,fun i hi=>(hnot i hi).elim,fun i hi=>hi,fun j o t hj=>(hnot j hj).elim,fun t _=>rfl,h.rel.drew,h.frame.size,h.frame.defers,fun j o t hj=>(hnot j hj).elim,fun t v _ hv=>h.frame.slot t v hv,fun j o hj=>(hnot j hj).elim,fun j k b hj=>(hnot j hj).elim,.refl _ _ _,fun j o hj=>(hnot j hj).elim⟩ hs
 unfold unl
 exact Nat.le_trans (List.length_filter_le _ _) (by simp)
end
end Go.Proofs.YtngginofamlkkaaGreatDoor

noncomputable section
namespace Go.Proofs.YtngginofamlkkaaGreatDoor
open Go Go.RowKit
set_option maxRecDepth 100000
set_option maxHeartbeats 8000000
inductive AEx where
 | normal
 | exit (id : Nat)
 | ret
def AEx.to : AEx -> Exit
 | .normal=>.normal
 | .exit id=>.exit id
 | .ret=>.ret
def aAN (P : Program) (hp : Tr AObj) (tm : Tr Value) : List ResultVar -> Option (List Value)
 | []=>some []
 | .tmp t :: l=>match tm.get t with
  | some v=>match aAN P hp tm l with
   | some vs=>some (v :: vs)
   | none=>none
  | none=>none
 | .cell a t :: l=>match tm.get a with
  | some p=>match uY P hp t p with
   | some v=>match aAN P hp tm l with
    | some vs=>some (v :: vs)
    | none=>none
   | none=>none
  | none=>none
def aBC (P : Program) (hp : Tr AObj) (tm : Tr Value) (fn : Func) : Option Value :=
 match aAN P hp tm fn.results.toList with
 | some [v]=>some v
 | some vs=>some (.tuple vs.toArray)
 | none=>none
theorem nB {P : Program} {ρ : Place} {W : Base} {hp : Tr AObj} {nx : Nat} {w : World} (h : Rel ρ W hp nx w) {tm : Tr Value} {n : Nat} {D : List Deferred} {a : Act} (hF : FRel D ρ tm n a) : ∀ {l : List ResultVar} {vs : List Value},aAN P hp tm l = some vs ->
  ∃ vs',VRL ρ vs vs' /\ (l.mapM fun x=>(match x with | .tmp t=>pure (a.tmps.getD t undef) | .cell p t=>do loadVar t (← asAddr (a.tmps.getD p undef)) : Sem Value)).run P w = .ok vs' w
 | [],vs,hl=>by simp only [aAN] at hl; cases hl; exact ⟨[],.nil,rfl⟩
 | .tmp t :: l,vs,hl=>by
  simp only [aAN] at hl
  split at hl
  case h_2=>cases hl
  rename_i v hv
  split at hl
  case h_2=>cases hl
  rename_i us hus
  cases hl
  obtain ⟨vs',h1,h2⟩:=nB h hF hus
  refine ⟨a.tmps.getD t undef :: vs',.cons (hF.slot t v hv).2 h1,?_⟩
  rw [List.mapM_cons,Sem.run_bind]
  show (Result.andThen (.ok (a.tmps.getD t undef) w) _) = _
  rw [Result.andThen_ok,Sem.run_bind,h2,Result.andThen_ok]
  rfl
 | .cell p t :: l,vs,hl=>by
  simp only [aAN] at hl
  split at hl
  case h_2=>cases hl
  rename_i q hq
  split at hl
  case h_2=>cases hl
  rename_i v hv
  split at hl
  case h_2=>cases hl
  rename_i us hus
  cases hl
  obtain ⟨vs',h1,h2⟩:=nB h hF hus
  have hp':=(hF.slot p q hq).2
  obtain ⟨v',e,hr⟩:=yB h hp' hv
  refine ⟨v' :: vs',.cons hr h1,?_⟩
  have e' : ((asAddr (a.tmps.getD p undef)) >>= fun x=>loadVar t x).run P w = .ok v' w:=by
   rw [← e]
   unfold Instr.loadAt
   generalize a.tmps.getD p undef = y at hp' ⊢
   unfold uY at hv
   cases hp' <;> try simp only [reduceCtorEq] at hv
   rfl
  rw [List.mapM_cons,Sem.run_bind,e',Result.andThen_ok,Sem.run_bind,h2,Result.andThen_ok]
  rfl
theorem lX {P : Program} {ρ : Place} {W : Base} {hp : Tr AObj} {nx : Nat} {w : World} (h : Rel ρ W hp nx w) {tm : Tr Value} {n : Nat} {D : List Deferred} {a : Act} (hF : FRel D ρ tm n a) {fn : Func} {v : Value} (hv : aBC P hp tm fn = some v) :
  ∃ v',(results fn a.tmps).run P w = .ok v' w /\ VR ρ v v':=by
 unfold aBC at hv
 have run : ∀ vs',(fn.results.toList.mapM fun x=>(match x with | .tmp t=>pure (a.tmps.getD t undef) | .cell p t=>do loadVar t (← asAddr (a.tmps.getD p undef)) : Sem Value)).run P w = .ok vs' w ->
   (results fn a.tmps).run P w = .ok (if h : vs'.toArray.size = 1 then vs'.toArray[0] else .tuple vs'.toArray) w:=by
  intro vs' hr
  unfold results
  rw [Sem.run_bind]
  have : (fn.results.mapM fun x=>(match x with | .tmp t=>pure (a.tmps.getD t undef) | .cell p t=>do loadVar t (← asAddr (a.tmps.getD p undef)) : Sem Value)).run P w = .ok vs'.toArray w:=by
   rw [Array.mapM_eq_mapM_toList,Sem.run_map,hr]
   rfl
  exact (congrArg (fun r=>Result.andThen r _) this).trans rfl
 split at hv
 ·rename_i u hl
  cases hv
  obtain ⟨vs',h1,h2⟩:=nB h hF hl
  cases h1 with
  | cons hu hnil =>
   cases hnil
   exact ⟨_,run _ h2,by simpa using hu⟩
 ·rename_i vs hne hl
  cases hv
  obtain ⟨vs',h1,h2⟩:=nB h hF hl
  refine ⟨_,run _ h2,?_⟩
  have hlen : vs'.length ≠ 1:=fun e=>by
   have:=h1.len
   match vs,hne,this with
   | [v],hne,_=>exact hne v rfl
   | [],_,h=>rw [e] at h; cases h
   | _ :: _ :: _,_,h=>rw [e] at h; simp at h
  rw [dif_neg (by simpa using hlen)]
  exact .tuple h1.arr.1 h1.arr.2
 ·cases hv
def gE : Nat -> List Value -> Tr Value -> Tr Value
 | _,[],t=>t
 | i,v :: l,t=>gE (i + 1) l (t.put i (some v))
theorem qF : ∀ (l : List Value) (i : Nat) (t : Tr Value) (k : Nat),(gE i l t).get k = if i <= k /\ k < i + l.length then l[k - i]? else t.get k
 | [],i,t,k=>by simp [gE]; omega
 | v :: l,i,t,k=>by
  simp only [gE]
  rw [qF l (i + 1) _ k,Tr.get_put]
  by_cases h : k = i
  ·subst h
   rw [if_neg (by omega),if_pos rfl,if_pos (by simp)]
   simp
  ·by_cases h1 : i + 1 <= k /\ k < i + 1 + l.length
   ·rw [if_pos h1,if_pos (by simp; omega)]
    obtain ⟨j,hj⟩ : ∃ j,k = i + 1 + j:=⟨k - (i + 1),by omega⟩
    subst hj
    rw [show i + 1 + j - (i + 1) = j by omega,show i + 1 + j - i = j + 1 by omega]
    simp
   ·rw [if_neg h1,if_neg h,if_neg (by simp; omega)]
def aAZ (P : Program) (R : Nat -> Code -> AS -> Option (AEx × AS)) : iC:=fun f args hp nx=>match P.funcs[f]? with
 | some fn=>match fn.body with
  | some c=>match R (args.length + (fn.ntmps - args.length)) c ⟨gE 0 args .e,hp,nx⟩ with
   | some (.normal,st') | some (.ret,st')=>match aBC P st'.hp st'.tm fn with
    | some v=>some (v,st'.hp,st'.nx)
    | none=>none
   | _=>none
  | none=>none
 | none=>none
def jJ (P : Program) (R : Nat -> Code -> AS -> Option (AEx × AS)) (n : Nat) (st : AS) (ops : Array Oper) (draw : Bool) : Option (AEx × AS) :=
 match (bif draw then (bif eU ops then pP P (aAZ P R) ops n ops.size (Array.replicate ops.size false) st [] else none) else aJX P (aAZ P R) ops n st ops.toList) with
 | some st'=>some (.normal,st')
 | none=>none
def wM (R : Nat -> Code -> AS -> Option (AEx × AS)) (n : Nat) (y : Code) (r : Option (AEx × AS)) : Option (AEx × AS) :=
 match r with
 | some (.normal,st')=>R n y st'
 | r=>r
def qL (R : Nat -> Code -> AS -> Option (AEx × AS)) (n : Nat) (st : AS) (x y : Code) (c : Option Value) : Option (AEx × AS) :=
 match c with
 | some (.bool true)=>R n x st
 | some (.bool false)=>R n y st
 | _=>none
def lU (id : Nat) (r : Option (AEx × AS)) : Option (AEx × AS) :=
 match r with
 | some (.exit j,st')=>bif j.beq id then some (.normal,st') else some (.exit j,st')
 | r=>r
def ctab (c : Code) : Program -> (Nat -> Code -> AS -> Option (AEx × AS)) -> Nat -> AS -> Option (AEx × AS) :=
 Code.rec (motive:=fun _=>Program -> (Nat -> Code -> AS -> Option (AEx × AS)) -> Nat -> AS -> Option (AEx × AS))
  (fun _ _ _ st=>some (.normal,st))
  (fun _ ops draw P R n st=>jJ P R n st ops draw)
  (fun x y _ _ _ R n st=>wM R n y (R n x st))
  (fun c x y _ _ _ R n st=>qL R n st x y (aev st.tm c))
  (fun id b _ _ R n st=>lU id (R n b st))
  (fun b _ _ R n st=>wM R n (.loop b) (R n b st))
  (fun _ _ _ _ _ _ _ _ _ _=>none)
  (fun id _ _ _ st=>some (.exit id,st))
  (fun _ _ _ _ _ _=>none)
  (fun _ _ _ _ st=>some (.normal,st))
  (fun _ _ _ _ _=>none)
  (fun _ _ _ st=>some (.ret,st))
  (fun _ _ _ _ _=>none) c
def mG (P : Program) (k : Nat) : Nat -> Code -> AS -> Option (AEx × AS) :=
 Nat.rec (motive:=fun _=>Nat -> Code -> AS -> Option (AEx × AS)) (fun _ _ _=>none) (fun _ ih n c st=>ctab c P ih n st) k
theorem aH4 (P : Program) (n : Nat) (c : Code) (st : AS) : mG P 0 n c st = none:=rfl
theorem dQ (P : Program) (k n : Nat) (c : Code) (st : AS) : mG P (k + 1) n c st =
  (match c with
  | .skip | .label _=>some (.normal,st)
  | .region _ ops draw=>jJ P (mG P k) n st ops draw
  | .seq x y=>wM (mG P k) n y (mG P k n x st)
  | .cond c x y=>qL (mG P k) n st x y (aev st.tm c)
  | .block id b=>lU id (mG P k n b st)
  | .loop b=>wM (mG P k) n (.loop b) (mG P k n b st)
  | .exit id=>some (.exit id,st)
  | .ret=>some (.ret,st)
  | _=>none):=by cases c <;> rfl
def aCj (P : Program) (k : Nat) : iC:=aAZ P (mG P k)
def nM (P : Program) (b : Code) (Q : Exit -> Act -> World -> Prop) (a : Act) (w : World) : Prop :=
 ∀ (fr : Frame) (k : List Item) (cs : List Frame),∃ e a' w',Q e a' w' /\ Arrives P (lone (fr.at a (.code b :: .inLoop b :: k)) cs w) fr k cs e a' w'
theorem tR {P : Program} {b : Code} {Q : Exit -> Act -> World -> Prop} {a : Act} {w : World} (h : nM P b Q a w) : (Code.loop b).wp P Q a w :=
 fun fr k cs=>let ⟨e,a',w',q,r⟩:=h fr k cs; ⟨e,a',w',q,.of_steps (.one step_loop) r⟩
theorem iT {P : Program} {b : Code} {Q : Exit -> Act -> World -> Prop} {a : Act} {w : World} (h : b.wp P (Exit.then (nM P b Q) Q) a w) : nM P b Q a w:=by
 intro fr k cs
 obtain ⟨e,a₁,w₁,hq,harr⟩:=h fr (.inLoop b :: k) cs
 cases e with
 | normal =>
  obtain ⟨e₂,a₂,w₂,hq₂,harr₂⟩:=hq fr k cs
  exact ⟨e₂,a₂,w₂,hq₂,.of_steps (Steps.trans harr (.one step_inLoop)) harr₂⟩
 | exit id=>exact ⟨_,a₁,w₁,hq,.pass (x:=.inLoop b) rfl (fun _ _=>.inl (by simp)) harr⟩
 | goto l=>exact ⟨_,a₁,w₁,hq,.pass (x:=.inLoop b) rfl (fun _ _=>.inl (by simp)) harr⟩
 | ret=>exact ⟨_,a₁,w₁,hq,.pass (x:=.inLoop b) rfl (fun _ _=>.inl (by simp)) harr⟩
 | panic ch=>exact ⟨_,a₁,w₁,hq,.pass (x:=.inLoop b) rfl (fun _ _=>.inl (by simp)) harr⟩
 | outgrown=>exact ⟨_,a₁,w₁,hq,.pass (x:=.inLoop b) rfl (fun _ _=>.inl (by simp)) harr⟩
def aPW (W : Base) (n : Nat) (st st' : AS) (e : AEx) (g : (Exit -> Act -> World -> Prop) -> Act -> World -> Prop) : Prop :=
 ∀ (ρ : Place) (a : Act) (w : World) (Q : Exit -> Act -> World -> Prop),SRel ρ W n st a w -> (∀ a' w' ρ',SRel ρ' W n st' a' w' -> Step ρ ρ' st.hp st'.hp st.nx st'.nx -> Q e.to a' w') -> g Q a w
theorem aEx {P : Program} (hm : P.follows .mixedOrders = true) : ∀ k,(∀ W n c st e st',mG P k n c st = some (e,st') -> aPW W n st st' e (c.wp P)) /\
  (∀ W n b st e st',mG P k n (.loop b) st = some (e,st') -> aPW W n st st' e (nM P b)) /\ ∀ W,pH P W (aCj P k):=by
 intro k
 induction k with
 | zero =>
  refine ⟨fun W n c st e st' h=>(nomatch (show (none : Option (AEx × AS)) = some (e,st') from h)),fun W n b st e st' h=>(nomatch (show (none : Option (AEx × AS)) = some (e,st') from h)),fun W f args hp nx v hp' nx' h=>?_⟩
  unfold aCj aAZ at h
  split at h
  case h_2=>cases h
  split at h
  case h_2=>cases h
  simp [aH4] at h
 | succ k ih =>
  obtain ⟨ih1,ih2,ih3⟩:=ih
  have loops : ∀ W n b st e st',mG P (k + 1) n (.loop b) st = some (e,st') -> aPW W n st st' e (nM P b):=by
   intro W n b st e st' h ρ a w Q hs hQ
   rw [dQ] at h; dsimp only [wM,qL,lU,jJ] at h
   refine iT ?_
   split at h
   ·rename_i st1 h1
    refine ih1 W n b st .normal st1 h1 ρ a w _ hs fun a' w' ρ' g1 g2=>?_
    exact ih2 W n b st1 e st' h ρ' a' w' Q g1 fun a2 w2 ρ2 k1 k2=>hQ a2 w2 ρ2 k1 (g2.trans k2)
   ·rename_i hne
    refine ih1 W n b st e st' h ρ a w _ hs fun a' w' ρ' g1 g2=>?_
    cases e with
    | normal=>exact (hne st' h).elim
    | exit id=>exact hQ a' w' ρ' g1 g2
    | ret=>exact hQ a' w' ρ' g1 g2
  have codes : ∀ W n c st e st',mG P (k + 1) n c st = some (e,st') -> aPW W n st st' e (c.wp P):=by
   intro W n c st e st' h ρ a w Q hs hQ
   cases c with
   | loop b=>exact tR (loops W n b st e st' h ρ a w Q hs hQ)
   | skip=>rw [dQ] at h; dsimp only [wM,qL,lU,jJ] at h; cases h; exact wp_skip (hQ a w ρ hs (.refl _ _ _))
   | label l=>rw [dQ] at h; dsimp only [wM,qL,lU,jJ] at h; cases h; exact wp_label (hQ a w ρ hs (.refl _ _ _))
   | exit id=>rw [dQ] at h; dsimp only [wM,qL,lU,jJ] at h; cases h; exact wp_exit (hQ a w ρ hs (.refl _ _ _))
   | ret=>rw [dQ] at h; dsimp only [wM,qL,lU,jJ] at h; cases h; exact wp_ret (hQ a w ρ hs (.refl _ _ _))
   | goto l=>rw [dQ] at h; cases h
   | refuse y=>rw [dQ] at h; cases h
   | scope b=>rw [dQ] at h; cases h
   | rangeFunc f ps x y=>rw [dQ] at h; cases h
   | region id ops draw =>
    rw [dQ] at h; dsimp only [wM,qL,lU,jJ] at h
    split at h
    case h_2=>cases h
    rename_i st1 h1
    cases h
    cases draw with
    | false =>
     simp only [cond_false] at h1
     exact aH3 (call:=aCj P k) (ih3 W) hs h1 hQ
    | true =>
     simp only [cond_true] at h1
     cases hD : eU ops with
     | false=>rw [hD] at h1; cases h1
     | true =>
      rw [hD,cond_true] at h1
      exact aFB (call:=aCj P k) (ih3 W) hm hD hs h1 hQ
   | seq x y =>
    rw [dQ] at h; dsimp only [wM,qL,lU,jJ] at h
    refine wp_seq ?_
    split at h
    ·rename_i st1 h1
     refine ih1 W n x st .normal st1 h1 ρ a w _ hs fun a' w' ρ' g1 g2=>?_
     exact ih1 W n y st1 e st' h ρ' a' w' Q g1 fun a2 w2 ρ2 k1 k2=>hQ a2 w2 ρ2 k1 (g2.trans k2)
    ·rename_i hne
     refine ih1 W n x st e st' h ρ a w _ hs fun a' w' ρ' g1 g2=>?_
     cases e with
     | normal=>exact (hne st' h).elim
     | exit id=>exact hQ a' w' ρ' g1 g2
     | ret=>exact hQ a' w' ρ' g1 g2
   | cond c x y =>
    rw [dQ] at h; dsimp only [wM,qL,lU,jJ] at h
    split at h
    ·rename_i hc
     have:=hs.frame.eval hc
     refine wp_cond_true (c:=c) ?_ (ih1 W n x st e st' h ρ a w Q hs hQ)
     generalize a.eval c = z at this
     cases this
     rfl
    ·rename_i hc
     have:=hs.frame.eval hc
     refine wp_cond_false (c:=c) ?_ (ih1 W n y st e st' h ρ a w Q hs hQ)
     generalize a.eval c = z at this
     cases this
     rfl
    ·cases h
   | block id b =>
    rw [dQ] at h; dsimp only [wM,qL,lU,jJ] at h
    refine wp_block ?_
    split at h
    ·rename_i j st1 h1
     refine ih1 W n b st (.exit j) st1 h1 ρ a w _ hs fun a' w' ρ' g1 g2=>?_
     simp only [AEx.to,Exit.inBlock]
     cases hj : j.beq id with
     | true =>
      rw [hj] at h
      cases h
      rw [if_pos (Nat.eq_of_beq_eq_true hj)]
      exact hQ a' w' ρ' g1 g2
     | false =>
      rw [hj] at h
      cases h
      rw [if_neg (fun e=>by subst e; simp at hj)]
      exact hQ a' w' ρ' g1 g2
    ·rename_i hne
     refine ih1 W n b st e st' h ρ a w _ hs fun a' w' ρ' g1 g2=>?_
     cases e with
     | normal=>exact hQ a' w' ρ' g1 g2
     | exit j=>exact (hne j st' h).elim
     | ret=>exact hQ a' w' ρ' g1 g2
  refine ⟨codes,loops,fun W f args hp nx v hp' nx' h ρ w args' hrel hargs=>?_⟩
  unfold aCj aAZ at h
  split at h
  case h_2=>cases h
  rename_i fn hfn
  split at h
  case h_2=>cases h
  rename_i c hc
  have start : SRel ρ W.bare (args.length + (fn.ntmps - args.length)) ⟨gE 0 args .e,hp,nx⟩ { tmps:=args'.toArray ++ Array.replicate (fn.ntmps - args'.toArray.size) undef,defers:=[] } w:=by
   refine ⟨hrel.bare,?_,rfl,fun t u hu=>?_⟩
   ·simp [hargs.len]
   ·rw [qF] at hu
    by_cases ht : 0 <= t /\ t < 0 + args.length
    ·rw [if_pos ht] at hu
     have hlt : t < args'.length:=by rw [← hargs.len]; omega
     refine ⟨by omega,?_⟩
     have hg:=hargs.get (i:=t) (v:=u) (v':=args'[t]) (by simpa using hu) (by simp)
     rw [Array.getD_eq_getD_getElem?,Array.getElem?_append_left (by simpa using hlt)]
     simpa [hlt] using hg
    ·rw [if_neg ht] at hu
     simp [Tr.get_e] at hu
  have fin : ∀ e st',mG P (k + 1) (args.length + (fn.ntmps - args.length)) c ⟨gE 0 args .e,hp,nx⟩ = some (e,st') -> (e = .normal ∨ e = .ret) -> (match aBC P st'.hp st'.tm fn with | some v=>some (v,st'.hp,st'.nx) | none=>none) = some (v,hp',nx') ->
    Calls P f args'.toArray w fun e w'=>∃ v' ρ',e = .returned v' /\ VR ρ' v v' /\ Rel ρ' W hp' nx' w' /\ Step ρ ρ' hp hp' nx nx':=by
   intro e st' hac he hr
   split at hr
   case h_2=>cases hr
   rename_i u hu
   cases hr
   refine calls_of_wp hfn hc (codes _ _ c _ e st' hac ρ _ w _ start fun a' w' ρ' g1 g2=>?_)
   obtain ⟨v',r1,r2⟩:=lX g1.rel g1.frame hu
   rcases he with rfl | rfl
   ·exact ⟨g1.frame.defers,v',r1,v',ρ',rfl,r2,g1.rel.unbare,g2⟩
   ·exact ⟨g1.frame.defers,v',r1,v',ρ',rfl,r2,g1.rel.unbare,g2⟩
  split at h
  ·rename_i st' hac
   exact fin _ st' hac (.inl rfl) h
  ·rename_i st' hac
   exact fin _ st' hac (.inr rfl) h
  ·cases h
def aHp (P : Program) (k f : Nat) : Bool :=
 match aCj P k f [] .e 0 with
 | some (.bool b,_)=>b
 | _=>false
def pIf (b : Bool) (X Y : Prop) : Prop:=Bool.rec (motive:=fun _=>Prop) Y X b
theorem aE {b : Bool} {X Y : Prop} (h1 : b = true -> X) (h2 : b = false -> Y) : pIf b X Y:=by
 cases b with
 | true=>exact h1 rfl
 | false=>exact h2 rfl
theorem aMz {X Y : Prop} (h : pIf true X Y) : X:=h
theorem aJJ {X Y : Prop} (h : pIf false X Y) : Y:=h
@[simp] theorem vL (b : Bool) (X Y : Prop) : pIf b X Y ↔ (b = true -> X) /\ (b = false -> Y):=by
 cases b
 ·exact ⟨fun h=>⟨fun e=>(by cases e),fun _=>h⟩,fun h=>h.2 rfl⟩
 ·exact ⟨fun h=>⟨fun _=>h,fun e=>(by cases e)⟩,fun h=>h.1 rfl⟩
def oJ (v : Value) (F : Value -> Prop) : Prop :=
 match v with
 | .bool b=>pIf b (F (.bool true)) (F (.bool false))
 | v=>F v
theorem iY {v : Value} {F : Value -> Prop} (h : oJ v F) : F v:=by
 cases v <;> try exact h
 rename_i b
 cases b <;> exact h
abbrev bH:=FuncId -> List Value -> Tr AObj -> Nat -> (Value -> Bool -> Tr AObj -> Nat -> Prop) -> Prop
def aW (P : Program) (vc : bH) : Prop :=
 ∀ f args hp nx K,vc f args hp nx K -> ∀ (W : Base) ρ w args',Rel ρ W hp nx w -> VRL ρ args args' ->
  Calls P f args'.toArray w fun e w'=>∃ v c hp' nx' v' ρ',K v c hp' nx' /\ (c = false -> hp' = hp) /\ e = .returned v' /\ VR ρ' v v' /\ Rel ρ' W hp' nx' w' /\ Step ρ ρ' hp hp' nx nx'
def aH1 (P : Program) (hp : Tr AObj) (t : TypeId) (x v : Value) : Option (Tr AObj × Prop) :=
 match x with
 | .pointer (some ⟨b,o,none⟩)=>match hp.get b with
  | some (.cells l true)=>match aF P (sizeOf t) with
   | some z=>bif v.cells.size.beq z && v.cells.toList.all single then some (hp.put b (some (.cells (cP l o v.cells.toList) true)),o + z <= l.length) else none
   | none=>none
  | _=>none
 | _=>none
theorem aJq {P : Program} {hp hp' : Tr AObj} {t : TypeId} {x v : Value} {ob : Prop} (h : aH1 P hp t x v = some (hp',ob)) (hob : ob) : xI P hp t x v = some hp':=by
 unfold aH1 at h
 split at h
 case h_2=>cases h
 rename_i b o
 split at h
 case h_2=>cases h
 rename_i l hb
 split at h
 case h_2=>cases h
 rename_i z hz
 cases hc : v.cells.size.beq z && v.cells.toList.all single with
 | false=>rw [hc] at h; cases h
 | true =>
  rw [hc] at h
  cases h
  simp only [Bool.and_eq_true] at hc
  unfold xI
  dsimp only
  rw [hb]
  dsimp only
  rw [hz]
  dsimp only
  rw [hc.1,hc.2,Nat.ble_eq_true_of_le hob]
  rfl
def aNk (hp : Tr AObj) (x : Value) (isString : Bool) (K : Value -> Tr AObj -> Prop) : Prop :=
 match x,isString with
 | .pointer (some ⟨b,0,none⟩),true=>match hp.get b with
  | some (.iter s pos)=>pIf (decide (pos < s.size)) (K (.tuple #[.bool true,goInt pos,.int .i32 (Utf8.decode s pos).1]) (hp.put b (some (.iter s (pos + (Utf8.decode s pos).2))))) (K (.tuple #[.bool false]) hp)
  | _=>False
 | _,_=>False
theorem aMQ {hp : Tr AObj} {x : Value} {q : Bool} {K : Value -> Tr AObj -> Prop} (h : aNk hp x q K) : ∃ v hp',aFv hp x q = some (v,hp') /\ K v hp':=by
 unfold aNk at h
 split at h
 case h_2=>exact h.elim
 rename_i b
 split at h
 case h_2=>exact h.elim
 rename_i s pos hb
 unfold aFv
 simp only [hb]
 by_cases hlt : pos < s.size
 ·rw [decide_eq_true hlt] at h
  have : pos.blt s.size = true:=Nat.ble_eq_true_of_le hlt
  rw [this]
  exact ⟨_,_,rfl,h⟩
 ·rw [decide_eq_false hlt] at h
  have : pos.blt s.size = false:=by
   cases hb : pos.blt s.size with
   | false=>rfl
   | true=>exact absurd (Nat.le_of_ble_eq_true hb) hlt
  rw [this]
  exact ⟨_,_,rfl,h⟩
def sSrc (hp : Tr AObj) (size : Nat) : Value -> Option (Nat × List Value × Prop)
 | .slice none 0 _=>some (0,[],True)
 | .slice (some ⟨b,o,none⟩) n _=>match hp.get b with
  | some (.cells l _)=>some (n,(l.drop o).take (n * size),o + n * size <= l.length)
  | _=>none
 | .string s=>some (s.size,(eG s).toList,True)
 | .func (.via sz _ n false) els _=>bif sz.beq size then some (n,els.toList.flatMap (fun u=>u.cells.toList),True) else none
 | _=>none
theorem vN (n : Nat) : n.beq n = true:=Nat.beq_refl n
theorem aOV {hp : Tr AObj} {size n : Nat} {x : Value} {l : List Value} {ob : Prop} (h : sSrc hp size x = some (n,l,ob)) (hob : ob) : qY x = some n /\ (n ≠ 0 -> mI hp size n x = some l):=by
 unfold sSrc at h
 split at h
 ·cases h; exact ⟨rfl,fun h=>absurd rfl h⟩
 ·rename_i b o m cp
  split at h
  case h_2=>cases h
  rename_i l0 wr hb
  cases h
  refine ⟨rfl,fun hn=>?_⟩
  have : n.beq 0 = false:=by cases n with
   | zero=>exact absurd rfl hn
   | succ n=>rfl
  unfold mI
  rw [this]
  dsimp only
  rw [cond_false]
  unfold iN
  rw [hb]
  dsimp only
  rw [Nat.ble_eq_true_of_le hob,cond_true]
 ·rename_i s
  cases h
  refine ⟨rfl,fun _=>?_⟩
  unfold mI eG
  dsimp only
  congr 2
  rw [ByteArray.extract_zero_size]
 ·rename_i sz pth m els cp
  cases hc : sz.beq size with
  | false=>rw [hc] at h; cases h
  | true =>
   rw [hc] at h
   cases h
   refine ⟨rfl,fun _=>?_⟩
   unfold mI
   dsimp only
   rw [hc,vN]
   rfl
 ·cases h
def aDf (P : Program) (hp : Tr AObj) (nx : Nat) (argTypes : Array TypeId) (args : Array Value) (K : Value -> Tr AObj -> Nat -> Prop) : Prop :=
 match argTypes[0]?,(args[0]? : Option Value),(args[1]? : Option Value) with
 | some t,some (.slice base sLen sz),some x=>match P.underlying t with
  | some (.slice elem)=>match aF P (sizeOf elem),aF P (typeInfo elem),aF P (zeroValue elem) with
   | some size,some info,some zero=>match sSrc hp size x with
    | some (n,new,ob)=>bif sT P argTypes[1]? && zero.cells.size.beq size && info.bytes.ble (2 ^ 20) then
      ob /\ pIf (n.beq 0) ((base.isSome || sLen.ble sz) = true /\ K (.slice base sLen sz) hp nx)
       (sLen + n <= 2 ^ 25 /\ new.all single = true /\ new.length = n * size /\ (match base with
        | none=>bif sLen.beq 0 && sz.beq 0 then K (.slice (some ⟨nx,0,none⟩) n size) (hp.put nx (some (.cells new true))) (nx + 1) else False
        | some ⟨b,o,none⟩=>match hp.get b with
         | some (.cells l true)=>bif sz.beq size then o + sLen * size = l.length /\ K (.slice (some ⟨nx,0,none⟩) (sLen + n) size) ((hp.put b none).put nx (some (.cells (l.drop o ++ new) true))) (nx + 1) else False
         | _=>False
        | _=>False))
     else False
    | none=>False
   | _,_,_=>False
  | _=>False
 | _,_,_=>False
theorem aHB {P : Program} {hp : Tr AObj} {nx : Nat} {argTypes : Array TypeId} {args : Array Value} {K : Value -> Tr AObj -> Nat -> Prop} (h : aDf P hp nx argTypes args K) :
  ∃ v hp' nx',uV P hp nx argTypes args = some (v,hp',nx') /\ K v hp' nx':=by
 unfold aDf at h
 split at h
 case h_2=>exact h.elim
 rename_i t base sLen sz x ht h0 h1
 split at h
 case h_2=>exact h.elim
 rename_i elem hu
 split at h
 case h_2=>exact h.elim
 rename_i size info zero hz hi hzv
 split at h
 case h_2=>exact h.elim
 rename_i n new ob hsrc
 cases hc : sT P argTypes[1]? && zero.cells.size.beq size && info.bytes.ble (2 ^ 20) with
 | false=>rw [hc] at h; exact h.elim
 | true =>
  rw [hc,cond_true] at h
  simp only [Bool.and_eq_true] at hc
  obtain ⟨⟨c1,c2⟩,c3⟩:=hc
  obtain ⟨hob,h⟩:=h
  obtain ⟨g1,g2⟩:=aOV hsrc hob
  unfold uV
  rw [ht,h0,h1]
  dsimp only
  rw [hu,g1]
  dsimp only
  rw [hz]
  dsimp only
  rw [c1,cond_true]
  cases hn : n.beq 0 with
  | true =>
   rw [hn] at h
   have h:=aMz h
   rw [cond_true,h.1]
   exact ⟨_,_,_,rfl,h.2⟩
  | false =>
   rw [hn] at h
   replace h:=aJJ h
   obtain ⟨k1,k2,k3,h⟩:=h
   have hn0 : n ≠ 0:=fun e=>by subst e; cases hn
   rw [cond_false,hi,hzv,g2 hn0]
   dsimp only
   rw [c2,Nat.ble_eq_true_of_le k1,c3,k2,show new.length.beq (n * size) = true by rw [k3]; exact vN _]
   simp only [Bool.and_self,cond_true]
   split at h
   ·cases hc : sLen.beq 0 && sz.beq 0 with
    | false=>rw [hc] at h; exact h.elim
    | true=>rw [hc] at h; exact ⟨_,_,_,rfl,h⟩
   ·rename_i b o
    split at h
    case h_2=>exact h.elim
    rename_i l hb
    cases hc : sz.beq size with
    | false=>rw [hc] at h; exact h.elim
    | true =>
     rw [hc,cond_true] at h
     dsimp only
     rw [hb]
     dsimp only
     have hrow : iN hp b o (sLen * size) = some (l.drop o):=by
      unfold iN
      rw [hb]
      dsimp only
      rw [Nat.ble_eq_true_of_le (Nat.le_of_eq h.1),cond_true]
      congr 1
      rw [List.take_of_length_le]
      rw [List.length_drop]
      omega
     rw [hrow]
     exact ⟨_,_,_,rfl,h.2⟩
   ·exact h.elim
def kX (P : Program) (vc : bH) (hp : Tr AObj) (nx : Nat) (o : Oper) (ev : Operand -> Option Value) (K : Value -> Bool -> Tr AObj -> Nat -> Prop) : Prop :=
 match o.op with
 | .store t x y=>match ev x,ev y with
  | some p,some v=>match aH1 P hp t p v with
   | some (hp',ob)=>ob /\ K undef true hp' nx
   | none=>False
  | _,_=>False
 | .next x q=>match ev x with
  | some p=>aNk hp p q fun v hp'=>K v true hp' nx
  | none=>False
 | .call c=>match c.callee with
  | .builtin .append=>match evL ev c.args.toList with
   | some args=>aDf P hp nx c.argTypes args.toArray fun v hp' nx'=>K v true hp' nx'
   | none=>False
  | .value f=>match ev f,evL ev c.args.toList with
   | some (.func (.func k) first captured),some args=>bif nF P k then vc k (first.toList ++ args ++ captured.toList) hp nx K else (match aAT P c ev with
    | some (v,ob)=>ob /\ K v false hp nx
    | none=>False)
   | _,_=>False
  | _=>False
 | _=>False
theorem oX {P : Program} {vc : bH} {ρ : Place} {W : Base} (hcall : aW P vc) {hp : Tr AObj} {nx : Nat} {w : World} (h : Rel ρ W hp nx w) {ev : Operand -> Option Value} {a : Act} (hF : ERel ρ ev a) {o : Oper} {K : Value -> Bool -> Tr AObj -> Nat -> Prop}
  (hs : kX P vc hp nx o ev K) {next : Act -> World -> Prop} {Q : Exit -> Act -> World -> Prop}
  (hk : ∀ v c hp' nx' v' w' ρ',K v c hp' nx' -> (c = false -> hp' = hp) -> VR ρ' v v' -> Rel ρ' W hp' nx' w' -> Step ρ ρ' hp hp' nx nx' -> next (a.put o.dst v') w') : o.wp P a w next Q:=by
 obtain ⟨dst,op,type,pos,after,guard⟩:=o
 unfold kX at hs
 unfold Oper.wp
 cases op <;> dsimp only at hs <;> try (exact hs.elim)
 case store t x y =>
  split at hs
  case h_2=>exact hs.elim
  rename_i p u hx hy
  split at hs
  case h_2=>exact hs.elim
  rename_i hq ob hst
  obtain ⟨w',h1,h2,h3⟩:=uA h (hF.eval hx) (hF.eval hy) (aJq hst hs.1)
  have : (execOp a.eval ⟨dst,.store t x y,type,pos,after,guard⟩).run P w = .ok .skip w':=by
   show ((Instr.storeAt t (a.eval x) (a.eval y)) >>= fun _=>pure Next.skip).run P w = _
   rw [Sem.run_bind,h1,Result.andThen_ok]
   rfl
  rw [this]
  exact hk undef _ _ _ undef w' ρ hs.2 (fun e=>by cases e) (cJ (by simp [undef,dK])) h2 h3
 case next x q =>
  split at hs
  case h_2=>exact hs.elim
  rename_i p hx
  obtain ⟨v,hp',hst,hK⟩:=aMQ hs
  obtain ⟨v',w',h1,h2,h3,h4⟩:=yA (P:=P) (t:=type) h (hF.eval hx) hst
  have : (execOp a.eval ⟨dst,.next x q,type,pos,after,guard⟩).run P w = .ok (.value v') w':=cF h1
  rw [this]
  exact hk v _ _ _ v' w' ρ hK (fun e=>by cases e) h2 h3 h4
 case call c =>
  obtain ⟨callee,args,argTypes⟩:=c
  dsimp only at hs
  split at hs
  ·split at hs
   case h_2=>exact hs.elim
   rename_i as0 has
   have hA:=(fB hF has).arr
   have e1 : (args.toList.map a.eval).toArray = args.map a.eval:=by apply Array.ext'; simp
   rw [e1] at hA
   obtain ⟨v,hp',nx',hs',hK⟩:=aHB hs
   obtain ⟨v',w',ρ',h1,h2,h3,h4⟩:=sB (P:=P) (ty:=type) h hA hs'
   have : (execOp a.eval ⟨dst,.call ⟨.builtin .append,args,argTypes⟩,type,pos,after,guard⟩).run P w = .ok (.value v') w':=by
    show ((Builtin.append_ argTypes type (args.map a.eval)) >>= fun r=>pure (Next.value r)).run P w = _
    exact cF h1
   rw [this]
   exact hk v _ _ _ v' w' ρ' hK (fun e=>by cases e) h2 h3 h4
  ·rename_i f
   split at hs
   case h_2=>exact hs.elim
   rename_i k first captured as0 hf has
   cases he : nF P k with
   | false =>
    rw [he,cond_false] at hs
    split at hs
    case h_2=>exact hs.elim
    rename_i v ob hx
    obtain ⟨v',e,hv⟩:=aAQ (P:=P) hF (o:=⟨dst,.call ⟨.value f,args,argTypes⟩,type,pos,after,guard⟩) rfl hx hs.1 w
    rw [e]
    exact hk v false _ _ v' w ρ hs.2 (fun _=>rfl) hv h (.refl _ _ _)
   | true =>
    rw [he,cond_true] at hs
    have hfv:=hF.eval hf
    generalize hE : a.eval f = E at hfv
    cases hfv
    rename_i first' captured' s1 v1 s2 v2
    have hA:=fB hF has
    have hL:=((VRA.list ⟨s1,v1⟩).append hA).append (VRA.list ⟨s2,v2⟩)
    have hc:=hcall k _ hp nx K hs W ρ w _ h hL
    have e2 : (first'.toList ++ args.toList.map a.eval ++ captured'.toList).toArray = first' ++ args.map a.eval ++ captured':=by apply Array.ext'; simp
    rw [e2] at hc
    have : (execOp a.eval ⟨dst,.call ⟨.value f,args,argTypes⟩,type,pos,after,guard⟩).run P w = .ok (.enter k (first' ++ args.map a.eval ++ captured')) w:=by
     unfold execOp
     simp only [resolve,hE]
     show (callFunc k (first' ++ args.map a.eval ++ captured')).run P w = _
     exact fI (oS he _) w
    rw [this]
    refine hc.mono ?_
    rintro e w' ⟨v,c,hp',nx',v',ρ',hK,hc,rfl,h2,h3,h4⟩
    exact hk v c _ _ v' w' ρ' hK hc h2 h3 h4
  ·exact hs.elim
abbrev pt (n : Nat) : Value:=.pointer (some ⟨n,0,none⟩)
abbrev vi (n : Int) : Value:=.int .i64 n
abbrev vs (s : ByteArray) : Value:=.string s
abbrev vb (b : Bool) : Value:=.bool b
abbrev e0 : ByteArray:=⟨#[]⟩
abbrev vz : Value:=.string ⟨#[]⟩
abbrev nS : Value:=.slice none 0 0
abbrev w64 (n : Int) : Int:=IntKind.wrap IntKind.i64 n
abbrev T2 (X : Prop) : Prop:=True /\ True /\ X
abbrev T4 (X : Prop) : Prop:=T2 (T2 X)
abbrev T8 (X : Prop) : Prop:=T4 (T4 X)
abbrev T16 (X : Prop) : Prop:=T8 (T8 X)
abbrev T32 (X : Prop) : Prop:=T16 (T16 X)
end Go.Proofs.YtngginofamlkkaaGreatDoor
noncomputable section
namespace Go.Proofs.YtngginofamlkkaaGreatDoor
open Go Go.RowKit
def qJ (ops : Array Oper) (tm : Tr Value) (o : Oper) (X Y : Prop) : Prop :=
 match o.guard with
 | none=>X
 | some (j,want)=>match (ops[j]?).bind (·.dst) with
  | none=>Y
  | some d=>match tm.get d with
   | some (.bool b)=>Bool.rec (motive:=fun _=>Prop) (pIf b Y X) (pIf b X Y) want
   | some _=>Y
   | none=>False
theorem gX {ops : Array Oper} {tm : Tr Value} {o : Oper} {X Y : Prop} (h : qJ ops tm o X Y) : (gG ops tm o = some true /\ X) ∨ (gG ops tm o = some false /\ Y):=by
 unfold qJ at h
 unfold gG
 cases hg : o.guard with
 | none=>rw [hg] at h; exact .inl ⟨rfl,h⟩
 | some p =>
  obtain ⟨j,want⟩:=p
  rw [hg] at h
  dsimp only at h ⊢
  cases hd : (ops[j]?).bind (·.dst) with
  | none=>rw [hd] at h; exact .inr ⟨rfl,h⟩
  | some d =>
   rw [hd] at h
   dsimp only at h ⊢
   cases hv : tm.get d with
   | none=>rw [hv] at h; exact h.elim
   | some v =>
    rw [hv] at h
    cases v <;> try exact .inr ⟨rfl,h⟩
    rename_i b
    cases want <;> cases b <;> first | exact .inl ⟨rfl,h⟩ | exact .inr ⟨rfl,h⟩
def aC0 (P : Program) (hp : Tr AObj) (ops : Array Oper) (r : Nat) : List Rd -> Prop
 | []=>True
 | rd :: l=>bif bN ops rd.i r then aC0 P hp ops r l else match gR P hp rd.o (aev rd.tm) with
  | some (.val v,ob)=>(v = rd.v /\ ob) /\ aC0 P hp ops r l
  | _=>False
theorem uJ {P : Program} {hp : Tr AObj} {ops : Array Oper} {r : Nat} : ∀ {l : List Rd},aC0 P hp ops r l -> ∀ rd ∈ l,bN ops rd.i r = true ∨ LOk P hp rd.o (aev rd.tm) (.val rd.v)
 | [],_,rd,hm=>by cases hm
 | x :: l,h,rd,hm=>by
  simp only [aC0] at h
  cases hc : bN ops x.i r with
  | true =>
   rw [hc,cond_true] at h
   rcases List.mem_cons.1 hm with rfl | hm
   ·exact .inl hc
   ·exact uJ h rd hm
  | false =>
   rw [hc,cond_false] at h
   split at h
   case h_2=>exact h.elim
   rename_i v ob hv
   rcases List.mem_cons.1 hm with rfl | hm
   ·refine .inr (.inr ⟨ob,?_,h.1.2⟩)
    rw [hv,h.1.1]
   ·exact uJ h.2 rd hm
def pM (P : Program) (vc : bH) (ops : Array Oper) (n : Nat) : Nat -> Array Bool -> AS -> List Rd -> (AS -> Prop) -> Prop
 | 0,listed,st,_,K=>match Region.ready .any ops listed with
  | []=>K st
  | _=>False
 | f + 1,listed,st,rds,K=>match Region.ready .any ops listed with
  | []=>K st
  | r :: rs=>match (r :: rs).find? (oC ops) with
   | some i=>match ops[i]? with
    | some o=>qJ ops st.tm o
      (match gR P st.hp o (aev st.tm) with
      | some (.val v,ob)=>ob /\ oJ v fun v=>match iZ n st.tm o.dst v with
       | some tm'=>pM P vc ops n f (listed.setIfInBounds i true) ⟨tm',st.hp,st.nx⟩ (bif eW o (aev st.tm) then ⟨i,o,st.tm,v⟩ :: rds else rds) K
       | none=>False
      | some (.new b nv,ob)=>match iZ n st.tm o.dst (nv.val st.nx) with
       | some tm'=>bif eW o (aev st.tm) then False else ob /\ pM P vc ops n f (listed.setIfInBounds i true) ⟨tm',st.hp.put st.nx (some b),st.nx + 1⟩ rds K
       | none=>False
      | none=>False)
      (match iZ n st.tm o.dst undef with
      | some tm'=>pM P vc ops n f (listed.setIfInBounds i true) ⟨tm',st.hp,st.nx⟩ rds K
      | none=>False)
    | none=>False
   | none=>match rs with
    | []=>match ops[r]? with
     | some o=>qJ ops st.tm o
       (kX P vc st.hp st.nx o (aev st.tm) fun v c hp' nx'=>oJ v fun v=>match iZ n st.tm o.dst v with
        | some tm'=>Bool.rec (motive:=fun _=>Prop) True (aC0 P hp' ops r rds) c /\ pM P vc ops n f (listed.setIfInBounds r true) ⟨tm',hp',nx'⟩ rds K
        | none=>False)
       (match iZ n st.tm o.dst undef with
       | some tm'=>pM P vc ops n f (listed.setIfInBounds r true) ⟨tm',st.hp,st.nx⟩ rds K
       | none=>False)
     | none=>False
    | _=>False
theorem uR {P : Program} {vc : bH} {hp : Tr AObj} {nx : Nat} {o : Oper} {ev ev' : Operand -> Option Value} {K : Value -> Bool -> Tr AObj -> Nat -> Prop} (h : ∀ x ∈ o.op.operands,ev x = ev' x) : kX P vc hp nx o ev K = kX P vc hp nx o ev' K:=by
 obtain ⟨dst,op,type,pos,after,guard⟩:=o
 unfold kX
 cases op <;> dsimp only
 case store t x y=>rw [h x (by simp [Op.operands]),h y (by simp [Op.operands])]
 case next x q=>rw [h x (by simp [Op.operands])]
 case call c =>
  obtain ⟨callee,args,argTypes⟩:=c
  dsimp only
  have hA : evL ev args.toList = evL ev' args.toList:=iW fun x hx=>h x (by simp [Op.operands,Call.operands]; exact .inr (by simpa using hx))
  split
  ·rw [hA]
  ·rename_i f
   have hX : aAT P ⟨.value f,args,argTypes⟩ ev = aAT P ⟨.value f,args,argTypes⟩ ev':=zU fun x hx=>h x (by simp [Op.operands,Call.operands,hx])
   rw [hA,h f (by simp [Op.operands,Call.operands]),hX]
  ·rfl
section
variable {P : Program} {W : Base} {ops : Array Oper} {n : Nat} {st0 : AS} {ρ0 : Place} {Q : Exit -> Act -> World -> Prop}
theorem aHb {vc : bH} (hcall : aW P vc) (hD : eU ops = true) {K : AS -> Prop} (hQ : ∀ st,K st -> ∀ a' w' ρ',SRel ρ' W n st a' w' -> Step ρ0 ρ' st0.hp st.hp st0.nx st.nx -> Q .normal a' w') :
  ∀ (m f : Nat) (C : Array Bool) (st : AS) (rds : List Rd) (I : Info) (L : Array Bool) (a : Act) (w : World) (ρ : Place),unl ops L <= m -> Inv P W ops n st0 ρ0 C st rds I L a w ρ -> pM P vc ops n f C st rds K -> wpAny P .any ops Q m L a w:=by
 intro m
 induction m with
 | zero =>
  intro f C st rds I L a w ρ hm h hs
  have hr : Region.ready .any ops L = []:=by
   have hnil : ((List.range ops.size).filter fun i=>!L.getD i true) = []:=List.eq_nil_of_length_eq_zero (Nat.le_zero.1 hm)
   apply List.eq_nil_iff_forall_not_mem.2
   intro j hj
   obtain ⟨h1,o,h2,h3⟩:=mem_ready.1 hj
   have : j ∈ ((List.range ops.size).filter fun i=>!L.getD i true):=by
    simp only [List.mem_filter,List.mem_range]
    exact ⟨(Array.getElem?_eq_some_iff.1 h2).1,by rw [h1]; rfl⟩
   rw [hnil] at this
   cases this
  have hall:=h.all hD hr
  have hallI : ∀ i,i < ops.size -> In L i:=fun i hi=>Classical.byContradiction fun hn=>by
   have : i ∈ ((List.range ops.size).filter fun i=>!L.getD i true):=by
    simp only [List.mem_filter,List.mem_range]
    exact ⟨hi,by rw [fK (by rw [h.ls]; exact hi) hn]; rfl⟩
   rw [List.eq_nil_of_length_eq_zero (Nat.le_zero.1 hm)] at this
   cases this
  have hrC : Region.ready .any ops C = []:=by
   apply List.eq_nil_iff_forall_not_mem.2
   intro j hj
   obtain ⟨h1,o,h2,h3⟩:=mem_ready.1 hj
   exact (fC h1).2 (h.sub j (hallI j (Array.getElem?_eq_some_iff.1 h2).1))
  have hst : K st:=by
   cases f with
   | zero=>simp only [pM,hrC] at hs; exact hs
   | succ f=>simp only [pM,hrC] at hs; exact hs
  exact ⟨hr,hQ st hst a w ρ (h.done hall) h.step⟩
 | succ m ihm =>
  intro f
  induction f with
  | zero =>
   intro C st rds I L a w ρ hm h hs
   have hs0:=hs
   simp only [pM] at hs
   split at hs
   case h_2=>exact hs.elim
   rename_i hrC
   refine ⟨fun hr=>hQ st hs a w ρ (h.done (h.all hD hr)) h.step,fun j hj=>?_⟩
   obtain ⟨h1,h2,h3,o,h4,h5⟩:=jL h.cs h.sub hj
   rw [hrC] at h1
   have hjC:=h1.resolve_right (by simp)
   refine wpOp_mono ?_ (h.run hD h4 hjC h2 h5)
   rintro a' w' ⟨ρ',h'⟩
   refine ihm 0 C _ rds I _ a' w' ρ' ?_ h' hs0
   have:=lH (ops:=ops) (L:=L) h3 h.ls (mem_ready.1 hj).1
   omega
  | succ f ihf =>
   intro C st rds I L a w ρ hm h hs
   have pending : ∀ j,j ∈ Region.ready .any ops L -> In C j -> ∀ o,ops[j]? = some o -> (∀ e ∈ o.after,Region.binds .any e = true -> In L e.on) -> wpOp P ops Q j (wpAny P .any ops Q m (L.setIfInBounds j true)) a w:=by
    intro j hj hjC o ho hall
    refine wpOp_mono ?_ (h.run hD ho hjC (fC (mem_ready.1 hj).1).2 hall)
    rintro a' w' ⟨ρ',h'⟩
    refine ihm (f + 1) C st rds I _ a' w' ρ' ?_ h' hs
    have:=lH (ops:=ops) (L:=L) (Array.getElem?_eq_some_iff.1 ho).1 h.ls (mem_ready.1 hj).1
    omega
   have hs0:=hs
   simp only [pM] at hs
   split at hs
   ·rename_i hrC
    refine ⟨fun hr=>hQ st hs a w ρ (h.done (h.all hD hr)) h.step,fun j hj=>?_⟩
    obtain ⟨h1,h2,h3,o,h4,h5⟩:=jL h.cs h.sub hj
    rw [hrC] at h1
    exact pending j hj (h1.resolve_right (by simp)) o h4 h5
   ·rename_i r rs hrC
    split at hs
    ·rename_i i hf
     have him : i ∈ Region.ready .any ops C:=by rw [hrC]; exact List.mem_of_find?_eq_some hf
     have hil:=List.find?_some hf
     obtain ⟨g1,o,g2,g3⟩:=mem_ready.1 him
     have hnC:=(fC g1).2
     have hh : eC o.op = false:=by
      unfold oC at hil
      rw [g2] at hil
      simpa using hil
     rw [g2] at hs
     dsimp only at hs
     rcases gX hs with ⟨hw,hs⟩ | ⟨hw,hs⟩
     ·split at hs
      ·rename_i v ob hv
       obtain ⟨hob,hs⟩:=hs
       replace hs:=iY hs
       split at hs
       case h_2=>exact hs.elim
       rename_i tm' ht
       refine ihf _ ⟨tm',st.hp,st.nx⟩ _ (I.set i st.tm v none) L a w ρ hm (h.absorb hD g2 hnC g3 hh (st':=⟨tm',st.hp,st.nx⟩) (v:=v) (B:=none) ht h.rel (fun _ _ h=>h) (Nat.le_refl _) h.step (fun b hb=>by cases hb) (fun I' e1 e2 e3=>.inr (.inl ⟨by rw [e1]; exact hw,.inr ⟨ob,by rw [e1,e2]; exact hv,hob⟩,e3⟩)) ?_ ?_) hs
       ·intro x hx
        cases eW o (aev st.tm) <;> simp [hx]
       ·intro _ hrd
        rw [hrd]
        simp
      ·rename_i ob nv obp hv
       split at hs
       case h_2=>exact hs.elim
       rename_i tm' ht
       cases hrd : eW o (aev st.tm) with
       | true=>rw [hrd] at hs; exact hs.elim
       | false =>
        rw [hrd,cond_false] at hs
        obtain ⟨hob,hs⟩:=hs
        refine ihf _ ⟨tm',st.hp.put st.nx (some ob),st.nx + 1⟩ _ (I.set i st.tm (nv.val st.nx) (some st.nx)) L a w ρ hm (h.absorb hD g2 hnC g3 hh (st':=⟨tm',st.hp.put st.nx (some ob),st.nx + 1⟩) (v:=nv.val st.nx) (B:=some st.nx) ht (h.rel.reserve ob) ?_ (Nat.le_succ _) ?_ (fun b hb=>by cases hb; exact Nat.le_refl _) (fun I' e1 e2 e3=>?_) (fun _ h=>h) (fun _ h'=>by rw [hrd] at h'; cases h')) hs
        ·intro b x hb
         have : b ≠ st.nx:=fun e=>by rw [e,h.rel.fresh _ (Nat.le_refl _)] at hb; cases hb
         rw [Tr.get_put,if_neg this]
         exact hb
        ·exact ⟨h.step.le,Nat.le_succ_of_le h.step.more,fun b hb hr=>by
          have:=h.step.old b hb hr
          refine ⟨this.1,?_⟩
          rw [Tr.get_put,if_neg (by have:=h.step.more; omega)]
          exact this.2⟩
        ·refine .inr (.inr ⟨by rw [e1]; exact hw,by rw [e1]; exact hrd,ob,nv,st.nx,?_,e2,e3,by simp,h.step.more,h.rel.dom_none,by rw [Tr.get_put,if_pos rfl]⟩)
         rw [e1]
         exact LOk.still (hp:=st.hp) hrd (.inr ⟨obp,hv,hob⟩)
      ·exact hs.elim
     ·split at hs
      case h_2=>exact hs.elim
      rename_i tm' ht
      exact ihf _ ⟨tm',st.hp,st.nx⟩ _ (I.set i st.tm undef none) L a w ρ hm (h.absorb hD g2 hnC g3 hh (st':=⟨tm',st.hp,st.nx⟩) (v:=undef) (B:=none) ht h.rel (fun _ _ h=>h) (Nat.le_refl _) h.step (fun b hb=>by cases hb) (fun I' e1 e2 e3=>.inl ⟨by rw [e1]; exact hw,e2,e3⟩) (fun _ h=>h) (fun h'=>by rw [hw] at h'; cases h')) hs
    ·split at hs
     case h_2=>exact hs.elim
     split at hs
     case h_2=>exact hs.elim
     rename_i o ho
     have hrm : r ∈ Region.ready .any ops C:=by rw [hrC]; simp
     obtain ⟨g1,o',g2,g3⟩:=mem_ready.1 hrm
     rw [ho] at g2
     cases g2
     have hnC:=(fC g1).2
     refine ⟨fun hr=>?_,fun j hj=>?_⟩
     ·exfalso
      have hall:=h.all hD hr
      have : r ∈ Region.ready .any ops L:=mem_ready.2 ⟨fK (by rw [h.ls]; exact (Array.getElem?_eq_some_iff.1 ho).1) (fun h'=>hnC (h.sub r h')),o,ho,fun e he hb=>hall _ (g3 e he hb)⟩
      rw [hr] at this
      cases this
     ·obtain ⟨h1,h2,h3,oj,h4,h5⟩:=jL h.cs h.sub hj
      rcases h1 with h1 | h1
      ·exact pending j hj h1 oj h4 h5
      ·rw [hrC] at h1
       have hjr : j = r:=by simpa using h1
       subst hjr
       rw [ho] at h4
       cases h4
       have hlk:=h.heavyLook hD ho hnC g3 h5
       obtain ⟨ev',he1,he2⟩:=kE hlk
       have fin : ∀ (st' : AS) (a' : Act) (w' : World),(∃ ρ' I',Inv P W ops n st0 ρ0 (C.setIfInBounds j true) st' rds I' (L.setIfInBounds j true) a' w' ρ') -> pM P vc ops n f (C.setIfInBounds j true) st' rds K -> wpAny P .any ops Q m (L.setIfInBounds j true) a' w':=by
        rintro st' a' w' ⟨ρ',I',h'⟩ hs'
        refine ihm f _ st' rds I' _ a' w' ρ' ?_ h' hs'
        have:=lH (ops:=ops) (L:=L) h3 h.ls (mem_ready.1 hj).1
        omega
       unfold wpOp
       simp only [ho]
       rcases gX hs with ⟨hw,hs⟩ | ⟨hw,hs⟩
       ·rw [dL h.size hlk hw,if_pos rfl]
        rw [uR he2] at hs
        refine .inl (oX hcall h.rel he1 hs fun v c hp' nx' v' w' ρ' hK hch q1 q2 q3=>?_)
        replace hK:=iY hK
        split at hK
        case h_2=>exact hK.elim
        rename_i tm' ht
        exact fin ⟨tm',hp',nx'⟩ _ _ (h.heavyFin hD ho hnC g3 h5 (st':=⟨tm',hp',nx'⟩) (by
         cases c with
         | false=>exact .inl (hch rfl)
         | true=>exact .inr (uJ hK.1)) v v' w' ρ' ht q1 q2 q3) hK.2
       ·rw [dL h.size hlk hw,if_neg (by simp)]
        split at hs
        case h_2=>exact hs.elim
        rename_i tm' ht
        exact fin ⟨tm',st.hp,st.nx⟩ _ _ (h.heavyFin hD ho hnC g3 h5 (st':=⟨tm',st.hp,st.nx⟩) (.inl rfl) undef undef w ρ ht (cJ (by simp [undef,dK])) h.rel (.refl _ _ _)) hs
end
end Go.Proofs.YtngginofamlkkaaGreatDoor

noncomputable section
namespace Go.Proofs.YtngginofamlkkaaGreatDoor
open Go Go.RowKit
set_option maxRecDepth 100000
set_option maxHeartbeats 8000000
def aQE : Value -> Bool
 | .bool _ | .int _ _ | .string _=>true
 | .func (.via _ _ _ _) _ _=>true
 | _=>false
theorem aFT {ρ : Place} {v v' : Value} (h : aQE v = true) (hv : VR ρ v v') : VR0 ρ.fr v v':=by
 cases hv <;> first | cases h | skip
 case bool b=>exact .bool b
 case int k n=>exact .int k n
 case string s=>exact .string s
 case tree h1 h2 h3 h4 h5 h6=>exact .tree h1 h2 h3 h4 h5 h6
 case treeNil=>exact .treeNil _ _ _
 case treeAt h1 h2 h3 h4=>exact .treeAt h1 h2 h3 h4
def nl1 : Value -> Bool
 | .bool _ | .int _ _ | .float _ _ | .complex _ _ _ | .string _ | .pointer none | .slice none _ _ | .map none | .chan none | .nilFunc | .nilIface=>true
 | .func (.func _) f c=>f.all aQE && c.isEmpty
 | .func (.via _ _ _ _) _ _=>true
 | .iface _ v=>flat v
 | _=>false
def nl : Value -> Bool
 | .agg c=>c.all nl1
 | v=>nl1 v
def NLs (l : List Value) : Prop:=∀ v ∈ l,nl1 v = true
theorem aFp {ρ : Place} {v v' : Value} (h : flat v = true) (hv : VR ρ v v') : VR0 ρ.fr v v':=by
 have e:=oU h hv
 subst e
 cases v' with
 | bool b=>exact .bool b
 | int k n=>exact .int k n
 | float k n=>exact .float k n
 | complex k n m=>exact .complex k n m
 | string s=>exact .string s
 | pointer a=>cases a with
  | none=>exact .nilPtr
  | some a=>cases h
 | slice a n c=>cases a with
  | none=>exact .nilSlice n c
  | some a=>cases h
 | map r=>cases r with
  | none=>exact .nilMap
  | some r=>cases h
 | chan r=>cases r with
  | none=>exact .nilChan
  | some r=>cases h
 | func fn f c =>
  cases fn <;> try (cases h)
  simp [flat] at h
  obtain ⟨rfl,rfl⟩:=h
  exact .func _ rfl (by simp) rfl (by simp)
 | nilFunc=>exact .nilFunc
 | nilIface=>exact .nilIface
 | iface t v=>cases h
 | agg c=>cases h
 | tuple c=>cases h
theorem fF {ρ : Place} {v v' : Value} (h : nl1 v = true) (hv : VR ρ v v') : VR0 ρ.fr v v':=by
 by_cases hf : flat v = true
 ·exact aFp hf hv
 ·cases v <;> try (first | exact absurd rfl hf | cases h)
  case func fn f c =>
   cases fn <;> try (cases h)
   case func k =>
    simp only [nl1,Bool.and_eq_true] at h
    cases hv with
    | func _ hs hv1 hs2 hv2 =>
     refine .func k hs (fun i v v' a b=>aFT (lK h.1 a) (hv1 i v v' a b)) hs2 fun i v v' a b=>?_
     have hc:=Array.isEmpty_iff.1 h.2
     subst hc
     simp at a
   case via t p n q =>
    cases hv with
    | tree h1 h2 h3 h4 h5 h6=>exact .tree h1 h2 h3 h4 h5 h6
    | treeNil=>exact .treeNil _ _ _
    | treeAt h1 h2 h3 h4=>exact .treeAt h1 h2 h3 h4
  case iface t u =>
   cases hv with
   | iface _ hu=>exact .iface t (aFp h hu)
  case pointer a=>cases a <;> first | exact absurd rfl hf | cases h
  case slice a n c=>cases a <;> first | exact absurd rfl hf | cases h
  case map a=>cases a <;> first | exact absurd rfl hf | cases h
  case chan a=>cases a <;> first | exact absurd rfl hf | cases h
theorem aLb {ρ : Place} {v v' : Value} (h : nl v = true) (hv : VR ρ v v') : VR0 ρ.fr v v':=by
 cases v <;> try exact fF h hv
 case agg c =>
  cases hv with
  | agg hs hc=>exact .agg hs fun i v v' a b=>fF (lK h a) (hc i v v' a b)
def idx (b : Nat) : List (Nat × Bool) -> Nat -> Option Nat
 | [],_=>none
 | x :: l,i=>bif x.1.beq b then some i else idx b l (i + 1)
theorem aIF {b : Nat} : ∀ {l : List (Nat × Bool)} {i j : Nat},idx b l i = some j -> i <= j /\ ∃ k,l[j - i]? = some (b,k)
 | [],i,j,h=>by simp [idx] at h
 | x :: l,i,j,h=>by
  simp only [idx] at h
  cases hx : x.1.beq b with
  | true =>
   rw [hx] at h
   cases h
   have:=Nat.eq_of_beq_eq_true hx
   exact ⟨Nat.le_refl _,x.2,by simp [← this]⟩
  | false =>
   rw [hx,cond_false] at h
   obtain ⟨h1,k,h2⟩:=aIF h
   refine ⟨by omega,k,?_⟩
   rw [show j - i = (j - (i + 1)) + 1 by omega]
   simpa using h2
def aBJ (bl : List (Nat × Bool)) : Value -> Option Value
 | .pointer (some ⟨b,o,none⟩)=>match idx b bl 0 with
  | some i=>some (.pointer (some ⟨i,o,none⟩))
  | none=>none
 | .slice (some ⟨b,o,none⟩) n sz=>match idx b bl 0 with
  | some i=>some (.slice (some ⟨i,o,none⟩) n sz)
  | none=>none
 | .iface t (.pointer (some ⟨b,o,none⟩))=>match idx b bl 0 with
  | some i=>some (.iface t (.pointer (some ⟨i,o,none⟩)))
  | none=>none
 | v=>bif nl1 v then some v else none
def sP (f : Value -> Option Value) : List Value -> Option (List Value)
 | []=>some []
 | v :: l=>match f v,sP f l with
  | some u,some m=>some (u :: m)
  | _,_=>none
def aLm (bl : List (Nat × Bool)) : Value -> Option Value
 | .func (.func k) f c=>match sP (aBJ bl) f.toList,sP (aBJ bl) c.toList with
  | some f',some c'=>some (.func (.func k) f'.toArray c'.toArray)
  | _,_=>none
 | v=>aBJ bl v
def ren (bl : List (Nat × Bool)) : Value -> Option Value
 | .agg c=>match sP (aLm bl) c.toList with
  | some c'=>some (.agg c'.toArray)
  | none=>none
 | v=>aLm bl v
def Place.via (ρ : Place) (bl : List (Nat × Bool)) : Place:=⟨fun i=>match bl[i]? with | some p=>ρ.pl p.1 | none=>none,ρ.fr,ρ.gl⟩
theorem aDj {ρ : Place} {bl : List (Nat × Bool)} {b i : Nat} (h : idx b bl 0 = some i) : (ρ.via bl).pl i = ρ.pl b:=by
 obtain ⟨_,k,hk⟩:=aIF h
 unfold Place.via
 simp at hk
 simp [hk]
theorem mH {ρ : Place} {bl : List (Nat × Bool)} {v u v' : Value} (h : aBJ bl v = some u) (hv : VR ρ v v') : VR (ρ.via bl) u v':=by
 have base : (bif nl1 v then some v else none) = some u -> VR (ρ.via bl) u v':=fun hb=>by
  cases hn : nl1 v with
  | false=>rw [hn] at hb; cases hb
  | true =>
   rw [hn] at hb
   cases hb
   have h0 : VR0 ρ.fr v v':=fF hn hv
   exact VR0.lift (ρ:=ρ.via bl) h0
 cases v <;> try exact base (by exact h)
 case pointer a =>
  cases a with
  | none=>exact base h
  | some a =>
   obtain ⟨b,o,s⟩:=a
   cases s with
   | some s=>exact base h
   | none =>
    simp only [aBJ] at h
    split at h
    ·rename_i i hi
     cases h
     cases hv with
     | ptr hb=>exact .ptr (by rw [aDj hi]; exact hb)
    ·cases h
 case slice a n sz =>
  cases a with
  | none=>exact base h
  | some a =>
   obtain ⟨b,o,s⟩:=a
   cases s with
   | some s=>exact base h
   | none =>
    simp only [aBJ] at h
    split at h
    ·rename_i i hi
     cases h
     cases hv with
     | slice hb h1 h2=>exact .slice (by rw [aDj hi]; exact hb) h1 h2
     | emptySlice a' hb=>exact .emptySlice a' (by rw [aDj hi]; exact hb)
    ·cases h
 case iface t x =>
  cases x <;> try exact base (by exact h)
  rename_i a
  cases a with
  | none=>exact base h
  | some a =>
   obtain ⟨b,o,s⟩:=a
   cases s with
   | some s=>exact base h
   | none =>
    simp only [aBJ] at h
    split at h
    ·rename_i i hi
     cases h
     cases hv with
     | iface _ hv=>cases hv with
      | ptr hb=>exact .iface t (.ptr (by rw [aDj hi]; exact hb))
    ·cases h
theorem mD {ρ ρ' : Place} {f : Value -> Option Value} (hf : ∀ v u v',f v = some u -> VR ρ v v' -> VR ρ' u v') : ∀ {l m l' : List Value},sP f l = some m -> VRL ρ l l' -> VRL ρ' m l'
 | [],m,l',h,hl=>by simp only [sP] at h; cases h; cases hl; exact .nil
 | v :: l,m,l',h,hl=>by
  simp only [sP] at h
  split at h
  case h_2=>cases h
  rename_i u m' h1 h2
  cases h
  cases hl with
  | cons hv hl=>exact .cons (hf v u _ h1 hv) (mD hf h2 hl)
theorem VRL.toVRA {ρ : Place} {l : List Value} {c' : Array Value} (h : VRL ρ l c'.toList) : VRA ρ l.toArray c':=by
 have:=h.arr
 simpa using this
theorem sJ {ρ : Place} {bl : List (Nat × Bool)} {v u v' : Value} (h : aLm bl v = some u) (hv : VR ρ v v') : VR (ρ.via bl) u v':=by
 cases v <;> try exact mH (by exact h) hv
 case func fn f c =>
  cases fn <;> try exact mH (by exact h) hv
  simp only [aLm] at h
  split at h
  case h_2=>cases h
  rename_i f' c' h1 h2
  cases h
  cases hv with
  | func _ s1 r1 s2 r2 =>
   have g1:=(mD (fun _ _ _=>mH) h1 (VRA.list ⟨s1,r1⟩)).toVRA
   have g2:=(mD (fun _ _ _=>mH) h2 (VRA.list ⟨s2,r2⟩)).toVRA
   exact .func _ g1.1 g1.2 g2.1 g2.2
theorem aCd {ρ : Place} {bl : List (Nat × Bool)} {v u v' : Value} (h : ren bl v = some u) (hv : VR ρ v v') : VR (ρ.via bl) u v':=by
 cases v <;> try exact sJ (by exact h) hv
 case agg c =>
  simp only [ren] at h
  split at h
  case h_2=>cases h
  rename_i c' h1
  cases h
  cases hv with
  | agg s r =>
   have g:=(mD (fun _ _ _=>sJ) h1 (VRA.list ⟨s,r⟩)).toVRA
   exact .agg g.1 g.2
def nH (b : Nat) : List (Nat × Bool) -> Bool
 | []=>false
 | x :: l=>bif x.1.beq b then true else nH b l
def aJF (b : Nat) (k : Bool) (l : List (Nat × Bool)) : List (Nat × Bool):=bif nH b l then l else l ++ [(b,k)]
def aCO (l : List (Nat × Bool)) : Value -> List (Nat × Bool)
 | .pointer (some a)=>aJF a.block true l
 | .slice (some a) _ _=>aJF a.block false l
 | .iface _ (.pointer (some a))=>aJF a.block true l
 | _=>l
def qE (l : List (Nat × Bool)) : Value -> List (Nat × Bool)
 | .func (.func _) f c=>c.toList.foldl aCO (f.toList.foldl aCO l)
 | v=>aCO l v
def scan (l : List (Nat × Bool)) : Value -> List (Nat × Bool)
 | .agg c=>c.toList.foldl qE l
 | v=>qE l v
def xU (hp : Tr AObj) : Nat -> Nat -> List (Nat × Bool) -> List (Nat × Bool)
 | 0,_,l=>l
 | f + 1,i,l=>match l[i]? with
  | none=>l
  | some (b,k)=>xU hp f (i + 1) (bif k then match hp.get b with | some (.cells c _)=>c.foldl qE l | _=>l else l)
def oW : List (Nat × Bool) -> Bool
 | []=>true
 | x :: l=>bif nH x.1 l then false else oW l
def aCL : Nat -> Nat -> List (Nat × Bool) -> Bool
 | 0,_,_=>true
 | _ + 1,_,[]=>false
 | n + 1,i,x :: l=>bif x.1.beq i then aCL n (i + 1) l else false
theorem zI {b : Nat} : ∀ {l : List (Nat × Bool)} {i : Nat} {k : Bool},l[i]? = some (b,k) -> nH b l = true
 | [],i,k,h=>by simp at h
 | x :: l,0,k,h=>by simp at h; subst h; simp [nH]
 | x :: l,i + 1,k,h=>by
  simp only [nH]
  cases x.1.beq b with
  | true=>rfl
  | false=>rw [cond_false]; exact zI (l:=l) (i:=i) (k:=k) (by simpa using h)
theorem tG : ∀ {l : List (Nat × Bool)},oW l = true -> ∀ {i j : Nat} {b : Nat} {k k' : Bool},l[i]? = some (b,k) -> l[j]? = some (b,k') -> i = j
 | [],_,i,j,b,k,k',h,_=>by simp at h
 | x :: l,hn,i,j,b,k,k',h1,h2=>by
  simp only [oW] at hn
  cases hm : nH x.1 l with
  | true=>rw [hm] at hn; cases hn
  | false =>
   rw [hm,cond_false] at hn
   cases i with
   | zero =>
    cases j with
    | zero=>rfl
    | succ j =>
     simp at h1 h2
     subst h1
     rw [zI h2] at hm
     cases hm
   | succ i =>
    cases j with
    | zero =>
     simp at h1 h2
     subst h2
     rw [zI h1] at hm
     cases hm
    | succ j =>
     have:=tG hn (by simpa using h1) (by simpa using h2)
     omega
theorem aBU : ∀ {n i : Nat} {l : List (Nat × Bool)},aCL n i l = true -> ∀ j,j < n -> ∃ k,l[j]? = some (i + j,k)
 | 0,i,l,_,j,hj=>by omega
 | n + 1,i,[],h,j,hj=>by simp [aCL] at h
 | n + 1,i,x :: l,h,j,hj=>by
  simp only [aCL] at h
  cases hx : x.1.beq i with
  | false=>rw [hx] at h; cases h
  | true =>
   rw [hx,cond_true] at h
   have:=Nat.eq_of_beq_eq_true hx
   cases j with
   | zero=>exact ⟨x.2,by simp [← this]⟩
   | succ j =>
    obtain ⟨k,hk⟩:=aBU h j (by omega)
    exact ⟨k,by rw [show i + (j + 1) = i + 1 + j by omega]; simpa using hk⟩
def mK (bl : List (Nat × Bool)) (k : Bool) : AObj -> Option (AObj × Prop)
 | .cells l wr=>match k with
  | true=>match sP (aLm bl) l with
   | some m=>some (.cells m wr,True)
   | none=>none
  | false=>some (.cells l wr,NLs l)
 | .iter s p=>some (.iter s p,True)
def mY (bl : List (Nat × Bool)) (hp : Tr AObj) : List (Nat × Bool) -> Option (List (Option AObj) × Prop)
 | []=>some ([],True)
 | (b,k) :: l=>match mY bl hp l with
  | some (os,ob)=>match hp.get b with
   | some o=>match mK bl k o with
    | some (o',ob')=>some (some o' :: os,ob' /\ ob)
    | none=>none
   | none=>some (none :: os,ob)
  | none=>none
def lG : Nat -> List (Option AObj) -> Tr AObj -> Tr AObj
 | _,[],t=>t
 | i,o :: l,t=>lG (i + 1) l (t.put i o)
theorem nD : ∀ (l : List (Option AObj)) (i : Nat) (t : Tr AObj) (j : Nat),(lG i l t).get j = if i <= j /\ j < i + l.length then (l[j - i]?).join else t.get j
 | [],i,t,j=>by simp [lG]; omega
 | o :: l,i,t,j=>by
  simp only [lG,nD l,Tr.get_put,List.length_cons]
  by_cases h : j = i
  ·subst h
   rw [if_neg (by omega),if_pos rfl,if_pos (by omega)]
   simp
  ·by_cases h2 : i + 1 <= j /\ j < i + 1 + l.length
   ·rw [if_pos h2,if_pos (by omega),show j - i = (j - (i + 1)) + 1 by omega]; simp
   ·rw [if_neg h2,if_neg h,if_neg (by omega)]
def zP (bl : List (Nat × Bool)) (tm : Tr Value) : List Nat -> Option (Tr Value)
 | []=>some .e
 | t :: l=>match zP bl tm l with
  | some r=>match tm.get t with
   | some v=>match ren bl v with
    | some u=>some (r.put t (some u))
    | none=>none
   | none=>some r
  | none=>none
def aD9 (tm : Tr Value) : List Nat -> List (Nat × Bool) -> List (Nat × Bool)
 | [],l=>l
 | t :: ts,l=>aD9 tm ts (match tm.get t with | some v=>scan l v | none=>l)
def aLL : Nat -> List Bool -> List (Nat × Bool)
 | _,[]=>[]
 | i,k :: l=>(i,k) :: aLL (i + 1) l
def aM4 (base : List Bool) (ts : List Nat) (st : AS) : Option (AS × Prop) :=
 let bl:=xU st.hp 60 0 (aD9 st.tm ts (aLL 0 base))
 bif oW bl && aCL base.length 0 bl then match zP bl st.tm ts,mY bl st.hp bl with
  | some tm,some (os,ob)=>some (⟨tm,lG 0 os .e,bl.length⟩,ob)
  | _,_=>none
 else none
theorem sI {bl : List (Nat × Bool)} {tm : Tr Value} : ∀ {ts : List Nat} {r : Tr Value},zP bl tm ts = some r -> ∀ t u,r.get t = some u -> ∃ v,tm.get t = some v /\ ren bl v = some u
 | [],r,h,t,u,hu=>by simp only [zP] at h; cases h; simp [Tr.get_e] at hu
 | x :: l,r,h,t,u,hu=>by
  simp only [zP] at h
  split at h
  case h_2=>cases h
  rename_i r0 h0
  split at h
  ·rename_i v hv
   split at h
   case h_2=>cases h
   rename_i u0 hu0
   cases h
   rw [Tr.get_put] at hu
   split at hu
   ·rename_i e
    cases hu
    exact ⟨v,by rw [e]; exact hv,hu0⟩
   ·exact sI h0 t u hu
  ·cases h
   exact sI h0 t u hu
theorem yD {bl : List (Nat × Bool)} {hp : Tr AObj} : ∀ {l : List (Nat × Bool)} {os : List (Option AObj)} {ob : Prop},mY bl hp l = some (os,ob) -> os.length = l.length
 | [],os,ob,h=>by simp only [mY] at h; cases h; rfl
 | (b,k) :: l,os,ob,h=>by
  simp only [mY] at h
  split at h
  case h_2=>cases h
  rename_i os0 ob0 h0
  have:=yD h0
  split at h
  ·split at h
   ·cases h; simp [this]
   ·cases h
  ·cases h; simp [this]
theorem qO {bl : List (Nat × Bool)} {hp : Tr AObj} : ∀ {l : List (Nat × Bool)} {os : List (Option AObj)} {ob : Prop},mY bl hp l = some (os,ob) -> ob -> ∀ (i : Nat) (o : AObj),os[i]? = some (some o) -> ∃ b k o0 ob0,l[i]? = some (b,k) /\ hp.get b = some o0 /\ mK bl k o0 = some (o,ob0) /\ ob0
 | [],os,ob,h,_,i,o,ho=>by simp only [mY] at h; cases h; simp at ho
 | (b,k) :: l,os,ob,h,hob,i,o,ho=>by
  simp only [mY] at h
  split at h
  case h_2=>cases h
  rename_i os0 ob0 h0
  split at h
  ·rename_i o0 hg
   split at h
   case h_2=>cases h
   rename_i o1 ob1 h1
   cases h
   cases i with
   | zero =>
    simp at ho
    subst ho
    exact ⟨b,k,o0,ob1,rfl,hg,h1,hob.1⟩
   | succ i=>simpa using qO h0 hob.2 i o (by simpa using ho)
  ·cases h
   cases i with
   | zero=>simp at ho
   | succ i=>simpa using qO h0 hob i o (by simpa using ho)
theorem aJC {bl : List (Nat × Bool)} {k : Bool} {o o' : AObj} {ob : Prop} (h : mK bl k o = some (o',ob)) : o'.wr = o.wr:=by
 cases o with
 | cells l wr =>
  cases k with
  | true =>
   simp only [mK] at h
   split at h
   ·cases h; rfl
   ·cases h
  | false=>simp only [mK] at h; cases h; rfl
 | iter s p=>simp only [mK] at h; cases h; rfl
theorem aAj {f : Value -> Option Value} : ∀ {l m : List Value},sP f l = some m -> m.length = l.length /\ ∀ (i : Nat) (u : Value),m[i]? = some u -> ∃ v,l[i]? = some v /\ f v = some u
 | [],m,h=>by simp only [sP] at h; cases h; exact ⟨rfl,fun i u hu=>by simp at hu⟩
 | v :: l,m,h=>by
  simp only [sP] at h
  split at h
  case h_2=>cases h
  rename_i u m' h1 h2
  cases h
  obtain ⟨g1,g2⟩:=aAj h2
  refine ⟨by simp [g1],fun i x hx=>?_⟩
  cases i with
  | zero=>simp at hx; subst hx; exact ⟨v,rfl,h1⟩
  | succ i=>simpa using g2 i x (by simpa using hx)
theorem aDo {ρ : Place} {O : Nat -> Prop} {bl : List (Nat × Bool)} {k : Bool} {o o' : AObj} {ob : Prop} {c s z : Nat} {cob : Obj} (h : mK bl k o = some (o',ob)) (hob : ob) (ho : ORel ρ O c s z o cob) : ORel (ρ.via bl) O c s z o' cob:=by
 cases o with
 | iter st p=>simp only [mK] at h; cases h; cases cob <;> exact ho
 | cells l wr =>
  cases cob <;> try exact ho.elim
  obtain ⟨h1,h2,h3,h4,h5⟩:=ho
  cases k with
  | true =>
   simp only [mK] at h
   split at h
   case h_2=>cases h
   rename_i m hm
   cases h
   obtain ⟨g1,g2⟩:=aAj hm
   refine ⟨h1,by rw [g1]; exact h2,h3,fun i u hu=>?_,h5⟩
   obtain ⟨v,hv,hr⟩:=g2 i u hu
   obtain ⟨v',e,hvr⟩:=h4 i v hv
   exact ⟨v',e,sJ hr hvr⟩
  | false =>
   simp only [mK] at h
   cases h
   refine ⟨h1,h2,h3,fun i u hu=>?_,h5⟩
   obtain ⟨v',e,hvr⟩:=h4 i u hu
   have h0 : VR0 ρ.fr u v':=fF (hob u (List.mem_of_getElem? hu)) hvr
   exact ⟨v',e,VR0.lift (ρ:=ρ.via bl) h0⟩
theorem yN {ρ : Place} {W : Base} {n : Nat} {st st' : AS} {a : Act} {w : World} {base : List Bool} {ts : List Nat} {ob : Prop} (h : SRel ρ W n st a w) (hc : aM4 base ts st = some (st',ob)) (hob : ob) :
  ∃ ρ',SRel ρ' W n st' a w /\ ρ'.fr = ρ.fr /\ ∀ b,b < base.length -> ρ'.pl b = ρ.pl b:=by
 unfold aM4 at hc
 dsimp only at hc
 generalize xU st.hp 60 0 (aD9 st.tm ts (aLL 0 base)) = bl at hc
 cases hb : oW bl && aCL base.length 0 bl with
 | false=>rw [hb] at hc; cases hc
 | true =>
  rw [hb,cond_true] at hc
  simp only [Bool.and_eq_true] at hb
  split at hc
  case h_2=>cases hc
  rename_i tm os ob' h1 h2
  cases hc
  have hlen:=yD h2
  have hget : ∀ i o,(lG 0 os .e).get i = some o -> os[i]? = some (some o):=fun i o ho=>by
   rw [nD] at ho
   split at ho
   ·simp only [Nat.sub_zero] at ho
    cases hx : os[i]? with
    | none=>rw [hx] at ho; cases ho
    | some x=>rw [hx] at ho; simp at ho; rw [ho]
   ·simp [Tr.get_e] at ho
  have hvia : ∀ i x,(ρ.via bl).pl i = some x -> ∃ b k,bl[i]? = some (b,k) /\ ρ.pl b = some x:=fun i x hx=>by
   unfold Place.via at hx
   dsimp only at hx
   split at hx
   ·rename_i p hp
    exact ⟨p.1,p.2,hp,hx⟩
   ·cases hx
  have hobj : ∀ i o x,(lG 0 os .e).get i = some o -> (ρ.via bl).pl i = some x -> ∃ b k o0 ob0,bl[i]? = some (b,k) /\ st.hp.get b = some o0 /\ mK bl k o0 = some (o,ob0) /\ ob0 /\ ρ.pl b = some x:=fun i o x ho hx=>by
   obtain ⟨b,k,o0,ob0,g1,g2,g3,g4⟩:=qO h2 hob i o (hget i o ho)
   obtain ⟨b',k',q1,q2⟩:=hvia i x hx
   rw [g1] at q1
   cases q1
   exact ⟨b,k,o0,ob0,g1,g2,g3,g4,q2⟩
  refine ⟨ρ.via bl,⟨⟨fun i x hx=>?_,fun i o c s z ho hx=>?_,fun i j x y o1 o2 g1 g2 hx hy hxy=>?_,fun i hi=>?_,h.rel.below,h.rel.frz,fun i o c s z ho hw hx=>?_,h.rel.frn⟩,h.frame.size,h.frame.defers,fun t u hu=>?_⟩,rfl,fun b hlt=>?_⟩
  ·obtain ⟨b,k,q1,q2⟩:=hvia i x hx
   refine ⟨?_,(h.rel.dom b x q2).2⟩
   rcases Nat.lt_or_ge i bl.length with h' | h'
   ·exact h'
   ·rw [List.getElem?_eq_none h'] at q1; cases q1
  ·obtain ⟨b,k,o0,ob0,q1,q2,q3,q4,q5⟩:=hobj i o _ ho hx
   obtain ⟨cob,e1,e2⟩:=h.rel.obj b o0 c s z q2 q5
   exact ⟨cob,e1,aDo q3 q4 e2⟩
  ·obtain ⟨b,k,o0,ob0,q1,q2,q3,q4,q5⟩:=hobj i o1 _ g1 hx
   obtain ⟨b',k',o0',ob0',r1,r2,r3,r4,r5⟩:=hobj j o2 _ g2 hy
   have e:=h.rel.inj b b' x y o0 o0' q2 r2 q5 r5 hxy
   subst e
   exact tG hb.1 q1 r1
  ·have hi' : bl.length <= i:=hi
   show (lG 0 os .e).get i = none
   rw [nD,if_neg (by omega)]
   exact Tr.get_e i
  ·obtain ⟨b,k,o0,ob0,q1,q2,q3,q4,q5⟩:=hobj i o _ ho hx
   exact h.rel.apart b o0 c s z q2 (by rw [← aJC q3]; exact hw) q5
  ·obtain ⟨v,hv,hr⟩:=sI h1 t u hu
   have:=h.frame.slot t v hv
   exact ⟨this.1,aCd hr this.2⟩
  ·obtain ⟨k,hk⟩:=aBU hb.2 b hlt
   unfold Place.via
   dsimp only
   rw [hk]
   simp
def bP (sz n : Nat) (l : List Value) : Array Value :=
 bif sz.beq 1 then (l.take n).toArray else ((List.range n).map fun i=>Value.agg ((l.drop (i * sz)).take sz).toArray).toArray
theorem xX {sz n : Nat} {l : List Value} (h : n * sz <= l.length) : (bP sz n l).size = n:=by
 unfold bP
 cases hs : sz.beq 1 with
 | true =>
  have:=Nat.eq_of_beq_eq_true hs
  subst this
  simp
  omega
 | false=>simp
theorem oR {sz n : Nat} {l : List Value} (h : n * sz <= l.length) (hl : NLs l) {i : Nat} {u : Value} (hu : (bP sz n l)[i]? = some u) : i < n /\ u.cells.size = sz /\ ∀ (j : Nat) (v : Value),u.cells[j]? = some v -> j < sz /\ l[i * sz + j]? = some v:=by
 unfold bP at hu
 cases hs : sz.beq 1 with
 | true =>
  have:=Nat.eq_of_beq_eq_true hs
  subst this
  rw [hs,cond_true] at hu
  have hu' : (l.take n)[i]? = some u:=by simpa using hu
  rw [List.getElem?_take] at hu'
  split at hu'
  case isFalse=>cases hu'
  rename_i hi
  have hnl:=hl u (List.mem_of_getElem? hu')
  have hc : u.cells = #[u]:=by cases u <;> first | rfl | cases hnl
  refine ⟨hi,by rw [hc]; rfl,fun j v hv=>?_⟩
  rw [hc] at hv
  cases j with
  | zero=>simp at hv; subst hv; exact ⟨by omega,by simpa using hu'⟩
  | succ j=>simp at hv
 | false =>
  rw [hs,cond_false] at hu
  have hu' : ((List.range n).map fun i=>Value.agg ((l.drop (i * sz)).take sz).toArray)[i]? = some u:=by simpa using hu
  rw [List.getElem?_map] at hu'
  have hi : i < n:=by
   rcases Nat.lt_or_ge i n with h' | h'
   ·exact h'
   ·rw [List.getElem?_eq_none (by simpa using h')] at hu'; cases hu'
  rw [List.getElem?_range hi] at hu'
  cases hu'
  have hroom:=aG3 hi h
  refine ⟨hi,by simp [Value.cells]; omega,fun j v hv=>?_⟩
  have hv' : ((l.drop (i * sz)).take sz)[j]? = some v:=by simpa [Value.cells] using hv
  rw [List.getElem?_take] at hv'
  split at hv'
  ·rename_i hj
   rw [List.getElem?_drop] at hv'
   exact ⟨hj,hv'⟩
  ·cases hv'
def Place.freeze (ρ : Place) (c : Nat) (ob : Obj) : Place:=⟨ρ.pl,fun k=>match ρ.fr k with | some o=>some o | none=>if k = c then some ob else none,fun g cs h=>by
 obtain ⟨t,fz,hc⟩:=ρ.gl g cs h
 exact ⟨t,fz,by rw [hc]⟩⟩
theorem oY {ρ : Place} {W : Base} {hp : Tr AObj} {nx : Nat} {w : World} (h : Rel ρ W hp nx w) {b c s z : Nat} {l : List Value} {ob : Obj} (hb : hp.get b = some (.cells l true)) (hr : ρ b = some (c,s,z)) (hob : w.heap[c]? = some ob) :
  Rel (ρ.freeze c ob) W (hp.put b none) nx w /\ ρ.le (ρ.freeze c ob):=by
 have hle : ρ.le (ρ.freeze c ob):=⟨fun _ _ h=>h,fun k x hk=>by
  show (match ρ.fr k with | some o=>some o | none=>if k = c then some ob else none) = some x
  rw [hk]⟩
 have sub : ∀ k o,(hp.put b none).get k = some o -> k ≠ b /\ hp.get k = some o:=fun k o hk=>by
  rw [Tr.get_put] at hk
  split at hk
  ·cases hk
  ·rename_i e; exact ⟨e,hk⟩
 obtain ⟨ob0,e0,ho0⟩:=h.obj b _ c s z hb hr
 refine ⟨⟨h.dom,fun k o c' s' z' ho hk=>?_,fun k k' x x' o o' h1 h2=>h.inj k k' x x' o o' (sub _ _ h1).2 (sub _ _ h2).2,fun k hk=>?_,h.below,fun k x hk=>?_,fun k o c' s' z' ho hw hk=>?_,fun k x hk=>?_⟩,hle⟩
 ·obtain ⟨ob',e1,e2⟩:=h.obj k o c' s' z' (sub k o ho).2 hk
  exact ⟨ob',e1,e2.mono hle⟩
 ·rw [Tr.get_put]
  split
  ·rfl
  ·exact h.fresh k hk
 ·have hk' : (match ρ.fr k with | some o=>some o | none=>if k = c then some ob else none) = some x:=hk
  split at hk'
  ·rename_i e; cases hk'; exact h.frz k x e
  ·split at hk'
   ·rename_i e; subst e; cases hk'; exact hob
   ·cases hk'
 ·show (match ρ.fr c' with | some o=>some o | none=>if c' = c then some ob else none) = none
  have:=sub k o ho
  rw [h.apart k o c' s' z' this.2 hw hk]
  dsimp only
  rw [if_neg]
  ·intro e
   exact this.1 (h.inj k b _ _ _ _ this.2 hb hk hr e)
 ·have hk' : (match ρ.fr k with | some o=>some o | none=>if k = c then some ob else none) = some x:=hk
  split at hk'
  ·rename_i e; cases hk'; exact h.frn k x e
  ·split at hk'
   ·rename_i e
    subst e
    cases ob0 <;> try exact ho0.elim
    exact .inr (ho0.2.2.2.2 rfl)
   ·cases hk'
def aK8 (N : Nat) (hp : Tr AObj) (v : Value) : Option (Value × Tr AObj × Prop) :=
 match v with
 | .slice (some ⟨b,o,none⟩) n sz=>match hp.get b with
  | some (.cells l true)=>bif N.ble b then some (tree sz n (bP sz n (l.drop o)),hp.put b none,o + n * sz <= l.length /\ NLs (l.drop o)) else none
  | _=>none
 | v=>some (v,hp,True)
theorem aB7 {N : Nat} {ρ : Place} {W : Base} {hp hp' : Tr AObj} {nx : Nat} {w : World} (h : Rel ρ W hp nx w) {v v' u : Value} {ob : Prop} (hv : VR ρ v v') (hf : aK8 N hp v = some (u,hp',ob)) (hob : ob) :
  ∃ ρ',Rel ρ' W hp' nx w /\ Step ρ ρ' hp hp' nx nx /\ VR ρ' u v':=by
 unfold aK8 at hf
 split at hf
 ·rename_i b o n sz
  split at hf
  case h_2=>cases hf
  rename_i l hg
  cases hc : N.ble b with
  | false=>rw [hc] at hf; cases hf
  | true =>
   rw [hc] at hf
   cases hf
   obtain ⟨hlen,hnl⟩:=hob
   suffices hs : ∃ ρ',Rel ρ' W (hp.put b none) nx w /\ Step ρ ρ' hp (hp.put b none) nx nx /\ VR0 ρ'.fr (tree sz n (bP sz n (l.drop o))) v' by
    obtain ⟨ρ',s1,s2,s3⟩:=hs
    exact ⟨ρ',s1,s2,VR0.lift (ρ:=ρ') s3⟩
   cases hv with
   | @slice _ _ _ _ c s zz cap hr h1 h2 =>
    obtain ⟨ob,e0,ho⟩:=h.obj b _ c s zz hg hr
    obtain ⟨g1,g2⟩:=oY h hg hr e0
    refine ⟨_,g1,⟨g2,Nat.le_refl _,fun k _ hn=>⟨hn,by rw [Tr.get_put,if_neg (by intro e; subst e; have hr':=hr; rw [hn] at hr'; cases hr')]⟩⟩,?_⟩
    cases ob <;> try exact ho.elim
    rename_i cs ct fz
    obtain ⟨k1,k2,k3,k4,k5⟩:=ho
    have hlen' : n * sz <= (l.drop o).length:=by rw [List.length_drop]; omega
    have hmul : n * sz <= cap * sz:=Nat.mul_le_mul_right _ h1
    refine VR0.tree (o:=s + o) (cs:=cs) (t:=ct) (fz:=fz) (by show (match ρ.fr c with | some o=>some o | none=>if c = c then _ else none) = _; rw [h.apart b _ c s zz hg rfl hr]; dsimp only; rw [if_pos rfl]) (xX hlen') h1 (by omega) (fun i u hu=>(oR hlen' hnl hu).2.1) (fun i j u a a' hu ha ha'=>?_)
    obtain ⟨q1,q2,q3⟩:=oR hlen' hnl hu
    obtain ⟨q4,q5⟩:=q3 j a ha
    have q6:=q5
    rw [List.getElem?_drop] at q5
    obtain ⟨a2,e1,e2⟩:=k4 _ a q5
    have : a2 = a':=by
     rw [show s + o + i * sz + j = s + (o + (i * sz + j)) by omega,e1] at ha'
     cases ha'
     rfl
    subst this
    have hn:=hnl a (List.mem_of_getElem? q6)
    have h0 : VR0 ρ.fr a a2:=fF hn e2
    exact h0.mono g2.2
   | @emptySlice _ _ y a' _ hr =>
    obtain ⟨c,s,zz⟩:=y
    obtain ⟨ob,e0,ho⟩:=h.obj b _ c s zz hg hr
    obtain ⟨g1,g2⟩:=oY h hg hr e0
    refine ⟨_,g1,⟨g2,Nat.le_refl _,fun k _ hn=>⟨hn,by rw [Tr.get_put,if_neg (by intro e; subst e; have hr':=hr; rw [hn] at hr'; cases hr')]⟩⟩,?_⟩
    have : bP sz 0 (l.drop o) = #[]:=by
     unfold bP
     cases sz.beq 1 <;> simp
    rw [this]
    exact .treeNil _ _ _
 ·cases hf
  exact ⟨ρ,h,.refl _ _ _,hv⟩
def aRs (t : Nat) : Nat:=bif Nat.ble 1000 t then t - 1000 else t
def wU (N : Nat) : List Nat -> AS -> Option (AS × Prop)
 | [],st=>some (st,True)
 | t :: ts,st=>bif Nat.ble 1000 t then match st.tm.get (t - 1000) with
   | some v=>match aK8 N st.hp v with
    | some (u,hp',ob)=>match wU N ts ⟨st.tm.put (t - 1000) (some u),hp',st.nx⟩ with
     | some (st',ob')=>some (st',ob /\ ob')
     | none=>none
    | none=>none
   | none=>none
  else wU N ts st
theorem lL {N n : Nat} {W : Base} {a : Act} {w : World} : ∀ {ts : List Nat} {st st' : AS} {ρ : Place} {ob : Prop},SRel ρ W n st a w -> wU N ts st = some (st',ob) -> ob ->
  ∃ ρ',SRel ρ' W n st' a w /\ ρ.le ρ'
 | [],st,st',ρ,ob,h,hf,hob=>by
  simp only [wU] at hf
  cases hf
  exact ⟨ρ,h,⟨fun _ _ h=>h,fun _ _ h=>h⟩⟩
 | t :: ts,st,st',ρ,ob,h,hf,hob=>by
  simp only [wU] at hf
  cases hc : Nat.ble 1000 t with
  | false =>
   rw [hc] at hf
   exact lL h hf hob
  | true =>
   rw [hc,cond_true] at hf
   clear hc
   generalize t - 1000 = q at hf
   split at hf
   case h_2=>cases hf
   rename_i v hv
   split at hf
   case h_2=>cases hf
   rename_i u hp' ob1 hz
   split at hf
   case h_2=>cases hf
   rename_i st1 ob2 hr
   cases hf
   obtain ⟨g0,g1⟩:=h.frame.slot _ _ hv
   obtain ⟨ρ1,k1,k2,k3⟩:=aB7 h.rel g1 hz hob.1
   have hs1 : SRel ρ1 W n ⟨st.tm.put q (some u),hp',st.nx⟩ a w:=⟨k1,⟨h.frame.size,h.frame.defers,fun s x hx=>by
    rw [Tr.get_put] at hx
    by_cases e : s = q
    ·rw [if_pos e] at hx
     cases hx
     rw [e]
     exact ⟨g0,k3⟩
    ·rw [if_neg e] at hx
     exact ⟨(h.frame.slot s x hx).1,(h.frame.slot s x hx).2.mono k2.le⟩⟩⟩
   obtain ⟨ρ2,q1,q2⟩:=lL hs1 hr hob.2
   exact ⟨ρ2,q1,⟨fun b x hb=>q2.1 b x (k2.le.1 b x hb),fun c x hc=>q2.2 c x (k2.le.2 c x hc)⟩⟩
end Go.Proofs.YtngginofamlkkaaGreatDoor
noncomputable section
namespace Go.Proofs.YtngginofamlkkaaGreatDoor
open Go Go.RowKit
def aDa (P : Program) (vc : bH) (ops : Array Oper) (n : Nat) : List Oper -> AS -> (AS -> Prop) -> Prop
 | [],st,K=>K st
 | o :: l,st,K=>qJ ops st.tm o
   (bif eC o.op then kX P vc st.hp st.nx o (aev st.tm) fun v _ hp' nx'=>oJ v fun v=>match iZ n st.tm o.dst v with
     | some tm'=>aDa P vc ops n l ⟨tm',hp',nx'⟩ K
     | none=>False
    else match gR P st.hp o (aev st.tm) with
     | some (.val v,ob)=>ob /\ oJ v fun v=>match iZ n st.tm o.dst v with
      | some tm'=>aDa P vc ops n l ⟨tm',st.hp,st.nx⟩ K
      | none=>False
     | some (.new b nv,ob)=>match iZ n st.tm o.dst (nv.val st.nx) with
      | some tm'=>ob /\ aDa P vc ops n l ⟨tm',st.hp.put st.nx (some b),st.nx + 1⟩ K
      | none=>False
     | none=>False)
   (match iZ n st.tm o.dst undef with
    | some tm'=>aDa P vc ops n l ⟨tm',st.hp,st.nx⟩ K
    | none=>False)
theorem aAl {P : Program} {vc : bH} {W : Base} (hcall : aW P vc) {ops : Array Oper} {n : Nat} {Q : Exit -> Act -> World -> Prop} : ∀ (l : List Oper) (k : Nat) (st : AS) (K : AS -> Prop) (ρ : Place) (a : Act) (w : World),ops.toList.drop k = l ->
  SRel ρ W n st a w -> aDa P vc ops n l st K -> (∀ st',K st' -> ∀ a' w' ρ',SRel ρ' W n st' a' w' -> Step ρ ρ' st.hp st'.hp st.nx st'.nx -> Q .normal a' w') -> wpOps P ops Q (List.range' k l.length) a w
 | [],k,st,K,ρ,a,w,_,h,hs,hk=>by
  simp only [aDa] at hs
  exact hk st hs a w ρ h (.refl _ _ _)
 | o :: l,k,st,K,ρ,a,w,hd,h,hs,hk=>by
  simp only [aDa] at hs
  have hi : ops[k]? = some o:=by
   have : (ops.toList.drop k)[0]? = some o:=by rw [hd]; rfl
   rw [List.getElem?_drop] at this
   simpa using this
  have next : ∀ (st1 : AS) (a1 : Act) (w1 : World) (ρ1 : Place),SRel ρ1 W n st1 a1 w1 -> Step ρ ρ1 st.hp st1.hp st.nx st1.nx -> aDa P vc ops n l st1 K -> wpOps P ops Q (List.range' (k + 1) l.length) a1 w1 :=
   fun st1 a1 w1 ρ1 hr hst hv=>aAl hcall l (k + 1) st1 K ρ1 a1 w1 (by rw [← List.drop_drop,hd]; rfl) hr hv fun st' hK a' w' ρ' g1 g2=>hk st' hK a' w' ρ' g1 (hst.trans g2)
  rw [List.length_cons,List.range'_succ,wpOps_cons]
  unfold wpOp
  simp only [hi]
  rcases gX hs with ⟨hw,hs⟩ | ⟨hw,hs⟩
  ·rw [fU h.frame hw,if_pos rfl]
   refine .inl ?_
   cases hh : eC o.op with
   | true =>
    rw [hh,cond_true] at hs
    refine oX hcall h.rel h.frame.ev hs fun v c hp' nx' v' w' ρ' hK _ q1 q2 q3=>?_
    replace hK:=iY hK
    split at hK
    case h_2=>exact hK.elim
    rename_i tm' ht
    exact next ⟨tm',hp',nx'⟩ _ _ ρ' ⟨q2,eV (h.frame.mono q3.le) ht q1⟩ q3 hK
   | false =>
    rw [hh,cond_false] at hs
    split at hs
    ·rename_i v ob hv
     obtain ⟨hob,hs⟩:=hs
     replace hs:=iY hs
     split at hs
     case h_2=>exact hs.elim
     rename_i tm' ht
     obtain ⟨v',h1,h2⟩:=jG (r:=.val v) h.rel h.frame.ev hv hob
     unfold Oper.wp
     rw [h1]
     exact next ⟨tm',st.hp,st.nx⟩ _ _ ρ ⟨h.rel,eV h.frame ht h2⟩ (.refl _ _ _) hs
    ·rename_i ob nv obp hv
     split at hs
     case h_2=>exact hs.elim
     rename_i tm' ht
     obtain ⟨v',ob',d,z,h1,h2,h3⟩:=jG (r:=.new ob nv) h.rel h.frame.ev hv hs.1
     unfold Oper.wp
     rw [h1]
     have hrel:=((h.rel.at_drawn d).reserve ob).realize (b:=st.nx) (z:=z) (ob:=ob') (by omega) h.rel.dom_none (by rw [Tr.get_put,if_pos rfl]) (h2 _ h.rel.below.fresh)
     have hle:=Place.le_set (x:=(w.heap.size,0,z)) h.rel.dom_none
     exact next ⟨tm',st.hp.put st.nx (some ob),st.nx + 1⟩ _ _ _ ⟨hrel,eV (h.frame.mono hle) ht (h3 _ _ (Place.set_same ρ st.nx _))⟩ ⟨hle,Nat.le_succ _,fun b hb hr=>⟨by rw [Place.set_other (by omega)]; exact hr,by show (st.hp.put st.nx (some ob)).get b = _; rw [Tr.get_put,if_neg (by omega)]⟩⟩ hs.2
    ·exact hs.elim
  ·rw [fU h.frame hw,if_neg (by simp)]
   split at hs
   case h_2=>exact hs.elim
   rename_i tm' ht
   exact next ⟨tm',st.hp,st.nx⟩ _ _ ρ ⟨h.rel,eV h.frame ht (cJ (by simp [undef,dK]))⟩ (.refl _ _ _) hs
def aDY (P : Program) (vc : bH) (n : Nat) (ops : Array Oper) (draw : Bool) (st : AS) (K : AS -> Prop) : Prop :=
 bif draw then (bif eU ops then pM P vc ops n ops.size (Array.replicate ops.size false) st [] K else False) else aDa P vc ops n ops.toList st K
theorem aBD {P : Program} {vc : bH} {W : Base} (hcall : aW P vc) (hm : P.follows .mixedOrders = true) {ops : Array Oper} {draw : Bool} {id n : Nat} {Q : Exit -> Act -> World -> Prop} {st : AS} {K : AS -> Prop} {ρ : Place} {a : Act} {w : World} (h : SRel ρ W n st a w)
  (hs : aDY P vc n ops draw st K) (hk : ∀ st',K st' -> ∀ a' w' ρ',SRel ρ' W n st' a' w' -> Step ρ ρ' st.hp st'.hp st.nx st'.nx -> Q .normal a' w') : (Code.region id ops draw).wp P Q a w:=by
 unfold aDY at hs
 cases draw with
 | false =>
  rw [cond_false] at hs
  refine wp_region ?_
  rw [List.range_eq_range']
  have:=aAl hcall (Q:=Q) ops.toList 0 st K ρ a w (by simp) h hs hk
  simpa using this
 | true =>
  rw [cond_true] at hs
  cases hD : eU ops with
  | false=>rw [hD] at hs; exact hs.elim
  | true =>
   rw [hD,cond_true] at hs
   refine wp_region_any hm ?_
   have hnot : ∀ i,¬ In (Array.replicate ops.size false) i:=fun i hi=>by
    have:=tI (ops:=ops) (by simp) hi
    simp [In,this] at hi
   refine aHb hcall hD hk ops.size ops.size _ st [] ⟨fun _=>.e,fun _=>undef,fun _=>none⟩ _ a _ ρ ?_ ⟨by simp,by simp,fun i hi=>(hnot i hi).elim,fun i hi=>(hnot i hi).elim,fun i hi=>hi,fun j o t hj=>(hnot j hj).elim,fun t _=>rfl,h.rel.drew,h.frame.size,h.frame.defers,fun j o t hj=>(hnot j hj).elim,fun t v _ hv=>h.frame.slot t v hv,fun j o hj=>(hnot j hj).elim,fun j k b hj=>(hnot j hj).elim,.refl _ _ _,fun j o hj=>(hnot j hj).elim⟩ hs
   unfold unl
   exact Nat.le_trans (List.length_filter_le _ _) (by simp)
inductive Fr where
 | seq (y : Code)
 | block (id : Nat)
 | loop (b : Code)
inductive VM where
 | code (c : Code)
 | normal
 | exit (id : Nat)
 | ret
def rid : Code -> Option Nat
 | .region id _ _=>some id
 | .seq x y=>match rid x with
  | some i=>some i
  | none=>rid y
 | .cond _ x y=>match rid x with
  | some i=>some i
  | none=>rid y
 | .block _ b=>rid b
 | .loop b=>rid b
 | _=>none
def rR (i : Option Nat) : List (Nat × List Nat) -> Option (List Nat)
 | []=>none
 | x :: l=>match i with
  | some j=>bif j.beq x.1 then some x.2 else rR i l
  | none=>none
def nY (lt : List (Nat × List Nat)) (base : List Bool) (H : Code -> List Fr -> AS -> Prop) (b : Code) (k : List Fr) (st : AS) : Prop :=
 match rR (rid b) lt with
 | some ts=>match wU base.length ts st with
  | some (st0,ob0)=>match aM4 base (ts.map aRs) st0 with
   | some (st',ob)=>ob0 /\ ob /\ H b k st'
   | none=>False
  | none=>False
 | none=>False
def kR (P : Program) (vc : bH) (n : Nat) (lt : List (Nat × List Nat)) (base : List Bool) (H : Code -> List Fr -> AS -> Prop) (Fin : AS -> Prop) : Nat -> VM -> List Fr -> AS -> Prop
 | 0,_,_,_=>False
 | f + 1,.normal,k,st=>match k with
  | []=>Fin st
  | .seq y :: k'=>kR P vc n lt base H Fin f (.code y) k' st
  | .block _ :: k'=>kR P vc n lt base H Fin f .normal k' st
  | .loop b :: k'=>match rR (rid b) lt with
   | some _=>nY lt base H b k' st
   | none=>kR P vc n lt base H Fin f (.code b) (.loop b :: k') st
 | f + 1,.exit id,k,st=>match k with
  | []=>False
  | .block j :: k'=>bif id.beq j then kR P vc n lt base H Fin f .normal k' st else kR P vc n lt base H Fin f (.exit id) k' st
  | _ :: k'=>kR P vc n lt base H Fin f (.exit id) k' st
 | _ + 1,.ret,_,st=>Fin st
 | f + 1,.code c,k,st=>match c with
  | .skip | .label _=>kR P vc n lt base H Fin f .normal k st
  | .region _ ops draw=>aDY P vc n ops draw st fun st'=>kR P vc n lt base H Fin f .normal k st'
  | .seq x y=>kR P vc n lt base H Fin f (.code x) (.seq y :: k) st
  | .cond c x y=>match aev st.tm c with
   | some (.bool b)=>pIf b (kR P vc n lt base H Fin f (.code x) k st) (kR P vc n lt base H Fin f (.code y) k st)
   | _=>False
  | .block id b=>kR P vc n lt base H Fin f (.code b) (.block id :: k) st
  | .loop b=>match rR (rid b) lt with
   | some _=>nY lt base H b k st
   | none=>kR P vc n lt base H Fin f (.code b) (.loop b :: k) st
  | .exit id=>kR P vc n lt base H Fin f (.exit id) k st
  | .ret=>kR P vc n lt base H Fin f .ret k st
  | _=>False
def iJ (P : Program) (Q : Exit -> Act -> World -> Prop) : List Fr -> Exit -> Act -> World -> Prop
 | []=>Q
 | .seq y :: k=>Exit.then (y.wp P (iJ P Q k)) (iJ P Q k)
 | .block id :: k=>Exit.inBlock id (iJ P Q k)
 | .loop b :: k=>Exit.then (nM P b (iJ P Q k)) (iJ P Q k)
theorem aCU {P : Program} {Q : Exit -> Act -> World -> Prop} {a : Act} {w : World} {k : List Fr} (h : Q .ret a w) : iJ P Q k .ret a w:=by
 induction k with
 | nil=>exact h
 | cons x k ih=>cases x <;> exact ih
section
variable {P : Program} {vc : bH} {W : Base} {n : Nat} {lt : List (Nat × List Nat)} {base : List Bool} {H : Code -> List Fr -> AS -> Prop} {Fin : AS -> Prop} {R : Place -> AS -> Prop} {Q : Exit -> Act -> World -> Prop}
theorem sZ (hcall : aW P vc) (hm : P.follows .mixedOrders = true)
  (hR : ∀ ρ st ρ' st',R ρ st -> Step ρ ρ' st.hp st'.hp st.nx st'.nx -> R ρ' st')
  (hH : ∀ b k st,nY lt base H b k st -> ∀ ρ a w,SRel ρ W n st a w -> R ρ st -> nM P b (iJ P Q k) a w)
  (hF : ∀ st,Fin st -> ∀ ρ a w,SRel ρ W n st a w -> R ρ st -> Q .normal a w /\ Q .ret a w) :
  ∀ (f : Nat) (m : VM) (k : List Fr) (st : AS),kR P vc n lt base H Fin f m k st -> ∀ ρ a w,SRel ρ W n st a w -> R ρ st -> (match m with
   | .code c=>c.wp P (iJ P Q k) a w
   | .normal=>iJ P Q k .normal a w
   | .exit id=>iJ P Q k (.exit id) a w
   | .ret=>iJ P Q k .ret a w):=by
 intro f
 induction f with
 | zero=>intro m k st h; simp only [kR] at h
 | succ f ih =>
  intro m k st h ρ a w hs hr
  cases m with
  | normal =>
   simp only [kR] at h
   dsimp only
   cases k with
   | nil=>exact (hF st h ρ a w hs hr).1
   | cons x k =>
    cases x with
    | seq y=>exact ih (.code y) k st h ρ a w hs hr
    | block id=>exact ih .normal k st h ρ a w hs hr
    | loop b =>
     dsimp only at h
     split at h
     ·exact hH b k st h ρ a w hs hr
     ·exact iT (ih (.code b) (.loop b :: k) st h ρ a w hs hr)
  | exit id =>
   simp only [kR] at h
   dsimp only
   cases k with
   | nil=>exact h.elim
   | cons x k =>
    cases x with
    | seq y=>exact ih (.exit id) k st h ρ a w hs hr
    | block j =>
     show Exit.inBlock j (iJ P Q k) (.exit id) a w
     simp only [Exit.inBlock]
     dsimp only at h
     cases hj : id.beq j with
     | true =>
      rw [hj] at h
      rw [if_pos (Nat.eq_of_beq_eq_true hj)]
      exact ih .normal k st h ρ a w hs hr
     | false =>
      rw [hj] at h
      rw [if_neg (fun e=>by subst e; simp at hj)]
      exact ih (.exit id) k st h ρ a w hs hr
    | loop b=>exact ih (.exit id) k st h ρ a w hs hr
  | ret =>
   simp only [kR] at h
   exact aCU (hF st h ρ a w hs hr).2
  | code c =>
   simp only [kR] at h
   dsimp only
   cases c with
   | skip=>exact wp_skip (ih .normal k st h ρ a w hs hr)
   | label l=>exact wp_label (ih .normal k st h ρ a w hs hr)
   | region id ops draw=>exact aBD hcall hm hs h fun st' hK a' w' ρ' g1 g2=>ih .normal k st' hK ρ' a' w' g1 (hR _ _ _ _ hr g2)
   | seq x y=>exact wp_seq (ih (.code x) (.seq y :: k) st h ρ a w hs hr)
   | cond c x y =>
    dsimp only at h
    split at h
    ·rename_i b hc
     have:=hs.frame.eval hc
     cases b with
     | true =>
      refine wp_cond_true (c:=c) ?_ (ih (.code x) k st h ρ a w hs hr)
      generalize a.eval c = z at this
      cases this
      rfl
     | false =>
      refine wp_cond_false (c:=c) ?_ (ih (.code y) k st h ρ a w hs hr)
      generalize a.eval c = z at this
      cases this
      rfl
    ·exact h.elim
   | block id b=>exact wp_block (ih (.code b) (.block id :: k) st h ρ a w hs hr)
   | loop b =>
    dsimp only at h
    split at h
    ·exact tR (hH b k st h ρ a w hs hr)
    ·exact tR (iT (ih (.code b) (.loop b :: k) st h ρ a w hs hr))
   | exit id=>exact wp_exit (ih (.exit id) k st h ρ a w hs hr)
   | ret=>exact wp_ret (ih .ret k st h ρ a w hs hr)
   | goto l=>exact h.elim
   | refuse y=>exact h.elim
   | scope b=>exact h.elim
   | rangeFunc f ps x y=>exact h.elim
end
def StepG (N : Nat) (ρ ρ' : Place) : Prop:=(∀ b x,b < N -> ρ.pl b = some x -> ρ'.pl b = some x) /\ ∀ c x,ρ.fr c = some x -> ρ'.fr c = some x
theorem StepG.refl (N : Nat) (ρ : Place) : StepG N ρ ρ:=⟨fun _ _ _ h=>h,fun _ _ h=>h⟩
theorem StepG.step {N : Nat} {ρ ρ' ρ'' : Place} {hp hp' : Tr AObj} {nx nx' : Nat} (h : StepG N ρ ρ') (k : Step ρ' ρ'' hp hp' nx nx') : StepG N ρ ρ'' :=
 ⟨fun b x hb hx=>k.le.1 b x (h.1 b x hb hx),fun c x hc=>k.le.2 c x (h.2 c x hc)⟩
def aEF (P : Program) (n : Nat) (base : List Bool) (Fin : AS -> Prop) (b : Code) (k : List Fr) (st : AS) : Prop :=
 ∀ (W : Base) (ρ0 : Place) (Q : Exit -> Act -> World -> Prop),(∀ st,Fin st -> ∀ ρ a w,SRel ρ W n st a w -> StepG base.length ρ0 ρ -> Q .normal a w /\ Q .ret a w) ->
  ∀ ρ a w,SRel ρ W n st a w -> StepG base.length ρ0 ρ -> nM P b (iJ P Q k) a w
theorem gM {P : Program} {n : Nat} {lt : List (Nat × List Nat)} {base : List Bool} {Fin : AS -> Prop} {b : Code} {k : List Fr} {st : AS} (h : nY lt base (aEF P n base Fin) b k st) : aEF P n base Fin b k st:=by
 unfold nY at h
 split at h
 case h_2=>exact h.elim
 split at h
 case h_2=>exact h.elim
 rename_i st0 ob0 hz
 split at h
 case h_2=>exact h.elim
 rename_i st' ob hc
 intro W ρ0 Q hF ρ a w hs hr
 obtain ⟨ρ1,f1,f2⟩:=lL hs hz h.1
 obtain ⟨ρ',g1,g2,g3⟩:=yN f1 hc h.2.1
 exact h.2.2 W ρ0 Q hF ρ' a w g1 ⟨fun b x hb hx=>by rw [g3 b hb]; exact f2.1 b x (hr.1 b x hb hx),fun c x hx=>by rw [g2]; exact f2.2 c x (hr.2 c x hx)⟩
theorem aHm {P : Program} {vc : bH} (hcall : aW P vc) (hm : P.follows .mixedOrders = true) {n : Nat} {lt : List (Nat × List Nat)} {base : List Bool} {Fin : AS -> Prop} {b : Code} {k : List Fr} {st : AS} (f : Nat)
  (h : kR P vc n lt base (aEF P n base Fin) Fin f (.code b) (.loop b :: k) st) : aEF P n base Fin b k st:=by
 intro W ρ0 Q hF ρ a w hs hr
 refine iT ?_
 exact sZ (R:=fun ρ _=>StepG base.length ρ0 ρ) hcall hm (fun ρ st ρ' st' h k=>h.step k) (fun b k st h ρ a w hs hr=>gM h W ρ0 Q hF ρ a w hs hr) hF f (.code b) (.loop b :: k) st h ρ a w hs hr
end Go.Proofs.YtngginofamlkkaaGreatDoor

noncomputable section
namespace Go.Proofs.YtngginofamlkkaaGreatDoor
open Go Go.RowKit
set_option maxRecDepth 100000
set_option maxHeartbeats 8000000
def aMk (P : Program) (N : Nat) (t : TypeId) (hp : Tr AObj) (v : Value) : Option (Value × Tr AObj × Prop) :=
 match P.underlying t,v with
 | some (.slice e),.slice (some ⟨b,o,none⟩) n sz=>match aF P (sizeOf e),hp.get b with
  | some z,some (.cells l true)=>bif z.beq sz && N.ble b then some (tree sz n (bP sz n (l.drop o)),hp.put b none,o + n * sz <= l.length /\ NLs (l.drop o)) else none
  | _,_=>none
 | some (.slice e),.slice none 0 _=>match aF P (sizeOf e) with
  | some z=>some (tree z 0 #[],hp,True)
  | none=>none
 | _,v=>bif nl1 v then some (v,hp,True) else none
theorem tE {P : Program} {N : Nat} {t : TypeId} {ρ : Place} {W : Base} {hp hp' : Tr AObj} {nx : Nat} {w : World} (h : Rel ρ W hp nx w) {v v' u : Value} {ob : Prop} (hv : VR ρ v v') (hf : aMk P N t hp v = some (u,hp',ob)) (hob : ob) :
  ∃ ρ',Rel ρ' W hp' nx w /\ Step ρ ρ' hp hp' nx nx /\ VR0 ρ'.fr u v':=by
 have base : ∀ {v : Value},VR ρ v v' -> (bif nl1 v then some (v,hp,True) else none) = some (u,hp',ob) -> ∃ ρ',Rel ρ' W hp' nx w /\ Step ρ ρ' hp hp' nx nx /\ VR0 ρ'.fr u v':=fun {v} hv hf=>by
  cases hn : nl1 v with
  | false=>rw [hn] at hf; cases hf
  | true=>rw [hn] at hf; cases hf; exact ⟨ρ,h,.refl _ _ _,fF hn hv⟩
 unfold aMk at hf
 split at hf
 ·rename_i e b o n sz hu
  split at hf
  case h_2=>cases hf
  rename_i z l hz hg
  cases hc : z.beq sz && N.ble b with
  | false=>rw [hc] at hf; cases hf
  | true =>
   rw [hc] at hf
   cases hf
   obtain ⟨hlen,hnl⟩:=hob
   cases hv with
   | @slice _ _ _ _ c s zz cap hr h1 h2 =>
    obtain ⟨ob,e0,ho⟩:=h.obj b _ c s zz hg hr
    obtain ⟨g1,g2⟩:=oY h hg hr e0
    refine ⟨_,g1,⟨g2,Nat.le_refl _,fun k _ hn=>⟨hn,by rw [Tr.get_put,if_neg (by intro e; subst e; have hr':=hr; rw [hn] at hr'; cases hr')]⟩⟩,?_⟩
    cases ob <;> try exact ho.elim
    rename_i cs ct fz
    obtain ⟨k1,k2,k3,k4,k5⟩:=ho
    have hlen' : n * sz <= (l.drop o).length:=by rw [List.length_drop]; omega
    have hmul : n * sz <= cap * sz:=Nat.mul_le_mul_right _ h1
    refine VR0.tree (o:=s + o) (cs:=cs) (t:=ct) (fz:=fz) (by show (match ρ.fr c with | some o=>some o | none=>if c = c then _ else none) = _; rw [h.apart b _ c s zz hg rfl hr]; dsimp only; rw [if_pos rfl]) (xX hlen') h1 (by omega) (fun i u hu=>(oR hlen' hnl hu).2.1) (fun i j u a a' hu ha ha'=>?_)
    obtain ⟨q1,q2,q3⟩:=oR hlen' hnl hu
    obtain ⟨q4,q5⟩:=q3 j a ha
    have q6:=q5
    rw [List.getElem?_drop] at q5
    obtain ⟨a2,e1,e2⟩:=k4 _ a q5
    have : a2 = a':=by
     rw [show s + o + i * sz + j = s + (o + (i * sz + j)) by omega,e1] at ha'
     cases ha'
     rfl
    subst this
    have hn:=hnl a (List.mem_of_getElem? q6)
    have h0 : VR0 ρ.fr a a2:=fF hn e2
    exact h0.mono g2.2
   | @emptySlice _ _ y a' _ hr =>
    obtain ⟨c,s,zz⟩:=y
    obtain ⟨ob,e0,ho⟩:=h.obj b _ c s zz hg hr
    obtain ⟨g1,g2⟩:=oY h hg hr e0
    refine ⟨_,g1,⟨g2,Nat.le_refl _,fun k _ hn=>⟨hn,by rw [Tr.get_put,if_neg (by intro e; subst e; have hr':=hr; rw [hn] at hr'; cases hr')]⟩⟩,?_⟩
    have : bP sz 0 (l.drop o) = #[]:=by
     unfold bP
     cases sz.beq 1 <;> simp
    rw [this]
    exact .treeNil _ _ _
 ·rename_i e cp hu
  split at hf
  case h_2=>cases hf
  cases hf
  cases hv with
  | nilSlice=>exact ⟨ρ,h,.refl _ _ _,.treeNil _ _ _⟩
 ·exact base hv hf
def aGH (P : Program) (N : Nat) : List TypeId -> List Value -> Tr AObj -> Option (List Value × Tr AObj × Prop)
 | [],[],hp=>some ([],hp,True)
 | t :: ts,v :: vs,hp=>match aMk P N t hp v with
  | some (u,hp1,o1)=>match aGH P N ts vs hp1 with
   | some (us,hp2,o2)=>some (u :: us,hp2,o1 /\ o2)
   | none=>none
  | none=>none
 | _,_,_=>none
theorem VR0L {fr : Nat -> Option Obj} {c c' : List Value} (h : c.length = c'.length /\ ∀ (i : Nat) (v v' : Value),c[i]? = some v -> c'[i]? = some v' -> VR0 fr v v') : VR0 fr (.agg c.toArray) (.agg c'.toArray) :=
 .agg (by simp [h.1]) fun i v v' a b=>h.2 i v v' (by simpa using a) (by simpa using b)
theorem aAa {P : Program} {N : Nat} {W : Base} {nx : Nat} {w : World} : ∀ {ts : List TypeId} {vs vs' us : List Value} {ρ : Place} {hp hp' : Tr AObj} {ob : Prop},Rel ρ W hp nx w -> VRL ρ vs vs' -> aGH P N ts vs hp = some (us,hp',ob) -> ob ->
  ∃ ρ',Rel ρ' W hp' nx w /\ Step ρ ρ' hp hp' nx nx /\ us.length = vs'.length /\ ∀ (i : Nat) (v v' : Value),us[i]? = some v -> vs'[i]? = some v' -> VR0 ρ'.fr v v'
 | [],[],vs',us,ρ,hp,hp',ob,h,hl,hf,_=>by
  simp only [aGH] at hf
  cases hf
  cases hl
  exact ⟨ρ,h,.refl _ _ _,rfl,fun i v v' a=>by simp at a⟩
 | [],_ :: _,vs',us,ρ,hp,hp',ob,h,hl,hf,_=>by simp [aGH] at hf
 | _ :: _,[],vs',us,ρ,hp,hp',ob,h,hl,hf,_=>by simp [aGH] at hf
 | t :: ts,v :: vs,vs',us,ρ,hp,hp',ob,h,hl,hf,hob=>by
  simp only [aGH] at hf
  split at hf
  case h_2=>cases hf
  rename_i u hp1 o1 h1
  split at hf
  case h_2=>cases hf
  rename_i us0 hp2 o2 h2
  cases hf
  cases hl with
  | cons hv hl =>
   obtain ⟨ρ1,g1,g2,g3⟩:=tE h hv h1 hob.1
   obtain ⟨ρ2,k1,k2,k3,k4⟩:=aAa g1 (hl.mono g2.le) h2 hob.2
   refine ⟨ρ2,k1,g2.trans k2,by simp [k3],fun i x x' a b=>?_⟩
   cases i with
   | zero=>simp at a b; subst a b; exact g3.mono k2.le.2
   | succ i=>exact k4 i x x' (by simpa using a) (by simpa using b)
def aPa (P : Program) (N : Nat) (t : TypeId) (hp : Tr AObj) (v : Value) : Option (Value × Tr AObj × Prop) :=
 match v with
 | .agg c=>match zQ P 20 t with
  | some ts=>match aGH P N ts c.toList hp with
   | some (us,hp',ob)=>some (.agg us.toArray,hp',ob)
   | none=>none
  | none=>none
 | v=>aMk P N t hp v
theorem aB9 {P : Program} {N : Nat} {t : TypeId} {ρ : Place} {W : Base} {hp hp' : Tr AObj} {nx : Nat} {w : World} (h : Rel ρ W hp nx w) {v v' u : Value} {ob : Prop} (hv : VR ρ v v') (hf : aPa P N t hp v = some (u,hp',ob)) (hob : ob) :
  ∃ ρ',Rel ρ' W hp' nx w /\ Step ρ ρ' hp hp' nx nx /\ VR0 ρ'.fr u v':=by
 unfold aPa at hf
 split at hf
 ·rename_i c
  split at hf
  case h_2=>cases hf
  split at hf
  case h_2=>cases hf
  rename_i us hp2 ob2 h2
  cases hf
  cases hv with
  | agg hs hc =>
   rename_i c'
   obtain ⟨ρ',g1,g2,g3,g4⟩:=aAa h (VRA.list ⟨hs,hc⟩) h2 hob
   refine ⟨ρ',g1,g2,?_⟩
   have:=VR0L ⟨g3,g4⟩
   simpa using this
 ·exact tE h hv hf hob
def xW (P : Program) (N : Nat) : List TypeId -> List Value -> Tr AObj -> Option (List Value × Tr AObj × Prop)
 | [],[],hp=>some ([],hp,True)
 | t :: ts,v :: vs,hp=>match aPa P N t hp v with
  | some (u,hp1,o1)=>match xW P N ts vs hp1 with
   | some (us,hp2,o2)=>some (u :: us,hp2,o1 /\ o2)
   | none=>none
  | none=>none
 | _,_,_=>none
theorem pW {P : Program} {N : Nat} {W : Base} {nx : Nat} {w : World} : ∀ {ts : List TypeId} {vs vs' us : List Value} {ρ : Place} {hp hp' : Tr AObj} {ob : Prop},Rel ρ W hp nx w -> VRL ρ vs vs' -> xW P N ts vs hp = some (us,hp',ob) -> ob ->
  ∃ ρ',Rel ρ' W hp' nx w /\ Step ρ ρ' hp hp' nx nx /\ us.length = vs'.length /\ ∀ (i : Nat) (v v' : Value),us[i]? = some v -> vs'[i]? = some v' -> VR0 ρ'.fr v v'
 | [],[],vs',us,ρ,hp,hp',ob,h,hl,hf,_=>by
  simp only [xW] at hf
  cases hf
  cases hl
  exact ⟨ρ,h,.refl _ _ _,rfl,fun i v v' a=>by simp at a⟩
 | [],_ :: _,vs',us,ρ,hp,hp',ob,h,hl,hf,_=>by simp [xW] at hf
 | _ :: _,[],vs',us,ρ,hp,hp',ob,h,hl,hf,_=>by simp [xW] at hf
 | t :: ts,v :: vs,vs',us,ρ,hp,hp',ob,h,hl,hf,hob=>by
  simp only [xW] at hf
  split at hf
  case h_2=>cases hf
  rename_i u hp1 o1 h1
  split at hf
  case h_2=>cases hf
  rename_i us0 hp2 o2 h2
  cases hf
  cases hl with
  | cons hv hl =>
   obtain ⟨ρ1,g1,g2,g3⟩:=aB9 h hv h1 hob.1
   obtain ⟨ρ2,k1,k2,k3,k4⟩:=pW g1 (hl.mono g2.le) h2 hob.2
   refine ⟨ρ2,k1,g2.trans k2,by simp [k3],fun i x x' a b=>?_⟩
   cases i with
   | zero=>simp at a b; subst a b; exact g3.mono k2.le.2
   | succ i=>exact k4 i x x' (by simpa using a) (by simpa using b)
def aQ0 (P : Program) (N : Nat) (ts : List TypeId) (hp : Tr AObj) (v : Value) : Option (Value × Tr AObj × Prop) :=
 match ts with
 | [t]=>aPa P N t hp v
 | ts=>match v with
  | .tuple vs=>match xW P N ts vs.toList hp with
   | some (us,hp',ob)=>some (.tuple us.toArray,hp',ob)
   | none=>none
  | _=>none
theorem aAG {P : Program} {N : Nat} {ts : List TypeId} {ρ : Place} {W : Base} {hp hp' : Tr AObj} {nx : Nat} {w : World} (h : Rel ρ W hp nx w) {v v' u : Value} {ob : Prop} (hv : VR ρ v v') (hf : aQ0 P N ts hp v = some (u,hp',ob)) (hob : ob) :
  ∃ ρ',Rel ρ' W hp' nx w /\ Step ρ ρ' hp hp' nx nx /\ VR0 ρ'.fr u v':=by
 unfold aQ0 at hf
 split at hf
 ·exact aB9 h hv hf hob
 ·split at hf
  case h_2=>cases hf
  rename_i vs
  split at hf
  case h_2=>cases hf
  rename_i us hp2 ob2 h2
  cases hf
  cases hv with
  | tuple hs hc =>
   rename_i c'
   obtain ⟨ρ',g1,g2,g3,g4⟩:=pW h (VRA.list ⟨hs,hc⟩) h2 hob
   refine ⟨ρ',g1,g2,.tuple (by simpa using g3) fun i v v' a b=>g4 i v v' (by simpa using a) (by simpa using b)⟩
def aAn (P : Program) (fn : Func) (N : Nat) (Post : Value -> Tr AObj -> Prop) (st : AS) : Prop :=
 match aBC P st.hp st.tm fn with
 | some v=>match aQ0 P N fn.resultTypes.toList st.hp v with
  | some (u,hp',ob)=>ob /\ Post u hp'
  | none=>False
 | none=>False
def Spec (P : Program) (f : FuncId) (N : Nat) (hp : Tr AObj) (args : List Value) (Post : Value -> Tr AObj -> Prop) : Prop :=
 ∀ (W : Base) ρ w args',Rel ρ W hp N w -> VRL ρ args args' -> Calls P f args'.toArray w fun e w'=>∃ v hp' nx' v' ρ',Post v hp' /\ e = .returned v' /\ VR0 ρ'.fr v v' /\ Rel ρ' W hp' nx' w' /\ StepG N ρ ρ'
def FinQ (P : Program) (fn : Func) (W : Base) (N : Nat) (ρ : Place) (Post : Value -> Tr AObj -> Prop) (e : Exit) (a : Act) (w : World) : Prop :=
 bodyPost P fn (fun e w'=>∃ v hp' nx' v' ρ',Post v hp' /\ e = .returned v' /\ VR0 ρ'.fr v v' /\ Rel ρ' W hp' nx' w' /\ StepG N ρ ρ') e a w
theorem aFD {P : Program} {fn : Func} {N n : Nat} {Post : Value -> Tr AObj -> Prop} {st : AS} (h : aAn P fn N Post st) {W : Base} (hd : W.ds = []) {ρ0 ρ : Place} {a : Act} {w : World} (hs : SRel ρ W n st a w) (hr : StepG N ρ0 ρ) :
  FinQ P fn W N ρ0 Post .normal a w /\ FinQ P fn W N ρ0 Post .ret a w:=by
 unfold aAn at h
 split at h
 case h_2=>exact h.elim
 rename_i v hv
 split at h
 case h_2=>exact h.elim
 rename_i u hp' ob hf
 obtain ⟨v',r1,r2⟩:=lX hs.rel hs.frame hv
 obtain ⟨ρ',g1,g2,g3⟩:=aAG hs.rel r2 hf h.1
 have : ∃ v hp' nx' v'' ρ',Post v hp' /\ Ending.returned v' = .returned v'' /\ VR0 ρ'.fr v v'' /\ Rel ρ' W hp' nx' w /\ StepG N ρ0 ρ' :=
  ⟨u,hp',st.nx,v',ρ',h.2,rfl,g3,g1,fun b x hb hx=>g2.le.1 b x (hr.1 b x hb hx),fun c x hx=>g2.le.2 c x (hr.2 c x hx)⟩
 exact ⟨⟨hs.frame.defers.trans hd,v',r1,this⟩,⟨hs.frame.defers.trans hd,v',r1,this⟩⟩
def gO (args : List Value) (fn : Func) : Nat:=args.length + (fn.ntmps - args.length)
theorem rM {ρ : Place} {W : Base} (hd : W.ds = []) {hp : Tr AObj} {nx : Nat} {w : World} (h : Rel ρ W hp nx w) {args args' : List Value} (hargs : VRL ρ args args') (fn : Func) :
  SRel ρ W (gO args fn) ⟨gE 0 args .e,hp,nx⟩ { tmps:=args'.toArray ++ Array.replicate (fn.ntmps - args'.toArray.size) undef,defers:=[] } w:=by
 refine ⟨h,?_,hd.symm,fun t u hu=>?_⟩
 ·simp [gO,hargs.len]
 ·rw [qF] at hu
  by_cases ht : 0 <= t /\ t < 0 + args.length
  ·rw [if_pos ht] at hu
   have hlt : t < args'.length:=by rw [← hargs.len]; omega
   refine ⟨by unfold gO; omega,?_⟩
   have hg:=hargs.get (i:=t) (v:=u) (v':=args'[t]) (by simpa using hu) (by simp)
   rw [Array.getD_eq_getD_getElem?,Array.getElem?_append_left (by simpa using hlt)]
   simpa [hlt] using hg
  ·rw [if_neg ht] at hu
   simp [Tr.get_e] at hu
theorem aON {P : Program} {vc : bH} (hcall : aW P vc) (hm : P.follows .mixedOrders = true) {f : FuncId} {fn : Func} {c : Code} (hf : P.funcs[f]? = some fn) (hc : fn.body = some c) {lt : List (Nat × List Nat)} {base : List Bool} {hp : Tr AObj} {args : List Value} {Post : Value -> Tr AObj -> Prop} (k : Nat)
  (h : kR P vc (gO args fn) lt base (aEF P (gO args fn) base (aAn P fn base.length Post)) (aAn P fn base.length Post) k (.code c) [] ⟨gE 0 args .e,hp,base.length⟩) : Spec P f base.length hp args Post:=by
 intro W ρ w args' hrel hargs
 suffices hb : Calls P f args'.toArray w fun e w'=>∃ v hp' nx' v' ρ',Post v hp' /\ e = .returned v' /\ VR0 ρ'.fr v v' /\ Rel ρ' W.bare hp' nx' w' /\ StepG base.length ρ ρ' from hb.mono fun e w' ⟨v,hp',nx',v',ρ',g1,g2,g3,g4,g5⟩=>⟨v,hp',nx',v',ρ',g1,g2,g3,g4.unbare,g5⟩
 refine calls_of_wp hf hc ?_
 exact sZ (R:=fun ρ' _=>StepG base.length ρ ρ') (Q:=FinQ P fn W.bare base.length ρ Post) hcall hm (fun _ _ _ _ h k=>h.step k)
  (fun b k st h ρ' a w hs hr=>gM h W.bare ρ _ (fun st hst ρ' a w hs hr=>aFD hst rfl hs hr) ρ' a w hs hr) (fun st hst ρ' a w hs hr=>aFD hst rfl hs hr) k (.code c) [] _ h ρ _ w (rM rfl hrel.bare hargs fn) (.refl _ _)
def Pure (P : Program) (f : FuncId) (args : List Value) (Post : Value -> Prop) : Prop:=Spec P f 0 .e args fun v _=>Post v
theorem Pure.call {P : Program} {f : FuncId} {args : List Value} {Post : Value -> Prop} (h : Pure P f args Post) (hn : args.all nl = true) {W : Base} {ρ : Place} {hp : Tr AObj} {nx : Nat} {w : World} {args' : List Value} (hrel : Rel ρ W hp nx w) (hargs : VRL ρ args args') :
  Calls P f args'.toArray w fun e w'=>∃ v v' ρ',Post v /\ e = .returned v' /\ VR ρ' v v' /\ VR0 ρ'.fr v v' /\ Rel ρ' W hp nx w' /\ Step ρ ρ' hp hp nx nx /\ Below w.heap.size w w':=by
 have hargs1 : VRL ⟨fun _=>none,ρ.fr,ρ.gl⟩ args args':=.of hargs.len fun i v v' a b=>by
  have h0 : VR0 ρ.fr v v':=aLb (List.all_eq_true.1 hn v (List.mem_of_getElem? a)) (hargs.get a b)
  exact VR0.lift (ρ:=⟨fun _=>none,ρ.fr,ρ.gl⟩) h0
 have hrel1 : Rel ⟨fun _=>none,ρ.fr,ρ.gl⟩ ⟨w,fun _=>False,ρ.fr,[]⟩ .e 0 w:=⟨fun b x hb=>(by cases hb),fun b o c s z ho=>(by cases ho),fun b b' x x' o o' ho=>(by cases ho),fun b _=>rfl,⟨rfl,rfl,rfl,Nat.le_refl _,fun _ _=>rfl⟩,hrel.frz,fun b o c s z ho=>(by cases ho),fun c ob hc=>.inl hc⟩
 refine (h ⟨w,fun _=>False,ρ.fr,[]⟩ _ w args' hrel1 hargs1).mono ?_
 rintro e w' ⟨v,hp',nx',v',ρ1,hP,rfl,hv,hr,hg⟩
 have old : ∀ c,c < w.heap.size -> w'.heap[c]? = w.heap[c]?:=fun c hc=>hr.below.block c ⟨hc,fun h=>h⟩
 have hsz : w.heap.size <= w'.heap.size:=hr.below.size
 have lt : ∀ {c : Nat} {ob : Obj},w.heap[c]? = some ob -> c < w.heap.size:=fun {c ob} hc=>by
  rcases Nat.lt_or_ge c w.heap.size with h' | h'
  ·exact h'
  ·rw [Array.getElem?_eq_none h'] at hc; cases hc
 have hle : ρ.le ⟨ρ.pl,ρ1.fr,ρ1.gl⟩:=⟨fun _ _ h=>h,fun c x hc=>hg.2 c x hc⟩
 refine ⟨v,v',⟨ρ.pl,ρ1.fr,ρ1.gl⟩,hP,rfl,VR0.lift (ρ:=⟨ρ.pl,ρ1.fr,ρ1.gl⟩) hv,hv,?_,⟨hle,Nat.le_refl _,fun _ _ h=>⟨h,rfl⟩⟩,⟨hr.below.os,hr.below.tape,hr.below.output,hsz,old⟩⟩
 refine ⟨fun b x hb=>⟨(hrel.dom b x hb).1,Nat.lt_of_lt_of_le (hrel.dom b x hb).2 hsz⟩,fun b o c s z ho hb=>?_,hrel.inj,hrel.fresh,⟨hr.below.os.trans hrel.below.os,hr.below.tape.trans hrel.below.tape,hr.below.output.trans hrel.below.output,Nat.le_trans hrel.below.size hsz,fun k hk=>?_⟩,hr.frz,fun b o c s z ho hw hb=>?_,fun c ob hc=>?_⟩
 ·obtain ⟨ob,e1,e2⟩:=hrel.obj b o c s z ho hb
  exact ⟨ob,by rw [old c (lt e1)]; exact e1,e2.mono hle⟩
 ·rw [old k (Nat.lt_of_lt_of_le hk.1 hrel.below.size)]
  exact hrel.below.block k hk
 ·show ρ1.fr c = none
  cases hc : ρ1.fr c with
  | none=>rfl
  | some ob =>
   have hcl:=(hrel.dom b _ hb).2
   rcases hr.frn c ob hc with h1 | h1
   ·have:=hrel.apart b o c s z ho hw hb
    have h2 : ρ.fr c = some ob:=h1
    rw [this] at h2
    cases h2
   ·exact absurd ⟨hcl,fun h=>h⟩ h1
 ·rcases hr.frn c ob hc with h1 | h1
  ·exact hrel.frn c ob h1
  ·refine .inr fun h2=>h1 ⟨Nat.lt_of_lt_of_le h2.1 hrel.below.size,fun h=>h⟩
structure Ent where
 f : FuncId
 c : List Value -> (Value -> Prop) -> Prop
def aZ (P : Program) (e : Ent) : Prop:=∀ args Post,e.c args Post -> Pure P e.f args Post
def aCr (f : FuncId) : List Ent -> Option Ent
 | []=>none
 | e :: l=>bif e.f.beq f then some e else aCr f l
theorem rH {f : FuncId} {e : Ent} : ∀ {l : List Ent},aCr f l = some e -> e ∈ l /\ e.f = f
 | [],h=>by simp [aCr] at h
 | x :: l,h=>by
  simp only [aCr] at h
  cases hx : x.f.beq f with
  | true=>rw [hx] at h; cases h; exact ⟨by simp,Nat.eq_of_beq_eq_true hx⟩
  | false=>rw [hx,cond_false] at h; exact ⟨by simp [(rH h).1],(rH h).2⟩
def aU (tab : List Ent) (next : bH) : bH:=fun f args hp nx K =>
 match aCr f tab with
 | some e=>bif args.all nl then e.c args fun v=>K v false hp nx else False
 | none=>next f args hp nx K
theorem aM {P : Program} {tab : List Ent} {next : bH} (ht : ∀ e ∈ tab,aZ P e) (hn : aW P next) : aW P (aU tab next):=by
 intro f args hp nx K h W ρ w args' hrel hargs
 unfold aU at h
 split at h
 ·rename_i e he
  obtain ⟨h1,rfl⟩:=rH he
  cases ha : args.all nl with
  | false=>rw [ha] at h; exact h.elim
  | true =>
   rw [ha,cond_true] at h
   refine ((ht e h1 args _ h).call ha hrel hargs).mono ?_
   rintro e' w' ⟨v,v',ρ',hK,rfl,g1,_,g2,g3,_⟩
   exact ⟨v,false,hp,nx,v',ρ',hK,fun _=>rfl,rfl,g1,g2,g3⟩
 ·exact hn f args hp nx K h W ρ w args' hrel hargs
def aI : bH:=fun _ _ _ _ _=>False
theorem aD {P : Program} : aW P aI:=fun _ _ _ _ _ h=>h.elim
def cT (P : Program) (inl : List FuncId) (next : bH) : Nat -> bH
 | 0=>next
 | k + 1=>fun f args hp nx K=>bif inl.contains f then match P.funcs[f]? with
   | some fn=>match fn.body with
    | some c=>kR P (cT P inl next k) (gO args fn) [] [] (fun _ _ _=>False) (fun st=>match aBC P st.hp st.tm fn with | some v=>K v true st.hp st.nx | none=>False) 1000 (.code c) [] ⟨gE 0 args .e,hp,nx⟩
    | none=>False
   | none=>False
  else next f args hp nx K
theorem bL {P : Program} (hm : P.follows .mixedOrders = true) {inl : List FuncId} {next : bH} (hn : aW P next) : ∀ k,aW P (cT P inl next k)
 | 0=>hn
 | k + 1=>by
  intro f args hp nx K h W ρ w args' hrel hargs
  unfold cT at h
  cases hi : inl.contains f with
  | false=>rw [hi] at h; exact hn f args hp nx K h W ρ w args' hrel hargs
  | true =>
   rw [hi,cond_true] at h
   split at h
   case h_2=>exact h.elim
   rename_i fn hf
   split at h
   case h_2=>exact h.elim
   rename_i c hc
   refine calls_of_wp hf hc ?_
   have fin : ∀ st,(match aBC P st.hp st.tm fn with | some v=>K v true st.hp st.nx | none=>False) -> ∀ ρ' a w',SRel ρ' W.bare (gO args fn) st a w' -> Step ρ ρ' hp st.hp nx st.nx ->
     a.defers = [] /\ ∃ v',(results fn a.tmps).run P w' = .ok v' w' /\ ∃ v c hp' nx' v'' ρ',K v c hp' nx' /\ (c = false -> hp' = hp) /\ Ending.returned v' = .returned v'' /\ VR ρ' v v'' /\ Rel ρ' W hp' nx' w' /\ Step ρ ρ' hp hp' nx nx':=by
    intro st hst ρ' a w' hs hr
    split at hst
    case h_2=>exact hst.elim
    rename_i v hv
    obtain ⟨v',r1,r2⟩:=lX hs.rel hs.frame hv
    exact ⟨hs.frame.defers,v',r1,v,true,st.hp,st.nx,v',ρ',hst,fun e=>(by cases e),rfl,r2,hs.rel.unbare,hr⟩
   exact sZ (W:=W.bare) (R:=fun ρ' st=>Step ρ ρ' hp st.hp nx st.nx) (bL hm hn k) hm (fun _ _ _ _ h k=>h.trans k)
    (fun b k st h ρ' a w hs hr=>by
     unfold nY at h
     split at h
     case h_2=>exact h.elim
     split at h
     case h_2=>exact h.elim
     split at h
     case h_2=>exact h.elim
     exact h.2.2.elim) (fun st hst ρ' a w hs hr=>⟨fin st hst ρ' a w hs hr,fin st hst ρ' a w hs hr⟩) 1000 (.code c) [] _ h ρ _ w (rM rfl hrel.bare hargs fn) (.refl _ _ _)
abbrev eqL (a b : List Value) : Prop:=a = b
def trV {α : Type} (l : List (Nat × Option α)) : Tr α:=l.foldl (fun t p=>t.put p.1 p.2) .e
def stV (tm : List (Nat × Option Value)) (hp : List (Nat × Option AObj)) (nx : Nat) : AS:=⟨trV tm,trV hp,nx⟩
def jC (P : Program) (f : FuncId) : Func:=(P.funcs[f]?).getD default
def qS (fn : Func) : Code:=fn.body.getD .skip
def yI (r : Nat) : Code -> List Fr -> Option (Code × List Fr)
 | .seq x y,k=>match yI r x (.seq y :: k) with
  | some p=>some p
  | none=>yI r y k
 | .cond _ x y,k=>match yI r x k with
  | some p=>some p
  | none=>yI r y k
 | .block id b,k=>yI r b (.block id :: k)
 | .loop b,k=>match rid b with
  | some j=>bif j.beq r then some (b,k) else yI r b (.loop b :: k)
  | none=>none
 | _,_=>none
def lpC (P : Program) (f : FuncId) (r : Nat) : Code:=((yI r (qS (jC P f)) []).map (·.1)).getD .skip
def lpK (P : Program) (f : FuncId) (r : Nat) : List Fr:=((yI r (qS (jC P f)) []).map (·.2)).getD []
def vcE (P : Program) (vc : bH) (f : FuncId) (lt : List (Nat × List Nat)) (base : List Bool) (hp : Tr AObj) (args : List Value) (H : Code -> List Fr -> AS -> Prop) (Post : Value -> Tr AObj -> Prop) : Prop :=
 kR P vc (gO args (jC P f)) lt base H (aAn P (jC P f) base.length Post) 3000 (.code (qS (jC P f))) [] ⟨gE 0 args .e,hp,base.length⟩
def vcL (P : Program) (vc : bH) (f : FuncId) (na : List Value) (lt : List (Nat × List Nat)) (base : List Bool) (r : Nat) (st : AS) (H : Code -> List Fr -> AS -> Prop) (Post : Value -> Tr AObj -> Prop) : Prop :=
 kR P vc (gO na (jC P f)) lt base H (aAn P (jC P f) base.length Post) 3000 (.code (lpC P f r)) (.loop (lpC P f r) :: lpK P f r) st
def Ok (P : Program) (f : FuncId) (na : List Value) (base : List Bool) (Post : Value -> Tr AObj -> Prop) : Code -> List Fr -> AS -> Prop :=
 aEF P (gO na (jC P f)) base (aAn P (jC P f) base.length Post)
theorem aQT {P : Program} {vc : bH} (hcall : aW P vc) (hm : P.follows .mixedOrders = true) {f : FuncId} (hf : (P.funcs[f]?).isSome = true) (hc : (jC P f).body.isSome = true) {lt : List (Nat × List Nat)} {base : List Bool} {hp : Tr AObj} {args : List Value} {Post : Value -> Tr AObj -> Prop}
  (h : vcE P vc f lt base hp args (Ok P f args base Post) Post) : Spec P f base.length hp args Post:=by
 have hf' : P.funcs[f]? = some (jC P f):=by
  unfold jC
  cases hx : P.funcs[f]? with
  | none=>rw [hx] at hf; cases hf
  | some x=>rfl
 have hc' : (jC P f).body = some (qS (jC P f)):=by
  unfold qS
  cases hx : (jC P f).body with
  | none=>rw [hx] at hc; cases hc
  | some x=>rfl
 exact aON hcall hm hf' hc' 3000 h
theorem aRP {P : Program} {vc : bH} (hcall : aW P vc) (hm : P.follows .mixedOrders = true) {f : FuncId} (hf : (P.funcs[f]?).isSome = true) (hc : (jC P f).body.isSome = true) {lt : List (Nat × List Nat)} {args : List Value} {Post : Value -> Prop}
  (h : vcE P vc f lt [] .e args (Ok P f args [] fun v _=>Post v) fun v _=>Post v) : Pure P f args Post:=aQT hcall hm hf hc h
theorem ok_L {P : Program} {vc : bH} (hcall : aW P vc) (hm : P.follows .mixedOrders = true) {f : FuncId} {na : List Value} {lt : List (Nat × List Nat)} {base : List Bool} {r : Nat} {st : AS} {Post : Value -> Tr AObj -> Prop}
  (h : vcL P vc f na lt base r st (Ok P f na base Post) Post) : Ok P f na base Post (lpC P f r) (lpK P f r) st:=aHm hcall hm 3000 h
def vcP (P : Program) (vc : bH) (f : FuncId) (lt : List (Nat × List Nat)) (args : List Value) (H : Code -> List Fr -> AS -> Prop) (Post : Value -> Prop) : Prop:=vcE P vc f lt [] .e args H fun v _=>Post v
def bX (P : Program) (vc : bH) (f : FuncId) (na : List Value) (lt : List (Nat × List Nat)) (r : Nat) (st : AS) (H : Code -> List Fr -> AS -> Prop) (Post : Value -> Prop) : Prop:=vcL P vc f na lt [] r st H fun v _=>Post v
def wT (P : Program) (f : FuncId) (na : List Value) (Post : Value -> Prop) : Code -> List Fr -> AS -> Prop:=Ok P f na [] fun v _=>Post v
theorem aN {P : Program} {vc : bH} (hcall : aW P vc) (hm : P.follows .mixedOrders = true) {f : FuncId} (hf : (P.funcs[f]?).isSome = true) (hc : (jC P f).body.isSome = true) (lt : List (Nat × List Nat)) {args : List Value} {Post : Value -> Prop}
  {X : Prop} (e : vcP P vc f lt args (wT P f args Post) Post = X) (h : X) : Pure P f args Post:=aRP (lt:=lt) hcall hm hf hc (Eq.mpr e h)
theorem aV {P : Program} {vc : bH} (hcall : aW P vc) (hm : P.follows .mixedOrders = true) {f : FuncId} {na : List Value} (lt : List (Nat × List Nat)) {r : Nat} {st : AS} {Post : Value -> Prop}
  {X : Prop} (e : bX P vc f na lt r st (wT P f na Post) Post = X) (h : X) : wT P f na Post (lpC P f r) (lpK P f r) st:=ok_L (lt:=lt) hcall hm (Eq.mpr e h)
theorem aBK {Post : Value -> Prop} {b c : Bool} (h : Post (.bool b)) (e : b = c) : Post (.bool c):=e ▸ h
theorem aGw {P : Program} (hm : P.follows .mixedOrders = true) {k f : Nat} (h : aHp P k f = true) : aZ P ⟨f,fun args Post=>args = [] /\ Post (.bool true)⟩:=by
 rintro args Post ⟨rfl,hP⟩
 unfold aHp at h
 split at h
 case h_2=>cases h
 rename_i b st hc
 subst h
 intro W ρ w args' hrel hargs
 refine ((aEx hm k).2.2 W f [] .e 0 (.bool true) st.1 st.2 hc ρ w args' hrel hargs).mono ?_
 rintro e w' ⟨v',ρ',rfl,h1,h2,h3⟩
 exact ⟨.bool true,st.1,st.2,v',ρ',hP,rfl,fF (by rfl) h1,h2,⟨fun b x hb=>by omega,h3.le.2⟩⟩
abbrev HT : Type:=Code -> List Fr -> AS -> Prop
abbrev PV : Type:=Value -> Prop
abbrev PI : Type:=Value -> List (List Value) -> Prop
def aDy (conts : List (List Value)) : Tr AObj:=lG 0 (conts.map fun l=>some (.cells l true)) .e
theorem aFW (conts : List (List Value)) (i : Nat) : (aDy conts).get i = (conts[i]?).map fun l=>.cells l true:=by
 unfold aDy
 rw [nD]
 simp only [Nat.zero_le,true_and,List.length_map,Nat.zero_add,Nat.sub_zero,List.getElem?_map]
 by_cases h : i < conts.length
 ·rw [if_pos h,List.getElem?_eq_getElem h]; rfl
 ·rw [if_neg h,List.getElem?_eq_none (by omega)]; exact Tr.get_e i
def aNP (hp : Tr AObj) : Nat -> Nat -> Option (List (List Value))
 | _,0=>some []
 | i,n + 1=>match hp.get i with
  | some (.cells l true)=>match aNP hp (i + 1) n with
   | some ls=>some (l :: ls)
   | none=>none
  | _=>none
theorem aFY {hp : Tr AObj} : ∀ {n i : Nat} {ls : List (List Value)},aNP hp i n = some ls -> ls.length = n /\ ∀ (j : Nat) (l : List Value),ls[j]? = some l -> hp.get (i + j) = some (.cells l true)
 | 0,i,ls,h=>by simp only [aNP] at h; cases h; exact ⟨rfl,fun j l hj=>by simp at hj⟩
 | n + 1,i,ls,h=>by
  simp only [aNP] at h
  split at h
  case h_2=>cases h
  rename_i l hl
  split at h
  case h_2=>cases h
  rename_i ls0 h0
  cases h
  obtain ⟨g1,g2⟩:=aFY h0
  refine ⟨by simp [g1],fun j x hx=>?_⟩
  cases j with
  | zero=>simp at hx; subst hx; exact hl
  | succ j=>rw [show i + (j + 1) = i + 1 + j by omega]; exact g2 j x (by simpa using hx)
def jH : List (Nat × Bool) -> List (List Value) -> Tr AObj -> Tr AObj
 | (b,_) :: l,c :: cs,hp=>jH l cs (hp.put b (some (.cells c true)))
 | _,_,hp=>hp
theorem pB : ∀ {l : List (Nat × Bool)} {cs : List (List Value)} {hp : Tr AObj},oW l = true -> cs.length = l.length -> ∀ b,(∀ (i : Nat) (k : Bool) (c : List Value),l[i]? = some (b,k) -> cs[i]? = some c -> (jH l cs hp).get b = some (.cells c true)) /\ (nH b l = false -> (jH l cs hp).get b = hp.get b)
 | [],cs,hp,_,hl,b=>by
  cases cs with
  | nil=>exact ⟨fun i k c hi=>by simp at hi,fun _=>rfl⟩
  | cons c cs=>simp at hl
 | (x,k0) :: l,[],hp,_,hl,b=>by simp at hl
 | (x,k0) :: l,c :: cs,hp,hn,hl,b=>by
  simp only [oW] at hn
  cases hm : nH x l with
  | true=>rw [hm] at hn; cases hn
  | false =>
   rw [hm,cond_false] at hn
   obtain ⟨g1,g2⟩:=pB (hp:=hp.put x (some (.cells c true))) hn (by simpa using hl) b
   simp only [jH]
   refine ⟨fun i k c' hi hc=>?_,fun hb=>?_⟩
   ·cases i with
    | zero =>
     simp at hi hc
     obtain ⟨rfl,rfl⟩:=hi
     subst hc
     rw [g2 hm,Tr.get_put,if_pos rfl]
    | succ i=>exact g1 i k c' (by simpa using hi) (by simpa using hc)
   ·simp only [nH] at hb
    cases hx : x.beq b with
    | true=>rw [hx] at hb; cases hb
    | false =>
     rw [hx,cond_false] at hb
     rw [g2 hb,Tr.get_put,if_neg (fun e=>by subst e; simp at hx)]
theorem aO4 {b b' : Nat} {k k' : Bool} {l : List (Nat × Bool)} (h : (b',k') ∈ aJF b k l) : (b',k') ∈ l ∨ b' = b:=by
 unfold aJF at h
 cases hm : nH b l with
 | true=>rw [hm] at h; exact .inl h
 | false =>
  rw [hm,cond_false] at h
  rcases List.mem_append.1 h with h | h
  ·exact .inl h
  ·simp at h; exact .inr h.1
theorem aG4 {b : Nat} : ∀ {l : List (Nat × Bool)},nH b l = true -> ∃ (i : Nat) (k : Bool),l[i]? = some (b,k)
 | [],h=>by cases h
 | x :: l,h=>by
  simp only [nH] at h
  cases hx : x.1.beq b with
  | true=>exact ⟨0,x.2,by simp [← Nat.eq_of_beq_eq_true hx]⟩
  | false =>
   rw [hx,cond_false] at h
   obtain ⟨i,k,hi⟩:=aG4 h
   exact ⟨i + 1,k,by simpa using hi⟩
end Go.Proofs.YtngginofamlkkaaGreatDoor
