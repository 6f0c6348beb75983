/-
  Put together out of several texts, each in its own namespace's block. Conditions: as each theorem states them.
-/
import Derived.Test.YtngginofamlkkaaGreatDoorQEva
import Derived.Laws.StructEq
import Derived.Laws.Externs
noncomputable section
namespace Go.Proofs.YtngginofamlkkaaGreatDoor
open Go Go.RowKit
set_option maxRecDepth 100000
set_option maxHeartbeats 8000000
abbrev iC:=FuncId -> List Value -> Tr AObj -> Nat -> Option (Value × Tr AObj × Nat)
def pH (P : Program) (W : Base) (call : iC) : Prop :=
 ∀ f args hp nx v hp' nx',call f args hp nx = some (v,hp',nx') -> ∀ ρ w args',Rel ρ W hp nx w -> VRL ρ args args' ->
  Calls P f args'.toArray w fun e w'=>∃ v' ρ',e = .returned v' /\ VR ρ' v v' /\ Rel ρ' W hp' nx' w' /\ Step ρ ρ' hp hp' nx nx'
def nF (P : Program) (f : FuncId) : Bool :=
 match P.funcs[f]? with
 | some fn=>fn.body.isSome && !(fn.name == "runtime.NumGoroutine")
 | none=>false
theorem oS {P : Program} {f : FuncId} (h : nF P f = true) (args : Array Value) : aF P (callFunc f args) = some (.enter f args):=by
 unfold nF at h
 unfold callFunc
 show aF P (match P.funcs[f]? with | none=>_ | some fn=>_) = _
 cases hf : P.funcs[f]? with
 | none=>rw [hf] at h; cases h
 | some fn =>
  rw [hf] at h
  simp only [Bool.and_eq_true,Bool.not_eq_true'] at h
  dsimp only
  rw [if_neg (by rw [h.2]; simp),if_neg (by cases hb : fn.body with | none=>rw [hb] at h; simp at h | some b=>simp)]
  rfl
def sW (P : Program) (call : iC) (hp : Tr AObj) (nx : Nat) (o : Oper) (ev : Operand -> Option Value) : Option (Value × Tr AObj × Nat) :=
 match o.op with
 | .store t x y=>match ev x,ev y with
  | some p,some v=>match xI P hp t p v with
   | some hp'=>some (undef,hp',nx)
   | none=>none
  | _,_=>none
 | .next x q=>match ev x with
  | some p=>match aFv hp p q with
   | some (v,hp')=>some (v,hp',nx)
   | none=>none
  | none=>none
 | .call c=>match c.callee with
  | .builtin .append=>match evL ev c.args.toList with
   | some args=>uV P hp nx c.argTypes args.toArray
   | none=>none
  | .value f=>match ev f,evL ev c.args.toList with
   | some (.func (.func k) first captured),some args=>bif nF P k then call k (first.toList ++ args ++ captured.toList) hp nx else none
   | _,_=>none
  | _=>none
 | _=>none
theorem aDq {P : Program} {call : iC} {ρ : Place} {W : Base} (hcall : pH P W call) {hp hp' : Tr AObj} {nx nx' : Nat} {w : World} (h : Rel ρ W hp nx w) {ev : Operand -> Option Value} {a : Act} (hF : ERel ρ ev a) {o : Oper} {v : Value}
  (hs : sW P call hp nx o ev = some (v,hp',nx')) {next : Act -> World -> Prop} {Q : Exit -> Act -> World -> Prop}
  (hk : ∀ v' w' ρ',VR ρ' v v' -> Rel ρ' W hp' nx' w' -> Step ρ ρ' hp hp' nx nx' -> next (a.put o.dst v') w') : o.wp P a w next Q:=by
 obtain ⟨dst,op,type,pos,after,guard⟩:=o
 unfold sW at hs
 unfold Oper.wp
 cases op <;> dsimp only at hs <;> try (cases hs)
 case store t x y =>
  split at hs
  case h_2=>cases hs
  rename_i p u hx hy
  split at hs
  case h_2=>cases hs
  rename_i hq hst
  cases hs
  obtain ⟨w',h1,h2,h3⟩:=uA h (hF.eval hx) (hF.eval hy) hst
  have : (execOp a.eval ⟨dst,.store t x y,type,pos,after,guard⟩).run P w = .ok .skip w':=by
   show ((Instr.storeAt t (a.eval x) (a.eval y)) >>= fun _=>pure Next.skip).run P w = _
   rw [Sem.run_bind,h1,Result.andThen_ok]
   rfl
  rw [this]
  exact hk undef w' ρ (cJ (by simp [undef,dK])) h2 h3
 case next x q =>
  split at hs
  case h_2=>cases hs
  rename_i p hx
  split at hs
  case h_2=>cases hs
  rename_i u hq hst
  cases hs
  obtain ⟨v',w',h1,h2,h3,h4⟩:=yA (P:=P) (t:=type) h (hF.eval hx) hst
  have : (execOp a.eval ⟨dst,.next x q,type,pos,after,guard⟩).run P w = .ok (.value v') w':=cF h1
  rw [this]
  exact hk v' w' ρ h2 h3 h4
 case call c =>
  obtain ⟨callee,args,argTypes⟩:=c
  dsimp only at hs
  split at hs
  ·split at hs
   case h_2=>cases hs
   rename_i as0 has
   have hA:=(fB hF has).arr
   have e1 : (args.toList.map a.eval).toArray = args.map a.eval:=by apply Array.ext'; simp
   rw [e1] at hA
   obtain ⟨v',w',ρ',h1,h2,h3,h4⟩:=sB (P:=P) (ty:=type) h hA hs
   have : (execOp a.eval ⟨dst,.call ⟨.builtin .append,args,argTypes⟩,type,pos,after,guard⟩).run P w = .ok (.value v') w':=by
    show ((Builtin.append_ argTypes type (args.map a.eval)) >>= fun r=>pure (Next.value r)).run P w = _
    exact cF h1
   rw [this]
   exact hk v' w' ρ' h2 h3 h4
  ·rename_i f
   split at hs
   case h_2=>cases hs
   rename_i k first captured as0 hf has
   cases he : nF P k with
   | false=>rw [he] at hs; cases hs
   | true =>
    rw [he,cond_true] at hs
    have hfv:=hF.eval hf
    generalize hE : a.eval f = E at hfv
    cases hfv
    rename_i first' captured' s1 v1 s2 v2
    have hA:=fB hF has
    have hL:=((VRA.list ⟨s1,v1⟩).append hA).append (VRA.list ⟨s2,v2⟩)
    have hc:=hcall k _ hp nx v hp' nx' hs ρ w _ h hL
    have e2 : (first'.toList ++ args.toList.map a.eval ++ captured'.toList).toArray = first' ++ args.map a.eval ++ captured':=by apply Array.ext'; simp
    rw [e2] at hc
    have : (execOp a.eval ⟨dst,.call ⟨.value f,args,argTypes⟩,type,pos,after,guard⟩).run P w = .ok (.enter k (first' ++ args.map a.eval ++ captured')) w:=by
     unfold execOp
     simp only [resolve,hE]
     show (callFunc k (first' ++ args.map a.eval ++ captured')).run P w = _
     exact fI (oS he _) w
    rw [this]
    refine hc.mono ?_
    rintro e w' ⟨v',ρ',rfl,h2,h3,h4⟩
    exact hk v' w' ρ' h2 h3 h4
  ·cases hs
inductive LRes where
 | val (v : Value)
 | new (ob : AObj) (nv : NewV)
def eB (P : Program) (hp : Tr AObj) (o : Oper) (ev : Operand -> Option Value) : Option LRes :=
 match o.op with
 | .load ..=>(pL P hp o ev).map .val
 | .alloc .. | .box .. | .buildSlice .. | .makeSlice .. | .range ..=>(aDi P o ev).map fun p=>.new p.1 p.2
 | .convert _ _ x=>match ev x with
  | some (.slice (some _) _ _)=>(pL P hp o ev).map .val
  | some (.string _)=>match mS P o ev with
   | some v=>some (.val v)
   | none=>(aDi P o ev).map fun p=>.new p.1 p.2
  | _=>(mS P o ev).map .val
 | _=>(mS P o ev).map .val
def jW (P : Program) (ρ : Place) (o : Oper) (a : Act) (w : World) : LRes -> Prop
 | .val v=>∃ v',(execOp a.eval o).run P w = .ok (.value v') w /\ VR ρ v v'
 | .new ob nv=>∃ v' ob' d z,(execOp a.eval o).run P w = .ok (.value v') (gB { w with drawn:=d } ob') /\ (∀ O : Nat -> Prop,¬ O w.heap.size -> ORel ρ O w.heap.size 0 z ob ob') /\ (∀ ρ' b,ρ' b = some (w.heap.size,0,z) -> VR ρ' (nv.val b) v')
theorem lM {P : Program} {ρ : Place} {W : Base} {hp : Tr AObj} {nx : Nat} {w : World} (h : Rel ρ W hp nx w) {ev : Operand -> Option Value} {a : Act} (hF : ERel ρ ev a) {o : Oper} {r : LRes} (hs : eB P hp o ev = some r) : jW P ρ o a w r:=by
 have hp1 : ∀ {v},mS P o ev = some v -> jW P ρ o a w (.val v):=fun hv=>aFO hF hv w
 have hr1 : ∀ {v},pL P hp o ev = some v -> jW P ρ o a w (.val v):=fun hv=>aGk h hF hv
 have hn1 : ∀ {p},aDi P o ev = some p -> jW P ρ o a w (.new p.1 p.2):=fun {p} hv=>aHC hF (ob:=p.1) (nv:=p.2) hv w
 unfold eB at hs
 split at hs
 case h_1=>simp only [Option.map_eq_some_iff] at hs; obtain ⟨v,hv,rfl⟩:=hs; exact hr1 hv
 case h_7 =>
  split at hs
  ·simp only [Option.map_eq_some_iff] at hs; obtain ⟨v,hv,rfl⟩:=hs; exact hr1 hv
  ·split at hs
   ·rename_i v hv; cases hs; exact hp1 hv
   ·simp only [Option.map_eq_some_iff] at hs; obtain ⟨p,hv,rfl⟩:=hs; exact hn1 hv
  ·simp only [Option.map_eq_some_iff] at hs; obtain ⟨v,hv,rfl⟩:=hs; exact hp1 hv
 case h_8=>simp only [Option.map_eq_some_iff] at hs; obtain ⟨v,hv,rfl⟩:=hs; exact hp1 hv
 all_goals (simp only [Option.map_eq_some_iff] at hs; obtain ⟨p,hv,rfl⟩:=hs; exact hn1 hv)
def eC : Op -> Bool
 | .store .. | .next .. | .panic _=>true
 | .call c=>match c.callee with
  | .builtin .append | .builtin .panic | .value _ | .invoke _ _=>true
  | _=>false
 | _=>false
def cQ (P : Program) (call : iC) (hp : Tr AObj) (nx : Nat) (o : Oper) (ev : Operand -> Option Value) : Option (Value × Tr AObj × Nat) :=
 match (bif eC o.op then sW P call hp nx o ev else none) with
 | some r=>some r
 | none=>match eB P hp o ev with
  | some (.val v)=>some (v,hp,nx)
  | some (.new ob nv)=>some (nv.val nx,hp.put nx (some ob),nx + 1)
  | none=>none
def yS (hp : Tr AObj) (nx : Nat) : Option Value -> Option (Value × Tr AObj × Nat)
 | some v=>some (v,hp,nx)
 | none=>none
def aIv (x y : Option (Value × Tr AObj × Nat)) : Option (Value × Tr AObj × Nat) :=
 match x with
 | some r=>some r
 | none=>y
def aC2 (x : Option Value) (f : Value -> Option Value) : Option Value :=
 match x with
 | some v=>f v
 | none=>none
def aMM (hp : Tr AObj) (nx : Nat) (c x y : Option Value) : Option (Value × Tr AObj × Nat) :=
 match c with
 | some (.bool true)=>yS hp nx x
 | some (.bool false)=>yS hp nx y
 | _=>none
def aAE (x : Option Value) (i : Nat) : Option Value :=
 match x with
 | some (.tuple vs)=>vs[i]?
 | _=>none
def kbox (hp : Tr AObj) (nx : Nat) (x : Option Value) : Option (Value × Tr AObj × Nat) :=
 match x with
 | some v=>some (.pointer (some ⟨nx,0,none⟩),hp.put nx (some (.cells v.cells.toList true)),nx + 1)
 | none=>none
def aD6 (P : Program) (hp : Tr AObj) (nx : Nat) (t : TypeId) (x y : Option Value) : Option (Value × Tr AObj × Nat) :=
 match x,y with
 | some p,some v=>match xI P hp t p v with
  | some hp'=>some (undef,hp',nx)
  | none=>none
 | _,_=>none
def ktab (op : Op) : Program -> iC -> Tr AObj -> Nat -> Oper -> (Operand -> Option Value) -> Option (Value × Tr AObj × Nat) :=
 Op.rec (motive:=fun _=>Program -> iC -> Tr AObj -> Nat -> Oper -> (Operand -> Option Value) -> Option (Value × Tr AObj × Nat))
  (fun x _ _ hp nx _ ev=>yS hp nx (ev x))
  (fun x _ _ hp nx _ ev=>yS hp nx (ev x))
  (fun c x y _ _ hp nx _ ev=>aMM hp nx (ev c) (ev x) (ev y))
  (fun _ P call hp nx o ev=>cQ P call hp nx o ev)
  (fun _ x _ _ hp nx _ ev=>kbox hp nx (ev x))
  (fun _ _ P call hp nx o ev=>cQ P call hp nx o ev)
  (fun _ _ _ P call hp nx o ev=>cQ P call hp nx o ev)
  (fun _ _ _ _ P call hp nx o ev=>cQ P call hp nx o ev)
  (fun t x P _ hp nx _ ev=>yS hp nx (aC2 (ev x) (uY P hp t)))
  (fun t x y P call hp nx o ev=>aIv (aD6 P hp nx t (ev x) (ev y)) (cQ P call hp nx o ev))
  (fun _ P call hp nx o ev=>cQ P call hp nx o ev)
  (fun _ P call hp nx o ev=>cQ P call hp nx o ev)
  (fun _ P call hp nx o ev=>cQ P call hp nx o ev)
  (fun _ _ _ _ _ P call hp nx o ev=>cQ P call hp nx o ev)
  (fun _ _ _ P call hp nx o ev=>cQ P call hp nx o ev)
  (fun _ _ _ P call hp nx o ev=>cQ P call hp nx o ev)
  (fun _ _ P call hp nx o ev=>cQ P call hp nx o ev)
  (fun _ _ P call hp nx o ev=>cQ P call hp nx o ev)
  (fun _ _ _ P call hp nx o ev=>cQ P call hp nx o ev)
  (fun _ _ P call hp nx o ev=>cQ P call hp nx o ev)
  (fun _ _ P call hp nx o ev=>cQ P call hp nx o ev)
  (fun _ _ _ P call hp nx o ev=>cQ P call hp nx o ev)
  (fun _ _ _ _ _ P call hp nx o ev=>cQ P call hp nx o ev)
  (fun t x f P _ hp nx _ ev=>yS hp nx (aC2 (ev x) fun v=>jT P t v f))
  (fun _ _ _ P call hp nx o ev=>cQ P call hp nx o ev)
  (fun _ _ _ P call hp nx o ev=>cQ P call hp nx o ev)
  (fun _ _ _ P call hp nx o ev=>cQ P call hp nx o ev)
  (fun _ _ _ _ P call hp nx o ev=>cQ P call hp nx o ev)
  (fun _ _ _ _ P call hp nx o ev=>cQ P call hp nx o ev)
  (fun _ _ _ P call hp nx o ev=>cQ P call hp nx o ev)
  (fun _ _ _ _ P call hp nx o ev=>cQ P call hp nx o ev)
  (fun _ _ P call hp nx o ev=>cQ P call hp nx o ev)
  (fun _ _ P call hp nx o ev=>cQ P call hp nx o ev)
  (fun _ P call hp nx o ev=>cQ P call hp nx o ev)
  (fun _ _ _ _ P call hp nx o ev=>cQ P call hp nx o ev)
  (fun x i _ _ hp nx _ ev=>yS hp nx (aAE (ev x) i))
  (fun _ P call hp nx o ev=>cQ P call hp nx o ev)
  (fun _ P call hp nx o ev=>cQ P call hp nx o ev)
  (fun _ P call hp nx o ev=>cQ P call hp nx o ev)
  (fun _ P call hp nx o ev=>cQ P call hp nx o ev)
  (fun _ _ P call hp nx o ev=>cQ P call hp nx o ev)
  (fun _ _ _ P call hp nx o ev=>cQ P call hp nx o ev)
  (fun _ _ P call hp nx o ev=>cQ P call hp nx o ev) op
def aJW (P : Program) (call : iC) (hp : Tr AObj) (nx : Nat) (o : Oper) (ev : Operand -> Option Value) : Option (Value × Tr AObj × Nat):=ktab o.op P call hp nx o ev
theorem aDZ (P : Program) (call : iC) (hp : Tr AObj) (nx : Nat) (o : Oper) (ev : Operand -> Option Value) : aJW P call hp nx o ev = cQ P call hp nx o ev:=by
 obtain ⟨dst,op,type,pos,after,guard⟩:=o
 unfold aJW
 cases op <;> try rfl
 case move x=>show yS hp nx (ev x) = _; unfold cQ eB mS eC; dsimp only; cases ev x <;> rfl
 case assign x=>show yS hp nx (ev x) = _; unfold cQ eB mS eC; dsimp only; cases ev x <;> rfl
 case pick c x y =>
  show aMM hp nx (ev c) (ev x) (ev y) = _
  unfold cQ eB mS eC aMM
  dsimp only
  cases ev c with
  | none=>rfl
  | some v =>
   cases v <;> try rfl
   rename_i b
   cases b
   ·cases ev y <;> rfl
   ·cases ev x <;> rfl
 case load t x =>
  show yS hp nx (aC2 (ev x) (uY P hp t)) = _
  unfold cQ eB pL eC aC2
  dsimp only
  cases ev x with
  | none=>rfl
  | some v=>dsimp only; cases uY P hp t v <;> rfl
 case fieldAddr t x f =>
  show yS hp nx (aC2 (ev x) fun v=>jT P t v f) = _
  unfold cQ eB mS eC aC2
  dsimp only
  cases ev x with
  | none=>rfl
  | some v=>dsimp only; cases jT P t v f <;> rfl
 case extract x i =>
  show yS hp nx (aAE (ev x) i) = _
  unfold cQ eB mS eC aAE
  dsimp only
  cases ev x with
  | none=>rfl
  | some v =>
   cases v <;> try rfl
   rename_i vs
   dsimp only
   cases vs[i]? <;> rfl
 case box t x =>
  show kbox hp nx (ev x) = _
  unfold cQ eB aDi eC kbox
  dsimp only
  cases ev x <;> rfl
 case store t x y =>
  have hk : sW P call hp nx ⟨dst,.store t x y,type,pos,after,guard⟩ ev = aD6 P hp nx t (ev x) (ev y):=rfl
  show aIv (aD6 P hp nx t (ev x) (ev y)) (cQ P call hp nx ⟨dst,.store t x y,type,pos,after,guard⟩ ev) = _
  cases hr : aD6 P hp nx t (ev x) (ev y) with
  | none=>rfl
  | some r =>
   unfold cQ
   rw [hk,hr]
   rfl
theorem Rel.at_drawn {ρ : Place} {W : Base} {hp : Tr AObj} {nx : Nat} {w : World} (h : Rel ρ W hp nx w) (d : Nat) : Rel ρ W hp nx { w with drawn:=d } :=
 ⟨h.dom,h.obj,h.inj,h.fresh,⟨h.below.os,h.below.tape,h.below.output,h.below.size,h.below.block⟩,h.frz,h.apart,h.frn⟩
theorem Rel.dom_none {ρ : Place} {W : Base} {hp : Tr AObj} {nx : Nat} {w : World} (h : Rel ρ W hp nx w) : ρ nx = none:=by
 cases hc : ρ nx with
 | none=>rfl
 | some x=>have:=(h.dom nx x hc).1; omega
theorem aBg {P : Program} {call : iC} {ρ : Place} {W : Base} (hcall : pH P W call) {hp hp' : Tr AObj} {nx nx' : Nat} {w : World} (h : Rel ρ W hp nx w) {ev : Operand -> Option Value} {a : Act} (hF : ERel ρ ev a) {o : Oper} {v : Value}
  (hs : aJW P call hp nx o ev = some (v,hp',nx')) {next : Act -> World -> Prop} {Q : Exit -> Act -> World -> Prop}
  (hk : ∀ v' w' ρ',VR ρ' v v' -> Rel ρ' W hp' nx' w' -> Step ρ ρ' hp hp' nx nx' -> next (a.put o.dst v') w') : o.wp P a w next Q:=by
 rw [aDZ] at hs
 unfold cQ at hs
 split at hs
 ·rename_i r hr
  cases hs
  cases hh : eC o.op with
  | false=>rw [hh] at hr; cases hr
  | true=>rw [hh,cond_true] at hr; exact aDq hcall h hF hr hk
 ·split at hs
  ·rename_i u hl
   cases hs
   obtain ⟨v',h1,h2⟩:=lM (r:=.val _) h hF hl
   unfold Oper.wp
   rw [h1]
   exact hk v' w ρ h2 h (.refl _ _ _)
  ·rename_i ob nv hl
   cases hs
   obtain ⟨v',ob',d,z,h1,h2,h3⟩:=lM (r:=.new _ _) h hF hl
   unfold Oper.wp
   rw [h1]
   have hrel:=((h.at_drawn d).reserve ob).realize (b:=nx) (z:=z) (ob:=ob') (by omega) h.dom_none (by rw [Tr.get_put,if_pos rfl]) (h2 _ h.below.fresh)
   refine hk v' _ _ (h3 _ _ (Place.set_same ρ nx _)) hrel ⟨Place.le_set h.dom_none,by omega,fun b hb hr=>⟨by rw [Place.set_other (by omega)]; exact hr,by rw [Tr.get_put,if_neg (by omega)]⟩⟩
  ·cases hs
structure AS where
 tm : Tr Value
 hp : Tr AObj
 nx : Nat
def gG (ops : Array Oper) (tm : Tr Value) (o : Oper) : Option Bool :=
 match o.guard with
 | none=>some true
 | some (j,want)=>match (ops[j]?).bind (·.dst) with
  | none=>some false
  | some d=>match tm.get d with
   | some (.bool b)=>some (b == want)
   | some _=>some false
   | none=>none
theorem fU {D : List Deferred} {ρ : Place} {tm : Tr Value} {n : Nat} {a : Act} (hF : FRel D ρ tm n a) {ops : Array Oper} {o : Oper} {b : Bool} (h : gG ops tm o = some b) : Region.wanted o (yielded ops a.tmps) = b:=by
 unfold gG at h
 unfold Region.wanted
 cases hg : o.guard with
 | none=>rw [hg] at h; cases h; rfl
 | some p =>
  obtain ⟨j,want⟩:=p
  rw [hg] at h
  dsimp only at h ⊢
  unfold yielded
  cases hd : (ops[j]?).bind (·.dst) with
  | none=>rw [hd] at h; cases h; rfl
  | some d =>
   rw [hd] at h
   dsimp only at h
   cases hv : tm.get d with
   | none=>rw [hv] at h; cases h
   | some u =>
    rw [hv] at h
    have hs:=hF.slot d u hv
    have hlt : d < a.tmps.size:=by rw [hF.size]; exact hs.1
    have he : a.tmps[d]? = some (a.tmps.getD d undef):=by simp [hlt]
    have hu:=hs.2
    rw [Option.bind_some,he]
    generalize a.tmps.getD d undef = y at hu
    cases hu <;> simp only [Option.some.injEq] at h <;> subst h <;> first | rfl | simp
def iZ (n : Nat) (tm : Tr Value) (dst : Option Tmp) (v : Value) : Option (Tr Value) :=
 match dst with
 | none=>some tm
 | some d=>bif d.blt n then some (tm.put d (some v)) else none
theorem eV {D : List Deferred} {ρ : Place} {tm tm' : Tr Value} {n : Nat} {a : Act} (hF : FRel D ρ tm n a) {dst : Option Tmp} {v v' : Value} (h : iZ n tm dst v = some tm') (hv : VR ρ v v') : FRel D ρ tm' n (a.put dst v'):=by
 unfold iZ at h
 cases dst with
 | none=>cases h; exact hF
 | some d =>
  dsimp only at h
  cases hd : d.blt n with
  | false=>rw [hd] at h; cases h
  | true=>rw [hd] at h; cases h; exact hF.put (Nat.le_of_ble_eq_true hd) hv
def aC7 (P : Program) (call : iC) (ops : Array Oper) (n : Nat) (st : AS) (o : Oper) : Option AS :=
 match gG ops st.tm o with
 | some true=>match aJW P call st.hp st.nx o (aev st.tm) with
  | some (v,hp',nx')=>match iZ n st.tm o.dst v with
   | some tm'=>some ⟨tm',hp',nx'⟩
   | none=>none
  | none=>none
 | some false=>match iZ n st.tm o.dst undef with
  | some tm'=>some ⟨tm',st.hp,st.nx⟩
  | none=>none
 | none=>none
structure SRel (ρ : Place) (W : Base) (n : Nat) (st : AS) (a : Act) (w : World) : Prop where
 rel : Rel ρ W st.hp st.nx w
 frame : FRel W.ds ρ st.tm n a
theorem aEV {P : Program} {call : iC} {ρ : Place} {W : Base} (hcall : pH P W call) {ops : Array Oper} {n : Nat} {st st' : AS} {a : Act} {w : World} (h : SRel ρ W n st a w) {i : Nat} {o : Oper} (hi : ops[i]? = some o)
  (hs : aC7 P call ops n st o = some st') {K : Act -> World -> Prop} {Q : Exit -> Act -> World -> Prop} (hk : ∀ a' w' ρ',SRel ρ' W n st' a' w' -> Step ρ ρ' st.hp st'.hp st.nx st'.nx -> K a' w') : wpOp P ops Q i K a w:=by
 unfold aC7 at hs
 unfold wpOp
 simp only [hi]
 split at hs
 ·rename_i hw
  rw [fU h.frame hw,if_pos rfl]
  split at hs
  case h_2=>cases hs
  rename_i v hp' nx' hv
  split at hs
  case h_2=>cases hs
  rename_i tm' ht
  cases hs
  exact .inl (aBg hcall h.rel h.frame.ev hv fun v' w' ρ' g1 g2 g3=>hk _ _ ρ' ⟨g2,eV (h.frame.mono g3.le) ht g1⟩ g3)
 ·rename_i hw
  rw [fU h.frame hw,if_neg (by simp)]
  split at hs
  case h_2=>cases hs
  rename_i tm' ht
  cases hs
  exact hk _ _ ρ ⟨h.rel,eV h.frame ht (cJ (by simp [undef,dK]))⟩ (.refl _ _ _)
 ·cases hs
def aJX (P : Program) (call : iC) (ops : Array Oper) (n : Nat) (st : AS) : List Oper -> Option AS
 | []=>some st
 | o :: l=>match aC7 P call ops n st o with
  | some st'=>aJX P call ops n st' l
  | none=>none
theorem aBo {P : Program} {call : iC} {W : Base} (hcall : pH P W call) {ops : Array Oper} {n : Nat} {Q : Exit -> Act -> World -> Prop} : ∀ (l : List Oper) (k : Nat) (st st' : AS) (ρ : Place) (a : Act) (w : World),ops.toList.drop k = l ->
  SRel ρ W n st a w -> aJX P call ops n st l = some st' -> (∀ a' w' ρ',SRel ρ' W n st' a' w' -> Step ρ ρ' st.hp st'.hp st.nx st'.nx -> Q .normal a' w') -> wpOps P ops Q (List.range' k l.length) a w
 | [],k,st,st',ρ,a,w,_,h,hs,hk=>by
  simp only [aJX] at hs
  cases hs
  exact hk a w ρ h (.refl _ _ _)
 | o :: l,k,st,st',ρ,a,w,hd,h,hs,hk=>by
  simp only [aJX] at hs
  split at hs
  case h_2=>cases hs
  rename_i st1 h1
  have hi : ops[k]? = some o:=by
   have : (ops.toList.drop k)[0]? = some o:=by rw [hd]; rfl
   rw [List.getElem?_drop] at this
   simpa using this
  rw [List.length_cons,List.range'_succ,wpOps_cons]
  refine aEV hcall h hi h1 fun a1 w1 ρ1 hr hst=>?_
  refine aBo hcall l (k + 1) st1 st' ρ1 a1 w1 (by rw [← List.drop_drop,hd]; rfl) hr hs fun a' w' ρ' g1 g2=>hk a' w' ρ' g1 (hst.trans g2)
theorem aH3 {P : Program} {call : iC} {W : Base} (hcall : pH P W call) {ops : Array Oper} {id n : Nat} {Q : Exit -> Act -> World -> Prop} {st st' : AS} {ρ : Place} {a : Act} {w : World} (h : SRel ρ W n st a w)
  (hs : aJX P call ops n st ops.toList = some st') (hk : ∀ a' w' ρ',SRel ρ' W n st' a' w' -> Step ρ ρ' st.hp st'.hp st.nx st'.nx -> Q .normal a' w') : (Code.region id ops false).wp P Q a w:=by
 refine wp_region ?_
 rw [List.range_eq_range']
 have:=aBo hcall (Q:=Q) ops.toList 0 st st' ρ a w (by simp) h hs hk
 simpa using this
end Go.Proofs.YtngginofamlkkaaGreatDoor
noncomputable section
namespace Go.Proofs.YtngginofamlkkaaGreatDoor
open Go Go.RowKit
section
variable {P : Program} {ev ev' : Operand -> Option Value}
theorem yT {xs : Array Operand} (h : ∀ x ∈ xs,ev x = ev' x) : nX ev xs = nX ev' xs:=by
 unfold nX
 rw [Bool.eq_iff_iff,Array.all_eq_true_iff_forall_mem,Array.all_eq_true_iff_forall_mem]
 constructor
 ·intro g x hx; rw [← h x hx]; exact g x hx
 ·intro g x hx; rw [h x hx]; exact g x hx
theorem tY {o : Oper} (h : ∀ x ∈ o.op.operands,ev x = ev' x) : iS P o ev = iS P o ev':=by
 unfold iS
 rw [yT h]
 cases hs : aBl o.op with
 | true=>simp
 | false =>
  have : execOp (fun x=>(ev x).getD undef) o = execOp (fun x=>(ev' x).getD undef) o :=
   execOp_congr o (fun cs b e=>by rw [e] at hs; cases hs) fun x hx=>by rw [h x hx]
  rw [this]
theorem iW : ∀ {l : List Operand},(∀ x ∈ l,ev x = ev' x) -> evL ev l = evL ev' l
 | [],_=>rfl
 | x :: l,h=>by
  simp only [evL]
  rw [h x (by simp),iW fun y hy=>h y (by simp [hy])]
theorem wK : ∀ {l : List (Nat × Operand)},(∀ p ∈ l,ev p.2 = ev' p.2) -> evP ev l = evP ev' l
 | [],_=>rfl
 | (i,x) :: l,h=>by
  simp only [evP]
  rw [h (i,x) (by simp),wK fun y hy=>h y (by simp [hy])]
theorem vE {d : Nat} {x : Option Operand} (h : ∀ y,x = some y -> ev y = ev' y) : gA ev d x = gA ev' d x:=by
 cases x with
 | none=>rfl
 | some y=>simp only [gA]; rw [h y rfl]
theorem aGJ {c : Call} (h : ∀ x ∈ c.operands,ev x = ev' x) : aJH P c ev = aJH P c ev':=by
 unfold aJH
 split
 ·rename_i t x hcal hty har
  rw [h x (by simp [Call.operands]; exact .inr (Array.mem_of_getElem? har))]
 ·rfl
theorem aFA {o : Oper} (h : ∀ x ∈ o.op.operands,ev x = ev' x) : mS P o ev = mS P o ev':=by
 have hsc:=tY (P:=P) h
 obtain ⟨dst,op,type,pos,after,guard⟩:=o
 unfold mS
 cases op <;> simp only [Op.operands] at h <;> dsimp only
 case move x=>exact h x (by simp)
 case assign x=>exact h x (by simp)
 case pick c x y=>rw [h c (by simp),h x (by simp),h y (by simp)]
 case nilCheck x=>rw [h x (by simp),hsc]
 case field t x f=>rw [h x (by simp)]
 case index t x i=>rw [h x (by simp),h i (by simp),hsc]
 case extract x i=>rw [h x (by simp)]
 case build t ps=>rw [wK fun p hp=>h p.2 (by simp; exact ⟨p.1,by simpa using hp⟩)]
 case fieldAddr t x f=>rw [h x (by simp)]
 case indexAddr t x i=>rw [h x (by simp),h i (by simp)]
 case slice t x lo hi mx =>
  cases mx with
  | some m=>exact hsc
  | none =>
   dsimp only
   rw [h x (by simp),hsc]
   have : ∀ v,xP P ev t v lo hi = xP P ev' t v lo hi:=fun v=>by
    unfold xP
    have b1 : ∀ d,gA ev d hi = gA ev' d hi:=fun d=>vE fun y hy=>h y (by simp [hy])
    have b2 : ∀ d,gA ev d lo = gA ev' d lo:=fun d=>vE fun y hy=>h y (by simp [hy])
    simp only [b1,b2]
   simp only [this]
 case makeFunc fn f c =>
  cases fn <;> try exact hsc
  dsimp only
  rw [iW fun x hx=>h x (by simp; exact .inl (by simpa using hx)),iW fun x hx=>h x (by simp; exact .inr (by simpa using hx))]
 case makeInterface t x=>rw [h x (by simp)]
 case call c=>rw [aGJ h,hsc]
 case binOp op t x y ty=>rw [h x (by simp),h y (by simp),hsc]
 all_goals exact hsc
theorem aEy {hp : Tr AObj} {o : Oper} (h : ∀ x ∈ o.op.operands,ev x = ev' x) : pL P hp o ev = pL P hp o ev':=by
 obtain ⟨dst,op,type,pos,after,guard⟩:=o
 unfold pL
 cases op <;> simp only [Op.operands] at h <;> dsimp only
 case load t x=>rw [h x (by simp)]
 case convert src dst' x=>rw [h x (by simp)]
theorem aHM {o : Oper} (h : ∀ x ∈ o.op.operands,ev x = ev' x) : aDi P o ev = aDi P o ev':=by
 obtain ⟨dst,op,type,pos,after,guard⟩:=o
 unfold aDi
 cases op <;> simp only [Op.operands] at h <;> dsimp only
 case box t x=>rw [h x (by simp)]
 case buildSlice t len ps=>rw [wK fun p hp=>h p.2 (by simp; exact ⟨p.1,by simpa using hp⟩)]
 case makeSlice t x y=>rw [h x (by simp),h y (by simp)]
 case convert src dst' x=>rw [h x (by simp)]
 case range t x=>rw [h x (by simp)]
theorem pE {hp : Tr AObj} {o : Oper} (h : ∀ x ∈ o.op.operands,ev x = ev' x) : eB P hp o ev = eB P hp o ev':=by
 have h1:=aFA (P:=P) h
 have h2:=aEy (P:=P) (hp:=hp) h
 have h3:=aHM (P:=P) h
 unfold eB
 rw [h1,h2,h3]
 split <;> try rfl
 rename_i s d x hop
 rw [h x (by rw [hop]; simp [Op.operands])]
theorem aDE {call : iC} {hp : Tr AObj} {nx : Nat} {o : Oper} (h : ∀ x ∈ o.op.operands,ev x = ev' x) : sW P call hp nx o ev = sW P call hp nx o ev':=by
 obtain ⟨dst,op,type,pos,after,guard⟩:=o
 unfold sW
 cases op <;> simp only [Op.operands] at h <;> dsimp only
 case store t x y=>rw [h x (by simp),h y (by simp)]
 case next x q=>rw [h x (by simp)]
 case call c =>
  obtain ⟨callee,args,argTypes⟩:=c
  have ha : evL ev args.toList = evL ev' args.toList:=iW fun x hx=>h x (by simp [Call.operands]; exact .inr (by simpa using hx))
  dsimp only
  rw [ha]
  cases callee with
  | value f=>dsimp only; rw [h f (by simp [Call.operands])]
  | invoke r m=>rfl
  | builtin b=>cases b <;> rfl
theorem aHJ {call : iC} {hp : Tr AObj} {nx : Nat} {o : Oper} (h : ∀ x ∈ o.op.operands,ev x = ev' x) : aJW P call hp nx o ev = aJW P call hp nx o ev':=by
 rw [aDZ,aDZ]
 unfold cQ
 rw [aDE h,pE h]
end
def eW (o : Oper) (ev : Operand -> Option Value) : Bool :=
 match o.op with
 | .load ..=>true
 | .convert _ _ x=>match ev x with
  | some (.slice (some _) _ _)=>true
  | _=>false
 | _=>false
theorem oP {P : Program} {ev : Operand -> Option Value} {hp hp' : Tr AObj} {o : Oper} (h : eW o ev = false) : eB P hp o ev = eB P hp' o ev:=by
 unfold eW at h
 unfold eB
 split <;> try rfl
 ·rename_i t x hop; rw [hop] at h; cases h
 ·rename_i s d x hop
  rw [hop] at h
  dsimp only at h
  split
  ·rename_i hx; rw [hx] at h; cases h
  ·rfl
  ·rfl
def bN (ops : Array Oper) (j i : Nat) : Bool:=((Region.before ops).getD i 0).testBit j
theorem aGr (acc : Array Nat) (j : Nat) : ∀ (l : List Edge) (s : Nat),(l.foldl (fun s e=>if Region.binds .any e then s ||| 2 ^ e.on ||| acc.getD e.on 0 else s) s).testBit j = true ->
  s.testBit j = true ∨ ∃ e ∈ l,Region.binds .any e = true /\ (e.on = j ∨ (acc.getD e.on 0).testBit j = true)
 | [],s,h=>.inl h
 | e :: l,s,h=>by
  simp only [List.foldl_cons] at h
  rcases aGr acc j l _ h with h' | ⟨e',h1,h2⟩
  ·split at h'
   ·rename_i hb
    simp only [Nat.testBit_or,Bool.or_eq_true,Nat.testBit_two_pow,decide_eq_true_eq] at h'
    rcases h' with (h' | h') | h'
    ·exact .inl h'
    ·exact .inr ⟨e,by simp,hb,.inl h'⟩
    ·exact .inr ⟨e,by simp,hb,.inr h'⟩
   ·exact .inl h'
  ·exact .inr ⟨e',by simp [h1],h2⟩
theorem yO : ∀ (l : List Oper) (acc : Array Nat) (ops : Array Oper),ops.toList.drop acc.size = l ->
  (∀ i j,(acc.getD i 0).testBit j = true -> ∃ o,ops[i]? = some o /\ ∃ e ∈ o.after.toList,Region.binds .any e = true /\ (e.on = j ∨ (e.on < i /\ (acc.getD e.on 0).testBit j = true))) ->
  ∀ i j,((l.foldl (fun acc o=>acc.push (o.after.foldl (fun s e=>if Region.binds .any e then s ||| 2 ^ e.on ||| acc.getD e.on 0 else s) 0)) acc).getD i 0).testBit j = true ->
   ∃ o,ops[i]? = some o /\ ∃ e ∈ o.after.toList,Region.binds .any e = true /\ (e.on = j ∨ (e.on < i /\ ((l.foldl (fun acc o=>acc.push (o.after.foldl (fun s e=>if Region.binds .any e then s ||| 2 ^ e.on ||| acc.getD e.on 0 else s) 0)) acc).getD e.on 0).testBit j = true))
 | [],acc,ops,_,hI=>hI
 | o :: l,acc,ops,hd,hI=>by
  simp only [List.foldl_cons]
  refine yO l _ ops (by rw [Array.size_push,← List.drop_drop,hd]; rfl) ?_
  intro i j hij
  have getD_lt : ∀ k,k < acc.size -> ∀ x,(acc.push x).getD k 0 = acc.getD k 0:=fun k hk x=>by
   simp [Array.getD_eq_getD_getElem?,Array.getElem?_push,Nat.ne_of_lt hk]
  rcases Nat.lt_trichotomy i acc.size with h | h | h
  ·rw [getD_lt i h] at hij
   obtain ⟨o',h1,e,h2,h3,h4⟩:=hI i j hij
   refine ⟨o',h1,e,h2,h3,h4.imp id fun ⟨a,b⟩=>⟨a,?_⟩⟩
   rw [getD_lt _ (by omega)]
   exact b
  ·subst h
   have ho : ops[acc.size]? = some o:=by
    have : (ops.toList.drop acc.size)[0]? = some o:=by rw [hd]; rfl
    rw [List.getElem?_drop] at this
    simpa using this
   have hx : ((acc.push (o.after.foldl (fun s e=>if Region.binds .any e then s ||| 2 ^ e.on ||| acc.getD e.on 0 else s) 0)).getD acc.size 0) = o.after.foldl (fun s e=>if Region.binds .any e then s ||| 2 ^ e.on ||| acc.getD e.on 0 else s) 0:=by
    simp [Array.getD_eq_getD_getElem?]
   rw [hx,← Array.foldl_toList] at hij
   rcases aGr acc j o.after.toList 0 hij with h' | ⟨e,h1,h2,h3⟩
   ·simp at h'
   ·refine ⟨o,ho,e,h1,h2,?_⟩
    rcases h3 with h3 | h3
    ·exact .inl h3
    ·have hlt : e.on < acc.size:=by
      rcases Nat.lt_or_ge e.on acc.size with h' | h'
      ·exact h'
      ·simp [Array.getD_eq_getD_getElem?,Array.getElem?_eq_none h'] at h3
     exact .inr ⟨hlt,by rw [getD_lt _ hlt]; exact h3⟩
  ·have : (acc.push (o.after.foldl (fun s e=>if Region.binds .any e then s ||| 2 ^ e.on ||| acc.getD e.on 0 else s) 0)).getD i 0 = 0:=by
    rw [Array.getD_eq_getD_getElem?,Array.getElem?_eq_none (by simp; omega)]
    rfl
   rw [this] at hij
   simp at hij
theorem aFf {ops : Array Oper} {i j : Nat} (h : bN ops j i = true) : ∃ o,ops[i]? = some o /\ ∃ e ∈ o.after.toList,Region.binds .any e = true /\ (e.on = j ∨ (e.on < i /\ bN ops j e.on = true)):=by
 unfold bN Region.before at *
 rw [← Array.foldl_toList] at *
 exact yO ops.toList #[] ops (by simp) (fun i j h=>by simp at h) i j h
theorem dG {ops : Array Oper} {L : Nat -> Prop} (hL : ∀ i,L i -> ∀ o,ops[i]? = some o -> ∀ e ∈ o.after,Region.binds .any e = true -> L e.on) :
  ∀ i j,bN ops j i = true -> (∀ o,ops[i]? = some o -> ∀ e ∈ o.after,Region.binds .any e = true -> L e.on) -> L j:=by
 intro i
 induction i using Nat.strongRecOn with
 | _ i ih =>
  intro j hij hi
  obtain ⟨o,h1,e,h2,h3,h4⟩:=aFf hij
  have hLe:=hi o h1 e (by simpa using h2) h3
  rcases h4 with h4 | ⟨h4,h5⟩
  ·rw [← h4]; exact hLe
  ·exact ih e.on h4 j h5 fun o' ho' e' he' hb'=>hL e.on hLe o' ho' e' he' hb'
end Go.Proofs.YtngginofamlkkaaGreatDoor

noncomputable section
namespace Go.Proofs.YtngginofamlkkaaGreatDoor
open Go Go.RowKit
def toB : Value -> Bool
 | .bool b=>b
 | _=>false
def toI : Value -> Int
 | .int _ n=>n
 | _=>0
def toS : Value -> ByteArray
 | .string s=>s
 | _=>.empty
def toN : Value -> Nat
 | .func (.via _ _ n _) _ _=>n
 | _=>0
def toE : Value -> Array Value
 | .func _ els _=>els
 | _=>#[]
def aA (els : Array Value) (i j : Nat) : Value:=((els.getD i undef).cells).getD j undef
def eta (P : Program) (t : TypeId) (x : Value) : Option Value :=
 match P.underlying t with
 | some .bool=>some (.bool (toB x))
 | some (.int k)=>some (.int k (toI x))
 | some .string=>some (.string (toS x))
 | some (.slice e)=>match aF P (sizeOf e) with
  | some z=>some (tree z (toN x) (toE x))
  | none=>none
 | _=>none
theorem rV {P : Program} {t : TypeId} {x v : Value} (h : eta P t x = some v) : v ≠ undef:=by
 unfold eta at h
 split at h
 ·cases h; simp [undef]
 ·cases h; simp [undef]
 ·cases h; simp [undef]
 ·split at h
  ·cases h; simp [undef]
  ·cases h
 ·cases h
def aD3 (f : TypeId -> Option (List TypeId)) : List TypeId -> Option (List TypeId)
 | []=>some []
 | t :: l=>match f t,aD3 f l with
  | some a,some b=>some (a ++ b)
  | _,_=>none
def zQ (P : Program) : Nat -> TypeId -> Option (List TypeId)
 | 0,_=>none
 | k + 1,t=>match P.underlying t with
  | some (.struct fs)=>aD3 (zQ P k) (fs.toList.map (·.type))
  | some (.array n e)=>aD3 (zQ P k) (List.replicate n e)
  | some _=>some [t]
  | none=>none
def aN2 (P : Program) (els : Array Value) (i : Nat) : List TypeId -> Nat -> Option (List Value × Prop)
 | [],_=>some ([],True)
 | t :: ts,j=>match eta P t (aA els i j),aN2 P els i ts (j + 1) with
  | some v,some (vs,o)=>some (v :: vs,aA els i j = v /\ o)
  | _,_=>none
def aLP (P : Program) (t : TypeId) (els : Array Value) (i off : Nat) : Option (Value × Prop) :=
 match aF P (isAgg t) with
 | some true=>match zQ P 20 t,aF P (sizeOf t) with
  | some ts,some z=>bif ts.length.beq z then match aN2 P els i ts off with
   | some (vs,o)=>some (.agg vs.toArray,o)
   | none=>none
   else none
  | _,_=>none
 | some false=>match eta P t (aA els i off) with
  | some v=>some (v,aA els i off = v)
  | none=>none
 | none=>none
theorem zZ {els : Array Value} {i j : Nat} {u v : Value} (hu : els[i]? = some u) (h : aA els i j = v) (hv : v ≠ undef) : u.cells[j]? = some v:=by
 unfold aA at h
 simp only [Array.getD_eq_getD_getElem?,hu,Option.getD_some] at h
 cases hc : u.cells[j]? with
 | none=>rw [hc] at h; exact absurd h.symm hv
 | some x=>rw [hc] at h; exact congrArg some h
section
variable {P : Program} {ρ : Place} {els cs : Array Value} {i o : Nat} {u : Value}
theorem aAr (hu : els[i]? = some u) (hs : o + u.cells.size <= cs.size) (hv : ∀ (j : Nat) (v v' : Value),u.cells[j]? = some v -> cs[o + j]? = some v' -> VR0 ρ.fr v v') :
  ∀ (ts : List TypeId) (j : Nat) (vs : List Value) (ob : Prop),aN2 P els i ts j = some (vs,ob) -> ob -> ∃ l',VRL ρ vs l' /\ vs.length = ts.length /\ ∀ (k : Nat) (v : Value),l'[k]? = some v -> cs[o + (j + k)]? = some v
 | [],j,vs,ob,h,_=>by
  simp only [aN2] at h
  cases h
  exact ⟨[],.nil,rfl,fun k v hk=>by simp at hk⟩
 | t :: ts,j,vs,ob,h,hob=>by
  simp only [aN2] at h
  split at h
  case h_2=>cases h
  rename_i v us ob' h1 h2
  cases h
  obtain ⟨l',g1,g2,g3⟩:=aAr hu hs hv ts (j + 1) us ob' h2 hob.2
  have hc:=zZ hu hob.1 (rV h1)
  have hj : j < u.cells.size:=by
   rcases Nat.lt_or_ge j u.cells.size with h' | h'
   ·exact h'
   ·rw [Array.getElem?_eq_none h'] at hc; cases hc
  have hlt : o + j < cs.size:=by omega
  refine ⟨cs[o + j] :: l',.cons (hv j v _ hc (by simp [hlt])).lift g1,by simp [g2],fun k v' hk=>?_⟩
  cases k with
  | zero=>simp at hk; subst hk; simp [hlt]
  | succ k=>rw [show o + (j + (k + 1)) = o + (j + 1 + k) by omega]; exact g3 k v' (by simpa using hk)
end
theorem aAb {ρ : Place} {W : Base} {hp : Tr AObj} {nx : Nat} {w : World} (h : Rel ρ W hp nx w) {c : Nat} {cs : Array Value} {t : TypeId} {fz : Nat × Nat} (hc : ρ.fr c = some (.cells cs t fz)) (o : Nat) : w.cell? ⟨c,o,none⟩ = cs[o]?:=by
 simp [World.cell?,h.frz c _ hc]
theorem aEB {P : Program} {ρ : Place} {W : Base} {hp : Tr AObj} {nx : Nat} {w : World} (h : Rel ρ W hp nx w) {t : TypeId} {els : Array Value} {i off : Nat} {x' v : Value} {ob : Prop} (hx : VR ρ (treeAt els i off) x') (hv : aLP P t els i off = some (v,ob)) (hob : ob) :
  ∃ v',(Instr.loadAt t x').run P w = .ok v' w /\ VR ρ v v':=by
 cases hx with
 | @treeAt _ _ c o _ cs ct fz u hf hu hs hr =>
  unfold Instr.loadAt
  show ∃ v',(loadVar t ⟨c,o + off,none⟩).run P w = _ /\ _
  unfold loadVar
  unfold aLP at hv
  cases hi : aF P (isAgg t) with
  | none=>rw [hi] at hv; cases hv
  | some q =>
   rw [hi] at hv
   rw [aL hi]
   cases q with
   | true =>
    dsimp only at hv
    split at hv
    case h_2=>cases hv
    rename_i ts z hts hz
    cases hb : ts.length.beq z with
    | false=>rw [hb] at hv; cases hv
    | true =>
     rw [hb,cond_true] at hv
     have hb:=Nat.eq_of_beq_eq_true hb
     split at hv
     case h_2=>cases hv
     rename_i vs ob' hl
     cases hv
     obtain ⟨l',g1,g2,g3⟩:=aAr hu hs hr ts off vs _ hl hob
     rw [if_pos rfl,aL hz,Sem.run_bind]
     have hlen : l'.length = z:=by rw [← g1.len,g2,hb]
     have:=hJ (P:=P) (w:=w) (a:=⟨c,o + off,none⟩) l' 0 #[] (fun k v hk=>by
      rw [Nat.zero_add,gP,aAb h hf,show o + (off + k) = o + (off + k) from rfl]
      exact g3 k v hk)
     unfold loadCells
     rw [← hlen]
     rw [this,Result.andThen_ok]
     refine ⟨_,rfl,?_⟩
     have ha:=g1.arr
     simpa using VR.agg ha.1 ha.2
   | false =>
    dsimp only at hv
    split at hv
    case h_2=>cases hv
    rename_i v0 he
    cases hv
    have hc:=zZ hu hob (rV he)
    have hj : off < u.cells.size:=by
     rcases Nat.lt_or_ge off u.cells.size with h' | h'
     ·exact h'
     ·rw [Array.getElem?_eq_none h'] at hc; cases hc
    have hlt : o + off < cs.size:=by omega
    rw [if_neg (by simp),run_load,aAb h hf]
    simp only [hlt,Array.getElem?_eq_getElem]
    exact ⟨_,rfl,(hr off v _ hc (by simp [hlt])).lift⟩
def aJP (f : TypeId -> Value -> Value -> Option Bool) (P : Program) (xs ys : Array Value) : List Field -> Option Bool
 | []=>some true
 | fd :: l=>bif fd.name == "_" then aJP f P xs ys l else match sD P fd.type xs fd.offset,sD P fd.type ys fd.offset with
  | some a,some b=>match f fd.type a b,aJP f P xs ys l with
   | some r,some r'=>some (r && r')
   | _,_=>none
  | _,_=>none
def sEq (P : Program) : Nat -> TypeId -> Value -> Value -> Option Bool
 | 0,_,_,_=>none
 | d + 1,t,x,y=>match P.underlying t,x,y with
  | some .bool,.bool a,.bool b=>some (a == b)
  | some (.int _),.int k a,.int k' b=>bif decide (k = k') then some (decide (a = b)) else none
  | some .string,.string a,.string b=>some (decide (a = b))
  | some (.struct fs),.agg xs,.agg ys=>bif P.stoodInHeld t then none else aJP (sEq P d) P xs ys fs.toList
  | _,_,_=>none
theorem yH {c : Array Value} {a b : Nat} {x : Value} (h : x ∈ c.extract a b) : x ∈ c:=by
 rw [← Array.mem_toList_iff,Array.toList_extract] at h
 rw [← Array.mem_toList_iff]
 exact List.mem_of_mem_drop (List.mem_of_mem_take h)
theorem nL (a b : ByteArray) : (a == b) = decide (a = b):=by
 rw [beq_toListBytes,ByteArray.toList_eq,ByteArray.toList_eq]
 obtain ⟨⟨x⟩⟩:=a
 obtain ⟨⟨y⟩⟩:=b
 by_cases h : x = y
 ·subst h; simp
 ·have : (⟨⟨x⟩⟩ : ByteArray) ≠ ⟨⟨y⟩⟩:=fun e=>h (by cases e; rfl)
  simp [h]
theorem aBv {P : Program} {t : TypeId} {cs : Array Value} {off : Nat} {v : Value} (hc : dM cs = true) (h : sD P t cs off = some v) (w : World) : (part t cs off).run P w = .ok v w:=by
 obtain ⟨v',h1,h2⟩:=rA (ρ:=Place.any) (kA hc) h w
 have : v' = v:=by
  unfold sD at h
  cases hi : aF P (isAgg t) with
  | none=>rw [hi] at h; cases h
  | some b =>
   rw [hi] at h
   cases b with
   | true =>
    dsimp only at h
    cases hz : aF P (sizeOf t) with
    | none=>rw [hz] at h; cases h
    | some z =>
     rw [hz] at h
     cases h
     refine kB ?_ h2
     unfold eY dM
     dsimp only
     rw [Array.all_eq_true_iff_forall_mem]
     intro x hx
     exact (Array.all_eq_true_iff_forall_mem.1 hc) x (yH hx)
   | false=>exact oU (lK hc h) h2
 rw [← this]
 exact h1
theorem vI {P : Program} {t : TypeId} {cs : Array Value} {off : Nat} {v : Value} (hc : dM cs = true) (h : sD P t cs off = some v) : eY v = true:=by
 unfold sD at h
 cases hi : aF P (isAgg t) with
 | none=>rw [hi] at h; cases h
 | some b =>
  rw [hi] at h
  cases b with
  | true =>
   dsimp only at h
   cases hz : aF P (sizeOf t) with
   | none=>rw [hz] at h; cases h
   | some z =>
    rw [hz] at h
    cases h
    unfold eY dM
    dsimp only
    rw [Array.all_eq_true_iff_forall_mem]
    intro x hx
    exact (Array.all_eq_true_iff_forall_mem.1 hc) x (yH hx)
  | false =>
   have:=lK hc h
   cases v <;> first | exact this | cases this
theorem sV {P : Program} {xs ys : Array Value} (hx : dM xs = true) (hy : dM ys = true) (D : Nat) {f : TypeId -> Value -> Value -> Option Bool}
  (ih : ∀ t x y r w,eY x = true -> eY y = true -> f t x y = some r -> (Op.equalIn D t x y).run P w = .ok r w) :
  ∀ (l : List Field) (r : Bool) (w : World),aJP f P xs ys l = some r -> (Op.eqFields D xs ys l).run P w = .ok r w
 | [],r,w,h=>by simp only [aJP] at h; cases h; rfl
 | fd :: l,r,w,h=>by
  simp only [aJP] at h
  simp only [Op.eqFields]
  cases hn : fd.name == "_" with
  | true =>
   rw [hn,cond_true] at h
   rw [if_neg (by simp; simpa using hn)]
   exact sV hx hy D ih l r w h
  | false =>
   rw [hn,cond_false] at h
   rw [if_pos (by simpa using hn)]
   split at h
   case h_2=>cases h
   rename_i a b ha hb
   split at h
   case h_2=>cases h
   rename_i r1 r2 h1 h2
   cases h
   rw [Sem.run_bind,aBv hx ha w,Result.andThen_ok,Sem.run_bind,aBv hy hb w,Result.andThen_ok,Sem.run_bind,ih _ _ _ _ w (vI hx ha) (vI hy hb) h1,Result.andThen_ok]
   cases r1 with
   | true=>simp only [Bool.not_true,Bool.false_eq_true,if_false,Bool.true_and]; exact sV hx hy D ih l r2 w h2
   | false=>rfl
theorem aBS {P : Program} : ∀ (d D : Nat) (t : TypeId) (x y : Value) (r : Bool) (w : World),eY x = true -> eY y = true -> sEq P d t x y = some r -> (Op.equalIn (D + d) t x y).run P w = .ok r w:=by
 intro d
 induction d with
 | zero=>intro D t x y r w _ _ h; simp [sEq] at h
 | succ d ih =>
  intro D t x y r w hx hy h
  unfold sEq at h
  rw [show D + (d + 1) = (D + d) + 1 by omega]
  split at h
  ·rename_i a b hu
   cases h
   exact run_equalIn_bool' w (D + d) t a b hu
  ·rename_i k0 k a k' b hu
   cases hk : decide (k = k') with
   | false=>rw [hk] at h; cases h
   | true =>
    rw [hk] at h
    cases h
    have:=of_decide_eq_true hk
    subst this
    rw [run_equalIn_int w (D + d) t k k0 a b hu]
    rfl
  ·rename_i a b hu
   cases h
   rw [run_equalIn_string w (D + d) t a b hu]
   congr 1
   rw [← beq_toListBytes]
   exact nL a b
  ·rename_i fs xs ys hu
   cases hs : P.stoodInHeld t with
   | true=>rw [hs] at h; cases h
   | false =>
    rw [hs,cond_false] at h
    have hf : P.fieldsOf t = fs:=by unfold Program.fieldsOf; rw [hu]
    rw [run_equalIn_struct w (D + d) t xs ys (by rw [hf]; exact hu) hs,hf]
    exact sV hx hy (D + d) (fun t x y r w hx hy h=>ih D t x y r w hx hy h) fs.toList r w h
  ·cases h
end Go.Proofs.YtngginofamlkkaaGreatDoor

noncomputable section
namespace Go.Proofs.YtngginofamlkkaaGreatDoor
open Go Go.RowKit
set_option maxRecDepth 100000
set_option maxHeartbeats 8000000
theorem wZ {P : Program} (k : IntKind) (n : Int) : aF P (asIntOf (.int k n)) = some (k,n):=rfl
def tH (P : Program) (t : TypeId) (x : Value) (k : Int) : Option (Value × Prop) :=
 match P.underlying t,x with
 | some (.slice elem),.func (.via sz _ n false) els _=>match aF P (sizeOf elem) with
  | some z=>bif z.beq sz then some (treeAt els k.toNat 0,0 <= k /\ k < (n : Int)) else none
  | none=>none
 | some (.slice elem),.slice (some ⟨b,o,none⟩) len _=>match aF P (sizeOf elem) with
  | some z=>some (.pointer (some ⟨b,o + k.toNat * z,none⟩),0 <= k /\ k < (len : Int))
  | none=>none
 | some (.array len elem),.pointer (some ⟨b,o,none⟩)=>match aF P (sizeOf elem) with
  | some z=>some (.pointer (some ⟨b,o + k.toNat * z,none⟩),0 <= k /\ k < (len : Int))
  | none=>none
 | some (.array len elem),.func (.via i _ off true) els _=>match aF P (sizeOf elem) with
  | some z=>some (treeAt els i (off + k.toNat * z),0 <= k /\ k < (len : Int))
  | none=>none
 | _,_=>none
theorem aG3 {i n sz s : Nat} (h : i < n) (hs : n * sz <= s) : i * sz + sz <= s:=by
 have h2 : (i + 1) * sz <= n * sz:=Nat.mul_le_mul_right _ h
 rw [Nat.succ_mul] at h2
 omega
theorem wV {P : Program} {ρ : Place} {t : TypeId} {x x' v : Value} {k : Int} {q : IntKind} {ob : Prop} (hx : VR ρ x x') (h : tH P t x k = some (v,ob)) (hob : ob) (w : World) :
  ∃ v',(Instr.indexAt t x' (.int q k)).run P w = .ok v' w /\ VR ρ v v':=by
 unfold tH at h
 split at h
 ·rename_i elem sz pth n els cap hu
  cases hz : aF P (sizeOf elem) with
  | none=>rw [hz] at h; cases h
  | some z =>
   rw [hz] at h
   dsimp only at h
   cases hb : z.beq sz with
   | false=>rw [hb] at h; cases h
   | true =>
    rw [hb] at h
    cases h
    have hb:=Nat.eq_of_beq_eq_true hb
    subst hb
    cases hx with
    | treeNil=>omega
    | @tree _ _ cp c o _ cs ct fz hf hn hcap hs hsz hr =>
     unfold Instr.indexAt
     rw [aL (wZ q k)]
     dsimp only
     show ∃ v',((underlying t) >>= _).run P w = _ /\ _
     rw [aL (aK hu)]
     show ∃ v',((underlying t) >>= _).run P w = _ /\ _
     rw [aL (aK hu)]
     dsimp only
     rw [if_pos hob,aL hz]
     have hk : k.toNat < n:=by omega
     have hks : k.toNat < els.size:=by rw [hn]; exact hk
     refine ⟨_,rfl,?_⟩
     rw [show (⟨c,o,none⟩ : Addr) = ⟨c,o + 0,none⟩ from rfl,gP,show o + (0 + k.toNat * z) = o + k.toNat * z + 0 by omega]
     have hz':=hsz k.toNat els[k.toNat] (by simp [hks])
     have hroom:=aG3 hk (s:=cs.size - o) (sz:=z) (by omega)
     exact VR.treeAt (u:=els[k.toNat]) (o:=o + k.toNat * z) (off:=0) hf (by simp [hks]) (by rw [hz']; omega) (fun j a a' ha ha'=>hr k.toNat j _ a a' (by simp [hks]) ha ha')
 ·rename_i elem b o len cp hu
  cases hz : aF P (sizeOf elem) with
  | none=>rw [hz] at h; cases h
  | some z =>
   rw [hz] at h
   cases h
   refine jY hx (.int q k) ?_ w
   unfold mF
   rw [hu]
   dsimp only
   rw [show decide (0 <= k /\ k < (len : Int)) = true from decide_eq_true hob,cond_true,hz]
 ·rename_i len elem b o hu
  cases hz : aF P (sizeOf elem) with
  | none=>rw [hz] at h; cases h
  | some z =>
   rw [hz] at h
   cases h
   refine jY hx (.int q k) ?_ w
   unfold mF
   rw [hu]
   dsimp only
   rw [show decide (0 <= k /\ k < (len : Int)) = true from decide_eq_true hob,cond_true,hz]
 ·rename_i len elem i pth off els cap hu
  cases hz : aF P (sizeOf elem) with
  | none=>rw [hz] at h; cases h
  | some z =>
   rw [hz] at h
   cases h
   cases hx with
   | @treeAt _ _ c o _ cs ct fz u hfr hue hs hr =>
    unfold Instr.indexAt
    rw [aL (wZ q k)]
    dsimp only
    show ∃ v',((underlying t) >>= _).run P w = _ /\ _
    rw [aL (aK hu)]
    show ∃ v',((underlying t) >>= _).run P w = _ /\ _
    rw [aL (aK hu)]
    dsimp only
    rw [if_pos hob,aL hz]
    refine ⟨_,rfl,?_⟩
    rw [gP,← Nat.add_assoc,Nat.add_assoc]
    exact VR.treeAt hfr hue hs hr
 ·cases h
def aBt (P : Program) (t : TypeId) (els : Array Value) (i off f : Nat) : Option (Value × Prop) :=
 match P.underlying t with
 | some (.struct fields)=>match fields[f]? with
  | some fd=>match aF P (sizeOf fd.type) with
   | some (_ + 1)=>some (treeAt els i (off + fd.offset),True)
   | _=>none
  | none=>none
 | _=>none
theorem aBw {P : Program} {ρ : Place} {t : TypeId} {els : Array Value} {i off f : Nat} {x' v : Value} {ob : Prop} (hx : VR ρ (treeAt els i off) x') (h : aBt P t els i off f = some (v,ob)) (w : World) :
  ∃ v',(Instr.fieldAt t x' f).run P w = .ok v' w /\ VR ρ v v':=by
 cases hx with
 | @treeAt _ _ c o _ cs ct fz u hfr hu hs hr =>
  unfold aBt at h
  cases hd : P.underlying t with
  | none=>rw [hd] at h; cases h
  | some d =>
   rw [hd] at h
   cases d <;> simp only [reduceCtorEq] at h
   rename_i fields
   cases hf : fields[f]? with
   | none=>rw [hf] at h; cases h
   | some fd =>
    rw [hf] at h
    dsimp only at h
    unfold Instr.fieldAt
    rw [aL (aK hd)]
    simp only [hf]
    cases hz : aF P (sizeOf fd.type) with
    | none=>rw [hz] at h; cases h
    | some n =>
     rw [hz] at h
     cases n with
     | zero=>cases h
     | succ n =>
      cases h
      show ∃ v',((fieldPlace ⟨c,o + off,none⟩ fd) >>= _).run P w = _ /\ _
      have : aF P (fieldPlace ⟨c,o + off,none⟩ fd) = some ((⟨c,o + off,none⟩ : Addr).add fd.offset):=by
       unfold fieldPlace
       have e : ∀ (β : Type) (g : Nat -> Sem β),aF P (sizeOf fd.type >>= g) = aF P (g (n + 1)):=by
        intro β g
        exact bE hz g
       rw [e]
       simp only [Nat.succ_ne_zero,if_false]
       rfl
      rw [aL this]
      refine ⟨_,rfl,?_⟩
      rw [gP]
      exact VR.treeAt hfr hu hs hr
def fE (ev : Operand -> Option Value) (d : Nat) : Option Operand -> Option (Nat × Prop)
 | none=>some (d,True)
 | some x=>match ev x with
  | some (.int _ n)=>some (n.toNat,0 <= n)
  | _=>none
theorem pA {P : Program} {ρ : Place} {ev : Operand -> Option Value} {a : Act} (hF : ERel ρ ev a) {d : Nat} {x : Operand} {k y : Nat} {ob : Prop} {code : BoundsCode} (h : fE ev d (some x) = some (k,ob)) (hob : ob) (hy : k <= y) :
  aF P (Instr.sliceBound (a.eval x) y code) = some k:=by
 simp only [fE] at h
 cases hv : ev x with
 | none=>rw [hv] at h; cases h
 | some v =>
  rw [hv] at h
  have:=hF.eval hv
  generalize he : a.eval x = e at this
  cases this <;> try simp only [reduceCtorEq] at h
  rename_i kd m
  cases h
  unfold Instr.sliceBound
  show aF P (if 0 <= m /\ m <= (y : Int) then _ else _) = _
  rw [if_pos ⟨hob,by omega⟩]
  rfl
theorem kJ {P : Program} {ρ : Place} {ev : Operand -> Option Value} {a : Act} (hF : ERel ρ ev a) {lo hi : Option Operand} {len cap l h : Nat} {ol oh : Prop} (h1 : fE ev len hi = some (h,oh)) (h2 : fE ev 0 lo = some (l,ol))
  (hoh : oh) (hol : ol) (hl : l <= h) (hh : h <= len) (hc : len <= cap) (q : Bool) : aF P (Instr.sliceBounds q len cap (lo.map a.eval) (hi.map a.eval) none) = some (l,h,cap):=by
 unfold Instr.sliceBounds
 cases hi with
 | none =>
  simp only [fE] at h1
  cases h1
  cases lo with
  | none=>simp only [fE] at h2; cases h2; rfl
  | some y =>
   show aF P (Instr.sliceBound (a.eval y) _ _ >>= _) = _
   rw [bE (pA hF h2 hol hl)]
   rfl
 | some x =>
  show aF P (Instr.sliceBound (a.eval x) _ _ >>= _) = _
  rw [bE (pA hF h1 hoh (by omega))]
  cases lo with
  | none=>simp only [fE] at h2; cases h2; rfl
  | some y =>
   show aF P (Instr.sliceBound (a.eval y) _ _ >>= _) = _
   rw [bE (pA hF h2 hol hl)]
   rfl
def xD (P : Program) (ev : Operand -> Option Value) (t : TypeId) (x : Value) (lo hi : Option Operand) : Option (Value × Prop) :=
 match P.underlying t,x with
 | some (.slice elem),.func (.via sz _ n false) els _=>match aF P (sizeOf elem),fE ev n hi,fE ev 0 lo with
  | some z,some (h,oh),some (l,ol)=>bif z.beq sz then some (tree sz (h - l) (els.extract l h),oh /\ ol /\ l <= h /\ h <= n) else none
  | _,_,_=>none
 | some (.slice elem),.slice (some ⟨b,o,none⟩) len sz=>match aF P (sizeOf elem),fE ev len hi,fE ev 0 lo with
  | some z,some (h,oh),some (l,ol)=>bif z.beq sz then some (.slice (some ⟨b,o + l * sz,none⟩) (h - l) sz,oh /\ ol /\ l <= h /\ h <= len) else none
  | _,_,_=>none
 | some .string,.string s=>match fE ev s.size hi,fE ev 0 lo with
  | some (h,oh),some (l,ol)=>some (.string (s.extract l h),oh /\ ol /\ l <= h /\ h <= s.size)
  | _,_=>none
 | _,_=>none
theorem nA {P : Program} {t elem : TypeId} {base : Option Addr} {len cap l h z : Nat} {lo hi : Option Value} (hu : P.underlying t = some (.slice elem)) (hb : aF P (Instr.sliceBounds true len cap lo hi none) = some (l,h,cap)) (hz : aF P (sizeOf elem) = some z) (w : World) :
  (Instr.sliceAt t (.slice base len cap) lo hi none).run P w = .ok (.slice (if cap = l then base else base.map (·.add (l * z))) (h - l) (cap - l)) w:=by
 unfold Instr.sliceAt
 rw [aL (aK hu)]
 dsimp only
 unfold Instr.slice
 rw [aL (aK hu)]
 dsimp only
 rw [aL hb]
 dsimp only
 rw [aL hz]
 rfl
theorem aDz {P : Program} {ρ : Place} {ev : Operand -> Option Value} {a : Act} (hF : ERel ρ ev a) {t : TypeId} {x x' : Value} {lo hi : Option Operand} {v : Value} {ob : Prop} (hx : VR ρ x x')
  (h : xD P ev t x lo hi = some (v,ob)) (hob : ob) (w : World) : ∃ v',(Instr.sliceAt t x' (lo.map a.eval) (hi.map a.eval) none).run P w = .ok v' w /\ VR ρ v v':=by
 unfold xD at h
 split at h
 ·rename_i elem sz pth n els cap hu
  split at h
  case h_2=>cases h
  rename_i z hh oh l ol hz h1 h2
  cases hb : z.beq sz with
  | false=>rw [hb] at h; cases h
  | true =>
   rw [hb] at h
   cases h
   have hb:=Nat.eq_of_beq_eq_true hb
   subst hb
   obtain ⟨k1,k2,k3,k4⟩:=hob
   cases hx with
   | treeNil sz a' cp =>
    have e1 : hh = 0:=by omega
    have e2 : l = 0:=by omega
    subst e1 e2
    rw [nA hu (kJ hF h1 h2 k1 k2 k3 k4 (Nat.zero_le cp) true) hz]
    exact ⟨_,rfl,.treeNil _ _ _⟩
   | @tree _ _ cp c o _ cs ct fz hf hn hcap hs hsz hr =>
    rw [nA hu (kJ hF h1 h2 k1 k2 k3 k4 hcap true) hz]
    refine ⟨_,rfl,?_⟩
    by_cases hcl : cp = l
    ·rw [if_pos hcl]
     have e : els.extract l hh = #[]:=by apply Array.ext' ; simp; omega
     have e2 : hh - l = 0:=by omega
     rw [e,e2]
     exact .treeNil _ _ _
    ·rw [if_neg hcl]
     show VR ρ _ (.slice (some ((⟨c,o,none⟩ : Addr).add (l * z))) _ _)
     rw [show (⟨c,o,none⟩ : Addr) = ⟨c,o + 0,none⟩ from rfl,gP]
     have hroom : o + (l * z) + (hh - l) * z <= cs.size:=by
      have e1 : hh * z <= n * z:=Nat.mul_le_mul_right _ k4
      have e2 : l * z + (hh - l) * z = hh * z:=by rw [← Nat.add_mul]; congr 1; omega
      omega
     refine VR.tree (o:=o + (0 + l * z)) hf (by simp; omega) (by omega) (by omega) (fun i u hu'=>?_) (fun i j u b b' hu' hb hb'=>?_)
     ·rw [Array.getElem?_extract] at hu'
      split at hu'
      ·exact hsz _ u hu'
      ·cases hu'
     ·rw [Array.getElem?_extract] at hu'
      split at hu'
      ·refine hr (l + i) j u b b' hu' hb ?_
       rw [← hb']
       congr 1
       rw [Nat.add_mul]
       omega
      ·cases hu'
 ·rename_i elem b o len sz hu
  split at h
  case h_2=>cases h
  rename_i z hh oh l ol hz h1 h2
  cases hb : z.beq sz with
  | false=>rw [hb] at h; cases h
  | true =>
   rw [hb] at h
   cases h
   have hb:=Nat.eq_of_beq_eq_true hb
   subst hb
   obtain ⟨k1,k2,k3,k4⟩:=hob
   cases hx with
   | @slice _ _ _ _ c s zz cap hb h3 h4 =>
    rw [nA hu (kJ hF h1 h2 k1 k2 k3 k4 h3 true) hz]
    refine ⟨_,rfl,?_⟩
    by_cases hcl : cap = l
    ·rw [if_pos hcl]
     have e1 : hh - l = 0:=by omega
     have e2 : cap - l = 0:=by omega
     rw [e1,e2]
     exact .emptySlice _ hb
    ·rw [if_neg hcl]
     show VR ρ _ (.slice (some ((⟨c,s + o,none⟩ : Addr).add (l * z))) _ _)
     rw [gP]
     refine .slice hb (by omega) ?_
     have : s + (o + l * z) + (cap - l) * z = s + o + cap * z:=by
      have : cap * z = l * z + (cap - l) * z:=by rw [← Nat.add_mul]; congr 1; omega
      omega
     omega
   | @emptySlice _ _ y a' _ hb =>
    have e1 : hh = 0:=by omega
    have e2 : l = 0:=by omega
    subst e1 e2
    rw [nA hu (kJ hF h1 h2 k1 k2 k3 k4 (Nat.zero_le 0) true) hz]
    exact ⟨_,rfl,.emptySlice _ hb⟩
 ·rename_i s hu
  split at h
  case h_2=>cases h
  rename_i hh oh l ol h1 h2
  cases h
  obtain ⟨k1,k2,k3,k4⟩:=hob
  cases hx
  refine ⟨.string (s.extract l hh),?_,.string _⟩
  unfold Instr.sliceAt
  rw [aL (aK hu)]
  dsimp only
  unfold Instr.slice
  rw [aL (aK hu)]
  show (Instr.sliceBounds false s.size s.size _ _ none >>= _).run P w = _
  rw [aL (kJ hF h1 h2 k1 k2 k3 k4 (Nat.le_refl _) false)]
  rfl
 ·cases h
def aHr (v : Value) : UInt8:=UInt8.ofNat (toI v).toNat
def aA5 (l : List Value) : ByteArray:=⟨(l.map aHr).toArray⟩
def IsU8 (v : Value) : Prop:=∃ n,v = .int .u8 n
def AllU8 (l : List Value) : Prop:=∀ v ∈ l,IsU8 v
theorem zX {P : Program} : ∀ (l : List Value) (s : ByteArray),AllU8 l ->
  aF P (forIn l s fun c r=>(match c with | .int .u8 n=>pure (ForInStep.yield (r.push (UInt8.ofNat n.toNat))) | _=>do stuck "bytesToString: byte expected"; pure (ForInStep.yield r) : Sem (ForInStep ByteArray))) = some ⟨(s.data.toList ++ l.map aHr).toArray⟩
 | [],s,_=>by
  show some s = _
  congr 1
  simp
 | v :: l,s,h=>by
  obtain ⟨n,rfl⟩:=h v (by simp)
  rw [List.forIn_cons]
  dsimp only
  rw [bE (v:=ForInStep.yield (s.push (UInt8.ofNat n.toNat))) rfl]
  dsimp only
  rw [zX l _ (fun u hu=>h u (by simp [hu]))]
  congr 1
  simp [ByteArray.push,aHr,toI]
theorem xG {P : Program} {l : List Value} (h : AllU8 l) : aF P (jU l.toArray) = some (.string (aA5 l)):=by
 have e : jU l.toArray = (forIn l.toArray ByteArray.empty fun c r=>(match c with | .int .u8 n=>pure (ForInStep.yield (r.push (UInt8.ofNat n.toNat))) | _=>do stuck "bytesToString: byte expected"; pure (ForInStep.yield r) : Sem (ForInStep ByteArray))) >>= fun s=>pure (.string s):=rfl
 rw [e,List.forIn_toArray,bE (zX l _ h)]
 show some _ = some _
 congr 2
theorem AllU8.flat {l : List Value} (h : AllU8 l) : dM l.toArray = true:=by
 unfold dM
 rw [Array.all_eq_true_iff_forall_mem]
 intro x hx
 obtain ⟨n,rfl⟩:=h x (by simpa using hx)
 rfl
def nI (P : Program) (hp : Tr AObj) (src dst : TypeId) (x : Value) : Option (Value × Prop) :=
 match P.underlying src,P.underlying dst with
 | some (.slice e),some .string=>match P.underlying e with
  | some (.int .u8)=>match x with
   | .slice (some ⟨b,o,none⟩) n _=>match hp.get b with
    | some (.cells l _)=>some (.string (aA5 ((l.drop o).take n)),o + n <= l.length /\ AllU8 ((l.drop o).take n))
    | _=>none
   | .func (.via 1 _ _ false) els _=>some (.string (aA5 els.toList),AllU8 els.toList)
   | _=>none
  | _=>none
 | _,_=>none
theorem vQ {P : Program} {ρ : Place} {W : Base} {hp : Tr AObj} {nx : Nat} {w : World} (h : Rel ρ W hp nx w) {src dst : TypeId} {x x' v : Value} {ob : Prop} (hx : VR ρ x x') (hv : nI P hp src dst x = some (v,ob)) (hob : ob) :
  ∃ v',(convert src dst x').run P w = .ok v' w /\ VR ρ v v':=by
 unfold nI at hv
 split at hv
 case h_2=>cases hv
 rename_i e hs hd
 split at hv
 case h_2=>cases hv
 rename_i he
 split at hv
 ·rename_i b o n cp
  split at hv
  case h_2=>cases hv
  rename_i l wr hb
  cases hv
  refine uN h hx ?_
  unfold aAJ
  rw [hs,hd]
  dsimp only
  rw [he]
  dsimp only
  have hrow : iN hp b o n = some ((l.drop o).take n):=by
   unfold iN
   rw [hb]
   dsimp only
   rw [Nat.ble_eq_true_of_le hob.1,cond_true]
  rw [hrow]
  dsimp only
  rw [hob.2.flat,cond_true,xG hob.2]
 ·rename_i pth n els cap
  cases hv
  have main : ∀ (x' : Value) (l : List Value),(Conv.bytesToString x').run P w = .ok (.string (aA5 l)) w -> (∃ a n c,x' = .slice a n c) -> (convert src dst x').run P w = .ok (.string (aA5 l)) w:=by
   rintro x' l hr ⟨a,n,c,rfl⟩
   unfold convert
   rw [aL (aK hs),aL (aK hd)]
   dsimp only
   rw [aL (aK he)]
   exact hr
  cases hx with
  | treeNil sz a cp =>
   refine ⟨_,main _ _ ?_ ⟨_,_,_,rfl⟩,.string _⟩
   cases a with
   | none=>rfl
   | some a =>
    rw [jX,Sem.run_bind]
    show (jU #[]).run P w = _
    exact fI (xG (P:=P) (l:=[]) (fun v hv=>by cases hv)) w
  | @tree _ _ cp c o _ cs ct fz hf hn hcap hsl hsz hr =>
   refine ⟨_,main _ _ ?_ ⟨_,_,_,rfl⟩,.string _⟩
   rw [jX,Sem.run_bind]
   have hl:=hJ (P:=P) (w:=w) (a:=⟨c,o,none⟩) els.toList 0 #[] (fun i v hi=>by
    obtain ⟨m,rfl⟩:=hob v (List.mem_of_getElem? hi)
    have hi' : els[i]? = some (.int .u8 m):=by simpa using hi
    have hlt : i < n:=by rw [← hn]; exact (Array.getElem?_eq_some_iff.1 hi').1
    rw [Nat.zero_add,show (⟨c,o,none⟩ : Addr) = ⟨c,o + 0,none⟩ from rfl,gP,aAb h hf]
    have hlt2 : o + i * 1 + 0 < cs.size:=by omega
    have:=hr i 0 _ (.int .u8 m) cs[o + i * 1 + 0] hi' rfl (by simp [hlt2])
    rw [show o + (0 + i) = o + i * 1 + 0 by omega,Array.getElem?_eq_getElem hlt2]
    generalize cs[o + i * 1 + 0] = y at this
    cases this
    rfl)
   have hsz' : els.toList.length = n:=by simpa using hn
   unfold loadCells
   rw [← hsz',hl,Result.andThen_ok]
   show (jU (#[] ++ els.toList.toArray)).run P w = _
   rw [show #[] ++ els.toList.toArray = els.toList.toArray by simp]
   exact fI (xG (P:=P) hob) w
 ·cases hv
def sBin (P : Program) (op : BinOp) (t : TypeId) (u z : Value) : Option (Value × Prop) :=
 match op,u,z with
 | .quo,.int k a,.int k' b=>bif decide (k = k') then some (.int k (k.wrap (a.tdiv b)),b ≠ 0) else none
 | .rem,.int k a,.int k' b=>bif decide (k = k') then some (.int k (a.tmod b),b ≠ 0) else none
 | .shl,.int k a,.int _ b=>some (.int k (k.wrap (a * 2 ^ (min b.toNat k.bits))),0 <= b)
 | .shr,.int k a,.int _ b=>some (.int k (a.fdiv (2 ^ (min b.toNat k.bits))),0 <= b)
 | .add,.string x,.string y=>some (.string (x ++ y),x.size + y.size <= 9223372036854775807)
 | .eql,.string x,.string y=>some (.bool (decide (x = y)),True)
 | .neq,.string x,.string y=>some (.bool (!decide (x = y)),True)
 | .eql,.int k a,.int k' b=>bif decide (k = k') then some (.bool (decide (a = b)),True) else none
 | .neq,.int k a,.int k' b=>bif decide (k = k') then some (.bool (!decide (a = b)),True) else none
 | .eql,.agg xs,.agg ys=>bif dM xs && dM ys && !P.eqGuardType P.depth t then match sEq P 100 t (.agg xs) (.agg ys) with
   | some b=>some (.bool b,True)
   | none=>none
  else none
 | .neq,.agg xs,.agg ys=>bif dM xs && dM ys && !P.eqGuardType P.depth t then match sEq P 100 t (.agg xs) (.agg ys) with
   | some b=>some (.bool (!b),True)
   | none=>none
  else none
 | _,_,_=>none
theorem aHo {P : Program} {op : BinOp} {t : TypeId} {x y : Operand} {u z v : Value} {ob : Prop} (h : sBin P op t u z = some (v,ob)) (hob : ob) (w : World) :
  ((do eqGuard op t x y u z; binOp op t u z) >>= fun r=>pure (Next.value r)).run P w = .ok (.value v) w /\ eY u = true /\ eY z = true /\ dK v = true:=by
 have main : ∀ (op : BinOp) (u z v : Value),(∀ w,(eqGuard op t x y u z).run P w = .ok () w) -> (∀ w,(binOp op t u z).run P w = .ok v w) -> ((do eqGuard op t x y u z; binOp op t u z) >>= fun r=>pure (Next.value r)).run P w = .ok (.value v) w:=by
  intro op u z v h1 h2
  rw [Sem.run_bind,Sem.run_bind,h1,Result.andThen_ok,h2,Result.andThen_ok]
  rfl
 unfold sBin at h
 split at h
 ·rename_i k a k' b
  cases hk : decide (k = k') with
  | false=>rw [hk] at h; cases h
  | true =>
   rw [hk] at h; cases h
   have:=of_decide_eq_true hk; subst this
   refine ⟨main _ _ _ _ (fun _=>rfl) (fun w=>?_),rfl,rfl,rfl⟩
   show (if k ≠ k then stuck _ else Op.intDiv .quo k a b : Sem Value).run P w = _
   rw [if_neg (by simp)]
   unfold Op.intDiv
   rw [if_neg hob]
   rfl
 ·rename_i k a k' b
  cases hk : decide (k = k') with
  | false=>rw [hk] at h; cases h
  | true =>
   rw [hk] at h; cases h
   have:=of_decide_eq_true hk; subst this
   refine ⟨main _ _ _ _ (fun _=>rfl) (fun w=>?_),rfl,rfl,rfl⟩
   show (if k ≠ k then stuck _ else Op.intDiv .rem k a b : Sem Value).run P w = _
   rw [if_neg (by simp)]
   unfold Op.intDiv
   rw [if_neg hob]
   rfl
 ·rename_i k a k' b
  cases h
  refine ⟨main _ _ _ _ (fun _=>rfl) (fun w=>?_),rfl,rfl,rfl⟩
  show (Op.shift .shl k a k' b).run P w = _
  unfold Op.shift
  rw [if_neg (by omega)]
  rfl
 ·rename_i k a k' b
  cases h
  refine ⟨main _ _ _ _ (fun _=>rfl) (fun w=>?_),rfl,rfl,rfl⟩
  show (Op.shift .shr k a k' b).run P w = _
  unfold Op.shift
  rw [if_neg (by omega)]
  rfl
 ·rename_i a b
  cases h
  refine ⟨main _ _ _ _ (fun _=>rfl) (fun w=>?_),rfl,rfl,rfl⟩
  show (Op.stringOp .add a b).run P w = _
  unfold Op.stringOp
  dsimp only
  rw [if_neg (by (have : IntKind.i64.max = 9223372036854775807:=by decide); rw [this]; omega)]
  rfl
 ·rename_i a b
  cases h
  refine ⟨main _ _ _ _ (fun _=>rfl) (fun w=>?_),rfl,rfl,rfl⟩
  show Result.ok (Value.bool (a.toList == b.toList)) w = _
  rw [← beq_toListBytes,nL]
 ·rename_i a b
  cases h
  refine ⟨main _ _ _ _ (fun _=>rfl) (fun w=>?_),rfl,rfl,rfl⟩
  show Result.ok (Value.bool (!(a.toList == b.toList))) w = _
  rw [← beq_toListBytes,nL]
 ·rename_i k a k' b
  cases hk : decide (k = k') with
  | false=>rw [hk] at h; cases h
  | true =>
   rw [hk] at h; cases h
   have:=of_decide_eq_true hk; subst this
   refine ⟨main _ _ _ _ (fun _=>rfl) (fun w=>?_),rfl,rfl,rfl⟩
   show (if k ≠ k then stuck _ else Op.intCmp .eql a b : Sem Value).run P w = _
   rw [if_neg (by simp)]
   rfl
 ·rename_i k a k' b
  cases hk : decide (k = k') with
  | false=>rw [hk] at h; cases h
  | true =>
   rw [hk] at h; cases h
   have:=of_decide_eq_true hk; subst this
   refine ⟨main _ _ _ _ (fun _=>rfl) (fun w=>?_),rfl,rfl,rfl⟩
   show (if k ≠ k then stuck _ else Op.intCmp .neq a b : Sem Value).run P w = _
   rw [if_neg (by simp)]
   rfl
 ·rename_i xs ys
  cases hc : dM xs && dM ys && !P.eqGuardType P.depth t with
  | false=>rw [hc] at h; cases h
  | true =>
   rw [hc,cond_true] at h
   simp only [Bool.and_eq_true,Bool.not_eq_true'] at hc
   split at h
   case h_2=>cases h
   rename_i b hb
   cases h
   refine ⟨main _ _ _ _ (fun w=>run_eqGuard_agg w _ t x y xs ys hc.2) (fun w=>?_),hc.1.1,hc.1.2,rfl⟩
   rw [run_eql_struct,aBS 100 9900 t (.agg xs) (.agg ys) b w hc.1.1 hc.1.2 hb,Result.andThen_ok]
 ·rename_i xs ys
  cases hc : dM xs && dM ys && !P.eqGuardType P.depth t with
  | false=>rw [hc] at h; cases h
  | true =>
   rw [hc,cond_true] at h
   simp only [Bool.and_eq_true,Bool.not_eq_true'] at hc
   split at h
   case h_2=>cases h
   rename_i b hb
   cases h
   refine ⟨main _ _ _ _ (fun w=>run_eqGuard_agg w _ t x y xs ys hc.2) (fun w=>?_),hc.1.1,hc.1.2,rfl⟩
   rw [run_neq_struct,aBS 100 9900 t (.agg xs) (.agg ys) b w hc.1.1 hc.1.2 hb,Result.andThen_ok]
 ·cases h
def rG (P : Program) (t : TypeId) (name : String) : Option FuncId :=
 match aF P (typeInfo t) with
 | some info=>match info.methods.find? (fun m=>m.name == name) with
  | some m=>bif m.path.toList.isEmpty then match m.func,P.underlying t with
    | some (f,true),some (.pointer _)=>some f
    | some (_,false),some (.pointer _)=>none
    | some (f,false),some _=>some f
    | _,_=>none
   else none
  | none=>none
 | none=>none
theorem aFC {P : Program} {t : TypeId} {name : String} {f : FuncId} (h : rG P t name = some f) (v : Value) (k : Nat) : aF P (method (k + 1) t v name) = some (f,v):=by
 unfold rG at h
 split at h
 case h_2=>cases h
 rename_i info hi
 split at h
 case h_2=>cases h
 rename_i m hm
 cases hp : m.path.toList.isEmpty with
 | false=>rw [hp] at h; cases h
 | true =>
  rw [hp,cond_true] at h
  have hnil : m.path.toList = []:=List.isEmpty_iff.1 hp
  unfold method
  rw [bE hi,hm]
  dsimp only
  rw [hnil]
  rw [bE (show aF P (follow [] t (.val v)) = some (t,.val v) from rfl)]
  dsimp only
  cases hf : m.func with
  | none=>rw [hf] at h; cases h
  | some q =>
   obtain ⟨g,pr⟩:=q
   rw [hf] at h
   cases hu : P.underlying t with
   | none=>rw [hu] at h; cases pr <;> cases h
   | some d =>
    rw [hu] at h
    have hrun : aF P (receiverAt t (.val v) pr (if m.path.isEmpty then some ((name.splitOn ".").getLastD name) else none)) = some v:=by
     unfold receiverAt
     rw [bE (aK hu)]
     cases pr <;> cases d <;> first | rfl | cases h
    have hg : g = f:=by cases pr <;> cases d <;> first | (cases h; done) | (cases h; rfl)
    subst hg
    dsimp only
    rw [bE hrun]
    rfl
theorem aEb {P : Program} {t : TypeId} {name : String} {f : FuncId} (h : rG P t name = some f) (v : Value) (k : Nat) : aF P (nilAhead (k + 1) t v name) = some (some false):=by
 unfold rG at h
 split at h
 case h_2=>cases h
 rename_i info hi
 split at h
 case h_2=>cases h
 rename_i m hm
 cases hp : m.path.toList.isEmpty with
 | false=>rw [hp] at h; cases h
 | true =>
  rw [hp,cond_true] at h
  have hnil : m.path.toList = []:=List.isEmpty_iff.1 hp
  unfold nilAhead
  rw [bE hi,hm]
  dsimp only
  rw [hnil]
  rw [bE (show aF P (followBlind [] t (some v)) = some (.ok (t,some v)) from rfl)]
  dsimp only
  cases hf : m.func with
  | none=>rw [hf] at h; cases h
  | some q =>
   obtain ⟨g,pr⟩:=q
   rw [hf] at h
   cases hu : P.underlying t with
   | none=>rw [hu] at h; cases pr <;> cases h
   | some d =>
    rw [hu] at h
    cases pr with
    | true=>rfl
    | false =>
     dsimp only
     rw [bE (aK hu)]
     cases d <;> first | rfl | cases h
def yU (r : Option (Value × Prop)) : Option (LRes × Prop) :=
 match r with
 | some (v,ob)=>some (.val v,ob)
 | none=>none
def iH (P : Program) (hp : Tr AObj) (o : Oper) (ev : Operand -> Option Value) : Option (LRes × Prop) :=
 match eB P hp o ev with
 | some r=>some (r,True)
 | none=>none
def oE (P : Program) (c : Call) (ev : Operand -> Option Value) : Option Value :=
 match c.callee,c.argTypes[0]?,c.args[0]? with
 | .builtin .len,some t,some x=>match ev x with
  | some (.func (.via _ _ n false) _ _)=>match P.underlying t with
   | some (.slice _)=>some (goInt n)
   | _=>none
  | _=>none
 | _,_,_=>none
def aIg (s : ByteArray) (k : Int) : Value:=.int .u8 (s.data.getD k.toNat 0).toNat
def iE : Nat -> List Value -> List Value
 | 0,_=>[]
 | n + 1,z=>z ++ iE n z
theorem vF (z : List Value) : ∀ n,(iE n z).length = n * z.length
 | 0=>by simp [iE]
 | n + 1=>by rw [iE,List.length_append,vF z n,Nat.succ_mul]; omega
theorem aAV {z : List Value} : ∀ {n i : Nat} {v : Value},(iE n z)[i]? = some v -> z[i % z.length]? = some v
 | 0,i,v,h=>by simp [iE] at h
 | n + 1,i,v,h=>by
  rw [iE] at h
  by_cases hi : i < z.length
  ·rw [Nat.mod_eq_of_lt hi]
   rwa [List.getElem?_append_left hi] at h
  ·rw [List.getElem?_append_right (by omega)] at h
   have:=aAV h
   rwa [← Nat.mod_eq_sub_mod (by omega)] at this
def sR (P : Program) (t : TypeId) (x y : Value) : Option ((AObj × NewV) × Prop) :=
 match x,y,P.underlying t with
 | .int _ len,.int _ cap,some (.slice elem)=>match aF P (typeInfo elem),aF P (sizeOf elem),aF P (zeroValue elem) with
  | some info,some size,some zv=>bif dM zv.cells && (zv.cells.size.beq size && info.bytes.ble (2 ^ 20)) then
    some ((.cells (iE len.toNat zv.cells.toList) true,.slice len.toNat size),0 <= len /\ len <= cap /\ cap <= 2 ^ 25) else none
  | _,_,_=>none
 | _,_,_=>none
theorem wD {P : Program} {ρ : Place} {t : TypeId} {x x' y y' : Value} {ob : AObj} {nv : NewV} {pr : Prop} (hx : VR ρ x x') (hy : VR ρ y y') (h : sR P t x y = some ((ob,nv),pr)) (hpr : pr) (w : World) :
  sA P ρ (Instr.makeSlice t x' y') ob nv w:=by
 unfold sR at h
 split at h
 case h_2=>cases h
 rename_i k1 len k2 cap elem hu
 cases hx
 cases hy
 split at h
 case h_2=>cases h
 rename_i info size zv hi hz hzv
 cases hc : (dM zv.cells && (zv.cells.size.beq size && info.bytes.ble (2 ^ 20))) with
 | false=>rw [hc] at h; cases h
 | true =>
  rw [hc,cond_true] at h
  cases h
  simp only [Bool.and_eq_true] at hc
  obtain ⟨hfl,hsz,hby⟩:=hc
  have hsz:=Nat.eq_of_beq_eq_true hsz
  have hby:=Nat.le_of_ble_eq_true hby
  obtain ⟨p1,p2,p3⟩:=hpr
  have wl : IntKind.i64.wrap len = len:=by rw [IntKind.wrap_i64]; omega
  have wc : IntKind.i64.wrap cap = cap:=by rw [IntKind.wrap_i64]; omega
  have hroom : ¬ ((info.bytes : Int) * cap > 2 ^ 48):=by
   have : (info.bytes : Int) * cap <= 2 ^ 20 * 2 ^ 25:=Int.mul_le_mul (by exact_mod_cast hby) p3 (by omega) (by decide)
   omega
  have hc0 : ((decide (IntKind.i64.wrap cap < 0) || decide ((info.bytes : Int) * IntKind.i64.wrap cap > 2 ^ 48)) || decide (IntKind.i64.wrap len < 0) || decide (IntKind.i64.wrap len > IntKind.i64.wrap cap)) = false:=by
   rw [wl,wc]
   simp only [Bool.or_eq_false_iff,decide_eq_false_iff_not]
   exact ⟨⟨⟨by omega,hroom⟩,by omega⟩,by omega⟩
  have hzr : aF P (if cap.toNat * size = 0 then (pure #[] : Sem (Array Value)) else do pure (← zeroValue elem).cells) = some (if cap.toNat * size = 0 then #[] else zv.cells):=by
   by_cases h0 : cap.toNat * size = 0
   ·rw [if_pos h0,if_pos h0]; rfl
   ·rw [if_neg h0,if_neg h0,bE hzv]; rfl
  have hrun : (Instr.makeSlice t (.int k1 len) (.int k2 cap)).run P w = ((newRow elem ((Array.range (cap.toNat * size)).map ((if cap.toNat * size = 0 then #[] else zv.cells)[· % (if cap.toNat * size = 0 then #[] else zv.cells).size]!))) >>= fun a=>pure (.slice (some a) len.toNat cap.toNat)).run P w:=by
   unfold Instr.makeSlice
   rw [aL (aK hu)]
   dsimp only
   show ((typeInfo elem) >>= _).run P w = _
   rw [aL hi]
   dsimp only
   rw [if_neg (by rw [hc0]; simp)]
   have hr : aF P (askRoom ((IntKind.i64.wrap cap).toNat * info.bytes)) = some ():=by unfold askRoom; split <;> rfl
   rw [aL hr]
   rw [aL hz]
   rw [wl,wc]
   have hj : ∀ (k : Array Value -> Sem Value),(if cap.toNat * size = 0 then (pure #[] : Sem (Array Value)) >>= k else zeroValue elem >>= fun z=>pure z.cells >>= k).run P w = (k (if cap.toNat * size = 0 then #[] else zv.cells)).run P w:=by
    intro k
    rw [← aL hzr k w]
    by_cases h0 : cap.toNat * size = 0
    ·rw [if_pos h0,if_pos h0]
    ·rw [if_neg h0,if_neg h0]
     simp only [bind_assoc]
   exact hj _
  have hlc : len.toNat <= cap.toNat:=by omega
  have hmul : len.toNat * size <= cap.toNat * size:=Nat.mul_le_mul_right _ hlc
  refine ⟨_,.cells ((Array.range (cap.toNat * size)).map ((if cap.toNat * size = 0 then #[] else zv.cells)[· % (if cap.toNat * size = 0 then #[] else zv.cells).size]!)) elem,w.drawn,cap.toNat * size,hrun.trans rfl,fun O hO=>⟨by simp,?_,fun o _=>by simp,fun i v hv=>?_,fun _=>hO⟩,fun ρ' b hb=>?_⟩
  ·rw [vF,Array.length_toList,hsz]; omega
  ·have hi1 : i < (iE len.toNat zv.cells.toList).length:=(List.getElem?_eq_some_iff.1 hv).1
   rw [vF,Array.length_toList,hsz] at hi1
   have hne : cap.toNat * size ≠ 0:=by omega
   have hg:=aAV hv
   rw [Array.length_toList] at hg
   refine ⟨v,?_,?_⟩
   ·have e1 : (if cap.toNat * size = 0 then #[] else zv.cells) = zv.cells:=if_neg hne
    have hg' : zv.cells[i % zv.cells.size]? = some v:=by simpa using hg
    have hlt : i < cap.toNat * size:=by omega
    rw [Nat.zero_add,Array.getElem?_map,Array.getElem?_range,if_pos hlt,e1]
    simp only [Option.map_some]
    rw [getElem!_def,hg']
   ·exact oB (lK hfl (i:=i % zv.cells.size) (by simpa using hg))
  ·have h2:=VR.slice (ρ:=ρ') (o:=0) (n:=len.toNat) (sz:=size) (cap:=cap.toNat) hb hlc (by omega)
   exact h2
structure ExtIs (P : Program) (f : FuncId) (e : Array Value -> Sem Value) : Prop where
 run : ∀ (args : Array Value) (w : World),(callFunc f args).run P w = ((e args).run P w).andThen fun v w'=>.ok (.value v) w'
def aRr : List (Nat × Nat) :=
 (244,0) ::
 []
def aIl (f : Nat) : List (Nat × Nat) -> Option Nat
 | []=>none
 | q :: l=>bif Nat.beq q.1 f then some q.2 else aIl f l
def aAT (P : Program) (c : Call) (ev : Operand -> Option Value) : Option (Value × Prop) :=
 match c.callee with
 | .value (.func f)=>match aIl f aRr with
  | some 0=>match evL ev c.args.toList with
   | some [.int .u64 x,.int .u64 y,.int .u64 z]=>some (.tuple #[.int .u64 ((x + y + z) % 18446744073709551616),.int .u64 ((x + y + z) / 18446744073709551616)],ExtIs P f add64Entry /\ 0 <= x /\ 0 <= y /\ 0 <= z /\ z <= 1)
   | _=>none
  | _=>none
 | _=>none
theorem aAQ {P : Program} {ρ : Place} {ev : Operand -> Option Value} {a : Act} (hF : ERel ρ ev a) {o : Oper} {c : Call} (ho : o.op = .call c) {v : Value} {ob : Prop} (h : aAT P c ev = some (v,ob)) (hob : ob) (w : World) :
  ∃ v',(execOp a.eval o).run P w = .ok (.value v') w /\ VR ρ v v':=by
 obtain ⟨callee,args,argTypes⟩:=c
 unfold aAT at h
 dsimp only at h
 split at h
 case h_2=>cases h
 rename_i f
 split at h
 case h_2=>cases h
 split at h
 case h_2=>cases h
 rename_i x y z he
 cases h
 obtain ⟨hx,h0,h1,h2,h3⟩:=hob
 have hl:=fB hF he
 have hargs : args.map a.eval = #[.int .u64 x,.int .u64 y,.int .u64 z]:=by
  apply Array.ext'
  rw [Array.toList_map]
  generalize args.toList.map a.eval = l at hl
  cases hl with
  | cons g1 hl =>
  cases hl with
  | cons g2 hl =>
  cases hl with
  | cons g3 hl =>
  cases hl
  cases g1
  cases g2
  cases g3
  rfl
 have hrun : (execOp a.eval o).run P w = (callFunc f (args.map a.eval)).run P w:=by
  unfold execOp
  rw [ho]
  show (callFunc f ((#[] ++ args.map a.eval) ++ #[])).run P w = _
  rw [Array.append_empty,Array.empty_append]
 refine ⟨_,?_,.tuple rfl fun i u u' e1 e2=>?_⟩
 ·rw [hrun,hargs,hx.run,run_add64 x y z h0 h1 h2 h3]
  rfl
 ·rcases i with _ | _ | i
  ·cases e1; cases e2; exact .int _ _
  ·cases e1; cases e2; exact .int _ _
  ·simp at e1
theorem zU {P : Program} {ev ev' : Operand -> Option Value} {c : Call} (h : ∀ x ∈ c.args,ev x = ev' x) : aAT P c ev = aAT P c ev':=by
 unfold aAT
 rw [iW (l:=c.args.toList) fun x hx=>h x (by simpa using hx)]
def symTab : List (Nat × Nat × Nat) :=
 (22,40,41) ::
 (4,45,46) :: (4,63,64) :: (4,69,70) ::
 []
def aKZ (o : Oper) (t : TypeId) (x : Operand) : Bool :=
 match o.dst,x with
 | some d,.tmp k=>symTab.any fun q=>Nat.beq q.1 t && (Nat.beq q.2.1 k && Nat.beq q.2.2 d)
 | _,_=>false
def aM3 (P : Program) (l : List Value) : List TypeId -> Nat -> Option (List Value × Prop)
 | [],_=>some ([],True)
 | t :: ts,j=>match eta P t (l.getD j undef),aM3 P l ts (j + 1) with
  | some v,some (vs,o)=>some (v :: vs,l.getD j undef = v /\ o)
  | _,_=>none
def rI (P : Program) (hp : Tr AObj) (t : TypeId) (x : Value) : Option (Value × Prop) :=
 match x with
 | .pointer (some ⟨b,o,none⟩)=>match hp.get b with
  | some (.cells l _)=>match aF P (isAgg t) with
   | some false=>match eta P t (l.getD o undef) with
    | some v=>some (v,l.getD o undef = v)
    | none=>none
   | some true=>match zQ P 20 t,aF P (sizeOf t) with
    | some ts,some z=>bif ts.length.beq z then match aM3 P l ts o with
     | some (vs,ob)=>some (.agg vs.toArray,ob)
     | none=>none
     else none
    | _,_=>none
   | none=>none
  | _=>none
 | _=>none
theorem getD_some {l : List Value} {i : Nat} {v : Value} (h : l.getD i undef = v) (hv : v ≠ undef) : l[i]? = some v:=by
 rw [List.getD_eq_getElem?_getD] at h
 cases hc : l[i]? with
 | none=>rw [hc] at h; exact absurd h.symm hv
 | some x=>rw [hc] at h; exact congrArg some h
theorem aBk {P : Program} {l : List Value} : ∀ (ts : List TypeId) (j : Nat) (vs : List Value) (ob : Prop),aM3 P l ts j = some (vs,ob) -> ob -> vs.length = ts.length /\ ∀ (k : Nat) (v : Value),vs[k]? = some v -> l[j + k]? = some v
 | [],j,vs,ob,h,_=>by
  simp only [aM3] at h
  cases h
  exact ⟨rfl,fun k v hk=>by simp at hk⟩
 | t :: ts,j,vs,ob,h,hob=>by
  simp only [aM3] at h
  split at h
  case h_2=>cases h
  rename_i v us ob' h1 h2
  cases h
  obtain ⟨g1,g2⟩:=aBk ts (j + 1) us ob' h2 hob.2
  refine ⟨by simp [g1],fun k v' hk=>?_⟩
  cases k with
  | zero=>simp at hk; subst hk; exact getD_some hob.1 (rV h1)
  | succ k=>rw [show j + (k + 1) = j + 1 + k by omega]; exact g2 k v' (by simpa using hk)
theorem aBA {P : Program} {ρ : Place} {W : Base} {hp : Tr AObj} {nx : Nat} {w : World} (h : Rel ρ W hp nx w) {t : TypeId} {x x' v : Value} {ob : Prop} (hx : VR ρ x x') (hv : rI P hp t x = some (v,ob)) (hob : ob) :
  ∃ v',(Instr.loadAt t x').run P w = .ok v' w /\ VR ρ v v':=by
 unfold rI at hv
 split at hv
 case h_2=>cases hv
 rename_i b o
 cases hx with
 | @ptr _ _ c s z hr =>
 split at hv
 case h_2=>cases hv
 rename_i l wr hb
 have cell : ∀ {i : Nat} {u : Value},l[i]? = some u -> ∃ u',w.cell? ⟨c,s + i,none⟩ = some u' /\ VR ρ u u':=fun hu=>h.cell hb hr hu
 unfold Instr.loadAt
 show ∃ v',(loadVar t ⟨c,s + o,none⟩).run P w = _ /\ _
 unfold loadVar
 split at hv
 ·rename_i hi
  split at hv
  case h_2=>cases hv
  rename_i v0 he
  cases hv
  obtain ⟨u',e1,e2⟩:=cell (getD_some hob (rV he))
  rw [aL hi,if_neg (by simp),run_load,e1]
  exact ⟨_,rfl,e2⟩
 ·rename_i hi
  split at hv
  case h_2=>cases hv
  rename_i ts z' hts hz
  cases hbq : ts.length.beq z' with
  | false=>rw [hbq] at hv; cases hv
  | true =>
   rw [hbq,cond_true] at hv
   have hbq:=Nat.eq_of_beq_eq_true hbq
   split at hv
   case h_2=>cases hv
   rename_i vs ob' hl
   cases hv
   obtain ⟨g1,g2⟩:=aBk ts o vs _ hl hob
   have build : ∀ k,k <= vs.length -> ∃ l' : List Value,l'.length = k /\ VRL ρ (vs.take k) l' /\ ∀ (i : Nat) (u : Value),l'[i]? = some u -> w.cell? ⟨c,s + (o + i),none⟩ = some u:=by
    intro k
    induction k with
    | zero=>exact fun _=>⟨[],rfl,by rw [List.take_zero]; exact .nil,fun i u hi=>by simp at hi⟩
    | succ k ih =>
     intro hk
     obtain ⟨l',q1,q2,q3⟩:=ih (by omega)
     have hvk : vs[k]? = some vs[k]:=List.getElem?_eq_getElem hk
     obtain ⟨u',e1,e2⟩:=cell (g2 k _ hvk)
     refine ⟨l' ++ [u'],by simp [q1],VRL.of (by rw [List.length_take,List.length_append,q1]; simp; omega) fun i a a' ha ha'=>?_,fun i u hi=>?_⟩
     ·rcases Nat.lt_or_ge i k with h' | h'
      ·rw [List.getElem?_take,if_pos (by omega)] at ha
       rw [List.getElem?_append_left (by omega)] at ha'
       exact q2.get (by rw [List.getElem?_take,if_pos h']; exact ha) ha'
      ·rw [List.getElem?_take] at ha
       split at ha
       ·have : i = k:=by omega
        subst this
        rw [hvk] at ha
        cases ha
        rw [List.getElem?_append_right (by omega),q1,Nat.sub_self] at ha'
        cases ha'
        exact e2
       ·cases ha
     ·rcases Nat.lt_or_ge i k with h' | h'
      ·rw [List.getElem?_append_left (by omega)] at hi
       exact q3 i u hi
      ·rw [List.getElem?_append_right (by omega),q1] at hi
       have : i = k:=by
        rcases Nat.lt_or_ge k i with h'' | h''
        ·rw [List.getElem?_eq_none (by simp; omega)] at hi; cases hi
        ·omega
       subst this
       rw [Nat.sub_self] at hi
       cases hi
       exact e1
   obtain ⟨l',q1,q2,q3⟩:=build vs.length (Nat.le_refl _)
   rw [List.take_length] at q2
   have hlen : l'.length = z':=by rw [q1,g1,hbq]
   rw [aL hi,if_pos rfl,aL hz,Sem.run_bind]
   have:=hJ (P:=P) (w:=w) (a:=⟨c,s + o,none⟩) l' 0 #[] (fun k u hk=>by
    rw [Nat.zero_add,gP]
    exact q3 k u hk)
   unfold loadCells
   rw [← hlen]
   rw [this,Result.andThen_ok]
   refine ⟨_,rfl,?_⟩
   have ha:=q2.arr
   simpa using VR.agg ha.1 ha.2
 ·cases hv
def gR (P : Program) (hp : Tr AObj) (o : Oper) (ev : Operand -> Option Value) : Option (LRes × Prop) :=
 match o.op with
 | .load t x=>bif aKZ o t x then match ev x with
  | some v=>yU (rI P hp t v)
  | none=>none
  else match ev x with
  | some (.func (.via i _ off true) els _)=>yU (aLP P t els i off)
  | _=>iH P hp o ev
 | .indexAddr t x i=>match ev x,ev i with
  | some v,some (.int _ k)=>yU (tH P t v k)
  | _,_=>none
 | .fieldAddr t x f=>match ev x with
  | some (.func (.via i _ off true) els _)=>yU (aBt P t els i off f)
  | _=>iH P hp o ev
 | .nilCheck x=>match ev x with
  | some (.func (.via i _ off true) els _)=>some (.val (treeAt els i off),True)
  | some (.func (.method name) first cap)=>match first.toList with
   | [.iface t _]=>match rG P t name with
    | some _=>some (.val (.func (.method name) first cap),True)
    | none=>none
   | _=>none
  | _=>iH P hp o ev
 | .typeAssert x _ y true=>match ev x,P.underlying y with
  | some (.iface t v),some (.int _)=>bif Nat.beq t y then some (.val (.tuple #[v,.bool true]),True) else none
  | _,_=>none
 | .makeFunc fn f c=>match fn with
  | .method name=>match evL ev f.toList,c.toList with
   | some [v],[]=>some (.val (.func (.method name) #[v] #[]),True)
   | _,_=>none
  | _=>iH P hp o ev
 | .slice t x lo hi none=>match ev x with
  | some v=>match xD P ev t v lo hi with
   | some r=>yU (some r)
   | none=>iH P hp o ev
  | none=>none
 | .index t x i=>match ev x,ev i with
  | some (.string s),some (.int _ k)=>match P.underlying t with
   | some .string=>some (.val (aIg s k),0 <= k /\ k < (s.size : Int))
   | _=>none
  | _,_=>iH P hp o ev
 | .binOp op t x y _=>match ev x,ev y with
  | some u,some z=>match sBin P op t u z with
   | some r=>yU (some r)
   | none=>match aEq P op t u z with
    | some b=>some (.val b,True)
    | none=>match iS P o ev with
     | some v=>some (.val v,True)
     | none=>none
  | _,_=>none
 | .convert src dst x=>match ev x with
  | some (.slice (some A) n c)=>yU (nI P hp src dst (.slice (some A) n c))
  | some (.func fn els c)=>yU (nI P hp src dst (.func fn els c))
  | some _=>iH P hp o ev
  | none=>none
 | .pick c x y=>match ev c with
  | some (.bool b)=>Bool.rec (motive:=fun _=>Option (LRes × Prop)) (match ev y with | some v=>some (.val v,True) | none=>none) (match ev x with | some v=>some (.val v,True) | none=>none) b
  | _=>none
 | .makeSlice t x y=>match ev x,ev y with
  | some u,some v=>match sR P t u v with
   | some (q,pr)=>some (.new q.1 q.2,pr)
   | none=>none
  | _,_=>none
 | .call c=>match oE P c ev with
  | some v=>some (.val v,True)
  | none=>match aAT P c ev with
   | some r=>yU (some r)
   | none=>iH P hp o ev
 | _=>iH P hp o ev
theorem jE {r : Option (Value × Prop)} {q : LRes} {ob : Prop} (h : yU r = some (q,ob)) : ∃ v,r = some (v,ob) /\ q = .val v:=by
 unfold yU at h
 split at h
 ·cases h; exact ⟨_,rfl,rfl⟩
 ·cases h
theorem aLa {P : Program} {hp : Tr AObj} {o : Oper} {ev : Operand -> Option Value} {q : LRes} {ob : Prop} (h : iH P hp o ev = some (q,ob)) : eB P hp o ev = some q:=by
 unfold iH at h
 split at h
 ·rename_i r hr; cases h; exact hr
 ·cases h
theorem aAq {P : Program} {ρ : Place} {ev : Operand -> Option Value} {a : Act} (hF : ERel ρ ev a) {o : Oper} {c : Call} (ho : o.op = .call c) {v : Value} (h : oE P c ev = some v) (w : World) :
  ∃ v',(execOp a.eval o).run P w = .ok (.value v') w /\ VR ρ v v':=by
 obtain ⟨callee,args,argTypes⟩:=c
 unfold oE at h
 dsimp only at h
 split at h
 case h_2=>cases h
 rename_i t x hty har
 split at h
 case h_2=>cases h
 rename_i sz pth n els cap hv
 split at h
 case h_2=>cases h
 rename_i e hu
 cases h
 have hx:=hF.eval hv
 generalize he : a.eval x = E at hx
 have main : ∀ (A' : Option Addr) (m' : Nat),E = .slice A' n m' -> ∃ v',(execOp a.eval o).run P w = .ok (.value v') w /\ VR ρ (goInt n) v':=by
  intro A' m' he'
  refine ⟨goInt n,?_,.int _ _⟩
  unfold execOp
  rw [ho]
  simp only [resolve]
  have hl : aF P (Builtin.len_ argTypes o.type (args.map a.eval)) = some (goInt n):=by
   unfold Builtin.len_
   have : (args.map a.eval)[0]? = some (.slice A' n m'):=by rw [Array.getElem?_map,har]; simp [he,he']
   rw [hty,this]
   dsimp only
   rw [bE (aK hu)]
   rfl
  show ((Builtin.len_ argTypes o.type (args.map a.eval)) >>= fun r=>pure (Next.value r)).run P w = _
  rw [aL hl]
  rfl
 cases hx with
 | tree=>exact main _ _ rfl
 | treeNil=>exact main _ _ rfl
theorem jG {P : Program} {ρ : Place} {W : Base} {hp : Tr AObj} {nx : Nat} {w : World} (h : Rel ρ W hp nx w) {ev : Operand -> Option Value} {a : Act} (hF : ERel ρ ev a) {o : Oper} {r : LRes} {ob : Prop} (hs : gR P hp o ev = some (r,ob)) (hob : ob) :
  jW P ρ o a w r:=by
 have base : iH P hp o ev = some (r,ob) -> jW P ρ o a w r:=fun hb=>lM h hF (aLa hb)
 obtain ⟨dst,op,type,pos,after,guard⟩:=o
 unfold gR at hs
 cases op <;> dsimp only at hs <;> try exact base hs
 case load t x =>
  cases hsy : aKZ ⟨dst,.load t x,type,pos,after,guard⟩ t x with
  | true =>
   rw [hsy,cond_true] at hs
   split at hs
   case h_2=>cases hs
   rename_i u hx
   obtain ⟨v,h1,rfl⟩:=jE hs
   obtain ⟨v',e,hv'⟩:=aBA h (hF.eval hx) h1 hob
   exact ⟨v',cF e,hv'⟩
  | false =>
  rw [hsy,cond_false] at hs
  split at hs
  ·rename_i i pth off els cap hx
   obtain ⟨v,h1,rfl⟩:=jE hs
   have hv:=hF.eval hx
   have hq : ∃ v',(Instr.loadAt t (a.eval x)).run P w = .ok v' w /\ VR ρ v v':=by
    generalize a.eval x = E at hv
    cases hv with
    | treeAt h1' h2' h3' h4'=>exact aEB h (.treeAt h1' h2' h3' h4') h1 hob
   obtain ⟨v',e,hv'⟩:=hq
   exact ⟨v',cF e,hv'⟩
  ·exact base hs
 case indexAddr t x i =>
  split at hs
  case h_2=>cases hs
  rename_i u q k hx hi
  obtain ⟨v,h1,rfl⟩:=jE hs
  have hi':=hF.eval hi
  obtain ⟨v',e,hv'⟩:=wV (q:=q) (hF.eval hx) h1 hob w
  refine ⟨v',cF ?_,hv'⟩
  generalize hE : a.eval i = E at hi'
  cases hi'
  exact e
 case fieldAddr t x f =>
  split at hs
  ·rename_i i pth off els cap hx
   obtain ⟨v,h1,rfl⟩:=jE hs
   have hv:=hF.eval hx
   have hq : ∃ v',(Instr.fieldAt t (a.eval x) f).run P w = .ok v' w /\ VR ρ v v':=by
    generalize a.eval x = E at hv
    cases hv with
    | treeAt h1' h2' h3' h4'=>exact aBw (.treeAt h1' h2' h3' h4') h1 w
   obtain ⟨v',e,hv'⟩:=hq
   exact ⟨v',cF e,hv'⟩
  ·exact base hs
 case nilCheck x =>
  split at hs
  ·rename_i i pth off els cap hx
   cases hs
   have hv:=hF.eval hx
   refine ⟨a.eval x,?_,?_⟩
   ·unfold execOp
    dsimp only
    generalize a.eval x = E at hv
    cases hv with
    | treeAt=>rfl
   ·generalize a.eval x = E at hv
    cases hv with
    | treeAt h1' h2' h3' h4'=>exact .treeAt h1' h2' h3' h4'
  ·rename_i name first cap hx
   split at hs
   case h_2=>cases hs
   rename_i t u hfst
   split at hs
   case h_2=>cases hs
   rename_i k hm
   cases hs
   have hv:=hF.eval hx
   have key : ∀ E,VR ρ (.func (.method name) first cap) E -> ∃ u',E = .func (.method name) #[.iface t u'] #[]:=by
    intro E hE
    cases hE with
    | meth _ hv0 =>
     cases hfst
     cases hv0 with
     | iface _ hu=>exact ⟨_,rfl⟩
   obtain ⟨u',he⟩:=key _ hv
   refine ⟨a.eval x,?_,hv⟩
   have hd : 0 < Made.depth:=by decide
   have hpos : ∃ j,P.types.size + Made.depth = j + 1:=⟨P.types.size + Made.depth - 1,by omega⟩
   obtain ⟨j,hj⟩:=hpos
   unfold execOp
   dsimp only
   rw [he]
   dsimp only
   have e0 : (#[Value.iface t u'])[0]? = some (.iface t u'):=rfl
   rw [e0]
   dsimp only
   have hprog : aF P program = some P:=rfl
   rw [aL hprog]
   rw [hj]
   rw [aL (aEb hm u' j)]
   rfl
  ·exact base hs
 case typeAssert x xt y ok =>
  cases ok with
  | false=>exact base hs
  | true =>
   dsimp only at hs
   split at hs
   case h_2=>cases hs
   rename_i t v k hx hu
   cases hb : Nat.beq t y with
   | false=>rw [hb] at hs; cases hs
   | true =>
    rw [hb] at hs
    cases hs
    have hty : t = y:=Nat.eq_of_beq_eq_true hb
    subst hty
    have hv:=hF.eval hx
    generalize hE : a.eval x = E at hv
    cases hv with
    | @iface _ _ v' hv =>
     refine ⟨.tuple #[v',.bool true],cF ?_,.tuple rfl fun i u u' h1 h2=>?_⟩
     ·rw [hE]
      unfold Instr.typeAssert
      rw [aL (aK hu)]
      dsimp only
      rw [if_pos rfl]
      rfl
     ·rcases i with _ | _ | i
      ·cases h1; cases h2; exact hv
      ·cases h1; cases h2; exact .bool true
      ·simp at h1
 case makeFunc fn f c =>
  cases fn <;> try exact base hs
  rename_i name
  dsimp only at hs
  split at hs
  case h_2=>cases hs
  rename_i v hf hc
  cases hs
  have h1:=fB hF hf
  have hcc : c = #[]:=by apply Array.ext'; simpa using hc
  subst hcc
  generalize hl : f.toList.map a.eval = l at h1
  cases h1 with
  | cons hv ht =>
   cases ht
   rename_i v'
   refine ⟨.func (.method name) #[v'] #[],?_,.meth name hv⟩
   have e1 : f.map a.eval = #[v']:=by apply Array.ext'; simpa using hl
   have e2 : (#[] : Array Operand).map a.eval = #[]:=by simp
   unfold execOp
   dsimp only
   rw [e1,e2]
   rfl
 case slice t x lo hi mx =>
  cases mx with
  | some m=>exact base hs
  | none =>
   dsimp only at hs
   split at hs
   case h_2=>cases hs
   rename_i u hx
   split at hs
   ·rename_i r0 hr
    obtain ⟨v,h1,rfl⟩:=jE hs
    cases h1
    obtain ⟨v',e,hv'⟩:=aDz hF (hF.eval hx) hr hob w
    exact ⟨v',cF e,hv'⟩
   ·exact base hs
 case index t x i =>
  split at hs
  ·rename_i s q k hx hi
   split at hs
   case h_2=>cases hs
   rename_i hu
   cases hs
   have hv:=hF.eval hx
   have hi':=hF.eval hi
   refine ⟨aIg s k,cF ?_,.int _ _⟩
   generalize a.eval x = X at hv
   generalize a.eval i = I at hi'
   cases hv
   cases hi'
   unfold Instr.index
   rw [aL (wZ q k)]
   dsimp only
   rw [aL (aK hu)]
   dsimp only
   rw [if_pos hob.1]
   have hlt : k.toNat < s.data.size:=by
    have h2:=hob.2
    have h3 : s.data.size = s.size:=rfl
    omega
   have e : s[k.toNat]? = some (s.data.getD k.toNat 0):=by
    rw [Array.getD_eq_getD_getElem?,Array.getElem?_eq_getElem hlt]
    exact getElem?_pos s k.toNat hlt
   rw [e]
   rfl
  ·exact base hs
 case binOp op t x y ty =>
  split at hs
  case h_2=>cases hs
  rename_i u z hx hy
  split at hs
  ·rename_i r0 hr
   obtain ⟨v,h1,rfl⟩:=jE hs
   cases h1
   obtain ⟨g1,g2,g3,g4⟩:=aHo (P:=P) (t:=t) (x:=x) (y:=y) hr hob w
   have e1:=kB g2 (hF.eval hx)
   have e2:=kB g3 (hF.eval hy)
   refine ⟨v,?_,cJ g4⟩
   unfold execOp
   dsimp only
   rw [e1,e2]
   exact g1
  split at hs
  ·rename_i b hb
   cases hs
   refine ⟨b,aCz (hF.eval hx) (hF.eval hy) hb w,?_⟩
   have : ∃ c,b = .bool c:=by
    unfold aEq at hb
    have hE : ∀ c,rZ c op = some b -> ∃ c,b = .bool c:=by
     intro c hh
     cases op <;> simp only [rZ,reduceCtorEq,Option.some.injEq] at hh <;> exact ⟨_,hh.symm⟩
    split at hb <;> first | (split at hb <;> first | exact hE _ hb | cases hb) | cases hb
   obtain ⟨c,rfl⟩:=this
   exact .bool c
  split at hs
  case h_2=>cases hs
  rename_i v hv
  cases hs
  exact vC hF hv w
 case convert src dst' x =>
  split at hs
  ·rename_i A n c hx
   obtain ⟨v,h1,rfl⟩:=jE hs
   obtain ⟨v',e,hv'⟩:=vQ h (hF.eval hx) h1 hob
   exact ⟨v',cF e,hv'⟩
  ·rename_i fn els c hx
   obtain ⟨v,h1,rfl⟩:=jE hs
   obtain ⟨v',e,hv'⟩:=vQ h (hF.eval hx) h1 hob
   exact ⟨v',cF e,hv'⟩
  ·exact base hs
  ·cases hs
 case makeSlice t x y =>
  split at hs
  case h_2=>cases hs
  rename_i u v hx hy
  split at hs
  case h_2=>cases hs
  rename_i q pr hq
  cases hs
  exact gL (wD (hF.eval hx) (hF.eval hy) hq hob w)
 case pick c x y =>
  split at hs
  case h_2=>cases hs
  rename_i b hc
  have hcv:=hF.eval hc
  have hrun : (execOp a.eval ⟨dst,.pick c x y,type,pos,after,guard⟩).run P w = .ok (.value (if b then a.eval x else a.eval y)) w:=by
   show ((asBool (a.eval c)) >>= fun t=>pure (Next.value (if t then a.eval x else a.eval y))).run P w = _
   generalize a.eval c = C at hcv
   cases hcv
   rfl
  cases b with
  | true =>
   dsimp only at hs
   split at hs
   case h_2=>cases hs
   rename_i v hv
   cases hs
   exact ⟨_,hrun,hF.eval hv⟩
  | false =>
   dsimp only at hs
   split at hs
   case h_2=>cases hs
   rename_i v hv
   cases hs
   exact ⟨_,hrun,hF.eval hv⟩
 case call c =>
  split at hs
  ·rename_i v hv
   cases hs
   exact aAq hF rfl hv w
  ·split at hs
   ·rename_i r0 hr
    obtain ⟨v,h1,rfl⟩:=jE hs
    cases h1
    exact aAQ hF rfl hr hob w
   ·exact base hs
theorem uW {ev ev' : Operand -> Option Value} {d : Nat} {x : Option Operand} (h : ∀ y,x = some y -> ev y = ev' y) : fE ev d x = fE ev' d x:=by
 cases x with
 | none=>rfl
 | some y=>simp only [fE,h y rfl]
theorem aEg {P : Program} {ev ev' : Operand -> Option Value} {hp : Tr AObj} {o : Oper} (h : ∀ x ∈ o.op.operands,ev x = ev' x) : gR P hp o ev = gR P hp o ev':=by
 have hb : iH P hp o ev = iH P hp o ev':=by unfold iH; rw [pE h]
 have hsc : iS P o ev = iS P o ev':=tY h
 obtain ⟨dst,op,type,pos,after,guard⟩:=o
 unfold gR
 cases op <;> dsimp only <;> try exact hb
 case load t x=>rw [h x (by simp [Op.operands]),hb]
 case indexAddr t x i=>rw [h x (by simp [Op.operands]),h i (by simp [Op.operands])]
 case fieldAddr t x f=>rw [h x (by simp [Op.operands]),hb]
 case nilCheck x=>rw [h x (by simp [Op.operands]),hb]
 case typeAssert x xt y ok =>
  cases ok
  ·exact hb
  ·dsimp only
   rw [h x (by simp [Op.operands])]
 case makeFunc fn f c =>
  have : evL ev f.toList = evL ev' f.toList:=iW fun x hx=>h x (by simp [Op.operands]; exact .inl (by simpa using hx))
  rw [this,hb]
 case slice t x lo hi mx =>
  cases mx with
  | some m=>exact hb
  | none =>
   dsimp only
   have : ∀ v,xD P ev t v lo hi = xD P ev' t v lo hi:=fun v=>by
    unfold xD
    have b1 : ∀ d,fE ev d hi = fE ev' d hi:=fun d=>uW fun y hy=>h y (by simp [Op.operands,hy])
    have b2 : ∀ d,fE ev d lo = fE ev' d lo:=fun d=>uW fun y hy=>h y (by simp [Op.operands,hy])
    simp only [b1,b2]
   rw [h x (by simp [Op.operands]),hb]
   simp only [this]
 case index t x i=>rw [h x (by simp [Op.operands]),h i (by simp [Op.operands]),hb]
 case binOp op t x y ty=>rw [h x (by simp [Op.operands]),h y (by simp [Op.operands]),hsc]
 case convert src dst' x=>rw [h x (by simp [Op.operands]),hb]
 case makeSlice t x y=>rw [h x (by simp [Op.operands]),h y (by simp [Op.operands])]
 case pick c x y=>rw [h c (by simp [Op.operands]),h x (by simp [Op.operands]),h y (by simp [Op.operands])]
 case call c =>
  have : oE P c ev = oE P c ev':=by
   obtain ⟨callee,args,argTypes⟩:=c
   unfold oE
   dsimp only
   split
   ·rename_i t x hty har
    rw [h x (by
     have:=Array.mem_of_getElem? har
     simp [Op.operands,Call.operands,this])]
   ·rfl
  have this2 : aAT P c ev = aAT P c ev':=zU fun x hx=>h x (by simp [Op.operands,Call.operands,hx])
  rw [this,this2,hb]
theorem aDD {P : Program} {ev : Operand -> Option Value} {hp hp' : Tr AObj} {o : Oper} (h : eW o ev = false) : gR P hp o ev = gR P hp' o ev:=by
 have hb : iH P hp o ev = iH P hp' o ev:=by unfold iH; rw [oP h]
 obtain ⟨dst,op,type,pos,after,guard⟩:=o
 unfold gR
 cases op <;> dsimp only <;> try exact hb
 case load t x=>cases h
 case fieldAddr t x f=>rw [hb]
 case nilCheck x=>rw [hb]
 case makeFunc fn f c=>rw [hb]
 case typeAssert x xt y ok=>cases ok <;> first | exact hb | rfl
 case slice t x lo hi mx=>cases mx <;> dsimp only <;> rw [hb]
 case index t x i=>rw [hb]
 case convert src dst' x =>
  split
  ·rename_i A n c hx
   simp only [eW,hx] at h
   cases h
  ·rename_i fn els c hx
   have : nI P hp src dst' (.func fn els c) = nI P hp' src dst' (.func fn els c):=by
    unfold nI
    split
    ·split
     ·split
      ·rename_i heq; cases heq
      ·rfl
      ·rfl
     ·rfl
    ·rfl
   rw [this]
  ·exact hb
  ·rfl
 case call c=>rw [hb]
def LOk (P : Program) (hp : Tr AObj) (o : Oper) (ev : Operand -> Option Value) (r : LRes) : Prop:=eB P hp o ev = some r ∨ ∃ ob,gR P hp o ev = some (r,ob) /\ ob
theorem LOk.sound {P : Program} {ρ : Place} {W : Base} {hp : Tr AObj} {nx : Nat} {w : World} (h : Rel ρ W hp nx w) {ev : Operand -> Option Value} {a : Act} (hF : ERel ρ ev a) {o : Oper} {r : LRes} (hs : LOk P hp o ev r) : jW P ρ o a w r:=by
 rcases hs with hs | ⟨ob,h1,h2⟩
 ·exact lM h hF hs
 ·exact jG h hF h1 h2
theorem LOk.congr {P : Program} {ev ev' : Operand -> Option Value} {hp : Tr AObj} {o : Oper} {r : LRes} (h : ∀ x ∈ o.op.operands,ev x = ev' x) (hs : LOk P hp o ev r) : LOk P hp o ev' r:=by
 unfold LOk at *
 rw [← pE h,← aEg h]
 exact hs
theorem LOk.still {P : Program} {ev : Operand -> Option Value} {hp hp' : Tr AObj} {o : Oper} {r : LRes} (h : eW o ev = false) (hs : LOk P hp o ev r) : LOk P hp' o ev r:=by
 unfold LOk at *
 rw [← oP (hp:=hp) h,← aDD (hp:=hp) h]
 exact hs
end Go.Proofs.YtngginofamlkkaaGreatDoor
noncomputable section
namespace Go.Proofs.YtngginofamlkkaaGreatDoor
open Go Go.RowKit
def yY : Value -> Value -> Bool
 | .bool a,.bool b=>a == b
 | .int k n,.int k' n'=>decide (k = k') && decide (n = n')
 | .string a,.string b=>decide (a = b)
 | .pointer a,.pointer b=>decide (a = b)
 | .slice a n c,.slice b m d=>decide (a = b) && n.beq m && c.beq d
 | .nilIface,.nilIface | .nilFunc,.nilFunc=>true
 | _,_=>false
def rL : List Value -> List Value -> Bool
 | [],[]=>true
 | x :: l,y :: m=>yY x y && rL l m
 | _,_=>false
def veq : Value -> Value -> Bool
 | .agg a,.agg b=>rL a.toList b.toList
 | x,y=>yY x y
theorem zM {x y : Value} (h : yY x y = true) : x = y:=by
 unfold yY at h
 split at h <;> simp only [Bool.and_eq_true,decide_eq_true_eq,beq_iff_eq,Bool.false_eq_true] at h <;> try (first | rfl | (subst h; rfl))
 ·obtain ⟨rfl,rfl⟩:=h; rfl
 ·obtain ⟨⟨rfl,h1⟩,h2⟩:=h
  rw [Nat.eq_of_beq_eq_true h1,Nat.eq_of_beq_eq_true h2]
theorem aAx : ∀ {l m : List Value},rL l m = true -> l = m
 | [],[],_=>rfl
 | [],_ :: _,h=>by simp [rL] at h
 | _ :: _,[],h=>by simp [rL] at h
 | x :: l,y :: m,h=>by
  simp only [rL,Bool.and_eq_true] at h
  rw [zM h.1,aAx h.2]
theorem aRU {x y : Value} (h : veq x y = true) : x = y:=by
 unfold veq at h
 split at h
 ·rw [Array.ext' (aAx h)]
 ·exact zM h
structure Rd where
 i : Nat
 o : Oper
 tm : Tr Value
 v : Value
def aE8 (P : Program) (hp : Tr AObj) (r : Rd) : Bool :=
 match eB P hp r.o (aev r.tm) with
 | some (.val v)=>veq r.v v
 | _=>false
def oC (ops : Array Oper) (i : Nat) : Bool :=
 match ops[i]? with
 | some o=>!eC o.op
 | none=>false
def eU (ops : Array Oper) : Bool :=
 (List.range ops.size).all fun i=>(List.range ops.size).all fun j=>match ops[i]?,ops[j]? with
  | some oi,some oj=>(oi.after.all fun e=>!Region.binds .any e || e.on.blt i) && (i == j || (match oj.dst with
   | some d=>oi.dst != some d && (!(oi.looksAt ops).contains d || bN ops j i || bN ops i j)
   | none=>true))
  | _,_=>true
theorem aEH {ops : Array Oper} (h : eU ops = true) {i : Nat} {o : Oper} (hi : ops[i]? = some o) {e : Edge} (he : e ∈ o.after) (hb : Region.binds .any e = true) : e.on < i:=by
 have hlt:=(Array.getElem?_eq_some_iff.1 hi).1
 unfold eU at h
 have h1:=List.all_eq_true.1 (List.all_eq_true.1 h i (by simpa using hlt)) i (by simpa using hlt)
 rw [hi] at h1
 simp only [Bool.and_eq_true] at h1
 have h2:=Array.all_eq_true_iff_forall_mem.1 h1.1 e he
 rw [hb] at h2
 simpa using h2
theorem fM {ops : Array Oper} (h : eU ops = true) {i j : Nat} {oi oj : Oper} (hi : ops[i]? = some oi) (hj : ops[j]? = some oj) (hne : i ≠ j) {d : Tmp} (hd : oj.dst = some d) :
  oi.dst ≠ some d /\ (d ∈ oi.looksAt ops -> bN ops j i = true ∨ bN ops i j = true):=by
 have h1:=List.all_eq_true.1 (List.all_eq_true.1 h i (by simpa using (Array.getElem?_eq_some_iff.1 hi).1)) j (by simpa using (Array.getElem?_eq_some_iff.1 hj).1)
 rw [hi,hj] at h1
 simp only [Bool.and_eq_true,Bool.or_eq_true,hd,beq_iff_eq,hne,false_or,bne_iff_ne,Bool.not_eq_true'] at h1
 refine ⟨h1.2.1,fun hm=>?_⟩
 rcases h1.2.2 with (h2 | h2) | h2
 ·rw [List.contains_iff_mem.2 hm] at h2; cases h2
 ·exact .inl h2
 ·exact .inr h2
def pP (P : Program) (call : iC) (ops : Array Oper) (n : Nat) : Nat -> Array Bool -> AS -> List Rd -> Option AS
 | 0,listed,st,_=>match Region.ready .any ops listed with
  | []=>some st
  | _=>none
 | f + 1,listed,st,rds=>match Region.ready .any ops listed with
  | []=>some st
  | r :: rs=>match (r :: rs).find? (oC ops) with
   | some i=>match ops[i]? with
    | some o=>match gG ops st.tm o with
     | some true=>match eB P st.hp o (aev st.tm) with
      | some (.val v)=>match iZ n st.tm o.dst v with
       | some tm'=>pP P call ops n f (listed.setIfInBounds i true) ⟨tm',st.hp,st.nx⟩ (bif eW o (aev st.tm) then ⟨i,o,st.tm,v⟩ :: rds else rds)
       | none=>none
      | some (.new ob nv)=>match iZ n st.tm o.dst (nv.val st.nx) with
       | some tm'=>bif eW o (aev st.tm) then none else pP P call ops n f (listed.setIfInBounds i true) ⟨tm',st.hp.put st.nx (some ob),st.nx + 1⟩ rds
       | none=>none
      | none=>none
     | some false=>match iZ n st.tm o.dst undef with
      | some tm'=>pP P call ops n f (listed.setIfInBounds i true) ⟨tm',st.hp,st.nx⟩ rds
      | none=>none
     | none=>none
    | none=>none
   | none=>match rs with
    | []=>match ops[r]? with
     | some o=>match aC7 P call ops n st o with
      | some st'=>bif rds.all (fun rd=>bN ops rd.i r || aE8 P st'.hp rd) then pP P call ops n f (listed.setIfInBounds r true) st' rds else none
      | none=>none
     | none=>none
    | _=>none
abbrev In (L : Array Bool) (i : Nat) : Prop:=L.getD i false = true
structure Info where
 T : Nat -> Tr Value
 U : Nat -> Value
 B : Nat -> Option Nat
def PF (P : Program) (ops : Array Oper) (st0 st : AS) (ρ : Place) (I : Info) (j : Nat) (o : Oper) : Prop :=
 (gG ops (I.T j) o = some false /\ I.U j = undef /\ I.B j = none) ∨
 (gG ops (I.T j) o = some true /\ LOk P st.hp o (aev (I.T j)) (.val (I.U j)) /\ I.B j = none) ∨
 (gG ops (I.T j) o = some true /\ eW o (aev (I.T j)) = false /\ ∃ ob nv b,LOk P st.hp o (aev (I.T j)) (.new ob nv) /\ I.U j = nv.val b /\ I.B j = some b /\ b < st.nx /\ st0.nx <= b /\ ρ b = none /\ st.hp.get b = some ob)
def TC (ops : Array Oper) (st0 : AS) (I : Info) (j : Nat) (o : Oper) : Prop :=
 ∀ t ∈ o.looksAt ops,(∃ k ok,bN ops k j = true /\ ops[k]? = some ok /\ ok.dst = some t /\ (I.T j).get t = some (I.U k)) ∨
  ((∀ k ok,ops[k]? = some ok -> ok.dst = some t -> k ≠ j -> bN ops j k = true) /\ (I.T j).get t = st0.tm.get t)
structure Inv (P : Program) (W : Base) (ops : Array Oper) (n : Nat) (st0 : AS) (ρ0 : Place) (C : Array Bool) (st : AS) (rds : List Rd) (I : Info) (L : Array Bool) (a : Act) (w : World) (ρ : Place) : Prop where
 cs : C.size = ops.size
 ls : L.size = ops.size
 cclosed : ∀ i,In C i -> ∀ o,ops[i]? = some o -> ∀ e ∈ o.after,Region.binds .any e = true -> In C e.on
 lclosed : ∀ i,In L i -> ∀ o,ops[i]? = some o -> ∀ e ∈ o.after,Region.binds .any e = true -> In L e.on
 sub : ∀ i,In L i -> In C i
 tmC : ∀ j o t,In C j -> ops[j]? = some o -> o.dst = some t -> st.tm.get t = some (I.U j)
 tm0 : ∀ t,(∀ j o,In C j -> ops[j]? = some o -> o.dst ≠ some t) -> st.tm.get t = st0.tm.get t
 rel : Rel ρ W st.hp st.nx w
 size : a.tmps.size = n
 defers : a.defers = W.ds
 lv : ∀ j o t,In L j -> ops[j]? = some o -> o.dst = some t -> t < n /\ VR ρ (I.U j) (a.tmps.getD t undef)
 l0 : ∀ t v,(∀ j o,In L j -> ops[j]? = some o -> o.dst ≠ some t) -> st0.tm.get t = some v -> t < n /\ VR ρ v (a.tmps.getD t undef)
 pend : ∀ j o,In C j -> ¬ In L j -> ops[j]? = some o -> eC o.op = false /\ (∀ d,o.dst = some d -> d < n) /\ TC ops st0 I j o /\ PF P ops st0 st ρ I j o
 bne : ∀ j k b,In C j -> ¬ In L j -> In C k -> ¬ In L k -> j ≠ k -> I.B j = some b -> I.B k ≠ some b
 step : Step ρ0 ρ st0.hp st.hp st0.nx st.nx
 rd : ∀ j o,In C j -> ¬ In L j -> ops[j]? = some o -> gG ops (I.T j) o = some true -> eW o (aev (I.T j)) = true -> ⟨j,o,I.T j,I.U j⟩ ∈ rds
theorem wJ {L : Array Bool} {i j : Nat} (hi : i < L.size) : In (L.setIfInBounds i true) j ↔ j = i ∨ In L j:=by
 unfold In
 by_cases h : i = j
 ·subst h; simp [hi]
 ·rw [getD_set_ne false h]
  constructor
  ·exact .inr
  ·rintro (h' | h')
   ·exact absurd h'.symm h
   ·exact h'
theorem fC {L : Array Bool} {i : Nat} (h : L.getD i true = false) : i < L.size /\ ¬ In L i:=by
 have hi : i < L.size:=by
  rcases Nat.lt_or_ge i L.size with h' | h'
  ·exact h'
  ·simp [Array.getElem?_eq_none h'] at h
 refine ⟨hi,fun h'=>?_⟩
 simp [hi] at h h'
 rw [h] at h'
 cases h'
theorem fK {L : Array Bool} {i : Nat} (hi : i < L.size) (h : ¬ In L i) : L.getD i true = false:=by
 simp [hi] at h ⊢
 exact h
theorem dL {ρ : Place} {tm : Tr Value} {n : Nat} {a : Act} {ops : Array Oper} {o : Oper} {b : Bool} (hs : a.tmps.size = n) (hl : ∀ t ∈ o.looksAt ops,∀ v,tm.get t = some v -> t < n /\ VR ρ v (a.tmps.getD t undef)) (h : gG ops tm o = some b) :
  Region.wanted o (yielded ops a.tmps) = b:=by
 unfold gG at h
 unfold Region.wanted
 cases hg : o.guard with
 | none=>rw [hg] at h; cases h; rfl
 | some p =>
  obtain ⟨j,want⟩:=p
  rw [hg] at h
  dsimp only at h ⊢
  unfold yielded
  cases hd : (ops[j]?).bind (·.dst) with
  | none=>rw [hd] at h; cases h; rfl
  | some d =>
   rw [hd] at h
   dsimp only at h
   cases hv : tm.get d with
   | none=>rw [hv] at h; cases h
   | some u =>
    rw [hv] at h
    have hs':=hl d (by unfold Oper.looksAt; rw [hg]; simp only [hd,List.mem_append]; exact .inr (by simp)) u hv
    have hlt : d < a.tmps.size:=by rw [hs]; exact hs'.1
    have he : a.tmps[d]? = some (a.tmps.getD d undef):=by simp [hlt]
    have hu:=hs'.2
    rw [Option.bind_some,he]
    generalize a.tmps.getD d undef = y at hu
    cases hu <;> simp only [Option.some.injEq] at h <;> subst h <;> first | rfl | simp
open Classical in
theorem kE {ρ : Place} {tm : Tr Value} {n : Nat} {a : Act} {ops : Array Oper} {o : Oper} (hl : ∀ t ∈ o.looksAt ops,∀ v,tm.get t = some v -> t < n /\ VR ρ v (a.tmps.getD t undef)) :
  ∃ ev',ERel ρ ev' a /\ ∀ x ∈ o.op.operands,aev tm x = ev' x:=by
 refine ⟨fun x=>if x ∈ o.op.operands then aev tm x else none,fun x v hv=>?_,fun x hx=>by simp [hx]⟩
 by_cases hx : x ∈ o.op.operands
 ·simp only [hx,if_true] at hv
  cases x with
  | tmp t=>exact (hl t (by unfold Oper.looksAt; simp only [List.mem_append,List.mem_filterMap]; exact .inl ⟨.tmp t,by simpa using hx,rfl⟩) v hv).2
  | const u =>
   rw [aCM] at hv
   cases hc : dK u with
   | true=>rw [hc] at hv; cases hv; exact cJ hc
   | false=>rw [hc] at hv; cases hv
  | global g=>exact aIk hv a
  | func f=>cases hv; exact .func _ rfl (by simp) rfl (by simp)
 ·simp [hx] at hv
section
variable {P : Program} {W : Base} {ops : Array Oper} {n : Nat} {st0 : AS} {ρ0 : Place} {C : Array Bool} {st : AS} {rds : List Rd} {I : Info} {L : Array Bool} {a : Act} {w : World} {ρ : Place}
theorem Inv.looks (h : Inv P W ops n st0 ρ0 C st rds I L a w ρ) {j : Nat} {o : Oper} (hj : ops[j]? = some o) (hn : ¬ In L j) (hr : ∀ e ∈ o.after,Region.binds .any e = true -> In L e.on) (ht : TC ops st0 I j o) :
  ∀ t ∈ o.looksAt ops,∀ v,(I.T j).get t = some v -> t < n /\ VR ρ v (a.tmps.getD t undef):=by
 intro t htm v hv
 rcases ht t htm with ⟨k,ok,h1,h2,h3,h4⟩ | ⟨h1,h2⟩
 ·rw [h4] at hv
  cases hv
  have hkL : In L k:=dG h.lclosed j k h1 fun o' ho' e he hb=>by rw [hj] at ho'; cases ho'; exact hr e he hb
  exact h.lv k ok t hkL h2 h3
 ·rw [h2] at hv
  refine h.l0 t v (fun k ok hk hok hdk=>?_) hv
  by_cases hkj : k = j
  ·subst hkj; exact hn hk
  ·exact hn (dG h.lclosed k j (h1 k ok hok hdk hkj) fun o' ho' e he hb=>h.lclosed k hk o' ho' e he hb)
theorem Inv.exec (hD : eU ops = true) (h : Inv P W ops n st0 ρ0 C st rds I L a w ρ) {j : Nat} {o : Oper} (hj : ops[j]? = some o) (hjC : In C j) (hn : ¬ In L j) (hr : ∀ e ∈ o.after,Region.binds .any e = true -> In L e.on)
  {v' : Value} {w' : World} {ρ' : Place} (hle : ρ.le ρ') (hrel : Rel ρ' W st.hp st.nx w') (hv : VR ρ' (I.U j) v') (hstep : Step ρ0 ρ' st0.hp st.hp st0.nx st.nx) (hb : ∀ b,I.B j ≠ some b -> ρ b = none -> ρ' b = none) :
  Inv P W ops n st0 ρ0 C st rds I (L.setIfInBounds j true) (a.put o.dst v') w' ρ':=by
 have hlt : j < L.size:=by rw [h.ls]; exact (Array.getElem?_eq_some_iff.1 hj).1
 have hin : ∀ k,In (L.setIfInBounds j true) k ↔ k = j ∨ In L k:=fun k=>wJ hlt
 have hdn:=(h.pend j o hjC hn hj).2.1
 have get_put : ∀ t,o.dst ≠ some t -> (a.put o.dst v').tmps.getD t undef = a.tmps.getD t undef:=fun t ht=>by
  cases hd : o.dst with
  | none=>rfl
  | some d =>
   have : d ≠ t:=fun e=>ht (by rw [hd,e])
   simp [Act.put,Array.getD_eq_getD_getElem?,Array.getElem?_setIfInBounds_ne this]
 refine ⟨h.cs,by simp [h.ls],h.cclosed,?_,?_,h.tmC,h.tm0,hrel,?_,?_,?_,?_,?_,?_,hstep,?_⟩
 ·intro i hi o' ho' e he hbd
  rw [hin] at hi ⊢
  rcases hi with rfl | hi
  ·rw [hj] at ho'; cases ho'; exact .inr (hr e he hbd)
  ·exact .inr (h.lclosed i hi o' ho' e he hbd)
 ·intro i hi
  rw [hin] at hi
  rcases hi with rfl | hi
  ·exact hjC
  ·exact h.sub i hi
 ·cases hd : o.dst <;> simp [Act.put,h.size]
 ·cases hd : o.dst <;> simp [Act.put,h.defers]
 ·intro k ok t hk hok hdk
  rw [hin] at hk
  by_cases hkj : k = j
  ·subst hkj
   rw [hj] at hok
   cases hok
   refine ⟨hdn t hdk,?_⟩
   rw [hdk]
   simpa [Act.put,Array.getD_eq_getD_getElem?,h.size,hdn t hdk] using hv
  ·have hkL:=hk.resolve_left hkj
   have:=h.lv k ok t hkL hok hdk
   rw [get_put t (fM hD hj hok (Ne.symm hkj) hdk).1]
   exact ⟨this.1,this.2.mono hle⟩
 ·intro t v hno hv0
  have hnj : o.dst ≠ some t:=hno j o ((hin j).2 (.inl rfl)) hj
  have:=h.l0 t v (fun k ok hk=>hno k ok ((hin k).2 (.inr hk))) hv0
  rw [get_put t hnj]
  exact ⟨this.1,this.2.mono hle⟩
 ·intro k ok hk hkn hok
  have hkn' : ¬ In L k:=fun h'=>hkn ((hin k).2 (.inr h'))
  have hkj : k ≠ j:=fun e=>hkn ((hin k).2 (.inl e))
  obtain ⟨g1,g2,g3,g4⟩:=h.pend k ok hk hkn' hok
  refine ⟨g1,g2,g3,?_⟩
  rcases g4 with g | g | ⟨g5,g6,ob,nv,b,g7,g8,g9,g10,g11,g12,g13⟩
  ·exact .inl g
  ·exact .inr (.inl g)
  ·exact .inr (.inr ⟨g5,g6,ob,nv,b,g7,g8,g9,g10,g11,hb b (fun e=>h.bne j k b hjC hn hk hkn' (Ne.symm hkj) e g9) g12,g13⟩)
 ·intro i k b hi hin' hk hkn hik
  exact h.bne i k b hi (fun h'=>hin' ((hin i).2 (.inr h'))) hk (fun h'=>hkn ((hin k).2 (.inr h'))) hik
 ·intro k ok hk hkn
  exact h.rd k ok hk (fun h'=>hkn ((hin k).2 (.inr h')))
theorem Inv.run (hD : eU ops = true) (h : Inv P W ops n st0 ρ0 C st rds I L a w ρ) {j : Nat} {o : Oper} (hj : ops[j]? = some o) (hjC : In C j) (hn : ¬ In L j) (hr : ∀ e ∈ o.after,Region.binds .any e = true -> In L e.on)
  {Q : Exit -> Act -> World -> Prop} : wpOp P ops Q j (fun a' w'=>∃ ρ',Inv P W ops n st0 ρ0 C st rds I (L.setIfInBounds j true) a' w' ρ') a w:=by
 obtain ⟨g1,g2,g3,g4⟩:=h.pend j o hjC hn hj
 have hlk:=h.looks hj hn hr g3
 obtain ⟨ev',he1,he2⟩:=kE hlk
 unfold wpOp
 simp only [hj]
 rcases g4 with ⟨k1,k2,k3⟩ | ⟨k1,k2,k3⟩ | ⟨k1,k0,ob,nv,b,k2,k3,k4,k5,k6,k7,k8⟩
 ·rw [dL h.size hlk k1,if_neg (by simp)]
  exact ⟨ρ,h.exec hD hj hjC hn hr (.refl ρ) h.rel (by rw [k2]; exact cJ (by simp [undef,dK])) h.step (fun _ _ h=>h)⟩
 ·rw [dL h.size hlk k1,if_pos rfl]
  replace k2:=k2.congr he2
  obtain ⟨v',r1,r2⟩:=LOk.sound h.rel he1 k2
  refine .inl ?_
  unfold Oper.wp
  rw [r1]
  exact ⟨ρ,h.exec hD hj hjC hn hr (.refl ρ) h.rel r2 h.step (fun _ _ h=>h)⟩
 ·rw [dL h.size hlk k1,if_pos rfl]
  replace k2:=k2.congr he2
  obtain ⟨v',ob',d,z,r1,r2,r3⟩:=LOk.sound h.rel he1 k2
  refine .inl ?_
  unfold Oper.wp
  rw [r1]
  have hrel:=(h.rel.at_drawn d).realize (b:=b) (z:=z) (ob:=ob') k5 k7 k8 (r2 _ h.rel.below.fresh)
  refine ⟨ρ.set b (w.heap.size,0,z),h.exec hD hj hjC hn hr (Place.le_set k7) hrel (by rw [k3]; exact r3 _ _ (Place.set_same ρ b _)) ?_ (fun b' hb' hb0=>?_)⟩
  ·refine ⟨h.step.le.trans (Place.le_set k7),h.step.more,fun b' hb' hr'=>?_⟩
   have:=h.step.old b' hb' hr'
   exact ⟨by rw [Place.set_other (by omega)]; exact this.1,this.2⟩
  ·rw [Place.set_other (by intro e; subst e; exact hb' k4)]
   exact hb0
end
end Go.Proofs.YtngginofamlkkaaGreatDoor

noncomputable section
namespace Go.Proofs.YtngginofamlkkaaGreatDoor
open Go Go.RowKit
theorem aBM {hp hp' : Tr AObj} (h : ∀ b x,hp.get b = some x -> hp'.get b = some x) {b o n : Nat} {l : List Value} (hl : iN hp b o n = some l) : iN hp' b o n = some l:=by
 unfold iN at *
 cases hb : hp.get b with
 | none=>rw [hb] at hl; cases hl
 | some x=>rw [h b x hb]; rw [hb] at hl; exact hl
theorem aCl {P : Program} {hp hp' : Tr AObj} (h : ∀ b x,hp.get b = some x -> hp'.get b = some x) {o : Oper} {ev : Operand -> Option Value} {v : Value} (hl : pL P hp o ev = some v) : pL P hp' o ev = some v:=by
 unfold pL at *
 split at hl
 ·rename_i t x hop
  cases hx : ev x with
  | none=>rw [hx] at hl; cases hl
  | some u =>
   rw [hx] at hl
   dsimp only at hl ⊢
   unfold uY at *
   split at hl
   case h_2=>cases hl
   rename_i b o'
   split at hl
   ·split at hl
    case h_2=>cases hl
    split at hl
    case h_2=>cases hl
    rename_i l hr
    rw [aBM h hr]
    exact hl
   ·cases hb : hp.get b with
    | none=>rw [hb] at hl; cases hl
    | some y=>rw [h b y hb]; rw [hb] at hl; exact hl
   ·cases hl
 ·rename_i s d x hop
  cases hx : ev x with
  | none=>rw [hx] at hl; cases hl
  | some u =>
   rw [hx] at hl
   dsimp only at hl ⊢
   unfold aAJ at *
   split at hl
   case h_2=>cases hl
   split at hl
   case h_2=>cases hl
   split at hl
   case h_2=>cases hl
   split at hl
   case h_2=>cases hl
   rename_i l hr
   rw [aBM h hr]
   exact hl
 ·cases hl
theorem aAi {P : Program} {hp hp' : Tr AObj} (h : ∀ b x,hp.get b = some x -> hp'.get b = some x) {o : Oper} {ev : Operand -> Option Value} {r : LRes} (hl : eB P hp o ev = some r) : eB P hp' o ev = some r:=by
 unfold eB at *
 split at hl <;> try exact hl
 ·simp only [Option.map_eq_some_iff] at hl ⊢
  obtain ⟨v,hv,e⟩:=hl
  exact ⟨v,aCl h hv,e⟩
 ·split at hl <;> try exact hl
  simp only [Option.map_eq_some_iff] at hl ⊢
  obtain ⟨v,hv,e⟩:=hl
  exact ⟨v,aCl h hv,e⟩
theorem aGI {P : Program} {hp hp' : Tr AObj} (h : ∀ b x,hp.get b = some x -> hp'.get b = some x) {o : Oper} {ev : Operand -> Option Value} {r : LRes} {ob : Prop} (hl : gR P hp o ev = some (r,ob)) : gR P hp' o ev = some (r,ob):=by
 have hb : iH P hp o ev = some (r,ob) -> iH P hp' o ev = some (r,ob):=fun hb=>by
  unfold iH at *
  split at hb
  ·rename_i q hq; rw [aAi h hq]; exact hb
  ·cases hb
 obtain ⟨dst,op,type,pos,after,guard⟩:=o
 unfold gR at *
 cases op <;> dsimp only at hl ⊢ <;> try exact hb hl
 case load t x =>
  cases hsy : aKZ ⟨dst,.load t x,type,pos,after,guard⟩ t x with
  | true =>
   rw [hsy,cond_true] at hl
   rw [cond_true]
   split at hl
   case h_2=>cases hl
   rename_i v hx
   have key : ∀ q,rI P hp t v = some q -> rI P hp' t v = some q:=fun q hq=>by
    unfold rI at *
    split at hq
    case h_2=>cases hq
    split at hq
    case h_2=>cases hq
    rename_i hg
    rw [h _ _ hg]
    exact hq
   unfold yU at *
   split at hl
   ·rename_i w ob' hq
    rw [key _ hq]
    exact hl
   ·cases hl
  | false =>
  rw [hsy,cond_false] at hl
  rw [cond_false]
  split at hl
  ·exact hl
  ·exact hb hl
 case indexAddr t x i=>exact hl
 case fieldAddr t x f =>
  split at hl
  ·exact hl
  ·exact hb hl
 case nilCheck x =>
  split at hl
  ·exact hl
  ·exact hl
  ·exact hb hl
 case makeFunc fn f c =>
  cases fn <;> first | exact hl | exact hb hl
 case typeAssert x xt y ok=>cases ok <;> first | exact hl | exact hb hl
 case slice t x lo hi mx =>
  cases mx with
  | some m=>exact hb hl
  | none =>
   dsimp only at hl ⊢
   split at hl
   case h_2=>cases hl
   split at hl
   ·exact hl
   ·exact hb hl
 case index t x i =>
  split at hl
  ·exact hl
  ·exact hb hl
 case binOp op t x y ty=>exact hl
 case convert src dst' x =>
  have hB : ∀ u,∀ q,nI P hp src dst' u = some q -> nI P hp' src dst' u = some q:=fun u q hq=>by
   unfold nI at *
   split at hq
   case h_2=>cases hq
   split at hq
   case h_2=>cases hq
   split at hq
   ·split at hq
    case h_2=>cases hq
    rename_i l wr hg
    rw [h _ _ hg]
    exact hq
   ·exact hq
   ·cases hq
  split at hl
  ·obtain ⟨v,h1,rfl⟩:=jE hl
   rw [hB _ _ h1]
   rfl
  ·obtain ⟨v,h1,rfl⟩:=jE hl
   rw [hB _ _ h1]
   rfl
  ·exact hb hl
  ·exact hl
 case makeSlice t x y=>exact hl
 case pick c x y=>exact hl
 case call c =>
  split at hl
  ·exact hl
  ·split at hl
   ·exact hl
   ·exact hb hl
theorem LOk.ext {P : Program} {hp hp' : Tr AObj} (h : ∀ b x,hp.get b = some x -> hp'.get b = some x) {o : Oper} {ev : Operand -> Option Value} {r : LRes} (hl : LOk P hp o ev r) : LOk P hp' o ev r:=by
 rcases hl with hl | ⟨ob,h1,h2⟩
 ·exact .inl (aAi h hl)
 ·exact .inr ⟨ob,aGI h h1,h2⟩
def Info.set (I : Info) (i : Nat) (T : Tr Value) (U : Value) (B : Option Nat) : Info :=
 ⟨fun k=>if k = i then T else I.T k,fun k=>if k = i then U else I.U k,fun k=>if k = i then B else I.B k⟩
section
variable {P : Program} {W : Base} {ops : Array Oper} {n : Nat} {st0 : AS} {ρ0 : Place} {C : Array Bool} {st : AS} {rds rds' : List Rd} {I : Info} {L : Array Bool} {a : Act} {w : World} {ρ : Place}
theorem aGj {tm tm' : Tr Value} {dst : Option Tmp} {v : Value} (h : iZ n tm dst v = some tm') : (∀ d,dst = some d -> d < n /\ tm'.get d = some v) /\ ∀ t,dst ≠ some t -> tm'.get t = tm.get t:=by
 unfold iZ at h
 cases dst with
 | none=>cases h; exact ⟨fun d hd=>by (cases hd),fun _ _=>rfl⟩
 | some d =>
  dsimp only at h
  cases hd : d.blt n with
  | false=>rw [hd] at h; cases h
  | true =>
   rw [hd] at h
   cases h
   refine ⟨fun d' hd'=>?_,fun t ht=>?_⟩
   ·cases hd'
    exact ⟨Nat.le_of_ble_eq_true hd,by rw [Tr.get_put,if_pos rfl]⟩
   ·rw [Tr.get_put,if_neg (by intro e; subst e; exact ht rfl)]
theorem Inv.absorb (hD : eU ops = true) (h : Inv P W ops n st0 ρ0 C st rds I L a w ρ) {i : Nat} {o : Oper} (hi : ops[i]? = some o) (hn : ¬ In C i) (hr : ∀ e ∈ o.after,Region.binds .any e = true -> In C e.on) (hh : eC o.op = false)
  {st' : AS} {v : Value} {B : Option Nat} (ht : iZ n st.tm o.dst v = some st'.tm) (hrel : Rel ρ W st'.hp st'.nx w) (hext : ∀ b x,st.hp.get b = some x -> st'.hp.get b = some x) (hnx : st.nx <= st'.nx)
  (hstep : Step ρ0 ρ st0.hp st'.hp st0.nx st'.nx) (hB : ∀ b,B = some b -> st.nx <= b)
  (hpf : ∀ I' : Info,I'.T i = st.tm -> I'.U i = v -> I'.B i = B -> PF P ops st0 st' ρ I' i o) (hrd1 : ∀ x ∈ rds,x ∈ rds') (hrd2 : gG ops st.tm o = some true -> eW o (aev st.tm) = true -> ⟨i,o,st.tm,v⟩ ∈ rds') :
  Inv P W ops n st0 ρ0 (C.setIfInBounds i true) st' rds' (I.set i st.tm v B) L a w ρ:=by
 have hlt : i < C.size:=by rw [h.cs]; exact (Array.getElem?_eq_some_iff.1 hi).1
 have hin : ∀ k,In (C.setIfInBounds i true) k ↔ k = i ∨ In C k:=fun k=>wJ hlt
 have hiL : ¬ In L i:=fun h'=>hn (h.sub i h')
 have hU : ∀ k,k ≠ i -> (I.set i st.tm v B).U k = I.U k:=fun k hk=>by simp [Info.set,hk]
 have hT : ∀ k,k ≠ i -> (I.set i st.tm v B).T k = I.T k:=fun k hk=>by simp [Info.set,hk]
 have hBk : ∀ k,k ≠ i -> (I.set i st.tm v B).B k = I.B k:=fun k hk=>by simp [Info.set,hk]
 have hUi : (I.set i st.tm v B).U i = v:=by simp [Info.set]
 have hTi : (I.set i st.tm v B).T i = st.tm:=by simp [Info.set]
 have hBi : (I.set i st.tm v B).B i = B:=by simp [Info.set]
 obtain ⟨p1,p2⟩:=aGj ht
 have hiC : ∀ k,bN ops k i = true -> In C k:=fun k hk=>dG h.cclosed i k hk fun o' ho' e he hb=>by rw [hi] at ho'; cases ho'; exact hr e he hb
 have hCi : ∀ k,In C k -> bN ops i k = true -> False:=fun k hk hb=>hn (dG h.cclosed k i hb fun o' ho' e he hb'=>h.cclosed k hk o' ho' e he hb')
 refine ⟨by simp [h.cs],h.ls,?_,h.lclosed,fun k hk=>(hin k).2 (.inr (h.sub k hk)),?_,?_,hrel,h.size,h.defers,?_,h.l0,?_,?_,hstep,?_⟩
 ·intro k hk o' ho' e he hb
  rw [hin] at hk ⊢
  rcases hk with rfl | hk
  ·rw [hi] at ho'; cases ho'; exact .inr (hr e he hb)
  ·exact .inr (h.cclosed k hk o' ho' e he hb)
 ·intro k ok t hk hok hd
  rw [hin] at hk
  by_cases hki : k = i
  ·subst hki
   rw [hi] at hok
   cases hok
   rw [hUi]
   exact (p1 t hd).2
  ·rw [hU k hki,p2 t (fM hD hi hok (Ne.symm hki) hd).1]
   exact h.tmC k ok t (hk.resolve_left hki) hok hd
 ·intro t hno
  rw [p2 t (hno i o ((hin i).2 (.inl rfl)) hi)]
  exact h.tm0 t fun k ok hk=>hno k ok ((hin k).2 (.inr hk))
 ·intro k ok t hk hok hd
  rw [hU k (fun e=>hiL (e ▸ hk))]
  exact h.lv k ok t hk hok hd
 ·intro k ok hk hkn hok
  rw [hin] at hk
  by_cases hki : k = i
  ·subst hki
   rw [hi] at hok
   cases hok
   refine ⟨hh,fun d hd=>(p1 d hd).1,fun t htm=>?_,hpf _ hTi hUi hBi⟩
   by_cases hex : ∃ j oj,In C j /\ ops[j]? = some oj /\ oj.dst = some t
   ·obtain ⟨j,oj,hj,hoj,hdj⟩:=hex
    have hji : j ≠ k:=fun e=>hn (e ▸ hj)
    rcases (fM hD hi hoj (Ne.symm hji) hdj).2 htm with hb | hb
    ·exact .inl ⟨j,oj,hb,hoj,hdj,by rw [hTi,hU j hji]; exact h.tmC j oj t hj hoj hdj⟩
    ·exact (hCi j hj hb).elim
   ·refine .inr ⟨fun j oj hoj hdj hji=>?_,by rw [hTi]; exact h.tm0 t fun j oj hj hoj hdj=>hex ⟨j,oj,hj,hoj,hdj⟩⟩
    rcases (fM hD hi hoj (Ne.symm hji) hdj).2 htm with hb | hb
    ·exact (hex ⟨j,oj,hiC j hb,hoj,hdj⟩).elim
    ·exact hb
  ·have hkC:=hk.resolve_left hki
   obtain ⟨g1,g2,g3,g4⟩:=h.pend k ok hkC hkn hok
   refine ⟨g1,g2,fun t htm=>?_,?_⟩
   ·rw [hT k hki]
    rcases g3 t htm with ⟨j,oj,q1,q2,q3,q4⟩ | q
    ·have hjC : In C j:=dG h.cclosed k j q1 fun o' ho' e he hb=>h.cclosed k hkC o' ho' e he hb
     exact .inl ⟨j,oj,q1,q2,q3,by rw [hU j (fun e=>hn (e ▸ hjC))]; exact q4⟩
    ·exact .inr q
   ·unfold PF
    rw [hT k hki,hU k hki,hBk k hki]
    rcases g4 with g | ⟨q1,q2,q3⟩ | ⟨g5,g6,ob,nv,b,g7,g8,g9,g10,g11,g12,g13⟩
    ·exact .inl g
    ·exact .inr (.inl ⟨q1,q2.ext hext,q3⟩)
    ·exact .inr (.inr ⟨g5,g6,ob,nv,b,g7.ext hext,g8,g9,by omega,g11,g12,hext _ _ g13⟩)
 ·intro j k b hj hjn hk hkn hjk
  rw [hin] at hj hk
  have old : ∀ k b,In C k -> ¬ In L k -> I.B k = some b -> b < st.nx:=fun k b hk hkn hb=>by
   have hks : k < ops.size:=by
    rcases Nat.lt_or_ge k C.size with h' | h'
    ·rw [← h.cs]; exact h'
    ·simp [In,Array.getElem?_eq_none h'] at hk
   obtain ⟨_,_,_,g4⟩:=h.pend k ops[k] hk hkn (by simp [hks])
   rcases g4 with ⟨_,_,g⟩ | ⟨_,_,g⟩ | ⟨_,_,ob,nv,b',_,_,g9,g10,_⟩
   ·rw [g] at hb; cases hb
   ·rw [g] at hb; cases hb
   ·rw [g9] at hb; cases hb; exact g10
  by_cases hji : j = i
  ·subst hji
   rw [hBi,hBk k (Ne.symm hjk)]
   intro hb hb'
   have:=hB b hb
   have:=old k b (hk.resolve_left (Ne.symm hjk)) hkn hb'
   omega
  ·rw [hBk j hji]
   by_cases hki : k = i
   ·subst hki
    rw [hBi]
    intro hb hb'
    have:=hB b hb'
    have:=old j b (hj.resolve_left hji) hjn hb
    omega
   ·rw [hBk k hki]
    exact h.bne j k b (hj.resolve_left hji) hjn (hk.resolve_left hki) hkn hjk
 ·intro k ok hk hkn hok hw hrd
  rw [hin] at hk
  by_cases hki : k = i
  ·subst hki
   rw [hi] at hok
   cases hok
   rw [hTi] at hw hrd ⊢
   rw [hUi]
   exact hrd2 hw hrd
  ·rw [hT k hki] at hw hrd ⊢
   rw [hU k hki]
   exact hrd1 _ (h.rd k ok (hk.resolve_left hki) hkn hok hw hrd)
theorem Inv.heavyLook (hD : eU ops = true) (h : Inv P W ops n st0 ρ0 C st rds I L a w ρ) {r : Nat} {o : Oper} (hr : ops[r]? = some o) (hn : ¬ In C r) (hrC : ∀ e ∈ o.after,Region.binds .any e = true -> In C e.on)
  (hrL : ∀ e ∈ o.after,Region.binds .any e = true -> In L e.on) :
  ∀ t ∈ o.looksAt ops,∀ v,st.tm.get t = some v -> t < n /\ VR ρ v (a.tmps.getD t undef):=by
 have hltC : r < C.size:=by rw [h.cs]; exact (Array.getElem?_eq_some_iff.1 hr).1
 have hltL : r < L.size:=by rw [h.ls]; exact (Array.getElem?_eq_some_iff.1 hr).1
 have hinC : ∀ k,In (C.setIfInBounds r true) k ↔ k = r ∨ In C k:=fun k=>wJ hltC
 have hinL : ∀ k,In (L.setIfInBounds r true) k ↔ k = r ∨ In L k:=fun k=>wJ hltL
 have hrnL : ¬ In L r:=fun h'=>hn (h.sub r h')
 have hbL : ∀ k,bN ops k r = true -> In L k:=fun k hk=>dG h.lclosed r k hk fun o' ho' e he hb=>by rw [hr] at ho'; cases ho'; exact hrL e he hb
 have hCr : ∀ k,In C k -> bN ops r k = true -> False:=fun k hk hb=>hn (dG h.cclosed k r hb fun o' ho' e he hb'=>h.cclosed k hk o' ho' e he hb')
 intro t htm v hv
 by_cases hex : ∃ j oj,In C j /\ ops[j]? = some oj /\ oj.dst = some t
 ·obtain ⟨j,oj,hj,hoj,hdj⟩:=hex
  have hjr : j ≠ r:=fun e=>hn (e ▸ hj)
  rw [h.tmC j oj t hj hoj hdj] at hv
  cases hv
  rcases (fM hD hr hoj (Ne.symm hjr) hdj).2 htm with hb | hb
  ·exact h.lv j oj t (hbL j hb) hoj hdj
  ·exact (hCr j hj hb).elim
 ·rw [h.tm0 t fun j oj hj hoj hdj=>hex ⟨j,oj,hj,hoj,hdj⟩] at hv
  exact h.l0 t v (fun j oj hj hoj hdj=>hex ⟨j,oj,h.sub j hj,hoj,hdj⟩) hv
theorem Inv.heavyFinW {W' : Base} (hds : W'.ds = W.ds) (hD : eU ops = true) (h : Inv P W ops n st0 ρ0 C st rds I L a w ρ) {r : Nat} {o : Oper} (hr : ops[r]? = some o) (hn : ¬ In C r) (hrC : ∀ e ∈ o.after,Region.binds .any e = true -> In C e.on)
  (hrL : ∀ e ∈ o.after,Region.binds .any e = true -> In L e.on) {st' : AS} (hst : st'.hp = st.hp ∨ ∀ rd ∈ rds,bN ops rd.i r = true ∨ LOk P st'.hp rd.o (aev rd.tm) (.val rd.v))
  (v v' : Value) (w' : World) (ρ' : Place) (ht : iZ n st.tm o.dst v = some st'.tm) (hv : VR ρ' v v') (hrel : Rel ρ' W' st'.hp st'.nx w') (hstep : Step ρ ρ' st.hp st'.hp st.nx st'.nx) :
  ∃ ρ' I',Inv P W' ops n st0 ρ0 (C.setIfInBounds r true) st' rds I' (L.setIfInBounds r true) (a.put o.dst v') w' ρ':=by
 have hltC : r < C.size:=by rw [h.cs]; exact (Array.getElem?_eq_some_iff.1 hr).1
 have hltL : r < L.size:=by rw [h.ls]; exact (Array.getElem?_eq_some_iff.1 hr).1
 have hinC : ∀ k,In (C.setIfInBounds r true) k ↔ k = r ∨ In C k:=fun k=>wJ hltC
 have hinL : ∀ k,In (L.setIfInBounds r true) k ↔ k = r ∨ In L k:=fun k=>wJ hltL
 have hrnL : ¬ In L r:=fun h'=>hn (h.sub r h')
 have hbL : ∀ k,bN ops k r = true -> In L k:=fun k hk=>dG h.lclosed r k hk fun o' ho' e he hb=>by rw [hr] at ho'; cases ho'; exact hrL e he hb
 have hCr : ∀ k,In C k -> bN ops r k = true -> False:=fun k hk hb=>hn (dG h.cclosed k r hb fun o' ho' e he hb'=>h.cclosed k hk o' ho' e he hb')
 obtain ⟨p1,p2⟩:=aGj ht
 have hU : ∀ k,k ≠ r -> (I.set r st.tm v none).U k = I.U k:=fun k hk=>by simp [Info.set,hk]
 have hT : ∀ k,k ≠ r -> (I.set r st.tm v none).T k = I.T k:=fun k hk=>by simp [Info.set,hk]
 have hBk : ∀ k,k ≠ r -> (I.set r st.tm v none).B k = I.B k:=fun k hk=>by simp [Info.set,hk]
 have hUr : (I.set r st.tm v none).U r = v:=by simp [Info.set]
 have get_put : ∀ t,o.dst ≠ some t -> (a.put o.dst v').tmps.getD t undef = a.tmps.getD t undef:=fun t ht=>by
  cases hd : o.dst with
  | none=>rfl
  | some d =>
   have : d ≠ t:=fun e=>ht (by rw [hd,e])
   simp [Act.put,Array.getD_eq_getD_getElem?,Array.getElem?_setIfInBounds_ne this]
 have pd : ∀ k,In (C.setIfInBounds r true) k -> ¬ In (L.setIfInBounds r true) k -> k ≠ r /\ In C k /\ ¬ In L k:=fun k hk hkn=>by
  rw [hinC] at hk
  have hkr : k ≠ r:=fun e=>hkn ((hinL k).2 (.inl e))
  exact ⟨hkr,hk.resolve_left hkr,fun h'=>hkn ((hinL k).2 (.inr h'))⟩
 refine ⟨ρ',I.set r st.tm v none,by simp [h.cs],by simp [h.ls],?_,?_,?_,?_,?_,hrel,?_,?_,?_,?_,?_,?_,h.step.trans hstep,?_⟩
 ·intro k hk o' ho' e he hb
  rw [hinC] at hk ⊢
  rcases hk with rfl | hk
  ·rw [hr] at ho'; cases ho'; exact .inr (hrC e he hb)
  ·exact .inr (h.cclosed k hk o' ho' e he hb)
 ·intro k hk o' ho' e he hb
  rw [hinL] at hk ⊢
  rcases hk with rfl | hk
  ·rw [hr] at ho'; cases ho'; exact .inr (hrL e he hb)
  ·exact .inr (h.lclosed k hk o' ho' e he hb)
 ·intro k hk
  rw [hinL] at hk
  rw [hinC]
  exact hk.imp id (h.sub k)
 ·intro k ok t hk hok hd
  rw [hinC] at hk
  by_cases hkr : k = r
  ·subst hkr
   rw [hr] at hok
   cases hok
   rw [hUr]
   exact (p1 t hd).2
  ·rw [hU k hkr,p2 t (fM hD hr hok (Ne.symm hkr) hd).1]
   exact h.tmC k ok t (hk.resolve_left hkr) hok hd
 ·intro t hno
  rw [p2 t (hno r o ((hinC r).2 (.inl rfl)) hr)]
  exact h.tm0 t fun k ok hk=>hno k ok ((hinC k).2 (.inr hk))
 ·cases hd : o.dst <;> simp [Act.put,h.size]
 ·cases hd : o.dst <;> simp [Act.put,h.defers,hds]
 ·intro k ok t hk hok hdk
  rw [hinL] at hk
  by_cases hkr : k = r
  ·subst hkr
   rw [hr] at hok
   cases hok
   have:=(p1 t hdk).1
   refine ⟨this,?_⟩
   rw [hUr,hdk]
   simpa [Act.put,Array.getD_eq_getD_getElem?,h.size,this] using hv
  ·have:=h.lv k ok t (hk.resolve_left hkr) hok hdk
   rw [hU k hkr,get_put t (fM hD hr hok (Ne.symm hkr) hdk).1]
   exact ⟨this.1,this.2.mono hstep.le⟩
 ·intro t u hno hu
  have hnj : o.dst ≠ some t:=hno r o ((hinL r).2 (.inl rfl)) hr
  have:=h.l0 t u (fun k ok hk=>hno k ok ((hinL k).2 (.inr hk))) hu
  rw [get_put t hnj]
  exact ⟨this.1,this.2.mono hstep.le⟩
 ·intro k ok hk hkn hok
  obtain ⟨hkr,hkC,hkL⟩:=pd k hk hkn
  obtain ⟨g1,g2,g3,g4⟩:=h.pend k ok hkC hkL hok
  refine ⟨g1,g2,fun t htm=>?_,?_⟩
  ·rw [hT k hkr]
   rcases g3 t htm with ⟨j,oj,q1,q2,q3,q4⟩ | q
   ·have hjC : In C j:=dG h.cclosed k j q1 fun o' ho' e he hb=>h.cclosed k hkC o' ho' e he hb
    exact .inl ⟨j,oj,q1,q2,q3,by rw [hU j (fun e=>hn (e ▸ hjC))]; exact q4⟩
   ·exact .inr q
  ·unfold PF
   rw [hT k hkr,hU k hkr,hBk k hkr]
   rcases g4 with g | ⟨q1,q2,q3⟩ | ⟨g5,g6,ob,nv,b,g7,g8,g9,g10,g11,g12,g13⟩
   ·exact .inl g
   ·refine .inr (.inl ⟨q1,?_,q3⟩)
    cases hrd : eW ok (aev (I.T k)) with
    | false=>exact q2.still hrd
    | true =>
     have hm:=h.rd k ok hkC hkL hok q1 hrd
     rcases hst with he | hst
     ·rw [he]; exact q2
     rcases hst _ hm with hc | hc
     ·exact (hkL (hbL k hc)).elim
     ·exact hc
   ·have hold:=hstep.old b g10 g12
    refine .inr (.inr ⟨g5,g6,ob,nv,b,g7.still g6,g8,g9,Nat.lt_of_lt_of_le g10 hstep.more,g11,hold.1,hold.2.trans g13⟩)
 ·intro j k b hj hjn hk hkn hjk
  obtain ⟨hjr,hjC,hjL⟩:=pd j hj hjn
  obtain ⟨hkr,hkC,hkL⟩:=pd k hk hkn
  rw [hBk j hjr,hBk k hkr]
  exact h.bne j k b hjC hjL hkC hkL hjk
 ·intro k ok hk hkn hok hw hrd
  obtain ⟨hkr,hkC,hkL⟩:=pd k hk hkn
  rw [hT k hkr] at hw hrd ⊢
  rw [hU k hkr]
  exact h.rd k ok hkC hkL hok hw hrd
theorem Inv.heavyFin (hD : eU ops = true) (h : Inv P W ops n st0 ρ0 C st rds I L a w ρ) {r : Nat} {o : Oper} (hr : ops[r]? = some o) (hn : ¬ In C r) (hrC : ∀ e ∈ o.after,Region.binds .any e = true -> In C e.on)
  (hrL : ∀ e ∈ o.after,Region.binds .any e = true -> In L e.on) {st' : AS} (hst : st'.hp = st.hp ∨ ∀ rd ∈ rds,bN ops rd.i r = true ∨ LOk P st'.hp rd.o (aev rd.tm) (.val rd.v))
  (v v' : Value) (w' : World) (ρ' : Place) (ht : iZ n st.tm o.dst v = some st'.tm) (hv : VR ρ' v v') (hrel : Rel ρ' W st'.hp st'.nx w') (hstep : Step ρ ρ' st.hp st'.hp st.nx st'.nx) :
  ∃ ρ' I',Inv P W ops n st0 ρ0 (C.setIfInBounds r true) st' rds I' (L.setIfInBounds r true) (a.put o.dst v') w' ρ' :=
 h.heavyFinW rfl hD hr hn hrC hrL hst v v' w' ρ' ht hv hrel hstep
theorem Inv.heavy {call : iC} (hcall : pH P W call) (hD : eU ops = true) (h : Inv P W ops n st0 ρ0 C st rds I L a w ρ) {r : Nat} {o : Oper} (hr : ops[r]? = some o) (hn : ¬ In C r) (hrC : ∀ e ∈ o.after,Region.binds .any e = true -> In C e.on)
  (hrL : ∀ e ∈ o.after,Region.binds .any e = true -> In L e.on) {st' : AS} (hs : aC7 P call ops n st o = some st') (hst : rds.all (fun rd=>bN ops rd.i r || aE8 P st'.hp rd) = true) {Q : Exit -> Act -> World -> Prop} :
  wpOp P ops Q r (fun a' w'=>∃ ρ' I',Inv P W ops n st0 ρ0 (C.setIfInBounds r true) st' rds I' (L.setIfInBounds r true) a' w' ρ') a w:=by
 have hlk:=h.heavyLook hD hr hn hrC hrL
 obtain ⟨ev',he1,he2⟩:=kE hlk
 have hst' : ∀ rd ∈ rds,bN ops rd.i r = true ∨ LOk P st'.hp rd.o (aev rd.tm) (.val rd.v):=fun rd hm=>by
  have hc:=List.all_eq_true.1 hst _ hm
  simp only [Bool.or_eq_true] at hc
  refine hc.imp id fun hc=>?_
  unfold aE8 at hc
  split at hc
  ·rename_i v2 hv2
   rw [aRU hc]
   exact .inl hv2
  ·cases hc
 have fin:=h.heavyFin hD hr hn hrC hrL (st':=st') (.inr hst')
 unfold wpOp
 simp only [hr]
 unfold aC7 at hs
 split at hs
 ·rename_i hw
  rw [dL h.size hlk hw,if_pos rfl]
  split at hs
  case h_2=>cases hs
  rename_i v hp' nx' hv
  split at hs
  case h_2=>cases hs
  rename_i tm' ht
  cases hs
  rw [aHJ he2] at hv
  exact .inl (aBg hcall h.rel he1 hv fun v' w' ρ' g1 g2 g3=>fin v v' w' ρ' ht g1 g2 g3)
 ·rename_i hw
  rw [dL h.size hlk hw,if_neg (by simp)]
  split at hs
  case h_2=>cases hs
  rename_i tm' ht
  cases hs
  exact fin undef undef w ρ ht (cJ (by simp [undef,dK])) h.rel (.refl _ _ _)
 ·cases hs
end
end Go.Proofs.YtngginofamlkkaaGreatDoor

