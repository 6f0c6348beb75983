/-
  Put together out of several texts, each in its own namespace's block. Conditions: as each theorem states them.
-/
import Derived.Test.YtngginofamlkkaaGreatDoorQEvp
import Derived.Test.YtngginofamlkkaaGreatDoorProg
import Derived.Shelf.Slices.Clone
import Derived.Handy
import Derived.Below
import Derived.Laws.OwnMore
import Derived.Deep.AppendLies
import Derived.Deep.Draws
import Derived.Laws.Rows
import Derived.Lib.Hide
import Derived.Lib.SmallJoins
import Derived.Deep.Slices
import Derived.Deep.Fields
import Derived.ChangeSame
import Derived.ProofKit
import Derived.LaidMore
import Derived.OpenShut
import Derived.Stop.Joined
import Derived.Test.YtngginofamlkkaaGreatDoorChecked
noncomputable section
namespace Go.Proofs.YtngginofamlkkaaGreatDoor
open Go Go.RowKit
set_option maxRecDepth 100000
set_option maxHeartbeats 8000000
theorem Rel.later {ρ : Place} {W : Base} {hp : Tr AObj} {nx : Nat} {w w' : World} (h : Rel ρ W hp nx w) (hb : Below w.heap.size w w') : Rel ρ W hp nx w':=by
 have lt : ∀ {c : Nat} {ob : Obj},w.heap[c]? = some ob -> c < w.heap.size:=fun {c ob} hc=>by
  rcases Nat.lt_or_ge c w.heap.size with h' | h'
  ·exact h'
  ·rw [Array.getElem?_eq_none h'] at hc; cases hc
 refine ⟨fun b x hx=>⟨(h.dom b x hx).1,Nat.lt_of_lt_of_le (h.dom b x hx).2 hb.size⟩,fun b o c s z ho hx=>?_,h.inj,h.fresh,⟨hb.os.trans h.below.os,hb.tape.trans h.below.tape,hb.output.trans h.below.output,Nat.le_trans h.below.size hb.size,fun k hk=>?_⟩,fun c ob hc=>?_,h.apart,h.frn⟩
 ·obtain ⟨ob,e1,e2⟩:=h.obj b o c s z ho hx
  exact ⟨ob,by rw [hb.block c (lt e1)]; exact e1,e2⟩
 ·rw [hb.block k (Nat.lt_of_lt_of_le hk.1 h.below.size)]
  exact h.below.block k hk
 ·have:=h.frz c ob hc
  rw [hb.block c (lt this)]
  exact this
def nV (P : Program) (tab : List Ent) (next : bH) : bH:=fun f args hp nx K =>
 match aCr f tab with
 | some e=>match P.funcs[f]? with
  | some fn=>match xW P 0 fn.params.toList args hp with
   | some (us,hp',ob)=>bif us.all nl then ob /\ e.c us fun v=>Bool.rec (motive:=fun _=>Prop) (K v true hp' nx) (K v false hp nx) (dK v) else False
   | none=>False
  | none=>False
 | none=>next f args hp nx K
theorem mV {P : Program} {tab : List Ent} {next : bH} (ht : ∀ e ∈ tab,aZ P e) (hnx : aW P next) : aW P (nV P tab next):=by
 intro f args hp nx K h W ρ w args' hrel hargs
 unfold nV at h
 split at h
 case h_2=>exact hnx f args hp nx K h W ρ w args' hrel hargs
 rename_i e he
 obtain ⟨h1,rfl⟩:=rH he
 split at h
 case h_2=>exact h.elim
 split at h
 case h_2=>exact h.elim
 rename_i us hp' ob hf
 cases ha : us.all nl with
 | false=>rw [ha] at h; exact h.elim
 | true =>
  rw [ha,cond_true] at h
  obtain ⟨hob,hc⟩:=h
  obtain ⟨ρ1,g1,g2,g3,g4⟩:=pW hrel hargs hf hob
  have hargs1 : VRL ρ1 us args':=.of g3 fun i v v' a b=>VR0.lift (g4 i v v' a b)
  refine ((ht e h1 us _ hc).call ha g1 hargs1).mono ?_
  rintro e' w' ⟨v,v',ρ2,hK,rfl,q1,q2,q3,q4,q5⟩
  cases hcl : dK v with
  | true =>
   rw [hcl] at hK
   have e : v' = v:=rT hcl q1
   exact ⟨v,false,hp,nx,v',ρ,hK,fun _=>rfl,rfl,by rw [e]; exact cJ hcl,hrel.later q5,.refl _ _ _⟩
  | false =>
   rw [hcl] at hK
   exact ⟨v,true,hp',nx,v',ρ2,hK,fun e=>(by cases e),rfl,q1,q3,g2.trans q4⟩
class Enc (α : Type) where
 sz : Nat
 cells : α -> List Value
 len : ∀ a,(cells a).length = sz
 nl : ∀ a,NLs (cells a)
def elt : List Value -> Value
 | [v]=>v
 | l=>.agg l.toArray
theorem rY : ∀ {l : List Value},NLs l -> (elt l).cells = l.toArray
 | [],_=>rfl
 | [v],h=>by
  have:=h v (by simp)
  cases v <;> first | rfl | (simp [nl1] at this)
 | _ :: _ :: _,_=>rfl
def aB {α : Type} [Enc α] (l : List α) : Array Value:=(l.map fun a=>elt (Enc.cells a)).toArray
instance instEncList {α : Type} [Enc α] : Enc (List α) where
 sz:=1
 cells l:=[tree (Enc.sz α) l.length (aB l)]
 len _:=rfl
 nl l:=by intro v hv; simp at hv; subst hv; rfl
instance : Enc Int where
 sz:=1
 cells n:=[.int .i64 n]
 len _:=rfl
 nl n:=by intro v hv; simp at hv; subst hv; rfl
instance : Enc ByteArray where
 sz:=1
 cells s:=[.string s]
 len _:=rfl
 nl n:=by intro v hv; simp at hv; subst hv; rfl
instance : Enc Bool where
 sz:=1
 cells b:=[.bool b]
 len _:=rfl
 nl n:=by intro v hv; simp at hv; subst hv; rfl
instance {α β : Type} [Enc α] [Enc β] : Enc (α × β) where
 sz:=Enc.sz α + Enc.sz β
 cells p:=Enc.cells p.1 ++ Enc.cells p.2
 len p:=by rw [List.length_append,Enc.len,Enc.len]
 nl p:=by
  intro v hv
  rcases List.mem_append.1 hv with h | h
  ·exact Enc.nl p.1 v h
  ·exact Enc.nl p.2 v h
theorem aGi {α : Type} [Enc α] {l : List α} {i j : Nat} {a : α} (h : l[i]? = some a) : aA (aB l) i j = ((Enc.cells a)[j]?).getD undef:=by
 unfold aA aB
 simp [Array.getD_eq_getD_getElem?,h,rY (Enc.nl a)]
theorem bK {α : Type} [Enc α] {l : List α} {i j : Nat} (h : i < l.length) : aA (aB l) i j = ((Enc.cells l[i])[j]?).getD undef:=aGi (by simp)
theorem aQ (k : IntKind) (n : Int) : toI (.int k n) = n:=rfl
theorem uK (b : Bool) : toB (.bool b) = b:=rfl
theorem aP (s : ByteArray) : toS (.string s) = s:=rfl
theorem cH (sz n : Nat) (els : Array Value) : toN (tree sz n els) = n:=rfl
theorem cG (sz n : Nat) (els : Array Value) : toE (tree sz n els) = els:=rfl
abbrev OkP (f : FuncId) (na : List Value) (r : Nat) (Post : Value -> Prop) (st : AS) : Prop:=wT Tryz.prog f na Post (lpC Tryz.prog f r) (lpK Tryz.prog f r) st
abbrev HP (H : HT) (f r : Nat) : AS -> Prop:=H (lpC Tryz.prog f r) (lpK Tryz.prog f r)
theorem mixed : Tryz.prog.follows .mixedOrders = true:=by kernel_rfl
end Go.Proofs.YtngginofamlkkaaGreatDoor
noncomputable section
namespace Go.Proofs.YtngginofamlkkaaGreatDoor
open Go Go.RowKit Go.Shelf Go.Lib
set_option maxRecDepth 100000
def wL (nm : String) (ρ : Ren) : Func:={ Body2.n15 ρ with name:=nm,targs:=#[ρ.t 22,ρ.t 3] }
theorem pO (nm : String) (ρ : Ren) : (wL nm ρ).ntmps = 8:=Body2.n15_ntmps ρ
structure CloneT (P : Program) (nm : String) (ρ : Ren) (i0 : TypeInfo) (z : Value) (sz bytes : Nat) : Prop where
 mixed : P.follows .mixedOrders = true
 f15 : P.funcs[ρ.f 15]? = some (wL nm ρ)
 t4 : P.underlying (ρ.t 4) = some (TypeDesc.bool)
 a4 : ∀ w,(isAgg (ρ.t 4)).run P w = .ok false w
 z4 : ∀ w,(Go.sizeOf (ρ.t 4)).run P w = .ok 1 w
 v4 : ∀ w,(zeroValue (ρ.t 4)).run P w = .ok (Value.bool false) w
 t22 : P.underlying (ρ.t 22) = some (TypeDesc.slice (ρ.t 3))
 a22 : ∀ w,(isAgg (ρ.t 22)).run P w = .ok false w
 z22 : ∀ w,(Go.sizeOf (ρ.t 22)).run P w = .ok 1 w
 v22 : ∀ w,(zeroValue (ρ.t 22)).run P w = .ok (Value.slice none 0 0) w
 hi : P.info? (ρ.t 3) = some i0
 hz0 : i0.zero = some z
 hz1 : i0.size = sz
 hz2 : i0.bytes = bytes
 hzc : z.cells.size = sz
 z3 : ∀ w,(Go.sizeOf (ρ.t 3)).run P w = .ok sz w
 pos : 0 < sz
 bpos : 0 < bytes
def oZ (P : Program) (f : FuncId) (sz bytes : Nat) : Prop:=∀ (a : Option Addr) (n c : Nat) (cells : List Value) (w : World),cells.length = n * sz -> n * bytes <= 140737488355328 ->
 (∀ (j : Nat) (u : Value),cells[j]? = some u -> ∃ ad,a = some ad /\ w.cell? (ad.add j) = some u) -> (∀ u ∈ cells,u.oneCell' = true) ->
 Calls P f #[.slice a n c] w fun e w'=>∃ v',e = .returned v' /\ Below w.heap.size w w' /\ ((n = 0 /\ ∃ a' c',v' = .slice a' 0 c') ∨ (0 < n /\ ∃ t,w'.ownsRow w.heap.size t sz v' n cells))
section
variable {P : Program} {nm : String} {ρ : Ren} {i0 : TypeInfo} {z : Value} {sz bytes : Nat}
set_option maxHeartbeats 2000000 in
theorem aJQ (L : CloneT P nm ρ i0 z sz bytes) (ad : Addr) (n c : Nat) (cells : List Value) (w : World) (hlen : cells.length = n * sz) (hbig : n * bytes <= 140737488355328)
  (hc : ∀ (j : Nat) (u : Value),cells[j]? = some u -> w.cell? (ad.add j) = some u) (h1 : ∀ u ∈ cells,u.oneCell' = true) :
  Calls P (ρ.f 15) #[.slice (some ad) n c] w fun e w'=>∃ v',e = .returned v' /\ w'.ownsRow w.heap.size (ρ.t 3) sz v' n cells /\ Below w.heap.size w w':=by
 have mixed:=L.mixed; have t4:=L.t4; have a4:=L.a4; have z4:=L.z4; have v4:=L.v4; have t22:=L.t22; have a22:=L.a22; have z22:=L.z22; have v22:=L.v22
 have hi:=L.hi; have hz0:=L.hz0; have hz1:=L.hz1; have hz2:=L.hz2; have hzc:=L.hzc; have pos:=L.pos; have z3:=L.z3
 have room : (0 + n) * bytes <= 140737488355328:=by
  rw [Nat.zero_add]
  exact hbig
 have hn : n <= 140737488355328:=Nat.le_trans (Nat.le_mul_of_pos_right n L.bpos) hbig
 have q22 : ∀ (w : World) (a : Option Addr) (n c n' c' : Nat),(binOp .eql (ρ.t 22) (.slice a n c) (.slice none n' c')).run P w = .ok (.bool a.isNone) w:=fun w a n c n' c'=>Lib.run_eql_slice_nil w _ _ a n c n' c' L.t22
 have u22 : ∀ w,Sem.run P (underlying (ρ.t 22)) w = .ok (TypeDesc.slice (ρ.t 3)) w:=run_underlying t22
 have A : Aside (∀ (j : Nat) (u : Value),cells[j]? = some u -> w.cell? (ad.add j) = some u):=hc
 have B : Aside (∀ u ∈ cells,u.oneCell' = true):=h1
 clear hc h1
 go_enter L.f15,pO nm ρ
 go_wp2_with (at_builtin; refine wpList_append_own _ rfl _ _ (ρ.t 22) rfl w.heap.size (ρ.t 3) i0 z sz bytes t22 hi hz0 hz1 hz2 hzc pos _ _ _ rfl (World.ownsRow_made w #[] 0 (Nat.le_refl _) (Nat.zero_le _) (by simp)) ad n c cells rfl ?qc1 ?qc2 ?qc3 ?qc4 ?qc5 ?qc6 ?_)
 case qc1=>exact hlen
 case qc2 =>
  intro j u hj
  exact Lib.cell?_alloc_some _ (A.out j u hj)
 case qc3=>exact B.out
 case qc4=>unfold maxLen; omega
 case qc5=>exact room
 case qc6=>simp
 intro v' w1 hown hgrow hnil
 go_wp2
 go_ret
 refine ⟨v',rfl,by simpa using hown,?_⟩
 exact ((Below.refl _ w).alloc (Nat.le_refl _) _).grown hgrow (by simp) (by intro k hk; simp [Value.ownBlock] at hk; omega)
set_option maxHeartbeats 1000000 in
theorem aKA (L : CloneT P nm ρ i0 z sz bytes) (n c : Nat) (w : World) :
  Calls P (ρ.f 15) #[.slice none n c] w fun e w'=>e = .returned (.slice none 0 0) /\ w' = w:=by
 have mixed:=L.mixed; have t4:=L.t4; have a4:=L.a4; have z4:=L.z4; have v4:=L.v4; have t22:=L.t22; have a22:=L.a22; have z22:=L.z22; have v22:=L.v22
 have q22 : ∀ (w : World) (a : Option Addr) (n c n' c' : Nat),(binOp .eql (ρ.t 22) (.slice a n c) (.slice none n' c')).run P w = .ok (.bool a.isNone) w:=fun w a n c n' c'=>Lib.run_eql_slice_nil w _ _ a n c n' c' L.t22
 go_enter L.f15,pO nm ρ
 go_wp2
 go_ret
 exact ⟨rfl,rfl⟩
theorem aFR {w : World} {b : Nat} {t : TypeId} {v : Value} {cells : List Value} (h : w.ownsRow b t sz v 0 cells) : ∃ a' c',v = .slice a' 0 c':=by
 obtain ⟨_,hown⟩:=h
 rcases hown with ⟨rfl,_⟩ | ⟨g,cap',cur,rfl,_⟩
 ·exact ⟨_,_,rfl⟩
 ·exact ⟨_,_,rfl⟩
theorem aNe (L : CloneT P nm ρ i0 z sz bytes) : oZ P (ρ.f 15) sz bytes:=by
 intro a n c cells w hlen hn hc h1
 cases a with
 | none =>
  have h0 : n = 0:=by
   cases n with
   | zero=>rfl
   | succ n =>
    have:=L.pos
    have hl : 0 < cells.length:=by
     rw [hlen,Nat.succ_mul]
     omega
    obtain ⟨ad,e,_⟩:=hc 0 _ (List.getElem?_eq_getElem hl)
    cases e
  subst h0
  refine (aKA L 0 c w).mono ?_
  rintro e w' ⟨rfl,rfl⟩
  exact ⟨_,rfl,Below.refl _ _,.inl ⟨rfl,_,_,rfl⟩⟩
 | some ad =>
  refine (aJQ L ad n c cells w hlen hn (fun j u hj=>?_) h1).mono ?_
  ·obtain ⟨_,e,h⟩:=hc j u hj
   cases e
   exact h
  ·rintro e w' ⟨v',rfl,ho,hb⟩
   refine ⟨v',rfl,hb,?_⟩
   rcases Nat.eq_zero_or_pos n with rfl | hp
   ·exact .inl ⟨rfl,aFR ho⟩
   ·exact .inr ⟨hp,_,ho⟩
end
end Go.Proofs.YtngginofamlkkaaGreatDoor

noncomputable section
namespace Go.Proofs.YtngginofamlkkaaGreatDoor
open Go Go.RowKit
set_option maxRecDepth 100000
set_option maxHeartbeats 8000000
theorem aPc {fr : Nat -> Option Obj} {v v' : Value} (h : nl1 v = true) (hv : VR0 fr v v') : v'.oneCell' = true:=by
 cases hv <;> first | rfl | cases h
theorem aFK {ρ : Place} {W : Base} {hp : Tr AObj} {nx : Nat} {w : World} (hrel : Rel ρ W hp nx w) {sz n : Nat} {els : Array Value} {x' : Value} (hx : VR ρ (tree sz n els) x') :
  ∃ (a : Option Addr) (cap : Nat) (cells : List Value),x' = .slice a n cap /\ els.size = n /\ cells.length = n * sz /\ (∀ (j : Nat) (u : Value),cells[j]? = some u -> ∃ ad,a = some ad /\ w.cell? (ad.add j) = some u) /\
   (∀ (i : Nat) (u : Value),els[i]? = some u -> u.cells.size = sz) /\ ∀ (i j : Nat) (u v v' : Value),els[i]? = some u -> u.cells[j]? = some v -> cells[i * sz + j]? = some v' -> VR0 ρ.fr v v':=by
 cases hx with
 | @tree _ _ cap c o _ cs t fz hb h1 h2 h3 h4 h5 =>
  have hheap:=hrel.frz c _ hb
  have hl : ((cs.toList.drop o).take (n * sz)).length = n * sz:=by
   rw [List.length_take,List.length_drop,Array.length_toList]
   omega
  have get : ∀ (j : Nat) (u : Value),((cs.toList.drop o).take (n * sz))[j]? = some u -> cs[o + j]? = some u:=fun j u hj=>by
   have hlt : j < n * sz:=by
    rcases Nat.lt_or_ge j (n * sz) with h | h
    ·exact h
    ·rw [List.getElem?_eq_none (by omega)] at hj; cases hj
   rw [List.getElem?_take,if_pos hlt,List.getElem?_drop,Array.getElem?_toList] at hj
   exact hj
  refine ⟨_,cap,_,rfl,h1,hl,fun j u hj=>⟨_,rfl,?_⟩,h4,fun i j u v v' hu hv hv'=>h5 i j u v v' hu hv ?_⟩
  ·have e:=get j u hj
   have ha : (⟨c,o,none⟩ : Addr).add j = ⟨c,o + j,none⟩:=by
    unfold Addr.add
    split
    ·rename_i h0
     subst h0
     rfl
    ·rfl
   rw [ha]
   unfold World.cell?
   dsimp only
   rw [hheap]
   exact e
  ·rw [Nat.add_assoc]
   exact get _ _ hv'
 | treeNil _ a cap =>
  refine ⟨a,cap,[],rfl,rfl,by simp,fun j u hj=>by simp at hj,fun i u hu=>by simp at hu,fun i j u v v' hu=>by simp at hu⟩
theorem aCi {fr : Nat -> Option Obj} {sz n : Nat} {els : Array Value} {cells : List Value} (he : els.size = n) (hlen : cells.length = n * sz) (h4 : ∀ (i : Nat) (u : Value),els[i]? = some u -> u.cells.size = sz)
  (h5 : ∀ (i j : Nat) (u v v' : Value),els[i]? = some u -> u.cells[j]? = some v -> cells[i * sz + j]? = some v' -> VR0 fr v v') (hnl : ∀ (i j : Nat) (u v : Value),els[i]? = some u -> u.cells[j]? = some v -> nl1 v = true) : ∀ u ∈ cells,u.oneCell' = true:=fun x hx=>by
 obtain ⟨m,hm,rfl⟩:=List.mem_iff_getElem.1 hx
 have hsz : 0 < sz:=by
  rcases Nat.eq_zero_or_pos sz with h | h
  ·rw [h,Nat.mul_zero] at hlen; omega
  ·exact h
 have hi : m / sz < els.size:=by
  rw [he,Nat.div_lt_iff_lt_mul hsz]
  omega
 have hj:=Nat.mod_lt m hsz
 have hu : els[m / sz]? = some els[m / sz]:=Array.getElem?_eq_getElem hi
 have hs:=h4 _ _ hu
 have hv : (els[m / sz]).cells[m % sz]? = some ((els[m / sz]).cells[m % sz]'(by omega)):=Array.getElem?_eq_getElem (by omega)
 refine aPc (hnl _ _ _ _ hu hv) (h5 _ _ _ _ _ hu hv ?_)
 have e : m / sz * sz + m % sz = m:=by rw [Nat.mul_comm]; exact Nat.div_add_mod m sz
 rw [e]
 exact List.getElem?_eq_getElem hm
def aA8 (α : Type) [Enc α] (bytes : Nat) (args : List Value) (Post : Value -> Prop) : Prop:=∃ l : List α,args = [tree (Enc.sz α) l.length (aB l)] /\ l.length * bytes <= 140737488355328 /\ Post (tree (Enc.sz α) l.length (aB l))
theorem aMc {α : Type} [Enc α] {l : List α} {i : Nat} {u : Value} (h : (aB l)[i]? = some u) : ∃ b,l[i]? = some b /\ u = elt (Enc.cells b):=by
 unfold aB at h
 simp only [List.getElem?_toArray,List.getElem?_map,Option.map_eq_some_iff] at h
 obtain ⟨b,h1,h2⟩:=h
 exact ⟨b,h1,h2.symm⟩
theorem aOx {α : Type} [Enc α] {l : List α} {i j : Nat} {u v : Value} (h : (aB l)[i]? = some u) (hv : u.cells[j]? = some v) : nl1 v = true:=by
 obtain ⟨b,_,rfl⟩:=aMc h
 rw [rY (Enc.nl b),List.getElem?_toArray] at hv
 exact Enc.nl b v (List.mem_of_getElem? hv)
theorem aKb {ρ : Place} {W : Base} {w w' : World} (h : Rel ρ W .e 0 w') {g : Nat} {ob : Obj} (hg : w.heap.size <= g) (hw : W.w.heap.size <= w.heap.size) (hf : ∀ x,ρ.fr g = some x -> False) (ho : w'.heap[g]? = some ob) :
  Rel (ρ.freeze g ob) W .e 0 w' /\ (ρ.freeze g ob).fr g = some ob /\ StepG 0 ρ (ρ.freeze g ob):=by
 have hn : ρ.fr g = none:=by
  cases hx : ρ.fr g with
  | none=>rfl
  | some x=>exact (hf x hx).elim
 have key : ∀ c x,(ρ.freeze g ob).fr c = some x -> ρ.fr c = some x ∨ (c = g /\ x = ob):=fun c x hc=>by
  have hc : (match ρ.fr c with | some o=>some o | none=>if c = g then some ob else none) = some x:=hc
  cases hx : ρ.fr c with
  | some y=>rw [hx] at hc; exact .inl hc
  | none =>
   rw [hx] at hc
   dsimp only at hc
   split at hc
   ·cases hc; exact .inr ⟨by assumption,rfl⟩
   ·cases hc
 have gg : (ρ.freeze g ob).fr g = some ob:=by
  show (match ρ.fr g with | some o=>some o | none=>if g = g then some ob else none) = _
  rw [hn]
  dsimp only
  rw [if_pos rfl]
 have le : ∀ c x,ρ.fr c = some x -> (ρ.freeze g ob).fr c = some x:=fun c x hc=>by
  show (match ρ.fr c with | some o=>some o | none=>if c = g then some ob else none) = _
  rw [hc]
 have he : ∀ b,(Tr.e : Tr AObj).get b = none:=fun b=>by simp [Tr.get]
 refine ⟨⟨h.dom,fun b o c s z hb=>(by rw [he] at hb; cases hb),fun b b' x x' o o' hb=>(by rw [he] at hb; cases hb),h.fresh,h.below,fun c x hc=>?_,fun b o c s z hb=>(by rw [he] at hb; cases hb),fun c x hc=>?_⟩,gg,⟨fun b x hb=>by omega,le⟩⟩
 ·rcases key c x hc with h1 | ⟨rfl,rfl⟩
  ·exact h.frz c x h1
  ·exact ho
 ·rcases key c x hc with h1 | ⟨rfl,rfl⟩
  ·exact h.frn c x h1
  ·exact .inr fun ho=>by have:=ho.1; omega
theorem aKR {α : Type} [Enc α] {bytes : Nat} {P : Program} {f : FuncId} (hf : oZ P f (Enc.sz α) bytes) : aZ P ⟨f,aA8 α bytes⟩:=by
 rintro args Post ⟨l,rfl,hl,h⟩
 intro W ρ w args' hrel hargs
 cases hargs with
 | cons hv hnil =>
 cases hnil
 obtain ⟨a,cap,cells,rfl,h1,hlen,hcell,h4,h5⟩:=aFK hrel hv
 refine (hf a l.length cap cells w hlen hl hcell (aCi h1 hlen h4 h5 fun i j u v hu hv=>aOx hu hv)).mono ?_
 rintro e w' ⟨v',rfl,hb,hr⟩
 have hr1:=hrel.later hb
 rcases hr with ⟨h0,a',c',rfl⟩ | ⟨h0,t,_,hown⟩
 ·have l0 : l = []:=List.eq_nil_of_length_eq_zero h0
  subst l0
  exact ⟨_,.e,0,_,ρ,h,rfl,.treeNil _ _ _,hr1,.refl _ _⟩
 ·rcases hown with ⟨_,h00⟩ | ⟨g,cap',cur,rfl,hg,hcur,hn,hcap,hsz,htk⟩
  ·omega
  obtain ⟨r1,r2,r3⟩:=aKb hr1 hg hrel.below.size (fun x hx=>by
   have:=hrel.frz g x hx
   rw [Array.getElem?_eq_none hg] at this
   cases this) hcur
  have hcs : l.length * Enc.sz α <= cur.size:=by rw [hsz]; exact Nat.mul_le_mul_right _ hn
  refine ⟨tree (Enc.sz α) l.length (aB l),.e,0,_,_,h,rfl,VR0.tree r2 h1 hn (by omega) h4 (fun i j u v v' hu hv hv'=>?_),r1,r3⟩
  refine VR0.mono (fun c x hc=>r3.2 c x hc) (h5 i j u v v' hu hv ?_)
  have hi : i < l.length:=by
   rw [← h1]
   exact (Array.getElem?_eq_some_iff.1 hu).1
  have hj : j < Enc.sz α:=by
   rw [← h4 i u hu]
   exact (Array.getElem?_eq_some_iff.1 hv).1
  have hlt : i * Enc.sz α + j < l.length * Enc.sz α:=by
   have:=Nat.mul_le_mul_right (Enc.sz α) (show i + 1 <= l.length by omega)
   rw [Nat.succ_mul] at this
   omega
  rw [← htk,List.getElem?_take,if_pos hlt,Array.getElem?_toList]
  rw [Nat.zero_add] at hv'
  exact hv'
def zF (f : FuncId) : List (FuncId × Nat × Nat) -> Option (Nat × Nat)
 | []=>none
 | (g,sz) :: l=>bif Nat.beq f g then some sz else zF f l
theorem xV {f : FuncId} {sz : Nat × Nat} : ∀ {l : List (FuncId × Nat × Nat)},zF f l = some sz -> (f,sz) ∈ l
 | [],h=>by cases h
 | (g,s) :: l,h=>by
  unfold zF at h
  cases hb : Nat.beq f g with
  | true =>
   rw [hb,cond_true] at h
   cases h
   have : f = g:=Nat.eq_of_beq_eq_true hb
   subst this
   simp
  | false =>
   rw [hb,cond_false] at h
   exact List.mem_cons_of_mem _ (xV h)
def kC (els : Array Value) : List Value:=els.toList.flatMap fun u=>u.cells.toList
theorem aC9 {sz : Nat} : ∀ {l : List Value} {m : Nat} {v : Value},(∀ u ∈ l,u.cells.size = sz) -> (l.flatMap fun u=>u.cells.toList)[m]? = some v -> ∃ i u j,l[i]? = some u /\ u.cells[j]? = some v /\ m = i * sz + j
 | [],m,v,_,h=>by simp at h
 | a :: l,m,v,hl,h=>by
  rw [List.flatMap_cons] at h
  have ha:=hl a (by simp)
  rcases Nat.lt_or_ge m sz with hm | hm
  ·rw [List.getElem?_append_left (by rw [Array.length_toList]; omega)] at h
   exact ⟨0,a,m,rfl,by simpa using h,by omega⟩
  ·rw [List.getElem?_append_right (by rw [Array.length_toList]; omega),Array.length_toList,ha] at h
   obtain ⟨i,u,j,h1,h2,h3⟩:=aC9 (fun u hu=>hl u (by simp [hu])) h
   exact ⟨i + 1,u,j,by simpa using h1,h2,by rw [Nat.succ_mul]; omega⟩
theorem aCw {sz : Nat} : ∀ {l : List Value},(∀ u ∈ l,u.cells.size = sz) -> (l.flatMap fun u=>u.cells.toList).length = l.length * sz
 | [],_=>by simp
 | a :: l,hl=>by
  rw [List.flatMap_cons,List.length_append,Array.length_toList,hl a (by simp),aCw fun u hu=>hl u (by simp [hu]),List.length_cons,Nat.succ_mul]
  omega
def wS (tab : List (FuncId × Nat × Nat)) (next : bH) : bH:=fun f args hp nx K =>
 match zF f tab with
 | some (sz,bytes)=>match args with
  | [.func (.via sz' p n false) els c]=>bif Nat.beq sz sz' && (p.isEmpty && c.isEmpty) then (n * bytes <= 140737488355328 /\ NLs (kC els)) /\ (n = 0 -> K (tree sz 0 #[]) false hp nx) /\ (0 < n -> K (.slice (some ⟨nx,0,none⟩) n sz) true (hp.put nx (some (.cells (kC els) true))) (nx + 1)) else False
  | _=>False
 | none=>next f args hp nx K
theorem aDr {P : Program} {tab : List (FuncId × Nat × Nat)} {next : bH} (ht : ∀ e ∈ tab,oZ P e.1 e.2.1 e.2.2) (hnx : aW P next) : aW P (wS tab next):=by
 intro f args hp nx K h W ρ w args' hrel hargs
 unfold wS at h
 split at h
 case h_2=>exact hnx f args hp nx K h W ρ w args' hrel hargs
 rename_i sz bytes he
 have hf : oZ P f sz bytes:=ht _ (xV he)
 split at h
 case h_2=>exact h.elim
 rename_i sz' p n els c
 cases hb : Nat.beq sz sz' && (p.isEmpty && c.isEmpty) with
 | false=>rw [hb] at h; exact h.elim
 | true =>
  rw [hb,cond_true] at h
  simp only [Bool.and_eq_true] at hb
  obtain ⟨e1,e2,e3⟩:=hb
  have e1 : sz = sz':=Nat.eq_of_beq_eq_true e1
  subst e1
  have e2 : p = #[]:=Array.isEmpty_iff.1 e2
  have e3 : c = #[]:=Array.isEmpty_iff.1 e3
  subst e2 e3
  obtain ⟨⟨hn,hnl⟩,hK0,hK1⟩:=h
  cases hargs with
  | cons hv hnil =>
  cases hnil
  obtain ⟨a,cap,cells,rfl,h1,hlen,hcell,h4,h5⟩:=aFK hrel hv
  have hnl2 : ∀ (i j : Nat) (u v : Value),els[i]? = some u -> u.cells[j]? = some v -> nl1 v = true:=fun i j u v hu hv=>hnl v (by
   unfold kC
   rw [List.mem_flatMap]
   exact ⟨u,by rw [← Array.getElem?_toList] at hu; exact List.mem_of_getElem? hu,by rw [← Array.getElem?_toList] at hv; exact List.mem_of_getElem? hv⟩)
  have hsz4 : ∀ u ∈ els.toList,u.cells.size = sz:=fun u hu=>by
   obtain ⟨i,hi,rfl⟩:=List.mem_iff_getElem.1 hu
   exact h4 i _ (by rw [← Array.getElem?_toList]; exact List.getElem?_eq_getElem hi)
  refine (hf a n cap cells w hlen hn hcell (aCi h1 hlen h4 h5 hnl2)).mono ?_
  rintro e w' ⟨v',rfl,hb,hr⟩
  rcases hr with ⟨h0,a',c',rfl⟩ | ⟨h0,t,_,hown⟩
  ·exact ⟨_,false,hp,nx,_,ρ,hK0 h0,fun _=>rfl,rfl,.treeNil _ _ _,hrel.later hb,.refl _ _ _⟩
  rcases hown with ⟨_,h00⟩ | ⟨g,cap',cur,rfl,hg,hcur,hcn,hcap,hcsz,htk⟩
  ·omega
  have hsz : w.heap.size <= w'.heap.size:=hb.size
  have lt : ∀ {c : Nat} {ob : Obj},w.heap[c]? = some ob -> c < w.heap.size:=fun {c ob} hc=>by
   rcases Nat.lt_or_ge c w.heap.size with h' | h'
   ·exact h'
   ·rw [Array.getElem?_eq_none h'] at hc; cases hc
  have old : ∀ c,c < w.heap.size -> w'.heap[c]? = w.heap[c]?:=fun c hc=>hb.block c hc
  have hgl : g < w'.heap.size:=by
   rcases Nat.lt_or_ge g w'.heap.size with h' | h'
   ·exact h'
   ·rw [Array.getElem?_eq_none h'] at hcur; cases hcur
  have hno : ρ.pl nx = none:=hrel.dom_none
  let ρ' : Place:=⟨fun k=>if k = nx then some (g,0,cur.size) else ρ.pl k,ρ.fr,ρ.gl⟩
  have hle : ρ.le ρ':=⟨fun k x hk=>by
   show (if k = nx then _ else _) = _
   rw [if_neg (by intro e; rw [e,hno] at hk; cases hk)]
   exact hk,fun c x hc=>hc⟩
  have pl_nx : ρ'.pl nx = some (g,0,cur.size):=by show (if nx = nx then _ else _) = _; rw [if_pos rfl]
  have pl_other : ∀ k,k ≠ nx -> ρ'.pl k = ρ.pl k:=fun k hk=>by show (if k = nx then _ else _) = _; rw [if_neg hk]
  have hget : ∀ k,k ≠ nx -> (hp.put nx (some (.cells (kC els) true))).get k = hp.get k:=fun k hk=>by rw [Tr.get_put,if_neg hk]
  have hgetn : (hp.put nx (some (.cells (kC els) true))).get nx = some (.cells (kC els) true):=by rw [Tr.get_put,if_pos rfl]
  have hfl : (kC els).length = n * sz:=by
   unfold kC
   rw [aCw hsz4,Array.length_toList,h1]
  have hcs : n * sz <= cur.size:=by rw [hcsz]; exact Nat.mul_le_mul_right _ hcn
  refine ⟨_,true,_,_,_,ρ',hK1 h0,fun e=>(by cases e),rfl,VR.slice (ρ:=ρ') (s:=0) (o:=0) pl_nx hcn (by rw [hcsz]; omega),?_,⟨hle,Nat.le_succ _,fun k hk hn=>⟨by rw [pl_other k (by omega)]; exact hn,hget k (by omega)⟩⟩⟩
  refine ⟨fun k x hk=>?_,fun k o' c' s' z' ho hk=>?_,fun k k' x x' o1 o2 g1 g2 hk hk' hxx=>?_,fun k hk=>?_,⟨hb.os.trans hrel.below.os,hb.tape.trans hrel.below.tape,hb.output.trans hrel.below.output,Nat.le_trans hrel.below.size hsz,fun k hk=>?_⟩,fun c ob hc=>?_,fun k o' c' s' z' ho hw hk=>?_,hrel.frn⟩
  ·by_cases e : k = nx
   ·subst e
    rw [pl_nx] at hk
    cases hk
    exact ⟨by omega,hgl⟩
   ·rw [pl_other k e] at hk
    exact ⟨by have:=(hrel.dom k x hk).1; omega,Nat.lt_of_lt_of_le (hrel.dom k x hk).2 hsz⟩
  ·by_cases e : k = nx
   ·subst e
    rw [hgetn] at ho
    cases ho
    rw [pl_nx] at hk
    cases hk
    refine ⟨.cells cur t (0,0),hcur,rfl,by rw [Nat.zero_add,hfl]; exact hcs,fun o _=>by simp,fun m v hm=>?_,fun _ ho=>?_⟩
    ·obtain ⟨i,u,j,q1,q2,rfl⟩:=aC9 hsz4 hm
     have hlt : i * sz + j < n * sz:=by
      have:=(List.getElem?_eq_some_iff.1 hm).1
      have e3 : (List.flatMap (fun u : Value=>u.cells.toList) els.toList).length = n * sz:=hfl
      omega
     rw [Array.getElem?_toList] at q1
     have hc : cells[i * sz + j]? = some (cells[i * sz + j]'(by omega)):=List.getElem?_eq_getElem _
     refine ⟨_,?_,VR0.lift (ρ:=ρ') (h5 i j u v _ q1 q2 hc)⟩
     have e0 : ∀ m : Nat,cur[0 + m]? = cur[m]?:=fun m=>by rw [Nat.zero_add]
     have e1 : cells[i * sz + j]? = cur[i * sz + j]?:=by rw [← htk,List.getElem?_take,if_pos hlt,Array.getElem?_toList]
     exact (e0 _).trans (e1.symm.trans hc)
    ·have:=hrel.below.size
     have:=ho.1
     omega
   ·rw [hget k e] at ho
    rw [pl_other k e] at hk
    obtain ⟨ob,q1,q2⟩:=hrel.obj k o' c' s' z' ho hk
    exact ⟨ob,by rw [old c' (lt q1)]; exact q1,q2.mono hle⟩
  ·by_cases e : k = nx
   ·by_cases e' : k' = nx
    ·rw [e,e']
    ·subst e
     rw [pl_nx] at hk
     cases hk
     rw [pl_other k' e'] at hk'
     have:=(hrel.dom k' x' hk').2
     simp only at hxx
     omega
   ·by_cases e' : k' = nx
    ·subst e'
     rw [pl_nx] at hk'
     cases hk'
     rw [pl_other k e] at hk
     have:=(hrel.dom k x hk).2
     simp only at hxx
     omega
    ·rw [hget k e] at g1
     rw [hget k' e'] at g2
     rw [pl_other k e] at hk
     rw [pl_other k' e'] at hk'
     exact hrel.inj k k' x x' o1 o2 g1 g2 hk hk' hxx
  ·rw [hget k (by omega)]
   exact hrel.fresh k (by omega)
  ·rw [old k (Nat.lt_of_lt_of_le hk.1 hrel.below.size)]
   exact hrel.below.block k hk
  ·have:=hrel.frz c ob hc
   rw [old c (lt this)]
   exact this
  ·by_cases e : k = nx
   ·subst e
    rw [pl_nx] at hk
    cases hk
    show ρ.fr _ = none
    cases hx : ρ.fr g with
    | none=>rfl
    | some y =>
     have:=lt (hrel.frz g y hx)
     omega
   ·rw [hget k e] at ho
    rw [pl_other k e] at hk
    exact hrel.apart k o' c' s' z' ho hw hk
structure CloneL (P : Program) (nm : String) (ρ : Shelf.Ren) (z : Value) (sz bytes : Nat) : Prop where
 mixed : P.follows .mixedOrders = true
 f15 : P.funcs[ρ.f 15]? = some (wL nm ρ)
 t4 : P.underlying (ρ.t 4) = some (TypeDesc.bool)
 a4 : ∀ w,(isAgg (ρ.t 4)).run P w = .ok false w
 z4 : ∀ w,(Go.sizeOf (ρ.t 4)).run P w = .ok 1 w
 v4 : ∀ w,(zeroValue (ρ.t 4)).run P w = .ok (Value.bool false) w
 t22 : P.underlying (ρ.t 22) = some (TypeDesc.slice (ρ.t 3))
 a22 : ∀ w,(isAgg (ρ.t 22)).run P w = .ok false w
 z22 : ∀ w,(Go.sizeOf (ρ.t 22)).run P w = .ok 1 w
 v22 : ∀ w,(zeroValue (ρ.t 22)).run P w = .ok (Value.slice none 0 0) w
 i3 : (P.info? (ρ.t 3)).map (fun i=>(i.zero,i.size,i.bytes)) = some (some z,sz,bytes)
 z3 : ∀ w,(Go.sizeOf (ρ.t 3)).run P w = .ok sz w
 ok : (z.cells.size.beq sz && (Nat.blt 0 sz && Nat.blt 0 bytes)) = true
theorem aAI {P : Program} {nm : String} {ρ : Shelf.Ren} {z : Value} {sz bytes : Nat} (L : CloneL P nm ρ z sz bytes) : oZ P (ρ.f 15) sz bytes:=by
 obtain ⟨i0,hi,hz0,hz1,hz2⟩:=info_parts L.i3
 have hok:=L.ok
 simp only [Bool.and_eq_true] at hok
 exact aNe (i0:=i0) (z:=z) ⟨L.mixed,L.f15,L.t4,L.a4,L.z4,L.v4,L.t22,L.a22,L.z22,L.v22,hi,hz0,hz1,hz2,Nat.eq_of_beq_eq_true hok.1,L.z3,Nat.lt_of_lt_of_le (Nat.succ_pos 0) (Nat.le_of_ble_eq_true hok.2.1),Nat.lt_of_lt_of_le (Nat.succ_pos 0) (Nat.le_of_ble_eq_true hok.2.2)⟩
theorem bA {n : Int} (h1 : -9223372036854775808 <= n) (h2 : n < 9223372036854775808) : IntKind.i64.wrap n = n:=by
 have e : IntKind.i64.wrap n = if (n % 18446744073709551616 : Int) >= 9223372036854775808 then n % 18446744073709551616 - 18446744073709551616 else n % 18446744073709551616:=by
  unfold IntKind.wrap
  simp [IntKind.signed,IntKind.bits]
 rw [e]
 split <;> omega
abbrev aH {α : Type} (l : List α) : Prop:=l.length < 2 ^ 62
theorem aQh {n : Nat} (h : n < 2 ^ 62) : IntKind.i64.wrap (n : Int) = n:=bA (by omega) (by omega)
theorem aJ {n : Nat} (h : n < 2 ^ 62) : IntKind.i64.wrap ((n : Int) + 1) = ((n + 1 : Nat) : Int):=by
 rw [bA (by omega) (by omega)]; omega
structure Pt where
 x : Int
 y : Int
 deriving DecidableEq
theorem Pt.ext' {p q : Pt} (h1 : p.x = q.x) (h2 : p.y = q.y) : p = q:=by
 cases p; cases q; cases h1; cases h2; rfl
instance : Inhabited Pt:=⟨⟨0,0⟩⟩
instance : Enc Pt where
 sz:=2
 cells p:=[.int .i64 p.x,.int .i64 p.y]
 len _:=rfl
 nl p:=by intro v hv; simp at hv; rcases hv with rfl | rfl <;> rfl
abbrev aR (l : List Pt) : Value:=tree 2 l.length (aB l)
theorem aPQ {l : List Pt} {i : Nat} (h : i < l.length) : aA (aB l) i 0 = .int .i64 l[i].x /\ aA (aB l) i 1 = .int .i64 l[i].y:=by
 rw [bK h,bK h]
 exact ⟨rfl,rfl⟩
abbrev eX (l : List (List Pt)) : Value:=tree 1 l.length (aB l)
theorem mA {l : List (List Pt)} {i : Nat} (h : i < l.length) : aA (aB l) i 0 = aR l[i]:=by
 rw [bK h]
 rfl
structure Vec3 where
 x : Int
 y : Int
 z : Int
 deriving DecidableEq
structure Part where
 id : ByteArray
 rev : Int
 kind : Int
 node : ByteArray
 grade : ByteArray
 thick : Int
 outer : List Pt
 holes : List (List Pt)
 sect : ByteArray
 long : Int
 mass : Int
 centre : Vec3
 at_ : Vec3
 turn : Int
 deriving DecidableEq
def fP (p : Part) : List Value:=[.string p.id,.int .i64 p.rev,.int .i64 p.kind,.string p.node,.string p.grade,.int .i64 p.thick,aR p.outer,eX p.holes,.string p.sect,.int .i64 p.long,.int .i64 p.mass,
 .int .i64 p.centre.x,.int .i64 p.centre.y,.int .i64 p.centre.z,.int .i64 p.at_.x,.int .i64 p.at_.y,.int .i64 p.at_.z,.int .i64 p.turn]
abbrev dX (p : Part) : Value:=.agg (fP p).toArray
abbrev dA (o : List Pt) (h : List (List Pt)) : Value:=.agg [aR o,eX h].toArray
theorem cS {p : Nat -> Prop} {n : Nat} (h0 : p n) (h : ∀ k,k < n -> p (k + 1) -> p k) : p 0:=by
 have : ∀ j k,k + j = n -> p k:=by
  intro j
  induction j with
  | zero=>intro k hk; rw [show k = n by omega]; exact h0
  | succ j ih=>intro k hk; exact h k (by omega) (ih (k + 1) (by omega))
 exact this n 0 (by omega)
def renCP : Shelf.Ren:=⟨fun x=>if x = 15 then 167 else x,fun x=>if x = 22 then 22 else if x = 3 then 53 else if x = 4 then 4 else x,fun x=>x⟩
theorem aR1 : CloneL Tryz.prog "slices.Clone[[]shipyard/api.Point,shipyard/api.Point]" renCP (.agg #[.int .i64 0,.int .i64 0]) 2 16 where
 mixed:=by kernel_rfl
 f15:=by kernel_rfl
 t4:=by kernel_rfl
 a4:=fun w=>by kernel_rfl
 z4:=fun w=>by kernel_rfl
 v4:=fun w=>by kernel_rfl
 t22:=by kernel_rfl
 a22:=fun w=>by kernel_rfl
 z22:=fun w=>by kernel_rfl
 v22:=fun w=>by kernel_rfl
 i3:=by kernel_rfl
 z3:=fun w=>by kernel_rfl
 ok:=by kernel_rfl
theorem aOj : oZ Tryz.prog 167 2 16:=aAI aR1
def renCH : Shelf.Ren:=⟨fun x=>if x = 15 then 168 else x,fun x=>if x = 22 then 23 else if x = 3 then 22 else if x = 4 then 4 else x,fun x=>x⟩
theorem aRt : CloneL Tryz.prog "slices.Clone[[][]shipyard/api.Point,[]shipyard/api.Point]" renCH (.slice none 0 0) 1 24 where
 mixed:=by kernel_rfl
 f15:=by kernel_rfl
 t4:=by kernel_rfl
 a4:=fun w=>by kernel_rfl
 z4:=fun w=>by kernel_rfl
 v4:=fun w=>by kernel_rfl
 t22:=by kernel_rfl
 a22:=fun w=>by kernel_rfl
 z22:=fun w=>by kernel_rfl
 v22:=fun w=>by kernel_rfl
 i3:=by kernel_rfl
 z3:=fun w=>by kernel_rfl
 ok:=by kernel_rfl
theorem aOZ : oZ Tryz.prog 168 1 24:=aAI aRt
theorem aKj : aZ Tryz.prog ⟨167,aA8 Pt 16⟩:=aKR aOj
end Go.Proofs.YtngginofamlkkaaGreatDoor
namespace Go.Proofs.YtngginofamlkkaaGreatDoor
open Go Go.RowKit
theorem tW (a : Addr) (n : Nat) : (a.add n).block = a.block:=by unfold Addr.add; split <;> rfl
theorem aHG (a : Addr) (i j : Nat) : (a.add i).add j = a.add (i + j):=by
 unfold Addr.add
 by_cases hi : i = 0 <;> by_cases hj : j = 0 <;> simp [hi,hj,Nat.add_assoc]
def Reads (w : World) (B size : Nat) (A : Option Addr) (n : Nat) (xs : List Value) : Prop :=
 xs.length = n * size /\ (0 < n -> ∃ ad,A = some ad /\ ad.block < B /\ ∀ j u,xs[j]? = some u -> w.cell? (ad.add j) = some u)
section
variable {w w' : World} {B B' size n : Nat} {A : Option Addr} {xs : List Value}
theorem Reads.at_ {k : Nat} (h : Reads w B 1 A n xs) (hk : k < n) : ∃ ad u,A = some ad /\ ad.block < B /\ xs[k]? = some u /\ w.cell? (ad.add k) = some u:=by
 obtain ⟨ad,e,hb,hc⟩:=h.2 (by omega)
 have hl : k < xs.length:=by have:=h.1; omega
 exact ⟨ad,xs[k],e,hb,List.getElem?_eq_getElem hl,hc k _ (List.getElem?_eq_getElem hl)⟩
theorem Reads.keep (h : Reads w B size A n xs) (hk : ∀ p : Addr,p.block < B -> w'.cell? p = w.cell? p) : Reads w' B size A n xs :=
 ⟨h.1,fun hn=>by
  obtain ⟨ad,e,hb,hc⟩:=h.2 hn
  exact ⟨ad,e,hb,fun j u hu=>(hk _ (by rw [tW]; exact hb)).trans (hc j u hu)⟩⟩
theorem Reads.more (h : Reads w B size A n xs) (hB : B <= B') : Reads w B' size A n xs :=
 ⟨h.1,fun hn=>by
  obtain ⟨ad,e,hb,hc⟩:=h.2 hn
  exact ⟨ad,e,by omega,hc⟩⟩
theorem Reads.below (h : Reads w B size A n xs) (hb : Below B w w') : Reads w' B size A n xs:=h.keep fun _ hp=>hb.cell hp
theorem Reads.drew (h : Reads w B size A n xs) : Reads w.drew B size A n xs:=h
theorem Reads.alloc (h : Reads w B size A n xs) (hB : B <= w.heap.size) (o : Obj) : Reads (w.alloc o) B size A n xs:=h.keep fun p hp=>World.cell?_alloc_lt w o p (by omega)
theorem Reads.setCell (h : Reads w B size A n xs) {p : Addr} (hB : B <= p.block) (u : Value) : Reads (w.setCell p u) B size A n xs :=
 h.keep fun q hq=>World.cell?_setCell_other w p q u (fun e=>by subst e; omega)
theorem Reads.grown (h : Reads w B size A n xs) {row : Option Nat} (hg : w.grownBy w' row) (hB : B <= w.heap.size) (hr : ∀ g,row = some g -> B <= g) : Reads w' B size A n xs :=
 h.keep fun p hp=>World.cell?_of_block (hg.block p.block (by omega) (fun e=>by have:=hr _ e.symm; omega))
theorem Reads.cut (h : Reads w B size A n xs) {k cap : Nat} (hk : k <= n) (hc : n <= cap) :
  Reads w B size (if cap = k then A else A.map (·.add (k * size))) (n - k) (xs.drop (k * size)):=by
 refine ⟨by rw [List.length_drop,h.1,Nat.sub_mul],fun hn=>?_⟩
 obtain ⟨ad,rfl,hb,hcell⟩:=h.2 (by omega)
 rw [if_neg (by omega)]
 refine ⟨ad.add (k * size),rfl,by rw [tW]; exact hb,fun j u hu=>?_⟩
 rw [aHG]
 exact hcell _ u (by rw [← hu,List.getElem?_drop])
theorem Reads.of_own {base : Nat} {e : TypeId} {c : Nat} (h : w.ownsRow base e size (.slice A n c) n xs) : Reads w w.heap.size size A n xs:=by
 refine ⟨h.1,fun hn=>?_⟩
 obtain ⟨g,cap,hv,_,hlt⟩:=h.form hn
 have hA : A = some ⟨g,0,none⟩:=by injection hv
 subst hA
 exact ⟨_,rfl,hlt,h.cells (g:=g) rfl⟩
end
def Blk (w : World) (g : Nat) (t : TypeId) (cs : Array Value) : Prop:=w.heap[g]? = some (.cells cs t (0,0))
section
variable {w w' : World} {g : Nat} {t : TypeId} {cs : Array Value}
theorem Blk.lt (h : Blk w g t cs) : g < w.heap.size:=by
 rcases Nat.lt_or_ge g w.heap.size with hlt | hge
 ·exact hlt
 ·unfold Blk at h; rw [Array.getElem?_eq_none hge] at h; cases h
theorem Blk.cell (h : Blk w g t cs) (i : Nat) : w.cell? ⟨g,i,none⟩ = cs[i]?:=cell_of_row w g i cs t (0,0) h
theorem Blk.frozen (h : Blk w g t cs) (i : Nat) : w.frozen? ⟨g,i,none⟩ = false:=by
 unfold Blk at h
 simp [World.frozen?,h]
theorem Blk.new (w : World) (t : TypeId) (cs : Array Value) : Blk (w.alloc (.cells cs t)) w.heap.size t cs:=heap_alloc_new w _
theorem Blk.drew (h : Blk w g t cs) : Blk w.drew g t cs:=h
theorem Blk.alloc (h : Blk w g t cs) (o : Obj) : Blk (w.alloc o) g t cs:=(Below.heap_alloc w o g h.lt).trans h
theorem Blk.far (h : Blk w g t cs) {p : Addr} (hp : g ≠ p.block) (u : Value) : Blk (w.setCell p u) g t cs:=(Below.heap_setCell w p u g hp).trans h
theorem Blk.below {B : Nat} (h : Blk w g t cs) (hb : Below B w w') (hg : g < B) : Blk w' g t cs:=(hb.block g hg).trans h
theorem Blk.grown {row : Option Nat} (h : Blk w g t cs) (hb : w.grownBy w' row) (hg : some g ≠ row) : Blk w' g t cs:=(hb.block g h.lt hg).trans h
end
end Go.Proofs.YtngginofamlkkaaGreatDoor

namespace Go.Proofs.YtngginofamlkkaaGreatDoor
open Go Go.RowKit Go.ChangeShapes Go.WideShapes Go.ChangeAt Go.Deep Go.Joins
section
variable {H : Type} {enc : TypeId × Value -> H} {P : Program} {w : World} {base : Nat} {spare : Nat -> Bool} {held : Bool}
theorem aBG {f : Func} {s : ChangeSpec} {apart fresh handsOn again : Bool} {W W' : World} {args : Array Value} {v : Value} {ds gs : List (DataW H)} {before pa pv : List MemPlace}
  (hW : DataW.Whole enc P f.params.toList s.vars apart W args.toList ds gs before)
  (hres : ∀ (b : Nat) (sp : Nat -> Bool) (hd : Bool),DataW.TrodAll enc P W' b sp hd f.resultTypes.toList (v.resultList f.resultTypes.size) (s.fn H (ds ++ gs)).results [])
  (hargs : ∀ sp : Nat -> Bool,(∀ p ∈ before,sp p.block = true) -> DataW.TrodAll enc P W' 0 sp true f.params.toList args.toList (s.fn H (ds ++ gs)).args pa)
  (hvars : ∀ sp : Nat -> Bool,(∀ p ∈ before,sp p.block = true) -> DataW.TrodVars enc P W' sp s.vars (s.fn H (ds ++ gs)).vars pv)
  (hps : before = pa ++ pv) (hb : Below W.heap.size W W')
  (hok : ∀ (j : Nat) (t : TypeId) (r : Value),f.resultTypes[j]? = some t -> (v.resultList f.resultTypes.size)[j]? = some r -> Value.okWide P W' .any 0 t r) :
  s.post enc P f apart fresh handsOn again W args v W':=by
 have hlt : ∀ p ∈ before,p.block < W.heap.size:=fun p hp=>hW.lt p hp
 have hold : ∀ p ∈ before,(fun b=>decide (b < W.heap.size)) p.block = true:=fun p hp=>by simpa using hlt p hp
 refine ⟨ds,gs,before,[],pa,pv,hW,hres _ _ _,hargs _ hold,hvars _ hold,World.keptBut_mono (fun p hp=>⟨hp,?_⟩) (hb.frame (· ∈ before)),fun _=>?_⟩
 ·rw [hps,List.mem_append] at hp
  exact Or.inr hp
 ·obtain ⟨_,_,_,_,_,hz,hn⟩:=hW
  refine ⟨hok,_,_,([] ++ pa) ++ pv,⟨[] ++ pa,pv,trodAll_append (hargs _ (fun _ _=>rfl)) (hres _ _ _),hvars _ (fun _ _=>rfl),rfl,?_,?_⟩,?_⟩
  ·intro b off hp
   have hin : MemPlace.cell b off ∈ before:=by rw [hps]; simpa using hp
   rw [hb.frozen (hlt _ hin)]
   exact hz b off hin
  ·intro ha
   have:=hn ha
   rw [hps] at this
   simpa using this
  ·intro p hp _
   rw [hps]
   simpa using hp
end
end Go.Proofs.YtngginofamlkkaaGreatDoor

noncomputable section
namespace Go.Proofs.YtngginofamlkkaaGreatDoor
open Go Go.RowKit Go.ChangeShapes Go.WideShapes Go.ChangeAt Go.Deep Go.Joins
def frW (w : World) : Nat -> Option Obj:=fun c=>w.heap[c]?
def VRC (fr : Nat -> Option Obj) (l cs : List Value) : Prop:=l.length = cs.length /\ ∀ (i : Nat) (v v' : Value),l[i]? = some v -> cs[i]? = some v' -> VR0 fr v v'
theorem VRC.one {fr : Nat -> Option Obj} {v v' : Value} (h : VR0 fr v v') : VRC fr [v] [v']:=⟨rfl,fun i a b ha hb=>by
 cases i with
 | zero=>simp at ha hb; subst ha hb; exact h
 | succ i=>simp at ha⟩
theorem VRC.append {fr : Nat -> Option Obj} {l m cs ds : List Value} (h : VRC fr l cs) (k : VRC fr m ds) : VRC fr (l ++ m) (cs ++ ds):=by
 refine ⟨by rw [List.length_append,List.length_append,h.1,k.1],fun i a b ha hb=>?_⟩
 rcases Nat.lt_or_ge i l.length with hi | hi
 ·rw [List.getElem?_append_left hi] at ha
  rw [List.getElem?_append_left (by rw [← h.1]; exact hi)] at hb
  exact h.2 i a b ha hb
 ·rw [List.getElem?_append_right hi] at ha
  rw [List.getElem?_append_right (by rw [← h.1]; exact hi),← h.1] at hb
  exact k.2 _ a b ha hb
theorem VRC.step {fr : Nat -> Option Obj} {l m cs : List Value} {o k : Nat} (h : VRC fr l ((cs.drop o).take k)) (r : VRC fr m (cs.drop (o + k))) : VRC fr (l ++ m) (cs.drop o):=by
 have:=h.append r
 rwa [← List.drop_drop,List.take_append_drop] at this
theorem VRC.next {fr : Nat -> Option Obj} {l m cs : List Value} {o k : Nat} (h : VRC fr l ((cs.drop o).take k)) (r : VRC fr m (cs.drop (o + l.length))) : VRC fr (l ++ m) (cs.drop o):=by
 have e : (cs.drop o).take k = (cs.drop o).take l.length:=by
  have h1:=h.1
  rw [List.length_take] at h1
  rcases Nat.le_total k (cs.drop o).length with hk | hk
  ·rw [show l.length = k by omega]
  ·rw [List.take_of_length_le hk,List.take_of_length_le (by omega)]
 rw [e] at h
 exact h.step r
theorem VRC.done {fr : Nat -> Option Obj} {cs : List Value} {n : Nat} (h : cs.length = n) : VRC fr [] (cs.drop n):=by
 rw [List.drop_eq_nil_of_le (by omega)]
 exact ⟨rfl,fun i a b ha=>by simp at ha⟩
def jB (n : Int) : Prop:=-9223372036854775808 <= n /\ n < 9223372036854775808
section
variable {P : Program} {w : World}
theorem aIC {a : Addr} {i : Nat} {v : Value} (h : w.cell? (a.add i) = some v) : ∃ cs t fz,w.heap[a.block]? = some (.cells cs t fz) /\ cs[a.off + i]? = some v /\ (i = 0 -> a.spot = none):=by
 unfold World.cell? at h
 have hb : (a.add i).block = a.block:=by unfold Addr.add; split <;> rfl
 rw [hb] at h
 split at h
 ·rename_i cs t fz hc
  refine ⟨cs,t,fz,hc,?_,fun h0=>?_⟩
  ·split at h
   ·cases h
   ·have : (a.add i).off = a.off + i:=by unfold Addr.add; split <;> simp_all
    rw [this] at h
    exact h
  ·subst h0
   split at h
   ·cases h
   ·rename_i hs
    have : (a.add 0) = a:=rfl
    rw [this] at hs
    cases hsp : a.spot with
    | none=>rfl
    | some s=>rw [hsp] at hs; simp at hs
 ·cases h
theorem VRC.agg {l : List Value} {c : Array Value} (h : VRC (frW w) l c.toList) : VR0 (frW w) (.agg l.toArray) (.agg c) :=
 .agg (by simp [h.1]) fun i v v' a b=>h.2 i v v' (by simpa using a) (by simpa using b)
theorem Pure.at {f : FuncId} {args : List Value} {Post : Value -> Prop} (h : Pure P f args Post) (hg : ∀ g cs,aHz g = some cs -> ∃ t fz,w.heap[g]? = some (.cells cs t fz)) (hn : args.all nl = true) {args' : List Value} (hargs : VRC (frW w) args args') :
  Calls P f args'.toArray w fun e w'=>∃ v v',Post v /\ e = .returned v' /\ (dK v = true -> v' = v) /\ Below w.heap.size w w':=by
 refine (h.call hn (W:=⟨w,fun _=>False,frW w,[]⟩) (ρ:=⟨fun _=>none,frW w,hg⟩) (hp:=.e) (nx:=0) (w:=w) ⟨fun b x hb=>(by cases hb),fun b o c s z ho=>(by cases ho),fun b b' x x' o o' ho=>(by cases ho),fun b _=>rfl,⟨rfl,rfl,rfl,Nat.le_refl _,fun _ _=>rfl⟩,fun c ob hc=>hc,fun b o c s z ho=>(by cases ho),fun c ob hc=>.inl hc⟩ (.of hargs.1 fun i v v' a b=>VR0.lift (ρ:=⟨fun _=>none,frW w,hg⟩) (hargs.2 i v v' a b))).mono ?_
 rintro e w' ⟨v,v',ρ',hP,rfl,hv,_,_,_,hb⟩
 exact ⟨v,v',hP,rfl,fun hc=>rT hc hv,hb⟩
end
end Go.Proofs.YtngginofamlkkaaGreatDoor

noncomputable section
namespace Go.Proofs.YtngginofamlkkaaGreatDoor
open Go Go.RowKit Go.ChangeShapes Go.WideShapes Go.ChangeAt Go.Deep Go.Joins
set_option maxRecDepth 100000
instance : Enc Vec3 where
 sz:=3
 cells p:=[.int .i64 p.x,.int .i64 p.y,.int .i64 p.z]
 len _:=rfl
 nl p:=by intro v hv; simp at hv; rcases hv with rfl | rfl | rfl <;> rfl
instance : Enc Part where
 sz:=18
 cells:=fP
 len _:=rfl
 nl p:=by intro v hv; simp [fP] at hv; rcases hv with rfl | rfl | rfl | rfl | rfl | rfl | rfl | rfl | rfl | rfl | rfl | rfl | rfl | rfl | rfl | rfl | rfl | rfl <;> rfl
def InPt (p : Pt) : Prop:=jB p.x /\ jB p.y
def InV (p : Vec3) : Prop:=jB p.x /\ jB p.y /\ jB p.z
structure InPart (p : Part) : Prop where
 rev : jB p.rev
 kind : jB p.kind
 thick : jB p.thick
 outer : ∀ x ∈ p.outer,InPt x
 holes : ∀ l ∈ p.holes,∀ x ∈ l,InPt x
 long : jB p.long
 mass : jB p.mass
 centre : InV p.centre
 at_ : InV p.at_
 turn : jB p.turn
 id : p.id.size <= maxLen
 node : p.node.size <= maxLen
 grade : p.grade.size <= maxLen
 sect : p.sect.size <= maxLen
variable {w : World}
end Go.Proofs.YtngginofamlkkaaGreatDoor

noncomputable section
namespace Go.Proofs.YtngginofamlkkaaGreatDoor
open Go Go.RowKit
set_option maxRecDepth 100000
set_option maxHeartbeats 8000000
structure Node3 where
 id : ByteArray
 kind : Int
 parent : ByteArray
 deriving DecidableEq
def nE (p : Node3) : List Value:=[.string p.id,.int .i64 p.kind,.string p.parent]
abbrev aO7 (p : Node3) : Value:=.agg (nE p).toArray
instance : Enc Node3 where
 sz:=3
 cells:=nE
 len _:=rfl
 nl p:=fun v hv=>List.all_eq_true.1 (show (nE p).all nl1 = true from rfl) v hv
theorem Node3.ext' {p q : Node3} (h0 : p.id = q.id) (h1 : p.kind = q.kind) (h2 : p.parent = q.parent) : p = q:=by
 cases p; cases q
 simp only at h0 h1 h2
 simp only [h0,h1,h2]
structure Seam6 where
 id : ByteArray
 a : ByteArray
 b : ByteArray
 kind : Int
 long : Int
 cls : Int
 deriving DecidableEq
def tA (p : Seam6) : List Value:=[.string p.id,.string p.a,.string p.b,.int .i64 p.kind,.int .i64 p.long,.int .i64 p.cls]
abbrev aGz (p : Seam6) : Value:=.agg (tA p).toArray
instance : Enc Seam6 where
 sz:=6
 cells:=tA
 len _:=rfl
 nl p:=fun v hv=>List.all_eq_true.1 (show (tA p).all nl1 = true from rfl) v hv
theorem Seam6.ext' {p q : Seam6} (h0 : p.id = q.id) (h1 : p.a = q.a) (h2 : p.b = q.b) (h3 : p.kind = q.kind) (h4 : p.long = q.long) (h5 : p.cls = q.cls) : p = q:=by
 cases p; cases q
 simp only at h0 h1 h2 h3 h4 h5
 simp only [h0,h1,h2,h3,h4,h5]
structure Pack5 where
 id : ByteArray
 block : ByteArray
 parts : List ByteArray
 hours : Int
 after : List ByteArray
 deriving DecidableEq
def dB (p : Pack5) : List Value:=[.string p.id,.string p.block,tree 1 p.parts.length (aB p.parts),.int .i64 p.hours,tree 1 p.after.length (aB p.after)]
abbrev aNp (p : Pack5) : Value:=.agg (dB p).toArray
instance : Enc Pack5 where
 sz:=5
 cells:=dB
 len _:=rfl
 nl p:=fun v hv=>List.all_eq_true.1 (show (dB p).all nl1 = true from rfl) v hv
theorem Pack5.ext' {p q : Pack5} (h0 : p.id = q.id) (h1 : p.block = q.block) (h2 : p.parts = q.parts) (h3 : p.hours = q.hours) (h4 : p.after = q.after) : p = q:=by
 cases p; cases q
 simp only at h0 h1 h2 h3 h4
 simp only [h0,h1,h2,h3,h4]
structure Need3 where
 kind : Int
 block : ByteArray
 on : ByteArray
 deriving DecidableEq
def aAw (p : Need3) : List Value:=[.int .i64 p.kind,.string p.block,.string p.on]
instance : Enc Need3 where
 sz:=3
 cells:=aAw
 len _:=rfl
 nl p:=fun v hv=>List.all_eq_true.1 (show (aAw p).all nl1 = true from rfl) v hv
theorem Need3.ext' {p q : Need3} (h0 : p.kind = q.kind) (h1 : p.block = q.block) (h2 : p.on = q.on) : p = q:=by
 cases p; cases q
 simp only at h0 h1 h2
 simp only [h0,h1,h2]
structure Edit where
 kind : Int
 id : ByteArray
 to : ByteArray
 node : Node3
 part : Part
 seam : Seam6
 pack : Pack5
 need : Need3
 deriving DecidableEq
def aQD (p : Edit) : List Value:=[.int .i64 p.kind,.string p.id,.string p.to,.string p.node.id,.int .i64 p.node.kind,.string p.node.parent,.string p.part.id,.int .i64 p.part.rev,.int .i64 p.part.kind,.string p.part.node,.string p.part.grade,.int .i64 p.part.thick,tree 2 p.part.outer.length (aB p.part.outer),tree 1 p.part.holes.length (aB p.part.holes),.string p.part.sect,.int .i64 p.part.long,.int .i64 p.part.mass,.int .i64 p.part.centre.x,.int .i64 p.part.centre.y,.int .i64 p.part.centre.z,.int .i64 p.part.at_.x,.int .i64 p.part.at_.y,.int .i64 p.part.at_.z,.int .i64 p.part.turn,.string p.seam.id,.string p.seam.a,.string p.seam.b,.int .i64 p.seam.kind,.int .i64 p.seam.long,.int .i64 p.seam.cls,.string p.pack.id,.string p.pack.block,tree 1 p.pack.parts.length (aB p.pack.parts),.int .i64 p.pack.hours,tree 1 p.pack.after.length (aB p.pack.after),.int .i64 p.need.kind,.string p.need.block,.string p.need.on]
instance : Enc Edit where
 sz:=38
 cells:=aQD
 len _:=rfl
 nl p:=fun v hv=>List.all_eq_true.1 (show (aQD p).all nl1 = true from rfl) v hv
theorem Edit.ext' {p q : Edit} (h0 : p.kind = q.kind) (h1 : p.id = q.id) (h2 : p.to = q.to) (h3 : p.node = q.node) (h4 : p.part = q.part) (h5 : p.seam = q.seam) (h6 : p.pack = q.pack) (h7 : p.need = q.need) : p = q:=by
 cases p; cases q
 simp only at h0 h1 h2 h3 h4 h5 h6 h7
 simp only [h0,h1,h2,h3,h4,h5,h6,h7]
structure Order2 where
 id : ByteArray
 edits : List Edit
 deriving DecidableEq
def aJe (p : Order2) : List Value:=[.string p.id,tree 38 p.edits.length (aB p.edits)]
instance : Enc Order2 where
 sz:=2
 cells:=aJe
 len _:=rfl
 nl p:=fun v hv=>List.all_eq_true.1 (show (aJe p).all nl1 = true from rfl) v hv
theorem Order2.ext' {p q : Order2} (h0 : p.id = q.id) (h1 : p.edits = q.edits) : p = q:=by
 cases p; cases q
 simp only at h0 h1
 simp only [h0,h1]
structure Sheet6 where
 id : ByteArray
 grade : ByteArray
 thick : Int
 long : Int
 width : Int
 heat : ByteArray
 deriving DecidableEq
def aIM (p : Sheet6) : List Value:=[.string p.id,.string p.grade,.int .i64 p.thick,.int .i64 p.long,.int .i64 p.width,.string p.heat]
instance : Enc Sheet6 where
 sz:=6
 cells:=aIM
 len _:=rfl
 nl p:=fun v hv=>List.all_eq_true.1 (show (aIM p).all nl1 = true from rfl) v hv
theorem Sheet6.ext' {p q : Sheet6} (h0 : p.id = q.id) (h1 : p.grade = q.grade) (h2 : p.thick = q.thick) (h3 : p.long = q.long) (h4 : p.width = q.width) (h5 : p.heat = q.heat) : p = q:=by
 cases p; cases q
 simp only at h0 h1 h2 h3 h4 h5
 simp only [h0,h1,h2,h3,h4,h5]
structure Bar5 where
 id : ByteArray
 sect : ByteArray
 grade : ByteArray
 long : Int
 heat : ByteArray
 deriving DecidableEq
def aQt (p : Bar5) : List Value:=[.string p.id,.string p.sect,.string p.grade,.int .i64 p.long,.string p.heat]
instance : Enc Bar5 where
 sz:=5
 cells:=aQt
 len _:=rfl
 nl p:=fun v hv=>List.all_eq_true.1 (show (aQt p).all nl1 = true from rfl) v hv
theorem Bar5.ext' {p q : Bar5} (h0 : p.id = q.id) (h1 : p.sect = q.sect) (h2 : p.grade = q.grade) (h3 : p.long = q.long) (h4 : p.heat = q.heat) : p = q:=by
 cases p; cases q
 simp only at h0 h1 h2 h3 h4
 simp only [h0,h1,h2,h3,h4]
structure Spot where
 part : ByteArray
 at_ : Pt
 turn : Int
 flip : Bool
 deriving DecidableEq
def aQP (p : Spot) : List Value:=[.string p.part,.int .i64 p.at_.x,.int .i64 p.at_.y,.int .i64 p.turn,.bool p.flip]
instance : Enc Spot where
 sz:=5
 cells:=aQP
 len _:=rfl
 nl p:=fun v hv=>List.all_eq_true.1 (show (aQP p).all nl1 = true from rfl) v hv
theorem Spot.ext' {p q : Spot} (h0 : p.part = q.part) (h1 : p.at_ = q.at_) (h2 : p.turn = q.turn) (h3 : p.flip = q.flip) : p = q:=by
 cases p; cases q
 simp only at h0 h1 h2 h3
 simp only [h0,h1,h2,h3]
structure Nest3 where
 sheet : ByteArray
 gap : Int
 spots : List Spot
 deriving DecidableEq
def aMt (p : Nest3) : List Value:=[.string p.sheet,.int .i64 p.gap,tree 5 p.spots.length (aB p.spots)]
instance : Enc Nest3 where
 sz:=3
 cells:=aMt
 len _:=rfl
 nl p:=fun v hv=>List.all_eq_true.1 (show (aMt p).all nl1 = true from rfl) v hv
theorem Nest3.ext' {p q : Nest3} (h0 : p.sheet = q.sheet) (h1 : p.gap = q.gap) (h2 : p.spots = q.spots) : p = q:=by
 cases p; cases q
 simp only at h0 h1 h2
 simp only [h0,h1,h2]
structure Saw3 where
 bar : ByteArray
 kerf : Int
 parts : List ByteArray
 deriving DecidableEq
def aQN (p : Saw3) : List Value:=[.string p.bar,.int .i64 p.kerf,tree 1 p.parts.length (aB p.parts)]
instance : Enc Saw3 where
 sz:=3
 cells:=aQN
 len _:=rfl
 nl p:=fun v hv=>List.all_eq_true.1 (show (aQN p).all nl1 = true from rfl) v hv
theorem Saw3.ext' {p q : Saw3} (h0 : p.bar = q.bar) (h1 : p.kerf = q.kerf) (h2 : p.parts = q.parts) : p = q:=by
 cases p; cases q
 simp only at h0 h1 h2
 simp only [h0,h1,h2]
structure Weig where
 block : ByteArray
 at_ : Int
 mass : Int
 centre : Vec3
 sigma : Int
 parts : List ByteArray
 deriving DecidableEq
def aQM (p : Weig) : List Value:=[.string p.block,.int .i64 p.at_,.int .i64 p.mass,.int .i64 p.centre.x,.int .i64 p.centre.y,.int .i64 p.centre.z,.int .i64 p.sigma,tree 1 p.parts.length (aB p.parts)]
instance : Enc Weig where
 sz:=8
 cells:=aQM
 len _:=rfl
 nl p:=fun v hv=>List.all_eq_true.1 (show (aQM p).all nl1 = true from rfl) v hv
theorem Weig.ext' {p q : Weig} (h0 : p.block = q.block) (h1 : p.at_ = q.at_) (h2 : p.mass = q.mass) (h3 : p.centre = q.centre) (h4 : p.sigma = q.sigma) (h5 : p.parts = q.parts) : p = q:=by
 cases p; cases q
 simp only at h0 h1 h2 h3 h4 h5
 simp only [h0,h1,h2,h3,h4,h5]
structure Hook4 where
 crane : ByteArray
 at_ : Pt
 radius : Int
 deriving DecidableEq
def aN6 (p : Hook4) : List Value:=[.string p.crane,.int .i64 p.at_.x,.int .i64 p.at_.y,.int .i64 p.radius]
instance : Enc Hook4 where
 sz:=4
 cells:=aN6
 len _:=rfl
 nl p:=fun v hv=>List.all_eq_true.1 (show (aN6 p).all nl1 = true from rfl) v hv
theorem Hook4.ext' {p q : Hook4} (h0 : p.crane = q.crane) (h1 : p.at_ = q.at_) (h2 : p.radius = q.radius) : p = q:=by
 cases p; cases q
 simp only at h0 h1 h2
 simp only [h0,h1,h2]
structure Lift2 where
 block : ByteArray
 hooks : List Hook4
 deriving DecidableEq
def aLD (p : Lift2) : List Value:=[.string p.block,tree 4 p.hooks.length (aB p.hooks)]
instance : Enc Lift2 where
 sz:=2
 cells:=aLD
 len _:=rfl
 nl p:=fun v hv=>List.all_eq_true.1 (show (aLD p).all nl1 = true from rfl) v hv
theorem Lift2.ext' {p q : Lift2} (h0 : p.block = q.block) (h1 : p.hooks = q.hooks) : p = q:=by
 cases p; cases q
 simp only at h0 h1
 simp only [h0,h1]
structure Span2 where
 a : Int
 b : Int
 deriving DecidableEq
def aO8 (p : Span2) : List Value:=[.int .i64 p.a,.int .i64 p.b]
instance : Enc Span2 where
 sz:=2
 cells:=aO8
 len _:=rfl
 nl p:=fun v hv=>List.all_eq_true.1 (show (aO8 p).all nl1 = true from rfl) v hv
theorem Span2.ext' {p q : Span2} (h0 : p.a = q.a) (h1 : p.b = q.b) : p = q:=by
 cases p; cases q
 simp only at h0 h1
 simp only [h0,h1]
structure Permit3 where
 id : ByteArray
 kind : Int
 time : Span2
 deriving DecidableEq
def aEU (p : Permit3) : List Value:=[.string p.id,.int .i64 p.kind,.int .i64 p.time.a,.int .i64 p.time.b]
instance : Enc Permit3 where
 sz:=4
 cells:=aEU
 len _:=rfl
 nl p:=fun v hv=>List.all_eq_true.1 (show (aEU p).all nl1 = true from rfl) v hv
theorem Permit3.ext' {p q : Permit3} (h0 : p.id = q.id) (h1 : p.kind = q.kind) (h2 : p.time = q.time) : p = q:=by
 cases p; cases q
 simp only at h0 h1 h2
 simp only [h0,h1,h2]
structure Event where
 kind : Int
 at_ : Int
 item : ByteArray
 of_ : ByteArray
 by_ : ByteArray
 n : Int
 pass : Bool
 order : Order2
 sheet : Sheet6
 bar : Bar5
 nest : Nest3
 saw : Saw3
 weig : Weig
 lift : Lift2
 permit : Permit3
 deriving DecidableEq
def aH5 (p : Event) : List Value:=[.int .i64 p.kind,.int .i64 p.at_,.string p.item,.string p.of_,.string p.by_,.int .i64 p.n,.bool p.pass,.string p.order.id,tree 38 p.order.edits.length (aB p.order.edits),.string p.sheet.id,.string p.sheet.grade,.int .i64 p.sheet.thick,.int .i64 p.sheet.long,.int .i64 p.sheet.width,.string p.sheet.heat,.string p.bar.id,.string p.bar.sect,.string p.bar.grade,.int .i64 p.bar.long,.string p.bar.heat,.string p.nest.sheet,.int .i64 p.nest.gap,tree 5 p.nest.spots.length (aB p.nest.spots),.string p.saw.bar,.int .i64 p.saw.kerf,tree 1 p.saw.parts.length (aB p.saw.parts),.string p.weig.block,.int .i64 p.weig.at_,.int .i64 p.weig.mass,.int .i64 p.weig.centre.x,.int .i64 p.weig.centre.y,.int .i64 p.weig.centre.z,.int .i64 p.weig.sigma,tree 1 p.weig.parts.length (aB p.weig.parts),.string p.lift.block,tree 4 p.lift.hooks.length (aB p.lift.hooks),.string p.permit.id,.int .i64 p.permit.kind,.int .i64 p.permit.time.a,.int .i64 p.permit.time.b]
instance : Enc Event where
 sz:=40
 cells:=aH5
 len _:=rfl
 nl p:=fun v hv=>List.all_eq_true.1 (show (aH5 p).all nl1 = true from rfl) v hv
theorem Event.ext' {p q : Event} (h0 : p.kind = q.kind) (h1 : p.at_ = q.at_) (h2 : p.item = q.item) (h3 : p.of_ = q.of_) (h4 : p.by_ = q.by_) (h5 : p.n = q.n) (h6 : p.pass = q.pass) (h7 : p.order = q.order) (h8 : p.sheet = q.sheet) (h9 : p.bar = q.bar) (h10 : p.nest = q.nest) (h11 : p.saw = q.saw) (h12 : p.weig = q.weig) (h13 : p.lift = q.lift) (h14 : p.permit = q.permit) : p = q:=by
 cases p; cases q
 simp only at h0 h1 h2 h3 h4 h5 h6 h7 h8 h9 h10 h11 h12 h13 h14
 simp only [h0,h1,h2,h3,h4,h5,h6,h7,h8,h9,h10,h11,h12,h13,h14]
abbrev evK (k : Int) (x : Event) : List Value:=.int .i64 k :: (aH5 x).tail
structure Design6 where
 hull : ByteArray
 nodes : List Node3
 parts : List Part
 seams : List Seam6
 packs : List Pack5
 needs : List Need3
 deriving DecidableEq
def aG (p : Design6) : List Value:=[.string p.hull,tree 3 p.nodes.length (aB p.nodes),tree 18 p.parts.length (aB p.parts),tree 6 p.seams.length (aB p.seams),tree 5 p.packs.length (aB p.packs),tree 3 p.needs.length (aB p.needs)]
abbrev aC (p : Design6) : Value:=.agg (aG p).toArray
instance : Enc Design6 where
 sz:=6
 cells:=aG
 len _:=rfl
 nl p:=fun v hv=>List.all_eq_true.1 (show (aG p).all nl1 = true from rfl) v hv
end Go.Proofs.YtngginofamlkkaaGreatDoor
namespace Go.Proofs.YtngginofamlkkaaGreatDoor.PlaneG
structure Q2 where
 x : Rat
 h : Rat
 deriving DecidableEq
def crs (a b c : Q2) : Rat:=(b.x - a.x) * (c.h - a.h) - (b.h - a.h) * (c.x - a.x)
theorem lE (a b c : Q2) : crs a b c = crs b c a:=by unfold crs; grind
theorem fD (a b c : Q2) : crs a b c = - crs b a c:=by unfold crs; grind
theorem aI0 (a b : Q2) : crs a b a = 0:=by unfold crs; grind
theorem aQe (a b : Q2) : crs a b b = 0:=by unfold crs; grind
theorem aC8 (a b u v : Q2) : (b.h - a.h) * crs u v a = -(crs a b u * (v.h - a.h) + crs a b v * (a.h - u.h)):=by unfold crs; grind
theorem aCo (a b u v : Q2) : (b.h - a.h) * crs u v b = -(crs a b u * (v.h - b.h) + crs a b v * (b.h - u.h)):=by unfold crs; grind
def wt (e : Q2 × Q2) (p : Q2) : Int :=
 if e.1.h < p.h /\ p.h < e.2.h /\ 0 < crs e.1 e.2 p then 1 else if e.2.h < p.h /\ p.h < e.1.h /\ crs e.1 e.2 p < 0 then -1 else 0
def rev (e : Q2 × Q2) : Q2 × Q2:=(e.2,e.1)
theorem aHc (e : Q2 × Q2) (p : Q2) : wt (rev e) p = - wt e p:=by
 have h:=fD e.1 e.2 p
 unfold wt rev
 simp only
 by_cases h1 : e.1.h < p.h /\ p.h < e.2.h /\ 0 < crs e.1 e.2 p
 ·have h2 : ¬ (e.2.h < p.h /\ p.h < e.1.h /\ 0 < crs e.2 e.1 p):=by grind
  have h3 : e.1.h < p.h /\ p.h < e.2.h /\ crs e.2 e.1 p < 0:=by grind
  rw [if_neg h2,if_pos h3,if_pos h1]
 ·by_cases h2 : e.2.h < p.h /\ p.h < e.1.h /\ crs e.1 e.2 p < 0
  ·have h3 : e.2.h < p.h /\ p.h < e.1.h /\ 0 < crs e.2 e.1 p:=by grind
   rw [if_pos h3,if_neg h1,if_pos h2]
   rfl
  ·have h3 : ¬ (e.2.h < p.h /\ p.h < e.1.h /\ 0 < crs e.2 e.1 p):=by grind
   have h4 : ¬ (e.1.h < p.h /\ p.h < e.2.h /\ crs e.2 e.1 p < 0):=by grind
   rw [if_neg h3,if_neg h4,if_neg h1,if_neg h2]
   rfl
theorem kF {k c a b m n : Rat} (hk : 0 < k) (hm : 0 < m) (hn : 0 < n) (e : k * c = -(a * m + b * n)) (ha : a < 0) (hb : b < 0) : 0 < c:=by
 have h1 : 0 < (-a) * m:=Rat.mul_pos (by grind) hm
 have h2 : 0 < (-b) * n:=Rat.mul_pos (by grind) hn
 have h3 : 0 < k * c:=by grind
 rcases Classical.em (0 < c) with h | h
 ·exact h
 ·have h4 : 0 <= -c:=by grind
  have h5 : 0 <= k * (-c):=Rat.mul_nonneg (by grind) h4
  grind
theorem jF {k c a b m n : Rat} (hk : 0 < k) (hm : 0 < m) (hn : 0 < n) (e : k * c = -(a * m + b * n)) (ha : 0 < a) (hb : 0 < b) : c < 0:=by
 have:=kF (c:=-c) (a:=-a) (b:=-b) hk hm hn (by grind) (by grind) (by grind)
 grind
def inR (p q u : Q2) : Int:=if p.h < u.h /\ u.h < q.h /\ crs p q u < 0 then 1 else 0
def dlt (p q : Q2) (e : Q2 × Q2) : Int:=(wt e p - wt e q) - (inR p q e.2 - inR p q e.1)
theorem pJ (p q : Q2) (e : Q2 × Q2) : dlt p q (rev e) = - dlt p q e:=by
 unfold dlt
 rw [aHc,aHc]
 unfold rev
 simp only
 omega
def jS (p q u v : Q2) : Prop:=(crs p q u < 0 /\ crs p q v < 0) ∨ (0 < crs p q u /\ 0 < crs p q v) ∨ (crs u v p < 0 /\ crs u v q < 0) ∨ (0 < crs u v p /\ 0 < crs u v q) ∨ (crs p q u = 0 /\ crs p q v = 0 /\ crs u v p = 0 /\ crs u v q = 0 /\ ((p.h < u.h /\ p.h < v.h /\ q.h < u.h /\ q.h < v.h) ∨ (u.h < p.h /\ v.h < p.h /\ u.h < q.h /\ v.h < q.h)))
theorem mM {P Q : Prop} [Decidable P] [Decidable Q] (h : P ↔ Q) : (if P then (1 : Int) else 0) = if Q then 1 else 0:=by
 by_cases hp : P
 ·rw [if_pos hp,if_pos (h.1 hp)]
 ·rw [if_neg hp,if_neg (fun k=>hp (h.2 k))]
theorem pQ {u v p : Q2} (h : u.h < v.h) : wt (u,v) p = if u.h < p.h /\ p.h < v.h /\ 0 < crs u v p then 1 else 0:=by
 unfold wt
 simp only
 by_cases h1 : u.h < p.h /\ p.h < v.h /\ 0 < crs u v p
 ·rw [if_pos h1,if_pos h1]
 ·rw [if_neg h1,if_neg h1,if_neg (by grind)]
theorem aLe {p q u v : Q2} (hpq : p.h < q.h) (huv : u.h < v.h) (d1 : p.h ≠ u.h) (d2 : p.h ≠ v.h) (d3 : q.h ≠ u.h) (d4 : q.h ≠ v.h) (ha : jS p q u v) : dlt p q (u,v) = 0:=by
 unfold dlt inR
 rw [pQ huv,pQ huv]
 simp only
 have e1:=aC8 p q u v
 have e2:=aCo p q u v
 have e3:=aC8 u v p q
 have e4:=aCo u v p q
 have kpq : 0 < q.h - p.h:=by grind
 have kuv : 0 < v.h - u.h:=by grind
 by_cases c1 : v.h < p.h
 ·rw [if_neg (by grind),if_neg (by grind),if_neg (by grind),if_neg (by grind)]; rfl
 by_cases c2 : q.h < u.h
 ·rw [if_neg (by grind),if_neg (by grind),if_neg (by grind),if_neg (by grind)]; rfl
 by_cases c3 : u.h < p.h
 ·by_cases c4 : q.h < v.h
  ·-- u < p < q < v
   rw [if_neg (c:=p.h < v.h /\ v.h < q.h /\ crs p q v < 0) (by grind),if_neg (c:=p.h < u.h /\ u.h < q.h /\ crs p q u < 0) (by grind)]
   rw [mM (Q:=u.h < q.h /\ q.h < v.h /\ 0 < crs u v q)]
   ·omega
   ·rcases ha with ⟨h1,h2⟩ | ⟨h1,h2⟩ | ⟨h1,h2⟩ | ⟨h1,h2⟩ | ⟨_,_,_,_,h5⟩
    rotate_right
    ·exfalso; grind
    ·have g1:=kF kpq (by grind) (by grind) e1 h1 h2
     have g2:=kF kpq (by grind) (by grind) e2 h1 h2
     grind
    ·have g1:=jF kpq (by grind) (by grind) e1 h1 h2
     have g2:=jF kpq (by grind) (by grind) e2 h1 h2
     grind
    ·grind
    ·grind
  ·-- u < p < v < q
   rw [if_neg (c:=u.h < q.h /\ q.h < v.h /\ 0 < crs u v q) (by grind),if_neg (c:=p.h < u.h /\ u.h < q.h /\ crs p q u < 0) (by grind)]
   rw [mM (Q:=p.h < v.h /\ v.h < q.h /\ crs p q v < 0)]
   ·omega
   ·rcases ha with ⟨h1,h2⟩ | ⟨h1,h2⟩ | ⟨h1,h2⟩ | ⟨h1,h2⟩ | ⟨_,_,_,_,h5⟩
    rotate_right
    ·exfalso; grind
    ·have g1:=kF kpq (by grind) (by grind) e1 h1 h2
     grind
    ·have g1:=jF kpq (by grind) (by grind) e1 h1 h2
     grind
    ·have g1:=kF kuv (by grind) (by grind) e4 h1 h2
     grind
    ·have g1:=jF kuv (by grind) (by grind) e4 h1 h2
     grind
 ·by_cases c4 : q.h < v.h
  ·-- p < u < q < v
   rw [if_neg (c:=u.h < p.h /\ p.h < v.h /\ 0 < crs u v p) (by grind),if_neg (c:=p.h < v.h /\ v.h < q.h /\ crs p q v < 0) (by grind)]
   rw [mM (P:=u.h < q.h /\ q.h < v.h /\ 0 < crs u v q) (Q:=p.h < u.h /\ u.h < q.h /\ crs p q u < 0)]
   ·omega
   ·rcases ha with ⟨h1,h2⟩ | ⟨h1,h2⟩ | ⟨h1,h2⟩ | ⟨h1,h2⟩ | ⟨_,_,_,_,h5⟩
    rotate_right
    ·exfalso; grind
    ·have g1:=kF kpq (by grind) (by grind) e2 h1 h2
     grind
    ·have g1:=jF kpq (by grind) (by grind) e2 h1 h2
     grind
    ·have g1:=kF kuv (by grind) (by grind) e3 h1 h2
     grind
    ·have g1:=jF kuv (by grind) (by grind) e3 h1 h2
     grind
  ·-- p < u < v < q
   rw [if_neg (c:=u.h < p.h /\ p.h < v.h /\ 0 < crs u v p) (by grind),if_neg (c:=u.h < q.h /\ q.h < v.h /\ 0 < crs u v q) (by grind)]
   rw [mM (P:=p.h < v.h /\ v.h < q.h /\ crs p q v < 0) (Q:=p.h < u.h /\ u.h < q.h /\ crs p q u < 0)]
   ·omega
   ·rcases ha with ⟨h1,h2⟩ | ⟨h1,h2⟩ | ⟨h1,h2⟩ | ⟨h1,h2⟩ | ⟨_,_,_,_,h5⟩
    rotate_right
    ·exfalso; grind
    ·grind
    ·grind
    ·have g1:=kF kuv (by grind) (by grind) e3 h1 h2
     have g2:=kF kuv (by grind) (by grind) e4 h1 h2
     grind
    ·have g1:=jF kuv (by grind) (by grind) e3 h1 h2
     have g2:=jF kuv (by grind) (by grind) e4 h1 h2
     grind
end Go.Proofs.YtngginofamlkkaaGreatDoor.PlaneG
namespace Go.Proofs.YtngginofamlkkaaGreatDoor.PlaneG
theorem aES (p q : Q2) (h : p.h < q.h) : dlt p q (p,q) = 0:=by
 unfold dlt inR
 rw [pQ h,pQ h]
 simp only
 rw [if_neg (c:=p.h < p.h /\ p.h < q.h /\ 0 < crs p q p) (by grind),if_neg (c:=p.h < q.h /\ q.h < q.h /\ 0 < crs p q q) (by grind),if_neg (by grind),if_neg (by grind)]
 rfl
theorem uZ {u v p : Q2} (h : v.h < u.h) : wt (u,v) p = - if v.h < p.h /\ p.h < u.h /\ crs u v p < 0 then 1 else 0:=by
 have e:=aHc (v,u) p
 unfold rev at e
 simp only at e
 rw [e,pQ h]
 have hs:=fD u v p
 congr 1
 exact mM (by grind)
theorem uM (p q z : Q2) (h : p.h < q.h) (d1 : z.h ≠ p.h) (d2 : z.h ≠ q.h) : dlt p q (z,p) = if p.h < z.h /\ crs p q z < 0 then 1 else 0:=by
 have hc:=lE z p q
 unfold dlt inR
 simp only
 by_cases hz : z.h < p.h
 ·rw [pQ hz,pQ hz,if_neg (c:=z.h < p.h /\ p.h < p.h /\ 0 < crs z p p) (by grind),if_neg (c:=z.h < q.h /\ q.h < p.h /\ 0 < crs z p q) (by grind),if_neg (c:=p.h < p.h /\ p.h < q.h /\ crs p q p < 0) (by grind),if_neg (c:=p.h < z.h /\ z.h < q.h /\ crs p q z < 0) (by grind),if_neg (by grind)]
  rfl
 ·have hz' : p.h < z.h:=by grind
  rw [uZ hz',uZ hz',if_neg (c:=p.h < p.h /\ p.h < z.h /\ crs z p p < 0) (by grind),if_neg (c:=p.h < p.h /\ p.h < q.h /\ crs p q p < 0) (by grind)]
  by_cases h1 : crs p q z < 0
  ·rw [if_pos (c:=p.h < z.h /\ crs p q z < 0) ⟨hz',h1⟩]
   by_cases h2 : z.h < q.h
   ·rw [if_neg (c:=p.h < q.h /\ q.h < z.h /\ crs z p q < 0) (by grind),if_pos (c:=p.h < z.h /\ z.h < q.h /\ crs p q z < 0) (by grind)]
    rfl
   ·rw [if_pos (c:=p.h < q.h /\ q.h < z.h /\ crs z p q < 0) (by grind),if_neg (c:=p.h < z.h /\ z.h < q.h /\ crs p q z < 0) (by grind)]
    rfl
  ·rw [if_neg (c:=p.h < z.h /\ crs p q z < 0) (by grind),if_neg (c:=p.h < q.h /\ q.h < z.h /\ crs z p q < 0) (by grind),if_neg (c:=p.h < z.h /\ z.h < q.h /\ crs p q z < 0) (by grind)]
   rfl
theorem aGh (p q w : Q2) (h : p.h < q.h) (d1 : w.h ≠ p.h) (d2 : w.h ≠ q.h) : dlt p q (q,w) = - if w.h < q.h /\ crs p q w < 0 then 1 else 0:=by
 have hc:=lE p q w
 have hc2:=lE q w p
 unfold dlt inR
 simp only
 by_cases hz : q.h < w.h
 ·rw [pQ hz,pQ hz,if_neg (c:=q.h < p.h /\ p.h < w.h /\ 0 < crs q w p) (by grind),if_neg (c:=q.h < q.h /\ q.h < w.h /\ 0 < crs q w q) (by grind),if_neg (c:=p.h < w.h /\ w.h < q.h /\ crs p q w < 0) (by grind),if_neg (c:=p.h < q.h /\ q.h < q.h /\ crs p q q < 0) (by grind),if_neg (by grind)]
  rfl
 ·have hz' : w.h < q.h:=by grind
  rw [uZ hz',uZ hz',if_neg (c:=w.h < q.h /\ q.h < q.h /\ crs q w q < 0) (by grind),if_neg (c:=p.h < q.h /\ q.h < q.h /\ crs p q q < 0) (by grind)]
  by_cases h1 : crs p q w < 0
  ·rw [if_pos (c:=w.h < q.h /\ crs p q w < 0) ⟨hz',h1⟩]
   by_cases h2 : p.h < w.h
   ·rw [if_neg (c:=w.h < p.h /\ p.h < q.h /\ crs q w p < 0) (by grind),if_pos (c:=p.h < w.h /\ w.h < q.h /\ crs p q w < 0) (by grind)]
    rfl
   ·rw [if_pos (c:=w.h < p.h /\ p.h < q.h /\ crs q w p < 0) (by grind),if_neg (c:=p.h < w.h /\ w.h < q.h /\ crs p q w < 0) (by grind)]
    rfl
  ·rw [if_neg (c:=w.h < q.h /\ crs p q w < 0) (by grind),if_neg (c:=w.h < p.h /\ p.h < q.h /\ crs q w p < 0) (by grind),if_neg (c:=p.h < w.h /\ w.h < q.h /\ crs p q w < 0) (by grind)]
   rfl
theorem lP {p q u v : Q2} (hpq : p.h < q.h) (duv : u.h ≠ v.h) (d1 : p.h ≠ u.h) (d2 : p.h ≠ v.h) (d3 : q.h ≠ u.h) (d4 : q.h ≠ v.h) (ha : jS p q u v) : dlt p q (u,v) = 0:=by
 by_cases h : u.h < v.h
 ·exact aLe hpq h d1 d2 d3 d4 ha
 ·have hs : v.h < u.h:=by grind
  have hx : jS p q v u:=by
   unfold jS at ha ⊢
   have g1:=fD u v p
   have g2:=fD u v q
   rcases ha with ⟨a,b⟩ | ⟨a,b⟩ | ⟨a,b⟩ | ⟨a,b⟩ | ⟨a,b,c,d,e⟩
   ·exact .inl ⟨b,a⟩
   ·exact .inr (.inl ⟨b,a⟩)
   ·exact .inr (.inr (.inr (.inl ⟨by grind,by grind⟩)))
   ·exact .inr (.inr (.inl ⟨by grind,by grind⟩))
   ·exact .inr (.inr (.inr (.inr ⟨b,a,by grind,by grind,by grind⟩)))
  have:=pJ p q (v,u)
  unfold rev at this
  simp only at this
  rw [this,aLe hpq hs d2 d1 d4 d3 hx]
  rfl
end Go.Proofs.YtngginofamlkkaaGreatDoor.PlaneG
namespace Go.Proofs.YtngginofamlkkaaGreatDoor.PlaneG
def isum : Nat -> (Nat -> Int) -> Int
 | 0,_=>0
 | n + 1,f=>isum n f + f n
theorem isum_head (f : Nat -> Int) : ∀ n,isum (n + 1) f = f 0 + isum n (fun j=>f (j + 1))
 | 0=>by simp [isum]
 | n + 1=>by
  have ih:=isum_head f n
  show isum (n + 1) f + f (n + 1) = f 0 + (isum n (fun j=>f (j + 1)) + f (n + 1))
  rw [ih]
  omega
theorem aGl {n : Nat} {f : Nat -> Int} (h : f n = f 0) : isum n (fun j=>f (j + 1)) = isum n f:=by
 have:=isum_head f n
 show isum n (fun j=>f (j + 1)) = isum n f
 have e : isum (n + 1) f = isum n f + f n:=rfl
 omega
theorem aBs {n : Nat} {f : Nat -> Int} (h : ∀ i,f (i + n) = f i) : ∀ s,isum n (fun j=>f (j + s)) = isum n f
 | 0=>rfl
 | s + 1=>by
  have e : isum n (fun j=>f (j + 1 + s)) = isum n (fun j=>f (j + s)):=aGl (f:=fun j=>f (j + s)) (by
   have:=h s
   simp only [Nat.zero_add]
   rw [Nat.add_comm n s]; exact this)
  rw [← aBs h s,← e]
  congr 1
  funext j
  congr 1
  omega
theorem cM {n : Nat} {f g : Nat -> Int} (h : ∀ j,j < n -> f j = g j) : isum n f = isum n g:=by
 induction n with
 | zero=>rfl
 | succ n ih =>
  show isum n f + f n = isum n g + g n
  rw [ih fun j hj=>h j (by omega),h n (by omega)]
theorem lR (n : Nat) : isum n (fun _=>0) = 0:=by
 induction n with
 | zero=>rfl
 | succ n ih=>show isum n _ + 0 = 0; rw [ih]; rfl
theorem uI (n : Nat) (f g : Nat -> Int) : isum n (fun j=>f j - g j) = isum n f - isum n g:=by
 induction n with
 | zero=>rfl
 | succ n ih =>
  show isum n _ + (f n - g n) = isum n f + f n - (isum n g + g n)
  rw [ih]; omega
theorem mL (n : Nat) (F : Nat -> Int) : isum n (fun j=>F (j + 1) - F j) = F n - F 0:=by
 induction n with
 | zero=>show (0 : Int) = F 0 - F 0; omega
 | succ n ih =>
  show isum n _ + (F (n + 1) - F n) = _
  rw [ih]; omega
theorem oN {n : Nat} {f : Nat -> Int} (h : ∀ j,3 <= j -> j < n + 3 -> f j = 0) : isum (n + 3) f = f 0 + f 1 + f 2:=by
 induction n with
 | zero=>show 0 + f 0 + f 1 + f 2 = _; omega
 | succ n ih =>
  have:=ih fun j h1 h2=>h j h1 (by omega)
  show isum (n + 3) f + f (n + 3) = _
  rw [this,h (n + 3) (by omega) (by omega)]; omega
def fG (n : Nat) (P : Nat -> Q2) (p : Q2) : Int:=isum n (fun j=>wt (P j,P (j + 1)) p)
structure Contour (n : Nat) (P : Nat -> Q2) : Prop where
 n3 : 3 <= n
 per : ∀ i,P (i + n) = P i
 lev : ∀ i j,i < j -> j < i + n -> (P i).h ≠ (P j).h
 apart : ∀ i j,i + 1 < j -> j + 1 < i + n -> jS (P i) (P (i + 1)) (P j) (P (j + 1))
 peak : ∀ i,(((P i).h < (P (i + 1)).h /\ (P (i + 2)).h < (P (i + 1)).h) ∨ ((P (i + 1)).h < (P i).h /\ (P (i + 1)).h < (P (i + 2)).h)) -> crs (P i) (P (i + 1)) (P (i + 2)) ≠ 0
theorem qU {n : Nat} {P : Nat -> Q2} (c : Contour n P) (p q : Q2) (s : Nat) : isum n (fun j=>dlt p q (P (j + s),P (j + s + 1))) = fG n P p - fG n P q:=by
 have e : ∀ j,dlt p q (P (j + s),P (j + s + 1)) = (fun i=>wt (P i,P (i + 1)) p - wt (P i,P (i + 1)) q) (j + s) - ((fun i=>inR p q (P (i + s))) (j + 1) - (fun i=>inR p q (P (i + s))) j):=fun j=>by
  unfold dlt
  simp only
  rw [show j + 1 + s = j + s + 1 by omega]
 have t:=mL n (fun i=>inR p q (P (i + s)))
 have h0 : (fun i=>inR p q (P (i + s))) n - (fun i=>inR p q (P (i + s))) 0 = 0:=by
  simp only
  rw [Nat.add_comm n s,c.per,Nat.zero_add]; omega
 have t2:=aBs (n:=n) (f:=fun i=>wt (P i,P (i + 1)) p - wt (P i,P (i + 1)) q) (fun i=>by
  show wt (P (i + n),P (i + n + 1)) p - wt (P (i + n),P (i + n + 1)) q = _
  rw [c.per,show i + n + 1 = i + 1 + n by omega,c.per]) s
 have t3:=uI n (fun i=>wt (P i,P (i + 1)) p) (fun i=>wt (P i,P (i + 1)) q)
 rw [cM fun j _=>e j,uI]
 unfold fG
 simp only at t t2 t3 h0 ⊢
 omega
theorem Contour.lev' {n : Nat} {P : Nat -> Q2} (c : Contour n P) {i j : Nat} (h : i < j) (h2 : j < i + n) : (P j).h ≠ (P i).h:=fun e=>c.lev i j h h2 e.symm
theorem oQ {p q u v : Q2} (h : jS p q u v) : jS q p u v:=by
 unfold jS at h ⊢
 have g1:=fD p q u
 have g2:=fD p q v
 rcases h with ⟨a,b⟩ | ⟨a,b⟩ | ⟨a,b⟩ | ⟨a,b⟩ | ⟨a,b,c,d,e⟩
 ·exact .inr (.inl ⟨by grind,by grind⟩)
 ·exact .inl ⟨by grind,by grind⟩
 ·exact .inr (.inr (.inl ⟨b,a⟩))
 ·exact .inr (.inr (.inr (.inl ⟨b,a⟩)))
 ·exact .inr (.inr (.inr (.inr ⟨by grind,by grind,d,c,by grind⟩)))
theorem aOq {n : Nat} {P : Nat -> Q2} (c : Contour n P) (s : Nat) (h : (P (s + 1)).h < (P (s + 2)).h) :
  fG n P (P (s + 1)) - fG n P (P (s + 2)) = (if (P (s + 1)).h < (P s).h /\ crs (P (s + 1)) (P (s + 2)) (P s) < 0 then 1 else 0) - (if (P (s + 3)).h < (P (s + 2)).h /\ crs (P (s + 1)) (P (s + 2)) (P (s + 3)) < 0 then 1 else 0):=by
 have n3:=c.n3
 obtain ⟨m,rfl⟩ : ∃ m,n = m + 3:=⟨n - 3,by omega⟩
 rw [← qU c (P (s + 1)) (P (s + 2)) s]
 rw [oN]
 ·simp only [Nat.zero_add]
  rw [show 1 + s = s + 1 by omega,show 2 + s = s + 2 by omega,show s + 1 + 1 = s + 2 by omega,show s + 2 + 1 = s + 3 by omega]
  have hp:=c.per s
  have d1 : (P s).h ≠ (P (s + 1)).h:=c.lev s (s + 1) (by omega) (by omega)
  have d2 : (P s).h ≠ (P (s + 2)).h:=c.lev s (s + 2) (by omega) (by omega)
  have d4 : (P (s + 3)).h ≠ (P (s + 2)).h:=c.lev' (by omega) (by omega)
  have d3 : (P (s + 3)).h ≠ (P (s + 1)).h:=c.lev' (by omega) (by omega)
  rw [uM _ _ _ h d1 d2,aES _ _ h,aGh _ _ _ h d3 d4]
  omega
 ·intro j h1 h2
  have k1 : (P (s + 1)).h ≠ (P (j + s)).h:=c.lev _ _ (by omega) (by omega)
  have k3 : (P (s + 2)).h ≠ (P (j + s)).h:=c.lev _ _ (by omega) (by omega)
  have k5 : (P (j + s)).h ≠ (P (j + s + 1)).h:=c.lev _ _ (by omega) (by omega)
  have k2 : (P (s + 1)).h ≠ (P (j + s + 1)).h:=c.lev _ _ (by omega) (by omega)
  have k4 : (P (s + 2)).h ≠ (P (j + s + 1)).h:=c.lev _ _ (by omega) (by omega)
  exact lP h k5 k1 k2 k3 k4 (c.apart (s + 1) (j + s) (by omega) (by omega))
theorem aJE {n : Nat} {P : Nat -> Q2} (c : Contour n P) (s : Nat) (h : (P (s + 2)).h < (P (s + 1)).h) :
  fG n P (P (s + 2)) - fG n P (P (s + 1)) = (if (P s).h < (P (s + 1)).h /\ crs (P (s + 2)) (P (s + 1)) (P s) < 0 then 1 else 0) - (if (P (s + 2)).h < (P (s + 3)).h /\ crs (P (s + 2)) (P (s + 1)) (P (s + 3)) < 0 then 1 else 0):=by
 have n3:=c.n3
 obtain ⟨m,rfl⟩ : ∃ m,n = m + 3:=⟨n - 3,by omega⟩
 rw [← qU c (P (s + 2)) (P (s + 1)) s]
 rw [oN]
 ·simp only [Nat.zero_add]
  rw [show 1 + s = s + 1 by omega,show 2 + s = s + 2 by omega,show s + 1 + 1 = s + 2 by omega,show s + 2 + 1 = s + 3 by omega]
  have d1 : (P s).h ≠ (P (s + 1)).h:=c.lev s (s + 1) (by omega) (by omega)
  have d2 : (P s).h ≠ (P (s + 2)).h:=c.lev s (s + 2) (by omega) (by omega)
  have d4 : (P (s + 3)).h ≠ (P (s + 2)).h:=c.lev' (by omega) (by omega)
  have d3 : (P (s + 3)).h ≠ (P (s + 1)).h:=c.lev' (by omega) (by omega)
  have r1:=pJ (P (s + 2)) (P (s + 1)) (P (s + 1),P s)
  have r2:=pJ (P (s + 2)) (P (s + 1)) (P (s + 3),P (s + 2))
  have r0:=pJ (P (s + 2)) (P (s + 1)) (P (s + 2),P (s + 1))
  unfold rev at r0 r1 r2
  simp only at r0 r1 r2
  rw [r0,r1,r2,aES _ _ h,aGh _ _ _ h d2 d1,uM _ _ _ h d4 d3]
  omega
 ·intro j h1 h2
  have k1 : (P (s + 1)).h ≠ (P (j + s)).h:=c.lev _ _ (by omega) (by omega)
  have k3 : (P (s + 2)).h ≠ (P (j + s)).h:=c.lev _ _ (by omega) (by omega)
  have k5 : (P (j + s)).h ≠ (P (j + s + 1)).h:=c.lev _ _ (by omega) (by omega)
  have k2 : (P (s + 1)).h ≠ (P (j + s + 1)).h:=c.lev _ _ (by omega) (by omega)
  have k4 : (P (s + 2)).h ≠ (P (j + s + 1)).h:=c.lev _ _ (by omega) (by omega)
  exact lP h k5 k3 k4 k1 k2 (oQ (c.apart (s + 1) (j + s) (by omega) (by omega)))
end Go.Proofs.YtngginofamlkkaaGreatDoor.PlaneG
namespace Go.Proofs.YtngginofamlkkaaGreatDoor.PlaneG
def b01 (P : Prop) [Decidable P] : Int:=if P then 1 else 0
def val (n : Nat) (P : Nat -> Q2) (s : Nat) : Int :=
 if (P (s + 1)).h < (P (s + 2)).h then fG n P (P (s + 1)) - b01 ((P (s + 1)).h < (P s).h /\ crs (P (s + 1)) (P (s + 2)) (P s) < 0)
 else fG n P (P (s + 1)) + b01 ((P s).h < (P (s + 1)).h /\ crs (P (s + 2)) (P (s + 1)) (P s) < 0) - 1
theorem aRd {n : Nat} {P : Nat -> Q2} (c : Contour n P) {s : Nat} (h : (P (s + 1)).h < (P (s + 2)).h) :
  val n P s = fG n P (P (s + 2)) - b01 ((P (s + 3)).h < (P (s + 2)).h /\ crs (P (s + 1)) (P (s + 2)) (P (s + 3)) < 0):=by
 have:=aOq c s h
 unfold val b01
 rw [if_pos h]
 omega
theorem aFJ {n : Nat} {P : Nat -> Q2} (c : Contour n P) {s : Nat} (h : (P (s + 2)).h < (P (s + 1)).h) :
  val n P s = fG n P (P (s + 2)) + b01 ((P (s + 2)).h < (P (s + 3)).h /\ crs (P (s + 2)) (P (s + 1)) (P (s + 3)) < 0) - 1:=by
 have:=aJE c s h
 unfold val b01
 rw [if_neg (by grind)]
 omega
theorem zB {P : Prop} [Decidable P] (h : P) : b01 P = 1:=if_pos h
theorem qN {P : Prop} [Decidable P] (h : ¬ P) : b01 P = 0:=if_neg h
theorem aLi {n : Nat} {P : Nat -> Q2} (c : Contour n P) (s : Nat) : val n P (s + 1) = val n P s:=by
 have n3:=c.n3
 have d1 : (P (s + 1)).h ≠ (P (s + 2)).h:=c.lev _ _ (by omega) (by omega)
 have d2 : (P (s + 2)).h ≠ (P (s + 3)).h:=c.lev _ _ (by omega) (by omega)
 have pk:=c.peak (s + 1)
 have g1:=fD (P (s + 1)) (P (s + 2)) (P (s + 3))
 have g2:=lE (P (s + 1)) (P (s + 2)) (P (s + 3))
 have g3:=lE (P (s + 2)) (P (s + 3)) (P (s + 1))
 have g4:=fD (P (s + 2)) (P (s + 3)) (P (s + 1))
 have g5:=lE (P (s + 3)) (P (s + 2)) (P (s + 1))
 have g6:=lE (P (s + 2)) (P (s + 1)) (P (s + 3))
 have hv : val n P (s + 1) = if (P (s + 2)).h < (P (s + 3)).h then fG n P (P (s + 2)) - b01 ((P (s + 2)).h < (P (s + 1)).h /\ crs (P (s + 2)) (P (s + 3)) (P (s + 1)) < 0) else fG n P (P (s + 2)) + b01 ((P (s + 1)).h < (P (s + 2)).h /\ crs (P (s + 3)) (P (s + 2)) (P (s + 1)) < 0) - 1:=rfl
 rw [show s + 1 + 1 = s + 2 by omega,show s + 1 + 2 = s + 3 by omega] at pk
 by_cases h1 : (P (s + 1)).h < (P (s + 2)).h
 ·rw [aRd c h1]
  by_cases h2 : (P (s + 2)).h < (P (s + 3)).h
  ·rw [hv,if_pos h2,qN (by grind),qN (by grind)]
  ·have h2' : (P (s + 3)).h < (P (s + 2)).h:=by grind
   rw [hv,if_neg h2]
   have ne:=pk (.inl ⟨h1,h2'⟩)
   by_cases h3 : crs (P (s + 1)) (P (s + 2)) (P (s + 3)) < 0
   ·rw [qN (by grind),zB (P:=(P (s + 3)).h < (P (s + 2)).h /\ _) ⟨h2',h3⟩]; omega
   ·rw [zB (P:=(P (s + 1)).h < (P (s + 2)).h /\ crs (P (s + 3)) (P (s + 2)) (P (s + 1)) < 0) (by grind),qN (P:=(P (s + 3)).h < (P (s + 2)).h /\ _) (by grind)]; omega
 ·have h1' : (P (s + 2)).h < (P (s + 1)).h:=by grind
  rw [aFJ c h1']
  by_cases h2 : (P (s + 2)).h < (P (s + 3)).h
  ·rw [hv,if_pos h2]
   have ne:=pk (.inr ⟨h1',h2⟩)
   by_cases h3 : crs (P (s + 1)) (P (s + 2)) (P (s + 3)) < 0
   ·rw [zB (P:=(P (s + 2)).h < (P (s + 1)).h /\ crs (P (s + 2)) (P (s + 3)) (P (s + 1)) < 0) (by grind),qN (P:=(P (s + 2)).h < (P (s + 3)).h /\ crs (P (s + 2)) (P (s + 1)) (P (s + 3)) < 0) (by grind)]; omega
   ·rw [qN (P:=(P (s + 2)).h < (P (s + 1)).h /\ crs (P (s + 2)) (P (s + 3)) (P (s + 1)) < 0) (by grind),zB (P:=(P (s + 2)).h < (P (s + 3)).h /\ crs (P (s + 2)) (P (s + 1)) (P (s + 3)) < 0) (by grind)]; omega
  ·rw [hv,if_neg h2,qN (by grind),qN (by grind)]
theorem gW {n : Nat} {P : Nat -> Q2} (c : Contour n P) : ∀ s,val n P s = val n P 0
 | 0=>rfl
 | s + 1=>(aLi c s).trans (gW c s)
theorem aB1 (f : Nat -> Rat) : ∀ n,∃ i,i <= n /\ ∀ j,j <= n -> f j <= f i
 | 0=>⟨0,Nat.le_refl _,fun j hj=>by
  obtain rfl : j = 0:=by omega
  exact Rat.le_refl⟩
 | n + 1=>by
  obtain ⟨i,hi,h⟩:=aB1 f n
  by_cases hc : f i < f (n + 1)
  ·refine ⟨n + 1,Nat.le_refl _,fun j hj=>?_⟩
   rcases Nat.lt_or_ge j (n + 1) with h' | h'
   ·have:=h j (by omega); grind
   ·obtain rfl : j = n + 1:=by omega
    exact Rat.le_refl
  ·refine ⟨i,by omega,fun j hj=>?_⟩
   rcases Nat.lt_or_ge j (n + 1) with h' | h'
   ·exact h j (by omega)
   ·obtain rfl : j = n + 1:=by omega
    grind
theorem Contour.mod {n : Nat} {P : Nat -> Q2} (c : Contour n P) : ∀ i,P i = P (i % n):=fun i=>by
 have n3:=c.n3
 have key : ∀ k r,P (r + n * k) = P r:=fun k=>by
  induction k with
  | zero=>intro r; simp
  | succ k ih=>intro r; rw [Nat.mul_succ,← Nat.add_assoc,c.per,ih]
 have:=key (i / n) (i % n)
 rw [Nat.mod_add_div] at this
 exact this
theorem sX {n : Nat} {P : Nat -> Q2} (c : Contour n P) : ∃ s,∀ j,(P j).h <= (P (s + 1)).h:=by
 have n3:=c.n3
 obtain ⟨i,hi,h⟩:=aB1 (fun j=>(P j).h) n
 refine ⟨i + n - 1,fun j=>?_⟩
 rw [show i + n - 1 + 1 = i + n by omega,c.per,c.mod j]
 exact h _ (Nat.le_of_lt (Nat.mod_lt _ (by omega)))
theorem aAh {n : Nat} {P : Nat -> Q2} {p : Q2} (h : ∀ j,(P j).h <= p.h) : fG n P p = 0:=by
 unfold fG
 rw [cM (g:=fun _=>0) fun j _=>?_,lR]
 unfold wt
 have h1:=h j
 have h2:=h (j + 1)
 simp only
 rw [if_neg (by grind),if_neg (by grind)]
theorem aHD {n : Nat} {P : Nat -> Q2} (c : Contour n P) : (∀ s,val n P s = 0) ∨ ∀ s,val n P s = -1:=by
 have n3:=c.n3
 obtain ⟨s,hs⟩:=sX c
 have d1 : (P (s + 1)).h ≠ (P (s + 2)).h:=c.lev _ _ (by omega) (by omega)
 have hd : ¬ (P (s + 1)).h < (P (s + 2)).h:=by have:=hs (s + 2); grind
 have hv : val n P s = 0 ∨ val n P s = -1:=by
  unfold val
  rw [if_neg hd,aAh hs]
  unfold b01
  split <;> omega
 rcases hv with e | e
 ·exact .inl fun t=>by rw [gW c t,← gW c s,e]
 ·exact .inr fun t=>by rw [gW c t,← gW c s,e]
end Go.Proofs.YtngginofamlkkaaGreatDoor.PlaneG
namespace Go.Proofs.YtngginofamlkkaaGreatDoor.PlaneG
open List (map_cons)
def iP (l : List (Rat × Int)) (x : Rat) : Int:=(l.map fun e=>if x < e.1 then e.2 else 0).sum
def cW (l : List (Rat × Int)) : Rat:=(l.map fun e=>(e.2 : Rat) * e.1).sum
def gS (l : List (Rat × Int)) : Int:=(l.map fun e=>e.2).sum
theorem wE {l m : List Int} (h : l.Perm m) : l.sum = m.sum:=by
 induction h with
 | nil=>rfl
 | cons a _ ih=>simp [ih]
 | swap a b l=>simp only [List.sum_cons]; omega
 | trans _ _ h1 h2=>rw [h1,h2]
theorem aCK {l m : List Rat} (h : l.Perm m) : l.sum = m.sum:=by
 induction h with
 | nil=>rfl
 | cons a _ ih=>simp [ih]
 | swap a b l=>simp only [List.sum_cons]; grind
 | trans _ _ h1 h2=>rw [h1,h2]
theorem aE3 : ∀ (l : List (Rat × Int)),l ≠ [] -> ∃ e ∈ l,∀ f ∈ l,f.1 <= e.1
 | [],h=>absurd rfl h
 | [a],_=>⟨a,by simp,fun f hf=>by simp at hf; subst hf; exact Rat.le_refl⟩
 | a :: b :: l,_=>by
  obtain ⟨e,he,h⟩:=aE3 (b :: l) (by simp)
  by_cases hc : e.1 < a.1
  ·refine ⟨a,by simp,fun f hf=>?_⟩
   rcases List.mem_cons.1 hf with rfl | hf
   ·exact Rat.le_refl
   ·have:=h f hf; grind
  ·refine ⟨e,List.mem_cons_of_mem _ he,fun f hf=>?_⟩
   rcases List.mem_cons.1 hf with rfl | hf
   ·grind
   ·exact h f hf
structure Alt (l : List (Rat × Int)) : Prop where
 nd : (l.map (·.1)).Nodup
 alt : ∀ e ∈ l,(e.2 = 1 /\ iP l e.1 = 0) ∨ (e.2 = -1 /\ iP l e.1 = 1)
theorem Alt.perm {l m : List (Rat × Int)} (h : l.Perm m) (a : Alt l) : Alt m :=
 ⟨(h.map _).nodup_iff.1 a.nd,fun e he=>by
  have:=a.alt e (h.mem_iff.2 he)
  unfold iP at this ⊢
  rwa [wE (h.map fun f=>if e.1 < f.1 then f.2 else 0)] at this⟩
theorem aCg {l : List (Rat × Int)} {x : Rat} (h : ∀ e ∈ l,e.1 <= x) : iP l x = 0:=by
 unfold iP
 induction l with
 | nil=>rfl
 | cons a l ih =>
  rw [map_cons,List.sum_cons,ih fun e he=>h e (List.mem_cons_of_mem _ he),if_neg (by have:=h a (by simp); grind)]
  rfl
theorem iK : ∀ (N : Nat) (l : List (Rat × Int)),l.length <= N -> Alt l -> gS l = 0 -> 0 <= cW l /\ (l ≠ [] -> 0 < cW l)
 | 0,l,hN,_,_=>by
  obtain rfl : l = []:=List.eq_nil_of_length_eq_zero (by omega)
  exact ⟨by unfold cW; simp,fun h=>absurd rfl h⟩
 | N + 1,l,hN,a,ht=>by
  by_cases h0 : l = []
  ·subst h0
   exact ⟨by unfold cW; simp,fun h=>absurd rfl h⟩
  obtain ⟨e1,m1,top1⟩:=aE3 l h0
  have p1:=List.perm_cons_erase m1
  generalize l.erase e1 = l1 at p1
  have a1:=a.perm p1
  have t1 : gS (e1 :: l1) = 0:=by unfold gS at ht ⊢; rwa [wE (p1.map _)] at ht
  have d1 : cW l = cW (e1 :: l1):=by unfold cW; exact aCK (p1.map _)
  have top1' : ∀ f ∈ l1,f.1 < e1.1:=fun f hf=>by
   have h1:=top1 f (p1.mem_iff.2 (List.mem_cons_of_mem _ hf))
   have nd:=a1.nd
   rw [map_cons,List.nodup_cons] at nd
   have : f.1 ≠ e1.1:=fun e=>nd.1 (by rw [← e]; exact List.mem_map_of_mem hf)
   grind
  have s1 : e1.2 = 1:=by
   have:=a1.alt e1 (by simp)
   rw [aCg (x:=e1.1)] at this
   ·omega
   ·intro f hf
    rcases List.mem_cons.1 hf with rfl | hf
    ·exact Rat.le_refl
    ·have:=top1' f hf; grind
  by_cases h1 : l1 = []
  ·subst h1
   unfold gS at t1
   simp at t1
   omega
  obtain ⟨e2,m2,top2⟩:=aE3 l1 h1
  have p2:=List.perm_cons_erase m2
  generalize l1.erase e2 = l2 at p2
  have q2:=p2.cons e1
  have a2:=a1.perm q2
  have t2 : gS (e1 :: e2 :: l2) = 0:=by unfold gS at t1 ⊢; rwa [wE (q2.map _)] at t1
  have d2 : cW (e1 :: l1) = cW (e1 :: e2 :: l2):=by unfold cW; exact aCK (q2.map _)
  have x12 : e2.1 < e1.1:=top1' e2 m2
  have top2' : ∀ f ∈ l2,f.1 < e2.1:=fun f hf=>by
   have h1:=top2 f (p2.mem_iff.2 (List.mem_cons_of_mem _ hf))
   have nd:=a2.nd
   rw [map_cons,map_cons,List.nodup_cons,List.nodup_cons] at nd
   have : f.1 ≠ e2.1:=fun e=>nd.2.1 (by rw [← e]; exact List.mem_map_of_mem hf)
   grind
  have g2 : ∀ x,iP (e1 :: e2 :: l2) x = (if x < e1.1 then e1.2 else 0) + ((if x < e2.1 then e2.2 else 0) + iP l2 x):=fun x=>by
   unfold iP; simp
  have s2 : e2.2 = -1:=by
   have:=a2.alt e2 (by simp)
   rw [g2,if_pos x12,if_neg (by grind),aCg fun f hf=>by have:=top2' f hf; grind] at this
   omega
  have a3 : Alt l2:=⟨by
   have nd:=a2.nd
   rw [map_cons,map_cons,List.nodup_cons,List.nodup_cons] at nd
   exact nd.2.2,fun f hf=>by
   have:=a2.alt f (by simp [hf])
   rw [g2,if_pos (by have:=top2' f hf; grind),if_pos (top2' f hf)] at this
   omega⟩
  have t3 : gS l2 = 0:=by
   unfold gS at t2 ⊢
   simp only [map_cons,List.sum_cons] at t2
   omega
  have hl : l2.length <= N:=by
   have:=p1.length_eq; have:=p2.length_eq
   simp only [List.length_cons] at *
   omega
  have ih:=(iK N l2 hl a3 t3).1
  have ed : cW (e1 :: e2 :: l2) = e1.1 + (-e2.1 + cW l2):=by
   unfold cW
   simp only [map_cons,List.sum_cons,s1,s2]
   grind
  have : 0 < cW l:=by rw [d1,d2,ed]; grind
  exact ⟨by grind,fun _=>this⟩
end Go.Proofs.YtngginofamlkkaaGreatDoor.PlaneG
namespace Go.Proofs.YtngginofamlkkaaGreatDoor.PlaneG
def X (u v : Q2) (y : Rat) : Rat:=u.x + (v.x - u.x) * ((y - u.h) / (v.h - u.h))
def at_ (u v : Q2) (y : Rat) : Q2:=⟨X u v y,y⟩
theorem aJh {u v : Q2} (h : u.h ≠ v.h) (t y : Rat) : crs u v ⟨t,y⟩ = (v.h - u.h) * (X u v y - t):=by
 have hn : v.h - u.h ≠ 0:=by grind
 have e : (v.h - u.h) * ((y - u.h) / (v.h - u.h)) = y - u.h:=by
  rw [Rat.div_def,Rat.mul_comm (y - u.h),← Rat.mul_assoc,Rat.mul_inv_cancel _ hn,Rat.one_mul]
 unfold crs X
 simp only
 generalize (y - u.h) / (v.h - u.h) = k at e
 grind
theorem aB6 {u v : Q2} (h : u.h ≠ v.h) (y : Rat) : X u v y = X v u y:=by
 have e1:=aJh h (X v u y) y
 have e2:=aJh (u:=v) (v:=u) (fun e=>h e.symm) (X v u y) y
 have e3:=fD u v ⟨X v u y,y⟩
 have hn : v.h - u.h ≠ 0:=by grind
 have : (v.h - u.h) * (X u v y - X v u y) = 0:=by grind
 rcases Rat.mul_eq_zero.1 this with h' | h'
 ·exact absurd h' hn
 ·grind
theorem wt_X {u v : Q2} (h : u.h ≠ v.h) (t y : Rat) : wt (u,v) ⟨t,y⟩ = if t < X u v y then (if u.h < y /\ y < v.h then 1 else if v.h < y /\ y < u.h then -1 else 0) else 0:=by
 have e:=aJh h t y
 by_cases hu : u.h < v.h
 ·have hp : 0 < v.h - u.h:=by grind
  rw [pQ hu]
  by_cases ht : t < X u v y
  ·have : 0 < crs u v ⟨t,y⟩:=by rw [e]; exact Rat.mul_pos hp (by grind)
   rw [if_pos ht]
   by_cases hc : u.h < y /\ y < v.h
   ·rw [if_pos hc,if_pos ⟨hc.1,hc.2,this⟩]
   ·rw [if_neg hc,if_neg (by grind),if_neg (by grind)]
  ·have : crs u v ⟨t,y⟩ <= 0:=by
    rw [e]
    have h0 : 0 <= t - X u v y:=by grind
    have:=Rat.mul_nonneg (Rat.le_of_lt hp) h0
    grind
   rw [if_neg ht,if_neg (by grind)]
 ·have hv : v.h < u.h:=by grind
  have hp : 0 < u.h - v.h:=by grind
  rw [uZ hv]
  by_cases ht : t < X u v y
  ·have : crs u v ⟨t,y⟩ < 0:=by
    have:=Rat.mul_pos hp (b:=X u v y - t) (by grind)
    rw [e]; grind
   rw [if_pos ht,if_neg (c:=u.h < y /\ y < v.h) (by grind)]
   by_cases hc : v.h < y /\ y < u.h
   ·rw [if_pos (c:=v.h < y /\ y < u.h /\ crs u v ⟨t,y⟩ < 0) ⟨hc.1,hc.2,this⟩,if_pos hc]
   ·rw [if_neg (c:=v.h < y /\ y < u.h /\ crs u v ⟨t,y⟩ < 0) (by grind),if_neg hc]; rfl
  ·have : 0 <= crs u v ⟨t,y⟩:=by
    rw [e]
    have h0 : 0 <= t - X u v y:=by grind
    have:=Rat.mul_nonneg (Rat.le_of_lt hp) h0
    grind
   rw [if_neg ht,if_neg (c:=v.h < y /\ y < u.h /\ crs u v ⟨t,y⟩ < 0) (by grind)]
   rfl
theorem uG {p q : Q2} (h : p.h < q.h) (y : Rat) (z : Q2) : (q.h - p.h) * crs p (at_ p q y) z = (y - p.h) * crs p q z:=by
 have hn : q.h - p.h ≠ 0:=by grind
 have e : (q.h - p.h) * ((y - p.h) / (q.h - p.h)) = y - p.h:=by
  rw [Rat.div_def,Rat.mul_comm (y - p.h),← Rat.mul_assoc,Rat.mul_inv_cancel _ hn,Rat.one_mul]
 unfold crs at_ X
 simp only
 generalize (y - p.h) / (q.h - p.h) = k at e
 grind
theorem tP {p q : Q2} (h : p.h < q.h) (y : Rat) (u v : Q2) : (q.h - p.h) * crs u v (at_ p q y) = (q.h - y) * crs u v p + (y - p.h) * crs u v q:=by
 have hn : q.h - p.h ≠ 0:=by grind
 have e : (q.h - p.h) * ((y - p.h) / (q.h - p.h)) = y - p.h:=by
  rw [Rat.div_def,Rat.mul_comm (y - p.h),← Rat.mul_assoc,Rat.mul_inv_cancel _ hn,Rat.one_mul]
 unfold crs at_ X
 simp only
 generalize (y - p.h) / (q.h - p.h) = k at e
 grind
end Go.Proofs.YtngginofamlkkaaGreatDoor.PlaneG
namespace Go.Proofs.YtngginofamlkkaaGreatDoor.PlaneG
theorem lT {k m c a : Rat} (hk : 0 < k) (hm : 0 < m) (e : k * c = m * a) : c < 0 ↔ a < 0:=by
 constructor
 ·intro h
  have h1:=Rat.mul_pos hk (b:=-c) (by grind)
  rcases Classical.em (a < 0) with h' | h'
  ·exact h'
  ·have:=Rat.mul_nonneg (Rat.le_of_lt hm) (b:=a) (by grind)
   grind
 ·intro h
  have h1:=Rat.mul_pos hm (b:=-a) (by grind)
  rcases Classical.em (c < 0) with h' | h'
  ·exact h'
  ·have:=Rat.mul_nonneg (Rat.le_of_lt hk) (b:=c) (by grind)
   grind
theorem wF {k m c a : Rat} (hk : 0 < k) (hm : 0 < m) (e : k * c = m * a) : 0 < c ↔ 0 < a:=by
 have:=lT (c:=-c) (a:=-a) hk hm (by grind)
 grind
theorem aRK {p q : Q2} (h : p.h < q.h) (y : Rat) : crs p q (at_ p q y) = 0:=by
 have e:=tP h y p q
 rw [aI0,aQe] at e
 have hn : q.h - p.h ≠ 0:=by grind
 have : (q.h - p.h) * crs p q (at_ p q y) = 0:=by grind
 rcases Rat.mul_eq_zero.1 this with h' | h'
 ·exact absurd h' hn
 ·exact h'
theorem pG {p q u v : Q2} (h : p.h < q.h) {y : Rat} (h1 : p.h < y) (h2 : y < q.h) (ha : jS p q u v) : jS p (at_ p q y) u v:=by
 have hk : 0 < q.h - p.h:=by grind
 have hm : 0 < y - p.h:=by grind
 have hl : 0 < q.h - y:=by grind
 have e1:=uG h y u
 have e2:=uG h y v
 have e3:=tP h y u v
 unfold jS at ha ⊢
 rcases ha with ⟨g1,g2⟩ | ⟨g1,g2⟩ | ⟨g1,g2⟩ | ⟨g1,g2⟩ | ⟨g1,g2,g3,g4,g5⟩
 rotate_right
 ·refine .inr (.inr (.inr (.inr ⟨?_,?_,g3,?_,?_⟩)))
  ·rw [g1,Rat.mul_zero] at e1
   rcases Rat.mul_eq_zero.1 e1 with h' | h'
   ·grind
   ·exact h'
  ·rw [g2,Rat.mul_zero] at e2
   rcases Rat.mul_eq_zero.1 e2 with h' | h'
   ·grind
   ·exact h'
  ·rw [g3,g4] at e3
   have e3' : (q.h - p.h) * crs u v (at_ p q y) = 0:=by grind
   rcases Rat.mul_eq_zero.1 e3' with h' | h'
   ·grind
   ·exact h'
  ·show (_ /\ _ /\ y < u.h /\ y < v.h) ∨ (_ /\ _ /\ u.h < y /\ v.h < y)
   grind
 ·exact .inl ⟨(lT hk hm e1).2 g1,(lT hk hm e2).2 g2⟩
 ·exact .inr (.inl ⟨(wF hk hm e1).2 g1,(wF hk hm e2).2 g2⟩)
 ·refine .inr (.inr (.inl ⟨g1,?_⟩))
  exact jF (a:=-crs u v p) (b:=-crs u v q) (m:=q.h - y) (n:=y - p.h) hk hl hm (by grind) (by grind) (by grind)
 ·refine .inr (.inr (.inr (.inl ⟨g1,?_⟩)))
  exact kF (a:=-crs u v p) (b:=-crs u v q) (m:=q.h - y) (n:=y - p.h) hk hl hm (by grind) (by grind) (by grind)
theorem aI6 {p q : Q2} (h : p.h < q.h) {y : Rat} (h1 : p.h < y) (h2 : y < q.h) : dlt p (at_ p q y) (p,q) = 0:=by
 have e:=aRK h y
 have ey : (at_ p q y).h = y:=rfl
 unfold dlt inR
 rw [pQ h,pQ h]
 simp only [ey,e]
 rw [if_neg (c:=p.h < p.h /\ p.h < q.h /\ 0 < crs p q p) (by grind),if_neg (c:=p.h < y /\ y < q.h /\ (0 : Rat) < 0) (by grind),if_neg (by grind),if_neg (by grind)]
 rfl
theorem aKC {p x u v : Q2} (h : p.h < x.h) (h1 : x.h < u.h) (h2 : x.h < v.h) : dlt p x (u,v) = 0:=by
 unfold dlt inR wt
 simp only
 rw [if_neg (c:=u.h < p.h /\ p.h < v.h /\ 0 < crs u v p) (by grind),if_neg (c:=v.h < p.h /\ p.h < u.h /\ crs u v p < 0) (by grind),if_neg (c:=u.h < x.h /\ x.h < v.h /\ 0 < crs u v x) (by grind),if_neg (c:=v.h < x.h /\ x.h < u.h /\ crs u v x < 0) (by grind),if_neg (by grind),if_neg (by grind)]
 rfl
theorem aFQ {p q w : Q2} (h : p.h < q.h) {y : Rat} (h1 : p.h < y) (h2 : y < q.h) (dw : w.h ≠ y) (dp : p.h ≠ w.h) (dq : q.h ≠ w.h) (hw : w.h < q.h -> crs p q w ≠ 0) : dlt p (at_ p q y) (q,w) = 0:=by
 have ey : (at_ p q y).h = y:=rfl
 by_cases hc : y < w.h
 ·exact aKC (by rw [ey]; exact h1) (by rw [ey]; exact h2) (by rw [ey]; exact hc)
 ·have hn:=hw (by grind)
  have hk : 0 < q.h - p.h:=by grind
  have hl : 0 < q.h - y:=by grind
  have e:=tP h y q w
  have c1:=lE p q w
  have c2:=aI0 q w
  refine lP (by rw [ey]; exact h1) dq (by grind) dp (by rw [ey]; grind) (by rw [ey]; grind) ?_
  have e' : (q.h - p.h) * crs q w (at_ p q y) = (q.h - y) * crs q w p:=by rw [e,c2]; grind
  unfold jS
  by_cases hs : crs p q w < 0
  ·exact .inr (.inr (.inl ⟨by grind,(lT hk hl e').2 (by grind)⟩))
  ·exact .inr (.inr (.inr (.inl ⟨by grind,(wF hk hl e').2 (by grind)⟩)))
theorem sQ {n : Nat} {P : Nat -> Q2} (c : Contour n P) {s : Nat} (h : (P (s + 1)).h < (P (s + 2)).h) {y : Rat} (h1 : (P (s + 1)).h < y) (h2 : y < (P (s + 2)).h) (gen : ∀ j,(P j).h ≠ y) :
  fG n P (at_ (P (s + 1)) (P (s + 2)) y) = val n P s:=by
 have n3:=c.n3
 obtain ⟨m,rfl⟩ : ∃ m,n = m + 3:=⟨n - 3,by omega⟩
 have hw:=qU c (P (s + 1)) (at_ (P (s + 1)) (P (s + 2)) y) s
 have ey : (at_ (P (s + 1)) (P (s + 2)) y).h = y:=rfl
 have hk : 0 < (P (s + 2)).h - (P (s + 1)).h:=by grind
 have hm : 0 < y - (P (s + 1)).h:=by grind
 rw [oN] at hw
 ·simp only [Nat.zero_add] at hw
  rw [show 1 + s = s + 1 by omega,show 2 + s = s + 2 by omega,show s + 1 + 1 = s + 2 by omega,show s + 2 + 1 = s + 3 by omega] at hw
  have d1 : (P s).h ≠ (P (s + 1)).h:=c.lev s (s + 1) (by omega) (by omega)
  have d3 : (P (s + 1)).h ≠ (P (s + 3)).h:=c.lev _ _ (by omega) (by omega)
  have d4 : (P (s + 2)).h ≠ (P (s + 3)).h:=c.lev _ _ (by omega) (by omega)
  rw [uM _ _ _ (by rw [ey]; exact h1) d1 (by rw [ey]; exact gen s),aI6 h h1 h2,aFQ h h1 h2 (gen _) d3 d4 (fun g=>c.peak (s + 1) (.inl ⟨h,g⟩))] at hw
  have e:=uG h y (P s)
  have es : (if (P (s + 1)).h < (P s).h /\ crs (P (s + 1)) (at_ (P (s + 1)) (P (s + 2)) y) (P s) < 0 then (1 : Int) else 0) = if (P (s + 1)).h < (P s).h /\ crs (P (s + 1)) (P (s + 2)) (P s) < 0 then 1 else 0:=mM (by rw [lT hk hm e])
  rw [es] at hw
  unfold val b01
  rw [if_pos h]
  omega
 ·intro j j1 j2
  have k1 : (P (s + 1)).h ≠ (P (j + s)).h:=c.lev _ _ (by omega) (by omega)
  have k5 : (P (j + s)).h ≠ (P (j + s + 1)).h:=c.lev _ _ (by omega) (by omega)
  have k2 : (P (s + 1)).h ≠ (P (j + s + 1)).h:=c.lev _ _ (by omega) (by omega)
  exact lP (by rw [ey]; exact h1) k5 k1 k2 (by rw [ey]; exact fun e=>gen _ e.symm) (by rw [ey]; exact fun e=>gen _ e.symm) (pG h h1 h2 (c.apart (s + 1) (j + s) (by omega) (by omega)))
end Go.Proofs.YtngginofamlkkaaGreatDoor.PlaneG
namespace Go.Proofs.YtngginofamlkkaaGreatDoor.PlaneG
theorem oK {n : Nat} {P : Nat -> Q2} (c : Contour n P) {s : Nat} (h : (P (s + 2)).h < (P (s + 1)).h) {y : Rat} (h1 : (P (s + 2)).h < y) (h2 : y < (P (s + 1)).h) (gen : ∀ j,(P j).h ≠ y) :
  fG n P (at_ (P (s + 2)) (P (s + 1)) y) = val n P s + 1:=by
 have n3:=c.n3
 rw [aFJ c h]
 obtain ⟨m,rfl⟩ : ∃ m,n = m + 3:=⟨n - 3,by omega⟩
 have hw:=qU c (P (s + 2)) (at_ (P (s + 2)) (P (s + 1)) y) s
 have ey : (at_ (P (s + 2)) (P (s + 1)) y).h = y:=rfl
 have hk : 0 < (P (s + 1)).h - (P (s + 2)).h:=by grind
 have hm : 0 < y - (P (s + 2)).h:=by grind
 rw [oN] at hw
 ·simp only [Nat.zero_add] at hw
  rw [show 1 + s = s + 1 by omega,show 2 + s = s + 2 by omega,show s + 1 + 1 = s + 2 by omega,show s + 2 + 1 = s + 3 by omega] at hw
  have d1 : (P s).h ≠ (P (s + 1)).h:=c.lev s (s + 1) (by omega) (by omega)
  have d2 : (P s).h ≠ (P (s + 2)).h:=c.lev s (s + 2) (by omega) (by omega)
  have d4 : (P (s + 2)).h ≠ (P (s + 3)).h:=c.lev _ _ (by omega) (by omega)
  have r1:=pJ (P (s + 2)) (at_ (P (s + 2)) (P (s + 1)) y) (P (s + 1),P s)
  have r2:=pJ (P (s + 2)) (at_ (P (s + 2)) (P (s + 1)) y) (P (s + 3),P (s + 2))
  have r0:=pJ (P (s + 2)) (at_ (P (s + 2)) (P (s + 1)) y) (P (s + 2),P (s + 1))
  unfold rev at r0 r1 r2
  simp only at r0 r1 r2
  have hz : (P s).h < (P (s + 1)).h -> crs (P (s + 2)) (P (s + 1)) (P s) ≠ 0:=fun g=>by
   have:=c.peak s (.inl ⟨g,h⟩)
   have e1:=fD (P (s + 1)) (P (s + 2)) (P s)
   have e2:=lE (P s) (P (s + 1)) (P (s + 2))
   grind
  rw [r0,r1,r2,aI6 h h1 h2,aFQ h h1 h2 (gen _) (fun e=>d2 e.symm) (fun e=>d1 e.symm) hz,uM _ _ _ (by rw [ey]; exact h1) (fun e=>d4 e.symm) (by rw [ey]; exact gen _)] at hw
  have e:=uG h y (P (s + 3))
  have es : (if (P (s + 2)).h < (P (s + 3)).h /\ crs (P (s + 2)) (at_ (P (s + 2)) (P (s + 1)) y) (P (s + 3)) < 0 then (1 : Int) else 0) = if (P (s + 2)).h < (P (s + 3)).h /\ crs (P (s + 2)) (P (s + 1)) (P (s + 3)) < 0 then 1 else 0:=mM (by rw [lT hk hm e])
  rw [es] at hw
  unfold b01
  omega
 ·intro j j1 j2
  have k3 : (P (s + 2)).h ≠ (P (j + s)).h:=c.lev _ _ (by omega) (by omega)
  have k5 : (P (j + s)).h ≠ (P (j + s + 1)).h:=c.lev _ _ (by omega) (by omega)
  have k4 : (P (s + 2)).h ≠ (P (j + s + 1)).h:=c.lev _ _ (by omega) (by omega)
  exact lP (by rw [ey]; exact h1) k5 k3 k4 (by rw [ey]; exact fun e=>gen _ e.symm) (by rw [ey]; exact fun e=>gen _ e.symm) (pG h h1 h2 (oQ (c.apart (s + 1) (j + s) (by omega) (by omega))))
def dir (u v : Q2) (y : Rat) : Int:=if u.h < y /\ y < v.h then 1 else if v.h < y /\ y < u.h then -1 else 0
theorem rO {n : Nat} {P : Nat -> Q2} (c : Contour n P) (t y : Rat) : fG n P ⟨t,y⟩ = isum n (fun j=>if t < X (P j) (P (j + 1)) y then dir (P j) (P (j + 1)) y else 0):=by
 have n3:=c.n3
 unfold fG
 exact cM fun j _=>wt_X (c.lev j (j + 1) (by omega) (by omega)) t y
end Go.Proofs.YtngginofamlkkaaGreatDoor.PlaneG
namespace Go.Proofs.YtngginofamlkkaaGreatDoor.PlaneG
theorem dS {u v : Q2} {y : Rat} (h : dir u v y ≠ 0) : (u.h < y /\ y < v.h /\ dir u v y = 1) ∨ (v.h < y /\ y < u.h /\ dir u v y = -1):=by
 unfold dir at h ⊢
 by_cases h1 : u.h < y /\ y < v.h
 ·rw [if_pos h1]; exact .inl ⟨h1.1,h1.2,rfl⟩
 ·rw [if_neg h1] at h ⊢
  by_cases h2 : v.h < y /\ y < u.h
  ·rw [if_pos h2]; exact .inr ⟨h2.1,h2.2,rfl⟩
  ·rw [if_neg h2] at h; exact absurd rfl h
theorem aDN {u v : Q2} (h : u.h ≠ v.h) (y : Rat) : crs u v ⟨X u v y,y⟩ = 0:=by
 rw [aJh h]; grind
theorem zY {u v : Q2} {y : Rat} (h : dir u v y ≠ 0) {p q : Q2} (h1 : crs p q u < 0) (h2 : crs p q v < 0) : crs p q ⟨X u v y,y⟩ < 0:=by
 rcases dS h with ⟨g1,g2,_⟩ | ⟨g1,g2,_⟩
 ·have e:=tP (p:=u) (q:=v) (by grind) y p q
  exact jF (a:=-crs p q u) (b:=-crs p q v) (m:=v.h - y) (n:=y - u.h) (k:=v.h - u.h) (by grind) (by grind) (by grind) (by show _ * crs p q (at_ u v y) = _; grind) (by grind) (by grind)
 ·have e:=tP (p:=v) (q:=u) (by grind) y p q
  rw [aB6 (by grind)]
  exact jF (a:=-crs p q v) (b:=-crs p q u) (m:=u.h - y) (n:=y - v.h) (k:=u.h - v.h) (by grind) (by grind) (by grind) (by show _ * crs p q (at_ v u y) = _; grind) (by grind) (by grind)
theorem aEG {u v : Q2} {y : Rat} (h : dir u v y ≠ 0) {p q : Q2} (h1 : 0 < crs p q u) (h2 : 0 < crs p q v) : 0 < crs p q ⟨X u v y,y⟩:=by
 have e1:=fD p q u
 have e2:=fD p q v
 have e3:=fD p q ⟨X u v y,y⟩
 have:=zY h (p:=q) (q:=p) (by grind) (by grind)
 grind
theorem aQF {p q u v : Q2} {y : Rat} (hp : dir p q y ≠ 0) (hu : dir u v y ≠ 0) (ha : jS p q u v) : X p q y ≠ X u v y:=fun e=>by
 have np : p.h ≠ q.h:=by rcases dS hp with h | h <;> grind
 have nu : u.h ≠ v.h:=by rcases dS hu with h | h <;> grind
 have z1:=aDN np y
 have z2:=aDN nu y
 rcases ha with ⟨g1,g2⟩ | ⟨g1,g2⟩ | ⟨g1,g2⟩ | ⟨g1,g2⟩ | ⟨_,_,_,_,g5⟩
 rotate_right
 ·rcases dS hp with h | h <;> rcases dS hu with k | k <;> grind
 ·have:=zY hu g1 g2; rw [← e] at this; grind
 ·have:=aEG hu g1 g2; rw [← e] at this; grind
 ·have:=zY hp g1 g2; rw [e] at this; grind
 ·have:=aEG hp g1 g2; rw [e] at this; grind
theorem aMp {a b c : Q2} {y : Rat} (h1 : dir a b y ≠ 0) (h2 : dir b c y ≠ 0) (hb : b.h ≠ y) (hc : ((a.h < b.h /\ c.h < b.h) ∨ (b.h < a.h /\ b.h < c.h)) -> crs a b c ≠ 0) : X a b y ≠ X b c y:=fun e=>by
 have n1 : a.h ≠ b.h:=by rcases dS h1 with h | h <;> grind
 have n2 : b.h ≠ c.h:=by rcases dS h2 with h | h <;> grind
 have z1:=aDN n1 y
 have z2:=aDN n2 y
 rw [← e] at z2
 have ne : crs a b c ≠ 0:=hc (by rcases dS h1 with g | g <;> rcases dS h2 with k | k <;> grind)
 have id : (y - b.h) * crs a b c = (a.h - b.h) * crs b c ⟨X a b y,y⟩ + (c.h - b.h) * crs a b ⟨X a b y,y⟩:=by unfold crs; grind
 rw [z1,z2] at id
 have : (y - b.h) * crs a b c = 0:=by grind
 rcases Rat.mul_eq_zero.1 this with h' | h'
 ·grind
 ·exact ne h'
theorem Contour.X_ne {n : Nat} {P : Nat -> Q2} (c : Contour n P) {y : Rat} (gen : ∀ j,(P j).h ≠ y) {i j : Nat} (hij : i < j) (hj : j < i + n) (h1 : dir (P i) (P (i + 1)) y ≠ 0) (h2 : dir (P j) (P (j + 1)) y ≠ 0) : X (P i) (P (i + 1)) y ≠ X (P j) (P (j + 1)) y:=by
 have n3:=c.n3
 by_cases e1 : j = i + 1
 ·subst e1
  exact aMp h1 h2 (gen _) (c.peak i)
 by_cases e2 : j + 1 = i + n
 ·have p1 : P (j + 1) = P i:=by rw [e2,c.per]
  have p2 : P (j + 2) = P (i + 1):=by rw [show j + 2 = i + 1 + n by omega,c.per]
  have:=aMp (a:=P j) (b:=P (j + 1)) (c:=P (j + 2)) (y:=y) h2 (by rw [p1,p2]; exact h1) (gen _) (c.peak j)
  rw [p2,p1] at this
  rw [p1]
  exact fun e=>this e.symm
 ·exact aQF h1 h2 (c.apart i j (by omega) (by omega))
def cl (P : Nat -> Q2) (y : Rat) : Nat -> List (Rat × Int)
 | 0=>[]
 | n + 1=>if dir (P n) (P (n + 1)) y = 0 then cl P y n else (X (P n) (P (n + 1)) y,dir (P n) (P (n + 1)) y) :: cl P y n
theorem tK (P : Nat -> Q2) (y x : Rat) : ∀ n,iP (cl P y n) x = isum n (fun j=>if x < X (P j) (P (j + 1)) y then dir (P j) (P (j + 1)) y else 0)
 | 0=>rfl
 | n + 1=>by
  have ih:=tK P y x n
  show iP (if _ then _ else _) x = isum n _ + _
  rw [← ih]
  by_cases h : dir (P n) (P (n + 1)) y = 0
  ·rw [if_pos h]; simp [h]
  ·rw [if_neg h]
   unfold iP
   simp only [List.map_cons,List.sum_cons]
   omega
theorem aIa (P : Nat -> Q2) (y : Rat) : ∀ n,gS (cl P y n) = isum n (fun j=>dir (P j) (P (j + 1)) y)
 | 0=>rfl
 | n + 1=>by
  have ih:=aIa P y n
  show gS (if _ then _ else _) = isum n _ + _
  rw [← ih]
  by_cases h : dir (P n) (P (n + 1)) y = 0
  ·rw [if_pos h]; simp [h]
  ·rw [if_neg h]
   unfold gS
   simp only [List.map_cons,List.sum_cons]
   omega
theorem oO {P : Nat -> Q2} {y : Rat} {e : Rat × Int} : ∀ {n},e ∈ cl P y n -> ∃ j,j < n /\ dir (P j) (P (j + 1)) y ≠ 0 /\ e = (X (P j) (P (j + 1)) y,dir (P j) (P (j + 1)) y)
 | 0,h=>by simp [cl] at h
 | n + 1,h=>by
  unfold cl at h
  split at h
  ·obtain ⟨j,h1,h2⟩:=oO h
   exact ⟨j,by omega,h2⟩
  ·rename_i hd
   rcases List.mem_cons.1 h with rfl | h
   ·exact ⟨n,by omega,hd,rfl⟩
   ·obtain ⟨j,h1,h2⟩:=oO h
    exact ⟨j,by omega,h2⟩
theorem aOO (u v : Q2) {y : Rat} (h1 : u.h ≠ y) (h2 : v.h ≠ y) : dir u v y = (if y < v.h then 1 else 0) - (if y < u.h then 1 else 0):=by
 unfold dir
 by_cases g1 : u.h < y <;> by_cases g2 : v.h < y
 ·rw [if_neg (by grind),if_neg (by grind),if_neg (by grind),if_neg (by grind)]; rfl
 ·rw [if_pos (by grind),if_pos (by grind),if_neg (by grind)]; rfl
 ·rw [if_neg (by grind),if_pos (by grind),if_neg (by grind),if_pos (by grind)]; rfl
 ·rw [if_neg (by grind),if_neg (by grind),if_pos (by grind),if_pos (by grind)]; rfl
theorem qT {n : Nat} {P : Nat -> Q2} (c : Contour n P) {y : Rat} (gen : ∀ j,(P j).h ≠ y) : gS (cl P y n) = 0:=by
 rw [aIa,cM fun j _=>aOO (P j) (P (j + 1)) (gen j) (gen (j + 1))]
 have t:=mL n (fun j=>if y < (P j).h then 1 else 0)
 have p : P n = P 0:=by have:=c.per 0; rwa [Nat.zero_add] at this
 simp only [p] at t
 omega
theorem uF {n : Nat} {P : Nat -> Q2} (c : Contour n P) {y : Rat} (gen : ∀ j,(P j).h ≠ y) : ∀ m,m <= n -> ((cl P y m).map (·.1)).Nodup
 | 0,_=>List.nodup_nil
 | m + 1,hm=>by
  have ih:=uF c gen m (by omega)
  unfold cl
  split
  ·exact ih
  ·rename_i hd
   rw [List.map_cons,List.nodup_cons]
   refine ⟨fun hx=>?_,ih⟩
   obtain ⟨e,he,hxe⟩:=List.mem_map.1 hx
   obtain ⟨j,hj,hdj,rfl⟩:=oO he
   exact c.X_ne gen hj (by omega) hdj hd hxe
end Go.Proofs.YtngginofamlkkaaGreatDoor.PlaneG
namespace Go.Proofs.YtngginofamlkkaaGreatDoor.PlaneG
theorem aGU {n : Nat} {P : Nat -> Q2} (c : Contour n P) (hv : ∀ s,val n P s = 0) {y : Rat} (gen : ∀ j,(P j).h ≠ y) : Alt (cl P y n):=by
 have n3:=c.n3
 refine ⟨uF c gen n (Nat.le_refl _),fun e he=>?_⟩
 obtain ⟨j,hj,hd,rfl⟩:=oO he
 have hw:=rO c (X (P j) (P (j + 1)) y) y
 rw [← tK] at hw
 simp only
 rw [← hw]
 have p0 : P (j + n - 1 + 1) = P j:=by rw [show j + n - 1 + 1 = j + n by omega,c.per]
 have p1 : P (j + n - 1 + 2) = P (j + 1):=by rw [show j + n - 1 + 2 = j + 1 + n by omega,c.per]
 rcases dS hd with ⟨g1,g2,g3⟩ | ⟨g1,g2,g3⟩
 ·left
  refine ⟨g3,?_⟩
  have:=sQ c (s:=j + n - 1) (y:=y) (by rw [p0,p1]; grind) (by rw [p0]; exact g1) (by rw [p1]; exact g2) gen
  rw [p0,p1,hv] at this
  exact this
 ·right
  refine ⟨g3,?_⟩
  have:=oK c (s:=j + n - 1) (y:=y) (by rw [p0,p1]; grind) (by rw [p1]; exact g1) (by rw [p0]; exact g2) gen
  rw [p0,p1,hv] at this
  rw [aB6 (by grind)]
  exact this
def flip (l : List (Rat × Int)) : List (Rat × Int):=l.map fun e=>(e.1,-e.2)
theorem aCv (l : List (Rat × Int)) (x : Rat) : iP (flip l) x = - iP l x:=by
 unfold iP flip
 induction l with
 | nil=>rfl
 | cons a l ih =>
  simp only [List.map_cons,List.sum_cons] at ih ⊢
  rw [ih]
  split <;> omega
theorem aC3 (l : List (Rat × Int)) : gS (flip l) = - gS l:=by
 unfold gS flip
 induction l with
 | nil=>rfl
 | cons a l ih =>
  simp only [List.map_cons,List.sum_cons] at ih ⊢
  rw [ih]
  omega
theorem aCH (l : List (Rat × Int)) : cW (flip l) = - cW l:=by
 unfold cW flip
 induction l with
 | nil=>simp
 | cons a l ih =>
  simp only [List.map_cons,List.sum_cons] at ih ⊢
  rw [ih,Rat.intCast_neg]
  grind
theorem aDx {n : Nat} {P : Nat -> Q2} (c : Contour n P) (hv : ∀ s,val n P s = -1) {y : Rat} (gen : ∀ j,(P j).h ≠ y) : Alt (flip (cl P y n)):=by
 have n3:=c.n3
 refine ⟨by
  have:=uF c gen n (Nat.le_refl _)
  unfold flip
  rw [List.map_map]
  exact this,fun e he=>?_⟩
 obtain ⟨e0,he0,rfl⟩:=List.mem_map.1 he
 obtain ⟨j,hj,hd,rfl⟩:=oO he0
 have hw:=rO c (X (P j) (P (j + 1)) y) y
 rw [← tK] at hw
 simp only
 rw [aCv,← hw]
 have p0 : P (j + n - 1 + 1) = P j:=by rw [show j + n - 1 + 1 = j + n by omega,c.per]
 have p1 : P (j + n - 1 + 2) = P (j + 1):=by rw [show j + n - 1 + 2 = j + 1 + n by omega,c.per]
 rcases dS hd with ⟨g1,g2,g3⟩ | ⟨g1,g2,g3⟩
 ·right
  refine ⟨by omega,?_⟩
  have:=sQ c (s:=j + n - 1) (y:=y) (by rw [p0,p1]; grind) (by rw [p0]; exact g1) (by rw [p1]; exact g2) gen
  rw [p0,p1,hv] at this
  unfold at_ at this
  omega
 ·left
  refine ⟨by omega,?_⟩
  have:=oK c (s:=j + n - 1) (y:=y) (by rw [p0,p1]; grind) (by rw [p1]; exact g1) (by rw [p0]; exact g2) gen
  rw [p0,p1,hv] at this
  rw [aB6 (by grind)]
  unfold at_ at this
  omega
theorem aKr {n : Nat} {P : Nat -> Q2} (c : Contour n P) : (∀ y,(∀ j,(P j).h ≠ y) -> 0 <= cW (cl P y n) /\ (cl P y n ≠ [] -> 0 < cW (cl P y n))) ∨ (∀ y,(∀ j,(P j).h ≠ y) -> cW (cl P y n) <= 0 /\ (cl P y n ≠ [] -> cW (cl P y n) < 0)):=by
 rcases aHD c with hv | hv
 ·exact .inl fun y gen=>iK _ _ (Nat.le_refl _) (aGU c hv gen) (qT c gen)
 ·refine .inr fun y gen=>?_
  have:=iK _ _ (Nat.le_refl _) (aDx c hv gen) (by rw [aC3,qT c gen]; rfl)
  rw [aCH] at this
  refine ⟨by grind,fun hne=>?_⟩
  have h2:=this.2 (by unfold flip; simpa using hne)
  grind
end Go.Proofs.YtngginofamlkkaaGreatDoor.PlaneG
namespace Go.Proofs.YtngginofamlkkaaGreatDoor.PlaneG
def bO : Nat -> (Nat -> Rat) -> Rat
 | 0,_=>0
 | n + 1,f=>bO n f + f n
theorem bJ {n : Nat} {f g : Nat -> Rat} (h : ∀ j,j < n -> f j = g j) : bO n f = bO n g:=by
 induction n with
 | zero=>rfl
 | succ n ih =>
  show bO n f + f n = bO n g + g n
  rw [ih fun j hj=>h j (by omega),h n (by omega)]
theorem aO3 (n : Nat) (f g : Nat -> Rat) : bO n (fun j=>f j + g j) = bO n f + bO n g:=by
 induction n with
 | zero=>show (0 : Rat) = 0 + 0; grind
 | succ n ih =>
  show bO n _ + (f n + g n) = bO n f + f n + (bO n g + g n)
  rw [ih]; grind
theorem aJx (n : Nat) : bO n (fun _=>0) = 0:=by
 induction n with
 | zero=>rfl
 | succ n ih=>show bO n _ + 0 = 0; rw [ih]; grind
theorem gV (m : Nat) (f : Nat -> Nat -> Rat) : ∀ n,bO n (fun j=>bO m (fun k=>f j k)) = bO m (fun k=>bO n (fun j=>f j k))
 | 0=>(aJx m).symm
 | n + 1=>by
  have ih:=gV m f n
  show bO n _ + bO m _ = bO m (fun k=>bO n (fun j=>f j k) + f n k)
  rw [ih,aO3]
def cZ (a b lo : Int) (m : Nat) : Int:=if lo + m <= a then 0 else if b <= lo + m then b - a else lo + m - a
def lv (z : Int) : Rat:=(z : Rat) + 1 / 2
theorem fS {a z : Int} : (a : Rat) < lv z ↔ a <= z:=by
 unfold lv
 constructor
 ·intro h
  rcases Int.lt_or_le z a with h' | h'
  ·have : (z : Rat) + 1 <= a:=by exact_mod_cast h'
   grind
  ·exact h'
 ·intro h
  have : (a : Rat) <= z:=by exact_mod_cast h
  grind
theorem fR {b z : Int} : lv z < (b : Rat) ↔ z < b:=by
 unfold lv
 constructor
 ·intro h
  rcases Int.lt_or_le z b with h' | h'
  ·exact h'
  ·have : (b : Rat) <= z:=by exact_mod_cast h'
   grind
 ·intro h
  have : (z : Rat) + 1 <= b:=by exact_mod_cast h
  grind
theorem aK5 {u v : Q2} {a b lo : Int} (hu : u.h = a) (hv : v.h = b) (hab : a < b) (hlo : lo <= a) (m : Nat) :
  bO m (fun k=>(dir u v (lv (lo + k)) : Rat) * (2 * X u v (lv (lo + k)))) = 2 * u.x * cZ a b lo m + (v.x - u.x) / (b - a) * cZ a b lo m * cZ a b lo m:=by
 induction m with
 | zero =>
  have : cZ a b lo 0 = 0:=by unfold cZ; rw [if_pos (by omega)]
  rw [this]
  show (0 : Rat) = _
  grind
 | succ m ih =>
  show bO m _ + (dir u v (lv (lo + m)) : Rat) * (2 * X u v (lv (lo + m))) = _
  rw [ih]
  by_cases h1 : lo + m + 1 <= a
  ·have e1 : cZ a b lo m = 0:=by unfold cZ; rw [if_pos (by omega)]
   have e2 : cZ a b lo (m + 1) = 0:=by unfold cZ; rw [if_pos (by omega)]
   have e3 : dir u v (lv (lo + m)) = 0:=by
    unfold dir
    rw [hu,hv,if_neg (by rw [fS]; omega),if_neg (by rw [fS]; omega)]
   rw [e1,e2,e3]
   grind
  ·by_cases h2 : b <= lo + m
   ·have e1 : cZ a b lo m = b - a:=by unfold cZ; rw [if_neg (by omega),if_pos (by omega)]
    have e2 : cZ a b lo (m + 1) = b - a:=by unfold cZ; rw [if_neg (by omega),if_pos (by omega)]
    have e3 : dir u v (lv (lo + m)) = 0:=by
     unfold dir
     rw [hu,hv,if_neg (by rw [fR]; omega),if_neg (by rw [fR]; omega)]
    rw [e1,e2,e3]
    grind
   ·have e1 : cZ a b lo m = lo + m - a:=by
     unfold cZ
     by_cases h3 : lo + (m : Int) <= a
     ·rw [if_pos h3]; omega
     ·rw [if_neg h3,if_neg (by omega)]
    have e2 : cZ a b lo (m + 1) = lo + m - a + 1:=by
     unfold cZ
     rw [if_neg (by omega)]
     by_cases h3 : b <= lo + ((m + 1 : Nat) : Int)
     ·rw [if_pos h3]; omega
     ·rw [if_neg h3]; omega
    have e3 : dir u v (lv (lo + m)) = 1:=by
     unfold dir
     rw [hu,hv,if_pos (by rw [fS,fR]; omega)]
    rw [e1,e2,e3]
    generalize hz : lo + (m : Int) = z
    unfold X lv
    rw [hu,hv]
    have hn : (b : Rat) - a ≠ 0:=by
     have : (a : Rat) < b:=by exact_mod_cast hab
     grind
    have d1 : ∀ t : Rat,(v.x - u.x) * (t / ((b : Rat) - a)) = (v.x - u.x) / (b - a) * t:=fun t=>by
     rw [Rat.div_def,Rat.div_def]; grind
    rw [d1]
    generalize (v.x - u.x) / ((b : Rat) - a) = k
    simp only [Rat.intCast_add,Rat.intCast_sub,Rat.intCast_one]
    grind
theorem aFE {u v : Q2} {a b lo : Int} {K : Nat} (hu : u.h = a) (hv : v.h = b) (hab : a < b) (hlo : lo <= a) (hK : b <= lo + K) :
  bO K (fun k=>(dir u v (lv (lo + k)) : Rat) * (2 * X u v (lv (lo + k)))) = (u.x + v.x) * (v.h - u.h):=by
 rw [aK5 hu hv hab hlo,hu,hv]
 have e : cZ a b lo K = b - a:=by unfold cZ; rw [if_neg (by omega),if_pos hK]
 have hn : (b : Rat) - a ≠ 0:=by
  have : (a : Rat) < b:=by exact_mod_cast hab
  grind
 rw [e,Rat.intCast_sub]
 have d1 : (v.x - u.x) / ((b : Rat) - a) * ((b : Rat) - a) = v.x - u.x:=by
  rw [Rat.div_def,Rat.mul_assoc,Rat.inv_mul_cancel _ hn,Rat.mul_one]
 rw [d1]
 grind
end Go.Proofs.YtngginofamlkkaaGreatDoor.PlaneG
namespace Go.Proofs.YtngginofamlkkaaGreatDoor.PlaneG
def lC (n : Nat) (P : Nat -> Q2) : Rat:=bO n (fun j=>((P j).x + (P (j + 1)).x) * ((P (j + 1)).h - (P j).h))
theorem aDK (u v : Q2) (y : Rat) : dir v u y = - dir u v y:=by
 unfold dir
 by_cases h1 : u.h < y /\ y < v.h
 ·rw [if_pos h1,if_neg (by grind),if_pos (by grind)]
 ·by_cases h2 : v.h < y /\ y < u.h
  ·rw [if_pos h2,if_neg h1,if_pos h2]; rfl
  ·rw [if_neg h2,if_neg h1,if_neg h1,if_neg h2]; rfl
theorem rB (n : Nat) (f : Nat -> Rat) : bO n (fun j=>- f j) = - bO n f:=by
 induction n with
 | zero=>show (0 : Rat) = -0; grind
 | succ n ih=>show bO n _ + - f n = -(bO n f + f n); rw [ih]; grind
theorem aNA {u v : Q2} {a b lo : Int} {K : Nat} (hu : u.h = a) (hv : v.h = b) (hab : a ≠ b) (ha : lo <= a) (hb : lo <= b) (hKa : a <= lo + K) (hKb : b <= lo + K) :
  bO K (fun k=>(dir u v (lv (lo + k)) : Rat) * (2 * X u v (lv (lo + k)))) = (u.x + v.x) * (v.h - u.h):=by
 rcases Int.lt_or_lt_of_ne hab with h | h
 ·exact aFE hu hv h ha hKb
 ·have hne : u.h ≠ v.h:=by
   rw [hu,hv]
   intro e
   have : a = b:=by exact_mod_cast e
   exact hab this
  have e:=aFE hv hu h hb hKa
  have : bO K (fun k=>(dir u v (lv (lo + k)) : Rat) * (2 * X u v (lv (lo + k)))) = bO K (fun k=>- ((dir v u (lv (lo + k)) : Rat) * (2 * X v u (lv (lo + k))))):=bJ fun k _=>by
   rw [aDK u v,aB6 hne,Rat.intCast_neg]
   grind
  rw [this,rB,e]
  grind
theorem pC (P : Nat -> Q2) (y : Rat) : ∀ n,cW (cl P y n) = bO n (fun j=>(dir (P j) (P (j + 1)) y : Rat) * X (P j) (P (j + 1)) y)
 | 0=>rfl
 | n + 1=>by
  have ih:=pC P y n
  show cW (if _ then _ else _) = bO n _ + _
  rw [← ih]
  by_cases h : dir (P n) (P (n + 1)) y = 0
  ·rw [if_pos h]
   simp only [h,Rat.intCast_zero]
   grind
  ·rw [if_neg h]
   unfold cW
   simp only [List.map_cons,List.sum_cons]
   grind
theorem aFG (n : Nat) (f g : Nat -> Rat) : bO n (fun j=>f j * (2 * g j)) = 2 * bO n (fun j=>f j * g j):=by
 induction n with
 | zero=>show (0 : Rat) = 2 * 0; grind
 | succ n ih=>show bO n _ + f n * (2 * g n) = 2 * (bO n _ + f n * g n); rw [ih]; grind
theorem kG {n : Nat} {P : Nat -> Q2} (c : Contour n P) {H : Nat -> Int} (hH : ∀ j,(P j).h = H j) {lo : Int} {K : Nat} (h1 : ∀ j,lo <= H j) (h2 : ∀ j,H j <= lo + K) :
  lC n P = bO K (fun k=>2 * cW (cl P (lv (lo + k)) n)):=by
 have n3:=c.n3
 have e : ∀ j,j < n -> ((P j).x + (P (j + 1)).x) * ((P (j + 1)).h - (P j).h) = bO K (fun k=>(dir (P j) (P (j + 1)) (lv (lo + k)) : Rat) * (2 * X (P j) (P (j + 1)) (lv (lo + k)))):=fun j _ =>
  (aNA (hH j) (hH (j + 1)) (fun e=>c.lev j (j + 1) (by omega) (by omega) (by rw [hH,hH,e])) (h1 j) (h1 (j + 1)) (h2 j) (h2 (j + 1))).symm
 unfold lC
 rw [bJ e,gV]
 refine bJ fun k _=>?_
 rw [pC,aFG]
theorem aAC {n : Nat} {f : Nat -> Rat} (h : ∀ j,j < n -> 0 <= f j) {i : Nat} (hi : i < n) (hp : 0 < f i) : 0 < bO n f:=by
 induction n with
 | zero=>omega
 | succ n ih =>
  show 0 < bO n f + f n
  have nn : ∀ m,m <= n -> 0 <= bO m f:=fun m hm=>by
   induction m with
   | zero=>exact Rat.le_refl
   | succ m ihm =>
    show 0 <= bO m f + f m
    have:=ihm (by omega)
    have:=h m (by omega)
    grind
  rcases Nat.lt_or_ge i n with h' | h'
  ·have:=ih (fun j hj=>h j (by omega)) h'
   have:=h n (by omega)
   grind
  ·obtain rfl : i = n:=by omega
   have:=nn i (Nat.le_refl _)
   grind
theorem aE9 {P : Nat -> Q2} {y : Rat} : ∀ {n j : Nat},j < n -> dir (P j) (P (j + 1)) y ≠ 0 -> cl P y n ≠ []
 | 0,j,h,_=>by omega
 | n + 1,j,h,hd=>by
  unfold cl
  by_cases e : dir (P n) (P (n + 1)) y = 0
  ·rw [if_pos e]
   refine aE9 (j:=j) ?_ hd
   rcases Nat.lt_or_ge j n with h' | h'
   ·exact h'
   ·obtain rfl : j = n:=by omega
    exact absurd e hd
  ·rw [if_neg e]; simp
theorem area_ne {n : Nat} {P : Nat -> Q2} (c : Contour n P) {H : Nat -> Int} (hH : ∀ j,(P j).h = H j) {lo : Int} {K : Nat} (h1 : ∀ j,lo <= H j) (h2 : ∀ j,H j <= lo + K) : lC n P ≠ 0:=by
 have n3:=c.n3
 have gen : ∀ (z : Int) j,(P j).h ≠ lv z:=fun z j e=>by
  rw [hH] at e
  rcases Int.lt_or_le z (H j) with h | h
  ·have:=fR.2 h; grind
  ·have:=fS.2 h; grind
 have hne : H 0 ≠ H 1:=fun e=>c.lev 0 1 (by omega) (by omega) (by rw [hH,hH,e])
 obtain ⟨k,hk,hd⟩ : ∃ k : Nat,k < K /\ dir (P 0) (P 1) (lv (lo + k)) ≠ 0:=by
  have a0:=h1 0; have a1:=h1 1; have b0:=h2 0; have b1:=h2 1
  rcases Int.lt_or_lt_of_ne hne with h | h
  ·refine ⟨(H 0 - lo).toNat,by omega,?_⟩
   unfold dir
   rw [hH,hH,if_pos (by rw [fS,fR]; omega)]
   decide
  ·refine ⟨(H 1 - lo).toNat,by omega,?_⟩
   unfold dir
   rw [hH,hH,if_neg (by rw [fS,fR]; omega),if_pos (by rw [fS,fR]; omega)]
   decide
 have hc:=aE9 (n:=n) (j:=0) (by omega) hd
 rw [kG c hH h1 h2]
 rcases aKr c with hs | hs
 ·have : 0 < bO K (fun k=>2 * cW (cl P (lv (lo + k)) n)):=aAC (i:=k) (fun j _=>by
   have:=(hs (lv (lo + j)) (gen _)).1; grind) hk (by have:=(hs (lv (lo + k)) (gen _)).2 hc; grind)
  grind
 ·have : 0 < bO K (fun k=>- (2 * cW (cl P (lv (lo + k)) n))):=aAC (i:=k) (fun j _=>by
   have:=(hs (lv (lo + j)) (gen _)).1; grind) hk (by have:=(hs (lv (lo + k)) (gen _)).2 hc; grind)
  rw [rB] at this
  grind
end Go.Proofs.YtngginofamlkkaaGreatDoor.PlaneG
namespace Go.Proofs.YtngginofamlkkaaGreatDoor.PlaneG
def sh (M : Int) (x y : Int) : Q2:=⟨x,(M * y - x : Int)⟩
def crsI (ax ay bx b_y cx cy : Int) : Int:=(bx - ax) * (cy - ay) - (b_y - ay) * (cx - ax)
theorem aQW (M ax ay bx b_y cx cy : Int) : crs (sh M ax ay) (sh M bx b_y) (sh M cx cy) = ((M * crsI ax ay bx b_y cx cy : Int) : Rat):=by
 unfold crs sh crsI
 simp only [Rat.intCast_sub,Rat.intCast_mul]
 grind
end Go.Proofs.YtngginofamlkkaaGreatDoor.PlaneG

namespace Go.Proofs.YtngginofamlkkaaGreatDoor.PlaneG
open Int (lt_or_le)
structure I2 where
 x : Int
 y : Int
 deriving DecidableEq
def cri (a b c : I2) : Int:=(b.x - a.x) * (c.y - a.y) - (b.y - a.y) * (c.x - a.x)
def dti (a b c : I2) : Int:=(a.x - b.x) * (c.x - b.x) + (a.y - b.y) * (c.y - b.y)
def onI (a b q : I2) : Prop:=cri a b q = 0 /\ min a.x b.x <= q.x /\ q.x <= max a.x b.x /\ min a.y b.y <= q.y /\ q.y <= max a.y b.y
def opp (p q : Int) : Prop:=(p < 0 /\ 0 < q) ∨ (0 < p /\ q < 0)
def aCY (a b c d : I2) : Prop:=onI a b c ∨ onI a b d ∨ onI c d a ∨ onI c d b ∨ (opp (cri a b c) (cri a b d) /\ opp (cri c d a) (cri c d b))
theorem sq_nn (z : Int) : 0 <= z * z:=by
 rcases Int.le_total 0 z with h | h
 ·exact Int.mul_nonneg h h
 ·exact Int.mul_nonneg_of_nonpos_of_nonpos h h
theorem btw0 {a b c d : Int} (hc : a * d = b * c) (hd : a * c + b * d <= 0) : a * c <= 0 /\ b * d <= 0:=by
 have sq : (a * c) * (b * d) = (a * d) * (a * d):=by grind
 have nn:=sq_nn (a * d)
 constructor
 ·rcases lt_or_le 0 (a * c) with h | h
  ·have:=Int.mul_neg_of_pos_of_neg h (show b * d < 0 by omega)
   omega
  ·exact h
 ·rcases lt_or_le 0 (b * d) with h | h
  ·have:=Int.mul_neg_of_pos_of_neg h (show a * c < 0 by omega)
   have e : (b * d) * (a * c) = (a * c) * (b * d):=Int.mul_comm _ _
   omega
  ·exact h
theorem aIn {a b : Int} (h : a * b <= 0) : (a <= 0 /\ 0 <= b) ∨ (b <= 0 /\ 0 <= a):=by
 rcases lt_or_le 0 a with h1 | h1
 ·rcases lt_or_le 0 b with h2 | h2
  ·have:=Int.mul_pos h1 h2
   omega
  ·exact .inr ⟨h2,by omega⟩
 ·rcases lt_or_le b 0 with h2 | h2
  ·rcases lt_or_le a 0 with h3 | h3
   ·have:=Int.mul_pos_of_neg_of_neg h3 h2
    omega
   ·exact .inr ⟨by omega,h3⟩
  ·exact .inl ⟨h1,h2⟩
theorem eI (a b c : I2) : cri a b c = - cri b a c:=by unfold cri; grind
theorem aPl {a b q : I2} (h : onI a b q) : onI b a q:=by
 unfold onI at *
 have:=eI a b q
 omega
theorem out_dot {a b c : I2} (h : cri a b c = 0) (hn : ¬ onI a b c) : 0 < dti a c b:=by
 rcases lt_or_le 0 (dti a c b) with h0 | h0
 ·exact h0
 exfalso
 have e : (a.x - c.x) * (b.y - c.y) = (a.y - c.y) * (b.x - c.x):=by
  unfold cri at h
  grind
 obtain ⟨h1,h2⟩:=btw0 e h0
 apply hn
 refine ⟨h,?_⟩
 rcases aIn h1 with ⟨x1,x2⟩ | ⟨x1,x2⟩ <;> rcases aIn h2 with ⟨y1,y2⟩ | ⟨y1,y2⟩ <;> omega
theorem aHg {r s k m : Int} (hk : 0 < k) (hm : 0 < m) (e : r * k = s * m) : (r < 0 ↔ s < 0) /\ (0 < r ↔ 0 < s):=by
 constructor
 ·constructor
  ·intro h
   have h1:=Int.mul_neg_of_neg_of_pos h hk
   rcases lt_or_le s 0 with h2 | h2
   ·exact h2
   ·have:=Int.mul_nonneg h2 (show 0 <= m by omega)
    omega
  ·intro h
   have h1:=Int.mul_neg_of_neg_of_pos h hm
   rcases lt_or_le r 0 with h2 | h2
   ·exact h2
   ·have:=Int.mul_nonneg h2 (show 0 <= k by omega)
    omega
 ·constructor
  ·intro h
   have h1:=Int.mul_pos h hk
   rcases lt_or_le 0 s with h2 | h2
   ·exact h2
   ·have:=Int.mul_nonpos_of_nonpos_of_nonneg h2 (show 0 <= m by omega)
    omega
  ·intro h
   have h1:=Int.mul_pos h hm
   rcases lt_or_le 0 r with h2 | h2
   ·exact h2
   ·have:=Int.mul_nonpos_of_nonpos_of_nonneg h2 (show 0 <= k by omega)
    omega
theorem kK {e f : Int} (he : e ≠ 0) (h : e * f = 0) : f = 0:=by
 rcases Int.mul_eq_zero.1 h with h | h
 ·exact absurd h he
 ·exact h
theorem I2.ne {a b : I2} (h : a ≠ b) : b.x - a.x ≠ 0 ∨ b.y - a.y ≠ 0:=by
 by_cases h1 : b.x - a.x = 0
 ·refine .inr fun h2=>h ?_
  cases a; cases b
  simp only [I2.mk.injEq] at *
  omega
 ·exact .inl h1
theorem kM {a b c d : I2} (h : cri a b c = 0) (hd : cri a b d ≠ 0) (hn : ¬ onI a b c) : (cri c d a < 0 /\ cri c d b < 0) ∨ (0 < cri c d a /\ 0 < cri c d b):=by
 have hp:=out_dot h hn
 have e : cri c d a * dti a c b = cri c d b * dti a c a:=by
  unfold cri dti at *
  grind
 have hm : 0 < dti a c a:=by
  have h1:=sq_nn (a.x - c.x)
  have h2:=sq_nn (a.y - c.y)
  rcases lt_or_le 0 (dti a c a) with h3 | h3
  ·exact h3
  ·exfalso
   unfold dti at h3 hp
   have z1 : (a.x - c.x) * (a.x - c.x) = 0:=by omega
   have z2 : (a.y - c.y) * (a.y - c.y) = 0:=by omega
   have z1 : a.x - c.x = 0:=by rcases Int.mul_eq_zero.1 z1 with h | h <;> exact h
   have z2 : a.y - c.y = 0:=by rcases Int.mul_eq_zero.1 z2 with h | h <;> exact h
   rw [z1,z2,Int.zero_mul,Int.zero_mul] at hp
   omega
 have hs : cri a b d = cri c d a - cri c d b:=by
  unfold cri at *
  grind
 obtain ⟨g1,g2⟩:=aHg hp hm e
 omega
theorem uT {a b c d : I2} (hab : a ≠ b) (h1 : cri a b c = 0) (h2 : cri a b d = 0) : cri c d a = 0 /\ cri c d b = 0:=by
 rcases I2.ne hab with h | h
 ·constructor <;>
   (refine kK h ?_; unfold cri at *; grind)
 ·constructor <;>
   (refine kK h ?_; unfold cri at *; grind)
def lvl (M : Int) (a : I2) : Int:=M * a.y - a.x
theorem scale_btw {e d k K : Int} (hK : 0 < K) (h0 : 0 <= k) (h1 : k <= K) (eq : e * K = d * k) : min 0 d <= e /\ e <= max 0 d:=by
 rcases Int.le_total 0 d with hd | hd
 ·have a1:=Int.mul_nonneg hd h0
  have a2:=Int.mul_le_mul_of_nonneg_left h1 hd
  constructor
  ·rcases lt_or_le e 0 with h | h
   ·have:=Int.mul_neg_of_neg_of_pos h hK
    omega
   ·omega
  ·rcases lt_or_le d e with h | h
   ·have:=Int.mul_lt_mul_of_pos_right h hK
    omega
   ·omega
 ·have a1:=Int.mul_nonpos_of_nonpos_of_nonneg hd h0
  have a2:=Int.mul_le_mul_of_nonpos_left hd h1
  constructor
  ·rcases lt_or_le e d with h | h
   ·have:=Int.mul_lt_mul_of_pos_right h hK
    omega
   ·omega
  ·rcases lt_or_le 0 e with h | h
   ·have:=Int.mul_pos h hK
    omega
   ·omega
theorem aNZ {M : Int} {a b c : I2} (h : cri a b c = 0) (hl : lvl M a < lvl M b) (h1 : lvl M a <= lvl M c) (h2 : lvl M c <= lvl M b) : onI a b c:=by
 have e1 : (c.x - a.x) * (lvl M b - lvl M a) = (b.x - a.x) * (lvl M c - lvl M a):=by
  unfold cri at h; unfold lvl; grind
 have e2 : (c.y - a.y) * (lvl M b - lvl M a) = (b.y - a.y) * (lvl M c - lvl M a):=by
  unfold cri at h; unfold lvl; grind
 have b1:=scale_btw (by omega) (by omega) (by omega) e1
 have b2:=scale_btw (by omega) (by omega) (by omega) e2
 refine ⟨h,?_⟩
 omega
theorem aEc {M : Int} {a b c : I2} (h : cri a b c = 0) (hne : lvl M a ≠ lvl M b) (hn : ¬ onI a b c) : (lvl M c < lvl M a /\ lvl M c < lvl M b) ∨ (lvl M a < lvl M c /\ lvl M b < lvl M c):=by
 rcases Int.lt_or_gt_of_ne hne with hl | hl
 ·by_cases h1 : lvl M a <= lvl M c
  ·by_cases h2 : lvl M c <= lvl M b
   ·exact absurd (aNZ h hl h1 h2) hn
   ·omega
  ·omega
 ·by_cases h1 : lvl M b <= lvl M c
  ·by_cases h2 : lvl M c <= lvl M a
   ·exact absurd (aPl (aNZ (by rw [eI,h]; rfl) hl h1 h2)) hn
   ·omega
  ·omega
def Bd (N : Int) (a : I2) : Prop:=-N <= a.x /\ a.x <= N
theorem aDO {M N : Int} (hM : 2 * N < M) {a b : I2} (ha : Bd N a) (hb : Bd N b) (h : a ≠ b) : lvl M a ≠ lvl M b:=by
 intro e
 apply h
 unfold Bd at *
 unfold lvl at e
 have e2 : M * (b.y - a.y) = b.x - a.x:=by grind
 have hN : 0 <= N:=by omega
 have hy : b.y - a.y = 0:=by
  rcases lt_or_le 0 (b.y - a.y) with h | h
  ·have:=Int.mul_le_mul_of_nonneg_left (show 1 <= b.y - a.y by omega) (show 0 <= M by omega)
   omega
  ·rcases lt_or_le (b.y - a.y) 0 with h | h
   ·have:=Int.mul_le_mul_of_nonneg_left (show b.y - a.y <= -1 by omega) (show 0 <= M by omega)
    omega
   ·omega
 rw [hy,Int.mul_zero] at e2
 cases a; cases b
 simp only [I2.mk.injEq] at *
 omega
def shp (M : Int) (a : I2) : Q2:=⟨a.x,(lvl M a : Int)⟩
theorem zD (M : Int) (a b c : I2) : crs (shp M a) (shp M b) (shp M c) = ((M * cri a b c : Int) : Rat):=aQW M a.x a.y b.x b.y c.x c.y
theorem aJd {M : Int} (hM : 0 < M) {a b c : I2} : crs (shp M a) (shp M b) (shp M c) < 0 ↔ cri a b c < 0:=by
 rw [zD]
 have : ((M * cri a b c : Int) : Rat) < ((0 : Int) : Rat) ↔ M * cri a b c < 0:=Rat.intCast_lt_intCast
 rw [show (0 : Rat) = ((0 : Int) : Rat) from rfl,this]
 constructor
 ·intro h
  rcases lt_or_le (cri a b c) 0 with h2 | h2
  ·exact h2
  ·have:=Int.mul_nonneg (show 0 <= M by omega) h2
   omega
 ·intro h
  exact Int.mul_neg_of_pos_of_neg hM h
theorem aJa {M : Int} (hM : 0 < M) {a b c : I2} : 0 < crs (shp M a) (shp M b) (shp M c) ↔ 0 < cri a b c:=by
 rw [zD]
 have : ((0 : Int) : Rat) < ((M * cri a b c : Int) : Rat) ↔ 0 < M * cri a b c:=Rat.intCast_lt_intCast
 rw [show (0 : Rat) = ((0 : Int) : Rat) from rfl,this]
 constructor
 ·intro h
  rcases lt_or_le 0 (cri a b c) with h2 | h2
  ·exact h2
  ·have:=Int.mul_nonpos_of_nonneg_of_nonpos (show 0 <= M by omega) h2
   omega
 ·intro h
  exact Int.mul_pos hM h
theorem vZ {M : Int} {a b c : I2} (h : cri a b c = 0) : crs (shp M a) (shp M b) (shp M c) = 0:=by
 rw [zD,h,Int.mul_zero]
 rfl
theorem aHw {M : Int} {a b : I2} : (shp M a).h < (shp M b).h ↔ lvl M a < lvl M b:=Rat.intCast_lt_intCast
theorem aEI {M N : Int} (hM : 2 * N < M) {a b c d : I2} (ha : Bd N a) (hb : Bd N b) (hc : Bd N c) (hd : Bd N d) (hab : a ≠ b) (hcd : c ≠ d) (hm : ¬ aCY a b c d) : jS (shp M a) (shp M b) (shp M c) (shp M d):=by
 have hM0 : 0 < M:=by unfold Bd at ha; omega
 unfold aCY at hm
 simp only [not_or] at hm
 obtain ⟨m1,m2,m3,m4,m5⟩:=hm
 unfold jS
 simp only [aJd hM0,aJa hM0,aHw]
 by_cases p0 : cri a b c = 0
 ·by_cases q0 : cri a b d = 0
  ·obtain ⟨r0,s0⟩:=uT hab p0 q0
   have l1:=aDO hM ha hb hab
   have l2:=aDO hM hc hd hcd
   have o1:=aEc p0 l1 m1
   have o2:=aEc q0 l1 m2
   have o3:=aEc r0 l2 m3
   have o4:=aEc s0 l2 m4
   refine .inr (.inr (.inr (.inr ⟨vZ p0,vZ q0,vZ r0,vZ s0,?_⟩)))
   omega
  ·rcases kM p0 q0 m1 with h | h
   ·exact .inr (.inr (.inl h))
   ·exact .inr (.inr (.inr (.inl h)))
 ·by_cases q0 : cri a b d = 0
  ·have:=kM q0 p0 m2
   have s1:=eI c d a
   have s2:=eI c d b
   rcases this with h | h
   ·exact .inr (.inr (.inr (.inl (by omega))))
   ·exact .inr (.inr (.inl (by omega)))
  ·by_cases r0 : cri c d a = 0
   ·by_cases s0 : cri c d b = 0
    ·exact absurd (uT hcd r0 s0).1 p0
    ·rcases kM r0 s0 m3 with h | h
     ·exact .inl h
     ·exact .inr (.inl h)
   ·by_cases s0 : cri c d b = 0
    ·have:=kM s0 r0 m4
     have s1:=eI a b c
     have s2:=eI a b d
     rcases this with h | h
     ·exact .inr (.inl (by omega))
     ·exact .inl (by omega)
    ·unfold opp at m5
     rcases Int.lt_or_gt_of_ne p0 with p1 | p1 <;> rcases Int.lt_or_gt_of_ne q0 with q1 | q1 <;> rcases Int.lt_or_gt_of_ne r0 with r1 | r1 <;> rcases Int.lt_or_gt_of_ne s0 with s1 | s1 <;>
      first
       | exact .inl ⟨p1,q1⟩
       | exact .inr (.inl ⟨p1,q1⟩)
       | exact .inr (.inr (.inl ⟨r1,s1⟩))
       | exact .inr (.inr (.inr (.inl ⟨r1,s1⟩)))
       | (exfalso; omega)
structure Simp (n : Nat) (p : Nat -> I2) : Prop where
 n3 : 3 <= n
 per : ∀ i,p (i + n) = p i
 ne : ∀ i,p i ≠ p (i + 1)
 back : ∀ i,cri (p i) (p (i + 1)) (p (i + 2)) = 0 -> dti (p i) (p (i + 1)) (p (i + 2)) <= 0
 far : ∀ i j,i + 1 < j -> j + 1 < i + n -> ¬ aCY (p i) (p (i + 1)) (p j) (p (j + 1))
theorem aJj (a b : I2) : onI a b a:=by
 refine ⟨?_,?_⟩
 ·unfold cri; grind
 ·omega
theorem Simp.dist {n : Nat} {p : Nat -> I2} (s : Simp n p) {i j : Nat} (h : i < j) (h2 : j < i + n) : p i ≠ p j:=by
 by_cases h3 : j = i + 1
 ·subst h3; exact s.ne i
 by_cases h4 : j + 1 = i + n
 ·have:=s.ne j
  rw [h4,s.per] at this
  exact fun e=>this e.symm
 ·intro e
  refine s.far i j (by omega) (by omega) (.inl ?_)
  rw [← e]
  exact aJj _ _
theorem aRC {M : Int} {a b c : I2} (h : cri a b c = 0) (hl : (lvl M a < lvl M b /\ lvl M c < lvl M b) ∨ (lvl M b < lvl M a /\ lvl M b < lvl M c)) : 0 < dti a b c:=by
 rcases lt_or_le 0 (dti a b c) with h0 | h0
 ·exact h0
 exfalso
 have e : (a.x - b.x) * (c.y - b.y) = (a.y - b.y) * (c.x - b.x):=by
  unfold cri at h
  grind
 obtain ⟨h1,h2⟩:=btw0 e h0
 have h3 : (lvl M a - lvl M b) * (c.x - b.x) = (a.x - b.x) * (lvl M c - lvl M b):=by unfold lvl; grind
 have h4 : (lvl M a - lvl M b) * (c.y - b.y) = (a.y - b.y) * (lvl M c - lvl M b):=by unfold lvl; grind
 have hx : (a.x - b.x) * (c.x - b.x) = 0:=by
  have g : ((a.x - b.x) * (c.x - b.x)) * (lvl M a - lvl M b) = ((a.x - b.x) * (a.x - b.x)) * (lvl M c - lvl M b):=by grind
  have n1:=sq_nn (a.x - b.x)
  rcases Int.lt_or_eq_of_le h1 with h5 | h5
  ·exfalso
   rcases hl with ⟨l1,l2⟩ | ⟨l1,l2⟩
   ·have g1:=Int.mul_pos_of_neg_of_neg h5 (show lvl M a - lvl M b < 0 by omega)
    have g2:=Int.mul_nonpos_of_nonneg_of_nonpos n1 (show lvl M c - lvl M b <= 0 by omega)
    omega
   ·have g1:=Int.mul_neg_of_neg_of_pos h5 (show 0 < lvl M a - lvl M b by omega)
    have g2:=Int.mul_nonneg n1 (show 0 <= lvl M c - lvl M b by omega)
    omega
  ·exact h5
 have hy : (a.y - b.y) * (c.y - b.y) = 0:=by
  have g : ((a.y - b.y) * (c.y - b.y)) * (lvl M a - lvl M b) = ((a.y - b.y) * (a.y - b.y)) * (lvl M c - lvl M b):=by grind
  have n1:=sq_nn (a.y - b.y)
  rcases Int.lt_or_eq_of_le h2 with h5 | h5
  ·exfalso
   rcases hl with ⟨l1,l2⟩ | ⟨l1,l2⟩
   ·have g1:=Int.mul_pos_of_neg_of_neg h5 (show lvl M a - lvl M b < 0 by omega)
    have g2:=Int.mul_nonpos_of_nonneg_of_nonpos n1 (show lvl M c - lvl M b <= 0 by omega)
    omega
   ·have g1:=Int.mul_neg_of_neg_of_pos h5 (show 0 < lvl M a - lvl M b by omega)
    have g2:=Int.mul_nonneg n1 (show 0 <= lvl M c - lvl M b by omega)
    omega
  ·exact h5
 have q1 : (lvl M c - lvl M b) * ((a.x - b.x) * (a.x - b.x)) = 0:=by grind
 have q2 : (lvl M c - lvl M b) * ((a.y - b.y) * (a.y - b.y)) = 0:=by grind
 have q1:=kK (by omega) q1
 have q2:=kK (by omega) q2
 have q1 : a.x - b.x = 0:=by rcases Int.mul_eq_zero.1 q1 with h | h <;> exact h
 have q2 : a.y - b.y = 0:=by rcases Int.mul_eq_zero.1 q2 with h | h <;> exact h
 have : lvl M a = lvl M b:=by
  unfold lvl
  rw [show a.y = b.y by omega,show a.x = b.x by omega]
 omega
theorem Simp.contour {n : Nat} {p : Nat -> I2} (s : Simp n p) {M N : Int} (hM : 2 * N < M) (hb : ∀ i,Bd N (p i)) : Contour n fun i=>shp M (p i):=by
 have hM0 : 0 < M:=by have:=hb 0; unfold Bd at this; omega
 refine ⟨s.n3,fun i=>by rw [s.per],fun i j h1 h2 e=>?_,fun i j h1 h2=>?_,fun i hp e=>?_⟩
 ·exact aDO hM (hb i) (hb j) (s.dist h1 h2) (Rat.intCast_inj.1 e)
 ·exact aEI hM (hb _) (hb _) (hb _) (hb _) (s.ne i) (s.ne j) (s.far i j h1 h2)
 ·have hz : cri (p i) (p (i + 1)) (p (i + 2)) = 0:=by
   have e2 : crs (shp M (p i)) (shp M (p (i + 1))) (shp M (p (i + 2))) = 0:=e
   rw [zD,show (0 : Rat) = ((0 : Int) : Rat) from rfl] at e2
   exact kK (by omega) (Rat.intCast_inj.1 e2)
  have h1:=s.back i hz
  have h2:=aRC (M:=M) hz (by simpa only [aHw] using hp)
  omega
def a2 (n : Nat) (p : Nat -> I2) : Int:=isum n fun j=>(p j).x * (p (j + 1)).y - (p (j + 1)).x * (p j).y
theorem vW (n : Nat) (f g : Nat -> Int) : isum n (fun j=>f j + g j) = isum n f + isum n g:=by
 induction n with
 | zero=>rfl
 | succ n ih=>show isum n _ + (f n + g n) = isum n f + f n + (isum n g + g n); rw [ih]; omega
theorem iL (n : Nat) (k : Int) (f : Nat -> Int) : isum n (fun j=>k * f j) = k * isum n f:=by
 induction n with
 | zero=>show (0 : Int) = k * 0; omega
 | succ n ih=>show isum n _ + k * f n = k * (isum n f + f n); rw [ih,Int.mul_add]
theorem iV (n : Nat) (f : Nat -> Int) : bO n (fun j=>((f j : Int) : Rat)) = ((isum n f : Int) : Rat):=by
 induction n with
 | zero=>rfl
 | succ n ih=>show bO n _ + _ = ((isum n f + f n : Int) : Rat); rw [ih,Rat.intCast_add]
theorem vY {n : Nat} {p : Nat -> I2} (per : ∀ i,p (i + n) = p i) (M : Int) : lC n (fun i=>shp M (p i)) = ((M * a2 n p : Int) : Rat):=by
 have e : lC n (fun i=>shp M (p i)) = ((isum n (fun j=>((p j).x + (p (j + 1)).x) * (lvl M (p (j + 1)) - lvl M (p j))) : Int) : Rat):=by
  rw [← iV]
  unfold lC
  refine bJ fun j _=>?_
  simp only [shp,Rat.intCast_mul,Rat.intCast_add,Rat.intCast_sub]
 rw [e]
 congr 1
 have e1 : ∀ j,((p j).x + (p (j + 1)).x) * (lvl M (p (j + 1)) - lvl M (p j)) = M * ((p j).x * (p (j + 1)).y - (p (j + 1)).x * (p j).y) + ((fun i=>M * ((p i).x * (p i).y) - (p i).x * (p i).x) (j + 1) - (fun i=>M * ((p i).x * (p i).y) - (p i).x * (p i).x) j):=fun j=>by
  unfold lvl
  grind
 have tel:=mL n fun i=>M * ((p i).x * (p i).y) - (p i).x * (p i).x
 have h0:=per 0
 rw [Nat.zero_add] at h0
 simp only [h0,Int.sub_self] at tel
 rw [cM fun j _=>e1 j,vW]
 simp only
 rw [tel,iL]
 unfold a2
 omega
theorem Simp.area {n : Nat} {p : Nat -> I2} (s : Simp n p) {N : Int} (hb : ∀ i,-N <= (p i).x /\ (p i).x <= N /\ -N <= (p i).y /\ (p i).y <= N) : a2 n p ≠ 0:=by
 have hN : 0 <= N:=by have:=hb 0; omega
 have hl : ∀ i,-(2 * N + 1) * N - N <= lvl (2 * N + 1) (p i) /\ lvl (2 * N + 1) (p i) <= (2 * N + 1) * N + N:=fun i=>by
  obtain ⟨h1,h2,h3,h4⟩:=hb i
  have a1:=Int.mul_le_mul_of_nonneg_left h3 (show 0 <= 2 * N + 1 by omega)
  have a2:=Int.mul_le_mul_of_nonneg_left h4 (show 0 <= 2 * N + 1 by omega)
  have a3 : (2 * N + 1) * -N = -(2 * N + 1) * N:=by grind
  unfold lvl
  omega
 have c:=s.contour (M:=2 * N + 1) (N:=N) (by omega) fun i=>⟨(hb i).1,(hb i).2.1⟩
 have h:=area_ne c (H:=fun j=>lvl (2 * N + 1) (p j)) (fun _=>rfl) (lo:=-(2 * N + 1) * N - N) (K:=(2 * ((2 * N + 1) * N + N)).toNat) (fun j=>(hl j).1) (fun j=>by
  have:=hl j
  have e : -(2 * N + 1) * N = -((2 * N + 1) * N):=Int.neg_mul _ _
  have nn:=Int.mul_nonneg (show 0 <= 2 * N + 1 by omega) hN
  generalize (2 * N + 1) * N = z at *
  omega)
 rw [vY s.per] at h
 intro e
 rw [e,Int.mul_zero] at h
 exact h rfl
end Go.Proofs.YtngginofamlkkaaGreatDoor.PlaneG

