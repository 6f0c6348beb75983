/-
  Put together out of several texts, each in its own namespace's block. Conditions: as each theorem states them.
-/
import Derived.Test.YtngginofamlkkaaGreatDoorQRow
import Derived.Test.YtngginofamlkkaaGreatDoorQPwg
import Derived.Test.YtngginofamlkkaaGreatDoorQSm
import Derived.Test.YtngginofamlkkaaGreatDoorRows
import Derived.Test.YtngginofamlkkaaGreatDoorQGg
import Derived.Test.YtngginofamlkkaaGreatDoorChecked
import Derived.Test.YtngginofamlkkaaGreatDoorQEva
import Derived.MakeChecks
import Derived.OpenShut
import Derived.ChangeBears2
noncomputable section
namespace Go.Proofs.YtngginofamlkkaaGreatDoor
open Go Go.RowKit
open Int (toNat_natCast)
open List (getElem?_cons_zero getElem_mem)
open Nat (le_refl)
set_option maxRecDepth 100000
set_option maxHeartbeats 4000000
theorem uE : aW Tryz.prog aOm:=aM (by
 intro e he
 simp only [List.mem_cons,List.not_mem_nil,or_false] at he
 rcases he with rfl | rfl | rfl
 ·exact oT
 ·exact aPr
 ·exact aDC) aD
theorem aK6 : aZ Tryz.prog ⟨189,aFh⟩:=by
 rintro args Post ⟨d,k,rfl,hk,q,hf,h⟩
 have hl:=q.k
 have hn:=cU q.n
 have hp:=cU hl
 refine aN uE mixed (by kernel_rfl) (by kernel_rfl) _ (aLg d k _ _) ?_
 have hkk : ((k : Nat) : Int).toNat = k:=toNat_natCast k
 have hx:=(q.a _ (getElem_mem hk)).1
 simp only [hkk,iX hk]
 generalize d.packs[k] = x at *
 simp only [dB,aQ,aP,cH,cG,true_and,and_true,le_refl,getElem?_cons_zero,List.getElem?_cons_succ,Option.getD_some]
 refine ⟨⟨by omega,by omega⟩,?_⟩
 refine cS (n:=x.parts.length) (p:=fun i=>OkP 189 [aC d,.int .i64 k] 3 Post (stV [(1,some (vi k)),(2,some (pt 0)),(5,some (pt 1)),(6,some (vi ((i : Nat) : Int)))] [(0,some (.cells (aG d) true)),(1,some (.cells (dB x) true))] 2)) ?_ (fun i i1 ih=>?_)
 ·refine aV uE mixed _ (aF3 d k x.parts.length x _ _) ?_
  simp only [true_and,and_true,le_refl]
  exact ifD (fun h'=>by omega) (fun _=>h 0)
 ·have inner : ∀ p : Part,OkP 189 [aC d,.int .i64 k] 14 Post (stV [(1,some (vi k)),(2,some (pt 0)),(5,some (pt 1)),(6,some (vi ((i : Nat) : Int))),(7,some (pt 2)),(11,some (vi 0))] [(0,some (.cells (aG d) true)),(1,some (.cells (dB x) true)),(2,some (.cells (fP p) true))] 3):=fun p=>by
   refine cS (n:=k) (p:=fun n=>OkP 189 [aC d,.int .i64 k] 14 Post (stV [(1,some (vi k)),(2,some (pt 0)),(5,some (pt 1)),(6,some (vi ((i : Nat) : Int))),(7,some (pt 2)),(11,some (vi ((n : Nat) : Int)))] [(0,some (.cells (aG d) true)),(1,some (.cells (dB x) true)),(2,some (.cells (fP p) true))] 3)) ?_ (fun n n1 jh=>?_)
   ·refine aV uE mixed _ (aF6 d k i k x p _ _) ?_
    simp only [true_and,and_true,le_refl,aJ (show i < 2 ^ 62 by omega)]
    exact ifD (fun h'=>by omega) (fun _=>ih)
   ·refine aV uE mixed _ (aF6 d k i n x p _ _) ?_
    have hnn : ((n : Nat) : Int).toNat = n:=toNat_natCast n
    have n2 : n < d.packs.length:=by omega
    have hy:=(q.a _ (getElem_mem n2)).1
    simp only [hnn,iX n2]
    generalize d.packs[n] = y at *
    simp only [dB,aQ,aP,cH,cG,true_and,and_true,le_refl,getElem?_cons_zero,List.getElem?_cons_succ,Option.getD_some,aJ (show n < 2 ^ 62 by omega)]
    exact ifD (fun _=>⟨⟨by omega,by omega⟩,y.parts,p.id,rfl,cU hy,aE (fun _=>h 7) (fun _=>jh)⟩) (fun h'=>by omega)
  refine aV uE mixed _ (aF3 d k i x _ _) ?_
  have hii : ((i : Nat) : Int).toNat = i:=toNat_natCast i
  simp only [hii,dH i1,aP,getElem?_cons_zero,Option.getD_some,true_and,and_true,le_refl]
  refine ifD (fun _=>⟨⟨by omega,by omega⟩,d,_,rfl,hf,?_⟩) (fun h'=>by omega)
  repeat' (first | exact inner _ | exact h _ | refine aE (fun _=>?_) (fun _=>?_) | refine ⟨d,_,rfl,hn,hp,hf,?_⟩)
def aQz (d : Design6) (i : Nat) : List Pair2 -> AS
 | []=>stV [(1,some (pt 0)),(3,some (trS (bG d))),(4,some (.slice none 0 0)),(5,some (vi (i : Nat)))] [(0,some (.cells (aG d) true))] 1
 | e :: es=>stV [(1,some (pt 0)),(3,some (trS (bG d))),(4,some (.slice (some ⟨1,0,none⟩) (e :: es).length 2)),(5,some (vi (i : Nat)))] [(0,some (.cells (aG d) true)),(1,some (.cells (dR (e :: es)) true))] 2
def aNi (d : Design6) (i : Nat) (x : Pack5) (k : Nat) : List Pair2 -> AS
 | []=>stV [(1,some (pt 0)),(3,some (trS (bG d))),(4,some (.slice none 0 0)),(5,some (vi (i : Nat))),(6,some (pt 1)),(8,some (vi (k : Nat)))] [(0,some (.cells (aG d) true)),(1,some (.cells (dB x) true))] 2
 | e :: es=>stV [(1,some (pt 0)),(3,some (trS (bG d))),(4,some (.slice (some ⟨1,0,none⟩) (e :: es).length 2)),(5,some (vi (i : Nat))),(6,some (pt 2)),(8,some (vi (k : Nat)))] [(0,some (.cells (aG d) true)),(1,some (.cells (dR (e :: es)) true)),(2,some (.cells (dB x) true))] 3
def aRi (d : Design6) (i : Nat) (x : Pack5) (k q : Nat) : List Pair2 -> AS
 | []=>stV [(1,some (pt 0)),(3,some (trS (bG d))),(4,some (.slice none 0 0)),(5,some (vi (i : Nat))),(6,some (pt 1)),(8,some (vi (k : Nat))),(9,some (vi (q : Nat)))] [(0,some (.cells (aG d) true)),(1,some (.cells (dB x) true))] 2
 | e :: es=>stV [(1,some (pt 0)),(3,some (trS (bG d))),(4,some (.slice (some ⟨1,0,none⟩) (e :: es).length 2)),(5,some (vi (i : Nat))),(6,some (pt 2)),(8,some (vi (k : Nat))),(9,some (vi (q : Nat)))] [(0,some (.cells (aG d) true)),(1,some (.cells (dR (e :: es)) true)),(2,some (.cells (dB x) true))] 3
section
variable {d : Design6} {Post : Value -> Prop}
theorem aKU (hv : aW Tryz.prog mB) {i : Nat} {x : Pack5} {k : Nat} (hi : i <= 60) (hk : k < x.after.length) (h60 : x.after.length <= 60) (hd : (bG d).length <= 60) (nx : ∀ es : List Pair2,es.length <= i * 3600 + (k + 1) * 60 -> OkP 115 [aC d] 19 Post (aNi d i x (k + 1) es)) :
  ∀ (m q : Nat) (es : List Pair2),q + m = (bG d).length -> es.length <= i * 3600 + k * 60 + q -> OkP 115 [aC d] 26 Post (aRi d i x k q es)
 | 0,q,[],hq,hb=>by
  refine aV hv mixed _ (aBj d (bG d).length (aB (bG d)) i x k q _ _) ?_
  have nx0:=nx [] (Nat.zero_le _)
  simp only [true_and,and_true,le_refl,aJ (show k < 2 ^ 62 by omega)]
  exact ifD (fun h'=>by omega) (fun _=>nx0)
 | 0,q,e :: es,hq,hb=>by
  refine aV hv mixed _ (aA4 d (bG d).length (aB (bG d)) i x k q (e :: es).length (dR (e :: es)) _ _) ?_
  have nx0:=nx (e :: es) (by omega)
  simp only [true_and,and_true,le_refl,aJ (show k < 2 ^ 62 by omega)]
  exact ifD (fun h'=>by omega) (fun _=>⟨cI _,nx0⟩)
 | m + 1,q,[],hq,hb=>by
  refine aV hv mixed _ (aBj d (bG d).length (aB (bG d)) i x k q _ _) ?_
  have n0:=aKU hv hi hk h60 hd nx m (q + 1) [] (by omega) (by simp)
  have n1:=aKU hv hi hk h60 hd nx m (q + 1) [⟨q,i⟩] (by omega) (by simp; omega)
  have hqq : ((q : Nat) : Int).toNat = q:=toNat_natCast q
  have hkk : ((k : Nat) : Int).toNat = k:=toNat_natCast k
  have q1 : q < (bG d).length:=by omega
  have nn : NLs [.int .i64 (q : Int),.int .i64 (i : Int)]:=cI [(⟨q,i⟩ : Pair2)]
  simp only [hqq,hkk,dH q1,dH hk,aP,getElem?_cons_zero,Option.getD_some,true_and,and_true,le_refl,aJ (show q < 2 ^ 62 by omega)]
  exact ifD (fun _=>⟨⟨by omega,by omega⟩,⟨by omega,by omega⟩,aE (fun _=>⟨by decide,nn,n1⟩) (fun _=>n0)⟩) (fun h'=>by omega)
 | m + 1,q,e :: es,hq,hb=>by
  refine aV hv mixed _ (aA4 d (bG d).length (aB (bG d)) i x k q (e :: es).length (dR (e :: es)) _ _) ?_
  have n0:=aKU hv hi hk h60 hd nx m (q + 1) (e :: es) (by omega) (by omega)
  have n1:=aKU hv hi hk h60 hd nx m (q + 1) (e :: (es ++ [⟨q,i⟩])) (by omega) (by simp at hb ⊢; omega)
  have hqq : ((q : Nat) : Int).toNat = q:=toNat_natCast q
  have hkk : ((k : Nat) : Int).toNat = k:=toNat_natCast k
  have q1 : q < (bG d).length:=by omega
  have er : dR (e :: es) ++ [.int .i64 (q : Int),.int .i64 (i : Int)] = dR (e :: (es ++ [⟨q,i⟩])):=(oD (e :: es) (⟨q,i⟩ : Pair2)).symm
  have el : (e :: es).length + 1 = (e :: (es ++ [(⟨q,i⟩ : Pair2)])).length:=by simp
  have hlen : (dR (e :: es)).length = (e :: es).length * 2:=gK (e :: es)
  simp only [hqq,hkk,dH q1,dH hk,aP,getElem?_cons_zero,Option.getD_some,true_and,and_true,le_refl,aJ (show q < 2 ^ 62 by omega),er]
  refine ifD (fun _=>⟨⟨by omega,by omega⟩,⟨by omega,by omega⟩,aE (fun _=>⟨by omega,by omega,cI _,?_⟩) (fun _=>⟨cI _,n0⟩)⟩) (fun h'=>by omega)
  rw [el]
  exact n1
theorem pk19 (hv : aW Tryz.prog mB) {i : Nat} {x : Pack5} (h : ∀ e : Int,Post (.int .i64 e)) (hi : i <= 60) (h60 : x.after.length <= 60) (hd : (bG d).length <= 60) (nx : ∀ es : List Pair2,es.length <= (i + 1) * 3600 -> OkP 115 [aC d] 4 Post (aQz d (i + 1) es)) :
  ∀ (m k : Nat) (es : List Pair2),k + m = x.after.length -> es.length <= i * 3600 + k * 60 -> OkP 115 [aC d] 19 Post (aNi d i x k es)
 | 0,k,[],hk,hb=>by
  refine aV hv mixed _ (aA7 d (bG d).length (aB (bG d)) i x k _ _) ?_
  have nx0:=nx [] (Nat.zero_le _)
  simp only [true_and,and_true,le_refl,aJ (show i < 2 ^ 62 by omega)]
  exact ifD (fun h'=>by omega) (fun _=>nx0)
 | 0,k,e :: es,hk,hb=>by
  refine aV hv mixed _ (zT d (bG d).length (aB (bG d)) i x k (e :: es).length (dR (e :: es)) _ _) ?_
  have nx0:=nx (e :: es) (by omega)
  simp only [true_and,and_true,le_refl,aJ (show i < 2 ^ 62 by omega)]
  exact ifD (fun h'=>by omega) (fun _=>⟨cI _,nx0⟩)
 | m + 1,k,[],hk,hb=>by
  refine aV hv mixed _ (aA7 d (bG d).length (aB (bG d)) i x k _ _) ?_
  have n0:=aKU hv hi (show k < x.after.length by omega) h60 hd (fun es he=>pk19 hv h hi h60 hd nx m (k + 1) es (by omega) he) (bG d).length 0 [] (by omega) (Nat.zero_le _)
  have hkk : ((k : Nat) : Int).toNat = k:=toNat_natCast k
  have k1 : k < x.after.length:=by omega
  simp only [hkk,dH k1,aP,getElem?_cons_zero,Option.getD_some,true_and,and_true,le_refl]
  exact ifD (fun _=>⟨⟨by omega,by omega⟩,aE (fun _=>h _) (fun _=>⟨⟨by omega,by omega⟩,bG d,_,rfl,cU (by omega),aE (fun _=>n0) (fun _=>h _)⟩)⟩) (fun h'=>by omega)
 | m + 1,k,e :: es,hk,hb=>by
  refine aV hv mixed _ (zT d (bG d).length (aB (bG d)) i x k (e :: es).length (dR (e :: es)) _ _) ?_
  have n0:=aKU hv hi (show k < x.after.length by omega) h60 hd (fun es he=>pk19 hv h hi h60 hd nx m (k + 1) es (by omega) he) (bG d).length 0 (e :: es) (by omega) (by omega)
  have hkk : ((k : Nat) : Int).toNat = k:=toNat_natCast k
  have k1 : k < x.after.length:=by omega
  simp only [hkk,dH k1,aP,getElem?_cons_zero,Option.getD_some,true_and,and_true,le_refl]
  refine ifD (fun _=>⟨⟨by omega,by omega⟩,aE (fun _=>h _) (fun _=>⟨⟨by omega,by omega⟩,?_⟩)⟩) (fun h'=>by omega)
  repeat' (first | exact n0 | exact h _ | exact cI _ | refine aE (fun _=>?_) (fun _=>?_) | refine ⟨bG d,_,rfl,cU (by omega),?_⟩ | refine And.intro ?_ ?_)
theorem pk4 (hv : aW Tryz.prog mB) (q : Few17 d) (t : Txt17 d) (hf : FitD d) (h : ∀ e : Int,Post (.int .i64 e)) (hd : d.packs.length <= 60) (ha : ∀ x ∈ d.packs,x.after.length <= 60) :
  ∀ (m i : Nat) (es : List Pair2),i + m = d.packs.length -> es.length <= i * 3600 -> OkP 115 [aC d] 4 Post (aQz d i es)
 | 0,i,[],hi,hb=>by
  refine aV hv mixed _ (zV d (bG d).length (aB (bG d)) i _ _) ?_
  simp only [true_and,and_true,le_refl]
  exact ifD (fun h'=>by omega) (fun _=>⟨d.packs.length,[],rfl,by omega,by decide,fun _ e=>h e⟩)
 | 0,i,e :: es,hi,hb=>by
  refine aV hv mixed _ (aAF d (bG d).length (aB (bG d)) i (e :: es).length (dR (e :: es)) _ _) ?_
  have hlen : (dR (e :: es)).length = (e :: es).length * 2:=gK (e :: es)
  have hch : bP 2 (e :: es).length (List.drop 0 (dR (e :: es))) = aB (e :: es):=by
   rw [List.drop_zero]
   exact kS (e :: es)
  simp only [true_and,and_true,le_refl]
  exact ifD (fun h'=>by omega) (fun _=>⟨⟨by omega,cI _⟩,d.packs.length,e :: es,by rw [hch],by omega,by omega,fun _ e=>h e⟩)
 | m + 1,i,es,hi,hb=>by
  have i1 : i < d.packs.length:=by omega
  have hii : ((i : Nat) : Int).toNat = i:=toNat_natCast i
  have hid:=t.k _ (getElem_mem i1)
  have hxa:=ha _ (getElem_mem i1)
  have hxp:=(q.a _ (getElem_mem i1)).1
  have hn:=cU q.n
  have h3 : (bG d).length = d.packs.length:=List.length_map _
  have n19:=fun es he=>pk19 (i:=i) (x:=d.packs[i]) hv h (by omega) hxa (by omega) (fun es he=>pk4 hv q t hf h hd ha m (i + 1) es (by omega) he) d.packs[i].after.length 0 es (by omega) he
  cases es with
  | nil =>
   have n0:=n19 [] (Nat.zero_le _)
   refine aV hv mixed _ (zV d (bG d).length (aB (bG d)) i _ _) ?_
   clear n19
   simp only [hii,iX i1]
   generalize hxe : d.packs[i] = x at *
   simp only [dB,aQ,aP,cH,cG,true_and,and_true,le_refl,getElem?_cons_zero,List.getElem?_cons_succ,Option.getD_some]
   refine ifD (fun _=>⟨⟨by omega,by omega⟩,x.id,rfl,hid,?_⟩) (fun h'=>by omega)
   repeat' (first | exact n0 | exact h _ | refine aE (fun _=>?_) (fun _=>?_) | refine ⟨d,_,rfl,hn,?_⟩ | refine ⟨_,rfl,cU (by omega),fun b _=>?_⟩ | refine ⟨d,i,rfl,i1,q,hf,fun e=>?_⟩)
  | cons e es =>
   have n0:=n19 (e :: es) (by omega)
   refine aV hv mixed _ (aAF d (bG d).length (aB (bG d)) i (e :: es).length (dR (e :: es)) _ _) ?_
   clear n19
   simp only [hii,iX i1]
   generalize hxe : d.packs[i] = x at *
   simp only [dB,aQ,aP,cH,cG,true_and,and_true,le_refl,getElem?_cons_zero,List.getElem?_cons_succ,Option.getD_some]
   refine ifD (fun _=>⟨⟨by omega,by omega⟩,x.id,rfl,hid,?_⟩) (fun h'=>by omega)
   repeat' (first | exact n0 | exact h _ | exact cI _ | refine aE (fun _=>?_) (fun _=>?_) | refine ⟨d,_,rfl,hn,?_⟩ | refine ⟨_,rfl,cU (by omega),fun b _=>?_⟩ | refine ⟨d,i,rfl,i1,q,hf,fun e=>?_⟩ | refine ⟨cI _,?_⟩)
end
theorem aKc : aZ Tryz.prog ⟨221,aFd⟩:=by
 rintro args Post ⟨l,rfl,hs,h⟩
 have hs2 : l.length < 2 ^ 62:=hs
 refine aN (bL mixed aD 2) mixed (by kernel_rfl) (by kernel_rfl) _ (aLG l.length (aB l) _ _) ?_
 simp only [true_and,and_true,le_refl]
 have key : OkP 221 [tree 1 l.length (aB l)] 6 Post (stV [(0,some (tree 1 l.length (aB l))),(3,some (vi 0))] [] 0):=by
  refine cS (n:=l.length) (p:=fun k=>OkP 221 [tree 1 l.length (aB l)] 6 Post (stV [(0,some (tree 1 l.length (aB l))),(3,some (vi ((k : Nat) : Int)))] [] 0)) ?_ (fun k k1 ih=>?_)
  ·refine aV (bL mixed aD 2) mixed _ (aGd l.length (aB l) l.length _ _) ?_
   simp only [true_and,and_true,le_refl]
   exact ifD (fun h'=>by omega) (fun _=>h 0)
  ·refine aV (bL mixed aD 2) mixed _ (aGd l.length (aB l) k _ _) ?_
   have hk : ((k : Nat) : Int).toNat = k:=toNat_natCast k
   have hw : ∀ h0 : 0 < k,IntKind.i64.wrap ((k : Int) - 1) = ((k - 1 : Nat) : Int):=fun h0=>by rw [bA (by omega) (by omega)]; omega
   have hk' : ((k - 1 : Nat) : Int).toNat = k - 1:=toNat_natCast _
   have k0 : k - 1 < l.length:=by omega
   simp only [hk,aAd k1,aQ,true_and,and_true,le_refl,aJ (show k < 2 ^ 62 by omega)]
   refine ifD (fun _=>⟨⟨by omega,by omega⟩,?_⟩) (fun h'=>by omega)
   repeat' (first | exact ih | exact h _ | refine ifD (fun _=>?_) (fun _=>?_) | refine ifN (fun _=>?_) (fun _=>?_) | refine ⟨⟨by omega,by omega⟩,?_⟩ | (rw [hw (by omega)]; simp only [hk',aAd k0,aQ,true_and]))
 repeat' (first | exact key | exact h _ | refine aE (fun _=>?_) (fun _=>?_))
theorem aDF : aW Tryz.prog vcGr:=bL mixed (aM (by
 intro e he
 simp only [List.mem_cons,List.not_mem_nil,or_false] at he
 rcases he with rfl | rfl
 ·exact vH
 ·exact aKc) aD) 2
end Go.Proofs.YtngginofamlkkaaGreatDoor

noncomputable section
namespace Go.Proofs.YtngginofamlkkaaGreatDoor
open Go Go.RowKit
open Int (toNat)
open Go.IntKind (i64 wrap)
open List (length)
set_option maxRecDepth 100000
set_option maxHeartbeats 8000000
def aN3 (args : List Value) (Post : Value -> Prop) : Prop:=∃ (n : Nat) (es : List Pair2),args = [.int .i64 n,tree 2 es.length (aB es)] /\ aH es /\ ∀ e : Int,(e = 0 -> okEs n es) -> Post (.int .i64 e)
theorem aRw (n : Int) (m : Nat) (A : Array Value) (H : Code -> List Fr -> AS -> Prop) (Post : Value -> Prop) : vcP Tryz.prog aI 223 [(2,[0,1,5])] [.int .i64 n,tree 2 m A] H Post = (True /\ True /\ True /\ True /\ HP H 223 2 (stV [(0,some (Value.int i64 n)),(1,some (tree 2 m A)),(5,some (Value.int i64 0))] [] 0)):=by kernel_rfl
theorem aNR (n : Int) (m : Nat) (A : Array Value) (k : Int) (H : HT) (Post : PV) : bX Tryz.prog aI 223 [.int .i64 n,tree 2 m A] [(2,[0,1,5])] 2 (stV [(0,some (vi n)),(1,some (tree 2 m A)),(5,some (vi k))] [] 0) H Post = (let q3:=True /\ Post (vi 9); let q2:=aA A k.toNat (0 + 1); let q1:=aA A k.toNat (0 + 0); T4 (pIf (decide (k < (↑m : Int))) (T2 ((0 <= k /\ k < (↑m : Int)) /\ (toI (vi 0) <= 0 /\ toI (vi 0) < (↑2 : Int)) /\ aA A k.toNat (0 + 0) = vi (toI q1) /\ T2 ((0 <= k /\ k < (↑m : Int)) /\ (toI (vi 0) <= 1 /\ toI (vi 1) < (↑2 : Int)) /\ aA A k.toNat (0 + 1) = vi (toI q2) /\ T4 (pIf (decide (toI q1 < 0)) (T8 (Post (vi 9))) (T4 (pIf (decide (toI q1 >= n)) (T4 (T2 q3)) (T4 (pIf (decide (toI q2 < 0)) (T4 q3) (T4 (True /\ pIf (decide (toI q2 >= n)) (T2 q3) (T4 (pIf (decide (toI q1 = toI q2)) (T2 (Post (vi 2))) (T4 (True /\ HP H 223 2 (stV [(0,some (vi n)),(1,some (tree 2 m A)),(5,some (vi (wrap i64 (k + 1))))] [] 0))))))))))))))) (T2 (Post (vi 0))))):=by kernel_rfl
def aEs : bH:=aU [⟨223,aN3⟩] aI
abbrev aHy : List (Nat × List Nat):=[(8,[0,1,7,8]),(11,[0,1,7,8,9,10]),(17,[0,1,7,8,9,11,12])]
theorem aPN (n : Nat) (m : Nat) (A : Array Value) (H : HT) (Post : PV) : vcP Tryz.prog aEs 190 aHy [.int .i64 n,tree 2 m A] H Post = (let q1:=(toNat (↑n : Int)); T4 (T2 (True /\ pIf (decide ((↑n : Int) > 256)) (T2 (True /\ (T2 (True)) /\ Post (Value.tuple #[tree 1 0 #[],vi 9]))) (T2 (True /\ ∃ (n_1 : Nat),∃ (es : List Pair2),eqL [vi (↑n : Int),tree 2 m A] [vi (↑n_1 : Int),tree 2 es.length (aB es)] /\ aH es /\ ∀ (e : Int),(e = 0 -> ∀ (x : Pair2),x ∈ es -> 0 <= x.a /\ x.a < (↑n_1 : Int) /\ 0 <= x.b /\ x.b < (↑n_1 : Int)) -> T2 (True /\ pIf (!decide (e = 0)) (T2 (True /\ (T2 (True)) /\ Post (Value.tuple #[tree 1 0 #[],vi e]))) (T2 ((0 <= (↑n : Int) /\ (↑n : Int) <= (↑n : Int) /\ (↑n : Int) <= 2 ^ 25) /\ T2 ((NLs (iE q1 [vb false]) /\ True) /\ HP H 190 8 (stV [(0,some (vi (↑n : Int))),(1,some (tree 2 m A)),(7,some (nS)),(8,some (Value.slice (some (Addr.mk 0 0 none)) q1 1))] [(0,some (AObj.cells (iE q1 [vb false]) true))] 1)))))))))):=by kernel_rfl
abbrev bV (l : List Bool) : List Value:=l.map Value.bool
theorem aKX (n m : Nat) (A : Array Value) (T : List Bool) (H : HT) (Post : PV) : bX Tryz.prog aEs 190 [.int .i64 n,tree 2 m A] aHy 8 (stV [(0,some (vi n)),(1,some (tree 2 m A)),(7,some (.slice none 0 0)),(8,some (.slice (some ⟨0,0,none⟩) n 1))] [(0,some (.cells (bV T) true))] 1) H Post = (let q1:=(toNat (↑n : Int)); T4 (pIf (decide ((↑0 : Int) < (↑n : Int))) (True /\ (0 <= (↑n : Int) /\ (↑n : Int) <= (↑n : Int) /\ (↑n : Int) <= 2 ^ 25) /\ T2 (True /\ (NLs (bV T) /\ NLs (iE q1 [vb false]) /\ True) /\ HP H 190 11 (stV [(0,some (vi (↑n : Int))),(1,some (tree 2 m A)),(7,some (nS)),(8,some (Value.slice (some (Addr.mk 0 0 none)) n 1)),(9,some (Value.slice (some (Addr.mk 1 0 none)) q1 1)),(10,some (vi 0))] [(0,some (AObj.cells (bV T) true)),(1,some (AObj.cells (iE q1 [vb false]) true))] 2))) (T2 (True /\ (T2 (True)) /\ Post (Value.tuple #[tree 1 0 #[],vi 0]))))):=by kernel_rfl
theorem aMa (n m : Nat) (A : Array Value) (j : Nat) (l : List Value) (T : List Bool) (H : HT) (Post : PV) : bX Tryz.prog aEs 190 [.int .i64 n,tree 2 m A] aHy 8 (stV [(0,some (vi n)),(1,some (tree 2 m A)),(7,some (.slice (some ⟨0,0,none⟩) j 1)),(8,some (.slice (some ⟨1,0,none⟩) n 1))] [(0,some (.cells l true)),(1,some (.cells (bV T) true))] 2) H Post = (let q1:=(toNat (↑n : Int)); T4 (pIf (decide ((↑j : Int) < (↑n : Int))) (True /\ (0 <= (↑n : Int) /\ (↑n : Int) <= (↑n : Int) /\ (↑n : Int) <= 2 ^ 25) /\ T2 (True /\ (NLs l /\ NLs (bV T) /\ NLs (iE q1 [vb false]) /\ True) /\ HP H 190 11 (stV [(0,some (vi (↑n : Int))),(1,some (tree 2 m A)),(7,some (Value.slice (some (Addr.mk 0 0 none)) j 1)),(8,some (Value.slice (some (Addr.mk 1 0 none)) n 1)),(9,some (Value.slice (some (Addr.mk 2 0 none)) q1 1)),(10,some (vi 0))] [(0,some (AObj.cells l true)),(1,some (AObj.cells (bV T) true)),(2,some (AObj.cells (iE q1 [vb false]) true))] 3))) (T2 (True /\ ((0 + j * 1 <= length l /\ NLs l) /\ True /\ True) /\ Post (Value.tuple #[tree 1 j (bP 1 j (List.drop 0 l)),vi 0]))))):=by kernel_rfl
theorem aED (n m : Nat) (A : Array Value) (T : List Bool) (V : List Bool) (i : Int) (H : HT) (Post : PV) : bX Tryz.prog aEs 190 [.int .i64 n,tree 2 m A] aHy 11 (stV [(0,some (vi n)),(1,some (tree 2 m A)),(7,some (.slice none 0 0)),(8,some (.slice (some ⟨0,0,none⟩) n 1)),(9,some (.slice (some ⟨1,0,none⟩) n 1)),(10,some (vi i))] [(0,some (.cells (bV T) true)),(1,some (.cells (bV V) true))] 2) H Post = (let q10:=(0,some (AObj.cells (bV T) true)); let q9:=NLs (bV T) /\ NLs (bV V) /\ True; let q8:=(9,some (Value.slice (some (Addr.mk 1 0 none)) n 1)); let q7:=(8,some (Value.slice (some (Addr.mk 0 0 none)) n 1)); let q3:=aA A i.toNat (0 + 1); let q6:=cP (bV V) (0 + toNat (toI q3) * 1) [vb true]; let q2:=aA A i.toNat (0 + 0); let q5:=toB (List.getD (bV T) (0 + toNat (toI q2) * 1) undef); let q4:=[q10,(1,some (AObj.cells (bV V) true))]; let q1:=[(0,some (vi (↑n : Int))),(1,some (tree 2 m A)),(7,some (nS)),q7,q8,(10,some (vi (wrap i64 (i + 1))))]; T4 (pIf (decide (i < (↑m : Int))) (T2 (True /\ (0 <= i /\ i < (↑m : Int)) /\ (toI (vi 0) <= 0 /\ toI (vi 0) < (↑2 : Int)) /\ aA A i.toNat (0 + 0) = vi (toI q2) /\ (0 <= toI q2 /\ toI q2 < (↑n : Int)) /\ List.getD (bV T) (0 + toNat (toI q2) * 1) undef = vb q5 /\ pIf q5 (T4 (True /\ q9 /\ HP H 190 11 (stV q1 q4 2))) (T4 ((0 <= i /\ i < (↑m : Int)) /\ (toI (vi 0) <= 1 /\ toI (vi 1) < (↑2 : Int)) /\ aA A i.toNat (0 + 1) = vi (toI q3) /\ (0 <= toI q3 /\ toI q3 < (↑n : Int)) /\ 0 + toNat (toI q3) * 1 + 1 <= length (bV V) /\ T4 ((NLs (bV T) /\ NLs q6 /\ True) /\ HP H 190 11 (stV q1 [q10,(1,some (AObj.cells q6 true))] 2)))))) (T4 (True /\ q9 /\ HP H 190 17 (stV [(0,some (vi (↑n : Int))),(1,some (tree 2 m A)),(7,some (nS)),q7,q8,(11,some (vi (-1))),(12,some (vi (wrap i64 ((↑n : Int) - 1))))] q4 2))))):=by kernel_rfl
theorem aEL (n m : Nat) (A : Array Value) (j : Nat) (l : List Value) (T : List Bool) (V : List Bool) (i : Int) (H : HT) (Post : PV) : bX Tryz.prog aEs 190 [.int .i64 n,tree 2 m A] aHy 11 (stV [(0,some (vi n)),(1,some (tree 2 m A)),(7,some (.slice (some ⟨0,0,none⟩) j 1)),(8,some (.slice (some ⟨1,0,none⟩) n 1)),(9,some (.slice (some ⟨2,0,none⟩) n 1)),(10,some (vi i))] [(0,some (.cells l true)),(1,some (.cells (bV T) true)),(2,some (.cells (bV V) true))] 3) H Post = (let q11:=(1,some (AObj.cells (bV T) true)); let q10:=NLs l /\ NLs (bV T) /\ NLs (bV V) /\ True; let q9:=(9,some (Value.slice (some (Addr.mk 2 0 none)) n 1)); let q8:=(8,some (Value.slice (some (Addr.mk 1 0 none)) n 1)); let q7:=(7,some (Value.slice (some (Addr.mk 0 0 none)) j 1)); let q3:=aA A i.toNat (0 + 1); let q6:=cP (bV V) (0 + toNat (toI q3) * 1) [vb true]; let q2:=aA A i.toNat (0 + 0); let q5:=toB (List.getD (bV T) (0 + toNat (toI q2) * 1) undef); let q4:=[(0,some (AObj.cells l true)),q11,(2,some (AObj.cells (bV V) true))]; let q1:=[(0,some (vi (↑n : Int))),(1,some (tree 2 m A)),q7,q8,q9,(10,some (vi (wrap i64 (i + 1))))]; T4 (pIf (decide (i < (↑m : Int))) (T2 (True /\ (0 <= i /\ i < (↑m : Int)) /\ (toI (vi 0) <= 0 /\ toI (vi 0) < (↑2 : Int)) /\ aA A i.toNat (0 + 0) = vi (toI q2) /\ (0 <= toI q2 /\ toI q2 < (↑n : Int)) /\ List.getD (bV T) (0 + toNat (toI q2) * 1) undef = vb q5 /\ pIf q5 (T4 (True /\ q10 /\ HP H 190 11 (stV q1 q4 3))) (T4 ((0 <= i /\ i < (↑m : Int)) /\ (toI (vi 0) <= 1 /\ toI (vi 1) < (↑2 : Int)) /\ aA A i.toNat (0 + 1) = vi (toI q3) /\ (0 <= toI q3 /\ toI q3 < (↑n : Int)) /\ 0 + toNat (toI q3) * 1 + 1 <= length (bV V) /\ T4 ((NLs l /\ NLs (bV T) /\ NLs q6 /\ True) /\ HP H 190 11 (stV q1 [(0,some (AObj.cells l true)),q11,(2,some (AObj.cells q6 true))] 3)))))) (T4 (True /\ q10 /\ HP H 190 17 (stV [(0,some (vi (↑n : Int))),(1,some (tree 2 m A)),q7,q8,q9,(11,some (vi (-1))),(12,some (vi (wrap i64 ((↑n : Int) - 1))))] q4 3))))):=by kernel_rfl
theorem aG2 (n m : Nat) (A : Array Value) (T : List Bool) (V : List Bool) (i : Int) (x : Int) (H : HT) (Post : PV) : bX Tryz.prog aEs 190 [.int .i64 n,tree 2 m A] aHy 17 (stV [(0,some (vi n)),(1,some (tree 2 m A)),(7,some (.slice none 0 0)),(8,some (.slice (some ⟨0,0,none⟩) n 1)),(9,some (.slice (some ⟨1,0,none⟩) n 1)),(11,some (vi x)),(12,some (vi i))] [(0,some (.cells (bV T) true)),(1,some (.cells (bV V) true))] 2) H Post = (let q2:=0 + toNat i * 1; let q14:=toB (List.getD (bV V) q2 undef); let q13:=toB (List.getD (bV T) q2 undef); let q12:=(1,some (tree 2 m A)); let q11:=lpK Tryz.prog 190 17; let q10:=lpC Tryz.prog 190 17; let q9:=(0,some (vi (↑n : Int))); let q8:=(12,some (vi (wrap i64 (i - 1)))); let q7:=cP (bV T) (0 + toNat x * 1) [vb true]; let q6:=(8,some (Value.slice (some (Addr.mk 0 0 none)) n 1)); let q5:=NLs (bV T) /\ NLs (bV V) /\ True; let q4:=[(0,some (AObj.cells (bV T) true)),(1,some (AObj.cells (bV V) true))]; let q3:=Value.slice (some (Addr.mk 1 0 none)) n 1; let q1:=stV [q9,q12,(7,some (nS)),q6,(9,some q3),(11,some (vi x)),q8] q4 2; T2 (pIf (decide (i >= 0)) (T2 ((0 <= i /\ i < (↑n : Int)) /\ List.getD (bV T) q2 undef = vb q13 /\ pIf q13 (T4 (T2 (True /\ q5 /\ H q10 q11 q1))) (T4 ((0 <= i /\ i < (↑n : Int)) /\ List.getD (bV V) q2 undef = vb q14 /\ pIf q14 (T4 (T2 (q5 /\ H q10 q11 q1))) (T8 (q5 /\ H q10 q11 (stV [q9,q12,(7,some (nS)),q6,(9,some q3),(11,some (vi i)),q8] q4 2))))))) (T2 (pIf (decide (x < 0)) (T2 ((T2 (True)) /\ Post (Value.tuple #[tree 1 0 #[],vi 20]))) (T2 ((0 <= x /\ x < (↑n : Int)) /\ 0 + toNat x * 1 + 1 <= length (bV T) /\ T2 (True /\ 1 <= 1 /\ 1 <= 33554432 /\ true = true /\ 1 = 1 /\ T2 ((NLs [vi x] /\ NLs q7 /\ True) /\ HP H 190 8 (stV [q9,q12,(7,some (Value.slice (some (Addr.mk 0 0 none)) 1 1)),(8,some q3)] [(0,some (AObj.cells [vi x] true)),(1,some (AObj.cells q7 true))] 2))))))))):=by kernel_rfl
theorem aG1 (n m : Nat) (A : Array Value) (j : Nat) (l : List Value) (T : List Bool) (V : List Bool) (i : Int) (x : Int) (H : HT) (Post : PV) : bX Tryz.prog aEs 190 [.int .i64 n,tree 2 m A] aHy 17 (stV [(0,some (vi n)),(1,some (tree 2 m A)),(7,some (.slice (some ⟨0,0,none⟩) j 1)),(8,some (.slice (some ⟨1,0,none⟩) n 1)),(9,some (.slice (some ⟨2,0,none⟩) n 1)),(11,some (vi x)),(12,some (vi i))] [(0,some (.cells l true)),(1,some (.cells (bV T) true)),(2,some (.cells (bV V) true))] 3) H Post = (let q4:=0 + toNat i * 1; let q15:=toB (List.getD (bV V) q4 undef); let q14:=toB (List.getD (bV T) q4 undef); let q13:=(1,some (tree 2 m A)); let q12:=lpK Tryz.prog 190 17; let q11:=lpC Tryz.prog 190 17; let q10:=(0,some (vi (↑n : Int))); let q9:=(12,some (vi (wrap i64 (i - 1)))); let q8:=cP (bV T) (0 + toNat x * 1) [vb true]; let q7:=(9,some (Value.slice (some (Addr.mk 2 0 none)) n 1)); let q6:=(7,some (Value.slice (some (Addr.mk 0 0 none)) j 1)); let q5:=NLs l /\ NLs (bV T) /\ NLs (bV V) /\ True; let q3:=(8,some (Value.slice (some (Addr.mk 1 0 none)) n 1)); let q2:=[(0,some (AObj.cells l true)),(1,some (AObj.cells (bV T) true)),(2,some (AObj.cells (bV V) true))]; let q1:=stV [q10,q13,q6,q3,q7,(11,some (vi x)),q9] q2 3; T2 (pIf (decide (i >= 0)) (T2 ((0 <= i /\ i < (↑n : Int)) /\ List.getD (bV T) q4 undef = vb q14 /\ pIf q14 (T4 (T2 (True /\ q5 /\ H q11 q12 q1))) (T4 ((0 <= i /\ i < (↑n : Int)) /\ List.getD (bV V) q4 undef = vb q15 /\ pIf q15 (T4 (T2 (q5 /\ H q11 q12 q1))) (T8 (q5 /\ H q11 q12 (stV [q10,q13,q6,q3,q7,(11,some (vi i)),q9] q2 3))))))) (T2 (pIf (decide (x < 0)) (T2 ((T2 (True)) /\ Post (Value.tuple #[tree 1 0 #[],vi 20]))) (T2 ((0 <= x /\ x < (↑n : Int)) /\ 0 + toNat x * 1 + 1 <= length (bV T) /\ T2 (True /\ 1 <= 1 /\ j + 1 <= 33554432 /\ true = true /\ 1 = 1 /\ 0 + j * 1 = length l /\ T2 ((NLs (l ++ [vi x]) /\ NLs q8 /\ True) /\ HP H 190 8 (stV [q10,q13,(7,some (Value.slice (some (Addr.mk 0 0 none)) (j + 1) 1)),q3] [(0,some (AObj.cells (l ++ [vi x]) true)),(1,some (AObj.cells q8 true))] 2))))))))):=by kernel_rfl
end Go.Proofs.YtngginofamlkkaaGreatDoor
noncomputable section
namespace Go.Proofs.YtngginofamlkkaaGreatDoor
open Go Go.RowKit
open Int (toNat_natCast)
open List (mem_cons not_mem_nil)
open Nat (le_refl)
set_option maxRecDepth 100000
set_option maxHeartbeats 4000000
theorem aK0 : aZ Tryz.prog ⟨178,aGe⟩:=by
 rintro args Post ⟨l,rfl,hs,hg,h⟩
 have hs2 : l.length < 2 ^ 62:=hs
 refine aN aDF mixed (by kernel_rfl) (by kernel_rfl) _ (aO6 l.length (aB l) _ _) ?_
 simp only [true_and,and_true,le_refl]
 refine cS (n:=l.length) (p:=fun k=>OkP 178 [tree 4 l.length (aB l)] 2 Post (stV [(0,some (tree 4 l.length (aB l))),(3,some (vi ((k : Nat) : Int)))] [] 0)) ?_ (fun k k1 ih=>?_)
 ·refine aV aDF mixed _ (aFa l.length (aB l) l.length _ _) ?_
  simp only [true_and,and_true,le_refl]
  exact ifD (fun h'=>by omega) (fun _=>h 0)
 ·refine aV aDF mixed _ (aFa l.length (aB l) k _ _) ?_
  have hk : ((k : Nat) : Int).toNat = k:=toNat_natCast k
  have hw : ∀ h0 : (k : Int) > 0,IntKind.i64.wrap ((k : Int) - 1) = ((k - 1 : Nat) : Int):=fun h0=>by rw [bA (by omega) (by omega)]; omega
  have hk' : ((k - 1 : Nat) : Int).toNat = k - 1:=toNat_natCast _
  have k0 : k - 1 < l.length:=by omega
  obtain ⟨c0,c1,c2,c3⟩:=lZ k1
  obtain ⟨d0,_,_,_⟩:=lZ k0
  have hgk:=hg _ (List.getElem_mem k1)
  simp only [hk,c0,c1,c2,c3,aQ,aP,cH,cG,true_and,and_true,le_refl,aJ (show k < 2 ^ 62 by omega)]
  have tail : pIf (decide ((k : Int) > 0)) ((0 <= (k : Int) /\ (k : Int) < (l.length : Int)) /\ (0 <= IntKind.i64.wrap ((k : Int) - 1) /\ IntKind.i64.wrap ((k : Int) - 1) < (l.length : Int)) /\ aA (aB l) (IntKind.i64.wrap ((k : Int) - 1)).toNat 0 = .string (toS (aA (aB l) (IntKind.i64.wrap ((k : Int) - 1)).toNat 0)) /\ pIf (Op.bytesLess l[k].name.toList (toS (aA (aB l) (IntKind.i64.wrap ((k : Int) - 1)).toNat 0)).toList || l[k].name.toList == (toS (aA (aB l) (IntKind.i64.wrap ((k : Int) - 1)).toNat 0)).toList) (Post (.int .i64 11)) (OkP 178 [tree 4 l.length (aB l)] 2 Post (stV [(0,some (tree 4 l.length (aB l))),(3,some (vi ((k + 1 : Nat) : Int)))] [] 0))) (OkP 178 [tree 4 l.length (aB l)] 2 Post (stV [(0,some (tree 4 l.length (aB l))),(3,some (vi ((k + 1 : Nat) : Int)))] [] 0)):=by
   refine ifD (fun h0=>?_) (fun _=>ih)
   rw [hw h0]
   simp only [hk',d0,aP,true_and]
   exact ⟨⟨by omega,by omega⟩,⟨by omega,by omega⟩,aE (fun _=>h 11) (fun _=>ih)⟩
  refine ifD (fun _=>⟨⟨by omega,by omega⟩,?_⟩) (fun h'=>by omega)
  repeat' (first | exact tail | exact h _ | refine aE (fun _=>?_) (fun _=>?_) | refine ⟨⟨by omega,by omega⟩,?_⟩ | refine ⟨_,rfl,hgk,fun e=>?_⟩)
theorem aDX : aW Tryz.prog vcM5:=bL mixed (aM (by
 intro e he
 simp only [mem_cons,not_mem_nil,or_false] at he
 rcases he with rfl | rfl
 ·exact vH
 ·exact aK0) aD) 2
theorem aKi : aZ Tryz.prog ⟨110,aEY⟩:=by
 rintro args Post ⟨m,rfl,f,h⟩
 refine aN aDX mixed (by kernel_rfl) (by kernel_rfl) _ (aN4 m _ _) ?_
 have hse : m.sects.length < 2 ^ 62:=f.se
 simp only [true_and,and_true,le_refl]
 refine aE (fun _=>h _) (fun _=>aE (fun _=>h _) (fun _=>⟨m.grades,rfl,f.gr,fun g hg=>Nat.lt_of_le_of_lt (f.gr25 g hg) (by decide),fun e=>aE (fun _=>h _) (fun _=>?_)⟩))
 refine cS (n:=m.sects.length) (p:=fun k=>OkP 110 [bD m] 7 Post (stV [(1,some (pt 0)),(4,some (vi ((k : Nat) : Int)))] [(0,some (.cells (dO m) true))] 1)) ?_ (fun k k1 ih=>?_)
 ·refine aV aDX mixed _ (aFk m m.sects.length _ _) ?_
  simp only [true_and,and_true,le_refl]
  exact ifD (fun h'=>by omega) (fun _=>h 0)
 ·refine aV aDX mixed _ (aFk m k _ _) ?_
  have hk : ((k : Nat) : Int).toNat = k:=toNat_natCast k
  have hw : ∀ h0 : (k : Int) > 0,IntKind.i64.wrap ((k : Int) - 1) = ((k - 1 : Nat) : Int):=fun h0=>by rw [bA (by omega) (by omega)]; omega
  have hk' : ((k - 1 : Nat) : Int).toNat = k - 1:=toNat_natCast _
  have k0 : k - 1 < m.sects.length:=by omega
  obtain ⟨c0,c1,c2,c3⟩:=nR k1
  obtain ⟨d0,_,_,_⟩:=nR k0
  simp only [hk,c0,c1,c2,c3,aQ,aP,true_and,and_true,le_refl,aJ (show k < 2 ^ 62 by omega)]
  refine ifD (fun _=>⟨⟨by omega,by omega⟩,?_⟩) (fun h'=>by omega)
  repeat' (first
   | exact ih
   | exact h _
   | (refine ifD (fun (h0 : (k : Int) > 0)=>?_) (fun _=>ih); rw [hw h0]; simp only [hk',d0,aP,true_and]; exact ⟨⟨by omega,by omega⟩,aE (fun _=>h 11) (fun _=>ih)⟩)
   | refine aE (fun _=>?_) (fun _=>?_))
theorem aE1 : aW Tryz.prog vcNe:=aM (by
 intro e he
 simp only [mem_cons,not_mem_nil,or_false] at he
 rcases he with rfl | rfl
 ·exact aFF
 ·exact aCF) aD
theorem aGK : aZ Tryz.prog ⟨116,aC6⟩:=by
 rintro args Post ⟨d,rfl,q,h⟩
 have hl:=q.q
 have hn:=cU q.n
 have hp:=cU q.k
 refine aN aE1 mixed (by kernel_rfl) (by kernel_rfl) _ (aKl d _ _) ?_
 simp only [true_and,and_true,le_refl]
 refine cS (n:=d.needs.length) (p:=fun k=>OkP 116 [aC d] 2 Post (stV [(1,some (pt 0)),(3,some (vi ((k : Nat) : Int)))] [(0,some (.cells (aG d) true))] 1)) ?_ (fun k k1 ih=>?_)
 ·refine aV aE1 mixed _ (aCh d d.needs.length _ _) ?_
  simp only [true_and,and_true,le_refl]
  exact ifD (fun h'=>by omega) (fun _=>h 0)
 ·refine aV aE1 mixed _ (aCh d k _ _) ?_
  have hk : ((k : Nat) : Int).toNat = k:=toNat_natCast k
  simp only [hk,xH k1]
  generalize d.needs[k] = x at *
  simp only [aAw,List.getElem?_cons_zero,List.getElem?_cons_succ,Option.getD_some,aP,aQ,true_and,and_true,le_refl,aJ (show k < 2 ^ 62 by omega)]
  refine ifD (fun _=>⟨⟨by omega,by omega⟩,?_⟩) (fun h'=>by omega)
  repeat' (first | exact ih | exact h _ | refine aE (fun _=>?_) (fun _=>?_) | refine ⟨d,_,rfl,hp,?_⟩ | refine ⟨d,_,rfl,hn,?_⟩)
theorem aCe {l : List Pair2} {k : Nat} (h : k < l.length) : aA (aB l) k (0 + 0) = .int .i64 l[k].a /\ aA (aB l) k (0 + 1) = .int .i64 l[k].b:=by
 rw [bK h,bK h]
 exact ⟨rfl,rfl⟩
theorem aPK : aZ Tryz.prog ⟨223,aN3⟩:=by
 rintro args Post ⟨n,es,rfl,hs,h⟩
 have hs2 : es.length < 2 ^ 62:=hs
 refine aN aD mixed (by kernel_rfl) (by kernel_rfl) _ (aRw n es.length (aB es) _ _) ?_
 simp only [true_and,and_true,le_refl]
 refine cS (n:=es.length) (p:=fun k=>(∀ i (hi : i < es.length),i < k -> 0 <= es[i].a /\ es[i].a < n /\ 0 <= es[i].b /\ es[i].b < n) -> OkP 223 [.int .i64 n,tree 2 es.length (aB es)] 2 Post (stV [(0,some (vi n)),(1,some (tree 2 es.length (aB es))),(5,some (vi ((k : Nat) : Int)))] [] 0)) (fun hall=>?_) (fun k k1 ih hall=>?_) (fun i _ hi=>by omega)
 ·refine aV aD mixed _ (aNR n es.length (aB es) es.length _ _) ?_
  simp only [true_and,and_true,le_refl]
  refine ifD (fun h'=>by omega) (fun _=>h 0 fun _ x hx=>?_)
  obtain ⟨i,hi,rfl⟩:=List.mem_iff_getElem.1 hx
  exact hall i hi hi
 ·refine aV aD mixed _ (aNR n es.length (aB es) k _ _) ?_
  have hk : ((k : Nat) : Int).toNat = k:=toNat_natCast k
  obtain ⟨c0,c1⟩:=aCe k1
  simp only [hk,c0,c1,aQ,true_and,and_true,le_refl,aJ (show k < 2 ^ 62 by omega)]
  have no : ∀ e : Int,e ≠ 0 -> Post (.int .i64 e):=fun e he=>h e fun z=>absurd z he
  refine ifD (fun _=>⟨⟨by omega,by omega⟩,by decide,⟨by omega,by omega⟩,by decide,ifD (fun _=>no 9 (by decide)) (fun b1=>ifD (fun _=>no 9 (by decide)) (fun b2=>ifD (fun _=>no 9 (by decide)) (fun b3=>ifD (fun _=>no 9 (by decide)) (fun b4=>ifD (fun _=>no 2 (by decide)) (fun _=>ih fun i hi hik=>?_)))))⟩) (fun h'=>by omega)
  rcases Nat.lt_or_ge i k with h' | h'
  ·exact hall i hi h'
  ·obtain rfl : i = k:=by omega
   omega
theorem jD : aW Tryz.prog aEs:=aM (by
 intro e he
 simp only [mem_cons,not_mem_nil,or_false] at he
 subst he
 exact aPK) aD
theorem bQ (l : List Bool) : NLs (bV l):=fun v hv=>by
 obtain ⟨a,_,rfl⟩:=List.mem_map.1 hv
 rfl
theorem rW (l : List Bool) : (bV l).length = l.length:=List.length_map _
theorem lV {l : List Bool} {k : Nat} (h : k < l.length) : (bV l).getD k undef = .bool l[k]:=by
 rw [List.getD_eq_getElem?_getD,List.getElem?_map,List.getElem?_eq_getElem h]
 rfl
theorem rF (l : List Bool) (k : Nat) (b : Bool) : cP (bV l) k [.bool b] = bV (l.set k b):=by
 show (bV l).set k _ = _
 unfold bV
 rw [List.map_set]
theorem tB (n : Nat) : iE n [.bool false] = bV (List.replicate n false):=by
 rw [aAo]
 unfold bV
 rw [List.map_replicate]
def aQK (n : Nat) (es : List Pair2) (T : List Bool) : List Int -> AS
 | []=>stV [(0,some (vi n)),(1,some (tree 2 es.length (aB es))),(7,some (.slice none 0 0)),(8,some (.slice (some ⟨0,0,none⟩) n 1))] [(0,some (.cells (bV T) true))] 1
 | a :: zs=>stV [(0,some (vi n)),(1,some (tree 2 es.length (aB es))),(7,some (.slice (some ⟨0,0,none⟩) (a :: zs).length 1)),(8,some (.slice (some ⟨1,0,none⟩) n 1))] [(0,some (.cells (dR (a :: zs)) true)),(1,some (.cells (bV T) true))] 2
def aNS (n : Nat) (es : List Pair2) (T V : List Bool) (i : Nat) : List Int -> AS
 | []=>stV [(0,some (vi n)),(1,some (tree 2 es.length (aB es))),(7,some (.slice none 0 0)),(8,some (.slice (some ⟨0,0,none⟩) n 1)),(9,some (.slice (some ⟨1,0,none⟩) n 1)),(10,some (vi (i : Nat)))] [(0,some (.cells (bV T) true)),(1,some (.cells (bV V) true))] 2
 | a :: zs=>stV [(0,some (vi n)),(1,some (tree 2 es.length (aB es))),(7,some (.slice (some ⟨0,0,none⟩) (a :: zs).length 1)),(8,some (.slice (some ⟨1,0,none⟩) n 1)),(9,some (.slice (some ⟨2,0,none⟩) n 1)),(10,some (vi (i : Nat)))] [(0,some (.cells (dR (a :: zs)) true)),(1,some (.cells (bV T) true)),(2,some (.cells (bV V) true))] 3
def aNV (n : Nat) (es : List Pair2) (T V : List Bool) (x : Int) (i : Nat) : List Int -> AS
 | []=>stV [(0,some (vi n)),(1,some (tree 2 es.length (aB es))),(7,some (.slice none 0 0)),(8,some (.slice (some ⟨0,0,none⟩) n 1)),(9,some (.slice (some ⟨1,0,none⟩) n 1)),(11,some (vi x)),(12,some (vi ((i : Int) - 1)))] [(0,some (.cells (bV T) true)),(1,some (.cells (bV V) true))] 2
 | a :: zs=>stV [(0,some (vi n)),(1,some (tree 2 es.length (aB es))),(7,some (.slice (some ⟨0,0,none⟩) (a :: zs).length 1)),(8,some (.slice (some ⟨1,0,none⟩) n 1)),(9,some (.slice (some ⟨2,0,none⟩) n 1)),(11,some (vi x)),(12,some (vi ((i : Int) - 1)))] [(0,some (.cells (dR (a :: zs)) true)),(1,some (.cells (bV T) true)),(2,some (.cells (bV V) true))] 3
section
variable {n : Nat} {es : List Pair2} {Post : Value -> Prop}
theorem or17 (hn : n <= 256) {T V : List Bool} (ht : T.length = n) (hv : V.length = n) (h : ∀ (l : List Int) (e : Int),Post (.tuple #[tree 1 l.length (aB l),.int .i64 e])) (out : List Int) (ho : out.length < 1000) (nx : ∀ (x : Int) (T : List Bool),T.length = n -> OkP 190 [.int .i64 n,tree 2 es.length (aB es)] 8 Post (aQK n es T (out ++ [x]))) :
  ∀ (i : Nat) (x : Int),i <= n -> -1 <= x -> x < n -> OkP 190 [.int .i64 n,tree 2 es.length (aB es)] 17 Post (aNV n es T V x i out)
 | 0,x,hi,h1,h2=>by
  have hx:=h [] 20
  cases out with
  | nil =>
   refine aV jD mixed _ (aG2 n es.length (aB es) T V (((0 : Nat) : Int) - 1) x _ _) ?_
   simp only [true_and,and_true,le_refl,Nat.zero_add,Nat.mul_one,rF,rW,lV]
   refine ifD (fun h'=>by omega) (fun _=>ifD (fun _=>hx) (fun h0=>?_))
   have hs:=nx x (T.set x.toNat true) (by rw [List.length_set,ht])
   and_intros
   all_goals first | omega | exact bQ _ | exact cI [x] | decide | skip
   exact hs
  | cons a zs =>
   refine aV jD mixed _ (aG1 n es.length (aB es) (a :: zs).length (dR (a :: zs)) T V (((0 : Nat) : Int) - 1) x _ _) ?_
   have er : dR (a :: zs) ++ [.int .i64 x] = dR (a :: (zs ++ [x])):=(oD (a :: zs) x).symm
   have el : (a :: zs).length + 1 = (a :: (zs ++ [x])).length:=by simp
   have hlen : (dR (a :: zs)).length = (a :: zs).length * 1:=gK (a :: zs)
   simp only [true_and,and_true,le_refl,Nat.zero_add,Nat.mul_one,rF,rW,er]
   refine ifD (fun h'=>by omega) (fun _=>ifD (fun _=>hx) (fun h0=>?_))
   have hs:=nx x (T.set x.toNat true) (by rw [List.length_set,ht])
   rw [el]
   and_intros
   all_goals first | omega | exact bQ _ | exact cI _ | decide | skip
   exact hs
 | i + 1,x,hi,h1,h2=>by
  have n0:=or17 hn ht hv h out ho nx i x (by omega) h1 h2
  have n1:=or17 hn ht hv h out ho nx i i (by omega) (by omega) (by omega)
  have e0 : (((i + 1 : Nat) : Int) - 1) = (i : Int):=by omega
  have e1 : ((i : Nat) : Int).toNat = i:=toNat_natCast i
  have i1 : i < T.length:=by omega
  have i2 : i < V.length:=by omega
  have w : IntKind.i64.wrap ((i : Int) - 1) = (i : Int) - 1:=bA (by omega) (by omega)
  cases out with
  | nil =>
   refine aV jD mixed _ (aG2 n es.length (aB es) T V (((i + 1 : Nat) : Int) - 1) x _ _) ?_
   rw [e0]
   simp only [true_and,and_true,le_refl,Nat.zero_add,Nat.mul_one,e1,lV i1,lV i2,uK,w]
   refine ifD (fun _=>⟨⟨by omega,by omega⟩,aE (fun _=>?_) (fun _=>⟨⟨by omega,by omega⟩,aE (fun _=>?_) (fun _=>?_)⟩)⟩) (fun h'=>by omega)
   ·exact ⟨⟨bQ _,bQ _⟩,n0⟩
   ·exact ⟨⟨bQ _,bQ _⟩,n0⟩
   ·exact ⟨⟨bQ _,bQ _⟩,n1⟩
  | cons a zs =>
   refine aV jD mixed _ (aG1 n es.length (aB es) (a :: zs).length (dR (a :: zs)) T V (((i + 1 : Nat) : Int) - 1) x _ _) ?_
   rw [e0]
   simp only [true_and,and_true,le_refl,Nat.zero_add,Nat.mul_one,e1,lV i1,lV i2,uK,w]
   refine ifD (fun _=>⟨⟨by omega,by omega⟩,aE (fun _=>?_) (fun _=>⟨⟨by omega,by omega⟩,aE (fun _=>?_) (fun _=>?_)⟩)⟩) (fun h'=>by omega)
   ·exact ⟨⟨cI _,bQ _,bQ _⟩,n0⟩
   ·exact ⟨⟨cI _,bQ _,bQ _⟩,n0⟩
   ·exact ⟨⟨cI _,bQ _,bQ _⟩,n1⟩
theorem or11 (hn : n <= 256) (he : okEs n es) (hes : es.length < 2 ^ 60) {T : List Bool} (ht : T.length = n) (out : List Int) (nx : ∀ V : List Bool,V.length = n -> OkP 190 [.int .i64 n,tree 2 es.length (aB es)] 17 Post (aNV n es T V (-1) n out)) :
  ∀ (m i : Nat) (V : List Bool),i + m = es.length -> V.length = n -> OkP 190 [.int .i64 n,tree 2 es.length (aB es)] 11 Post (aNS n es T V i out)
 | 0,i,V,hi,hv=>by
  have n0:=nx V hv
  have w : IntKind.i64.wrap ((n : Int) - 1) = (n : Int) - 1:=bA (by omega) (by omega)
  cases out with
  | nil =>
   refine aV jD mixed _ (aED n es.length (aB es) T V i _ _) ?_
   simp only [true_and,and_true,le_refl,w]
   exact ifD (fun h'=>by omega) (fun _=>⟨⟨bQ _,bQ _⟩,n0⟩)
  | cons a zs =>
   refine aV jD mixed _ (aEL n es.length (aB es) (a :: zs).length (dR (a :: zs)) T V i _ _) ?_
   simp only [true_and,and_true,le_refl,w]
   exact ifD (fun h'=>by omega) (fun _=>⟨⟨cI _,bQ _,bQ _⟩,n0⟩)
 | m + 1,i,V,hi,hv=>by
  have i1 : i < es.length:=by omega
  obtain ⟨b0,b1,b2,b3⟩:=he _ (List.getElem_mem i1)
  obtain ⟨c0,c1⟩:=aCe i1
  have e1 : ((i : Nat) : Int).toNat = i:=toNat_natCast i
  have ta : es[i].a.toNat < T.length:=by omega
  have n0:=or11 hn he hes ht out nx m (i + 1) V (by omega) hv
  have n1:=or11 hn he hes ht out nx m (i + 1) (V.set es[i].b.toNat true) (by omega) (by rw [List.length_set,hv])
  cases out with
  | nil =>
   refine aV jD mixed _ (aED n es.length (aB es) T V i _ _) ?_
   simp only [true_and,and_true,le_refl,Nat.zero_add,Nat.mul_one,e1] at c0 c1 ⊢
   simp only [c0,c1,aQ,lV ta,uK,rF,rW,true_and,aJ (show i < 2 ^ 62 by omega)]
   refine ifD (fun _=>⟨⟨by omega,by omega⟩,by decide,⟨by omega,by omega⟩,aE (fun _=>?_) (fun _=>⟨⟨by omega,by omega⟩,by decide,⟨by omega,by omega⟩,by omega,?_⟩)⟩) (fun h'=>by omega)
   ·exact ⟨⟨bQ _,bQ _⟩,n0⟩
   ·exact ⟨⟨bQ _,bQ _⟩,n1⟩
  | cons a zs =>
   refine aV jD mixed _ (aEL n es.length (aB es) (a :: zs).length (dR (a :: zs)) T V i _ _) ?_
   simp only [true_and,and_true,le_refl,Nat.zero_add,Nat.mul_one,e1] at c0 c1 ⊢
   simp only [c0,c1,aQ,lV ta,uK,rF,rW,true_and,aJ (show i < 2 ^ 62 by omega)]
   refine ifD (fun _=>⟨⟨by omega,by omega⟩,by decide,⟨by omega,by omega⟩,aE (fun _=>?_) (fun _=>⟨⟨by omega,by omega⟩,by decide,⟨by omega,by omega⟩,by omega,?_⟩)⟩) (fun h'=>by omega)
   ·exact ⟨⟨cI _,bQ _,bQ _⟩,n0⟩
   ·exact ⟨⟨cI _,bQ _,bQ _⟩,n1⟩
theorem or8 (hn : n <= 256) (he : okEs n es) (hes : es.length < 2 ^ 60) (h : ∀ (l : List Int) (e : Int),Post (.tuple #[tree 1 l.length (aB l),.int .i64 e])) :
  ∀ (m : Nat) (out : List Int) (T : List Bool),out.length + m = n -> T.length = n -> OkP 190 [.int .i64 n,tree 2 es.length (aB es)] 8 Post (aQK n es T out)
 | m,out,T,hm,ht=>by
  have p25 : (2 : Int) ^ 25 = 33554432:=by decide
  have hc : ((n : Nat) : Int).toNat = n:=toNat_natCast n
  have nx : 0 < m -> OkP 190 [.int .i64 n,tree 2 es.length (aB es)] 11 Post (aNS n es T (List.replicate n false) 0 out):=fun h0=>by
   refine or11 hn he hes ht out (fun V hv=>?_) es.length 0 (List.replicate n false) (by omega) (by rw [List.length_replicate])
   refine or17 hn ht hv h out (by omega) (fun x T' ht'=>?_) n (-1) (le_refl _) (by omega) (by omega)
   exact or8 hn he hes h (m - 1) (out ++ [x]) T' (by rw [List.length_append,List.length_singleton]; omega) ht'
  cases out with
  | nil =>
   refine aV jD mixed _ (aKX n es.length (aB es) T _ _) ?_
   simp only [true_and,and_true,le_refl,hc,p25,tB]
   have hx:=h [] 0
   refine ifD (fun h'=>?_) (fun _=>hx)
   have q:=nx (by simp at h' hm; omega)
   exact ⟨⟨by omega,by omega,by omega⟩,⟨bQ _,bQ _⟩,q⟩
  | cons a zs =>
   refine aV jD mixed _ (aMa n es.length (aB es) (a :: zs).length (dR (a :: zs)) T _ _) ?_
   have hlen : (dR (a :: zs)).length = (a :: zs).length * 1:=gK (a :: zs)
   have hch : bP 1 (a :: zs).length (List.drop 0 (dR (a :: zs))) = aB (a :: zs):=by
    rw [List.drop_zero]
    exact kS (a :: zs)
   have hx:=h (a :: zs) 0
   rw [← hch] at hx
   simp only [true_and,and_true,le_refl,hc,p25,tB]
   refine ifD (fun h'=>?_) (fun _=>⟨⟨by omega,cI _⟩,hx⟩)
   have q:=nx (by omega)
   exact ⟨⟨by omega,by omega,by omega⟩,⟨cI _,bQ _,bQ _⟩,q⟩
termination_by m=>m
end
theorem aNK : aZ Tryz.prog ⟨190,aIK⟩:=by
 rintro args Post ⟨n,es,rfl,hn,hes,h⟩
 refine aN jD mixed (by kernel_rfl) (by kernel_rfl) _ (aPN n es.length (aB es) _ _) ?_
 have p25 : (2 : Int) ^ 25 = 33554432:=by decide
 have hc : ((n : Nat) : Int).toNat = n:=toNat_natCast n
 have h0:=fun e=>h [] e
 simp only [true_and,and_true,le_refl,hc,p25,tB]
 refine ifD (fun _=>h0 _) (fun hn2=>⟨n,es,rfl,Nat.lt_of_le_of_lt hes (by decide),fun e he=>ifN (fun _=>h0 _) (fun hz=>⟨⟨by omega,by omega,by omega⟩,bQ _,?_⟩)⟩)
 exact or8 (by omega) (he hz) (Nat.lt_of_le_of_lt hes (by decide)) h n [] (List.replicate n false) (by simp) (by rw [List.length_replicate])
theorem aAM : aW Tryz.prog mB:=mV (by
 intro e he
 simp only [mem_cons,not_mem_nil,or_false] at he
 rcases he with rfl | rfl | rfl | rfl | rfl | rfl | rfl
 ·exact aFM
 ·exact aDQ
 ·exact aCF
 ·exact aIS
 ·exact aK6
 ·exact aDC
 ·exact aNK) aD
theorem aGD : aZ Tryz.prog ⟨115,aCu⟩:=by
 rintro args Post ⟨d,rfl,q,hd,ha,t,hf,h⟩
 refine aN aAM mixed (by kernel_rfl) (by kernel_rfl) _ (aKK d _ _) ?_
 simp only [true_and,and_true,le_refl]
 exact ⟨d,rfl,q,pk4 aAM q t hf h hd ha d.packs.length 0 [] (by omega) (Nat.zero_le _)⟩
theorem aNW : aW Tryz.prog aQL:=aM (by
 intro e he
 simp only [mem_cons,not_mem_nil,or_false] at he
 rcases he with rfl | rfl | rfl | rfl | rfl | rfl | rfl
 ·exact aKi
 ·exact aJs
 ·exact aGS
 ·exact aHx
 ·exact aH6
 ·exact aGD
 ·exact aGK) aD
theorem aOf {d : Design6} (h : sE d 60) : Few17 d:=by
 obtain ⟨h1,h2,h3,h4,h5,h6⟩:=h
 exact ⟨by omega,by omega,by omega,by omega,by omega,fun x hx=>by have:=h6 x hx; omega⟩
theorem aGC : aZ Tryz.prog ⟨44,aCJ⟩:=by
 rintro args Post ⟨d,m,rfl,hq,t,hf,hp,hm,h⟩
 have q:=aOf hq
 obtain ⟨_,_,_,h4,_,h6⟩:=hq
 refine aN aNW mixed (by kernel_rfl) (by kernel_rfl) _ (aKa d m _ _) ?_
 have no : ∀ e : Int,e ≠ 0 -> Post (.int .i64 e):=fun e he=>h e fun z=>absurd z he
 simp only [true_and,and_true,le_refl]
 exact ⟨m,rfl,hm,fun e=>ifN (fun z=>no _ z) (fun _=>⟨d,rfl,q,fun e h1=>ifN (fun z=>no _ z) (fun z1=>⟨d,rfl,q,t,hf,fun e=>ifN (fun z=>no _ z) (fun _=>⟨d,m,rfl,q,hp,hm,fun e h2=>ifN (fun z=>no _ z) (fun z2=>⟨d,rfl,q,t,hf,fun e=>ifN (fun z=>no _ z) (fun _=>⟨d,rfl,q,by omega,fun x hx=>by have:=h6 x hx; omega,t,hf,fun e=>ifN (fun z=>no _ z) (fun _=>⟨d,rfl,q,fun e=>h e fun _=>⟨h1 z1,h2 z2⟩⟩)⟩)⟩)⟩)⟩)⟩)⟩
end Go.Proofs.YtngginofamlkkaaGreatDoor

noncomputable section
namespace Go.Proofs.YtngginofamlkkaaGreatDoor
open Go Go.RowKit
open Go.IntKind (i64 wrap)
open List (length)
set_option maxRecDepth 100000
set_option maxHeartbeats 8000000
def eD (d : Design6) (v : Vec3) : Design6:={ d with parts:=d.parts.map fun p=>eO p v }
def cD (l : List Part) : List ByteArray:=l.map fun p=>p.id
def aDP (l : List Part) : Prop:=∀ (i j : Nat) (hi : i < l.length) (hj : j < l.length),j < i -> ¬ l[j].id = l[i].id
theorem aAs {d : Design6} (ho : aDP d.parts) {k : Nat} (hk : k < d.parts.length) : cO d d.parts[k].id = some d.parts[k]:=wG hk rfl fun j hj hjk=>ho k j hk hj hjk
theorem aEA {d : Design6} (ho : aDP d.parts) : dD d (cD d.parts) = d.parts:=by
 unfold dD cD
 rw [List.map_map]
 refine List.ext_getElem (by rw [List.length_map]) fun i h1 h2=>?_
 rw [List.getElem_map]
 show (cO d d.parts[i].id).getD iG = _
 rw [aAs ho h2]
 rfl
theorem aKz {d : Design6} (ho : aDP d.parts) : sG d (cD d.parts):=fun s hs=>by
 obtain ⟨p,hp,rfl⟩:=List.mem_map.1 hs
 obtain ⟨i,hi,rfl⟩:=List.mem_iff_getElem.1 hp
 rw [aAs ho hi]
 rfl
theorem aLF {d : Design6} (v : Vec3) (ho : aDP d.parts) : aDP (eD d v).parts:=fun i j hi hj hji=>by
 have hl : (eD d v).parts.length = d.parts.length:=List.length_map _
 have e : ∀ k (hk : k < (eD d v).parts.length),(eD d v).parts[k].id = (d.parts[k]'(by omega)).id:=fun k hk=>by
  have q : (eD d v).parts[k] = eO (d.parts[k]'(by omega)) v:=List.getElem_map _
  rw [q]
  rfl
 rw [e,e]
 exact ho i j _ _ hji
theorem aPH (d : Design6) (v : Vec3) : cD (eD d v).parts = cD d.parts:=by
 unfold cD eD
 rw [List.map_map]
 rfl
theorem of_own {d : Design6} {m : Mats} (ho : aDP d.parts) (hc : ∀ p ∈ d.parts,bF p m = 0) (hk : iI (dJ (d.parts.map fun p=>aT p m))) : ofW d m (cD d.parts) = dJ (d.parts.map fun p=>aT p m) /\ ofE d m (cD d.parts) = 0:=by
 have ha:=aKz ho
 have hna : ¬ ¬ sG d (cD d.parts):=fun hn=>hn ha
 have he : ¬ aAY m d.parts ≠ 0:=fun hn=>hn (aCb.2 hc)
 unfold ofW ofE aBz aCN
 rw [if_neg hna,if_neg hna,aEA ho,if_neg he,if_neg he,if_pos hk,if_pos hk]
 exact ⟨rfl,rfl⟩
def oL (p : Part) (m : Mats) : Vec3:=gD (eR p m) p.turn
theorem aMA {p : Part} {m : Mats} (h : bF p m = 0) : inV (oL p m) 524288:=aFs (xR h) p.turn
theorem wO {p : Part} {m : Mats} (h : bF p m = 0) : aT p m = ⟨bT p m,bT p m * ((oL p m).x + p.at_.x),bT p m * ((oL p m).y + p.at_.y),bT p m * ((oL p m).z + p.at_.z),fQ (bT p m) 50000 * fQ (bT p m) 50000⟩:=by
 have hm:=tS p m
 have hc:=xR h
 have ha:=aAK h
 have ht:=aMA h
 obtain ⟨c0,c1⟩:=aE6 hm.1 hm.2
 have hv:=fW (a:=fQ (bT p m) 50000) (b:=fQ (bT p m) 50000) (A:=22000000) (B:=22000000) (by omega) (by omega)
 unfold aT
 rw [if_pos h,aF2 ha hc]
 show (⟨_,jA (bT p m * ((oL p m).x + p.at_.x)),jA (bT p m * ((oL p m).y + p.at_.y)),jA (bT p m * ((oL p m).z + p.at_.z)),_⟩ : Wt) = _
 unfold inV at ha ht
 rw [(iU (x:=(oL p m).x + p.at_.x) hm (by omega)).1,(iU (x:=(oL p m).y + p.at_.y) hm (by omega)).1,(iU (x:=(oL p m).z + p.at_.z) hm (by omega)).1,jM (n:=fQ (bT p m) 50000 * fQ (bT p m) 50000) (by omega) (by omega)]
theorem aEr {p : Part} {v : Vec3} (hp : inV p.at_ 131072) (hv : inV v 131072) : (eO p v).at_ = ⟨p.at_.x + v.x,p.at_.y + v.y,p.at_.z + v.z⟩:=by
 unfold inV at hp hv
 unfold eO
 dsimp only
 rw [jM (n:=p.at_.x + v.x) (by omega) (by omega),jM (n:=p.at_.y + v.y) (by omega) (by omega),jM (n:=p.at_.z + v.z) (by omega) (by omega)]
theorem yP {p : Part} {m : Mats} {v : Vec3} (hp : inV p.at_ 131072) (hv : inV v 131072) (h : bF p m = 0) : bF (eO p v) m = 0:=by
 have hval0:=(jV h).2.2.2.2.1
 have hval : dW (eO p v).at_ (eO p v).turn:=⟨by rw [aEr hp hv]; unfold inV at *; dsimp only; omega,hval0.2⟩
 have e : bF (eO p v) m = bF p m:=by
  unfold bF
  rw [if_neg (show ¬ ¬ dW (eO p v).at_ (eO p v).turn from fun hn=>hn hval),if_neg (show ¬ ¬ dW p.at_ p.turn from fun hn=>hn hval0)]
  rfl
 rw [e,h]
theorem aNH {p : Part} {m : Mats} {v : Vec3} (hp : inV p.at_ 131072) (hv : inV v 131072) (h : bF p m = 0) : aT (eO p v) m = ⟨(aT p m).m,(aT p m).x + (aT p m).m * v.x,(aT p m).y + (aT p m).m * v.y,(aT p m).z + (aT p m).m * v.z,(aT p m).v⟩:=by
 have k:=yP hp hv h
 have ea : oL (eO p v) m = oL p m:=by
  unfold oL
  rw [aEh h k]
  rfl
 rw [wO k,wO h,aHW h k,ea,aEr hp hv]
 dsimp only
 have e : ∀ a t b x : Int,a * (t + (b + x)) = a * (t + b) + a * x:=fun a t b x=>by rw [← Int.add_assoc,Int.mul_add]
 rw [e,e,e]
theorem xE (w : Wt) (ws : List Wt) : dJ (w :: ws) = ⟨w.m + (dJ ws).m,w.x + (dJ ws).x,w.y + (dJ ws).y,w.z + (dJ ws).z,w.v + (dJ ws).v⟩:=rfl
theorem aCy {m : Mats} {v : Vec3} (hv : inV v 131072) : ∀ l : List Part,(∀ p ∈ l,bF p m = 0 /\ inV p.at_ 131072) -> dJ (l.map fun p=>aT (eO p v) m) = ⟨(dJ (l.map fun p=>aT p m)).m,(dJ (l.map fun p=>aT p m)).x + (dJ (l.map fun p=>aT p m)).m * v.x,(dJ (l.map fun p=>aT p m)).y + (dJ (l.map fun p=>aT p m)).m * v.y,(dJ (l.map fun p=>aT p m)).z + (dJ (l.map fun p=>aT p m)).m * v.z,(dJ (l.map fun p=>aT p m)).v⟩
 | [],_=>by simp [dJ]
 | p :: l,h=>by
  have ih:=aCy hv l fun q hq=>h q (List.mem_cons_of_mem _ hq)
  obtain ⟨h1,h2⟩:=h p List.mem_cons_self
  rw [List.map_cons,List.map_cons,xE,xE,ih,aNH h2 hv h1]
  generalize aT p m = w
  generalize dJ (l.map fun p=>aT p m) = t
  dsimp only
  have e : ∀ a b c d x : Int,a + c * x + (b + d * x) = a + b + (c + d) * x:=fun a b c d x=>by rw [Int.add_mul]; omega
  rw [e,e,e]
theorem aHe {m : Mats} : ∀ l : List Part,(∀ p ∈ l,bF p m = 0) -> 0 <= (dJ (l.map fun p=>aT p m)).m /\ (-(1048576 * (dJ (l.map fun p=>aT p m)).m) <= (dJ (l.map fun p=>aT p m)).x /\ (dJ (l.map fun p=>aT p m)).x <= 1048576 * (dJ (l.map fun p=>aT p m)).m) /\ (-(1048576 * (dJ (l.map fun p=>aT p m)).m) <= (dJ (l.map fun p=>aT p m)).y /\ (dJ (l.map fun p=>aT p m)).y <= 1048576 * (dJ (l.map fun p=>aT p m)).m) /\ (-(1048576 * (dJ (l.map fun p=>aT p m)).m) <= (dJ (l.map fun p=>aT p m)).z /\ (dJ (l.map fun p=>aT p m)).z <= 1048576 * (dJ (l.map fun p=>aT p m)).m) /\ 0 <= (dJ (l.map fun p=>aT p m)).v /\ (dJ (l.map fun p=>aT p m)).v <= 484000000000000 * (l.length : Int)
 | [],_=>by simp [dJ]
 | p :: l,h=>by
  have ih:=aHe l fun q hq=>h q (List.mem_cons_of_mem _ hq)
  have h1:=h p List.mem_cons_self
  have hm:=tS p m
  have ha:=aAK h1
  have ht:=aMA h1
  obtain ⟨c0,c1⟩:=aE6 hm.1 hm.2
  have hv:=fW (a:=fQ (bT p m) 50000) (b:=fQ (bT p m) 50000) (A:=22000000) (B:=22000000) (by omega) (by omega)
  have hv0:=Int.mul_nonneg c0 c0
  have key : ∀ x : Int,-1048576 <= x -> x <= 1048576 -> -(1048576 * bT p m) <= bT p m * x /\ bT p m * x <= 1048576 * bT p m:=fun x h1 h2=>by
   have q1:=Int.mul_nonneg hm.1 (show 0 <= 1048576 - x by omega)
   have q2:=Int.mul_nonneg hm.1 (show 0 <= 1048576 + x by omega)
   rw [Int.mul_sub] at q1
   rw [Int.mul_add] at q2
   omega
  unfold inV at ha ht
  have kx:=key ((oL p m).x + p.at_.x) (by omega) (by omega)
  have ky:=key ((oL p m).y + p.at_.y) (by omega) (by omega)
  have kz:=key ((oL p m).z + p.at_.z) (by omega) (by omega)
  rw [List.map_cons,xE,wO h1,List.length_cons]
  generalize dJ (l.map fun p=>aT p m) = t at *
  dsimp only
  clear key ha ht
  generalize bT p m * ((oL p m).x + p.at_.x) = mx at *
  generalize bT p m * ((oL p m).y + p.at_.y) = my at *
  generalize bT p m * ((oL p m).z + p.at_.z) = mz at *
  generalize fQ (bT p m) 50000 * fQ (bT p m) 50000 = mv at *
  generalize bT p m = ma at *
  omega
theorem aNv {m : Mats} {l : List Part} (h : ∀ p ∈ l,bF p m = 0) : (dJ (l.map fun p=>aT p m)).m = (l.map fun p=>bT p m).sum:=by
 show ((l.map fun p=>aT p m).map (aS 0)).sum = _
 rw [List.map_map]
 congr 1
 exact List.map_congr_left fun p hp=>aNT (h p hp)
theorem aJD {d : Design6} {m : Mats} {v : Vec3} (hl : d.parts.length <= 60) (ho : aDP d.parts) (hc : ∀ p ∈ d.parts,bF p m = 0) (hn : ∀ p ∈ d.parts,inV p.at_ 131072) (hv : inV v 131072) (hs : (d.parts.map fun p=>bT p m).sum <= 1099511627776) :
  ofE d m (cD d.parts) = 0 /\ ofE (eD d v) m (cD d.parts) = 0 /\ (iI (ofW d m (cD d.parts)) /\ iI (ofW (eD d v) m (cD d.parts))) /\ ofW (eD d v) m (cD d.parts) = ⟨(ofW d m (cD d.parts)).m,(ofW d m (cD d.parts)).x + (ofW d m (cD d.parts)).m * v.x,(ofW d m (cD d.parts)).y + (ofW d m (cD d.parts)).m * v.y,(ofW d m (cD d.parts)).z + (ofW d m (cD d.parts)).m * v.z,(ofW d m (cD d.parts)).v⟩:=by
 have hcf : ∀ p ∈ (eD d v).parts,bF p m = 0:=fun p hp=>by
  obtain ⟨q,hq,rfl⟩:=List.mem_map.1 hp
  exact yP (hn q hq) hv (hc q hq)
 have em:=aCy hv d.parts fun p hp=>⟨hc p hp,hn p hp⟩
 have ef : dJ ((eD d v).parts.map fun p=>aT p m) = dJ (d.parts.map fun p=>aT (eO p v) m):=by
  unfold eD
  dsimp only
  rw [List.map_map]
  rfl
 have b1:=aHe d.parts hc
 have b2:=aHe (eD d v).parts hcf
 have hlf : (eD d v).parts.length = d.parts.length:=List.length_map _
 rw [hlf,ef,em] at b2
 dsimp only at b2
 have ms:=aNv hc
 rw [← ms] at hs
 have k1 : iI (dJ (d.parts.map fun p=>aT p m)):=by
  unfold iI
  generalize dJ (d.parts.map fun p=>aT p m) = t at *
  omega
 have k2 : iI (dJ ((eD d v).parts.map fun p=>aT p m)):=by
  rw [ef,em]
  unfold iI
  dsimp only
  generalize dJ (d.parts.map fun p=>aT p m) = t at *
  omega
 obtain ⟨f1,f2⟩:=of_own ho hc k1
 obtain ⟨g1,g2⟩:=of_own (aLF v ho) hcf k2
 rw [aPH] at g1 g2
 refine ⟨f2,g2,⟨by rw [f1]; exact k1,by rw [g1]; exact k2⟩,?_⟩
 rw [f1,g1,ef,em]
def aPf : bH:=cT Tryz.prog [43] (nV Tryz.prog [⟨38,aIs⟩,⟨44,aCJ⟩,⟨40,c_of⟩,⟨39,aIB⟩] aI) 2
abbrev lpWM : List (Nat × List Nat):=[(7,[3,4,5,7,8,9])]
abbrev aNY (d : Design6) (v : Value) : List Value:=[.string d.hull,tree 3 d.nodes.length (aB d.nodes),v,tree 6 d.seams.length (aB d.seams),tree 5 d.packs.length (aB d.packs),tree 3 d.needs.length (aB d.needs)]
abbrev aFt (v : Vec3) : List Value:=[.int .i64 v.x,.int .i64 v.y,.int .i64 v.z]
theorem aBE (d : Design6) (m : Mats) (v : Vec3) (H : HT) (Post : PV) : vcP Tryz.prog aPf 13 lpWM [aC d,bD m,iB v] H Post = (let q8:=d.parts; let q7:=eqL [] [] /\ T2 (Post (vb true)); let q6:=d.needs; let q5:=d.packs; let q4:=d.seams; let q3:=d.nodes; let q2:=True /\ eqL [] [] /\ T2 (Post (vb true)); let q1:=#[vs d.hull,tree 3 q3.length (aB q3),tree 18 q8.length (aB q8),tree 6 q4.length (aB q4),tree 5 q5.length (aB q5),tree 3 q6.length (aB q6)]; T4 (True /\ ((T4 (T2 (True))) /\ True /\ True) /\ ∃ (d_1 : Design6),∃ (n : Int),eqL [Value.agg q1,vi 60] [aC d_1,vi n] /\ n <= 1000 /\ pIf (decide (sE d_1 n)) (T8 (pIf (decide (v.x >= -131072)) (T4 (pIf (decide (v.x <= 131072)) (T4 (True /\ pIf (decide (v.y >= -131072)) (T4 (True /\ pIf (decide (v.y <= 131072)) (T4 (True /\ pIf (decide (v.z >= -131072)) (T4 (True /\ pIf (decide (v.z <= 131072)) (T4 (T2 (True /\ ((T4 (T2 (True))) /\ (T2 (True)) /\ True) /\ ∃ (d_2 : Design6),∃ (m_1 : Mats),eqL [Value.agg q1,bD m] [aC d_2,bD m_1] /\ ((↑d_2.nodes.length : Int) <= 60 /\ (↑d_2.parts.length : Int) <= 60 /\ (↑d_2.seams.length : Int) <= 60 /\ (↑d_2.packs.length : Int) <= 60 /\ (↑d_2.needs.length : Int) <= 60 /\ ∀ (p : Pack5),p ∈ d_2.packs -> (↑p.parts.length : Int) <= 60 /\ (↑p.after.length : Int) <= 60) /\ Txt17 d_2 /\ FitD d_2 /\ FitP17 d_2 /\ FewR m_1 /\ ∀ (e : Int),(e = 0 -> (∀ (i j : Nat) (hi : i < length (bC d_2)) (hj : j < length (bC d_2)),j < i -> (bC d_2)[j] = (bC d_2)[i] -> False) /\ (∀ (p : Part),p ∈ d_2.parts -> bF p m_1 = 0) /\ List.sum (List.map (fun (p : Part)=>bT p m_1) d_2.parts) <= 1099511627776) -> True /\ pIf (!decide (e = 0)) (T2 q7) (T2 (True /\ 6 <= 6 /\ True /\ 3 <= 6 /\ T2 (True /\ (T4 (True)) /\ HP H 13 7 (stV [(3,some (pt 0)),(4,some (pt 1)),(5,some (pt 2)),(7,some (pt 3)),(8,some (nS)),(9,some (vi 0))] [(0,some (AObj.cells [vs d.hull,tree 3 q3.length (aB q3),tree 18 q8.length (aB q8),tree 6 q4.length (aB q4),tree 5 q5.length (aB q5),tree 3 q6.length (aB q6)] true)),(1,some (AObj.cells (dO m) true)),(2,some (AObj.cells [vi v.x,vi v.y,vi v.z] true)),(3,some (AObj.cells [vs d.hull,tree 3 q3.length (aB q3),nS,tree 6 q4.length (aB q4),tree 5 q5.length (aB q5),tree 3 q6.length (aB q6)] true))] 4))))))) (T4 (T2 q2)))) (T8 q2))) (T8 (T2 q2)))) (T8 (T4 q2)))) (T8 (T4 (T2 q2))))) (T16 q7))) (T4 (T2 q7)))):=by kernel_rfl
theorem qP (d : Design6) (m : Mats) (v : Vec3) (k : Int) (H : HT) (Post : PV) : bX Tryz.prog aPf 13 [aC d,bD m,iB v] lpWM 7 (stV [(3,some (pt 0)),(4,some (pt 1)),(5,some (pt 2)),(7,some (pt 3)),(8,some (.slice none 0 0)),(9,some (vi k))] [(0,some (.cells (aG d) true)),(1,some (.cells (dO m) true)),(2,some (.cells (aFt v) true)),(3,some (.cells (aNY d (.slice none 0 0)) true))] 4) H Post = (let q1:=aB d.parts; let q36:=toI (aA q1 k.toNat 9); let q35:=toS (aA q1 k.toNat 8); let q34:=toI (aA q1 k.toNat 5); let q33:=toS (aA q1 k.toNat 4); let q32:=toS (aA q1 k.toNat 3); let q31:=toI (aA q1 k.toNat 2); let q30:=toI (aA q1 k.toNat 1); let q29:=toI (aA q1 k.toNat 17); let q28:=toI (aA q1 k.toNat 13); let q27:=toI (aA q1 k.toNat 12); let q26:=toI (aA q1 k.toNat 11); let q25:=toI (aA q1 k.toNat 10); let q24:=T4 (Post (vb false)); let q8:=d.needs; let q23:=length q8; let q7:=d.packs; let q22:=length q7; let q6:=d.seams; let q21:=length q6; let q5:=d.nodes; let q20:=length q5; let q19:=d.hull; let q18:=T2 (eqL [] [] /\ T2 (True /\ Post (vb true))); let q17:=(T4 (T2 (True))) /\ (T2 (True)) /\ True /\ True; let q16:=True /\ Post (vb false); let q15:=aA q1 k.toNat 7; let q14:=aA q1 k.toNat 6; let q13:=aA q1 k.toNat 16; let q12:=aA q1 k.toNat 15; let q11:=aA q1 k.toNat 14; let q10:=length d.parts; let q9:=toS (aA q1 k.toNat 0); let q4:=eqL [] [] /\ T2 (Post (vb true)); let q3:=(dO m).toArray; let q2:=[vs q9,vi q30,vi q31,vs q32,vs q33,vi q34,tree 2 (toN q14) (toE q14),tree 1 (toN q15) (toE q15),vs q35,vi q36,vi q25,vi q26,vi q27,vi q28,vi (wrap i64 (toI q11 + v.x)),vi (wrap i64 (toI q12 + v.y)),vi (wrap i64 (toI q13 + v.z)),vi q29]; T4 (True /\ pIf (decide (k < (↑q10 : Int))) (T2 (True /\ (0 <= k /\ k < (↑q10 : Int)) /\ (aA q1 k.toNat 0 = vs q9 /\ aA q1 k.toNat 1 = vi q30 /\ aA q1 k.toNat 2 = vi q31 /\ aA q1 k.toNat 3 = vs q32 /\ aA q1 k.toNat 4 = vs q33 /\ aA q1 k.toNat 5 = vi q34 /\ aA q1 k.toNat 6 = tree 2 (toN q14) (toE q14) /\ aA q1 k.toNat 7 = tree 1 (toN q15) (toE q15) /\ aA q1 k.toNat 8 = vs q35 /\ aA q1 k.toNat 9 = vi q36 /\ aA q1 k.toNat 10 = vi q25 /\ aA q1 k.toNat 11 = vi q26 /\ aA q1 k.toNat 12 = vi q27 /\ aA q1 k.toNat 13 = vi q28 /\ aA q1 k.toNat 14 = vi (toI q11) /\ aA q1 k.toNat 15 = vi (toI q12) /\ aA q1 k.toNat 16 = vi (toI q13) /\ aA q1 k.toNat 17 = vi q29 /\ True) /\ True /\ 18 <= 18 /\ T8 (pIf (decide (toI q11 >= -131072)) (T4 (pIf (decide (toI q11 <= 131072)) (T4 (True /\ pIf (decide (toI q12 >= -131072)) (T4 (True /\ pIf (decide (toI q12 <= 131072)) (T4 (True /\ pIf (decide (toI q13 >= -131072)) (T4 (True /\ pIf (decide (toI q13 <= 131072)) (T16 (T8 (T2 (True /\ 17 <= 18 /\ T4 (18 <= 18 /\ 1 <= 33554432 /\ true = true /\ 18 = 18 /\ True /\ 3 <= 6 /\ T4 (1 <= 1 /\ 1 <= 33554432 /\ true = true /\ 1 = 1 /\ T4 (True /\ (T4 (NLs [vs q9] /\ NLs q2 /\ True)) /\ HP H 13 7 (stV [(3,some (pt 0)),(4,some (pt 1)),(5,some (pt 2)),(7,some (pt 3)),(8,some (Value.slice (some (Addr.mk 4 0 none)) 1 1)),(9,some (vi (wrap i64 (k + 1))))] [(0,some (AObj.cells [vs q19,tree 3 q20 (aB q5),tree 18 q10 q1,tree 6 q21 (aB q6),tree 5 q22 (aB q7),tree 3 q23 (aB q8)] true)),(1,some (AObj.cells (dO m) true)),(2,some (AObj.cells [vi v.x,vi v.y,vi v.z] true)),(3,some (AObj.cells [vs q19,tree 3 q20 (aB q5),Value.slice (some (Addr.mk 5 0 none)) 1 18,tree 6 q21 (aB q6),tree 5 q22 (aB q7),tree 3 q23 (aB q8)] true)),(4,some (AObj.cells [vs q9] true)),(5,some (AObj.cells q2 true))] 6)))))))) (T4 q4))) (T4 (T2 q4)))) (T8 q4))) (T8 (T2 q4)))) (T8 (T4 q4)))) (T8 (T4 (True /\ eqL [] [] /\ T2 (Post (vb true)))))))) (T2 (True /\ q17 /\ ∃ (d_1 : Design6),∃ (m_1 : Mats),∃ (l : List ByteArray),eqL [Value.agg #[vs q19,tree 3 q20 (aB q5),tree 18 q10 q1,tree 6 q21 (aB q6),tree 5 q22 (aB q7),tree 3 q23 (aB q8)],Value.agg q3,tree 1 0 #[]] [aC d_1,bD m_1,tree 1 l.length (aB l)] /\ FitO d_1 /\ FewM m_1 /\ length l <= 65536 /\ T4 (5 <= 5 /\ T4 (q17 /\ ∃ (d_2 : Design6),∃ (m_2 : Mats),∃ (l_1 : List ByteArray),eqL [Value.agg #[vs q19,tree 3 q20 (aB q5),tree 18 0 #[],tree 6 q21 (aB q6),tree 5 q22 (aB q7),tree 3 q23 (aB q8)],Value.agg q3,tree 1 0 #[]] [aC d_2,bD m_2,tree 1 l_1.length (aB l_1)] /\ FitO d_2 /\ FewM m_2 /\ length l_1 <= 65536 /\ T4 (5 <= 5 /\ T2 (True /\ pIf (!decide (ofE d_1 m_1 l = 0)) (T4 (True /\ pIf (decide (ofE d_1 m_1 l = ofE d_2 m_2 l_1)) q18 q24)) (T2 (True /\ pIf (!decide (ofE d_2 m_2 l_1 = 0)) (T4 (pIf (decide (ofE d_1 m_1 l = ofE d_2 m_2 l_1)) q18 q24)) (T4 (T2 (pIf (decide (Wt.m (ofW d_2 m_2 l_1) = Wt.m (ofW d_1 m_1 l))) (T4 (T2 (pIf (decide (Wt.v (ofW d_2 m_2 l_1) = Wt.v (ofW d_1 m_1 l))) (T8 (T4 (True /\ pIf (decide (Wt.x (ofW d_2 m_2 l_1) = wrap i64 (Wt.x (ofW d_1 m_1 l) + wrap i64 (Wt.m (ofW d_1 m_1 l) * v.x)))) (T8 (T4 (True /\ pIf (decide (Wt.y (ofW d_2 m_2 l_1) = wrap i64 (Wt.y (ofW d_1 m_1 l) + wrap i64 (Wt.m (ofW d_1 m_1 l) * v.y)))) (T8 (T4 (True /\ pIf (decide (Wt.z (ofW d_2 m_2 l_1) = wrap i64 (Wt.z (ofW d_1 m_1 l) + wrap i64 (Wt.m (ofW d_1 m_1 l) * v.z)))) (T2 (True /\ eqL [] [] /\ T2 (True /\ Post (vb true)))) (T4 q16)))) (T4 (T2 q16))))) (T8 q16)))) (T8 (T2 q16))))) (T8 q24)))))))))))))):=by kernel_rfl
theorem rD (d : Design6) (m : Mats) (v : Vec3) (k : Int) (j q : Nat) (l r : List Value) (H : HT) (Post : PV) : bX Tryz.prog aPf 13 [aC d,bD m,iB v] lpWM 7 (stV [(3,some (pt 0)),(4,some (pt 1)),(5,some (pt 2)),(7,some (pt 3)),(8,some (.slice (some ⟨4,0,none⟩) j 1)),(9,some (vi k))] [(0,some (.cells (aG d) true)),(1,some (.cells (dO m) true)),(2,some (.cells (aFt v) true)),(3,some (.cells (aNY d (.slice (some ⟨5,0,none⟩) q 18)) true)),(4,some (.cells l true)),(5,some (.cells r true))] 6) H Post = (let q1:=aB d.parts; let q36:=toI (aA q1 k.toNat 9); let q35:=toS (aA q1 k.toNat 8); let q34:=toI (aA q1 k.toNat 5); let q33:=toS (aA q1 k.toNat 4); let q32:=toS (aA q1 k.toNat 3); let q31:=toI (aA q1 k.toNat 2); let q30:=toI (aA q1 k.toNat 1); let q29:=toI (aA q1 k.toNat 17); let q28:=toI (aA q1 k.toNat 13); let q27:=toI (aA q1 k.toNat 12); let q26:=toI (aA q1 k.toNat 11); let q25:=toI (aA q1 k.toNat 10); let q24:=0 + j * 1 <= length l /\ NLs l; let q23:=T4 (Post (vb false)); let q8:=d.needs; let q22:=length q8; let q7:=d.packs; let q21:=length q7; let q6:=d.seams; let q20:=length q6; let q5:=d.nodes; let q19:=length q5; let q18:=d.hull; let q17:=T2 (eqL [] [] /\ T2 (True /\ Post (vb true))); let q16:=True /\ Post (vb false); let q15:=aA q1 k.toNat 7; let q14:=aA q1 k.toNat 6; let q13:=aA q1 k.toNat 16; let q12:=aA q1 k.toNat 15; let q11:=aA q1 k.toNat 14; let q10:=length d.parts; let q9:=toS (aA q1 k.toNat 0); let q4:=eqL [] [] /\ T2 (Post (vb true)); let q3:=(dO m).toArray; let q2:=r ++ [vs q9,vi q30,vi q31,vs q32,vs q33,vi q34,tree 2 (toN q14) (toE q14),tree 1 (toN q15) (toE q15),vs q35,vi q36,vi q25,vi q26,vi q27,vi q28,vi (wrap i64 (toI q11 + v.x)),vi (wrap i64 (toI q12 + v.y)),vi (wrap i64 (toI q13 + v.z)),vi q29]; T4 (True /\ pIf (decide (k < (↑q10 : Int))) (T2 (True /\ (0 <= k /\ k < (↑q10 : Int)) /\ (aA q1 k.toNat 0 = vs q9 /\ aA q1 k.toNat 1 = vi q30 /\ aA q1 k.toNat 2 = vi q31 /\ aA q1 k.toNat 3 = vs q32 /\ aA q1 k.toNat 4 = vs q33 /\ aA q1 k.toNat 5 = vi q34 /\ aA q1 k.toNat 6 = tree 2 (toN q14) (toE q14) /\ aA q1 k.toNat 7 = tree 1 (toN q15) (toE q15) /\ aA q1 k.toNat 8 = vs q35 /\ aA q1 k.toNat 9 = vi q36 /\ aA q1 k.toNat 10 = vi q25 /\ aA q1 k.toNat 11 = vi q26 /\ aA q1 k.toNat 12 = vi q27 /\ aA q1 k.toNat 13 = vi q28 /\ aA q1 k.toNat 14 = vi (toI q11) /\ aA q1 k.toNat 15 = vi (toI q12) /\ aA q1 k.toNat 16 = vi (toI q13) /\ aA q1 k.toNat 17 = vi q29 /\ True) /\ True /\ 18 <= 18 /\ T8 (pIf (decide (toI q11 >= -131072)) (T4 (pIf (decide (toI q11 <= 131072)) (T4 (True /\ pIf (decide (toI q12 >= -131072)) (T4 (True /\ pIf (decide (toI q12 <= 131072)) (T4 (True /\ pIf (decide (toI q13 >= -131072)) (T4 (True /\ pIf (decide (toI q13 <= 131072)) (T16 (T8 (T2 (True /\ 17 <= 18 /\ T4 (18 <= 18 /\ q + 1 <= 33554432 /\ true = true /\ 18 = 18 /\ 0 + q * 18 = length r /\ True /\ 3 <= 6 /\ T4 (1 <= 1 /\ j + 1 <= 33554432 /\ true = true /\ 1 = 1 /\ 0 + j * 1 = length l /\ T4 (True /\ (T4 (NLs (l ++ [vs q9]) /\ NLs q2 /\ True)) /\ HP H 13 7 (stV [(3,some (pt 0)),(4,some (pt 1)),(5,some (pt 2)),(7,some (pt 3)),(8,some (Value.slice (some (Addr.mk 4 0 none)) (j + 1) 1)),(9,some (vi (wrap i64 (k + 1))))] [(0,some (AObj.cells [vs q18,tree 3 q19 (aB q5),tree 18 q10 q1,tree 6 q20 (aB q6),tree 5 q21 (aB q7),tree 3 q22 (aB q8)] true)),(1,some (AObj.cells (dO m) true)),(2,some (AObj.cells [vi v.x,vi v.y,vi v.z] true)),(3,some (AObj.cells [vs q18,tree 3 q19 (aB q5),Value.slice (some (Addr.mk 5 0 none)) (q + 1) 18,tree 6 q20 (aB q6),tree 5 q21 (aB q7),tree 3 q22 (aB q8)] true)),(4,some (AObj.cells (l ++ [vs q9]) true)),(5,some (AObj.cells q2 true))] 6)))))))) (T4 q4))) (T4 (T2 q4)))) (T8 q4))) (T8 (T2 q4)))) (T8 (T4 q4)))) (T8 (T4 (True /\ eqL [] [] /\ T2 (Post (vb true)))))))) (T2 (True /\ ((T4 (T2 (True))) /\ (T2 (True)) /\ q24 /\ True) /\ ∃ (d_1 : Design6),∃ (m_1 : Mats),∃ (l_1 : List ByteArray),eqL [Value.agg #[vs q18,tree 3 q19 (aB q5),tree 18 q10 q1,tree 6 q20 (aB q6),tree 5 q21 (aB q7),tree 3 q22 (aB q8)],Value.agg q3,tree 1 j (bP 1 j (List.drop 0 l))] [aC d_1,bD m_1,tree 1 l_1.length (aB l_1)] /\ FitO d_1 /\ FewM m_1 /\ length l_1 <= 65536 /\ T4 (5 <= 5 /\ T4 (((T2 ((0 + q * 18 <= length r /\ NLs r) /\ T2 (True /\ True))) /\ (T2 (True)) /\ q24 /\ True) /\ ∃ (d_2 : Design6),∃ (m_2 : Mats),∃ (l_2 : List ByteArray),eqL [Value.agg #[vs q18,tree 3 q19 (aB q5),tree 18 q (bP 18 q (List.drop 0 r)),tree 6 q20 (aB q6),tree 5 q21 (aB q7),tree 3 q22 (aB q8)],Value.agg q3,tree 1 j (bP 1 j (List.drop 0 l))] [aC d_2,bD m_2,tree 1 l_2.length (aB l_2)] /\ FitO d_2 /\ FewM m_2 /\ length l_2 <= 65536 /\ T4 (5 <= 5 /\ T2 (True /\ pIf (!decide (ofE d_1 m_1 l_1 = 0)) (T4 (True /\ pIf (decide (ofE d_1 m_1 l_1 = ofE d_2 m_2 l_2)) q17 q23)) (T2 (True /\ pIf (!decide (ofE d_2 m_2 l_2 = 0)) (T4 (pIf (decide (ofE d_1 m_1 l_1 = ofE d_2 m_2 l_2)) q17 q23)) (T4 (T2 (pIf (decide (Wt.m (ofW d_2 m_2 l_2) = Wt.m (ofW d_1 m_1 l_1))) (T4 (T2 (pIf (decide (Wt.v (ofW d_2 m_2 l_2) = Wt.v (ofW d_1 m_1 l_1))) (T8 (T4 (True /\ pIf (decide (Wt.x (ofW d_2 m_2 l_2) = wrap i64 (Wt.x (ofW d_1 m_1 l_1) + wrap i64 (Wt.m (ofW d_1 m_1 l_1) * v.x)))) (T8 (T4 (True /\ pIf (decide (Wt.y (ofW d_2 m_2 l_2) = wrap i64 (Wt.y (ofW d_1 m_1 l_1) + wrap i64 (Wt.m (ofW d_1 m_1 l_1) * v.y)))) (T8 (T4 (True /\ pIf (decide (Wt.z (ofW d_2 m_2 l_2) = wrap i64 (Wt.z (ofW d_1 m_1 l_1) + wrap i64 (Wt.m (ofW d_1 m_1 l_1) * v.z)))) (T2 (True /\ eqL [] [] /\ T2 (True /\ Post (vb true)))) (T4 q16)))) (T4 (T2 q16))))) (T8 q16)))) (T8 (T2 q16))))) (T8 q23)))))))))))))):=by kernel_rfl
structure FitP (d : Design6) : Prop where
 f : ∀ p ∈ d.parts,FitR p
end Go.Proofs.YtngginofamlkkaaGreatDoor
noncomputable section
namespace Go.Proofs.YtngginofamlkkaaGreatDoor
open Go Go.RowKit Go.ChangeShapes Go.WideShapes Go.ChangeAt Go.Deep Go.Joins
open Nat (lt_or_ge)
class Vol (α : Type) where
 vol : α -> Nat
 pos : ∀ a,1 <= vol a
instance : Vol Int:=⟨fun _=>1,fun _=>Nat.le_refl _⟩
instance : Vol Bool:=⟨fun _=>1,fun _=>Nat.le_refl _⟩
instance : Vol ByteArray:=⟨fun s=>1 + s.size,fun s=>Nat.le_add_right _ _⟩
instance {α : Type} [Vol α] : Vol (List α):=⟨fun l=>1 + (l.map Vol.vol).sum,fun s=>Nat.le_add_right _ _⟩
instance {α β : Type} [Vol α] [Vol β] : Vol (α × β):=⟨fun p=>1 + (Vol.vol p.1 + (Vol.vol p.2 + 0)),fun s=>Nat.le_add_right _ _⟩
theorem aOS {α : Type} [Vol α] (l : List α) : l.length + 1 <= Vol.vol l:=by
 show _ <= 1 + (l.map Vol.vol).sum
 induction l with
 | nil=>simp
 | cons a l ih =>
  have:=Vol.pos a
  simp only [List.length_cons,List.map_cons,List.sum_cons]
  omega
theorem aFl {H : Type} (d : DataW H) : 1 <= Rows.uptoBulk d:=by
 cases d with
 | lit l=>cases l <;> simp [Rows.uptoBulk]
 | nil=>simp [Rows.uptoBulk]
 | ptr d=>simp [Rows.uptoBulk]
 | slice elems spare=>simp [Rows.uptoBulk]
 | agg parts=>simp [Rows.uptoBulk]
 | iface t d=>simp [Rows.uptoBulk]
 | map entries=>simp [Rows.uptoBulk]
 | held h=>simp [Rows.uptoBulk]
theorem aFn {H : Type} (l r : List (DataW H)) : Rows.uptoBulkAll (l ++ r) = Rows.uptoBulkAll l + Rows.uptoBulkAll r:=by
 induction l with
 | nil=>simp [Rows.uptoBulkAll]
 | cons x l ih=>simp only [List.cons_append,Rows.uptoBulkAll,ih]; omega
def BK {H : Type} (xs : List (DataW H × List MemPlace)) (k s : Nat) : Prop:=s <= Rows.uptoBulkAll ((xs.drop k).map (·.1))
def BK1 {H : Type} (xs : List (DataW H × List MemPlace)) (k v : Nat) : Prop:=∃ y,xs[k]? = some y /\ v <= Rows.uptoBulk y.1
theorem BK1.next {H : Type} {xs : List (DataW H × List MemPlace)} {k v s : Nat} (h : BK1 xs k v) (r : BK xs (k + 1) s) : BK xs k (v + s):=by
 obtain ⟨y,h1,h2⟩:=h
 unfold BK at r ⊢
 have hk : k < xs.length:=by
  rcases lt_or_ge k xs.length with h | h
  ·exact h
  ·rw [List.getElem?_eq_none h] at h1; cases h1
 rw [List.drop_eq_getElem_cons hk,List.map_cons]
 rw [List.getElem?_eq_getElem hk] at h1
 cases h1
 simp only [Rows.uptoBulkAll]
 omega
theorem BK.done {H : Type} {xs : List (DataW H × List MemPlace)} {k : Nat} : BK xs k 0:=Nat.zero_le _
theorem BK.agg {H : Type} {xs : List (DataW H × List MemPlace)} {s : Nat} (h : BK xs 0 s) : 1 + s <= Rows.uptoBulk (.agg (xs.map (·.1))):=by
 unfold BK at h
 simp only [List.drop_zero] at h
 simp only [Rows.uptoBulk]
 omega
def fA (P : Program) (w : World) (t : TypeId) (α : Type) [Enc α] [Vol α] (Ok : α -> Prop) : Prop :=
 ∀ (H : Type) (enc : TypeId × Value -> H) (base : Nat) (spare : Nat -> Bool) (held : Bool) (fuel : Nat) (cs : List Value) (x : DataW H × List MemPlace),DataW.trod enc P w base spare held fuel t cs = some x -> ∃ a : α,Ok a /\ Vol.vol a <= Rows.uptoBulk x.1 /\ VRC (frW w) (Enc.cells a) cs
section
variable {P : Program} {w : World}
theorem bY {t : TypeId} (ht : P.underlying t = some (.int .i64)) : fA P w t Int jB:=fun H enc base spare held fuel cs x h=>by
 obtain ⟨n,rfl,rfl,hw⟩:=DataW.trod_int ht h
 simp [Lit.wf,IntKind.min,IntKind.max,IntKind.signed,IntKind.bits] at hw
 exact ⟨n,⟨by omega,by omega⟩,aFl _,.one (.int _ _)⟩
theorem bW {t : TypeId} (ht : P.underlying t = some .string) : fA P w t ByteArray fun s=>s.size <= maxLen:=fun H enc base spare held fuel cs x h=>by
 obtain ⟨s,rfl,rfl,hs⟩:=DataW.trod_string ht h
 refine ⟨s,hs,?_,.one (.string _)⟩
 show 1 + s.size <= _
 have e : s.data.toList.length = s.size:=by rw [Array.length_toList]; rfl
 simp only [Rows.uptoBulk,e]
 omega
theorem aK4 {α : Type} [Enc α] (hz : 0 < Enc.sz α) {a : Addr} {len cap : Nat} {l : List α} (hlen : l.length = len) (hl : len <= cap) (h0 : 0 < len)
  (hcl : ∀ (i : Nat) (b : α),l[i]? = some b -> ∀ (j : Nat) (v : Value),(Enc.cells b)[j]? = some v -> ∃ v',w.cell? ((a.add (i * Enc.sz α)).add j) = some v' /\ VR0 (frW w) v v') :
  VR0 (frW w) (tree (Enc.sz α) l.length (aB l)) (.slice (some a) len cap):=by
 have cell : ∀ (i j : Nat),i < len -> j < Enc.sz α -> ∃ v v',(∃ b,l[i]? = some b /\ (Enc.cells b)[j]? = some v) /\ w.cell? (a.add (i * Enc.sz α + j)) = some v' /\ VR0 (frW w) v v':=fun i j hi hj=>by
  have hb : l[i]? = some (l[i]'(by omega)):=List.getElem?_eq_getElem (by omega)
  have hv : (Enc.cells (l[i]'(by omega)))[j]? = some ((Enc.cells (l[i]'(by omega)))[j]'(by rw [Enc.len]; exact hj)):=List.getElem?_eq_getElem _
  obtain ⟨v',h1,h2⟩:=hcl i _ hb j _ hv
  rw [Go.Deep.add_add] at h1
  exact ⟨_,v',⟨_,hb,hv⟩,h1,h2⟩
 obtain ⟨_,v0,_,hv0,_⟩:=cell 0 0 h0 hz
 obtain ⟨cs,ct,fz,hheap,_,hsp⟩:=aIC hv0
 have hsp:=hsp (by omega)
 have at_ : ∀ i j,i < len -> j < Enc.sz α -> ∃ v v',(∃ b,l[i]? = some b /\ (Enc.cells b)[j]? = some v) /\ cs[a.off + (i * Enc.sz α + j)]? = some v' /\ VR0 (frW w) v v':=fun i j hi hj=>by
  obtain ⟨v,v',h1,h2,h3⟩:=cell i j hi hj
  obtain ⟨cs',ct',fz',g1,g2,_⟩:=aIC h2
  rw [hheap] at g1
  cases g1
  exact ⟨v,v',h1,g2,h3⟩
 obtain ⟨blk,off,spot⟩:=a
 simp only at hsp
 subst hsp
 have hsz : off + len * Enc.sz α <= cs.size:=by
  obtain ⟨_,v',_,h2,_⟩:=at_ (len - 1) (Enc.sz α - 1) (by omega) (by omega)
  have hlt : off + ((len - 1) * Enc.sz α + (Enc.sz α - 1)) < cs.size:=(Array.getElem?_eq_some_iff.1 h2).1
  have : len * Enc.sz α = (len - 1) * Enc.sz α + Enc.sz α:=by
   obtain ⟨k,rfl⟩ : ∃ k,len = k + 1:=⟨len - 1,by omega⟩
   rw [Nat.succ_mul]
   simp
  omega
 have hget : ∀ (i : Nat) (u : Value),(aB l)[i]? = some u -> ∃ b,l[i]? = some b /\ u = elt (Enc.cells b):=fun i u hu=>by
  unfold aB at hu
  simp only [List.getElem?_toArray,List.getElem?_map,Option.map_eq_some_iff] at hu
  obtain ⟨b,h1,h2⟩:=hu
  exact ⟨b,h1,h2.symm⟩
 rw [hlen]
 refine VR0.tree (c:=blk) (o:=off) (cs:=cs) (t:=ct) (fz:=fz) hheap (by simp [aB,hlen]) hl hsz (fun i u hu=>?_) (fun i j u v v' hu hv hv'=>?_)
 ·obtain ⟨b,_,rfl⟩:=hget i u hu
  simp [rY (Enc.nl b),Enc.len]
 ·obtain ⟨b,hb,rfl⟩:=hget i u hu
  have hv2 : (Enc.cells b)[j]? = some v:=by simpa [rY (Enc.nl b)] using hv
  have hil : i < len:=by
   rcases lt_or_ge i len with h' | h'
   ·exact h'
   ·rw [List.getElem?_eq_none (by omega)] at hb; cases hb
  have hjl : j < Enc.sz α:=by
   rw [← Enc.len b]
   rcases lt_or_ge j (Enc.cells b).length with h' | h'
   ·exact h'
   ·rw [List.getElem?_eq_none h'] at hv2; cases hv2
  obtain ⟨v1,v1',⟨b1,e1,e2⟩,e3,e4⟩:=at_ i j hil hjl
  rw [hb] at e1
  cases e1
  rw [hv2] at e2
  cases e2
  rw [show off + i * Enc.sz α + j = off + (i * Enc.sz α + j) by omega] at hv'
  have : v1' = v':=by
   have e3' : cs[off + (i * Enc.sz α + j)]? = some v1':=e3
   rw [hv'] at e3'
   cases e3'
   rfl
  subst this
  exact e4
theorem cY {t e : TypeId} {α : Type} [Enc α] [Vol α] {Ok : α -> Prop} (ht : P.underlying t = some (.slice e)) (he : fA P w e α Ok) (hc : P.cellsOf e = Enc.sz α) (hz : 0 < Enc.sz α) :
  fA P w t (List α) fun l=>l.length <= maxLen /\ ∀ a ∈ l,Ok a:=fun H enc base spare held fuel cs x h=>by
 rcases open_slice ht h with ⟨rfl,rfl⟩ | ⟨a,len,cap,m,n,D,Pl,rfl,_,hl,hm,hmm,rfl,hi⟩
 ·exact ⟨[],⟨Nat.zero_le _,fun a ha=>by cases ha⟩,aFl _,.one (.treeNil _ _ _)⟩
 rw [hc] at hi
 have hlm : len <= m:=by rw [hmm]; split <;> omega
 have key : ∀ i,i < len -> ∃ b : α,Ok b /\ Vol.vol b <= Rows.uptoBulk (D i) /\ ∀ (j : Nat) (v : Value),(Enc.cells b)[j]? = some v -> ∃ v',w.cell? ((a.add (i * Enc.sz α)).add j) = some v' /\ VR0 (frW w) v v':=by
  intro i hil
  obtain ⟨cs',h1,h2⟩:=hi i (by omega)
  obtain ⟨_,h3,h4⟩:=World.cells?_some h1
  obtain ⟨b,hb,hbv,hv⟩:=he H enc _ _ _ _ _ _ h2
  refine ⟨b,hb,hbv,fun j v hj=>?_⟩
  have hjl : j < Enc.sz α:=by
   rw [← Enc.len b]
   rcases lt_or_ge j (Enc.cells b).length with h' | h'
   ·exact h'
   ·rw [List.getElem?_eq_none h'] at hj; cases hj
  have hj' : cs'[j]? = some (cs'[j]'(by omega)):=List.getElem?_eq_getElem (by omega)
  exact ⟨_,(h4 j hjl).trans hj',hv.2 j v _ hj hj'⟩
 have build : ∀ k,k <= len -> ∃ l : List α,l.length = k /\ (∀ b ∈ l,Ok b) /\ (l.map Vol.vol).sum <= Rows.uptoBulkAll ((List.range k).map D) /\ ∀ (i : Nat) (b : α),l[i]? = some b -> ∀ (j : Nat) (v : Value),(Enc.cells b)[j]? = some v -> ∃ v',w.cell? ((a.add (i * Enc.sz α)).add j) = some v' /\ VR0 (frW w) v v':=by
  intro k
  induction k with
  | zero=>exact fun _=>⟨[],rfl,by simp,by simp,by simp⟩
  | succ k ih =>
   intro hk
   obtain ⟨l,e1,hin,hbu,hcl⟩:=ih (by omega)
   obtain ⟨b,hb,hbv,hbc⟩:=key k (by omega)
   refine ⟨l ++ [b],by simp [e1],fun x hx=>?_,?_,fun i x hx=>?_⟩
   ·rcases List.mem_append.1 hx with hx | hx
    ·exact hin x hx
    ·simp at hx; subst hx; exact hb
   ·simp only [List.range_succ,List.map_append,aFn,List.sum_append,List.map_cons,List.map_nil,List.sum_cons,List.sum_nil,Rows.uptoBulkAll]
    omega
   ·rcases lt_or_ge i k with hik | hik
    ·rw [List.getElem?_append_left (by omega)] at hx
     exact hcl i x hx
    ·rw [List.getElem?_append_right (by omega),e1] at hx
     have : i = k:=by
      rcases lt_or_ge k i with h' | h'
      ·rw [List.getElem?_eq_none (by simp; omega)] at hx; cases hx
      ·omega
     subst this
     simp at hx
     subst hx
     exact hbc
 obtain ⟨l,hlen,hok,hbu,hcl⟩:=build len (Nat.le_refl _)
 refine ⟨l,⟨by omega,hok⟩,?_,.one ?_⟩
 ·show 1 + (l.map Vol.vol).sum <= _
  simp only [Rows.uptoBulk]
  omega
 rcases Nat.eq_zero_or_pos len with h0 | h0
 ·subst h0
  have : l = []:=List.eq_nil_of_length_eq_zero hlen
  subst this
  exact .treeNil _ _ _
 exact aK4 hz hlen hl h0 hcl
theorem bS {t : TypeId} {α : Type} [Enc α] [Vol α] {Ok : α -> Prop} (ho : fA P w t α Ok) {H : Type} {enc : TypeId × Value -> H} {base : Nat} {spare : Nat -> Bool} {held : Bool} {fuel : Nat} {cs : List Value} {xs : List (DataW H × List MemPlace)} {i : Nat}
  (h : DataW.trod enc P w base spare held fuel t cs = xs[i]?) (hi : i < xs.length) : ∃ a : α,Ok a /\ BK1 xs i (Vol.vol a) /\ VRC (frW w) (Enc.cells a) cs:=by
 have hg:=List.getElem?_eq_getElem hi
 obtain ⟨a,h1,h2,h3⟩:=ho H enc _ _ _ _ _ _ (h.trans hg)
 exact ⟨a,h1,⟨_,hg,h2⟩,h3⟩
theorem xJ {t : TypeId} {α : Type} [Enc α] [Vol α] {Ok : α -> Prop} (ho : fA P w t α Ok) {H : Type} {enc : TypeId × Value -> H} {base : Nat} {spare : Nat -> Bool} {held : Bool} {v : Value} {d : DataW H} {p : List MemPlace} (h : DataW.Trod enc P w base spare held t v d p) :
  ∃ a : α,Ok a /\ Vol.vol a <= Rows.uptoBulk d /\ VRC (frW w) (Enc.cells a) v.cells.toList:=by
 obtain ⟨fuel,hf⟩:=h
 exact ho H enc _ _ _ _ _ _ hf
end
end Go.Proofs.YtngginofamlkkaaGreatDoor

noncomputable section
namespace Go.Proofs.YtngginofamlkkaaGreatDoor
open Go Go.RowKit Go.ChangeShapes Go.WideShapes Go.ChangeAt Go.Deep Go.Joins
set_option maxRecDepth 100000
instance : Vol Pt:=⟨fun p=>1 + (Vol.vol p.x + (Vol.vol p.y + (0))),fun _=>Nat.le_add_right _ _⟩
def aP2 (p : Pt) : Prop:=jB p.x /\ jB p.y
theorem aKT {w : World} : fA Tryz.prog w 53 Pt aP2:=fun H enc base spare held fuel cs x h=>by
 obtain ⟨xs,n,_,rfl,hlen,hxs,hf⟩:=DataW.trod_struct Tryz.underlying53 h
 have hc : Tryz.prog.cellsOf 53 = 2:=by kernel_rfl
 obtain ⟨b0,k0,u0,v0⟩:=bS (bY Tryz.underlying3) (hf 0 _ rfl) (by rw [hxs]; decide)
 obtain ⟨b1,k1,u1,v1⟩:=bS (bY Tryz.underlying3) (hf 1 _ rfl) (by rw [hxs]; decide)
 have hb:=BK.agg (u0.next (u1.next (BK.done)))
 refine ⟨⟨b0,b1⟩,⟨k0,k1⟩,hb,v0.next (v1.next (VRC.done (n:=2) (hlen.trans hc)))⟩
theorem aBn {w : World} : fA Tryz.prog w 22 (List Pt) fun l=>l.length <= maxLen /\ ∀ a ∈ l,aP2 a:=cY Tryz.underlying22 aKT (by kernel_rfl) (by decide)
instance : Vol Vec3:=⟨fun p=>1 + (Vol.vol p.x + (Vol.vol p.y + (Vol.vol p.z + (0)))),fun _=>Nat.le_add_right _ _⟩
def aNl (p : Vec3) : Prop:=jB p.x /\ jB p.y /\ jB p.z
theorem pS {w : World} : fA Tryz.prog w 27 Vec3 aNl:=fun H enc base spare held fuel cs x h=>by
 obtain ⟨xs,n,_,rfl,hlen,hxs,hf⟩:=DataW.trod_struct Tryz.underlying27 h
 have hc : Tryz.prog.cellsOf 27 = 3:=by kernel_rfl
 obtain ⟨b0,k0,u0,v0⟩:=bS (bY Tryz.underlying3) (hf 0 _ rfl) (by rw [hxs]; decide)
 obtain ⟨b1,k1,u1,v1⟩:=bS (bY Tryz.underlying3) (hf 1 _ rfl) (by rw [hxs]; decide)
 obtain ⟨b2,k2,u2,v2⟩:=bS (bY Tryz.underlying3) (hf 2 _ rfl) (by rw [hxs]; decide)
 have hb:=BK.agg (u0.next (u1.next (u2.next (BK.done))))
 refine ⟨⟨b0,b1,b2⟩,⟨k0,k1,k2⟩,hb,v0.next (v1.next (v2.next (VRC.done (n:=3) (hlen.trans hc))))⟩
theorem aDw {w : World} : fA Tryz.prog w 25 (List Pt × List (List Pt)) fun p=>(p.1.length <= maxLen /\ ∀ a ∈ p.1,aP2 a) /\ (p.2.length <= maxLen /\ ∀ l ∈ p.2,l.length <= maxLen /\ ∀ a ∈ l,aP2 a):=fun H enc base spare held fuel cs x h=>by
 obtain ⟨xs,n,_,rfl,hlen,hxs,hf⟩:=DataW.trod_struct Tryz.underlying25 h
 have hc : Tryz.prog.cellsOf 25 = 2:=by kernel_rfl
 obtain ⟨b0,k0,u0,v0⟩:=bS aBn (hf 0 _ rfl) (by rw [hxs]; decide)
 obtain ⟨b1,k1,u1,v1⟩:=bS (cY Tryz.underlying23 aBn (by kernel_rfl) (by decide)) (hf 1 _ rfl) (by rw [hxs]; decide)
 have hb:=BK.agg (u0.next (u1.next BK.done))
 exact ⟨⟨b0,b1⟩,⟨k0,k1⟩,hb,v0.next (v1.next (VRC.done (n:=2) (hlen.trans hc)))⟩
theorem aDR {w : World} : fA Tryz.prog w 29 (Vec3 × Int) fun p=>aNl p.1 /\ jB p.2:=fun H enc base spare held fuel cs x h=>by
 obtain ⟨xs,n,_,rfl,hlen,hxs,hf⟩:=DataW.trod_struct Tryz.underlying29 h
 have hc : Tryz.prog.cellsOf 29 = 4:=by kernel_rfl
 obtain ⟨b0,k0,u0,v0⟩:=bS pS (hf 0 _ rfl) (by rw [hxs]; decide)
 obtain ⟨b1,k1,u1,v1⟩:=bS (bY Tryz.underlying3) (hf 1 _ rfl) (by rw [hxs]; decide)
 have hb:=BK.agg (u0.next (u1.next BK.done))
 exact ⟨⟨b0,b1⟩,⟨k0,k1⟩,hb,v0.next (v1.next (VRC.done (n:=4) (hlen.trans hc)))⟩
instance : Vol Part:=⟨fun p=>1 + (Vol.vol p.id + (Vol.vol p.rev + (Vol.vol p.kind + (Vol.vol p.node + (Vol.vol p.grade + (Vol.vol p.thick + (Vol.vol p.outer + (Vol.vol p.holes + (Vol.vol p.sect + (Vol.vol p.long + (Vol.vol p.mass + (Vol.vol p.centre + (Vol.vol p.at_ + (Vol.vol p.turn + (0))))))))))))))),fun _=>Nat.le_add_right _ _⟩
abbrev aLo (p : Part) : Prop:=InPart p
set_option maxHeartbeats 2000000 in
theorem aGv {w : World} : fA Tryz.prog w 31 Part aLo:=fun H enc base spare held fuel cs x h=>by
 obtain ⟨xs,n,_,rfl,hlen,hxs,hf⟩:=DataW.trod_struct Tryz.underlying31 h
 have hc : Tryz.prog.cellsOf 31 = 18:=by kernel_rfl
 obtain ⟨b0,k0,u0,v0⟩:=bS (bW Tryz.underlying9) (hf 0 _ rfl) (by rw [hxs]; decide)
 obtain ⟨b1,k1,u1,v1⟩:=bS (bY Tryz.underlying3) (hf 1 _ rfl) (by rw [hxs]; decide)
 obtain ⟨b2,k2,u2,v2⟩:=bS (bY Tryz.underlying3) (hf 2 _ rfl) (by rw [hxs]; decide)
 obtain ⟨b3,k3,u3,v3⟩:=bS (bW Tryz.underlying9) (hf 3 _ rfl) (by rw [hxs]; decide)
 obtain ⟨b4,k4,u4,v4⟩:=bS (bW Tryz.underlying9) (hf 4 _ rfl) (by rw [hxs]; decide)
 obtain ⟨b5,k5,u5,v5⟩:=bS (bY Tryz.underlying3) (hf 5 _ rfl) (by rw [hxs]; decide)
 obtain ⟨b6,k6,u6,v6⟩:=bS aDw (hf 6 _ rfl) (by rw [hxs]; decide)
 obtain ⟨b7,k7,u7,v7⟩:=bS (bW Tryz.underlying9) (hf 7 _ rfl) (by rw [hxs]; decide)
 obtain ⟨b8,k8,u8,v8⟩:=bS (bY Tryz.underlying3) (hf 8 _ rfl) (by rw [hxs]; decide)
 obtain ⟨b9,k9,u9,v9⟩:=bS (bY Tryz.underlying3) (hf 9 _ rfl) (by rw [hxs]; decide)
 obtain ⟨b10,k10,u10,v10⟩:=bS pS (hf 10 _ rfl) (by rw [hxs]; decide)
 obtain ⟨b11,k11,u11,v11⟩:=bS aDR (hf 11 _ rfl) (by rw [hxs]; decide)
 have hb:=BK.agg (u0.next (u1.next (u2.next (u3.next (u4.next (u5.next (u6.next (u7.next (u8.next (u9.next (u10.next (u11.next (BK.done)))))))))))))
 refine ⟨⟨b0,b1,b2,b3,b4,b5,b6.1,b6.2,b7,b8,b9,b10,b11.1,b11.2⟩,⟨k1,k2,k5,k6.1.2,fun l hl=>(k6.2.2 l hl).2,k8,k9,k10,k11.1,k11.2,k0,k3,k4,k7⟩,?_,?_⟩
 ·refine Nat.le_trans ?_ hb
  clear hb u0 u1 u2 u3 u4 u5 u6 u7 u8 u9 u10 u11 v0 v1 v2 v3 v4 v5 v6 v7 v8 v9 v10 v11
  have e6 : Vol.vol b6 = 1 + (Vol.vol b6.1 + (Vol.vol b6.2 + 0)):=rfl
  have e11 : Vol.vol b11 = 1 + (Vol.vol b11.1 + (Vol.vol b11.2 + 0)):=rfl
  show 1 + (Vol.vol b0 + (Vol.vol b1 + (Vol.vol b2 + (Vol.vol b3 + (Vol.vol b4 + (Vol.vol b5 + (Vol.vol b6.1 + (Vol.vol b6.2 + (Vol.vol b7 + (Vol.vol b8 + (Vol.vol b9 + (Vol.vol b10 + (Vol.vol b11.1 + (Vol.vol b11.2 + (0))))))))))))))) <= _
  rw [e6,e11]
  clear e6 e11
  generalize Vol.vol b0 = a0
  generalize Vol.vol b1 = a1
  generalize Vol.vol b2 = a2
  generalize Vol.vol b3 = a3
  generalize Vol.vol b4 = a4
  generalize Vol.vol b5 = a5
  generalize Vol.vol b6.1 = a6
  generalize Vol.vol b6.2 = a7
  generalize Vol.vol b7 = a8
  generalize Vol.vol b8 = a9
  generalize Vol.vol b9 = a10
  generalize Vol.vol b10 = a11
  generalize Vol.vol b11.1 = a12
  generalize Vol.vol b11.2 = a13
  omega
 ·exact v0.next (v1.next (v2.next (v3.next (v4.next (v5.next (v6.next (v7.next (v8.next (v9.next (v10.next (v11.next (VRC.done (n:=18) (hlen.trans hc)))))))))))))
instance : Vol Node3:=⟨fun p=>1 + (Vol.vol p.id + (Vol.vol p.kind + (Vol.vol p.parent + (0)))),fun _=>Nat.le_add_right _ _⟩
def aI1 (p : Node3) : Prop:=p.id.size <= maxLen /\ jB p.kind /\ p.parent.size <= maxLen
theorem aEe {w : World} : fA Tryz.prog w 197 Node3 aI1:=fun H enc base spare held fuel cs x h=>by
 obtain ⟨xs,n,_,rfl,hlen,hxs,hf⟩:=DataW.trod_struct Tryz.underlying197 h
 have hc : Tryz.prog.cellsOf 197 = 3:=by kernel_rfl
 obtain ⟨b0,k0,u0,v0⟩:=bS (bW Tryz.underlying9) (hf 0 _ rfl) (by rw [hxs]; decide)
 obtain ⟨b1,k1,u1,v1⟩:=bS (bY Tryz.underlying3) (hf 1 _ rfl) (by rw [hxs]; decide)
 obtain ⟨b2,k2,u2,v2⟩:=bS (bW Tryz.underlying9) (hf 2 _ rfl) (by rw [hxs]; decide)
 have hb:=BK.agg (u0.next (u1.next (u2.next (BK.done))))
 refine ⟨⟨b0,b1,b2⟩,⟨k0,k1,k2⟩,hb,v0.next (v1.next (v2.next (VRC.done (n:=3) (hlen.trans hc))))⟩
instance : Vol Seam6:=⟨fun p=>1 + (Vol.vol p.id + (Vol.vol p.a + (Vol.vol p.b + (Vol.vol p.kind + (Vol.vol p.long + (Vol.vol p.cls + (0))))))),fun _=>Nat.le_add_right _ _⟩
def aJn (p : Seam6) : Prop:=p.id.size <= maxLen /\ p.a.size <= maxLen /\ p.b.size <= maxLen /\ jB p.kind /\ jB p.long /\ jB p.cls
theorem aD5 {w : World} : fA Tryz.prog w 205 Seam6 aJn:=fun H enc base spare held fuel cs x h=>by
 obtain ⟨xs,n,_,rfl,hlen,hxs,hf⟩:=DataW.trod_struct Tryz.underlying205 h
 have hc : Tryz.prog.cellsOf 205 = 6:=by kernel_rfl
 obtain ⟨b0,k0,u0,v0⟩:=bS (bW Tryz.underlying9) (hf 0 _ rfl) (by rw [hxs]; decide)
 obtain ⟨b1,k1,u1,v1⟩:=bS (bW Tryz.underlying9) (hf 1 _ rfl) (by rw [hxs]; decide)
 obtain ⟨b2,k2,u2,v2⟩:=bS (bW Tryz.underlying9) (hf 2 _ rfl) (by rw [hxs]; decide)
 obtain ⟨b3,k3,u3,v3⟩:=bS (bY Tryz.underlying3) (hf 3 _ rfl) (by rw [hxs]; decide)
 obtain ⟨b4,k4,u4,v4⟩:=bS (bY Tryz.underlying3) (hf 4 _ rfl) (by rw [hxs]; decide)
 obtain ⟨b5,k5,u5,v5⟩:=bS (bY Tryz.underlying3) (hf 5 _ rfl) (by rw [hxs]; decide)
 have hb:=BK.agg (u0.next (u1.next (u2.next (u3.next (u4.next (u5.next (BK.done)))))))
 refine ⟨⟨b0,b1,b2,b3,b4,b5⟩,⟨k0,k1,k2,k3,k4,k5⟩,hb,v0.next (v1.next (v2.next (v3.next (v4.next (v5.next (VRC.done (n:=6) (hlen.trans hc)))))))⟩
instance : Vol Pack5:=⟨fun p=>1 + (Vol.vol p.id + (Vol.vol p.block + (Vol.vol p.parts + (Vol.vol p.hours + (Vol.vol p.after + (0)))))),fun _=>Nat.le_add_right _ _⟩
def aIH (p : Pack5) : Prop:=p.id.size <= maxLen /\ p.block.size <= maxLen /\ (p.parts.length <= maxLen /\ ∀ a ∈ p.parts,a.size <= maxLen) /\ jB p.hours /\ (p.after.length <= maxLen /\ ∀ a ∈ p.after,a.size <= maxLen)
theorem aCZ {w : World} : fA Tryz.prog w 125 Pack5 aIH:=fun H enc base spare held fuel cs x h=>by
 obtain ⟨xs,n,_,rfl,hlen,hxs,hf⟩:=DataW.trod_struct Tryz.underlying125 h
 have hc : Tryz.prog.cellsOf 125 = 5:=by kernel_rfl
 obtain ⟨b0,k0,u0,v0⟩:=bS (bW Tryz.underlying9) (hf 0 _ rfl) (by rw [hxs]; decide)
 obtain ⟨b1,k1,u1,v1⟩:=bS (bW Tryz.underlying9) (hf 1 _ rfl) (by rw [hxs]; decide)
 obtain ⟨b2,k2,u2,v2⟩:=bS (cY Tryz.underlying72 (bW Tryz.underlying9) (by kernel_rfl) (by decide)) (hf 2 _ rfl) (by rw [hxs]; decide)
 obtain ⟨b3,k3,u3,v3⟩:=bS (bY Tryz.underlying3) (hf 3 _ rfl) (by rw [hxs]; decide)
 obtain ⟨b4,k4,u4,v4⟩:=bS (cY Tryz.underlying72 (bW Tryz.underlying9) (by kernel_rfl) (by decide)) (hf 4 _ rfl) (by rw [hxs]; decide)
 have hb:=BK.agg (u0.next (u1.next (u2.next (u3.next (u4.next (BK.done))))))
 refine ⟨⟨b0,b1,b2,b3,b4⟩,⟨k0,k1,k2,k3,k4⟩,hb,v0.next (v1.next (v2.next (v3.next (v4.next (VRC.done (n:=5) (hlen.trans hc))))))⟩
instance : Vol Need3:=⟨fun p=>1 + (Vol.vol p.kind + (Vol.vol p.block + (Vol.vol p.on + (0)))),fun _=>Nat.le_add_right _ _⟩
def aIV (p : Need3) : Prop:=jB p.kind /\ p.block.size <= maxLen /\ p.on.size <= maxLen
theorem aDn {w : World} : fA Tryz.prog w 194 Need3 aIV:=fun H enc base spare held fuel cs x h=>by
 obtain ⟨xs,n,_,rfl,hlen,hxs,hf⟩:=DataW.trod_struct Tryz.underlying194 h
 have hc : Tryz.prog.cellsOf 194 = 3:=by kernel_rfl
 obtain ⟨b0,k0,u0,v0⟩:=bS (bY Tryz.underlying3) (hf 0 _ rfl) (by rw [hxs]; decide)
 obtain ⟨b1,k1,u1,v1⟩:=bS (bW Tryz.underlying9) (hf 1 _ rfl) (by rw [hxs]; decide)
 obtain ⟨b2,k2,u2,v2⟩:=bS (bW Tryz.underlying9) (hf 2 _ rfl) (by rw [hxs]; decide)
 have hb:=BK.agg (u0.next (u1.next (u2.next (BK.done))))
 refine ⟨⟨b0,b1,b2⟩,⟨k0,k1,k2⟩,hb,v0.next (v1.next (v2.next (VRC.done (n:=3) (hlen.trans hc))))⟩
instance : Vol Design6:=⟨fun p=>1 + (Vol.vol p.hull + (Vol.vol p.nodes + (Vol.vol p.parts + (Vol.vol p.seams + (Vol.vol p.packs + (Vol.vol p.needs + (0))))))),fun _=>Nat.le_add_right _ _⟩
def aKD (p : Design6) : Prop:=p.hull.size <= maxLen /\ (p.nodes.length <= maxLen /\ ∀ a ∈ p.nodes,aI1 a) /\ (p.parts.length <= maxLen /\ ∀ a ∈ p.parts,aLo a) /\ (p.seams.length <= maxLen /\ ∀ a ∈ p.seams,aJn a) /\ (p.packs.length <= maxLen /\ ∀ a ∈ p.packs,aIH a) /\ (p.needs.length <= maxLen /\ ∀ a ∈ p.needs,aIV a)
theorem aBr {w : World} : fA Tryz.prog w 71 Design6 aKD:=fun H enc base spare held fuel cs x h=>by
 obtain ⟨xs,n,_,rfl,hlen,hxs,hf⟩:=DataW.trod_struct Tryz.underlying71 h
 have hc : Tryz.prog.cellsOf 71 = 6:=by kernel_rfl
 obtain ⟨b0,k0,u0,v0⟩:=bS (bW Tryz.underlying9) (hf 0 _ rfl) (by rw [hxs]; decide)
 obtain ⟨b1,k1,u1,v1⟩:=bS (cY Tryz.underlying65 aEe (by kernel_rfl) (by decide)) (hf 1 _ rfl) (by rw [hxs]; decide)
 obtain ⟨b2,k2,u2,v2⟩:=bS (cY Tryz.underlying66 aGv (by kernel_rfl) (by decide)) (hf 2 _ rfl) (by rw [hxs]; decide)
 obtain ⟨b3,k3,u3,v3⟩:=bS (cY Tryz.underlying67 aD5 (by kernel_rfl) (by decide)) (hf 3 _ rfl) (by rw [hxs]; decide)
 obtain ⟨b4,k4,u4,v4⟩:=bS (cY Tryz.underlying68 aCZ (by kernel_rfl) (by decide)) (hf 4 _ rfl) (by rw [hxs]; decide)
 obtain ⟨b5,k5,u5,v5⟩:=bS (cY Tryz.underlying69 aDn (by kernel_rfl) (by decide)) (hf 5 _ rfl) (by rw [hxs]; decide)
 have hb:=BK.agg (u0.next (u1.next (u2.next (u3.next (u4.next (u5.next (BK.done)))))))
 refine ⟨⟨b0,b1,b2,b3,b4,b5⟩,⟨k0,k1,k2,k3,k4,k5⟩,hb,v0.next (v1.next (v2.next (v3.next (v4.next (v5.next (VRC.done (n:=6) (hlen.trans hc)))))))⟩
instance : Vol Grade4:=⟨fun p=>1 + (Vol.vol p.name + (Vol.vol p.dens + (Vol.vol p.yld + (Vol.vol p.gauges + (0))))),fun _=>Nat.le_add_right _ _⟩
def aFP (p : Grade4) : Prop:=p.name.size <= maxLen /\ jB p.dens /\ jB p.yld /\ (p.gauges.length <= maxLen /\ ∀ a ∈ p.gauges,jB a)
theorem aBB {w : World} : fA Tryz.prog w 90 Grade4 aFP:=fun H enc base spare held fuel cs x h=>by
 obtain ⟨xs,n,_,rfl,hlen,hxs,hf⟩:=DataW.trod_struct Tryz.underlying90 h
 have hc : Tryz.prog.cellsOf 90 = 4:=by kernel_rfl
 obtain ⟨b0,k0,u0,v0⟩:=bS (bW Tryz.underlying9) (hf 0 _ rfl) (by rw [hxs]; decide)
 obtain ⟨b1,k1,u1,v1⟩:=bS (bY Tryz.underlying3) (hf 1 _ rfl) (by rw [hxs]; decide)
 obtain ⟨b2,k2,u2,v2⟩:=bS (bY Tryz.underlying3) (hf 2 _ rfl) (by rw [hxs]; decide)
 obtain ⟨b3,k3,u3,v3⟩:=bS (cY Tryz.underlying88 (bY Tryz.underlying3) (by kernel_rfl) (by decide)) (hf 3 _ rfl) (by rw [hxs]; decide)
 have hb:=BK.agg (u0.next (u1.next (u2.next (u3.next (BK.done)))))
 refine ⟨⟨b0,b1,b2,b3⟩,⟨k0,k1,k2,k3⟩,hb,v0.next (v1.next (v2.next (v3.next (VRC.done (n:=4) (hlen.trans hc)))))⟩
instance : Vol Sect4:=⟨fun p=>1 + (Vol.vol p.name + (Vol.vol p.area + (Vol.vol p.height + (Vol.vol p.stock + (0))))),fun _=>Nat.le_add_right _ _⟩
def aID (p : Sect4) : Prop:=p.name.size <= maxLen /\ jB p.area /\ jB p.height /\ jB p.stock
theorem aDW {w : World} : fA Tryz.prog w 94 Sect4 aID:=fun H enc base spare held fuel cs x h=>by
 obtain ⟨xs,n,_,rfl,hlen,hxs,hf⟩:=DataW.trod_struct Tryz.underlying94 h
 have hc : Tryz.prog.cellsOf 94 = 4:=by kernel_rfl
 obtain ⟨b0,k0,u0,v0⟩:=bS (bW Tryz.underlying9) (hf 0 _ rfl) (by rw [hxs]; decide)
 obtain ⟨b1,k1,u1,v1⟩:=bS (bY Tryz.underlying3) (hf 1 _ rfl) (by rw [hxs]; decide)
 obtain ⟨b2,k2,u2,v2⟩:=bS (bY Tryz.underlying3) (hf 2 _ rfl) (by rw [hxs]; decide)
 obtain ⟨b3,k3,u3,v3⟩:=bS (bY Tryz.underlying3) (hf 3 _ rfl) (by rw [hxs]; decide)
 have hb:=BK.agg (u0.next (u1.next (u2.next (u3.next (BK.done)))))
 refine ⟨⟨b0,b1,b2,b3⟩,⟨k0,k1,k2,k3⟩,hb,v0.next (v1.next (v2.next (v3.next (VRC.done (n:=4) (hlen.trans hc)))))⟩
instance : Vol Mats:=⟨fun p=>1 + (Vol.vol p.grades + (Vol.vol p.sects + (0))),fun _=>Nat.le_add_right _ _⟩
def aQU (p : Mats) : Prop:=(p.grades.length <= maxLen /\ ∀ a ∈ p.grades,aFP a) /\ (p.sects.length <= maxLen /\ ∀ a ∈ p.sects,aID a)
theorem aGf {w : World} : fA Tryz.prog w 35 Mats aQU:=fun H enc base spare held fuel cs x h=>by
 obtain ⟨xs,n,_,rfl,hlen,hxs,hf⟩:=DataW.trod_struct Tryz.underlying35 h
 have hc : Tryz.prog.cellsOf 35 = 2:=by kernel_rfl
 obtain ⟨b0,k0,u0,v0⟩:=bS (cY Tryz.underlying32 aBB (by kernel_rfl) (by decide)) (hf 0 _ rfl) (by rw [hxs]; decide)
 obtain ⟨b1,k1,u1,v1⟩:=bS (cY Tryz.underlying33 aDW (by kernel_rfl) (by decide)) (hf 1 _ rfl) (by rw [hxs]; decide)
 have hb:=BK.agg (u0.next (u1.next (BK.done)))
 refine ⟨⟨b0,b1⟩,⟨k0,k1⟩,hb,v0.next (v1.next (VRC.done (n:=2) (hlen.trans hc)))⟩
end Go.Proofs.YtngginofamlkkaaGreatDoor

noncomputable section
namespace Go.Proofs.YtngginofamlkkaaGreatDoor
open Go Go.RowKit
open Nat (le_refl)
set_option maxRecDepth 100000
set_option maxHeartbeats 8000000
theorem rN {α : Type} [Vol α] {l : List α} {a : α} (h : a ∈ l) : Vol.vol a < Vol.vol l:=by
 show _ < 1 + (l.map Vol.vol).sum
 induction l with
 | nil=>cases h
 | cons b l ih =>
  rw [List.map_cons,List.sum_cons]
  rcases List.mem_cons.1 h with rfl | h'
  ·omega
  ·have:=ih h'
   omega
theorem gJ {α : Type} [Vol α] (l : List α) {n : Nat} (h : Vol.vol l <= n) : l.length <= n:=by
 have:=aOS l
 omega
theorem mJ (s : ByteArray) {n : Nat} (h : Vol.vol s <= n) : s.size <= n:=by
 have e : Vol.vol s = 1 + s.size:=rfl
 omega
structure Blk6 (d : Design6) : Prop where
 dd : FitD d
 p : FitP d
 o : FitO d
 t : ∀ x ∈ d.nodes,x.id.size < 16777000
 s : ∀ x ∈ d.seams,x.id.size < 16777000 /\ x.a.size < 16777000 /\ x.b.size < 16777000
 k : ∀ x ∈ d.packs,x.id.size < 16777000
theorem aK1 {p : Part} (h : Vol.vol p <= 1048576) : FitW p /\ FitR p:=by
 have e : Vol.vol p = 1 + (Vol.vol p.id + (Vol.vol p.rev + (Vol.vol p.kind + (Vol.vol p.node + (Vol.vol p.grade + (Vol.vol p.thick + (Vol.vol p.outer + (Vol.vol p.holes + (Vol.vol p.sect + (Vol.vol p.long + (Vol.vol p.mass + (Vol.vol p.centre + (Vol.vol p.at_ + (Vol.vol p.turn + (0))))))))))))))):=rfl
 have h1:=mJ p.id (n:=1048576) (by omega)
 have h2:=mJ p.node (n:=1048576) (by omega)
 have h3:=gJ p.outer (n:=1048576) (by omega)
 have h4:=gJ p.holes (n:=1048576) (by omega)
 have h5 : ∀ a ∈ p.holes,a.length <= 1048576:=fun a ha=>gJ a (by have:=rN ha; omega)
 clear e h
 have sh : ∀ {α : Type} {l : List α},l.length <= 1048576 -> aH l:=fun hl=>Nat.lt_of_le_of_lt hl (by decide)
 exact ⟨⟨by omega,by omega,fun a ha=>by have:=h5 a ha; omega⟩,{ outer:=sh h3,holes:=sh h4,all:=fun a ha=>sh (h5 a ha),sum:=by omega,id:=by omega,node:=by omega }⟩
theorem aFx {d : Design6} (h : Vol.vol d <= 1048576) : Blk6 d:=by
 have e : Vol.vol d = 1 + (Vol.vol d.hull + (Vol.vol d.nodes + (Vol.vol d.parts + (Vol.vol d.seams + (Vol.vol d.packs + (Vol.vol d.needs + (0))))))):=rfl
 have hp : ∀ p ∈ d.parts,FitW p /\ FitR p:=fun p hp=>aK1 (by have:=rN hp; omega)
 have hl : aH d.parts:=Nat.lt_of_le_of_lt (gJ d.parts (n:=1048576) (by omega)) (by decide)
 have hd : FitD d:=⟨hl,fun p h=>(hp p h).1⟩
 refine ⟨hd,⟨fun p h=>(hp p h).2⟩,{ hd with fq:=fun p h=>(hp p h).2.toFitQ },fun x hx=>?_,fun x hx=>?_,fun x hx=>?_⟩
 ·have h1:=rN hx
  have e1 : Vol.vol x = 1 + (Vol.vol x.id + (Vol.vol x.kind + (Vol.vol x.parent + (0)))):=rfl
  have:=mJ x.id (n:=1048576) (by omega)
  omega
 ·have h1:=rN hx
  have e1 : Vol.vol x = 1 + (Vol.vol x.id + (Vol.vol x.a + (Vol.vol x.b + (Vol.vol x.kind + (Vol.vol x.long + (Vol.vol x.cls + (0))))))):=rfl
  have:=mJ x.id (n:=1048576) (by omega)
  have:=mJ x.a (n:=1048576) (by omega)
  have:=mJ x.b (n:=1048576) (by omega)
  omega
 ·have h1:=rN hx
  have e1 : Vol.vol x = 1 + (Vol.vol x.id + (Vol.vol x.block + (Vol.vol x.parts + (Vol.vol x.hours + (Vol.vol x.after + (0)))))):=rfl
  have:=mJ x.id (n:=1048576) (by omega)
  omega
theorem aJR {m : Mats} (h : Vol.vol m <= 1048576) : FewR m:=by
 have e : Vol.vol m = 1 + (Vol.vol m.grades + (Vol.vol m.sects + (0))):=rfl
 have h1:=gJ m.grades (n:=1048576) (by omega)
 have h2:=gJ m.sects (n:=1048576) (by omega)
 have h3 : ∀ g ∈ m.grades,g.gauges.length <= 1048576:=fun g hg=>by
  have q:=rN hg
  have e1 : Vol.vol g = 1 + (Vol.vol g.name + (Vol.vol g.dens + (Vol.vol g.yld + (Vol.vol g.gauges + (0))))):=rfl
  exact gJ _ (by omega)
 exact { gr:=Nat.lt_of_le_of_lt h1 (by decide),se:=Nat.lt_of_le_of_lt h2 (by decide),ga:=fun g hg=>by have:=h3 g hg; omega,gr25:=fun g hg=>by have:=h3 g hg; omega }
theorem vR : aW Tryz.prog aPf:=bL mixed (mV (by
 intro e he
 simp only [List.mem_cons,List.not_mem_nil,or_false] at he
 rcases he with rfl | rfl | rfl | rfl
 ·exact aNb
 ·exact aGC
 ·exact ok_of
 ·exact aO0) aD) 2
structure Told (d : Design6) (m : Mats) : Prop where
 len : d.parts.length <= 60
 ids : aDP d.parts
 chk : ∀ p ∈ d.parts,bF p m = 0
 sum : (d.parts.map fun p=>bT p m).sum <= 1099511627776
theorem aOT {d : Design6} (h : jP (bC d)) : aDP d.parts:=fun i j hi hj hji he=>by
 have hl : (bC d).length = d.parts.length:=List.length_map _
 refine h i j (by omega) (by omega) hji ?_
 unfold bC
 rw [List.getElem_map,List.getElem_map]
 exact he
theorem aQC {d : Design6} (b : FitO d) (v : Vec3) : FitO (eD d v) :=
 have h1 : aH (eD d v).parts:=by show (d.parts.map _).length < 2 ^ 62; rw [List.length_map]; exact b.len
 have h2 : ∀ p ∈ (eD d v).parts,FitW p:=fun p hp=>by
  obtain ⟨q,hq,rfl⟩:=List.mem_map.1 hp
  have:=b.fit q hq
  exact ⟨this.outer,this.holes,this.all⟩
 have h3 : ∀ p ∈ (eD d v).parts,FitQ p:=fun p hp=>by
  obtain ⟨q,hq,rfl⟩:=List.mem_map.1 hp
  have:=b.fq q hq
  exact ⟨this.outer,this.holes,this.all,this.sum⟩
 { len:=h1,fit:=h2,fq:=h3 }
theorem aKd {d : Design6} {m : Mats} {v : Vec3} (t : Told d m) (hn : ∀ p ∈ d.parts,inV p.at_ 131072) (hv : inV v 131072) :
  ofE d m (cD d.parts) = 0 /\ ofE (eD d v) m (cD d.parts) = 0 /\ (ofW (eD d v) m (cD d.parts)).m = (ofW d m (cD d.parts)).m /\ (ofW (eD d v) m (cD d.parts)).v = (ofW d m (cD d.parts)).v /\
  (ofW (eD d v) m (cD d.parts)).x = IntKind.i64.wrap ((ofW d m (cD d.parts)).x + IntKind.i64.wrap ((ofW d m (cD d.parts)).m * v.x)) /\ (ofW (eD d v) m (cD d.parts)).y = IntKind.i64.wrap ((ofW d m (cD d.parts)).y + IntKind.i64.wrap ((ofW d m (cD d.parts)).m * v.y)) /\ (ofW (eD d v) m (cD d.parts)).z = IntKind.i64.wrap ((ofW d m (cD d.parts)).z + IntKind.i64.wrap ((ofW d m (cD d.parts)).m * v.z)):=by
 obtain ⟨e1,e2,⟨k1,k2⟩,e3⟩:=aJD t.len t.ids t.chk hn hv t.sum
 refine ⟨e1,e2,?_⟩
 rw [e3]
 dsimp only
 clear e1 e2 e3 k2
 unfold iI at k1
 unfold inV at hv
 generalize ofW d m (cD d.parts) = a at *
 have mx:=fW (a:=a.m) (b:=v.x) (A:=1099511627776) (B:=131072) (by omega) (by omega)
 have my:=fW (a:=a.m) (b:=v.y) (A:=1099511627776) (B:=131072) (by omega) (by omega)
 have mz:=fW (a:=a.m) (b:=v.z) (A:=1099511627776) (B:=131072) (by omega) (by omega)
 refine ⟨rfl,rfl,?_,?_,?_⟩
 ·rw [bA (n:=a.m * v.x) (by omega) (by omega),bA (by omega) (by omega)]
 ·rw [bA (n:=a.m * v.y) (by omega) (by omega),bA (by omega) (by omega)]
 ·rw [bA (n:=a.m * v.z) (by omega) (by omega),bA (by omega) (by omega)]
theorem aGV {d : Design6} {m : Mats} {v : Vec3} (b : FitO d) (hm : FewM m) (t : Told d m) (hv : inV v 131072) : OkP 13 [aC d,bD m,iB v] 7 (fun w=>w = .bool true) (stV [(3,some (pt 0)),(4,some (pt 1)),(5,some (pt 2)),(7,some (pt 3)),(8,some (.slice none 0 0)),(9,some (vi 0))] [(0,some (.cells (aG d) true)),(1,some (.cells (dO m) true)),(2,some (.cells (aFt v) true)),(3,some (.cells (aNY d (.slice none 0 0)) true))] 4):=by
 have hl:=t.len
 have il : (cD d.parts).length = d.parts.length:=List.length_map _
 have fl : ((eD d v).parts).length = d.parts.length:=List.length_map _
 have gi : ∀ k (hk : k < (cD d.parts).length),(cD d.parts)[k] = (d.parts[k]'(by omega)).id:=fun k hk=>List.getElem_map _
 have gf : ∀ k (hk : k < ((eD d v).parts).length),((eD d v).parts)[k] = eO (d.parts[k]'(by omega)) v:=fun k hk=>List.getElem_map _
 have rs : ∀ k (hk : k < d.parts.length),dR (((eD d v).parts).take (k + 1)) = dR (((eD d v).parts).take k) ++ fP (eO d.parts[k] v):=fun k hk=>by
  rw [List.take_add_one,List.getElem?_eq_getElem (by omega),gf k (by omega)]
  exact oD _ _
 have done : (∀ p ∈ d.parts,inV p.at_ 131072) -> ofE d m (cD d.parts) = 0 /\ _:=fun hn=>aKd t hn hv
 by_cases hz : d.parts = []
 ·have hz0 : d.parts.length = 0:=by rw [hz]; rfl
  obtain ⟨e1,e2,e3,e4,e5,e6,e7⟩:=done (fun p hp=>by rw [hz] at hp; cases hp)
  have ez : trS (cD d.parts) = tree 1 0 #[]:=by unfold cD; rw [hz]; rfl
  have ef : aC (eD d v) = .agg #[.string d.hull,tree 3 d.nodes.length (aB d.nodes),tree 18 0 #[],tree 6 d.seams.length (aB d.seams),tree 5 d.packs.length (aB d.packs),tree 3 d.needs.length (aB d.needs)]:=by
   show Value.agg #[.string d.hull,tree 3 d.nodes.length (aB d.nodes),tree 18 (d.parts.map fun p=>eO p v).length (aB (d.parts.map fun p=>eO p v)),tree 6 d.seams.length (aB d.seams),tree 5 d.packs.length (aB d.packs),tree 3 d.needs.length (aB d.needs)] = _
   rw [hz]
   rfl
  refine aV vR mixed _ (qP d m v 0 _ _) ?_
  simp only [true_and,and_true,le_refl]
  refine ifD (fun h'=>by omega) (fun _=>⟨d,m,cD d.parts,?_,b,hm,by omega,eD d v,m,cD d.parts,?_,aQC b v,hm,by omega,?_⟩)
  ·show eqL _ [aC d,bD m,trS (cD d.parts)]
   rw [ez] <;> rfl
  ·show eqL _ [aC (eD d v),bD m,trS (cD d.parts)]
   rw [ez,ef] <;> rfl
  ·exact ifN (fun h'=>absurd e1 h') (fun _=>ifN (fun h'=>absurd e2 h') (fun _=>ifD (fun _=>ifD (fun _=>ifD (fun _=>ifD (fun _=>ifD (fun _=>by first | trivial | exact ⟨rfl,rfl⟩) (fun h'=>absurd e7 h')) (fun h'=>absurd e6 h')) (fun h'=>absurd e5 h')) (fun h'=>absurd e4 h')) (fun h'=>absurd e3 h')))
 have hpos : 0 < d.parts.length:=List.length_pos_iff.2 hz
 have key : ∀ k,k <= d.parts.length -> 1 <= k -> (∀ i (hi : i < d.parts.length),i < k -> inV d.parts[i].at_ 131072) -> OkP 13 [aC d,bD m,iB v] 7 (fun w=>w = .bool true) (stV [(3,some (pt 0)),(4,some (pt 1)),(5,some (pt 2)),(7,some (pt 3)),(8,some (.slice (some ⟨4,0,none⟩) k 1)),(9,some (vi ((k : Nat) : Int)))] [(0,some (.cells (aG d) true)),(1,some (.cells (dO m) true)),(2,some (.cells (aFt v) true)),(3,some (.cells (aNY d (.slice (some ⟨5,0,none⟩) k 18)) true)),(4,some (.cells (SL ((cD d.parts).take k)) true)),(5,some (.cells (dR (((eD d v).parts).take k)) true))] 6):=by
  intro k hkk
  refine sN (n:=d.parts.length) (p:=fun k=>1 <= k -> (∀ i (hi : i < d.parts.length),i < k -> inV d.parts[i].at_ 131072) -> OkP 13 [aC d,bD m,iB v] 7 (fun w=>w = .bool true) (stV [(3,some (pt 0)),(4,some (pt 1)),(5,some (pt 2)),(7,some (pt 3)),(8,some (.slice (some ⟨4,0,none⟩) k 1)),(9,some (vi ((k : Nat) : Int)))] [(0,some (.cells (aG d) true)),(1,some (.cells (dO m) true)),(2,some (.cells (aFt v) true)),(3,some (.cells (aNY d (.slice (some ⟨5,0,none⟩) k 18)) true)),(4,some (.cells (SL ((cD d.parts).take k)) true)),(5,some (.cells (dR (((eD d v).parts).take k)) true))] 6)) (fun _ hall=>?_) (fun k k1 ih hk1 hall=>?_) k hkk
  ·obtain ⟨e1,e2,e3,e4,e5,e6,e7⟩:=done (fun p hp=>by
    obtain ⟨i,hi,rfl⟩:=List.mem_iff_getElem.1 hp
    exact hall i hi hi)
   refine aV vR mixed _ (rD d m v d.parts.length d.parts.length d.parts.length _ _ _ _) ?_
   have t1 : (cD d.parts).take d.parts.length = cD d.parts:=by rw [← il,List.take_length]
   have t2 : ((eD d v).parts).take d.parts.length = (eD d v).parts:=by rw [← fl,List.take_length]
   rw [t1,t2]
   have rl:=gK ((eD d v).parts)
   have hsz : Enc.sz Part = 18:=rfl
   rw [hsz,fl] at rl
   have hch : tree 18 d.parts.length (bP 18 d.parts.length (List.drop 0 (dR ((eD d v).parts)))) = tree 18 ((eD d v).parts).length (aB ((eD d v).parts)):=by
    have:=kS ((eD d v).parts)
    rw [hsz,fl] at this
    rw [List.drop_zero,this,fl]
   simp only [true_and,and_true,le_refl,xC (cD d.parts) il.symm,hch]
   refine ifD (fun h'=>by omega) (fun _=>?_)
   refine ⟨⟨by rw [cR]; omega,dE _⟩,d,m,cD d.parts,rfl,b,hm,by omega,?_⟩
   refine ⟨⟨⟨by omega,cI _⟩,⟨by rw [cR]; omega,dE _⟩⟩,eD d v,m,cD d.parts,rfl,aQC b v,hm,by omega,?_⟩
   exact ifN (fun h'=>absurd e1 h') (fun _=>ifN (fun h'=>absurd e2 h') (fun _=>ifD (fun _=>ifD (fun _=>ifD (fun _=>ifD (fun _=>ifD (fun _=>by first | trivial | exact ⟨rfl,rfl⟩) (fun h'=>absurd e7 h')) (fun h'=>absurd e6 h')) (fun h'=>absurd e5 h')) (fun h'=>absurd e4 h')) (fun h'=>absurd e3 h')))
  ·refine aV vR mixed _ (rD d m v k k k _ _ _ _) ?_
   have hk : ((k : Nat) : Int).toNat = k:=Int.toNat_natCast k
   have nx:=fun hq : inV d.parts[k].at_ 131072=>ih (by omega) fun i hi hik=>by
    rcases Nat.lt_or_ge i k with h' | h'
    ·exact hall i hi h'
    ·obtain rfl : i = k:=by omega
     exact hq
   have sn:=rX (l:=cD d.parts) (k:=k) (by omega) (gi k (by omega))
   have hs1 : (SL ((cD d.parts).take k)).length = k:=by rw [cR,List.length_take]; omega
   have hs2 : (dR (((eD d v).parts).take k)).length = k * 18:=by
    have:=gK (((eD d v).parts).take k)
    rw [List.length_take,fl,Nat.min_eq_left (by omega)] at this
    exact this
   have rk:=rs k k1
   have nl:=cI (((eD d v).parts).take (k + 1))
   rw [rk] at nl nx
   clear ih hall rs done
   simp only [hk,gT k1]
   generalize d.parts[k] = p at *
   simp only [fP,aQ,aP,cH,cG,true_and,and_true,le_refl,aJ (show k < 2 ^ 62 by omega),List.getElem?_cons_zero,List.getElem?_cons_succ,Option.getD_some,sn,hs1,hs2]
   refine ifD (fun _=>⟨⟨by omega,by omega⟩,?_⟩) (fun h'=>by omega)
   refine ifD (fun n1=>ifD (fun n2=>ifD (fun n3=>ifD (fun n4=>ifD (fun n5=>ifD (fun n6=>?_) (fun _=>by first | trivial | exact ⟨rfl,rfl⟩)) (fun _=>by first | trivial | exact ⟨rfl,rfl⟩)) (fun _=>by first | trivial | exact ⟨rfl,rfl⟩)) (fun _=>by first | trivial | exact ⟨rfl,rfl⟩)) (fun _=>by first | trivial | exact ⟨rfl,rfl⟩)) (fun _=>by first | trivial | exact ⟨rfl,rfl⟩)
   have q:=nx ⟨⟨n1,n2⟩,⟨n3,n4⟩,n5,n6⟩
   and_intros
   all_goals first | omega | decide | exact dE _ | exact nl | skip
   exact q
 refine aV vR mixed _ (qP d m v 0 _ _) ?_
 have hk : (0 : Int).toNat = 0:=rfl
 have w1 : IntKind.i64.wrap (0 + 1) = 1:=by decide
 have nx:=fun hq : inV d.parts[0].at_ 131072=>key 1 hpos (le_refl _) fun i hi hik=>by
  obtain rfl : i = 0:=by omega
  exact hq
 have sn:=aAL (l:=cD d.parts) (by omega) (gi 0 (by omega))
 have rk : dR (((eD d v).parts).take 1) = fP (eO d.parts[0] v):=rs 0 hpos
 have nl:=cI (((eD d v).parts).take 1)
 have nl1:=dE ((cD d.parts).take 1)
 rw [rk] at nl nx
 rw [← sn] at nl1 nx
 clear rs done key
 simp only [hk,gT hpos]
 generalize d.parts[0] = p at *
 simp only [fP,aQ,aP,cH,cG,true_and,and_true,le_refl,w1,List.getElem?_cons_zero,List.getElem?_cons_succ,Option.getD_some]
 refine ifD (fun _=>⟨⟨by omega,by omega⟩,?_⟩) (fun h'=>by omega)
 refine ifD (fun n1=>ifD (fun n2=>ifD (fun n3=>ifD (fun n4=>ifD (fun n5=>ifD (fun n6=>?_) (fun _=>by first | trivial | exact ⟨rfl,rfl⟩)) (fun _=>by first | trivial | exact ⟨rfl,rfl⟩)) (fun _=>by first | trivial | exact ⟨rfl,rfl⟩)) (fun _=>by first | trivial | exact ⟨rfl,rfl⟩)) (fun _=>by first | trivial | exact ⟨rfl,rfl⟩)) (fun _=>by first | trivial | exact ⟨rfl,rfl⟩)
 have q:=nx ⟨⟨n1,n2⟩,⟨n3,n4⟩,n5,n6⟩
 and_intros
 all_goals first | omega | decide | exact nl1 | exact nl | skip
 exact q
theorem yX {d : Design6} {m : Mats} (hd : Vol.vol d <= 1048576) (hm : Vol.vol m <= 1048576) (v : Vec3) : Pure Tryz.prog 13 [aC d,bD m,iB v] fun w=>w = .bool true:=by
 have b:=aFx hd
 have f:=aJR hm
 refine aN vR mixed (by kernel_rfl) (by kernel_rfl) _ (aBE d m v _ _) ?_
 simp only [true_and,and_true,le_refl]
 refine ⟨d,60,rfl,by decide,aE (fun hq=>?_) (fun _=>by first | trivial | exact ⟨rfl,rfl⟩)⟩
 have hq : sE d 60:=of_decide_eq_true hq
 refine ifD (fun n1=>ifD (fun n2=>ifD (fun n3=>ifD (fun n4=>ifD (fun n5=>ifD (fun n6=>?_) (fun _=>by first | trivial | exact ⟨rfl,rfl⟩)) (fun _=>by first | trivial | exact ⟨rfl,rfl⟩)) (fun _=>by first | trivial | exact ⟨rfl,rfl⟩)) (fun _=>by first | trivial | exact ⟨rfl,rfl⟩)) (fun _=>by first | trivial | exact ⟨rfl,rfl⟩)) (fun _=>by first | trivial | exact ⟨rfl,rfl⟩)
 refine ⟨d,m,rfl,hq,⟨b.t,b.s,b.k⟩,b.dd,⟨b.p.f⟩,f,fun e he=>ifN (fun _=>by first | trivial | exact ⟨rfl,rfl⟩) (fun hz=>?_)⟩
 obtain ⟨h1,h2,h3⟩:=he hz
 have tl : Told d m:=⟨by have:=hq.2.1; omega,aOT h1,h2,h3⟩
 have q:=aGV b.o f.toFewM tl ⟨⟨n1,n2⟩,⟨n3,n4⟩,n5,n6⟩
 and_intros
 all_goals first | decide | skip
 exact q
end Go.Proofs.YtngginofamlkkaaGreatDoor
namespace Go.Proofs.YtngginofamlkkaaGreatDoor
open Go Go.RowKit Go.ChangeShapes
set_option maxRecDepth 100000
theorem aCn {z : Nat} : ∀ {c : List (List Value)} {cs : List Value},cs.length = c.length * z -> (∀ i p,c[i]? = some p -> (cs.drop (i * z)).take z = p) -> cs = c.flatten
 | [],cs,hl,_=>by simp at hl; simp [hl]
 | a :: c,cs,hl,h=>by
  have h0:=h 0 a rfl
  simp only [Nat.zero_mul,List.drop_zero] at h0
  have ih:=aCn (z:=z) (c:=c) (cs:=cs.drop z) (by rw [List.length_drop,hl,List.length_cons,Nat.succ_mul]; omega) fun i p hp=>by
   rw [List.drop_drop]
   have:=h (i + 1) p (by simpa using hp)
   rwa [Nat.succ_mul,Nat.add_comm] at this
  rw [List.flatten_cons,← ih,← h0,List.take_append_drop]
def aQS : DataW Unit -> List Value
 | .lit (.string b)=>[.string ⟨b.toArray⟩]
 | .lit (.int k n)=>[.int k n]
 | _=>[]
section
variable {enc : TypeId × Value -> Unit} {P : Program} {w : World} {base : Nat} {spare : Nat -> Bool} {held : Bool} {fuel : Nat} {t e : TypeId} {cs : List Value} {x : DataW Unit × List MemPlace}
theorem aMq {k : IntKind} (ht : P.underlying t = some (.int k)) (h : DataW.trod enc P w base spare held fuel t cs = some x) : cs = aQS x.1:=by
 obtain ⟨s,rfl,rfl,_⟩:=DataW.trod_int ht h
 rfl
theorem aGB {n : Nat} {F : DataW Unit -> List Value} (ht : P.underlying t = some (.array n e)) (hz : P.cellsOf t = n * P.cellsOf e) (h : DataW.trod enc P w base spare held fuel t cs = some x)
  (hF : ∀ fuel cs x,DataW.trod enc P w base spare held fuel e cs = some x -> cs = F x.1) : ∃ l,x.1 = .agg l /\ cs = (l.map F).flatten:=by
 obtain ⟨xs,m,_,rfl,hl,hxl,hi⟩:=DataW.trod_array ht h
 refine ⟨_,rfl,aCn (z:=P.cellsOf e) (by rw [List.length_map,List.length_map,hxl,hl,hz]) fun i p hp=>?_⟩
 rw [List.getElem?_map,List.getElem?_map] at hp
 cases hx : xs[i]? with
 | none=>rw [hx] at hp; cases hp
 | some y =>
  rw [hx] at hp
  simp only [Option.map_some,Option.some.injEq] at hp
  subst hp
  have hin : i < n:=by
   rw [← hxl]
   rcases Nat.lt_or_ge i xs.length with h' | h'
   ·exact h'
   ·rw [List.getElem?_eq_none h'] at hx; cases hx
  exact hF _ _ _ ((hi i hin).trans hx)
end
theorem aKG {W : World} (h : laidMetH Tryz.prog Rows.weightDisjointRow.laid W) : ∀ g cs,aHz g = some cs -> ∃ t fz,W.heap[g]? = some (.cells cs t fz):=by
 rw [MakeChecks.laidMetH_plain _ _ _ (by kernel_rfl)] at h
 obtain ⟨ps,⟨g,t,cs,fuel,p,q,hg,ht,hv,htr,_⟩,_,_⟩:=h
 have heap : ∀ {n : String} {g : Nat} {cs : Array Value},Tryz.prog.globalNamed n = some g -> W.var? Tryz.prog n = some cs -> ∃ t fz,W.heap[g]? = some (.cells cs t fz):=fun {n g cs} hg hv=>by
  simp only [World.var?,hg,Option.bind_some] at hv
  split at hv
  ·rename_i c t fz hh
   cases hv
   exact ⟨t,fz,hh⟩
  ·cases hv
 obtain rfl : 3 = g:=Option.some.inj ((show Tryz.prog.globalNamed "math/bits.deBruijn64tab" = some 3 by kernel_rfl).symm.trans hg)
 obtain rfl : 268 = t:=Option.some.inj ((show (Tryz.prog.globals[3]?).map (·.type) = some 268 by kernel_rfl).symm.trans ht)
 obtain ⟨l,hl,hc⟩:=aGB (F:=aQS) Tryz.underlying268 (by kernel_rfl) htr fun fuel cs x hx=>aMq Tryz.underlying5 hx
 cases hl
 intro k c hk
 unfold aHz at hk
 cases h1 : k.beq 3 with
 | false=>rw [h1] at hk; cases hk
 | true =>
  rw [h1,cond_true] at hk
  obtain rfl:=Nat.eq_of_beq_eq_true h1
  cases hk
  have:=heap hg hv
  rwa [show cs = _ from Array.toList_inj.1 (hc.trans (by kernel_rfl))] at this
end Go.Proofs.YtngginofamlkkaaGreatDoor

namespace Go.Proofs.YtngginofamlkkaaGreatDoor
open Go Go.RowKit Go.ChangeShapes Go.WideShapes Go.ChangeAt Go.Deep Go.Joins
theorem Tryz.own : ownKnob Tryz.prog.godebug = none:=by kernel_rfl
theorem Tryz.laidOut : laidOutB Tryz.prog = true:=by kernel_rfl
theorem aBH {H : Type} {enc : TypeId × Value -> H} {P : Program} {W W' : World} {sp' : Nat -> Bool} (hl : laidOutB P = true) : ∀ {ts : List TypeId} {vs : List Value} {ds : List (DataW H)} {ps : List MemPlace},
  (ts.all fun t=>P.readableRec t && decide (t < P.types.size)) = true -> DataW.TrodAll enc P W 0 (fun _=>true) true ts vs ds ps -> (∀ p ∈ ps,W.sameAt W' p) -> (∀ p ∈ ps,sp' p.block = true) ->
  DataW.TrodAll enc P W' 0 sp' true ts vs ds ps:=by
 intro ts
 induction ts with
 | nil =>
  intro vs ds ps _ h _ _
  obtain ⟨rfl,rfl,rfl⟩:=trodAll_nil h
  exact trodAll_mk0
 | cons t ts ih =>
  intro vs ds ps hr h hs hp
  obtain ⟨v,vs',d,ds',p,q,rfl,rfl,rfl,hd,hrest⟩:=trodAll_cons h
  simp only [List.all_cons,Bool.and_eq_true,decide_eq_true_eq] at hr
  exact trodAll_cons_mk (WideElems.Trod_stays hl hr.1.1 hr.1.2 hd (fun x hx=>hs x (by simp [hx])) (fun x hx=>hp x (by simp [hx])))
   (ih hr.2 hrest (fun x hx=>hs x (by simp [hx])) (fun x hx=>hp x (by simp [hx])))
end Go.Proofs.YtngginofamlkkaaGreatDoor

