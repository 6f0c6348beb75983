/-
  Put together out of several texts, each in its own namespace's block. Conditions: as each theorem states them.
-/
import Derived.Test.YtngginofamlkkaaGreatDoorQSm
import Derived.Test.YtngginofamlkkaaGreatDoorQPwg
noncomputable section
namespace Go.Proofs.YtngginofamlkkaaGreatDoor
open Go Go.RowKit
open Int (toNat_natCast)
open Go.IntKind (i64 wrap)
open List (getElem?_cons_zero getElem_mem length length_map mem_cons not_mem_nil)
open Nat (le_refl lt_or_ge)
open Option (isSome)
set_option maxRecDepth 100000
set_option maxHeartbeats 8000000
def dR {α : Type} [Enc α] (l : List α) : List Value:=l.flatMap Enc.cells
theorem oD {α : Type} [Enc α] (l : List α) (a : α) : dR (l ++ [a]) = dR l ++ Enc.cells a:=by simp [dR]
theorem gK {α : Type} [Enc α] : ∀ l : List α,(dR l).length = l.length * Enc.sz α
 | []=>by simp [dR]
 | a :: l=>by
  have:=gK l
  unfold dR at *
  rw [List.flatMap_cons,List.length_append,this,Enc.len,List.length_cons,Nat.succ_mul,Nat.add_comm]
theorem cI {α : Type} [Enc α] (l : List α) : NLs (dR l):=by
 intro v hv
 obtain ⟨a,_,ha⟩:=List.mem_flatMap.1 hv
 exact Enc.nl a v ha
theorem kS {α : Type} [Enc α] (l : List α) : bP (Enc.sz α) l.length (dR l) = aB l:=by
 unfold bP aB
 cases hs : (Enc.sz α).beq 1 with
 | true =>
  have h1:=Nat.eq_of_beq_eq_true hs
  rw [cond_true]
  have : dR l = l.map fun a=>elt (Enc.cells a):=by
   clear hs
   induction l with
   | nil=>rfl
   | cons a l ih =>
    unfold dR at *
    rw [List.flatMap_cons,ih,List.map_cons]
    have:=Enc.len a
    rw [h1] at this
    obtain ⟨v,hv⟩:=List.length_eq_one_iff.1 this
    rw [hv]
    rfl
  rw [this,List.take_of_length_le (by rw [length_map]; exact le_refl _)]
 | false =>
  rw [cond_false]
  congr 1
  have hne : Enc.sz α ≠ 1:=fun e=>by rw [e] at hs; cases hs
  have helt : ∀ a : α,elt (Enc.cells a) = .agg (Enc.cells a).toArray:=fun a=>by
   have:=Enc.len a
   match h : Enc.cells a with
   | []=>rfl
   | [v]=>rw [h] at this; exact absurd this.symm hne
   | _ :: _ :: _=>rfl
  clear hs
  induction l with
  | nil=>rfl
  | cons a l ih =>
   rw [List.length_cons,List.range_succ_eq_map,List.map_cons,List.map_cons,List.map_map,← ih,helt]
   congr 1
   ·unfold dR
    rw [List.flatMap_cons,Nat.zero_mul,List.drop_zero,List.take_left' (Enc.len a)]
   ·apply List.map_congr_left
    intro i _
    show Value.agg _ = Value.agg _
    congr 3
    unfold dR
    rw [List.flatMap_cons,show (i + 1) * Enc.sz α = (Enc.cells a).length + i * Enc.sz α by rw [Enc.len,Nat.succ_mul,Nat.add_comm],List.drop_append,List.drop_eq_nil_of_le (Nat.le_add_right _ _),Nat.add_sub_cancel_left,List.nil_append]
def sG (d : Design6) (l : List ByteArray) : Prop:=∀ s ∈ l,(cO d s).isSome = true
instance (d : Design6) (l : List ByteArray) : Decidable (sG d l):=by unfold sG; infer_instance
def dD (d : Design6) (l : List ByteArray) : List Part:=l.map fun s=>(cO d s).getD iG
def aAY (m : Mats) (ps : List Part) : Int:=eT (fun i=>bF (ps.getD i iG) m) ps.length
def ofW (d : Design6) (m : Mats) (l : List ByteArray) : Wt:=if ¬ sG d l then wt0 else if aAY m (dD d l) ≠ 0 then wt0 else aBz ((dD d l).map fun p=>aT p m)
def ofE (d : Design6) (m : Mats) (l : List ByteArray) : Int:=if ¬ sG d l then 8 else if aAY m (dD d l) ≠ 0 then aAY m (dD d l) else aCN ((dD d l).map fun p=>aT p m)
structure FitO (d : Design6) : Prop extends FitD d where
 fq : ∀ p ∈ d.parts,FitQ p
def c_of (args : List Value) (Post : Value -> Prop) : Prop:=∃ (d : Design6) (m : Mats) (l : List ByteArray),args = [aC d,bD m,trS l] /\ FitO d /\ FewM m /\ l.length <= 65536 /\ Post (.tuple #[wtV (ofW d m l),.int .i64 (ofE d m l)])
theorem uS : aW Tryz.prog aPM:=mV (by
 intro e he
 simp only [mem_cons,not_mem_nil,or_false] at he
 rcases he with rfl | rfl | rfl
 ·exact aLW
 ·exact aJV
 ·exact aQn) aD
theorem aPu {l : List ByteArray} {k : Nat} (h : k < l.length) : aA (aB l) k 0 = .string l[k]:=by
 rw [bK h]
 rfl
theorem aKQ : FitQ iG:=⟨by decide,by decide,(fun h hh=>by cases hh),by decide⟩
theorem aMO {d : Design6} (hf : FitO d) (s : ByteArray) : FitQ ((cO d s).getD iG):=by
 cases hp : cO d s with
 | none=>exact aKQ
 | some p=>exact hf.fq p (List.mem_of_find?_eq_some hp)
theorem mZ (d : Design6) (l : List ByteArray) : (dD d l).length = l.length:=length_map _
theorem aE6 {a : Int} (h0 : 0 <= a) (h1 : a <= 1099511627776) : 0 <= fQ a 50000 /\ fQ a 50000 <= 22000000:=by
 unfold fQ
 obtain ⟨f1,f2⟩:=lN (a:=-a) (b:=50000) (by decide)
 omega
theorem aKu {p : Part} {m : Mats} (h : bF p m = 0) : iI (aT p m):=by
 have hm:=tS p m
 have hc:=xR h
 have ha:=aAK h
 have ht:=aFs hc p.turn
 obtain ⟨c0,c1⟩:=aE6 hm.1 hm.2
 have hv:=fW (a:=fQ (bT p m) 50000) (b:=fQ (bT p m) 50000) (A:=22000000) (B:=22000000) (by omega) (by omega)
 have hv0:=Int.mul_nonneg c0 c0
 unfold aT
 rw [if_pos h,aF2 ha hc]
 unfold inV at ha ht
 obtain ⟨e1,b1⟩:=iU (a:=bT p m) (x:=(gD (eR p m) p.turn).x + p.at_.x) hm (by omega)
 obtain ⟨e2,b2⟩:=iU (a:=bT p m) (x:=(gD (eR p m) p.turn).y + p.at_.y) hm (by omega)
 obtain ⟨e3,b3⟩:=iU (a:=bT p m) (x:=(gD (eR p m) p.turn).z + p.at_.z) hm (by omega)
 unfold iI
 dsimp only
 rw [e1,e2,e3,jM (n:=fQ (bT p m) 50000 * fQ (bT p m) 50000) (by omega) (by omega)]
 omega
theorem aK2 {w : Wt} (h : iI w) (i : Nat) : bB (aS i w):=by
 unfold iI at h
 unfold bB
 rcases i with _ | _ | _ | _ | i
 ·show -9223372036854775808 <= w.m /\ w.m < 9223372036854775808; omega
 ·show -9223372036854775808 <= w.x /\ w.x < 9223372036854775808; omega
 ·show -9223372036854775808 <= w.y /\ w.y < 9223372036854775808; omega
 ·show -9223372036854775808 <= w.z /\ w.z < 9223372036854775808; omega
 ·show -9223372036854775808 <= w.v /\ w.v < 9223372036854775808; omega
theorem aCb {m : Mats} {ps : List Part} : aAY m ps = 0 ↔ ∀ p ∈ ps,bF p m = 0:=by
 unfold aAY
 rw [eF]
 constructor
 ·intro h p hp
  obtain ⟨i,hi,rfl⟩:=List.mem_iff_getElem.1 hp
  have:=h i hi
  rwa [dC hi] at this
 ·intro h i hi
  rw [dC hi]
  exact h _ (getElem_mem hi)
theorem ok_of : aZ Tryz.prog ⟨40,c_of⟩:=by
 rintro args Post ⟨d,m,l,rfl,hf,hm,hl,h⟩
 have nope : ¬ sG d l -> Post (.tuple #[.agg #[.int .i64 0,.int .i64 0,.int .i64 0,.int .i64 0,.int .i64 0],.int .i64 8]):=fun hn=>by
  unfold ofW ofE at h
  rw [if_pos hn,if_pos hn] at h
  exact h
 refine aN uS mixed (by kernel_rfl) (by kernel_rfl) _ (e_of d m l.length (aB l) _ _) ?_
 have p25 : (2 : Int) ^ 25 = 33554432:=by decide
 simp only [true_and,and_true,p25]
 refine ⟨⟨by decide,by omega,by omega⟩,(fun v hv=>by cases hv),?_⟩
 -- the second loop
 have second : sG d l -> OkP 40 [aC d,bD m,trS l] 12 Post (stV [(4,some (pt 0)),(6,some (pt 1)),(13,some (.slice (some ⟨2,0,none⟩) 0 5)),(44,some (tree 18 (dD d l).length (aB (dD d l)))),(45,some (vi (dD d l).length)),(46,some (vi 0))] [(0,some (.cells (dO m) true)),(1,some (.cells aBa true)),(2,some (.cells [] true))] 3):=fun hall=>by
  have hp:=mZ d l
  unfold ofW ofE at h
  have hna : ¬ ¬ sG d l:=fun hn=>hn hall
  rw [if_neg hna,if_neg hna] at h
  have fq : ∀ p ∈ dD d l,FitQ p:=fun p hp=>by
   obtain ⟨s,_,rfl⟩:=List.mem_map.1 hp
   exact aMO hf s
  generalize dD d l = ps at *
  have e0 : ([] : List Value) = dR ((ps.take 0).map fun p=>aT p m):=rfl
  have key : ∀ j : Nat,j = ((ps.take 0).map fun p=>aT p m).length -> OkP 40 [aC d,bD m,trS l] 12 Post (stV [(4,some (pt 0)),(6,some (pt 1)),(13,some (.slice (some ⟨2,0,none⟩) j 5)),(44,some (tree 18 ps.length (aB ps))),(45,some (vi ps.length)),(46,some (vi ((0 : Nat) : Int)))] [(0,some (.cells (dO m) true)),(1,some (.cells aBa true)),(2,some (.cells (dR ((ps.take 0).map fun p=>aT p m)) true))] 3):=by
   refine cS (n:=ps.length) (p:=fun k=>(∀ i,i < k -> bF (ps.getD i iG) m = 0) -> ∀ j : Nat,j = ((ps.take k).map fun p=>aT p m).length -> OkP 40 [aC d,bD m,trS l] 12 Post (stV [(4,some (pt 0)),(6,some (pt 1)),(13,some (.slice (some ⟨2,0,none⟩) j 5)),(44,some (tree 18 ps.length (aB ps))),(45,some (vi ps.length)),(46,some (vi k))] [(0,some (.cells (dO m) true)),(1,some (.cells aBa true)),(2,some (.cells (dR ((ps.take k).map fun p=>aT p m)) true))] 3)) (fun hok j hj=>?_) (fun k k1 ih hok j hj=>?_) (fun i hi=>by omega)
   ·refine aV uS mixed _ (m_of d m l.length ps.length j ps.length _ (aB l) (aB ps) _ _) ?_
    rw [List.take_length] at hj ⊢
    have ez : aAY m ps = 0:=eF.2 hok
    have hne : ¬ aAY m ps ≠ 0:=fun hn=>hn ez
    rw [if_neg hne,if_neg hne] at h
    have hlen:=gK (ps.map fun p=>aT p m)
    have hsz : Enc.sz Wt = 5:=rfl
    rw [hsz,← hj] at hlen
    simp only [true_and,and_true,le_refl]
    refine ifD (fun hlt=>by omega) (fun _=>⟨⟨by omega,cI _⟩,ps.map (fun p=>aT p m),?_,?_,fun w hw i=>?_,h⟩)
    ·rw [List.drop_zero,hj]
     have:=kS (ps.map fun p=>aT p m)
     rw [hsz] at this
     rw [this]
    ·rw [length_map]; omega
    ·obtain ⟨p,hp2,rfl⟩:=List.mem_map.1 hw
     exact aK2 (aKu (aCb.1 ez p hp2)) i
   ·refine aV uS mixed _ (m_of d m l.length ps.length j k _ (aB l) (aB ps) _ _) ?_
    have hk : ((k : Nat) : Int).toNat = k:=toNat_natCast k
    have hfq:=fq _ (getElem_mem k1)
    have gd : ps.getD k iG = ps[k]:=dC k1
    have hbad : bF ps[k] m ≠ 0 -> Post (.tuple #[.agg #[.int .i64 0,.int .i64 0,.int .i64 0,.int .i64 0,.int .i64 0],.int .i64 (bF ps[k] m)]):=fun hne=>by
     have e : aAY m ps = bF ps[k] m:=by
      unfold aAY
      rw [mW k1 hok (by rw [gd]; exact hne),gd]
     have hnz : aAY m ps ≠ 0:=by rw [e]; exact hne
     rw [if_pos hnz,if_pos hnz,e] at h
     exact h
    have hnext:=fun hz : bF ps[k] m = 0=>ih (fun i hi=>by
     rcases lt_or_ge i k with h' | h'
     ·exact hok i h'
     ·rw [show i = k by omega,gd]; exact hz) (j + 1) (by
     rw [hj,length_map,length_map,List.length_take,List.length_take]
     omega)
    have et : dR ((ps.take (k + 1)).map fun p=>aT p m) = dR ((ps.take k).map fun p=>aT p m) ++ Enc.cells (aT ps[k] m):=by
     rw [List.take_add_one,List.getElem?_eq_getElem k1,List.map_append]
     exact oD _ _
    have hlen:=gK ((ps.take k).map fun p=>aT p m)
    have hsz : Enc.sz Wt = 5:=rfl
    rw [hsz,← hj] at hlen
    have hnls:=cI ((ps.take (k + 1)).map fun p=>aT p m)
    rw [et] at hnls hnext
    have hjl : j <= 65536:=by
     rw [hj,length_map,List.length_take]
     omega
    simp only [hk,gT k1]
    clear ih hok h et
    generalize ps[k] = p at *
    simp only [fP,aQ,aP,cH,cG,true_and,and_true,le_refl,aJ (show k < 2 ^ 62 by omega),getElem?_cons_zero,List.getElem?_cons_succ,Option.getD_some]
    exact ifD (fun _=>⟨⟨by omega,by omega⟩,p,m,rfl,hfq,hm,ifN (fun hne=>hbad hne) (fun hz=>⟨by omega,by omega,hnls,hnext hz⟩)⟩) (fun h'=>by omega)
  exact key 0 rfl
 -- the first loop
 have key : ∀ j : Nat,j = (dD d (l.take 0)).length -> OkP 40 [aC d,bD m,trS l] 3 Post (stV [(3,some (pt 0)),(4,some (pt 1)),(6,some (pt 2)),(8,some (.slice (some ⟨3,0,none⟩) j 18)),(21,some (trS l)),(22,some (vi l.length)),(23,some (vi ((0 : Nat) : Int)))] [(0,some (.cells (aG d) true)),(1,some (.cells (dO m) true)),(2,some (.cells aBa true)),(3,some (.cells (dR (dD d (l.take 0))) true))] 4):=by
  refine cS (n:=l.length) (p:=fun k=>sG d (l.take k) -> ∀ j : Nat,j = (dD d (l.take k)).length -> OkP 40 [aC d,bD m,trS l] 3 Post (stV [(3,some (pt 0)),(4,some (pt 1)),(6,some (pt 2)),(8,some (.slice (some ⟨3,0,none⟩) j 18)),(21,some (trS l)),(22,some (vi l.length)),(23,some (vi k))] [(0,some (.cells (aG d) true)),(1,some (.cells (dO m) true)),(2,some (.cells aBa true)),(3,some (.cells (dR (dD d (l.take k))) true))] 4)) (fun hall j hj=>?_) (fun k k1 ih hall j hj=>?_) (fun s hs=>by simp at hs)
  ·refine aV uS mixed _ (l_of d m l.length j l.length _ (aB l) _ _) ?_
   rw [List.take_length] at hall hj ⊢
   have hlen:=gK (dD d l)
   have hsz : Enc.sz Part = 18:=rfl
   rw [hsz,← hj] at hlen
   have hj2:=hj
   rw [mZ] at hj2
   simp only [true_and,and_true,p25]
   refine ifD (fun hlt=>by omega) (fun _=>⟨⟨by decide,by omega,by omega⟩,⟨by omega,cI _⟩,(fun v hv=>by cases hv),?_⟩)
   have:=kS (dD d l)
   rw [hsz,← hj] at this
   rw [List.drop_zero,this,hj]
   exact second hall
  ·refine aV uS mixed _ (l_of d m l.length j k _ (aB l) _ _) ?_
   have hk : ((k : Nat) : Int).toNat = k:=toNat_natCast k
   have tk : l.take (k + 1) = l.take k ++ [l[k]]:=by
    rw [List.take_add_one,List.getElem?_eq_getElem k1]
    rfl
   have hj2:=hj
   rw [mZ,List.length_take] at hj2
   have et : dR (dD d (l.take (k + 1))) = dR (dD d (l.take k)) ++ Enc.cells ((cO d l[k]).getD iG):=by
    rw [tk]
    unfold dD
    rw [List.map_append]
    exact oD _ _
   have hlen:=gK (dD d (l.take k))
   have hsz : Enc.sz Part = 18:=rfl
   rw [hsz,← hj] at hlen
   have hnls:=cI (dD d (l.take (k + 1)))
   have hnext:=fun hs : (cO d l[k]).isSome = true=>ih (by
    rw [tk]
    intro s hs2
    rcases List.mem_append.1 hs2 with h' | h'
    ·exact hall s h'
    ·simp at h'
     rw [h']
     exact hs) (j + 1) (by rw [mZ,List.length_take]; omega)
   rw [et] at hnls hnext
   simp only [true_and,and_true,le_refl,hk,aPu k1,aP,aJ (show k < 2 ^ 62 by omega)]
   refine ifD (fun _=>⟨⟨by omega,by omega⟩,d,l[k],rfl,hf.toFitD,aE (fun hs=>⟨by omega,by omega,hnls,hnext hs⟩) (fun hs=>nope fun hn=>?_)⟩) (fun h'=>by omega)
   have:=hn _ (getElem_mem k1)
   rw [hs] at this
   cases this
 exact key 0 rfl
theorem aD8 : aHp Tryz.prog 300 39 = true:=by kernel_rfl
def aIB (args : List Value) (Post : Value -> Prop) : Prop:=args = [] /\ Post (.bool true)
theorem aO0 : aZ Tryz.prog ⟨39,aIB⟩:=aGw mixed aD8
def sE (d : Design6) (n : Int) : Prop:=(d.nodes.length : Int) <= n /\ (d.parts.length : Int) <= n /\ (d.seams.length : Int) <= n /\ (d.packs.length : Int) <= n /\ (d.needs.length : Int) <= n /\ ∀ p ∈ d.packs,(p.parts.length : Int) <= n /\ (p.after.length : Int) <= n
instance (d : Design6) (n : Int) : Decidable (sE d n):=by unfold sE; infer_instance
def aIs (args : List Value) (Post : Value -> Prop) : Prop:=∃ (d : Design6) (n : Int),args = [aC d,.int .i64 n] /\ n <= 1000 /\ Post (.bool (decide (sE d n)))
theorem aQg (d : Design6) (n : Int) (H : HT) (Post : PV) : vcP Tryz.prog aI 38 [(4,[1,2,5])] [aC d,.int .i64 n] H Post = (let q6:=length d.needs; let q5:=length d.packs; let q4:=length d.seams; let q3:=length d.parts; let q2:=length d.nodes; let q1:=True /\ Post (vb false); T4 (T2 (True /\ pIf (decide ((↑q2 : Int) > n)) (T8 (T2 (Post (vb false)))) (T4 (T2 (pIf (decide ((↑q3 : Int) > n)) (T8 q1) (T4 (T2 (True /\ pIf (decide ((↑q4 : Int) > n)) (T4 (T2 q1)) (T4 (T2 (True /\ pIf (decide ((↑q5 : Int) > n)) (T4 q1) (T4 (T2 (True /\ pIf (decide ((↑q6 : Int) > n)) (T2 q1) (T2 (True /\ (True /\ True) /\ HP H 38 4 (stV [(1,some (vi n)),(2,some (pt 0)),(5,some (vi 0))] [(0,some (AObj.cells [vs d.hull,tree 3 q2 (aB d.nodes),tree 18 q3 (aB d.parts),tree 6 q4 (aB d.seams),tree 5 q5 (aB d.packs),tree 3 q6 (aB d.needs)] true))] 1)))))))))))))))))):=by kernel_rfl
theorem aII (d : Design6) (n k : Int) (H : HT) (Post : PV) : bX Tryz.prog aI 38 [aC d,.int .i64 n] [(4,[1,2,5])] 4 (stV [(1,some (vi n)),(2,some (pt 0)),(5,some (vi k))] [(0,some (.cells (aG d) true))] 1) H Post = (let q1:=aB d.packs; let q4:=aA q1 k.toNat 4; let q3:=aA q1 k.toNat 2; let q2:=length d.packs; T4 (True /\ pIf (decide (k < (↑q2 : Int))) (T2 (True /\ (0 <= k /\ k < (↑q2 : Int)) /\ True /\ aA q1 k.toNat 2 = tree 1 (toN q3) (toE q3) /\ T2 (True /\ pIf (decide ((↑(toN q3) : Int) > n)) (T4 (Post (vb false))) (T4 ((0 <= k /\ k < (↑q2 : Int)) /\ True /\ aA q1 k.toNat 4 = tree 1 (toN q4) (toE q4) /\ T2 (True /\ pIf (decide ((↑(toN q4) : Int) > n)) (T2 (True /\ Post (vb false))) (T4 (True /\ (True /\ True) /\ HP H 38 4 (stV [(1,some (vi n)),(2,some (pt 0)),(5,some (vi (wrap i64 (k + 1))))] [(0,some (AObj.cells [vs d.hull,tree 3 d.nodes.length (aB d.nodes),tree 18 d.parts.length (aB d.parts),tree 6 d.seams.length (aB d.seams),tree 5 q2 q1,tree 3 d.needs.length (aB d.needs)] true))] 1))))))))) (T2 (Post (vb true))))):=by kernel_rfl
theorem iX {l : List Pack5} {k : Nat} (h : k < l.length) (j : Nat) : aA (aB l) k j = ((dB l[k])[j]?).getD undef:=bK h
theorem aNb : aZ Tryz.prog ⟨38,aIs⟩:=by
 rintro args Post ⟨d,n,rfl,hn,h⟩
 refine aN aD mixed (by kernel_rfl) (by kernel_rfl) _ (aQg d n _ _) ?_
 simp only [true_and]
 have no : ¬ sE d n -> Post (.bool false):=fun hq=>by rwa [decide_eq_false hq] at h
 have yes : sE d n -> Post (.bool true):=fun hq=>by rwa [decide_eq_true hq] at h
 refine ifD (fun g1=>no fun hq=>by have:=hq.1; omega) (fun g1=>ifD (fun g2=>no fun hq=>by have:=hq.2.1; omega) (fun g2=>ifD (fun g3=>no fun hq=>by have:=hq.2.2.1; omega) (fun g3=>ifD (fun g4=>no fun hq=>by have:=hq.2.2.2.1; omega) (fun g4=>ifD (fun g5=>no fun hq=>by have:=hq.2.2.2.2.1; omega) (fun g5=>?_)))))
 refine cS (n:=d.packs.length) (p:=fun k=>(∀ i (hi : i < d.packs.length),i < k -> ((d.packs[i].parts.length : Int) <= n /\ (d.packs[i].after.length : Int) <= n)) -> OkP 38 [aC d,.int .i64 n] 4 Post (stV [(1,some (vi n)),(2,some (pt 0)),(5,some (vi k))] [(0,some (.cells (aG d) true))] 1)) (fun hall=>?_) (fun k k1 ih hall=>?_) (fun i _ hi=>by omega)
 ·refine aV aD mixed _ (aII d n d.packs.length _ _) ?_
  simp only [true_and]
  refine ifD (fun hlt=>by omega) (fun _=>yes ⟨by omega,by omega,by omega,by omega,by omega,fun p hp=>?_⟩)
  obtain ⟨i,hi,rfl⟩:=List.mem_iff_getElem.1 hp
  exact hall i hi hi
 ·refine aV aD mixed _ (aII d n k _ _) ?_
  have hk : ((k : Nat) : Int).toNat = k:=toNat_natCast k
  simp only [hk,iX k1]
  have hm:=getElem_mem k1
  have hnx:=fun hq : ((d.packs[k].parts.length : Int) <= n /\ (d.packs[k].after.length : Int) <= n)=>ih fun i hi hi2=>by
   rcases lt_or_ge i k with h' | h'
   ·exact hall i hi h'
   ·obtain rfl : i = k:=by omega
    exact hq
  have hbad : ∀ q : Prop,(sE d n -> ((d.packs[k].parts.length : Int) <= n /\ (d.packs[k].after.length : Int) <= n)):=fun _ hq=>hq.2.2.2.2.2 _ hm
  clear ih hall
  generalize d.packs[k] = p at *
  simp only [dB,cH,cG,true_and,and_true,aJ (show k < 2 ^ 62 by omega),getElem?_cons_zero,List.getElem?_cons_succ,Option.getD_some]
  exact ifD (fun _=>⟨⟨by omega,by omega⟩,ifD (fun g=>no fun hq=>by have:=(hbad True hq).1; omega) (fun g=>⟨⟨by omega,by omega⟩,ifD (fun g'=>no fun hq=>by have:=(hbad True hq).2; omega) (fun g'=>hnx ⟨by omega,by omega⟩)⟩)⟩) (fun h'=>by omega)
theorem lS {l : List Node3} {k : Nat} (h : k < l.length) (j : Nat) : aA (aB l) k j = ((nE l[k])[j]?).getD undef:=bK h
theorem aJB {d : Design6} {s : ByteArray} {k : Nat} (hk : k < d.nodes.length) (hp : d.nodes[k].id = s) (hb : ∀ j (hj : j < d.nodes.length),j < k -> ¬ d.nodes[j].id = s) : dP d s = some d.nodes[k]:=oH hk hp hb
theorem pY : aZ Tryz.prog ⟨184,wC⟩:=by
 rintro args Post ⟨d,s,rfl,hf,h⟩
 refine aN aD mixed (by kernel_rfl) (by kernel_rfl) _ (aOk d s _ _) ?_
 simp only [true_and]
 refine cS (n:=d.nodes.length) (p:=fun k=>(∀ j (hj : j < d.nodes.length),j < k -> ¬ d.nodes[j].id = s) -> OkP 184 [aC d,.string s] 2 Post (stV [(1,some (.string s)),(2,some (pt 0)),(4,some (pt 1)),(6,some (vi k))] [(0,some (.cells (aG d) true)),(1,some (.cells aL7 true))] 2)) (fun hall=>?_) (fun k k1 ih hall=>?_) (fun i _ hi=>by omega)
 ·refine aV aD mixed _ (aI2 d s d.nodes.length _ _) ?_
  simp only [true_and,and_true,le_refl]
  have e : dP d s = none:=by
   unfold dP
   rw [List.find?_eq_none]
   intro g hg
   obtain ⟨i,hi,rfl⟩:=List.mem_iff_getElem.1 hg
   simpa using hall i hi hi
  rw [e] at h
  exact ifD (fun hlt=>by omega) (fun _=>h)
 ·refine aV aD mixed _ (aI2 d s k _ _) ?_
  have hk : ((k : Nat) : Int).toNat = k:=toNat_natCast k
  have ks : d.nodes.length < 2 ^ 62:=hf
  simp only [hk,lS k1]
  have hfound : d.nodes[k].id = s -> Post (.tuple #[aO7 d.nodes[k],.bool true]):=fun he=>by
   have e:=aJB k1 he (fun j hj hjk=>hall j hj hjk)
   rw [e] at h
   exact h
  have hnext : ¬ d.nodes[k].id = s -> OkP 184 [aC d,.string s] 2 Post (stV [(1,some (.string s)),(2,some (pt 0)),(4,some (pt 1)),(6,some (vi ((k + 1 : Nat) : Int)))] [(0,some (.cells (aG d) true)),(1,some (.cells aL7 true))] 2):=fun he=>ih fun j hj hjk=>by
   rcases lt_or_ge j k with h' | h'
   ·exact hall j hj h'
   ·have : j = k:=by omega
    subst this
    exact he
  clear ih hall h
  generalize d.nodes[k] = p at *
  simp only [nE,aQ,aP,cH,cG,true_and,and_true,le_refl,aJ (show k < 2 ^ 62 by omega),getElem?_cons_zero,List.getElem?_cons_succ,Option.getD_some]
  exact ifD (fun _=>⟨⟨by omega,by omega⟩,ifD (fun he=>⟨⟨by omega,by omega⟩,hfound he⟩) (fun he=>hnext he)⟩) (fun h'=>by omega)
theorem aKF {d : Design6} {s : ByteArray} {k : Nat} (hk : k < d.packs.length) (hp : d.packs[k].id = s) (hb : ∀ j (hj : j < d.packs.length),j < k -> ¬ d.packs[j].id = s) : lY d s = some d.packs[k]:=oH hk hp hb
theorem aFF : aZ Tryz.prog ⟨191,aHh⟩:=by
 rintro args Post ⟨d,s,rfl,hf,h⟩
 refine aN aD mixed (by kernel_rfl) (by kernel_rfl) _ (aP6 d s _ _) ?_
 simp only [true_and]
 refine cS (n:=d.packs.length) (p:=fun k=>(∀ j (hj : j < d.packs.length),j < k -> ¬ d.packs[j].id = s) -> OkP 191 [aC d,.string s] 2 Post (stV [(1,some (.string s)),(2,some (pt 0)),(4,some (pt 1)),(6,some (vi k))] [(0,some (.cells (aG d) true)),(1,some (.cells aMf true))] 2)) (fun hall=>?_) (fun k k1 ih hall=>?_) (fun i _ hi=>by omega)
 ·refine aV aD mixed _ (aI8 d s d.packs.length _ _) ?_
  simp only [true_and,and_true,le_refl]
  have e : lY d s = none:=by
   unfold lY
   rw [List.find?_eq_none]
   intro g hg
   obtain ⟨i,hi,rfl⟩:=List.mem_iff_getElem.1 hg
   simpa using hall i hi hi
  rw [e] at h
  exact ifD (fun hlt=>by omega) (fun _=>h)
 ·refine aV aD mixed _ (aI8 d s k _ _) ?_
  have hk : ((k : Nat) : Int).toNat = k:=toNat_natCast k
  have ks : d.packs.length < 2 ^ 62:=hf
  simp only [hk,iX k1]
  have hfound : d.packs[k].id = s -> Post (.tuple #[aNp d.packs[k],.bool true]):=fun he=>by
   have e:=aKF k1 he (fun j hj hjk=>hall j hj hjk)
   rw [e] at h
   exact h
  have hnext : ¬ d.packs[k].id = s -> OkP 191 [aC d,.string s] 2 Post (stV [(1,some (.string s)),(2,some (pt 0)),(4,some (pt 1)),(6,some (vi ((k + 1 : Nat) : Int)))] [(0,some (.cells (aG d) true)),(1,some (.cells aMf true))] 2):=fun he=>ih fun j hj hjk=>by
   rcases lt_or_ge j k with h' | h'
   ·exact hall j hj h'
   ·have : j = k:=by omega
    subst this
    exact he
  clear ih hall h
  generalize d.packs[k] = p at *
  simp only [dB,aQ,aP,cH,cG,true_and,and_true,le_refl,aJ (show k < 2 ^ 62 by omega),getElem?_cons_zero,List.getElem?_cons_succ,Option.getD_some]
  exact ifD (fun _=>⟨⟨by omega,by omega⟩,ifD (fun he=>⟨⟨by omega,by omega⟩,hfound he⟩) (fun he=>hnext he)⟩) (fun h'=>by omega)
theorem dH {l : List ByteArray} {k : Nat} (h : k < l.length) (j : Nat) : aA (aB l) k j = (([.string l[k]] : List Value)[j]?).getD undef:=bK h
theorem aDC : aZ Tryz.prog ⟨183,aId⟩:=by
 rintro args Post ⟨l,s,rfl,hs,h⟩
 refine aN aD mixed (by kernel_rfl) (by kernel_rfl) _ (aRT l.length (aB l) s _ _) ?_
 have hs2 : l.length < 2 ^ 62:=hs
 simp only [true_and]
 refine cS (n:=l.length) (p:=fun k=>(∀ j (hj : j < l.length),j < k -> ¬ l[j] = s) -> OkP 183 [trS l,.string s] 2 Post (stV [(0,some (trS l)),(1,some (.string s)),(5,some (vi k))] [] 0)) (fun hall=>?_) (fun k k1 ih hall=>?_) (fun i _ hi=>by omega)
 ·refine aV aD mixed _ (aL0 l.length (aB l) s l.length _ _) ?_
  simp only [true_and,and_true,le_refl]
  have e : oG l s = false:=by
   unfold oG
   rw [List.any_eq_false]
   intro x hm
   obtain ⟨i,hi,rfl⟩:=List.mem_iff_getElem.1 hm
   simpa using hall i hi hi
  rw [e] at h
  exact ifD (fun hlt=>by omega) (fun _=>h)
 ·refine aV aD mixed _ (aL0 l.length (aB l) s k _ _) ?_
  have hk : ((k : Nat) : Int).toNat = k:=toNat_natCast k
  simp only [true_and,and_true,le_refl,hk,dH k1,aP,getElem?_cons_zero,Option.getD_some,aJ (show k < 2 ^ 62 by omega)]
  refine ifD (fun _=>⟨⟨by omega,by omega⟩,ifD (fun he=>?_) (fun he=>ih fun j hj hjk=>?_)⟩) (fun h'=>by omega)
  ·have e : oG l s = true:=List.any_eq_true.2 ⟨_,getElem_mem k1,decide_eq_true he⟩
   rw [e] at h
   exact h
  ·rcases lt_or_ge j k with h' | h'
   ·exact hall j hj h'
   ·have : j = k:=by omega
    subst this
    exact he
theorem sN {n : Nat} {p : Nat -> Prop} (h : p n) (s : ∀ k,k < n -> p (k + 1) -> p k) (k : Nat) (hk : k <= n) : p k:=by
 induction hm : n - k generalizing k with
 | zero=>rwa [show k = n by omega]
 | succ m ih=>exact s k (by omega) (ih (k + 1) (by omega) (by omega))
theorem xK {l : List Seam6} {k : Nat} (h : k < l.length) (j : Nat) : aA (aB l) k j = ((tA l[k])[j]?).getD undef:=bK h
theorem xH {l : List Need3} {k : Nat} (h : k < l.length) (j : Nat) : aA (aB l) k j = ((aAw l[k])[j]?).getD undef:=bK h
def SL (l : List ByteArray) : List Value:=l.map Value.string
theorem cR (l : List ByteArray) : (SL l).length = l.length:=length_map _
theorem dE (l : List ByteArray) : NLs (SL l):=fun v hv=>by
 obtain ⟨a,_,rfl⟩:=List.mem_map.1 hv
 rfl
theorem rX {l : List ByteArray} {k : Nat} {s : ByteArray} (h : k < l.length) (hs : l[k] = s) : SL (l.take k) ++ [.string s] = SL (l.take (k + 1)):=by
 unfold SL
 rw [List.take_add_one,List.getElem?_eq_getElem h,List.map_append,hs]
 rfl
theorem aAL {l : List ByteArray} {s : ByteArray} (h : 0 < l.length) (hs : l[0] = s) : ([.string s] : List Value) = SL (l.take 1):=rX h hs
theorem xC (l : List ByteArray) {n : Nat} (hn : n = l.length) : tree 1 n (bP 1 n (List.drop 0 (SL l))) = trS l:=by
 subst hn
 congr 1
 show ((List.drop 0 (SL l)).take l.length).toArray = _
 rw [List.drop_zero,List.take_of_length_le (by rw [cR]; exact le_refl _)]
 rfl
theorem aI3 {d : Design6} {Post : Value -> Prop} (f : Few17 d) (h : Post (.agg #[trS (bI d),trS (bC d),trS (bU d),trS (bG d)])) : OkP 180 [aC d] 15 Post (stV [(1,some (pt 0)),(2,some (pt 1)),(3,some (pt 2)),(7,some (vi 0))] [(0,some (.cells (aG d) true)),(1,some (.cells kI true)),(2,some (.cells [trS (bI d),trS (bC d),trS (bU d),.slice none 0 0] true))] 3):=by
 have hf : d.packs.length <= 1000:=f.k
 have hl : (bG d).length = d.packs.length:=length_map _
 by_cases hz : bG d = []
 ·have hz0 : d.packs.length = 0:=by rw [← hl,hz]; rfl
  refine aV aD mixed _ (aAu d (bI d).length (aB (bI d)) (bC d).length (aB (bC d)) (bU d).length (aB (bU d)) 0 _ _) ?_
  simp only [true_and,and_true,le_refl]
  refine ifD (fun hlt=>by omega) (fun _=>?_)
  rw [hz] at h
  exact h
 have hpos : 0 < d.packs.length:=by rw [← hl]; exact List.length_pos_iff.2 hz
 have gi : ∀ k (hk : k < (bG d).length),(bG d)[k] = (d.packs[k]'(by omega)).id:=fun k hk=>List.getElem_map _
 have key : ∀ k,k <= d.packs.length -> 1 <= k -> OkP 180 [aC d] 15 Post (stV [(1,some (pt 0)),(2,some (pt 1)),(3,some (pt 2)),(7,some (vi ((k : Nat) : Int)))] [(0,some (.cells (aG d) true)),(1,some (.cells kI true)),(2,some (.cells [trS (bI d),trS (bC d),trS (bU d),.slice (some ⟨3,0,none⟩) k 1] true)),(3,some (.cells (SL ((bG d).take k)) true))] 4):=by
  intro k hkk
  refine sN (n:=d.packs.length) (p:=fun k=>1 <= k -> OkP 180 [aC d] 15 Post (stV [(1,some (pt 0)),(2,some (pt 1)),(3,some (pt 2)),(7,some (vi ((k : Nat) : Int)))] [(0,some (.cells (aG d) true)),(1,some (.cells kI true)),(2,some (.cells [trS (bI d),trS (bC d),trS (bU d),.slice (some ⟨3,0,none⟩) k 1] true)),(3,some (.cells (SL ((bG d).take k)) true))] 4)) (fun hq1=>?_) (fun k k1 ih hq1=>?_) k hkk
  ·refine aV aD mixed _ (zL d (bI d).length (aB (bI d)) (bC d).length (aB (bC d)) (bU d).length (aB (bU d)) d.packs.length _ _ _ _) ?_
   have tk : (bG d).take d.packs.length = bG d:=by rw [← hl,List.take_length]
   rw [tk]
   simp only [true_and,and_true,le_refl]
   refine ifD (fun hlt=>by omega) (fun _=>⟨?_,?_⟩)
   ·first | exact dE _ | (and_intros; all_goals first | exact dE _ | (rw [cR]; omega))
   ·simp only [xC (bG d) hl.symm]
    exact h
  ·refine aV aD mixed _ (zL d (bI d).length (aB (bI d)) (bC d).length (aB (bC d)) (bU d).length (aB (bU d)) k _ _ _ _) ?_
   have hk : ((k : Nat) : Int).toNat = k:=toNat_natCast k
   have nx:=ih (by omega)
   have sn:=rX (l:=bG d) (k:=k) (by omega) (gi k (by omega))
   have hlen : (SL ((bG d).take k)).length = k:=by rw [cR,List.length_take]; omega
   simp only [hk,iX k1,dB,getElem?_cons_zero,Option.getD_some,aP,aQ,true_and,and_true,le_refl,aJ (show k < 2 ^ 62 by omega),sn,hlen]
   refine ifD (fun _=>?_) (fun h'=>by omega)
   and_intros
   all_goals first | exact dE _ | omega | (rw [cR]; omega) | (simp only [cR]; omega) | skip
   exact nx
 refine aV aD mixed _ (aAu d (bI d).length (aB (bI d)) (bC d).length (aB (bC d)) (bU d).length (aB (bU d)) 0 _ _) ?_
 have hk : (0 : Int).toNat = 0:=rfl
 have nx:=key 1 hpos (le_refl _)
 have sn:=aAL (l:=bG d) (by omega) (gi 0 (by omega))
 have w1 : IntKind.i64.wrap (0 + 1) = 1:=by decide
 simp only [hk,iX hpos,dB,getElem?_cons_zero,Option.getD_some,aP,aQ,true_and,and_true,le_refl,w1,sn]
 refine ifD (fun _=>?_) (fun h'=>by omega)
 and_intros
 all_goals first | exact dE _ | omega | (rw [cR]; omega) | (simp only [cR]; omega) | skip
 exact nx
theorem aIx {d : Design6} {Post : Value -> Prop} (f : Few17 d) (h : Post (.agg #[trS (bI d),trS (bC d),trS (bU d),trS (bG d)])) : OkP 180 [aC d] 11 Post (stV [(1,some (pt 0)),(2,some (pt 1)),(3,some (pt 2)),(6,some (vi 0))] [(0,some (.cells (aG d) true)),(1,some (.cells kI true)),(2,some (.cells [trS (bI d),trS (bC d),.slice none 0 0,.slice none 0 0] true))] 3):=by
 have hf : d.seams.length <= 1000:=f.s
 have hl : (bU d).length = d.seams.length:=length_map _
 by_cases hz : bU d = []
 ·have hz0 : d.seams.length = 0:=by rw [← hl,hz]; rfl
  refine aV aD mixed _ (aAz d (bI d).length (aB (bI d)) (bC d).length (aB (bC d)) 0 _ _) ?_
  simp only [true_and,and_true,le_refl]
  refine ifD (fun hlt=>by omega) (fun _=>?_)
  have nx:=aI3 f h
  rw [show trS (bU d) = tree 1 0 #[] by rw [hz]; rfl] at nx
  refine nO (bb:=2) (j:=2) (t:=72) (ob:=True) (by kernel_rfl) rfl (by kernel_rfl) trivial (.inl rfl) (gM (lt:=nG) (Eq.mpr (aHs d (bI d).length (aB (bI d)) (bC d).length (aB (bC d)) (wT Tryz.prog 180 [aC d] Post) Post) ?_))
  simp only [true_and,and_true]
  exact nx
 have hpos : 0 < d.seams.length:=by rw [← hl]; exact List.length_pos_iff.2 hz
 have gi : ∀ k (hk : k < (bU d).length),(bU d)[k] = (d.seams[k]'(by omega)).id:=fun k hk=>List.getElem_map _
 have key : ∀ k,k <= d.seams.length -> 1 <= k -> OkP 180 [aC d] 11 Post (stV [(1,some (pt 0)),(2,some (pt 1)),(3,some (pt 2)),(6,some (vi ((k : Nat) : Int)))] [(0,some (.cells (aG d) true)),(1,some (.cells kI true)),(2,some (.cells [trS (bI d),trS (bC d),.slice (some ⟨3,0,none⟩) k 1,.slice none 0 0] true)),(3,some (.cells (SL ((bU d).take k)) true))] 4):=by
  intro k hkk
  refine sN (n:=d.seams.length) (p:=fun k=>1 <= k -> OkP 180 [aC d] 11 Post (stV [(1,some (pt 0)),(2,some (pt 1)),(3,some (pt 2)),(6,some (vi ((k : Nat) : Int)))] [(0,some (.cells (aG d) true)),(1,some (.cells kI true)),(2,some (.cells [trS (bI d),trS (bC d),.slice (some ⟨3,0,none⟩) k 1,.slice none 0 0] true)),(3,some (.cells (SL ((bU d).take k)) true))] 4)) (fun hq1=>?_) (fun k k1 ih hq1=>?_) k hkk
  ·refine aV aD mixed _ (aAB d (bI d).length (aB (bI d)) (bC d).length (aB (bC d)) d.seams.length _ _ _ _) ?_
   have tk : (bU d).take d.seams.length = bU d:=by rw [← hl,List.take_length]
   rw [tk]
   simp only [true_and,and_true,le_refl]
   refine ifD (fun hlt=>by omega) (fun _=>⟨?_,?_⟩)
   ·first | exact dE _ | (and_intros; all_goals first | exact dE _ | (rw [cR]; omega))
   ·have nx:=aI3 f h
    refine nO (bb:=2) (j:=2) (t:=72) (hp1:=Tr.put _ 3 none) (ob:=0 + d.seams.length * 1 <= (SL (bU d)).length /\ NLs (List.drop 0 (SL (bU d)))) (by kernel_rfl) rfl (by kernel_rfl) ⟨by rw [cR]; omega,dE _⟩ (.inr ⟨3,by decide,rfl⟩) (gM (lt:=nG) (Eq.mpr (aGY d (bI d).length (aB (bI d)) (bC d).length (aB (bC d)) d.seams.length (SL (bU d)) (wT Tryz.prog 180 [aC d] Post) Post) ?_))
    simp only [true_and,and_true,xC (bU d) hl.symm]
    exact nx
  ·refine aV aD mixed _ (aAB d (bI d).length (aB (bI d)) (bC d).length (aB (bC d)) k _ _ _ _) ?_
   have hk : ((k : Nat) : Int).toNat = k:=toNat_natCast k
   have nx:=ih (by omega)
   have sn:=rX (l:=bU d) (k:=k) (by omega) (gi k (by omega))
   have hlen : (SL ((bU d).take k)).length = k:=by rw [cR,List.length_take]; omega
   simp only [hk,xK k1,tA,getElem?_cons_zero,Option.getD_some,aP,aQ,true_and,and_true,le_refl,aJ (show k < 2 ^ 62 by omega),sn,hlen]
   refine ifD (fun _=>?_) (fun h'=>by omega)
   and_intros
   all_goals first | exact dE _ | omega | (rw [cR]; omega) | (simp only [cR]; omega) | skip
   exact nx
 refine aV aD mixed _ (aAz d (bI d).length (aB (bI d)) (bC d).length (aB (bC d)) 0 _ _) ?_
 have hk : (0 : Int).toNat = 0:=rfl
 have nx:=key 1 hpos (le_refl _)
 have sn:=aAL (l:=bU d) (by omega) (gi 0 (by omega))
 have w1 : IntKind.i64.wrap (0 + 1) = 1:=by decide
 simp only [hk,xK hpos,tA,getElem?_cons_zero,Option.getD_some,aP,aQ,true_and,and_true,le_refl,w1,sn]
 refine ifD (fun _=>?_) (fun h'=>by omega)
 and_intros
 all_goals first | exact dE _ | omega | (rw [cR]; omega) | (simp only [cR]; omega) | skip
 exact nx
theorem aIy {d : Design6} {Post : Value -> Prop} (f : Few17 d) (h : Post (.agg #[trS (bI d),trS (bC d),trS (bU d),trS (bG d)])) : OkP 180 [aC d] 7 Post (stV [(1,some (pt 0)),(2,some (pt 1)),(3,some (pt 2)),(5,some (vi 0))] [(0,some (.cells (aG d) true)),(1,some (.cells kI true)),(2,some (.cells [trS (bI d),.slice none 0 0,.slice none 0 0,.slice none 0 0] true))] 3):=by
 have hf : d.parts.length <= 1000:=f.p
 have hl : (bC d).length = d.parts.length:=length_map _
 by_cases hz : bC d = []
 ·have hz0 : d.parts.length = 0:=by rw [← hl,hz]; rfl
  refine aV aD mixed _ (aAS d (bI d).length (aB (bI d)) 0 _ _) ?_
  simp only [true_and,and_true,le_refl]
  refine ifD (fun hlt=>by omega) (fun _=>?_)
  have nx:=aIx f h
  rw [show trS (bC d) = tree 1 0 #[] by rw [hz]; rfl] at nx
  refine nO (bb:=2) (j:=1) (t:=72) (ob:=True) (by kernel_rfl) rfl (by kernel_rfl) trivial (.inl rfl) (gM (lt:=nG) (Eq.mpr (aHS d (bI d).length (aB (bI d)) (wT Tryz.prog 180 [aC d] Post) Post) ?_))
  simp only [true_and,and_true]
  exact nx
 have hpos : 0 < d.parts.length:=by rw [← hl]; exact List.length_pos_iff.2 hz
 have gi : ∀ k (hk : k < (bC d).length),(bC d)[k] = (d.parts[k]'(by omega)).id:=fun k hk=>List.getElem_map _
 have key : ∀ k,k <= d.parts.length -> 1 <= k -> OkP 180 [aC d] 7 Post (stV [(1,some (pt 0)),(2,some (pt 1)),(3,some (pt 2)),(5,some (vi ((k : Nat) : Int)))] [(0,some (.cells (aG d) true)),(1,some (.cells kI true)),(2,some (.cells [trS (bI d),.slice (some ⟨3,0,none⟩) k 1,.slice none 0 0,.slice none 0 0] true)),(3,some (.cells (SL ((bC d).take k)) true))] 4):=by
  intro k hkk
  refine sN (n:=d.parts.length) (p:=fun k=>1 <= k -> OkP 180 [aC d] 7 Post (stV [(1,some (pt 0)),(2,some (pt 1)),(3,some (pt 2)),(5,some (vi ((k : Nat) : Int)))] [(0,some (.cells (aG d) true)),(1,some (.cells kI true)),(2,some (.cells [trS (bI d),.slice (some ⟨3,0,none⟩) k 1,.slice none 0 0,.slice none 0 0] true)),(3,some (.cells (SL ((bC d).take k)) true))] 4)) (fun hq1=>?_) (fun k k1 ih hq1=>?_) k hkk
  ·refine aV aD mixed _ (aAH d (bI d).length (aB (bI d)) d.parts.length _ _ _ _) ?_
   have tk : (bC d).take d.parts.length = bC d:=by rw [← hl,List.take_length]
   rw [tk]
   simp only [true_and,and_true,le_refl]
   refine ifD (fun hlt=>by omega) (fun _=>⟨?_,?_⟩)
   ·first | exact dE _ | (and_intros; all_goals first | exact dE _ | (rw [cR]; omega))
   ·have nx:=aIx f h
    refine nO (bb:=2) (j:=1) (t:=72) (hp1:=Tr.put _ 3 none) (ob:=0 + d.parts.length * 1 <= (SL (bC d)).length /\ NLs (List.drop 0 (SL (bC d)))) (by kernel_rfl) rfl (by kernel_rfl) ⟨by rw [cR]; omega,dE _⟩ (.inr ⟨3,by decide,rfl⟩) (gM (lt:=nG) (Eq.mpr (aHH d (bI d).length (aB (bI d)) d.parts.length (SL (bC d)) (wT Tryz.prog 180 [aC d] Post) Post) ?_))
    simp only [true_and,and_true,xC (bC d) hl.symm]
    exact nx
  ·refine aV aD mixed _ (aAH d (bI d).length (aB (bI d)) k _ _ _ _) ?_
   have hk : ((k : Nat) : Int).toNat = k:=toNat_natCast k
   have nx:=ih (by omega)
   have sn:=rX (l:=bC d) (k:=k) (by omega) (gi k (by omega))
   have hlen : (SL ((bC d).take k)).length = k:=by rw [cR,List.length_take]; omega
   simp only [hk,gT k1,fP,getElem?_cons_zero,Option.getD_some,aP,aQ,true_and,and_true,le_refl,aJ (show k < 2 ^ 62 by omega),sn,hlen]
   refine ifD (fun _=>?_) (fun h'=>by omega)
   and_intros
   all_goals first | exact dE _ | omega | (rw [cR]; omega) | (simp only [cR]; omega) | skip
   exact nx
 refine aV aD mixed _ (aAS d (bI d).length (aB (bI d)) 0 _ _) ?_
 have hk : (0 : Int).toNat = 0:=rfl
 have nx:=key 1 hpos (le_refl _)
 have sn:=aAL (l:=bC d) (by omega) (gi 0 (by omega))
 have w1 : IntKind.i64.wrap (0 + 1) = 1:=by decide
 simp only [hk,gT hpos,fP,getElem?_cons_zero,Option.getD_some,aP,aQ,true_and,and_true,le_refl,w1,sn]
 refine ifD (fun _=>?_) (fun h'=>by omega)
 and_intros
 all_goals first | exact dE _ | omega | (rw [cR]; omega) | (simp only [cR]; omega) | skip
 exact nx
theorem aPE {d : Design6} {Post : Value -> Prop} (f : Few17 d) (h : Post (.agg #[trS (bI d),trS (bC d),trS (bU d),trS (bG d)])) : OkP 180 [aC d] 3 Post (stV [(1,some (pt 0)),(2,some (pt 1)),(3,some (pt 2)),(4,some (vi 0))] [(0,some (.cells (aG d) true)),(1,some (.cells kI true)),(2,some (.cells [.slice none 0 0,.slice none 0 0,.slice none 0 0,.slice none 0 0] true))] 3):=by
 have hf : d.nodes.length <= 1000:=f.n
 have hl : (bI d).length = d.nodes.length:=length_map _
 by_cases hz : bI d = []
 ·have hz0 : d.nodes.length = 0:=by rw [← hl,hz]; rfl
  refine aV aD mixed _ (aA2 d  0 _ _) ?_
  simp only [true_and,and_true,le_refl]
  refine ifD (fun hlt=>by omega) (fun _=>?_)
  have nx:=aIy f h
  rw [show trS (bI d) = tree 1 0 #[] by rw [hz]; rfl] at nx
  refine nO (bb:=2) (j:=0) (t:=72) (ob:=True) (by kernel_rfl) rfl (by kernel_rfl) trivial (.inl rfl) (gM (lt:=nG) (Eq.mpr (aHd d  (wT Tryz.prog 180 [aC d] Post) Post) ?_))
  simp only [true_and,and_true]
  exact nx
 have hpos : 0 < d.nodes.length:=by rw [← hl]; exact List.length_pos_iff.2 hz
 have gi : ∀ k (hk : k < (bI d).length),(bI d)[k] = (d.nodes[k]'(by omega)).id:=fun k hk=>List.getElem_map _
 have key : ∀ k,k <= d.nodes.length -> 1 <= k -> OkP 180 [aC d] 3 Post (stV [(1,some (pt 0)),(2,some (pt 1)),(3,some (pt 2)),(4,some (vi ((k : Nat) : Int)))] [(0,some (.cells (aG d) true)),(1,some (.cells kI true)),(2,some (.cells [.slice (some ⟨3,0,none⟩) k 1,.slice none 0 0,.slice none 0 0,.slice none 0 0] true)),(3,some (.cells (SL ((bI d).take k)) true))] 4):=by
  intro k hkk
  refine sN (n:=d.nodes.length) (p:=fun k=>1 <= k -> OkP 180 [aC d] 3 Post (stV [(1,some (pt 0)),(2,some (pt 1)),(3,some (pt 2)),(4,some (vi ((k : Nat) : Int)))] [(0,some (.cells (aG d) true)),(1,some (.cells kI true)),(2,some (.cells [.slice (some ⟨3,0,none⟩) k 1,.slice none 0 0,.slice none 0 0,.slice none 0 0] true)),(3,some (.cells (SL ((bI d).take k)) true))] 4)) (fun hq1=>?_) (fun k k1 ih hq1=>?_) k hkk
  ·refine aV aD mixed _ (aBb d  d.nodes.length _ _ _ _) ?_
   have tk : (bI d).take d.nodes.length = bI d:=by rw [← hl,List.take_length]
   rw [tk]
   simp only [true_and,and_true,le_refl]
   refine ifD (fun hlt=>by omega) (fun _=>⟨?_,?_⟩)
   ·first | exact dE _ | (and_intros; all_goals first | exact dE _ | (rw [cR]; omega))
   ·have nx:=aIy f h
    refine nO (bb:=2) (j:=0) (t:=72) (hp1:=Tr.put _ 3 none) (ob:=0 + d.nodes.length * 1 <= (SL (bI d)).length /\ NLs (List.drop 0 (SL (bI d)))) (by kernel_rfl) rfl (by kernel_rfl) ⟨by rw [cR]; omega,dE _⟩ (.inr ⟨3,by decide,rfl⟩) (gM (lt:=nG) (Eq.mpr (aHl d  d.nodes.length (SL (bI d)) (wT Tryz.prog 180 [aC d] Post) Post) ?_))
    simp only [true_and,and_true,xC (bI d) hl.symm]
    exact nx
  ·refine aV aD mixed _ (aBb d  k _ _ _ _) ?_
   have hk : ((k : Nat) : Int).toNat = k:=toNat_natCast k
   have nx:=ih (by omega)
   have sn:=rX (l:=bI d) (k:=k) (by omega) (gi k (by omega))
   have hlen : (SL ((bI d).take k)).length = k:=by rw [cR,List.length_take]; omega
   simp only [hk,lS k1,nE,getElem?_cons_zero,Option.getD_some,aP,aQ,true_and,and_true,le_refl,aJ (show k < 2 ^ 62 by omega),sn,hlen]
   refine ifD (fun _=>?_) (fun h'=>by omega)
   and_intros
   all_goals first | exact dE _ | omega | (rw [cR]; omega) | (simp only [cR]; omega) | skip
   exact nx
 refine aV aD mixed _ (aA2 d  0 _ _) ?_
 have hk : (0 : Int).toNat = 0:=rfl
 have nx:=key 1 hpos (le_refl _)
 have sn:=aAL (l:=bI d) (by omega) (gi 0 (by omega))
 have w1 : IntKind.i64.wrap (0 + 1) = 1:=by decide
 simp only [hk,lS hpos,nE,getElem?_cons_zero,Option.getD_some,aP,aQ,true_and,and_true,le_refl,w1,sn]
 refine ifD (fun _=>?_) (fun h'=>by omega)
 and_intros
 all_goals first | exact dE _ | omega | (rw [cR]; omega) | (simp only [cR]; omega) | skip
 exact nx
theorem aFM : aZ Tryz.prog ⟨180,aD0⟩:=by
 rintro args Post ⟨d,rfl,f,h⟩
 refine aN aD mixed (by kernel_rfl) (by kernel_rfl) _ (aP7 d _ _) ?_
 simp only [true_and]
 exact aPE f h
def jP (l : List ByteArray) : Prop:=∀ (i j : Nat) (hi : i < l.length) (hj : j < l.length),j < i -> ¬ l[j] = l[i]
def aMK (args : List Value) (Post : Value -> Prop) : Prop:=∃ l : List ByteArray,args = [trS l] /\ aH l /\ ∀ b : Bool,(b = true -> jP l) -> Post (.bool b)
def aEW (args : List Value) (Post : Value -> Prop) : Prop:=∃ d : Design6,args = [aC d] /\ Few17 d /\ ∀ e : Int,(e = 0 -> jP (bC d)) -> Post (.int .i64 e)
def aDB : bH:=cT Tryz.prog [182] (aU [⟨127,pF⟩,⟨180,aD0⟩,⟨181,aMK⟩,⟨183,aId⟩] aI) 2
abbrev aEp : List (Nat × List Nat):=[(12,[1,3,5]),(23,[3,6,7,8])]
theorem aLC (d : Design6) (n0 n1 n2 n3 : Nat) (A0 A1 A2 A3 : Array Value) (H : HT) (Post : PV) : vcP Tryz.prog aDB 111 aEp [aC d] H Post = (let q1:=wrap i64 (0 + 1) + 1; let q9:=wrap i64 q1 + 1; let q8:=True /\ Post (vi 4); let q7:=length d.needs; let q6:=length d.packs; let q5:=length d.seams; let q4:=length d.parts; let q3:=length d.nodes; let q2:=T2 (True /\ Post (vi 11)); T4 (pIf (decide (iR d.hull)) (T4 (True /\ pIf (decide ((↑q3 : Int) > 64)) (T8 (T2 (Post (vi 4)))) (T4 (True /\ pIf (decide ((↑q4 : Int) > 256)) (T8 q8) (T4 (T2 (pIf (decide ((↑q5 : Int) > 256)) (T4 (T2 q8)) (T4 (T2 (pIf (decide ((↑q6 : Int) > 64)) (T4 q8) (T4 (T2 (pIf (decide ((↑q7 : Int) > 256)) (T2 q8) (T2 (∃ (d_1 : Design6),eqL [Value.agg #[vs d.hull,tree 3 q3 (aB d.nodes),tree 18 q4 (aB d.parts),tree 6 q5 (aB d.seams),tree 5 q6 (aB d.packs),tree 3 q7 (aB d.needs)]] [aC d_1] /\ Few17 d_1 /\ True /\ 4 <= 4 /\ T4 ((toI (vi 0) <= 0 /\ toI (vi 0) < (↑4 : Int)) /\ True /\ ∃ (l : List ByteArray),eqL [tree 1 (length (bI d_1)) (aB (bI d_1))] [tree 1 l.length (aB l)] /\ aH l /\ ∀ (b : Bool),(b = true -> ∀ (i j : Nat) (hi : i < length l) (hj : j < length l),j < i -> l[j] = l[i] -> False) -> pIf b (T4 (T2 (True /\ (toI (vi 0) <= wrap i64 (0 + 1) /\ toI (vi (wrap i64 (0 + 1))) < (↑4 : Int)) /\ True /\ ∃ (l : List ByteArray),eqL [tree 1 (length (bC d_1)) (aB (bC d_1))] [tree 1 l.length (aB l)] /\ aH l /\ ∀ (b : Bool),(b = true -> ∀ (i j : Nat) (hi : i < length l) (hj : j < length l),j < i -> l[j] = l[i] -> False) -> pIf b (T4 (T2 (True /\ (toI (vi 0) <= wrap i64 q1 /\ toI (vi (wrap i64 q1)) < (↑4 : Int)) /\ True /\ ∃ (l : List ByteArray),eqL [tree 1 (length (bU d_1)) (aB (bU d_1))] [tree 1 l.length (aB l)] /\ aH l /\ ∀ (b : Bool),(b = true -> ∀ (i j : Nat) (hi : i < length l) (hj : j < length l),j < i -> l[j] = l[i] -> False) -> pIf b (T4 (T2 (True /\ (toI (vi 0) <= wrap i64 q9 /\ toI (vi (wrap i64 q9)) < (↑4 : Int)) /\ True /\ ∃ (l : List ByteArray),eqL [tree 1 (length (bG d_1)) (aB (bG d_1))] [tree 1 l.length (aB l)] /\ aH l /\ ∀ (b : Bool),(b = true -> ∀ (i j : Nat) (hi : i < length l) (hj : j < length l),j < i -> l[j] = l[i] -> False) -> pIf b (T8 ((T2 (True)) /\ HP H 111 12 (stV [(1,some (pt 0)),(3,some (pt 1)),(5,some (vi 1))] [(0,some (AObj.cells [vs d.hull,tree 3 q3 (aB d.nodes),tree 18 q4 (aB d.parts),tree 6 q5 (aB d.seams),tree 5 q6 (aB d.packs),tree 3 q7 (aB d.needs)] true)),(1,some (AObj.cells [tree 1 (length (bI d_1)) (aB (bI d_1)),tree 1 (length (bC d_1)) (aB (bC d_1)),tree 1 (length (bU d_1)) (aB (bU d_1)),tree 1 (length (bG d_1)) (aB (bG d_1))] true))] 2))) q2))) q2))) q2))) q2)))))))))))))))) (T2 (True /\ Post (vi 6))))):=by kernel_rfl
abbrev mQ (n0 n1 n2 n3 : Nat) (A0 A1 A2 A3 : Array Value) : List Value:=[tree 1 n0 A0,tree 1 n1 A1,tree 1 n2 A2,tree 1 n3 A3]
theorem aBu (d : Design6) (n0 n1 n2 n3 : Nat) (A0 A1 A2 A3 : Array Value) (k : Int) (H : HT) (Post : PV) : bX Tryz.prog aDB 111 [aC d] aEp 12 (stV [(1,some (pt 0)),(3,some (pt 1)),(5,some (vi k))] [(0,some (.cells (aG d) true)),(1,some (.cells (mQ n0 n1 n2 n3 A0 A1 A2 A3) true))] 2) H Post = (let q2:=aB d.needs; let q9:=toS (aA q2 k.toNat 2); let q8:=T4 (True /\ Post (vi 11)); let q7:=aA q2 k.toNat 1; let q6:=aA q2 k.toNat 0; let q5:=AObj.cells [tree 1 n0 A0,tree 1 n1 A1,tree 1 n2 A2,tree 1 n3 A3] true; let q4:=length d.needs; let q3:=Int.toNat (wrap i64 (k - 1)); let q1:=T4 (T2 (True /\ (T2 (True)) /\ HP H 111 12 (stV [(1,some (pt 0)),(3,some (pt 1)),(5,some (vi (wrap i64 (k + 1))))] [(0,some (AObj.cells [vs d.hull,tree 3 d.nodes.length (aB d.nodes),tree 18 d.parts.length (aB d.parts),tree 6 d.seams.length (aB d.seams),tree 5 d.packs.length (aB d.packs),tree 3 q4 q2] true)),(1,some q5)] 2))); T4 (True /\ pIf (decide (k < (↑q4 : Int))) (T4 ((0 <= wrap i64 (k - 1) /\ wrap i64 (k - 1) < (↑q4 : Int)) /\ (aA q2 q3 0 = vi (toI (aA q2 q3 0)) /\ aA q2 q3 1 = vs (toS (aA q2 q3 1)) /\ aA q2 q3 2 = vs (toS (aA q2 q3 2)) /\ True) /\ T2 (True /\ (0 <= k /\ k < (↑q4 : Int)) /\ (aA q2 k.toNat 0 = vi (toI q6) /\ aA q2 k.toNat 1 = vs (toS q7) /\ aA q2 k.toNat 2 = vs q9 /\ True) /\ T8 (pIf (!decide (toI (aA q2 q3 0) = toI q6)) (T4 (True /\ pIf (decide (toI (aA q2 q3 0) < toI q6)) q1 q8)) (T4 (True /\ pIf (!decide (toS (aA q2 q3 1) = toS q7)) (T4 (True /\ pIf (Op.bytesLess (ByteArray.toList (toS (aA q2 q3 1))) (ByteArray.toList (toS q7))) q1 q8)) (T4 (True /\ pIf (Op.bytesLess (ByteArray.toList (toS (aA q2 q3 2))) (ByteArray.toList q9)) q1 q8)))))))) (T16 (T2 ((True /\ True) /\ HP H 111 23 (stV [(3,some (pt 0)),(6,some (vi (wrap i64 (0 + 1)))),(7,some (vi 0)),(8,some (vi 0))] [(0,some q5)] 1)))))):=by kernel_rfl
theorem xT (d : Design6) (n0 n1 n2 n3 : Nat) (A0 A1 A2 A3 : Array Value) (n : Int) (H : HT) (Post : PV) : bX Tryz.prog aDB 111 [aC d] aEp 23 (stV [(3,some (pt 0)),(6,some (vi 1)),(7,some (vi 0)),(8,some (vi n))] [(0,some (.cells (mQ n0 n1 n2 n3 A0 A1 A2 A3) true))] 1) H Post = (let q3:=toS (aA A1 n.toNat 0); let q2:=(toI (vi 0) <= 1 /\ toI (vi 1) < (↑4 : Int)); let q1:=[(0,some (AObj.cells [tree 1 n0 A0,tree 1 n1 A1,tree 1 n2 A2,tree 1 n3 A3] true))]; T2 (q2 /\ T2 (True /\ pIf (decide (n < (↑n1 : Int))) (True /\ (toI (vi 0) <= 0 /\ toI (vi 0) < (↑4 : Int)) /\ T2 (q2 /\ T2 ((0 <= n /\ n < (↑n1 : Int)) /\ aA A1 n.toNat 0 = vs q3 /\ ∃ (l : List ByteArray),∃ (s : ByteArray),eqL [tree 1 n0 A0,vs q3] [tree 1 l.length (aB l),vs s] /\ aH l /\ pIf (oG l s) (T2 (True /\ Post (vi 7))) (T4 (True /\ (True /\ True) /\ HP H 111 23 (stV [(3,some (pt 0)),(6,some (vi 1)),(7,some (vi 0)),(8,some (vi (wrap i64 (n + 1))))] q1 1)))))) (T16 (True /\ (True /\ True) /\ HP H 111 23 (stV [(3,some (pt 0)),(6,some (vi (wrap i64 (1 + 1)))),(7,some (vi 0)),(8,some (vi 0))] q1 1)))))):=by kernel_rfl
theorem yL (d : Design6) (n0 n1 n2 n3 : Nat) (A0 A1 A2 A3 : Array Value) (n : Int) (H : HT) (Post : PV) : bX Tryz.prog aDB 111 [aC d] aEp 23 (stV [(3,some (pt 0)),(6,some (vi 2)),(7,some (vi 0)),(8,some (vi n))] [(0,some (.cells (mQ n0 n1 n2 n3 A0 A1 A2 A3) true))] 1) H Post = (let q3:=toS (aA A2 n.toNat 0); let q2:=(toI (vi 0) <= 2 /\ toI (vi 2) < (↑4 : Int)); let q1:=[(0,some (AObj.cells [tree 1 n0 A0,tree 1 n1 A1,tree 1 n2 A2,tree 1 n3 A3] true))]; T2 (q2 /\ T2 (True /\ pIf (decide (n < (↑n2 : Int))) (True /\ (toI (vi 0) <= 0 /\ toI (vi 0) < (↑4 : Int)) /\ T2 (q2 /\ T2 ((0 <= n /\ n < (↑n2 : Int)) /\ aA A2 n.toNat 0 = vs q3 /\ ∃ (l : List ByteArray),∃ (s : ByteArray),eqL [tree 1 n0 A0,vs q3] [tree 1 l.length (aB l),vs s] /\ aH l /\ pIf (oG l s) (T2 (True /\ Post (vi 7))) (T4 (True /\ (True /\ True) /\ HP H 111 23 (stV [(3,some (pt 0)),(6,some (vi 2)),(7,some (vi 0)),(8,some (vi (wrap i64 (n + 1))))] q1 1)))))) (T8 ((True /\ True) /\ HP H 111 23 (stV [(3,some (pt 0)),(6,some (vi 2)),(7,some (vi (wrap i64 (0 + 1)))),(8,some (vi 0))] q1 1)))))):=by kernel_rfl
theorem yC (d : Design6) (n0 n1 n2 n3 : Nat) (A0 A1 A2 A3 : Array Value) (n : Int) (H : HT) (Post : PV) : bX Tryz.prog aDB 111 [aC d] aEp 23 (stV [(3,some (pt 0)),(6,some (vi 2)),(7,some (vi 1)),(8,some (vi n))] [(0,some (.cells (mQ n0 n1 n2 n3 A0 A1 A2 A3) true))] 1) H Post = (let q3:=toS (aA A2 n.toNat 0); let q2:=(toI (vi 0) <= 2 /\ toI (vi 2) < (↑4 : Int)); let q1:=[(0,some (AObj.cells [tree 1 n0 A0,tree 1 n1 A1,tree 1 n2 A2,tree 1 n3 A3] true))]; T2 (q2 /\ T2 (True /\ pIf (decide (n < (↑n2 : Int))) (True /\ (toI (vi 0) <= 1 /\ toI (vi 1) < (↑4 : Int)) /\ T2 (q2 /\ T2 ((0 <= n /\ n < (↑n2 : Int)) /\ aA A2 n.toNat 0 = vs q3 /\ ∃ (l : List ByteArray),∃ (s : ByteArray),eqL [tree 1 n1 A1,vs q3] [tree 1 l.length (aB l),vs s] /\ aH l /\ pIf (oG l s) (T2 (True /\ Post (vi 7))) (T4 (True /\ (True /\ True) /\ HP H 111 23 (stV [(3,some (pt 0)),(6,some (vi 2)),(7,some (vi 1)),(8,some (vi (wrap i64 (n + 1))))] q1 1)))))) (T16 (True /\ (True /\ True) /\ HP H 111 23 (stV [(3,some (pt 0)),(6,some (vi (wrap i64 (2 + 1)))),(7,some (vi 0)),(8,some (vi 0))] q1 1)))))):=by kernel_rfl
theorem yF (d : Design6) (n0 n1 n2 n3 : Nat) (A0 A1 A2 A3 : Array Value) (n : Int) (H : HT) (Post : PV) : bX Tryz.prog aDB 111 [aC d] aEp 23 (stV [(3,some (pt 0)),(6,some (vi 3)),(7,some (vi 0)),(8,some (vi n))] [(0,some (.cells (mQ n0 n1 n2 n3 A0 A1 A2 A3) true))] 1) H Post = (let q3:=toS (aA A3 n.toNat 0); let q2:=(toI (vi 0) <= 3 /\ toI (vi 3) < (↑4 : Int)); let q1:=[(0,some (AObj.cells [tree 1 n0 A0,tree 1 n1 A1,tree 1 n2 A2,tree 1 n3 A3] true))]; T2 (q2 /\ T2 (True /\ pIf (decide (n < (↑n3 : Int))) (True /\ (toI (vi 0) <= 0 /\ toI (vi 0) < (↑4 : Int)) /\ T2 (q2 /\ T2 ((0 <= n /\ n < (↑n3 : Int)) /\ aA A3 n.toNat 0 = vs q3 /\ ∃ (l : List ByteArray),∃ (s : ByteArray),eqL [tree 1 n0 A0,vs q3] [tree 1 l.length (aB l),vs s] /\ aH l /\ pIf (oG l s) (T2 (True /\ Post (vi 7))) (T4 (True /\ (True /\ True) /\ HP H 111 23 (stV [(3,some (pt 0)),(6,some (vi 3)),(7,some (vi 0)),(8,some (vi (wrap i64 (n + 1))))] q1 1)))))) (T8 ((True /\ True) /\ HP H 111 23 (stV [(3,some (pt 0)),(6,some (vi 3)),(7,some (vi (wrap i64 (0 + 1)))),(8,some (vi 0))] q1 1)))))):=by kernel_rfl
theorem xS (d : Design6) (n0 n1 n2 n3 : Nat) (A0 A1 A2 A3 : Array Value) (n : Int) (H : HT) (Post : PV) : bX Tryz.prog aDB 111 [aC d] aEp 23 (stV [(3,some (pt 0)),(6,some (vi 3)),(7,some (vi 1)),(8,some (vi n))] [(0,some (.cells (mQ n0 n1 n2 n3 A0 A1 A2 A3) true))] 1) H Post = (let q3:=toS (aA A3 n.toNat 0); let q2:=(toI (vi 0) <= 3 /\ toI (vi 3) < (↑4 : Int)); let q1:=[(0,some (AObj.cells [tree 1 n0 A0,tree 1 n1 A1,tree 1 n2 A2,tree 1 n3 A3] true))]; T2 (q2 /\ T2 (True /\ pIf (decide (n < (↑n3 : Int))) (True /\ (toI (vi 0) <= 1 /\ toI (vi 1) < (↑4 : Int)) /\ T2 (q2 /\ T2 ((0 <= n /\ n < (↑n3 : Int)) /\ aA A3 n.toNat 0 = vs q3 /\ ∃ (l : List ByteArray),∃ (s : ByteArray),eqL [tree 1 n1 A1,vs q3] [tree 1 l.length (aB l),vs s] /\ aH l /\ pIf (oG l s) (T2 (True /\ Post (vi 7))) (T4 (True /\ (True /\ True) /\ HP H 111 23 (stV [(3,some (pt 0)),(6,some (vi 3)),(7,some (vi 1)),(8,some (vi (wrap i64 (n + 1))))] q1 1)))))) (T8 ((True /\ True) /\ HP H 111 23 (stV [(3,some (pt 0)),(6,some (vi 3)),(7,some (vi (wrap i64 (1 + 1)))),(8,some (vi 0))] q1 1)))))):=by kernel_rfl
theorem yM (d : Design6) (n0 n1 n2 n3 : Nat) (A0 A1 A2 A3 : Array Value) (n : Int) (H : HT) (Post : PV) : bX Tryz.prog aDB 111 [aC d] aEp 23 (stV [(3,some (pt 0)),(6,some (vi 3)),(7,some (vi 2)),(8,some (vi n))] [(0,some (.cells (mQ n0 n1 n2 n3 A0 A1 A2 A3) true))] 1) H Post = (let q2:=toS (aA A3 n.toNat 0); let q1:=(toI (vi 0) <= 3 /\ toI (vi 3) < (↑4 : Int)); T2 (q1 /\ T2 (True /\ pIf (decide (n < (↑n3 : Int))) (True /\ (toI (vi 0) <= 2 /\ toI (vi 2) < (↑4 : Int)) /\ T2 (q1 /\ T2 ((0 <= n /\ n < (↑n3 : Int)) /\ aA A3 n.toNat 0 = vs q2 /\ ∃ (l : List ByteArray),∃ (s : ByteArray),eqL [tree 1 n2 A2,vs q2] [tree 1 l.length (aB l),vs s] /\ aH l /\ pIf (oG l s) (T2 (True /\ Post (vi 7))) (T4 (True /\ (True /\ True) /\ HP H 111 23 (stV [(3,some (pt 0)),(6,some (vi 3)),(7,some (vi 2)),(8,some (vi (wrap i64 (n + 1))))] [(0,some (AObj.cells [tree 1 n0 A0,tree 1 n1 A1,tree 1 n2 A2,tree 1 n3 A3] true))] 1)))))) (T8 (T4 (True /\ Post (vi 0))))))):=by kernel_rfl
structure Txt17 (d : Design6) : Prop where
 n : ∀ x ∈ d.nodes,x.id.size < 16777000
 s : ∀ x ∈ d.seams,x.id.size < 16777000 /\ x.a.size < 16777000 /\ x.b.size < 16777000
 k : ∀ x ∈ d.packs,x.id.size < 16777000
def aCI (args : List Value) (Post : Value -> Prop) : Prop:=∃ d : Design6,args = [aC d] /\ Few17 d /\ Txt17 d /\ FitD d /\ ∀ e : Int,Post (.int .i64 e)
def aLz : bH:=aU [⟨184,wC⟩,⟨54,aMP⟩,⟨185,aOt⟩,⟨186,aLl⟩] aI
abbrev aQ9 : List (Nat × List Nat):=[(2,[1,3]),(15,[1,7]),(21,[1,10])]
theorem aJN (d : Design6) (H : HT) (Post : PV) : vcP Tryz.prog aLz 112 aQ9 [aC d] H Post = (T4 ((True /\ True) /\ HP H 112 2 (stV [(1,some (pt 0)),(3,some (vi 0))] [(0,some (AObj.cells (aG d) true))] 1))):=by kernel_rfl
theorem aCR (d : Design6) (k : Int) (H : HT) (Post : PV) : bX Tryz.prog aLz 112 [aC d] aQ9 2 (stV [(1,some (pt 0)),(3,some (vi k))] [(0,some (.cells (aG d) true))] 1) H Post = (let q4:=aB d.nodes; let q2:=aA q4 k.toNat 1; let q6:=decide (toI q2 = 2); let q8:=length d.nodes; let q14:=d.parts; let q15:=d.seams; let q16:=d.packs; let q17:=d.needs; let q3:=[(0,some (AObj.cells [vs d.hull,tree 3 q8 q4,tree 18 q14.length (aB q14),tree 6 q15.length (aB q15),tree 5 q16.length (aB q16),tree 3 q17.length (aB q17)] true))]; let q1:=True /\ (True /\ True) /\ HP H 112 2 (stV [(1,some (pt 0)),(3,some (vi (wrap i64 (k + 1))))] q3 1); let q18:=T4 (T2 (pIf q6 (T8 q1) (T4 (T2 q1)))); let q13:=aA q4 k.toNat 2; let q12:=decide (toI q2 = 1); let q11:=T4 (T2 (pIf q6 (T4 (T2 (True /\ Post (vi 8)))) (T4 (T2 q1)))); let q10:=toS (aA q4 k.toNat 0); let q5:=!decide (toS q13 = ByteArray.mk #[]); let q9:=T4 (pIf q5 (T4 (Post (vi 2))) (T4 (True /\ pIf q6 (T8 q1) (T4 (T2 q1))))); let q7:=T4 (pIf q5 (T4 (Post (vi 2))) (T4 (True /\ pIf q6 (T4 (T2 (True /\ Post (vi 8)))) (T4 (T2 q1))))); T4 (True /\ pIf (decide (k < (↑q8 : Int))) (T2 (True /\ (0 <= k /\ k < (↑q8 : Int)) /\ (aA q4 k.toNat 0 = vs q10 /\ aA q4 k.toNat 1 = vi (toI q2) /\ aA q4 k.toNat 2 = vs (toS q13) /\ True) /\ True /\ 3 <= 3 /\ T2 (True /\ ∃ (d_1 : Design6),∃ (s : ByteArray),eqL [Value.agg #[vs d.hull,tree 3 q8 q4,tree 18 q14.length (aB q14),tree 6 q15.length (aB q15),tree 5 q16.length (aB q16),tree 3 q17.length (aB q17)],vs (toS q13)] [aC d_1,vs s] /\ aH d_1.nodes /\ T2 (True /\ pIf (isSome (dP d_1 s)) (True /\ 3 <= 3 /\ T2 (True /\ ∃ (s : ByteArray),eqL [vs q10] [vs s] /\ s.size < 16777000 /\ pIf (decide (nK s)) (T4 (True /\ pIf (!decide (toI q2 = 1)) (T4 (pIf (!decide (toI q2 = 2)) (T4 (Post (vi 10))) (T4 (True /\ pIf q12 q9 q18)))) (T4 (T2 (pIf q12 q9 q18))))) (T4 (Post (vi 6))))) (True /\ 3 <= 3 /\ T2 (True /\ ∃ (s : ByteArray),eqL [vs q10] [vs s] /\ s.size < 16777000 /\ pIf (decide (nK s)) (T4 (True /\ pIf (!decide (toI q2 = 1)) (T4 (pIf (!decide (toI q2 = 2)) (T4 (Post (vi 10))) (T4 (True /\ pIf q12 q7 q11)))) (T4 (T2 (pIf q12 q7 q11))))) (T4 (Post (vi 6))))))))) (T2 ((True /\ True) /\ HP H 112 15 (stV [(1,some (pt 0)),(7,some (vi 0))] q3 1))))):=by kernel_rfl
theorem aBQ (d : Design6) (k : Int) (H : HT) (Post : PV) : bX Tryz.prog aLz 112 [aC d] aQ9 15 (stV [(1,some (pt 0)),(7,some (vi k))] [(0,some (.cells (aG d) true))] 1) H Post = (let q2:=d.nodes; let q8:=toS (aA (aB q2) k.toNat 0); let q7:=length q2; let q6:=d.needs; let q5:=d.packs; let q4:=d.seams; let q3:=d.parts; let q1:=[(0,some (AObj.cells [vs d.hull,tree 3 q7 (aB q2),tree 18 q3.length (aB q3),tree 6 q4.length (aB q4),tree 5 q5.length (aB q5),tree 3 q6.length (aB q6)] true))]; T4 (True /\ pIf (decide (k < (↑q7 : Int))) (T4 ((0 <= k /\ k < (↑q7 : Int)) /\ True /\ aA (aB q2) k.toNat 0 = vs q8 /\ ∃ (d_1 : Design6),∃ (s : ByteArray),eqL [Value.agg #[vs d.hull,tree 3 q7 (aB q2),tree 18 q3.length (aB q3),tree 6 q4.length (aB q4),tree 5 q5.length (aB q5),tree 3 q6.length (aB q6)],vs q8] [aC d_1,vs s] /\ aH d_1.nodes /\ T4 (pIf (isSome (dF d_1 s)) (T8 ((True /\ True) /\ HP H 112 15 (stV [(1,some (pt 0)),(7,some (vi (wrap i64 (k + 1))))] q1 1))) (T4 (T2 (Post (vi 20))))))) (T2 ((True /\ True) /\ HP H 112 21 (stV [(1,some (pt 0)),(10,some (vi 0))] q1 1))))):=by kernel_rfl
theorem aCt (d : Design6) (k : Int) (H : HT) (Post : PV) : bX Tryz.prog aLz 112 [aC d] aQ9 21 (stV [(1,some (pt 0)),(10,some (vi k))] [(0,some (.cells (aG d) true))] 1) H Post = (let q1:=d.nodes; let q7:=toS (aA (aB q1) k.toNat 0); let q6:=length q1; let q5:=d.needs; let q4:=d.packs; let q3:=d.seams; let q2:=d.parts; T4 (True /\ pIf (decide (k < (↑q6 : Int))) (T4 ((0 <= k /\ k < (↑q6 : Int)) /\ True /\ aA (aB q1) k.toNat 0 = vs q7 /\ ∃ (d_1 : Design6),∃ (s : ByteArray),eqL [Value.agg #[vs d.hull,tree 3 q6 (aB q1),tree 18 q2.length (aB q2),tree 6 q3.length (aB q3),tree 5 q4.length (aB q4),tree 3 q5.length (aB q5)],vs q7] [aC d_1,vs s] /\ aH d_1.nodes /\ FitD d_1 /\ T2 (True /\ pIf (decide ((↑(length (aHi d_1 s)) : Int) > 8)) (T2 (Post (vi 13))) (T4 ((True /\ True) /\ HP H 112 21 (stV [(1,some (pt 0)),(10,some (vi (wrap i64 (k + 1))))] [(0,some (AObj.cells [vs d.hull,tree 3 q6 (aB q1),tree 18 q2.length (aB q2),tree 6 q3.length (aB q3),tree 5 q4.length (aB q4),tree 3 q5.length (aB q5)] true))] 1)))))) (T2 (Post (vi 0))))):=by kernel_rfl
structure FitP17 (d : Design6) : Prop where
 f : ∀ p ∈ d.parts,FitR p
def aCP (args : List Value) (Post : Value -> Prop) : Prop:=∃ (d : Design6) (m : Mats),args = [aC d,bD m] /\ Few17 d /\ FitP17 d /\ FewR m /\ ∀ e : Int,(e = 0 -> (∀ p ∈ d.parts,bF p m = 0) /\ (d.parts.map fun p=>bT p m).sum <= 1099511627776) -> Post (.int .i64 e)
def aQ4 : bH:=aU [⟨16,wQ⟩,⟨184,wC⟩,⟨19,aIO⟩] aI
abbrev lpPs : List (Nat × List Nat):=[(2,[2,3,5]),(12,[2,3,9,10])]
theorem aJG (d : Design6) (m : Mats) (H : HT) (Post : PV) : vcP Tryz.prog aQ4 113 lpPs [aC d,bD m] H Post = (T4 (True /\ (T2 (True)) /\ HP H 113 2 (stV [(2,some (pt 0)),(3,some (pt 1)),(5,some (vi 0))] [(0,some (AObj.cells (aG d) true)),(1,some (AObj.cells (dO m) true))] 2))):=by kernel_rfl
theorem aCQ (d : Design6) (m : Mats) (k : Int) (H : HT) (Post : PV) : bX Tryz.prog aQ4 113 [aC d,bD m] lpPs 2 (stV [(2,some (pt 0)),(3,some (pt 1)),(5,some (vi k))] [(0,some (.cells (aG d) true)),(1,some (.cells (dO m) true))] 2) H Post = (let q1:=aB d.parts; let q25:=toI (aA q1 k.toNat 9); let q24:=toS (aA q1 k.toNat 8); let q23:=toI (aA q1 k.toNat 5); let q22:=toS (aA q1 k.toNat 4); let q21:=toI (aA q1 k.toNat 2); let q20:=toI (aA q1 k.toNat 1); let q19:=toS (aA q1 k.toNat 0); let q18:=toI (aA q1 k.toNat 17); let q17:=toI (aA q1 k.toNat 16); let q16:=toI (aA q1 k.toNat 15); let q15:=toI (aA q1 k.toNat 14); let q14:=toI (aA q1 k.toNat 13); let q13:=toI (aA q1 k.toNat 12); let q12:=toI (aA q1 k.toNat 11); let q11:=toI (aA q1 k.toNat 10); let q10:=d.needs; let q9:=d.packs; let q8:=d.seams; let q7:=d.nodes; let q6:=aA q1 k.toNat 7; let q5:=aA q1 k.toNat 6; let q4:=toS (aA q1 k.toNat 3); let q3:=length d.parts; let q2:=[(0,some (AObj.cells [vs d.hull,tree 3 q7.length (aB q7),tree 18 q3 q1,tree 6 q8.length (aB q8),tree 5 q9.length (aB q9),tree 3 q10.length (aB q10)] true)),(1,some (AObj.cells (dO m) true))]; T4 (True /\ pIf (decide (k < (↑q3 : Int))) (T2 (True /\ (0 <= k /\ k < (↑q3 : Int)) /\ (aA q1 k.toNat 0 = vs q19 /\ aA q1 k.toNat 1 = vi q20 /\ aA q1 k.toNat 2 = vi q21 /\ aA q1 k.toNat 3 = vs q4 /\ aA q1 k.toNat 4 = vs q22 /\ aA q1 k.toNat 5 = vi q23 /\ aA q1 k.toNat 6 = tree 2 (toN q5) (toE q5) /\ aA q1 k.toNat 7 = tree 1 (toN q6) (toE q6) /\ aA q1 k.toNat 8 = vs q24 /\ aA q1 k.toNat 9 = vi q25 /\ aA q1 k.toNat 10 = vi q11 /\ aA q1 k.toNat 11 = vi q12 /\ aA q1 k.toNat 12 = vi q13 /\ aA q1 k.toNat 13 = vi q14 /\ aA q1 k.toNat 14 = vi q15 /\ aA q1 k.toNat 15 = vi q16 /\ aA q1 k.toNat 16 = vi q17 /\ aA q1 k.toNat 17 = vi q18 /\ True) /\ True /\ ∃ (p : Part),∃ (m_1 : Mats),eqL [Value.agg #[vs q19,vi q20,vi q21,vs q4,vs q22,vi q23,tree 2 (toN q5) (toE q5),tree 1 (toN q6) (toE q6),vs q24,vi q25,vi q11,vi q12,vi q13,vi q14,vi q15,vi q16,vi q17,vi q18],bD m] [dX p,bD m_1] /\ FitR p /\ FewR m_1 /\ T4 (pIf (!decide (bF p m_1 = 0)) (T2 (True /\ Post (vi (bF p m_1)))) (T4 ((0 <= k /\ k < (↑q3 : Int)) /\ True /\ aA q1 k.toNat 3 = vs q4 /\ True /\ ∃ (d_1 : Design6),∃ (s : ByteArray),eqL [Value.agg #[vs d.hull,tree 3 q7.length (aB q7),tree 18 q3 q1,tree 6 q8.length (aB q8),tree 5 q9.length (aB q9),tree 3 q10.length (aB q10)],vs q4] [aC d_1,vs s] /\ aH d_1.nodes /\ T4 (pIf (isSome (dP d_1 s)) (3 <= 3 /\ T8 ((T2 (True)) /\ HP H 113 2 (stV [(2,some (pt 0)),(3,some (pt 1)),(5,some (vi (wrap i64 (k + 1))))] q2 2))) (3 <= 3 /\ T4 (T2 (Post (vi 8)))))))))) (T2 (True /\ (T2 (True)) /\ HP H 113 12 (stV [(2,some (pt 0)),(3,some (pt 1)),(9,some (vi 0)),(10,some (vi 0))] q2 2))))):=by kernel_rfl
theorem aBT (d : Design6) (m : Mats) (s k : Int) (H : HT) (Post : PV) : bX Tryz.prog aQ4 113 [aC d,bD m] lpPs 12 (stV [(2,some (pt 0)),(3,some (pt 1)),(9,some (vi s)),(10,some (vi k))] [(0,some (.cells (aG d) true)),(1,some (.cells (dO m) true))] 2) H Post = (let q1:=aB d.parts; let q20:=toI (aA q1 k.toNat 9); let q19:=toS (aA q1 k.toNat 8); let q18:=toI (aA q1 k.toNat 5); let q17:=toS (aA q1 k.toNat 4); let q16:=toS (aA q1 k.toNat 3); let q15:=toI (aA q1 k.toNat 2); let q14:=toI (aA q1 k.toNat 1); let q13:=toS (aA q1 k.toNat 0); let q12:=toI (aA q1 k.toNat 17); let q11:=toI (aA q1 k.toNat 16); let q10:=toI (aA q1 k.toNat 15); let q9:=toI (aA q1 k.toNat 14); let q8:=toI (aA q1 k.toNat 13); let q7:=toI (aA q1 k.toNat 12); let q6:=toI (aA q1 k.toNat 11); let q5:=toI (aA q1 k.toNat 10); let q4:=length d.parts; let q3:=aA q1 k.toNat 7; let q2:=aA q1 k.toNat 6; T4 (True /\ pIf (decide (k < (↑q4 : Int))) (T2 (True /\ (0 <= k /\ k < (↑q4 : Int)) /\ (aA q1 k.toNat 0 = vs q13 /\ aA q1 k.toNat 1 = vi q14 /\ aA q1 k.toNat 2 = vi q15 /\ aA q1 k.toNat 3 = vs q16 /\ aA q1 k.toNat 4 = vs q17 /\ aA q1 k.toNat 5 = vi q18 /\ aA q1 k.toNat 6 = tree 2 (toN q2) (toE q2) /\ aA q1 k.toNat 7 = tree 1 (toN q3) (toE q3) /\ aA q1 k.toNat 8 = vs q19 /\ aA q1 k.toNat 9 = vi q20 /\ aA q1 k.toNat 10 = vi q5 /\ aA q1 k.toNat 11 = vi q6 /\ aA q1 k.toNat 12 = vi q7 /\ aA q1 k.toNat 13 = vi q8 /\ aA q1 k.toNat 14 = vi q9 /\ aA q1 k.toNat 15 = vi q10 /\ aA q1 k.toNat 16 = vi q11 /\ aA q1 k.toNat 17 = vi q12 /\ True) /\ True /\ ∃ (p : Part),∃ (m_1 : Mats),eqL [Value.agg #[vs q13,vi q14,vi q15,vs q16,vs q17,vi q18,tree 2 (toN q2) (toE q2),tree 1 (toN q3) (toE q3),vs q19,vi q20,vi q5,vi q6,vi q7,vi q8,vi q9,vi q10,vi q11,vi q12],bD m] [dX p,bD m_1] /\ FitR p /\ FewR m_1 /\ T8 (T4 (T2 ((T2 (True)) /\ HP H 113 12 (stV [(2,some (pt 0)),(3,some (pt 1)),(9,some (vi (wrap i64 (s + bT p m_1)))),(10,some (vi (wrap i64 (k + 1))))] [(0,some (AObj.cells [vs d.hull,tree 3 d.nodes.length (aB d.nodes),tree 18 q4 q1,tree 6 d.seams.length (aB d.seams),tree 5 d.packs.length (aB d.packs),tree 3 d.needs.length (aB d.needs)] true)),(1,some (AObj.cells (dO m) true))] 2)))))) (T2 (pIf (decide (s > 1099511627776)) (T2 (Post (vi 13))) (T2 (Post (vi 0))))))):=by kernel_rfl
def aNq (args : List Value) (Post : Value -> Prop) : Prop:=∃ x : Seam6,args = [aGz x] /\ x.id.size < 16777000 /\ x.a.size < 16777000 /\ x.b.size < 16777000 /\ ∀ e : Int,Post (.int .i64 e)
def vcSm : bH:=aU [⟨54,aMP⟩] aI
theorem aR5 (x : Seam6) (H : HT) (Post : PV) : vcP Tryz.prog vcSm 187 [] [aGz x] H Post = (let q1:=T4 (pIf (decide (x.long > 32768)) (T8 (Post (vi 9))) (T4 (True /\ pIf (decide (x.cls < 1)) (T4 (T2 (Post (vi 9)))) (T4 (True /\ pIf (decide (x.cls > 3)) (T4 (Post (vi 9))) (T4 (Post (vi 0)))))))); T4 (∃ (s : ByteArray),eqL [vs x.id] [vs s] /\ s.size < 16777000 /\ pIf (decide (nK s)) (T4 (∃ (s : ByteArray),eqL [vs x.a] [vs s] /\ s.size < 16777000 /\ pIf (decide (nK s)) (T4 (True /\ ∃ (s : ByteArray),eqL [vs x.b] [vs s] /\ s.size < 16777000 /\ pIf (decide (nK s)) (T8 (pIf (decide (x.a = x.b)) (T2 (True /\ Post (vi 2))) (T4 (pIf (!decide (x.kind = 1)) (T4 (pIf (!decide (x.kind = 2)) (T4 (Post (vi 10))) (T4 (True /\ pIf (decide (x.long < 1)) (T8 (True /\ Post (vi 9))) q1)))) (T4 (T2 (pIf (decide (x.long < 1)) (T8 (True /\ Post (vi 9))) q1))))))) (T4 (True /\ Post (vi 6))))) (T4 (T2 (True /\ Post (vi 6)))))) (T8 (Post (vi 6))))):=by kernel_rfl
def aCs (args : List Value) (Post : Value -> Prop) : Prop:=∃ d : Design6,args = [aC d] /\ Few17 d /\ Txt17 d /\ FitD d /\ ∀ e : Int,Post (.int .i64 e)
def vcSs : bH:=aU [⟨187,aNq⟩,⟨108,pD⟩] aI
theorem aKf (d : Design6) (H : HT) (Post : PV) : vcP Tryz.prog vcSs 114 [(2,[1,3])] [aC d] H Post = (T4 ((True /\ True) /\ HP H 114 2 (stV [(1,some (pt 0)),(3,some (vi 0))] [(0,some (AObj.cells (aG d) true))] 1))):=by kernel_rfl
theorem aCa (d : Design6) (k : Int) (H : HT) (Post : PV) : bX Tryz.prog vcSs 114 [aC d] [(2,[1,3])] 2 (stV [(1,some (pt 0)),(3,some (vi k))] [(0,some (.cells (aG d) true))] 1) H Post = (let q2:=aB d.seams; let q14:=toI (aA q2 k.toNat 5); let q13:=toI (aA q2 k.toNat 4); let q12:=toI (aA q2 k.toNat 3); let q11:=toS (aA q2 k.toNat 0); let q10:=d.needs; let q9:=d.packs; let q8:=d.parts; let q7:=d.nodes; let q3:=length d.seams; let q6:=(0 <= k /\ k < (↑q3 : Int)); let q5:=toS (aA q2 k.toNat 1); let q4:=toS (aA q2 k.toNat 2); let q1:=#[vs d.hull,tree 3 q7.length (aB q7),tree 18 q8.length (aB q8),tree 6 q3 q2,tree 5 q9.length (aB q9),tree 3 q10.length (aB q10)]; T4 (True /\ pIf (decide (k < (↑q3 : Int))) (T2 (True /\ q6 /\ (aA q2 k.toNat 0 = vs q11 /\ aA q2 k.toNat 1 = vs q5 /\ aA q2 k.toNat 2 = vs q4 /\ aA q2 k.toNat 3 = vi q12 /\ aA q2 k.toNat 4 = vi q13 /\ aA q2 k.toNat 5 = vi q14 /\ True) /\ ∃ (x : Seam6),eqL [Value.agg #[vs q11,vs q5,vs q4,vi q12,vi q13,vi q14]] [aGz x] /\ x.id.size < 16777000 /\ x.a.size < 16777000 /\ x.b.size < 16777000 /\ ∀ (e : Int),T2 (True /\ pIf (!decide (e = 0)) (T2 (True /\ Post (vi e))) (T4 (q6 /\ True /\ aA q2 k.toNat 1 = vs q5 /\ True /\ ∃ (d_1 : Design6),∃ (s : ByteArray),eqL [Value.agg q1,vs q5] [aC d_1,vs s] /\ FitD d_1 /\ T4 (pIf (isSome (cO d_1 s)) (18 <= 18 /\ T4 (T2 (q6 /\ True /\ aA q2 k.toNat 2 = vs q4 /\ True /\ ∃ (d_2 : Design6),∃ (s : ByteArray),eqL [Value.agg q1,vs q4] [aC d_2,vs s] /\ FitD d_2 /\ T4 (pIf (isSome (cO d_2 s)) (18 <= 18 /\ T8 (T4 ((True /\ True) /\ HP H 114 2 (stV [(1,some (pt 0)),(3,some (vi (wrap i64 (k + 1))))] [(0,some (AObj.cells [vs d.hull,tree 3 q7.length (aB q7),tree 18 q8.length (aB q8),tree 6 q3 q2,tree 5 q9.length (aB q9),tree 3 q10.length (aB q10)] true))] 1)))) (18 <= 18 /\ T8 (T2 (Post (vi 8)))))))) (18 <= 18 /\ T4 (T2 (q6 /\ True /\ aA q2 k.toNat 2 = vs q4 /\ True /\ ∃ (d_2 : Design6),∃ (s : ByteArray),eqL [Value.agg q1,vs q4] [aC d_2,vs s] /\ FitD d_2 /\ T4 (pIf (isSome (cO d_2 s)) (18 <= 18 /\ T8 (Post (vi 8))) (18 <= 18 /\ T8 (Post (vi 8))))))))))))) (T2 (Post (vi 0))))):=by kernel_rfl
theorem aLt (l : List ByteArray) {n : Nat} (hn : n = l.length) : tree 1 n (bP 1 n (SL l)) = trS l:=by
 have:=xC l hn
 rwa [List.drop_zero] at this
theorem aM9 (l : List ByteArray) (s : ByteArray) : SL l ++ [.string s] = SL (l ++ [s]):=by
 unfold SL
 rw [List.map_append]
 rfl
theorem tO : aW Tryz.prog aM5:=aM (by
 intro e he
 simp only [mem_cons,not_mem_nil,or_false] at he
 subst he
 exact pY) aD
theorem aDb {d : Design6} : ∀ (r : Nat) (t : ByteArray) (l q : List ByteArray),upF d r t l = some q -> q.length <= l.length + r /\ l.length < q.length
 | 0,_,_,_,h=>by cases h
 | r + 1,t,l,q,h=>by
  rw [upF] at h
  cases hn : dP d t with
  | none=>rw [hn] at h; cases h
  | some n =>
   rw [hn] at h
   dsimp only at h
   by_cases hk : n.kind = 1
   ·rw [if_pos hk] at h
    cases h
    simp
   ·rw [if_neg hk] at h
    have:=aDb r _ _ _ h
    simp at this
    omega
theorem aOc {d : Design6} {s : ByteArray} {Post : Value -> Prop} (hd : aH d.nodes) (h : Post (.tuple #[trS ((dF d s).getD []),.bool (dF d s).isSome])) : ∀ (r k : Nat) (t : ByteArray) (l : List ByteArray),k + r = 65 -> l.length = k -> upF d r t l = dF d s ->
  OkP 185 [aC d,.string s] 3 Post (stV [(1,some (.string t)),(2,some (pt 0)),(6,some (.slice (some ⟨1,0,none⟩) k 1)),(7,some (vi (k : Nat)))] [(0,some (.cells (aG d) true)),(1,some (.cells (SL l) true))] 2)
 | 0,k,t,l,hk,hl,hu=>by
  refine aV tO mixed _ (aL2 d s t k k (SL l) _ _) ?_
  simp only [true_and,and_true,le_refl]
  have e : dF d s = none:=hu.symm
  rw [e] at h
  exact ifD (fun h'=>by omega) (fun _=>h)
 | r + 1,k,t,l,hk,hl,hu=>by
  refine aV tO mixed _ (aL2 d s t k k (SL l) _ _) ?_
  simp only [true_and,and_true,le_refl,aJ (show k < 2 ^ 62 by omega),List.drop_zero,aM9]
  rw [upF] at hu
  refine ifD (fun _=>⟨d,t,rfl,hd,aE (fun hs=>?_) (fun hs=>?_)⟩) (fun h'=>by omega)
  ·obtain ⟨n,hn⟩:=Option.isSome_iff_exists.1 hs
   rw [hn] at hu ⊢
   dsimp only [Option.getD_some] at hu ⊢
   refine ⟨by omega,by rw [cR,hl]; omega,ifD (fun hk1=>?_) (fun hk1=>?_)⟩
   ·rw [if_pos hk1] at hu
    rw [← hu] at h
    refine ⟨⟨by rw [cR,List.length_append,List.length_singleton]; omega,dE _⟩,?_⟩
    rw [aLt (l ++ [t]) (by rw [List.length_append,List.length_singleton]; omega)]
    exact h
   ·rw [if_neg hk1] at hu
    exact ⟨dE _,aOc hd h r (k + 1) n.parent (l ++ [t]) (by omega) (by rw [List.length_append,List.length_singleton]; omega) hu⟩
  ·cases hn : dP d t with
   | some n=>rw [hn] at hs; cases hs
   | none =>
    rw [hn] at hu
    rw [← hu] at h
    exact h
theorem aHE : aZ Tryz.prog ⟨185,aOt⟩:=by
 rintro args Post ⟨d,s,rfl,hd,h⟩
 refine aN tO mixed (by kernel_rfl) (by kernel_rfl) _ (e_rup d s _ _) ?_
 simp only [true_and]
 refine aV tO mixed _ (aRb d s s 0 _ _) ?_
 have hu : upF d 65 s [] = dF d s:=rfl
 rw [upF] at hu
 have w1 : IntKind.i64.wrap (0 + 1) = 1:=by decide
 have e1 : ([.string s] : List Value) = SL [s]:=rfl
 simp only [true_and,and_true,le_refl,w1,e1]
 refine ifD (fun _=>⟨d,s,rfl,hd,aE (fun hs=>?_) (fun hs=>?_)⟩) (fun h'=>absurd (by decide) h')
 ·obtain ⟨n,hn⟩:=Option.isSome_iff_exists.1 hs
  rw [hn] at hu ⊢
  dsimp only [Option.getD_some] at hu ⊢
  refine ⟨by decide,ifD (fun hk1=>?_) (fun hk1=>?_)⟩
  ·rw [if_pos hk1] at hu
   rw [← hu] at h
   exact ⟨dE _,h⟩
  ·rw [if_neg hk1] at hu
   exact ⟨dE _,aOc hd h 64 1 n.parent [s] (by omega) rfl hu⟩
 ·cases hn : dP d s with
  | some n=>rw [hn] at hs; cases hs
  | none =>
   rw [hn] at hu
   rw [← hu] at h
   exact h
theorem aN9 {d : Design6} {s : ByteArray} : ((dF d s).getD []).length <= 65:=by
 cases hu : dF d s with
 | none=>exact Nat.zero_le _
 | some q =>
  have:=aDb 65 s [] q hu
  simp at this
  exact this.1
theorem nP : aW Tryz.prog aDp:=aM (by
 intro e he
 simp only [mem_cons,not_mem_nil,or_false] at he
 rcases he with rfl | rfl | rfl
 ·exact pY
 ·exact oT
 ·exact aHE) aD
theorem aBZ {d : Design6} {s : ByteArray} {Post : Value -> Prop} (l : List ByteArray) (hl : l.length <= 65) (h : Post (trS l.reverse)) : OkP 186 [aC d,.string s] 11 Post (stV [(10,some (trS l)),(12,some (.slice none 0 0)),(13,some (vi (IntKind.i64.wrap ((l.length : Int) - 1))))] [] 0):=by
 rw [bA (n:=(l.length : Int) - 1) (by omega) (by omega)]
 have key : ∀ k,k <= l.length -> k < l.length -> OkP 186 [aC d,.string s] 11 Post (stV [(10,some (trS l)),(12,some (.slice (some ⟨0,0,none⟩) (l.length - k) 1)),(13,some (vi ((k : Int) - 1)))] [(0,some (.cells (SL ((l.drop k).reverse)) true))] 1):=by
  intro k hq
  induction k with
  | zero =>
   intro hk
   refine aV nP mixed _ (aGm d s l.length l.length (aB l) (((0 : Nat) : Int) - 1) _ _ _) ?_
   simp only [true_and,and_true,le_refl,Nat.sub_zero,List.drop_zero]
   refine ifD (fun h'=>by omega) (fun _=>⟨⟨by rw [cR,List.length_reverse]; omega,dE _⟩,?_⟩)
   rw [aLt l.reverse (by rw [List.length_reverse])]
   exact h
  | succ k ih =>
   intro hk
   refine aV nP mixed _ (aGm d s l.length (l.length - (k + 1)) (aB l) (((k + 1 : Nat) : Int) - 1) _ _ _) ?_
   have k1 : k < l.length:=by omega
   have hn : (((k + 1 : Nat) : Int) - 1).toNat = k:=by omega
   have hw : ((k + 1 : Nat) : Int) - 1 - 1 = (k : Int) - 1:=by omega
   have hr : (l.drop (k + 1)).reverse ++ [l[k]] = (l.drop k).reverse:=by rw [List.drop_eq_getElem_cons k1,List.reverse_cons]
   have hs : l.length - (k + 1) + 1 = l.length - k:=by omega
   simp only [true_and,and_true,le_refl,hn,dH k1,aP,getElem?_cons_zero,Option.getD_some,aM9,hr,hs]
   rw [bA (by omega) (by omega),hw]
   exact ifD (fun _=>⟨⟨by omega,by omega⟩,by omega,by rw [cR,List.length_reverse,List.length_drop]; omega,dE _,ih (by omega) k1⟩) (fun h'=>by omega)
 cases hz : l.length with
 | zero =>
  have e : l = []:=List.eq_nil_of_length_eq_zero hz
  subst e
  refine aV nP mixed _ (aGo d s 0 _ (((0 : Nat) : Int) - 1) _ _) ?_
  simp only [true_and,and_true]
  exact ifD (fun h'=>absurd h' (by decide)) (fun _=>h)
 | succ n =>
  have k1 : n < l.length:=by omega
  refine aV nP mixed _ (aGo d s l.length (aB l) (((n + 1 : Nat) : Int) - 1) _ _) ?_
  have hn : (((n + 1 : Nat) : Int) - 1).toNat = n:=by omega
  have hw : ((n + 1 : Nat) : Int) - 1 - 1 = (n : Int) - 1:=by omega
  have nx:=key n (by omega) k1
  have hr : (l.drop n).reverse = [l[n]]:=by
   rw [List.drop_eq_getElem_cons k1,List.drop_eq_nil_of_le (by omega)]
   rfl
  have hs : l.length - n = 1:=by omega
  rw [hr,hs] at nx
  have e1 : SL [l[n]] = [.string l[n]]:=rfl
  rw [e1] at nx
  have nn : NLs [.string l[n]]:=dE [l[n]]
  simp only [true_and,and_true,le_refl,hn,dH k1,aP,getElem?_cons_zero,Option.getD_some]
  rw [bA (by omega) (by omega),hw]
  exact ifD (fun _=>⟨⟨by omega,by omega⟩,by decide,nn,nx⟩) (fun h'=>by omega)
theorem aNf : aZ Tryz.prog ⟨186,aLl⟩:=by
 rintro args Post ⟨d,s,rfl,hd,hf,h⟩
 refine aN nP mixed (by kernel_rfl) (by kernel_rfl) _ (aQm d s _ _) ?_
 simp only [true_and,and_true,le_refl]
 unfold aHi at h
 refine ⟨d,s,rfl,hd,aE (fun hs=>?_) (fun hs=>?_)⟩
 ·rw [if_pos hs] at h
  have:=aBZ (d:=d) (s:=s) _ aN9 h
  exact ⟨d,s,rfl,hd,aFI this⟩
 ·rw [if_neg (by rw [hs]; decide)] at h
  refine ⟨d,s,rfl,hf,aE (fun hp=>?_) (fun hp=>?_)⟩
  ·obtain ⟨p,hq⟩:=Option.isSome_iff_exists.1 hp
   rw [hq] at h ⊢
   dsimp only [Option.getD_some] at h ⊢
   have:=aBZ (d:=d) (s:=s) _ aN9 h
   exact ⟨d,p.node,rfl,hd,aFI this⟩
  ·cases hq : cO d s with
   | some p=>rw [hq] at hp; cases hp
   | none =>
    rw [hq] at h
    exact h
theorem aCF : aZ Tryz.prog ⟨188,aDI⟩:=by
 rintro args Post ⟨d,s,rfl,hd,h⟩
 refine aN tO mixed (by kernel_rfl) (by kernel_rfl) _ (aMo d s _ _) ?_
 simp only [true_and,and_true,le_refl]
 unfold dT at h
 refine ⟨d,s,rfl,hd,aE (fun hs=>?_) (fun hs=>?_)⟩
 ·obtain ⟨n,hq⟩:=Option.isSome_iff_exists.1 hs
  rw [hq] at h ⊢
  dsimp only [Option.getD_some] at h ⊢
  exact ifD (fun hk=>by rwa [decide_eq_true hk] at h) (fun hk=>by rwa [decide_eq_false hk] at h)
 ·cases hq : dP d s with
  | some p=>rw [hq] at hs; cases hs
  | none=>rw [hq] at h; exact h
theorem aO5 : aW Tryz.prog aQO:=aM (by
 intro e he
 simp only [mem_cons,not_mem_nil,or_false] at he
 rcases he with rfl | rfl | rfl | rfl
 ·exact pY
 ·exact oT
 ·exact aFF
 ·exact aHE) aD
theorem aPS {l : List ByteArray} (h : 0 < l.length) : aA (aB l) (wrap i64 ((l.length : Int) - 1)).toNat 0 = .string (l.getD (l.length - 1) ⟨#[]⟩) ∨ 65 < l.length:=by
 rcases lt_or_ge 65 l.length with h65 | h65
 ·exact .inr h65
 ·refine .inl ?_
  rw [bA (by omega) (by omega)]
  have e : ((l.length : Int) - 1).toNat = l.length - 1:=by omega
  rw [e,dH (by omega),dC (by omega)]
  rfl
theorem aPr : aZ Tryz.prog ⟨222,aQu⟩:=by
 rintro args Post ⟨d,s,rfl,hd,hk,hf,h⟩
 refine aN aO5 mixed (by kernel_rfl) (by kernel_rfl) _ (aRv d s _ _) ?_
 simp only [true_and,and_true,le_refl]
 unfold uL aHK at h
 have last : ∀ (t : ByteArray),(Post (.tuple #[.string ((match dF d t with | none=>none | some l=>some (l.getD (l.length - 1) ⟨#[]⟩) : Option ByteArray).getD ⟨#[]⟩),.bool (match dF d t with | none=>none | some l=>some (l.getD (l.length - 1) ⟨#[]⟩) : Option ByteArray).isSome])) ->
   pIf (dF d t).isSome ((0 <= wrap i64 ((((dF d t).getD []).length : Int) - 1) /\ wrap i64 ((((dF d t).getD []).length : Int) - 1) < (((dF d t).getD []).length : Int)) /\ aA (aB ((dF d t).getD [])) (wrap i64 ((((dF d t).getD []).length : Int) - 1)).toNat 0 = .string (toS (aA (aB ((dF d t).getD [])) (wrap i64 ((((dF d t).getD []).length : Int) - 1)).toNat 0)) /\ Post (.tuple #[.string (toS (aA (aB ((dF d t).getD [])) (wrap i64 ((((dF d t).getD []).length : Int) - 1)).toNat 0)),.bool true])) (Post (.tuple #[.string ⟨#[]⟩,.bool false])):=fun t hq=>by
  cases hu : dF d t with
  | none =>
   rw [hu] at hq
   exact hq
  | some l =>
   rw [hu] at hq
   have hb:=aDb 65 t [] l hu
   simp at hb
   dsimp only [Option.getD_some,Option.isSome_some]
   rcases aPS (l:=l) hb.2 with e | e
   ·refine ⟨?_,?_,?_⟩
    ·show 0 <= wrap i64 ((l.length : Int) - 1) /\ _ < (l.length : Int)
     rw [bA (by omega) (by omega)]
     omega
    ·show aA (aB l) _ 0 = _
     rw [e]
     rfl
    ·show Post (.tuple #[.string (toS (aA (aB l) (wrap i64 ((l.length : Int) - 1)).toNat 0)),.bool true])
     rw [e]
     exact hq
   ·omega
 refine ⟨d,s,rfl,hd,aE (fun hs=>?_) (fun hs=>?_)⟩
 ·rw [if_pos hs] at h
  exact ⟨d,s,rfl,hd,last s h⟩
 ·rw [if_neg (by rw [hs]; decide)] at h
  refine ⟨d,s,rfl,hf,aE (fun hp=>?_) (fun hp=>?_)⟩
  ·obtain ⟨p,hq⟩:=Option.isSome_iff_exists.1 hp
   rw [hq] at h ⊢
   dsimp only [Option.getD_some] at h ⊢
   exact ⟨d,p.node,rfl,hd,last p.node h⟩
  ·cases hq : cO d s with
   | some p=>rw [hq] at hp; cases hp
   | none =>
    rw [hq] at h
    dsimp only at h
    refine ⟨d,s,rfl,hk,aE (fun hp=>?_) (fun hp=>?_)⟩
    ·obtain ⟨k,hq⟩:=Option.isSome_iff_exists.1 hp
     rw [hq] at h ⊢
     dsimp only [Option.getD_some] at h ⊢
     unfold dT at h
     refine ⟨d,k.block,rfl,hd,aE (fun hn=>?_) (fun hn=>?_)⟩
     ·obtain ⟨n,hq⟩:=Option.isSome_iff_exists.1 hn
      rw [hq] at h ⊢
      dsimp only [Option.getD_some] at h ⊢
      refine ifN (fun hk1=>?_) (fun hk1=>?_)
      ·rw [if_neg (by simpa using hk1)] at h
       exact h
      ·rw [if_pos (by simpa using hk1)] at h
       exact h
     ·cases hq : dP d k.block with
      | some n=>rw [hq] at hn; cases hn
      | none=>rw [hq] at h; exact h
    ·cases hq : lY d s with
     | some k=>rw [hq] at hp; cases hp
     | none=>rw [hq] at h; exact h
theorem aCm : ∀ x : List UInt8,Op.bytesLess x x = false
 | []=>rfl
 | a :: x=>by
  rw [Op.bytesLess,aCm x]
  simp
theorem aFL : ∀ {x y z : List UInt8},Op.bytesLess x y = true -> Op.bytesLess y z = true -> Op.bytesLess x z = true
 | x,[],_,h,_=>by simp [Op.bytesLess] at h
 | _,b :: y,[],_,h=>by simp [Op.bytesLess] at h
 | [],_ :: _,_ :: _,_,_=>rfl
 | a :: x,b :: y,c :: z,h1,h2=>by
  rw [Op.bytesLess,Bool.or_eq_true,Bool.and_eq_true,decide_eq_true_eq,beq_iff_eq] at h1 h2 ⊢
  rcases h1 with h1 | ⟨rfl,h1⟩
  ·rcases h2 with h2 | ⟨rfl,h2⟩
   ·exact .inl (UInt8.lt_trans h1 h2)
   ·exact .inl h1
  ·rcases h2 with h2 | ⟨rfl,h2⟩
   ·exact .inl h2
   ·exact .inr ⟨rfl,aFL h1 h2⟩
theorem aIS : aZ Tryz.prog ⟨181,aMK⟩:=by
 rintro args Post ⟨l,rfl,hs,h⟩
 refine aN aD mixed (by kernel_rfl) (by kernel_rfl) _ (aRJ l.length (aB l) _ _) ?_
 have hs2 : l.length < 2 ^ 62:=hs
 simp only [true_and]
 have key : ∀ k,1 <= k -> k <= l.length -> (∀ (i j : Nat) (hi : i < l.length) (hj : j < l.length),j < i -> i < k -> Op.bytesLess l[j].toList l[i].toList = true) -> OkP 181 [trS l] 2 Post (stV [(0,some (trS l)),(3,some (vi k))] [] 0):=by
  intro k hk1 hk2
  revert hk1
  refine sN (n:=l.length) (p:=fun k=>1 <= k -> (∀ (i j : Nat) (hi : i < l.length) (hj : j < l.length),j < i -> i < k -> Op.bytesLess l[j].toList l[i].toList = true) -> OkP 181 [trS l] 2 Post (stV [(0,some (trS l)),(3,some (vi k))] [] 0)) (fun _ hall=>?_) (fun k k1 ih hk1 hall=>?_) k hk2
  ·refine aV aD mixed _ (aGW l.length (aB l) l.length _ _) ?_
   simp only [true_and,and_true]
   refine ifD (fun h'=>by omega) (fun _=>h true fun _ i j hi hj hji he=>?_)
   have:=hall i j hi hj hji hi
   rw [he,aCm] at this
   cases this
  ·refine aV aD mixed _ (aGW l.length (aB l) k _ _) ?_
   have hn : ((k : Nat) : Int).toNat = k:=toNat_natCast k
   have hw : IntKind.i64.wrap ((k : Int) - 1) = ((k - 1 : Nat) : Int):=by rw [bA (by omega) (by omega)]; omega
   have hn' : ((k - 1 : Nat) : Int).toNat = k - 1:=toNat_natCast _
   have k0 : k - 1 < l.length:=by omega
   simp only [true_and,and_true,hw,hn,hn',dH k1,dH k0,getElem?_cons_zero,Option.getD_some,aP,aJ (show k < 2 ^ 62 by omega)]
   refine ifD (fun _=>⟨⟨by omega,by omega⟩,⟨by omega,by omega⟩,aE (fun _=>h false fun e=>by cases e) (fun hb=>ih (by omega) fun i j hi hj hji hik=>?_)⟩) (fun h'=>by omega)
   have hb : Op.bytesLess l[k - 1].toList l[k].toList = true:=by simpa using hb
   rcases lt_or_ge i k with h' | h'
   ·exact hall i j hi hj hji h'
   ·obtain rfl : i = k:=by omega
    rcases lt_or_ge j (i - 1) with h2 | h2
    ·exact aFL (hall (i - 1) j k0 hj h2 (by omega)) hb
    ·obtain rfl : j = i - 1:=by omega
     exact hb
 rcases Nat.eq_zero_or_pos l.length with hz | hz
 ·refine aV aD mixed _ (aGW l.length (aB l) 1 _ _) ?_
  simp only [true_and,and_true]
  exact ifD (fun h'=>by omega) (fun _=>h true fun _ i j hi=>by omega)
 ·exact key 1 (le_refl _) hz fun i j hi hj h1 h2=>by omega
theorem eZ : aW Tryz.prog aDB:=bL mixed (aM (by
 intro e he
 simp only [mem_cons,not_mem_nil,or_false] at he
 rcases he with rfl | rfl | rfl | rfl
 ·exact vH
 ·exact aFM
 ·exact aIS
 ·exact aDC) aD) 2
theorem cU {α : Type} {l : List α} (h : l.length <= 1000) : aH l:=Nat.lt_of_le_of_lt h (by decide)
structure FewI (d : Design6) : Prop where
 i0 : (bI d).length <= 1000
 i1 : (bC d).length <= 1000
 i2 : (bU d).length <= 1000
 i3 : (bG d).length <= 1000
theorem aJ8 {d : Design6} (f : Few17 d) : FewI d:=⟨by unfold bI; rw [length_map]; exact f.n,by unfold bC; rw [length_map]; exact f.p,by unfold bU; rw [length_map]; exact f.s,by unfold bG; rw [length_map]; exact f.k⟩
theorem aOK {d : Design6} {Post : Value -> Prop} (f : FewI d) (ha : jP (bC d)) (h : ∀ e : Int,(e = 0 -> jP (bC d)) -> Post (.int .i64 e)) : OkP 111 [aC d] 23 Post (stV [(3,some (pt 0)),(6,some (vi 3)),(7,some (vi 2)),(8,some (vi 0))] [(0,some (.cells (mQ (bI d).length (bC d).length (bU d).length (bG d).length (aB (bI d)) (aB (bC d)) (aB (bU d)) (aB (bG d))) true))] 1):=by
 have hl:=f.i3
 refine cS (n:=(bG d).length) (p:=fun n=>OkP 111 [aC d] 23 Post (stV [(3,some (pt 0)),(6,some (vi 3)),(7,some (vi 2)),(8,some (vi ((n : Nat) : Int)))] [(0,some (.cells (mQ (bI d).length (bC d).length (bU d).length (bG d).length (aB (bI d)) (aB (bC d)) (aB (bU d)) (aB (bG d))) true))] 1)) ?_ (fun n n1 ih=>?_)
 ·refine aV eZ mixed _ (yM d (bI d).length (bC d).length (bU d).length (bG d).length (aB (bI d)) (aB (bC d)) (aB (bU d)) (aB (bG d)) (bG d).length _ _) ?_
  simp only [true_and,and_true,le_refl,aQ]
  refine ⟨by decide,ifD (fun h'=>by omega) (fun _=>?_)⟩
  exact h 0 fun _=>ha
 ·refine aV eZ mixed _ (yM d (bI d).length (bC d).length (bU d).length (bG d).length (aB (bI d)) (aB (bC d)) (aB (bU d)) (aB (bG d)) n _ _) ?_
  have hn : ((n : Nat) : Int).toNat = n:=toNat_natCast n
  simp only [true_and,and_true,le_refl,hn,dH n1,aP,aQ,getElem?_cons_zero,Option.getD_some,aJ (show n < 2 ^ 62 by omega)]
  exact ⟨by decide,ifD (fun _=>⟨by decide,by decide,⟨by omega,by omega⟩,bU d,(bG d)[n],rfl,cU f.i2,aE (fun _=>h 7 fun e=>absurd e (by decide)) (fun _=>ih)⟩) (fun h'=>by omega)⟩
theorem aQf {d : Design6} {Post : Value -> Prop} (f : FewI d) (ha : jP (bC d)) (h : ∀ e : Int,(e = 0 -> jP (bC d)) -> Post (.int .i64 e)) : OkP 111 [aC d] 23 Post (stV [(3,some (pt 0)),(6,some (vi 3)),(7,some (vi 1)),(8,some (vi 0))] [(0,some (.cells (mQ (bI d).length (bC d).length (bU d).length (bG d).length (aB (bI d)) (aB (bC d)) (aB (bU d)) (aB (bG d))) true))] 1):=by
 have hl:=f.i3
 refine cS (n:=(bG d).length) (p:=fun n=>OkP 111 [aC d] 23 Post (stV [(3,some (pt 0)),(6,some (vi 3)),(7,some (vi 1)),(8,some (vi ((n : Nat) : Int)))] [(0,some (.cells (mQ (bI d).length (bC d).length (bU d).length (bG d).length (aB (bI d)) (aB (bC d)) (aB (bU d)) (aB (bG d))) true))] 1)) ?_ (fun n n1 ih=>?_)
 ·refine aV eZ mixed _ (xS d (bI d).length (bC d).length (bU d).length (bG d).length (aB (bI d)) (aB (bC d)) (aB (bU d)) (aB (bG d)) (bG d).length _ _) ?_
  simp only [true_and,and_true,le_refl,aQ]
  refine ⟨by decide,ifD (fun h'=>by omega) (fun _=>?_)⟩
  exact aOK f ha h
 ·refine aV eZ mixed _ (xS d (bI d).length (bC d).length (bU d).length (bG d).length (aB (bI d)) (aB (bC d)) (aB (bU d)) (aB (bG d)) n _ _) ?_
  have hn : ((n : Nat) : Int).toNat = n:=toNat_natCast n
  simp only [true_and,and_true,le_refl,hn,dH n1,aP,aQ,getElem?_cons_zero,Option.getD_some,aJ (show n < 2 ^ 62 by omega)]
  exact ⟨by decide,ifD (fun _=>⟨by decide,by decide,⟨by omega,by omega⟩,bC d,(bG d)[n],rfl,cU f.i1,aE (fun _=>h 7 fun e=>absurd e (by decide)) (fun _=>ih)⟩) (fun h'=>by omega)⟩
theorem aPk {d : Design6} {Post : Value -> Prop} (f : FewI d) (ha : jP (bC d)) (h : ∀ e : Int,(e = 0 -> jP (bC d)) -> Post (.int .i64 e)) : OkP 111 [aC d] 23 Post (stV [(3,some (pt 0)),(6,some (vi 3)),(7,some (vi 0)),(8,some (vi 0))] [(0,some (.cells (mQ (bI d).length (bC d).length (bU d).length (bG d).length (aB (bI d)) (aB (bC d)) (aB (bU d)) (aB (bG d))) true))] 1):=by
 have hl:=f.i3
 refine cS (n:=(bG d).length) (p:=fun n=>OkP 111 [aC d] 23 Post (stV [(3,some (pt 0)),(6,some (vi 3)),(7,some (vi 0)),(8,some (vi ((n : Nat) : Int)))] [(0,some (.cells (mQ (bI d).length (bC d).length (bU d).length (bG d).length (aB (bI d)) (aB (bC d)) (aB (bU d)) (aB (bG d))) true))] 1)) ?_ (fun n n1 ih=>?_)
 ·refine aV eZ mixed _ (yF d (bI d).length (bC d).length (bU d).length (bG d).length (aB (bI d)) (aB (bC d)) (aB (bU d)) (aB (bG d)) (bG d).length _ _) ?_
  simp only [true_and,and_true,le_refl,aQ]
  refine ⟨by decide,ifD (fun h'=>by omega) (fun _=>?_)⟩
  exact aQf f ha h
 ·refine aV eZ mixed _ (yF d (bI d).length (bC d).length (bU d).length (bG d).length (aB (bI d)) (aB (bC d)) (aB (bU d)) (aB (bG d)) n _ _) ?_
  have hn : ((n : Nat) : Int).toNat = n:=toNat_natCast n
  simp only [true_and,and_true,le_refl,hn,dH n1,aP,aQ,getElem?_cons_zero,Option.getD_some,aJ (show n < 2 ^ 62 by omega)]
  exact ⟨by decide,ifD (fun _=>⟨by decide,by decide,⟨by omega,by omega⟩,bI d,(bG d)[n],rfl,cU f.i0,aE (fun _=>h 7 fun e=>absurd e (by decide)) (fun _=>ih)⟩) (fun h'=>by omega)⟩
theorem aOJ {d : Design6} {Post : Value -> Prop} (f : FewI d) (ha : jP (bC d)) (h : ∀ e : Int,(e = 0 -> jP (bC d)) -> Post (.int .i64 e)) : OkP 111 [aC d] 23 Post (stV [(3,some (pt 0)),(6,some (vi 2)),(7,some (vi 1)),(8,some (vi 0))] [(0,some (.cells (mQ (bI d).length (bC d).length (bU d).length (bG d).length (aB (bI d)) (aB (bC d)) (aB (bU d)) (aB (bG d))) true))] 1):=by
 have hl:=f.i2
 refine cS (n:=(bU d).length) (p:=fun n=>OkP 111 [aC d] 23 Post (stV [(3,some (pt 0)),(6,some (vi 2)),(7,some (vi 1)),(8,some (vi ((n : Nat) : Int)))] [(0,some (.cells (mQ (bI d).length (bC d).length (bU d).length (bG d).length (aB (bI d)) (aB (bC d)) (aB (bU d)) (aB (bG d))) true))] 1)) ?_ (fun n n1 ih=>?_)
 ·refine aV eZ mixed _ (yC d (bI d).length (bC d).length (bU d).length (bG d).length (aB (bI d)) (aB (bC d)) (aB (bU d)) (aB (bG d)) (bU d).length _ _) ?_
  simp only [true_and,and_true,le_refl,aQ]
  refine ⟨by decide,ifD (fun h'=>by omega) (fun _=>?_)⟩
  exact aPk f ha h
 ·refine aV eZ mixed _ (yC d (bI d).length (bC d).length (bU d).length (bG d).length (aB (bI d)) (aB (bC d)) (aB (bU d)) (aB (bG d)) n _ _) ?_
  have hn : ((n : Nat) : Int).toNat = n:=toNat_natCast n
  simp only [true_and,and_true,le_refl,hn,dH n1,aP,aQ,getElem?_cons_zero,Option.getD_some,aJ (show n < 2 ^ 62 by omega)]
  exact ⟨by decide,ifD (fun _=>⟨by decide,by decide,⟨by omega,by omega⟩,bC d,(bU d)[n],rfl,cU f.i1,aE (fun _=>h 7 fun e=>absurd e (by decide)) (fun _=>ih)⟩) (fun h'=>by omega)⟩
theorem aOp {d : Design6} {Post : Value -> Prop} (f : FewI d) (ha : jP (bC d)) (h : ∀ e : Int,(e = 0 -> jP (bC d)) -> Post (.int .i64 e)) : OkP 111 [aC d] 23 Post (stV [(3,some (pt 0)),(6,some (vi 2)),(7,some (vi 0)),(8,some (vi 0))] [(0,some (.cells (mQ (bI d).length (bC d).length (bU d).length (bG d).length (aB (bI d)) (aB (bC d)) (aB (bU d)) (aB (bG d))) true))] 1):=by
 have hl:=f.i2
 refine cS (n:=(bU d).length) (p:=fun n=>OkP 111 [aC d] 23 Post (stV [(3,some (pt 0)),(6,some (vi 2)),(7,some (vi 0)),(8,some (vi ((n : Nat) : Int)))] [(0,some (.cells (mQ (bI d).length (bC d).length (bU d).length (bG d).length (aB (bI d)) (aB (bC d)) (aB (bU d)) (aB (bG d))) true))] 1)) ?_ (fun n n1 ih=>?_)
 ·refine aV eZ mixed _ (yL d (bI d).length (bC d).length (bU d).length (bG d).length (aB (bI d)) (aB (bC d)) (aB (bU d)) (aB (bG d)) (bU d).length _ _) ?_
  simp only [true_and,and_true,le_refl,aQ]
  refine ⟨by decide,ifD (fun h'=>by omega) (fun _=>?_)⟩
  exact aOJ f ha h
 ·refine aV eZ mixed _ (yL d (bI d).length (bC d).length (bU d).length (bG d).length (aB (bI d)) (aB (bC d)) (aB (bU d)) (aB (bG d)) n _ _) ?_
  have hn : ((n : Nat) : Int).toNat = n:=toNat_natCast n
  simp only [true_and,and_true,le_refl,hn,dH n1,aP,aQ,getElem?_cons_zero,Option.getD_some,aJ (show n < 2 ^ 62 by omega)]
  exact ⟨by decide,ifD (fun _=>⟨by decide,by decide,⟨by omega,by omega⟩,bI d,(bU d)[n],rfl,cU f.i0,aE (fun _=>h 7 fun e=>absurd e (by decide)) (fun _=>ih)⟩) (fun h'=>by omega)⟩
theorem aIE {d : Design6} {Post : Value -> Prop} (f : FewI d) (ha : jP (bC d)) (h : ∀ e : Int,(e = 0 -> jP (bC d)) -> Post (.int .i64 e)) : OkP 111 [aC d] 23 Post (stV [(3,some (pt 0)),(6,some (vi 1)),(7,some (vi 0)),(8,some (vi 0))] [(0,some (.cells (mQ (bI d).length (bC d).length (bU d).length (bG d).length (aB (bI d)) (aB (bC d)) (aB (bU d)) (aB (bG d))) true))] 1):=by
 have hl:=f.i1
 refine cS (n:=(bC d).length) (p:=fun n=>OkP 111 [aC d] 23 Post (stV [(3,some (pt 0)),(6,some (vi 1)),(7,some (vi 0)),(8,some (vi ((n : Nat) : Int)))] [(0,some (.cells (mQ (bI d).length (bC d).length (bU d).length (bG d).length (aB (bI d)) (aB (bC d)) (aB (bU d)) (aB (bG d))) true))] 1)) ?_ (fun n n1 ih=>?_)
 ·refine aV eZ mixed _ (xT d (bI d).length (bC d).length (bU d).length (bG d).length (aB (bI d)) (aB (bC d)) (aB (bU d)) (aB (bG d)) (bC d).length _ _) ?_
  simp only [true_and,and_true,le_refl,aQ]
  refine ⟨by decide,ifD (fun h'=>by omega) (fun _=>?_)⟩
  exact aOp f ha h
 ·refine aV eZ mixed _ (xT d (bI d).length (bC d).length (bU d).length (bG d).length (aB (bI d)) (aB (bC d)) (aB (bU d)) (aB (bG d)) n _ _) ?_
  have hn : ((n : Nat) : Int).toNat = n:=toNat_natCast n
  simp only [true_and,and_true,le_refl,hn,dH n1,aP,aQ,getElem?_cons_zero,Option.getD_some,aJ (show n < 2 ^ 62 by omega)]
  exact ⟨by decide,ifD (fun _=>⟨by decide,by decide,⟨by omega,by omega⟩,bI d,(bC d)[n],rfl,cU f.i0,aE (fun _=>h 7 fun e=>absurd e (by decide)) (fun _=>ih)⟩) (fun h'=>by omega)⟩
theorem aKB {d : Design6} {Post : Value -> Prop} (q : Few17 d) (ha : jP (bC d)) (h : ∀ e : Int,(e = 0 -> jP (bC d)) -> Post (.int .i64 e)) : OkP 111 [aC d] 12 Post (stV [(1,some (pt 0)),(3,some (pt 1)),(5,some (vi 1))] [(0,some (.cells (aG d) true)),(1,some (.cells (mQ (bI d).length (bC d).length (bU d).length (bG d).length (aB (bI d)) (aB (bC d)) (aB (bU d)) (aB (bG d))) true))] 2):=by
 have hl:=q.q
 have f:=aJ8 q
 have key : ∀ k,k <= d.needs.length -> 1 <= k -> OkP 111 [aC d] 12 Post (stV [(1,some (pt 0)),(3,some (pt 1)),(5,some (vi ((k : Nat) : Int)))] [(0,some (.cells (aG d) true)),(1,some (.cells (mQ (bI d).length (bC d).length (bU d).length (bG d).length (aB (bI d)) (aB (bC d)) (aB (bU d)) (aB (bG d))) true))] 2):=by
  intro k hkk
  refine sN (n:=d.needs.length) (p:=fun k=>1 <= k -> OkP 111 [aC d] 12 Post (stV [(1,some (pt 0)),(3,some (pt 1)),(5,some (vi ((k : Nat) : Int)))] [(0,some (.cells (aG d) true)),(1,some (.cells (mQ (bI d).length (bC d).length (bU d).length (bG d).length (aB (bI d)) (aB (bC d)) (aB (bU d)) (aB (bG d))) true))] 2)) (fun _=>?_) (fun k k1 ih hk1=>?_) k hkk
  ·refine aV eZ mixed _ (aBu d (bI d).length (bC d).length (bU d).length (bG d).length (aB (bI d)) (aB (bC d)) (aB (bU d)) (aB (bG d)) d.needs.length _ _) ?_
   simp only [true_and,and_true,le_refl,aQ]
   refine ifD (fun h'=>by omega) (fun _=>?_)
   and_intros
   all_goals first | decide | skip
   exact aIE f ha h
  ·refine aV eZ mixed _ (aBu d (bI d).length (bC d).length (bU d).length (bG d).length (aB (bI d)) (aB (bC d)) (aB (bU d)) (aB (bG d)) k _ _) ?_
   have hn : ((k : Nat) : Int).toNat = k:=toNat_natCast k
   have hw : IntKind.i64.wrap ((k : Int) - 1) = ((k - 1 : Nat) : Int):=by rw [bA (by omega) (by omega)]; omega
   have hn' : ((k - 1 : Nat) : Int).toNat = k - 1:=toNat_natCast _
   have k0 : k - 1 < d.needs.length:=by omega
   have nx:=ih (by omega)
   simp only [hw,hn,hn',xH k1,xH k0,aAw,getElem?_cons_zero,List.getElem?_cons_succ,Option.getD_some,aP,aQ,true_and,and_true,le_refl,aJ (show k < 2 ^ 62 by omega)]
   refine ifD (fun _=>⟨⟨by omega,by omega⟩,⟨by omega,by omega⟩,?_⟩) (fun h'=>by omega)
   repeat' (first | refine aE (fun _=>?_) (fun _=>?_) | exact nx | exact h 11 fun e=>absurd e (by decide))
 rcases Nat.eq_zero_or_pos d.needs.length with hz | hz
 ·refine aV eZ mixed _ (aBu d (bI d).length (bC d).length (bU d).length (bG d).length (aB (bI d)) (aB (bC d)) (aB (bU d)) (aB (bG d)) 1 _ _) ?_
  simp only [true_and,and_true,le_refl,aQ]
  refine ifD (fun h'=>by omega) (fun _=>?_)
  and_intros
  all_goals first | decide | skip
  exact aIE f ha h
 ·exact key 1 hz (le_refl _)
theorem aJs : aZ Tryz.prog ⟨111,aEW⟩:=by
 rintro args Post ⟨d,rfl,q,h⟩
 have f:=aJ8 q
 refine aN eZ mixed (by kernel_rfl) (by kernel_rfl) _ (aLC d (bI d).length (bC d).length (bU d).length (bG d).length (aB (bI d)) (aB (bC d)) (aB (bU d)) (aB (bG d)) _ _) ?_
 have no : ∀ e : Int,e ≠ 0 -> Post (.int .i64 e):=fun e he=>h e fun z=>absurd z he
 have w1 : IntKind.i64.wrap (0 + 1) = 1:=by decide
 have w2 : IntKind.i64.wrap (1 + 1) = 2:=by decide
 have w3 : IntKind.i64.wrap (2 + 1) = 3:=by decide
 simp only [true_and,and_true,le_refl,aQ,w1,w2,w3]
 refine aE (fun _=>?_) (fun _=>no 6 (by decide))
 refine aE (fun _=>no 4 (by decide)) (fun _=>aE (fun _=>no 4 (by decide)) (fun _=>aE (fun _=>no 4 (by decide)) (fun _=>aE (fun _=>no 4 (by decide)) (fun _=>aE (fun _=>no 4 (by decide)) (fun _=>?_)))))
 refine ⟨d,rfl,q,by decide,bI d,rfl,cU f.i0,fun b _=>aE (fun _=>?_) (fun _=>no 11 (by decide))⟩
 refine ⟨by decide,bC d,rfl,cU f.i1,fun b hb=>aE (fun hb1=>?_) (fun _=>no 11 (by decide))⟩
 have ha : jP (bC d):=hb hb1
 refine ⟨by decide,bU d,rfl,cU f.i2,fun b _=>aE (fun _=>?_) (fun _=>no 11 (by decide))⟩
 refine ⟨by decide,bG d,rfl,cU f.i3,fun b _=>aE (fun _=>?_) (fun _=>no 11 (by decide))⟩
 exact aKB q ha h
theorem oM : aW Tryz.prog aLz:=aM (by
 intro e he
 simp only [mem_cons,not_mem_nil,or_false] at he
 rcases he with rfl | rfl | rfl | rfl
 ·exact pY
 ·exact aDQ
 ·exact aHE
 ·exact aNf) aD
theorem aGS : aZ Tryz.prog ⟨112,aCI⟩:=by
 rintro args Post ⟨d,rfl,q,t,hf,h⟩
 have hl:=q.n
 have hn:=cU hl
 refine aN oM mixed (by kernel_rfl) (by kernel_rfl) _ (aJN d _ _) ?_
 simp only [true_and,and_true,le_refl]
 refine cS (n:=d.nodes.length) (p:=fun k=>OkP 112 [aC d] 2 Post (stV [(1,some (pt 0)),(3,some (vi ((k : Nat) : Int)))] [(0,some (.cells (aG d) true))] 1)) ?_ (fun k k1 ih=>?_)
 ·refine aV oM mixed _ (aCR d d.nodes.length _ _) ?_
  simp only [true_and,and_true,le_refl]
  refine ifD (fun h'=>by omega) (fun _=>?_)
  refine cS (n:=d.nodes.length) (p:=fun k=>OkP 112 [aC d] 15 Post (stV [(1,some (pt 0)),(7,some (vi ((k : Nat) : Int)))] [(0,some (.cells (aG d) true))] 1)) ?_ (fun k k1 ih=>?_)
  ·refine aV oM mixed _ (aBQ d d.nodes.length _ _) ?_
   simp only [true_and,and_true,le_refl]
   refine ifD (fun h'=>by omega) (fun _=>?_)
   refine cS (n:=d.nodes.length) (p:=fun k=>OkP 112 [aC d] 21 Post (stV [(1,some (pt 0)),(10,some (vi ((k : Nat) : Int)))] [(0,some (.cells (aG d) true))] 1)) ?_ (fun k k1 ih=>?_)
   ·refine aV oM mixed _ (aCt d d.nodes.length _ _) ?_
    simp only [true_and,and_true,le_refl]
    exact ifD (fun h'=>by omega) (fun _=>h 0)
   ·refine aV oM mixed _ (aCt d k _ _) ?_
    have hk : ((k : Nat) : Int).toNat = k:=toNat_natCast k
    simp only [hk,lS k1,nE,getElem?_cons_zero,List.getElem?_cons_succ,Option.getD_some,aP,aQ,true_and,and_true,le_refl,aJ (show k < 2 ^ 62 by omega)]
    exact ifD (fun _=>⟨⟨by omega,by omega⟩,d,_,rfl,hn,hf,aE (fun _=>h 13) (fun _=>ih)⟩) (fun h'=>by omega)
  ·refine aV oM mixed _ (aBQ d k _ _) ?_
   have hk : ((k : Nat) : Int).toNat = k:=toNat_natCast k
   simp only [hk,lS k1,nE,getElem?_cons_zero,List.getElem?_cons_succ,Option.getD_some,aP,aQ,true_and,and_true,le_refl,aJ (show k < 2 ^ 62 by omega)]
   exact ifD (fun _=>⟨⟨by omega,by omega⟩,d,_,rfl,hn,aE (fun _=>ih) (fun _=>h 20)⟩) (fun h'=>by omega)
 ·refine aV oM mixed _ (aCR d k _ _) ?_
  have hk : ((k : Nat) : Int).toNat = k:=toNat_natCast k
  have hid:=t.n _ (getElem_mem k1)
  simp only [hk,lS k1,nE,getElem?_cons_zero,List.getElem?_cons_succ,Option.getD_some,aP,aQ,true_and,and_true,le_refl,aJ (show k < 2 ^ 62 by omega)]
  refine ifD (fun _=>⟨⟨by omega,by omega⟩,d,_,rfl,hn,?_⟩) (fun h'=>by omega)
  repeat' (first | exact ih | exact h _ | refine aE (fun _=>?_) (fun _=>?_) | refine ⟨_,rfl,hid,?_⟩)
theorem vV : aW Tryz.prog aQ4:=aM (by
 intro e he
 simp only [mem_cons,not_mem_nil,or_false] at he
 rcases he with rfl | rfl | rfl
 ·exact aCT
 ·exact pY
 ·exact aHY) aD
theorem aG8 {m : Mats} : ∀ l : List Part,0 <= (l.map fun p=>bT p m).sum /\ (l.map fun p=>bT p m).sum <= 1099511627776 * (l.length : Int)
 | []=>by simp
 | p :: l=>by
  have:=aG8 (m:=m) l
  have hm:=tS p m
  rw [List.map_cons,List.sum_cons,List.length_cons]
  omega
theorem aHx : aZ Tryz.prog ⟨113,aCP⟩:=by
 rintro args Post ⟨d,m,rfl,q,f,hm,h⟩
 have hl:=q.p
 have hn:=cU q.n
 refine aN vV mixed (by kernel_rfl) (by kernel_rfl) _ (aJG d m _ _) ?_
 simp only [true_and,and_true,le_refl]
 refine cS (n:=d.parts.length) (p:=fun k=>(∀ i (hi : i < d.parts.length),i < k -> bF d.parts[i] m = 0) -> OkP 113 [aC d,bD m] 2 Post (stV [(2,some (pt 0)),(3,some (pt 1)),(5,some (vi ((k : Nat) : Int)))] [(0,some (.cells (aG d) true)),(1,some (.cells (dO m) true))] 2)) (fun hall=>?_) (fun k k1 ih hall=>?_) (fun i _ hi=>by omega)
 ·refine aV vV mixed _ (aCQ d m d.parts.length _ _) ?_
  simp only [true_and,and_true,le_refl]
  refine ifD (fun h'=>by omega) (fun _=>?_)
  have hchk : ∀ p ∈ d.parts,bF p m = 0:=fun p hp=>by
   obtain ⟨i,hi,rfl⟩:=List.mem_iff_getElem.1 hp
   exact hall i hi hi
  refine cS (n:=d.parts.length) (p:=fun k=>OkP 113 [aC d,bD m] 12 Post (stV [(2,some (pt 0)),(3,some (pt 1)),(9,some (vi ((d.parts.take k).map fun p=>bT p m).sum)),(10,some (vi ((k : Nat) : Int)))] [(0,some (.cells (aG d) true)),(1,some (.cells (dO m) true))] 2)) ?_ (fun k k1 ih=>?_)
  ·refine aV vV mixed _ (aBT d m _ d.parts.length _ _) ?_
   rw [List.take_length]
   simp only [true_and,and_true,le_refl]
   exact ifD (fun h'=>by omega) (fun _=>ifD (fun _=>h 13 fun e=>absurd e (by decide)) (fun hs=>h 0 fun _=>⟨hchk,by omega⟩))
  ·refine aV vV mixed _ (aBT d m _ k _ _) ?_
   have hk : ((k : Nat) : Int).toNat = k:=toNat_natCast k
   have fp:=f.f _ (getElem_mem k1)
   have ts : ((d.parts.take (k + 1)).map fun p=>bT p m).sum = ((d.parts.take k).map fun p=>bT p m).sum + bT d.parts[k] m:=by
    rw [List.take_add_one,List.getElem?_eq_getElem k1,List.map_append,List.sum_append]
    simp
   have hb:=aG8 (m:=m) (d.parts.take (k + 1))
   have hb2 : (d.parts.take (k + 1)).length <= 1000:=by rw [List.length_take]; omega
   have hw : IntKind.i64.wrap (((d.parts.take k).map fun p=>bT p m).sum + bT d.parts[k] m) = ((d.parts.take (k + 1)).map fun p=>bT p m).sum:=by rw [← ts,bA (by omega) (by omega)]
   simp only [hk,gT k1]
   clear hall hchk ts hb hb2
   generalize d.parts[k] = p at *
   simp only [fP,aQ,aP,cH,cG,true_and,and_true,le_refl,aJ (show k < 2 ^ 62 by omega),getElem?_cons_zero,List.getElem?_cons_succ,Option.getD_some]
   exact ifD (fun _=>⟨⟨by omega,by omega⟩,p,m,rfl,fp,hm,by rw [hw]; exact ih⟩) (fun h'=>by omega)
 ·refine aV vV mixed _ (aCQ d m k _ _) ?_
  have hk : ((k : Nat) : Int).toNat = k:=toNat_natCast k
  have fp:=f.f _ (getElem_mem k1)
  have nx:=fun hz : bF d.parts[k] m = 0=>ih fun i hi hik=>by
   rcases lt_or_ge i k with h' | h'
   ·exact hall i hi h'
   ·obtain rfl : i = k:=by omega
    exact hz
  simp only [hk,gT k1]
  clear hall ih
  generalize d.parts[k] = p at *
  simp only [fP,aQ,aP,cH,cG,true_and,and_true,le_refl,aJ (show k < 2 ^ 62 by omega),getElem?_cons_zero,List.getElem?_cons_succ,Option.getD_some]
  exact ifD (fun _=>⟨⟨by omega,by omega⟩,p,m,rfl,fp,hm,ifN (fun hne=>h _ fun e=>absurd e hne) (fun hz=>⟨⟨by omega,by omega⟩,d,p.node,rfl,hn,aE (fun _=>nx hz) (fun _=>h 8 fun e=>absurd e (by decide))⟩)⟩) (fun h'=>by omega)
theorem aQr : aZ Tryz.prog ⟨187,aNq⟩:=by
 rintro args Post ⟨x,rfl,h1,h2,h3,h⟩
 refine aN (aM (by
  intro e he
  simp only [mem_cons,not_mem_nil,or_false] at he
  subst he
  exact aDQ) aD) mixed (by kernel_rfl) (by kernel_rfl) _ (aR5 x _ _) ?_
 simp only [true_and,and_true,le_refl]
 refine ⟨_,rfl,h1,aE (fun _=>⟨_,rfl,h2,aE (fun _=>⟨_,rfl,h3,?_⟩) (fun _=>h _)⟩) (fun _=>h _)⟩
 repeat' (first | exact h _ | refine aE (fun _=>?_) (fun _=>?_))
theorem aDk : aW Tryz.prog vcSs:=aM (by
 intro e he
 simp only [mem_cons,not_mem_nil,or_false] at he
 rcases he with rfl | rfl
 ·exact aQr
 ·exact oT) aD
theorem aH6 : aZ Tryz.prog ⟨114,aCs⟩:=by
 rintro args Post ⟨d,rfl,q,t,hf,h⟩
 have hl:=q.s
 refine aN aDk mixed (by kernel_rfl) (by kernel_rfl) _ (aKf d _ _) ?_
 simp only [true_and,and_true,le_refl]
 refine cS (n:=d.seams.length) (p:=fun k=>OkP 114 [aC d] 2 Post (stV [(1,some (pt 0)),(3,some (vi ((k : Nat) : Int)))] [(0,some (.cells (aG d) true))] 1)) ?_ (fun k k1 ih=>?_)
 ·refine aV aDk mixed _ (aCa d d.seams.length _ _) ?_
  simp only [true_and,and_true,le_refl]
  exact ifD (fun h'=>by omega) (fun _=>h 0)
 ·refine aV aDk mixed _ (aCa d k _ _) ?_
  have hk : ((k : Nat) : Int).toNat = k:=toNat_natCast k
  obtain ⟨t1,t2,t3⟩:=t.s _ (getElem_mem k1)
  simp only [hk,xK k1]
  generalize d.seams[k] = x at *
  simp only [tA,getElem?_cons_zero,List.getElem?_cons_succ,Option.getD_some,aP,aQ,true_and,and_true,le_refl,aJ (show k < 2 ^ 62 by omega)]
  refine ifD (fun _=>⟨⟨by omega,by omega⟩,x,rfl,t1,t2,t3,fun e=>?_⟩) (fun h'=>by omega)
  repeat' (first | exact ih | exact h _ | refine aE (fun _=>?_) (fun _=>?_) | refine ⟨⟨by omega,by omega⟩,d,_,rfl,hf,?_⟩)
def aFh (args : List Value) (Post : Value -> Prop) : Prop:=∃ (d : Design6) (k : Nat),args = [aC d,.int .i64 k] /\ k < d.packs.length /\ Few17 d /\ FitD d /\ ∀ e : Int,Post (.int .i64 e)
def aOm : bH:=aU [⟨108,pD⟩,⟨222,aQu⟩,⟨183,aId⟩] aI
abbrev lpCt : List (Nat × List Nat):=[(3,[1,2,5,6]),(14,[1,2,5,6,7,11])]
theorem aLg (d : Design6) (k : Int) (H : HT) (Post : PV) : vcP Tryz.prog aOm 189 lpCt [aC d,.int .i64 k] H Post = (let q7:=length d.packs; let q1:=aB d.packs; let q6:=toI (aA q1 k.toNat 3); let q5:=toS (aA q1 k.toNat 1); let q4:=toS (aA q1 k.toNat 0); let q3:=aA q1 k.toNat 4; let q2:=aA q1 k.toNat 2; T4 (True /\ (0 <= k /\ k < (↑q7 : Int)) /\ (aA q1 k.toNat 0 = vs q4 /\ aA q1 k.toNat 1 = vs q5 /\ aA q1 k.toNat 2 = tree 1 (toN q2) (toE q2) /\ aA q1 k.toNat 3 = vi q6 /\ aA q1 k.toNat 4 = tree 1 (toN q3) (toE q3) /\ True) /\ True /\ 5 <= 5 /\ T2 ((T2 (True)) /\ HP H 189 3 (stV [(1,some (vi k)),(2,some (pt 0)),(5,some (pt 1)),(6,some (vi 0))] [(0,some (AObj.cells [vs d.hull,tree 3 d.nodes.length (aB d.nodes),tree 18 d.parts.length (aB d.parts),tree 6 d.seams.length (aB d.seams),tree 5 q7 q1,tree 3 d.needs.length (aB d.needs)] true)),(1,some (AObj.cells [vs q4,vs q5,tree 1 (toN q2) (toE q2),vi q6,tree 1 (toN q3) (toE q3)] true))] 2)))):=by kernel_rfl
theorem aF3 (d : Design6) (k i : Int) (x : Pack5) (H : HT) (Post : PV) : bX Tryz.prog aOm 189 [aC d,.int .i64 k] lpCt 3 (stV [(1,some (vi k)),(2,some (pt 0)),(5,some (pt 1)),(6,some (vi i))] [(0,some (.cells (aG d) true)),(1,some (.cells (dB x) true))] 2) H Post = (let q14:=d.needs; let q13:=d.packs; let q12:=d.seams; let q11:=d.parts; let q10:=d.nodes; let q9:=toS (aA (aB x.parts) i.toNat 0); let q8:=T2 (True /\ True); let q7:=T2 (Post (vi 2)); let q6:=lpK Tryz.prog 189 14; let q5:=lpC Tryz.prog 189 14; let q4:=[(1,some (vi k)),(2,some (pt 0)),(5,some (pt 1)),(6,some (vi i)),(7,some (pt 2)),(11,some (vi 0))]; let q3:=(1,some (AObj.cells (dB x) true)); let q2:=#[vs d.hull,tree 3 q10.length (aB q10),tree 18 q11.length (aB q11),tree 6 q12.length (aB q12),tree 5 q13.length (aB q13),tree 3 q14.length (aB q14)]; let q1:=(0,some (AObj.cells [vs d.hull,tree 3 q10.length (aB q10),tree 18 q11.length (aB q11),tree 6 q12.length (aB q12),tree 5 q13.length (aB q13),tree 3 q14.length (aB q14)] true)); T4 (True /\ pIf (decide (i < (↑x.parts.length : Int))) (T4 ((0 <= i /\ i < (↑x.parts.length : Int)) /\ aA (aB x.parts) i.toNat 0 = vs q9 /\ True /\ ∃ (d_1 : Design6),∃ (s : ByteArray),eqL [Value.agg q2,vs q9] [aC d_1,vs s] /\ FitD d_1 /\ T4 (pIf (isSome (cO d_1 s)) (18 <= 18 /\ T4 (T2 (True /\ pIf (!decide (Part.kind (Option.getD (cO d_1 s) iG) = 4)) (T4 (pIf (!decide (Part.kind (Option.getD (cO d_1 s) iG) = 3)) (T2 (True /\ Post (vi 10))) (T4 (∃ (d_2 : Design6),∃ (s_1 : ByteArray),eqL [Value.agg q2,vs (Part.id (Option.getD (cO d_1 s) iG))] [aC d_2,vs s_1] /\ aH d_2.nodes /\ aH d_2.packs /\ FitD d_2 /\ T2 (True /\ pIf (isSome (uL d_2 s_1)) (T4 (T2 (pIf (!decide (Option.getD (uL d_2 s_1) e0 = x.block)) q7 (T2 (q8 /\ H q5 q6 (stV q4 [q1,q3,(2,some (AObj.cells (fP (Option.getD (cO d_1 s) iG)) true))] 3)))))) (T4 (T2 (pIf (!decide (Option.getD (uL d_2 s_1) e0 = x.block)) q7 (T2 (q8 /\ H q5 q6 (stV q4 [q1,q3,(2,some (AObj.cells (fP (Option.getD (cO d_1 s) iG)) true))] 3))))))))))) (T4 (True /\ ∃ (d_2 : Design6),∃ (s_1 : ByteArray),eqL [Value.agg q2,vs (Part.id (Option.getD (cO d_1 s) iG))] [aC d_2,vs s_1] /\ aH d_2.nodes /\ aH d_2.packs /\ FitD d_2 /\ T2 (True /\ pIf (isSome (uL d_2 s_1)) (T4 (T2 (pIf (!decide (Option.getD (uL d_2 s_1) e0 = x.block)) q7 (T2 (q8 /\ H q5 q6 (stV q4 [q1,q3,(2,some (AObj.cells (fP (Option.getD (cO d_1 s) iG)) true))] 3)))))) (T4 (T2 (pIf (!decide (Option.getD (uL d_2 s_1) e0 = x.block)) q7 (T2 (q8 /\ H q5 q6 (stV q4 [q1,q3,(2,some (AObj.cells (fP (Option.getD (cO d_1 s) iG)) true))] 3)))))))))))) (18 <= 18 /\ T4 (T2 (Post (vi 8))))))) (T2 (Post (vi 0))))):=by kernel_rfl
theorem aF6 (d : Design6) (k i n : Int) (x : Pack5) (p : Part) (H : HT) (Post : PV) : bX Tryz.prog aOm 189 [aC d,.int .i64 k] lpCt 14 (stV [(1,some (vi k)),(2,some (pt 0)),(5,some (pt 1)),(6,some (vi i)),(7,some (pt 2)),(11,some (vi n))] [(0,some (.cells (aG d) true)),(1,some (.cells (dB x) true)),(2,some (.cells (fP p) true))] 3) H Post = (let q4:=d.packs; let q3:=(1,some (AObj.cells (dB x) true)); let q2:=aA (aB q4) n.toNat 2; let q1:=(0,some (AObj.cells [vs d.hull,tree 3 d.nodes.length (aB d.nodes),tree 18 d.parts.length (aB d.parts),tree 6 d.seams.length (aB d.seams),tree 5 q4.length (aB q4),tree 3 d.needs.length (aB d.needs)] true)); T2 (True /\ pIf (decide (n < k)) (T2 (True /\ (0 <= n /\ n < (↑q4.length : Int)) /\ True /\ aA (aB q4) n.toNat 2 = tree 1 (toN q2) (toE q2) /\ T2 (∃ (l : List ByteArray),∃ (s : ByteArray),eqL [tree 1 (toN q2) (toE q2),vs p.id] [tree 1 l.length (aB l),vs s] /\ aH l /\ pIf (oG l s) (T2 (True /\ Post (vi 7))) (T4 (True /\ (T2 (True /\ True)) /\ HP H 189 14 (stV [(1,some (vi k)),(2,some (pt 0)),(5,some (pt 1)),(6,some (vi i)),(7,some (pt 2)),(11,some (vi (wrap i64 (n + 1))))] [q1,q3,(2,some (AObj.cells (fP p) true))] 3)))))) (T4 ((T2 (True)) /\ HP H 189 3 (stV [(1,some (vi k)),(2,some (pt 0)),(5,some (pt 1)),(6,some (vi (wrap i64 (i + 1))))] [q1,q3] 2))))):=by kernel_rfl
structure Pair2 where
 a : Int
 b : Int
instance : Enc Pair2 where
 sz:=2
 cells p:=[.int .i64 p.a,.int .i64 p.b]
 len _:=rfl
 nl p:=by intro v hv; simp at hv; rcases hv with rfl | rfl <;> rfl
def aIK (args : List Value) (Post : Value -> Prop) : Prop:=∃ (n : Nat) (es : List Pair2),args = [.int .i64 n,tree 2 es.length (aB es)] /\ n <= 1000 /\ es.length <= 16777216 /\ ∀ (l : List Int) (e : Int),Post (.tuple #[tree 1 l.length (aB l),.int .i64 e])
def aCu (args : List Value) (Post : Value -> Prop) : Prop:=∃ d : Design6,args = [aC d] /\ Few17 d /\ d.packs.length <= 60 /\ (∀ x ∈ d.packs,x.after.length <= 60) /\ Txt17 d /\ FitD d /\ ∀ e : Int,Post (.int .i64 e)
def mB : bH:=nV Tryz.prog [⟨180,aD0⟩,⟨54,aMP⟩,⟨188,aDI⟩,⟨181,aMK⟩,⟨189,aFh⟩,⟨183,aId⟩,⟨190,aIK⟩] aI
abbrev aH8 : List (Nat × List Nat):=[(4,[1,3,4,5]),(19,[1,3,4,5,6,8]),(26,[1,3,4,5,6,8,9])]
theorem aKK (d : Design6) (H : HT) (Post : PV) : vcP Tryz.prog mB 115 aH8 [aC d] H Post = (let q5:=d.needs; let q4:=d.packs; let q3:=d.seams; let q2:=d.parts; let q1:=d.nodes; T2 (True /\ ((T4 (T2 (True))) /\ True) /\ ∃ (d_1 : Design6),eqL [Value.agg #[vs d.hull,tree 3 q1.length (aB q1),tree 18 q2.length (aB q2),tree 6 q3.length (aB q3),tree 5 q4.length (aB q4),tree 3 q5.length (aB q5)]] [aC d_1] /\ Few17 d_1 /\ T4 (True /\ (True /\ True) /\ HP H 115 4 (stV [(1,some (pt 0)),(3,some (tree 1 (length (bG d_1)) (aB (bG d_1)))),(4,some (nS)),(5,some (vi 0))] [(0,some (AObj.cells [vs d.hull,tree 3 q1.length (aB q1),tree 18 q2.length (aB q2),tree 6 q3.length (aB q3),tree 5 q4.length (aB q4),tree 3 q5.length (aB q5)] true))] 1)))):=by kernel_rfl
theorem zV (d : Design6) (n : Nat) (A : Array Value) (i : Int) (H : HT) (Post : PV) : bX Tryz.prog mB 115 [aC d] aH8 4 (stV [(1,some (pt 0)),(3,some (tree 1 n A)),(4,some (.slice none 0 0)),(5,some (vi i))] [(0,some (.cells (aG d) true))] 1) H Post = (let q8:=(T4 (T2 (True))) /\ True /\ True; let q7:=d.needs; let q6:=d.seams; let q5:=d.parts; let q4:=d.nodes; let q3:=length d.packs; let q1:=aB d.packs; let q2:=#[vs d.hull,tree 3 q4.length (aB q4),tree 18 q5.length (aB q5),tree 6 q6.length (aB q6),tree 5 q3 q1,tree 3 q7.length (aB q7)]; T4 (True /\ pIf (decide (i < (↑q3 : Int))) (T2 (True /\ (0 <= i /\ i < (↑q3 : Int)) /\ (aA q1 i.toNat 0 = vs (toS (aA q1 i.toNat 0)) /\ aA q1 i.toNat 1 = vs (toS (aA q1 i.toNat 1)) /\ aA q1 i.toNat 2 = tree 1 (toN (aA q1 i.toNat 2)) (toE (aA q1 i.toNat 2)) /\ aA q1 i.toNat 3 = vi (toI (aA q1 i.toNat 3)) /\ aA q1 i.toNat 4 = tree 1 (toN (aA q1 i.toNat 4)) (toE (aA q1 i.toNat 4)) /\ True) /\ True /\ 5 <= 5 /\ T2 ((True /\ True) /\ ∃ (s : ByteArray),eqL [vs (toS (aA q1 i.toNat 0))] [vs s] /\ s.size < 16777000 /\ pIf (decide (nK s)) (T4 (True /\ q8 /\ ∃ (d_1 : Design6),∃ (s : ByteArray),eqL [Value.agg q2,vs (toS (aA q1 i.toNat 1))] [aC d_1,vs s] /\ aH d_1.nodes /\ pIf (dT d_1 s) (T4 (True /\ pIf (decide (toI (aA q1 i.toNat 3) < 1)) (T4 (True /\ Post (vi 9))) (T4 (pIf (decide (toI (aA q1 i.toNat 3) > 10000)) (T4 (Post (vi 9))) (T4 ((True /\ True) /\ ∃ (l : List ByteArray),eqL [tree 1 (toN (aA q1 i.toNat 2)) (toE (aA q1 i.toNat 2))] [tree 1 l.length (aB l)] /\ aH l /\ ∀ (b : Bool),(b = true -> ∀ (i j : Nat) (hi : i < length l) (hj : j < length l),j < i -> l[j] = l[i] -> False) -> pIf b (T4 ((True /\ True) /\ ∃ (l : List ByteArray),eqL [tree 1 (toN (aA q1 i.toNat 4)) (toE (aA q1 i.toNat 4))] [tree 1 l.length (aB l)] /\ aH l /\ ∀ (b : Bool),(b = true -> ∀ (i j : Nat) (hi : i < length l) (hj : j < length l),j < i -> l[j] = l[i] -> False) -> pIf b (T4 (True /\ q8 /\ ∃ (d_2 : Design6),∃ (k : Nat),eqL [Value.agg q2,vi i] [aC d_2,vi (↑k : Int)] /\ k < length d_2.packs /\ Few17 d_2 /\ FitD d_2 /\ ∀ (e : Int),T2 (True /\ pIf (!decide (e = 0)) (T2 (True /\ Post (vi e))) (T2 ((T2 (True)) /\ HP H 115 19 (stV [(1,some (pt 0)),(3,some (tree 1 n A)),(4,some (nS)),(5,some (vi i)),(6,some (pt 1)),(8,some (vi 0))] [(0,some (AObj.cells [vs d.hull,tree 3 q4.length (aB q4),tree 18 q5.length (aB q5),tree 6 q6.length (aB q6),tree 5 q3 q1,tree 3 q7.length (aB q7)] true)),(1,some (AObj.cells [vs (toS (aA q1 i.toNat 0)),vs (toS (aA q1 i.toNat 1)),tree 1 (toN (aA q1 i.toNat 2)) (toE (aA q1 i.toNat 2)),vi (toI (aA q1 i.toNat 3)),tree 1 (toN (aA q1 i.toNat 4)) (toE (aA q1 i.toNat 4))] true))] 2)))))) (T4 (True /\ Post (vi 11))))) (T4 (T2 (Post (vi 11)))))))))) (T4 (Post (vi 8))))) (T4 (Post (vi 6)))))) (T4 ((T2 (True)) /\ ∃ (n : Nat),∃ (es : List Pair2),eqL [vi (↑q3 : Int),tree 2 0 #[]] [vi (↑n : Int),tree 2 es.length (aB es)] /\ n <= 1000 /\ length es <= 16777216 /\ ∀ (l : List Int) (e : Int),T8 (Post (vi e)))))):=by kernel_rfl
theorem aAF (d : Design6) (n : Nat) (A : Array Value) (i : Int) (j : Nat) (l : List Value) (H : HT) (Post : PV) : bX Tryz.prog mB 115 [aC d] aH8 4 (stV [(1,some (pt 0)),(3,some (tree 1 n A)),(4,some (.slice (some ⟨1,0,none⟩) j 2)),(5,some (vi i))] [(0,some (.cells (aG d) true)),(1,some (.cells l true))] 2) H Post = (let q8:=(T4 (T2 (True))) /\ True /\ True; let q7:=d.needs; let q6:=d.seams; let q5:=d.parts; let q4:=d.nodes; let q3:=length d.packs; let q1:=aB d.packs; let q2:=#[vs d.hull,tree 3 q4.length (aB q4),tree 18 q5.length (aB q5),tree 6 q6.length (aB q6),tree 5 q3 q1,tree 3 q7.length (aB q7)]; T4 (True /\ pIf (decide (i < (↑q3 : Int))) (T2 (True /\ (0 <= i /\ i < (↑q3 : Int)) /\ (aA q1 i.toNat 0 = vs (toS (aA q1 i.toNat 0)) /\ aA q1 i.toNat 1 = vs (toS (aA q1 i.toNat 1)) /\ aA q1 i.toNat 2 = tree 1 (toN (aA q1 i.toNat 2)) (toE (aA q1 i.toNat 2)) /\ aA q1 i.toNat 3 = vi (toI (aA q1 i.toNat 3)) /\ aA q1 i.toNat 4 = tree 1 (toN (aA q1 i.toNat 4)) (toE (aA q1 i.toNat 4)) /\ True) /\ True /\ 5 <= 5 /\ T2 ((True /\ True) /\ ∃ (s : ByteArray),eqL [vs (toS (aA q1 i.toNat 0))] [vs s] /\ s.size < 16777000 /\ pIf (decide (nK s)) (T4 (True /\ q8 /\ ∃ (d_1 : Design6),∃ (s : ByteArray),eqL [Value.agg q2,vs (toS (aA q1 i.toNat 1))] [aC d_1,vs s] /\ aH d_1.nodes /\ pIf (dT d_1 s) (T4 (True /\ pIf (decide (toI (aA q1 i.toNat 3) < 1)) (T4 (True /\ Post (vi 9))) (T4 (pIf (decide (toI (aA q1 i.toNat 3) > 10000)) (T4 (Post (vi 9))) (T4 ((True /\ True) /\ ∃ (l_1 : List ByteArray),eqL [tree 1 (toN (aA q1 i.toNat 2)) (toE (aA q1 i.toNat 2))] [tree 1 l_1.length (aB l_1)] /\ aH l_1 /\ ∀ (b : Bool),(b = true -> ∀ (i j : Nat) (hi : i < length l_1) (hj : j < length l_1),j < i -> l_1[j] = l_1[i] -> False) -> pIf b (T4 ((True /\ True) /\ ∃ (l_2 : List ByteArray),eqL [tree 1 (toN (aA q1 i.toNat 4)) (toE (aA q1 i.toNat 4))] [tree 1 l_2.length (aB l_2)] /\ aH l_2 /\ ∀ (b : Bool),(b = true -> ∀ (i j : Nat) (hi : i < length l_2) (hj : j < length l_2),j < i -> l_2[j] = l_2[i] -> False) -> pIf b (T4 (True /\ q8 /\ ∃ (d_2 : Design6),∃ (k : Nat),eqL [Value.agg q2,vi i] [aC d_2,vi (↑k : Int)] /\ k < length d_2.packs /\ Few17 d_2 /\ FitD d_2 /\ ∀ (e : Int),T2 (True /\ pIf (!decide (e = 0)) (T2 (True /\ Post (vi e))) (T2 ((True /\ NLs l /\ True /\ True) /\ HP H 115 19 (stV [(1,some (pt 0)),(3,some (tree 1 n A)),(4,some (Value.slice (some (Addr.mk 1 0 none)) j 2)),(5,some (vi i)),(6,some (pt 2)),(8,some (vi 0))] [(0,some (AObj.cells [vs d.hull,tree 3 q4.length (aB q4),tree 18 q5.length (aB q5),tree 6 q6.length (aB q6),tree 5 q3 q1,tree 3 q7.length (aB q7)] true)),(1,some (AObj.cells l true)),(2,some (AObj.cells [vs (toS (aA q1 i.toNat 0)),vs (toS (aA q1 i.toNat 1)),tree 1 (toN (aA q1 i.toNat 2)) (toE (aA q1 i.toNat 2)),vi (toI (aA q1 i.toNat 3)),tree 1 (toN (aA q1 i.toNat 4)) (toE (aA q1 i.toNat 4))] true))] 3)))))) (T4 (True /\ Post (vi 11))))) (T4 (T2 (Post (vi 11)))))))))) (T4 (Post (vi 8))))) (T4 (Post (vi 6)))))) (T4 ((True /\ (0 + j * 2 <= length l /\ NLs l) /\ True) /\ ∃ (n : Nat),∃ (es : List Pair2),eqL [vi (↑q3 : Int),tree 2 j (bP 2 j (List.drop 0 l))] [vi (↑n : Int),tree 2 es.length (aB es)] /\ n <= 1000 /\ length es <= 16777216 /\ ∀ (l : List Int) (e : Int),T8 (Post (vi e)))))):=by kernel_rfl
theorem aA7 (d : Design6) (n : Nat) (A : Array Value) (i : Int) (x : Pack5) (k : Int) (H : HT) (Post : PV) : bX Tryz.prog mB 115 [aC d] aH8 19 (stV [(1,some (pt 0)),(3,some (tree 1 n A)),(4,some (.slice none 0 0)),(5,some (vi i)),(6,some (pt 1)),(8,some (vi k))] [(0,some (.cells (aG d) true)),(1,some (.cells (dB x) true))] 2) H Post = (let q3:=(↑x.after.length : Int); let q2:=aA (aB x.after) k.toNat 0; let q1:=(0,some (AObj.cells (aG d) true)); T4 (True /\ pIf (decide (k < q3)) (T2 (True /\ (0 <= k /\ k < q3) /\ aA (aB x.after) k.toNat 0 = vs (toS q2) /\ T2 (True /\ pIf (decide (toS q2 = x.id)) (T2 (Post (vi 2))) (T4 ((0 <= k /\ k < q3) /\ aA (aB x.after) k.toNat 0 = vs (toS q2) /\ (T2 (True)) /\ ∃ (l : List ByteArray),∃ (s : ByteArray),eqL [tree 1 n A,vs (toS q2)] [tree 1 l.length (aB l),vs s] /\ aH l /\ pIf (oG l s) (T2 (True /\ (T2 (True)) /\ HP H 115 26 (stV [(1,some (pt 0)),(3,some (tree 1 n A)),(4,some (nS)),(5,some (vi i)),(6,some (pt 1)),(8,some (vi k)),(9,some (vi 0))] [q1,(1,some (AObj.cells (dB x) true))] 2))) (T2 (True /\ Post (vi 8)))))))) (T4 ((True /\ True) /\ HP H 115 4 (stV [(1,some (pt 0)),(3,some (tree 1 n A)),(4,some (nS)),(5,some (vi (wrap i64 (i + 1))))] [q1] 1))))):=by kernel_rfl
theorem zT (d : Design6) (n : Nat) (A : Array Value) (i : Int) (x : Pack5) (k : Int) (j : Nat) (l : List Value) (H : HT) (Post : PV) : bX Tryz.prog mB 115 [aC d] aH8 19 (stV [(1,some (pt 0)),(3,some (tree 1 n A)),(4,some (.slice (some ⟨1,0,none⟩) j 2)),(5,some (vi i)),(6,some (pt 2)),(8,some (vi k))] [(0,some (.cells (aG d) true)),(1,some (.cells l true)),(2,some (.cells (dB x) true))] 3) H Post = (let q4:=(↑x.after.length : Int); let q3:=(4,some (Value.slice (some (Addr.mk 1 0 none)) j 2)); let q2:=aA (aB x.after) k.toNat 0; let q1:=(0,some (AObj.cells (aG d) true)); T4 (True /\ pIf (decide (k < q4)) (T2 (True /\ (0 <= k /\ k < q4) /\ aA (aB x.after) k.toNat 0 = vs (toS q2) /\ T2 (True /\ pIf (decide (toS q2 = x.id)) (T2 (Post (vi 2))) (T4 ((0 <= k /\ k < q4) /\ aA (aB x.after) k.toNat 0 = vs (toS q2) /\ (T2 (True)) /\ ∃ (l_1 : List ByteArray),∃ (s : ByteArray),eqL [tree 1 n A,vs (toS q2)] [tree 1 l_1.length (aB l_1),vs s] /\ aH l_1 /\ pIf (oG l_1 s) (T2 (True /\ (True /\ NLs l /\ True /\ True) /\ HP H 115 26 (stV [(1,some (pt 0)),(3,some (tree 1 n A)),q3,(5,some (vi i)),(6,some (pt 2)),(8,some (vi k)),(9,some (vi 0))] [q1,(1,some (AObj.cells l true)),(2,some (AObj.cells (dB x) true))] 3))) (T2 (True /\ Post (vi 8)))))))) (T4 ((True /\ NLs l /\ True) /\ HP H 115 4 (stV [(1,some (pt 0)),(3,some (tree 1 n A)),q3,(5,some (vi (wrap i64 (i + 1))))] [q1,(1,some (AObj.cells l true))] 2))))):=by kernel_rfl
theorem aBj (d : Design6) (n : Nat) (A : Array Value) (i : Int) (x : Pack5) (k : Int) (q : Int) (H : HT) (Post : PV) : bX Tryz.prog mB 115 [aC d] aH8 26 (stV [(1,some (pt 0)),(3,some (tree 1 n A)),(4,some (.slice none 0 0)),(5,some (vi i)),(6,some (pt 1)),(8,some (vi k)),(9,some (vi q))] [(0,some (.cells (aG d) true)),(1,some (.cells (dB x) true))] 2) H Post = (let q5:=aA (aB x.after) k.toNat 0; let q4:=(3,some (tree 1 n A)); let q3:=(9,some (vi (wrap i64 (q + 1)))); let q2:=AObj.cells (dB x) true; let q1:=(0,some (AObj.cells (aG d) true)); T4 (pIf (decide (q < (↑n : Int))) (T2 ((0 <= q /\ q < (↑n : Int)) /\ aA A q.toNat 0 = vs (toS (aA A q.toNat 0)) /\ T2 (True /\ (0 <= k /\ k < (↑x.after.length : Int)) /\ aA (aB x.after) k.toNat 0 = vs (toS q5) /\ True /\ pIf (decide (toS (aA A q.toNat 0) = toS q5)) (T4 (True /\ 2 <= 2 /\ 1 <= 33554432 /\ true = true /\ 2 = 2 /\ T4 (True /\ (True /\ NLs [vi q,vi i] /\ True /\ True) /\ HP H 115 26 (stV [(1,some (pt 0)),q4,(4,some (Value.slice (some (Addr.mk 1 0 none)) 1 2)),(5,some (vi i)),(6,some (pt 2)),(8,some (vi k)),q3] [q1,(1,some (AObj.cells [vi q,vi i] true)),(2,some q2)] 3)))) (T4 ((T2 (True)) /\ HP H 115 26 (stV [(1,some (pt 0)),q4,(4,some (nS)),(5,some (vi i)),(6,some (pt 1)),(8,some (vi k)),q3] [q1,(1,some q2)] 2)))))) (T4 ((T2 (True)) /\ HP H 115 19 (stV [(1,some (pt 0)),q4,(4,some (nS)),(5,some (vi i)),(6,some (pt 1)),(8,some (vi (wrap i64 (k + 1))))] [q1,(1,some q2)] 2))))):=by kernel_rfl
theorem aA4 (d : Design6) (n : Nat) (A : Array Value) (i : Int) (x : Pack5) (k : Int) (q : Int) (j : Nat) (l : List Value) (H : HT) (Post : PV) : bX Tryz.prog mB 115 [aC d] aH8 26 (stV [(1,some (pt 0)),(3,some (tree 1 n A)),(4,some (.slice (some ⟨1,0,none⟩) j 2)),(5,some (vi i)),(6,some (pt 2)),(8,some (vi k)),(9,some (vi q))] [(0,some (.cells (aG d) true)),(1,some (.cells l true)),(2,some (.cells (dB x) true))] 3) H Post = (let q1:=(0,some (AObj.cells (aG d) true)); let q2:=(2,some (AObj.cells (dB x) true)); let q7:=[q1,(1,some (AObj.cells l true)),q2]; let q6:=aA (aB x.after) k.toNat 0; let q5:=(3,some (tree 1 n A)); let q4:=(9,some (vi (wrap i64 (q + 1)))); let q3:=(4,some (Value.slice (some (Addr.mk 1 0 none)) j 2)); T4 (pIf (decide (q < (↑n : Int))) (T2 ((0 <= q /\ q < (↑n : Int)) /\ aA A q.toNat 0 = vs (toS (aA A q.toNat 0)) /\ T2 (True /\ (0 <= k /\ k < (↑x.after.length : Int)) /\ aA (aB x.after) k.toNat 0 = vs (toS q6) /\ True /\ pIf (decide (toS (aA A q.toNat 0) = toS q6)) (T4 (True /\ 2 <= 2 /\ j + 1 <= 33554432 /\ true = true /\ 2 = 2 /\ 0 + j * 2 = length l /\ T4 (True /\ (True /\ NLs (l ++ [vi q,vi i]) /\ True /\ True) /\ HP H 115 26 (stV [(1,some (pt 0)),q5,(4,some (Value.slice (some (Addr.mk 1 0 none)) (j + 1) 2)),(5,some (vi i)),(6,some (pt 2)),(8,some (vi k)),q4] [q1,(1,some (AObj.cells (l ++ [vi q,vi i]) true)),q2] 3)))) (T4 ((True /\ NLs l /\ True /\ True) /\ HP H 115 26 (stV [(1,some (pt 0)),q5,q3,(5,some (vi i)),(6,some (pt 2)),(8,some (vi k)),q4] q7 3)))))) (T4 ((True /\ NLs l /\ True /\ True) /\ HP H 115 19 (stV [(1,some (pt 0)),q5,q3,(5,some (vi i)),(6,some (pt 2)),(8,some (vi (wrap i64 (k + 1))))] q7 3))))):=by kernel_rfl
def aC6 (args : List Value) (Post : Value -> Prop) : Prop:=∃ d : Design6,args = [aC d] /\ Few17 d /\ ∀ e : Int,Post (.int .i64 e)
def vcNe : bH:=aU [⟨191,aHh⟩,⟨188,aDI⟩] aI
theorem aKl (d : Design6) (H : HT) (Post : PV) : vcP Tryz.prog vcNe 116 [(2,[1,3])] [aC d] H Post = (T4 ((True /\ True) /\ HP H 116 2 (stV [(1,some (pt 0)),(3,some (vi 0))] [(0,some (AObj.cells (aG d) true))] 1))):=by kernel_rfl
theorem aCh (d : Design6) (k : Int) (H : HT) (Post : PV) : bX Tryz.prog vcNe 116 [aC d] [(2,[1,3])] 2 (stV [(1,some (pt 0)),(3,some (vi k))] [(0,some (.cells (aG d) true))] 1) H Post = (let q7:=aB d.needs; let q6:=aA q7 k.toNat 2; let q17:=decide (toS q6 = ByteArray.mk #[]); let q16:=d.packs; let q15:=d.seams; let q14:=d.parts; let q13:=d.nodes; let q12:=aA q7 k.toNat 1; let q4:=aA q7 k.toNat 0; let q11:=decide (toI q4 = 2); let q10:=length d.needs; let q9:=decide (toI q4 = 3); let q1:=#[vs d.hull,tree 3 q13.length (aB q13),tree 18 q14.length (aB q14),tree 6 q15.length (aB q15),tree 5 q16.length (aB q16),tree 3 q10 q7]; let q8:=[Value.agg q1,vs (toS q6)]; let q5:=True /\ Post (vi 8); let q3:=[Value.agg q1,vs (toS q12)]; let q2:=T8 (True /\ (True /\ True) /\ HP H 116 2 (stV [(1,some (pt 0)),(3,some (vi (wrap i64 (k + 1))))] [(0,some (AObj.cells [vs d.hull,tree 3 q13.length (aB q13),tree 18 q14.length (aB q14),tree 6 q15.length (aB q15),tree 5 q16.length (aB q16),tree 3 q10 q7] true))] 1)); T4 (True /\ pIf (decide (k < (↑q10 : Int))) (T2 (True /\ (0 <= k /\ k < (↑q10 : Int)) /\ (aA q7 k.toNat 0 = vi (toI q4) /\ aA q7 k.toNat 1 = vs (toS q12) /\ aA q7 k.toNat 2 = vs (toS q6) /\ True) /\ True /\ 3 <= 3 /\ T2 (True /\ pIf (decide (toI q4 < 1)) (T4 (Post (vi 10))) (T4 (pIf (decide (toI q4 > 3)) (T2 (True /\ Post (vi 10))) (T4 (T2 (pIf (decide (toS q6 = toS q12)) (T2 (Post (vi 2))) (T2 (True /\ ∃ (d_1 : Design6),∃ (s : ByteArray),eqL q8 [aC d_1,vs s] /\ aH d_1.packs /\ T2 (True /\ pIf (isSome (lY d_1 s)) (True /\ 5 <= 5 /\ T4 (pIf (decide (toI q4 = 1)) (T4 (pIf q17 (T8 (T2 (True /\ ∃ (d_2 : Design6),∃ (s : ByteArray),eqL q3 [aC d_2,vs s] /\ aH d_2.nodes /\ pIf (dT d_2 s) q2 (T4 q5)))) (T4 (∃ (d_2 : Design6),∃ (s : ByteArray),eqL q8 [aC d_2,vs s] /\ aH d_2.nodes /\ pIf (dT d_2 s) (T8 (T2 (∃ (d_3 : Design6),∃ (s : ByteArray),eqL q3 [aC d_3,vs s] /\ aH d_3.nodes /\ pIf (dT d_3 s) q2 (T4 q5)))) (T4 (T2 (pIf q11 (T4 (∃ (d_3 : Design6),∃ (s : ByteArray),eqL q8 [aC d_3,vs s] /\ aH d_3.nodes /\ pIf (dT d_3 s) (T8 (∃ (d_4 : Design6),∃ (s : ByteArray),eqL q3 [aC d_4,vs s] /\ aH d_4.nodes /\ pIf (dT d_4 s) q2 (T4 q5))) (T4 (T2 (pIf q9 (T8 (∃ (d_4 : Design6),∃ (s : ByteArray),eqL q3 [aC d_4,vs s] /\ aH d_4.nodes /\ pIf (dT d_4 s) q2 (T4 q5))) (T4 (T2 (True /\ ∃ (d_4 : Design6),∃ (s : ByteArray),eqL q3 [aC d_4,vs s] /\ aH d_4.nodes /\ pIf (dT d_4 s) (T4 (T2 q5)) (T4 q5))))))))) (T4 (T2 (True /\ pIf q9 (T8 (∃ (d_3 : Design6),∃ (s : ByteArray),eqL q3 [aC d_3,vs s] /\ aH d_3.nodes /\ pIf (dT d_3 s) q2 (T4 q5))) (T4 (T2 (True /\ ∃ (d_3 : Design6),∃ (s : ByteArray),eqL q3 [aC d_3,vs s] /\ aH d_3.nodes /\ pIf (dT d_3 s) (T4 (T2 q5)) (T4 q5)))))))))))))) (T4 (T2 (pIf q11 (T4 (∃ (d_2 : Design6),∃ (s : ByteArray),eqL q8 [aC d_2,vs s] /\ aH d_2.nodes /\ pIf (dT d_2 s) (T8 (∃ (d_3 : Design6),∃ (s : ByteArray),eqL q3 [aC d_3,vs s] /\ aH d_3.nodes /\ pIf (dT d_3 s) q2 (T4 q5))) (T4 (T2 (pIf q9 (T8 (∃ (d_3 : Design6),∃ (s : ByteArray),eqL q3 [aC d_3,vs s] /\ aH d_3.nodes /\ pIf (dT d_3 s) q2 (T4 q5))) (T4 (T2 (True /\ ∃ (d_3 : Design6),∃ (s : ByteArray),eqL q3 [aC d_3,vs s] /\ aH d_3.nodes /\ pIf (dT d_3 s) (T4 (T2 q5)) (T4 q5))))))))) (T4 (T2 (True /\ pIf q9 (T8 (∃ (d_2 : Design6),∃ (s : ByteArray),eqL q3 [aC d_2,vs s] /\ aH d_2.nodes /\ pIf (dT d_2 s) q2 (T4 q5))) (T4 (T2 (True /\ ∃ (d_2 : Design6),∃ (s : ByteArray),eqL q3 [aC d_2,vs s] /\ aH d_2.nodes /\ pIf (dT d_2 s) (T4 (T2 q5)) (T4 q5)))))))))))) (True /\ 5 <= 5 /\ T4 (pIf (decide (toI q4 = 1)) (T4 (pIf q17 (T8 (T2 (True /\ ∃ (d_2 : Design6),∃ (s : ByteArray),eqL q3 [aC d_2,vs s] /\ aH d_2.nodes /\ pIf (dT d_2 s) q2 (T4 q5)))) (T4 (∃ (d_2 : Design6),∃ (s : ByteArray),eqL q8 [aC d_2,vs s] /\ aH d_2.nodes /\ pIf (dT d_2 s) (T8 (T2 (∃ (d_3 : Design6),∃ (s : ByteArray),eqL q3 [aC d_3,vs s] /\ aH d_3.nodes /\ pIf (dT d_3 s) q2 (T4 q5)))) (T4 (T2 (pIf q11 (T4 (∃ (d_3 : Design6),∃ (s : ByteArray),eqL q8 [aC d_3,vs s] /\ aH d_3.nodes /\ pIf (dT d_3 s) (T8 (∃ (d_4 : Design6),∃ (s : ByteArray),eqL q3 [aC d_4,vs s] /\ aH d_4.nodes /\ pIf (dT d_4 s) q2 (T4 q5))) (T4 (T2 (pIf q9 (T8 (∃ (d_4 : Design6),∃ (s : ByteArray),eqL q3 [aC d_4,vs s] /\ aH d_4.nodes /\ pIf (dT d_4 s) (T4 (T2 q5)) (T4 q5))) (T4 (T2 (True /\ ∃ (d_4 : Design6),∃ (s : ByteArray),eqL q3 [aC d_4,vs s] /\ aH d_4.nodes /\ pIf (dT d_4 s) (T4 (T2 q5)) (T4 q5))))))))) (T4 (T2 (True /\ pIf q9 (T8 (∃ (d_3 : Design6),∃ (s : ByteArray),eqL q3 [aC d_3,vs s] /\ aH d_3.nodes /\ pIf (dT d_3 s) (T4 (T2 q5)) (T4 q5))) (T4 (T2 (True /\ ∃ (d_3 : Design6),∃ (s : ByteArray),eqL q3 [aC d_3,vs s] /\ aH d_3.nodes /\ pIf (dT d_3 s) (T4 (T2 q5)) (T4 q5)))))))))))))) (T4 (T2 (pIf q11 (T4 (∃ (d_2 : Design6),∃ (s : ByteArray),eqL q8 [aC d_2,vs s] /\ aH d_2.nodes /\ pIf (dT d_2 s) (T8 (∃ (d_3 : Design6),∃ (s : ByteArray),eqL q3 [aC d_3,vs s] /\ aH d_3.nodes /\ pIf (dT d_3 s) q2 (T4 q5))) (T4 (T2 (pIf q9 (T8 (∃ (d_3 : Design6),∃ (s : ByteArray),eqL q3 [aC d_3,vs s] /\ aH d_3.nodes /\ pIf (dT d_3 s) (T4 (T2 q5)) (T4 q5))) (T4 (T2 (True /\ ∃ (d_3 : Design6),∃ (s : ByteArray),eqL q3 [aC d_3,vs s] /\ aH d_3.nodes /\ pIf (dT d_3 s) (T4 (T2 q5)) (T4 q5))))))))) (T4 (T2 (True /\ pIf q9 (T8 (∃ (d_2 : Design6),∃ (s : ByteArray),eqL q3 [aC d_2,vs s] /\ aH d_2.nodes /\ pIf (dT d_2 s) (T4 (T2 q5)) (T4 q5))) (T4 (T2 (True /\ ∃ (d_2 : Design6),∃ (s : ByteArray),eqL q3 [aC d_2,vs s] /\ aH d_2.nodes /\ pIf (dT d_2 s) (T4 (T2 q5)) (T4 q5))))))))))))))))))))))) (T2 (Post (vi 0))))):=by kernel_rfl
def aEY (args : List Value) (Post : Value -> Prop) : Prop:=∃ m : Mats,args = [bD m] /\ FewR m /\ ∀ e : Int,Post (.int .i64 e)
def aGe (args : List Value) (Post : Value -> Prop) : Prop:=∃ l : List Grade4,args = [tree 4 l.length (aB l)] /\ aH l /\ (∀ g ∈ l,aH g.gauges) /\ ∀ e : Int,Post (.int .i64 e)
def aFd (args : List Value) (Post : Value -> Prop) : Prop:=∃ l : List Int,args = [tree 1 l.length (aB l)] /\ aH l /\ ∀ e : Int,Post (.int .i64 e)
def vcGa : bH:=cT Tryz.prog [179] aI 2
theorem aLG (n : Nat) (A : Array Value) (H : HT) (Post : PV) : vcP Tryz.prog vcGa 221 [(6,[0,3])] [tree 1 n A] H Post = (T4 (pIf (decide ((↑n : Int) = 0)) (T2 (Post (vi 3))) (T2 (True /\ pIf (decide ((↑n : Int) > 16)) (T2 (Post (vi 4))) (T2 (True /\ HP H 221 6 (stV [(0,some (tree 1 n A)),(3,some (vi 0))] [] 0))))))):=by kernel_rfl
theorem aGd (n : Nat) (A : Array Value) (k : Int) (H : HT) (Post : PV) : bX Tryz.prog vcGa 221 [tree 1 n A] [(6,[0,3])] 6 (stV [(0,some (tree 1 n A)),(3,some (vi k))] [] 0) H Post = (let q3:=stV [(0,some (tree 1 n A)),(3,some (vi (wrap i64 (k + 1))))] [] 0; let q2:=Int.toNat (wrap i64 (k - 1)); let q1:=aA A k.toNat 0; T4 (pIf (decide (k < (↑n : Int))) (T2 ((0 <= k /\ k < (↑n : Int)) /\ aA A k.toNat 0 = vi (toI q1) /\ T4 (pIf (decide (toI q1 >= 1)) (T4 (pIf (decide (toI q1 <= 120)) (T4 (True /\ pIf (decide (k > 0)) (T2 (True /\ (0 <= k /\ k < (↑n : Int)) /\ aA A k.toNat 0 = vi (toI q1) /\ T2 (True /\ (0 <= wrap i64 (k - 1) /\ wrap i64 (k - 1) < (↑n : Int)) /\ aA A q2 0 = vi (toI (aA A q2 0)) /\ True /\ pIf (decide (toI q1 <= toI (aA A q2 0))) (T2 (True /\ Post (vi 11))) (T4 (T2 (HP H 221 6 q3)))))) (T4 (T2 (True /\ HP H 221 6 q3))))) (T4 (True /\ Post (vi 9))))) (T4 (T2 (Post (vi 9))))))) (T2 (Post (vi 0))))):=by kernel_rfl
def vcGr : bH:=cT Tryz.prog [179] (aU [⟨127,pF⟩,⟨221,aFd⟩] aI) 2
theorem aO6 (n : Nat) (A : Array Value) (H : Code -> List Fr -> AS -> Prop) (Post : Value -> Prop) : vcP Tryz.prog vcGr 178 [(2,[0,3])] [tree 4 n A] H Post = (True /\ True /\ True /\ True /\ HP H 178 2 (stV [(0,some (tree 4 n A)),(3,some (Value.int i64 0))] [] 0)):=by kernel_rfl
theorem aFa (n : Nat) (A : Array Value) (k : Int) (H : HT) (Post : PV) : bX Tryz.prog vcGr 178 [tree 4 n A] [(2,[0,3])] 2 (stV [(0,some (tree 4 n A)),(3,some (vi k))] [] 0) H Post = (let q1:=Int.toNat (wrap i64 (k - 1)); let q8:=toS (aA A q1 0); let q7:=aA A k.toNat 2; let q6:=aA A k.toNat 1; let q5:=aA A k.toNat 3; let q4:=(0 <= k /\ k < (↑n : Int)); let q3:=stV [(0,some (tree 4 n A)),(3,some (vi (wrap i64 (k + 1))))] [] 0; let q2:=toS (aA A k.toNat 0); T4 (pIf (decide (k < (↑n : Int))) (T2 (q4 /\ True /\ aA A k.toNat 0 = vs q2 /\ pIf (decide (iR q2)) (T2 (True /\ q4 /\ True /\ aA A k.toNat 1 = vi (toI q6) /\ T4 (pIf (decide (toI q6 >= 1000)) (T4 (pIf (decide (toI q6 <= 20000)) (T4 (T2 (q4 /\ True /\ aA A k.toNat 2 = vi (toI q7) /\ T4 (pIf (decide (toI q7 >= 100)) (T4 (pIf (decide (toI q7 <= 1500)) (T4 (T2 (q4 /\ True /\ aA A k.toNat 3 = tree 1 (toN q5) (toE q5) /\ ∃ (l : List Int),eqL [tree 1 (toN q5) (toE q5)] [tree 1 l.length (aB l)] /\ aH l /\ ∀ (e : Int),T2 (True /\ pIf (!decide (e = 0)) (T2 (True /\ Post (vi e))) (T2 (pIf (decide (k > 0)) (T2 (True /\ q4 /\ True /\ aA A k.toNat 0 = vs q2 /\ T2 (True /\ (0 <= wrap i64 (k - 1) /\ wrap i64 (k - 1) < (↑n : Int)) /\ True /\ aA A q1 0 = vs q8 /\ True /\ pIf (Op.bytesLess (ByteArray.toList q2) (ByteArray.toList q8) || ByteArray.toList q2 == ByteArray.toList q8) (T2 (True /\ Post (vi 11))) (T4 (T2 (HP H 178 2 q3)))))) (T4 (T2 (True /\ HP H 178 2 q3))))))))) (T4 (T2 (Post (vi 9)))))) (T4 (T2 (True /\ Post (vi 9)))))))) (T4 (T2 (True /\ Post (vi 9)))))) (T8 (Post (vi 9)))))) (T2 (True /\ Post (vi 6))))) (T2 (Post (vi 0))))):=by kernel_rfl
def vcM5 : bH:=cT Tryz.prog [179] (aU [⟨127,pF⟩,⟨178,aGe⟩] aI) 2
theorem aN4 (m : Mats) (H : HT) (Post : PV) : vcP Tryz.prog vcM5 110 [(7,[1,4])] [bD m] H Post = (let q1:=length m.grades; T4 (T2 (pIf (decide ((↑q1 : Int) > 16)) (T4 (Post (vi 4))) (T4 (True /\ pIf (decide ((↑m.sects.length : Int) > 32)) (T2 (True /\ Post (vi 4))) (T2 (True /\ ∃ (l : List Grade4),eqL [tree 4 q1 (aB m.grades)] [tree 4 l.length (aB l)] /\ aH l /\ (∀ (g : Grade4),g ∈ l -> aH g.gauges) /\ ∀ (e : Int),T2 (True /\ pIf (!decide (e = 0)) (T2 (True /\ Post (vi e))) (T2 ((True /\ True) /\ HP H 110 7 (stV [(1,some (pt 0)),(4,some (vi 0))] [(0,some (AObj.cells [tree 4 q1 (aB m.grades),tree 4 m.sects.length (aB m.sects)] true))] 1))))))))))):=by kernel_rfl
theorem aFk (m : Mats) (k : Int) (H : HT) (Post : PV) : bX Tryz.prog vcM5 110 [bD m] [(7,[1,4])] 7 (stV [(1,some (pt 0)),(4,some (vi k))] [(0,some (.cells (dO m) true))] 1) H Post = (let q10:=True /\ Post (vi 9); let q1:=aB m.sects; let q3:=Int.toNat (wrap i64 (k - 1)); let q9:=toS (aA q1 q3 0); let q8:=aA q1 k.toNat 3; let q7:=aA q1 k.toNat 2; let q6:=aA q1 k.toNat 1; let q5:=length m.sects; let q4:=toS (aA q1 k.toNat 0); let q2:=stV [(1,some (pt 0)),(4,some (vi (wrap i64 (k + 1))))] [(0,some (AObj.cells [tree 4 m.grades.length (aB m.grades),tree 4 q5 q1] true))] 1; T4 (True /\ pIf (decide (k < (↑q5 : Int))) (T2 (True /\ (0 <= k /\ k < (↑q5 : Int)) /\ (aA q1 k.toNat 0 = vs q4 /\ aA q1 k.toNat 1 = vi (toI q6) /\ aA q1 k.toNat 2 = vi (toI q7) /\ aA q1 k.toNat 3 = vi (toI q8) /\ True) /\ True /\ 4 <= 4 /\ T2 (pIf (decide (iR q4)) (T4 (T2 (True /\ pIf (decide (toI q6 >= 1)) (T4 (pIf (decide (toI q6 <= 1000000)) (T8 (T2 (pIf (decide (toI q7 >= 1)) (T4 (pIf (decide (toI q7 <= 2000)) (T8 (T2 (True /\ pIf (decide (toI q8 >= 100)) (T4 (pIf (decide (toI q8 <= 32768)) (T4 (T2 (pIf (decide (k > 0)) (T4 (T2 (True /\ (0 <= wrap i64 (k - 1) /\ wrap i64 (k - 1) < (↑q5 : Int)) /\ True /\ aA q1 q3 0 = vs q9 /\ True /\ pIf (Op.bytesLess (ByteArray.toList q4) (ByteArray.toList q9) || ByteArray.toList q4 == ByteArray.toList q9) (T2 (True /\ Post (vi 11))) (T4 (True /\ (True /\ True) /\ HP H 110 7 q2))))) (T4 (T2 ((True /\ True) /\ HP H 110 7 q2)))))) (T4 (T2 (Post (vi 9)))))) (T4 (T2 q10))))) (T8 (Post (vi 9))))) (T8 q10)))) (T8 q10))) (T8 (T2 (Post (vi 9))))))) (T2 (True /\ Post (vi 6)))))) (T2 (Post (vi 0))))):=by kernel_rfl
def aCJ (args : List Value) (Post : Value -> Prop) : Prop:=∃ (d : Design6) (m : Mats),args = [aC d,bD m] /\ sE d 60 /\ Txt17 d /\ FitD d /\ FitP17 d /\ FewR m /\ ∀ e : Int,(e = 0 -> jP (bC d) /\ (∀ p ∈ d.parts,bF p m = 0) /\ (d.parts.map fun p=>bT p m).sum <= 1099511627776) -> Post (.int .i64 e)
def aQL : bH:=aU [⟨110,aEY⟩,⟨111,aEW⟩,⟨112,aCI⟩,⟨113,aCP⟩,⟨114,aCs⟩,⟨115,aCu⟩,⟨116,aC6⟩] aI
theorem aKa (d : Design6) (m : Mats) (H : HT) (Post : PV) : vcP Tryz.prog aQL 44 [] [aC d,bD m] H Post = (let q2:=(dO m).toArray; let q1:=(aG d).toArray; T4 (∃ (m_1 : Mats),eqL [Value.agg q2] [bD m_1] /\ FewR m_1 /\ ∀ (e : Int),T2 (True /\ pIf (!decide (e = 0)) (T2 (True /\ Post (vi e))) (True /\ ∃ (d_1 : Design6),eqL [Value.agg q1] [aC d_1] /\ Few17 d_1 /\ ∀ (e : Int),(e = 0 -> ∀ (i j : Nat) (hi : i < length (bC d_1)) (hj : j < length (bC d_1)),j < i -> (bC d_1)[j] = (bC d_1)[i] -> False) -> T2 (True /\ pIf (!decide (e = 0)) (T2 (True /\ Post (vi e))) (True /\ ∃ (d_2 : Design6),eqL [Value.agg q1] [aC d_2] /\ Few17 d_2 /\ Txt17 d_2 /\ FitD d_2 /\ ∀ (e : Int),T2 (True /\ pIf (!decide (e = 0)) (T2 (True /\ Post (vi e))) (T2 (∃ (d_3 : Design6),∃ (m_2 : Mats),eqL [Value.agg q1,Value.agg q2] [aC d_3,bD m_2] /\ Few17 d_3 /\ FitP17 d_3 /\ FewR m_2 /\ ∀ (e : Int),(e = 0 -> (∀ (p : Part),p ∈ d_3.parts -> bF p m_2 = 0) /\ List.sum (List.map (fun (p : Part)=>bT p m_2) d_3.parts) <= 1099511627776) -> T2 (True /\ pIf (!decide (e = 0)) (T2 (True /\ Post (vi e))) (True /\ ∃ (d_4 : Design6),eqL [Value.agg q1] [aC d_4] /\ Few17 d_4 /\ Txt17 d_4 /\ FitD d_4 /\ ∀ (e : Int),T2 (True /\ pIf (!decide (e = 0)) (T2 (True /\ Post (vi e))) (True /\ ∃ (d_5 : Design6),eqL [Value.agg q1] [aC d_5] /\ Few17 d_5 /\ length d_5.packs <= 60 /\ (∀ (x : Pack5),x ∈ d_5.packs -> length x.after <= 60) /\ Txt17 d_5 /\ FitD d_5 /\ ∀ (e : Int),T2 (True /\ pIf (!decide (e = 0)) (T2 (True /\ Post (vi e))) (True /\ ∃ (d_6 : Design6),eqL [Value.agg q1] [aC d_6] /\ Few17 d_6 /\ ∀ (e : Int),T2 (Post (vi e))))))))))))))))):=by kernel_rfl
def okEs (n : Nat) (es : List Pair2) : Prop:=∀ x ∈ es,0 <= x.a /\ x.a < n /\ 0 <= x.b /\ x.b < n
end Go.Proofs.YtngginofamlkkaaGreatDoor
