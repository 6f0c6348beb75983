/-
  Put together out of several texts, each in its own namespace's block. Conditions: as each theorem states them.
-/
import Derived.Test.YtngginofamlkkaaGreatDoorQPva
import Derived.Test.YtngginofamlkkaaGreatDoorQSm
noncomputable section
namespace Go.Proofs.YtngginofamlkkaaGreatDoor
open Go Go.RowKit
open Int (toNat toNat_natCast)
open Go.IntKind (i64 u64 wrap)
open List (length length_map mem_cons not_mem_nil)
open Nat (le_refl)
open Option (isSome)
set_option maxRecDepth 100000
set_option maxHeartbeats 8000000
theorem vX {k : Int} : cB k = 1 ↔ k = 1:=by
 unfold cB
 repeat' split
 all_goals omega
theorem aA1 {k : Int} : cB k = 2 ↔ k = 2 ∨ k = 3:=by
 unfold cB
 repeat' split
 all_goals omega
theorem aGy {k : Int} : cB k = 3 ↔ k = 4:=by
 unfold cB
 repeat' split
 all_goals omega
theorem oF {k : Int} : cB k = 0 ↔ k < 1 ∨ 4 < k:=by
 unfold cB
 repeat' split
 all_goals omega
theorem aGG {p : Part} (h : cB p.kind ≠ 0) : iD p ↔ (p.kind = 1 /\ (jN p ∨ jQ p)) ∨ (p.kind = 4 /\ (p.grade ≠ ⟨#[]⟩ ∨ gY p ∨ jN p)) ∨ (p.kind ≠ 1 /\ p.kind ≠ 4 /\ (gY p ∨ jQ p)):=by
 unfold iD
 have h0:=h
 rw [Ne,oF] at h
 rw [Ne,Ne,vX,aA1]
 generalize jN p = A
 generalize jQ p = B
 generalize gY p = C
 generalize (p.grade ≠ ⟨#[]⟩) = D
 by_cases h1 : p.kind = 1
 ·simp [h1]
 ·by_cases h4 : p.kind = 4
  ·simp [h4]
  ·have h2 : p.kind = 2 ∨ p.kind = 3:=by omega
   simp [h1,h4,h2]
theorem aKJ : aZ Tryz.prog ⟨55,aFy⟩:=by
 rintro args Post ⟨p,rfl,hf,h0,h⟩
 refine aN (bL mixed aD 2) mixed (by kernel_rfl) (by kernel_rfl) _ (aNz p _ _) ?_
 have lo : (((p.outer.length : Nat) : Int) = 0) = (p.outer.length = 0):=propext (by omega)
 have lh : (((p.holes.length : Nat) : Int) = 0) = (p.holes.length = 0):=propext (by omega)
 have ls : (0 < p.outer.length + p.holes.length) = ¬ (p.outer.length = 0 /\ p.holes.length = 0):=propext (by omega)
 simp only [true_and,aGa,lo,lh]
 have yes : iD p -> Post (.bool true):=fun hp=>by rwa [decide_eq_true hp] at h
 have no : ¬ iD p -> Post (.bool false):=fun hp=>by rwa [decide_eq_false hp] at h
 clear h
 rw [aGG h0] at yes no
 unfold gY jN jQ at yes no
 rw [ls] at yes no
 clear lo lh ls h0
 generalize p.thick = q2 at *
 generalize p.sect = q3 at *
 generalize p.long = q4 at *
 generalize p.mass = q5 at *
 generalize p.centre = q6 at *
 generalize p.grade = q7 at *
 generalize p.kind = q8 at *
 generalize p.outer.length = q9 at *
 generalize p.holes.length = q10 at *
 repeat' (first
  | refine ifN (fun _=>?_) (fun _=>?_)
  | refine ifD (fun _=>?_) (fun _=>?_)
  | exact yes (by simp [*])
  | exact no (by simp [*])
  | fail)
theorem aOi : aW Tryz.prog vcRk:=aM (by
 intro e he
 simp only [mem_cons,not_mem_nil,or_false] at he
 rcases he with rfl | rfl | rfl
 ·exact xB
 ·exact aEm
 ·exact aHI) aD
theorem aNG : aZ Tryz.prog ⟨56,aIL⟩:=by
 rintro args Post ⟨p,m,rfl,hf,h0,h⟩
 refine aN aOi mixed (by kernel_rfl) (by kernel_rfl) _ (aQ1 p m _ _) ?_
 simp only [true_and]
 have yes : mR p m -> Post (.bool true):=fun hp=>by rwa [decide_eq_true hp] at h
 have no : ¬ mR p m -> Post (.bool false):=fun hp=>by rwa [decide_eq_false hp] at h
 clear h
 unfold mR at yes no
 rw [Ne,aGy,vX] at yes no
 refine ifD (fun h1=>yes (.inl h1)) (fun h1=>⟨m,p.grade,rfl,hf,ifD (fun h2=>⟨by decide,?_⟩) (fun h2=>⟨by decide,no ?_⟩)⟩)
 case refine_2=>rintro (h | h); exact h1 h; exact h2 h.1
 refine ifD (fun h3=>no ?_) (fun h3=>ifD (fun h4=>no ?_) (fun h4=>?_))
 ·rintro (h | h); exact h1 h; omega
 ·rintro (h | h); exact h1 h; omega
 refine ifD (fun h5=>?_) (fun h5=>⟨m,p.sect,rfl,hf.toFewM,ifD (fun h6=>⟨by decide,?_⟩) (fun h6=>⟨by decide,no ?_⟩)⟩)
 ·refine ifD (fun h6=>ifD (fun h7=>⟨m,p.grade,p.thick,rfl,hf,ifD (fun h8=>yes (.inr ⟨h2,⟨by omega,by omega⟩,.inl ⟨h5,⟨h6,h7⟩,h8⟩⟩)) (fun h8=>no ?_)⟩) (fun h7=>no ?_)) (fun h6=>no ?_)
  ·rintro (h | ⟨_,_,h | h⟩)
   ·exact h1 h
   ·exact h8 h.2.2
   ·exact h.1 h5
  ·rintro (h | ⟨_,_,h | h⟩)
   ·exact h1 h
   ·exact h7 h.2.1.2
   ·exact h.1 h5
  ·rintro (h | ⟨_,_,h | h⟩)
   ·exact h1 h
   ·exact h6 h.2.1.1
   ·exact h.1 h5
 ·refine ifD (fun h7=>ifD (fun h8=>ifD (fun h9=>ifD (fun h10=>yes (.inr ⟨h2,⟨by omega,by omega⟩,.inr ⟨h5,h6,⟨h7,h8⟩,h9,h10⟩⟩)) (fun h10=>no ?_)) (fun h9=>no ?_)) (fun h8=>no ?_)) (fun h7=>no ?_)
  ·rintro (h | ⟨_,_,h | h⟩)
   ·exact h1 h
   ·exact h5 h.1
   ·exact h10 h.2.2.2.2
  ·rintro (h | ⟨_,_,h | h⟩)
   ·exact h1 h
   ·exact h5 h.1
   ·exact h9 h.2.2.2.1
  ·rintro (h | ⟨_,_,h | h⟩)
   ·exact h1 h
   ·exact h5 h.1
   ·exact h8 h.2.2.1.2
  ·rintro (h | ⟨_,_,h | h⟩)
   ·exact h1 h
   ·exact h5 h.1
   ·exact h7 h.2.2.1.1
 ·rintro (h | ⟨_,_,h | h⟩)
  ·exact h1 h
  ·exact h5 h.1
  ·exact h6 h.2.1
theorem aKe : aW Tryz.prog aLT:=bL mixed (aM (by
 intro e he
 simp only [mem_cons,not_mem_nil,or_false] at he
 rcases he with rfl | rfl | rfl | rfl | rfl
 ·exact aDQ
 ·exact aKJ
 ·exact aNG
 ·exact aBO
 ·exact aJZ) aD) 2
theorem aCT : aZ Tryz.prog ⟨16,wQ⟩:=by
 rintro args Post ⟨p,m,rfl,hq,hf,h⟩
 refine aN aKe mixed (by kernel_rfl) (by kernel_rfl) _ (aO2 p m _ _) ?_
 simp only [true_and]
 unfold bF at h
 refine ⟨p.id,rfl,hq.id,ifD (fun h1=>⟨p.node,rfl,hq.node,ifD (fun h2=>?_) (fun h2=>?_)⟩) (fun h1=>?_)⟩
 case refine_2=>rwa [if_pos (.inr h2)] at h
 case refine_3=>rwa [if_pos (.inl h1)] at h
 rw [if_neg (by rintro (h | h); exact h h1; exact h h2)] at h
 refine ifD (fun h3=>?_) (fun h3=>ifD (fun h4=>?_) (fun h4=>?_))
 ·rwa [if_pos (by omega)] at h
 ·rwa [if_pos (by omega)] at h
 rw [if_neg (by omega)] at h
 refine ifD (fun h3=>?_) (fun h3=>ifD (fun h4=>?_) (fun h4=>?_))
 ·rwa [if_pos (oF.2 (by omega))] at h
 ·rwa [if_pos (oF.2 (by omega))] at h
 have f0 : cB p.kind ≠ 0:=fun e=>by have:=oF.1 e; omega
 refine ⟨p,rfl,hq.toFitQ,f0,ifD (fun h6=>?_) (fun h6=>⟨p,m,rfl,hf,f0,ifD (fun h7=>?_) (fun h7=>?_)⟩)⟩
 ·rwa [if_neg f0,if_pos h6] at h
 case refine_3=>rwa [if_neg f0,if_neg h6,if_pos h7] at h
 rw [if_neg f0,if_neg h6,if_neg (fun hn=>hn h7)] at h
 have last : gU p = 0 -> ∃ (a : Vec3) (k : Int),eqL [fY p.at_ p.turn] [fY a k] /\ pIf (decide (dW a k)) (Post (.int .i64 0)) (Post (.int .i64 9)):=fun hb=>by
  rw [if_neg (by rw [hb]; exact fun h=>h rfl)] at h
  refine ⟨p.at_,p.turn,rfl,ifD (fun h8=>?_) (fun h8=>?_)⟩
  ·rwa [if_neg (fun hn=>hn h8)] at h
  ·rwa [if_pos h8] at h
 have bad : ∀ e : Int,gU p = e -> e ≠ 0 -> Post (.int .i64 e):=fun e he hn=>by
  rw [if_pos (by rw [he]; exact hn),he] at h
  exact h
 unfold gU at last bad
 simp only [vX,aA1] at last bad
 refine ifD (fun f1=>⟨p.outer,p.holes,rfl,hq.outer,hq.holes,hq.all,ifN (fun g=>bad _ (by rw [if_pos f1]) g) (fun g=>last (by rw [if_pos f1]; exact g))⟩) (fun f1=>?_)
 rw [if_neg f1] at last bad
 refine ifD (fun f2=>?_) (fun f2=>?_)
 ·rw [if_neg (by omega)] at last bad
  have b9 : (p.mass < 1 ∨ 1099511627776 < p.mass ∨ ¬ inV p.centre 524288) -> Post (.int .i64 9):=fun hb=>bad 9 (by rw [if_pos hb]) (by decide)
  have ok:=fun hb : ¬ (p.mass < 1 ∨ 1099511627776 < p.mass ∨ ¬ inV p.centre 524288)=>last (by rw [if_neg hb])
  clear last bad
  unfold inV at b9 ok
  repeat' (first
   | refine ifD (fun _=>?_) (fun _=>?_)
   | exact b9 (by omega)
   | exact ok (by omega))
 ·rw [if_pos (by omega)] at last bad
  refine ifD (fun g1=>bad 9 (by rw [if_pos (by omega)]) (by decide)) (fun g1=>ifD (fun g2=>bad 9 (by rw [if_pos (by omega)]) (by decide)) (fun g2=>last (by rw [if_neg (by omega)])))
theorem aKh : aW Tryz.prog aMD:=aM (by
 intro e he
 simp only [mem_cons,not_mem_nil,or_false] at he
 rcases he with rfl | rfl | rfl | rfl
 ·exact aCT
 ·exact xB
 ·exact aEm
 ·exact aKS) aD
theorem aHY : aZ Tryz.prog ⟨19,aIO⟩:=by
 rintro args Post ⟨p,m,rfl,hq,hf,h⟩
 refine aN aKh mixed (by kernel_rfl) (by kernel_rfl) _ (aKy p m _ _) ?_
 simp only [true_and]
 unfold bT zC at h
 refine ⟨p,m,rfl,hq,hf,ifN (fun h1=>?_) (fun h1=>?_)⟩
 ·rwa [if_neg h1] at h
 rw [if_pos h1] at h
 have f0:=(jV h1).1
 rw [h1] at h
 simp only [vX,aA1] at h
 rw [Ne,oF] at f0
 refine ⟨m,p.grade,rfl,hf,?_⟩
 have last : pIf (decide (p.kind = 1)) (∃ (o : List Pt),∃ (hs : List (List Pt)),eqL [.agg #[aR p.outer,eX p.holes]] [dA o hs] /\ aH o /\ aH hs /\ (∀ (h : List Pt),h ∈ hs -> aH h) /\ (toI (.int .i64 2000000) = 0 -> False) /\ Post (.tuple #[.int .i64 (jA (Int.tdiv (jA (jA (rArea o hs * p.thick) * (aX m p.grade).dens)) 2000000)),.int .i64 0])) (pIf (decide (p.kind = 4)) (Post (.tuple #[.int .i64 p.mass,.int .i64 0])) ((toI (.int .i64 1000000) = 0 -> False) /\ Post (.tuple #[.int .i64 (jA (Int.tdiv (jA (jA ((bZ m p.sect).area * p.long) * (aX m p.grade).dens)) 1000000)),.int .i64 0]))):=by
  refine ifD (fun f1=>⟨p.outer,p.holes,rfl,hq.outer,hq.holes,hq.all,?_,?_⟩) (fun f1=>ifD (fun f2=>?_) (fun f2=>⟨?_,?_⟩))
  ·decide
  ·rwa [if_pos f1] at h
  ·rwa [if_neg f1,if_neg (by omega)] at h
  ·decide
  ·rwa [if_neg f1,if_pos (by omega)] at h
 exact ifD (fun _=>⟨by decide,m,p.sect,rfl,hf.toFewM,ifD (fun _=>⟨by decide,last⟩) (fun _=>⟨by decide,last⟩)⟩) (fun _=>⟨by decide,m,p.sect,rfl,hf.toFewM,ifD (fun _=>⟨by decide,last⟩) (fun _=>⟨by decide,last⟩)⟩)
def aQB (m : Mats) : Prop:=m.grades.length <= 40 /\ m.sects.length <= 40 /\ (∀ g ∈ m.grades,g.gauges.length <= 30 /\ g.name.size <= 40) /\ ∀ s ∈ m.sects,s.name.size <= 40
instance (m : Mats) : Decidable (aQB m):=by unfold aQB; infer_instance
theorem aCG {v : Vec3} {b : Int} (h : inV v b) : ∀ n,inV (jR n v) b
 | 0=>h
 | n + 1=>by
  have:=aCG h n
  unfold inV at *
  unfold jR
  dsimp only
  omega
theorem aFs {v : Vec3} {b : Int} (h : inV v b) (k : Int) : inV (gD v k) b:=by
 have h1:=aCG h ((gQ k).tmod 4).toNat
 unfold gD
 generalize jR ((gQ k).tmod 4).toNat v = u at *
 unfold inV at *
 unfold aCE
 repeat' split
 all_goals ((try dsimp only); omega)
theorem rC {a b L U : Int} (hb : 0 < b) (h1 : L * b <= a) (h2 : a <= U * b) : L <= eL a b /\ eL a b <= U:=by
 unfold eL
 obtain ⟨f1,f2⟩:=lN (a:=2 * a + b) (b:=2 * b) (by omega)
 generalize (2 * a + b).fdiv (2 * b) = f at *
 have e1 : 2 * b * f = 2 * (f * b):=by rw [Int.mul_assoc,Int.mul_comm b f]
 rw [e1] at f1 f2
 constructor
 ·refine Decidable.by_contra fun hn=>?_
  have:=Int.mul_le_mul_of_nonneg_right (show f + 1 <= L by omega) (Int.le_of_lt hb)
  rw [Int.add_mul,Int.one_mul] at this
  omega
 ·refine Decidable.by_contra fun hn=>?_
  have:=Int.mul_le_mul_of_nonneg_right (show U + 1 <= f by omega) (Int.le_of_lt hb)
  rw [Int.add_mul,Int.one_mul] at this
  omega
theorem aD4 {o : List Pt} {hs : List (List Pt)} (h : ShapeOk o hs) {L U : Int} (hb : ∀ c ∈ o,L <= c.x /\ c.x <= U) : (L <= eL (rMomX o hs) (3 * rArea o hs) /\ eL (rMomX o hs) (3 * rArea o hs) <= U) /\ (-32769 <= eL (rMomY o hs) (3 * rArea o hs) /\ eL (rMomY o hs) (3 * rArea o hs) <= 32769):=by
 have ha:=h.area
 have hx:=h.centre hb
 have hy:=h.centreY
 rw [h.rArea,h.rMomX,h.rMomY]
 generalize dN o + (hs.map dN).sum = A at *
 generalize bM (mO o) o.length + (hs.map fun l=>bM (mO l) l.length).sum = X at *
 generalize bM (mN o) o.length + (hs.map fun l=>bM (mN l) l.length).sum = Y at *
 have e1 : L * (3 * A) = 3 * L * A:=by rw [Int.mul_comm 3 L,Int.mul_assoc]
 have e2 : U * (3 * A) = 3 * U * A:=by rw [Int.mul_comm 3 U,Int.mul_assoc]
 exact ⟨rC (by omega) (by omega) (by omega),rC (by omega) (by omega) (by omega)⟩
theorem aEf {l : List Pt} (h : aO l = 0) : ∀ c ∈ l,-32768 <= c.x /\ c.x <= 32768:=fun c hc=>by
 have:=((cV h).2.2 c hc).h
 omega
theorem xR {p : Part} {m : Mats} (h : bF p m = 0) : inV (eR p m) 524288:=by
 unfold eR wN
 rw [if_pos h]
 by_cases f1 : cB p.kind = 1
 ·rw [if_pos f1]
  obtain ⟨ho,t1,t2,_⟩:=aA0 h f1
  have hc:=aD4 ho (aEf ho.out)
  have hz:=rC (a:=p.thick) (b:=2) (L:=0) (U:=120) (by decide) (by omega) (by omega)
  unfold inV
  dsimp only
  omega
 rw [if_neg f1]
 by_cases f2 : cB p.kind = 2
 ·rw [if_pos f2]
  obtain ⟨l,_,t,_⟩:=aDJ h f2
  have hx:=rC (a:=p.long) (b:=2) (L:=0) (U:=32768) (by decide) (by omega) (by omega)
  have hz:=rC (a:=(bZ m p.sect).height) (b:=2) (L:=0) (U:=2000) (by decide) (by omega) (by omega)
  unfold inV
  dsimp only
  omega
 ·rw [if_neg f2]
  exact (aI7 h f1 f2).2.2
def eO (p : Part) (v : Vec3) : Part:={ p with at_:=⟨jA (p.at_.x + v.x),jA (p.at_.y + v.y),jA (p.at_.z + v.z)⟩ }
theorem aAK {p : Part} {m : Mats} (h : bF p m = 0) : inV p.at_ 524288:=(jV h).2.2.2.2.1.1
theorem aHW {p : Part} {m : Mats} {v : Vec3} (h : bF p m = 0) (k : bF (eO p v) m = 0) : bT (eO p v) m = bT p m:=by
 unfold bT
 rw [if_pos h,if_pos k]
 rfl
theorem aEh {p : Part} {m : Mats} {v : Vec3} (h : bF p m = 0) (k : bF (eO p v) m = 0) : eR (eO p v) m = eR p m:=by
 unfold eR
 rw [if_pos h,if_pos k]
 rfl
theorem aF2 {a c : Vec3} {k : Int} (ha : inV a 524288) (hc : inV c 524288) : jZ a k c = ⟨(gD c k).x + a.x,(gD c k).y + a.y,(gD c k).z + a.z⟩:=by
 unfold jZ
 rw [if_neg]
 unfold inV at *
 omega
theorem iU {a x : Int} (ha : 0 <= a /\ a <= 1099511627776) (hx : -1048576 <= x /\ x <= 1048576) : jA (a * x) = a * x /\ -1152921504606846976 <= a * x /\ a * x <= 1152921504606846976:=by
 have:=fW (a:=a) (b:=x) (A:=1099511627776) (B:=1048576) (by omega) hx
 refine ⟨bA (by omega) (by omega),by omega,by omega⟩
theorem aNT {p : Part} {m : Mats} (h : bF p m = 0) : (aT p m).m = bT p m:=by
 unfold aT
 rw [if_pos h]
theorem aHj (ks : List (List Pt)) : bP 1 ks.length (List.drop 0 (ks.map fun a=>aR a)) = aB ks:=by
 show ((List.drop 0 (ks.map fun a=>aR a)).take ks.length).toArray = _
 rw [List.drop_zero,List.take_of_length_le (by simp)]
 rfl
theorem zJ (ks : List (List Pt)) : NLs (ks.map fun a=>aR a):=fun v hv=>by
 obtain ⟨a,_,rfl⟩:=List.mem_map.1 hv
 rfl
abbrev aGM (p : Part) (v : Value) : List Value:=[.string p.id,.int .i64 p.rev,.int .i64 p.kind,.string p.node,.string p.grade,.int .i64 p.thick,aR p.outer,v,.string p.sect,.int .i64 p.long,.int .i64 p.mass,.int .i64 p.centre.x,.int .i64 p.centre.y,.int .i64 p.centre.z,.int .i64 p.at_.x,.int .i64 p.at_.y,.int .i64 p.at_.z,.int .i64 p.turn]
def iG : Part:=⟨⟨#[]⟩,0,0,⟨#[]⟩,⟨#[]⟩,0,[],[],⟨#[]⟩,0,0,⟨0,0,0⟩,⟨0,0,0⟩,0⟩
def cO (d : Design6) (s : ByteArray) : Option Part:=d.parts.find? fun p=>decide (p.id = s)
structure FitW (p : Part) : Prop where
 outer : p.outer.length * 16 <= 140737488355328
 holes : p.holes.length * 24 <= 140737488355328
 all : ∀ h ∈ p.holes,h.length * 16 <= 140737488355328
structure FitD (d : Design6) : Prop where
 len : aH d.parts
 fit : ∀ p ∈ d.parts,FitW p
def pD (args : List Value) (Post : Value -> Prop) : Prop:=∃ (d : Design6) (s : ByteArray),args = [aC d,.string s] /\ FitD d /\ Post (.tuple #[dX ((cO d s).getD iG),.bool (cO d s).isSome])
abbrev vG : List Value:=[.string ⟨#[]⟩,.int .i64 0,.int .i64 0,.string ⟨#[]⟩,.string ⟨#[]⟩,.int .i64 0,.slice none 0 0,.slice none 0 0,.string ⟨#[]⟩,.int .i64 0,.int .i64 0,.int .i64 0,.int .i64 0,.int .i64 0,.int .i64 0,.int .i64 0,.int .i64 0,.int .i64 0]
def aLq : bH:=wS [(168,1,24)] (aU [⟨167,aA8 Pt 16⟩] aI)
abbrev aPi : List (Nat × List Nat):=[(2,[1,4,5,11,12,13]),(7,[4,7,35,36,37])]
theorem aOX (d : Design6) (s : ByteArray) (H : HT) (Post : PV) : vcP Tryz.prog aLq 106 aPi [aC d,.string s] H Post = (let q1:=length d.parts; T8 ((True /\ True) /\ HP H 106 2 (stV [(1,some (vs s)),(4,some (pt 0)),(5,some (vb false)),(11,some (tree 18 q1 (aB d.parts))),(12,some (vi (↑q1 : Int))),(13,some (vi 0))] [(0,some (AObj.cells [vz,vi 0,vi 0,vz,vz,vi 0,nS,nS,vz,vi 0,vi 0,vi 0,vi 0,vi 0,vi 0,vi 0,vi 0,vi 0] true))] 1))):=by kernel_rfl
theorem aJk (d : Design6) (s : ByteArray) (n : Nat) (k : Int) (A : Array Value) (H : HT) (Post : PV) : bX Tryz.prog aLq 106 [aC d,.string s] aPi 2 (stV [(1,some (.string s)),(4,some (pt 0)),(5,some (.bool false)),(11,some (tree 18 n A)),(12,some (vi n)),(13,some (vi k))] [(0,some (.cells vG true))] 1) H Post = (let q2:=aA A k.toNat 7; let q20:=kC (toE q2); let q19:=toI (aA A k.toNat 9); let q18:=toS (aA A k.toNat 8); let q17:=toI (aA A k.toNat 5); let q16:=toS (aA A k.toNat 4); let q15:=toS (aA A k.toNat 3); let q14:=toI (aA A k.toNat 2); let q13:=toI (aA A k.toNat 1); let q12:=toI (aA A k.toNat 17); let q11:=toI (aA A k.toNat 16); let q10:=toI (aA A k.toNat 15); let q9:=toI (aA A k.toNat 14); let q8:=toI (aA A k.toNat 13); let q7:=toI (aA A k.toNat 12); let q6:=toI (aA A k.toNat 11); let q5:=toI (aA A k.toNat 10); let q4:=aA A k.toNat 6; let q3:=aA A k.toNat 0; let q1:=(0,some (AObj.cells [vz,vi 0,vi 0,vz,vz,vi 0,nS,nS,vz,vi 0,vi 0,vi 0,vi 0,vi 0,vi 0,vi 0,vi 0,vi 0] true)); True /\ pIf (decide (k < (↑n : Int))) ((0 <= k /\ k < (↑n : Int)) /\ (aA A k.toNat 0 = vs (toS q3) /\ aA A k.toNat 1 = vi q13 /\ aA A k.toNat 2 = vi q14 /\ aA A k.toNat 3 = vs q15 /\ aA A k.toNat 4 = vs q16 /\ aA A k.toNat 5 = vi q17 /\ aA A k.toNat 6 = tree 2 (toN q4) (toE q4) /\ aA A k.toNat 7 = tree 1 (toN q2) (toE q2) /\ aA A k.toNat 8 = vs q18 /\ aA A k.toNat 9 = vi q19 /\ aA A k.toNat 10 = vi q5 /\ aA A k.toNat 11 = vi q6 /\ aA A k.toNat 12 = vi q7 /\ aA A k.toNat 13 = vi q8 /\ aA A k.toNat 14 = vi q9 /\ aA A k.toNat 15 = vi q10 /\ aA A k.toNat 16 = vi q11 /\ aA A k.toNat 17 = vi q12 /\ True) /\ True /\ 18 <= 18 /\ T4 (pIf (decide (toS q3 = s)) (T4 (T2 (∃ (l : List Pt),eqL [tree 2 (toN q4) (toE q4)] [tree 2 l.length (aB l)] /\ length l * 16 <= 140737488355328 /\ T2 (True /\ (toN q2 * 24 <= 140737488355328 /\ NLs q20) /\ (toN q2 = 0 -> True /\ 7 <= 18 /\ T2 (True /\ 8 <= 18 /\ T4 (T2 (True /\ (T2 (True)) /\ HP H 106 7 (stV [(4,some (pt 0)),(7,some (pt 1)),(35,some (tree 1 0 #[])),(36,some (vi (↑0 : Int))),(37,some (vi 0))] [q1,(1,some (AObj.cells [vs (toS q3),vi q13,vi q14,vs q15,vs q16,vi q17,tree 2 l.length (aB l),tree 1 0 #[],vs q18,vi q19,vi q5,vi q6,vi q7,vi q8,vi q9,vi q10,vi q11,vi q12] true))] 2))))) /\ (0 < toN q2 -> True /\ 7 <= 18 /\ T2 (True /\ 8 <= 18 /\ T4 (T2 (True /\ (T2 (NLs q20 /\ True)) /\ HP H 106 7 (stV [(4,some (pt 0)),(7,some (pt 1)),(35,some (Value.slice (some (Addr.mk 2 0 none)) (toN q2) 1)),(36,some (vi (↑(toN q2) : Int))),(37,some (vi 0))] [q1,(1,some (AObj.cells [vs (toS q3),vi q13,vi q14,vs q15,vs q16,vi q17,tree 2 l.length (aB l),Value.slice (some (Addr.mk 2 0 none)) (toN q2) 1,vs q18,vi q19,vi q5,vi q6,vi q7,vi q8,vi q9,vi q10,vi q11,vi q12] true)),(2,some (AObj.cells q20 true))] 3))))))))) (T2 (True /\ (True /\ True) /\ HP H 106 2 (stV [(1,some (vs s)),(4,some (pt 0)),(5,some (vb false)),(11,some (tree 18 n A)),(12,some (vi (↑n : Int))),(13,some (vi (wrap i64 (k + 1))))] [q1] 1))))) (((T16 (T2 (True))) /\ True /\ True) /\ Post (Value.tuple #[Value.agg #[vz,vi 0,vi 0,vz,vz,vi 0,tree 2 0 #[],tree 1 0 #[],vz,vi 0,vi 0,vi 0,vi 0,vi 0,vi 0,vi 0,vi 0,vi 0],vb false]))):=by kernel_rfl
theorem aNd (d : Design6) (s : ByteArray) (p : Part) (k : Int) (H : HT) (Post : PV) : bX Tryz.prog aLq 106 [aC d,.string s] aPi 7 (stV [(4,some (pt 0)),(7,some (pt 1)),(35,some (tree 1 0 #[])),(36,some (vi 0)),(37,some (vi k))] [(0,some (.cells vG true)),(1,some (.cells (aGM p (tree 1 0 #[])) true))] 2) H Post = (True /\ pIf (decide (k < 0)) (True /\ (0 <= k /\ k < (↑0 : Int)) /\ False) (True /\ 18 <= 18 /\ True /\ ((T16 (T2 (True))) /\ True /\ True) /\ Post (Value.tuple #[Value.agg #[vs p.id,vi p.rev,vi p.kind,vs p.node,vs p.grade,vi p.thick,tree 2 p.outer.length (aB p.outer),tree 1 0 #[],vs p.sect,vi p.long,vi p.mass,vi p.centre.x,vi p.centre.y,vi p.centre.z,vi p.at_.x,vi p.at_.y,vi p.at_.z,vi p.turn],vb true]))):=by kernel_rfl
theorem aFg (d : Design6) (s : ByteArray) (p : Part) (n : Nat) (k : Int) (l : List Value) (H : HT) (Post : PV) : bX Tryz.prog aLq 106 [aC d,.string s] aPi 7 (stV [(4,some (pt 0)),(7,some (pt 1)),(35,some (.slice (some ⟨2,0,none⟩) n 1)),(36,some (vi n)),(37,some (vi k))] [(0,some (.cells vG true)),(1,some (.cells (aGM p (.slice (some ⟨2,0,none⟩) n 1)) true)),(2,some (.cells l true))] 3) H Post = (let q2:=0 + toNat k * 1; let q1:=List.getD l q2 undef; True /\ pIf (decide (k < (↑n : Int))) (True /\ (0 <= k /\ k < (↑n : Int)) /\ List.getD l q2 undef = tree 2 (toN q1) (toE q1) /\ T4 (T2 (True /\ ∃ (l_1 : List Pt),eqL [tree 2 (toN q1) (toE q1)] [tree 2 l_1.length (aB l_1)] /\ length l_1 * 16 <= 140737488355328 /\ True /\ (0 <= k /\ k < (↑n : Int)) /\ 0 + toNat k * 1 + 1 <= length l /\ T4 ((T2 (NLs (cP l q2 [tree 2 l_1.length (aB l_1)]) /\ True)) /\ HP H 106 7 (stV [(4,some (pt 0)),(7,some (pt 1)),(35,some (Value.slice (some (Addr.mk 2 0 none)) n 1)),(36,some (vi (↑n : Int))),(37,some (vi (wrap i64 (k + 1))))] [(0,some (AObj.cells [vz,vi 0,vi 0,vz,vz,vi 0,nS,nS,vz,vi 0,vi 0,vi 0,vi 0,vi 0,vi 0,vi 0,vi 0,vi 0] true)),(1,some (AObj.cells [vs p.id,vi p.rev,vi p.kind,vs p.node,vs p.grade,vi p.thick,tree 2 p.outer.length (aB p.outer),Value.slice (some (Addr.mk 2 0 none)) n 1,vs p.sect,vi p.long,vi p.mass,vi p.centre.x,vi p.centre.y,vi p.centre.z,vi p.at_.x,vi p.at_.y,vi p.at_.z,vi p.turn] true)),(2,some (AObj.cells (cP l q2 [tree 2 l_1.length (aB l_1)]) true))] 3))))) (True /\ 18 <= 18 /\ True /\ ((T4 (T2 (True /\ (0 + n * 1 <= length l /\ NLs l) /\ T8 (T2 (True))))) /\ True /\ True) /\ Post (Value.tuple #[Value.agg #[vs p.id,vi p.rev,vi p.kind,vs p.node,vs p.grade,vi p.thick,tree 2 p.outer.length (aB p.outer),tree 1 n (bP 1 n (List.drop 0 l)),vs p.sect,vi p.long,vi p.mass,vi p.centre.x,vi p.centre.y,vi p.centre.z,vi p.at_.x,vi p.at_.y,vi p.at_.z,vi p.turn],vb true]))):=by kernel_rfl
theorem rS : aW Tryz.prog aLq:=aDr (by
 intro e he
 simp only [mem_cons,not_mem_nil,or_false] at he
 subst he
 exact aOZ) (aM (by
 intro e he
 simp only [mem_cons,not_mem_nil,or_false] at he
 subst he
 exact aKj) aD)
theorem gT {l : List Part} {k : Nat} (h : k < l.length) (j : Nat) : aA (aB l) k j = ((fP l[k])[j]?).getD undef:=bK h
theorem aJT (l : List (List Pt)) : kC (aB l) = l.map fun a=>aR a:=aAy l
theorem set_same {l : List Value} {k : Nat} {v : Value} (h : l[k]? = some v) : cP l k [v] = l:=by
 show l.set k v = l
 obtain ⟨hk,rfl⟩:=List.getElem?_eq_some_iff.1 h
 exact List.set_getElem_self hk
theorem wG {d : Design6} {s : ByteArray} {k : Nat} (hk : k < d.parts.length) (hp : d.parts[k].id = s) (hb : ∀ j (hj : j < d.parts.length),j < k -> ¬ d.parts[j].id = s) : cO d s = some d.parts[k]:=oH hk hp hb
theorem aLW : aZ Tryz.prog ⟨106,pD⟩:=by
 rintro args Post ⟨d,s,rfl,hf,h⟩
 refine aN rS mixed (by kernel_rfl) (by kernel_rfl) _ (aOX d s _ _) ?_
 simp only [true_and]
 refine cS (n:=d.parts.length) (p:=fun k=>(∀ j (hj : j < d.parts.length),j < k -> ¬ d.parts[j].id = s) -> OkP 106 [aC d,.string s] 2 Post (stV [(1,some (.string s)),(4,some (pt 0)),(5,some (.bool false)),(11,some (tree 18 d.parts.length (aB d.parts))),(12,some (vi d.parts.length)),(13,some (vi k))] [(0,some (.cells vG true))] 1)) (fun hall=>?_) (fun k k1 ih hall=>?_) (fun i _ hi=>by omega)
 ·refine aV rS mixed _ (aJk d s d.parts.length d.parts.length (aB d.parts) _ _) ?_
  simp only [true_and]
  have e : cO d s = none:=by
   unfold cO
   rw [List.find?_eq_none]
   intro g hg
   obtain ⟨i,hi,rfl⟩:=List.mem_iff_getElem.1 hg
   simpa using hall i hi hi
  rw [e] at h
  exact ifD (fun hlt=>by omega) (fun _=>h)
 ·refine aV rS mixed _ (aJk d s d.parts.length k (aB d.parts) _ _) ?_
  have hk : ((k : Nat) : Int).toNat = k:=toNat_natCast k
  have ks:=hf.len
  have fp:=hf.fit _ (List.getElem_mem k1)
  simp only [hk,gT k1]
  have hp : ∀ p : Part,p = d.parts[k] -> FitW p:=fun p hp=>by rw [hp]; exact fp
  have hfound : d.parts[k].id = s -> Post (.tuple #[dX d.parts[k],.bool true]):=fun he=>by
   have e:=wG k1 he (fun j hj hjk=>hall j hj hjk)
   rw [e] at h
   exact h
  have hnext : ¬ d.parts[k].id = s -> OkP 106 [aC d,.string s] 2 Post (stV [(1,some (.string s)),(4,some (pt 0)),(5,some (.bool false)),(11,some (tree 18 d.parts.length (aB d.parts))),(12,some (vi d.parts.length)),(13,some (vi ((k + 1 : Nat) : Int)))] [(0,some (.cells vG true))] 1):=fun he=>ih fun j hj hjk=>by
   rcases Nat.lt_or_ge j k with h' | h'
   ·exact hall j hj h'
   ·have : j = k:=by omega
    subst this
    exact he
  clear ih hall h
  generalize d.parts[k] = p at *
  simp only [fP,aQ,aP,cH,cG,true_and,and_true,le_refl,aJ (show k < 2 ^ 62 by omega),aJT,List.getElem?_cons_zero,List.getElem?_cons_succ,Option.getD_some]
  refine ifD (fun _=>⟨⟨by omega,by omega⟩,ifD (fun he=>⟨p.outer,rfl,fp.outer,⟨fp.holes,zJ _⟩,fun h0=>⟨by decide,by decide,?_⟩,fun h0=>⟨by decide,by decide,zJ _,?_⟩⟩) (fun he=>hnext he)⟩) (fun h'=>by omega)
  ·refine aV rS mixed _ (aNd d s p 0 _ _) ?_
   simp only [true_and,and_true,le_refl]
   refine ifD (fun hlt=>by omega) (fun _=>?_)
   have e : p.holes = []:=List.eq_nil_of_length_eq_zero h0
   have hp:=hfound he
   have e2 : tree 1 0 #[] = eX p.holes:=by rw [e]; rfl
   rw [e2]
   exact hp
  ·refine cS (n:=p.holes.length) (p:=fun j=>OkP 106 [aC d,.string s] 7 Post (stV [(4,some (pt 0)),(7,some (pt 1)),(35,some (.slice (some ⟨2,0,none⟩) p.holes.length 1)),(36,some (vi p.holes.length)),(37,some (vi j))] [(0,some (.cells vG true)),(1,some (.cells (aGM p (.slice (some ⟨2,0,none⟩) p.holes.length 1)) true)),(2,some (.cells (p.holes.map fun a=>aR a) true))] 3)) ?_ (fun j j1 jh=>?_)
   ·refine aV rS mixed _ (aFg d s p p.holes.length p.holes.length (p.holes.map fun a=>aR a) _ _) ?_
    simp only [true_and,and_true,le_refl]
    refine ifD (fun hlt=>by omega) (fun _=>⟨⟨by simp,zJ _⟩,?_⟩)
    rw [aHj]
    exact hfound he
   ·refine aV rS mixed _ (aFg d s p p.holes.length j (p.holes.map fun a=>aR a) _ _) ?_
    have hj : ((j : Nat) : Int).toNat = j:=toNat_natCast j
    have hg : (p.holes.map fun a=>aR a)[j]? = some (aR p.holes[j]):=by rw [List.getElem?_map,List.getElem?_eq_getElem j1]; rfl
    have hd : (p.holes.map fun a=>aR a).getD j undef = aR p.holes[j]:=by rw [List.getD_eq_getElem?_getD,hg]; rfl
    have hl:=fp.holes
    simp only [true_and,and_true,le_refl,hj,Nat.zero_add,Nat.mul_one,hd,cH,cG,aJ (show j < 2 ^ 62 by omega)]
    refine ifD (fun _=>⟨⟨by omega,by omega⟩,p.holes[j],rfl,fp.all _ (List.getElem_mem j1),⟨by omega,by omega⟩,by simp; omega,?_,?_⟩) (fun h'=>by omega)
    ·rw [set_same hg]
     exact zJ _
    ·rw [set_same hg]
     exact jh
theorem aPC (d : Design6) (s : ByteArray) (H : HT) (Post : PV) : vcP Tryz.prog aI 108 [(2,[1,2,4,6])] [aC d,.string s] H Post = (T4 (True /\ (T2 (True)) /\ HP H 108 2 (stV [(1,some (vs s)),(2,some (pt 0)),(4,some (pt 1)),(6,some (vi 0))] [(0,some (AObj.cells (aG d) true)),(1,some (AObj.cells [vz,vi 0,vi 0,vz,vz,vi 0,nS,nS,vz,vi 0,vi 0,vi 0,vi 0,vi 0,vi 0,vi 0,vi 0,vi 0] true))] 2))):=by kernel_rfl
theorem aJp (d : Design6) (s : ByteArray) (k : Int) (H : HT) (Post : PV) : bX Tryz.prog aI 108 [aC d,.string s] [(2,[1,2,4,6])] 2 (stV [(1,some (.string s)),(2,some (pt 0)),(4,some (pt 1)),(6,some (vi k))] [(0,some (.cells (aG d) true)),(1,some (.cells vG true))] 2) H Post = (let q21:=(T16 (T2 (True))) /\ True /\ True; let q1:=aB d.parts; let q20:=toI (aA q1 k.toNat 9); let q19:=toS (aA q1 k.toNat 8); let q18:=toI (aA q1 k.toNat 5); let q17:=toS (aA q1 k.toNat 4); let q16:=toS (aA q1 k.toNat 3); let q15:=toI (aA q1 k.toNat 2); let q14:=toI (aA q1 k.toNat 1); let q13:=toI (aA q1 k.toNat 17); let q12:=toI (aA q1 k.toNat 16); let q11:=toI (aA q1 k.toNat 15); let q10:=toI (aA q1 k.toNat 14); let q9:=toI (aA q1 k.toNat 13); let q8:=toI (aA q1 k.toNat 12); let q7:=toI (aA q1 k.toNat 11); let q6:=toI (aA q1 k.toNat 10); let q5:=aA q1 k.toNat 7; let q4:=aA q1 k.toNat 6; let q3:=aA q1 k.toNat 0; let q2:=length d.parts; T4 (True /\ pIf (decide (k < (↑q2 : Int))) (T2 (True /\ (0 <= k /\ k < (↑q2 : Int)) /\ True /\ aA q1 k.toNat 0 = vs (toS q3) /\ T2 (pIf (decide (toS q3 = s)) (T2 (True /\ (0 <= k /\ k < (↑q2 : Int)) /\ (aA q1 k.toNat 0 = vs (toS q3) /\ aA q1 k.toNat 1 = vi q14 /\ aA q1 k.toNat 2 = vi q15 /\ aA q1 k.toNat 3 = vs q16 /\ aA q1 k.toNat 4 = vs q17 /\ aA q1 k.toNat 5 = vi q18 /\ aA q1 k.toNat 6 = tree 2 (toN q4) (toE q4) /\ aA q1 k.toNat 7 = tree 1 (toN q5) (toE q5) /\ aA q1 k.toNat 8 = vs q19 /\ aA q1 k.toNat 9 = vi q20 /\ aA q1 k.toNat 10 = vi q6 /\ aA q1 k.toNat 11 = vi q7 /\ aA q1 k.toNat 12 = vi q8 /\ aA q1 k.toNat 13 = vi q9 /\ aA q1 k.toNat 14 = vi q10 /\ aA q1 k.toNat 15 = vi q11 /\ aA q1 k.toNat 16 = vi q12 /\ aA q1 k.toNat 17 = vi q13 /\ True) /\ 18 <= 18 /\ True /\ q21 /\ Post (Value.tuple #[Value.agg #[vs (toS q3),vi q14,vi q15,vs q16,vs q17,vi q18,tree 2 (toN q4) (toE q4),tree 1 (toN q5) (toE q5),vs q19,vi q20,vi q6,vi q7,vi q8,vi q9,vi q10,vi q11,vi q12,vi q13],vb true]))) (T4 ((T2 (True)) /\ HP H 108 2 (stV [(1,some (vs s)),(2,some (pt 0)),(4,some (pt 1)),(6,some (vi (wrap i64 (k + 1))))] [(0,some (AObj.cells [vs d.hull,tree 3 d.nodes.length (aB d.nodes),tree 18 q2 q1,tree 6 d.seams.length (aB d.seams),tree 5 d.packs.length (aB d.packs),tree 3 d.needs.length (aB d.needs)] true)),(1,some (AObj.cells [vz,vi 0,vi 0,vz,vz,vi 0,nS,nS,vz,vi 0,vi 0,vi 0,vi 0,vi 0,vi 0,vi 0,vi 0,vi 0] true))] 2)))))) (True /\ 18 <= 18 /\ True /\ q21 /\ Post (Value.tuple #[Value.agg #[vz,vi 0,vi 0,vz,vz,vi 0,tree 2 0 #[],tree 1 0 #[],vz,vi 0,vi 0,vi 0,vi 0,vi 0,vi 0,vi 0,vi 0,vi 0],vb false])))):=by kernel_rfl
instance : Enc Wt where
 sz:=5
 cells w:=[.int .i64 w.m,.int .i64 w.x,.int .i64 w.y,.int .i64 w.z,.int .i64 w.v]
 len _:=rfl
 nl p:=by intro v hv; simp at hv; rcases hv with rfl | rfl | rfl | rfl | rfl <;> rfl
def iI (w : Wt) : Prop:=(0 <= w.m /\ w.m <= 1099511627776) /\ (-1152921504606846976 <= w.x /\ w.x <= 1152921504606846976) /\ (-1152921504606846976 <= w.y /\ w.y <= 1152921504606846976) /\ (-1152921504606846976 <= w.z /\ w.z <= 1152921504606846976) /\ (0 <= w.v /\ w.v <= 1152921504606846976)
instance (w : Wt) : Decidable (iI w):=by unfold iI; infer_instance
def aJU (w : Wt) : Int:=if iI w then 0 else 9
def aM1 (args : List Value) (Post : Value -> Prop) : Prop:=∃ w : Wt,args = [wtV w] /\ Post (.int .i64 (aJU w))
theorem aSg (w : Wt) (H : HT) (Post : PV) : vcP Tryz.prog (cT Tryz.prog [164] aI 2) 105 [] [wtV w] H Post = (let q2:=T4 (T2 (Post (vi 9))); let q1:=True /\ Post (vi 9); T8 (pIf (decide (w.m >= 0)) (T4 (pIf (decide (w.m <= 1099511627776)) (T8 (T2 (pIf (decide (w.v >= 0)) (T4 (pIf (decide (w.v <= 1152921504606846976)) (T16 (T4 (pIf (decide (w.x >= -1152921504606846976)) (T4 (pIf (decide (w.x <= 1152921504606846976)) (T8 (T4 (True /\ pIf (decide (w.y >= -1152921504606846976)) (T4 (pIf (decide (w.y <= 1152921504606846976)) (T8 (T4 (True /\ pIf (decide (w.z >= -1152921504606846976)) (T4 (pIf (decide (w.z <= 1152921504606846976)) (T8 (Post (vi 0))) (T4 q1))) q2))) (T4 q1))) q2))) (T4 q1))) q2))) q2)) (T4 (T2 q1))))) (T4 (T2 q1)))) (T8 (Post (vi 9))))):=by kernel_rfl
def bB (n : Int) : Prop:=-9223372036854775808 <= n /\ n < 9223372036854775808
instance (n : Int) : Decidable (bB n):=by unfold bB; infer_instance
def gH (l : List Int) : Int:=if bB l.sum then l.sum else 0
def yW (l : List Int) : Int:=if bB l.sum then 0 else 21
def aQH (args : List Value) (Post : Value -> Prop) : Prop:=∃ l : List Int,args = [tree 1 l.length (aB l)] /\ l.length <= 65536 /\ (∀ x ∈ l,bB x) /\ Post (.tuple #[.int .i64 (gH l),.int .i64 (yW l)])
def vcSu : bH:=aI
theorem aS6 (n : Nat) (A : Array Value) (H : HT) (Post : PV) : vcP Tryz.prog vcSu 220 [(3,[4,5,11,12,13])] [tree 1 n A] H Post = (T8 (True /\ HP H 220 3 (stV [(4,some (vi 0)),(5,some (Value.int u64 0)),(11,some (tree 1 n A)),(12,some (vi (↑n : Int))),(13,some (vi 0))] [] 0))):=by kernel_rfl
theorem aLY (n : Nat) (hi lo k : Int) (A : Array Value) (H : HT) (Post : PV) : bX Tryz.prog vcSu 220 [tree 1 n A] [(3,[4,5,11,12,13])] 3 (stV [(4,some (vi hi)),(5,some (.int .u64 lo)),(11,some (tree 1 n A)),(12,some (vi n)),(13,some (vi k))] [] 0) H Post = (let q8:=(13,some (vi (wrap i64 (k + 1)))); let q7:=Value.tuple #[vi (wrap i64 lo),vi 0]; let q3:=aA A k.toNat 0; let q2:=lo + wrap u64 (toI q3) + 0; let q6:=hi + wrap i64 (q2 / 18446744073709551616); let q5:=T4 (True /\ (T2 (True)) /\ Post (Value.tuple #[vi 0,vi 21])); let q4:=(5,some (Value.int u64 (q2 % 18446744073709551616))); let q1:=T2 (True /\ pIf (decide (wrap i64 lo < 0)) (T4 (True /\ (T2 (True)) /\ Post q7)) (T4 ((T2 (True)) /\ Post (Value.tuple #[vi 0,vi 21])))); True /\ pIf (decide (k < (↑n : Int))) ((0 <= k /\ k < (↑n : Int)) /\ aA A k.toNat 0 = vi (toI q3) /\ T4 ((ExtIs Tryz.prog 244 add64Entry /\ 0 <= lo /\ 0 <= wrap u64 (toI q3) /\ toI (vi 0) <= 0 /\ toI (vi 0) <= 1) /\ T8 (T4 (T2 (pIf (decide (toI q3 < 0)) (T4 (T2 (True /\ HP H 220 3 (stV [(4,some (vi (wrap i64 (wrap i64 q6 - 1)))),q4,(11,some (tree 1 n A)),(12,some (vi (↑n : Int))),q8] [] 0)))) (T4 (HP H 220 3 (stV [(4,some (vi (wrap i64 q6))),q4,(11,some (tree 1 n A)),(12,some (vi (↑n : Int))),q8] [] 0)))))))) (T4 (True /\ pIf (decide (hi = 0)) (T2 (True /\ pIf (decide (wrap i64 lo >= 0)) (T4 (T2 ((T2 (True)) /\ Post q7))) (T4 (pIf (decide (hi = -1)) q1 q5)))) (T4 (True /\ pIf (decide (hi = -1)) q1 q5))))):=by kernel_rfl
def aS : Nat -> Wt -> Int
 | 0=>(·.m) | 1=>(·.x) | 2=>(·.y) | 3=>(·.z) | _=>(·.v)
abbrev fnT (f n : Nat) (A : Array Value) : Value:=.func (.func f) #[tree 5 n A] #[]
def zN : bH:=cT Tryz.prog [171,172,173,174,175] (nV Tryz.prog [⟨220,aQH⟩] aI) 2
theorem aLE (n : Nat) (A : Array Value) (H : HT) (Post : PV) : vcP Tryz.prog zN 170 [(3,[1,6,13,14])] [.int .i64 n,fnT 171 n A] H Post = (let q1:=(toNat (↑n : Int)); T2 (True /\ (0 <= (↑n : Int) /\ (↑n : Int) <= (↑n : Int) /\ (↑n : Int) <= 2 ^ 25) /\ T4 (True /\ (NLs (iE q1 [vi 0]) /\ True) /\ HP H 170 3 (stV [(1,some (Value.func (Fn.func 171) #[tree 5 n A] #[])),(6,some (Value.slice (some (Addr.mk 0 0 none)) q1 1)),(13,some (vi (↑q1 : Int))),(14,some (vi 0))] [(0,some (AObj.cells (iE q1 [vi 0]) true))] 1)))):=by kernel_rfl
theorem aEz (n : Nat) (k : Int) (l : List Value) (A : Array Value) (H : HT) (Post : PV) : bX Tryz.prog zN 170 [.int .i64 n,fnT 171 n A] [(3,[1,6,13,14])] 3 (stV [(1,some (fnT 171 n A)),(6,some (.slice (some ⟨0,0,none⟩) n 1)),(13,some (vi n)),(14,some (vi k))] [(0,some (.cells l true))] 1) H Post = (let q2:=toI (aA A k.toNat 0); let q1:=cP l (0 + toNat k * 1) [vi q2]; True /\ pIf (decide (k < (↑n : Int))) (T8 (True /\ (0 <= k /\ k < (↑n : Int)) /\ True /\ aA A k.toNat 0 = vi q2 /\ True /\ (0 <= k /\ k < (↑n : Int)) /\ 0 + toNat k * 1 + 1 <= length l /\ T2 (True /\ (NLs q1 /\ True) /\ HP H 170 3 (stV [(1,some (Value.func (Fn.func 171) #[tree 5 n A] #[])),(6,some (Value.slice (some (Addr.mk 0 0 none)) n 1)),(13,some (vi (↑n : Int))),(14,some (vi (wrap i64 (k + 1))))] [(0,some (AObj.cells q1 true))] 1)))) (True /\ ((0 + n * 1 <= length l /\ NLs l) /\ True) /\ ∃ (l_1 : List Int),eqL [tree 1 n (bP 1 n (List.drop 0 l))] [tree 1 l_1.length (aB l_1)] /\ length l_1 <= 65536 /\ (∀ (x : Int),x ∈ l_1 -> -9223372036854775808 <= x /\ x < 9223372036854775808) /\ T8 (pIf (decide (yW l_1 = 0)) (T2 ((T2 (True)) /\ Post (Value.tuple #[vi (gH l_1),vb true]))) (T2 ((T2 (True)) /\ Post (Value.tuple #[vi (gH l_1),vb false])))))):=by kernel_rfl
theorem aMs (n : Nat) (A : Array Value) (H : HT) (Post : PV) : vcP Tryz.prog zN 170 [(3,[1,6,13,14])] [.int .i64 n,fnT 172 n A] H Post = (let q1:=(toNat (↑n : Int)); T2 (True /\ (0 <= (↑n : Int) /\ (↑n : Int) <= (↑n : Int) /\ (↑n : Int) <= 2 ^ 25) /\ T4 (True /\ (NLs (iE q1 [vi 0]) /\ True) /\ HP H 170 3 (stV [(1,some (Value.func (Fn.func 172) #[tree 5 n A] #[])),(6,some (Value.slice (some (Addr.mk 0 0 none)) q1 1)),(13,some (vi (↑q1 : Int))),(14,some (vi 0))] [(0,some (AObj.cells (iE q1 [vi 0]) true))] 1)))):=by kernel_rfl
theorem aFZ (n : Nat) (k : Int) (l : List Value) (A : Array Value) (H : HT) (Post : PV) : bX Tryz.prog zN 170 [.int .i64 n,fnT 172 n A] [(3,[1,6,13,14])] 3 (stV [(1,some (fnT 172 n A)),(6,some (.slice (some ⟨0,0,none⟩) n 1)),(13,some (vi n)),(14,some (vi k))] [(0,some (.cells l true))] 1) H Post = (let q2:=toI (aA A k.toNat 1); let q1:=cP l (0 + toNat k * 1) [vi q2]; True /\ pIf (decide (k < (↑n : Int))) (T8 (True /\ (0 <= k /\ k < (↑n : Int)) /\ True /\ aA A k.toNat 1 = vi q2 /\ True /\ (0 <= k /\ k < (↑n : Int)) /\ 0 + toNat k * 1 + 1 <= length l /\ T2 (True /\ (NLs q1 /\ True) /\ HP H 170 3 (stV [(1,some (Value.func (Fn.func 172) #[tree 5 n A] #[])),(6,some (Value.slice (some (Addr.mk 0 0 none)) n 1)),(13,some (vi (↑n : Int))),(14,some (vi (wrap i64 (k + 1))))] [(0,some (AObj.cells q1 true))] 1)))) (True /\ ((0 + n * 1 <= length l /\ NLs l) /\ True) /\ ∃ (l_1 : List Int),eqL [tree 1 n (bP 1 n (List.drop 0 l))] [tree 1 l_1.length (aB l_1)] /\ length l_1 <= 65536 /\ (∀ (x : Int),x ∈ l_1 -> -9223372036854775808 <= x /\ x < 9223372036854775808) /\ T8 (pIf (decide (yW l_1 = 0)) (T2 ((T2 (True)) /\ Post (Value.tuple #[vi (gH l_1),vb true]))) (T2 ((T2 (True)) /\ Post (Value.tuple #[vi (gH l_1),vb false])))))):=by kernel_rfl
theorem aMT (n : Nat) (A : Array Value) (H : HT) (Post : PV) : vcP Tryz.prog zN 170 [(3,[1,6,13,14])] [.int .i64 n,fnT 173 n A] H Post = (let q1:=(toNat (↑n : Int)); T2 (True /\ (0 <= (↑n : Int) /\ (↑n : Int) <= (↑n : Int) /\ (↑n : Int) <= 2 ^ 25) /\ T4 (True /\ (NLs (iE q1 [vi 0]) /\ True) /\ HP H 170 3 (stV [(1,some (Value.func (Fn.func 173) #[tree 5 n A] #[])),(6,some (Value.slice (some (Addr.mk 0 0 none)) q1 1)),(13,some (vi (↑q1 : Int))),(14,some (vi 0))] [(0,some (AObj.cells (iE q1 [vi 0]) true))] 1)))):=by kernel_rfl
theorem aER (n : Nat) (k : Int) (l : List Value) (A : Array Value) (H : HT) (Post : PV) : bX Tryz.prog zN 170 [.int .i64 n,fnT 173 n A] [(3,[1,6,13,14])] 3 (stV [(1,some (fnT 173 n A)),(6,some (.slice (some ⟨0,0,none⟩) n 1)),(13,some (vi n)),(14,some (vi k))] [(0,some (.cells l true))] 1) H Post = (let q2:=toI (aA A k.toNat 2); let q1:=cP l (0 + toNat k * 1) [vi q2]; True /\ pIf (decide (k < (↑n : Int))) (T8 (True /\ (0 <= k /\ k < (↑n : Int)) /\ True /\ aA A k.toNat 2 = vi q2 /\ True /\ (0 <= k /\ k < (↑n : Int)) /\ 0 + toNat k * 1 + 1 <= length l /\ T2 (True /\ (NLs q1 /\ True) /\ HP H 170 3 (stV [(1,some (Value.func (Fn.func 173) #[tree 5 n A] #[])),(6,some (Value.slice (some (Addr.mk 0 0 none)) n 1)),(13,some (vi (↑n : Int))),(14,some (vi (wrap i64 (k + 1))))] [(0,some (AObj.cells q1 true))] 1)))) (True /\ ((0 + n * 1 <= length l /\ NLs l) /\ True) /\ ∃ (l_1 : List Int),eqL [tree 1 n (bP 1 n (List.drop 0 l))] [tree 1 l_1.length (aB l_1)] /\ length l_1 <= 65536 /\ (∀ (x : Int),x ∈ l_1 -> -9223372036854775808 <= x /\ x < 9223372036854775808) /\ T8 (pIf (decide (yW l_1 = 0)) (T2 ((T2 (True)) /\ Post (Value.tuple #[vi (gH l_1),vb true]))) (T2 ((T2 (True)) /\ Post (Value.tuple #[vi (gH l_1),vb false])))))):=by kernel_rfl
theorem aN1 (n : Nat) (A : Array Value) (H : HT) (Post : PV) : vcP Tryz.prog zN 170 [(3,[1,6,13,14])] [.int .i64 n,fnT 174 n A] H Post = (let q1:=(toNat (↑n : Int)); T2 (True /\ (0 <= (↑n : Int) /\ (↑n : Int) <= (↑n : Int) /\ (↑n : Int) <= 2 ^ 25) /\ T4 (True /\ (NLs (iE q1 [vi 0]) /\ True) /\ HP H 170 3 (stV [(1,some (Value.func (Fn.func 174) #[tree 5 n A] #[])),(6,some (Value.slice (some (Addr.mk 0 0 none)) q1 1)),(13,some (vi (↑q1 : Int))),(14,some (vi 0))] [(0,some (AObj.cells (iE q1 [vi 0]) true))] 1)))):=by kernel_rfl
theorem aFS (n : Nat) (k : Int) (l : List Value) (A : Array Value) (H : HT) (Post : PV) : bX Tryz.prog zN 170 [.int .i64 n,fnT 174 n A] [(3,[1,6,13,14])] 3 (stV [(1,some (fnT 174 n A)),(6,some (.slice (some ⟨0,0,none⟩) n 1)),(13,some (vi n)),(14,some (vi k))] [(0,some (.cells l true))] 1) H Post = (let q2:=toI (aA A k.toNat 3); let q1:=cP l (0 + toNat k * 1) [vi q2]; True /\ pIf (decide (k < (↑n : Int))) (T8 (True /\ (0 <= k /\ k < (↑n : Int)) /\ True /\ aA A k.toNat 3 = vi q2 /\ True /\ (0 <= k /\ k < (↑n : Int)) /\ 0 + toNat k * 1 + 1 <= length l /\ T2 (True /\ (NLs q1 /\ True) /\ HP H 170 3 (stV [(1,some (Value.func (Fn.func 174) #[tree 5 n A] #[])),(6,some (Value.slice (some (Addr.mk 0 0 none)) n 1)),(13,some (vi (↑n : Int))),(14,some (vi (wrap i64 (k + 1))))] [(0,some (AObj.cells q1 true))] 1)))) (True /\ ((0 + n * 1 <= length l /\ NLs l) /\ True) /\ ∃ (l_1 : List Int),eqL [tree 1 n (bP 1 n (List.drop 0 l))] [tree 1 l_1.length (aB l_1)] /\ length l_1 <= 65536 /\ (∀ (x : Int),x ∈ l_1 -> -9223372036854775808 <= x /\ x < 9223372036854775808) /\ T8 (pIf (decide (yW l_1 = 0)) (T2 ((T2 (True)) /\ Post (Value.tuple #[vi (gH l_1),vb true]))) (T2 ((T2 (True)) /\ Post (Value.tuple #[vi (gH l_1),vb false])))))):=by kernel_rfl
theorem aNj (n : Nat) (A : Array Value) (H : HT) (Post : PV) : vcP Tryz.prog zN 170 [(3,[1,6,13,14])] [.int .i64 n,fnT 175 n A] H Post = (let q1:=(toNat (↑n : Int)); T2 (True /\ (0 <= (↑n : Int) /\ (↑n : Int) <= (↑n : Int) /\ (↑n : Int) <= 2 ^ 25) /\ T4 (True /\ (NLs (iE q1 [vi 0]) /\ True) /\ HP H 170 3 (stV [(1,some (Value.func (Fn.func 175) #[tree 5 n A] #[])),(6,some (Value.slice (some (Addr.mk 0 0 none)) q1 1)),(13,some (vi (↑q1 : Int))),(14,some (vi 0))] [(0,some (AObj.cells (iE q1 [vi 0]) true))] 1)))):=by kernel_rfl
theorem aEE (n : Nat) (k : Int) (l : List Value) (A : Array Value) (H : HT) (Post : PV) : bX Tryz.prog zN 170 [.int .i64 n,fnT 175 n A] [(3,[1,6,13,14])] 3 (stV [(1,some (fnT 175 n A)),(6,some (.slice (some ⟨0,0,none⟩) n 1)),(13,some (vi n)),(14,some (vi k))] [(0,some (.cells l true))] 1) H Post = (let q2:=toI (aA A k.toNat 4); let q1:=cP l (0 + toNat k * 1) [vi q2]; True /\ pIf (decide (k < (↑n : Int))) (T8 (True /\ (0 <= k /\ k < (↑n : Int)) /\ True /\ aA A k.toNat 4 = vi q2 /\ True /\ (0 <= k /\ k < (↑n : Int)) /\ 0 + toNat k * 1 + 1 <= length l /\ T2 (True /\ (NLs q1 /\ True) /\ HP H 170 3 (stV [(1,some (Value.func (Fn.func 175) #[tree 5 n A] #[])),(6,some (Value.slice (some (Addr.mk 0 0 none)) n 1)),(13,some (vi (↑n : Int))),(14,some (vi (wrap i64 (k + 1))))] [(0,some (AObj.cells q1 true))] 1)))) (True /\ ((0 + n * 1 <= length l /\ NLs l) /\ True) /\ ∃ (l_1 : List Int),eqL [tree 1 n (bP 1 n (List.drop 0 l))] [tree 1 l_1.length (aB l_1)] /\ length l_1 <= 65536 /\ (∀ (x : Int),x ∈ l_1 -> -9223372036854775808 <= x /\ x < 9223372036854775808) /\ T8 (pIf (decide (yW l_1 = 0)) (T2 ((T2 (True)) /\ Post (Value.tuple #[vi (gH l_1),vb true]))) (T2 ((T2 (True)) /\ Post (Value.tuple #[vi (gH l_1),vb false])))))):=by kernel_rfl
def iM : Nat -> Nat
 | 0=>171 | 1=>172 | 2=>173 | 3=>174 | _=>175
def aIj (args : List Value) (Post : Value -> Prop) : Prop:=∃ (ws : List Wt) (i : Nat),i < 5 /\ args = [.int .i64 ws.length,fnT (iM i) ws.length (aB ws)] /\ ws.length <= 65536 /\ (∀ w ∈ ws,bB (aS i w)) /\ Post (.tuple #[.int .i64 (gH (ws.map (aS i))),.bool (decide (bB (ws.map (aS i)).sum))])
def vcSw : bH:=cT Tryz.prog [169] (aU [⟨170,aIj⟩,⟨105,aM1⟩] aI) 2
theorem aRL (n : Nat) (A : Array Value) (H : HT) (Post : PV) : vcP Tryz.prog vcSw 107 [] [tree 5 n A] H Post = (let q8:=[vi (↑n : Int),Value.func (Fn.func 172) #[tree 5 n A] #[]]; let q7:=(T4 (True /\ True)) /\ True /\ True; let q6:=Value.tuple #[Value.agg #[vi 0,vi 0,vi 0,vi 0,vi 0],vi 21]; let q5:=True /\ 5 <= 5 /\ True /\ q7 /\ Post q6; let q4:=[vi (↑n : Int),Value.func (Fn.func 173) #[tree 5 n A] #[]]; let q3:=[vi (↑n : Int),Value.func (Fn.func 174) #[tree 5 n A] #[]]; let q2:=[vi (↑n : Int),Value.func (Fn.func 175) #[tree 5 n A] #[]]; let q1:=T4 (True /\ 5 <= 5 /\ T2 (True /\ 1 <= 1 /\ T4 q5)); T4 (T2 (1 <= 1 /\ 1 <= 1 /\ T8 (∃ (ws : List Wt),∃ (i : Nat),i < 5 /\ eqL [vi (↑n : Int),Value.func (Fn.func 171) #[tree 5 n A] #[]] [vi (↑ws.length : Int),Value.func (Fn.func (iM i)) #[tree 5 ws.length (aB ws)] #[]] /\ length ws <= 65536 /\ (∀ (w : Wt),w ∈ ws -> -9223372036854775808 <= aS i w /\ aS i w < 9223372036854775808) /\ T2 (True /\ pIf (decide (bB (List.sum (List.map (aS i) ws)))) (T4 (True /\ 1 <= 5 /\ T4 (1 <= 1 /\ T4 (T2 (∃ (ws_1 : List Wt),∃ (i_1 : Nat),i_1 < 5 /\ eqL q8 [vi (↑ws_1.length : Int),Value.func (Fn.func (iM i_1)) #[tree 5 ws_1.length (aB ws_1)] #[]] /\ length ws_1 <= 65536 /\ (∀ (w : Wt),w ∈ ws_1 -> -9223372036854775808 <= aS i_1 w /\ aS i_1 w < 9223372036854775808) /\ T2 (True /\ pIf (decide (bB (List.sum (List.map (aS i_1) ws_1)))) (T4 (True /\ 2 <= 5 /\ T4 (1 <= 1 /\ T4 (T2 (∃ (ws_2 : List Wt),∃ (i_2 : Nat),i_2 < 5 /\ eqL q4 [vi (↑ws_2.length : Int),Value.func (Fn.func (iM i_2)) #[tree 5 ws_2.length (aB ws_2)] #[]] /\ length ws_2 <= 65536 /\ (∀ (w : Wt),w ∈ ws_2 -> -9223372036854775808 <= aS i_2 w /\ aS i_2 w < 9223372036854775808) /\ T2 (True /\ pIf (decide (bB (List.sum (List.map (aS i_2) ws_2)))) (T4 (True /\ 3 <= 5 /\ T4 (1 <= 1 /\ T4 (T2 (∃ (ws_3 : List Wt),∃ (i_3 : Nat),i_3 < 5 /\ eqL q3 [vi (↑ws_3.length : Int),Value.func (Fn.func (iM i_3)) #[tree 5 ws_3.length (aB ws_3)] #[]] /\ length ws_3 <= 65536 /\ (∀ (w : Wt),w ∈ ws_3 -> -9223372036854775808 <= aS i_3 w /\ aS i_3 w < 9223372036854775808) /\ T2 (True /\ pIf (decide (bB (List.sum (List.map (aS i_3) ws_3)))) (T4 (True /\ 4 <= 5 /\ T4 (1 <= 1 /\ T4 (T2 (∃ (ws_4 : List Wt),∃ (i_4 : Nat),i_4 < 5 /\ eqL q2 [vi (↑ws_4.length : Int),Value.func (Fn.func (iM i_4)) #[tree 5 ws_4.length (aB ws_4)] #[]] /\ length ws_4 <= 65536 /\ (∀ (w : Wt),w ∈ ws_4 -> -9223372036854775808 <= aS i_4 w /\ aS i_4 w < 9223372036854775808) /\ T2 (True /\ pIf (decide (bB (List.sum (List.map (aS i_4) ws_4)))) (T4 (True /\ 5 <= 5 /\ T4 (1 <= 1 /\ T4 (∃ (w : Wt),eqL [Value.agg #[vi (gH (List.map (aS i) ws)),vi (gH (List.map (aS i_1) ws_1)),vi (gH (List.map (aS i_2) ws_2)),vi (gH (List.map (aS i_3) ws_3)),vi (gH (List.map (aS i_4) ws_4))]] [wtV w] /\ True /\ pIf (!decide (aJU w = 0)) (T2 (5 <= 5 /\ True /\ q7 /\ Post q6)) (T2 (5 <= 5 /\ True /\ q7 /\ Post (Value.tuple #[Value.agg #[vi (gH (List.map (aS i) ws)),vi (gH (List.map (aS i_1) ws_1)),vi (gH (List.map (aS i_2) ws_2)),vi (gH (List.map (aS i_3) ws_3)),vi (gH (List.map (aS i_4) ws_4))],vi 0]))))))) (T4 (True /\ 5 <= 5 /\ T4 (1 <= 1 /\ T4 q5))))))))) (T4 (True /\ 4 <= 5 /\ T4 (1 <= 1 /\ T4 (T2 (∃ (ws : List Wt),∃ (i : Nat),i < 5 /\ eqL q2 [vi (↑ws.length : Int),Value.func (Fn.func (iM i)) #[tree 5 ws.length (aB ws)] #[]] /\ length ws <= 65536 /\ (∀ (w : Wt),w ∈ ws -> -9223372036854775808 <= aS i w /\ aS i w < 9223372036854775808) /\ T2 (True /\ pIf (decide (bB (List.sum (List.map (aS i) ws)))) q1 q1)))))))))))) (T4 (True /\ 3 <= 5 /\ T4 (1 <= 1 /\ T4 (T2 (∃ (ws : List Wt),∃ (i : Nat),i < 5 /\ eqL q3 [vi (↑ws.length : Int),Value.func (Fn.func (iM i)) #[tree 5 ws.length (aB ws)] #[]] /\ length ws <= 65536 /\ (∀ (w : Wt),w ∈ ws -> -9223372036854775808 <= aS i w /\ aS i w < 9223372036854775808) /\ T2 (True /\ pIf (decide (bB (List.sum (List.map (aS i) ws)))) (T4 (True /\ 4 <= 5 /\ T2 (True /\ 1 <= 1 /\ T4 (T2 (∃ (ws : List Wt),∃ (i : Nat),i < 5 /\ eqL q2 [vi (↑ws.length : Int),Value.func (Fn.func (iM i)) #[tree 5 ws.length (aB ws)] #[]] /\ length ws <= 65536 /\ (∀ (w : Wt),w ∈ ws -> -9223372036854775808 <= aS i w /\ aS i w < 9223372036854775808) /\ T2 (True /\ pIf (decide (bB (List.sum (List.map (aS i) ws)))) q1 q1)))))) (T4 (True /\ 4 <= 5 /\ T2 (True /\ 1 <= 1 /\ T4 (T2 (∃ (ws : List Wt),∃ (i : Nat),i < 5 /\ eqL q2 [vi (↑ws.length : Int),Value.func (Fn.func (iM i)) #[tree 5 ws.length (aB ws)] #[]] /\ length ws <= 65536 /\ (∀ (w : Wt),w ∈ ws -> -9223372036854775808 <= aS i w /\ aS i w < 9223372036854775808) /\ T2 (True /\ pIf (decide (bB (List.sum (List.map (aS i) ws)))) q1 q1)))))))))))))))))) (T4 (True /\ 2 <= 5 /\ T4 (1 <= 1 /\ T4 (T2 (∃ (ws : List Wt),∃ (i : Nat),i < 5 /\ eqL q4 [vi (↑ws.length : Int),Value.func (Fn.func (iM i)) #[tree 5 ws.length (aB ws)] #[]] /\ length ws <= 65536 /\ (∀ (w : Wt),w ∈ ws -> -9223372036854775808 <= aS i w /\ aS i w < 9223372036854775808) /\ T2 (True /\ pIf (decide (bB (List.sum (List.map (aS i) ws)))) (T4 (True /\ 3 <= 5 /\ T2 (True /\ 1 <= 1 /\ T4 (T2 (∃ (ws : List Wt),∃ (i : Nat),i < 5 /\ eqL q3 [vi (↑ws.length : Int),Value.func (Fn.func (iM i)) #[tree 5 ws.length (aB ws)] #[]] /\ length ws <= 65536 /\ (∀ (w : Wt),w ∈ ws -> -9223372036854775808 <= aS i w /\ aS i w < 9223372036854775808) /\ T2 (True /\ pIf (decide (bB (List.sum (List.map (aS i) ws)))) (T4 (True /\ 4 <= 5 /\ T2 (True /\ 1 <= 1 /\ T4 (T2 (∃ (ws : List Wt),∃ (i : Nat),i < 5 /\ eqL q2 [vi (↑ws.length : Int),Value.func (Fn.func (iM i)) #[tree 5 ws.length (aB ws)] #[]] /\ length ws <= 65536 /\ (∀ (w : Wt),w ∈ ws -> -9223372036854775808 <= aS i w /\ aS i w < 9223372036854775808) /\ T2 (True /\ pIf (decide (bB (List.sum (List.map (aS i) ws)))) q1 q1)))))) (T4 (True /\ 4 <= 5 /\ T2 (True /\ 1 <= 1 /\ T4 (T2 (∃ (ws : List Wt),∃ (i : Nat),i < 5 /\ eqL q2 [vi (↑ws.length : Int),Value.func (Fn.func (iM i)) #[tree 5 ws.length (aB ws)] #[]] /\ length ws <= 65536 /\ (∀ (w : Wt),w ∈ ws -> -9223372036854775808 <= aS i w /\ aS i w < 9223372036854775808) /\ T2 (True /\ pIf (decide (bB (List.sum (List.map (aS i) ws)))) q1 q1)))))))))))) (T4 (True /\ 3 <= 5 /\ T2 (True /\ 1 <= 1 /\ T4 (T2 (∃ (ws : List Wt),∃ (i : Nat),i < 5 /\ eqL q3 [vi (↑ws.length : Int),Value.func (Fn.func (iM i)) #[tree 5 ws.length (aB ws)] #[]] /\ length ws <= 65536 /\ (∀ (w : Wt),w ∈ ws -> -9223372036854775808 <= aS i w /\ aS i w < 9223372036854775808) /\ T2 (True /\ pIf (decide (bB (List.sum (List.map (aS i) ws)))) (T4 (True /\ 4 <= 5 /\ T2 (True /\ 1 <= 1 /\ T4 (T2 (∃ (ws : List Wt),∃ (i : Nat),i < 5 /\ eqL q2 [vi (↑ws.length : Int),Value.func (Fn.func (iM i)) #[tree 5 ws.length (aB ws)] #[]] /\ length ws <= 65536 /\ (∀ (w : Wt),w ∈ ws -> -9223372036854775808 <= aS i w /\ aS i w < 9223372036854775808) /\ T2 (True /\ pIf (decide (bB (List.sum (List.map (aS i) ws)))) q1 q1)))))) (T4 (True /\ 4 <= 5 /\ T2 (True /\ 1 <= 1 /\ T4 (T2 (∃ (ws : List Wt),∃ (i : Nat),i < 5 /\ eqL q2 [vi (↑ws.length : Int),Value.func (Fn.func (iM i)) #[tree 5 ws.length (aB ws)] #[]] /\ length ws <= 65536 /\ (∀ (w : Wt),w ∈ ws -> -9223372036854775808 <= aS i w /\ aS i w < 9223372036854775808) /\ T2 (True /\ pIf (decide (bB (List.sum (List.map (aS i) ws)))) q1 q1)))))))))))))))))))))))) (T4 (True /\ 1 <= 5 /\ T4 (1 <= 1 /\ T4 (T2 (∃ (ws : List Wt),∃ (i : Nat),i < 5 /\ eqL q8 [vi (↑ws.length : Int),Value.func (Fn.func (iM i)) #[tree 5 ws.length (aB ws)] #[]] /\ length ws <= 65536 /\ (∀ (w : Wt),w ∈ ws -> -9223372036854775808 <= aS i w /\ aS i w < 9223372036854775808) /\ T2 (True /\ pIf (decide (bB (List.sum (List.map (aS i) ws)))) (T4 (True /\ 2 <= 5 /\ T2 (True /\ 1 <= 1 /\ T4 (T2 (∃ (ws : List Wt),∃ (i : Nat),i < 5 /\ eqL q4 [vi (↑ws.length : Int),Value.func (Fn.func (iM i)) #[tree 5 ws.length (aB ws)] #[]] /\ length ws <= 65536 /\ (∀ (w : Wt),w ∈ ws -> -9223372036854775808 <= aS i w /\ aS i w < 9223372036854775808) /\ T2 (True /\ pIf (decide (bB (List.sum (List.map (aS i) ws)))) (T4 (True /\ 3 <= 5 /\ T2 (True /\ 1 <= 1 /\ T4 (T2 (∃ (ws : List Wt),∃ (i : Nat),i < 5 /\ eqL q3 [vi (↑ws.length : Int),Value.func (Fn.func (iM i)) #[tree 5 ws.length (aB ws)] #[]] /\ length ws <= 65536 /\ (∀ (w : Wt),w ∈ ws -> -9223372036854775808 <= aS i w /\ aS i w < 9223372036854775808) /\ T2 (True /\ pIf (decide (bB (List.sum (List.map (aS i) ws)))) (T4 (True /\ 4 <= 5 /\ T2 (True /\ 1 <= 1 /\ T4 (T2 (∃ (ws : List Wt),∃ (i : Nat),i < 5 /\ eqL q2 [vi (↑ws.length : Int),Value.func (Fn.func (iM i)) #[tree 5 ws.length (aB ws)] #[]] /\ length ws <= 65536 /\ (∀ (w : Wt),w ∈ ws -> -9223372036854775808 <= aS i w /\ aS i w < 9223372036854775808) /\ T2 (True /\ pIf (decide (bB (List.sum (List.map (aS i) ws)))) q1 q1)))))) (T4 (True /\ 4 <= 5 /\ T2 (True /\ 1 <= 1 /\ T4 (T2 (∃ (ws : List Wt),∃ (i : Nat),i < 5 /\ eqL q2 [vi (↑ws.length : Int),Value.func (Fn.func (iM i)) #[tree 5 ws.length (aB ws)] #[]] /\ length ws <= 65536 /\ (∀ (w : Wt),w ∈ ws -> -9223372036854775808 <= aS i w /\ aS i w < 9223372036854775808) /\ T2 (True /\ pIf (decide (bB (List.sum (List.map (aS i) ws)))) q1 q1)))))))))))) (T4 (True /\ 3 <= 5 /\ T2 (True /\ 1 <= 1 /\ T4 (T2 (∃ (ws : List Wt),∃ (i : Nat),i < 5 /\ eqL q3 [vi (↑ws.length : Int),Value.func (Fn.func (iM i)) #[tree 5 ws.length (aB ws)] #[]] /\ length ws <= 65536 /\ (∀ (w : Wt),w ∈ ws -> -9223372036854775808 <= aS i w /\ aS i w < 9223372036854775808) /\ T2 (True /\ pIf (decide (bB (List.sum (List.map (aS i) ws)))) (T4 (True /\ 4 <= 5 /\ T2 (True /\ 1 <= 1 /\ T4 (T2 (∃ (ws : List Wt),∃ (i : Nat),i < 5 /\ eqL q2 [vi (↑ws.length : Int),Value.func (Fn.func (iM i)) #[tree 5 ws.length (aB ws)] #[]] /\ length ws <= 65536 /\ (∀ (w : Wt),w ∈ ws -> -9223372036854775808 <= aS i w /\ aS i w < 9223372036854775808) /\ T2 (True /\ pIf (decide (bB (List.sum (List.map (aS i) ws)))) q1 q1)))))) (T4 (True /\ 4 <= 5 /\ T2 (True /\ 1 <= 1 /\ T4 (T2 (∃ (ws : List Wt),∃ (i : Nat),i < 5 /\ eqL q2 [vi (↑ws.length : Int),Value.func (Fn.func (iM i)) #[tree 5 ws.length (aB ws)] #[]] /\ length ws <= 65536 /\ (∀ (w : Wt),w ∈ ws -> -9223372036854775808 <= aS i w /\ aS i w < 9223372036854775808) /\ T2 (True /\ pIf (decide (bB (List.sum (List.map (aS i) ws)))) q1 q1)))))))))))))))))) (T4 (True /\ 2 <= 5 /\ T2 (True /\ 1 <= 1 /\ T4 (T2 (∃ (ws : List Wt),∃ (i : Nat),i < 5 /\ eqL q4 [vi (↑ws.length : Int),Value.func (Fn.func (iM i)) #[tree 5 ws.length (aB ws)] #[]] /\ length ws <= 65536 /\ (∀ (w : Wt),w ∈ ws -> -9223372036854775808 <= aS i w /\ aS i w < 9223372036854775808) /\ T2 (True /\ pIf (decide (bB (List.sum (List.map (aS i) ws)))) (T4 (True /\ 3 <= 5 /\ T2 (True /\ 1 <= 1 /\ T4 (T2 (∃ (ws : List Wt),∃ (i : Nat),i < 5 /\ eqL q3 [vi (↑ws.length : Int),Value.func (Fn.func (iM i)) #[tree 5 ws.length (aB ws)] #[]] /\ length ws <= 65536 /\ (∀ (w : Wt),w ∈ ws -> -9223372036854775808 <= aS i w /\ aS i w < 9223372036854775808) /\ T2 (True /\ pIf (decide (bB (List.sum (List.map (aS i) ws)))) (T4 (True /\ 4 <= 5 /\ T2 (True /\ 1 <= 1 /\ T4 (T2 (∃ (ws : List Wt),∃ (i : Nat),i < 5 /\ eqL q2 [vi (↑ws.length : Int),Value.func (Fn.func (iM i)) #[tree 5 ws.length (aB ws)] #[]] /\ length ws <= 65536 /\ (∀ (w : Wt),w ∈ ws -> -9223372036854775808 <= aS i w /\ aS i w < 9223372036854775808) /\ T2 (True /\ pIf (decide (bB (List.sum (List.map (aS i) ws)))) q1 q1)))))) (T4 (True /\ 4 <= 5 /\ T2 (True /\ 1 <= 1 /\ T4 (T2 (∃ (ws : List Wt),∃ (i : Nat),i < 5 /\ eqL q2 [vi (↑ws.length : Int),Value.func (Fn.func (iM i)) #[tree 5 ws.length (aB ws)] #[]] /\ length ws <= 65536 /\ (∀ (w : Wt),w ∈ ws -> -9223372036854775808 <= aS i w /\ aS i w < 9223372036854775808) /\ T2 (True /\ pIf (decide (bB (List.sum (List.map (aS i) ws)))) q1 q1)))))))))))) (T4 (True /\ 3 <= 5 /\ T2 (True /\ 1 <= 1 /\ T4 (T2 (∃ (ws : List Wt),∃ (i : Nat),i < 5 /\ eqL q3 [vi (↑ws.length : Int),Value.func (Fn.func (iM i)) #[tree 5 ws.length (aB ws)] #[]] /\ length ws <= 65536 /\ (∀ (w : Wt),w ∈ ws -> -9223372036854775808 <= aS i w /\ aS i w < 9223372036854775808) /\ T2 (True /\ pIf (decide (bB (List.sum (List.map (aS i) ws)))) (T4 (True /\ 4 <= 5 /\ T2 (True /\ 1 <= 1 /\ T4 (T2 (∃ (ws : List Wt),∃ (i : Nat),i < 5 /\ eqL q2 [vi (↑ws.length : Int),Value.func (Fn.func (iM i)) #[tree 5 ws.length (aB ws)] #[]] /\ length ws <= 65536 /\ (∀ (w : Wt),w ∈ ws -> -9223372036854775808 <= aS i w /\ aS i w < 9223372036854775808) /\ T2 (True /\ pIf (decide (bB (List.sum (List.map (aS i) ws)))) q1 q1)))))) (T4 (True /\ 4 <= 5 /\ T2 (True /\ 1 <= 1 /\ T4 (T2 (∃ (ws : List Wt),∃ (i : Nat),i < 5 /\ eqL q2 [vi (↑ws.length : Int),Value.func (Fn.func (iM i)) #[tree 5 ws.length (aB ws)] #[]] /\ length ws <= 65536 /\ (∀ (w : Wt),w ∈ ws -> -9223372036854775808 <= aS i w /\ aS i w < 9223372036854775808) /\ T2 (True /\ pIf (decide (bB (List.sum (List.map (aS i) ws)))) q1 q1))))))))))))))))))))))))))))):=by kernel_rfl
theorem aPe : aZ Tryz.prog ⟨105,aM1⟩:=by
 rintro args Post ⟨w,rfl,h⟩
 refine aN (bL mixed aD 2) mixed (by kernel_rfl) (by kernel_rfl) _ (aSg w _ _) ?_
 simp only [true_and]
 have yes : iI w -> Post (.int .i64 0):=fun hp=>by unfold aJU at h; rwa [if_pos hp] at h
 have no : ¬ iI w -> Post (.int .i64 9):=fun hp=>by unfold aJU at h; rwa [if_neg hp] at h
 clear h
 unfold iI at yes no
 repeat' (first
  | refine ifD (fun _=>?_) (fun _=>?_)
  | exact yes (by omega)
  | exact no (by omega))
theorem oT : aZ Tryz.prog ⟨108,pD⟩:=by
 rintro args Post ⟨d,s,rfl,hf,h⟩
 refine aN aD mixed (by kernel_rfl) (by kernel_rfl) _ (aPC d s _ _) ?_
 simp only [true_and]
 refine cS (n:=d.parts.length) (p:=fun k=>(∀ j (hj : j < d.parts.length),j < k -> ¬ d.parts[j].id = s) -> OkP 108 [aC d,.string s] 2 Post (stV [(1,some (.string s)),(2,some (pt 0)),(4,some (pt 1)),(6,some (vi k))] [(0,some (.cells (aG d) true)),(1,some (.cells vG true))] 2)) (fun hall=>?_) (fun k k1 ih hall=>?_) (fun i _ hi=>by omega)
 ·refine aV aD mixed _ (aJp d s d.parts.length _ _) ?_
  simp only [true_and,and_true,le_refl]
  have e : cO d s = none:=by
   unfold cO
   rw [List.find?_eq_none]
   intro g hg
   obtain ⟨i,hi,rfl⟩:=List.mem_iff_getElem.1 hg
   simpa using hall i hi hi
  rw [e] at h
  exact ifD (fun hlt=>by omega) (fun _=>h)
 ·refine aV aD mixed _ (aJp d s k _ _) ?_
  have hk : ((k : Nat) : Int).toNat = k:=toNat_natCast k
  have ks:=hf.len
  simp only [hk,gT k1]
  have hfound : d.parts[k].id = s -> Post (.tuple #[dX d.parts[k],.bool true]):=fun he=>by
   have e:=wG k1 he (fun j hj hjk=>hall j hj hjk)
   rw [e] at h
   exact h
  have hnext : ¬ d.parts[k].id = s -> OkP 108 [aC d,.string s] 2 Post (stV [(1,some (.string s)),(2,some (pt 0)),(4,some (pt 1)),(6,some (vi ((k + 1 : Nat) : Int)))] [(0,some (.cells (aG d) true)),(1,some (.cells vG true))] 2):=fun he=>ih fun j hj hjk=>by
   rcases Nat.lt_or_ge j k with h' | h'
   ·exact hall j hj h'
   ·have : j = k:=by omega
    subst this
    exact he
  clear ih hall h
  generalize d.parts[k] = p at *
  simp only [fP,aQ,aP,cH,cG,true_and,and_true,le_refl,aJ (show k < 2 ^ 62 by omega),List.getElem?_cons_zero,List.getElem?_cons_succ,Option.getD_some]
  exact ifD (fun _=>⟨⟨by omega,by omega⟩,ifD (fun he=>⟨⟨by omega,by omega⟩,hfound he⟩) (fun he=>hnext he)⟩) (fun h'=>by omega)
theorem aKq {l : List Int} {k : Nat} (h : k < l.length) : (l.take (k + 1)).sum = (l.take k).sum + l[k]:=by
 have e : l.take (k + 1) = l.take k ++ [l[k]]:=by
  rw [List.take_add_one,List.getElem?_eq_getElem h]
  rfl
 rw [e,List.sum_append,List.sum_cons,List.sum_nil]
 omega
theorem aQ2 {l : List Int} (h : ∀ x ∈ l,bB x) : -(9223372036854775808 * (l.length : Int)) <= l.sum /\ l.sum <= 9223372036854775808 * (l.length : Int):=by
 induction l with
 | nil=>simp
 | cons a l ih =>
  have:=ih fun x hx=>h x (by simp [hx])
  have h1:=h a (by simp)
  unfold bB at h1
  rw [List.sum_cons,List.length_cons]
  omega
theorem qW {l : List Int} (h : ∀ x ∈ l,bB x) (k : Nat) (hk : k <= 65536) : -(9223372036854775808 * 65536) <= (l.take k).sum /\ (l.take k).sum <= 9223372036854775808 * 65536:=by
 have h1:=aQ2 (l:=l.take k) fun x hx=>h x (List.mem_of_mem_take hx)
 have h2 : (l.take k).length <= 65536:=by rw [List.length_take]; omega
 omega
theorem aOv : ExtIs Tryz.prog 244 add64Entry:=⟨fun args w=>run_callFunc_extern Tryz.func244 (by kernel_rfl) (by kernel_rfl) (by kernel_rfl) (by kernel_rfl) args w⟩
theorem aAd {l : List Int} {k : Nat} (h : k < l.length) : aA (aB l) k 0 = .int .i64 l[k]:=by
 rw [bK h]
 rfl
theorem aJM (n : Int) : IntKind.u64.wrap n = n % 18446744073709551616:=by rw [IntKind.wrap_u64]
theorem aOE (n : Int) : -9223372036854775808 <= IntKind.i64.wrap n /\ IntKind.i64.wrap n < 9223372036854775808 /\ ∃ q,IntKind.i64.wrap n = n + 18446744073709551616 * q:=by
 rw [IntKind.wrap_i64]
 refine ⟨by omega,by omega,?_⟩
 by_cases h : n % 18446744073709551616 < 9223372036854775808
 ·exact ⟨-(n / 18446744073709551616),by omega⟩
 ·exact ⟨-(n / 18446744073709551616) - 1,by omega⟩
theorem oA {l : List Int} (h : bB l.sum) : gH l = l.sum /\ yW l = 0:=by
 unfold gH yW
 rw [if_pos h,if_pos h]
 exact ⟨rfl,rfl⟩
theorem aQ3 {l : List Int} (h : ¬ bB l.sum) : gH l = 0 /\ yW l = 21:=by
 unfold gH yW
 rw [if_neg h,if_neg h]
 exact ⟨rfl,rfl⟩
theorem aOI : aZ Tryz.prog ⟨220,aQH⟩:=by
 rintro args Post ⟨l,rfl,hl,hx,h⟩
 refine aN aD mixed (by kernel_rfl) (by kernel_rfl) _ (aS6 l.length (aB l) _ _) ?_
 simp only [true_and]
 refine cS (n:=l.length) (p:=fun k=>OkP 220 [tree 1 l.length (aB l)] 3 Post (stV [(4,some (vi ((l.take k).sum / 18446744073709551616))),(5,some (.int .u64 ((l.take k).sum % 18446744073709551616))),(11,some (tree 1 l.length (aB l))),(12,some (vi l.length)),(13,some (vi k))] [] 0)) ?_ (fun k k1 ih=>?_)
 ·refine aV aD mixed _ (aLY l.length _ _ l.length (aB l) _ _) ?_
  rw [List.take_length]
  have hb:=qW hx l.length hl
  rw [List.take_length] at hb
  have good : ∀ r : Int,(-9223372036854775808 <= r /\ r < 9223372036854775808) -> r = l.sum -> Post (.tuple #[.int .i64 r,.int .i64 0]):=fun r hr e=>by
   obtain ⟨s1,s2⟩:=oA (l:=l) (by rw [← e]; exact hr)
   rw [s1,s2] at h
   rw [e]
   exact h
  have bad : ¬ (-9223372036854775808 <= l.sum /\ l.sum < 9223372036854775808) -> Post (.tuple #[.int .i64 0,.int .i64 21]):=fun e=>by
   obtain ⟨s1,s2⟩:=aQ3 (l:=l) e
   rw [s1,s2] at h
   exact h
  clear h
  generalize l.sum = S at *
  obtain ⟨b1,b2,q,b3⟩:=aOE (S % 18446744073709551616)
  generalize IntKind.i64.wrap (S % 18446744073709551616) = r at *
  simp only [true_and]
  refine ifD (fun hlt=>by omega) (fun _=>?_)
  repeat' (first
   | refine ifD (fun _=>?_) (fun _=>?_)
   | exact good _ (by omega) (by omega)
   | exact bad (by omega))
 ·refine aV aD mixed _ (aLY l.length _ _ k (aB l) _ _) ?_
  have hk : ((k : Nat) : Int).toNat = k:=toNat_natCast k
  have hb:=qW hx k (by omega)
  have hb2:=qW hx (k + 1) (by omega)
  have hv:=hx _ (List.getElem_mem k1)
  unfold bB at hv
  rw [aKq k1] at ih hb2
  simp only [true_and,hk,aAd k1,aQ,aJM,aJ (show k < 2 ^ 62 by omega)]
  generalize l[k] = x at *
  generalize (l.take k).sum = S at *
  have e2 : (S % 18446744073709551616 + x % 18446744073709551616 + 0) % 18446744073709551616 = (S + x) % 18446744073709551616:=by omega
  rw [e2]
  have hc : IntKind.i64.wrap ((S % 18446744073709551616 + x % 18446744073709551616 + 0) / 18446744073709551616) = (S % 18446744073709551616 + x % 18446744073709551616 + 0) / 18446744073709551616:=bA (by omega) (by omega)
  rw [hc]
  have ha : IntKind.i64.wrap (S / 18446744073709551616 + (S % 18446744073709551616 + x % 18446744073709551616 + 0) / 18446744073709551616) = S / 18446744073709551616 + (S % 18446744073709551616 + x % 18446744073709551616 + 0) / 18446744073709551616:=bA (by omega) (by omega)
  rw [ha]
  refine ifD (fun _=>⟨⟨by omega,by omega⟩,⟨aOv,by omega,by omega,by decide,by decide⟩,ifD (fun hn=>?_) (fun hn=>?_)⟩) (fun h'=>by omega)
  ·rw [bA (by omega) (by omega)]
   have e3 : S / 18446744073709551616 + (S % 18446744073709551616 + x % 18446744073709551616 + 0) / 18446744073709551616 - 1 = (S + x) / 18446744073709551616:=by omega
   rw [e3]
   exact ih
  ·have e3 : S / 18446744073709551616 + (S % 18446744073709551616 + x % 18446744073709551616 + 0) / 18446744073709551616 = (S + x) / 18446744073709551616:=by omega
   rw [e3]
   exact ih
theorem fN : aW Tryz.prog zN:=bL mixed (mV (by
 intro e he
 simp only [mem_cons,not_mem_nil,or_false] at he
 subst he
 exact aOI) aD) 2
def fX (f : Wt -> Int) (ws : List Wt) (k : Nat) : List Value:=((ws.take k).map fun w=>.int .i64 (f w)) ++ List.replicate (ws.length - k) (.int .i64 0)
theorem aAo (v : Value) : ∀ n,iE n [v] = List.replicate n v
 | 0=>rfl
 | n + 1=>by rw [iE,aAo v n]; rfl
theorem fT (f : Wt -> Int) (ws : List Wt) : fX f ws 0 = iE ws.length [.int .i64 0]:=by
 rw [aAo]
 rfl
theorem iO {f : Wt -> Int} {ws : List Wt} {k : Nat} (h : k <= ws.length) : (fX f ws k).length = ws.length:=by
 unfold fX
 rw [List.length_append,length_map,List.length_take,List.length_replicate]
 omega
theorem nT {f : Wt -> Int} {ws : List Wt} {k : Nat} (h : k < ws.length) : cP (fX f ws k) k [.int .i64 (f ws[k])] = fX f ws (k + 1):=by
 show (fX f ws k).set k _ = _
 unfold fX
 have hl : ((ws.take k).map fun w=>Value.int .i64 (f w)).length = k:=by rw [length_map,List.length_take]; omega
 rw [List.set_append_right _ _ (by omega),hl,Nat.sub_self,List.take_add_one,List.getElem?_eq_getElem h,List.map_append,List.append_assoc]
 have e : ws.length - k = (ws.length - (k + 1)) + 1:=by omega
 rw [e,List.replicate_succ]
 rfl
theorem eK (f : Wt -> Int) (ws : List Wt) (k : Nat) : NLs (fX f ws k):=fun v hv=>by
 unfold fX at hv
 rcases List.mem_append.1 hv with h | h
 ·obtain ⟨a,_,rfl⟩:=List.mem_map.1 h
  rfl
 ·rw [(List.mem_replicate.1 h).2]
  rfl
theorem qX (f : Wt -> Int) (ws : List Wt) : bP 1 ws.length (List.drop 0 (fX f ws ws.length)) = aB (ws.map f):=by
 show ((List.drop 0 (fX f ws ws.length)).take ws.length).toArray = _
 unfold fX aB
 rw [List.take_length,Nat.sub_self,List.drop_zero,List.replicate_zero,List.append_nil,List.take_of_length_le (by simp),List.map_map]
 rfl
theorem vJ {ws : List Wt} {k : Nat} (h : k < ws.length) : aA (aB ws) k 0 = .int .i64 ws[k].m /\ aA (aB ws) k 1 = .int .i64 ws[k].x /\ aA (aB ws) k 2 = .int .i64 ws[k].y /\ aA (aB ws) k 3 = .int .i64 ws[k].z /\ aA (aB ws) k 4 = .int .i64 ws[k].v:=by
 refine ⟨?_,?_,?_,?_,?_⟩ <;> (rw [bK h]; rfl)
theorem fV (l : List Int) : (yW l = 0) = bB l.sum:=by
 unfold yW
 by_cases h : bB l.sum
 ·rw [if_pos h]; simp [h]
 ·rw [if_neg h]; simp [h]
theorem aPT {ws : List Wt} {Post : Value -> Prop} (hl : ws.length <= 65536) (hx : ∀ w ∈ ws,bB (aS 0 w)) (h : Post (.tuple #[.int .i64 (gH (ws.map (aS 0))),.bool (decide (bB (ws.map (aS 0)).sum))])) : Pure Tryz.prog 170 [.int .i64 ws.length,fnT 171 ws.length (aB ws)] Post:=by
 refine aN fN mixed (by kernel_rfl) (by kernel_rfl) _ (aLE ws.length (aB ws) _ _) ?_
 have hn : ((ws.length : Nat) : Int).toNat = ws.length:=toNat_natCast _
 simp only [true_and,and_true,hn]
 refine ⟨⟨by omega,by omega,by omega⟩,by rw [← fT (aS 0)]; exact eK _ _ _,?_⟩
 rw [← fT (aS 0)]
 refine cS (n:=ws.length) (p:=fun k=>OkP 170 [.int .i64 ws.length,fnT 171 ws.length (aB ws)] 3 Post (stV [(1,some (fnT 171 ws.length (aB ws))),(6,some (.slice (some ⟨0,0,none⟩) ws.length 1)),(13,some (vi ws.length)),(14,some (vi k))] [(0,some (.cells (fX (aS 0) ws k) true))] 1)) ?_ (fun k k1 ih=>?_)
 ·refine aV fN mixed _ (aEz ws.length ws.length (fX (aS 0) ws ws.length) (aB ws) _ _) ?_
  simp only [true_and,and_true]
  refine ifD (fun hlt=>by omega) (fun _=>⟨⟨by rw [iO (le_refl _)]; omega,eK _ _ _⟩,ws.map (aS 0),?_,?_,fun x hm=>?_,?_⟩)
  ·rw [qX]
   have e : (ws.map (aS 0)).length = ws.length:=length_map _
   rw [e]
  ·rw [length_map]; exact hl
  ·obtain ⟨w,hw,rfl⟩:=List.mem_map.1 hm
   exact hx w hw
  ·refine ifD (fun e=>?_) (fun e=>?_)
   ·rw [fV] at e
    rwa [decide_eq_true e] at h
   ·rw [fV] at e
    rwa [decide_eq_false e] at h
 ·refine aV fN mixed _ (aEz ws.length k (fX (aS 0) ws k) (aB ws) _ _) ?_
  have hk : ((k : Nat) : Int).toNat = k:=toNat_natCast k
  obtain ⟨c0,c1,c2,c3,c4⟩:=vJ k1
  have e : cP (fX (aS 0) ws k) k [.int .i64 ws[k].m] = fX (aS 0) ws (k + 1):=nT (f:=(aS 0)) k1
  simp only [true_and,and_true,hk,Nat.zero_add,Nat.mul_one,c0,c1,c2,c3,c4,aQ,e,aJ (show k < 2 ^ 62 by omega)]
  exact ifD (fun _=>⟨⟨by omega,by omega⟩,⟨by omega,by omega⟩,by rw [iO (Nat.le_of_lt k1)]; exact k1,eK _ _ _,ih⟩) (fun h'=>by omega)
theorem aQj {ws : List Wt} {Post : Value -> Prop} (hl : ws.length <= 65536) (hx : ∀ w ∈ ws,bB (aS 1 w)) (h : Post (.tuple #[.int .i64 (gH (ws.map (aS 1))),.bool (decide (bB (ws.map (aS 1)).sum))])) : Pure Tryz.prog 170 [.int .i64 ws.length,fnT 172 ws.length (aB ws)] Post:=by
 refine aN fN mixed (by kernel_rfl) (by kernel_rfl) _ (aMs ws.length (aB ws) _ _) ?_
 have hn : ((ws.length : Nat) : Int).toNat = ws.length:=toNat_natCast _
 simp only [true_and,and_true,hn]
 refine ⟨⟨by omega,by omega,by omega⟩,by rw [← fT (aS 1)]; exact eK _ _ _,?_⟩
 rw [← fT (aS 1)]
 refine cS (n:=ws.length) (p:=fun k=>OkP 170 [.int .i64 ws.length,fnT 172 ws.length (aB ws)] 3 Post (stV [(1,some (fnT 172 ws.length (aB ws))),(6,some (.slice (some ⟨0,0,none⟩) ws.length 1)),(13,some (vi ws.length)),(14,some (vi k))] [(0,some (.cells (fX (aS 1) ws k) true))] 1)) ?_ (fun k k1 ih=>?_)
 ·refine aV fN mixed _ (aFZ ws.length ws.length (fX (aS 1) ws ws.length) (aB ws) _ _) ?_
  simp only [true_and,and_true]
  refine ifD (fun hlt=>by omega) (fun _=>⟨⟨by rw [iO (le_refl _)]; omega,eK _ _ _⟩,ws.map (aS 1),?_,?_,fun x hm=>?_,?_⟩)
  ·rw [qX]
   have e : (ws.map (aS 1)).length = ws.length:=length_map _
   rw [e]
  ·rw [length_map]; exact hl
  ·obtain ⟨w,hw,rfl⟩:=List.mem_map.1 hm
   exact hx w hw
  ·refine ifD (fun e=>?_) (fun e=>?_)
   ·rw [fV] at e
    rwa [decide_eq_true e] at h
   ·rw [fV] at e
    rwa [decide_eq_false e] at h
 ·refine aV fN mixed _ (aFZ ws.length k (fX (aS 1) ws k) (aB ws) _ _) ?_
  have hk : ((k : Nat) : Int).toNat = k:=toNat_natCast k
  obtain ⟨c0,c1,c2,c3,c4⟩:=vJ k1
  have e : cP (fX (aS 1) ws k) k [.int .i64 ws[k].x] = fX (aS 1) ws (k + 1):=nT (f:=(aS 1)) k1
  simp only [true_and,and_true,hk,Nat.zero_add,Nat.mul_one,c0,c1,c2,c3,c4,aQ,e,aJ (show k < 2 ^ 62 by omega)]
  exact ifD (fun _=>⟨⟨by omega,by omega⟩,⟨by omega,by omega⟩,by rw [iO (Nat.le_of_lt k1)]; exact k1,eK _ _ _,ih⟩) (fun h'=>by omega)
theorem aPY {ws : List Wt} {Post : Value -> Prop} (hl : ws.length <= 65536) (hx : ∀ w ∈ ws,bB (aS 2 w)) (h : Post (.tuple #[.int .i64 (gH (ws.map (aS 2))),.bool (decide (bB (ws.map (aS 2)).sum))])) : Pure Tryz.prog 170 [.int .i64 ws.length,fnT 173 ws.length (aB ws)] Post:=by
 refine aN fN mixed (by kernel_rfl) (by kernel_rfl) _ (aMT ws.length (aB ws) _ _) ?_
 have hn : ((ws.length : Nat) : Int).toNat = ws.length:=toNat_natCast _
 simp only [true_and,and_true,hn]
 refine ⟨⟨by omega,by omega,by omega⟩,by rw [← fT (aS 2)]; exact eK _ _ _,?_⟩
 rw [← fT (aS 2)]
 refine cS (n:=ws.length) (p:=fun k=>OkP 170 [.int .i64 ws.length,fnT 173 ws.length (aB ws)] 3 Post (stV [(1,some (fnT 173 ws.length (aB ws))),(6,some (.slice (some ⟨0,0,none⟩) ws.length 1)),(13,some (vi ws.length)),(14,some (vi k))] [(0,some (.cells (fX (aS 2) ws k) true))] 1)) ?_ (fun k k1 ih=>?_)
 ·refine aV fN mixed _ (aER ws.length ws.length (fX (aS 2) ws ws.length) (aB ws) _ _) ?_
  simp only [true_and,and_true]
  refine ifD (fun hlt=>by omega) (fun _=>⟨⟨by rw [iO (le_refl _)]; omega,eK _ _ _⟩,ws.map (aS 2),?_,?_,fun x hm=>?_,?_⟩)
  ·rw [qX]
   have e : (ws.map (aS 2)).length = ws.length:=length_map _
   rw [e]
  ·rw [length_map]; exact hl
  ·obtain ⟨w,hw,rfl⟩:=List.mem_map.1 hm
   exact hx w hw
  ·refine ifD (fun e=>?_) (fun e=>?_)
   ·rw [fV] at e
    rwa [decide_eq_true e] at h
   ·rw [fV] at e
    rwa [decide_eq_false e] at h
 ·refine aV fN mixed _ (aER ws.length k (fX (aS 2) ws k) (aB ws) _ _) ?_
  have hk : ((k : Nat) : Int).toNat = k:=toNat_natCast k
  obtain ⟨c0,c1,c2,c3,c4⟩:=vJ k1
  have e : cP (fX (aS 2) ws k) k [.int .i64 ws[k].y] = fX (aS 2) ws (k + 1):=nT (f:=(aS 2)) k1
  simp only [true_and,and_true,hk,Nat.zero_add,Nat.mul_one,c0,c1,c2,c3,c4,aQ,e,aJ (show k < 2 ^ 62 by omega)]
  exact ifD (fun _=>⟨⟨by omega,by omega⟩,⟨by omega,by omega⟩,by rw [iO (Nat.le_of_lt k1)]; exact k1,eK _ _ _,ih⟩) (fun h'=>by omega)
theorem aPn {ws : List Wt} {Post : Value -> Prop} (hl : ws.length <= 65536) (hx : ∀ w ∈ ws,bB (aS 3 w)) (h : Post (.tuple #[.int .i64 (gH (ws.map (aS 3))),.bool (decide (bB (ws.map (aS 3)).sum))])) : Pure Tryz.prog 170 [.int .i64 ws.length,fnT 174 ws.length (aB ws)] Post:=by
 refine aN fN mixed (by kernel_rfl) (by kernel_rfl) _ (aN1 ws.length (aB ws) _ _) ?_
 have hn : ((ws.length : Nat) : Int).toNat = ws.length:=toNat_natCast _
 simp only [true_and,and_true,hn]
 refine ⟨⟨by omega,by omega,by omega⟩,by rw [← fT (aS 3)]; exact eK _ _ _,?_⟩
 rw [← fT (aS 3)]
 refine cS (n:=ws.length) (p:=fun k=>OkP 170 [.int .i64 ws.length,fnT 174 ws.length (aB ws)] 3 Post (stV [(1,some (fnT 174 ws.length (aB ws))),(6,some (.slice (some ⟨0,0,none⟩) ws.length 1)),(13,some (vi ws.length)),(14,some (vi k))] [(0,some (.cells (fX (aS 3) ws k) true))] 1)) ?_ (fun k k1 ih=>?_)
 ·refine aV fN mixed _ (aFS ws.length ws.length (fX (aS 3) ws ws.length) (aB ws) _ _) ?_
  simp only [true_and,and_true]
  refine ifD (fun hlt=>by omega) (fun _=>⟨⟨by rw [iO (le_refl _)]; omega,eK _ _ _⟩,ws.map (aS 3),?_,?_,fun x hm=>?_,?_⟩)
  ·rw [qX]
   have e : (ws.map (aS 3)).length = ws.length:=length_map _
   rw [e]
  ·rw [length_map]; exact hl
  ·obtain ⟨w,hw,rfl⟩:=List.mem_map.1 hm
   exact hx w hw
  ·refine ifD (fun e=>?_) (fun e=>?_)
   ·rw [fV] at e
    rwa [decide_eq_true e] at h
   ·rw [fV] at e
    rwa [decide_eq_false e] at h
 ·refine aV fN mixed _ (aFS ws.length k (fX (aS 3) ws k) (aB ws) _ _) ?_
  have hk : ((k : Nat) : Int).toNat = k:=toNat_natCast k
  obtain ⟨c0,c1,c2,c3,c4⟩:=vJ k1
  have e : cP (fX (aS 3) ws k) k [.int .i64 ws[k].z] = fX (aS 3) ws (k + 1):=nT (f:=(aS 3)) k1
  simp only [true_and,and_true,hk,Nat.zero_add,Nat.mul_one,c0,c1,c2,c3,c4,aQ,e,aJ (show k < 2 ^ 62 by omega)]
  exact ifD (fun _=>⟨⟨by omega,by omega⟩,⟨by omega,by omega⟩,by rw [iO (Nat.le_of_lt k1)]; exact k1,eK _ _ _,ih⟩) (fun h'=>by omega)
theorem aPd {ws : List Wt} {Post : Value -> Prop} (hl : ws.length <= 65536) (hx : ∀ w ∈ ws,bB (aS 4 w)) (h : Post (.tuple #[.int .i64 (gH (ws.map (aS 4))),.bool (decide (bB (ws.map (aS 4)).sum))])) : Pure Tryz.prog 170 [.int .i64 ws.length,fnT 175 ws.length (aB ws)] Post:=by
 refine aN fN mixed (by kernel_rfl) (by kernel_rfl) _ (aNj ws.length (aB ws) _ _) ?_
 have hn : ((ws.length : Nat) : Int).toNat = ws.length:=toNat_natCast _
 simp only [true_and,and_true,hn]
 refine ⟨⟨by omega,by omega,by omega⟩,by rw [← fT (aS 4)]; exact eK _ _ _,?_⟩
 rw [← fT (aS 4)]
 refine cS (n:=ws.length) (p:=fun k=>OkP 170 [.int .i64 ws.length,fnT 175 ws.length (aB ws)] 3 Post (stV [(1,some (fnT 175 ws.length (aB ws))),(6,some (.slice (some ⟨0,0,none⟩) ws.length 1)),(13,some (vi ws.length)),(14,some (vi k))] [(0,some (.cells (fX (aS 4) ws k) true))] 1)) ?_ (fun k k1 ih=>?_)
 ·refine aV fN mixed _ (aEE ws.length ws.length (fX (aS 4) ws ws.length) (aB ws) _ _) ?_
  simp only [true_and,and_true]
  refine ifD (fun hlt=>by omega) (fun _=>⟨⟨by rw [iO (le_refl _)]; omega,eK _ _ _⟩,ws.map (aS 4),?_,?_,fun x hm=>?_,?_⟩)
  ·rw [qX]
   have e : (ws.map (aS 4)).length = ws.length:=length_map _
   rw [e]
  ·rw [length_map]; exact hl
  ·obtain ⟨w,hw,rfl⟩:=List.mem_map.1 hm
   exact hx w hw
  ·refine ifD (fun e=>?_) (fun e=>?_)
   ·rw [fV] at e
    rwa [decide_eq_true e] at h
   ·rw [fV] at e
    rwa [decide_eq_false e] at h
 ·refine aV fN mixed _ (aEE ws.length k (fX (aS 4) ws k) (aB ws) _ _) ?_
  have hk : ((k : Nat) : Int).toNat = k:=toNat_natCast k
  obtain ⟨c0,c1,c2,c3,c4⟩:=vJ k1
  have e : cP (fX (aS 4) ws k) k [.int .i64 ws[k].v] = fX (aS 4) ws (k + 1):=nT (f:=(aS 4)) k1
  simp only [true_and,and_true,hk,Nat.zero_add,Nat.mul_one,c0,c1,c2,c3,c4,aQ,e,aJ (show k < 2 ^ 62 by omega)]
  exact ifD (fun _=>⟨⟨by omega,by omega⟩,⟨by omega,by omega⟩,by rw [iO (Nat.le_of_lt k1)]; exact k1,eK _ _ _,ih⟩) (fun h'=>by omega)
theorem aLU : aZ Tryz.prog ⟨170,aIj⟩:=by
 rintro args Post ⟨ws,i,hi,rfl,hl,hx,h⟩
 rcases i with _ | _ | _ | _ | _ | i
 ·exact aPT hl hx h
 ·exact aQj hl hx h
 ·exact aPY hl hx h
 ·exact aPn hl hx h
 ·exact aPd hl hx h
 ·omega
def dJ (ws : List Wt) : Wt:=⟨(ws.map (aS 0)).sum,(ws.map (aS 1)).sum,(ws.map (aS 2)).sum,(ws.map (aS 3)).sum,(ws.map (aS 4)).sum⟩
def aBz (ws : List Wt) : Wt:=if iI (dJ ws) then dJ ws else wt0
def aCN (ws : List Wt) : Int:=if iI (dJ ws) then 0 else 21
def aMu (args : List Value) (Post : Value -> Prop) : Prop:=∃ ws : List Wt,args = [tree 5 ws.length (aB ws)] /\ ws.length <= 65536 /\ (∀ w ∈ ws,∀ i,bB (aS i w)) /\ Post (.tuple #[wtV (aBz ws),.int .i64 (aCN ws)])
theorem aQi : aW Tryz.prog vcSw:=bL mixed (aM (by
 intro e he
 simp only [mem_cons,not_mem_nil,or_false] at he
 rcases he with rfl | rfl
 ·exact aLU
 ·exact aPe) aD) 2
theorem aQn : aZ Tryz.prog ⟨107,aMu⟩:=by
 rintro args Post ⟨ws,rfl,hl,hx,h⟩
 refine aN aQi mixed (by kernel_rfl) (by kernel_rfl) _ (aRL ws.length (aB ws) _ _) ?_
 have le1 : (1 <= 5) = True:=eq_true (by decide)
 have le2 : (2 <= 5) = True:=eq_true (by decide)
 have le3 : (3 <= 5) = True:=eq_true (by decide)
 have le4 : (4 <= 5) = True:=eq_true (by decide)
 simp only [true_and,and_true,le_refl,le1,le2,le3,le4]
 have bad : ¬ iI (dJ ws) -> Post (.tuple #[.agg #[.int .i64 0,.int .i64 0,.int .i64 0,.int .i64 0,.int .i64 0],.int .i64 21]):=fun hn=>by
  unfold aBz aCN at h
  rw [if_neg hn,if_neg hn] at h
  exact h
 have f0 : iI (dJ ws) -> bB (ws.map (aS 0)).sum:=fun hk=>by unfold iI dJ at hk; unfold bB; dsimp only at hk; omega
 have f1 : iI (dJ ws) -> bB (ws.map (aS 1)).sum:=fun hk=>by unfold iI dJ at hk; unfold bB; dsimp only at hk; omega
 have f2 : iI (dJ ws) -> bB (ws.map (aS 2)).sum:=fun hk=>by unfold iI dJ at hk; unfold bB; dsimp only at hk; omega
 have f3 : iI (dJ ws) -> bB (ws.map (aS 3)).sum:=fun hk=>by unfold iI dJ at hk; unfold bB; dsimp only at hk; omega
 have f4 : iI (dJ ws) -> bB (ws.map (aS 4)).sum:=fun hk=>by unfold iI dJ at hk; unfold bB; dsimp only at hk; omega
 have h0 : ∀ w ∈ ws,bB (aS 0 w):=fun w hw=>hx w hw 0
 have h1 : ∀ w ∈ ws,bB (aS 1 w):=fun w hw=>hx w hw 1
 have h2 : ∀ w ∈ ws,bB (aS 2 w):=fun w hw=>hx w hw 2
 have h3 : ∀ w ∈ ws,bB (aS 3 w):=fun w hw=>hx w hw 3
 have h4 : ∀ w ∈ ws,bB (aS 4 w):=fun w hw=>hx w hw 4
 refine ⟨ws,0,by decide,rfl,hl,h0,ifD (fun g0=>?_) (fun n0=>?_)⟩
 ·refine ⟨ws,1,by decide,rfl,hl,h1,ifD (fun g1=>?_) (fun n1=>?_)⟩
  ·refine ⟨ws,2,by decide,rfl,hl,h2,ifD (fun g2=>?_) (fun n2=>?_)⟩
   ·refine ⟨ws,3,by decide,rfl,hl,h3,ifD (fun g3=>?_) (fun n3=>?_)⟩
    ·refine ⟨ws,4,by decide,rfl,hl,h4,ifD (fun g4=>?_) (fun n4=>bad fun hk=>n4 (f4 hk))⟩
     refine ⟨⟨gH (ws.map (aS 0)),gH (ws.map (aS 1)),gH (ws.map (aS 2)),gH (ws.map (aS 3)),gH (ws.map (aS 4))⟩,rfl,?_⟩
     rw [(oA g0).1,(oA g1).1,(oA g2).1,(oA g3).1,(oA g4).1]
     have e : (⟨(ws.map (aS 0)).sum,(ws.map (aS 1)).sum,(ws.map (aS 2)).sum,(ws.map (aS 3)).sum,(ws.map (aS 4)).sum⟩ : Wt) = dJ ws:=rfl
     rw [e]
     refine ifN (fun hn=>bad fun hk=>hn (by unfold aJU; rw [if_pos hk])) (fun he=>?_)
     by_cases hk : iI (dJ ws)
     ·unfold aBz aCN at h
      rw [if_pos hk,if_pos hk] at h
      exact h
     ·unfold aJU at he
      rw [if_neg hk] at he
      exact absurd he (by decide)
    ·have hb:=bad fun hk=>n3 (f3 hk)
     exact ⟨ws,4,by decide,rfl,hl,h4,ifD (fun _=>hb) (fun _=>hb)⟩
   ·have hb:=bad fun hk=>n2 (f2 hk)
    refine ⟨ws,3,by decide,rfl,hl,h3,ifD (fun _=>?_) (fun _=>?_)⟩
    all_goals exact ⟨ws,4,by decide,rfl,hl,h4,ifD (fun _=>hb) (fun _=>hb)⟩
  ·have hb:=bad fun hk=>n1 (f1 hk)
   refine ⟨ws,2,by decide,rfl,hl,h2,ifD (fun _=>?_) (fun _=>?_)⟩
   all_goals refine ⟨ws,3,by decide,rfl,hl,h3,ifD (fun _=>?_) (fun _=>?_)⟩
   all_goals exact ⟨ws,4,by decide,rfl,hl,h4,ifD (fun _=>hb) (fun _=>hb)⟩
 ·have hb:=bad fun hk=>n0 (f0 hk)
  refine ⟨ws,1,by decide,rfl,hl,h1,ifD (fun _=>?_) (fun _=>?_)⟩
  all_goals refine ⟨ws,2,by decide,rfl,hl,h2,ifD (fun _=>?_) (fun _=>?_)⟩
  all_goals refine ⟨ws,3,by decide,rfl,hl,h3,ifD (fun _=>?_) (fun _=>?_)⟩
  all_goals exact ⟨ws,4,by decide,rfl,hl,h4,ifD (fun _=>hb) (fun _=>hb)⟩
abbrev aBa : List Value:=[.int .i64 0,.int .i64 0,.int .i64 0,.int .i64 0,.int .i64 0]
abbrev trS (l : List ByteArray) : Value:=tree 1 l.length (aB l)
def aPM : bH:=nV Tryz.prog [⟨106,pD⟩,⟨22,aEu⟩,⟨107,aMu⟩] aI
abbrev lpOf : List (Nat × List Nat):=[(3,[3,4,6,8,21,22,23]),(12,[4,6,13,1044,45,46])]
theorem e_of (d : Design6) (m : Mats) (n : Nat) (A : Array Value) (H : HT) (Post : PV) : vcP Tryz.prog aPM 40 lpOf [aC d,bD m,tree 1 n A] H Post = (T4 (T2 ((toI (vi 0) <= 0 /\ 0 <= (↑n : Int) /\ (↑n : Int) <= 2 ^ 25) /\ T4 (True /\ (T2 (True /\ NLs [] /\ True)) /\ HP H 40 3 (stV [(3,some (pt 0)),(4,some (pt 1)),(6,some (pt 2)),(8,some (Value.slice (some (Addr.mk 3 0 none)) 0 18)),(21,some (tree 1 n A)),(22,some (vi (↑n : Int))),(23,some (vi 0))] [(0,some (AObj.cells (aG d) true)),(1,some (AObj.cells (dO m) true)),(2,some (AObj.cells [vi 0,vi 0,vi 0,vi 0,vi 0] true)),(3,some (AObj.cells [] true))] 4))))):=by kernel_rfl
theorem l_of (d : Design6) (m : Mats) (n j : Nat) (k : Int) (l : List Value) (A : Array Value) (H : HT) (Post : PV) : bX Tryz.prog aPM 40 [aC d,bD m,tree 1 n A] lpOf 3 (stV [(3,some (pt 0)),(4,some (pt 1)),(6,some (pt 2)),(8,some (.slice (some ⟨3,0,none⟩) j 18)),(21,some (tree 1 n A)),(22,some (vi n)),(23,some (vi k))] [(0,some (.cells (aG d) true)),(1,some (.cells (dO m) true)),(2,some (.cells aBa true)),(3,some (.cells l true))] 4) H Post = (let q8:=toS (aA A k.toNat 0); let q7:=d.needs; let q6:=d.packs; let q5:=d.seams; let q4:=d.parts; let q3:=d.nodes; let q2:=AObj.cells [vi 0,vi 0,vi 0,vi 0,vi 0] true; let q1:=AObj.cells (dO m) true; True /\ pIf (decide (k < (↑n : Int))) ((0 <= k /\ k < (↑n : Int)) /\ aA A k.toNat 0 = vs q8 /\ T2 (True /\ ((T4 (T2 (True))) /\ True /\ True) /\ ∃ (d_1 : Design6),∃ (s : ByteArray),eqL [Value.agg #[vs d.hull,tree 3 q3.length (aB q3),tree 18 q4.length (aB q4),tree 6 q5.length (aB q5),tree 5 q6.length (aB q6),tree 3 q7.length (aB q7)],vs q8] [aC d_1,vs s] /\ FitD d_1 /\ T2 (True /\ pIf (isSome (cO d_1 s)) (True /\ 18 <= 18 /\ T4 (T2 (18 <= 18 /\ j + 1 <= 33554432 /\ true = true /\ 18 = 18 /\ 0 + j * 18 = length l /\ T4 ((T2 (True /\ NLs (l ++ (fP (Option.getD (cO d_1 s) iG))) /\ True)) /\ HP H 40 3 (stV [(3,some (pt 0)),(4,some (pt 1)),(6,some (pt 2)),(8,some (Value.slice (some (Addr.mk 3 0 none)) (j + 1) 18)),(21,some (tree 1 n A)),(22,some (vi (↑n : Int))),(23,some (vi (wrap i64 (k + 1))))] [(0,some (AObj.cells [vs d.hull,tree 3 q3.length (aB q3),tree 18 q4.length (aB q4),tree 6 q5.length (aB q5),tree 5 q6.length (aB q6),tree 3 q7.length (aB q7)] true)),(1,some q1),(2,some q2),(3,some (AObj.cells (l ++ (fP (Option.getD (cO d_1 s) iG))) true))] 4))))) (True /\ 18 <= 18 /\ T4 (5 <= 5 /\ True /\ ((T4 (True /\ True)) /\ True /\ True) /\ Post (Value.tuple #[Value.agg #[vi 0,vi 0,vi 0,vi 0,vi 0],vi 8])))))) (T2 ((toI (vi 0) <= 0 /\ 0 <= (↑j : Int) /\ (↑j : Int) <= 2 ^ 25) /\ T4 (((0 + j * 18 <= length l /\ NLs l) /\ True) /\ (T2 (NLs [] /\ True)) /\ HP H 40 12 (stV [(4,some (pt 0)),(6,some (pt 1)),(13,some (Value.slice (some (Addr.mk 2 0 none)) 0 5)),(44,some (tree 18 j (bP 18 j (List.drop 0 l)))),(45,some (vi (↑j : Int))),(46,some (vi 0))] [(0,some q1),(1,some q2),(2,some (AObj.cells [] true))] 3))))):=by kernel_rfl
theorem m_of (d : Design6) (m : Mats) (n q j : Nat) (k : Int) (l : List Value) (A B : Array Value) (H : HT) (Post : PV) : bX Tryz.prog aPM 40 [aC d,bD m,tree 1 n A] lpOf 12 (stV [(4,some (pt 0)),(6,some (pt 1)),(13,some (.slice (some ⟨2,0,none⟩) j 5)),(44,some (tree 18 q B)),(45,some (vi q)),(46,some (vi k))] [(0,some (.cells (dO m) true)),(1,some (.cells aBa true)),(2,some (.cells l true))] 3) H Post = (let q19:=toI (aA B k.toNat 9); let q18:=toS (aA B k.toNat 8); let q17:=toI (aA B k.toNat 5); let q16:=toS (aA B k.toNat 4); let q15:=toS (aA B k.toNat 3); let q14:=toI (aA B k.toNat 2); let q13:=toI (aA B k.toNat 1); let q12:=toS (aA B k.toNat 0); let q11:=toI (aA B k.toNat 17); let q10:=toI (aA B k.toNat 16); let q9:=toI (aA B k.toNat 15); let q8:=toI (aA B k.toNat 14); let q7:=toI (aA B k.toNat 13); let q6:=toI (aA B k.toNat 12); let q5:=toI (aA B k.toNat 11); let q4:=toI (aA B k.toNat 10); let q3:=(T4 (True /\ True)) /\ True /\ True; let q2:=aA B k.toNat 7; let q1:=aA B k.toNat 6; True /\ pIf (decide (k < (↑q : Int))) ((0 <= k /\ k < (↑q : Int)) /\ (aA B k.toNat 0 = vs q12 /\ aA B k.toNat 1 = vi q13 /\ aA B k.toNat 2 = vi q14 /\ aA B k.toNat 3 = vs q15 /\ aA B k.toNat 4 = vs q16 /\ aA B k.toNat 5 = vi q17 /\ aA B k.toNat 6 = tree 2 (toN q1) (toE q1) /\ aA B k.toNat 7 = tree 1 (toN q2) (toE q2) /\ aA B k.toNat 8 = vs q18 /\ aA B k.toNat 9 = vi q19 /\ aA B k.toNat 10 = vi q4 /\ aA B k.toNat 11 = vi q5 /\ aA B k.toNat 12 = vi q6 /\ aA B k.toNat 13 = vi q7 /\ aA B k.toNat 14 = vi q8 /\ aA B k.toNat 15 = vi q9 /\ aA B k.toNat 16 = vi q10 /\ aA B k.toNat 17 = vi q11 /\ True) /\ True /\ 18 <= 18 /\ T2 (((T16 (T2 (True))) /\ (T2 (True)) /\ True) /\ ∃ (p : Part),∃ (m_1 : Mats),eqL [Value.agg #[vs q12,vi q13,vi q14,vs q15,vs q16,vi q17,tree 2 (toN q1) (toE q1),tree 1 (toN q2) (toE q2),vs q18,vi q19,vi q4,vi q5,vi q6,vi q7,vi q8,vi q9,vi q10,vi q11],bD m] [dX p,bD m_1] /\ FitQ p /\ FewM m_1 /\ T4 (5 <= 5 /\ T2 (True /\ pIf (!decide (bF p m_1 = 0)) (T2 (5 <= 5 /\ True /\ q3 /\ Post (Value.tuple #[Value.agg #[vi 0,vi 0,vi 0,vi 0,vi 0],vi (bF p m_1)]))) (T2 (True /\ 5 <= 5 /\ j + 1 <= 33554432 /\ true = true /\ 5 = 5 /\ 0 + j * 5 = length l /\ T2 (True /\ (True /\ True) /\ (T2 (NLs (l ++ [vi (Wt.m (aT p m_1)),vi (Wt.x (aT p m_1)),vi (Wt.y (aT p m_1)),vi (Wt.z (aT p m_1)),vi (Wt.v (aT p m_1))]) /\ True)) /\ HP H 40 12 (stV [(4,some (pt 0)),(6,some (pt 1)),(13,some (Value.slice (some (Addr.mk 2 0 none)) (j + 1) 5)),(44,some (tree 18 q B)),(45,some (vi (↑q : Int))),(46,some (vi (wrap i64 (k + 1))))] [(0,some (AObj.cells (dO m) true)),(1,some (AObj.cells [vi 0,vi 0,vi 0,vi 0,vi 0] true)),(2,some (AObj.cells (l ++ [vi (Wt.m (aT p m_1)),vi (Wt.x (aT p m_1)),vi (Wt.y (aT p m_1)),vi (Wt.z (aT p m_1)),vi (Wt.v (aT p m_1))]) true))] 3)))))))) (True /\ ((0 + j * 5 <= length l /\ NLs l) /\ True) /\ ∃ (ws : List Wt),eqL [tree 5 j (bP 5 j (List.drop 0 l))] [tree 5 ws.length (aB ws)] /\ length ws <= 65536 /\ (∀ (w : Wt),w ∈ ws -> ∀ (i : Nat),-9223372036854775808 <= aS i w /\ aS i w < 9223372036854775808) /\ T2 (5 <= 5 /\ True /\ q3 /\ Post (Value.tuple #[Value.agg #[vi (Wt.m (aBz ws)),vi (Wt.x (aBz ws)),vi (Wt.y (aBz ws)),vi (Wt.z (aBz ws)),vi (Wt.v (aBz ws))],vi (aCN ws)])))):=by kernel_rfl
abbrev aL7 : List Value:=[.string ⟨#[]⟩,.int .i64 0,.string ⟨#[]⟩]
abbrev aMf : List Value:=[.string ⟨#[]⟩,.string ⟨#[]⟩,.slice none 0 0,.int .i64 0,.slice none 0 0]
def zO : Node3:=⟨⟨#[]⟩,0,⟨#[]⟩⟩
def dP (d : Design6) (s : ByteArray) : Option Node3:=d.nodes.find? fun p=>decide (p.id = s)
def wC (args : List Value) (Post : Value -> Prop) : Prop:=∃ (d : Design6) (s : ByteArray),args = [aC d,.string s] /\ aH d.nodes /\ Post (.tuple #[aO7 ((dP d s).getD zO),.bool (dP d s).isSome])
def aNm : Pack5:=⟨⟨#[]⟩,⟨#[]⟩,[],0,[]⟩
def lY (d : Design6) (s : ByteArray) : Option Pack5:=d.packs.find? fun p=>decide (p.id = s)
def aHh (args : List Value) (Post : Value -> Prop) : Prop:=∃ (d : Design6) (s : ByteArray),args = [aC d,.string s] /\ aH d.packs /\ Post (.tuple #[aNp ((lY d s).getD aNm),.bool (lY d s).isSome])
def oG (l : List ByteArray) (s : ByteArray) : Bool:=l.any fun x=>decide (x = s)
def aId (args : List Value) (Post : Value -> Prop) : Prop:=∃ (l : List ByteArray) (s : ByteArray),args = [trS l,.string s] /\ aH l /\ Post (.bool (oG l s))
theorem aOk (d : Design6) (s : ByteArray) (H : HT) (Post : PV) : vcP Tryz.prog aI 184 [(2,[1,2,4,6])] [aC d,.string s] H Post = (T4 (True /\ (T2 (True)) /\ HP H 184 2 (stV [(1,some (vs s)),(2,some (pt 0)),(4,some (pt 1)),(6,some (vi 0))] [(0,some (AObj.cells (aG d) true)),(1,some (AObj.cells [vz,vi 0,vz] true))] 2))):=by kernel_rfl
theorem aI2 (d : Design6) (s : ByteArray) (k : Int) (H : HT) (Post : PV) : bX Tryz.prog aI 184 [aC d,.string s] [(2,[1,2,4,6])] 2 (stV [(1,some (.string s)),(2,some (pt 0)),(4,some (pt 1)),(6,some (vi k))] [(0,some (.cells (aG d) true)),(1,some (.cells aL7 true))] 2) H Post = (let q1:=aB d.nodes; let q6:=toS (aA q1 k.toNat 2); let q5:=toI (aA q1 k.toNat 1); let q4:=(T2 (True /\ True)) /\ True /\ True; let q3:=aA q1 k.toNat 0; let q2:=length d.nodes; T4 (True /\ pIf (decide (k < (↑q2 : Int))) (T2 (True /\ (0 <= k /\ k < (↑q2 : Int)) /\ True /\ aA q1 k.toNat 0 = vs (toS q3) /\ T2 (pIf (decide (toS q3 = s)) (T2 (True /\ (0 <= k /\ k < (↑q2 : Int)) /\ (aA q1 k.toNat 0 = vs (toS q3) /\ aA q1 k.toNat 1 = vi q5 /\ aA q1 k.toNat 2 = vs q6 /\ True) /\ 3 <= 3 /\ True /\ q4 /\ Post (Value.tuple #[Value.agg #[vs (toS q3),vi q5,vs q6],vb true]))) (T4 ((T2 (True)) /\ HP H 184 2 (stV [(1,some (vs s)),(2,some (pt 0)),(4,some (pt 1)),(6,some (vi (wrap i64 (k + 1))))] [(0,some (AObj.cells [vs d.hull,tree 3 q2 q1,tree 18 d.parts.length (aB d.parts),tree 6 d.seams.length (aB d.seams),tree 5 d.packs.length (aB d.packs),tree 3 d.needs.length (aB d.needs)] true)),(1,some (AObj.cells [vz,vi 0,vz] true))] 2)))))) (True /\ 3 <= 3 /\ True /\ q4 /\ Post (Value.tuple #[Value.agg #[vz,vi 0,vz],vb false])))):=by kernel_rfl
theorem aP6 (d : Design6) (s : ByteArray) (H : HT) (Post : PV) : vcP Tryz.prog aI 191 [(2,[1,2,4,6])] [aC d,.string s] H Post = (T4 (True /\ (T2 (True)) /\ HP H 191 2 (stV [(1,some (vs s)),(2,some (pt 0)),(4,some (pt 1)),(6,some (vi 0))] [(0,some (AObj.cells (aG d) true)),(1,some (AObj.cells [vz,vz,nS,vi 0,nS] true))] 2))):=by kernel_rfl
theorem aI8 (d : Design6) (s : ByteArray) (k : Int) (H : HT) (Post : PV) : bX Tryz.prog aI 191 [aC d,.string s] [(2,[1,2,4,6])] 2 (stV [(1,some (.string s)),(2,some (pt 0)),(4,some (pt 1)),(6,some (vi k))] [(0,some (.cells (aG d) true)),(1,some (.cells aMf true))] 2) H Post = (let q1:=aB d.packs; let q8:=toI (aA q1 k.toNat 3); let q7:=toS (aA q1 k.toNat 1); let q6:=(T4 (True /\ True)) /\ True /\ True; let q5:=aA q1 k.toNat 4; let q4:=aA q1 k.toNat 2; let q3:=aA q1 k.toNat 0; let q2:=length d.packs; T4 (True /\ pIf (decide (k < (↑q2 : Int))) (T2 (True /\ (0 <= k /\ k < (↑q2 : Int)) /\ True /\ aA q1 k.toNat 0 = vs (toS q3) /\ T2 (pIf (decide (toS q3 = s)) (T2 (True /\ (0 <= k /\ k < (↑q2 : Int)) /\ (aA q1 k.toNat 0 = vs (toS q3) /\ aA q1 k.toNat 1 = vs q7 /\ aA q1 k.toNat 2 = tree 1 (toN q4) (toE q4) /\ aA q1 k.toNat 3 = vi q8 /\ aA q1 k.toNat 4 = tree 1 (toN q5) (toE q5) /\ True) /\ 5 <= 5 /\ True /\ q6 /\ Post (Value.tuple #[Value.agg #[vs (toS q3),vs q7,tree 1 (toN q4) (toE q4),vi q8,tree 1 (toN q5) (toE q5)],vb true]))) (T4 ((T2 (True)) /\ HP H 191 2 (stV [(1,some (vs s)),(2,some (pt 0)),(4,some (pt 1)),(6,some (vi (wrap i64 (k + 1))))] [(0,some (AObj.cells [vs d.hull,tree 3 d.nodes.length (aB d.nodes),tree 18 d.parts.length (aB d.parts),tree 6 d.seams.length (aB d.seams),tree 5 q2 q1,tree 3 d.needs.length (aB d.needs)] true)),(1,some (AObj.cells [vz,vz,nS,vi 0,nS] true))] 2)))))) (True /\ 5 <= 5 /\ True /\ q6 /\ Post (Value.tuple #[Value.agg #[vz,vz,tree 1 0 #[],vi 0,tree 1 0 #[]],vb false])))):=by kernel_rfl
theorem aRT (n : Nat) (A : Array Value) (s : ByteArray) (H : Code -> List Fr -> AS -> Prop) (Post : Value -> Prop) : vcP Tryz.prog aI 183 [(2,[0,1,5])] [tree 1 n A,.string s] H Post = (True /\ True /\ True /\ True /\ HP H 183 2 (stV [(0,some (tree 1 n A)),(1,some (Value.string s)),(5,some (Value.int i64 0))] [] 0)):=by kernel_rfl
theorem aL0 (n : Nat) (A : Array Value) (s : ByteArray) (k : Int) (H : HT) (Post : PV) : bX Tryz.prog aI 183 [tree 1 n A,.string s] [(2,[0,1,5])] 2 (stV [(0,some (tree 1 n A)),(1,some (.string s)),(5,some (vi k))] [] 0) H Post = (T4 (pIf (decide (k < (↑n : Int))) (T2 ((0 <= k /\ k < (↑n : Int)) /\ aA A k.toNat 0 = vs (toS (aA A k.toNat 0)) /\ T2 (pIf (decide (toS (aA A k.toNat 0) = s)) (T2 (Post (vb true))) (T4 (True /\ HP H 183 2 (stV [(0,some (tree 1 n A)),(1,some (vs s)),(5,some (vi (wrap i64 (k + 1))))] [] 0)))))) (T2 (Post (vb false))))):=by kernel_rfl
def upF (d : Design6) : Nat -> ByteArray -> List ByteArray -> Option (List ByteArray)
 | 0,_,_=>none
 | k + 1,s,l=>match dP d s with
  | none=>none
  | some n=>if n.kind = 1 then some (l ++ [s]) else upF d k n.parent (l ++ [s])
def dF (d : Design6) (s : ByteArray) : Option (List ByteArray):=upF d 65 s []
def aOt (args : List Value) (Post : Value -> Prop) : Prop:=∃ (d : Design6) (s : ByteArray),args = [aC d,.string s] /\ aH d.nodes /\ Post (.tuple #[trS ((dF d s).getD []),.bool (dF d s).isSome])
def aM5 : bH:=aU [⟨184,wC⟩] aI
theorem e_rup (d : Design6) (s : ByteArray) (H : HT) (Post : PV) : vcP Tryz.prog aM5 185 [(3,[1,2,6,7])] [aC d,.string s] H Post = (T4 (T2 ((True /\ True) /\ HP H 185 3 (stV [(1,some (vs s)),(2,some (pt 0)),(6,some (nS)),(7,some (vi 0))] [(0,some (AObj.cells (aG d) true))] 1)))):=by kernel_rfl
theorem aRb (d : Design6) (s t : ByteArray) (k : Int) (H : HT) (Post : PV) : bX Tryz.prog aM5 185 [aC d,.string s] [(3,[1,2,6,7])] 3 (stV [(1,some (.string t)),(2,some (pt 0)),(6,some (.slice none 0 0)),(7,some (vi k))] [(0,some (.cells (aG d) true))] 1) H Post = (let q6:=Value.tuple #[tree 1 0 #[],vb false]; let q5:=d.needs; let q4:=d.packs; let q3:=d.seams; let q2:=d.parts; let q1:=d.nodes; T2 (pIf (decide (k <= 64)) (T2 (∃ (d_1 : Design6),∃ (s : ByteArray),eqL [Value.agg #[vs d.hull,tree 3 q1.length (aB q1),tree 18 q2.length (aB q2),tree 6 q3.length (aB q3),tree 5 q4.length (aB q4),tree 3 q5.length (aB q5)],vs t] [aC d_1,vs s] /\ aH d_1.nodes /\ T2 (True /\ pIf (isSome (dP d_1 s)) (True /\ 3 <= 3 /\ T4 (T2 (1 <= 1 /\ 1 <= 33554432 /\ true = true /\ 1 = 1 /\ T4 (pIf (decide (Node3.kind (Option.getD (dP d_1 s) zO) = 1)) (T2 (True /\ ((1 <= 1 /\ NLs [vs t]) /\ True /\ True) /\ Post (Value.tuple #[tree 1 1 #[vs t],vb true]))) (T4 (T2 (True /\ (True /\ NLs [vs t] /\ True) /\ HP H 185 3 (stV [(1,some (vs (Node3.parent (Option.getD (dP d_1 s) zO)))),(2,some (pt 0)),(6,some (Value.slice (some (Addr.mk 1 0 none)) 1 1)),(7,some (vi (wrap i64 (k + 1))))] [(0,some (AObj.cells [vs d.hull,tree 3 q1.length (aB q1),tree 18 q2.length (aB q2),tree 6 q3.length (aB q3),tree 5 q4.length (aB q4),tree 3 q5.length (aB q5)] true)),(1,some (AObj.cells [vs t] true))] 2)))))))) (True /\ 3 <= 3 /\ T4 (True /\ (T2 (True)) /\ Post q6))))) (T2 ((T2 (True)) /\ Post q6)))):=by kernel_rfl
theorem aL2 (d : Design6) (s t : ByteArray) (k : Int) (j : Nat) (l : List Value) (H : HT) (Post : PV) : bX Tryz.prog aM5 185 [aC d,.string s] [(3,[1,2,6,7])] 3 (stV [(1,some (.string t)),(2,some (pt 0)),(6,some (.slice (some ⟨1,0,none⟩) j 1)),(7,some (vi k))] [(0,some (.cells (aG d) true)),(1,some (.cells l true))] 2) H Post = (let q7:=Value.tuple #[tree 1 0 #[],vb false]; let q6:=d.needs; let q5:=d.packs; let q4:=d.seams; let q3:=d.parts; let q2:=d.nodes; let q1:=List.drop 0 l ++ [(vs t)]; T2 (pIf (decide (k <= 64)) (T2 (∃ (d_1 : Design6),∃ (s : ByteArray),eqL [Value.agg #[vs d.hull,tree 3 q2.length (aB q2),tree 18 q3.length (aB q3),tree 6 q4.length (aB q4),tree 5 q5.length (aB q5),tree 3 q6.length (aB q6)],vs t] [aC d_1,vs s] /\ aH d_1.nodes /\ T2 (True /\ pIf (isSome (dP d_1 s)) (True /\ 3 <= 3 /\ T4 (T2 (1 <= 1 /\ j + 1 <= 33554432 /\ true = true /\ 1 = 1 /\ 0 + j * 1 = length l /\ T4 (pIf (decide (Node3.kind (Option.getD (dP d_1 s) zO) = 1)) (T2 (True /\ ((0 + (j + 1) * 1 <= length q1 /\ NLs (List.drop 0 q1)) /\ True /\ True) /\ Post (Value.tuple #[tree 1 (j + 1) (bP 1 (j + 1) (List.drop 0 q1)),vb true]))) (T4 (T2 (True /\ (True /\ NLs (l ++ [vs t]) /\ True) /\ HP H 185 3 (stV [(1,some (vs (Node3.parent (Option.getD (dP d_1 s) zO)))),(2,some (pt 0)),(6,some (Value.slice (some (Addr.mk 1 0 none)) (j + 1) 1)),(7,some (vi (wrap i64 (k + 1))))] [(0,some (AObj.cells [vs d.hull,tree 3 q2.length (aB q2),tree 18 q3.length (aB q3),tree 6 q4.length (aB q4),tree 5 q5.length (aB q5),tree 3 q6.length (aB q6)] true)),(1,some (AObj.cells (l ++ [vs t]) true))] 2)))))))) (True /\ 3 <= 3 /\ T4 (True /\ (T2 (True)) /\ Post q7))))) (T2 ((T2 (True)) /\ Post q7)))):=by kernel_rfl
def aHi (d : Design6) (s : ByteArray) : List ByteArray:=if (dP d s).isSome then ((dF d s).getD []).reverse else match cO d s with
 | none=>[]
 | some p=>((dF d p.node).getD []).reverse
def aLl (args : List Value) (Post : Value -> Prop) : Prop:=∃ (d : Design6) (s : ByteArray),args = [aC d,.string s] /\ aH d.nodes /\ FitD d /\ Post (trS (aHi d s))
def aDp : bH:=aU [⟨184,wC⟩,⟨108,pD⟩,⟨185,aOt⟩] aI
theorem aQm (d : Design6) (s : ByteArray) (H : HT) (Post : PV) : vcP Tryz.prog aDp 186 [(11,[10,12,13])] [aC d,.string s] H Post = (let q3:=lpK Tryz.prog 186 11; let q2:=lpC Tryz.prog 186 11; let q1:=(aG d).toArray; T4 (T2 (∃ (d_1 : Design6),∃ (s_1 : ByteArray),eqL [Value.agg q1,vs s] [aC d_1,vs s_1] /\ aH d_1.nodes /\ T2 (True /\ pIf (isSome (dP d_1 s_1)) (True /\ 3 <= 3 /\ T4 (True /\ ∃ (d_2 : Design6),∃ (s_2 : ByteArray),eqL [Value.agg q1,vs s] [aC d_2,vs s_2] /\ aH d_2.nodes /\ T2 (True /\ pIf (isSome (dF d_2 s_2)) (T8 (True /\ H q2 q3 (stV [(10,some (tree 1 (length (Option.getD (dF d_2 s_2) [])) (aB (Option.getD (dF d_2 s_2) [])))),(12,some (nS)),(13,some (vi (wrap i64 ((↑(length (Option.getD (dF d_2 s_2) [])) : Int) - 1))))] [] 0))) (T8 (True /\ H q2 q3 (stV [(10,some (tree 1 (length (Option.getD (dF d_2 s_2) [])) (aB (Option.getD (dF d_2 s_2) [])))),(12,some (nS)),(13,some (vi (wrap i64 ((↑(length (Option.getD (dF d_2 s_2) [])) : Int) - 1))))] [] 0)))))) (True /\ 3 <= 3 /\ T4 (True /\ ∃ (d_2 : Design6),∃ (s_2 : ByteArray),eqL [Value.agg q1,vs s] [aC d_2,vs s_2] /\ FitD d_2 /\ T2 (True /\ pIf (isSome (cO d_2 s_2)) (True /\ 18 <= 18 /\ T8 (∃ (d_3 : Design6),∃ (s : ByteArray),eqL [Value.agg q1,vs (Part.node (Option.getD (cO d_2 s_2) iG))] [aC d_3,vs s] /\ aH d_3.nodes /\ T2 (True /\ pIf (isSome (dF d_3 s)) (T8 (True /\ H q2 q3 (stV [(10,some (tree 1 (length (Option.getD (dF d_3 s) [])) (aB (Option.getD (dF d_3 s) [])))),(12,some (nS)),(13,some (vi (wrap i64 ((↑(length (Option.getD (dF d_3 s) [])) : Int) - 1))))] [] 0))) (T8 (True /\ H q2 q3 (stV [(10,some (tree 1 (length (Option.getD (dF d_3 s) [])) (aB (Option.getD (dF d_3 s) [])))),(12,some (nS)),(13,some (vi (wrap i64 ((↑(length (Option.getD (dF d_3 s) [])) : Int) - 1))))] [] 0)))))) (True /\ 18 <= 18 /\ T4 (True /\ Post (tree 1 0 #[])))))))))):=by kernel_rfl
theorem aGo (d : Design6) (s : ByteArray) (n : Nat) (A : Array Value) (k : Int) (H : HT) (Post : PV) : bX Tryz.prog aDp 186 [aC d,.string s] [(11,[10,12,13])] 11 (stV [(10,some (tree 1 n A)),(12,some (.slice none 0 0)),(13,some (vi k))] [] 0) H Post = (let q1:=toS (aA A k.toNat 0); T2 (pIf (decide (k >= 0)) (T2 (True /\ (0 <= k /\ k < (↑n : Int)) /\ aA A k.toNat 0 = vs q1 /\ True /\ 1 <= 1 /\ 1 <= 33554432 /\ true = true /\ 1 = 1 /\ T4 (True /\ (NLs [vs q1] /\ True) /\ HP H 186 11 (stV [(10,some (tree 1 n A)),(12,some (Value.slice (some (Addr.mk 0 0 none)) 1 1)),(13,some (vi (wrap i64 (k - 1))))] [(0,some (AObj.cells [vs q1] true))] 1)))) (T2 (True /\ Post (tree 1 0 #[]))))):=by kernel_rfl
theorem aGm (d : Design6) (s : ByteArray) (n j : Nat) (A : Array Value) (k : Int) (l : List Value) (H : HT) (Post : PV) : bX Tryz.prog aDp 186 [aC d,.string s] [(11,[10,12,13])] 11 (stV [(10,some (tree 1 n A)),(12,some (.slice (some ⟨0,0,none⟩) j 1)),(13,some (vi k))] [(0,some (.cells l true))] 1) H Post = (let q1:=toS (aA A k.toNat 0); T2 (pIf (decide (k >= 0)) (T2 (True /\ (0 <= k /\ k < (↑n : Int)) /\ aA A k.toNat 0 = vs q1 /\ True /\ 1 <= 1 /\ j + 1 <= 33554432 /\ true = true /\ 1 = 1 /\ 0 + j * 1 = length l /\ T4 (True /\ (NLs (l ++ [vs q1]) /\ True) /\ HP H 186 11 (stV [(10,some (tree 1 n A)),(12,some (Value.slice (some (Addr.mk 0 0 none)) (j + 1) 1)),(13,some (vi (wrap i64 (k - 1))))] [(0,some (AObj.cells (l ++ [vs q1]) true))] 1)))) (T2 ((0 + j * 1 <= length l /\ NLs l) /\ Post (tree 1 j (bP 1 j (List.drop 0 l))))))):=by kernel_rfl
def dT (d : Design6) (s : ByteArray) : Bool:=match dP d s with
 | none=>false
 | some n=>decide (n.kind = 1)
def aHK (d : Design6) (s : ByteArray) : Option ByteArray:=match dF d s with
 | none=>none
 | some l=>some (l.getD (l.length - 1) ⟨#[]⟩)
def uL (d : Design6) (s : ByteArray) : Option ByteArray:=if (dP d s).isSome then aHK d s else match cO d s with
 | some p=>aHK d p.node
 | none=>match lY d s with
  | none=>none
  | some k=>if dT d k.block then some k.block else none
def aQu (args : List Value) (Post : Value -> Prop) : Prop:=∃ (d : Design6) (s : ByteArray),args = [aC d,.string s] /\ aH d.nodes /\ aH d.packs /\ FitD d /\ Post (.tuple #[.string ((uL d s).getD ⟨#[]⟩),.bool (uL d s).isSome])
def aQO : bH:=aU [⟨184,wC⟩,⟨108,pD⟩,⟨191,aHh⟩,⟨185,aOt⟩] aI
theorem aRv (d : Design6) (s : ByteArray) (H : HT) (Post : PV) : vcP Tryz.prog aQO 222 [] [aC d,.string s] H Post = (let q2:=Value.tuple #[vz,vb false]; let q4:=T2 (True /\ (T2 (True)) /\ Post q2); let q3:=(T2 (True)) /\ Post q2; let q1:=(aG d).toArray; T4 (T2 (True /\ ∃ (d_1 : Design6),∃ (s_1 : ByteArray),eqL [Value.agg q1,vs s] [aC d_1,vs s_1] /\ aH d_1.nodes /\ T2 (True /\ pIf (isSome (dP d_1 s_1)) (True /\ 3 <= 3 /\ T4 (True /\ ∃ (d_2 : Design6),∃ (s_2 : ByteArray),eqL [Value.agg q1,vs s] [aC d_2,vs s_2] /\ aH d_2.nodes /\ T2 (True /\ pIf (isSome (dF d_2 s_2)) (T8 ((0 <= wrap i64 ((↑(length (Option.getD (dF d_2 s_2) [])) : Int) - 1) /\ wrap i64 ((↑(length (Option.getD (dF d_2 s_2) [])) : Int) - 1) < (↑(length (Option.getD (dF d_2 s_2) [])) : Int)) /\ aA (aB (Option.getD (dF d_2 s_2) [])) (toNat (wrap i64 ((↑(length (Option.getD (dF d_2 s_2) [])) : Int) - 1))) 0 = vs (toS (aA (aB (Option.getD (dF d_2 s_2) [])) (toNat (wrap i64 ((↑(length (Option.getD (dF d_2 s_2) [])) : Int) - 1))) 0)) /\ T2 ((T2 (True)) /\ Post (Value.tuple #[vs (toS (aA (aB (Option.getD (dF d_2 s_2) [])) (toNat (wrap i64 ((↑(length (Option.getD (dF d_2 s_2) [])) : Int) - 1))) 0)),vb true])))) (T4 (T2 q3))))) (True /\ 3 <= 3 /\ T4 (True /\ ∃ (d_2 : Design6),∃ (s_2 : ByteArray),eqL [Value.agg q1,vs s] [aC d_2,vs s_2] /\ FitD d_2 /\ T2 (True /\ pIf (isSome (cO d_2 s_2)) (True /\ 18 <= 18 /\ T4 (T2 (True /\ ∃ (d_3 : Design6),∃ (s : ByteArray),eqL [Value.agg q1,vs (Part.node (Option.getD (cO d_2 s_2) iG))] [aC d_3,vs s] /\ aH d_3.nodes /\ T2 (True /\ pIf (isSome (dF d_3 s)) (T8 ((0 <= wrap i64 ((↑(length (Option.getD (dF d_3 s) [])) : Int) - 1) /\ wrap i64 ((↑(length (Option.getD (dF d_3 s) [])) : Int) - 1) < (↑(length (Option.getD (dF d_3 s) [])) : Int)) /\ aA (aB (Option.getD (dF d_3 s) [])) (toNat (wrap i64 ((↑(length (Option.getD (dF d_3 s) [])) : Int) - 1))) 0 = vs (toS (aA (aB (Option.getD (dF d_3 s) [])) (toNat (wrap i64 ((↑(length (Option.getD (dF d_3 s) [])) : Int) - 1))) 0)) /\ T2 ((T2 (True)) /\ Post (Value.tuple #[vs (toS (aA (aB (Option.getD (dF d_3 s) [])) (toNat (wrap i64 ((↑(length (Option.getD (dF d_3 s) [])) : Int) - 1))) 0)),vb true])))) (T4 (T2 q3)))))) (True /\ 18 <= 18 /\ T4 (∃ (d_3 : Design6),∃ (s_3 : ByteArray),eqL [Value.agg q1,vs s] [aC d_3,vs s_3] /\ aH d_3.packs /\ T2 (True /\ pIf (isSome (lY d_3 s_3)) (True /\ 5 <= 5 /\ T4 (True /\ ∃ (d_4 : Design6),∃ (s : ByteArray),eqL [Value.agg q1,vs (Pack5.block (Option.getD (lY d_3 s_3) aNm))] [aC d_4,vs s] /\ aH d_4.nodes /\ T2 (True /\ pIf (isSome (dP d_4 s)) (True /\ 3 <= 3 /\ T4 (T2 (True /\ pIf (!decide (Node3.kind (Option.getD (dP d_4 s) zO) = 1)) q4 (T4 (True /\ (T2 (True)) /\ Post (Value.tuple #[vs (Pack5.block (Option.getD (lY d_3 s_3) aNm)),vb true])))))) (True /\ 3 <= 3 /\ T4 q4)))) (True /\ 5 <= 5 /\ T4 q3))))))))))):=by kernel_rfl
def aDI (args : List Value) (Post : Value -> Prop) : Prop:=∃ (d : Design6) (s : ByteArray),args = [aC d,.string s] /\ aH d.nodes /\ Post (.bool (dT d s))
theorem aMo (d : Design6) (s : ByteArray) (H : HT) (Post : PV) : vcP Tryz.prog aM5 188 [] [aC d,.string s] H Post = (T4 (∃ (d_1 : Design6),∃ (s_1 : ByteArray),eqL [aC d,vs s] [aC d_1,vs s_1] /\ aH d_1.nodes /\ T2 (True /\ pIf (isSome (dP d_1 s_1)) (True /\ 3 <= 3 /\ T4 (T2 (pIf (decide (Node3.kind (Option.getD (dP d_1 s_1) zO) = 1)) (T2 (True /\ Post (vb true))) (T2 (True /\ Post (vb false)))))) (True /\ 3 <= 3 /\ T4 (T2 (Post (vb false))))))):=by kernel_rfl
theorem aRJ (n : Nat) (A : Array Value) (H : Code -> List Fr -> AS -> Prop) (Post : Value -> Prop) : vcP Tryz.prog aI 181 [(2,[0,3])] [tree 1 n A] H Post = (True /\ True /\ True /\ True /\ HP H 181 2 (stV [(0,some (tree 1 n A)),(3,some (Value.int i64 1))] [] 0)):=by kernel_rfl
theorem aGW (n : Nat) (A : Array Value) (k : Int) (H : HT) (Post : PV) : bX Tryz.prog aI 181 [tree 1 n A] [(2,[0,3])] 2 (stV [(0,some (tree 1 n A)),(3,some (vi k))] [] 0) H Post = (let q2:=toS (aA A k.toNat 0); let q1:=toNat (wrap i64 (k - 1)); T4 (pIf (decide (k < (↑n : Int))) (T2 (True /\ (0 <= wrap i64 (k - 1) /\ wrap i64 (k - 1) < (↑n : Int)) /\ aA A q1 0 = vs (toS (aA A q1 0)) /\ T2 ((0 <= k /\ k < (↑n : Int)) /\ aA A k.toNat 0 = vs q2 /\ True /\ pIf (!Op.bytesLess (ByteArray.toList (toS (aA A q1 0))) (ByteArray.toList q2)) (T2 (Post (vb false))) (T4 (True /\ HP H 181 2 (stV [(0,some (tree 1 n A)),(3,some (vi (wrap i64 (k + 1))))] [] 0)))))) (T2 (Post (vb true))))):=by kernel_rfl
theorem Rel.tocell {ρ : Place} {W : Base} {hp : Tr AObj} {nx : Nat} {w : World} (h : Rel ρ W hp nx w) {bb j : Nat} {l : List Value} {u : Value} (hg : hp.get bb = some (.cells l true))
  (hu : ∀ c s z cs t fr,ρ bb = some (c,s,z) -> w.heap[c]? = some (.cells cs t fr) -> ∃ v',cs[s + j]? = some v' /\ VR ρ u v') : Rel ρ W (hp.put bb (some (.cells (l.set j u) true))) nx w:=by
 have sub : ∀ k o,(hp.put bb (some (.cells (l.set j u) true))).get k = some o -> ∃ o',hp.get k = some o' /\ (o.wr = true -> o'.wr = true):=fun k o hk=>by
  rw [Tr.get_put] at hk
  split at hk
  ·next e=>subst e; cases hk; exact ⟨_,hg,fun h=>h⟩
  ·exact ⟨o,hk,fun h=>h⟩
 refine ⟨h.dom,fun b o c s z ho hb=>?_,fun b b' x x' o o' h1 h2=>?_,fun b hb=>?_,h.below,h.frz,fun b o c s z ho hw hb=>?_,h.frn⟩
 ·rw [Tr.get_put] at ho
  split at ho
  ·next e =>
   subst e
   cases ho
   obtain ⟨ob,e1,e2⟩:=h.obj _ _ c s z hg hb
   refine ⟨ob,e1,?_⟩
   cases ob <;> try exact e2.elim
   rename_i cs t fr
   obtain ⟨a1,a2,a3,a4,a5⟩:=e2
   refine ⟨a1,by rw [List.length_set]; exact a2,a3,fun i v hv=>?_,a5⟩
   by_cases hij : i = j
   ·subst hij
    rw [List.getElem?_set] at hv
    simp only [if_true] at hv
    split at hv
    ·cases hv
     exact hu c s z cs t fr hb e1
    ·cases hv
   ·rw [List.getElem?_set_ne (fun e=>hij e.symm)] at hv
    exact a4 i v hv
  ·exact h.obj b o c s z ho hb
 ·obtain ⟨q,e,_⟩:=sub b o h1
  obtain ⟨q',e',_⟩:=sub b' o' h2
  exact h.inj b b' x x' q q' e e'
 ·rw [Tr.get_put]
  split
  ·next e=>subst e; rw [h.fresh _ hb] at hg; cases hg
  ·exact h.fresh b hb
 ·obtain ⟨q,e,f⟩:=sub b o ho
  exact h.apart b q c s z e (f hw) hb
theorem nO {P : Program} {n : Nat} {Fin : AS -> Prop} {b : Code} {k : List Fr} {t : TypeId} {tm : Tr Value} {hp hp1 : Tr AObj} {nx bb j : Nat} {l : List Value} {v u : Value} {ob : Prop} (hg : hp.get bb = some (.cells l true)) (hj : l[j]? = some v)
  (hf : aMk P 0 t hp v = some (u,hp1,ob)) (hob : ob) (hd : hp1 = hp ∨ ∃ b',¬ bb = b' /\ hp1 = hp.put b' none) (h : aEF P n [] Fin b k ⟨tm,hp1.put bb (some (.cells (l.set j u) true)),nx⟩) : aEF P n [] Fin b k ⟨tm,hp,nx⟩:=by
 have h1 : hp1.get bb = some (.cells l true):=by
  rcases hd with rfl | ⟨b',hne,rfl⟩
  ·exact hg
  ·rw [Tr.get_put,if_neg hne,hg]
 intro W ρ0 Q hQ ρ a w hs hr
 cases hρ : ρ bb with
 | none =>
  have R : Rel ρ W hp1 nx w:=by
   rcases hd with rfl | ⟨b',hne,rfl⟩
   ·exact hs.rel
   ·exact hs.rel.drop b'
  exact h W ρ0 Q hQ ρ a w ⟨R.tocell h1 (fun c s z cs t fr hc _=>by rw [hρ] at hc; cases hc),hs.frame⟩ hr
 | some x =>
  obtain ⟨c,s,z⟩:=x
  obtain ⟨o1,e1,e2⟩:=hs.rel.obj bb _ c s z hg hρ
  cases o1 <;> try exact e2.elim
  rename_i cs t' fr
  obtain ⟨v',e3,hv⟩:=e2.2.2.2.1 j v hj
  obtain ⟨ρ1,g1,g2,g3⟩:=tE hs.rel hv hf hob
  have hb:=g2.le.1 bb _ hρ
  refine h W ρ0 Q hQ ρ1 a w ⟨g1.tocell h1 (fun c' s' z' cs' t'' fr' hc he=>?_),hs.frame.mono g2.le⟩ ⟨fun b x hb=>absurd hb (Nat.not_lt_zero _),fun c x hx=>g2.le.2 c x (hr.2 c x hx)⟩
  have e:=hb.symm.trans hc
  cases e
  rw [e1] at he
  cases he
  exact ⟨v',e3,g3.lift⟩
abbrev kI : List Value:=[.slice none 0 0,.slice none 0 0,.slice none 0 0,.slice none 0 0]
def bI (d : Design6) : List ByteArray:=d.nodes.map (·.id)
def bC (d : Design6) : List ByteArray:=d.parts.map (·.id)
def bU (d : Design6) : List ByteArray:=d.seams.map (·.id)
def bG (d : Design6) : List ByteArray:=d.packs.map (·.id)
structure Few17 (d : Design6) : Prop where
 n : d.nodes.length <= 1000
 p : d.parts.length <= 1000
 s : d.seams.length <= 1000
 k : d.packs.length <= 1000
 q : d.needs.length <= 1000
 a : ∀ x ∈ d.packs,x.parts.length <= 1000 /\ x.after.length <= 1000
def aD0 (args : List Value) (Post : Value -> Prop) : Prop:=∃ d : Design6,args = [aC d] /\ Few17 d /\ Post (.agg #[trS (bI d),trS (bC d),trS (bU d),trS (bG d)])
abbrev nG : List (Nat × List Nat):=[(3,[1,2,3,4]),(7,[1,2,3,5]),(11,[1,2,3,6]),(15,[1,2,3,7])]
def vlP (_ : Program) (_ : Nat) (lt : List (Nat × List Nat)) (b : Code) (k : List Fr) (st : AS) (H : Code -> List Fr -> AS -> Prop) (_ : Value -> Prop) : Prop:=nY lt [] H b k st
theorem aP7 (d : Design6) (H : HT) (Post : PV) : vcP Tryz.prog aI 180 nG [aC d] H Post = (let q1:=AObj.cells [nS,nS,nS,nS] true; T4 (True /\ (T2 (True /\ True)) /\ HP H 180 3 (stV [(1,some (pt 0)),(2,some (pt 1)),(3,some (pt 2)),(4,some (vi 0))] [(0,some (AObj.cells (aG d) true)),(1,some q1),(2,some q1)] 3))):=by kernel_rfl
theorem aA2 (d : Design6) (k : Int) (H : HT) (Post : PV) : bX Tryz.prog aI 180 [aC d] nG 3 (stV [(1,some (pt 0)),(2,some (pt 1)),(3,some (pt 2)),(4,some (vi k))] [(0,some (.cells (aG d) true)),(1,some (.cells kI true)),(2,some (.cells [.slice none 0 0,.slice none 0 0,.slice none 0 0,.slice none 0 0] true))] 3) H Post = (let q5:=(toI (vi 0) <= 0 /\ toI (vi 0) < (↑4 : Int)); let q4:=AObj.cells [nS,nS,nS,nS] true; let q3:=d.nodes; let q2:=toS (aA (aB q3) k.toNat 0); let q1:=(0,some (AObj.cells [vs d.hull,tree 3 q3.length (aB q3),tree 18 d.parts.length (aB d.parts),tree 6 d.seams.length (aB d.seams),tree 5 d.packs.length (aB d.packs),tree 3 d.needs.length (aB d.needs)] true)); T4 (True /\ pIf (decide (k < (↑q3.length : Int))) (q5 /\ T4 ((0 <= k /\ k < (↑q3.length : Int)) /\ True /\ aA (aB q3) k.toNat 0 = vs q2 /\ True /\ 1 <= 1 /\ 1 <= 33554432 /\ true = true /\ 1 = 1 /\ True /\ q5 /\ 1 <= 4 /\ T4 (True /\ (T2 (True /\ NLs [vs q2] /\ True)) /\ HP H 180 3 (stV [(1,some (pt 0)),(2,some (pt 1)),(3,some (pt 2)),(4,some (vi (wrap i64 (k + 1))))] [q1,(1,some q4),(2,some (AObj.cells [Value.slice (some (Addr.mk 3 0 none)) 1 1,nS,nS,nS] true)),(3,some (AObj.cells [vs q2] true))] 4)))) (T2 ((T2 (True /\ True)) /\ HP H 180 7 (stV [(1,some (pt 0)),(2,some (pt 1)),(3,some (pt 2)),(5,some (vi 0))] [q1,(1,some q4),(2,some q4)] 3))))):=by kernel_rfl
theorem aBb (d : Design6) (k : Int) (j : Nat) (l : List Value) (H : HT) (Post : PV) : bX Tryz.prog aI 180 [aC d] nG 3 (stV [(1,some (pt 0)),(2,some (pt 1)),(3,some (pt 2)),(4,some (vi k))] [(0,some (.cells (aG d) true)),(1,some (.cells kI true)),(2,some (.cells [.slice (some ⟨3,0,none⟩) j 1,.slice none 0 0,.slice none 0 0,.slice none 0 0] true)),(3,some (.cells l true))] 4) H Post = (let q5:=(toI (vi 0) <= 0 /\ toI (vi 0) < (↑4 : Int)); let q4:=(1,some (AObj.cells [nS,nS,nS,nS] true)); let q3:=d.nodes; let q2:=toS (aA (aB q3) k.toNat 0); let q1:=(0,some (AObj.cells [vs d.hull,tree 3 q3.length (aB q3),tree 18 d.parts.length (aB d.parts),tree 6 d.seams.length (aB d.seams),tree 5 d.packs.length (aB d.packs),tree 3 d.needs.length (aB d.needs)] true)); T4 (True /\ pIf (decide (k < (↑q3.length : Int))) (q5 /\ T4 ((0 <= k /\ k < (↑q3.length : Int)) /\ True /\ aA (aB q3) k.toNat 0 = vs q2 /\ True /\ 1 <= 1 /\ j + 1 <= 33554432 /\ true = true /\ 1 = 1 /\ 0 + j * 1 = length l /\ True /\ q5 /\ 1 <= 4 /\ T4 (True /\ (T2 (True /\ NLs (l ++ [vs q2]) /\ True)) /\ HP H 180 3 (stV [(1,some (pt 0)),(2,some (pt 1)),(3,some (pt 2)),(4,some (vi (wrap i64 (k + 1))))] [q1,q4,(2,some (AObj.cells [Value.slice (some (Addr.mk 3 0 none)) (j + 1) 1,nS,nS,nS] true)),(3,some (AObj.cells (l ++ [vs q2]) true))] 4)))) (T2 ((T2 (True /\ NLs l /\ True)) /\ HP H 180 7 (stV [(1,some (pt 0)),(2,some (pt 1)),(3,some (pt 2)),(5,some (vi 0))] [q1,q4,(2,some (AObj.cells [Value.slice (some (Addr.mk 3 0 none)) j 1,nS,nS,nS] true)),(3,some (AObj.cells l true))] 4))))):=by kernel_rfl
theorem aHd (d : Design6) (H : HT) (Post : PV) : vlP Tryz.prog 180 nG (lpC Tryz.prog 180 7) (lpK Tryz.prog 180 7) ⟨trV [(1,some (pt 0)),(2,some (pt 1)),(3,some (pt 2)),(5,some (vi 0))],Tr.put ((trV [(0,some (.cells (aG d) true)),(1,some (.cells kI true)),(2,some (.cells [.slice none 0 0,.slice none 0 0,.slice none 0 0,.slice none 0 0] true))])) 2 (some (.cells (List.set [.slice none 0 0,.slice none 0 0,.slice none 0 0,.slice none 0 0] 0 (tree 1 0 #[])) true)),3⟩ H Post = (True /\ (T2 (True /\ True)) /\ HP H 180 7 (stV [(1,some (pt 0)),(2,some (pt 1)),(3,some (pt 2)),(5,some (vi 0))] [(0,some (AObj.cells (aG d) true)),(1,some (AObj.cells [nS,nS,nS,nS] true)),(2,some (AObj.cells [tree 1 0 #[],nS,nS,nS] true))] 3)):=by kernel_rfl
theorem aHl (d : Design6) (j : Nat) (l : List Value) (H : HT) (Post : PV) : vlP Tryz.prog 180 nG (lpC Tryz.prog 180 7) (lpK Tryz.prog 180 7) ⟨trV [(1,some (pt 0)),(2,some (pt 1)),(3,some (pt 2)),(5,some (vi 0))],Tr.put ((trV [(0,some (.cells (aG d) true)),(1,some (.cells kI true)),(2,some (.cells [.slice (some ⟨3,0,none⟩) j 1,.slice none 0 0,.slice none 0 0,.slice none 0 0] true)),(3,some (.cells l true))]).put 3 none) 2 (some (.cells (List.set [.slice (some ⟨3,0,none⟩) j 1,.slice none 0 0,.slice none 0 0,.slice none 0 0] 0 (tree 1 j (bP 1 j (List.drop 0 l)))) true)),4⟩ H Post = (True /\ (T2 (True /\ True)) /\ HP H 180 7 (stV [(1,some (pt 0)),(2,some (pt 1)),(3,some (pt 2)),(5,some (vi 0))] [(0,some (AObj.cells (aG d) true)),(1,some (AObj.cells [nS,nS,nS,nS] true)),(2,some (AObj.cells [tree 1 j (bP 1 j (List.drop 0 l)),nS,nS,nS] true))] 3)):=by kernel_rfl
theorem aAS (d : Design6) (n0 : Nat) (A0 : Array Value) (k : Int) (H : HT) (Post : PV) : bX Tryz.prog aI 180 [aC d] nG 7 (stV [(1,some (pt 0)),(2,some (pt 1)),(3,some (pt 2)),(5,some (vi k))] [(0,some (.cells (aG d) true)),(1,some (.cells kI true)),(2,some (.cells [tree 1 n0 A0,.slice none 0 0,.slice none 0 0,.slice none 0 0] true))] 3) H Post = (let q5:=(toI (vi 0) <= 1 /\ toI (vi 1) < (↑4 : Int)); let q4:=(1,some (AObj.cells [nS,nS,nS,nS] true)); let q3:=d.parts; let q2:=toS (aA (aB q3) k.toNat 0); let q1:=(0,some (AObj.cells [vs d.hull,tree 3 d.nodes.length (aB d.nodes),tree 18 q3.length (aB q3),tree 6 d.seams.length (aB d.seams),tree 5 d.packs.length (aB d.packs),tree 3 d.needs.length (aB d.needs)] true)); T4 (True /\ pIf (decide (k < (↑q3.length : Int))) (q5 /\ T4 ((0 <= k /\ k < (↑q3.length : Int)) /\ True /\ aA (aB q3) k.toNat 0 = vs q2 /\ True /\ 1 <= 1 /\ 1 <= 33554432 /\ true = true /\ 1 = 1 /\ True /\ q5 /\ 2 <= 4 /\ T4 (True /\ (T2 (True /\ NLs [vs q2] /\ True)) /\ HP H 180 7 (stV [(1,some (pt 0)),(2,some (pt 1)),(3,some (pt 2)),(5,some (vi (wrap i64 (k + 1))))] [q1,q4,(2,some (AObj.cells [tree 1 n0 A0,Value.slice (some (Addr.mk 3 0 none)) 1 1,nS,nS] true)),(3,some (AObj.cells [vs q2] true))] 4)))) (T2 ((T2 (True /\ True)) /\ HP H 180 11 (stV [(1,some (pt 0)),(2,some (pt 1)),(3,some (pt 2)),(6,some (vi 0))] [q1,q4,(2,some (AObj.cells [tree 1 n0 A0,nS,nS,nS] true))] 3))))):=by kernel_rfl
theorem aAH (d : Design6) (n0 : Nat) (A0 : Array Value) (k : Int) (j : Nat) (l : List Value) (H : HT) (Post : PV) : bX Tryz.prog aI 180 [aC d] nG 7 (stV [(1,some (pt 0)),(2,some (pt 1)),(3,some (pt 2)),(5,some (vi k))] [(0,some (.cells (aG d) true)),(1,some (.cells kI true)),(2,some (.cells [tree 1 n0 A0,.slice (some ⟨3,0,none⟩) j 1,.slice none 0 0,.slice none 0 0] true)),(3,some (.cells l true))] 4) H Post = (let q5:=(toI (vi 0) <= 1 /\ toI (vi 1) < (↑4 : Int)); let q4:=(1,some (AObj.cells [nS,nS,nS,nS] true)); let q3:=d.parts; let q2:=toS (aA (aB q3) k.toNat 0); let q1:=(0,some (AObj.cells [vs d.hull,tree 3 d.nodes.length (aB d.nodes),tree 18 q3.length (aB q3),tree 6 d.seams.length (aB d.seams),tree 5 d.packs.length (aB d.packs),tree 3 d.needs.length (aB d.needs)] true)); T4 (True /\ pIf (decide (k < (↑q3.length : Int))) (q5 /\ T4 ((0 <= k /\ k < (↑q3.length : Int)) /\ True /\ aA (aB q3) k.toNat 0 = vs q2 /\ True /\ 1 <= 1 /\ j + 1 <= 33554432 /\ true = true /\ 1 = 1 /\ 0 + j * 1 = length l /\ True /\ q5 /\ 2 <= 4 /\ T4 (True /\ (T2 (True /\ NLs (l ++ [vs q2]) /\ True)) /\ HP H 180 7 (stV [(1,some (pt 0)),(2,some (pt 1)),(3,some (pt 2)),(5,some (vi (wrap i64 (k + 1))))] [q1,q4,(2,some (AObj.cells [tree 1 n0 A0,Value.slice (some (Addr.mk 3 0 none)) (j + 1) 1,nS,nS] true)),(3,some (AObj.cells (l ++ [vs q2]) true))] 4)))) (T2 ((T2 (True /\ NLs l /\ True)) /\ HP H 180 11 (stV [(1,some (pt 0)),(2,some (pt 1)),(3,some (pt 2)),(6,some (vi 0))] [q1,q4,(2,some (AObj.cells [tree 1 n0 A0,Value.slice (some (Addr.mk 3 0 none)) j 1,nS,nS] true)),(3,some (AObj.cells l true))] 4))))):=by kernel_rfl
theorem aHS (d : Design6) (n0 : Nat) (A0 : Array Value) (H : HT) (Post : PV) : vlP Tryz.prog 180 nG (lpC Tryz.prog 180 11) (lpK Tryz.prog 180 11) ⟨trV [(1,some (pt 0)),(2,some (pt 1)),(3,some (pt 2)),(6,some (vi 0))],Tr.put ((trV [(0,some (.cells (aG d) true)),(1,some (.cells kI true)),(2,some (.cells [tree 1 n0 A0,.slice none 0 0,.slice none 0 0,.slice none 0 0] true))])) 2 (some (.cells (List.set [tree 1 n0 A0,.slice none 0 0,.slice none 0 0,.slice none 0 0] 1 (tree 1 0 #[])) true)),3⟩ H Post = (True /\ (T2 (True /\ True)) /\ HP H 180 11 (stV [(1,some (pt 0)),(2,some (pt 1)),(3,some (pt 2)),(6,some (vi 0))] [(0,some (AObj.cells (aG d) true)),(1,some (AObj.cells [nS,nS,nS,nS] true)),(2,some (AObj.cells [tree 1 n0 A0,tree 1 0 #[],nS,nS] true))] 3)):=by kernel_rfl
theorem aHH (d : Design6) (n0 : Nat) (A0 : Array Value) (j : Nat) (l : List Value) (H : HT) (Post : PV) : vlP Tryz.prog 180 nG (lpC Tryz.prog 180 11) (lpK Tryz.prog 180 11) ⟨trV [(1,some (pt 0)),(2,some (pt 1)),(3,some (pt 2)),(6,some (vi 0))],Tr.put ((trV [(0,some (.cells (aG d) true)),(1,some (.cells kI true)),(2,some (.cells [tree 1 n0 A0,.slice (some ⟨3,0,none⟩) j 1,.slice none 0 0,.slice none 0 0] true)),(3,some (.cells l true))]).put 3 none) 2 (some (.cells (List.set [tree 1 n0 A0,.slice (some ⟨3,0,none⟩) j 1,.slice none 0 0,.slice none 0 0] 1 (tree 1 j (bP 1 j (List.drop 0 l)))) true)),4⟩ H Post = (True /\ (T2 (True /\ True)) /\ HP H 180 11 (stV [(1,some (pt 0)),(2,some (pt 1)),(3,some (pt 2)),(6,some (vi 0))] [(0,some (AObj.cells (aG d) true)),(1,some (AObj.cells [nS,nS,nS,nS] true)),(2,some (AObj.cells [tree 1 n0 A0,tree 1 j (bP 1 j (List.drop 0 l)),nS,nS] true))] 3)):=by kernel_rfl
theorem aAz (d : Design6) (n0 : Nat) (A0 : Array Value) (n1 : Nat) (A1 : Array Value) (k : Int) (H : HT) (Post : PV) : bX Tryz.prog aI 180 [aC d] nG 11 (stV [(1,some (pt 0)),(2,some (pt 1)),(3,some (pt 2)),(6,some (vi k))] [(0,some (.cells (aG d) true)),(1,some (.cells kI true)),(2,some (.cells [tree 1 n0 A0,tree 1 n1 A1,.slice none 0 0,.slice none 0 0] true))] 3) H Post = (let q5:=(toI (vi 0) <= 2 /\ toI (vi 2) < (↑4 : Int)); let q4:=(1,some (AObj.cells [nS,nS,nS,nS] true)); let q3:=d.seams; let q2:=toS (aA (aB q3) k.toNat 0); let q1:=(0,some (AObj.cells [vs d.hull,tree 3 d.nodes.length (aB d.nodes),tree 18 d.parts.length (aB d.parts),tree 6 q3.length (aB q3),tree 5 d.packs.length (aB d.packs),tree 3 d.needs.length (aB d.needs)] true)); T4 (True /\ pIf (decide (k < (↑q3.length : Int))) (q5 /\ T4 ((0 <= k /\ k < (↑q3.length : Int)) /\ True /\ aA (aB q3) k.toNat 0 = vs q2 /\ True /\ 1 <= 1 /\ 1 <= 33554432 /\ true = true /\ 1 = 1 /\ True /\ q5 /\ 3 <= 4 /\ T4 (True /\ (T2 (True /\ NLs [vs q2] /\ True)) /\ HP H 180 11 (stV [(1,some (pt 0)),(2,some (pt 1)),(3,some (pt 2)),(6,some (vi (wrap i64 (k + 1))))] [q1,q4,(2,some (AObj.cells [tree 1 n0 A0,tree 1 n1 A1,Value.slice (some (Addr.mk 3 0 none)) 1 1,nS] true)),(3,some (AObj.cells [vs q2] true))] 4)))) (T2 ((T2 (True /\ True)) /\ HP H 180 15 (stV [(1,some (pt 0)),(2,some (pt 1)),(3,some (pt 2)),(7,some (vi 0))] [q1,q4,(2,some (AObj.cells [tree 1 n0 A0,tree 1 n1 A1,nS,nS] true))] 3))))):=by kernel_rfl
theorem aAB (d : Design6) (n0 : Nat) (A0 : Array Value) (n1 : Nat) (A1 : Array Value) (k : Int) (j : Nat) (l : List Value) (H : HT) (Post : PV) : bX Tryz.prog aI 180 [aC d] nG 11 (stV [(1,some (pt 0)),(2,some (pt 1)),(3,some (pt 2)),(6,some (vi k))] [(0,some (.cells (aG d) true)),(1,some (.cells kI true)),(2,some (.cells [tree 1 n0 A0,tree 1 n1 A1,.slice (some ⟨3,0,none⟩) j 1,.slice none 0 0] true)),(3,some (.cells l true))] 4) H Post = (let q5:=(toI (vi 0) <= 2 /\ toI (vi 2) < (↑4 : Int)); let q4:=(1,some (AObj.cells [nS,nS,nS,nS] true)); let q3:=d.seams; let q2:=toS (aA (aB q3) k.toNat 0); let q1:=(0,some (AObj.cells [vs d.hull,tree 3 d.nodes.length (aB d.nodes),tree 18 d.parts.length (aB d.parts),tree 6 q3.length (aB q3),tree 5 d.packs.length (aB d.packs),tree 3 d.needs.length (aB d.needs)] true)); T4 (True /\ pIf (decide (k < (↑q3.length : Int))) (q5 /\ T4 ((0 <= k /\ k < (↑q3.length : Int)) /\ True /\ aA (aB q3) k.toNat 0 = vs q2 /\ True /\ 1 <= 1 /\ j + 1 <= 33554432 /\ true = true /\ 1 = 1 /\ 0 + j * 1 = length l /\ True /\ q5 /\ 3 <= 4 /\ T4 (True /\ (T2 (True /\ NLs (l ++ [vs q2]) /\ True)) /\ HP H 180 11 (stV [(1,some (pt 0)),(2,some (pt 1)),(3,some (pt 2)),(6,some (vi (wrap i64 (k + 1))))] [q1,q4,(2,some (AObj.cells [tree 1 n0 A0,tree 1 n1 A1,Value.slice (some (Addr.mk 3 0 none)) (j + 1) 1,nS] true)),(3,some (AObj.cells (l ++ [vs q2]) true))] 4)))) (T2 ((T2 (True /\ NLs l /\ True)) /\ HP H 180 15 (stV [(1,some (pt 0)),(2,some (pt 1)),(3,some (pt 2)),(7,some (vi 0))] [q1,q4,(2,some (AObj.cells [tree 1 n0 A0,tree 1 n1 A1,Value.slice (some (Addr.mk 3 0 none)) j 1,nS] true)),(3,some (AObj.cells l true))] 4))))):=by kernel_rfl
theorem aHs (d : Design6) (n0 : Nat) (A0 : Array Value) (n1 : Nat) (A1 : Array Value) (H : HT) (Post : PV) : vlP Tryz.prog 180 nG (lpC Tryz.prog 180 15) (lpK Tryz.prog 180 15) ⟨trV [(1,some (pt 0)),(2,some (pt 1)),(3,some (pt 2)),(7,some (vi 0))],Tr.put ((trV [(0,some (.cells (aG d) true)),(1,some (.cells kI true)),(2,some (.cells [tree 1 n0 A0,tree 1 n1 A1,.slice none 0 0,.slice none 0 0] true))])) 2 (some (.cells (List.set [tree 1 n0 A0,tree 1 n1 A1,.slice none 0 0,.slice none 0 0] 2 (tree 1 0 #[])) true)),3⟩ H Post = (True /\ (T2 (True /\ True)) /\ HP H 180 15 (stV [(1,some (pt 0)),(2,some (pt 1)),(3,some (pt 2)),(7,some (vi 0))] [(0,some (AObj.cells (aG d) true)),(1,some (AObj.cells [nS,nS,nS,nS] true)),(2,some (AObj.cells [tree 1 n0 A0,tree 1 n1 A1,tree 1 0 #[],nS] true))] 3)):=by kernel_rfl
theorem aGY (d : Design6) (n0 : Nat) (A0 : Array Value) (n1 : Nat) (A1 : Array Value) (j : Nat) (l : List Value) (H : HT) (Post : PV) : vlP Tryz.prog 180 nG (lpC Tryz.prog 180 15) (lpK Tryz.prog 180 15) ⟨trV [(1,some (pt 0)),(2,some (pt 1)),(3,some (pt 2)),(7,some (vi 0))],Tr.put ((trV [(0,some (.cells (aG d) true)),(1,some (.cells kI true)),(2,some (.cells [tree 1 n0 A0,tree 1 n1 A1,.slice (some ⟨3,0,none⟩) j 1,.slice none 0 0] true)),(3,some (.cells l true))]).put 3 none) 2 (some (.cells (List.set [tree 1 n0 A0,tree 1 n1 A1,.slice (some ⟨3,0,none⟩) j 1,.slice none 0 0] 2 (tree 1 j (bP 1 j (List.drop 0 l)))) true)),4⟩ H Post = (True /\ (T2 (True /\ True)) /\ HP H 180 15 (stV [(1,some (pt 0)),(2,some (pt 1)),(3,some (pt 2)),(7,some (vi 0))] [(0,some (AObj.cells (aG d) true)),(1,some (AObj.cells [nS,nS,nS,nS] true)),(2,some (AObj.cells [tree 1 n0 A0,tree 1 n1 A1,tree 1 j (bP 1 j (List.drop 0 l)),nS] true))] 3)):=by kernel_rfl
theorem aAu (d : Design6) (n0 : Nat) (A0 : Array Value) (n1 : Nat) (A1 : Array Value) (n2 : Nat) (A2 : Array Value) (k : Int) (H : HT) (Post : PV) : bX Tryz.prog aI 180 [aC d] nG 15 (stV [(1,some (pt 0)),(2,some (pt 1)),(3,some (pt 2)),(7,some (vi k))] [(0,some (.cells (aG d) true)),(1,some (.cells kI true)),(2,some (.cells [tree 1 n0 A0,tree 1 n1 A1,tree 1 n2 A2,.slice none 0 0] true))] 3) H Post = (let q3:=(toI (vi 0) <= 3 /\ toI (vi 3) < (↑4 : Int)); let q2:=d.packs; let q1:=toS (aA (aB q2) k.toNat 0); T4 (True /\ pIf (decide (k < (↑q2.length : Int))) (q3 /\ T4 ((0 <= k /\ k < (↑q2.length : Int)) /\ True /\ aA (aB q2) k.toNat 0 = vs q1 /\ True /\ 1 <= 1 /\ 1 <= 33554432 /\ true = true /\ 1 = 1 /\ True /\ q3 /\ 4 <= 4 /\ T4 (True /\ (T2 (True /\ NLs [vs q1] /\ True)) /\ HP H 180 15 (stV [(1,some (pt 0)),(2,some (pt 1)),(3,some (pt 2)),(7,some (vi (wrap i64 (k + 1))))] [(0,some (AObj.cells [vs d.hull,tree 3 d.nodes.length (aB d.nodes),tree 18 d.parts.length (aB d.parts),tree 6 d.seams.length (aB d.seams),tree 5 q2.length (aB q2),tree 3 d.needs.length (aB d.needs)] true)),(1,some (AObj.cells [nS,nS,nS,nS] true)),(2,some (AObj.cells [tree 1 n0 A0,tree 1 n1 A1,tree 1 n2 A2,Value.slice (some (Addr.mk 3 0 none)) 1 1] true)),(3,some (AObj.cells [vs q1] true))] 4)))) (True /\ 4 <= 4 /\ (T4 (True)) /\ Post (Value.agg #[tree 1 n0 A0,tree 1 n1 A1,tree 1 n2 A2,tree 1 0 #[]])))):=by kernel_rfl
theorem zL (d : Design6) (n0 : Nat) (A0 : Array Value) (n1 : Nat) (A1 : Array Value) (n2 : Nat) (A2 : Array Value) (k : Int) (j : Nat) (l : List Value) (H : HT) (Post : PV) : bX Tryz.prog aI 180 [aC d] nG 15 (stV [(1,some (pt 0)),(2,some (pt 1)),(3,some (pt 2)),(7,some (vi k))] [(0,some (.cells (aG d) true)),(1,some (.cells kI true)),(2,some (.cells [tree 1 n0 A0,tree 1 n1 A1,tree 1 n2 A2,.slice (some ⟨3,0,none⟩) j 1] true)),(3,some (.cells l true))] 4) H Post = (let q3:=(toI (vi 0) <= 3 /\ toI (vi 3) < (↑4 : Int)); let q2:=d.packs; let q1:=toS (aA (aB q2) k.toNat 0); T4 (True /\ pIf (decide (k < (↑q2.length : Int))) (q3 /\ T4 ((0 <= k /\ k < (↑q2.length : Int)) /\ True /\ aA (aB q2) k.toNat 0 = vs q1 /\ True /\ 1 <= 1 /\ j + 1 <= 33554432 /\ true = true /\ 1 = 1 /\ 0 + j * 1 = length l /\ True /\ q3 /\ 4 <= 4 /\ T4 (True /\ (T2 (True /\ NLs (l ++ [vs q1]) /\ True)) /\ HP H 180 15 (stV [(1,some (pt 0)),(2,some (pt 1)),(3,some (pt 2)),(7,some (vi (wrap i64 (k + 1))))] [(0,some (AObj.cells [vs d.hull,tree 3 d.nodes.length (aB d.nodes),tree 18 d.parts.length (aB d.parts),tree 6 d.seams.length (aB d.seams),tree 5 q2.length (aB q2),tree 3 d.needs.length (aB d.needs)] true)),(1,some (AObj.cells [nS,nS,nS,nS] true)),(2,some (AObj.cells [tree 1 n0 A0,tree 1 n1 A1,tree 1 n2 A2,Value.slice (some (Addr.mk 3 0 none)) (j + 1) 1] true)),(3,some (AObj.cells (l ++ [vs q1]) true))] 4)))) (True /\ 4 <= 4 /\ (T2 (True /\ (0 + j * 1 <= length l /\ NLs l) /\ True)) /\ Post (Value.agg #[tree 1 n0 A0,tree 1 n1 A1,tree 1 n2 A2,tree 1 j (bP 1 j (List.drop 0 l))])))):=by kernel_rfl
end Go.Proofs.YtngginofamlkkaaGreatDoor
