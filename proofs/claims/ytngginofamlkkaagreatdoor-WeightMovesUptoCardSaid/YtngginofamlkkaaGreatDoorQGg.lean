/-
  Put together out of several texts, each in its own namespace's block. Conditions: as each theorem states them.
-/
import Derived.Test.YtngginofamlkkaaGreatDoorQSp
import Derived.Test.YtngginofamlkkaaGreatDoorQGc
import Derived.Test.YtngginofamlkkaaGreatDoorQSm
import Derived.Shelf.Slices.Clone
namespace Go.Proofs.YtngginofamlkkaaGreatDoor.PlaneG
def m6 (n : Nat) (p : Nat -> I2) : Int:=isum n fun j=>((p j).x + (p (j + 1)).x) * ((p j).x * (p (j + 1)).y - (p (j + 1)).x * (p j).y)
theorem aR7 {n : Nat} {p : Nat -> I2} (per : ∀ i,p (i + n) = p i) (M : Int) : aF5 n (fun i=>shp M (p i)) = ((M * m6 n p : Int) : Rat):=by
 have e : aF5 n (fun i=>shp M (p i)) = ((isum n (fun j=>(lvl M (p (j + 1)) - lvl M (p j)) * ((p j).x * (p j).x + (p j).x * (p (j + 1)).x + (p (j + 1)).x * (p (j + 1)).x)) : Int) : Rat):=by
  rw [← iV]
  unfold aF5
  refine bJ fun j _=>?_
  simp only [shp,Rat.intCast_mul,Rat.intCast_add,Rat.intCast_sub]
 rw [e]
 congr 1
 have e1 : ∀ j,(lvl M (p (j + 1)) - lvl M (p j)) * ((p j).x * (p j).x + (p j).x * (p (j + 1)).x + (p (j + 1)).x * (p (j + 1)).x) = M * (((p j).x + (p (j + 1)).x) * ((p j).x * (p (j + 1)).y - (p (j + 1)).x * (p j).y)) + ((fun i=>M * ((p i).x * (p i).x * (p i).y) - (p i).x * (p i).x * (p i).x) (j + 1) - (fun i=>M * ((p i).x * (p i).x * (p i).y) - (p i).x * (p i).x * (p i).x) j):=fun j=>by
  unfold lvl
  grind
 have tel:=mL n fun i=>M * ((p i).x * (p i).x * (p i).y) - (p i).x * (p i).x * (p i).x
 have h0:=per 0
 rw [Nat.zero_add] at h0
 simp only [h0,Int.sub_self] at tel
 rw [cM fun j _=>e1 j,vW]
 simp only
 rw [tel,iL]
 unfold m6
 omega
theorem odd_x {n : Nat} {p : Nat -> I2} (per : p n = p 0) {q : I2} (h : oddI n p q = true) : (∃ j,q.x <= (p j).x) /\ ∃ j,(p j).x <= q.x:=by
 have ho:=(lQ p q n).1 h
 constructor
 ·refine Classical.byContradiction fun hn=>?_
  have hx : ∀ j,(p j).x < q.x:=fun j=>by
   rcases Int.lt_or_le (p j).x q.x with h | h
   ·exact h
   ·exact absurd ⟨j,h⟩ hn
  have z : pR n p q = 0:=by
   unfold pR
   rw [cM (g:=fun _=>0) fun j _=>?_,lR]
   have x1:=hx j
   have x2:=hx (j + 1)
   have e : cri (p j) (p (j + 1)) q = (q.y - (p j).y) * ((p (j + 1)).x - q.x) + ((p (j + 1)).y - q.y) * ((p j).x - q.x):=by unfold cri; grind
   unfold wtI
   by_cases c1 : (p j).y <= q.y /\ q.y < (p (j + 1)).y
   ·have a1:=Int.mul_nonpos_of_nonneg_of_nonpos (show 0 <= q.y - (p j).y by omega) (show (p (j + 1)).x - q.x <= 0 by omega)
    have a2:=Int.mul_nonpos_of_nonneg_of_nonpos (show 0 <= (p (j + 1)).y - q.y by omega) (show (p j).x - q.x <= 0 by omega)
    rw [if_neg (by omega),if_neg (by omega)]
   ·by_cases c2 : (p (j + 1)).y <= q.y /\ q.y < (p j).y
    ·have a1:=Int.mul_nonneg_of_nonpos_of_nonpos (show q.y - (p j).y <= 0 by omega) (show (p (j + 1)).x - q.x <= 0 by omega)
     have a2:=Int.mul_nonneg_of_nonpos_of_nonpos (show (p (j + 1)).y - q.y <= 0 by omega) (show (p j).x - q.x <= 0 by omega)
     rw [if_neg (by omega),if_neg (by omega)]
    ·rw [if_neg (by omega),if_neg (by omega)]
  omega
 ·refine Classical.byContradiction fun hn=>?_
  have hx : ∀ j,q.x < (p j).x:=fun j=>by
   rcases Int.lt_or_le q.x (p j).x with h | h
   ·exact h
   ·exact absurd ⟨j,h⟩ hn
  have z : pR n p q = 0:=by
   have e : ∀ j,wtI (p j) (p (j + 1)) q = (fun i=>if (p i).y <= q.y then (-1 : Int) else 0) (j + 1) - (fun i=>if (p i).y <= q.y then (-1 : Int) else 0) j:=fun j=>by
    have x1:=hx j
    have x2:=hx (j + 1)
    have e : cri (p j) (p (j + 1)) q = (q.y - (p j).y) * ((p (j + 1)).x - q.x) + ((p (j + 1)).y - q.y) * ((p j).x - q.x):=by unfold cri; grind
    unfold wtI
    simp only
    by_cases c1 : (p j).y <= q.y <;> by_cases c2 : (p (j + 1)).y <= q.y
    ·rw [if_neg (by omega),if_neg (by omega),if_pos c2,if_pos c1]; rfl
    ·have a1:=Int.mul_nonneg (show 0 <= q.y - (p j).y by omega) (show 0 <= (p (j + 1)).x - q.x by omega)
     have a2:=Int.mul_pos (show 0 < (p (j + 1)).y - q.y by omega) (show 0 < (p j).x - q.x by omega)
     rw [if_pos (by omega),if_neg c2,if_pos c1]; rfl
    ·have a1:=Int.mul_neg_of_neg_of_pos (show q.y - (p j).y < 0 by omega) (show 0 < (p (j + 1)).x - q.x by omega)
     have a2:=Int.mul_nonpos_of_nonpos_of_nonneg (show (p (j + 1)).y - q.y <= 0 by omega) (show 0 <= (p j).x - q.x by omega)
     rw [if_neg (by omega),if_pos (by omega),if_pos c2,if_neg c1]; rfl
    ·rw [if_neg (by omega),if_neg (by omega),if_neg c2,if_neg c1]; rfl
   have tel:=mL n fun i=>if (p i).y <= q.y then (-1 : Int) else 0
   simp only [per,Int.sub_self] at tel
   unfold pR
   rw [cM fun j _=>e j]
   exact tel
  omega
theorem Holes.centre {N : Int} {m : Nat} {n : Nat -> Nat} {p : Nat -> Nat -> I2} (h : Holes N m n p) {L U : Int} (hL : ∀ s,L <= (p 0 s).x) (hU : ∀ s,(p 0 s).x <= U) :
  3 * L * isum m (fun i=>a2 (n i) (p i)) <= isum m (fun i=>m6 (n i) (p i)) /\ isum m (fun i=>m6 (n i) (p i)) <= 3 * U * isum m fun i=>a2 (n i) (p i):=by
 have hN : 0 <= N:=by have:=h.bd 0 0; unfold Bx at this; omega
 have hx : ∀ i,i < m -> ∀ s,L <= (p i s).x /\ (p i s).x <= U:=fun i hi s=>by
  by_cases h0 : i = 0
  ·subst h0; exact ⟨hL s,hU s⟩
  ·obtain ⟨⟨j,hj⟩,k,hk⟩:=odd_x (by have:=(h.simp 0 h.m0).per 0; rwa [Nat.zero_add] at this) (h.inn i (by omega) hi s)
   have:=hL k
   have:=hU j
   omega
 have hl : ∀ i s,-(2 * N + 1) * N - N <= lvl (2 * N + 1) (p i s) /\ lvl (2 * N + 1) (p i s) <= (2 * N + 1) * N + N:=fun i s=>by
  obtain ⟨h1,h2,h3,h4⟩:=h.bd i s
  have a1:=Int.mul_le_mul_of_nonneg_left h3 (show 0 <= 2 * N + 1 by omega)
  have a2:=Int.mul_le_mul_of_nonneg_left h4 (show 0 <= 2 * N + 1 by omega)
  have a3 : (2 * N + 1) * -N = -(2 * N + 1) * N:=by grind
  unfold lvl
  omega
 have hp:=h.family.centre (H:=fun i s=>lvl (2 * N + 1) (p i s)) (fun _ _=>rfl) (lo:=-(2 * N + 1) * N - N) (K:=(2 * ((2 * N + 1) * N + N)).toNat) (fun i s=>(hl i s).1) (fun i s=>by
  have:=hl i s
  have e : -(2 * N + 1) * N = -((2 * N + 1) * N):=Int.neg_mul _ _
  have nn:=Int.mul_nonneg (show 0 <= 2 * N + 1 by omega) hN
  generalize (2 * N + 1) * N = z at *
  omega) (L:=(L : Rat)) (U:=(U : Rat)) (fun i hi s=>by
   obtain ⟨h1,h2⟩:=hx i hi s
   exact ⟨Rat.intCast_le_intCast.2 h1,Rat.intCast_le_intCast.2 h2⟩)
 rw [bJ fun i hi=>vY (h.simp i hi).per (2 * N + 1),bJ fun i hi=>aR7 (h.simp i hi).per (2 * N + 1),iV m fun i=>(2 * N + 1) * a2 (n i) (p i),iV m fun i=>(2 * N + 1) * m6 (n i) (p i),iL,iL] at hp
 obtain ⟨h1,h2⟩:=hp
 have c1 : ((3 * L * ((2 * N + 1) * isum m (fun i=>a2 (n i) (p i))) : Int) : Rat) <= (((2 * N + 1) * isum m (fun i=>m6 (n i) (p i)) : Int) : Rat):=by
  have e : ((3 * L * ((2 * N + 1) * isum m (fun i=>a2 (n i) (p i))) : Int) : Rat) = 3 * (L : Rat) * (((2 * N + 1) * isum m (fun i=>a2 (n i) (p i)) : Int) : Rat):=by
   rw [Rat.intCast_mul,Rat.intCast_mul]
   rfl
  rw [e]; exact h1
 have c2 : (((2 * N + 1) * isum m (fun i=>m6 (n i) (p i)) : Int) : Rat) <= ((3 * U * ((2 * N + 1) * isum m (fun i=>a2 (n i) (p i))) : Int) : Rat):=by
  have e : ((3 * U * ((2 * N + 1) * isum m (fun i=>a2 (n i) (p i))) : Int) : Rat) = 3 * (U : Rat) * (((2 * N + 1) * isum m (fun i=>a2 (n i) (p i)) : Int) : Rat):=by
   rw [Rat.intCast_mul,Rat.intCast_mul]
   rfl
  rw [e]; exact h2
 have c1:=Rat.intCast_le_intCast.1 c1
 have c2:=Rat.intCast_le_intCast.1 c2
 generalize isum m (fun i=>a2 (n i) (p i)) = A at *
 generalize isum m (fun i=>m6 (n i) (p i)) = B at *
 have e1 : 3 * L * ((2 * N + 1) * A) = (2 * N + 1) * (3 * L * A):=by grind
 have e2 : 3 * U * ((2 * N + 1) * A) = (2 * N + 1) * (3 * U * A):=by grind
 rw [e1] at c1
 rw [e2] at c2
 exact ⟨Int.le_of_mul_le_mul_left c1 (by omega),Int.le_of_mul_le_mul_left c2 (by omega)⟩
end Go.Proofs.YtngginofamlkkaaGreatDoor.PlaneG

namespace Go.Proofs.YtngginofamlkkaaGreatDoor.PlaneG
def hxd (u v : Q2) (y : Rat) : Rat:=(dir u v y : Rat) * (y * X u v y)
theorem aHV {u v : Q2} {a b lo : Int} (hu : u.h = a) (hv : v.h = b) (hab : a < b) (hlo : lo <= a) (m : Nat) :
  bO m (fun k=>6 * q3 (hxd u v) (lo + k)) = 6 * u.x * a * cZ a b lo m + 3 * (u.x + (v.x - u.x) / (b - a) * a) * cZ a b lo m * cZ a b lo m + 2 * ((v.x - u.x) / (b - a)) * cZ a b lo m * cZ a b lo m * cZ a b lo m:=by
 induction m with
 | zero =>
  have : cZ a b lo 0 = 0:=by unfold cZ; rw [if_pos (by omega)]
  rw [this]
  show (0 : Rat) = _
  grind
 | succ m ih =>
  show bO m _ + 6 * q3 (hxd u v) (lo + m) = _
  rw [ih]
  have hs : ∀ r : Rat,0 < r -> r < 1 -> dir u v (lvr r (lo + m)) = if a <= lo + m /\ lo + m < b then 1 else 0:=fun r h0 h1=>by
   rw [nU hu hv h0 h1]
   by_cases h : a <= lo + m /\ lo + m < b
   ·rw [if_pos h,if_pos h]
   ·rw [if_neg h,if_neg h,if_neg (by omega)]
  unfold q3 hxd
  simp only [hs _ r1.1 r1.2,hs _ r2.1 r2.2,hs _ r3.1 r3.2]
  by_cases h1 : lo + m + 1 <= a
  ·have e1 : cZ a b lo m = 0:=by unfold cZ; rw [if_pos (by omega)]
   have e2 : cZ a b lo (m + 1) = 0:=by unfold cZ; rw [if_pos (by omega)]
   rw [e1,e2,if_neg (by omega)]
   grind
  ·by_cases h2 : b <= lo + m
   ·have e1 : cZ a b lo m = b - a:=by unfold cZ; rw [if_neg (by omega),if_pos (by omega)]
    have e2 : cZ a b lo (m + 1) = b - a:=by unfold cZ; rw [if_neg (by omega),if_pos (by omega)]
    rw [e1,e2,if_neg (by omega)]
    grind
   ·have e1 : cZ a b lo m = lo + m - a:=by
     unfold cZ
     by_cases h3 : lo + (m : Int) <= a
     ·rw [if_pos h3]; omega
     ·rw [if_neg h3,if_neg (by omega)]
    have e2 : cZ a b lo (m + 1) = lo + m - a + 1:=by
     unfold cZ
     rw [if_neg (by omega)]
     by_cases h3 : b <= lo + ((m + 1 : Nat) : Int)
     ·rw [if_pos h3]; omega
     ·rw [if_neg h3]; omega
    rw [e1,e2,if_pos (by omega)]
    generalize hz : lo + (m : Int) = z
    unfold X lvr
    rw [hu,hv]
    have d1 : ∀ t : Rat,(v.x - u.x) * (t / ((b : Rat) - a)) = (v.x - u.x) / (b - a) * t:=fun t=>by
     rw [Rat.div_def,Rat.div_def]; grind
    simp only [d1]
    generalize (v.x - u.x) / ((b : Rat) - a) = k
    simp only [Rat.intCast_add,Rat.intCast_sub,Rat.intCast_one]
    grind
theorem aCX {u v : Q2} {a b lo : Int} {K : Nat} (hu : u.h = a) (hv : v.h = b) (hab : a < b) (hlo : lo <= a) (hK : b <= lo + K) :
  bO K (fun k=>6 * q3 (hxd u v) (lo + k)) = (v.h - u.h) * (2 * u.x * u.h + u.x * v.h + v.x * u.h + 2 * v.x * v.h):=by
 rw [aHV hu hv hab hlo,hu,hv]
 have e : cZ a b lo K = b - a:=by unfold cZ; rw [if_neg (by omega),if_pos hK]
 have hn : (b : Rat) - a ≠ 0:=by
  have : (a : Rat) < b:=by exact_mod_cast hab
  grind
 rw [e,Rat.intCast_sub]
 have d1 : (v.x - u.x) / ((b : Rat) - a) * ((b : Rat) - a) = v.x - u.x:=by
  rw [Rat.div_def,Rat.mul_assoc,Rat.inv_mul_cancel _ hn,Rat.mul_one]
 generalize (v.x - u.x) / ((b : Rat) - a) = k at *
 have hk : v.x = u.x + k * (b - a):=by grind
 rw [hk]
 grind
theorem aPP {u v : Q2} (h : u.h ≠ v.h) (y : Rat) : hxd u v y = - hxd v u y:=by
 unfold hxd
 rw [aDK u v,aB6 h,Rat.intCast_neg]
 grind
theorem aJt {u v : Q2} {a b lo : Int} {K : Nat} (hu : u.h = a) (hv : v.h = b) (hab : a ≠ b) (ha : lo <= a) (hb : lo <= b) (hKa : a <= lo + K) (hKb : b <= lo + K) :
  bO K (fun k=>6 * q3 (hxd u v) (lo + k)) = (v.h - u.h) * (2 * u.x * u.h + u.x * v.h + v.x * u.h + 2 * v.x * v.h):=by
 rcases Int.lt_or_lt_of_ne hab with h | h
 ·exact aCX hu hv h ha hKb
 ·have hne : u.h ≠ v.h:=by
   rw [hu,hv]
   intro e
   have : a = b:=by exact_mod_cast e
   exact hab this
  have e:=aCX hv hu h hb hKa
  have : bO K (fun k=>6 * q3 (hxd u v) (lo + k)) = bO K (fun k=>- (6 * q3 (hxd v u) (lo + k))):=bJ fun k _=>by
   unfold q3
   simp only [aPP hne]
   grind
  rw [this,rB,e]
  grind
theorem aPx (P : Nat -> Q2) (y : Rat) (n : Nat) : y * cW (cl P y n) = bO n (fun j=>hxd (P j) (P (j + 1)) y):=by
 rw [pC,← eH]
 refine bJ fun j _=>?_
 unfold hxd
 grind
def aFV (n : Nat) (P : Nat -> Q2) : Rat:=bO n (fun j=>((P (j + 1)).h - (P j).h) * (2 * (P j).x * (P j).h + (P j).x * (P (j + 1)).h + (P (j + 1)).x * (P j).h + 2 * (P (j + 1)).x * (P (j + 1)).h))
theorem aFU {n : Nat} {P : Nat -> Q2} (c : Contour n P) {H : Nat -> Int} (hH : ∀ j,(P j).h = H j) {lo : Int} {K : Nat} (h1 : ∀ j,lo <= H j) (h2 : ∀ j,H j <= lo + K) :
  aFV n P = bO K (fun k=>6 * q3 (fun y=>y * cW (cl P y n)) (lo + k)):=by
 have n3:=c.n3
 have e : ∀ j,j < n -> ((P (j + 1)).h - (P j).h) * (2 * (P j).x * (P j).h + (P j).x * (P (j + 1)).h + (P (j + 1)).x * (P j).h + 2 * (P (j + 1)).x * (P (j + 1)).h) = bO K (fun k=>6 * q3 (hxd (P j) (P (j + 1))) (lo + k)):=fun j _ =>
  (aJt (hH j) (hH (j + 1)) (fun e=>c.lev j (j + 1) (by omega) (by omega) (by rw [hH,hH,e])) (h1 j) (h1 (j + 1)) (h2 j) (h2 (j + 1))).symm
 unfold aFV
 rw [bJ e,gV]
 refine bJ fun k _=>?_
 have e2 : (fun y=>y * cW (cl P y n)) = fun y=>bO n fun j=>hxd (P j) (P (j + 1)) y:=by funext y; exact aPx P y n
 rw [e2,lJ]
 exact eH 6 (fun j=>q3 (hxd (P j) (P (j + 1))) (lo + k)) n
theorem Family.centreY {m : Nat} {N : Nat -> Nat} {P : Nat -> Nat -> Q2} (F : Family m N P) {H : Nat -> Nat -> Int} (hH : ∀ i j,(P i j).h = H i j) {lo : Int} {K : Nat} (h1 : ∀ i j,lo <= H i j) (h2 : ∀ i j,H i j <= lo + K) :
  3 * (lo : Rat) * bO m (fun i=>lC (N i) (P i)) <= bO m (fun i=>aFV (N i) (P i)) /\ bO m (fun i=>aFV (N i) (P i)) <= 3 * ((lo + K : Int) : Rat) * bO m fun i=>lC (N i) (P i):=by
 have gen : ∀ (z : Int) (r : Rat),0 < r -> r < 1 -> ∀ i j,i < m -> (P i j).h ≠ lvr r z:=fun z r r0 r1 i j _ e=>aNx r0 r1 (H i j) z (by rw [← hH]; exact e)
 have ea : bO m (fun i=>lC (N i) (P i)) = bO K fun k=>2 * q3 (fun y=>cW (fam N P y m)) (lo + k):=by
  rw [bJ fun i hi=>kG (F.con i hi) (hH i) (h1 i) (h2 i),gV]
  refine bJ fun k _=>?_
  rw [eH]
  congr 1
  have e2 : (fun y=>cW (fam N P y m)) = fun y=>bO m fun i=>cW (cl (P i) y (N i)):=by funext y; exact qZ N P y m
  rw [e2,lJ]
  refine bJ fun i _=>?_
  have e3 : (fun y=>cW (cl (P i) y (N i))) = fun y=>bO (N i) fun j=>(dir (P i j) (P i (j + 1)) y : Rat) * X (P i j) (P i (j + 1)) y:=by funext y; exact pC (P i) y (N i)
  rw [e3,lJ,pC]
  exact (bJ fun j _=>aOb (hH i j) (hH i (j + 1)) (lo + k)).symm
 have em : bO m (fun i=>aFV (N i) (P i)) = bO K fun k=>6 * q3 (fun y=>y * cW (fam N P y m)) (lo + k):=by
  rw [bJ fun i hi=>aFU (F.con i hi) (hH i) (h1 i) (h2 i),gV]
  refine bJ fun k _=>?_
  rw [eH]
  congr 1
  have e2 : (fun y=>y * cW (fam N P y m)) = fun y=>bO m fun i=>y * cW (cl (P i) y (N i)):=by funext y; rw [qZ,eH]
  rw [e2,lJ]
 have nn : ∀ (z : Int) (r : Rat),0 < r -> r < 1 -> 0 <= cW (fam N P (lvr r z) m):=fun z r r0 r1=>(iK _ _ (Nat.le_refl _) (F.alt (gen z r r0 r1)) (F.total (gen z r r0 r1))).1
 rw [ea,em,← eH,← eH]
 have cz : ∀ k : Nat,((lo + k : Int) : Rat) = (lo : Rat) + (k : Rat):=fun k=>by rw [Rat.intCast_add]; rfl
 constructor
 ·refine uX K fun k _=>?_
  have : q3 (fun y=>(lo : Rat) * cW (fam N P y m)) (lo + k) <= q3 (fun y=>y * cW (fam N P y m)) (lo + k):=aIX fun r r0 r1=>by
   have h:=nn (lo + k) r r0 r1
   have hk : (lo : Rat) <= ((lo + k : Int) : Rat):=Rat.intCast_le_intCast.2 (by omega)
   have h3 : (0 : Rat) <= lvr r (lo + k) - lo:=by unfold lvr; grind
   have:=Rat.mul_nonneg h3 h
   grind
  rw [aDv] at this
  grind
 ·refine uX K fun k hk=>?_
  have : q3 (fun y=>y * cW (fam N P y m)) (lo + k) <= q3 (fun y=>((lo + K : Int) : Rat) * cW (fam N P y m)) (lo + k):=aIX fun r r0 r1=>by
   have h:=nn (lo + k) r r0 r1
   have hk : ((lo + k + 1 : Int) : Rat) <= ((lo + K : Int) : Rat):=Rat.intCast_le_intCast.2 (by omega)
   rw [Rat.intCast_add] at hk
   have e1 : ((1 : Int) : Rat) = 1:=rfl
   rw [e1] at hk
   have h3 : (0 : Rat) <= ((lo + K : Int) : Rat) - lvr r (lo + k):=by unfold lvr; grind
   have:=Rat.mul_nonneg h3 h
   grind
  rw [aDv] at this
  grind
def m6y (n : Nat) (p : Nat -> I2) : Int:=isum n fun j=>((p j).y + (p (j + 1)).y) * ((p j).x * (p (j + 1)).y - (p (j + 1)).x * (p j).y)
theorem aPB {n : Nat} {p : Nat -> I2} (per : ∀ i,p (i + n) = p i) (M : Int) : aFV n (fun i=>shp M (p i)) = ((M * M * m6y n p - M * m6 n p : Int) : Rat):=by
 have e : aFV n (fun i=>shp M (p i)) = ((isum n (fun j=>(lvl M (p (j + 1)) - lvl M (p j)) * (2 * (p j).x * lvl M (p j) + (p j).x * lvl M (p (j + 1)) + (p (j + 1)).x * lvl M (p j) + 2 * (p (j + 1)).x * lvl M (p (j + 1)))) : Int) : Rat):=by
  rw [← iV]
  unfold aFV
  refine bJ fun j _=>?_
  simp only [shp,Rat.intCast_mul,Rat.intCast_add,Rat.intCast_sub]
  rfl
 rw [e]
 congr 1
 have e1 : ∀ j,(lvl M (p (j + 1)) - lvl M (p j)) * (2 * (p j).x * lvl M (p j) + (p j).x * lvl M (p (j + 1)) + (p (j + 1)).x * lvl M (p j) + 2 * (p (j + 1)).x * lvl M (p (j + 1))) = (M * M * (((p j).y + (p (j + 1)).y) * ((p j).x * (p (j + 1)).y - (p (j + 1)).x * (p j).y)) + (-M) * (((p j).x + (p (j + 1)).x) * ((p j).x * (p (j + 1)).y - (p (j + 1)).x * (p j).y))) + ((fun i=>2 * M * M * ((p i).x * (p i).y * (p i).y) - 4 * M * ((p i).x * (p i).x * (p i).y) + 2 * ((p i).x * (p i).x * (p i).x)) (j + 1) - (fun i=>2 * M * M * ((p i).x * (p i).y * (p i).y) - 4 * M * ((p i).x * (p i).x * (p i).y) + 2 * ((p i).x * (p i).x * (p i).x)) j):=fun j=>by
  unfold lvl
  grind
 have tel:=mL n fun i=>2 * M * M * ((p i).x * (p i).y * (p i).y) - 4 * M * ((p i).x * (p i).x * (p i).y) + 2 * ((p i).x * (p i).x * (p i).x)
 have h0:=per 0
 rw [Nat.zero_add] at h0
 simp only [h0,Int.sub_self] at tel
 rw [cM fun j _=>e1 j,vW]
 simp only
 rw [tel,vW,iL,iL]
 unfold m6y m6
 rw [Int.neg_mul]
 omega
theorem Holes.centreY {N : Int} {m : Nat} {n : Nat -> Nat} {p : Nat -> Nat -> I2} (h : Holes N m n p) :
  -(3 * (N + 1) * isum m (fun i=>a2 (n i) (p i))) <= isum m (fun i=>m6y (n i) (p i)) /\ isum m (fun i=>m6y (n i) (p i)) <= 3 * (N + 1) * isum m fun i=>a2 (n i) (p i):=by
 have hN : 0 <= N:=by have:=h.bd 0 0; unfold Bx at this; omega
 have hl : ∀ i s,-(2 * N + 1) * N - N <= lvl (2 * N + 1) (p i s) /\ lvl (2 * N + 1) (p i s) <= (2 * N + 1) * N + N:=fun i s=>by
  obtain ⟨h1,h2,h3,h4⟩:=h.bd i s
  have a1:=Int.mul_le_mul_of_nonneg_left h3 (show 0 <= 2 * N + 1 by omega)
  have a2:=Int.mul_le_mul_of_nonneg_left h4 (show 0 <= 2 * N + 1 by omega)
  have a3 : (2 * N + 1) * -N = -(2 * N + 1) * N:=by grind
  unfold lvl
  omega
 have nn:=Int.mul_nonneg (show 0 <= 2 * N + 1 by omega) hN
 have hp:=h.family.centreY (H:=fun i s=>lvl (2 * N + 1) (p i s)) (fun _ _=>rfl) (lo:=-(2 * N + 1) * N - N) (K:=(2 * ((2 * N + 1) * N + N)).toNat) (fun i s=>(hl i s).1) (fun i s=>by
  have:=hl i s
  have e : -(2 * N + 1) * N = -((2 * N + 1) * N):=Int.neg_mul _ _
  generalize (2 * N + 1) * N = z at *
  omega)
 have hk : -(2 * N + 1) * N - N + (((2 * ((2 * N + 1) * N + N)).toNat : Nat) : Int) = (2 * N + 1) * N + N:=by
  have e : -(2 * N + 1) * N = -((2 * N + 1) * N):=Int.neg_mul _ _
  generalize (2 * N + 1) * N = z at *
  omega
 rw [hk] at hp
 have hc:=h.centre (L:=-N) (U:=N) (fun s=>(h.bd 0 s).1) (fun s=>(h.bd 0 s).2.1)
 have ha:=h.area
 rw [bJ fun i hi=>vY (h.simp i hi).per (2 * N + 1),bJ fun i hi=>aPB (h.simp i hi).per (2 * N + 1),iV m fun i=>(2 * N + 1) * a2 (n i) (p i),iV m fun i=>(2 * N + 1) * (2 * N + 1) * m6y (n i) (p i) - (2 * N + 1) * m6 (n i) (p i),iL,uI,iL,iL] at hp
 obtain ⟨h1,h2⟩:=hp
 generalize isum m (fun i=>a2 (n i) (p i)) = A at *
 generalize isum m (fun i=>m6 (n i) (p i)) = B at *
 generalize isum m (fun i=>m6y (n i) (p i)) = C at *
 have c1 : ((3 * (-(2 * N + 1) * N - N) * ((2 * N + 1) * A) : Int) : Rat) <= (((2 * N + 1) * (2 * N + 1) * C - (2 * N + 1) * B : Int) : Rat):=by
  have e : ((3 * (-(2 * N + 1) * N - N) * ((2 * N + 1) * A) : Int) : Rat) = 3 * ((-(2 * N + 1) * N - N : Int) : Rat) * (((2 * N + 1) * A : Int) : Rat):=by
   rw [Rat.intCast_mul,Rat.intCast_mul]
   rfl
  rw [e]; exact h1
 have c2 : (((2 * N + 1) * (2 * N + 1) * C - (2 * N + 1) * B : Int) : Rat) <= ((3 * ((2 * N + 1) * N + N) * ((2 * N + 1) * A) : Int) : Rat):=by
  have e : ((3 * ((2 * N + 1) * N + N) * ((2 * N + 1) * A) : Int) : Rat) = 3 * (((2 * N + 1) * N + N : Int) : Rat) * (((2 * N + 1) * A : Int) : Rat):=by
   rw [Rat.intCast_mul,Rat.intCast_mul]
   rfl
  rw [e]; exact h2
 have c1:=Rat.intCast_le_intCast.1 c1
 have c2:=Rat.intCast_le_intCast.1 c2
 obtain ⟨b1,b2⟩:=hc
 have hM : 0 < 2 * N + 1:=by omega
 -- M (M C) <= M (3 (M N + N) A + B),B <= 3 N A
 have na:=Int.mul_nonneg hN (show 0 <= A by omega)
 have s1 : (2 * N + 1) * (3 * (-(2 * N + 1) * N - N) * A) <= (2 * N + 1) * ((2 * N + 1) * C - B):=by
  have e1 : (2 * N + 1) * (3 * (-(2 * N + 1) * N - N) * A) = 3 * (-(2 * N + 1) * N - N) * ((2 * N + 1) * A):=by grind
  have e2 : (2 * N + 1) * ((2 * N + 1) * C - B) = (2 * N + 1) * (2 * N + 1) * C - (2 * N + 1) * B:=by grind
  omega
 have s2 : (2 * N + 1) * ((2 * N + 1) * C - B) <= (2 * N + 1) * (3 * ((2 * N + 1) * N + N) * A):=by
  have e1 : (2 * N + 1) * (3 * ((2 * N + 1) * N + N) * A) = 3 * ((2 * N + 1) * N + N) * ((2 * N + 1) * A):=by grind
  have e2 : (2 * N + 1) * ((2 * N + 1) * C - B) = (2 * N + 1) * (2 * N + 1) * C - (2 * N + 1) * B:=by grind
  omega
 have s1:=Int.le_of_mul_le_mul_left s1 hM
 have s2:=Int.le_of_mul_le_mul_left s2 hM
 constructor
 ·refine Int.le_of_mul_le_mul_left (a:=2 * N + 1) ?_ hM
  have e3 : (2 * N + 1) * -(3 * (N + 1) * A) = 3 * (-(2 * N + 1) * N - N) * A + 3 * -N * A - 3 * A:=by grind
  omega
 ·refine Int.le_of_mul_le_mul_left (a:=2 * N + 1) ?_ hM
  have e3 : (2 * N + 1) * (3 * (N + 1) * A) = 3 * ((2 * N + 1) * N + N) * A + 3 * N * A + 3 * A:=by grind
  omega
end Go.Proofs.YtngginofamlkkaaGreatDoor.PlaneG

noncomputable section
namespace Go.Proofs.YtngginofamlkkaaGreatDoor
open Go Go.RowKit
open Int (tmod toNat toNat_natCast)
open Go.IntKind (i64 wrap)
open List (getElem_mem length map_cons mem_cons not_mem_nil)
open Nat (lt_or_ge)
set_option maxRecDepth 100000
set_option maxHeartbeats 8000000
structure ShapeOk (o : List Pt) (hs : List (List Pt)) : Prop where
 few : hs.length <= 8
 out : aO o = 0
 pos : 0 < dN o
 hole : ∀ h ∈ hs,aO h = 0 /\ dN h < 0 /\ gF h o
 apt : hs.Pairwise fun a b=>gC b a
theorem eF {f : Nat -> Int} : ∀ {n : Nat},eT f n = 0 ↔ ∀ i,i < n -> f i = 0
 | 0=>⟨fun _ i hi=>by omega,fun _=>rfl⟩
 | n + 1=>by
  unfold eT
  have ih:=eF (f:=f) (n:=n)
  constructor
  ·intro h
   split at h
   ·exact absurd h (by assumption)
   ·rename_i h0
    have h0 : eT f n = 0:=by omega
    intro i hi
    rcases lt_or_ge i n with h' | h'
    ·exact ih.1 h0 i h'
    ·rw [show i = n by omega]; exact h
  ·intro h
   rw [if_neg (by rw [ih.2 fun i hi=>h i (by omega)]; exact fun h=>h rfl)]
   exact h n (by omega)
theorem dC {α : Type} {l : List α} {d : α} {i : Nat} (h : i < l.length) : l.getD i d = l[i]:=by
 rw [List.getD_eq_getElem?_getD,List.getElem?_eq_getElem h]; rfl
theorem jO {o : List Pt} {hs : List (List Pt)} {i : Nat} : lF o hs i = 0 ↔ aO (hs.getD i []) = 0 /\ dN (hs.getD i []) < 0 /\ gF (hs.getD i []) o /\ ∀ k,k < i -> gC (hs.getD i []) (hs.getD k []):=by
 unfold lF
 by_cases h0 : aO (hs.getD i []) = 0
 ·have hn : ¬ (aO (hs.getD i []) ≠ 0):=fun h=>h h0
  have ha : cE (hs.getD i []) = dN (hs.getD i []):=by unfold cE; rw [if_pos h0]
  rw [if_neg hn,ha]
  constructor
  ·intro h
   split at h
   ·cases h
   rename_i hh
   refine ⟨h0,?_,?_,fun k hk=>?_⟩
   ·rcases Int.lt_or_le (dN (hs.getD i [])) 0 with h1 | h1
    ·exact h1
    ·exact absurd (.inl h1) hh
   ·exact Decidable.byContradiction fun h1=>hh (.inr (.inl h1))
   ·exact Decidable.byContradiction fun h1=>hh (.inr (.inr ⟨k,hk,h1⟩))
  ·rintro ⟨_,h1,h2,h3⟩
   rw [if_neg]
   rintro (h | h | ⟨k,hk,h⟩)
   ·omega
   ·exact h h2
   ·exact h (h3 k hk)
 ·rw [if_pos h0]
  exact ⟨fun h=>absurd h h0,fun h=>absurd h.1 h0⟩
theorem cX (o : List Pt) (hs : List (List Pt)) : cA o hs = 0 ↔ ShapeOk o hs:=by
 unfold cA
 constructor
 ·intro h
  split at h
  ·cases h
  split at h
  ·exact absurd h (by assumption)
  split at h
  ·cases h
  rename_i h1 h2 h3
  have ho : aO o = 0:=Decidable.byContradiction fun h=>h2 h
  have ha : cE o = dN o:=by unfold cE; rw [if_pos ho]
  rw [ha] at h3
  have hz:=eF.1 h
  refine ⟨by omega,ho,by omega,fun c hc=>?_,?_⟩
  ·obtain ⟨i,hi,rfl⟩:=List.mem_iff_getElem.1 hc
   obtain ⟨g1,g2,g3,_⟩:=jO.1 (hz i hi)
   rw [dC hi] at g1 g2 g3
   exact ⟨g1,g2,g3⟩
  ·rw [List.pairwise_iff_getElem]
   intro i j hi hj hij
   have:=(jO.1 (hz j hj)).2.2.2 i hij
   rwa [dC hi,dC hj] at this
 ·rintro ⟨h1,h2,h3,h4,h5⟩
  have ha : cE o = dN o:=by unfold cE; rw [if_pos h2]
  rw [if_neg (by omega),if_neg (fun h=>h h2),ha,if_neg (by omega)]
  refine eF.2 fun i hi=>jO.2 ?_
  rw [dC hi]
  obtain ⟨g1,g2,g3⟩:=h4 _ (getElem_mem hi)
  refine ⟨g1,g2,g3,fun k hk=>?_⟩
  rw [dC (show k < hs.length by omega)]
  exact List.pairwise_iff_getElem.1 h5 k i (by omega) hi hk
def ctr (o : List Pt) (hs : List (List Pt)) : Nat -> List Pt
 | 0=>o
 | i + 1=>hs.getD i []
theorem aI5 {p q : List Pt} (hp : 0 < p.length) (hq : 0 < q.length) (hx : ¬ cN p q) (s t : Nat) : ¬ fH (cyc p s) (cyc p (s + 1)) (cyc q t) (cyc q (t + 1)):=by
 intro hm
 refine hx ⟨s % p.length,Nat.mod_lt _ hp,t % q.length,Nat.mod_lt _ hq,?_⟩
 rw [mU,mC,mU,mC]
 exact hm
theorem vO {o : List Pt} {c : Pt} (ho : aO o = 0) (hc : ¬ fO c) (hn : ¬ ∃ k,k < o.length /\ kV o c k) : (cL o c = 1 -> PlaneG.oddI o.length (fun i=>pl (cyc o i)) (pl c) = true) /\ (cL o c < 0 -> PlaneG.oddI o.length (fun i=>pl (cyc o i)) (pl c) = false):=by
 have e : cL o c = if eP (eS o c) o.length then 1 else -1:=by
  rw [kP]
  unfold eQ
  rw [if_neg (by rw [← dU]; rintro (h | h); exact h ho; exact hc h),if_neg hn]
 rw [e,rU]
 cases PlaneG.oddI o.length (fun i=>pl (cyc o i)) (pl c) <;> simp
theorem aEC {p q : List Pt} (h : gC p q) : gC q p:=⟨fun hx=>h.1 (mX hx),h.2.2,h.2.1⟩
theorem ShapeOk.holes {o : List Pt} {hs : List (List Pt)} (h : ShapeOk o hs) : PlaneG.Holes 32768 (hs.length + 1) (fun i=>(ctr o hs i).length) fun i s=>pl (cyc (ctr o hs i) s):=by
 have ok : ∀ i,i < hs.length + 1 -> aO (ctr o hs i) = 0:=fun i hi=>by
  match i with
  | 0=>exact h.out
  | i + 1 =>
   show aO (hs.getD i []) = 0
   rw [dC (by omega)]
   exact (h.hole _ (getElem_mem _)).1
 have len : ∀ i,i < hs.length + 1 -> 3 <= (ctr o hs i).length:=fun i hi=>(fL (ok i hi)).1
 have apt : ∀ i k,i < hs.length -> k < hs.length -> i ≠ k -> gC (hs.getD i []) (hs.getD k []):=fun i k hi hk hne=>by
  rw [dC hi,dC hk]
  rcases lt_or_ge i k with h1 | h1
  ·exact aEC (List.pairwise_iff_getElem.1 h.apt i k hi hk h1)
  ·exact List.pairwise_iff_getElem.1 h.apt k i hk hi (by omega)
 have inn : ∀ i,i < hs.length -> gF (hs.getD i []) o:=fun i hi=>by
  rw [dC hi]
  exact (h.hole _ (getElem_mem _)).2.2
 have off : ∀ i k,i < hs.length + 1 -> k < hs.length + 1 -> i ≠ k -> ¬ cN (ctr o hs i) (ctr o hs k):=fun i k hi hk hne=>by
  match i,k with
  | 0,0=>exact absurd rfl hne
  | 0,k + 1=>exact fun hx=>(inn k (by omega)).1 (mX hx)
  | i + 1,0=>exact (inn i (by omega)).1
  | i + 1,k + 1=>exact (apt i k (by omega) (by omega) (by omega)).1
 have notfar : ∀ i,i < hs.length + 1 -> ∀ s,¬ fO (cyc (ctr o hs i) s):=fun i hi s=>(fL (ok i hi)).2.2.1 _ (kD (by have:=len i hi; omega) s)
 have noton : ∀ i k,i < hs.length + 1 -> k < hs.length + 1 -> i ≠ k -> ∀ s,¬ ∃ t,t < (ctr o hs k).length /\ kV (ctr o hs k) (cyc (ctr o hs i) s) t:=fun i k hi hk hne s=>by
  rintro ⟨t,ht,ho⟩
  exact aI5 (by have:=len i hi; omega) (by have:=len k hk; omega) (off i k hi hk hne) s t (.inr (.inr (.inl ho)))
 refine ⟨by omega,fun i hi=>tJ (len i hi) (fL (ok i hi)).2.2.2,fun i s=>?_,fun i k hi hk hne s t=>?_,?_,fun i h0 hi=>?_,fun i h0 hi s=>?_,fun i k h0 hi k0 hk hne s=>?_⟩
 ·by_cases hi : i < hs.length + 1
  ·have:=notfar i hi s
   unfold fO at this
   show -32768 <= (cyc (ctr o hs i) s).x /\ (cyc (ctr o hs i) s).x <= 32768 /\ -32768 <= (cyc (ctr o hs i) s).y /\ (cyc (ctr o hs i) s).y <= 32768
   omega
  ·have e : ctr o hs i = []:=by
    match i with
    | 0=>omega
    | i + 1 =>
     show hs.getD i [] = []
     rw [List.getD_eq_getElem?_getD,List.getElem?_eq_none (by omega)]; rfl
   show PlaneG.Bx 32768 (pl (cyc (ctr o hs i) s))
   rw [e]
   unfold cyc cor PlaneG.Bx pl
   simp
 ·exact aI5 (by have:=len i hi; omega) (by have:=len k hk; omega) (off i k hi hk hne) s t
 ·have:=h.pos
  unfold dN at this
  rw [gI] at this
  exact this
 ·match i with
  | i + 1 =>
   have:=(h.hole (hs.getD i []) (by rw [dC (by omega)]; exact getElem_mem _)).2.1
   unfold dN at this
   rw [gI] at this
   exact this
 ·match i with
  | i + 1 =>
   refine (vO h.out (notfar _ hi s) (noton (i + 1) 0 hi (by omega) (by omega) s)).1 ((inn i (by omega)).2 _ (kD ?_ s))
   have:=len (i + 1) hi
   show 0 < (hs.getD i []).length
   exact (show 3 <= (hs.getD i []).length from this) |> fun h=>by omega
 ·match i,k with
  | i + 1,k + 1 =>
   refine (vO (ok _ hk) (notfar _ hi s) (noton (i + 1) (k + 1) hi hk hne s)).2 ?_
   have ha:=(apt i k (by omega) (by omega) (by omega))
   have hl:=len (i + 1) hi
   have e0 : cyc (ctr o hs (i + 1)) 0 = cor (hs.getD i []) 0:=gN (by omega)
   have:=aCx (ok _ hi) (ok _ hk) (off _ _ hi hk hne) (Nat.mod_lt s (show 0 < (ctr o hs (i + 1)).length by omega))
   rw [mU,e0] at this
   show cL (ctr o hs (k + 1)) (cyc (ctr o hs (i + 1)) s) < 0
   rw [this]
   exact ha.2.2
theorem aCA {α : Type} (d : α) (g : α -> Int) : ∀ (l : List α),PlaneG.isum l.length (fun i=>g (l.getD i d)) = (l.map g).sum:=fun l=>by
 induction l with
 | nil=>rfl
 | cons a l ih =>
  rw [List.length_cons,PlaneG.isum_head,map_cons,List.sum_cons,← ih]
  rfl
theorem rE (o : List Pt) (hs : List (List Pt)) (g : List Pt -> Int) : PlaneG.isum (hs.length + 1) (fun i=>g (ctr o hs i)) = g o + (hs.map g).sum:=by
 rw [PlaneG.isum_head,← aCA []]
 rfl
theorem aB3 (l : List Pt) : dN l = PlaneG.a2 l.length fun i=>pl (cyc l i):=by
 unfold dN
 rw [gI]
 rfl
theorem aPq (l : List Pt) : bM (mO l) l.length = PlaneG.m6 l.length fun i=>pl (cyc l i):=by
 rw [gI]
 rfl
theorem ShapeOk.area {o : List Pt} {hs : List (List Pt)} (h : ShapeOk o hs) : 0 < dN o + (hs.map dN).sum:=by
 have:=h.holes.area
 rw [← rE o hs dN]
 simpa only [aB3] using this
theorem ShapeOk.centre {o : List Pt} {hs : List (List Pt)} (h : ShapeOk o hs) {L U : Int} (hb : ∀ c ∈ o,L <= c.x /\ c.x <= U) :
  3 * L * (dN o + (hs.map dN).sum) <= bM (mO o) o.length + (hs.map fun l=>bM (mO l) l.length).sum /\ bM (mO o) o.length + (hs.map fun l=>bM (mO l) l.length).sum <= 3 * U * (dN o + (hs.map dN).sum):=by
 have h3:=(fL h.out).1
 have hc:=fun s=>hb _ (kD (l:=o) (by omega) s)
 have:=h.holes.centre (L:=L) (U:=U) (fun s=>(hc s).1) (fun s=>(hc s).2)
 rw [← rE o hs dN,← rE o hs fun l=>bM (mO l) l.length]
 simpa only [aB3,aPq] using this
theorem aOB (l : List Pt) : bM (mN l) l.length = PlaneG.m6y l.length fun i=>pl (cyc l i):=by
 rw [gI]
 rfl
theorem ShapeOk.centreY {o : List Pt} {hs : List (List Pt)} (h : ShapeOk o hs) :
  -(3 * (32768 + 1) * (dN o + (hs.map dN).sum)) <= bM (mN o) o.length + (hs.map fun l=>bM (mN l) l.length).sum /\ bM (mN o) o.length + (hs.map fun l=>bM (mN l) l.length).sum <= 3 * (32768 + 1) * (dN o + (hs.map dN).sum):=by
 have:=h.holes.centreY
 rw [← rE o hs dN,← rE o hs fun l=>bM (mN l) l.length]
 simpa only [aB3,aOB] using this
def wW (args : List Value) (Post : Value -> Prop) : Prop:=∃ (o : List Pt) (hs : List (List Pt)),args = [dA o hs] /\ aH o /\ aH hs /\ (∀ h ∈ hs,aH h) /\ Post (.int .i64 (cA o hs))
def aQp : bH:=aU [⟨120,qM⟩,⟨121,xQ⟩,⟨122,aEt⟩,⟨123,aIw⟩] aI
abbrev ltRc : List (Nat × List Nat):=[(9,[1,24,25,26]),(17,[1,5,24,25,26,49,50,51])]
theorem aSh (n m : Nat) (A B : Array Value) (H : HT) (Post : PV) : vcP Tryz.prog aQp 51 ltRc [.agg #[tree 2 n A,tree 1 m B]] H Post = (T4 (T2 (pIf (decide ((↑m : Int) > 8)) (T2 (Post (vi 12))) (T2 (∃ (l : List Pt),eqL [tree 2 n A] [aR l] /\ aH l /\ T2 (True /\ pIf (!decide (aO l = 0)) (T2 (True /\ Post (vi (aO l)))) (T2 (∃ (l : List Pt),eqL [tree 2 n A] [aR l] /\ aH l /\ True /\ pIf (decide (cE l <= 0)) (T2 (Post (vi 17))) (T4 (True /\ (True /\ True) /\ HP H 51 9 (stV [(1,some (pt 0)),(24,some (tree 1 m B)),(25,some (vi (↑m : Int))),(26,some (vi 0))] [(0,some (AObj.cells [tree 2 n A,tree 1 m B] true))] 1))))))))))):=by kernel_rfl
theorem aMU (n m : Nat) (k : Int) (A B : Array Value) (H : HT) (Post : PV) : bX Tryz.prog aQp 51 [.agg #[tree 2 n A,tree 1 m B]] ltRc 9 (stV [(1,some (pt 0)),(24,some (tree 1 m B)),(25,some (vi m)),(26,some (vi k))] [(0,some (.cells [tree 2 n A,tree 1 m B] true))] 1) H Post = (let q1:=aA B k.toNat 0; True /\ pIf (decide (k < (↑m : Int))) (True /\ (0 <= k /\ k < (↑m : Int)) /\ aA B k.toNat 0 = tree 2 (toN q1) (toE q1) /\ T2 (True /\ ∃ (l : List Pt),eqL [tree 2 (toN q1) (toE q1)] [aR l] /\ aH l /\ T2 (True /\ pIf (!decide (aO l = 0)) (T2 (True /\ Post (vi (aO l)))) (True /\ ∃ (l : List Pt),eqL [tree 2 (toN q1) (toE q1)] [aR l] /\ aH l /\ True /\ pIf (decide (cE l >= 0)) (T4 (Post (vi 17))) (T4 (∃ (h : List Pt),∃ (o : List Pt),eqL [tree 2 (toN q1) (toE q1),tree 2 n A] [aR h,aR o] /\ length h <= 32 /\ length o <= 32 /\ (∀ (x : Pt),x ∈ h -> Nr x) /\ (∀ (x : Pt),x ∈ o -> Nr x) /\ pIf (decide (gF h o)) (T4 (True /\ (0 <= k /\ True /\ 0 <= toNat k /\ toNat k <= m) /\ T2 (True /\ (True /\ True) /\ HP H 51 17 (stV [(1,some (pt 0)),(5,some (tree 2 (toN q1) (toE q1))),(24,some (tree 1 m B)),(25,some (vi (↑m : Int))),(26,some (vi k)),(49,some (tree 1 (toNat k - 0) (Array.extract B 0 k.toNat))),(50,some (vi (↑(toNat k - 0) : Int))),(51,some (vi 0))] [(0,some (AObj.cells [tree 2 n A,tree 1 m B] true))] 1)))) (T4 (Post (vi 17))))))))) (T2 (Post (vi 0)))):=by kernel_rfl
theorem aL8 (n m p r : Nat) (k j : Int) (A B C D : Array Value) (H : HT) (Post : PV) : bX Tryz.prog aQp 51 [.agg #[tree 2 n A,tree 1 m B]] ltRc 17 (stV [(1,some (pt 0)),(5,some (tree 2 p C)),(24,some (tree 1 m B)),(25,some (vi m)),(26,some (vi k)),(49,some (tree 1 r D)),(50,some (vi r)),(51,some (vi j))] [(0,some (.cells [tree 2 n A,tree 1 m B] true))] 1) H Post = (let q2:=[(0,some (AObj.cells [tree 2 n A,tree 1 m B] true))]; let q1:=aA D j.toNat 0; True /\ pIf (decide (j < (↑r : Int))) ((0 <= j /\ j < (↑r : Int)) /\ aA D j.toNat 0 = tree 2 (toN q1) (toE q1) /\ T2 (True /\ ∃ (p_1 : List Pt),∃ (q : List Pt),eqL [tree 2 p C,tree 2 (toN q1) (toE q1)] [aR p_1,aR q] /\ 0 < length p_1 /\ 0 < length q /\ length p_1 <= 32 /\ length q <= 32 /\ (∀ (x : Pt),x ∈ p_1 -> Nr x) /\ (∀ (x : Pt),x ∈ q -> Nr x) /\ pIf (decide (gC p_1 q)) (T4 ((True /\ True) /\ HP H 51 17 (stV [(1,some (pt 0)),(5,some (tree 2 p C)),(24,some (tree 1 m B)),(25,some (vi (↑m : Int))),(26,some (vi k)),(49,some (tree 1 r D)),(50,some (vi (↑r : Int))),(51,some (vi (wrap i64 (j + 1))))] q2 1))) (T2 (True /\ Post (vi 17))))) (T2 (True /\ (True /\ True) /\ HP H 51 9 (stV [(1,some (pt 0)),(24,some (tree 1 m B)),(25,some (vi (↑m : Int))),(26,some (vi (wrap i64 (k + 1))))] q2 1)))):=by kernel_rfl
def aDt (args : List Value) (Post : Value -> Prop) : Prop:=∃ (o : List Pt) (hs : List (List Pt)),args = [dA o hs] /\ hs.length <= 8 /\ Post (eX (o :: hs))
theorem aRh (n m : Nat) (A B : Array Value) (H : HT) (Post : PV) : vcP Tryz.prog aI 139 [] [.agg #[tree 2 n A,tree 1 m B]] H Post = (let q1:=Array.toList B; T8 (pIf (Nat.beq m 0) (true = true /\ True /\ (1 <= 1 /\ NLs [tree 2 n A]) /\ Post (tree 1 1 #[tree 2 n A])) (1 + m <= 33554432 /\ List.all (List.flatMap (fun (u : Value)=>Array.toList (Value.cells u)) q1) single = true /\ length (List.flatMap (fun (u : Value)=>Array.toList (Value.cells u)) q1) = m * 1 /\ 1 = 1 /\ True /\ (0 + (1 + m) * 1 <= length ([(tree 2 n A)] ++ List.flatMap (fun (u : Value)=>Array.toList (Value.cells u)) q1) /\ NLs (tree 2 n A :: (List.flatMap (fun (u : Value)=>Array.toList (Value.cells u)) q1))) /\ Post (tree 1 (1 + m) (bP 1 (1 + m) (List.drop 0 ([(tree 2 n A)] ++ List.flatMap (fun (u : Value)=>Array.toList (Value.cells u)) q1))))))):=by kernel_rfl
def aLv : bH:=aU [⟨51,wW⟩,⟨139,aDt⟩,⟨121,xQ⟩,⟨141,aDH⟩] aI
theorem aSa (n m : Nat) (A B : Array Value) (H : HT) (Post : PV) : vcP Tryz.prog aLv 64 [(5,[3,10,11,12])] [.agg #[tree 2 n A,tree 1 m B]] H Post = (let q1:=[Value.agg #[tree 2 n A,tree 1 m B]]; T2 (True /\ ∃ (o : List Pt),∃ (hs : List (List Pt)),eqL q1 [dA o hs] /\ aH o /\ aH hs /\ (∀ (h : List Pt),h ∈ hs -> aH h) /\ True /\ pIf (!decide (cA o hs = 0)) (T2 (Post (vi 0))) (T2 (∃ (o : List Pt),∃ (hs : List (List Pt)),eqL q1 [dA o hs] /\ length hs <= 8 /\ T4 (HP H 64 5 (stV [(3,some (vi 0)),(10,some (tree 1 (length (o :: hs)) (aB (o :: hs)))),(11,some (vi (↑(length (o :: hs)) : Int))),(12,some (vi 0))] [] 0)))))):=by kernel_rfl
theorem aN7 (n m q : Nat) (k s : Int) (A B C : Array Value) (H : HT) (Post : PV) : bX Tryz.prog aLv 64 [.agg #[tree 2 n A,tree 1 m B]] [(5,[3,10,11,12])] 5 (stV [(3,some (vi s)),(10,some (tree 1 q C)),(11,some (vi q)),(12,some (vi k))] [] 0) H Post = (let q1:=aA C k.toNat 0; True /\ pIf (decide (k < (↑q : Int))) ((0 <= k /\ k < (↑q : Int)) /\ aA C k.toNat 0 = tree 2 (toN q1) (toE q1) /\ T2 (True /\ ∃ (l : List Pt),eqL [tree 2 (toN q1) (toE q1)] [aR l] /\ aH l /\ T4 (T2 (HP H 64 5 (stV [(3,some (vi (wrap i64 (s + cE l)))),(10,some (tree 1 q C)),(11,some (vi (↑q : Int))),(12,some (vi (wrap i64 (k + 1))))] [] 0))))) (T2 (True /\ Post (vi s)))):=by kernel_rfl
theorem aRo (n m : Nat) (A B : Array Value) (H : HT) (Post : PV) : vcP Tryz.prog aLv 68 [(5,[4,5,14,15,16])] [.agg #[tree 2 n A,tree 1 m B]] H Post = (let q1:=[Value.agg #[tree 2 n A,tree 1 m B]]; T4 (∃ (o : List Pt),∃ (hs : List (List Pt)),eqL q1 [dA o hs] /\ aH o /\ aH hs /\ (∀ (h : List Pt),h ∈ hs -> aH h) /\ True /\ pIf (!decide (cA o hs = 0)) (T2 ((T2 (True)) /\ Post (Value.tuple #[vi 0,vi 0]))) (T2 (True /\ ∃ (o : List Pt),∃ (hs : List (List Pt)),eqL q1 [dA o hs] /\ length hs <= 8 /\ T4 (HP H 68 5 (stV [(4,some (vi 0)),(5,some (vi 0)),(14,some (tree 1 (length (o :: hs)) (aB (o :: hs)))),(15,some (vi (↑(length (o :: hs)) : Int))),(16,some (vi 0))] [] 0)))))):=by kernel_rfl
theorem aNs (n m q : Nat) (k s t : Int) (A B C : Array Value) (H : HT) (Post : PV) : bX Tryz.prog aLv 68 [.agg #[tree 2 n A,tree 1 m B]] [(5,[4,5,14,15,16])] 5 (stV [(4,some (vi s)),(5,some (vi t)),(14,some (tree 1 q C)),(15,some (vi q)),(16,some (vi k))] [] 0) H Post = (let q1:=aA C k.toNat 0; True /\ pIf (decide (k < (↑q : Int))) ((0 <= k /\ k < (↑q : Int)) /\ aA C k.toNat 0 = tree 2 (toN q1) (toE q1) /\ T2 (∃ (l : List Pt),eqL [tree 2 (toN q1) (toE q1)] [aR l] /\ aH l /\ T16 (True /\ HP H 68 5 (stV [(4,some (vi (wrap i64 (s + lB l)))),(5,some (vi (wrap i64 (t + lD l)))),(14,some (tree 1 q C)),(15,some (vi (↑q : Int))),(16,some (vi (wrap i64 (k + 1))))] [] 0)))) (T4 ((T2 (True)) /\ Post (Value.tuple #[vi s,vi t])))):=by kernel_rfl
theorem aJS {α : Type} [Enc α] (l : List α) (k : Nat) : Array.extract (aB l) 0 k = aB (l.take k):=by
 unfold aB
 rw [List.extract_toArray,List.extract_eq_take_drop,Nat.sub_zero,List.drop_zero,List.map_take]
theorem tU : aW Tryz.prog aQp:=aM (by
 intro e he
 simp only [mem_cons,not_mem_nil,or_false] at he
 rcases he with rfl | rfl | rfl | rfl
 ·exact aD1
 ·exact aJ7
 ·exact aKN
 ·exact aMm) aD
theorem mW {f : Nat -> Int} {k : Nat} : ∀ {n : Nat},k < n -> (∀ i,i < k -> f i = 0) -> f k ≠ 0 -> eT f n = f k
 | 0,h,_,_=>by omega
 | n + 1,h,h0,hk=>by
  unfold eT
  rcases lt_or_ge k n with h1 | h1
  ·rw [mW h1 h0 hk,if_pos hk]
  ·have : k = n:=by omega
   subst this
   rw [if_neg (by rw [eF.2 h0]; exact fun h=>h rfl)]
theorem aBI {o : List Pt} {hs : List (List Pt)} (h1 : ¬ 8 < hs.length) (h2 : aO o = 0) (h3 : ¬ cE o <= 0) : cA o hs = eT (lF o hs) hs.length:=by
 unfold cA
 rw [if_neg h1,if_neg (fun h=>h h2),if_neg h3]
theorem aIc : aZ Tryz.prog ⟨51,wW⟩:=by
 rintro args Post ⟨o,hs,rfl,so,ss,sh,h⟩
 refine aN tU mixed (by kernel_rfl) (by kernel_rfl) _ (aSh o.length hs.length (aB o) (aB hs) _ _) ?_
 simp only [true_and]
 refine ifD (fun h1=>?_) (fun h1=>⟨o,rfl,so,ifN (fun h2=>?_) (fun h2=>⟨o,rfl,so,ifD (fun h3=>?_) (fun h3=>?_)⟩)⟩)
 ·unfold cA at h
  rwa [if_pos (by omega)] at h
 ·unfold cA at h
  rwa [if_neg (by omega),if_pos h2] at h
 ·unfold cA at h
  rwa [if_neg (by omega),if_neg (fun h=>h h2),if_pos h3] at h
 rw [aBI (by omega) h2 h3] at h
 obtain ⟨_,o32,on⟩:=cV h2
 refine cS (n:=hs.length) (p:=fun k=>(∀ i,i < k -> lF o hs i = 0) -> OkP 51 [dA o hs] 9 Post (stV [(1,some (pt 0)),(24,some (eX hs)),(25,some (vi hs.length)),(26,some (vi k))] [(0,some (.cells [aR o,eX hs] true))] 1)) (fun hall=>?_) (fun k k1 ih hall=>?_) (fun i hi=>by omega)
 ·refine aV tU mixed _ (aMU o.length hs.length hs.length (aB o) (aB hs) _ _) ?_
  rw [eF.2 hall] at h
  simp only [true_and]
  exact ifD (fun hlt=>by omega) (fun _=>h)
 ·refine aV tU mixed _ (aMU o.length hs.length k (aB o) (aB hs) _ _) ?_
  have hk : ((k : Nat) : Int).toNat = k:=toNat_natCast k
  have bad : ∀ e : Int,lF o hs k = e -> e ≠ 0 -> Post (.int .i64 e):=fun e he hn=>by
   rw [mW k1 hall (by rw [he]; exact hn),he] at h
   exact h
  simp only [true_and,and_true,hk,mA k1,cH,cG,aJS]
  have gd : hs.getD k [] = hs[k]:=dC k1
  unfold lF at bad
  rw [gd] at bad
  refine ifD (fun _=>⟨⟨by omega,by omega⟩,hs[k],rfl,sh _ (getElem_mem k1),ifN (fun g1=>bad _ (by rw [if_pos g1]) g1) (fun g1=>?_)⟩) (fun h'=>by omega)
  obtain ⟨k3,k32,kn⟩:=cV g1
  have nz : ¬ (aO hs[k] ≠ 0):=fun h=>h g1
  rw [if_neg nz] at bad
  refine ⟨hs[k],rfl,sh _ (getElem_mem k1),ifD (fun g2=>bad 17 (by rw [if_pos (.inl g2)]) (by decide)) (fun g2=>⟨hs[k],o,rfl,k32,o32,kn,on,ifD (fun g3=>?_) (fun g3=>bad 17 (by rw [if_pos (.inr (.inl g3))]) (by decide))⟩)⟩
  have lt : (hs.take k).length = k:=by rw [List.length_take]; omega
  refine ⟨⟨by omega,by omega,by omega⟩,?_⟩
  rw [Nat.sub_zero]
  have all : ∀ i,i < k -> (aO hs[i]! = 0):=fun i hi=>by
   have:=(jO.1 (hall i hi)).1
   rw [dC (show i < hs.length by omega)] at this
   rw [getElem!_pos hs i (by omega)]
   exact this
  have key:=cS (n:=k) (p:=fun j=>(∀ t,t < j -> ∀ (ht : t < hs.length),gC hs[k] hs[t]) -> OkP 51 [dA o hs] 17 Post (stV [(1,some (pt 0)),(5,some (aR hs[k])),(24,some (eX hs)),(25,some (vi hs.length)),(26,some (vi k)),(49,some (tree 1 k (aB (hs.take k)))),(50,some (vi k)),(51,some (vi j))] [(0,some (.cells [aR o,eX hs] true))] 1)) (fun hin=>by
   refine aV tU mixed _ (aL8 o.length hs.length hs[k].length k k k (aB o) (aB hs) (aB hs[k]) (aB (hs.take k)) _ _) ?_
   simp only [true_and,and_true,aJ (show k < 2 ^ 62 by omega)]
   refine ifD (fun hlt=>by omega) (fun _=>ih fun i hi=>?_)
   rcases lt_or_ge i k with h' | h'
   ·exact hall i h'
   ·rw [show i = k by omega]
    refine jO.2 ?_
    rw [gd]
    refine ⟨g1,?_,g3,fun t ht=>?_⟩
    ·unfold cE at g2
     rw [if_pos g1] at g2
     omega
    ·rw [dC (show t < hs.length by omega)]
     exact hin t ht (by omega)) (fun j j1 jh hin=>by
   refine aV tU mixed _ (aL8 o.length hs.length hs[k].length k k j (aB o) (aB hs) (aB hs[k]) (aB (hs.take k)) _ _) ?_
   have hj : ((j : Nat) : Int).toNat = j:=toNat_natCast j
   have jl : j < (hs.take k).length:=by omega
   have je : (hs.take k)[j] = hs[j]:=List.getElem_take
   have jz : aO hs[j] = 0:=by
    have:=all j j1
    rwa [getElem!_pos hs j (by omega)] at this
   obtain ⟨j3,j32,jn⟩:=cV jz
   simp only [true_and,and_true,hj,mA jl,je,cH,cG,aJ (show j < 2 ^ 62 by omega)]
   refine ifD (fun _=>⟨⟨by omega,by omega⟩,hs[k],hs[j],rfl,by omega,by omega,k32,j32,kn,jn,ifD (fun ha=>jh fun t ht tl=>?_) (fun ha=>bad 17 ?_ (by decide))⟩) (fun h'=>by omega)
   ·rcases lt_or_ge t j with h' | h'
    ·exact hin t h' tl
    ·have : t = j:=by omega
     subst this
     exact ha
   ·rw [if_pos (.inr (.inr ⟨j,j1,by rw [dC (show j < hs.length by omega)]; exact ha⟩))]) (fun t ht=>by omega)
  exact key
theorem aAy (l : List (List Pt)) : List.flatMap (fun u : Value=>u.cells.toList) (aB l).toList = l.map fun a=>aR a:=by
 unfold aB
 rw [List.toList_toArray]
 induction l with
 | nil=>rfl
 | cons a l ih =>
  rw [map_cons,List.flatMap_cons,ih,map_cons]
  rfl
theorem aPL : aZ Tryz.prog ⟨139,aDt⟩:=by
 rintro args Post ⟨o,hs,rfl,h8,h⟩
 refine aN aD mixed (by kernel_rfl) (by kernel_rfl) _ (aRh o.length hs.length (aB o) (aB hs) _ _) ?_
 simp only [true_and,aAy]
 have en : aB (o :: hs) = (aR o :: hs.map fun a=>aR a).toArray:=by
  unfold aB
  rw [map_cons]
  rfl
 refine aE (fun hm=>?_) (fun hm=>?_)
 ·have : hs = []:=List.eq_nil_of_length_eq_zero (Nat.eq_of_beq_eq_true hm)
  subst this
  refine ⟨⟨Nat.le_refl _,fun v hv=>?_⟩,h⟩
  simp only [mem_cons,not_mem_nil,or_false] at hv
  subst hv
  rfl
 ·have nls : NLs (aR o :: hs.map fun a=>aR a):=fun v hv=>by
   rcases List.mem_cons.1 hv with rfl | hv
   ·rfl
   ·obtain ⟨a,_,rfl⟩:=List.mem_map.1 hv
    rfl
  refine ⟨by omega,?_,by rw [List.length_map,Nat.mul_one],⟨?_,nls⟩,?_⟩
  ·rw [List.all_eq_true]
   intro v hv
   obtain ⟨a,_,rfl⟩:=List.mem_map.1 hv
   rfl
  ·simp
   omega
  ·have e : tree 1 (1 + hs.length) (bP 1 (1 + hs.length) (List.drop 0 ([aR o] ++ hs.map fun a=>aR a))) = eX (o :: hs):=by
    have ec : bP 1 (1 + hs.length) (List.drop 0 ([aR o] ++ hs.map fun a=>aR a)) = aB (o :: hs):=by
     rw [en]
     show ((List.drop 0 (aR o :: hs.map fun a=>aR a)).take (1 + hs.length)).toArray = _
     rw [List.drop_zero,List.take_of_length_le (by simp; omega)]
    rw [ec,Nat.add_comm]
    rfl
   rw [e]
   exact h
def dZ (g : List Pt -> Int) (o : List Pt) (hs : List (List Pt)) (i : Nat) : Int:=g ((o :: hs).getD i [])
def rArea (o : List Pt) (hs : List (List Pt)) : Int:=if cA o hs = 0 then bM (dZ cE o hs) (hs.length + 1) else 0
def rMomX (o : List Pt) (hs : List (List Pt)) : Int:=if cA o hs = 0 then bM (dZ lB o hs) (hs.length + 1) else 0
def rMomY (o : List Pt) (hs : List (List Pt)) : Int:=if cA o hs = 0 then bM (dZ lD o hs) (hs.length + 1) else 0
def aBp (args : List Value) (Post : Value -> Prop) : Prop:=∃ (o : List Pt) (hs : List (List Pt)),args = [dA o hs] /\ aH o /\ aH hs /\ (∀ h ∈ hs,aH h) /\ Post (.int .i64 (rArea o hs))
def aNB (args : List Value) (Post : Value -> Prop) : Prop:=∃ (o : List Pt) (hs : List (List Pt)),args = [dA o hs] /\ aH o /\ aH hs /\ (∀ h ∈ hs,aH h) /\ Post (.tuple #[.int .i64 (rMomX o hs),.int .i64 (rMomY o hs)])
theorem aB4 {f : Nat -> Int} {M : Int} (hM : 0 <= M) (h : ∀ k,-M <= f k /\ f k <= M) {n : Nat} (hn : n <= 32) : -(M * 32) <= bM f n /\ bM f n <= M * 32:=by
 have h2:=kL h n
 have h3:=Int.mul_le_mul_of_nonneg_left (show (n : Int) <= 32 by omega) hM
 omega
theorem aAv (l : List Pt) : -68719476736 <= cE l /\ cE l <= 68719476736:=by
 unfold cE
 split
 ·rename_i h
  obtain ⟨h3,h32,hn⟩:=cV h
  have:=aB4 (by decide) (gZ hn (by omega)) h32
  unfold dN
  omega
 ·omega
theorem aEN (l : List Pt) : -4503599627370496 <= lB l /\ lB l <= 4503599627370496:=by
 unfold lB
 split
 ·rename_i h
  obtain ⟨h3,h32,hn⟩:=cV h
  have:=aB4 (by decide) (aE4 hn (by omega)) h32
  omega
 ·omega
theorem aG6 (l : List Pt) : -4503599627370496 <= lD l /\ lD l <= 4503599627370496:=by
 unfold lD
 split
 ·rename_i h
  obtain ⟨h3,h32,hn⟩:=cV h
  have:=aB4 (by decide) (aDh hn (by omega)) h32
  omega
 ·omega
theorem rQ {g : List Pt -> Int} {o : List Pt} {hs : List (List Pt)} (h : ∀ l,-4503599627370496 <= g l /\ g l <= 4503599627370496) {k : Nat} (hk : k < 32) : wrap .i64 (bM (dZ g o hs) k + dZ g o hs k) = bM (dZ g o hs) (k + 1):=by
 have h1 : -4503599627370496 <= dZ g o hs k /\ dZ g o hs k <= 4503599627370496:=h _
 have h2:=kL (f:=dZ g o hs) (M:=4503599627370496) (fun i=>h _) k
 rw [bA (by omega) (by omega)]
 rfl
theorem rJ : aW Tryz.prog aLv:=aM (by
 intro e he
 simp only [mem_cons,not_mem_nil,or_false] at he
 rcases he with rfl | rfl | rfl | rfl
 ·exact aIc
 ·exact aPL
 ·exact aJ7
 ·exact aQ6) aD
theorem xM {o : List Pt} {hs : List (List Pt)} (so : aH o) (sh : ∀ h ∈ hs,aH h) : ∀ h ∈ o :: hs,aH h:=fun h hh=>by
 rcases List.mem_cons.1 hh with rfl | hh
 ·exact so
 ·exact sh h hh
theorem aJ5 : aZ Tryz.prog ⟨64,aBp⟩:=by
 rintro args Post ⟨o,hs,rfl,so,ss,sh,h⟩
 refine aN rJ mixed (by kernel_rfl) (by kernel_rfl) _ (aSa o.length hs.length (aB o) (aB hs) _ _) ?_
 simp only [true_and]
 unfold rArea at h
 refine ⟨o,hs,rfl,so,ss,sh,ifN (fun h1=>?_) (fun h1=>?_)⟩
 ·rwa [if_neg h1] at h
 rw [if_pos h1] at h
 have h8:=((cX o hs).1 h1).few
 refine ⟨o,hs,rfl,h8,?_⟩
 refine cS (n:=(o :: hs).length) (p:=fun k=>OkP 64 [dA o hs] 5 Post (stV [(3,some (vi (bM (dZ cE o hs) k))),(10,some (eX (o :: hs))),(11,some (vi (o :: hs).length)),(12,some (vi k))] [] 0)) ?_ (fun k k1 ih=>?_)
 ·refine aV rJ mixed _ (aN7 o.length hs.length (o :: hs).length (o :: hs).length (bM (dZ cE o hs) (o :: hs).length) (aB o) (aB hs) (aB (o :: hs)) _ _) ?_
  simp only [true_and]
  exact ifD (fun hlt=>by omega) (fun _=>h)
 ·refine aV rJ mixed _ (aN7 o.length hs.length (o :: hs).length k (bM (dZ cE o hs) k) (aB o) (aB hs) (aB (o :: hs)) _ _) ?_
  have hk : ((k : Nat) : Int).toNat = k:=toNat_natCast k
  have kl : k < 32:=by rw [List.length_cons] at k1; omega
  simp only [true_and,and_true,hk,mA k1,cH,cG,aJ (show k < 2 ^ 62 by omega)]
  refine ifD (fun _=>⟨⟨by omega,by omega⟩,(o :: hs)[k],rfl,xM so sh _ (getElem_mem k1),?_⟩) (fun h'=>by omega)
  have e : cE (o :: hs)[k] = dZ cE o hs k:=by unfold dZ; rw [dC k1]
  rw [e,rQ (fun l=>by have:=aAv l; omega) kl]
  exact ih
theorem aP1 : aZ Tryz.prog ⟨68,aNB⟩:=by
 rintro args Post ⟨o,hs,rfl,so,ss,sh,h⟩
 refine aN rJ mixed (by kernel_rfl) (by kernel_rfl) _ (aRo o.length hs.length (aB o) (aB hs) _ _) ?_
 simp only [true_and]
 unfold rMomX rMomY at h
 refine ⟨o,hs,rfl,so,ss,sh,ifN (fun h1=>?_) (fun h1=>?_)⟩
 ·rwa [if_neg h1,if_neg h1] at h
 rw [if_pos h1,if_pos h1] at h
 have h8:=((cX o hs).1 h1).few
 refine ⟨o,hs,rfl,h8,?_⟩
 refine cS (n:=(o :: hs).length) (p:=fun k=>OkP 68 [dA o hs] 5 Post (stV [(4,some (vi (bM (dZ lB o hs) k))),(5,some (vi (bM (dZ lD o hs) k))),(14,some (eX (o :: hs))),(15,some (vi (o :: hs).length)),(16,some (vi k))] [] 0)) ?_ (fun k k1 ih=>?_)
 ·refine aV rJ mixed _ (aNs o.length hs.length (o :: hs).length (o :: hs).length (bM (dZ lB o hs) (o :: hs).length) (bM (dZ lD o hs) (o :: hs).length) (aB o) (aB hs) (aB (o :: hs)) _ _) ?_
  simp only [true_and]
  exact ifD (fun hlt=>by omega) (fun _=>h)
 ·refine aV rJ mixed _ (aNs o.length hs.length (o :: hs).length k (bM (dZ lB o hs) k) (bM (dZ lD o hs) k) (aB o) (aB hs) (aB (o :: hs)) _ _) ?_
  have hk : ((k : Nat) : Int).toNat = k:=toNat_natCast k
  have kl : k < 32:=by rw [List.length_cons] at k1; omega
  simp only [true_and,and_true,hk,mA k1,cH,cG,aJ (show k < 2 ^ 62 by omega)]
  refine ifD (fun _=>⟨⟨by omega,by omega⟩,(o :: hs)[k],rfl,xM so sh _ (getElem_mem k1),?_⟩) (fun h'=>by omega)
  have e : lB (o :: hs)[k] = dZ lB o hs k:=by unfold dZ; rw [dC k1]
  have e2 : lD (o :: hs)[k] = dZ lD o hs k:=by unfold dZ; rw [dC k1]
  rw [e,e2,rQ aEN kl,rQ aG6 kl]
  exact ih
theorem aH9 {α : Type} (d : α) (g : α -> Int) (l : List α) : bM (fun i=>g (l.getD i d)) l.length = (l.map g).sum:=by
 rw [gI]
 exact aCA d g l
theorem aAe {g g' : List Pt -> Int} {o : List Pt} {hs : List (List Pt)} (h : ∀ l ∈ o :: hs,g l = g' l) : bM (dZ g o hs) (hs.length + 1) = g' o + (hs.map g').sum:=by
 have e:=aH9 [] g (o :: hs)
 have e2 : (fun i=>g ((o :: hs).getD i [])) = dZ g o hs:=rfl
 rw [e2,List.length_cons] at e
 rw [e,map_cons,List.sum_cons,h o (by simp)]
 congr 2
 exact List.map_congr_left fun l hl=>h l (by simp [hl])
theorem ShapeOk.all {o : List Pt} {hs : List (List Pt)} (h : ShapeOk o hs) : ∀ l ∈ o :: hs,aO l = 0:=fun l hl=>by
 rcases List.mem_cons.1 hl with rfl | hl
 ·exact h.out
 ·exact (h.hole l hl).1
theorem ShapeOk.rArea {o : List Pt} {hs : List (List Pt)} (h : ShapeOk o hs) : Go.Proofs.YtngginofamlkkaaGreatDoor.rArea o hs = dN o + (hs.map dN).sum:=by
 unfold Go.Proofs.YtngginofamlkkaaGreatDoor.rArea
 rw [if_pos ((cX o hs).2 h)]
 exact aAe (g:=cE) (g':=dN) fun l hl=>by unfold cE; rw [if_pos (h.all l hl)]
theorem ShapeOk.rMomX {o : List Pt} {hs : List (List Pt)} (h : ShapeOk o hs) : Go.Proofs.YtngginofamlkkaaGreatDoor.rMomX o hs = bM (mO o) o.length + (hs.map fun l=>bM (mO l) l.length).sum:=by
 unfold Go.Proofs.YtngginofamlkkaaGreatDoor.rMomX
 rw [if_pos ((cX o hs).2 h)]
 exact aAe (g:=lB) (g':=fun l=>bM (mO l) l.length) fun l hl=>by unfold lB; rw [if_pos (h.all l hl)]
theorem ShapeOk.rMomY {o : List Pt} {hs : List (List Pt)} (h : ShapeOk o hs) : Go.Proofs.YtngginofamlkkaaGreatDoor.rMomY o hs = bM (mN o) o.length + (hs.map fun l=>bM (mN l) l.length).sum:=by
 unfold Go.Proofs.YtngginofamlkkaaGreatDoor.rMomY
 rw [if_pos ((cX o hs).2 h)]
 exact aAe (g:=lD) (g':=fun l=>bM (mN l) l.length) fun l hl=>by unfold lD; rw [if_pos (h.all l hl)]
def aEk (args : List Value) (Post : Value -> Prop) : Prop:=∃ a b c : Pt,args = [ptV a,ptV b,ptV c] /\ Nr a /\ Nr b /\ Nr c /\ Post (.int .i64 (dI (aY a b c)))
def aQw (args : List Value) (Post : Value -> Prop) : Prop:=∃ p q : List Pt,args = [aR p,aR q] /\ p.length <= 32 /\ q.length <= 32 /\ (∀ x ∈ p,Nr x) /\ (∀ x ∈ q,Nr x) /\ Post (.bool (decide (cN p q)))
theorem aKn (a b c : Pt) (H : HT) (Post : PV) : vcP Tryz.prog aI 237 [] [ptV a,ptV b,ptV c] H Post = (let q1:=wrap i64 (wrap i64 (b.x - a.x) * wrap i64 (c.y - a.y)) - wrap i64 (wrap i64 (b.y - a.y) * wrap i64 (c.x - a.x)); T16 (T8 (T4 (T2 (pIf (decide (wrap i64 q1 > 0)) (T2 (Post (vi 1))) (T2 (pIf (decide (wrap i64 q1 < 0)) (T2 (Post (vi (-1)))) (T2 (Post (vi 0)))))))))):=by kernel_rfl
theorem aPt (a b q : Pt) (H : HT) (Post : PV) : vcP Tryz.prog (aU [⟨237,aEk⟩] aI) 236 [] [ptV a,ptV b,ptV q] H Post = (let q1:=True /\ Post (vb false); T4 (T2 (True /\ ∃ (a_1 : Pt),∃ (b_1 : Pt),∃ (c : Pt),eqL [Value.agg #[vi a.x,vi a.y],Value.agg #[vi b.x,vi b.y],Value.agg #[vi q.x,vi q.y]] [ptV a_1,ptV b_1,ptV c] /\ Nr a_1 /\ Nr b_1 /\ Nr c /\ True /\ pIf (decide (dI (aY a_1 b_1 c) = 0)) (T8 (True /\ pIf (decide (q.x >= if b.x < a.x then b.x else a.x)) (T8 (T2 (pIf (decide (q.x <= if b.x > a.x then b.x else a.x)) (T8 (T2 (pIf (decide (q.y >= if b.y < a.y then b.y else a.y)) (T8 (T2 (pIf (decide (q.y <= if b.y > a.y then b.y else a.y)) (T2 (True /\ Post (vb true))) (T2 q1)))) (T4 q1)))) (T4 (T2 q1))))) (T8 q1))) (T8 (T2 (Post (vb false))))))):=by kernel_rfl
def vcRt : bH:=aU [⟨237,aEk⟩,⟨236,aFN⟩] aI
theorem aKt (a b c d : Pt) (H : HT) (Post : PV) : vcP Tryz.prog vcRt 207 [] [ptV a,ptV b,ptV c,ptV d] H Post = (let q5:=#[vi d.x,vi d.y]; let q4:=#[vi c.x,vi c.y]; let q3:=#[vi b.x,vi b.y]; let q2:=True /\ Post (vb true); let q1:=[Value.agg q4,Value.agg q5,Value.agg q3]; T8 (∃ (a_1 : Pt),∃ (b_1 : Pt),∃ (q : Pt),eqL [Value.agg #[vi a.x,vi a.y],Value.agg q3,Value.agg q4] [ptV a_1,ptV b_1,ptV q] /\ Nr a_1 /\ Nr b_1 /\ Nr q /\ pIf (decide (onP a_1 b_1 q)) (T8 (Post (vb true))) (T4 (∃ (a_2 : Pt),∃ (b_2 : Pt),∃ (q : Pt),eqL [Value.agg #[vi a.x,vi a.y],Value.agg q3,Value.agg q5] [ptV a_2,ptV b_2,ptV q] /\ Nr a_2 /\ Nr b_2 /\ Nr q /\ pIf (decide (onP a_2 b_2 q)) (T4 (T2 q2)) (T4 (True /\ ∃ (a_3 : Pt),∃ (b_3 : Pt),∃ (q : Pt),eqL [Value.agg q4,Value.agg q5,Value.agg #[vi a.x,vi a.y]] [ptV a_3,ptV b_3,ptV q] /\ Nr a_3 /\ Nr b_3 /\ Nr q /\ pIf (decide (onP a_3 b_3 q)) (T4 q2) (T4 (True /\ ∃ (a_4 : Pt),∃ (b_4 : Pt),∃ (q : Pt),eqL q1 [ptV a_4,ptV b_4,ptV q] /\ Nr a_4 /\ Nr b_4 /\ Nr q /\ pIf (decide (onP a_4 b_4 q)) (T2 q2) (T4 (T2 (True /\ ∃ (a_5 : Pt),∃ (b_5 : Pt),∃ (c_1 : Pt),eqL [Value.agg #[vi a.x,vi a.y],Value.agg q3,Value.agg q4] [ptV a_5,ptV b_5,ptV c_1] /\ Nr a_5 /\ Nr b_5 /\ Nr c_1 /\ True /\ ∃ (a_6 : Pt),∃ (b_6 : Pt),∃ (c_2 : Pt),eqL [Value.agg #[vi a.x,vi a.y],Value.agg q3,Value.agg q5] [ptV a_6,ptV b_6,ptV c_2] /\ Nr a_6 /\ Nr b_6 /\ Nr c_2 /\ T2 (True /\ pIf (decide (wrap i64 (dI (aY a_5 b_5 c_1) * dI (aY a_6 b_6 c_2)) < 0)) (T4 (T2 (True /\ ∃ (a_7 : Pt),∃ (b_7 : Pt),∃ (c_3 : Pt),eqL [Value.agg q4,Value.agg q5,Value.agg #[vi a.x,vi a.y]] [ptV a_7,ptV b_7,ptV c_3] /\ Nr a_7 /\ Nr b_7 /\ Nr c_3 /\ True /\ ∃ (a : Pt),∃ (b_8 : Pt),∃ (c_4 : Pt),eqL q1 [ptV a,ptV b_8,ptV c_4] /\ Nr a /\ Nr b_8 /\ Nr c_4 /\ T2 (True /\ pIf (decide (wrap i64 (dI (aY a_7 b_7 c_3) * dI (aY a b_8 c_4)) < 0)) (T2 q2) (T2 (True /\ Post (vb false))))))) (T4 (Post (vb false))))))))))))))):=by kernel_rfl
def aPD : bH:=aU [⟨207,mT⟩] aI
abbrev lpRx : List (Nat × List Nat):=[(2,[0,1,5]),(5,[0,1,5,6])]
theorem e_rcr (n m : Nat) (A B : Array Value) (H : Code -> List Fr -> AS -> Prop) (Post : Value -> Prop) : vcP Tryz.prog aPD 132 lpRx [tree 2 n A,tree 2 m B] H Post = (True /\ True /\ True /\ True /\ HP H 132 2 (stV [(0,some (tree 2 n A)),(1,some (tree 2 m B)),(5,some (Value.int i64 0))] [] 0)):=by kernel_rfl
theorem aQJ (n m : Nat) (k : Int) (A B : Array Value) (H : HT) (Post : PV) : bX Tryz.prog aPD 132 [tree 2 n A,tree 2 m B] lpRx 2 (stV [(0,some (tree 2 n A)),(1,some (tree 2 m B)),(5,some (vi k))] [] 0) H Post = (T4 (pIf (decide (k < (↑n : Int))) (T2 (True /\ HP H 132 5 (stV [(0,some (tree 2 n A)),(1,some (tree 2 m B)),(5,some (vi k)),(6,some (vi 0))] [] 0))) (T2 (Post (vb false))))):=by kernel_rfl
theorem aQR (n m : Nat) (k j : Int) (A B : Array Value) (H : HT) (Post : PV) : bX Tryz.prog aPD 132 [tree 2 n A,tree 2 m B] lpRx 5 (stV [(0,some (tree 2 n A)),(1,some (tree 2 m B)),(5,some (vi k)),(6,some (vi j))] [] 0) H Post = (let q8:=toI (aA B j.toNat 1); let q7:=toI (aA B j.toNat 0); let q6:=toI (aA A k.toNat 1); let q5:=toI (aA A k.toNat 0); let q4:=wrap i64 (j + 1); let q3:=wrap i64 (k + 1); let q2:=(toNat (tmod q4 (↑m : Int))); let q1:=(toNat (tmod q3 (↑n : Int))); T4 (pIf (decide (j < (↑m : Int))) (T2 ((0 <= k /\ k < (↑n : Int)) /\ (aA A k.toNat 0 = vi q5 /\ aA A k.toNat 1 = vi q6 /\ True) /\ T4 (True /\ ((↑n : Int) = 0 -> False) /\ (0 <= tmod q3 (↑n : Int) /\ tmod q3 (↑n : Int) < (↑n : Int)) /\ (aA A q1 0 = vi (toI (aA A q1 0)) /\ aA A q1 1 = vi (toI (aA A q1 1)) /\ True) /\ T2 ((0 <= j /\ j < (↑m : Int)) /\ (aA B j.toNat 0 = vi q7 /\ aA B j.toNat 1 = vi q8 /\ True) /\ T4 (True /\ ((↑m : Int) = 0 -> False) /\ (0 <= tmod q4 (↑m : Int) /\ tmod q4 (↑m : Int) < (↑m : Int)) /\ (aA B q2 0 = vi (toI (aA B q2 0)) /\ aA B q2 1 = vi (toI (aA B q2 1)) /\ True) /\ ∃ (a : Pt),∃ (b : Pt),∃ (c : Pt),∃ (d : Pt),eqL [Value.agg #[vi q5,vi q6],Value.agg #[vi (toI (aA A q1 0)),vi (toI (aA A q1 1))],Value.agg #[vi q7,vi q8],Value.agg #[vi (toI (aA B q2 0)),vi (toI (aA B q2 1))]] [ptV a,ptV b,ptV c,ptV d] /\ Nr a /\ Nr b /\ Nr c /\ Nr d /\ pIf (decide (fH a b c d)) (T2 (True /\ Post (vb true))) (T4 (T2 (HP H 132 5 (stV [(0,some (tree 2 n A)),(1,some (tree 2 m B)),(5,some (vi k)),(6,some (vi q4))] [] 0))))))))) (T4 (True /\ HP H 132 2 (stV [(0,some (tree 2 n A)),(1,some (tree 2 m B)),(5,some (vi q3))] [] 0))))):=by kernel_rfl
def aPo : bH:=aU [⟨130,qM⟩,⟨131,xQ⟩,⟨132,aQw⟩,⟨133,qC⟩] aI
abbrev lpRy : List (Nat × List Nat):=[(9,[1,4]),(18,[1,4,5,7])]
theorem aLQ (n m : Nat) (A B : Array Value) (H : HT) (Post : PV) : vcP Tryz.prog aPo 57 lpRy [.agg #[tree 2 n A,tree 1 m B]] H Post = (T4 (T2 (pIf (decide ((↑m : Int) > 8)) (T2 (Post (vi 12))) (T2 (∃ (l : List Pt),eqL [tree 2 n A] [aR l] /\ aH l /\ T2 (True /\ pIf (!decide (aO l = 0)) (T2 (True /\ Post (vi (aO l)))) (T2 (∃ (l : List Pt),eqL [tree 2 n A] [aR l] /\ aH l /\ True /\ pIf (decide (cE l <= 0)) (T2 (Post (vi 17))) (T2 ((True /\ True) /\ HP H 57 9 (stV [(1,some (pt 0)),(4,some (vi 0))] [(0,some (AObj.cells [tree 2 n A,tree 1 m B] true))] 1))))))))))):=by kernel_rfl
theorem aGn (n m : Nat) (k : Int) (A B : Array Value) (H : HT) (Post : PV) : bX Tryz.prog aPo 57 [.agg #[tree 2 n A,tree 1 m B]] lpRy 9 (stV [(1,some (pt 0)),(4,some (vi k))] [(0,some (.cells [tree 2 n A,tree 1 m B] true))] 1) H Post = (let q1:=aA B k.toNat 0; T4 (True /\ pIf (decide (k < (↑m : Int))) (T2 (True /\ (0 <= k /\ k < (↑m : Int)) /\ aA B k.toNat 0 = tree 2 (toN q1) (toE q1) /\ T2 (∃ (l : List Pt),eqL [tree 2 (toN q1) (toE q1)] [aR l] /\ aH l /\ T2 (True /\ pIf (!decide (aO l = 0)) (T2 (True /\ Post (vi (aO l)))) (True /\ ∃ (l : List Pt),eqL [tree 2 (toN q1) (toE q1)] [aR l] /\ aH l /\ T2 (pIf (decide (cE l >= 0)) (T4 (T2 (Post (vi 17)))) (T4 (∃ (p : List Pt),∃ (q : List Pt),eqL [tree 2 n A,tree 2 (toN q1) (toE q1)] [aR p,aR q] /\ length p <= 32 /\ length q <= 32 /\ (∀ (x : Pt),x ∈ p -> Nr x) /\ (∀ (x : Pt),x ∈ q -> Nr x) /\ pIf (decide (cN p q)) (T4 (T2 (Post (vi 17)))) (T4 (T2 ((toI (vi 0) <= 0 /\ 0 < (↑(toN q1) : Int)) /\ (aA (toE q1) 0 0 = vi (toI (aA (toE q1) 0 0)) /\ aA (toE q1) 0 1 = vi (toI (aA (toE q1) 0 1)) /\ True) /\ ∃ (l : List Pt),∃ (q : Pt),eqL [tree 2 n A,Value.agg #[vi (toI (aA (toE q1) 0 0)),vi (toI (aA (toE q1) 0 1))]] [aR l,ptV q] /\ aH l /\ T2 (pIf (!decide (cL l q = 1)) (T2 (True /\ Post (vi 17))) (T2 (True /\ (True /\ True) /\ HP H 57 18 (stV [(1,some (pt 0)),(4,some (vi k)),(5,some (tree 2 (toN q1) (toE q1))),(7,some (vi 0))] [(0,some (AObj.cells [tree 2 n A,tree 1 m B] true))] 1))))))))))))))) (T2 (Post (vi 0))))):=by kernel_rfl
theorem aEJ (n m p : Nat) (k j : Int) (A B C : Array Value) (H : HT) (Post : PV) : bX Tryz.prog aPo 57 [.agg #[tree 2 n A,tree 1 m B]] lpRy 18 (stV [(1,some (pt 0)),(4,some (vi k)),(5,some (tree 2 p C)),(7,some (vi j))] [(0,some (.cells [tree 2 n A,tree 1 m B] true))] 1) H Post = (let q4:=True /\ Post (vi 17); let q3:=(0 <= j /\ j < (↑m : Int)); let q2:=[(0,some (AObj.cells [tree 2 n A,tree 1 m B] true))]; let q1:=aA B j.toNat 0; T2 (True /\ pIf (decide (j < k)) (T4 (q3 /\ aA B j.toNat 0 = tree 2 (toN q1) (toE q1) /\ ∃ (p_1 : List Pt),∃ (q : List Pt),eqL [tree 2 p C,tree 2 (toN q1) (toE q1)] [aR p_1,aR q] /\ length p_1 <= 32 /\ length q <= 32 /\ (∀ (x : Pt),x ∈ p_1 -> Nr x) /\ (∀ (x : Pt),x ∈ q -> Nr x) /\ pIf (decide (cN p_1 q)) (T4 (T2 q4)) (T4 (T2 (q3 /\ aA B j.toNat 0 = tree 2 (toN q1) (toE q1) /\ (toI (vi 0) <= 0 /\ 0 < (↑(toN q1) : Int)) /\ (aA (toE q1) 0 0 = vi (toI (aA (toE q1) 0 0)) /\ aA (toE q1) 0 1 = vi (toI (aA (toE q1) 0 1)) /\ True) /\ ∃ (l : List Pt),∃ (q : Pt),eqL [tree 2 p C,Value.agg #[vi (toI (aA (toE q1) 0 0)),vi (toI (aA (toE q1) 0 1))]] [aR l,ptV q] /\ aH l /\ T2 (pIf (!decide (cL l q = -1)) (T4 q4) (T4 (True /\ q3 /\ aA B j.toNat 0 = tree 2 (toN q1) (toE q1) /\ True /\ (toI (vi 0) <= 0 /\ 0 < (↑p : Int)) /\ (aA C 0 0 = vi (toI (aA C 0 0)) /\ aA C 0 1 = vi (toI (aA C 0 1)) /\ True) /\ ∃ (l : List Pt),∃ (q : Pt),eqL [tree 2 (toN q1) (toE q1),Value.agg #[vi (toI (aA C 0 0)),vi (toI (aA C 0 1))]] [aR l,ptV q] /\ aH l /\ T2 (pIf (!decide (cL l q = -1)) (T2 q4) (T4 (True /\ (True /\ True) /\ HP H 57 18 (stV [(1,some (pt 0)),(4,some (vi k)),(5,some (tree 2 p C)),(7,some (vi (wrap i64 (j + 1))))] q2 1)))))))))))) (T4 ((True /\ True) /\ HP H 57 9 (stV [(1,some (pt 0)),(4,some (vi (wrap i64 (k + 1))))] q2 1))))):=by kernel_rfl
theorem aKo (n m : Nat) (A B : Array Value) (H : HT) (Post : PV) : vcP Tryz.prog aI 140 [] [.agg #[tree 2 n A,tree 1 m B]] H Post = (let q1:=Array.toList B; T8 (pIf (Nat.beq m 0) (true = true /\ True /\ (1 <= 1 /\ NLs [tree 2 n A]) /\ Post (tree 1 1 #[tree 2 n A])) (1 + m <= 33554432 /\ List.all (List.flatMap (fun (u : Value)=>Array.toList (Value.cells u)) q1) single = true /\ length (List.flatMap (fun (u : Value)=>Array.toList (Value.cells u)) q1) = m * 1 /\ 1 = 1 /\ True /\ (0 + (1 + m) * 1 <= length ([(tree 2 n A)] ++ List.flatMap (fun (u : Value)=>Array.toList (Value.cells u)) q1) /\ NLs (tree 2 n A :: (List.flatMap (fun (u : Value)=>Array.toList (Value.cells u)) q1))) /\ Post (tree 1 (1 + m) (bP 1 (1 + m) (List.drop 0 ([(tree 2 n A)] ++ List.flatMap (fun (u : Value)=>Array.toList (Value.cells u)) q1))))))):=by kernel_rfl
def vcRz : bH:=aU [⟨57,wW⟩,⟨140,aDt⟩,⟨131,xQ⟩,⟨143,aDH⟩] aI
theorem aND (n m : Nat) (A B : Array Value) (H : HT) (Post : PV) : vcP Tryz.prog vcRz 67 [(6,[3,4,5])] [.agg #[tree 2 n A,tree 1 m B]] H Post = (let q1:=[Value.agg #[tree 2 n A,tree 1 m B]]; T2 (True /\ ∃ (o : List Pt),∃ (hs : List (List Pt)),eqL q1 [dA o hs] /\ aH o /\ aH hs /\ (∀ (h : List Pt),h ∈ hs -> aH h) /\ True /\ pIf (!decide (cA o hs = 0)) (T2 (Post (vi 0))) (T2 (∃ (o : List Pt),∃ (hs : List (List Pt)),eqL q1 [dA o hs] /\ length hs <= 8 /\ T4 (HP H 67 6 (stV [(3,some (vi 0)),(4,some (tree 1 (length (o :: hs)) (aB (o :: hs)))),(5,some (vi 0))] [] 0)))))):=by kernel_rfl
theorem aEv (n m q : Nat) (k s : Int) (A B C : Array Value) (H : HT) (Post : PV) : bX Tryz.prog vcRz 67 [.agg #[tree 2 n A,tree 1 m B]] [(6,[3,4,5])] 6 (stV [(3,some (vi s)),(4,some (tree 1 q C)),(5,some (vi k))] [] 0) H Post = (let q1:=aA C k.toNat 0; T4 (pIf (decide (k < (↑q : Int))) (T2 (True /\ (0 <= k /\ k < (↑q : Int)) /\ aA C k.toNat 0 = tree 2 (toN q1) (toE q1) /\ ∃ (l : List Pt),eqL [tree 2 (toN q1) (toE q1)] [aR l] /\ aH l /\ T4 (T2 (True /\ HP H 67 6 (stV [(3,some (vi (wrap i64 (s + cE l)))),(4,some (tree 1 q C)),(5,some (vi (wrap i64 (k + 1))))] [] 0))))) (T2 (True /\ Post (vi s))))):=by kernel_rfl
theorem aA6 : aZ Tryz.prog ⟨237,aEk⟩:=by
 rintro args Post ⟨a,b,c,rfl,ha,hb,hc,h⟩
 refine aN (vc:=aI) aD mixed (by kernel_rfl) (by kernel_rfl) _ (aKn a b c _ _) ?_
 simp only [true_and,oI ha hb hc]
 rcases lW (aY a b c) with ⟨h1,e⟩ | ⟨h1,e⟩ | ⟨h1,e⟩
 ·rw [e] at h
  exact ifD (fun _=>by omega) (fun _=>ifD (fun _=>h) (fun _=>by omega))
 ·rw [e] at h
  exact ifD (fun _=>by omega) (fun _=>ifD (fun _=>by omega) (fun _=>h))
 ·rw [e] at h
  exact ifD (fun _=>h) (fun _=>by omega)
theorem aM7 : aZ Tryz.prog ⟨236,aFN⟩:=by
 rintro args Post ⟨a,b,q,rfl,ha,hb,hq,h⟩
 refine aN (aM (by
  intro e he
  simp only [mem_cons,not_mem_nil,or_false] at he
  subst he
  exact aA6) aD) mixed (by kernel_rfl) (by kernel_rfl) _ (aPt a b q _ _) ?_
 simp only [true_and,aEj,aEa,aCD]
 have yes : onP a b q -> Post (.bool true):=fun hp=>by rwa [decide_eq_true hp] at h
 have no : ¬ onP a b q -> Post (.bool false):=fun hp=>by rwa [decide_eq_false hp] at h
 refine ⟨a,b,q,rfl,ha,hb,hq,ifD (fun h1=>?_) (fun h1=>no fun hp=>h1 hp.1)⟩
 refine ifD (fun h2=>?_) (fun h2=>no fun hp=>h2 hp.2.1)
 refine ifD (fun h3=>?_) (fun h3=>no fun hp=>h3 hp.2.2.1)
 refine ifD (fun h4=>?_) (fun h4=>no fun hp=>h4 hp.2.2.2.1)
 exact ifD (fun h5=>yes ⟨h1,h2,h3,h4,h5⟩) (fun h5=>no fun hp=>h5 hp.2.2.2.2)
theorem aOD : aW Tryz.prog vcRt:=aM (by
 intro e he
 simp only [mem_cons,not_mem_nil,or_false] at he
 rcases he with rfl | rfl
 ·exact aA6
 ·exact aM7) aD
theorem aGO : aZ Tryz.prog ⟨207,mT⟩:=by
 rintro args Post ⟨a,b,c,d,rfl,ha,hb,hc,hd,h⟩
 refine aN aOD mixed (by kernel_rfl) (by kernel_rfl) _ (aKt a b c d _ _) ?_
 simp only [true_and,zG]
 have yes : fH a b c d -> Post (.bool true):=fun hp=>by rwa [decide_eq_true hp] at h
 have no : ¬ fH a b c d -> Post (.bool false):=fun hp=>by rwa [decide_eq_false hp] at h
 refine ⟨a,b,c,rfl,ha,hb,hc,ifD (fun h1=>yes (.inl h1)) (fun h1=>?_)⟩
 refine ⟨a,b,d,rfl,ha,hb,hd,ifD (fun h2=>yes (.inr (.inl h2))) (fun h2=>?_)⟩
 refine ⟨c,d,a,rfl,hc,hd,ha,ifD (fun h3=>yes (.inr (.inr (.inl h3)))) (fun h3=>?_)⟩
 refine ⟨c,d,b,rfl,hc,hd,hb,ifD (fun h4=>yes (.inr (.inr (.inr (.inl h4))))) (fun h4=>?_)⟩
 have never : ¬ (aBL (aY a b c) (aY a b d) /\ aBL (aY c d a) (aY c d b)) -> Post (.bool false):=fun hn=>no (by
  rintro (h | h | h | h | h)
  ·exact h1 h
  ·exact h2 h
  ·exact h3 h
  ·exact h4 h
  ·exact hn h)
 refine ⟨a,b,c,rfl,ha,hb,hc,a,b,d,rfl,ha,hb,hd,ifD (fun h5=>?_) (fun h5=>never fun h=>h5 h.1)⟩
 exact ⟨c,d,a,rfl,hc,hd,ha,c,d,b,rfl,hc,hd,hb,ifD (fun h6=>yes (.inr (.inr (.inr (.inr ⟨h5,h6⟩))))) (fun h6=>never fun h=>h6 h.2)⟩
theorem vP : aW Tryz.prog aPD:=aM (by
 intro e he
 simp only [mem_cons,not_mem_nil,or_false] at he
 subst he
 exact aGO) aD
theorem aRF : aZ Tryz.prog ⟨132,aQw⟩:=by
 rintro args Post ⟨p,q,rfl,hp,hq,np,nq,h⟩
 have yes : cN p q -> Post (.bool true):=fun hp=>by rwa [decide_eq_true hp] at h
 have no : ¬ cN p q -> Post (.bool false):=fun hp=>by rwa [decide_eq_false hp] at h
 refine aN vP mixed (by kernel_rfl) (by kernel_rfl) _ (e_rcr p.length q.length (aB p) (aB q) _ _) ?_
 simp only [true_and]
 refine cS (n:=p.length) (p:=fun k=>(∀ i,i < k -> ∀ t,t < q.length -> ¬ fH (cyc p i) (cyc p (i + 1)) (cyc q t) (cyc q (t + 1))) -> OkP 132 [aR p,aR q] 2 Post (stV [(0,some (aR p)),(1,some (aR q)),(5,some (vi k))] [] 0)) (fun hall=>?_) (fun k h1 ih hall=>?_) (fun i hi=>by omega)
 ·refine aV vP mixed _ (aQJ p.length q.length p.length (aB p) (aB q) _ _) ?_
  simp only [true_and]
  refine ifD (fun hlt=>by omega) (fun _=>no ?_)
  rintro ⟨i,hi,t,ht,hm⟩
  exact hall i hi t ht hm
 ·have h0 : 0 < p.length:=by omega
  refine aV vP mixed _ (aQJ p.length q.length k (aB p) (aB q) _ _) ?_
  simp only [true_and]
  refine ifD (fun _=>?_) (fun h'=>by omega)
  refine cS (n:=q.length) (p:=fun j=>(∀ t,t < j -> ¬ fH (cyc p k) (cyc p (k + 1)) (cyc q t) (cyc q (t + 1))) -> OkP 132 [aR p,aR q] 5 Post (stV [(0,some (aR p)),(1,some (aR q)),(5,some (vi k)),(6,some (vi j))] [] 0)) (fun hin=>?_) (fun j j1 jh hin=>?_) (fun i hi=>by omega)
  ·refine aV vP mixed _ (aQR p.length q.length k q.length (aB p) (aB q) _ _) ?_
   simp only [true_and,and_true,aJ (show k < 2 ^ 62 by omega)]
   refine ifD (fun hlt=>by omega) (fun _=>ih fun i hi t ht=>?_)
   rcases lt_or_ge i k with h' | h'
   ·exact hall i h' t ht
   ·rw [show i = k by omega]; exact hin t ht
  ·have q0 : 0 < q.length:=by omega
   have hk : ((k : Nat) : Int).toNat = k:=toNat_natCast k
   have hk1 : (((k + 1) % p.length : Nat) : Int).toNat = (k + 1) % p.length:=toNat_natCast _
   have hj : ((j : Nat) : Int).toNat = j:=toNat_natCast j
   have hj1 : (((j + 1) % q.length : Nat) : Int).toNat = (j + 1) % q.length:=toNat_natCast _
   have hm:=Nat.mod_lt (k + 1) h0
   have hmj:=Nat.mod_lt (j + 1) q0
   obtain ⟨c0,c1⟩:=cK h1
   obtain ⟨d0,d1⟩:=dV h0 (k + 1)
   obtain ⟨f0,f1⟩:=cK j1
   obtain ⟨g0,g1⟩:=dV q0 (j + 1)
   refine aV vP mixed _ (aQR p.length q.length k j (aB p) (aB q) _ _) ?_
   simp only [true_and,and_true,hk,hj,tmN,hk1,hj1,c0,c1,d0,d1,f0,f1,g0,g1,aQ,aJ (show k < 2 ^ 62 by omega),aJ (show j < 2 ^ 62 by omega)]
   refine ifD (fun _=>⟨⟨by omega,by omega⟩,fun h=>by omega,⟨by omega,by omega⟩,⟨by omega,by omega⟩,fun h=>by omega,⟨by omega,by omega⟩,cyc p k,cyc p (k + 1),cyc q j,cyc q (j + 1),rfl,bR np h0 k,bR np h0 (k + 1),bR nq q0 j,bR nq q0 (j + 1),ifD (fun hm=>yes ⟨k,h1,j,j1,hm⟩) (fun hm=>jh fun t ht=>?_)⟩) (fun h'=>by omega)
   rcases lt_or_ge t j with h' | h'
   ·exact hin t h'
   ·rw [show t = j by omega]; exact hm
theorem vS : aW Tryz.prog aPo:=aM (by
 intro e he
 simp only [mem_cons,not_mem_nil,or_false] at he
 rcases he with rfl | rfl | rfl | rfl
 ·exact aAR
 ·exact aFX
 ·exact aRF
 ·exact aHn) aD
theorem aFc {l : List Pt} (h : 0 < l.length) : aA (aB l) 0 0 = .int .i64 (cor l 0).x /\ aA (aB l) 0 1 = .int .i64 (cor l 0).y:=by
 have:=cK h
 rwa [gN h] at this
theorem qV (o : List Pt) (hs : List (List Pt)) (i : Nat) : kO o hs i = if aO (hs.getD i []) ≠ 0 then aO (hs.getD i []) else if 0 <= cE (hs.getD i []) ∨ cN o (hs.getD i []) ∨ cL o (cor (hs.getD i []) 0) ≠ 1 ∨ ∃ k,k < i /\ (cN (hs.getD i []) (hs.getD k []) ∨ cL (hs.getD i []) (cor (hs.getD k []) 0) ≠ -1 ∨ cL (hs.getD k []) (cor (hs.getD i []) 0) ≠ -1) then 17 else 0:=by
 unfold kO
 simp only [dU,tT,kP]
theorem aBy {o : List Pt} {hs : List (List Pt)} {i : Nat} (h : kO o hs i = 0) : aO (hs.getD i []) = 0:=by
 rw [qV] at h
 by_cases h1 : aO (hs.getD i []) = 0
 ·exact h1
 ·rw [if_pos h1] at h; exact absurd h h1
theorem aBO : aZ Tryz.prog ⟨57,wW⟩:=by
 rintro args Post ⟨o,hs,rfl,so,ss,sh,h⟩
 refine aN vS mixed (by kernel_rfl) (by kernel_rfl) _ (aLQ o.length hs.length (aB o) (aB hs) _ _) ?_
 simp only [true_and]
 rw [aBF] at h
 unfold pU at h
 rw [← dU,← tT] at h
 refine ifD (fun h1=>?_) (fun h1=>⟨o,rfl,so,ifN (fun h2=>?_) (fun h2=>⟨o,rfl,so,ifD (fun h3=>?_) (fun h3=>?_)⟩)⟩)
 ·rwa [if_pos (by omega)] at h
 ·rwa [if_neg (by omega),if_pos h2] at h
 ·rwa [if_neg (by omega),if_neg (fun h=>h h2),if_pos h3] at h
 rw [if_neg (by omega),if_neg (fun h=>h h2),if_neg h3] at h
 obtain ⟨o3,o32,on⟩:=cV h2
 refine cS (n:=hs.length) (p:=fun k=>(∀ i,i < k -> kO o hs i = 0) -> OkP 57 [dA o hs] 9 Post (stV [(1,some (pt 0)),(4,some (vi k))] [(0,some (.cells [aR o,eX hs] true))] 1)) (fun hall=>?_) (fun k k1 ih hall=>?_) (fun i hi=>by omega)
 ·refine aV vS mixed _ (aGn o.length hs.length hs.length (aB o) (aB hs) _ _) ?_
  rw [eF.2 hall] at h
  simp only [true_and]
  exact ifD (fun hlt=>by omega) (fun _=>h)
 ·refine aV vS mixed _ (aGn o.length hs.length k (aB o) (aB hs) _ _) ?_
  have hk : ((k : Nat) : Int).toNat = k:=toNat_natCast k
  have bad : ∀ e : Int,kO o hs k = e -> e ≠ 0 -> Post (.int .i64 e):=fun e he hn=>by
   rw [mW k1 hall (by rw [he]; exact hn),he] at h
   exact h
  have gd : hs.getD k [] = hs[k]:=dC k1
  rw [qV,gd] at bad
  have sk:=sh _ (getElem_mem k1)
  simp only [true_and,and_true,hk,mA k1,cH,cG]
  refine ifD (fun _=>⟨⟨by omega,by omega⟩,hs[k],rfl,sk,ifN (fun g1=>bad _ (by rw [if_pos g1]) g1) (fun g1=>?_)⟩) (fun h'=>by omega)
  obtain ⟨k3,k32,kn⟩:=cV g1
  rw [if_neg (fun h=>h g1)] at bad
  obtain ⟨c0,c1⟩:=aFc (l:=hs[k]) (by omega)
  simp only [c0,c1,aQ,true_and,and_true]
  have b17 : (0 <= cE hs[k] ∨ cN o hs[k] ∨ cL o (cor hs[k] 0) ≠ 1 ∨ ∃ j,j < k /\ (cN hs[k] (hs.getD j []) ∨ cL hs[k] (cor (hs.getD j []) 0) ≠ -1 ∨ cL (hs.getD j []) (cor hs[k] 0) ≠ -1)) -> Post (.int .i64 17):=fun hb=>bad 17 (by rw [if_pos hb]) (by decide)
  refine ⟨hs[k],rfl,sk,ifD (fun g2=>b17 (.inl g2)) (fun g2=>⟨o,hs[k],rfl,o32,k32,on,kn,ifD (fun g3=>b17 (.inr (.inl g3))) (fun g3=>⟨⟨by omega,by omega⟩,o,cor hs[k] 0,rfl,so,ifN (fun g4=>b17 (.inr (.inr (.inl g4)))) (fun g4=>?_)⟩)⟩)⟩
  refine cS (n:=k) (p:=fun j=>(∀ t,t < j -> ¬ (cN hs[k] (hs.getD t []) ∨ cL hs[k] (cor (hs.getD t []) 0) ≠ -1 ∨ cL (hs.getD t []) (cor hs[k] 0) ≠ -1)) -> OkP 57 [dA o hs] 18 Post (stV [(1,some (pt 0)),(4,some (vi k)),(5,some (aR hs[k])),(7,some (vi j))] [(0,some (.cells [aR o,eX hs] true))] 1)) (fun hin=>?_) (fun j j1 jh hin=>?_) (fun i hi=>by omega)
  ·refine aV vS mixed _ (aEJ o.length hs.length hs[k].length k k (aB o) (aB hs) (aB hs[k]) _ _) ?_
   simp only [true_and,aJ (show k < 2 ^ 62 by omega)]
   refine ifD (fun hlt=>by omega) (fun _=>ih fun i hi=>?_)
   rcases lt_or_ge i k with h' | h'
   ·exact hall i h'
   ·rw [show i = k by omega,qV,gd,if_neg (fun h=>h g1),if_neg]
    rintro (h | h | h | ⟨t,ht,h⟩)
    ·exact g2 h
    ·exact g3 h
    ·exact h g4
    ·exact hin t ht h
  ·have jl : j < hs.length:=by omega
   have jd : hs.getD j [] = hs[j]:=dC jl
   have jz : aO hs[j] = 0:=by rw [← jd]; exact aBy (hall j j1)
   obtain ⟨j3,j32,jn⟩:=cV jz
   have hj : ((j : Nat) : Int).toNat = j:=toNat_natCast j
   obtain ⟨d0,d1⟩:=aFc (l:=hs[j]) (by omega)
   refine aV vS mixed _ (aEJ o.length hs.length hs[k].length k j (aB o) (aB hs) (aB hs[k]) _ _) ?_
   simp only [true_and,and_true,hj,mA jl,cH,cG,c0,c1,d0,d1,aQ,aJ (show j < 2 ^ 62 by omega)]
   have b2 : (cN hs[k] hs[j] ∨ cL hs[k] (cor hs[j] 0) ≠ -1 ∨ cL hs[j] (cor hs[k] 0) ≠ -1) -> Post (.int .i64 17):=fun hb=>b17 (.inr (.inr (.inr ⟨j,j1,by rw [jd]; exact hb⟩)))
   refine ifD (fun _=>⟨⟨by omega,by omega⟩,hs[k],hs[j],rfl,k32,j32,kn,jn,ifD (fun a1=>b2 (.inl a1)) (fun a1=>⟨⟨by omega,by omega⟩,⟨by omega,by omega⟩,hs[k],cor hs[j] 0,rfl,sk,ifN (fun a2=>b2 (.inr (.inl a2))) (fun a2=>⟨⟨by omega,by omega⟩,⟨by omega,by omega⟩,hs[j],cor hs[k] 0,rfl,sh _ (getElem_mem jl),ifN (fun a3=>b2 (.inr (.inr a3))) (fun a3=>jh fun t ht=>?_)⟩)⟩)⟩) (fun h'=>by omega)
   rcases lt_or_ge t j with h' | h'
   ·exact hin t h'
   ·rw [show t = j by omega,jd]
    rintro (h | h | h)
    ·exact a1 h
    ·exact h a2
    ·exact h a3
theorem aHt : aZ Tryz.prog ⟨140,aDt⟩:=by
 rintro args Post ⟨o,hs,rfl,h8,h⟩
 refine aN aD mixed (by kernel_rfl) (by kernel_rfl) _ (aKo o.length hs.length (aB o) (aB hs) _ _) ?_
 simp only [true_and,aAy]
 have en : aB (o :: hs) = (aR o :: hs.map fun a=>aR a).toArray:=by
  unfold aB
  rw [map_cons]
  rfl
 refine aE (fun hm=>?_) (fun hm=>?_)
 ·have : hs = []:=List.eq_nil_of_length_eq_zero (Nat.eq_of_beq_eq_true hm)
  subst this
  refine ⟨⟨Nat.le_refl _,fun v hv=>?_⟩,h⟩
  simp only [mem_cons,not_mem_nil,or_false] at hv
  subst hv
  rfl
 ·have nls : NLs (aR o :: hs.map fun a=>aR a):=fun v hv=>by
   rcases List.mem_cons.1 hv with rfl | hv
   ·rfl
   ·obtain ⟨a,_,rfl⟩:=List.mem_map.1 hv
    rfl
  refine ⟨by omega,?_,by rw [List.length_map,Nat.mul_one],⟨?_,nls⟩,?_⟩
  ·rw [List.all_eq_true]
   intro v hv
   obtain ⟨a,_,rfl⟩:=List.mem_map.1 hv
   rfl
  ·simp
   omega
  ·have e : tree 1 (1 + hs.length) (bP 1 (1 + hs.length) (List.drop 0 ([aR o] ++ hs.map fun a=>aR a))) = eX (o :: hs):=by
    have ec : bP 1 (1 + hs.length) (List.drop 0 ([aR o] ++ hs.map fun a=>aR a)) = aB (o :: hs):=by
     rw [en]
     show ((List.drop 0 (aR o :: hs.map fun a=>aR a)).take (1 + hs.length)).toArray = _
     rw [List.drop_zero,List.take_of_length_le (by simp; omega)]
    rw [ec,Nat.add_comm]
    rfl
   rw [e]
   exact h
theorem aD7 : aW Tryz.prog vcRz:=aM (by
 intro e he
 simp only [mem_cons,not_mem_nil,or_false] at he
 rcases he with rfl | rfl | rfl | rfl
 ·exact aBO
 ·exact aHt
 ·exact aFX
 ·exact aN8) aD
theorem aKS : aZ Tryz.prog ⟨67,aBp⟩:=by
 rintro args Post ⟨o,hs,rfl,so,ss,sh,h⟩
 refine aN aD7 mixed (by kernel_rfl) (by kernel_rfl) _ (aND o.length hs.length (aB o) (aB hs) _ _) ?_
 simp only [true_and]
 unfold rArea at h
 refine ⟨o,hs,rfl,so,ss,sh,ifN (fun h1=>?_) (fun h1=>?_)⟩
 ·rwa [if_neg h1] at h
 rw [if_pos h1] at h
 have h8:=((cX o hs).1 h1).few
 refine ⟨o,hs,rfl,h8,?_⟩
 refine cS (n:=(o :: hs).length) (p:=fun k=>OkP 67 [dA o hs] 6 Post (stV [(3,some (vi (bM (dZ cE o hs) k))),(4,some (eX (o :: hs))),(5,some (vi k))] [] 0)) ?_ (fun k k1 ih=>?_)
 ·refine aV aD7 mixed _ (aEv o.length hs.length (o :: hs).length (o :: hs).length (bM (dZ cE o hs) (o :: hs).length) (aB o) (aB hs) (aB (o :: hs)) _ _) ?_
  simp only [true_and]
  exact ifD (fun hlt=>by omega) (fun _=>h)
 ·refine aV aD7 mixed _ (aEv o.length hs.length (o :: hs).length k (bM (dZ cE o hs) k) (aB o) (aB hs) (aB (o :: hs)) _ _) ?_
  have hk : ((k : Nat) : Int).toNat = k:=toNat_natCast k
  have kl : k < 32:=by rw [List.length_cons] at k1; omega
  simp only [true_and,and_true,hk,mA k1,cH,cG,aJ (show k < 2 ^ 62 by omega)]
  refine ifD (fun _=>⟨⟨by omega,by omega⟩,(o :: hs)[k],rfl,xM so sh _ (getElem_mem k1),?_⟩) (fun h'=>by omega)
  have e : cE (o :: hs)[k] = dZ cE o hs k:=by unfold dZ; rw [dC k1]
  rw [e,rQ (fun l=>by have:=aAv l; omega) kl]
  exact ih
end Go.Proofs.YtngginofamlkkaaGreatDoor
noncomputable section
namespace Go.Proofs.YtngginofamlkkaaGreatDoor
open Go Go.RowKit Go.Shelf
set_option maxRecDepth 100000
set_option maxHeartbeats 4000000
def renC : Ren:=⟨fun x=>if x = 15 then 136 else x,fun x=>if x = 22 then 88 else if x = 3 then 3 else if x = 4 then 4 else x,fun x=>x⟩
theorem aMd : Lays2.n15 Tryz.prog renC where
 mixed:=by kernel_rfl
 f15:=by kernel_rfl
 t3:=by kernel_rfl
 a3:=fun w=>by kernel_rfl
 z3:=fun w=>by kernel_rfl
 v3:=fun w=>by kernel_rfl
 t4:=by kernel_rfl
 a4:=fun w=>by kernel_rfl
 z4:=fun w=>by kernel_rfl
 v4:=fun w=>by kernel_rfl
 t22:=by kernel_rfl
 a22:=fun w=>by kernel_rfl
 z22:=fun w=>by kernel_rfl
 v22:=fun w=>by kernel_rfl
 i3:=by kernel_rfl
def aIh (args : List Value) (Post : Value -> Prop) : Prop:=∃ l : List Int,args = [tree 1 l.length (aB l)] /\ l.length <= 17592186044416 /\ Post (tree 1 l.length (aB l))
theorem aMC {l : List Int} {i : Nat} {u : Value} (h : (aB l)[i]? = some u) : ∃ (hi : i < l.length),u = .int .i64 l[i]:=by
 have e : aB l = (l.map fun n=>Value.int .i64 n).toArray:=rfl
 rw [e,List.getElem?_toArray,List.getElem?_map] at h
 rcases Nat.lt_or_ge i l.length with hi | hi
 ·rw [List.getElem?_eq_getElem hi] at h
  cases h
  exact ⟨hi,rfl⟩
 ·rw [List.getElem?_eq_none hi] at h
  cases h
theorem aPy {u v : Value} {n : Int} {j : Nat} (hu : u = .int .i64 n) (h : u.cells[j]? = some v) : j = 0 /\ v = .int .i64 n:=by
 subst hu
 have e : (Value.int .i64 n).cells = #[.int .i64 n]:=rfl
 rw [e] at h
 cases j with
 | zero=>simp at h; exact ⟨rfl,h.symm⟩
 | succ j=>simp at h
theorem aJr {ρ : Place} {W : Base} {w w' : World} (h : Rel ρ W .e 0 w') {g : Nat} {ob : Obj} (hg : w.heap.size <= g) (hw : W.w.heap.size <= w.heap.size) (hf : ∀ x,ρ.fr g = some x -> False) (ho : w'.heap[g]? = some ob) :
  Rel (ρ.freeze g ob) W .e 0 w' /\ (ρ.freeze g ob).fr g = some ob /\ StepG 0 ρ (ρ.freeze g ob):=by
 have hn : ρ.fr g = none:=by
  cases hx : ρ.fr g with
  | none=>rfl
  | some x=>exact (hf x hx).elim
 have key : ∀ c x,(ρ.freeze g ob).fr c = some x -> ρ.fr c = some x ∨ (c = g /\ x = ob):=fun c x hc=>by
  have hc : (match ρ.fr c with | some o=>some o | none=>if c = g then some ob else none) = some x:=hc
  cases hx : ρ.fr c with
  | some y=>rw [hx] at hc; exact .inl hc
  | none =>
   rw [hx] at hc
   dsimp only at hc
   split at hc
   ·cases hc; exact .inr ⟨by assumption,rfl⟩
   ·cases hc
 have gg : (ρ.freeze g ob).fr g = some ob:=by
  show (match ρ.fr g with | some o=>some o | none=>if g = g then some ob else none) = _
  rw [hn]
  dsimp only
  rw [if_pos rfl]
 have le : ∀ c x,ρ.fr c = some x -> (ρ.freeze g ob).fr c = some x:=fun c x hc=>by
  show (match ρ.fr c with | some o=>some o | none=>if c = g then some ob else none) = _
  rw [hc]
 have he : ∀ b,(Tr.e : Tr AObj).get b = none:=fun b=>by simp [Tr.get]
 refine ⟨⟨h.dom,fun b o c s z hb=>(by rw [he] at hb; cases hb),fun b b' x x' o o' hb=>(by rw [he] at hb; cases hb),h.fresh,h.below,fun c x hc=>?_,fun b o c s z hb=>(by rw [he] at hb; cases hb),fun c x hc=>?_⟩,gg,⟨fun b x hb=>by omega,le⟩⟩
 ·rcases key c x hc with h1 | ⟨rfl,rfl⟩
  ·exact h.frz c x h1
  ·exact ho
 ·rcases key c x hc with h1 | ⟨rfl,rfl⟩
  ·exact h.frn c x h1
  ·exact .inr fun ho=>by have:=ho.1; omega
theorem aMR : aZ Tryz.prog ⟨136,aIh⟩:=by
 rintro args Post ⟨l,rfl,hl,h⟩
 intro W ρ w args' hrel hargs
 cases hargs with
 | cons hv hnil =>
 cases hnil
 generalize hn' : l.length = n' at hv
 generalize he' : aB l = els' at hv
 cases hv with
 | @tree sz n cap c o els cs t fz hb h1 h2 h3 h4 h5 =>
  subst hn' he'
  have hheap:=hrel.frz c _ hb
  have cells : ∀ j,j < l.length -> w.cell? ⟨c,o + j,none⟩ = some (.int .i64 (l.getD j 0)):=fun j hj=>by
   have hlt : o + j < cs.size:=by omega
   have e : (aB l)[j]? = some (.int .i64 l[j]):=by
    have e : aB l = (l.map fun n=>Value.int .i64 n).toArray:=rfl
    rw [e,List.getElem?_toArray,List.getElem?_map,List.getElem?_eq_getElem hj]
    rfl
   have r:=h5 j 0 _ (.int .i64 l[j]) cs[o + j] e rfl (by rw [Nat.mul_one,Nat.add_zero]; exact Array.getElem?_eq_getElem hlt)
   unfold World.cell?
   dsimp only
   rw [hheap]
   dsimp only
   rw [Array.getElem?_eq_getElem hlt,List.getD_eq_getElem?_getD,List.getElem?_eq_getElem hj]
   generalize cs[o + j] = q at r
   cases r
   rfl
  have key : Calls Tryz.prog 136 #[.slice (some ⟨c,o,none⟩) l.length cap] w _:=Any.slices_Clone_int aMd c o l.length cap l w (Nat.le_refl _) (by omega) cells
  refine key.mono ?_
  rintro e w' ⟨v',rfl,⟨hlen,hown⟩,hne,hbel⟩
  rcases hown with ⟨rfl,h0⟩ | ⟨g,cap',cur,rfl,hg,hcur,hn,hcap,hsz,htk⟩
  ·exact absurd rfl hne
  have hr1:=hrel.later hbel
  obtain ⟨r1,r2,r3⟩:=aJr hr1 hg hrel.below.size (fun x hx=>by
   have:=hrel.frz g x hx
   rw [Array.getElem?_eq_none hg] at this
   cases this) hcur
  refine ⟨tree 1 l.length (aB l),.e,0,_,_,h,rfl,VR0.tree r2 (by rw [show (aB l).size = l.length by unfold aB; simp]) hn (by omega) (fun i u hu=>?_) (fun i j u v v' hu hv hv'=>?_),r1,r3⟩
  ·obtain ⟨hi,rfl⟩:=aMC hu
   rfl
  ·obtain ⟨hi,e⟩:=aMC hu
   obtain ⟨rfl,rfl⟩:=aPy e hv
   have hc : cur.toList[i]? = some (.int .i64 l[i]):=by
    have : (cur.toList.take (l.length * 1))[i]? = some (.int .i64 l[i]):=by
     rw [htk,List.take_length,List.getElem?_map,List.getElem?_eq_getElem hi]
     rfl
    rw [List.getElem?_take,if_pos (by omega)] at this
    exact this
   rw [Nat.mul_one,Nat.add_zero,Nat.zero_add,← Array.getElem?_toList,hc] at hv'
   cases hv'
   exact .int _ _
 | treeNil sz a cap =>
  have l0 : l = []:=List.eq_nil_of_length_eq_zero hn'
  subst l0
  have back : ∀ (a : Option Addr) (cap : Nat),VR0 ρ.fr (tree 1 ([] : List Int).length (aB ([] : List Int))) (.slice a 0 cap):=fun a cap=>.treeNil _ _ _
  cases a with
  | none =>
   have key : Calls Tryz.prog 136 #[.slice none 0 cap] w _:=Any.slices_Clone_int_nil aMd 0 cap w
   refine key.mono ?_
   rintro e w' ⟨rfl,rfl⟩
   exact ⟨_,.e,0,_,ρ,h,rfl,back _ _,hrel,.refl _ _⟩
  | some a =>
   have key : Calls Tryz.prog 136 #[.slice (some a) 0 cap] w _:=Any.slices_Clone_int_zero aMd a cap w
   refine key.mono ?_
   rintro e w' ⟨v',rfl,⟨hlen,hown⟩,hne,hbel⟩
   rcases hown with ⟨rfl,h0⟩ | ⟨g,cap',cur,rfl,hg,hcur,hn,hcap,hsz,htk⟩
   ·exact absurd rfl hne
   ·exact ⟨_,.e,0,_,ρ,h,rfl,back _ _,hrel.later hbel,.refl _ _⟩
end Go.Proofs.YtngginofamlkkaaGreatDoor

noncomputable section
namespace Go.Proofs.YtngginofamlkkaaGreatDoor
open Go Go.RowKit Go.ChangeShapes Go.WideShapes Go.ChangeAt Go.Deep Go.Joins
set_option maxRecDepth 100000
structure Grade4 where
 name : ByteArray
 dens : Int
 yld : Int
 gauges : List Int
 deriving DecidableEq
structure Sect4 where
 name : ByteArray
 area : Int
 height : Int
 stock : Int
 deriving DecidableEq
structure Mats where
 grades : List Grade4
 sects : List Sect4
 deriving DecidableEq
instance : Enc Grade4 where
 sz:=4
 cells p:=[.string p.name,.int .i64 p.dens,.int .i64 p.yld,tree 1 p.gauges.length (aB p.gauges)]
 len _:=rfl
 nl p:=by intro v hv; simp at hv; rcases hv with rfl | rfl | rfl | rfl <;> rfl
instance : Enc Sect4 where
 sz:=4
 cells p:=[.string p.name,.int .i64 p.area,.int .i64 p.height,.int .i64 p.stock]
 len _:=rfl
 nl p:=by intro v hv; simp at hv; rcases hv with rfl | rfl | rfl | rfl <;> rfl
def dO (m : Mats) : List Value:=[tree 4 m.grades.length (aB m.grades),tree 4 m.sects.length (aB m.sects)]
abbrev bD (m : Mats) : Value:=.agg (dO m).toArray
instance : Enc Mats where
 sz:=2
 cells:=dO
 len _:=rfl
 nl p:=by intro v hv; simp [dO] at hv; rcases hv with rfl | rfl <;> rfl
variable {w : World}
end Go.Proofs.YtngginofamlkkaaGreatDoor

noncomputable section
namespace Go.Proofs.YtngginofamlkkaaGreatDoor
open Go Go.RowKit
open Int (toNat_natCast)
open Go.IntKind (i64 wrap)
open List (length mem_cons not_mem_nil)
open Nat (lt_or_ge)
set_option maxRecDepth 100000
set_option maxHeartbeats 8000000
abbrev aL1 (g : Grade4) : Value:=.agg #[.string g.name,.int .i64 g.dens,.int .i64 g.yld,tree 1 g.gauges.length (aB g.gauges)]
abbrev sectV (s : Sect4) : Value:=.agg #[.string s.name,.int .i64 s.area,.int .i64 s.height,.int .i64 s.stock]
def aGx : Grade4:=⟨⟨#[]⟩,0,0,[]⟩
def aMF : Sect4:=⟨⟨#[]⟩,0,0,0⟩
structure First {α : Type} (l : List α) (p : α -> Prop) (i : Int) : Prop where
 no : i < 0 -> ∀ a ∈ l,¬ p a
 yes : 0 <= i -> ∃ k,∃ hk : k < l.length,i = (k : Int) /\ p l[k] /\ ∀ j (hj : j < l.length),j < k -> ¬ p l[j]
abbrev fnG : Value:=.func (.func 135) #[] #[.pointer (some ⟨0,0,none⟩)]
abbrev fnS : Value:=.func (.func 138) #[] #[.pointer (some ⟨0,0,none⟩)]
def aNu (args : List Value) (conts : List (List Value)) (Post : Out -> List (List Value) -> Prop) : Prop:=∃ (l : List Grade4) (s : ByteArray),args = [tree 4 l.length (aB l),fnG] /\ conts = [[.string s]] /\ aH l /\ ∀ i : Int,First l (fun g=>g.name = s) i -> Post (.ret (.int .i64 i)) [[.string s]]
def aLj (args : List Value) (conts : List (List Value)) (Post : Out -> List (List Value) -> Prop) : Prop:=∃ (l : List Sect4) (s : ByteArray),args = [tree 4 l.length (aB l),fnS] /\ conts = [[.string s]] /\ aH l /\ ∀ i : Int,First l (fun g=>g.name = s) i -> Post (.ret (.int .i64 i)) [[.string s]]
def aBq : eE:=aMh Tryz.prog [135,138] (ofV aI) 2
theorem aS2 (n : Nat) (s : ByteArray) (A : Array Value) (H : HT) (Post : PX) : vcX Tryz.prog aBq 134 [(2,[0,1,7,8])] [[.string s]] [tree 4 n A,fnG] H Post = (T4 (True /\ (True /\ True) /\ HP H 134 2 (stV [(0,some (tree 4 n A)),(1,some (Value.func (Fn.func 135) #[] #[pt 0])),(7,some (vi (↑n : Int))),(8,some (vi 0))] [(0,some (AObj.cells [vs s] true))] 1))):=by kernel_rfl
theorem aMS (n : Nat) (s : ByteArray) (k : Int) (A : Array Value) (H : HT) (Post : PX) : aOF Tryz.prog aBq 134 [tree 4 n A,fnG] [(2,[0,1,7,8])] 1 2 (stV [(0,some (tree 4 n A)),(1,some fnG),(7,some (vi n)),(8,some (vi k))] [(0,some (.cells [.string s] true))] 1) H Post = (let q1:=((True /\ True) /\ True) /\ True; True /\ pIf (decide (k < (↑n : Int))) (T4 (True /\ (0 <= k /\ k < (↑n : Int)) /\ (aA A k.toNat 0 = vs (toS (aA A k.toNat 0)) /\ aA A k.toNat 1 = vi (toI (aA A k.toNat 1)) /\ aA A k.toNat 2 = vi (toI (aA A k.toNat 2)) /\ aA A k.toNat 3 = tree 1 (toN (aA A k.toNat 3)) (toE (aA A k.toNat 3)) /\ True) /\ T4 (T2 (pIf (decide (toS (aA A k.toNat 0) = s)) (T2 (True /\ q1 /\ true = true /\ Post (Out.ret (vi k)) [[vs s]])) (T4 ((True /\ True) /\ HP H 134 2 (stV [(0,some (tree 4 n A)),(1,some (Value.func (Fn.func 135) #[] #[pt 0])),(7,some (vi (↑n : Int))),(8,some (vi (wrap i64 (k + 1))))] [(0,some (AObj.cells [vs s] true))] 1))))))) (True /\ q1 /\ true = true /\ Post (Out.ret (vi (-1))) [[vs s]])):=by kernel_rfl
theorem aRH (n : Nat) (s : ByteArray) (A : Array Value) (H : HT) (Post : PX) : vcX Tryz.prog aBq 137 [(2,[0,1,7,8])] [[.string s]] [tree 4 n A,fnS] H Post = (T4 (True /\ (True /\ True) /\ HP H 137 2 (stV [(0,some (tree 4 n A)),(1,some (Value.func (Fn.func 138) #[] #[pt 0])),(7,some (vi (↑n : Int))),(8,some (vi 0))] [(0,some (AObj.cells [vs s] true))] 1))):=by kernel_rfl
theorem aLw (n : Nat) (s : ByteArray) (k : Int) (A : Array Value) (H : HT) (Post : PX) : aOF Tryz.prog aBq 137 [tree 4 n A,fnS] [(2,[0,1,7,8])] 1 2 (stV [(0,some (tree 4 n A)),(1,some fnS),(7,some (vi n)),(8,some (vi k))] [(0,some (.cells [.string s] true))] 1) H Post = (let q1:=((True /\ True) /\ True) /\ True; True /\ pIf (decide (k < (↑n : Int))) (T4 (True /\ (0 <= k /\ k < (↑n : Int)) /\ (aA A k.toNat 0 = vs (toS (aA A k.toNat 0)) /\ aA A k.toNat 1 = vi (toI (aA A k.toNat 1)) /\ aA A k.toNat 2 = vi (toI (aA A k.toNat 2)) /\ aA A k.toNat 3 = vi (toI (aA A k.toNat 3)) /\ True) /\ T4 (T2 (pIf (decide (toS (aA A k.toNat 0) = s)) (T2 (True /\ q1 /\ true = true /\ Post (Out.ret (vi k)) [[vs s]])) (T4 ((True /\ True) /\ HP H 137 2 (stV [(0,some (tree 4 n A)),(1,some (Value.func (Fn.func 138) #[] #[pt 0])),(7,some (vi (↑n : Int))),(8,some (vi (wrap i64 (k + 1))))] [(0,some (AObj.cells [vs s] true))] 1))))))) (True /\ q1 /\ true = true /\ Post (Out.ret (vi (-1))) [[vs s]])):=by kernel_rfl
def qD (m : Mats) (s : ByteArray) : Option Grade4:=m.grades.find? fun g=>decide (g.name = s)
def aBd (m : Mats) (s : ByteArray) : Option Sect4:=m.sects.find? fun g=>decide (g.name = s)
structure FewM (m : Mats) : Prop where
 gr : aH m.grades
 se : aH m.sects
 ga : ∀ g ∈ m.grades,g.gauges.length <= 17592186044416
def aX (m : Mats) (s : ByteArray) : Grade4:=(qD m s).getD aGx
def bZ (m : Mats) (s : ByteArray) : Sect4:=(aBd m s).getD aMF
def mP (m : Mats) (s : ByteArray) : Prop:=(qD m s).isSome = true
def oV (m : Mats) (s : ByteArray) : Prop:=(aBd m s).isSome = true
instance (m : Mats) (s : ByteArray) : Decidable (mP m s):=by unfold mP; infer_instance
instance (m : Mats) (s : ByteArray) : Decidable (oV m s):=by unfold oV; infer_instance
def zK (args : List Value) (Post : Value -> Prop) : Prop:=∃ (m : Mats) (s : ByteArray),args = [bD m,.string s] /\ FewM m /\ Post (.tuple #[aL1 (aX m s),.bool (decide (mP m s))])
def sS (args : List Value) (Post : Value -> Prop) : Prop:=∃ (m : Mats) (s : ByteArray),args = [bD m,.string s] /\ FewM m /\ Post (.tuple #[sectV (bZ m s),.bool (decide (oV m s))])
def kW (m : Mats) (s : ByteArray) (t : Int) : Prop:=mP m s /\ t ∈ (aX m s).gauges
instance (m : Mats) (s : ByteArray) (t : Int) : Decidable (kW m s t):=by unfold kW; infer_instance
def aFe (args : List Value) (Post : Value -> Prop) : Prop:=∃ (m : Mats) (s : ByteArray) (t : Int),args = [bD m,.string s,.int .i64 t] /\ FewM m /\ Post (.bool (decide (kW m s t)))
def aLp (args : List Value) (Post : Value -> Prop) : Prop:=∃ (l : List Int) (v : Int),args = [tree 1 l.length (aB l),.int .i64 v] /\ aH l /\ ∀ i : Int,(0 <= i ↔ v ∈ l) -> Post (.int .i64 i)
def aLk (args : List Value) (Post : Value -> Prop) : Prop:=∃ (l : List Int) (v : Int),args = [tree 1 l.length (aB l),.int .i64 v] /\ aH l /\ Post (.bool (decide (v ∈ l)))
def aGT : eE:=qK [⟨134,aNu⟩,⟨137,aLj⟩] (ofV (aU [⟨136,aIh⟩] aI))
theorem aOl (n m : Nat) (s : ByteArray) (A B : Array Value) (H : HT) (Post : PX) : vcX Tryz.prog aGT 62 [] [] [.agg #[tree 4 n A,tree 4 m B],.string s] H Post = (let q1:=True /\ (T4 (True)) /\ True /\ True; T4 (T2 (True /\ ∃ (l : List Grade4),∃ (s_1 : ByteArray),eqL [tree 4 n A,Value.func (Fn.func 135) #[] #[pt 0]] [tree 4 l.length (aB l),Value.func (Fn.func 135) #[] #[pt 0]] /\ [[vs s]] = [[vs s_1]] /\ aH l /\ ∀ (i : Int),First l (fun (g : Grade4)=>g.name = s_1) i -> 1 = 1 /\ T2 (True /\ pIf (decide (i < 0)) (True /\ 4 <= 4 /\ True /\ q1 /\ true = true /\ Post (Out.ret (Value.tuple #[Value.agg #[vz,vi 0,vi 0,tree 1 0 #[]],vb false])) []) (T2 (True /\ (0 <= i /\ i < (↑n : Int)) /\ (aA A i.toNat 0 = vs (toS (aA A i.toNat 0)) /\ aA A i.toNat 1 = vi (toI (aA A i.toNat 1)) /\ aA A i.toNat 2 = vi (toI (aA A i.toNat 2)) /\ aA A i.toNat 3 = tree 1 (toN (aA A i.toNat 3)) (toE (aA A i.toNat 3)) /\ True) /\ 4 <= 4 /\ T2 (∃ (l : List Int),eqL [tree 1 (toN (aA A i.toNat 3)) (toE (aA A i.toNat 3))] [tree 1 l.length (aB l)] /\ length l <= 17592186044416 /\ True /\ 4 <= 4 /\ True /\ 4 <= 4 /\ True /\ q1 /\ true = true /\ Post (Out.ret (Value.tuple #[Value.agg #[vs (toS (aA A i.toNat 0)),vi (toI (aA A i.toNat 1)),vi (toI (aA A i.toNat 2)),tree 1 l.length (aB l)],vb true])) []))))))):=by kernel_rfl
theorem aRf (n m : Nat) (s : ByteArray) (A B : Array Value) (H : HT) (Post : PX) : vcX Tryz.prog aGT 63 [] [] [.agg #[tree 4 n A,tree 4 m B],.string s] H Post = (let q1:=True /\ (T4 (True)) /\ True /\ True; T4 (T2 (True /\ ∃ (l : List Sect4),∃ (s_1 : ByteArray),eqL [tree 4 m B,Value.func (Fn.func 138) #[] #[pt 0]] [tree 4 l.length (aB l),Value.func (Fn.func 138) #[] #[pt 0]] /\ [[vs s]] = [[vs s_1]] /\ aH l /\ ∀ (i : Int),First l (fun (g : Sect4)=>g.name = s_1) i -> 1 = 1 /\ T2 (True /\ pIf (decide (i < 0)) (True /\ 4 <= 4 /\ True /\ q1 /\ true = true /\ Post (Out.ret (Value.tuple #[Value.agg #[vz,vi 0,vi 0,vi 0],vb false])) []) (T2 (True /\ (0 <= i /\ i < (↑m : Int)) /\ (aA B i.toNat 0 = vs (toS (aA B i.toNat 0)) /\ aA B i.toNat 1 = vi (toI (aA B i.toNat 1)) /\ aA B i.toNat 2 = vi (toI (aA B i.toNat 2)) /\ aA B i.toNat 3 = vi (toI (aA B i.toNat 3)) /\ True) /\ 4 <= 4 /\ True /\ q1 /\ true = true /\ Post (Out.ret (Value.tuple #[Value.agg #[vs (toS (aA B i.toNat 0)),vi (toI (aA B i.toNat 1)),vi (toI (aA B i.toNat 2)),vi (toI (aA B i.toNat 3))],vb true])) [])))))):=by kernel_rfl
theorem aS9 (n : Nat) (v : Int) (A : Array Value) (H : HT) (Post : PV) : vcP Tryz.prog aI 227 [(2,[0,1,7,8])] [tree 1 n A,.int .i64 v] H Post = (T4 (T2 (HP H 227 2 (stV [(0,some (tree 1 n A)),(1,some (vi v)),(7,some (vi (↑n : Int))),(8,some (vi 0))] [] 0)))):=by kernel_rfl
theorem aL5 (n : Nat) (v k : Int) (A : Array Value) (H : HT) (Post : PV) : bX Tryz.prog aI 227 [tree 1 n A,.int .i64 v] [(2,[0,1,7,8])] 2 (stV [(0,some (tree 1 n A)),(1,some (vi v)),(7,some (vi n)),(8,some (vi k))] [] 0) H Post = (True /\ pIf (decide (k < (↑n : Int))) (T4 (True /\ (0 <= k /\ k < (↑n : Int)) /\ aA A k.toNat 0 = vi (toI (aA A k.toNat 0)) /\ True /\ pIf (decide (v = toI (aA A k.toNat 0))) (T2 (True /\ Post (vi k))) (T4 (HP H 227 2 (stV [(0,some (tree 1 n A)),(1,some (vi v)),(7,some (vi (↑n : Int))),(8,some (vi (wrap i64 (k + 1))))] [] 0))))) (T2 (Post (vi (-1))))):=by kernel_rfl
theorem aR4 (n : Nat) (v : Int) (A : Array Value) (H : HT) (Post : PV) : vcP Tryz.prog (aU [⟨227,aLp⟩] aI) 194 [] [tree 1 n A,.int .i64 v] H Post = (T2 (True /\ ∃ (l : List Int),∃ (v_1 : Int),eqL [tree 1 n A,vi v] [tree 1 l.length (aB l),vi v_1] /\ aH l /\ ∀ (i : Int),(0 <= i ↔ v_1 ∈ l) -> True /\ pIf (decide (i >= 0)) (T2 (Post (vb true))) (T2 (Post (vb false))))):=by kernel_rfl
theorem aNC (n m : Nat) (s : ByteArray) (t : Int) (A B : Array Value) (H : HT) (Post : PV) : vcP Tryz.prog (aU [⟨62,zK⟩,⟨194,aLk⟩] aI) 119 [] [.agg #[tree 4 n A,tree 4 m B],.string s,.int .i64 t] H Post = (T4 (∃ (m_1 : Mats),∃ (s_1 : ByteArray),eqL [Value.agg #[tree 4 n A,tree 4 m B],vs s] [bD m_1,vs s_1] /\ FewM m_1 /\ T2 (True /\ pIf (decide (mP m_1 s_1)) (True /\ 4 <= 4 /\ T4 (T2 (∃ (l : List Int),∃ (v : Int),eqL [tree 1 (length (Grade4.gauges (aX m_1 s_1))) (aB (Grade4.gauges (aX m_1 s_1))),vi t] [tree 1 l.length (aB l),vi v] /\ aH l /\ pIf (decide (v ∈ l)) (T2 (True /\ Post (vb true))) (T2 (True /\ Post (vb false)))))) (True /\ 4 <= 4 /\ T4 (T2 (Post (vb false))))))):=by kernel_rfl
theorem aMw (n m : Nat) (s : ByteArray) (A B : Array Value) (H : HT) (Post : PV) : vcP Tryz.prog aI 65 [(2,[1,2,4,6])] [.agg #[tree 4 n A,tree 4 m B],.string s] H Post = (T4 (True /\ (T2 (True)) /\ HP H 65 2 (stV [(1,some (vs s)),(2,some (pt 0)),(4,some (pt 1)),(6,some (vi 0))] [(0,some (AObj.cells [tree 4 n A,tree 4 m B] true)),(1,some (AObj.cells [vz,vi 0,vi 0,nS] true))] 2))):=by kernel_rfl
theorem aEO (n m : Nat) (s : ByteArray) (k : Int) (A B : Array Value) (H : HT) (Post : PV) : bX Tryz.prog aI 65 [.agg #[tree 4 n A,tree 4 m B],.string s] [(2,[1,2,4,6])] 2 (stV [(1,some (.string s)),(2,some (pt 0)),(4,some (pt 1)),(6,some (vi k))] [(0,some (.cells [tree 4 n A,tree 4 m B] true)),(1,some (.cells [.string ⟨#[]⟩,.int .i64 0,.int .i64 0,.slice none 0 0] true))] 2) H Post = (let q5:=toI (aA A k.toNat 2); let q4:=toI (aA A k.toNat 1); let q1:=aA A k.toNat 3; let q3:=Array.toList (toE q1); let q2:=aA A k.toNat 0; T4 (True /\ pIf (decide (k < (↑n : Int))) (T2 (True /\ (0 <= k /\ k < (↑n : Int)) /\ True /\ aA A k.toNat 0 = vs (toS q2) /\ T2 (pIf (decide (toS q2 = s)) (T2 (True /\ (0 <= k /\ k < (↑n : Int)) /\ (aA A k.toNat 0 = vs (toS q2) /\ aA A k.toNat 1 = vi q4 /\ aA A k.toNat 2 = vi q5 /\ aA A k.toNat 3 = tree 1 (toN q1) (toE q1) /\ True) /\ True /\ 4 <= 4 /\ T4 (pIf (Nat.beq (toN q1) 0) (true = true /\ True /\ 4 <= 4 /\ True /\ 4 <= 4 /\ True /\ ((T2 (True /\ (0 <= 0 /\ NLs []) /\ True)) /\ True /\ True) /\ Post (Value.tuple #[Value.agg #[vs (toS q2),vi q4,vi q5,tree 1 0 #[]],vb true])) (0 + toN q1 <= 33554432 /\ List.all (List.flatMap (fun (u : Value)=>Array.toList (Value.cells u)) q3) single = true /\ length (List.flatMap (fun (u : Value)=>Array.toList (Value.cells u)) q3) = toN q1 * 1 /\ 0 = 0 /\ True /\ 4 <= 4 /\ True /\ 4 <= 4 /\ True /\ ((T2 (True /\ (0 + (0 + toN q1) * 1 <= length ([] ++ List.flatMap (fun (u : Value)=>Array.toList (Value.cells u)) q3) /\ NLs (List.drop 0 ([] ++ List.flatMap (fun (u : Value)=>Array.toList (Value.cells u)) q3))) /\ True)) /\ True /\ True) /\ Post (Value.tuple #[Value.agg #[vs (toS q2),vi q4,vi q5,tree 1 (0 + toN q1) (bP 1 (0 + toN q1) (List.drop 0 ([] ++ List.flatMap (fun (u : Value)=>Array.toList (Value.cells u)) q3)))],vb true]))))) (T4 ((T2 (True)) /\ HP H 65 2 (stV [(1,some (vs s)),(2,some (pt 0)),(4,some (pt 1)),(6,some (vi (wrap i64 (k + 1))))] [(0,some (AObj.cells [tree 4 n A,tree 4 m B] true)),(1,some (AObj.cells [vz,vi 0,vi 0,nS] true))] 2)))))) (True /\ 4 <= 4 /\ True /\ ((T4 (True)) /\ True /\ True) /\ Post (Value.tuple #[Value.agg #[vz,vi 0,vi 0,tree 1 0 #[]],vb false])))):=by kernel_rfl
theorem aPO (n m : Nat) (s : ByteArray) (A B : Array Value) (H : HT) (Post : PV) : vcP Tryz.prog aI 66 [(2,[1,2,4,6])] [.agg #[tree 4 n A,tree 4 m B],.string s] H Post = (T4 (True /\ (T2 (True)) /\ HP H 66 2 (stV [(1,some (vs s)),(2,some (pt 0)),(4,some (pt 1)),(6,some (vi 0))] [(0,some (AObj.cells [tree 4 n A,tree 4 m B] true)),(1,some (AObj.cells [vz,vi 0,vi 0,vi 0] true))] 2))):=by kernel_rfl
theorem aIA (n m : Nat) (s : ByteArray) (k : Int) (A B : Array Value) (H : HT) (Post : PV) : bX Tryz.prog aI 66 [.agg #[tree 4 n A,tree 4 m B],.string s] [(2,[1,2,4,6])] 2 (stV [(1,some (.string s)),(2,some (pt 0)),(4,some (pt 1)),(6,some (vi k))] [(0,some (.cells [tree 4 n A,tree 4 m B] true)),(1,some (.cells [.string ⟨#[]⟩,.int .i64 0,.int .i64 0,.int .i64 0] true))] 2) H Post = (let q4:=toI (aA B k.toNat 3); let q3:=toI (aA B k.toNat 2); let q2:=toI (aA B k.toNat 1); let q1:=aA B k.toNat 0; T4 (True /\ pIf (decide (k < (↑m : Int))) (T2 (True /\ (0 <= k /\ k < (↑m : Int)) /\ True /\ aA B k.toNat 0 = vs (toS q1) /\ T2 (pIf (decide (toS q1 = s)) (T2 (True /\ (0 <= k /\ k < (↑m : Int)) /\ (aA B k.toNat 0 = vs (toS q1) /\ aA B k.toNat 1 = vi q2 /\ aA B k.toNat 2 = vi q3 /\ aA B k.toNat 3 = vi q4 /\ True) /\ 4 <= 4 /\ True /\ ((T4 (True)) /\ True /\ True) /\ Post (Value.tuple #[Value.agg #[vs (toS q1),vi q2,vi q3,vi q4],vb true]))) (T4 ((T2 (True)) /\ HP H 66 2 (stV [(1,some (vs s)),(2,some (pt 0)),(4,some (pt 1)),(6,some (vi (wrap i64 (k + 1))))] [(0,some (AObj.cells [tree 4 n A,tree 4 m B] true)),(1,some (AObj.cells [vz,vi 0,vi 0,vi 0] true))] 2)))))) (True /\ 4 <= 4 /\ True /\ ((T4 (True)) /\ True /\ True) /\ Post (Value.tuple #[Value.agg #[vz,vi 0,vi 0,vi 0],vb false])))):=by kernel_rfl
structure FewR (m : Mats) : Prop extends FewM m where
 gr25 : ∀ g ∈ m.grades,g.gauges.length <= 33554432
def uP (args : List Value) (Post : Value -> Prop) : Prop:=∃ (m : Mats) (s : ByteArray),args = [bD m,.string s] /\ FewR m /\ Post (.tuple #[aL1 (aX m s),.bool (decide (mP m s))])
def aBR (args : List Value) (Post : Value -> Prop) : Prop:=∃ (m : Mats) (s : ByteArray) (t : Int),args = [bD m,.string s,.int .i64 t] /\ FewR m /\ Post (.bool (decide (kW m s t)))
def vcRr : bH:=aU [⟨65,uP⟩] aI
theorem aKm (n m : Nat) (s : ByteArray) (t : Int) (A B : Array Value) (H : HT) (Post : PV) : vcP Tryz.prog vcRr 129 [(3,[2,7,9])] [.agg #[tree 4 n A,tree 4 m B],.string s,.int .i64 t] H Post = (let q1:=[(2,some (vi t)),(7,some (pt 0)),(9,some (vi 0))]; T4 (∃ (m_1 : Mats),∃ (s_1 : ByteArray),eqL [Value.agg #[tree 4 n A,tree 4 m B],vs s] [bD m_1,vs s_1] /\ FewR m_1 /\ T2 (True /\ pIf (decide (mP m_1 s_1)) (True /\ 4 <= 4 /\ T2 (True /\ (True /\ True) /\ HP H 129 3 (stV q1 [(0,some (AObj.cells [vs (Grade4.name (aX m_1 s_1)),vi (Grade4.dens (aX m_1 s_1)),vi (Grade4.yld (aX m_1 s_1)),tree 1 (length (Grade4.gauges (aX m_1 s_1))) (aB (Grade4.gauges (aX m_1 s_1)))] true))] 1))) (True /\ 4 <= 4 /\ T2 (True /\ (True /\ True) /\ HP H 129 3 (stV q1 [(0,some (AObj.cells [vs (Grade4.name (aX m_1 s_1)),vi (Grade4.dens (aX m_1 s_1)),vi (Grade4.yld (aX m_1 s_1)),tree 1 (length (Grade4.gauges (aX m_1 s_1))) (aB (Grade4.gauges (aX m_1 s_1)))] true))] 1)))))):=by kernel_rfl
theorem aBP (n m q : Nat) (s u : ByteArray) (t d y k : Int) (A B C : Array Value) (H : HT) (Post : PV) : bX Tryz.prog vcRr 129 [.agg #[tree 4 n A,tree 4 m B],.string s,.int .i64 t] [(3,[2,7,9])] 3 (stV [(2,some (vi t)),(7,some (pt 0)),(9,some (vi k))] [(0,some (.cells [.string u,.int .i64 d,.int .i64 y,tree 1 q C] true))] 1) H Post = (T4 (True /\ pIf (decide (k < (↑q : Int))) (T2 (True /\ (0 <= k /\ k < (↑q : Int)) /\ aA C k.toNat 0 = vi (toI (aA C k.toNat 0)) /\ T2 (pIf (decide (toI (aA C k.toNat 0) = t)) (T2 (Post (vb true))) (T4 ((True /\ True) /\ HP H 129 3 (stV [(2,some (vi t)),(7,some (pt 0)),(9,some (vi (wrap i64 (k + 1))))] [(0,some (AObj.cells [vs u,vi d,vi y,tree 1 q C] true))] 1)))))) (T2 (Post (vb false))))):=by kernel_rfl
theorem lZ {l : List Grade4} {i : Nat} (h : i < l.length) : aA (aB l) i 0 = .string l[i].name /\ aA (aB l) i 1 = .int .i64 l[i].dens /\ aA (aB l) i 2 = .int .i64 l[i].yld /\ aA (aB l) i 3 = tree 1 l[i].gauges.length (aB l[i].gauges):=by
 rw [bK h,bK h,bK h,bK h]
 exact ⟨rfl,rfl,rfl,rfl⟩
theorem nR {l : List Sect4} {i : Nat} (h : i < l.length) : aA (aB l) i 0 = .string l[i].name /\ aA (aB l) i 1 = .int .i64 l[i].area /\ aA (aB l) i 2 = .int .i64 l[i].height /\ aA (aB l) i 3 = .int .i64 l[i].stock:=by
 rw [bK h,bK h,bK h,bK h]
 exact ⟨rfl,rfl,rfl,rfl⟩
theorem aMW {l : List Int} {i : Nat} (h : i < l.length) : aA (aB l) i 0 = .int .i64 l[i]:=by
 rw [bK h]
 rfl
theorem First.none {α : Type} {l : List α} {p : α -> Prop} [DecidablePred p] {i : Int} (h : First l p i) (hi : i < 0) : l.find? (fun a=>decide (p a)) = Option.none:=by
 rw [List.find?_eq_none]
 intro a ha
 have:=h.no hi a ha
 simpa using this
theorem oH {α : Type} {l : List α} {p : α -> Prop} [DecidablePred p] {k : Nat} (hk : k < l.length) (hp : p l[k]) (hb : ∀ j (hj : j < l.length),j < k -> ¬ p l[j]) : l.find? (fun a=>decide (p a)) = some l[k]:=by
 rw [List.find?_eq_some_iff_getElem]
 exact ⟨by simpa using hp,k,hk,rfl,fun j hj=>by simpa using hb j (by omega) hj⟩
theorem lO : dY Tryz.prog aBq:=aDA mixed (aAX aD) 2
theorem aOe : xL Tryz.prog ⟨134,aNu⟩:=by
 rintro args conts Post ⟨l,s,rfl,rfl,hl,h⟩
 refine sL (conts:=[[.string s]]) lO mixed (by kernel_rfl) (by kernel_rfl) _ (aS2 l.length s (aB l) _ _) ?_
 simp only [true_and]
 refine cS (n:=l.length) (p:=fun k=>(∀ i (hi : i < l.length),i < k -> ¬ l[i].name = s) -> OkX Tryz.prog 134 [tree 4 l.length (aB l),fnG] 1 Post (lpC Tryz.prog 134 2) (lpK Tryz.prog 134 2) (stV [(0,some (tree 4 l.length (aB l))),(1,some fnG),(7,some (vi l.length)),(8,some (vi k))] [(0,some (.cells [.string s] true))] 1)) (fun hall=>?_) (fun k h1 ih hall=>?_) (fun i hi h0=>by omega)
 ·refine aKp lO mixed _ (aMS l.length s l.length (aB l) _ _) ?_
  simp only [true_and]
  refine ifD (fun hlt=>by omega) (fun _=>h (-1) ⟨fun _ a ha=>?_,fun h=>by omega⟩)
  obtain ⟨i,hi,rfl⟩:=List.mem_iff_getElem.1 ha
  exact hall i hi hi
 ·refine aKp lO mixed _ (aMS l.length s k (aB l) _ _) ?_
  have hk : ((k : Nat) : Int).toNat = k:=toNat_natCast k
  obtain ⟨c0,c1,c2,c3⟩:=lZ h1
  simp only [true_and,and_true,hk,c0,c1,c2,c3,aQ,aP,cH,cG,aJ (show k < 2 ^ 62 by omega)]
  refine ifD (fun _=>⟨⟨by omega,by omega⟩,ifD (fun hn=>h k ⟨fun h=>by omega,fun _=>⟨k,h1,rfl,hn,hall⟩⟩) (fun hn=>ih fun i hi hik=>?_)⟩) (fun h'=>by omega)
  rcases lt_or_ge i k with h' | h'
  ·exact hall i hi h'
  ·have : i = k:=by omega
   subst this
   exact hn
theorem aPs : xL Tryz.prog ⟨137,aLj⟩:=by
 rintro args conts Post ⟨l,s,rfl,rfl,hl,h⟩
 refine sL (conts:=[[.string s]]) lO mixed (by kernel_rfl) (by kernel_rfl) _ (aRH l.length s (aB l) _ _) ?_
 simp only [true_and]
 refine cS (n:=l.length) (p:=fun k=>(∀ i (hi : i < l.length),i < k -> ¬ l[i].name = s) -> OkX Tryz.prog 137 [tree 4 l.length (aB l),fnS] 1 Post (lpC Tryz.prog 137 2) (lpK Tryz.prog 137 2) (stV [(0,some (tree 4 l.length (aB l))),(1,some fnS),(7,some (vi l.length)),(8,some (vi k))] [(0,some (.cells [.string s] true))] 1)) (fun hall=>?_) (fun k h1 ih hall=>?_) (fun i hi h0=>by omega)
 ·refine aKp lO mixed _ (aLw l.length s l.length (aB l) _ _) ?_
  simp only [true_and]
  refine ifD (fun hlt=>by omega) (fun _=>h (-1) ⟨fun _ a ha=>?_,fun h=>by omega⟩)
  obtain ⟨i,hi,rfl⟩:=List.mem_iff_getElem.1 ha
  exact hall i hi hi
 ·refine aKp lO mixed _ (aLw l.length s k (aB l) _ _) ?_
  have hk : ((k : Nat) : Int).toNat = k:=toNat_natCast k
  obtain ⟨c0,c1,c2,c3⟩:=nR h1
  simp only [true_and,and_true,hk,c0,c1,c2,c3,aQ,aP,cH,cG,aJ (show k < 2 ^ 62 by omega)]
  refine ifD (fun _=>⟨⟨by omega,by omega⟩,ifD (fun hn=>h k ⟨fun h=>by omega,fun _=>⟨k,h1,rfl,hn,hall⟩⟩) (fun hn=>ih fun i hi hik=>?_)⟩) (fun h'=>by omega)
  rcases lt_or_ge i k with h' | h'
  ·exact hall i hi h'
  ·have : i = k:=by omega
   subst this
   exact hn
theorem aCp : dY Tryz.prog aGT:=qQ (by
 intro e he
 simp only [mem_cons,not_mem_nil,or_false] at he
 rcases he with rfl | rfl
 ·exact aOe
 ·exact aPs) (aAX (aM (by
 intro e he
 simp only [mem_cons,not_mem_nil,or_false] at he
 subst he
 exact aMR) aD))
theorem aBh : aZ Tryz.prog ⟨62,zK⟩:=by
 rintro args Post ⟨m,s,rfl,hf,h⟩
 refine aLO ?_
 refine sL (conts:=[]) aCp mixed (by kernel_rfl) (by kernel_rfl) [] (aOl m.grades.length m.sects.length s (aB m.grades) (aB m.sects) _ _) ?_
 simp only [true_and,and_true]
 refine ⟨m.grades,s,rfl,rfl,hf.gr,fun i hi=>ifD (fun h0=>⟨by decide,?_⟩) (fun h0=>?_)⟩
 ·have e : qD m s = none:=hi.none h0
  have e1 : aX m s = aGx:=by unfold aX; rw [e]; rfl
  have e2 : ¬ mP m s:=by unfold mP; rw [e]; decide
  rw [e1,decide_eq_false e2] at h
  exact h
 ·obtain ⟨k,hk,rfl,hp,hb⟩:=hi.yes (by omega)
  have e : qD m s = some m.grades[k]:=oH hk hp hb
  have e1 : aX m s = m.grades[k]:=by unfold aX; rw [e]; rfl
  have e2 : mP m s:=by unfold mP; rw [e]; rfl
  rw [e1,decide_eq_true e2] at h
  have hk' : ((k : Nat) : Int).toNat = k:=toNat_natCast k
  obtain ⟨c0,c1,c2,c3⟩:=lZ hk
  simp only [hk',c0,c1,c2,c3,aQ,aP,cH,cG,true_and,and_true]
  have:=hf.ga _ (List.getElem_mem hk)
  refine ⟨⟨by omega,by omega⟩,by decide,m.grades[k].gauges,rfl,by omega,by decide,by decide,?_⟩
  exact h
theorem aDT : aZ Tryz.prog ⟨63,sS⟩:=by
 rintro args Post ⟨m,s,rfl,hf,h⟩
 refine aLO ?_
 refine sL (conts:=[]) aCp mixed (by kernel_rfl) (by kernel_rfl) [] (aRf m.grades.length m.sects.length s (aB m.grades) (aB m.sects) _ _) ?_
 simp only [true_and,and_true]
 refine ⟨m.sects,s,rfl,rfl,hf.se,fun i hi=>ifD (fun h0=>⟨by decide,?_⟩) (fun h0=>?_)⟩
 ·have e : aBd m s = none:=hi.none h0
  have e1 : bZ m s = aMF:=by unfold bZ; rw [e]; rfl
  have e2 : ¬ oV m s:=by unfold oV; rw [e]; decide
  rw [e1,decide_eq_false e2] at h
  exact h
 ·obtain ⟨k,hk,rfl,hp,hb⟩:=hi.yes (by omega)
  have e : aBd m s = some m.sects[k]:=oH hk hp hb
  have e1 : bZ m s = m.sects[k]:=by unfold bZ; rw [e]; rfl
  have e2 : oV m s:=by unfold oV; rw [e]; rfl
  rw [e1,decide_eq_true e2] at h
  have hk' : ((k : Nat) : Int).toNat = k:=toNat_natCast k
  obtain ⟨c0,c1,c2,c3⟩:=nR hk
  simp only [hk',c0,c1,c2,c3,aQ,aP,true_and,and_true]
  exact ⟨⟨by omega,by omega⟩,by decide,h⟩
theorem aP9 : aZ Tryz.prog ⟨227,aLp⟩:=by
 rintro args Post ⟨l,v,rfl,hl,h⟩
 refine aN aD mixed (by kernel_rfl) (by kernel_rfl) _ (aS9 l.length v (aB l) _ _) ?_
 simp only [true_and]
 refine cS (n:=l.length) (p:=fun k=>(∀ i (hi : i < l.length),i < k -> ¬ v = l[i]) -> OkP 227 [tree 1 l.length (aB l),.int .i64 v] 2 Post (stV [(0,some (tree 1 l.length (aB l))),(1,some (vi v)),(7,some (vi l.length)),(8,some (vi k))] [] 0)) (fun hall=>?_) (fun k h1 ih hall=>?_) (fun i hi h0=>by omega)
 ·refine aV aD mixed _ (aL5 l.length v l.length (aB l) _ _) ?_
  simp only [true_and]
  refine ifD (fun hlt=>by omega) (fun _=>h (-1) ⟨fun h=>by omega,fun hv=>?_⟩)
  obtain ⟨i,hi,e⟩:=List.mem_iff_getElem.1 hv
  exact absurd e.symm (hall i hi hi)
 ·refine aV aD mixed _ (aL5 l.length v k (aB l) _ _) ?_
  have hk : ((k : Nat) : Int).toNat = k:=toNat_natCast k
  simp only [true_and,and_true,hk,aMW h1,aQ,aJ (show k < 2 ^ 62 by omega)]
  refine ifD (fun _=>⟨⟨by omega,by omega⟩,ifD (fun hn=>h k ⟨fun _=>by rw [hn]; exact List.getElem_mem h1,fun _=>by omega⟩) (fun hn=>ih fun i hi hik=>?_)⟩) (fun h'=>by omega)
  rcases lt_or_ge i k with h' | h'
  ·exact hall i hi h'
  ·have : i = k:=by omega
   subst this
   exact hn
theorem aQq : aZ Tryz.prog ⟨194,aLk⟩:=by
 rintro args Post ⟨l,v,rfl,hl,h⟩
 refine aN (aM (by
  intro e he
  simp only [mem_cons,not_mem_nil,or_false] at he
  subst he
  exact aP9) aD) mixed (by kernel_rfl) (by kernel_rfl) _ (aR4 l.length v (aB l) _ _) ?_
 simp only [true_and]
 refine ⟨l,v,rfl,hl,fun i hi=>ifD (fun h1=>?_) (fun h1=>?_)⟩
 ·rwa [decide_eq_true (hi.1 h1)] at h
 ·rwa [decide_eq_false (fun hp=>h1 (hi.2 hp))] at h
theorem aJy {m : Mats} (hf : FewM m) (s : ByteArray) : (aX m s).gauges.length <= 17592186044416:=by
 unfold aX qD
 cases h : m.grades.find? fun g=>decide (g.name = s) with
 | none=>exact Nat.zero_le _
 | some g=>exact hf.ga g (List.mem_of_find?_eq_some h)
theorem aKV : aZ Tryz.prog ⟨119,aFe⟩:=by
 rintro args Post ⟨m,s,t,rfl,hf,h⟩
 refine aN (aM (by
  intro e he
  simp only [mem_cons,not_mem_nil,or_false] at he
  rcases he with rfl | rfl
  ·exact aBh
  ·exact aQq) aD) mixed (by kernel_rfl) (by kernel_rfl) _ (aNC m.grades.length m.sects.length s t (aB m.grades) (aB m.sects) _ _) ?_
 simp only [true_and]
 have hg:=aJy hf s
 refine ⟨m,s,rfl,hf,ifD (fun h1=>⟨by decide,(aX m s).gauges,t,rfl,show _ < _ by omega,ifD (fun h2=>?_) (fun h2=>?_)⟩) (fun h1=>⟨by decide,?_⟩)⟩
 ·rwa [decide_eq_true (show kW m s t from ⟨h1,h2⟩)] at h
 ·rwa [decide_eq_false (fun hp : kW m s t=>h2 hp.2)] at h
 ·rwa [decide_eq_false (fun hp : kW m s t=>h1 hp.1)] at h
theorem aKv (l : List Int) : List.flatMap (fun u : Value=>u.cells.toList) (aB l).toList = l.map fun n=>.int .i64 n:=by
 unfold aB
 rw [List.toList_toArray]
 induction l with
 | nil=>rfl
 | cons a l ih =>
  rw [List.map_cons,List.flatMap_cons,ih,List.map_cons]
  rfl
theorem aLV {l : List Int} (hl : l.length <= 33554432) {Y Z : Prop} {P : Value -> Prop} (hY : l = [] -> P (tree 1 l.length (aB l)) -> Y) (hZ : P (tree 1 l.length (aB l)) -> (0 + l.length <= 33554432 /\ List.all (l.map fun n=>Value.int .i64 n) single = true /\ (l.map fun n=>Value.int .i64 n).length = l.length * 1 /\ ((0 + (0 + l.length) * 1 <= ([] ++ l.map fun n=>Value.int .i64 n).length /\ NLs (List.drop 0 ([] ++ l.map fun n=>Value.int .i64 n)))) /\ P (tree 1 (0 + l.length) (bP 1 (0 + l.length) (List.drop 0 ([] ++ l.map fun n=>Value.int .i64 n))))) -> Z) (h : P (tree 1 l.length (aB l))) : pIf (Nat.beq l.length 0) Y Z:=by
 refine aE (fun hm=>?_) (fun hm=>?_)
 ·exact hY (List.eq_nil_of_length_eq_zero (Nat.eq_of_beq_eq_true hm)) h
 ·have key : ∀ n ∈ l.map (fun n=>Value.int .i64 n),∃ m,n = .int .i64 m:=fun n hn=>by
   obtain ⟨a,_,rfl⟩:=List.mem_map.1 hn
   exact ⟨a,rfl⟩
  refine hZ h ⟨by omega,?_,by rw [List.length_map,Nat.mul_one],⟨by simp,?_⟩,?_⟩
  ·rw [List.all_eq_true]
   intro v hv
   obtain ⟨a,rfl⟩:=key v hv
   rfl
  ·intro v hv
   rw [List.drop_zero,List.nil_append] at hv
   obtain ⟨a,rfl⟩:=key v hv
   rfl
  ·have ec : bP 1 (0 + l.length) (List.drop 0 ([] ++ l.map fun n=>Value.int .i64 n)) = aB l:=by
    show ((List.drop 0 ([] ++ l.map fun n=>Value.int .i64 n)).take (0 + l.length)).toArray = _
    rw [List.drop_zero,List.nil_append,List.take_of_length_le (by simp)]
    rfl
   rw [ec,Nat.zero_add]
   exact h
theorem xB : aZ Tryz.prog ⟨65,uP⟩:=by
 rintro args Post ⟨m,s,rfl,hf,h⟩
 refine aN aD mixed (by kernel_rfl) (by kernel_rfl) _ (aMw m.grades.length m.sects.length s (aB m.grades) (aB m.sects) _ _) ?_
 simp only [true_and]
 refine cS (n:=m.grades.length) (p:=fun k=>(∀ j (hj : j < m.grades.length),j < k -> ¬ m.grades[j].name = s) -> OkP 65 [bD m,.string s] 2 Post (stV [(1,some (.string s)),(2,some (pt 0)),(4,some (pt 1)),(6,some (vi k))] [(0,some (.cells [tree 4 m.grades.length (aB m.grades),tree 4 m.sects.length (aB m.sects)] true)),(1,some (.cells [.string ⟨#[]⟩,.int .i64 0,.int .i64 0,.slice none 0 0] true))] 2)) (fun hall=>?_) (fun k k1 ih hall=>?_) (fun i hi=>by omega)
 ·refine aV aD mixed _ (aEO m.grades.length m.sects.length s m.grades.length (aB m.grades) (aB m.sects) _ _) ?_
  simp only [true_and]
  have e : qD m s = none:=by
   unfold qD
   rw [List.find?_eq_none]
   intro g hg
   obtain ⟨i,hi,rfl⟩:=List.mem_iff_getElem.1 hg
   simpa using hall i hi hi
  have e1 : aX m s = aGx:=by unfold aX; rw [e]; rfl
  have e2 : ¬ mP m s:=by unfold mP; rw [e]; decide
  rw [e1,decide_eq_false e2] at h
  exact ifD (fun hlt=>by omega) (fun _=>⟨by decide,h⟩)
 ·refine aV aD mixed _ (aEO m.grades.length m.sects.length s k (aB m.grades) (aB m.sects) _ _) ?_
  have hk' : ((k : Nat) : Int).toNat = k:=toNat_natCast k
  obtain ⟨c0,c1,c2,c3⟩:=lZ k1
  have ks:=hf.gr
  simp only [hk',c0,c1,c2,c3,aQ,aP,cH,cG,true_and,and_true,aKv,aJ (show k < 2 ^ 62 by omega)]
  refine ifD (fun _=>⟨⟨by omega,by omega⟩,ifD (fun hp=>⟨⟨by omega,by omega⟩,by decide,?_⟩) (fun hp=>ih fun j hj hjk=>?_)⟩) (fun h'=>by omega)
  ·have e : qD m s = some m.grades[k]:=oH k1 hp (fun j hj hjk=>hall j hj hjk)
   have e1 : aX m s = m.grades[k]:=by unfold aX; rw [e]; rfl
   have e2 : mP m s:=by unfold mP; rw [e]; rfl
   rw [e1,decide_eq_true e2] at h
   refine aLV (hf.gr25 _ (List.getElem_mem k1)) (P:=fun v=>Post (.tuple #[.agg #[.string m.grades[k].name,.int .i64 m.grades[k].dens,.int .i64 m.grades[k].yld,v],.bool true])) (fun hz hv=>?_) (fun _ ⟨z1,z2,z3,z4,z5⟩=>?_) h
   ·rw [hz] at hv
    exact ⟨by decide,by decide,⟨Nat.le_refl _,fun v hv=>by cases hv⟩,hv⟩
   ·exact ⟨z1,z2,z3,by decide,by decide,z4,z5⟩
  ·rcases lt_or_ge j k with h' | h'
   ·exact hall j hj h'
   ·have : j = k:=by omega
    subst this
    exact hp
theorem aEm : aZ Tryz.prog ⟨66,sS⟩:=by
 rintro args Post ⟨m,s,rfl,hf,h⟩
 refine aN aD mixed (by kernel_rfl) (by kernel_rfl) _ (aPO m.grades.length m.sects.length s (aB m.grades) (aB m.sects) _ _) ?_
 simp only [true_and]
 refine cS (n:=m.sects.length) (p:=fun k=>(∀ j (hj : j < m.sects.length),j < k -> ¬ m.sects[j].name = s) -> OkP 66 [bD m,.string s] 2 Post (stV [(1,some (.string s)),(2,some (pt 0)),(4,some (pt 1)),(6,some (vi k))] [(0,some (.cells [tree 4 m.grades.length (aB m.grades),tree 4 m.sects.length (aB m.sects)] true)),(1,some (.cells [.string ⟨#[]⟩,.int .i64 0,.int .i64 0,.int .i64 0] true))] 2)) (fun hall=>?_) (fun k k1 ih hall=>?_) (fun i hi=>by omega)
 ·refine aV aD mixed _ (aIA m.grades.length m.sects.length s m.sects.length (aB m.grades) (aB m.sects) _ _) ?_
  simp only [true_and]
  have e : aBd m s = none:=by
   unfold aBd
   rw [List.find?_eq_none]
   intro g hg
   obtain ⟨i,hi,rfl⟩:=List.mem_iff_getElem.1 hg
   simpa using hall i hi hi
  have e1 : bZ m s = aMF:=by unfold bZ; rw [e]; rfl
  have e2 : ¬ oV m s:=by unfold oV; rw [e]; decide
  rw [e1,decide_eq_false e2] at h
  exact ifD (fun hlt=>by omega) (fun _=>⟨by decide,h⟩)
 ·refine aV aD mixed _ (aIA m.grades.length m.sects.length s k (aB m.grades) (aB m.sects) _ _) ?_
  have hk' : ((k : Nat) : Int).toNat = k:=toNat_natCast k
  obtain ⟨c0,c1,c2,c3⟩:=nR k1
  have ks:=hf.se
  simp only [hk',c0,c1,c2,c3,aQ,aP,true_and,and_true,aJ (show k < 2 ^ 62 by omega)]
  refine ifD (fun _=>⟨⟨by omega,by omega⟩,ifD (fun hp=>⟨⟨by omega,by omega⟩,by decide,?_⟩) (fun hp=>ih fun j hj hjk=>?_)⟩) (fun h'=>by omega)
  ·have e : aBd m s = some m.sects[k]:=oH k1 hp (fun j hj hjk=>hall j hj hjk)
   have e1 : bZ m s = m.sects[k]:=by unfold bZ; rw [e]; rfl
   have e2 : oV m s:=by unfold oV; rw [e]; rfl
   rw [e1,decide_eq_true e2] at h
   exact h
  ·rcases lt_or_ge j k with h' | h'
   ·exact hall j hj h'
   ·have : j = k:=by omega
    subst this
    exact hp
theorem aHP {l : List Int} {k : Nat} (h : k < l.length) : aA (aB l) k 0 = .int .i64 l[k]:=by
 rw [bK h]
 rfl
theorem aHI : aZ Tryz.prog ⟨129,aBR⟩:=by
 rintro args Post ⟨m,s,t,rfl,hf,h⟩
 have hok : aW Tryz.prog vcRr:=aM (by
  intro e he
  simp only [mem_cons,not_mem_nil,or_false] at he
  subst he
  exact xB) aD
 refine aN hok mixed (by kernel_rfl) (by kernel_rfl) _ (aKm m.grades.length m.sects.length s t (aB m.grades) (aB m.sects) _ _) ?_
 simp only [true_and]
 have sm : kW m s t ↔ t ∈ (aX m s).gauges:=by
  unfold kW
  by_cases hg : mP m s
  ·simp [hg]
  ·have e : qD m s = none:=by
    unfold mP at hg
    cases hx : qD m s with
    | none=>rfl
    | some g=>rw [hx] at hg; exact absurd rfl hg
   have : (aX m s).gauges = []:=by unfold aX; rw [e]; rfl
   simp [hg,this]
 have yes : t ∈ (aX m s).gauges -> Post (.bool true):=fun hp=>by rwa [decide_eq_true (sm.2 hp)] at h
 have no : ¬ t ∈ (aX m s).gauges -> Post (.bool false):=fun hp=>by rwa [decide_eq_false (fun hr=>hp (sm.1 hr))] at h
 have sl : (aX m s).gauges.length <= 33554432:=by
  unfold aX
  cases hx : qD m s with
  | none=>show ([] : List Int).length <= _; decide
  | some g=>exact hf.gr25 g (List.mem_of_find?_eq_some hx)
 have go : OkP 129 [bD m,.string s,.int .i64 t] 3 Post (stV [(2,some (vi t)),(7,some (pt 0)),(9,some (vi 0))] [(0,some (.cells [.string (aX m s).name,.int .i64 (aX m s).dens,.int .i64 (aX m s).yld,tree 1 (aX m s).gauges.length (aB (aX m s).gauges)] true))] 1):=by
  generalize aX m s = g at *
  refine cS (n:=g.gauges.length) (p:=fun k=>(∀ j (hj : j < g.gauges.length),j < k -> g.gauges[j] ≠ t) -> OkP 129 [bD m,.string s,.int .i64 t] 3 Post (stV [(2,some (vi t)),(7,some (pt 0)),(9,some (vi k))] [(0,some (.cells [.string g.name,.int .i64 g.dens,.int .i64 g.yld,tree 1 g.gauges.length (aB g.gauges)] true))] 1)) (fun hall=>?_) (fun k k1 ih hall=>?_) (fun i hi=>by omega)
  ·refine aV hok mixed _ (aBP m.grades.length m.sects.length g.gauges.length s g.name t g.dens g.yld g.gauges.length (aB m.grades) (aB m.sects) (aB g.gauges) _ _) ?_
   simp only [true_and]
   refine ifD (fun hlt=>by omega) (fun _=>no fun hm=>?_)
   obtain ⟨j,hj,e⟩:=List.mem_iff_getElem.1 hm
   exact hall j hj hj e
  ·refine aV hok mixed _ (aBP m.grades.length m.sects.length g.gauges.length s g.name t g.dens g.yld k (aB m.grades) (aB m.sects) (aB g.gauges) _ _) ?_
   have hk' : ((k : Nat) : Int).toNat = k:=toNat_natCast k
   simp only [true_and,hk',aHP k1,aQ,aJ (show k < 2 ^ 62 by omega)]
   refine ifD (fun _=>⟨⟨by omega,by omega⟩,ifD (fun he=>yes (by rw [← he]; exact List.getElem_mem k1)) (fun he=>ih fun j hj hjk=>?_)⟩) (fun h'=>by omega)
   rcases lt_or_ge j k with h' | h'
   ·exact hall j hj h'
   ·have : j = k:=by omega
    subst this
    exact he
 exact ⟨m,s,rfl,hf,ifD (fun _=>⟨by decide,go⟩) (fun _=>⟨by decide,go⟩)⟩
end Go.Proofs.YtngginofamlkkaaGreatDoor
