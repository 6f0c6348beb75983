/-
  Put together out of several texts, each in its own namespace's block. Conditions: as each theorem states them.
-/
import Derived.Test.YtngginofamlkkaaGreatDoorQSm
namespace Go.Proofs.YtngginofamlkkaaGreatDoor.PlaneG
def ApI (u v a b : I2) : Prop:=(cri u v a < 0 /\ cri u v b < 0) ∨ (0 < cri u v a /\ 0 < cri u v b) ∨ (cri a b u < 0 /\ cri a b v < 0) ∨ (0 < cri a b u /\ 0 < cri a b v) ∨ (cri u v a = 0 /\ cri u v b = 0 /\ cri a b u = 0 /\ cri a b v = 0)
theorem api_of {a b c d : I2} (hab : a ≠ b) (hcd : c ≠ d) (hm : ¬ aCY a b c d) : ApI a b c d:=by
 unfold aCY at hm
 simp only [not_or] at hm
 obtain ⟨m1,m2,m3,m4,m5⟩:=hm
 unfold ApI
 by_cases p0 : cri a b c = 0
 ·by_cases q0 : cri a b d = 0
  ·obtain ⟨r0,s0⟩:=uT hab p0 q0
   exact .inr (.inr (.inr (.inr ⟨p0,q0,r0,s0⟩)))
  ·rcases kM p0 q0 m1 with h | h
   ·exact .inr (.inr (.inl h))
   ·exact .inr (.inr (.inr (.inl h)))
 ·by_cases q0 : cri a b d = 0
  ·have:=kM q0 p0 m2
   have s1:=eI c d a
   have s2:=eI c d b
   rcases this with h | h
   ·exact .inr (.inr (.inr (.inl (by omega))))
   ·exact .inr (.inr (.inl (by omega)))
  ·by_cases r0 : cri c d a = 0
   ·by_cases s0 : cri c d b = 0
    ·exact absurd (uT hcd r0 s0).1 p0
    ·rcases kM r0 s0 m3 with h | h
     ·exact .inl h
     ·exact .inr (.inl h)
   ·by_cases s0 : cri c d b = 0
    ·have:=kM s0 r0 m4
     have s1:=eI a b c
     have s2:=eI a b d
     rcases this with h | h
     ·exact .inr (.inl (by omega))
     ·exact .inl (by omega)
    ·unfold opp at m5
     rcases Int.lt_or_gt_of_ne p0 with p1 | p1 <;> rcases Int.lt_or_gt_of_ne q0 with q1 | q1 <;> rcases Int.lt_or_gt_of_ne r0 with r1 | r1 <;> rcases Int.lt_or_gt_of_ne s0 with s1 | s1 <;>
      first
       | exact .inl ⟨p1,q1⟩
       | exact .inr (.inl ⟨p1,q1⟩)
       | exact .inr (.inr (.inl ⟨r1,s1⟩))
       | exact .inr (.inr (.inr (.inl ⟨r1,s1⟩)))
       | (exfalso; omega)
def wtI (a b q : I2) : Int:=if a.y <= q.y /\ q.y < b.y /\ 0 < cri a b q then 1 else if b.y <= q.y /\ q.y < a.y /\ cri a b q < 0 then -1 else 0
def inI (u v c : I2) : Int:=if u.y < c.y /\ c.y <= v.y /\ cri u v c < 0 then 1 else 0
theorem jK {k c x y m n : Int} (hk : 0 < k) (hm : 0 <= m) (hn : 0 <= n) (hs : 0 < m + n) (e : k * c = -(x * m + y * n)) (hx : x < 0) (hy : y < 0) : 0 < c:=by
 rcases Int.lt_or_le 0 c with h | h
 ·exact h
 exfalso
 have h1:=Int.mul_nonpos_of_nonneg_of_nonpos (show 0 <= k by omega) h
 have h2:=Int.mul_nonpos_of_nonpos_of_nonneg (show x <= 0 by omega) hm
 have h3:=Int.mul_nonpos_of_nonpos_of_nonneg (show y <= 0 by omega) hn
 rcases Int.lt_or_eq_of_le hm with h4 | h4
 ·have:=Int.mul_neg_of_neg_of_pos hx h4
  omega
 ·have:=Int.mul_neg_of_neg_of_pos hy (show 0 < n by omega)
  omega
theorem kH {k c x y m n : Int} (hk : 0 < k) (hm : 0 <= m) (hn : 0 <= n) (hs : 0 < m + n) (e : k * c = -(x * m + y * n)) (hx : 0 < x) (hy : 0 < y) : c < 0:=by
 have:=jK (c:=-c) (x:=-x) (y:=-y) hk hm hn hs (by grind) (by omega) (by omega)
 omega
theorem aNE {a b q : I2} (h : a.y < b.y) : wtI a b q = if a.y <= q.y /\ q.y < b.y /\ 0 < cri a b q then 1 else 0:=by
 unfold wtI
 by_cases h1 : a.y <= q.y /\ q.y < b.y /\ 0 < cri a b q
 ·rw [if_pos h1,if_pos h1]
 ·rw [if_neg h1,if_neg h1,if_neg (by omega)]
theorem aJ4 (a b q : I2) : wtI b a q = - wtI a b q:=by
 have hs:=eI a b q
 unfold wtI
 by_cases h1 : a.y <= q.y /\ q.y < b.y /\ 0 < cri a b q
 ·rw [if_pos h1,if_neg (by omega),if_pos (by omega)]
 ·rw [if_neg h1]
  by_cases h2 : b.y <= q.y /\ q.y < a.y /\ cri a b q < 0
  ·rw [if_pos (by omega),if_pos h2]; rfl
  ·rw [if_neg (by omega),if_neg (by omega),if_neg h2]; rfl
theorem aQG (a b u v : I2) : (b.y - a.y) * cri u v a = -(cri a b u * (v.y - a.y) + cri a b v * (a.y - u.y)) /\ (b.y - a.y) * cri u v b = -(cri a b u * (v.y - b.y) + cri a b v * (b.y - u.y)):=by
 unfold cri; constructor <;> grind
theorem aJm {u v a b : I2} (huv : u.y < v.y) (hab : a.y < b.y) (h : ApI u v a b) : wtI a b u - wtI a b v = inI u v b - inI u v a:=by
 rw [aNE hab,aNE hab]
 unfold inI
 obtain ⟨e3,e4⟩:=aQG a b u v
 obtain ⟨e1,e2⟩:=aQG u v a b
 have k1 : 0 < b.y - a.y:=by omega
 have k2 : 0 < v.y - u.y:=by omega
 by_cases c1 : b.y <= u.y
 ·rw [if_neg (by omega),if_neg (by omega),if_neg (by omega),if_neg (by omega)]
 by_cases c2 : v.y < a.y
 ·rw [if_neg (by omega),if_neg (by omega),if_neg (by omega),if_neg (by omega)]
 by_cases c3 : a.y <= u.y
 ·by_cases c4 : v.y < b.y
  ·rw [if_neg (c:=u.y < b.y /\ b.y <= v.y /\ cri u v b < 0) (by omega),if_neg (c:=u.y < a.y /\ a.y <= v.y /\ cri u v a < 0) (by omega)]
   have : (0 < cri a b u ↔ 0 < cri a b v):=by
    rcases h with ⟨h1,h2⟩ | ⟨h1,h2⟩ | ⟨h1,h2⟩ | ⟨h1,h2⟩ | ⟨h1,h2,h3,h4⟩
    ·have g1:=jK k2 (by omega) (by omega) (by omega) e1 h1 h2
     have g2:=jK k2 (by omega) (by omega) (by omega) e2 h1 h2
     omega
    ·have g1:=kH k2 (by omega) (by omega) (by omega) e1 h1 h2
     have g2:=kH k2 (by omega) (by omega) (by omega) e2 h1 h2
     omega
    ·omega
    ·omega
    ·omega
   by_cases q : 0 < cri a b u
   ·rw [if_pos (by omega),if_pos (by omega)]; rfl
   ·rw [if_neg (by omega),if_neg (by omega)]
  ·rw [if_neg (c:=a.y <= v.y /\ v.y < b.y /\ 0 < cri a b v) (by omega),if_neg (c:=u.y < a.y /\ a.y <= v.y /\ cri u v a < 0) (by omega)]
   have : (0 < cri a b u ↔ cri u v b < 0):=by
    rcases h with ⟨h1,h2⟩ | ⟨h1,h2⟩ | ⟨h1,h2⟩ | ⟨h1,h2⟩ | ⟨h1,h2,h3,h4⟩
    ·have g1:=jK k2 (by omega) (by omega) (by omega) e1 h1 h2
     omega
    ·have g1:=kH k2 (by omega) (by omega) (by omega) e1 h1 h2
     omega
    ·have g1:=jK k1 (by omega) (by omega) (by omega) e4 h1 h2
     omega
    ·have g1:=kH k1 (by omega) (by omega) (by omega) e4 h1 h2
     omega
    ·omega
   by_cases q : 0 < cri a b u
   ·rw [if_pos (by omega),if_pos (by omega)]
   ·rw [if_neg (by omega),if_neg (by omega)]
 ·by_cases c4 : v.y < b.y
  ·rw [if_neg (c:=a.y <= u.y /\ u.y < b.y /\ 0 < cri a b u) (by omega),if_neg (c:=u.y < b.y /\ b.y <= v.y /\ cri u v b < 0) (by omega)]
   have : (0 < cri a b v ↔ cri u v a < 0):=by
    rcases h with ⟨h1,h2⟩ | ⟨h1,h2⟩ | ⟨h1,h2⟩ | ⟨h1,h2⟩ | ⟨h1,h2,h3,h4⟩
    ·have g1:=jK k2 (by omega) (by omega) (by omega) e2 h1 h2
     omega
    ·have g1:=kH k2 (by omega) (by omega) (by omega) e2 h1 h2
     omega
    ·have g1:=jK k1 (by omega) (by omega) (by omega) e3 h1 h2
     omega
    ·have g1:=kH k1 (by omega) (by omega) (by omega) e3 h1 h2
     omega
    ·omega
   by_cases q : 0 < cri a b v
   ·rw [if_pos (by omega),if_pos (by omega)]
   ·rw [if_neg (by omega),if_neg (by omega)]
  ·rw [if_neg (c:=a.y <= u.y /\ u.y < b.y /\ 0 < cri a b u) (by omega),if_neg (c:=a.y <= v.y /\ v.y < b.y /\ 0 < cri a b v) (by omega)]
   have : (cri u v b < 0 ↔ cri u v a < 0):=by
    rcases h with ⟨h1,h2⟩ | ⟨h1,h2⟩ | ⟨h1,h2⟩ | ⟨h1,h2⟩ | ⟨h1,h2,h3,h4⟩
    ·omega
    ·omega
    ·have g1:=jK k1 (by omega) (by omega) (by omega) e3 h1 h2
     have g2:=jK k1 (by omega) (by omega) (by omega) e4 h1 h2
     omega
    ·have g1:=kH k1 (by omega) (by omega) (by omega) e3 h1 h2
     have g2:=kH k1 (by omega) (by omega) (by omega) e4 h1 h2
     omega
    ·omega
   by_cases q : cri u v b < 0
   ·rw [if_pos (c:=u.y < b.y /\ b.y <= v.y /\ cri u v b < 0) (by omega),if_pos (by omega)]; rfl
   ·rw [if_neg (c:=u.y < b.y /\ b.y <= v.y /\ cri u v b < 0) (by omega),if_neg (by omega)]
theorem aNM {k m n : Int} (hm : m < 0) (hn : 0 <= n) : ¬ ((k * m < 0 /\ k * n < 0) ∨ (0 < k * m /\ 0 < k * n)):=by
 rcases Int.lt_or_le k 0 with h | h
 ·have h1:=Int.mul_pos_of_neg_of_neg h hm
  have h2:=Int.mul_nonpos_of_nonpos_of_nonneg (show k <= 0 by omega) hn
  omega
 ·have h1:=Int.mul_nonpos_of_nonneg_of_nonpos h (show m <= 0 by omega)
  have h2:=Int.mul_nonneg h hn
  omega
theorem aCc {k m n : Int} (hm : m <= 0) (hn : 0 < n) : ¬ ((k * m < 0 /\ k * n < 0) ∨ (0 < k * m /\ 0 < k * n)):=by
 rcases Int.lt_or_le k 0 with h | h
 ·have h1:=Int.mul_nonneg_of_nonpos_of_nonpos (show k <= 0 by omega) hm
  have h2:=Int.mul_neg_of_neg_of_pos h hn
  omega
 ·have h1:=Int.mul_nonpos_of_nonneg_of_nonpos h hm
  have h2:=Int.mul_nonneg h (show 0 <= n by omega)
  omega
theorem uC {a b q : I2} (h : a.y = b.y) : cri a b q = (b.x - a.x) * (q.y - a.y):=by
 unfold cri
 rw [h,Int.sub_self,Int.zero_mul,Int.sub_zero]
theorem aQa {u v a b : I2} (h : ApI u v a b) : ApI u v b a:=by
 have h1:=eI a b u
 have h2:=eI a b v
 unfold ApI at *
 omega
theorem aNI {u v a b : I2} (h : ApI u v a b) : ApI v u a b:=by
 have h1:=eI u v a
 have h2:=eI u v b
 unfold ApI at *
 omega
theorem aFz {u v a b : I2} (huv : u.y < v.y) (h : ApI u v a b) : wtI a b u - wtI a b v = inI u v b - inI u v a:=by
 by_cases h1 : a.y < b.y
 ·exact aJm huv h1 h
 by_cases h2 : b.y < a.y
 ·have:=aJm huv h2 (aQa h)
  rw [aJ4 a b,aJ4 a b] at this
  omega
 have he : a.y = b.y:=by omega
 have z : ∀ q,wtI a b q = 0:=fun q=>by
  unfold wtI
  rw [if_neg (by omega),if_neg (by omega)]
 rw [z,z]
 unfold inI
 by_cases hl : u.y < a.y /\ a.y <= v.y
 ·have : (cri u v b < 0 ↔ cri u v a < 0):=by
   have f1:=uC (q:=u) he
   have f2:=uC (q:=v) he
   have:=aNM (k:=b.x - a.x) (m:=u.y - a.y) (n:=v.y - a.y) (by omega) (by omega)
   rw [← f1,← f2] at this
   unfold ApI at h
   omega
  by_cases q : cri u v b < 0
  ·rw [if_pos (by omega),if_pos (by omega)]; rfl
  ·rw [if_neg (by omega),if_neg (by omega)]
 ·rw [if_neg (by omega),if_neg (by omega)]
theorem aKx {u v a b : I2} (huv : u.y = v.y) (h : ApI u v a b) : wtI a b u = wtI a b v:=by
 have f1:=uC (q:=a) huv
 have f2:=uC (q:=b) huv
 have key : (a.y <= u.y /\ u.y < b.y) ∨ (b.y <= u.y /\ u.y < a.y) -> ((0 < cri a b u ↔ 0 < cri a b v) /\ (cri a b u < 0 ↔ cri a b v < 0)):=fun hl=>by
  have : ¬ ((cri u v a < 0 /\ cri u v b < 0) ∨ (0 < cri u v a /\ 0 < cri u v b)):=by
   rw [f1,f2]
   rcases hl with hl | hl
   ·exact aCc (by omega) (by omega)
   ·intro hq
    exact aCc (k:=v.x - u.x) (m:=b.y - u.y) (n:=a.y - u.y) (by omega) (by omega) (by omega)
  unfold ApI at h
  omega
 unfold wtI
 by_cases c1 : a.y <= u.y /\ u.y < b.y
 ·have:=key (.inl c1)
  by_cases q : 0 < cri a b u
  ·rw [if_pos (by omega),if_pos (by omega)]
  ·rw [if_neg (by omega),if_neg (by omega),if_neg (by omega),if_neg (by omega)]
 by_cases c2 : b.y <= u.y /\ u.y < a.y
 ·have:=key (.inr c2)
  by_cases q : cri a b u < 0
  ·rw [if_neg (by omega),if_pos (by omega),if_neg (by omega),if_pos (by omega)]
  ·rw [if_neg (by omega),if_neg (by omega),if_neg (by omega),if_neg (by omega)]
 ·rw [if_neg (by omega),if_neg (by omega),if_neg (by omega),if_neg (by omega)]
theorem aOy (u v : I2) : ∃ R : I2 -> Int,∀ a b,ApI u v a b -> wtI a b u - wtI a b v = R b - R a:=by
 by_cases h1 : u.y < v.y
 ·exact ⟨inI u v,fun a b h=>aFz h1 h⟩
 by_cases h2 : v.y < u.y
 ·refine ⟨fun c=>- inI v u c,fun a b h=>?_⟩
  have:=aFz h2 (aNI h)
  show _ = - inI v u b - - inI v u a
  omega
 ·exact ⟨fun _=>0,fun a b h=>by rw [aKx (by omega) h,Int.sub_self]; rfl⟩
def pR (n : Nat) (p : Nat -> I2) (q : I2) : Int:=isum n fun j=>wtI (p j) (p (j + 1)) q
theorem aMX {n : Nat} {p : Nat -> I2} (per : p n = p 0) {u v : I2} (h : ∀ j,j < n -> ApI u v (p j) (p (j + 1))) : pR n p u = pR n p v:=by
 obtain ⟨R,hR⟩:=aOy u v
 have t:=mL n fun j=>R (p j)
 have s:=uI n (fun j=>wtI (p j) (p (j + 1)) u) (fun j=>wtI (p j) (p (j + 1)) v)
 have e : isum n (fun j=>wtI (p j) (p (j + 1)) u - wtI (p j) (p (j + 1)) v) = isum n fun j=>R (p (j + 1)) - R (p j):=cM fun j hj=>hR _ _ (h j hj)
 simp only [per] at t
 unfold pR
 omega
def oddI : Nat -> (Nat -> I2) -> I2 -> Bool
 | 0,_,_=>false
 | n + 1,p,q=>if wtI (p n) (p (n + 1)) q ≠ 0 then !oddI n p q else oddI n p q
theorem aJO (a b q : I2) : wtI a b q = 0 ∨ wtI a b q = 1 ∨ wtI a b q = -1:=by
 unfold wtI
 split
 ·exact .inr (.inl rfl)
 ·split
  ·exact .inr (.inr rfl)
  ·exact .inl rfl
theorem lQ (p : Nat -> I2) (q : I2) : ∀ n,(oddI n p q = true ↔ pR n p q % 2 = 1)
 | 0=>by unfold oddI pR isum; simp
 | n + 1=>by
  have ih:=lQ p q n
  have e : pR (n + 1) p q = pR n p q + wtI (p n) (p (n + 1)) q:=rfl
  have c:=aJO (p n) (p (n + 1)) q
  rw [e]
  unfold oddI
  split
  ·cases h : oddI n p q
   ·rw [h] at ih; simp at ih ⊢; omega
   ·rw [h] at ih; simp at ih ⊢; omega
  ·rename_i h0
   rw [ih]
   omega
theorem oddI_eq {n : Nat} {p : Nat -> I2} (per : p n = p 0) {u v : I2} (h : ∀ j,j < n -> ApI u v (p j) (p (j + 1))) : oddI n p u = oddI n p v:=by
 have h1:=lQ p u n
 have h2:=lQ p v n
 rw [aMX per h] at h1
 cases hu : oddI n p u <;> cases hv : oddI n p v <;> simp [hu,hv] at h1 h2 <;> first | rfl | omega
end Go.Proofs.YtngginofamlkkaaGreatDoor.PlaneG

noncomputable section
namespace Go.Proofs.YtngginofamlkkaaGreatDoor
open Go Go.RowKit
open Int (tmod toNat toNat_natCast)
open Go.IntKind (i64 wrap)
open List (length mem_cons not_mem_nil)
open Nat (lt_or_ge)
set_option maxRecDepth 100000
set_option maxHeartbeats 8000000
def aY (a b c : Pt) : Int:=(b.x - a.x) * (c.y - a.y) - (b.y - a.y) * (c.x - a.x)
def iF (a b c : Pt) : Int:=(a.x - b.x) * (c.x - b.x) + (a.y - b.y) * (c.y - b.y)
def onP (a b q : Pt) : Prop:=aY a b q = 0 /\ min a.x b.x <= q.x /\ q.x <= max a.x b.x /\ min a.y b.y <= q.y /\ q.y <= max a.y b.y
instance (a b q : Pt) : Decidable (onP a b q):=by unfold onP; infer_instance
def aBL (p q : Int) : Prop:=(p < 0 /\ 0 < q) ∨ (0 < p /\ q < 0)
instance (p q : Int) : Decidable (aBL p q):=by unfold aBL; infer_instance
def fH (a b c d : Pt) : Prop:=onP a b c ∨ onP a b d ∨ onP c d a ∨ onP c d b ∨ (aBL (aY a b c) (aY a b d) /\ aBL (aY c d a) (aY c d b))
instance (a b c d : Pt) : Decidable (fH a b c d):=by unfold fH; infer_instance
def fO (q : Pt) : Prop:=q.x < -32768 ∨ 32768 < q.x ∨ q.y < -32768 ∨ 32768 < q.y
instance (q : Pt) : Decidable (fO q):=by unfold fO; infer_instance
def cor (l : List Pt) (k : Nat) : Pt:=l.getD k ⟨0,0⟩
theorem xO {l : List Pt} {k : Nat} (h : k < l.length) : cor l k = l[k]:=by
 unfold cor
 rw [List.getD_eq_getElem?_getD,List.getElem?_eq_getElem h]
 rfl
def cyc (l : List Pt) (k : Nat) : Pt:=cor l (k % l.length)
theorem gN {l : List Pt} {k : Nat} (h : k < l.length) : cyc l k = cor l k:=by unfold cyc; rw [Nat.mod_eq_of_lt h]
theorem kD {l : List Pt} (h : 0 < l.length) (k : Nat) : cyc l k ∈ l:=by
 have hk:=Nat.mod_lt k h
 unfold cyc
 rw [xO hk]
 exact List.getElem_mem hk
def nJ (l : List Pt) (i k : Nat) : Prop:=(k + 1) % l.length ≠ i /\ fH (cyc l i) (cyc l (i + 1)) (cyc l k) (cyc l (k + 1))
instance (l : List Pt) (i k : Nat) : Decidable (nJ l i k):=by unfold nJ; infer_instance
def aJw (l : List Pt) (i : Nat) : Prop:=cyc l i = cyc l (i + 1) ∨ (aY (cyc l i) (cyc l (i + 1)) (cyc l (i + 2)) = 0 /\ 0 < iF (cyc l i) (cyc l (i + 1)) (cyc l (i + 2))) ∨ ∃ k,k < l.length /\ i + 2 <= k /\ nJ l i k
instance (l : List Pt) (i : Nat) : Decidable (aJw l i):=by unfold aJw; infer_instance
def iA (l : List Pt) : Prop:=∀ i,i < l.length -> ¬ aJw l i
instance (l : List Pt) : Decidable (iA l):=by unfold iA; infer_instance
def eJ (l : List Pt) (i : Nat) : Int:=(cyc l i).x * (cyc l (i + 1)).y - (cyc l (i + 1)).x * (cyc l i).y
def bM (f : Nat -> Int) : Nat -> Int
 | 0=>0
 | k + 1=>bM f k + f k
def dN (l : List Pt) : Int:=bM (eJ l) l.length
def aO (l : List Pt) : Int:=if l.length < 3 then 3 else if 32 < l.length then 4 else if ∃ p ∈ l,fO p then 9 else if ¬ iA l ∨ dN l = 0 then 17 else 0
def cE (l : List Pt) : Int:=if aO l = 0 then dN l else 0
def mO (l : List Pt) (i : Nat) : Int:=((cyc l i).x + (cyc l (i + 1)).x) * eJ l i
def mN (l : List Pt) (i : Nat) : Int:=((cyc l i).y + (cyc l (i + 1)).y) * eJ l i
def lB (l : List Pt) : Int:=if aO l = 0 then bM (mO l) l.length else 0
def lD (l : List Pt) : Int:=if aO l = 0 then bM (mN l) l.length else 0
def kT (l : List Pt) (q : Pt) (i : Nat) : Prop:=¬ (q.y < (cyc l i).y ↔ q.y < (cyc l (i + 1)).y) /\ (0 < aY (cyc l i) (cyc l (i + 1)) q ↔ (cyc l i).y < (cyc l (i + 1)).y)
instance (l : List Pt) (q : Pt) (i : Nat) : Decidable (kT l q i):=by unfold kT; infer_instance
def kV (l : List Pt) (q : Pt) (i : Nat) : Prop:=onP (cyc l i) (cyc l (i + 1)) q
instance (l : List Pt) (q : Pt) (i : Nat) : Decidable (kV l q i):=by unfold kV; infer_instance
def eP (f : Nat -> Prop) [DecidablePred f] : Nat -> Bool
 | 0=>false
 | k + 1=>if f k then !eP f k else eP f k
def cL (l : List Pt) (q : Pt) : Int :=
 if fO q ∨ aO l ≠ 0 then -1 else if ∃ i,i < l.length /\ kV l q i then 0 else if eP (kT l q) l.length then 1 else -1
def aG0 (l : List Pt) (i : Nat) : Prop:=onP (cyc l (i + 1)) (cyc l (i + 2)) (cyc l i) ∨ onP (cyc l i) (cyc l (i + 1)) (cyc l (i + 2)) ∨ ∃ k,k < l.length /\ i + 2 <= k /\ nJ l i k
instance (l : List Pt) (i : Nat) : Decidable (aG0 l i):=by unfold aG0; infer_instance
def kQ (l : List Pt) : Prop:=(∀ i,i < l.length -> ∀ k,k < i -> cor l i ≠ cor l k) /\ ∀ i,i < l.length -> ¬ aG0 l i
instance (l : List Pt) : Decidable (kQ l):=by unfold kQ; infer_instance
def eM (l : List Pt) : Int:=if l.length < 3 then 3 else if 32 < l.length then 4 else if ∃ p ∈ l,fO p then 9 else if ¬ kQ l then 17 else 0
def eS (l : List Pt) (q : Pt) (i : Nat) : Prop:=((cyc l i).y <= q.y /\ q.y < (cyc l (i + 1)).y /\ 0 < aY (cyc l i) (cyc l (i + 1)) q) ∨ ((cyc l (i + 1)).y <= q.y /\ q.y < (cyc l i).y /\ aY (cyc l i) (cyc l (i + 1)) q < 0)
instance (l : List Pt) (q : Pt) (i : Nat) : Decidable (eS l q i):=by unfold eS; infer_instance
def eQ (l : List Pt) (q : Pt) : Int :=
 if eM l ≠ 0 ∨ fO q then -1 else if ∃ i,i < l.length /\ kV l q i then 0 else if eP (eS l q) l.length then 1 else -1
def pl (p : Pt) : PlaneG.I2:=⟨p.x,p.y⟩
theorem aDs {p q : Pt} : pl p = pl q ↔ p = q:=by
 cases p; cases q
 simp [pl]
theorem aR2 (a b c : Pt) : PlaneG.cri (pl a) (pl b) (pl c) = aY a b c:=rfl
theorem on_pl (a b c : Pt) : PlaneG.onI (pl a) (pl b) (pl c) ↔ onP a b c:=Iff.rfl
theorem aBY {a b c d : Pt} (h : fH a b c d) : fH c d a b:=by
 unfold fH at *
 rcases h with h | h | h | h | ⟨h1,h2⟩
 ·exact .inr (.inr (.inl h))
 ·exact .inr (.inr (.inr (.inl h)))
 ·exact .inl h
 ·exact .inr (.inl h)
 ·exact .inr (.inr (.inr (.inr ⟨h2,h1⟩)))
theorem aIm (l : List Pt) (i : Nat) : cyc l (i + l.length) = cyc l i:=by unfold cyc; rw [Nat.add_mod_right]
theorem mU (l : List Pt) (i : Nat) : cyc l (i % l.length) = cyc l i:=by unfold cyc; rw [Nat.mod_mod]
theorem mC (l : List Pt) (i : Nat) : cyc l (i % l.length + 1) = cyc l (i + 1):=by unfold cyc; rw [Nat.mod_add_mod]
theorem aF0 (l : List Pt) (i : Nat) : cyc l (i % l.length + 2) = cyc l (i + 2):=by unfold cyc; rw [Nat.mod_add_mod]
theorem aKE {l : List Pt} (hs : ∀ i k,k < l.length -> i + 2 <= k -> ¬ nJ l i k) {i j : Nat} (h1 : i + 1 < j) (h2 : j + 1 < i + l.length) : ¬ fH (cyc l i) (cyc l (i + 1)) (cyc l j) (cyc l (j + 1)):=by
 have hn : 0 < l.length:=by omega
 have ha:=Nat.mod_lt i hn
 have hb:=Nat.mod_lt j hn
 have e1:=Nat.div_add_mod i l.length
 have e2:=Nat.div_add_mod j l.length
 generalize hA : i % l.length = a at *
 generalize hB : j % l.length = b at *
 generalize i / l.length = c at e1
 generalize j / l.length = d at e2
 intro hm
 rw [← mU l i,← mC l i,← mU l j,← mC l j,hA,hB] at hm
 have hd : d = c ∨ d = c + 1:=by
  rcases lt_or_ge d c with h | h
  ·have:=Nat.mul_le_mul_left l.length (show d + 1 <= c by omega)
   rw [Nat.mul_add] at this
   omega
  rcases lt_or_ge (c + 1) d with h' | h'
  ·have:=Nat.mul_le_mul_left l.length (show c + 2 <= d by omega)
   rw [Nat.mul_add] at this
   omega
  ·omega
 rcases hd with rfl | rfl
 ·refine hs a b hb (by omega) ⟨?_,hm⟩
  intro e
  rcases lt_or_ge (b + 1) l.length with h | h
  ·rw [Nat.mod_eq_of_lt h] at e; omega
  ·rw [show b + 1 = l.length by omega,Nat.mod_self] at e
   omega
 ·rw [Nat.mul_add] at e2
  refine hs b a ha (by omega) ⟨?_,aBY hm⟩
  intro e
  rcases lt_or_ge (a + 1) l.length with h | h
  ·rw [Nat.mod_eq_of_lt h] at e; omega
  ·rw [show a + 1 = l.length by omega,Nat.mod_self] at e
   omega
theorem tJ {l : List Pt} (h3 : 3 <= l.length) (hs : iA l) : PlaneG.Simp l.length fun i=>pl (cyc l i):=by
 have hn : 0 < l.length:=by omega
 have hb : ∀ i,¬ aJw l (i % l.length):=fun i=>hs _ (Nat.mod_lt i hn)
 refine ⟨h3,fun i=>by rw [aIm],fun i e=>?_,fun i hc=>?_,fun i j h1 h2 hm=>?_⟩
 ·refine hb i (.inl ?_)
  rw [mU,mC]
  exact aDs.1 e
 ·rcases Int.lt_or_le 0 (PlaneG.dti (pl (cyc l i)) (pl (cyc l (i + 1))) (pl (cyc l (i + 2)))) with h | h
  ·exfalso
   refine hb i (.inr (.inl ⟨?_,?_⟩))
   ·rw [mU,mC,aF0]; exact hc
   ·rw [mU,mC,aF0]; exact h
  ·exact h
 ·exact aKE (fun i k hk hik hc=>hs i (by omega) (.inr (.inr ⟨k,hk,hik,hc⟩))) h1 h2 hm
theorem gI (f : Nat -> Int) : ∀ n,bM f n = PlaneG.isum n f
 | 0=>rfl
 | n + 1=>by
  show bM f n + f n = PlaneG.isum n f + f n
  rw [gI f n]
theorem area_ne {l : List Pt} (h3 : 3 <= l.length) (hn : ∀ p ∈ l,¬ fO p) (hs : iA l) : dN l ≠ 0:=by
 have h:=(tJ h3 hs).area (N:=32768) fun i=>by
  have:=hn _ (kD (by omega) i)
  unfold fO at this
  show -32768 <= (cyc l i).x /\ (cyc l i).x <= 32768 /\ -32768 <= (cyc l i).y /\ (cyc l i).y <= 32768
  omega
 unfold dN
 rw [gI]
 exact h
theorem aPR {a b c : Pt} (h : aY a b c = 0) (hd : 0 < iF a b c) : onP b c a ∨ onP a b c:=by
 have e : (a.x - b.x) * (c.y - b.y) = (a.y - b.y) * (c.x - b.x):=by unfold aY at h; grind
 have h1 : aY b c a = 0:=by unfold aY at *; grind
 have e1 : (a.x - b.x) * iF c b c = (c.x - b.x) * iF a b c:=by unfold iF; grind
 have e2 : (a.y - b.y) * iF c b c = (c.y - b.y) * iF a b c:=by unfold iF; grind
 have e3 : (c.x - b.x) * iF a b a = (a.x - b.x) * iF a b c:=by unfold iF; grind
 have e4 : (c.y - b.y) * iF a b a = (a.y - b.y) * iF a b c:=by unfold iF; grind
 have e5 : iF a b c * iF a b c = iF a b a * iF c b c:=by unfold iF; grind
 have n1 : 0 <= iF a b a:=by
  have q1:=PlaneG.sq_nn (a.x - b.x); have q2:=PlaneG.sq_nn (a.y - b.y); unfold iF; omega
 have n2 : 0 <= iF c b c:=by
  have q1:=PlaneG.sq_nn (c.x - b.x); have q2:=PlaneG.sq_nn (c.y - b.y); unfold iF; omega
 generalize iF a b c = k at *
 generalize iF a b a = m at *
 generalize iF c b c = n at *
 have k2:=Int.mul_pos hd hd
 have hm : 0 < m:=by
  rcases Int.lt_or_le 0 m with h | h
  ·exact h
  ·rw [show m = 0 by omega,Int.zero_mul] at e5; omega
 have hn : 0 < n:=by
  rcases Int.lt_or_le 0 n with h | h
  ·exact h
  ·rw [show n = 0 by omega,Int.mul_zero] at e5; omega
 rcases Int.le_total k n with h2 | h2
 ·left
  have b1:=PlaneG.scale_btw hn (by omega) h2 e1
  have b2:=PlaneG.scale_btw hn (by omega) h2 e2
  exact ⟨h1,by omega,by omega,by omega,by omega⟩
 ·right
  have h3 : k <= m:=by
   rcases Int.le_total k m with h | h
   ·exact h
   ·rcases Int.lt_or_le m k with h4 | h4
    ·have a1:=Int.mul_lt_mul_of_pos_right h4 hd
     have a2:=Int.mul_le_mul_of_nonneg_left h2 n1
     omega
    ·exact h4
  have b1:=PlaneG.scale_btw hm (by omega) h3 e3
  have b2:=PlaneG.scale_btw hm (by omega) h3 e4
  exact ⟨h,by omega,by omega,by omega,by omega⟩
theorem aEP {u v : Int} (h : (0 <= u /\ u <= v) ∨ (v <= u /\ u <= 0)) : 0 <= u * v /\ (u ≠ 0 -> 0 < u * v):=by
 rcases h with ⟨h1,h2⟩ | ⟨h1,h2⟩
 ·refine ⟨Int.mul_nonneg h1 (by omega),fun h=>Int.mul_pos (by omega) (by omega)⟩
 ·refine ⟨Int.mul_nonneg_of_nonpos_of_nonpos h2 (by omega),fun h=>Int.mul_pos_of_neg_of_neg (by omega) (by omega)⟩
theorem aJ2 {a b c : Pt} (hab : a ≠ b) (h : onP b c a) : aY a b c = 0 /\ 0 < iF a b c:=by
 obtain ⟨h0,h1,h2,h3,h4⟩:=h
 refine ⟨by unfold aY at *; grind,?_⟩
 have x:=aEP (u:=a.x - b.x) (v:=c.x - b.x) (by omega)
 have y:=aEP (u:=a.y - b.y) (v:=c.y - b.y) (by omega)
 unfold iF
 by_cases hx : a.x - b.x = 0
 ·have hy : a.y - b.y ≠ 0:=fun hy=>hab (Pt.ext' (by omega) (by omega))
  have:=y.2 hy
  omega
 ·have:=x.2 hx
  omega
theorem aMr (a b c : Pt) : iF a b c = iF c b a:=by unfold iF; grind
theorem aPm {a b q : Pt} (h : onP a b q) : onP b a q:=by
 obtain ⟨h0,h1,h2,h3,h4⟩:=h
 exact ⟨by unfold aY at *; grind,by omega,by omega,by omega,by omega⟩
theorem aKM {l : List Pt} (h3 : 3 <= l.length) : iA l ↔ kQ l:=by
 constructor
 ·intro hs
  have s:=tJ h3 hs
  refine ⟨fun i hi k hk e=>?_,fun i hi hb=>?_⟩
  ·refine s.dist (i:=k) (j:=i) hk (by omega) (aDs.2 ?_)
   rw [gN (by omega),gN hi,e]
  ·have n1 : cyc l i ≠ cyc l (i + 1):=fun e=>s.ne i (aDs.2 e)
   have n2 : cyc l (i + 1) ≠ cyc l (i + 2):=fun e=>s.ne (i + 1) (aDs.2 e)
   rcases hb with hb | hb | ⟨k,hk,hik,hc⟩
   ·exact hs i hi (.inr (.inl (aJ2 n1 hb)))
   ·obtain ⟨g1,g2⟩:=aJ2 (fun e=>n2 e.symm) (aPm hb)
    refine hs i hi (.inr (.inl ⟨by unfold aY at *; grind,by rw [aMr]; exact g2⟩))
   ·exact hs i hi (.inr (.inr ⟨k,hk,hik,hc⟩))
 ·rintro ⟨hd,hs⟩ i hi hb
  rcases hb with hb | ⟨h1,h2⟩ | ⟨k,hk,hik,hc⟩
  ·rw [gN hi] at hb
   rcases lt_or_ge (i + 1) l.length with h | h
   ·rw [gN h] at hb
    exact hd (i + 1) h i (by omega) hb.symm
   ·unfold cyc at hb
    rw [show i + 1 = l.length by omega,Nat.mod_self] at hb
    exact hd i hi 0 (by omega) hb
  ·rcases aPR h1 h2 with h | h
   ·exact hs i hi (.inl h)
   ·exact hs i hi (.inr (.inl h))
  ·exact hs i hi (.inr (.inr ⟨k,hk,hik,hc⟩))
theorem dU (l : List Pt) : aO l = eM l:=by
 unfold aO eM
 by_cases h1 : l.length < 3
 ·rw [if_pos h1,if_pos h1]
 rw [if_neg h1,if_neg h1]
 by_cases h2 : 32 < l.length
 ·rw [if_pos h2,if_pos h2]
 rw [if_neg h2,if_neg h2]
 by_cases h3 : ∃ p ∈ l,fO p
 ·rw [if_pos h3,if_pos h3]
 rw [if_neg h3,if_neg h3]
 have he:=aKM (l:=l) (by omega)
 by_cases h4 : iA l
 ·have ha:=area_ne (by omega) (fun p hp hf=>h3 ⟨p,hp,hf⟩) h4
  rw [if_neg (by intro h; rcases h with h | h; exact h h4; exact ha h),if_neg (fun h=>h (he.1 h4))]
 ·rw [if_pos (.inl h4),if_pos (fun h=>h4 (he.2 h))]
theorem fL {l : List Pt} (h : aO l = 0) : 3 <= l.length /\ l.length <= 32 /\ (∀ p ∈ l,¬ fO p) /\ iA l:=by
 unfold aO at h
 split at h
 ·cases h
 split at h
 ·cases h
 split at h
 ·cases h
 rename_i h3
 split at h
 ·cases h
 rename_i h4
 refine ⟨by omega,by omega,fun p hp hf=>h3 ⟨p,hp,hf⟩,?_⟩
 by_cases hs : iA l
 ·exact hs
 ·exact absurd (.inl hs) h4
theorem yQ {f g : Nat -> Prop} [DecidablePred f] [DecidablePred g] : ∀ {n : Nat},(∀ i,i < n -> (f i ↔ g i)) -> eP f n = eP g n
 | 0,_=>rfl
 | n + 1,h=>by
  unfold eP
  rw [yQ fun i hi=>h i (by omega)]
  have:=h n (by omega)
  by_cases hf : f n
  ·rw [if_pos hf,if_pos (this.1 hf)]
  ·rw [if_neg hf,if_neg fun hg=>hf (this.2 hg)]
theorem aSe {l : List Pt} {q : Pt} {i : Nat} (h : ¬ kV l q i) : kT l q i ↔ eS l q i:=by
 unfold kT eS
 unfold kV at h
 by_cases hc : aY (cyc l i) (cyc l (i + 1)) q = 0
 ·have hn : ¬ (((cyc l i).y <= q.y /\ q.y < (cyc l (i + 1)).y) ∨ ((cyc l (i + 1)).y <= q.y /\ q.y < (cyc l i).y)):=by
   intro hl
   have h0 : PlaneG.cri (pl (cyc l i)) (pl (cyc l (i + 1))) (pl q) = 0:=hc
   have hd:=PlaneG.out_dot h0 (by rw [on_pl]; exact h)
   have e : ((cyc l i).x - q.x) * ((cyc l (i + 1)).y - q.y) = ((cyc l i).y - q.y) * ((cyc l (i + 1)).x - q.x):=by unfold aY at hc; grind
   have hd : 0 < ((cyc l i).x - q.x) * ((cyc l (i + 1)).x - q.x) + ((cyc l i).y - q.y) * ((cyc l (i + 1)).y - q.y):=hd
   generalize (cyc l i).x - q.x = ux at *
   generalize hu : (cyc l i).y - q.y = uy at *
   generalize (cyc l (i + 1)).x - q.x = vx at *
   generalize hv : (cyc l (i + 1)).y - q.y = vy at *
   have sq : (ux * vx) * (uy * vy) = (ux * vy) * (ux * vy):=by grind
   have nn:=PlaneG.sq_nn (ux * vy)
   have ny : uy * vy <= 0:=by
    rcases hl with hl | hl
    ·exact Int.mul_nonpos_of_nonpos_of_nonneg (by omega) (by omega)
    ·exact Int.mul_nonpos_of_nonneg_of_nonpos (by omega) (by omega)
   have px : 0 < ux * vx:=by omega
   rcases Int.lt_or_eq_of_le ny with h1 | h1
   ·have:=Int.mul_neg_of_pos_of_neg px h1
    omega
   ·have z : uy = 0 ∨ vy = 0:=Int.mul_eq_zero.1 h1
    rcases hl with hl | hl
    ·have : uy = 0:=by omega
     subst this
     rw [Int.zero_mul] at e
     have:=Int.mul_eq_zero.1 e
     rcases this with h2 | h2
     ·rw [h2,Int.zero_mul] at px; omega
     ·omega
    ·have : vy = 0:=by omega
     subst this
     rw [Int.mul_zero] at e
     have:=Int.mul_eq_zero.1 e.symm
     rcases this with h2 | h2
     ·omega
     ·rw [h2,Int.mul_zero] at px; omega
  omega
 ·omega
theorem kP (l : List Pt) (q : Pt) : cL l q = eQ l q:=by
 unfold cL eQ
 rw [dU]
 by_cases h1 : fO q ∨ eM l ≠ 0
 ·rw [if_pos h1,if_pos h1.symm]
 rw [if_neg h1,if_neg (show ¬ (eM l ≠ 0 ∨ fO q) from fun h=>h1 h.symm)]
 by_cases h2 : ∃ i,i < l.length /\ kV l q i
 ·rw [if_pos h2,if_pos h2]
 rw [if_neg h2,if_neg h2]
 rw [yQ (f:=kT l q) (g:=eS l q) fun i hi=>aSe fun h=>h2 ⟨i,hi,h⟩]
theorem aOM (l : List Pt) (q : Pt) (i : Nat) : eS l q i ↔ PlaneG.wtI (pl (cyc l i)) (pl (cyc l (i + 1))) (pl q) ≠ 0:=by
 unfold eS PlaneG.wtI
 rw [aR2]
 show _ ↔ (if (cyc l i).y <= q.y /\ q.y < (cyc l (i + 1)).y /\ 0 < aY (cyc l i) (cyc l (i + 1)) q then (1 : Int) else if (cyc l (i + 1)).y <= q.y /\ q.y < (cyc l i).y /\ aY (cyc l i) (cyc l (i + 1)) q < 0 then -1 else 0) ≠ 0
 split
 ·simp [*]
 ·split
  ·simp [*]
  ·simp [*]
theorem rU (l : List Pt) (q : Pt) : ∀ n,eP (eS l q) n = PlaneG.oddI n (fun i=>pl (cyc l i)) (pl q)
 | 0=>rfl
 | n + 1=>by
  unfold eP PlaneG.oddI
  rw [rU l q n]
  have:=aOM l q n
  by_cases h : eS l q n
  ·rw [if_pos h,if_pos (this.1 h)]
  ·rw [if_neg h,if_neg fun g=>h (this.2 g)]
def cN (p q : List Pt) : Prop:=∃ i,i < p.length /\ ∃ k,k < q.length /\ fH (cyc p i) (cyc p (i + 1)) (cyc q k) (cyc q (k + 1))
instance (p q : List Pt) : Decidable (cN p q):=by unfold cN; infer_instance
theorem mX {p q : List Pt} (h : cN p q) : cN q p:=by
 obtain ⟨i,hi,k,hk,hm⟩:=h
 exact ⟨k,hk,i,hi,aBY hm⟩
theorem aLd {p q : List Pt} (hx : ¬ cN p q) {i : Nat} (hi : i < p.length) : ¬ ∃ k,k < q.length /\ kV q (cyc p i) k:=by
 rintro ⟨k,hk,ho⟩
 exact hx ⟨i,hi,k,hk,.inr (.inr (.inl ho))⟩
theorem aMb {p q : List Pt} (hp : aO p = 0) (hq : aO q = 0) (hx : ¬ cN p q) (i : Nat) (hi : i < p.length) : eP (eS q (cyc p i)) q.length = eP (eS q (cyc p (i + 1))) q.length:=by
 obtain ⟨p3,_,_,ps⟩:=fL hp
 obtain ⟨q3,_,_,qs⟩:=fL hq
 have sp:=tJ p3 ps
 have sq:=tJ q3 qs
 rw [rU,rU]
 refine PlaneG.oddI_eq (by show pl (cyc q q.length) = pl (cyc q 0); rw [show q.length = 0 + q.length by omega,aIm]) fun j hj=>?_
 refine PlaneG.api_of (sp.ne i) (sq.ne j) fun hm=>hx ⟨i,hi,j,hj,hm⟩
theorem aIr {p q : List Pt} (hp : aO p = 0) (hq : aO q = 0) (hx : ¬ cN p q) : ∀ i,i < p.length -> eP (eS q (cyc p i)) q.length = eP (eS q (cyc p 0)) q.length
 | 0,_=>rfl
 | i + 1,hi=>by rw [← aMb hp hq hx i (by omega)]; exact aIr hp hq hx i (by omega)
theorem aCx {p q : List Pt} (hp : aO p = 0) (hq : aO q = 0) (hx : ¬ cN p q) {i : Nat} (hi : i < p.length) : cL q (cyc p i) = cL q (cyc p 0):=by
 obtain ⟨p3,_,pf,_⟩:=fL hp
 have key : ∀ j,j < p.length -> cL q (cyc p j) = if eP (eS q (cyc p j)) q.length then 1 else -1:=fun j hj=>by
  rw [kP]
  unfold eQ
  rw [if_neg (by rw [← dU]; rintro (h | h); exact h hq; exact pf _ (kD (by omega) j) h),if_neg (aLd hx hj)]
 rw [key i hi,key 0 (by omega),aIr hp hq hx i hi]
def gF (h o : List Pt) : Prop:=¬ cN h o /\ ∀ c ∈ h,cL o c = 1
instance (h o : List Pt) : Decidable (gF h o):=by unfold gF; infer_instance
def gC (p q : List Pt) : Prop:=¬ cN p q /\ cL p (cor q 0) < 0 /\ cL q (cor p 0) < 0
instance (p q : List Pt) : Decidable (gC p q):=by unfold gC; infer_instance
def eT (f : Nat -> Int) : Nat -> Int
 | 0=>0
 | n + 1=>if eT f n ≠ 0 then eT f n else f n
def lF (o : List Pt) (hs : List (List Pt)) (i : Nat) : Int :=
 if aO (hs.getD i []) ≠ 0 then aO (hs.getD i []) else if 0 <= cE (hs.getD i []) ∨ ¬ gF (hs.getD i []) o ∨ ∃ k,k < i /\ ¬ gC (hs.getD i []) (hs.getD k []) then 17 else 0
def cA (o : List Pt) (hs : List (List Pt)) : Int :=
 if 8 < hs.length then 12 else if aO o ≠ 0 then aO o else if cE o <= 0 then 17 else eT (lF o hs) hs.length
def yZ (l : List Pt) : Int:=if eM l = 0 then dN l else 0
theorem tT (l : List Pt) : cE l = yZ l:=by unfold cE yZ; rw [dU]
def kO (o : List Pt) (hs : List (List Pt)) (i : Nat) : Int :=
 if eM (hs.getD i []) ≠ 0 then eM (hs.getD i []) else if 0 <= yZ (hs.getD i []) ∨ cN o (hs.getD i []) ∨ eQ o (cor (hs.getD i []) 0) ≠ 1 ∨ ∃ k,k < i /\ (cN (hs.getD i []) (hs.getD k []) ∨ eQ (hs.getD i []) (cor (hs.getD k []) 0) ≠ -1 ∨ eQ (hs.getD k []) (cor (hs.getD i []) 0) ≠ -1) then 17 else 0
def pU (o : List Pt) (hs : List (List Pt)) : Int :=
 if 8 < hs.length then 12 else if eM o ≠ 0 then eM o else if yZ o <= 0 then 17 else eT (kO o hs) hs.length
theorem yG (l : List Pt) (q : Pt) : cL l q = -1 ∨ cL l q = 0 ∨ cL l q = 1:=by
 unfold cL
 split
 ·exact .inl rfl
 split
 ·exact .inr (.inl rfl)
 split
 ·exact .inr (.inr rfl)
 ·exact .inl rfl
theorem aJL {h o : List Pt} (hh : aO h = 0) (ho : aO o = 0) : gF h o ↔ ¬ (cN o h ∨ eQ o (cor h 0) ≠ 1):=by
 obtain ⟨h3,_,_,_⟩:=fL hh
 have e0 : cyc h 0 = cor h 0:=gN (by omega)
 constructor
 ·rintro ⟨h1,h2⟩ (h | h)
  ·exact h1 (mX h)
  ·rw [← kP,← e0] at h
   exact h (h2 _ (kD (by omega) 0))
 ·intro hn
  have hx : ¬ cN h o:=fun h=>hn (.inl (mX h))
  refine ⟨hx,fun c hc=>?_⟩
  obtain ⟨i,hi,rfl⟩:=List.mem_iff_getElem.1 hc
  have e : h[i] = cyc h i:=by rw [gN hi,xO hi]
  rw [e,aCx hh ho hx hi,e0,kP]
  by_cases h1 : eQ o (cor h 0) = 1
  ·exact h1
  ·exact absurd (.inr h1) hn
theorem aFb (p q : List Pt) : gC p q ↔ ¬ (cN p q ∨ eQ p (cor q 0) ≠ -1 ∨ eQ q (cor p 0) ≠ -1):=by
 unfold gC
 rw [← kP,← kP]
 have c1:=yG p (cor q 0)
 have c2:=yG q (cor p 0)
 by_cases hx : cN p q
 ·simp [hx]
 ·simp only [hx,not_false_eq_true,true_and,false_or]
  omega
theorem pX {f g : Nat -> Int} : ∀ {n : Nat},(∀ i,i < n -> f i = g i) -> eT f n = eT g n
 | 0,_=>rfl
 | n + 1,h=>by
  unfold eT
  rw [pX fun i hi=>h i (by omega),h n (by omega)]
theorem aHa {o : List Pt} {hs : List (List Pt)} (ho : aO o = 0) (i : Nat) : lF o hs i = kO o hs i:=by
 unfold lF kO
 rw [← dU,← tT]
 by_cases hh : aO (hs.getD i []) = 0
 ·have hn : ¬ (aO (hs.getD i []) ≠ 0):=fun h=>h hh
  rw [if_neg hn,if_neg hn]
  have e1:=aJL hh ho
  have e2 : (∃ k,k < i /\ ¬ gC (hs.getD i []) (hs.getD k [])) ↔ ∃ k,k < i /\ (cN (hs.getD i []) (hs.getD k []) ∨ eQ (hs.getD i []) (cor (hs.getD k []) 0) ≠ -1 ∨ eQ (hs.getD k []) (cor (hs.getD i []) 0) ≠ -1):=by
   constructor
   ·rintro ⟨k,hk,h⟩
    rw [aFb,Decidable.not_not] at h
    exact ⟨k,hk,h⟩
   ·rintro ⟨k,hk,h⟩
    refine ⟨k,hk,?_⟩
    rw [aFb,Decidable.not_not]
    exact h
  have e3 : ¬ gF (hs.getD i []) o ↔ (cN o (hs.getD i []) ∨ eQ o (cor (hs.getD i []) 0) ≠ 1):=by
   rw [e1,Decidable.not_not]
  have e4 : (0 <= cE (hs.getD i []) ∨ ¬ gF (hs.getD i []) o ∨ ∃ k,k < i /\ ¬ gC (hs.getD i []) (hs.getD k [])) ↔ (0 <= cE (hs.getD i []) ∨ cN o (hs.getD i []) ∨ eQ o (cor (hs.getD i []) 0) ≠ 1 ∨ ∃ k,k < i /\ (cN (hs.getD i []) (hs.getD k []) ∨ eQ (hs.getD i []) (cor (hs.getD k []) 0) ≠ -1 ∨ eQ (hs.getD k []) (cor (hs.getD i []) 0) ≠ -1)):=by
   rw [e2,e3,or_assoc]
  by_cases h : 0 <= cE (hs.getD i []) ∨ ¬ gF (hs.getD i []) o ∨ ∃ k,k < i /\ ¬ gC (hs.getD i []) (hs.getD k [])
  ·rw [if_pos h,if_pos (e4.1 h)]
  ·rw [if_neg h,if_neg fun g=>h (e4.2 g)]
 ·rw [if_pos hh,if_pos hh]
theorem aBF (o : List Pt) (hs : List (List Pt)) : cA o hs = pU o hs:=by
 unfold cA pU
 rw [← dU,← tT]
 by_cases h1 : 8 < hs.length
 ·rw [if_pos h1,if_pos h1]
 rw [if_neg h1,if_neg h1]
 by_cases h2 : aO o = 0
 ·have hn : ¬ (aO o ≠ 0):=fun h=>h h2
  rw [if_neg hn,if_neg hn]
  rw [pX fun i _=>aHa h2 i]
 ·rw [if_pos h2,if_pos h2]
abbrev ptV (p : Pt) : Value:=.agg #[.int .i64 p.x,.int .i64 p.y]
structure Nr (p : Pt) : Prop where
 h : -32768 <= p.x /\ p.x <= 32768 /\ -32768 <= p.y /\ p.y <= 32768
def dI (n : Int) : Int:=if n < 0 then -1 else if n = 0 then 0 else 1
def vU (args : List Value) (Post : Value -> Prop) : Prop:=match args with
 | [.int .i64 n]=>Post (.int .i64 (dI n))
 | _=>False
def jI (args : List Value) (Post : Value -> Prop) : Prop:=∃ a b c : Pt,args = [ptV a,ptV b,ptV c] /\ Nr a /\ Nr b /\ Nr c /\ Post (.int .i64 (aY a b c))
def aFN (args : List Value) (Post : Value -> Prop) : Prop:=∃ a b q : Pt,args = [ptV a,ptV b,ptV q] /\ Nr a /\ Nr b /\ Nr q /\ Post (.bool (decide (onP a b q)))
def mT (args : List Value) (Post : Value -> Prop) : Prop:=∃ a b c d : Pt,args = [ptV a,ptV b,ptV c,ptV d] /\ Nr a /\ Nr b /\ Nr c /\ Nr d /\ Post (.bool (decide (fH a b c d)))
theorem aPX (a b c : Pt) (H : HT) (Post : PV) : vcP Tryz.prog aI 229 [] [ptV a,ptV b,ptV c] H Post = (T16 (T8 (T4 (True /\ Post (vi (wrap i64 (wrap i64 (wrap i64 (b.x - a.x) * wrap i64 (c.y - a.y)) - wrap i64 (wrap i64 (b.y - a.y) * wrap i64 (c.x - a.x))))))))):=by kernel_rfl
theorem e_onP (a b c : Pt) (H : HT) (Post : PV) : vcP Tryz.prog (cT Tryz.prog [250] (aU [⟨229,jI⟩] aI) 2) 234 [] [ptV a,ptV b,ptV c] H Post = (let q1:=True /\ Post (vb false); T4 (T2 (True /\ ∃ (a_1 : Pt),∃ (b_1 : Pt),∃ (c_1 : Pt),eqL [Value.agg #[vi a.x,vi a.y],Value.agg #[vi b.x,vi b.y],Value.agg #[vi c.x,vi c.y]] [ptV a_1,ptV b_1,ptV c_1] /\ Nr a_1 /\ Nr b_1 /\ Nr c_1 /\ True /\ pIf (decide (aY a_1 b_1 c_1 = 0)) (T16 (pIf (decide ((if b.x < a.x then b.x else a.x) <= c.x)) (T8 (True /\ pIf (decide (c.x <= if b.x > a.x then b.x else a.x)) (T8 (T2 (pIf (decide ((if b.y < a.y then b.y else a.y) <= c.y)) (T8 (T2 (pIf (decide (c.y <= if b.y > a.y then b.y else a.y)) (T4 (True /\ Post (vb true))) (T4 q1)))) (T4 (T2 q1))))) (T8 q1))) (T8 (T2 (Post (vb false)))))) (T4 (Post (vb false)))))):=by kernel_rfl
theorem e_sgn (n : Int) (H : HT) (Post : PV) : vcP Tryz.prog (cT Tryz.prog [264,271] aI 3) 249 [] [.int .i64 n] H Post = (T8 (pIf (!decide (n = n)) (T8 (T4 (T2 (Post (vi (-1)))))) (T8 (T4 (T2 (pIf (decide (n < 0)) (T2 (True /\ Post (vi (-1)))) (T2 (True /\ pIf (decide (n > 0)) (T2 (True /\ Post (vi 1))) (T2 (True /\ Post (vi 0))))))))))):=by kernel_rfl
theorem aPb (a b c d : Pt) (H : HT) (Post : PV) : vcP Tryz.prog (aU [⟨249,vU⟩,⟨229,jI⟩,⟨234,aFN⟩] aI) 230 [] [ptV a,ptV b,ptV c,ptV d] H Post = (let q5:=#[vi d.x,vi d.y]; let q4:=#[vi c.x,vi c.y]; let q3:=#[vi b.x,vi b.y]; let q2:=True /\ Post (vb true); let q1:=[Value.agg q4,Value.agg q5,Value.agg q3]; T8 (∃ (a_1 : Pt),∃ (b_1 : Pt),∃ (q : Pt),eqL [Value.agg #[vi a.x,vi a.y],Value.agg q3,Value.agg q4] [ptV a_1,ptV b_1,ptV q] /\ Nr a_1 /\ Nr b_1 /\ Nr q /\ pIf (decide (onP a_1 b_1 q)) (T8 (Post (vb true))) (T4 (∃ (a_2 : Pt),∃ (b_2 : Pt),∃ (q : Pt),eqL [Value.agg #[vi a.x,vi a.y],Value.agg q3,Value.agg q5] [ptV a_2,ptV b_2,ptV q] /\ Nr a_2 /\ Nr b_2 /\ Nr q /\ pIf (decide (onP a_2 b_2 q)) (T4 (T2 q2)) (T4 (True /\ ∃ (a_3 : Pt),∃ (b_3 : Pt),∃ (q : Pt),eqL [Value.agg q4,Value.agg q5,Value.agg #[vi a.x,vi a.y]] [ptV a_3,ptV b_3,ptV q] /\ Nr a_3 /\ Nr b_3 /\ Nr q /\ pIf (decide (onP a_3 b_3 q)) (T4 q2) (T4 (True /\ ∃ (a_4 : Pt),∃ (b_4 : Pt),∃ (q : Pt),eqL q1 [ptV a_4,ptV b_4,ptV q] /\ Nr a_4 /\ Nr b_4 /\ Nr q /\ pIf (decide (onP a_4 b_4 q)) (T2 q2) (T4 (T2 (True /\ ∃ (a_5 : Pt),∃ (b_5 : Pt),∃ (c_1 : Pt),eqL [Value.agg #[vi a.x,vi a.y],Value.agg q3,Value.agg q4] [ptV a_5,ptV b_5,ptV c_1] /\ Nr a_5 /\ Nr b_5 /\ Nr c_1 /\ T2 (∃ (a_6 : Pt),∃ (b_6 : Pt),∃ (c_2 : Pt),eqL [Value.agg #[vi a.x,vi a.y],Value.agg q3,Value.agg q5] [ptV a_6,ptV b_6,ptV c_2] /\ Nr a_6 /\ Nr b_6 /\ Nr c_2 /\ T4 (pIf (decide (wrap i64 (dI (aY a_5 b_5 c_1) * dI (aY a_6 b_6 c_2)) < 0)) (T4 (T2 (True /\ ∃ (a_7 : Pt),∃ (b_7 : Pt),∃ (c_3 : Pt),eqL [Value.agg q4,Value.agg q5,Value.agg #[vi a.x,vi a.y]] [ptV a_7,ptV b_7,ptV c_3] /\ Nr a_7 /\ Nr b_7 /\ Nr c_3 /\ T2 (∃ (a : Pt),∃ (b_8 : Pt),∃ (c_4 : Pt),eqL q1 [ptV a,ptV b_8,ptV c_4] /\ Nr a /\ Nr b_8 /\ Nr c_4 /\ T4 (pIf (decide (wrap i64 (dI (aY a_7 b_7 c_3) * dI (aY a b_8 c_4)) < 0)) (T2 q2) (T2 (True /\ Post (vb false)))))))) (T4 (Post (vb false)))))))))))))))):=by kernel_rfl
theorem ifD {P : Prop} [Decidable P] {X Y : Prop} (h1 : P -> X) (h2 : ¬ P -> Y) : pIf (decide P) X Y:=aE (fun h=>h1 (of_decide_eq_true h)) (fun h=>h2 (of_decide_eq_false h))
theorem ifN {P : Prop} [Decidable P] {X Y : Prop} (h1 : ¬ P -> X) (h2 : P -> Y) : pIf (!decide P) X Y:=aE (fun h=>h1 (by simpa using h)) (fun h=>h2 (by simpa using h))
theorem fW {a b A B : Int} (ha : -A <= a /\ a <= A) (hb : -B <= b /\ b <= B) : -(A * B) <= a * b /\ a * b <= A * B:=by
 have p1:=Int.mul_nonneg (show 0 <= A - a by omega) (show 0 <= B + b by omega)
 have p2:=Int.mul_nonneg (show 0 <= A + a by omega) (show 0 <= B - b by omega)
 have p3:=Int.mul_nonneg (show 0 <= A - a by omega) (show 0 <= B - b by omega)
 have p4:=Int.mul_nonneg (show 0 <= A + a by omega) (show 0 <= B + b by omega)
 have e1 : (A - a) * (B + b) + (A + a) * (B - b) = 2 * (A * B) - 2 * (a * b):=by grind
 have e2 : (A - a) * (B - b) + (A + a) * (B + b) = 2 * (A * B) + 2 * (a * b):=by grind
 omega
theorem oI {a b c : Pt} (ha : Nr a) (hb : Nr b) (hc : Nr c) : wrap .i64 (wrap .i64 (wrap .i64 (b.x - a.x) * wrap .i64 (c.y - a.y)) - wrap .i64 (wrap .i64 (b.y - a.y) * wrap .i64 (c.x - a.x))) = aY a b c:=by
 have h1:=ha.h; have h2:=hb.h; have h3:=hc.h
 have m1:=fW (a:=b.x - a.x) (b:=c.y - a.y) (A:=65536) (B:=65536) (by omega) (by omega)
 have m2:=fW (a:=b.y - a.y) (b:=c.x - a.x) (A:=65536) (B:=65536) (by omega) (by omega)
 rw [bA (n:=b.x - a.x) (by omega) (by omega),bA (n:=c.y - a.y) (by omega) (by omega),bA (n:=b.y - a.y) (by omega) (by omega),bA (n:=c.x - a.x) (by omega) (by omega),bA (n:=(b.x - a.x) * (c.y - a.y)) (by omega) (by omega),bA (n:=(b.y - a.y) * (c.x - a.x)) (by omega) (by omega),bA (by omega) (by omega)]
 rfl
theorem tZ : aZ Tryz.prog ⟨229,jI⟩:=by
 rintro args Post ⟨a,b,c,rfl,ha,hb,hc,h⟩
 refine aN (vc:=aI) aD mixed (by kernel_rfl) (by kernel_rfl) _ (aPX a b c _ _) ?_
 rw [← oI ha hb hc] at h
 simp only [true_and]
 exact h
theorem aEj (x y : Int) : (if y < x then y else x) = min x y:=by
 by_cases h : y < x
 ·rw [if_pos h]; omega
 ·rw [if_neg h]; omega
theorem aEa (x y : Int) : (if y > x then y else x) = max x y:=by
 by_cases h : y > x
 ·rw [if_pos h]; omega
 ·rw [if_neg h]; omega
theorem aLM : aZ Tryz.prog ⟨234,aFN⟩:=by
 rintro args Post ⟨a,b,q,rfl,ha,hb,hq,h⟩
 refine aN (bL mixed (aM (by
  intro e he
  simp only [mem_cons,not_mem_nil,or_false] at he
  subst he
  exact tZ) aD) 2) mixed (by kernel_rfl) (by kernel_rfl) _ (e_onP a b q _ _) ?_
 simp only [true_and,aEj,aEa]
 have yes : onP a b q -> Post (.bool true):=fun hp=>by rwa [decide_eq_true hp] at h
 have no : ¬ onP a b q -> Post (.bool false):=fun hp=>by rwa [decide_eq_false hp] at h
 refine ⟨a,b,q,rfl,ha,hb,hq,ifD (fun h1=>?_) (fun h1=>no fun hp=>h1 hp.1)⟩
 refine ifD (fun h2=>?_) (fun h2=>no fun hp=>h2 hp.2.1)
 refine ifD (fun h3=>?_) (fun h3=>no fun hp=>h3 hp.2.2.1)
 refine ifD (fun h4=>?_) (fun h4=>no fun hp=>h4 hp.2.2.2.1)
 exact ifD (fun h5=>yes ⟨h1,h2,h3,h4,h5⟩) (fun h5=>no fun hp=>h5 hp.2.2.2.2)
theorem aQX : aZ Tryz.prog ⟨249,vU⟩:=by
 intro args Post hc
 unfold vU at hc
 dsimp only at hc
 split at hc
 case h_2=>exact hc.elim
 rename_i n
 refine aN (bL mixed aD 3) mixed (by kernel_rfl) (by kernel_rfl) _ (e_sgn n _ _) ?_
 simp only [true_and]
 unfold dI at hc
 refine ifN (fun h0=>absurd trivial h0) (fun _=>ifD (fun h1=>?_) (fun h1=>ifD (fun h2=>?_) (fun h2=>?_)))
 ·rwa [if_pos h1] at hc
 ·rwa [if_neg h1,if_neg (by omega)] at hc
 ·rwa [if_neg h1,if_pos (by omega)] at hc
theorem lW (p : Int) : (p < 0 /\ dI p = -1) ∨ (p = 0 /\ dI p = 0) ∨ (0 < p /\ dI p = 1):=by
 unfold dI
 rcases Int.lt_trichotomy p 0 with h1 | h1 | h1
 ·exact .inl ⟨h1,if_pos h1⟩
 ·exact .inr (.inl ⟨h1,by rw [if_neg (by omega),if_pos h1]⟩)
 ·exact .inr (.inr ⟨h1,by rw [if_neg (by omega),if_neg (by omega)]⟩)
theorem zG (p q : Int) : wrap .i64 (dI p * dI q) < 0 ↔ aBL p q:=by
 unfold aBL
 rcases lW p with ⟨h1,e1⟩ | ⟨h1,e1⟩ | ⟨h1,e1⟩ <;> rcases lW q with ⟨h2,e2⟩ | ⟨h2,e2⟩ | ⟨h2,e2⟩
 all_goals
  rw [e1,e2,bA (by decide) (by decide)]
  omega
theorem aL4 : aZ Tryz.prog ⟨230,mT⟩:=by
 rintro args Post ⟨a,b,c,d,rfl,ha,hb,hc,hd,h⟩
 refine aN (aM (by
  intro e he
  simp only [mem_cons,not_mem_nil,or_false] at he
  rcases he with rfl | rfl | rfl
  ·exact aQX
  ·exact tZ
  ·exact aLM) aD) mixed (by kernel_rfl) (by kernel_rfl) _ (aPb a b c d _ _) ?_
 simp only [true_and,zG]
 have yes : fH a b c d -> Post (.bool true):=fun hp=>by rwa [decide_eq_true hp] at h
 have no : ¬ fH a b c d -> Post (.bool false):=fun hp=>by rwa [decide_eq_false hp] at h
 refine ⟨a,b,c,rfl,ha,hb,hc,ifD (fun h1=>yes (.inl h1)) (fun h1=>⟨a,b,d,rfl,ha,hb,hd,ifD (fun h2=>yes (.inr (.inl h2))) (fun h2=>⟨c,d,a,rfl,hc,hd,ha,ifD (fun h3=>yes (.inr (.inr (.inl h3)))) (fun h3=>⟨c,d,b,rfl,hc,hd,hb,ifD (fun h4=>yes (.inr (.inr (.inr (.inl h4))))) (fun h4=>?_)⟩)⟩)⟩)⟩
 refine ⟨a,b,c,rfl,ha,hb,hc,a,b,d,rfl,ha,hb,hd,ifD (fun h5=>⟨c,d,a,rfl,hc,hd,ha,c,d,b,rfl,hc,hd,hb,ifD (fun h6=>yes (.inr (.inr (.inr (.inr ⟨h5,h6⟩))))) (fun h6=>no ?_)⟩) (fun h5=>no ?_)⟩
 ·rintro (h | h | h | h | ⟨_,h⟩)
  ·exact h1 h
  ·exact h2 h
  ·exact h3 h
  ·exact h4 h
  ·exact h6 h
 ·rintro (h | h | h | h | ⟨h,_⟩)
  ·exact h1 h
  ·exact h2 h
  ·exact h3 h
  ·exact h4 h
  ·exact h5 h
abbrev fnV (f : Nat) : Value:=.func (.func f) #[] #[]
def aLI (args : List Value) (Post : Value -> Prop) : Prop:=∃ l : List Pt,args = [aR l,fnV 196] /\ aH l /\ ∀ i : Int,(0 <= i ↔ ∃ p ∈ l,fO p) -> Post (.int .i64 i)
def aLH (args : List Value) (Post : Value -> Prop) : Prop:=∃ l : List Pt,args = [aR l,fnV 196] /\ aH l /\ Post (.bool (decide (∃ p ∈ l,fO p)))
def aNn (args : List Value) (Post : Value -> Prop) : Prop:=∃ l : List Pt,args = [aR l] /\ l.length <= 32 /\ (∀ p ∈ l,Nr p) /\ Post (.bool (decide (iA l)))
def aDd (args : List Value) (Post : Value -> Prop) : Prop:=∃ l : List Pt,args = [aR l] /\ l.length <= 32 /\ (∀ p ∈ l,Nr p) /\ Post (.int .i64 (dN l))
def qM (args : List Value) (Post : Value -> Prop) : Prop:=∃ l : List Pt,args = [aR l] /\ aH l /\ Post (.int .i64 (aO l))
def xQ (args : List Value) (Post : Value -> Prop) : Prop:=∃ l : List Pt,args = [aR l] /\ aH l /\ Post (.int .i64 (cE l))
def aDH (args : List Value) (Post : Value -> Prop) : Prop:=∃ l : List Pt,args = [aR l] /\ aH l /\ Post (.tuple #[.int .i64 (lB l),.int .i64 (lD l)])
def qC (args : List Value) (Post : Value -> Prop) : Prop:=∃ (l : List Pt) (q : Pt),args = [aR l,ptV q] /\ aH l /\ Post (.int .i64 (cL l q))
def aQQ : bH:=cT Tryz.prog [196] aI 2
theorem aSb (n : Nat) (A : Array Value) (H : HT) (Post : PV) : vcP Tryz.prog aQQ 228 [(2,[0,1,7,8])] [tree 2 n A,fnV 196] H Post = (T4 (T2 (HP H 228 2 (stV [(0,some (tree 2 n A)),(1,some (Value.func (Fn.func 196) #[] #[])),(7,some (vi (↑n : Int))),(8,some (vi 0))] [] 0)))):=by kernel_rfl
theorem aNy (n : Nat) (k : Int) (A : Array Value) (H : HT) (Post : PV) : bX Tryz.prog aQQ 228 [tree 2 n A,fnV 196] [(2,[0,1,7,8])] 2 (stV [(0,some (tree 2 n A)),(1,some (fnV 196)),(7,some (vi n)),(8,some (vi k))] [] 0) H Post = (let q3:=True /\ Post (vi k); let q2:=aA A k.toNat 1; let q1:=aA A k.toNat 0; True /\ pIf (decide (k < (↑n : Int))) (T4 (True /\ (0 <= k /\ k < (↑n : Int)) /\ (aA A k.toNat 0 = vi (toI q1) /\ aA A k.toNat 1 = vi (toI q2) /\ True) /\ T4 (True /\ pIf (decide (toI q1 < -32768)) (T8 (T2 (Post (vi k)))) (T4 (pIf (decide (toI q1 > 32768)) (T8 q3) (T4 (True /\ pIf (decide (toI q2 < -32768)) (T4 (T2 q3)) (T4 (True /\ pIf (decide (toI q2 > 32768)) (T4 q3) (T4 (T2 (HP H 228 2 (stV [(0,some (tree 2 n A)),(1,some (Value.func (Fn.func 196) #[] #[])),(7,some (vi (↑n : Int))),(8,some (vi (wrap i64 (k + 1))))] [] 0))))))))))))) (T2 (Post (vi (-1))))):=by kernel_rfl
theorem aRI (n : Nat) (A : Array Value) (H : HT) (Post : PV) : vcP Tryz.prog (aU [⟨228,aLI⟩] aI) 195 [] [tree 2 n A,fnV 196] H Post = (T2 (True /\ ∃ (l : List Pt),eqL [tree 2 n A,fnV 196] [aR l,fnV 196] /\ aH l /\ ∀ (i : Int),(0 <= i ↔ ∃ (p : Pt),p ∈ l /\ fO p) -> True /\ pIf (decide (i >= 0)) (T2 (Post (vb true))) (T2 (Post (vb false))))):=by kernel_rfl
theorem aOu (n : Nat) (A : Array Value) (H : HT) (Post : PV) : vcP Tryz.prog aI 198 [(3,[0,3,7,8,9])] [tree 2 n A] H Post = (T4 (T2 (True /\ HP H 198 3 (stV [(0,some (tree 2 n A)),(3,some (vi 0)),(7,some (tree 2 n A)),(8,some (vi (↑n : Int))),(9,some (vi 0))] [] 0)))):=by kernel_rfl
theorem aIz (n : Nat) (k s : Int) (A : Array Value) (H : HT) (Post : PV) : bX Tryz.prog aI 198 [tree 2 n A] [(3,[0,3,7,8,9])] 3 (stV [(0,some (tree 2 n A)),(3,some (vi s)),(7,some (tree 2 n A)),(8,some (vi n)),(9,some (vi k))] [] 0) H Post = (let q2:=wrap i64 (k + 1); let q1:=(toNat (tmod q2 (↑n : Int))); True /\ pIf (decide (k < (↑n : Int))) (True /\ (0 <= k /\ k < (↑n : Int)) /\ (aA A k.toNat 0 = vi (toI (aA A k.toNat 0)) /\ aA A k.toNat 1 = vi (toI (aA A k.toNat 1)) /\ True) /\ T2 (2 <= 2 /\ T4 (True /\ ((↑n : Int) = 0 -> False) /\ (0 <= tmod q2 (↑n : Int) /\ tmod q2 (↑n : Int) < (↑n : Int)) /\ (aA A q1 0 = vi (toI (aA A q1 0)) /\ aA A q1 1 = vi (toI (aA A q1 1)) /\ True) /\ True /\ 2 <= 2 /\ T16 (T2 (HP H 198 3 (stV [(0,some (tree 2 n A)),(3,some (vi (wrap i64 (s + wrap i64 (wrap i64 (toI (aA A k.toNat 0) * toI (aA A q1 1)) - wrap i64 (toI (aA A q1 0) * toI (aA A k.toNat 1))))))),(7,some (tree 2 n A)),(8,some (vi (↑n : Int))),(9,some (vi q2))] [] 0)))))) (T2 (True /\ Post (vi s)))):=by kernel_rfl
def aIp : bH:=aU [⟨229,jI⟩,⟨230,mT⟩] aI
theorem aRc (n : Nat) (A : Array Value) (H : HT) (Post : PV) : vcP Tryz.prog aIp 197 [(3,[0,3,12,13]),(12,[0,3,4,5,6,8,12,13])] [tree 2 n A] H Post = (T8 (True /\ HP H 197 3 (stV [(0,some (tree 2 n A)),(3,some (vi (↑n : Int))),(12,some (vi (↑n : Int))),(13,some (vi 0))] [] 0))):=by kernel_rfl
theorem aMl (n : Nat) (k : Int) (A : Array Value) (H : HT) (Post : PV) : bX Tryz.prog aIp 197 [tree 2 n A] [(3,[0,3,12,13]),(12,[0,3,4,5,6,8,12,13])] 3 (stV [(0,some (tree 2 n A)),(3,some (vi n)),(12,some (vi n)),(13,some (vi k))] [] 0) H Post = (let q8:=wrap i64 (k + 1); let q1:=(toNat (tmod q8 (↑n : Int))); let q10:=toI (aA A q1 1); let q9:=toI (aA A q1 0); let q7:=aA A k.toNat 1; let q6:=aA A k.toNat 0; let q5:=wrap i64 (k + 2); let q4:=#[vi q9,vi q10]; let q3:=(stV [(0,some (tree 2 n A)),(3,some (vi (↑n : Int))),(4,some (vi k)),(5,some (pt 0)),(6,some (pt 1)),(8,some (vi q5)),(12,some (vi (↑n : Int))),(13,some (vi k))] [(0,some (AObj.cells [vi (toI q6),vi (toI q7)] true)),(1,some (AObj.cells [vi q9,vi q10] true))] 2); let q2:=(toNat (tmod q5 (↑n : Int))); True /\ pIf (decide (k < (↑n : Int))) (T4 ((0 <= k /\ k < (↑n : Int)) /\ (aA A k.toNat 0 = vi (toI q6) /\ aA A k.toNat 1 = vi (toI q7) /\ True) /\ T4 (((↑n : Int) = 0 -> False) /\ (0 <= tmod q8 (↑n : Int) /\ tmod q8 (↑n : Int) < (↑n : Int)) /\ (aA A q1 0 = vi q9 /\ aA A q1 1 = vi q10 /\ True) /\ T2 (2 <= 2 /\ ((Value.agg q4 = Value.agg q4 /\ aA A q1 0 = vi q9 /\ aA A q1 1 = vi q10 /\ True) /\ True) /\ 2 <= 2 /\ T4 (pIf (decide (toI q6 = toI (aA A q1 0)) && (decide (toI q7 = toI (aA A q1 1)) && true)) (T2 (Post (vb false))) (T4 (((↑n : Int) = 0 -> False) /\ (0 <= tmod q5 (↑n : Int) /\ tmod q5 (↑n : Int) < (↑n : Int)) /\ (aA A q2 0 = vi (toI (aA A q2 0)) /\ aA A q2 1 = vi (toI (aA A q2 1)) /\ True) /\ True /\ 2 <= 2 /\ T2 (True /\ ∃ (a : Pt),∃ (b : Pt),∃ (c : Pt),eqL [Value.agg #[vi (toI q6),vi (toI q7)],Value.agg q4,Value.agg #[vi (toI (aA A q2 0)),vi (toI (aA A q2 1))]] [ptV a,ptV b,ptV c] /\ Nr a /\ Nr b /\ Nr c /\ True /\ pIf (decide (aY a b c = 0)) (T16 (T8 (True /\ pIf (decide (wrap i64 (wrap i64 (wrap i64 (toI q6 - toI (aA A q1 0)) * wrap i64 (toI (aA A q2 0) - toI (aA A q1 0))) + wrap i64 (wrap i64 (toI q7 - toI (aA A q1 1)) * wrap i64 (toI (aA A q2 1) - toI (aA A q1 1)))) > 0)) (T2 (True /\ Post (vb false))) (T4 (True /\ (T2 (True)) /\ HP H 197 12 q3))))) (T4 (T2 ((T2 (True)) /\ HP H 197 12 q3))))))))))) (T2 (Post (vb true)))):=by kernel_rfl
theorem aMG (n : Nat) (k j : Int) (a b : Pt) (A : Array Value) (H : HT) (Post : PV) : bX Tryz.prog aIp 197 [tree 2 n A] [(3,[0,3,12,13]),(12,[0,3,4,5,6,8,12,13])] 12 (stV [(0,some (tree 2 n A)),(3,some (vi n)),(4,some (vi k)),(5,some (pt 0)),(6,some (pt 1)),(8,some (vi j)),(12,some (vi n)),(13,some (vi k))] [(0,some (.cells [.int .i64 a.x,.int .i64 a.y] true)),(1,some (.cells [.int .i64 b.x,.int .i64 b.y] true))] 2) H Post = (let q5:=toI (aA A j.toNat 1); let q4:=toI (aA A j.toNat 0); let q3:=wrap i64 (j + 1); let q2:=(toNat (tmod q3 (↑n : Int))); let q1:=(T4 (T2 ((T2 (True)) /\ HP H 197 12 (stV [(0,some (tree 2 n A)),(3,some (vi (↑n : Int))),(4,some (vi k)),(5,some (pt 0)),(6,some (pt 1)),(8,some (vi q3)),(12,some (vi (↑n : Int))),(13,some (vi k))] [(0,some (AObj.cells [vi a.x,vi a.y] true)),(1,some (AObj.cells [vi b.x,vi b.y] true))] 2)))); T2 (True /\ pIf (decide (j < (↑n : Int))) (T2 (True /\ ((↑n : Int) = 0 -> False) /\ T2 (pIf (!decide (tmod q3 (↑n : Int) = k)) (T4 (True /\ (0 <= j /\ j < (↑n : Int)) /\ (aA A j.toNat 0 = vi q4 /\ aA A j.toNat 1 = vi q5 /\ True) /\ T4 (((↑n : Int) = 0 -> False) /\ (0 <= tmod q3 (↑n : Int) /\ tmod q3 (↑n : Int) < (↑n : Int)) /\ (aA A q2 0 = vi (toI (aA A q2 0)) /\ aA A q2 1 = vi (toI (aA A q2 1)) /\ True) /\ ∃ (a_1 : Pt),∃ (b_1 : Pt),∃ (c : Pt),∃ (d : Pt),eqL [Value.agg #[vi a.x,vi a.y],Value.agg #[vi b.x,vi b.y],Value.agg #[vi q4,vi q5],Value.agg #[vi (toI (aA A q2 0)),vi (toI (aA A q2 1))]] [ptV a_1,ptV b_1,ptV c,ptV d] /\ Nr a_1 /\ Nr b_1 /\ Nr c /\ Nr d /\ pIf (decide (fH a_1 b_1 c d)) (T4 (Post (vb false))) q1))) q1))) (T4 (HP H 197 3 (stV [(0,some (tree 2 n A)),(3,some (vi (↑n : Int))),(12,some (vi (↑n : Int))),(13,some (vi (wrap i64 (k + 1))))] [] 0))))):=by kernel_rfl
def aQA : bH:=aU [⟨195,aLH⟩,⟨197,aNn⟩,⟨198,aDd⟩] aI
theorem aR3 (n : Nat) (A : Array Value) (H : HT) (Post : PV) : vcP Tryz.prog aQA 120 [] [tree 2 n A] H Post = (T4 (pIf (decide ((↑n : Int) < 3)) (T2 (True /\ Post (vi 3))) (T4 (pIf (decide ((↑n : Int) > 32)) (T2 (True /\ Post (vi 4))) (T2 (∃ (l : List Pt),eqL [tree 2 n A,Value.func (Fn.func 196) #[] #[]] [aR l,fnV 196] /\ aH l /\ pIf (decide (∃ (p : Pt),p ∈ l /\ fO p)) (T2 (True /\ Post (vi 9))) (T2 (∃ (l : List Pt),eqL [tree 2 n A] [aR l] /\ length l <= 32 /\ (∀ (p : Pt),p ∈ l -> Nr p) /\ pIf (decide (iA l)) (T2 (True /\ ∃ (l : List Pt),eqL [tree 2 n A] [aR l] /\ length l <= 32 /\ (∀ (p : Pt),p ∈ l -> Nr p) /\ True /\ pIf (decide (dN l = 0)) (T4 (Post (vi 17))) (T4 (Post (vi 0))))) (T4 (T2 (Post (vi 17)))))))))))):=by kernel_rfl
def aIJ : bH:=aU [⟨120,qM⟩,⟨198,aDd⟩] aI
theorem aRN (n : Nat) (A : Array Value) (H : HT) (Post : PV) : vcP Tryz.prog aIJ 121 [] [tree 2 n A] H Post = (T2 (∃ (l : List Pt),eqL [tree 2 n A] [aR l] /\ aH l /\ True /\ pIf (!decide (aO l = 0)) (T2 (Post (vi 0))) (True /\ ∃ (l : List Pt),eqL [tree 2 n A] [aR l] /\ length l <= 32 /\ (∀ (p : Pt),p ∈ l -> Nr p) /\ T2 (Post (vi (dN l)))))):=by kernel_rfl
theorem aRB (n : Nat) (A : Array Value) (H : HT) (Post : PV) : vcP Tryz.prog aIJ 141 [(4,[0,2,3,11,12,13])] [tree 2 n A] H Post = (T2 (True /\ ∃ (l : List Pt),eqL [tree 2 n A] [aR l] /\ aH l /\ True /\ pIf (!decide (aO l = 0)) (T2 ((T2 (True)) /\ Post (Value.tuple #[vi 0,vi 0]))) (T4 (True /\ HP H 141 4 (stV [(0,some (tree 2 n A)),(2,some (vi 0)),(3,some (vi 0)),(11,some (tree 2 n A)),(12,some (vi (↑n : Int))),(13,some (vi 0))] [] 0))))):=by kernel_rfl
theorem aLy (n : Nat) (k s t : Int) (A : Array Value) (H : HT) (Post : PV) : bX Tryz.prog aIJ 141 [tree 2 n A] [(4,[0,2,3,11,12,13])] 4 (stV [(0,some (tree 2 n A)),(2,some (vi s)),(3,some (vi t)),(11,some (tree 2 n A)),(12,some (vi n)),(13,some (vi k))] [] 0) H Post = (let q5:=aA A k.toNat 1; let q4:=aA A k.toNat 0; let q3:=wrap i64 (k + 1); let q1:=(toNat (tmod q3 (↑n : Int))); let q2:=wrap i64 (toI q4 * toI (aA A q1 1)) - wrap i64 (toI (aA A q1 0) * toI q5); True /\ pIf (decide (k < (↑n : Int))) (True /\ (0 <= k /\ k < (↑n : Int)) /\ (aA A k.toNat 0 = vi (toI q4) /\ aA A k.toNat 1 = vi (toI q5) /\ True) /\ T2 (2 <= 2 /\ T4 (True /\ ((↑n : Int) = 0 -> False) /\ (0 <= tmod q3 (↑n : Int) /\ tmod q3 (↑n : Int) < (↑n : Int)) /\ (aA A q1 0 = vi (toI (aA A q1 0)) /\ aA A q1 1 = vi (toI (aA A q1 1)) /\ True) /\ True /\ 2 <= 2 /\ T32 (T4 (HP H 141 4 (stV [(0,some (tree 2 n A)),(2,some (vi (wrap i64 (s + wrap i64 (wrap i64 (toI q4 + toI (aA A q1 0)) * wrap i64 q2))))),(3,some (vi (wrap i64 (t + wrap i64 (wrap i64 (toI q5 + toI (aA A q1 1)) * wrap i64 q2))))),(11,some (tree 2 n A)),(12,some (vi (↑n : Int))),(13,some (vi q3))] [] 0)))))) (T4 ((T2 (True)) /\ Post (Value.tuple #[vi s,vi t])))):=by kernel_rfl
def vcWh : bH:=cT Tryz.prog [196] (aU [⟨120,qM⟩,⟨234,aFN⟩,⟨229,jI⟩] aI) 2
theorem aN0 (n : Nat) (q : Pt) (A : Array Value) (H : HT) (Post : PV) : vcP Tryz.prog vcWh 202 [(5,[0,3,5,17,18,19])] [tree 2 n A,ptV q] H Post = (T8 (pIf (decide (q.x < -32768)) (T8 (T2 (True /\ Post (vi (-1))))) (T4 (pIf (decide (q.x > 32768)) (T8 (T2 (Post (vi (-1))))) (T4 (True /\ pIf (decide (q.y < -32768)) (T8 (Post (vi (-1)))) (T4 (True /\ pIf (decide (q.y > 32768)) (T4 (T2 (Post (vi (-1))))) (T4 (∃ (l : List Pt),eqL [tree 2 n A] [aR l] /\ aH l /\ True /\ pIf (!decide (aO l = 0)) (T2 (True /\ Post (vi (-1)))) (T4 (T2 ((True /\ True) /\ HP H 202 5 (stV [(0,some (tree 2 n A)),(3,some (pt 0)),(5,some (vb false)),(17,some (tree 2 n A)),(18,some (vi (↑n : Int))),(19,some (vi 0))] [(0,some (AObj.cells [vi q.x,vi q.y] true))] 1)))))))))))))):=by kernel_rfl
theorem aF4 (n : Nat) (k : Int) (q : Pt) (b : Bool) (A : Array Value) (H : HT) (Post : PV) : bX Tryz.prog vcWh 202 [tree 2 n A,ptV q] [(5,[0,3,5,17,18,19])] 5 (stV [(0,some (tree 2 n A)),(3,some (pt 0)),(5,some (.bool b)),(17,some (tree 2 n A)),(18,some (vi n)),(19,some (vi k))] [(0,some (.cells [.int .i64 q.x,.int .i64 q.y] true))] 1) H Post = (let q6:=wrap i64 (k + 1); let q3:=(toNat (tmod q6 (↑n : Int))); let q8:=aA A k.toNat 1; let q5:=decide (toI (aA A q3 1) > toI q8); let q12:=lpC Tryz.prog 202 5; let q13:=lpK Tryz.prog 202 5; let q11:=(0,some (tree 2 n A)); let q10:=(17,some (tree 2 n A)); let q9:=(18,some (vi (↑n : Int))); let q16:=(19,some (vi q6)); let q7:=[(0,some (AObj.cells [vi q.x,vi q.y] true))]; let q2:=T4 ((True /\ True) /\ H q12 q13 (stV [q11,(3,some (pt 0)),(5,some (vb b)),q10,q9,q16] q7 1)); let q1:=T2 (pIf b (T4 (True /\ (True /\ True) /\ H q12 q13 (stV [q11,(3,some (pt 0)),(5,some (vb false)),q10,q9,q16] q7 1))) (T4 (True /\ (True /\ True) /\ H q12 q13 (stV [q11,(3,some (pt 0)),(5,some (vb true)),q10,q9,q16] q7 1)))); let q18:=T4 (T2 (True /\ pIf q5 q2 q1)); let q17:=T4 (T2 (True /\ pIf q5 q1 q2)); let q15:=toI (aA A k.toNat 0); let q14:=decide (toI (aA A q3 1) > q.y); let q4:=[Value.agg #[vi q15,vi (toI q8)],Value.agg #[vi (toI (aA A q3 0)),vi (toI (aA A q3 1))],Value.agg #[vi q.x,vi q.y]]; True /\ pIf (decide (k < (↑n : Int))) (True /\ (0 <= k /\ k < (↑n : Int)) /\ (aA A k.toNat 0 = vi q15 /\ aA A k.toNat 1 = vi (toI q8) /\ True) /\ T2 (2 <= 2 /\ T4 (True /\ ((↑n : Int) = 0 -> False) /\ (0 <= tmod q6 (↑n : Int) /\ tmod q6 (↑n : Int) < (↑n : Int)) /\ (aA A q3 0 = vi (toI (aA A q3 0)) /\ aA A q3 1 = vi (toI (aA A q3 1)) /\ True) /\ True /\ 2 <= 2 /\ T2 (True /\ ∃ (a : Pt),∃ (b_1 : Pt),∃ (q_1 : Pt),eqL q4 [ptV a,ptV b_1,ptV q_1] /\ Nr a /\ Nr b_1 /\ Nr q_1 /\ pIf (decide (onP a b_1 q_1)) (T2 (Post (vi 0))) (T4 (True /\ pIf (decide (toI q8 > q.y)) (T4 (True /\ pIf q14 q2 (T4 (∃ (a : Pt),∃ (b_2 : Pt),∃ (c : Pt),eqL q4 [ptV a,ptV b_2,ptV c] /\ Nr a /\ Nr b_2 /\ Nr c /\ True /\ pIf (decide (aY a b_2 c > 0)) q17 q18)))) (T4 (True /\ pIf q14 (T4 (∃ (a : Pt),∃ (b_2 : Pt),∃ (c : Pt),eqL q4 [ptV a,ptV b_2,ptV c] /\ Nr a /\ Nr b_2 /\ Nr c /\ True /\ pIf (decide (aY a b_2 c > 0)) q17 q18)) q2)))))))) (True /\ pIf b (T2 (Post (vi 1))) (T2 (Post (vi (-1)))))):=by kernel_rfl
theorem tmN (m n : Nat) : tmod (m : Int) (n : Int) = ((m % n : Nat) : Int):=(Int.ofNat_tmod m n).symm
theorem wrap2 {k : Nat} (h : k < 2 ^ 60) : wrap .i64 ((k : Int) + 2) = ((k + 2 : Nat) : Int):=by rw [bA (by omega) (by omega)]; omega
theorem dV {l : List Pt} (h : 0 < l.length) (k : Nat) : aA (aB l) (k % l.length) 0 = .int .i64 (cyc l k).x /\ aA (aB l) (k % l.length) 1 = .int .i64 (cyc l k).y:=by
 have hk:=Nat.mod_lt k h
 obtain ⟨h1,h2⟩:=aPQ hk
 unfold cyc
 rw [xO hk]
 exact ⟨h1,h2⟩
theorem cK {l : List Pt} {k : Nat} (h : k < l.length) : aA (aB l) k 0 = .int .i64 (cyc l k).x /\ aA (aB l) k 1 = .int .i64 (cyc l k).y:=by
 have:=dV (l:=l) (by omega) k
 rwa [Nat.mod_eq_of_lt h] at this
theorem bR {l : List Pt} (h : ∀ p ∈ l,Nr p) (h0 : 0 < l.length) (k : Nat) : Nr (cyc l k):=h _ (kD h0 k)
theorem aAW {p : Pt} : Nr p ↔ ¬ fO p:=by
 unfold fO
 constructor
 ·intro h; have:=h.h; omega
 ·intro h; exact ⟨by omega⟩
theorem aPA : aZ Tryz.prog ⟨228,aLI⟩:=by
 rintro args Post ⟨l,rfl,hs,h⟩
 refine aN (bL mixed aD 2) mixed (by kernel_rfl) (by kernel_rfl) _ (aSb l.length (aB l) _ _) ?_
 simp only [true_and]
 refine cS (n:=l.length) (p:=fun k=>(∀ i,i < k -> ¬ fO (cyc l i)) -> OkP 228 [aR l,fnV 196] 2 Post (stV [(0,some (aR l)),(1,some (fnV 196)),(7,some (vi l.length)),(8,some (vi k))] [] 0)) (fun hall=>?_) (fun k h1 ih hall=>?_) (fun i hi=>by omega)
 ·refine aV (bL mixed aD 2) mixed _ (aNy l.length l.length (aB l) _ _) ?_
  simp only [true_and]
  refine ifD (fun hlt=>by omega) (fun _=>h (-1) ⟨fun h=>by omega,fun hp=>?_⟩)
  obtain ⟨p,hp,hf⟩:=hp
  obtain ⟨i,hi,rfl⟩:=List.mem_iff_getElem.1 hp
  have:=hall i hi
  rw [gN hi,xO hi] at this
  exact absurd hf this
 ·refine aV (bL mixed aD 2) mixed _ (aNy l.length k (aB l) _ _) ?_
  have hk : ((k : Nat) : Int).toNat = k:=toNat_natCast k
  have yes : fO (cyc l k) -> Post (.int .i64 k):=fun hf=>h k ⟨fun _=>⟨_,kD (by omega) k,hf⟩,fun _=>by omega⟩
  obtain ⟨c0,c1⟩:=cK h1
  simp only [true_and,and_true,hk,c0,c1,aQ,aJ (show k < 2 ^ 62 by omega)]
  refine ifD (fun _=>⟨⟨by omega,by omega⟩,?_⟩) (fun h'=>by omega)
  refine ifD (fun hf=>yes (.inl hf)) (fun f1=>?_)
  refine ifD (fun hf=>yes (.inr (.inl hf))) (fun f2=>?_)
  refine ifD (fun hf=>yes (.inr (.inr (.inl hf)))) (fun f3=>?_)
  refine ifD (fun hf=>yes (.inr (.inr (.inr hf)))) (fun f4=>?_)
  refine ih fun i hi=>?_
  rcases lt_or_ge i k with h' | h'
  ·exact hall i h'
  ·rw [show i = k by omega]
   unfold fO
   omega
theorem aP8 : aZ Tryz.prog ⟨195,aLH⟩:=by
 rintro args Post ⟨l,rfl,hs,h⟩
 refine aN (aM (by
  intro e he
  simp only [mem_cons,not_mem_nil,or_false] at he
  subst he
  exact aPA) aD) mixed (by kernel_rfl) (by kernel_rfl) _ (aRI l.length (aB l) _ _) ?_
 simp only [true_and]
 refine ⟨l,rfl,hs,fun i hi=>ifD (fun h1=>?_) (fun h1=>?_)⟩
 ·rwa [decide_eq_true (hi.1 h1)] at h
 ·rwa [decide_eq_false (fun hp=>h1 (hi.2 hp))] at h
theorem aMB {a b : Pt} (ha : Nr a) (hb : Nr b) : -2147483648 <= a.x * b.y - b.x * a.y /\ a.x * b.y - b.x * a.y <= 2147483648:=by
 have h1:=ha.h; have h2:=hb.h
 have m1:=fW (a:=a.x) (b:=b.y) (A:=32768) (B:=32768) (by omega) (by omega)
 have m2:=fW (a:=b.x) (b:=a.y) (A:=32768) (B:=32768) (by omega) (by omega)
 omega
theorem sH {a b : Pt} (ha : Nr a) (hb : Nr b) : wrap .i64 (wrap .i64 (a.x * b.y) - wrap .i64 (b.x * a.y)) = a.x * b.y - b.x * a.y:=by
 have h1:=ha.h; have h2:=hb.h
 have m1:=fW (a:=a.x) (b:=b.y) (A:=32768) (B:=32768) (by omega) (by omega)
 have m2:=fW (a:=b.x) (b:=a.y) (A:=32768) (B:=32768) (by omega) (by omega)
 rw [bA (n:=a.x * b.y) (by omega) (by omega),bA (n:=b.x * a.y) (by omega) (by omega),bA (by omega) (by omega)]
theorem kL {f : Nat -> Int} {M : Int} (h : ∀ k,-M <= f k /\ f k <= M) : ∀ k : Nat,-(M * (k : Int)) <= bM f k /\ bM f k <= M * (k : Int)
 | 0=>by simp [bM]
 | k + 1=>by
  have h1:=h k
  have h2:=kL h k
  have e : bM f (k + 1) = bM f k + f k:=rfl
  rw [e,Int.natCast_succ,Int.mul_add]
  omega
theorem pV {f : Nat -> Int} {M : Int} (h : ∀ k,-M <= f k /\ f k <= M) (hM : M <= 140737488355328) {k : Nat} (hk : k < 32) : wrap .i64 (bM f k + f k) = bM f (k + 1):=by
 have h1:=h k
 have h2:=kL h k
 have h3:=Int.mul_le_mul_of_nonneg_left (show (k : Int) <= 32 by omega) (show 0 <= M by omega)
 rw [bA (by omega) (by omega)]
 rfl
theorem gZ {l : List Pt} (hn : ∀ p ∈ l,Nr p) (h0 : 0 < l.length) (k : Nat) : -2147483648 <= eJ l k /\ eJ l k <= 2147483648:=aMB (bR hn h0 k) (bR hn h0 (k + 1))
theorem aEo : aZ Tryz.prog ⟨198,aDd⟩:=by
 rintro args Post ⟨l,rfl,hs,hn,h⟩
 refine aN aD mixed (by kernel_rfl) (by kernel_rfl) _ (aOu l.length (aB l) _ _) ?_
 simp only [true_and]
 refine cS (n:=l.length) (p:=fun k=>OkP 198 [aR l] 3 Post (stV [(0,some (aR l)),(3,some (vi (bM (eJ l) k))),(7,some (aR l)),(8,some (vi l.length)),(9,some (vi k))] [] 0)) ?_ (fun k h1 ih=>?_)
 ·refine aV aD mixed _ (aIz l.length l.length (bM (eJ l) l.length) (aB l) _ _) ?_
  simp only [true_and]
  exact ifD (fun hlt=>by omega) (fun _=>h)
 ·refine aV aD mixed _ (aIz l.length k (bM (eJ l) k) (aB l) _ _) ?_
  have h0 : 0 < l.length:=by omega
  have hk : ((k : Nat) : Int).toNat = k:=toNat_natCast k
  have hk1 : (((k + 1) % l.length : Nat) : Int).toNat = (k + 1) % l.length:=toNat_natCast _
  have hm:=Nat.mod_lt (k + 1) h0
  obtain ⟨c0,c1⟩:=cK h1
  obtain ⟨d0,d1⟩:=dV h0 (k + 1)
  have e1:=sH (bR hn h0 k) (bR hn h0 (k + 1))
  have e2 : (cyc l k).x * (cyc l (k + 1)).y - (cyc l (k + 1)).x * (cyc l k).y = eJ l k:=rfl
  rw [e2] at e1
  simp only [true_and,and_true,hk,tmN,hk1,c0,c1,d0,d1,aQ,aJ (show k < 2 ^ 62 by omega),e1,pV (gZ hn h0) (by decide) (show k < 32 by omega)]
  exact ifD (fun _=>⟨⟨by omega,by omega⟩,by decide,fun h=>by omega,⟨by omega,by omega⟩,by decide,ih⟩) (fun h'=>by omega)
theorem aM0 {a b c : Pt} (ha : Nr a) (hb : Nr b) (hc : Nr c) : wrap .i64 (wrap .i64 (wrap .i64 (a.x - b.x) * wrap .i64 (c.x - b.x)) + wrap .i64 (wrap .i64 (a.y - b.y) * wrap .i64 (c.y - b.y))) = iF a b c:=by
 have h1:=ha.h; have h2:=hb.h; have h3:=hc.h
 have m1:=fW (a:=a.x - b.x) (b:=c.x - b.x) (A:=65536) (B:=65536) (by omega) (by omega)
 have m2:=fW (a:=a.y - b.y) (b:=c.y - b.y) (A:=65536) (B:=65536) (by omega) (by omega)
 rw [bA (n:=a.x - b.x) (by omega) (by omega),bA (n:=c.x - b.x) (by omega) (by omega),bA (n:=a.y - b.y) (by omega) (by omega),bA (n:=c.y - b.y) (by omega) (by omega),bA (n:=(a.x - b.x) * (c.x - b.x)) (by omega) (by omega),bA (n:=(a.y - b.y) * (c.y - b.y)) (by omega) (by omega),bA (by omega) (by omega)]
 rfl
theorem pT : aW Tryz.prog aIp:=aM (by
 intro e he
 simp only [mem_cons,not_mem_nil,or_false] at he
 rcases he with rfl | rfl
 ·exact tZ
 ·exact aL4) aD
theorem aOh : aZ Tryz.prog ⟨197,aNn⟩:=by
 rintro args Post ⟨l,rfl,hs,hn,h⟩
 have yes : iA l -> Post (.bool true):=fun hp=>by rwa [decide_eq_true hp] at h
 have no : ¬ iA l -> Post (.bool false):=fun hp=>by rwa [decide_eq_false hp] at h
 refine aN pT mixed (by kernel_rfl) (by kernel_rfl) _ (aRc l.length (aB l) _ _) ?_
 simp only [true_and]
 refine cS (n:=l.length) (p:=fun k=>(∀ i,i < k -> ¬ aJw l i) -> OkP 197 [aR l] 3 Post (stV [(0,some (aR l)),(3,some (vi l.length)),(12,some (vi l.length)),(13,some (vi k))] [] 0)) (fun hall=>?_) (fun k h1 ih hall=>?_) (fun i hi=>by omega)
 ·refine aV pT mixed _ (aMl l.length l.length (aB l) _ _) ?_
  simp only [true_and]
  exact ifD (fun hlt=>by omega) (fun _=>yes hall)
 ·have h0 : 0 < l.length:=by omega
  have bad : aJw l k -> Post (.bool false):=fun hb=>no fun hp=>hp k h1 hb
  have hk : ((k : Nat) : Int).toNat = k:=toNat_natCast k
  have hk1 : (((k + 1) % l.length : Nat) : Int).toNat = (k + 1) % l.length:=toNat_natCast _
  have hk2 : (((k + 2) % l.length : Nat) : Int).toNat = (k + 2) % l.length:=toNat_natCast _
  have hm:=Nat.mod_lt (k + 1) h0
  have hm2:=Nat.mod_lt (k + 2) h0
  obtain ⟨c0,c1⟩:=cK h1
  obtain ⟨d0,d1⟩:=dV h0 (k + 1)
  obtain ⟨f0,f1⟩:=dV h0 (k + 2)
  have n0:=bR hn h0 k
  have n1:=bR hn h0 (k + 1)
  have n2:=bR hn h0 (k + 2)
  -- the inner loop
  have inner : cyc l k ≠ cyc l (k + 1) -> ¬ (aY (cyc l k) (cyc l (k + 1)) (cyc l (k + 2)) = 0 /\ 0 < iF (cyc l k) (cyc l (k + 1)) (cyc l (k + 2))) -> OkP 197 [aR l] 12 Post (stV [(0,some (aR l)),(3,some (vi l.length)),(4,some (vi k)),(5,some (pt 0)),(6,some (pt 1)),(8,some (vi ((k + 2 : Nat) : Int))),(12,some (vi l.length)),(13,some (vi k))] [(0,some (.cells [.int .i64 (cyc l k).x,.int .i64 (cyc l k).y] true)),(1,some (.cells [.int .i64 (cyc l (k + 1)).x,.int .i64 (cyc l (k + 1)).y] true))] 2):=fun g1 g2=>by
   have key : ∀ r j : Nat,j + r = l.length + 2 -> k + 2 <= j -> (∀ t,t < j -> t < l.length -> k + 2 <= t -> ¬ nJ l k t) -> OkP 197 [aR l] 12 Post (stV [(0,some (aR l)),(3,some (vi l.length)),(4,some (vi k)),(5,some (pt 0)),(6,some (pt 1)),(8,some (vi j)),(12,some (vi l.length)),(13,some (vi k))] [(0,some (.cells [.int .i64 (cyc l k).x,.int .i64 (cyc l k).y] true)),(1,some (.cells [.int .i64 (cyc l (k + 1)).x,.int .i64 (cyc l (k + 1)).y] true))] 2):=by
    intro r
    induction r with
    | zero =>
     intro j hj hkj hc
     refine aV pT mixed _ (aMG l.length k j (cyc l k) (cyc l (k + 1)) (aB l) _ _) ?_
     simp only [true_and,and_true,aJ (show k < 2 ^ 62 by omega)]
     refine ifD (fun hlt=>by omega) (fun _=>ih fun i hi=>?_)
     rcases lt_or_ge i k with h' | h'
     ·exact hall i h'
     ·rw [show i = k by omega]
      rintro (b1 | b2 | ⟨t,t1,t2,t3⟩)
      ·exact g1 b1
      ·exact g2 b2
      ·exact hc t (by omega) t1 t2 t3
    | succ r ihr =>
     intro j hj hkj hc
     refine aV pT mixed _ (aMG l.length k j (cyc l k) (cyc l (k + 1)) (aB l) _ _) ?_
     have hj0 : ((j : Nat) : Int).toNat = j:=toNat_natCast j
     have hj1 : (((j + 1) % l.length : Nat) : Int).toNat = (j + 1) % l.length:=toNat_natCast _
     have hmj:=Nat.mod_lt (j + 1) h0
     by_cases hjl : j < l.length
     ·obtain ⟨p0,p1⟩:=cK hjl
      obtain ⟨q0,q1⟩:=dV h0 (j + 1)
      simp only [true_and,and_true,hj0,tmN,hj1,p0,p1,q0,q1,aQ,aJ (show j < 2 ^ 62 by omega),aJ (show k < 2 ^ 62 by omega)]
      have step : ¬ nJ l k j -> OkP 197 [aR l] 12 Post (stV [(0,some (aR l)),(3,some (vi l.length)),(4,some (vi k)),(5,some (pt 0)),(6,some (pt 1)),(8,some (vi ((j + 1 : Nat) : Int))),(12,some (vi l.length)),(13,some (vi k))] [(0,some (.cells [.int .i64 (cyc l k).x,.int .i64 (cyc l k).y] true)),(1,some (.cells [.int .i64 (cyc l (k + 1)).x,.int .i64 (cyc l (k + 1)).y] true))] 2):=fun hn=>ihr (j + 1) (by omega) (by omega) fun t t1 t2 t3=>by
       rcases lt_or_ge t j with h' | h'
       ·exact hc t h' t2 t3
       ·rw [show t = j by omega]; exact hn
      refine ifD (fun _=>⟨fun h=>by omega,ifN (fun hne=>⟨⟨by omega,by omega⟩,fun h=>by omega,⟨by omega,by omega⟩,cyc l k,cyc l (k + 1),cyc l j,cyc l (j + 1),rfl,n0,n1,bR hn h0 j,bR hn h0 (j + 1),ifD (fun hm=>bad (.inr (.inr ⟨j,hjl,hkj,fun e=>hne (by rw [e]),hm⟩))) (fun hm=>step fun hcl=>hm hcl.2)⟩) (fun he=>step fun hcl=>hcl.1 (by omega))⟩) (fun h'=>by omega)
     ·simp only [true_and,and_true,aJ (show k < 2 ^ 62 by omega)]
      refine ifD (fun hlt=>by omega) (fun _=>ih fun i hi=>?_)
      rcases lt_or_ge i k with h' | h'
      ·exact hall i h'
      ·rw [show i = k by omega]
       rintro (b1 | b2 | ⟨t,t1,t2,t3⟩)
       ·exact g1 b1
       ·exact g2 b2
       ·exact hc t (by omega) t1 t2 t3
   exact key (l.length - k) (k + 2) (by omega) (by omega) fun t t1 _ t3=>by omega
  refine aV pT mixed _ (aMl l.length k (aB l) _ _) ?_
  have w2 : wrap .i64 ((k : Int) + 2) = ((k + 2 : Nat) : Int):=by rw [bA (by omega) (by omega)]; omega
  simp only [true_and,and_true,hk,tmN,aJ (show k < 2 ^ 62 by omega),hk1,hk2,c0,c1,d0,d1,f0,f1,aQ,w2,aM0 n0 n1 n2,Bool.and_true]
  refine ifD (fun _=>⟨⟨by omega,by omega⟩,fun h=>by omega,⟨by omega,by omega⟩,by decide,by decide,aE (fun he=>?_) (fun he=>?_)⟩) (fun h'=>by omega)
  ·rw [Bool.and_eq_true,decide_eq_true_eq,decide_eq_true_eq] at he
   exact bad (.inl (Pt.ext' he.1 he.2))
  ·have hne : cyc l k ≠ cyc l (k + 1):=fun e=>by
    rw [e] at he
    simp at he
   refine ⟨fun h=>by omega,⟨by omega,by omega⟩,by decide,cyc l k,cyc l (k + 1),cyc l (k + 2),rfl,n0,n1,n2,ifD (fun hc=>ifD (fun hd=>bad (.inr (.inl ⟨hc,hd⟩))) (fun hd=>inner hne fun g=>hd g.2)) (fun hc=>inner hne fun g=>hc g.1)⟩
theorem aLJ : aW Tryz.prog aQA:=aM (by
 intro e he
 simp only [mem_cons,not_mem_nil,or_false] at he
 rcases he with rfl | rfl | rfl
 ·exact aP8
 ·exact aOh
 ·exact aEo) aD
theorem aD1 : aZ Tryz.prog ⟨120,qM⟩:=by
 rintro args Post ⟨l,rfl,hs,h⟩
 refine aN aLJ mixed (by kernel_rfl) (by kernel_rfl) _ (aR3 l.length (aB l) _ _) ?_
 simp only [true_and]
 unfold aO at h
 refine ifD (fun h1=>?_) (fun h1=>?_)
 ·rwa [if_pos (by omega)] at h
 rw [if_neg (by omega)] at h
 refine ifD (fun h2=>?_) (fun h2=>?_)
 ·rwa [if_pos (by omega)] at h
 rw [if_neg (by omega)] at h
 refine ⟨l,rfl,hs,ifD (fun h3=>?_) (fun h3=>?_)⟩
 ·rwa [if_pos h3] at h
 rw [if_neg h3] at h
 have hn : ∀ p ∈ l,Nr p:=fun p hp=>aAW.2 fun hf=>h3 ⟨p,hp,hf⟩
 refine ⟨l,rfl,by omega,hn,ifD (fun h4=>⟨l,rfl,by omega,hn,ifD (fun h5=>?_) (fun h5=>?_)⟩) (fun h4=>?_)⟩
 ·rwa [if_pos (.inr h5)] at h
 ·rwa [if_neg (by rintro (h | h); exact h h4; exact h5 h)] at h
 ·rwa [if_pos (.inl h4)] at h
theorem uO : aW Tryz.prog aIJ:=aM (by
 intro e he
 simp only [mem_cons,not_mem_nil,or_false] at he
 rcases he with rfl | rfl
 ·exact aD1
 ·exact aEo) aD
theorem cV {l : List Pt} (h : aO l = 0) : 3 <= l.length /\ l.length <= 32 /\ ∀ p ∈ l,Nr p:=by
 obtain ⟨h1,h2,h3,_⟩:=fL h
 exact ⟨h1,h2,fun p hp=>aAW.2 (h3 p hp)⟩
theorem aJ7 : aZ Tryz.prog ⟨121,xQ⟩:=by
 rintro args Post ⟨l,rfl,hs,h⟩
 refine aN uO mixed (by kernel_rfl) (by kernel_rfl) _ (aRN l.length (aB l) _ _) ?_
 simp only [true_and]
 unfold cE at h
 refine ⟨l,rfl,hs,ifN (fun h1=>?_) (fun h1=>?_)⟩
 ·rwa [if_neg h1] at h
 ·rw [if_pos h1] at h
  obtain ⟨_,g2,g3⟩:=cV h1
  exact ⟨l,rfl,g2,g3,h⟩
theorem aHf {a b s : Int} (ha : -32768 <= a /\ a <= 32768) (hb : -32768 <= b /\ b <= 32768) (hs : -2147483648 <= s /\ s <= 2147483648) : -140737488355328 <= (a + b) * s /\ (a + b) * s <= 140737488355328:=by
 have:=fW (a:=a + b) (b:=s) (A:=65536) (B:=2147483648) (by omega) (by omega)
 omega
theorem vT {a b s : Int} (ha : -32768 <= a /\ a <= 32768) (hb : -32768 <= b /\ b <= 32768) (hs : -2147483648 <= s /\ s <= 2147483648) : wrap .i64 (wrap .i64 (a + b) * s) = (a + b) * s:=by
 have:=aHf ha hb hs
 rw [bA (n:=a + b) (by omega) (by omega),bA (by omega) (by omega)]
theorem aE4 {l : List Pt} (hn : ∀ p ∈ l,Nr p) (h0 : 0 < l.length) (k : Nat) : -140737488355328 <= mO l k /\ mO l k <= 140737488355328:=by
 have h1:=(bR hn h0 k).h; have h2:=(bR hn h0 (k + 1)).h
 exact aHf (by omega) (by omega) (gZ hn h0 k)
theorem aDh {l : List Pt} (hn : ∀ p ∈ l,Nr p) (h0 : 0 < l.length) (k : Nat) : -140737488355328 <= mN l k /\ mN l k <= 140737488355328:=by
 have h1:=(bR hn h0 k).h; have h2:=(bR hn h0 (k + 1)).h
 exact aHf (by omega) (by omega) (gZ hn h0 k)
theorem aQ6 : aZ Tryz.prog ⟨141,aDH⟩:=by
 rintro args Post ⟨l,rfl,hs,h⟩
 refine aN uO mixed (by kernel_rfl) (by kernel_rfl) _ (aRB l.length (aB l) _ _) ?_
 simp only [true_and]
 unfold lB lD at h
 refine ⟨l,rfl,hs,ifN (fun h1=>?_) (fun h1=>?_)⟩
 ·rwa [if_neg h1,if_neg h1] at h
 rw [if_pos h1,if_pos h1] at h
 obtain ⟨g1,g2,hn⟩:=cV h1
 refine cS (n:=l.length) (p:=fun k=>OkP 141 [aR l] 4 Post (stV [(0,some (aR l)),(2,some (vi (bM (mO l) k))),(3,some (vi (bM (mN l) k))),(11,some (aR l)),(12,some (vi l.length)),(13,some (vi k))] [] 0)) ?_ (fun k h1 ih=>?_)
 ·refine aV uO mixed _ (aLy l.length l.length (bM (mO l) l.length) (bM (mN l) l.length) (aB l) _ _) ?_
  simp only [true_and]
  exact ifD (fun hlt=>by omega) (fun _=>h)
 ·refine aV uO mixed _ (aLy l.length k (bM (mO l) k) (bM (mN l) k) (aB l) _ _) ?_
  have h0 : 0 < l.length:=by omega
  have hk : ((k : Nat) : Int).toNat = k:=toNat_natCast k
  have hk1 : (((k + 1) % l.length : Nat) : Int).toNat = (k + 1) % l.length:=toNat_natCast _
  have hm:=Nat.mod_lt (k + 1) h0
  obtain ⟨c0,c1⟩:=cK h1
  obtain ⟨d0,d1⟩:=dV h0 (k + 1)
  have n0:=bR hn h0 k
  have n1:=bR hn h0 (k + 1)
  have e1:=sH n0 n1
  have e2 : (cyc l k).x * (cyc l (k + 1)).y - (cyc l (k + 1)).x * (cyc l k).y = eJ l k:=rfl
  rw [e2] at e1
  have q0:=n0.h; have q1:=n1.h
  have e3:=vT (a:=(cyc l k).x) (b:=(cyc l (k + 1)).x) (by omega) (by omega) (gZ hn h0 k)
  have e4:=vT (a:=(cyc l k).y) (b:=(cyc l (k + 1)).y) (by omega) (by omega) (gZ hn h0 k)
  have e5 : ((cyc l k).x + (cyc l (k + 1)).x) * eJ l k = mO l k:=rfl
  have e6 : ((cyc l k).y + (cyc l (k + 1)).y) * eJ l k = mN l k:=rfl
  rw [e5] at e3
  rw [e6] at e4
  simp only [true_and,and_true,hk,tmN,hk1,c0,c1,d0,d1,aQ,aJ (show k < 2 ^ 62 by omega),e1,e3,e4,pV (aE4 hn h0) (by decide) (show k < 32 by omega),pV (aDh hn h0) (by decide) (show k < 32 by omega)]
  exact ifD (fun _=>⟨⟨by omega,by omega⟩,by decide,fun h=>by omega,⟨by omega,by omega⟩,by decide,ih⟩) (fun h'=>by omega)
theorem aDV : aW Tryz.prog vcWh:=bL mixed (aM (by
 intro e he
 simp only [mem_cons,not_mem_nil,or_false] at he
 rcases he with rfl | rfl | rfl
 ·exact aD1
 ·exact aLM
 ·exact tZ) aD) 2
theorem aBX : aZ Tryz.prog ⟨202,qC⟩:=by
 rintro args Post ⟨l,q,rfl,hs,h⟩
 refine aN aDV mixed (by kernel_rfl) (by kernel_rfl) _ (aN0 l.length q (aB l) _ _) ?_
 simp only [true_and]
 unfold cL at h
 have far : fO q -> Post (.int .i64 (-1)):=fun hf=>by rwa [if_pos (.inl hf)] at h
 refine ifD (fun f1=>far (.inl f1)) (fun f1=>ifD (fun f2=>far (.inr (.inl f2))) (fun f2=>ifD (fun f3=>far (.inr (.inr (.inl f3)))) (fun f3=>ifD (fun f4=>far (.inr (.inr (.inr f4)))) (fun f4=>⟨l,rfl,hs,ifN (fun hc=>?_) (fun hc=>?_)⟩))))
 ·rwa [if_pos (.inr hc)] at h
 have hf : ¬ fO q:=by unfold fO; omega
 have nq : Nr q:=aAW.2 hf
 rw [if_neg (by rintro (h | h); exact hf h; exact h hc)] at h
 obtain ⟨g1,g2,hn⟩:=cV hc
 refine cS (n:=l.length) (p:=fun k=>(∀ i,i < k -> ¬ kV l q i) -> OkP 202 [aR l,ptV q] 5 Post (stV [(0,some (aR l)),(3,some (pt 0)),(5,some (.bool (eP (kT l q) k))),(17,some (aR l)),(18,some (vi l.length)),(19,some (vi k))] [(0,some (.cells [.int .i64 q.x,.int .i64 q.y] true))] 1)) (fun hall=>?_) (fun k h1 ih hall=>?_) (fun i hi=>by omega)
 ·refine aV aDV mixed _ (aF4 l.length l.length q (eP (kT l q) l.length) (aB l) _ _) ?_
  rw [if_neg (by rintro ⟨i,hi,ho⟩; exact hall i hi ho)] at h
  simp only [true_and]
  refine ifD (fun hlt=>by omega) (fun _=>aE (fun hb=>?_) (fun hb=>?_))
  ·rwa [hb,if_pos rfl] at h
  ·rwa [hb,if_neg (by decide)] at h
 ·refine aV aDV mixed _ (aF4 l.length k q (eP (kT l q) k) (aB l) _ _) ?_
  have h0 : 0 < l.length:=by omega
  have hk : ((k : Nat) : Int).toNat = k:=toNat_natCast k
  have hk1 : (((k + 1) % l.length : Nat) : Int).toNat = (k + 1) % l.length:=toNat_natCast _
  have hm:=Nat.mod_lt (k + 1) h0
  obtain ⟨c0,c1⟩:=cK h1
  obtain ⟨d0,d1⟩:=dV h0 (k + 1)
  have n0:=bR hn h0 k
  have n1:=bR hn h0 (k + 1)
  simp only [true_and,and_true,hk,tmN,hk1,c0,c1,d0,d1,aQ,aJ (show k < 2 ^ 62 by omega)]
  have e : eP (kT l q) (k + 1) = if kT l q k then !eP (kT l q) k else eP (kT l q) k:=rfl
  refine ifD (fun _=>⟨⟨by omega,by omega⟩,by decide,fun h=>by omega,⟨by omega,by omega⟩,by decide,cyc l k,cyc l (k + 1),q,rfl,n0,n1,nq,ifD (fun ho=>?_) (fun ho=>?_)⟩) (fun h'=>by omega)
  ·rwa [if_pos ⟨k,h1,ho⟩] at h
  have ih:=ih fun i hi=>by
   rcases lt_or_ge i k with h' | h'
   ·exact hall i h'
   ·rw [show i = k by omega]; exact ho
  rw [e] at ih
  have stay : ¬ kT l q k -> OkP 202 [aR l,ptV q] 5 Post (stV [(0,some (aR l)),(3,some (pt 0)),(5,some (.bool (eP (kT l q) k))),(17,some (aR l)),(18,some (vi l.length)),(19,some (vi ((k + 1 : Nat) : Int)))] [(0,some (.cells [.int .i64 q.x,.int .i64 q.y] true))] 1):=fun hh=>by
   rwa [if_neg hh] at ih
  have turn : ∀ b : Bool,kT l q k -> b = !eP (kT l q) k -> OkP 202 [aR l,ptV q] 5 Post (stV [(0,some (aR l)),(3,some (pt 0)),(5,some (.bool b)),(17,some (aR l)),(18,some (vi l.length)),(19,some (vi ((k + 1 : Nat) : Int)))] [(0,some (.cells [.int .i64 q.x,.int .i64 q.y] true))] 1):=fun b hh hb=>by
   rw [if_pos hh] at ih
   rw [hb]
   exact ih
  refine ifD (fun y0=>ifD (fun y1=>stay (by unfold kT; omega)) (fun y1=>⟨cyc l k,cyc l (k + 1),q,rfl,n0,n1,nq,ifD (fun hc=>ifD (fun hy=>?_) (fun hy=>stay (by unfold kT; omega))) (fun hc=>ifD (fun hy=>stay (by unfold kT; omega)) (fun hy=>?_))⟩)) (fun y0=>ifD (fun y1=>⟨cyc l k,cyc l (k + 1),q,rfl,n0,n1,nq,ifD (fun hc=>ifD (fun hy=>?_) (fun hy=>stay (by unfold kT; omega))) (fun hc=>ifD (fun hy=>stay (by unfold kT; omega)) (fun hy=>?_))⟩) (fun y1=>stay (by unfold kT; omega)))
  all_goals exact aE (fun hb=>turn _ (by unfold kT; omega) (by rw [hb]; rfl)) (fun hb=>turn _ (by unfold kT; omega) (by rw [hb]; rfl))
def aJi (args : List Value) (Post : Value -> Prop) : Prop:=∃ q a b : Pt,args = [ptV q,ptV a,ptV b] /\ Nr q /\ Nr a /\ Nr b /\ Post (.bool (decide (onP a b q)))
def aDl (args : List Value) (Post : Value -> Prop) : Prop:=∃ q : Pt,args = [ptV q] /\ Post (.bool (decide (¬ fO q)))
def aIq (args : List Value) (Post : Value -> Prop) : Prop:=∃ l : List Pt,args = [aR l] /\ aH l /\ Post (.bool (decide (∀ p ∈ l,¬ fO p)))
def aKY (args : List Value) (Post : Value -> Prop) : Prop:=∃ l : List Pt,args = [aR l] /\ l.length <= 32 /\ (∀ p ∈ l,Nr p) /\ Post (.bool (decide (kQ l)))
theorem aPI (a b c : Pt) (H : HT) (Post : PV) : vcP Tryz.prog aI 210 [] [ptV a,ptV b,ptV c] H Post = (T16 (T8 (T4 (True /\ Post (vi (wrap i64 (wrap i64 (wrap i64 (b.x - a.x) * wrap i64 (c.y - a.y)) - wrap i64 (wrap i64 (b.y - a.y) * wrap i64 (c.x - a.x))))))))):=by kernel_rfl
theorem aMY (n : Int) (H : HT) (Post : PV) : vcP Tryz.prog aI 251 [] [.int .i64 n] H Post = (T2 (True /\ pIf (decide (n < 0)) (T2 (True /\ Post (vi (-1)))) (T2 (True /\ pIf (decide (n > 0)) (T2 (True /\ Post (vi 1))) (T2 (True /\ Post (vi 0))))))):=by kernel_rfl
theorem e_rOn (q a b : Pt) (H : HT) (Post : PV) : vcP Tryz.prog (aU [⟨210,jI⟩] aI) 209 [] [ptV q,ptV a,ptV b] H Post = (let q1:=True /\ Post (vb false); T4 (T2 (True /\ ∃ (a_1 : Pt),∃ (b_1 : Pt),∃ (c : Pt),eqL [Value.agg #[vi a.x,vi a.y],Value.agg #[vi b.x,vi b.y],Value.agg #[vi q.x,vi q.y]] [ptV a_1,ptV b_1,ptV c] /\ Nr a_1 /\ Nr b_1 /\ Nr c /\ True /\ pIf (decide (aY a_1 b_1 c = 0)) (T8 (True /\ pIf (decide ((if b.x < a.x then b.x else a.x) <= q.x)) (T8 (T2 (pIf (decide (q.x <= if b.x > a.x then b.x else a.x)) (T8 (T2 (pIf (decide ((if b.y < a.y then b.y else a.y) <= q.y)) (T8 (T2 (pIf (decide (q.y <= if b.y > a.y then b.y else a.y)) (T2 (True /\ Post (vb true))) (T2 q1)))) (T4 q1)))) (T4 (T2 q1))))) (T8 q1))) (T8 (T2 (Post (vb false))))))):=by kernel_rfl
def vcRm : bH:=aU [⟨210,jI⟩,⟨251,vU⟩,⟨209,aJi⟩] aI
theorem aOz (a b c d : Pt) (H : HT) (Post : PV) : vcP Tryz.prog vcRm 235 [] [ptV a,ptV b,ptV c,ptV d] H Post = (let q4:=True /\ Post (vb true); let q3:=#[vi b.x,vi b.y]; let q2:=#[vi d.x,vi d.y]; let q1:=#[vi c.x,vi c.y]; T8 (∃ (q : Pt),∃ (a_1 : Pt),∃ (b_1 : Pt),eqL [Value.agg #[vi a.x,vi a.y],Value.agg q1,Value.agg q2] [ptV q,ptV a_1,ptV b_1] /\ Nr q /\ Nr a_1 /\ Nr b_1 /\ pIf (decide (onP a_1 b_1 q)) (T8 (Post (vb true))) (T4 (∃ (q : Pt),∃ (a_2 : Pt),∃ (b_2 : Pt),eqL [Value.agg q3,Value.agg q1,Value.agg q2] [ptV q,ptV a_2,ptV b_2] /\ Nr q /\ Nr a_2 /\ Nr b_2 /\ pIf (decide (onP a_2 b_2 q)) (T4 (T2 q4)) (T4 (True /\ ∃ (q : Pt),∃ (a_3 : Pt),∃ (b_3 : Pt),eqL [Value.agg q1,Value.agg #[vi a.x,vi a.y],Value.agg q3] [ptV q,ptV a_3,ptV b_3] /\ Nr q /\ Nr a_3 /\ Nr b_3 /\ pIf (decide (onP a_3 b_3 q)) (T4 q4) (T4 (True /\ ∃ (q : Pt),∃ (a_4 : Pt),∃ (b_4 : Pt),eqL [Value.agg q2,Value.agg #[vi a.x,vi a.y],Value.agg q3] [ptV q,ptV a_4,ptV b_4] /\ Nr q /\ Nr a_4 /\ Nr b_4 /\ pIf (decide (onP a_4 b_4 q)) (T2 q4) (T4 (T2 (True /\ ∃ (a_5 : Pt),∃ (b_5 : Pt),∃ (c_1 : Pt),eqL [Value.agg #[vi a.x,vi a.y],Value.agg q3,Value.agg q1] [ptV a_5,ptV b_5,ptV c_1] /\ Nr a_5 /\ Nr b_5 /\ Nr c_1 /\ T2 (∃ (a_6 : Pt),∃ (b_6 : Pt),∃ (c_2 : Pt),eqL [Value.agg #[vi a.x,vi a.y],Value.agg q3,Value.agg q2] [ptV a_6,ptV b_6,ptV c_2] /\ Nr a_6 /\ Nr b_6 /\ Nr c_2 /\ T4 (pIf (decide (wrap i64 (dI (aY a_5 b_5 c_1) * dI (aY a_6 b_6 c_2)) < 0)) (T4 (T2 (True /\ ∃ (a_7 : Pt),∃ (b_7 : Pt),∃ (c_3 : Pt),eqL [Value.agg q1,Value.agg q2,Value.agg #[vi a.x,vi a.y]] [ptV a_7,ptV b_7,ptV c_3] /\ Nr a_7 /\ Nr b_7 /\ Nr c_3 /\ T2 (∃ (a : Pt),∃ (b_8 : Pt),∃ (c_4 : Pt),eqL [Value.agg q1,Value.agg q2,Value.agg q3] [ptV a,ptV b_8,ptV c_4] /\ Nr a /\ Nr b_8 /\ Nr c_4 /\ T4 (pIf (decide (wrap i64 (dI (aY a_7 b_7 c_3) * dI (aY a b_8 c_4)) < 0)) (T2 q4) (T2 (True /\ Post (vb false)))))))) (T4 (Post (vb false)))))))))))))))):=by kernel_rfl
theorem aOo (q : Pt) (H : HT) (Post : PV) : vcP Tryz.prog aI 208 [] [ptV q] H Post = (let q1:=True /\ Post (vb false); T4 (True /\ pIf (decide (q.x >= -32768)) (T4 (pIf (decide (q.x <= 32768)) (T4 (True /\ pIf (decide (q.y >= -32768)) (T4 (True /\ pIf (decide (q.y <= 32768)) (T2 (True /\ Post (vb true))) (T2 q1))) (T4 q1))) (T4 (T2 q1)))) (T8 (Post (vb false))))):=by kernel_rfl
def vcRn : bH:=aU [⟨208,aDl⟩] aI
theorem aOY (n : Nat) (A : Array Value) (H : Code -> List Fr -> AS -> Prop) (Post : Value -> Prop) : vcP Tryz.prog vcRn 205 [(2,[0,3])] [tree 2 n A] H Post = (True /\ True /\ True /\ True /\ HP H 205 2 (stV [(0,some (tree 2 n A)),(3,some (Value.int i64 0))] [] 0)):=by kernel_rfl
theorem aIW (n : Nat) (k : Int) (A : Array Value) (H : HT) (Post : PV) : bX Tryz.prog vcRn 205 [tree 2 n A] [(2,[0,3])] 2 (stV [(0,some (tree 2 n A)),(3,some (vi k))] [] 0) H Post = (let q2:=toI (aA A k.toNat 1); let q1:=toI (aA A k.toNat 0); T4 (pIf (decide (k < (↑n : Int))) (T2 ((0 <= k /\ k < (↑n : Int)) /\ (aA A k.toNat 0 = vi q1 /\ aA A k.toNat 1 = vi q2 /\ True) /\ ∃ (q : Pt),eqL [Value.agg #[vi q1,vi q2]] [ptV q] /\ pIf (decide ¬fO q) (T4 (T2 (HP H 205 2 (stV [(0,some (tree 2 n A)),(3,some (vi (wrap i64 (k + 1))))] [] 0)))) (T2 (True /\ Post (vb false))))) (T2 (Post (vb true))))):=by kernel_rfl
def aJv : bH:=aU [⟨209,aJi⟩,⟨235,mT⟩] aI
abbrev aMV : List (Nat × List Nat):=[(3,[0,3,4]),(6,[0,3,4,5]),(11,[0,3,6]),(17,[0,3,6,7,8,10])]
theorem aR0 (n : Nat) (A : Array Value) (H : Code -> List Fr -> AS -> Prop) (Post : Value -> Prop) : vcP Tryz.prog aJv 206 aMV [tree 2 n A] H Post = (True /\ True /\ True /\ True /\ True /\ True /\ True /\ HP H 206 3 (stV [(0,some (tree 2 n A)),(3,some (Value.int i64 (↑n : Int))),(4,some (Value.int i64 0))] [] 0)):=by kernel_rfl
theorem aN5 (n : Nat) (k : Int) (A : Array Value) (H : HT) (Post : PV) : bX Tryz.prog aJv 206 [tree 2 n A] aMV 3 (stV [(0,some (tree 2 n A)),(3,some (vi n)),(4,some (vi k))] [] 0) H Post = (T2 (True /\ pIf (decide (k < (↑n : Int))) (T2 (True /\ HP H 206 6 (stV [(0,some (tree 2 n A)),(3,some (vi (↑n : Int))),(4,some (vi k)),(5,some (vi 0))] [] 0))) (T2 (True /\ HP H 206 11 (stV [(0,some (tree 2 n A)),(3,some (vi (↑n : Int))),(6,some (vi 0))] [] 0))))):=by kernel_rfl
theorem aLX (n : Nat) (k j : Int) (A : Array Value) (H : HT) (Post : PV) : bX Tryz.prog aJv 206 [tree 2 n A] aMV 6 (stV [(0,some (tree 2 n A)),(3,some (vi n)),(4,some (vi k)),(5,some (vi j))] [] 0) H Post = (T2 (True /\ pIf (decide (j < k)) (T2 ((0 <= k /\ k < (↑n : Int)) /\ (aA A k.toNat 0 = vi (toI (aA A k.toNat 0)) /\ aA A k.toNat 1 = vi (toI (aA A k.toNat 1)) /\ True) /\ T2 ((0 <= j /\ j < (↑n : Int)) /\ (aA A j.toNat 0 = vi (toI (aA A j.toNat 0)) /\ aA A j.toNat 1 = vi (toI (aA A j.toNat 1)) /\ True) /\ True /\ pIf (decide (toI (aA A k.toNat 0) = toI (aA A j.toNat 0)) && (decide (toI (aA A k.toNat 1) = toI (aA A j.toNat 1)) && true)) (T2 (Post (vb false))) (T4 (True /\ HP H 206 6 (stV [(0,some (tree 2 n A)),(3,some (vi (↑n : Int))),(4,some (vi k)),(5,some (vi (wrap i64 (j + 1))))] [] 0)))))) (T4 (True /\ HP H 206 3 (stV [(0,some (tree 2 n A)),(3,some (vi (↑n : Int))),(4,some (vi (wrap i64 (k + 1))))] [] 0))))):=by kernel_rfl
theorem aOa (n : Nat) (k : Int) (A : Array Value) (H : HT) (Post : PV) : bX Tryz.prog aJv 206 [tree 2 n A] aMV 11 (stV [(0,some (tree 2 n A)),(3,some (vi n)),(6,some (vi k))] [] 0) H Post = (let q6:=wrap i64 (k + 2); let q1:=(toNat (tmod q6 (↑n : Int))); let q13:=toI (aA A q1 1); let q12:=toI (aA A q1 0); let q9:=wrap i64 (k + 1); let q2:=(toNat (tmod q9 (↑n : Int))); let q11:=toI (aA A q2 1); let q10:=toI (aA A q2 0); let q8:=toI (aA A k.toNat 1); let q7:=toI (aA A k.toNat 0); let q3:=#[vi q12,vi q13]; let q5:=Value.agg q3 = Value.agg q3 /\ aA A q1 0 = vi q12 /\ aA A q1 1 = vi q13 /\ True; let q4:=#[vi q10,vi q11]; T2 (True /\ pIf (decide (k < (↑n : Int))) (T2 ((0 <= k /\ k < (↑n : Int)) /\ (aA A k.toNat 0 = vi q7 /\ aA A k.toNat 1 = vi q8 /\ True) /\ T4 (((↑n : Int) = 0 -> False) /\ (0 <= tmod q9 (↑n : Int) /\ tmod q9 (↑n : Int) < (↑n : Int)) /\ (aA A q2 0 = vi q10 /\ aA A q2 1 = vi q11 /\ True) /\ T4 (((↑n : Int) = 0 -> False) /\ (0 <= tmod q6 (↑n : Int) /\ tmod q6 (↑n : Int) < (↑n : Int)) /\ (aA A q1 0 = vi q12 /\ aA A q1 1 = vi q13 /\ True) /\ T2 (True /\ 2 <= 2 /\ (q5 /\ (Value.agg q4 = Value.agg q4 /\ aA A q2 0 = vi q10 /\ aA A q2 1 = vi q11 /\ True) /\ True) /\ 2 <= 2 /\ (q5 /\ True) /\ 2 <= 2 /\ T4 (∃ (q : Pt),∃ (a : Pt),∃ (b : Pt),eqL [Value.agg #[vi q7,vi q8],Value.agg q4,Value.agg q3] [ptV q,ptV a,ptV b] /\ Nr q /\ Nr a /\ Nr b /\ pIf (decide (onP a b q)) (T4 (Post (vb false))) (T4 (∃ (q : Pt),∃ (a : Pt),∃ (b : Pt),eqL [Value.agg q3,Value.agg #[vi q7,vi q8],Value.agg q4] [ptV q,ptV a,ptV b] /\ Nr q /\ Nr a /\ Nr b /\ pIf (decide (onP a b q)) (T2 (True /\ Post (vb false))) (T4 (True /\ (T2 (True)) /\ HP H 206 17 (stV [(0,some (tree 2 n A)),(3,some (vi (↑n : Int))),(6,some (vi k)),(7,some (pt 0)),(8,some (pt 1)),(10,some (vi q6))] [(0,some (AObj.cells [vi q7,vi q8] true)),(1,some (AObj.cells [vi q10,vi q11] true))] 2))))))))))) (T2 (Post (vb true))))):=by kernel_rfl
theorem aLs (n : Nat) (k j : Int) (a b : Pt) (A : Array Value) (H : HT) (Post : PV) : bX Tryz.prog aJv 206 [tree 2 n A] aMV 17 (stV [(0,some (tree 2 n A)),(3,some (vi n)),(6,some (vi k)),(7,some (pt 0)),(8,some (pt 1)),(10,some (vi j))] [(0,some (.cells [.int .i64 a.x,.int .i64 a.y] true)),(1,some (.cells [.int .i64 b.x,.int .i64 b.y] true))] 2) H Post = (let q5:=toI (aA A j.toNat 1); let q4:=toI (aA A j.toNat 0); let q3:=wrap i64 (j + 1); let q2:=(toNat (tmod q3 (↑n : Int))); let q1:=(T4 (T2 ((T2 (True)) /\ HP H 206 17 (stV [(0,some (tree 2 n A)),(3,some (vi (↑n : Int))),(6,some (vi k)),(7,some (pt 0)),(8,some (pt 1)),(10,some (vi q3))] [(0,some (AObj.cells [vi a.x,vi a.y] true)),(1,some (AObj.cells [vi b.x,vi b.y] true))] 2)))); T2 (True /\ pIf (decide (j < (↑n : Int))) (T2 (True /\ ((↑n : Int) = 0 -> False) /\ T2 (pIf (!decide (tmod q3 (↑n : Int) = k)) (T4 (True /\ (0 <= j /\ j < (↑n : Int)) /\ (aA A j.toNat 0 = vi q4 /\ aA A j.toNat 1 = vi q5 /\ True) /\ T4 (((↑n : Int) = 0 -> False) /\ (0 <= tmod q3 (↑n : Int) /\ tmod q3 (↑n : Int) < (↑n : Int)) /\ (aA A q2 0 = vi (toI (aA A q2 0)) /\ aA A q2 1 = vi (toI (aA A q2 1)) /\ True) /\ ∃ (a_1 : Pt),∃ (b_1 : Pt),∃ (c : Pt),∃ (d : Pt),eqL [Value.agg #[vi a.x,vi a.y],Value.agg #[vi b.x,vi b.y],Value.agg #[vi q4,vi q5],Value.agg #[vi (toI (aA A q2 0)),vi (toI (aA A q2 1))]] [ptV a_1,ptV b_1,ptV c,ptV d] /\ Nr a_1 /\ Nr b_1 /\ Nr c /\ Nr d /\ pIf (decide (fH a_1 b_1 c d)) (T4 (Post (vb false))) q1))) q1))) (T4 (True /\ HP H 206 11 (stV [(0,some (tree 2 n A)),(3,some (vi (↑n : Int))),(6,some (vi (wrap i64 (k + 1))))] [] 0))))):=by kernel_rfl
theorem aQ5 (n : Nat) (A : Array Value) (H : HT) (Post : PV) : vcP Tryz.prog (aU [⟨205,aIq⟩,⟨206,aKY⟩] aI) 130 [] [tree 2 n A] H Post = (T4 (pIf (decide ((↑n : Int) < 3)) (T2 (Post (vi 3))) (T2 (True /\ pIf (decide ((↑n : Int) > 32)) (T2 (Post (vi 4))) (True /\ ∃ (l : List Pt),eqL [tree 2 n A] [aR l] /\ aH l /\ pIf (decide (∀ (p : Pt),p ∈ l -> ¬fO p)) (T2 (∃ (l : List Pt),eqL [tree 2 n A] [aR l] /\ length l <= 32 /\ (∀ (p : Pt),p ∈ l -> Nr p) /\ pIf (decide (kQ l)) (T2 (True /\ Post (vi 0))) (T2 (True /\ Post (vi 17))))) (T2 (True /\ Post (vi 9)))))))):=by kernel_rfl
def aFu : bH:=aU [⟨130,qM⟩] aI
theorem aQ8 (n : Nat) (A : Array Value) (H : HT) (Post : PV) : vcP Tryz.prog aFu 131 [(5,[0,3,4])] [tree 2 n A] H Post = (T2 (∃ (l : List Pt),eqL [tree 2 n A] [aR l] /\ aH l /\ True /\ pIf (!decide (aO l = 0)) (T2 (Post (vi 0))) (T4 (HP H 131 5 (stV [(0,some (tree 2 n A)),(3,some (vi 0)),(4,some (vi 0))] [] 0))))):=by kernel_rfl
theorem aIo (n : Nat) (k s : Int) (A : Array Value) (H : HT) (Post : PV) : bX Tryz.prog aFu 131 [tree 2 n A] [(5,[0,3,4])] 5 (stV [(0,some (tree 2 n A)),(3,some (vi s)),(4,some (vi k))] [] 0) H Post = (let q2:=wrap i64 (k + 1); let q1:=(toNat (tmod q2 (↑n : Int))); let q4:=toI (aA A q1 1); let q3:=toI (aA A q1 0); T4 (pIf (decide (k < (↑n : Int))) (T2 ((0 <= k /\ k < (↑n : Int)) /\ (aA A k.toNat 0 = vi (toI (aA A k.toNat 0)) /\ aA A k.toNat 1 = vi (toI (aA A k.toNat 1)) /\ True) /\ T4 (True /\ ((↑n : Int) = 0 -> False) /\ (0 <= tmod q2 (↑n : Int) /\ tmod q2 (↑n : Int) < (↑n : Int)) /\ (aA A q1 0 = vi q3 /\ aA A q1 1 = vi q4 /\ True) /\ T2 (2 <= 2 /\ ((Value.agg #[vi q3,vi q4] = Value.agg #[vi q3,vi q4] /\ aA A q1 0 = vi q3 /\ aA A q1 1 = vi q4 /\ True) /\ True) /\ 2 <= 2 /\ T16 (T4 (HP H 131 5 (stV [(0,some (tree 2 n A)),(3,some (vi (wrap i64 (wrap i64 (s + wrap i64 (toI (aA A k.toNat 0) * toI (aA A q1 1))) - wrap i64 (toI (aA A k.toNat 1) * toI (aA A q1 0)))))),(4,some (vi q2))] [] 0))))))) (T2 (True /\ Post (vi s))))):=by kernel_rfl
theorem aQc (n : Nat) (A : Array Value) (H : HT) (Post : PV) : vcP Tryz.prog aFu 143 [(5,[0,4,5,6])] [tree 2 n A] H Post = (T2 (True /\ ∃ (l : List Pt),eqL [tree 2 n A] [aR l] /\ aH l /\ True /\ pIf (!decide (aO l = 0)) (T2 ((T2 (True)) /\ Post (Value.tuple #[vi 0,vi 0]))) (T4 (True /\ HP H 143 5 (stV [(0,some (tree 2 n A)),(4,some (vi 0)),(5,some (vi 0)),(6,some (vi 0))] [] 0))))):=by kernel_rfl
theorem aIb (n : Nat) (k s t : Int) (A : Array Value) (H : HT) (Post : PV) : bX Tryz.prog aFu 143 [tree 2 n A] [(5,[0,4,5,6])] 5 (stV [(0,some (tree 2 n A)),(4,some (vi s)),(5,some (vi t)),(6,some (vi k))] [] 0) H Post = (let q7:=aA A k.toNat 1; let q6:=aA A k.toNat 0; let q3:=wrap i64 (k + 1); let q1:=(toNat (tmod q3 (↑n : Int))); let q5:=toI (aA A q1 1); let q4:=toI (aA A q1 0); let q2:=wrap i64 (toI q6 * toI (aA A q1 1)) - wrap i64 (toI q7 * toI (aA A q1 0)); T4 (pIf (decide (k < (↑n : Int))) (T2 ((0 <= k /\ k < (↑n : Int)) /\ (aA A k.toNat 0 = vi (toI q6) /\ aA A k.toNat 1 = vi (toI q7) /\ True) /\ T4 (True /\ ((↑n : Int) = 0 -> False) /\ (0 <= tmod q3 (↑n : Int) /\ tmod q3 (↑n : Int) < (↑n : Int)) /\ (aA A q1 0 = vi q4 /\ aA A q1 1 = vi q5 /\ True) /\ T2 (2 <= 2 /\ ((Value.agg #[vi q4,vi q5] = Value.agg #[vi q4,vi q5] /\ aA A q1 0 = vi q4 /\ aA A q1 1 = vi q5 /\ True) /\ True) /\ 2 <= 2 /\ T32 (T4 (T2 (HP H 143 5 (stV [(0,some (tree 2 n A)),(4,some (vi (wrap i64 (s + wrap i64 (wrap i64 (toI q6 + toI (aA A q1 0)) * wrap i64 q2))))),(5,some (vi (wrap i64 (t + wrap i64 (wrap i64 (toI q7 + toI (aA A q1 1)) * wrap i64 q2))))),(6,some (vi q3))] [] 0)))))))) (T4 ((T2 (True)) /\ Post (Value.tuple #[vi s,vi t]))))):=by kernel_rfl
def aLx : bH:=aU [⟨130,qM⟩,⟨208,aDl⟩,⟨209,aJi⟩,⟨210,jI⟩] aI
theorem aK9 (n : Nat) (q : Pt) (A : Array Value) (H : HT) (Post : PV) : vcP Tryz.prog aLx 133 [(5,[0,3,5,6])] [tree 2 n A,ptV q] H Post = (T2 (True /\ ∃ (l : List Pt),eqL [tree 2 n A] [aR l] /\ aH l /\ True /\ pIf (!decide (aO l = 0)) (T4 (Post (vi (-1)))) (T2 (∃ (q_1 : Pt),eqL [Value.agg #[vi q.x,vi q.y]] [ptV q_1] /\ pIf (decide ¬fO q_1) (T4 (True /\ (True /\ True) /\ HP H 133 5 (stV [(0,some (tree 2 n A)),(3,some (pt 0)),(5,some (vb false)),(6,some (vi 0))] [(0,some (AObj.cells [vi q.x,vi q.y] true))] 1))) (T4 (Post (vi (-1)))))))):=by kernel_rfl
theorem aBW (n : Nat) (k : Int) (q : Pt) (b : Bool) (A : Array Value) (H : HT) (Post : PV) : bX Tryz.prog aLx 133 [tree 2 n A,ptV q] [(5,[0,3,5,6])] 5 (stV [(0,some (tree 2 n A)),(3,some (pt 0)),(5,some (.bool b)),(6,some (vi k))] [(0,some (.cells [.int .i64 q.x,.int .i64 q.y] true))] 1) H Post = (let q11:=wrap i64 (k + 1); let q22:=(6,some (vi q11)); let q1:=(toNat (tmod q11 (↑n : Int))); let q21:=toI (aA A q1 1); let q20:=toI (aA A q1 0); let q19:=(0,some (tree 2 n A)); let q18:=lpK Tryz.prog 133 5; let q17:=lpC Tryz.prog 133 5; let q16:=toI (aA A k.toNat 0); let q10:=aA A k.toNat 1; let q15:=decide (q.y < toI q10); let q14:=[(0,some (AObj.cells [vi q.x,vi q.y] true))]; let q13:=decide (toI (aA A q1 1) <= q.y); let q12:=#[vi q20,vi q21]; let q3:=stV [q19,(3,some (pt 0)),(5,some (vb b)),q22] q14 1; let q9:=T8 (T4 (True /\ (True /\ True) /\ H q17 q18 q3)); let q8:=T4 (T2 ((True /\ True) /\ H q17 q18 (stV [q19,(3,some (pt 0)),(5,some (vb true)),q22] q14 1))); let q7:=T4 (T2 ((True /\ True) /\ H q17 q18 (stV [q19,(3,some (pt 0)),(5,some (vb false)),q22] q14 1))); let q6:=(True /\ True) /\ H q17 q18 q3; let q5:=[Value.agg #[vi q16,vi (toI q10)],Value.agg q12,Value.agg #[vi q.x,vi q.y]]; let q4:=pIf b q7 q8; let q2:=True /\ pIf b q7 q8; T4 (pIf (decide (k < (↑n : Int))) (T2 ((0 <= k /\ k < (↑n : Int)) /\ (aA A k.toNat 0 = vi q16 /\ aA A k.toNat 1 = vi (toI q10) /\ True) /\ T4 (True /\ ((↑n : Int) = 0 -> False) /\ (0 <= tmod q11 (↑n : Int) /\ tmod q11 (↑n : Int) < (↑n : Int)) /\ (aA A q1 0 = vi q20 /\ aA A q1 1 = vi q21 /\ True) /\ T2 (2 <= 2 /\ ((Value.agg q12 = Value.agg q12 /\ aA A q1 0 = vi q20 /\ aA A q1 1 = vi q21 /\ True) /\ True) /\ 2 <= 2 /\ T4 (∃ (q_1 : Pt),∃ (a : Pt),∃ (b_1 : Pt),eqL [Value.agg #[vi q.x,vi q.y],Value.agg #[vi q16,vi (toI q10)],Value.agg q12] [ptV q_1,ptV a,ptV b_1] /\ Nr q_1 /\ Nr a /\ Nr b_1 /\ pIf (decide (onP a b_1 q_1)) (T2 (Post (vi 0))) (T4 (True /\ pIf (decide (toI q10 <= q.y)) (T4 (T2 (pIf (decide (q.y < toI (aA A q1 1))) (T4 (True /\ ∃ (a : Pt),∃ (b_2 : Pt),∃ (c : Pt),eqL q5 [ptV a,ptV b_2,ptV c] /\ Nr a /\ Nr b_2 /\ Nr c /\ True /\ pIf (decide (aY a b_2 c > 0)) (T4 (T2 (True /\ pIf q13 (T4 (T2 (pIf q15 (T4 (True /\ ∃ (a : Pt),∃ (b_3 : Pt),∃ (c : Pt),eqL q5 [ptV a,ptV b_3,ptV c] /\ Nr a /\ Nr b_3 /\ Nr c /\ True /\ pIf (decide (aY a b_3 c < 0)) (T4 (T2 q4)) (T4 (T2 q4)))) (T8 q4)))) (T8 q2)))) (T4 (T2 (True /\ pIf q13 (T4 (T2 (pIf q15 (T4 (True /\ ∃ (a : Pt),∃ (b_3 : Pt),∃ (c : Pt),eqL q5 [ptV a,ptV b_3,ptV c] /\ Nr a /\ Nr b_3 /\ Nr c /\ True /\ pIf (decide (aY a b_3 c < 0)) (T4 (T2 q2)) (T8 (T2 q6)))) (T8 (T4 q6))))) q9))))) (T8 (True /\ pIf q13 (T4 (T2 (pIf q15 (T4 (True /\ ∃ (a : Pt),∃ (b_2 : Pt),∃ (c : Pt),eqL q5 [ptV a,ptV b_2,ptV c] /\ Nr a /\ Nr b_2 /\ Nr c /\ True /\ pIf (decide (aY a b_2 c < 0)) (T4 (T2 q2)) (T8 (T2 q6)))) (T8 (T4 q6))))) q9))))) (T8 (T2 (pIf q13 (T4 (T2 (pIf q15 (T4 (True /\ ∃ (a : Pt),∃ (b_2 : Pt),∃ (c : Pt),eqL q5 [ptV a,ptV b_2,ptV c] /\ Nr a /\ Nr b_2 /\ Nr c /\ True /\ pIf (decide (aY a b_2 c < 0)) (T4 (T2 q2)) (T8 (T2 q6)))) (T8 (T4 q6))))) q9)))))))))) (True /\ pIf b (T2 (Post (vi 1))) (T2 (Post (vi (-1))))))):=by kernel_rfl
theorem aAt : aZ Tryz.prog ⟨210,jI⟩:=by
 rintro args Post ⟨a,b,c,rfl,ha,hb,hc,h⟩
 refine aN (vc:=aI) aD mixed (by kernel_rfl) (by kernel_rfl) _ (aPI a b c _ _) ?_
 rw [← oI ha hb hc] at h
 simp only [true_and]
 exact h
theorem aKk : aZ Tryz.prog ⟨251,vU⟩:=by
 intro args Post hc
 unfold vU at hc
 dsimp only at hc
 split at hc
 case h_2=>exact hc.elim
 rename_i n
 refine aN aD mixed (by kernel_rfl) (by kernel_rfl) _ (aMY n _ _) ?_
 simp only [true_and]
 unfold dI at hc
 refine ifD (fun h1=>?_) (fun h1=>ifD (fun h2=>?_) (fun h2=>?_))
 ·rwa [if_pos h1] at hc
 ·rwa [if_neg h1,if_neg (by omega)] at hc
 ·rwa [if_neg h1,if_pos (by omega)] at hc
theorem aGF : aZ Tryz.prog ⟨209,aJi⟩:=by
 rintro args Post ⟨q,a,b,rfl,hq,ha,hb,h⟩
 refine aN (aM (by
  intro e he
  simp only [mem_cons,not_mem_nil,or_false] at he
  subst he
  exact aAt) aD) mixed (by kernel_rfl) (by kernel_rfl) _ (e_rOn q a b _ _) ?_
 simp only [true_and,aEj,aEa]
 have yes : onP a b q -> Post (.bool true):=fun hp=>by rwa [decide_eq_true hp] at h
 have no : ¬ onP a b q -> Post (.bool false):=fun hp=>by rwa [decide_eq_false hp] at h
 refine ⟨a,b,q,rfl,ha,hb,hq,ifD (fun h1=>?_) (fun h1=>no fun hp=>h1 hp.1)⟩
 refine ifD (fun h2=>?_) (fun h2=>no fun hp=>h2 hp.2.1)
 refine ifD (fun h3=>?_) (fun h3=>no fun hp=>h3 hp.2.2.1)
 refine ifD (fun h4=>?_) (fun h4=>no fun hp=>h4 hp.2.2.2.1)
 exact ifD (fun h5=>yes ⟨h1,h2,h3,h4,h5⟩) (fun h5=>no fun hp=>h5 hp.2.2.2.2)
theorem aOU : aW Tryz.prog vcRm:=aM (by
 intro e he
 simp only [mem_cons,not_mem_nil,or_false] at he
 rcases he with rfl | rfl | rfl
 ·exact aAt
 ·exact aKk
 ·exact aGF) aD
theorem aLZ : aZ Tryz.prog ⟨235,mT⟩:=by
 rintro args Post ⟨a,b,c,d,rfl,ha,hb,hc,hd,h⟩
 refine aN aOU mixed (by kernel_rfl) (by kernel_rfl) _ (aOz a b c d _ _) ?_
 simp only [true_and,zG]
 have yes : fH a b c d -> Post (.bool true):=fun hp=>by rwa [decide_eq_true hp] at h
 have no : ¬ fH a b c d -> Post (.bool false):=fun hp=>by rwa [decide_eq_false hp] at h
 refine ⟨a,c,d,rfl,ha,hc,hd,ifD (fun h1=>yes (.inr (.inr (.inl h1)))) (fun h1=>?_)⟩
 refine ⟨b,c,d,rfl,hb,hc,hd,ifD (fun h2=>yes (.inr (.inr (.inr (.inl h2))))) (fun h2=>?_)⟩
 refine ⟨c,a,b,rfl,hc,ha,hb,ifD (fun h3=>yes (.inl h3)) (fun h3=>?_)⟩
 refine ⟨d,a,b,rfl,hd,ha,hb,ifD (fun h4=>yes (.inr (.inl h4))) (fun h4=>?_)⟩
 have never : ¬ (aBL (aY a b c) (aY a b d) /\ aBL (aY c d a) (aY c d b)) -> Post (.bool false):=fun hn=>no (by
  rintro (h | h | h | h | h)
  ·exact h3 h
  ·exact h4 h
  ·exact h1 h
  ·exact h2 h
  ·exact hn h)
 refine ⟨a,b,c,rfl,ha,hb,hc,a,b,d,rfl,ha,hb,hd,ifD (fun h5=>?_) (fun h5=>never fun h=>h5 h.1)⟩
 exact ⟨c,d,a,rfl,hc,hd,ha,c,d,b,rfl,hc,hd,hb,ifD (fun h6=>yes (.inr (.inr (.inr (.inr ⟨h5,h6⟩))))) (fun h6=>never fun h=>h6 h.2)⟩
theorem aFq : aZ Tryz.prog ⟨208,aDl⟩:=by
 rintro args Post ⟨q,rfl,h⟩
 refine aN aD mixed (by kernel_rfl) (by kernel_rfl) _ (aOo q _ _) ?_
 simp only [true_and]
 have yes : ¬ fO q -> Post (.bool true):=fun hp=>by rwa [decide_eq_true hp] at h
 have no : fO q -> Post (.bool false):=fun hp=>by rwa [decide_eq_false (fun h=>h hp)] at h
 unfold fO at yes no
 repeat' (first
  | refine ifD (fun _=>?_) (fun _=>?_)
  | exact yes (by omega)
  | exact no (by omega))
theorem aDc : aW Tryz.prog vcRn:=aM (by
 intro e he
 simp only [mem_cons,not_mem_nil,or_false] at he
 subst he
 exact aFq) aD
theorem aRM {l : List Pt} {k : Nat} (h : k < l.length) : cyc l k = l[k]:=by rw [gN h,xO h]
theorem aML : aZ Tryz.prog ⟨205,aIq⟩:=by
 rintro args Post ⟨l,rfl,hs,h⟩
 have yes : (∀ p ∈ l,¬ fO p) -> Post (.bool true):=fun hp=>by rwa [decide_eq_true hp] at h
 have no : ¬ (∀ p ∈ l,¬ fO p) -> Post (.bool false):=fun hp=>by rwa [decide_eq_false hp] at h
 refine aN aDc mixed (by kernel_rfl) (by kernel_rfl) _ (aOY l.length (aB l) _ _) ?_
 simp only [true_and]
 refine cS (n:=l.length) (p:=fun k=>(∀ i,i < k -> ¬ fO (cyc l i)) -> OkP 205 [aR l] 2 Post (stV [(0,some (aR l)),(3,some (vi k))] [] 0)) (fun hall=>?_) (fun k h1 ih hall=>?_) (fun i hi=>by omega)
 ·refine aV aDc mixed _ (aIW l.length l.length (aB l) _ _) ?_
  simp only [true_and]
  refine ifD (fun hlt=>by omega) (fun _=>yes fun p hp=>?_)
  obtain ⟨i,hi,rfl⟩:=List.mem_iff_getElem.1 hp
  rw [← aRM hi]
  exact hall i hi
 ·refine aV aDc mixed _ (aIW l.length k (aB l) _ _) ?_
  have hk : ((k : Nat) : Int).toNat = k:=toNat_natCast k
  obtain ⟨c0,c1⟩:=cK h1
  simp only [true_and,and_true,hk,c0,c1,aQ,aJ (show k < 2 ^ 62 by omega)]
  refine ifD (fun _=>⟨⟨by omega,by omega⟩,cyc l k,rfl,ifD (fun hf=>ih fun i hi=>?_) (fun hf=>no fun hp=>hf ?_)⟩) (fun h'=>by omega)
  ·rcases lt_or_ge i k with h' | h'
   ·exact hall i h'
   ·rw [show i = k by omega]; exact hf
  ·exact hp _ (kD (by omega) k)
theorem lI : aW Tryz.prog aJv:=aM (by
 intro e he
 simp only [mem_cons,not_mem_nil,or_false] at he
 rcases he with rfl | rfl
 ·exact aGF
 ·exact aLZ) aD
theorem aRA (p q : Pt) : (decide (p.x = q.x) && (decide (p.y = q.y) && true)) = decide (p = q):=by
 rw [Bool.and_true]
 by_cases h : p = q
 ·subst h; simp
 ·rw [decide_eq_false h]
  by_cases hx : p.x = q.x
  ·have hy : p.y ≠ q.y:=fun e=>h (Pt.ext' hx e)
   simp [hy]
  ·simp [hx]
theorem aPv : aZ Tryz.prog ⟨206,aKY⟩:=by
 rintro args Post ⟨l,rfl,hl,hn,h⟩
 have yes : kQ l -> Post (.bool true):=fun hp=>by rwa [decide_eq_true hp] at h
 have no : ¬ kQ l -> Post (.bool false):=fun hp=>by rwa [decide_eq_false hp] at h
 refine aN lI mixed (by kernel_rfl) (by kernel_rfl) _ (aR0 l.length (aB l) _ _) ?_
 simp only [true_and]
 -- the second loop
 have second : (∀ i,i < l.length -> ∀ k,k < i -> cor l i ≠ cor l k) -> OkP 206 [aR l] 11 Post (stV [(0,some (aR l)),(3,some (vi l.length)),(6,some (vi 0))] [] 0):=fun hd=>by
  refine cS (n:=l.length) (p:=fun k=>(∀ i,i < k -> ¬ aG0 l i) -> OkP 206 [aR l] 11 Post (stV [(0,some (aR l)),(3,some (vi l.length)),(6,some (vi k))] [] 0)) (fun hall=>?_) (fun k h1 ih hall=>?_) (fun i hi=>by omega)
  ·refine aV lI mixed _ (aOa l.length l.length (aB l) _ _) ?_
   simp only [true_and]
   exact ifD (fun hlt=>by omega) (fun _=>yes ⟨hd,hall⟩)
  ·have h0 : 0 < l.length:=by omega
   have bad : aG0 l k -> Post (.bool false):=fun hb=>no fun hp=>hp.2 k h1 hb
   have n0:=bR hn h0 k
   have n1:=bR hn h0 (k + 1)
   have n2:=bR hn h0 (k + 2)
   have inner : ¬ onP (cyc l (k + 1)) (cyc l (k + 2)) (cyc l k) -> ¬ onP (cyc l k) (cyc l (k + 1)) (cyc l (k + 2)) -> OkP 206 [aR l] 17 Post (stV [(0,some (aR l)),(3,some (vi l.length)),(6,some (vi k)),(7,some (pt 0)),(8,some (pt 1)),(10,some (vi ((k + 2 : Nat) : Int)))] [(0,some (.cells [.int .i64 (cyc l k).x,.int .i64 (cyc l k).y] true)),(1,some (.cells [.int .i64 (cyc l (k + 1)).x,.int .i64 (cyc l (k + 1)).y] true))] 2):=fun g1 g2=>by
    have key : ∀ r j : Nat,j + r = l.length + 2 -> k + 2 <= j -> (∀ t,t < j -> t < l.length -> k + 2 <= t -> ¬ nJ l k t) -> OkP 206 [aR l] 17 Post (stV [(0,some (aR l)),(3,some (vi l.length)),(6,some (vi k)),(7,some (pt 0)),(8,some (pt 1)),(10,some (vi j))] [(0,some (.cells [.int .i64 (cyc l k).x,.int .i64 (cyc l k).y] true)),(1,some (.cells [.int .i64 (cyc l (k + 1)).x,.int .i64 (cyc l (k + 1)).y] true))] 2):=by
     intro r
     have out : ∀ j : Nat,l.length <= j -> k + 2 <= j -> j <= l.length + 2 -> (∀ t,t < j -> t < l.length -> k + 2 <= t -> ¬ nJ l k t) -> OkP 206 [aR l] 17 Post (stV [(0,some (aR l)),(3,some (vi l.length)),(6,some (vi k)),(7,some (pt 0)),(8,some (pt 1)),(10,some (vi j))] [(0,some (.cells [.int .i64 (cyc l k).x,.int .i64 (cyc l k).y] true)),(1,some (.cells [.int .i64 (cyc l (k + 1)).x,.int .i64 (cyc l (k + 1)).y] true))] 2):=fun j hj hkj _ hc=>by
      refine aV lI mixed _ (aLs l.length k j (cyc l k) (cyc l (k + 1)) (aB l) _ _) ?_
      simp only [true_and,and_true,aJ (show k < 2 ^ 62 by omega)]
      refine ifD (fun hlt=>by omega) (fun _=>ih fun i hi=>?_)
      rcases lt_or_ge i k with h' | h'
      ·exact hall i h'
      ·rw [show i = k by omega]
       rintro (b1 | b2 | ⟨t,t1,t2,t3⟩)
       ·exact g1 b1
       ·exact g2 b2
       ·exact hc t (by omega) t1 t2 t3
     induction r with
     | zero=>exact fun j hj hkj hc=>out j (by omega) hkj (by omega) hc
     | succ r ihr =>
      intro j hj hkj hc
      by_cases hjl : j < l.length
      ·refine aV lI mixed _ (aLs l.length k j (cyc l k) (cyc l (k + 1)) (aB l) _ _) ?_
       have hj0 : ((j : Nat) : Int).toNat = j:=toNat_natCast j
       have hj1 : (((j + 1) % l.length : Nat) : Int).toNat = (j + 1) % l.length:=toNat_natCast _
       have hmj:=Nat.mod_lt (j + 1) h0
       obtain ⟨p0,p1⟩:=cK hjl
       obtain ⟨q0,q1⟩:=dV h0 (j + 1)
       simp only [true_and,and_true,hj0,tmN,hj1,p0,p1,q0,q1,aQ,aJ (show j < 2 ^ 62 by omega)]
       have step : ¬ nJ l k j -> OkP 206 [aR l] 17 Post (stV [(0,some (aR l)),(3,some (vi l.length)),(6,some (vi k)),(7,some (pt 0)),(8,some (pt 1)),(10,some (vi ((j + 1 : Nat) : Int)))] [(0,some (.cells [.int .i64 (cyc l k).x,.int .i64 (cyc l k).y] true)),(1,some (.cells [.int .i64 (cyc l (k + 1)).x,.int .i64 (cyc l (k + 1)).y] true))] 2):=fun hn=>ihr (j + 1) (by omega) (by omega) fun t t1 t2 t3=>by
        rcases lt_or_ge t j with h' | h'
        ·exact hc t h' t2 t3
        ·rw [show t = j by omega]; exact hn
       refine ifD (fun _=>⟨fun h=>by omega,ifN (fun hne=>⟨⟨by omega,by omega⟩,fun h=>by omega,⟨by omega,by omega⟩,cyc l k,cyc l (k + 1),cyc l j,cyc l (j + 1),rfl,n0,n1,bR hn h0 j,bR hn h0 (j + 1),ifD (fun hm=>bad (.inr (.inr ⟨j,hjl,hkj,fun e=>hne (by rw [e]),hm⟩))) (fun hm=>step fun hcl=>hm hcl.2)⟩) (fun he=>step fun hcl=>hcl.1 (by omega))⟩) (fun h'=>by omega)
      ·exact out j (by omega) hkj (by omega) hc
    exact key (l.length - k) (k + 2) (by omega) (by omega) fun t t1 _ t3=>by omega
   refine aV lI mixed _ (aOa l.length k (aB l) _ _) ?_
   have hk : ((k : Nat) : Int).toNat = k:=toNat_natCast k
   have hk1 : (((k + 1) % l.length : Nat) : Int).toNat = (k + 1) % l.length:=toNat_natCast _
   have hk2 : (((k + 2) % l.length : Nat) : Int).toNat = (k + 2) % l.length:=toNat_natCast _
   have w2 : wrap .i64 ((k : Int) + 2) = ((k + 2 : Nat) : Int):=wrap2 (by omega)
   have hm1:=Nat.mod_lt (k + 1) h0
   have hm2:=Nat.mod_lt (k + 2) h0
   obtain ⟨c0,c1⟩:=cK h1
   obtain ⟨d0,d1⟩:=dV h0 (k + 1)
   obtain ⟨f0,f1⟩:=dV h0 (k + 2)
   simp only [true_and,and_true,hk,tmN,aJ (show k < 2 ^ 62 by omega),w2,hk1,hk2,c0,c1,d0,d1,f0,f1,aQ]
   refine ifD (fun _=>⟨⟨by omega,by omega⟩,fun h=>by omega,⟨by omega,by omega⟩,fun h=>by omega,⟨by omega,by omega⟩,by decide,by decide,by decide,cyc l k,cyc l (k + 1),cyc l (k + 2),rfl,n0,n1,n2,ifD (fun g=>bad (.inl g)) (fun g1=>⟨cyc l (k + 2),cyc l k,cyc l (k + 1),rfl,n2,n0,n1,ifD (fun g=>bad (.inr (.inl g))) (fun g2=>inner g1 g2)⟩)⟩) (fun h'=>by omega)
 -- the first loop: no corner twice
 refine cS (n:=l.length) (p:=fun k=>(∀ i,i < k -> ∀ j,j < i -> cor l i ≠ cor l j) -> OkP 206 [aR l] 3 Post (stV [(0,some (aR l)),(3,some (vi l.length)),(4,some (vi k))] [] 0)) (fun hall=>?_) (fun k h1 ih hall=>?_) (fun i hi=>by omega)
 ·refine aV lI mixed _ (aN5 l.length l.length (aB l) _ _) ?_
  simp only [true_and]
  exact ifD (fun hlt=>by omega) (fun _=>second hall)
 ·refine aV lI mixed _ (aN5 l.length k (aB l) _ _) ?_
  simp only [true_and]
  refine ifD (fun _=>?_) (fun h'=>by omega)
  refine cS (n:=k) (p:=fun j=>(∀ t,t < j -> cor l k ≠ cor l t) -> OkP 206 [aR l] 6 Post (stV [(0,some (aR l)),(3,some (vi l.length)),(4,some (vi k)),(5,some (vi j))] [] 0)) (fun hin=>?_) (fun j j1 jh hin=>?_) (fun i hi=>by omega)
  ·refine aV lI mixed _ (aLX l.length k k (aB l) _ _) ?_
   simp only [true_and,aJ (show k < 2 ^ 62 by omega)]
   refine ifD (fun hlt=>by omega) (fun _=>ih fun i hi j hj=>?_)
   rcases lt_or_ge i k with h' | h'
   ·exact hall i h' j hj
   ·have : i = k:=by omega
    subst this
    exact hin j hj
  ·refine aV lI mixed _ (aLX l.length k j (aB l) _ _) ?_
   have hk : ((k : Nat) : Int).toNat = k:=toNat_natCast k
   have hj : ((j : Nat) : Int).toNat = j:=toNat_natCast j
   obtain ⟨c0,c1⟩:=cK h1
   obtain ⟨d0,d1⟩:=cK (l:=l) (k:=j) (by omega)
   simp only [true_and,and_true,hk,hj,c0,c1,d0,d1,aQ,aRA,aJ (show j < 2 ^ 62 by omega)]
   refine ifD (fun _=>⟨⟨by omega,by omega⟩,⟨by omega,by omega⟩,ifD (fun he=>no fun hp=>hp.1 k h1 j j1 ?_) (fun he=>jh fun t ht=>?_)⟩) (fun h'=>by omega)
   ·rwa [gN h1,gN (by omega)] at he
   ·rcases lt_or_ge t j with h' | h'
    ·exact hin t h'
    ·rw [gN h1,gN (by omega)] at he
     rw [show t = j by omega]; exact he
theorem aAR : aZ Tryz.prog ⟨130,qM⟩:=by
 rintro args Post ⟨l,rfl,hs,h⟩
 refine aN (aM (by
  intro e he
  simp only [mem_cons,not_mem_nil,or_false] at he
  rcases he with rfl | rfl
  ·exact aML
  ·exact aPv) aD) mixed (by kernel_rfl) (by kernel_rfl) _ (aQ5 l.length (aB l) _ _) ?_
 simp only [true_and]
 rw [dU] at h
 unfold eM at h
 refine ifD (fun h1=>?_) (fun h1=>?_)
 ·rwa [if_pos (by omega)] at h
 rw [if_neg (by omega)] at h
 refine ifD (fun h2=>?_) (fun h2=>?_)
 ·rwa [if_pos (by omega)] at h
 rw [if_neg (by omega)] at h
 refine ⟨l,rfl,hs,ifD (fun h3=>?_) (fun h3=>?_)⟩
 ·rw [if_neg (fun ⟨p,hp,hf⟩=>h3 p hp hf)] at h
  refine ⟨l,rfl,by omega,fun p hp=>aAW.2 (h3 p hp),ifD (fun h4=>?_) (fun h4=>?_)⟩
  ·rwa [if_neg (fun h=>h h4)] at h
  ·rwa [if_pos h4] at h
 ·rwa [if_pos (by
   refine Decidable.by_contra fun hn=>h3 fun p hp hf=>hn ⟨p,hp,hf⟩)] at h
theorem nQ : aW Tryz.prog aFu:=aM (by
 intro e he
 simp only [mem_cons,not_mem_nil,or_false] at he
 subst he
 exact aAR) aD
theorem aJz {l : List Pt} (hn : ∀ p ∈ l,Nr p) (h0 : 0 < l.length) {k : Nat} (hk : k < 32) : wrap .i64 (wrap .i64 (bM (eJ l) k + wrap .i64 ((cyc l k).x * (cyc l (k + 1)).y)) - wrap .i64 ((cyc l k).y * (cyc l (k + 1)).x)) = bM (eJ l) (k + 1):=by
 have h1:=(bR hn h0 k).h; have h2:=(bR hn h0 (k + 1)).h
 have m1:=fW (a:=(cyc l k).x) (b:=(cyc l (k + 1)).y) (A:=32768) (B:=32768) (by omega) (by omega)
 have m2:=fW (a:=(cyc l k).y) (b:=(cyc l (k + 1)).x) (A:=32768) (B:=32768) (by omega) (by omega)
 have s:=kL (f:=eJ l) (M:=2147483648) (gZ hn h0) k
 rw [bA (n:=(cyc l k).x * (cyc l (k + 1)).y) (by omega) (by omega),bA (n:=(cyc l k).y * (cyc l (k + 1)).x) (by omega) (by omega),bA (n:=bM (eJ l) k + (cyc l k).x * (cyc l (k + 1)).y) (by omega) (by omega),bA (by omega) (by omega)]
 show _ = bM (eJ l) k + ((cyc l k).x * (cyc l (k + 1)).y - (cyc l (k + 1)).x * (cyc l k).y)
 rw [Int.mul_comm (cyc l (k + 1)).x]
 omega
theorem aFX : aZ Tryz.prog ⟨131,xQ⟩:=by
 rintro args Post ⟨l,rfl,hs,h⟩
 refine aN nQ mixed (by kernel_rfl) (by kernel_rfl) _ (aQ8 l.length (aB l) _ _) ?_
 simp only [true_and]
 unfold cE at h
 refine ⟨l,rfl,hs,ifN (fun h1=>?_) (fun h1=>?_)⟩
 ·rwa [if_neg h1] at h
 rw [if_pos h1] at h
 obtain ⟨g1,g2,hn⟩:=cV h1
 refine cS (n:=l.length) (p:=fun k=>OkP 131 [aR l] 5 Post (stV [(0,some (aR l)),(3,some (vi (bM (eJ l) k))),(4,some (vi k))] [] 0)) ?_ (fun k h1 ih=>?_)
 ·refine aV nQ mixed _ (aIo l.length l.length (bM (eJ l) l.length) (aB l) _ _) ?_
  simp only [true_and]
  exact ifD (fun hlt=>by omega) (fun _=>h)
 ·refine aV nQ mixed _ (aIo l.length k (bM (eJ l) k) (aB l) _ _) ?_
  have h0 : 0 < l.length:=by omega
  have hk : ((k : Nat) : Int).toNat = k:=toNat_natCast k
  have hk1 : (((k + 1) % l.length : Nat) : Int).toNat = (k + 1) % l.length:=toNat_natCast _
  have hm:=Nat.mod_lt (k + 1) h0
  obtain ⟨c0,c1⟩:=cK h1
  obtain ⟨d0,d1⟩:=dV h0 (k + 1)
  simp only [true_and,and_true,hk,tmN,hk1,c0,c1,d0,d1,aQ,aJ (show k < 2 ^ 62 by omega),aJz hn h0 (show k < 32 by omega)]
  exact ifD (fun _=>⟨⟨by omega,by omega⟩,fun h=>by omega,⟨by omega,by omega⟩,by decide,by decide,ih⟩) (fun h'=>by omega)
theorem aG9 {a b : Pt} (ha : Nr a) (hb : Nr b) : wrap .i64 (wrap .i64 (a.x * b.y) - wrap .i64 (a.y * b.x)) = a.x * b.y - b.x * a.y:=by
 rw [Int.mul_comm a.y b.x]
 exact sH ha hb
theorem aN8 : aZ Tryz.prog ⟨143,aDH⟩:=by
 rintro args Post ⟨l,rfl,hs,h⟩
 refine aN nQ mixed (by kernel_rfl) (by kernel_rfl) _ (aQc l.length (aB l) _ _) ?_
 simp only [true_and]
 unfold lB lD at h
 refine ⟨l,rfl,hs,ifN (fun h1=>?_) (fun h1=>?_)⟩
 ·rwa [if_neg h1,if_neg h1] at h
 rw [if_pos h1,if_pos h1] at h
 obtain ⟨g1,g2,hn⟩:=cV h1
 refine cS (n:=l.length) (p:=fun k=>OkP 143 [aR l] 5 Post (stV [(0,some (aR l)),(4,some (vi (bM (mO l) k))),(5,some (vi (bM (mN l) k))),(6,some (vi k))] [] 0)) ?_ (fun k h1 ih=>?_)
 ·refine aV nQ mixed _ (aIb l.length l.length (bM (mO l) l.length) (bM (mN l) l.length) (aB l) _ _) ?_
  simp only [true_and]
  exact ifD (fun hlt=>by omega) (fun _=>h)
 ·refine aV nQ mixed _ (aIb l.length k (bM (mO l) k) (bM (mN l) k) (aB l) _ _) ?_
  simp only [true_and]
  have h0 : 0 < l.length:=by omega
  have hk : ((k : Nat) : Int).toNat = k:=toNat_natCast k
  have hk1 : (((k + 1) % l.length : Nat) : Int).toNat = (k + 1) % l.length:=toNat_natCast _
  have hm:=Nat.mod_lt (k + 1) h0
  obtain ⟨c0,c1⟩:=cK h1
  obtain ⟨d0,d1⟩:=dV h0 (k + 1)
  have n0:=bR hn h0 k
  have n1:=bR hn h0 (k + 1)
  have e1:=aG9 n0 n1
  have e2 : (cyc l k).x * (cyc l (k + 1)).y - (cyc l (k + 1)).x * (cyc l k).y = eJ l k:=rfl
  rw [e2] at e1
  have q0:=n0.h; have q1:=n1.h
  have e3:=vT (a:=(cyc l k).x) (b:=(cyc l (k + 1)).x) (by omega) (by omega) (gZ hn h0 k)
  have e4:=vT (a:=(cyc l k).y) (b:=(cyc l (k + 1)).y) (by omega) (by omega) (gZ hn h0 k)
  have e5 : ((cyc l k).x + (cyc l (k + 1)).x) * eJ l k = mO l k:=rfl
  have e6 : ((cyc l k).y + (cyc l (k + 1)).y) * eJ l k = mN l k:=rfl
  rw [e5] at e3
  rw [e6] at e4
  simp only [true_and,and_true,hk,tmN,hk1,c0,c1,d0,d1,aQ,aJ (show k < 2 ^ 62 by omega),e1,e3,e4,pV (aE4 hn h0) (by decide) (show k < 32 by omega),pV (aDh hn h0) (by decide) (show k < 32 by omega)]
  exact ifD (fun _=>⟨⟨by omega,by omega⟩,fun h=>by omega,⟨by omega,by omega⟩,by decide,by decide,ih⟩) (fun h'=>by omega)
theorem aAm : aW Tryz.prog aLx:=aM (by
 intro e he
 simp only [mem_cons,not_mem_nil,or_false] at he
 rcases he with rfl | rfl | rfl | rfl
 ·exact aAR
 ·exact aFq
 ·exact aGF
 ·exact aAt) aD
theorem aHn : aZ Tryz.prog ⟨133,qC⟩:=by
 rintro args Post ⟨l,q,rfl,hs,h⟩
 refine aN aAm mixed (by kernel_rfl) (by kernel_rfl) _ (aK9 l.length q (aB l) _ _) ?_
 simp only [true_and]
 rw [kP] at h
 unfold eQ at h
 rw [← dU] at h
 refine ⟨l,rfl,hs,ifN (fun h1=>?_) (fun h1=>⟨q,rfl,ifD (fun h2=>?_) (fun h2=>?_)⟩)⟩
 ·rwa [if_pos (.inl h1)] at h
 case refine_3=>rwa [if_pos (.inr (Decidable.not_not.1 h2))] at h
 rw [if_neg (by rintro (h | h); exact h h1; exact h2 h)] at h
 have nq : Nr q:=aAW.2 h2
 obtain ⟨g1,g2,hn⟩:=cV h1
 refine cS (n:=l.length) (p:=fun k=>(∀ i,i < k -> ¬ kV l q i) -> OkP 133 [aR l,ptV q] 5 Post (stV [(0,some (aR l)),(3,some (pt 0)),(5,some (.bool (eP (eS l q) k))),(6,some (vi k))] [(0,some (.cells [.int .i64 q.x,.int .i64 q.y] true))] 1)) (fun hall=>?_) (fun k h1 ih hall=>?_) (fun i hi=>by omega)
 ·refine aV aAm mixed _ (aBW l.length l.length q (eP (eS l q) l.length) (aB l) _ _) ?_
  rw [if_neg (by rintro ⟨i,hi,ho⟩; exact hall i hi ho)] at h
  simp only [true_and]
  refine ifD (fun hlt=>by omega) (fun _=>aE (fun hb=>?_) (fun hb=>?_))
  ·rwa [hb,if_pos rfl] at h
  ·rwa [hb,if_neg (by decide)] at h
 ·refine aV aAm mixed _ (aBW l.length k q (eP (eS l q) k) (aB l) _ _) ?_
  have h0 : 0 < l.length:=by omega
  have hk : ((k : Nat) : Int).toNat = k:=toNat_natCast k
  have hk1 : (((k + 1) % l.length : Nat) : Int).toNat = (k + 1) % l.length:=toNat_natCast _
  have hm:=Nat.mod_lt (k + 1) h0
  obtain ⟨c0,c1⟩:=cK h1
  obtain ⟨d0,d1⟩:=dV h0 (k + 1)
  have n0:=bR hn h0 k
  have n1:=bR hn h0 (k + 1)
  simp only [true_and,and_true,hk,tmN,hk1,c0,c1,d0,d1,aQ,aJ (show k < 2 ^ 62 by omega)]
  have e : eP (eS l q) (k + 1) = if eS l q k then !eP (eS l q) k else eP (eS l q) k:=rfl
  refine ifD (fun _=>⟨⟨by omega,by omega⟩,fun h=>by omega,⟨by omega,by omega⟩,by decide,by decide,q,cyc l k,cyc l (k + 1),rfl,nq,n0,n1,ifD (fun ho=>?_) (fun ho=>?_)⟩) (fun h'=>by omega)
  ·rwa [if_pos ⟨k,h1,ho⟩] at h
  have ih:=ih fun i hi=>by
   rcases lt_or_ge i k with h' | h'
   ·exact hall i h'
   ·rw [show i = k by omega]; exact ho
  rw [e] at ih
  have stay : ¬ eS l q k -> OkP 133 [aR l,ptV q] 5 Post (stV [(0,some (aR l)),(3,some (pt 0)),(5,some (.bool (eP (eS l q) k))),(6,some (vi ((k + 1 : Nat) : Int)))] [(0,some (.cells [.int .i64 q.x,.int .i64 q.y] true))] 1):=fun hh=>by
   rwa [if_neg hh] at ih
  have turn : ∀ b : Bool,eS l q k -> b = !eP (eS l q) k -> OkP 133 [aR l,ptV q] 5 Post (stV [(0,some (aR l)),(3,some (pt 0)),(5,some (.bool b)),(6,some (vi ((k + 1 : Nat) : Int)))] [(0,some (.cells [.int .i64 q.x,.int .i64 q.y] true))] 1):=fun b hh hb=>by
   rw [if_pos hh] at ih
   rw [hb]
   exact ih
  repeat' (first
   | refine ifD (fun _=>?_) (fun _=>?_)
   | refine ⟨cyc l k,cyc l (k + 1),q,rfl,n0,n1,nq,?_⟩
   | exact stay (by unfold eS; omega)
   | exact aE (fun hb=>turn _ (by unfold eS; omega) (by rw [hb]; rfl)) (fun hb=>turn _ (by unfold eS; omega) (by rw [hb]; rfl)))
end Go.Proofs.YtngginofamlkkaaGreatDoor
