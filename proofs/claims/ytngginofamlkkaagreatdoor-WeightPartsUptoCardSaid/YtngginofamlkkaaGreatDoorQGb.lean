/-
  Put together out of several texts, each in its own namespace's block. Conditions: as each theorem states them.
-/
import Derived.Test.YtngginofamlkkaaGreatDoorQSgb
namespace Go.Proofs.YtngginofamlkkaaGreatDoor.PlaneG
structure I2 where
 x : Int
 y : Int
 deriving DecidableEq
def cri (a b c : I2) : Int := (b.x - a.x) * (c.y - a.y) - (b.y - a.y) * (c.x - a.x)
def dti (a b c : I2) : Int := (a.x - b.x) * (c.x - b.x) + (a.y - b.y) * (c.y - b.y)
def onI (a b q : I2) : Prop := cri a b q = 0 ∧ min a.x b.x ≤ q.x ∧ q.x ≤ max a.x b.x ∧ min a.y b.y ≤ q.y ∧ q.y ≤ max a.y b.y
def opp (p q : Int) : Prop := (p < 0 ∧ 0 < q) ∨ (0 < p ∧ q < 0)
def meetI (a b c d : I2) : Prop := onI a b c ∨ onI a b d ∨ onI c d a ∨ onI c d b ∨ (opp (cri a b c) (cri a b d) ∧ opp (cri c d a) (cri c d b))
theorem sq_nn (z : Int) : 0 ≤ z * z := by
 rcases Int.le_total 0 z with h | h
 ·exact Int.mul_nonneg h h
 ·exact Int.mul_nonneg_of_nonpos_of_nonpos h h
theorem btw0 {a b c d : Int} (hc : a * d = b * c) (hd : a * c + b * d ≤ 0) : a * c ≤ 0 ∧ b * d ≤ 0 := by
 have sq : (a * c) * (b * d) = (a * d) * (a * d) := by grind
 have nn := sq_nn (a * d)
 constructor
 ·rcases Int.lt_or_le 0 (a * c) with h | h
  ·have := Int.mul_neg_of_pos_of_neg h (show b * d < 0 by omega)
   omega
  ·exact h
 ·rcases Int.lt_or_le 0 (b * d) with h | h
  ·have := Int.mul_neg_of_pos_of_neg h (show a * c < 0 by omega)
   have e : (b * d) * (a * c) = (a * c) * (b * d) := Int.mul_comm _ _
   omega
  ·exact h
theorem le0_two {a b : Int} (h : a * b ≤ 0) : (a ≤ 0 ∧ 0 ≤ b) ∨ (b ≤ 0 ∧ 0 ≤ a) := by
 rcases Int.lt_or_le 0 a with h1 | h1
 ·rcases Int.lt_or_le 0 b with h2 | h2
  ·have := Int.mul_pos h1 h2
   omega
  ·exact .inr ⟨h2, by omega⟩
 ·rcases Int.lt_or_le b 0 with h2 | h2
  ·rcases Int.lt_or_le a 0 with h3 | h3
   ·have := Int.mul_pos_of_neg_of_neg h3 h2
    omega
   ·exact .inr ⟨by omega, h3⟩
  ·exact .inl ⟨h1, h2⟩
theorem cri_swap (a b c : I2) : cri a b c = - cri b a c := by unfold cri; grind
theorem on_swap {a b q : I2} (h : onI a b q) : onI b a q := by
 unfold onI at *
 have := cri_swap a b q
 omega
theorem out_dot {a b c : I2} (h : cri a b c = 0) (hn : ¬ onI a b c) : 0 < dti a c b := by
 rcases Int.lt_or_le 0 (dti a c b) with h0 | h0
 ·exact h0
 exfalso
 have e : (a.x - c.x) * (b.y - c.y) = (a.y - c.y) * (b.x - c.x) := by
  unfold cri at h
  grind
 obtain ⟨h1, h2⟩ := btw0 e h0
 apply hn
 refine ⟨h, ?_⟩
 rcases le0_two h1 with ⟨x1, x2⟩ | ⟨x1, x2⟩ <;> rcases le0_two h2 with ⟨y1, y2⟩ | ⟨y1, y2⟩ <;> omega
theorem ratio_sign {r s k m : Int} (hk : 0 < k) (hm : 0 < m) (e : r * k = s * m) : (r < 0 ↔ s < 0) ∧ (0 < r ↔ 0 < s) := by
 constructor
 ·constructor
  ·intro h
   have h1 := Int.mul_neg_of_neg_of_pos h hk
   rcases Int.lt_or_le s 0 with h2 | h2
   ·exact h2
   ·have := Int.mul_nonneg h2 (show 0 ≤ m by omega)
    omega
  ·intro h
   have h1 := Int.mul_neg_of_neg_of_pos h hm
   rcases Int.lt_or_le r 0 with h2 | h2
   ·exact h2
   ·have := Int.mul_nonneg h2 (show 0 ≤ k by omega)
    omega
 ·constructor
  ·intro h
   have h1 := Int.mul_pos h hk
   rcases Int.lt_or_le 0 s with h2 | h2
   ·exact h2
   ·have := Int.mul_nonpos_of_nonpos_of_nonneg h2 (show 0 ≤ m by omega)
    omega
  ·intro h
   have h1 := Int.mul_pos h hm
   rcases Int.lt_or_le 0 r with h2 | h2
   ·exact h2
   ·have := Int.mul_nonpos_of_nonpos_of_nonneg h2 (show 0 ≤ k by omega)
    omega
theorem mul_zero_of {e f : Int} (he : e ≠ 0) (h : e * f = 0) : f = 0 := by
 rcases Int.mul_eq_zero.1 h with h | h
 ·exact absurd h he
 ·exact h
theorem I2.ne {a b : I2} (h : a ≠ b) : b.x - a.x ≠ 0 ∨ b.y - a.y ≠ 0 := by
 by_cases h1 : b.x - a.x = 0
 ·refine .inr fun h2 => h ?_
  cases a; cases b
  simp only [I2.mk.injEq] at *
  omega
 ·exact .inl h1
theorem one_side {a b c d : I2} (h : cri a b c = 0) (hd : cri a b d ≠ 0) (hn : ¬ onI a b c) : (cri c d a < 0 ∧ cri c d b < 0) ∨ (0 < cri c d a ∧ 0 < cri c d b) := by
 have hp := out_dot h hn
 have e : cri c d a * dti a c b = cri c d b * dti a c a := by
  unfold cri dti at *
  grind
 have hm : 0 < dti a c a := by
  have h1 := sq_nn (a.x - c.x)
  have h2 := sq_nn (a.y - c.y)
  rcases Int.lt_or_le 0 (dti a c a) with h3 | h3
  ·exact h3
  ·exfalso
   unfold dti at h3 hp
   have z1 : (a.x - c.x) * (a.x - c.x) = 0 := by omega
   have z2 : (a.y - c.y) * (a.y - c.y) = 0 := by omega
   have z1 : a.x - c.x = 0 := by rcases Int.mul_eq_zero.1 z1 with h | h <;> exact h
   have z2 : a.y - c.y = 0 := by rcases Int.mul_eq_zero.1 z2 with h | h <;> exact h
   rw [z1, z2, Int.zero_mul, Int.zero_mul] at hp
   omega
 have hs : cri a b d = cri c d a - cri c d b := by
  unfold cri at *
  grind
 obtain ⟨g1, g2⟩ := ratio_sign hp hm e
 omega
theorem line_all {a b c d : I2} (hab : a ≠ b) (h1 : cri a b c = 0) (h2 : cri a b d = 0) : cri c d a = 0 ∧ cri c d b = 0 := by
 rcases I2.ne hab with h | h
 ·constructor <;>
   (refine mul_zero_of h ?_; unfold cri at *; grind)
 ·constructor <;>
   (refine mul_zero_of h ?_; unfold cri at *; grind)
def lvl (M : Int) (a : I2) : Int := M * a.y - a.x
theorem scale_btw {e d k K : Int} (hK : 0 < K) (h0 : 0 ≤ k) (h1 : k ≤ K) (eq : e * K = d * k) : min 0 d ≤ e ∧ e ≤ max 0 d := by
 rcases Int.le_total 0 d with hd | hd
 ·have a1 := Int.mul_nonneg hd h0
  have a2 := Int.mul_le_mul_of_nonneg_left h1 hd
  constructor
  ·rcases Int.lt_or_le e 0 with h | h
   ·have := Int.mul_neg_of_neg_of_pos h hK
    omega
   ·omega
  ·rcases Int.lt_or_le d e with h | h
   ·have := Int.mul_lt_mul_of_pos_right h hK
    omega
   ·omega
 ·have a1 := Int.mul_nonpos_of_nonpos_of_nonneg hd h0
  have a2 := Int.mul_le_mul_of_nonpos_left hd h1
  constructor
  ·rcases Int.lt_or_le e d with h | h
   ·have := Int.mul_lt_mul_of_pos_right h hK
    omega
   ·omega
  ·rcases Int.lt_or_le 0 e with h | h
   ·have := Int.mul_pos h hK
    omega
   ·omega
theorem lvl_up {M : Int} {a b c : I2} (h : cri a b c = 0) (hl : lvl M a < lvl M b) (h1 : lvl M a ≤ lvl M c) (h2 : lvl M c ≤ lvl M b) : onI a b c := by
 have e1 : (c.x - a.x) * (lvl M b - lvl M a) = (b.x - a.x) * (lvl M c - lvl M a) := by
  unfold cri at h; unfold lvl; grind
 have e2 : (c.y - a.y) * (lvl M b - lvl M a) = (b.y - a.y) * (lvl M c - lvl M a) := by
  unfold cri at h; unfold lvl; grind
 have b1 := scale_btw (by omega) (by omega) (by omega) e1
 have b2 := scale_btw (by omega) (by omega) (by omega) e2
 refine ⟨h, ?_⟩
 omega
theorem lvl_on {M : Int} {a b c : I2} (h : cri a b c = 0) (hne : lvl M a ≠ lvl M b) (hn : ¬ onI a b c) : (lvl M c < lvl M a ∧ lvl M c < lvl M b) ∨ (lvl M a < lvl M c ∧ lvl M b < lvl M c) := by
 rcases Int.lt_or_gt_of_ne hne with hl | hl
 ·by_cases h1 : lvl M a ≤ lvl M c
  ·by_cases h2 : lvl M c ≤ lvl M b
   ·exact absurd (lvl_up h hl h1 h2) hn
   ·omega
  ·omega
 ·by_cases h1 : lvl M b ≤ lvl M c
  ·by_cases h2 : lvl M c ≤ lvl M a
   ·exact absurd (on_swap (lvl_up (by rw [cri_swap, h]; rfl) hl h1 h2)) hn
   ·omega
  ·omega
def Bd (N : Int) (a : I2) : Prop := -N ≤ a.x ∧ a.x ≤ N
theorem lvl_ne {M N : Int} (hM : 2 * N < M) {a b : I2} (ha : Bd N a) (hb : Bd N b) (h : a ≠ b) : lvl M a ≠ lvl M b := by
 intro e
 apply h
 unfold Bd at *
 unfold lvl at e
 have e2 : M * (b.y - a.y) = b.x - a.x := by grind
 have hN : 0 ≤ N := by omega
 have hy : b.y - a.y = 0 := by
  rcases Int.lt_or_le 0 (b.y - a.y) with h | h
  ·have := Int.mul_le_mul_of_nonneg_left (show 1 ≤ b.y - a.y by omega) (show 0 ≤ M by omega)
   omega
  ·rcases Int.lt_or_le (b.y - a.y) 0 with h | h
   ·have := Int.mul_le_mul_of_nonneg_left (show b.y - a.y ≤ -1 by omega) (show 0 ≤ M by omega)
    omega
   ·omega
 rw [hy, Int.mul_zero] at e2
 cases a; cases b
 simp only [I2.mk.injEq] at *
 omega
def shp (M : Int) (a : I2) : Q2 := ⟨a.x, (lvl M a : Int)⟩
theorem crs_shp (M : Int) (a b c : I2) : crs (shp M a) (shp M b) (shp M c) = ((M * cri a b c : Int) : Rat) := crs_sh M a.x a.y b.x b.y c.x c.y
theorem crs_neg {M : Int} (hM : 0 < M) {a b c : I2} : crs (shp M a) (shp M b) (shp M c) < 0 ↔ cri a b c < 0 := by
 rw [crs_shp]
 have : ((M * cri a b c : Int) : Rat) < ((0 : Int) : Rat) ↔ M * cri a b c < 0 := Rat.intCast_lt_intCast
 rw [show (0 : Rat) = ((0 : Int) : Rat) from rfl, this]
 constructor
 ·intro h
  rcases Int.lt_or_le (cri a b c) 0 with h2 | h2
  ·exact h2
  ·have := Int.mul_nonneg (show 0 ≤ M by omega) h2
   omega
 ·intro h
  exact Int.mul_neg_of_pos_of_neg hM h
theorem crs_pos {M : Int} (hM : 0 < M) {a b c : I2} : 0 < crs (shp M a) (shp M b) (shp M c) ↔ 0 < cri a b c := by
 rw [crs_shp]
 have : ((0 : Int) : Rat) < ((M * cri a b c : Int) : Rat) ↔ 0 < M * cri a b c := Rat.intCast_lt_intCast
 rw [show (0 : Rat) = ((0 : Int) : Rat) from rfl, this]
 constructor
 ·intro h
  rcases Int.lt_or_le 0 (cri a b c) with h2 | h2
  ·exact h2
  ·have := Int.mul_nonpos_of_nonneg_of_nonpos (show 0 ≤ M by omega) h2
   omega
 ·intro h
  exact Int.mul_pos hM h
theorem crs_zero {M : Int} {a b c : I2} (h : cri a b c = 0) : crs (shp M a) (shp M b) (shp M c) = 0 := by
 rw [crs_shp, h, Int.mul_zero]
 rfl
theorem lvl_lt {M : Int} {a b : I2} : (shp M a).h < (shp M b).h ↔ lvl M a < lvl M b := Rat.intCast_lt_intCast
theorem apart_of {M N : Int} (hM : 2 * N < M) {a b c d : I2} (ha : Bd N a) (hb : Bd N b) (hc : Bd N c) (hd : Bd N d) (hab : a ≠ b) (hcd : c ≠ d) (hm : ¬ meetI a b c d) : Apart (shp M a) (shp M b) (shp M c) (shp M d) := by
 have hM0 : 0 < M := by unfold Bd at ha; omega
 unfold meetI at hm
 simp only [not_or] at hm
 obtain ⟨m1, m2, m3, m4, m5⟩ := hm
 unfold Apart
 simp only [crs_neg hM0, crs_pos hM0, lvl_lt]
 by_cases p0 : cri a b c = 0
 ·by_cases q0 : cri a b d = 0
  ·obtain ⟨r0, s0⟩ := line_all hab p0 q0
   have l1 := lvl_ne hM ha hb hab
   have l2 := lvl_ne hM hc hd hcd
   have o1 := lvl_on p0 l1 m1
   have o2 := lvl_on q0 l1 m2
   have o3 := lvl_on r0 l2 m3
   have o4 := lvl_on s0 l2 m4
   refine .inr (.inr (.inr (.inr ⟨crs_zero p0, crs_zero q0, crs_zero r0, crs_zero s0, ?_⟩)))
   omega
  ·rcases one_side p0 q0 m1 with h | h
   ·exact .inr (.inr (.inl h))
   ·exact .inr (.inr (.inr (.inl h)))
 ·by_cases q0 : cri a b d = 0
  ·have := one_side q0 p0 m2
   have s1 := cri_swap c d a
   have s2 := cri_swap c d b
   rcases this with h | h
   ·exact .inr (.inr (.inr (.inl (by omega))))
   ·exact .inr (.inr (.inl (by omega)))
  ·by_cases r0 : cri c d a = 0
   ·by_cases s0 : cri c d b = 0
    ·exact absurd (line_all hcd r0 s0).1 p0
    ·rcases one_side r0 s0 m3 with h | h
     ·exact .inl h
     ·exact .inr (.inl h)
   ·by_cases s0 : cri c d b = 0
    ·have := one_side s0 r0 m4
     have s1 := cri_swap a b c
     have s2 := cri_swap a b d
     rcases this with h | h
     ·exact .inr (.inl (by omega))
     ·exact .inl (by omega)
    ·unfold opp at m5
     rcases Int.lt_or_gt_of_ne p0 with p1 | p1 <;> rcases Int.lt_or_gt_of_ne q0 with q1 | q1 <;> rcases Int.lt_or_gt_of_ne r0 with r1 | r1 <;> rcases Int.lt_or_gt_of_ne s0 with s1 | s1 <;>
      first
       | exact .inl ⟨p1, q1⟩
       | exact .inr (.inl ⟨p1, q1⟩)
       | exact .inr (.inr (.inl ⟨r1, s1⟩))
       | exact .inr (.inr (.inr (.inl ⟨r1, s1⟩)))
       | (exfalso; omega)
structure Simp (n : Nat) (p : Nat → I2) : Prop where
 n3 : 3 ≤ n
 per : ∀ i, p (i + n) = p i
 ne : ∀ i, p i ≠ p (i + 1)
 back : ∀ i, cri (p i) (p (i + 1)) (p (i + 2)) = 0 → dti (p i) (p (i + 1)) (p (i + 2)) ≤ 0
 far : ∀ i j, i + 1 < j → j + 1 < i + n → ¬ meetI (p i) (p (i + 1)) (p j) (p (j + 1))
theorem on_self (a b : I2) : onI a b a := by
 refine ⟨?_, ?_⟩
 ·unfold cri; grind
 ·omega
theorem Simp.dist {n : Nat} {p : Nat → I2} (s : Simp n p) {i j : Nat} (h : i < j) (h2 : j < i + n) : p i ≠ p j := by
 by_cases h3 : j = i + 1
 ·subst h3; exact s.ne i
 by_cases h4 : j + 1 = i + n
 ·have := s.ne j
  rw [h4, s.per] at this
  exact fun e => this e.symm
 ·intro e
  refine s.far i j (by omega) (by omega) (.inl ?_)
  rw [← e]
  exact on_self _ _
theorem dot_up {M : Int} {a b c : I2} (h : cri a b c = 0) (hl : (lvl M a < lvl M b ∧ lvl M c < lvl M b) ∨ (lvl M b < lvl M a ∧ lvl M b < lvl M c)) : 0 < dti a b c := by
 rcases Int.lt_or_le 0 (dti a b c) with h0 | h0
 ·exact h0
 exfalso
 have e : (a.x - b.x) * (c.y - b.y) = (a.y - b.y) * (c.x - b.x) := by
  unfold cri at h
  grind
 obtain ⟨h1, h2⟩ := btw0 e h0
 have h3 : (lvl M a - lvl M b) * (c.x - b.x) = (a.x - b.x) * (lvl M c - lvl M b) := by unfold lvl; grind
 have h4 : (lvl M a - lvl M b) * (c.y - b.y) = (a.y - b.y) * (lvl M c - lvl M b) := by unfold lvl; grind
 have hx : (a.x - b.x) * (c.x - b.x) = 0 := by
  have g : ((a.x - b.x) * (c.x - b.x)) * (lvl M a - lvl M b) = ((a.x - b.x) * (a.x - b.x)) * (lvl M c - lvl M b) := by grind
  have n1 := sq_nn (a.x - b.x)
  rcases Int.lt_or_eq_of_le h1 with h5 | h5
  ·exfalso
   rcases hl with ⟨l1, l2⟩ | ⟨l1, l2⟩
   ·have g1 := Int.mul_pos_of_neg_of_neg h5 (show lvl M a - lvl M b < 0 by omega)
    have g2 := Int.mul_nonpos_of_nonneg_of_nonpos n1 (show lvl M c - lvl M b ≤ 0 by omega)
    omega
   ·have g1 := Int.mul_neg_of_neg_of_pos h5 (show 0 < lvl M a - lvl M b by omega)
    have g2 := Int.mul_nonneg n1 (show 0 ≤ lvl M c - lvl M b by omega)
    omega
  ·exact h5
 have hy : (a.y - b.y) * (c.y - b.y) = 0 := by
  have g : ((a.y - b.y) * (c.y - b.y)) * (lvl M a - lvl M b) = ((a.y - b.y) * (a.y - b.y)) * (lvl M c - lvl M b) := by grind
  have n1 := sq_nn (a.y - b.y)
  rcases Int.lt_or_eq_of_le h2 with h5 | h5
  ·exfalso
   rcases hl with ⟨l1, l2⟩ | ⟨l1, l2⟩
   ·have g1 := Int.mul_pos_of_neg_of_neg h5 (show lvl M a - lvl M b < 0 by omega)
    have g2 := Int.mul_nonpos_of_nonneg_of_nonpos n1 (show lvl M c - lvl M b ≤ 0 by omega)
    omega
   ·have g1 := Int.mul_neg_of_neg_of_pos h5 (show 0 < lvl M a - lvl M b by omega)
    have g2 := Int.mul_nonneg n1 (show 0 ≤ lvl M c - lvl M b by omega)
    omega
  ·exact h5
 have q1 : (lvl M c - lvl M b) * ((a.x - b.x) * (a.x - b.x)) = 0 := by grind
 have q2 : (lvl M c - lvl M b) * ((a.y - b.y) * (a.y - b.y)) = 0 := by grind
 have q1 := mul_zero_of (by omega) q1
 have q2 := mul_zero_of (by omega) q2
 have q1 : a.x - b.x = 0 := by rcases Int.mul_eq_zero.1 q1 with h | h <;> exact h
 have q2 : a.y - b.y = 0 := by rcases Int.mul_eq_zero.1 q2 with h | h <;> exact h
 have : lvl M a = lvl M b := by
  unfold lvl
  rw [show a.y = b.y by omega, show a.x = b.x by omega]
 omega
theorem Simp.contour {n : Nat} {p : Nat → I2} (s : Simp n p) {M N : Int} (hM : 2 * N < M) (hb : ∀ i, Bd N (p i)) : Contour n fun i => shp M (p i) := by
 have hM0 : 0 < M := by have := hb 0; unfold Bd at this; omega
 refine ⟨s.n3, fun i => by rw [s.per], fun i j h1 h2 e => ?_, fun i j h1 h2 => ?_, fun i hp e => ?_⟩
 ·exact lvl_ne hM (hb i) (hb j) (s.dist h1 h2) (Rat.intCast_inj.1 e)
 ·exact apart_of hM (hb _) (hb _) (hb _) (hb _) (s.ne i) (s.ne j) (s.far i j h1 h2)
 ·have hz : cri (p i) (p (i + 1)) (p (i + 2)) = 0 := by
   have e2 : crs (shp M (p i)) (shp M (p (i + 1))) (shp M (p (i + 2))) = 0 := e
   rw [crs_shp, show (0 : Rat) = ((0 : Int) : Rat) from rfl] at e2
   exact mul_zero_of (by omega) (Rat.intCast_inj.1 e2)
  have h1 := s.back i hz
  have h2 := dot_up (M := M) hz (by simpa only [lvl_lt] using hp)
  omega
def a2 (n : Nat) (p : Nat → I2) : Int := isum n fun j => (p j).x * (p (j + 1)).y - (p (j + 1)).x * (p j).y
theorem isum_add (n : Nat) (f g : Nat → Int) : isum n (fun j => f j + g j) = isum n f + isum n g := by
 induction n with
 | zero => rfl
 | succ n ih => show isum n _ + (f n + g n) = isum n f + f n + (isum n g + g n); rw [ih]; omega
theorem isum_mul (n : Nat) (k : Int) (f : Nat → Int) : isum n (fun j => k * f j) = k * isum n f := by
 induction n with
 | zero => show (0 : Int) = k * 0; omega
 | succ n ih => show isum n _ + k * f n = k * (isum n f + f n); rw [ih, Int.mul_add]
theorem rsum_cast (n : Nat) (f : Nat → Int) : rsum n (fun j => ((f j : Int) : Rat)) = ((isum n f : Int) : Rat) := by
 induction n with
 | zero => rfl
 | succ n ih => show rsum n _ + _ = ((isum n f + f n : Int) : Rat); rw [ih, Rat.intCast_add]
theorem area_a2 {n : Nat} {p : Nat → I2} (per : ∀ i, p (i + n) = p i) (M : Int) : area2 n (fun i => shp M (p i)) = ((M * a2 n p : Int) : Rat) := by
 have e : area2 n (fun i => shp M (p i)) = ((isum n (fun j => ((p j).x + (p (j + 1)).x) * (lvl M (p (j + 1)) - lvl M (p j))) : Int) : Rat) := by
  rw [← rsum_cast]
  unfold area2
  refine rsum_congr fun j _ => ?_
  simp only [shp, Rat.intCast_mul, Rat.intCast_add, Rat.intCast_sub]
 rw [e]
 congr 1
 have e1 : ∀ j, ((p j).x + (p (j + 1)).x) * (lvl M (p (j + 1)) - lvl M (p j)) = M * ((p j).x * (p (j + 1)).y - (p (j + 1)).x * (p j).y) + ((fun i => M * ((p i).x * (p i).y) - (p i).x * (p i).x) (j + 1) - (fun i => M * ((p i).x * (p i).y) - (p i).x * (p i).x) j) := fun j => by
  unfold lvl
  grind
 have tel := isum_tel n fun i => M * ((p i).x * (p i).y) - (p i).x * (p i).x
 have h0 := per 0
 rw [Nat.zero_add] at h0
 simp only [h0, Int.sub_self] at tel
 rw [isum_congr fun j _ => e1 j, isum_add]
 simp only
 rw [tel, isum_mul]
 unfold a2
 omega
theorem Simp.area {n : Nat} {p : Nat → I2} (s : Simp n p) {N : Int} (hb : ∀ i, -N ≤ (p i).x ∧ (p i).x ≤ N ∧ -N ≤ (p i).y ∧ (p i).y ≤ N) : a2 n p ≠ 0 := by
 have hN : 0 ≤ N := by have := hb 0; omega
 have hl : ∀ i, -(2 * N + 1) * N - N ≤ lvl (2 * N + 1) (p i) ∧ lvl (2 * N + 1) (p i) ≤ (2 * N + 1) * N + N := fun i => by
  obtain ⟨h1, h2, h3, h4⟩ := hb i
  have a1 := Int.mul_le_mul_of_nonneg_left h3 (show 0 ≤ 2 * N + 1 by omega)
  have a2 := Int.mul_le_mul_of_nonneg_left h4 (show 0 ≤ 2 * N + 1 by omega)
  have a3 : (2 * N + 1) * -N = -(2 * N + 1) * N := by grind
  unfold lvl
  omega
 have c := s.contour (M := 2 * N + 1) (N := N) (by omega) fun i => ⟨(hb i).1, (hb i).2.1⟩
 have h := area_ne c (H := fun j => lvl (2 * N + 1) (p j)) (fun _ => rfl) (lo := -(2 * N + 1) * N - N) (K := (2 * ((2 * N + 1) * N + N)).toNat) (fun j => (hl j).1) (fun j => by
  have := hl j
  have e : -(2 * N + 1) * N = -((2 * N + 1) * N) := Int.neg_mul _ _
  have nn := Int.mul_nonneg (show 0 ≤ 2 * N + 1 by omega) hN
  generalize (2 * N + 1) * N = z at *
  omega)
 rw [area_a2 s.per] at h
 intro e
 rw [e, Int.mul_zero] at h
 exact h rfl
end Go.Proofs.YtngginofamlkkaaGreatDoor.PlaneG

namespace Go.Proofs.YtngginofamlkkaaGreatDoor.PlaneG
def ApI (u v a b : I2) : Prop := (cri u v a < 0 ∧ cri u v b < 0) ∨ (0 < cri u v a ∧ 0 < cri u v b) ∨ (cri a b u < 0 ∧ cri a b v < 0) ∨ (0 < cri a b u ∧ 0 < cri a b v) ∨ (cri u v a = 0 ∧ cri u v b = 0 ∧ cri a b u = 0 ∧ cri a b v = 0)
theorem api_of {a b c d : I2} (hab : a ≠ b) (hcd : c ≠ d) (hm : ¬ meetI a b c d) : ApI a b c d := by
 unfold meetI at hm
 simp only [not_or] at hm
 obtain ⟨m1, m2, m3, m4, m5⟩ := hm
 unfold ApI
 by_cases p0 : cri a b c = 0
 ·by_cases q0 : cri a b d = 0
  ·obtain ⟨r0, s0⟩ := line_all hab p0 q0
   exact .inr (.inr (.inr (.inr ⟨p0, q0, r0, s0⟩)))
  ·rcases one_side p0 q0 m1 with h | h
   ·exact .inr (.inr (.inl h))
   ·exact .inr (.inr (.inr (.inl h)))
 ·by_cases q0 : cri a b d = 0
  ·have := one_side q0 p0 m2
   have s1 := cri_swap c d a
   have s2 := cri_swap c d b
   rcases this with h | h
   ·exact .inr (.inr (.inr (.inl (by omega))))
   ·exact .inr (.inr (.inl (by omega)))
  ·by_cases r0 : cri c d a = 0
   ·by_cases s0 : cri c d b = 0
    ·exact absurd (line_all hcd r0 s0).1 p0
    ·rcases one_side r0 s0 m3 with h | h
     ·exact .inl h
     ·exact .inr (.inl h)
   ·by_cases s0 : cri c d b = 0
    ·have := one_side s0 r0 m4
     have s1 := cri_swap a b c
     have s2 := cri_swap a b d
     rcases this with h | h
     ·exact .inr (.inl (by omega))
     ·exact .inl (by omega)
    ·unfold opp at m5
     rcases Int.lt_or_gt_of_ne p0 with p1 | p1 <;> rcases Int.lt_or_gt_of_ne q0 with q1 | q1 <;> rcases Int.lt_or_gt_of_ne r0 with r1 | r1 <;> rcases Int.lt_or_gt_of_ne s0 with s1 | s1 <;>
      first
       | exact .inl ⟨p1, q1⟩
       | exact .inr (.inl ⟨p1, q1⟩)
       | exact .inr (.inr (.inl ⟨r1, s1⟩))
       | exact .inr (.inr (.inr (.inl ⟨r1, s1⟩)))
       | (exfalso; omega)
def wtI (a b q : I2) : Int := if a.y ≤ q.y ∧ q.y < b.y ∧ 0 < cri a b q then 1 else if b.y ≤ q.y ∧ q.y < a.y ∧ cri a b q < 0 then -1 else 0
def inI (u v c : I2) : Int := if u.y < c.y ∧ c.y ≤ v.y ∧ cri u v c < 0 then 1 else 0
theorem linI_pos {k c x y m n : Int} (hk : 0 < k) (hm : 0 ≤ m) (hn : 0 ≤ n) (hs : 0 < m + n) (e : k * c = -(x * m + y * n)) (hx : x < 0) (hy : y < 0) : 0 < c := by
 rcases Int.lt_or_le 0 c with h | h
 ·exact h
 exfalso
 have h1 := Int.mul_nonpos_of_nonneg_of_nonpos (show 0 ≤ k by omega) h
 have h2 := Int.mul_nonpos_of_nonpos_of_nonneg (show x ≤ 0 by omega) hm
 have h3 := Int.mul_nonpos_of_nonpos_of_nonneg (show y ≤ 0 by omega) hn
 rcases Int.lt_or_eq_of_le hm with h4 | h4
 ·have := Int.mul_neg_of_neg_of_pos hx h4
  omega
 ·have := Int.mul_neg_of_neg_of_pos hy (show 0 < n by omega)
  omega
theorem linI_neg {k c x y m n : Int} (hk : 0 < k) (hm : 0 ≤ m) (hn : 0 ≤ n) (hs : 0 < m + n) (e : k * c = -(x * m + y * n)) (hx : 0 < x) (hy : 0 < y) : c < 0 := by
 have := linI_pos (c := -c) (x := -x) (y := -y) hk hm hn hs (by grind) (by omega) (by omega)
 omega
theorem wtI_up {a b q : I2} (h : a.y < b.y) : wtI a b q = if a.y ≤ q.y ∧ q.y < b.y ∧ 0 < cri a b q then 1 else 0 := by
 unfold wtI
 by_cases h1 : a.y ≤ q.y ∧ q.y < b.y ∧ 0 < cri a b q
 ·rw [if_pos h1, if_pos h1]
 ·rw [if_neg h1, if_neg h1, if_neg (by omega)]
theorem wtI_rev (a b q : I2) : wtI b a q = - wtI a b q := by
 have hs := cri_swap a b q
 unfold wtI
 by_cases h1 : a.y ≤ q.y ∧ q.y < b.y ∧ 0 < cri a b q
 ·rw [if_pos h1, if_neg (by omega), if_pos (by omega)]
 ·rw [if_neg h1]
  by_cases h2 : b.y ≤ q.y ∧ q.y < a.y ∧ cri a b q < 0
  ·rw [if_pos (by omega), if_pos h2]; rfl
  ·rw [if_neg (by omega), if_neg (by omega), if_neg h2]; rfl
theorem fourI (a b u v : I2) : (b.y - a.y) * cri u v a = -(cri a b u * (v.y - a.y) + cri a b v * (a.y - u.y)) ∧ (b.y - a.y) * cri u v b = -(cri a b u * (v.y - b.y) + cri a b v * (b.y - u.y)) := by
 unfold cri; constructor <;> grind
theorem dltI_up {u v a b : I2} (huv : u.y < v.y) (hab : a.y < b.y) (h : ApI u v a b) : wtI a b u - wtI a b v = inI u v b - inI u v a := by
 rw [wtI_up hab, wtI_up hab]
 unfold inI
 obtain ⟨e3, e4⟩ := fourI a b u v
 obtain ⟨e1, e2⟩ := fourI u v a b
 have k1 : 0 < b.y - a.y := by omega
 have k2 : 0 < v.y - u.y := by omega
 by_cases c1 : b.y ≤ u.y
 ·rw [if_neg (by omega), if_neg (by omega), if_neg (by omega), if_neg (by omega)]
 by_cases c2 : v.y < a.y
 ·rw [if_neg (by omega), if_neg (by omega), if_neg (by omega), if_neg (by omega)]
 by_cases c3 : a.y ≤ u.y
 ·by_cases c4 : v.y < b.y
  ·rw [if_neg (c := u.y < b.y ∧ b.y ≤ v.y ∧ cri u v b < 0) (by omega), if_neg (c := u.y < a.y ∧ a.y ≤ v.y ∧ cri u v a < 0) (by omega)]
   have : (0 < cri a b u ↔ 0 < cri a b v) := by
    rcases h with ⟨h1, h2⟩ | ⟨h1, h2⟩ | ⟨h1, h2⟩ | ⟨h1, h2⟩ | ⟨h1, h2, h3, h4⟩
    ·have g1 := linI_pos k2 (by omega) (by omega) (by omega) e1 h1 h2
     have g2 := linI_pos k2 (by omega) (by omega) (by omega) e2 h1 h2
     omega
    ·have g1 := linI_neg k2 (by omega) (by omega) (by omega) e1 h1 h2
     have g2 := linI_neg k2 (by omega) (by omega) (by omega) e2 h1 h2
     omega
    ·omega
    ·omega
    ·omega
   by_cases q : 0 < cri a b u
   ·rw [if_pos (by omega), if_pos (by omega)]; rfl
   ·rw [if_neg (by omega), if_neg (by omega)]
  ·rw [if_neg (c := a.y ≤ v.y ∧ v.y < b.y ∧ 0 < cri a b v) (by omega), if_neg (c := u.y < a.y ∧ a.y ≤ v.y ∧ cri u v a < 0) (by omega)]
   have : (0 < cri a b u ↔ cri u v b < 0) := by
    rcases h with ⟨h1, h2⟩ | ⟨h1, h2⟩ | ⟨h1, h2⟩ | ⟨h1, h2⟩ | ⟨h1, h2, h3, h4⟩
    ·have g1 := linI_pos k2 (by omega) (by omega) (by omega) e1 h1 h2
     omega
    ·have g1 := linI_neg k2 (by omega) (by omega) (by omega) e1 h1 h2
     omega
    ·have g1 := linI_pos k1 (by omega) (by omega) (by omega) e4 h1 h2
     omega
    ·have g1 := linI_neg k1 (by omega) (by omega) (by omega) e4 h1 h2
     omega
    ·omega
   by_cases q : 0 < cri a b u
   ·rw [if_pos (by omega), if_pos (by omega)]
   ·rw [if_neg (by omega), if_neg (by omega)]
 ·by_cases c4 : v.y < b.y
  ·rw [if_neg (c := a.y ≤ u.y ∧ u.y < b.y ∧ 0 < cri a b u) (by omega), if_neg (c := u.y < b.y ∧ b.y ≤ v.y ∧ cri u v b < 0) (by omega)]
   have : (0 < cri a b v ↔ cri u v a < 0) := by
    rcases h with ⟨h1, h2⟩ | ⟨h1, h2⟩ | ⟨h1, h2⟩ | ⟨h1, h2⟩ | ⟨h1, h2, h3, h4⟩
    ·have g1 := linI_pos k2 (by omega) (by omega) (by omega) e2 h1 h2
     omega
    ·have g1 := linI_neg k2 (by omega) (by omega) (by omega) e2 h1 h2
     omega
    ·have g1 := linI_pos k1 (by omega) (by omega) (by omega) e3 h1 h2
     omega
    ·have g1 := linI_neg k1 (by omega) (by omega) (by omega) e3 h1 h2
     omega
    ·omega
   by_cases q : 0 < cri a b v
   ·rw [if_pos (by omega), if_pos (by omega)]
   ·rw [if_neg (by omega), if_neg (by omega)]
  ·rw [if_neg (c := a.y ≤ u.y ∧ u.y < b.y ∧ 0 < cri a b u) (by omega), if_neg (c := a.y ≤ v.y ∧ v.y < b.y ∧ 0 < cri a b v) (by omega)]
   have : (cri u v b < 0 ↔ cri u v a < 0) := by
    rcases h with ⟨h1, h2⟩ | ⟨h1, h2⟩ | ⟨h1, h2⟩ | ⟨h1, h2⟩ | ⟨h1, h2, h3, h4⟩
    ·omega
    ·omega
    ·have g1 := linI_pos k1 (by omega) (by omega) (by omega) e3 h1 h2
     have g2 := linI_pos k1 (by omega) (by omega) (by omega) e4 h1 h2
     omega
    ·have g1 := linI_neg k1 (by omega) (by omega) (by omega) e3 h1 h2
     have g2 := linI_neg k1 (by omega) (by omega) (by omega) e4 h1 h2
     omega
    ·omega
   by_cases q : cri u v b < 0
   ·rw [if_pos (c := u.y < b.y ∧ b.y ≤ v.y ∧ cri u v b < 0) (by omega), if_pos (by omega)]; rfl
   ·rw [if_neg (c := u.y < b.y ∧ b.y ≤ v.y ∧ cri u v b < 0) (by omega), if_neg (by omega)]
theorem mul_sign {k m n : Int} (hm : m < 0) (hn : 0 ≤ n) : ¬ ((k * m < 0 ∧ k * n < 0) ∨ (0 < k * m ∧ 0 < k * n)) := by
 rcases Int.lt_or_le k 0 with h | h
 ·have h1 := Int.mul_pos_of_neg_of_neg h hm
  have h2 := Int.mul_nonpos_of_nonpos_of_nonneg (show k ≤ 0 by omega) hn
  omega
 ·have h1 := Int.mul_nonpos_of_nonneg_of_nonpos h (show m ≤ 0 by omega)
  have h2 := Int.mul_nonneg h hn
  omega
theorem mul_sign' {k m n : Int} (hm : m ≤ 0) (hn : 0 < n) : ¬ ((k * m < 0 ∧ k * n < 0) ∨ (0 < k * m ∧ 0 < k * n)) := by
 rcases Int.lt_or_le k 0 with h | h
 ·have h1 := Int.mul_nonneg_of_nonpos_of_nonpos (show k ≤ 0 by omega) hm
  have h2 := Int.mul_neg_of_neg_of_pos h hn
  omega
 ·have h1 := Int.mul_nonpos_of_nonneg_of_nonpos h hm
  have h2 := Int.mul_nonneg h (show 0 ≤ n by omega)
  omega
theorem cri_flat {a b q : I2} (h : a.y = b.y) : cri a b q = (b.x - a.x) * (q.y - a.y) := by
 unfold cri
 rw [h, Int.sub_self, Int.zero_mul, Int.sub_zero]
theorem api_rev {u v a b : I2} (h : ApI u v a b) : ApI u v b a := by
 have h1 := cri_swap a b u
 have h2 := cri_swap a b v
 unfold ApI at *
 omega
theorem api_swap {u v a b : I2} (h : ApI u v a b) : ApI v u a b := by
 have h1 := cri_swap u v a
 have h2 := cri_swap u v b
 unfold ApI at *
 omega
theorem dltI_any {u v a b : I2} (huv : u.y < v.y) (h : ApI u v a b) : wtI a b u - wtI a b v = inI u v b - inI u v a := by
 by_cases h1 : a.y < b.y
 ·exact dltI_up huv h1 h
 by_cases h2 : b.y < a.y
 ·have := dltI_up huv h2 (api_rev h)
  rw [wtI_rev a b, wtI_rev a b] at this
  omega
 have he : a.y = b.y := by omega
 have z : ∀ q, wtI a b q = 0 := fun q => by
  unfold wtI
  rw [if_neg (by omega), if_neg (by omega)]
 rw [z, z]
 unfold inI
 by_cases hl : u.y < a.y ∧ a.y ≤ v.y
 ·have : (cri u v b < 0 ↔ cri u v a < 0) := by
   have f1 := cri_flat (q := u) he
   have f2 := cri_flat (q := v) he
   have := mul_sign (k := b.x - a.x) (m := u.y - a.y) (n := v.y - a.y) (by omega) (by omega)
   rw [← f1, ← f2] at this
   unfold ApI at h
   omega
  by_cases q : cri u v b < 0
  ·rw [if_pos (by omega), if_pos (by omega)]; rfl
  ·rw [if_neg (by omega), if_neg (by omega)]
 ·rw [if_neg (by omega), if_neg (by omega)]
theorem dltI_flat {u v a b : I2} (huv : u.y = v.y) (h : ApI u v a b) : wtI a b u = wtI a b v := by
 have f1 := cri_flat (q := a) huv
 have f2 := cri_flat (q := b) huv
 have key : (a.y ≤ u.y ∧ u.y < b.y) ∨ (b.y ≤ u.y ∧ u.y < a.y) → ((0 < cri a b u ↔ 0 < cri a b v) ∧ (cri a b u < 0 ↔ cri a b v < 0)) := fun hl => by
  have : ¬ ((cri u v a < 0 ∧ cri u v b < 0) ∨ (0 < cri u v a ∧ 0 < cri u v b)) := by
   rw [f1, f2]
   rcases hl with hl | hl
   ·exact mul_sign' (by omega) (by omega)
   ·intro hq
    exact mul_sign' (k := v.x - u.x) (m := b.y - u.y) (n := a.y - u.y) (by omega) (by omega) (by omega)
  unfold ApI at h
  omega
 unfold wtI
 by_cases c1 : a.y ≤ u.y ∧ u.y < b.y
 ·have := key (.inl c1)
  by_cases q : 0 < cri a b u
  ·rw [if_pos (by omega), if_pos (by omega)]
  ·rw [if_neg (by omega), if_neg (by omega), if_neg (by omega), if_neg (by omega)]
 by_cases c2 : b.y ≤ u.y ∧ u.y < a.y
 ·have := key (.inr c2)
  by_cases q : cri a b u < 0
  ·rw [if_neg (by omega), if_pos (by omega), if_neg (by omega), if_pos (by omega)]
  ·rw [if_neg (by omega), if_neg (by omega), if_neg (by omega), if_neg (by omega)]
 ·rw [if_neg (by omega), if_neg (by omega), if_neg (by omega), if_neg (by omega)]
theorem cobound (u v : I2) : ∃ R : I2 → Int, ∀ a b, ApI u v a b → wtI a b u - wtI a b v = R b - R a := by
 by_cases h1 : u.y < v.y
 ·exact ⟨inI u v, fun a b h => dltI_any h1 h⟩
 by_cases h2 : v.y < u.y
 ·refine ⟨fun c => - inI v u c, fun a b h => ?_⟩
  have := dltI_any h2 (api_swap h)
  show _ = - inI v u b - - inI v u a
  omega
 ·exact ⟨fun _ => 0, fun a b h => by rw [dltI_flat (by omega) h, Int.sub_self]; rfl⟩
def windI (n : Nat) (p : Nat → I2) (q : I2) : Int := isum n fun j => wtI (p j) (p (j + 1)) q
theorem windI_eq {n : Nat} {p : Nat → I2} (per : p n = p 0) {u v : I2} (h : ∀ j, j < n → ApI u v (p j) (p (j + 1))) : windI n p u = windI n p v := by
 obtain ⟨R, hR⟩ := cobound u v
 have t := isum_tel n fun j => R (p j)
 have s := isum_sub n (fun j => wtI (p j) (p (j + 1)) u) (fun j => wtI (p j) (p (j + 1)) v)
 have e : isum n (fun j => wtI (p j) (p (j + 1)) u - wtI (p j) (p (j + 1)) v) = isum n fun j => R (p (j + 1)) - R (p j) := isum_congr fun j hj => hR _ _ (h j hj)
 simp only [per] at t
 unfold windI
 omega
def oddI : Nat → (Nat → I2) → I2 → Bool
 | 0, _, _ => false
 | n + 1, p, q => if wtI (p n) (p (n + 1)) q ≠ 0 then !oddI n p q else oddI n p q
theorem wtI_cases (a b q : I2) : wtI a b q = 0 ∨ wtI a b q = 1 ∨ wtI a b q = -1 := by
 unfold wtI
 split
 ·exact .inr (.inl rfl)
 ·split
  ·exact .inr (.inr rfl)
  ·exact .inl rfl
theorem oddI_wind (p : Nat → I2) (q : I2) : ∀ n, (oddI n p q = true ↔ windI n p q % 2 = 1)
 | 0 => by unfold oddI windI isum; simp
 | n + 1 => by
  have ih := oddI_wind p q n
  have e : windI (n + 1) p q = windI n p q + wtI (p n) (p (n + 1)) q := rfl
  have c := wtI_cases (p n) (p (n + 1)) q
  rw [e]
  unfold oddI
  split
  ·cases h : oddI n p q
   ·rw [h] at ih; simp at ih ⊢; omega
   ·rw [h] at ih; simp at ih ⊢; omega
  ·rename_i h0
   rw [ih]
   omega
theorem oddI_eq {n : Nat} {p : Nat → I2} (per : p n = p 0) {u v : I2} (h : ∀ j, j < n → ApI u v (p j) (p (j + 1))) : oddI n p u = oddI n p v := by
 have h1 := oddI_wind p u n
 have h2 := oddI_wind p v n
 rw [windI_eq per h] at h1
 cases hu : oddI n p u <;> cases hv : oddI n p v <;> simp [hu, hv] at h1 h2 <;> first | rfl | omega
end Go.Proofs.YtngginofamlkkaaGreatDoor.PlaneG

noncomputable section
namespace Go.Proofs.YtngginofamlkkaaGreatDoor
open Go Go.RowKit
set_option maxRecDepth 100000
set_option maxHeartbeats 8000000
def crossP (a b c : Pt) : Int := (b.x - a.x) * (c.y - a.y) - (b.y - a.y) * (c.x - a.x)
def dotP (a b c : Pt) : Int := (a.x - b.x) * (c.x - b.x) + (a.y - b.y) * (c.y - b.y)
def onP (a b q : Pt) : Prop := crossP a b q = 0 ∧ min a.x b.x ≤ q.x ∧ q.x ≤ max a.x b.x ∧ min a.y b.y ≤ q.y ∧ q.y ≤ max a.y b.y
instance (a b q : Pt) : Decidable (onP a b q) := by unfold onP; infer_instance
def oppP (p q : Int) : Prop := (p < 0 ∧ 0 < q) ∨ (0 < p ∧ q < 0)
instance (p q : Int) : Decidable (oppP p q) := by unfold oppP; infer_instance
def meetP (a b c d : Pt) : Prop := onP a b c ∨ onP a b d ∨ onP c d a ∨ onP c d b ∨ (oppP (crossP a b c) (crossP a b d) ∧ oppP (crossP c d a) (crossP c d b))
instance (a b c d : Pt) : Decidable (meetP a b c d) := by unfold meetP; infer_instance
def farP (q : Pt) : Prop := q.x < -32768 ∨ 32768 < q.x ∨ q.y < -32768 ∨ 32768 < q.y
instance (q : Pt) : Decidable (farP q) := by unfold farP; infer_instance
def cor (l : List Pt) (k : Nat) : Pt := l.getD k ⟨0, 0⟩
theorem cor_at {l : List Pt} {k : Nat} (h : k < l.length) : cor l k = l[k] := by
 unfold cor
 rw [List.getD_eq_getElem?_getD, List.getElem?_eq_getElem h]
 rfl
def cyc (l : List Pt) (k : Nat) : Pt := cor l (k % l.length)
theorem cyc_lt {l : List Pt} {k : Nat} (h : k < l.length) : cyc l k = cor l k := by unfold cyc; rw [Nat.mod_eq_of_lt h]
theorem cyc_mem {l : List Pt} (h : 0 < l.length) (k : Nat) : cyc l k ∈ l := by
 have hk := Nat.mod_lt k h
 unfold cyc
 rw [cor_at hk]
 exact List.getElem_mem hk
def clashP (l : List Pt) (i k : Nat) : Prop := (k + 1) % l.length ≠ i ∧ meetP (cyc l i) (cyc l (i + 1)) (cyc l k) (cyc l (k + 1))
instance (l : List Pt) (i k : Nat) : Decidable (clashP l i k) := by unfold clashP; infer_instance
def badP (l : List Pt) (i : Nat) : Prop := cyc l i = cyc l (i + 1) ∨ (crossP (cyc l i) (cyc l (i + 1)) (cyc l (i + 2)) = 0 ∧ 0 < dotP (cyc l i) (cyc l (i + 1)) (cyc l (i + 2))) ∨ ∃ k, k < l.length ∧ i + 2 ≤ k ∧ clashP l i k
instance (l : List Pt) (i : Nat) : Decidable (badP l i) := by unfold badP; infer_instance
def simpleP (l : List Pt) : Prop := ∀ i, i < l.length → ¬ badP l i
instance (l : List Pt) : Decidable (simpleP l) := by unfold simpleP; infer_instance
def shareP (l : List Pt) (i : Nat) : Int := (cyc l i).x * (cyc l (i + 1)).y - (cyc l (i + 1)).x * (cyc l i).y
def sumTo (f : Nat → Int) : Nat → Int
 | 0 => 0
 | k + 1 => sumTo f k + f k
def areaP (l : List Pt) : Int := sumTo (shareP l) l.length
def polyCheck (l : List Pt) : Int := if l.length < 3 then 3 else if 32 < l.length then 4 else if ∃ p ∈ l, farP p then 9 else if ¬ simpleP l ∨ areaP l = 0 then 17 else 0
def area2P (l : List Pt) : Int := if polyCheck l = 0 then areaP l else 0
def momX (l : List Pt) (i : Nat) : Int := ((cyc l i).x + (cyc l (i + 1)).x) * shareP l i
def momY (l : List Pt) (i : Nat) : Int := ((cyc l i).y + (cyc l (i + 1)).y) * shareP l i
def mom6X (l : List Pt) : Int := if polyCheck l = 0 then sumTo (momX l) l.length else 0
def mom6Y (l : List Pt) : Int := if polyCheck l = 0 then sumTo (momY l) l.length else 0
def hitP (l : List Pt) (q : Pt) (i : Nat) : Prop := ¬ (q.y < (cyc l i).y ↔ q.y < (cyc l (i + 1)).y) ∧ (0 < crossP (cyc l i) (cyc l (i + 1)) q ↔ (cyc l i).y < (cyc l (i + 1)).y)
instance (l : List Pt) (q : Pt) (i : Nat) : Decidable (hitP l q i) := by unfold hitP; infer_instance
def onEdge (l : List Pt) (q : Pt) (i : Nat) : Prop := onP (cyc l i) (cyc l (i + 1)) q
instance (l : List Pt) (q : Pt) (i : Nat) : Decidable (onEdge l q i) := by unfold onEdge; infer_instance
def oddTo (f : Nat → Prop) [DecidablePred f] : Nat → Bool
 | 0 => false
 | k + 1 => if f k then !oddTo f k else oddTo f k
def whereP (l : List Pt) (q : Pt) : Int :=
 if farP q ∨ polyCheck l ≠ 0 then -1 else if ∃ i, i < l.length ∧ onEdge l q i then 0 else if oddTo (hitP l q) l.length then 1 else -1
def rbadP (l : List Pt) (i : Nat) : Prop := onP (cyc l (i + 1)) (cyc l (i + 2)) (cyc l i) ∨ onP (cyc l i) (cyc l (i + 1)) (cyc l (i + 2)) ∨ ∃ k, k < l.length ∧ i + 2 ≤ k ∧ clashP l i k
instance (l : List Pt) (i : Nat) : Decidable (rbadP l i) := by unfold rbadP; infer_instance
def rsimpleP (l : List Pt) : Prop := (∀ i, i < l.length → ∀ k, k < i → cor l i ≠ cor l k) ∧ ∀ i, i < l.length → ¬ rbadP l i
instance (l : List Pt) : Decidable (rsimpleP l) := by unfold rsimpleP; infer_instance
def rpolyCheck (l : List Pt) : Int := if l.length < 3 then 3 else if 32 < l.length then 4 else if ∃ p ∈ l, farP p then 9 else if ¬ rsimpleP l then 17 else 0
def rhitP (l : List Pt) (q : Pt) (i : Nat) : Prop := ((cyc l i).y ≤ q.y ∧ q.y < (cyc l (i + 1)).y ∧ 0 < crossP (cyc l i) (cyc l (i + 1)) q) ∨ ((cyc l (i + 1)).y ≤ q.y ∧ q.y < (cyc l i).y ∧ crossP (cyc l i) (cyc l (i + 1)) q < 0)
instance (l : List Pt) (q : Pt) (i : Nat) : Decidable (rhitP l q i) := by unfold rhitP; infer_instance
def rwhereP (l : List Pt) (q : Pt) : Int :=
 if rpolyCheck l ≠ 0 ∨ farP q then -1 else if ∃ i, i < l.length ∧ onEdge l q i then 0 else if oddTo (rhitP l q) l.length then 1 else -1
def pl (p : Pt) : PlaneG.I2 := ⟨p.x, p.y⟩
theorem pl_inj {p q : Pt} : pl p = pl q ↔ p = q := by
 cases p; cases q
 simp [pl]
theorem cri_pl (a b c : Pt) : PlaneG.cri (pl a) (pl b) (pl c) = crossP a b c := rfl
theorem on_pl (a b c : Pt) : PlaneG.onI (pl a) (pl b) (pl c) ↔ onP a b c := Iff.rfl
theorem meet_symm {a b c d : Pt} (h : meetP a b c d) : meetP c d a b := by
 unfold meetP at *
 rcases h with h | h | h | h | ⟨h1, h2⟩
 ·exact .inr (.inr (.inl h))
 ·exact .inr (.inr (.inr (.inl h)))
 ·exact .inl h
 ·exact .inr (.inl h)
 ·exact .inr (.inr (.inr (.inr ⟨h2, h1⟩)))
theorem cyc_add (l : List Pt) (i : Nat) : cyc l (i + l.length) = cyc l i := by unfold cyc; rw [Nat.add_mod_right]
theorem cyc_mod (l : List Pt) (i : Nat) : cyc l (i % l.length) = cyc l i := by unfold cyc; rw [Nat.mod_mod]
theorem cyc_mod1 (l : List Pt) (i : Nat) : cyc l (i % l.length + 1) = cyc l (i + 1) := by unfold cyc; rw [Nat.mod_add_mod]
theorem cyc_mod2 (l : List Pt) (i : Nat) : cyc l (i % l.length + 2) = cyc l (i + 2) := by unfold cyc; rw [Nat.mod_add_mod]
theorem far_edges {l : List Pt} (hs : ∀ i k, k < l.length → i + 2 ≤ k → ¬ clashP l i k) {i j : Nat} (h1 : i + 1 < j) (h2 : j + 1 < i + l.length) : ¬ meetP (cyc l i) (cyc l (i + 1)) (cyc l j) (cyc l (j + 1)) := by
 have hn : 0 < l.length := by omega
 have ha := Nat.mod_lt i hn
 have hb := Nat.mod_lt j hn
 have e1 := Nat.div_add_mod i l.length
 have e2 := Nat.div_add_mod j l.length
 generalize hA : i % l.length = a at *
 generalize hB : j % l.length = b at *
 generalize i / l.length = c at e1
 generalize j / l.length = d at e2
 intro hm
 rw [← cyc_mod l i, ← cyc_mod1 l i, ← cyc_mod l j, ← cyc_mod1 l j, hA, hB] at hm
 have hd : d = c ∨ d = c + 1 := by
  rcases Nat.lt_or_ge d c with h | h
  ·have := Nat.mul_le_mul_left l.length (show d + 1 ≤ c by omega)
   rw [Nat.mul_add] at this
   omega
  rcases Nat.lt_or_ge (c + 1) d with h' | h'
  ·have := Nat.mul_le_mul_left l.length (show c + 2 ≤ d by omega)
   rw [Nat.mul_add] at this
   omega
  ·omega
 rcases hd with rfl | rfl
 ·refine hs a b hb (by omega) ⟨?_, hm⟩
  intro e
  rcases Nat.lt_or_ge (b + 1) l.length with h | h
  ·rw [Nat.mod_eq_of_lt h] at e; omega
  ·rw [show b + 1 = l.length by omega, Nat.mod_self] at e
   omega
 ·rw [Nat.mul_add] at e2
  refine hs b a ha (by omega) ⟨?_, meet_symm hm⟩
  intro e
  rcases Nat.lt_or_ge (a + 1) l.length with h | h
  ·rw [Nat.mod_eq_of_lt h] at e; omega
  ·rw [show a + 1 = l.length by omega, Nat.mod_self] at e
   omega
theorem simp_of {l : List Pt} (h3 : 3 ≤ l.length) (hs : simpleP l) : PlaneG.Simp l.length fun i => pl (cyc l i) := by
 have hn : 0 < l.length := by omega
 have hb : ∀ i, ¬ badP l (i % l.length) := fun i => hs _ (Nat.mod_lt i hn)
 refine ⟨h3, fun i => by rw [cyc_add], fun i e => ?_, fun i hc => ?_, fun i j h1 h2 hm => ?_⟩
 ·refine hb i (.inl ?_)
  rw [cyc_mod, cyc_mod1]
  exact pl_inj.1 e
 ·rcases Int.lt_or_le 0 (PlaneG.dti (pl (cyc l i)) (pl (cyc l (i + 1))) (pl (cyc l (i + 2)))) with h | h
  ·exfalso
   refine hb i (.inr (.inl ⟨?_, ?_⟩))
   ·rw [cyc_mod, cyc_mod1, cyc_mod2]; exact hc
   ·rw [cyc_mod, cyc_mod1, cyc_mod2]; exact h
  ·exact h
 ·exact far_edges (fun i k hk hik hc => hs i (by omega) (.inr (.inr ⟨k, hk, hik, hc⟩))) h1 h2 hm
theorem sumTo_isum (f : Nat → Int) : ∀ n, sumTo f n = PlaneG.isum n f
 | 0 => rfl
 | n + 1 => by
  show sumTo f n + f n = PlaneG.isum n f + f n
  rw [sumTo_isum f n]
theorem area_ne {l : List Pt} (h3 : 3 ≤ l.length) (hn : ∀ p ∈ l, ¬ farP p) (hs : simpleP l) : areaP l ≠ 0 := by
 have h := (simp_of h3 hs).area (N := 32768) fun i => by
  have := hn _ (cyc_mem (by omega) i)
  unfold farP at this
  show -32768 ≤ (cyc l i).x ∧ (cyc l i).x ≤ 32768 ∧ -32768 ≤ (cyc l i).y ∧ (cyc l i).y ≤ 32768
  omega
 unfold areaP
 rw [sumTo_isum]
 exact h
theorem fold_on {a b c : Pt} (h : crossP a b c = 0) (hd : 0 < dotP a b c) : onP b c a ∨ onP a b c := by
 have e : (a.x - b.x) * (c.y - b.y) = (a.y - b.y) * (c.x - b.x) := by unfold crossP at h; grind
 have h1 : crossP b c a = 0 := by unfold crossP at *; grind
 have e1 : (a.x - b.x) * dotP c b c = (c.x - b.x) * dotP a b c := by unfold dotP; grind
 have e2 : (a.y - b.y) * dotP c b c = (c.y - b.y) * dotP a b c := by unfold dotP; grind
 have e3 : (c.x - b.x) * dotP a b a = (a.x - b.x) * dotP a b c := by unfold dotP; grind
 have e4 : (c.y - b.y) * dotP a b a = (a.y - b.y) * dotP a b c := by unfold dotP; grind
 have e5 : dotP a b c * dotP a b c = dotP a b a * dotP c b c := by unfold dotP; grind
 have n1 : 0 ≤ dotP a b a := by
  have q1 := PlaneG.sq_nn (a.x - b.x); have q2 := PlaneG.sq_nn (a.y - b.y); unfold dotP; omega
 have n2 : 0 ≤ dotP c b c := by
  have q1 := PlaneG.sq_nn (c.x - b.x); have q2 := PlaneG.sq_nn (c.y - b.y); unfold dotP; omega
 generalize dotP a b c = k at *
 generalize dotP a b a = m at *
 generalize dotP c b c = n at *
 have k2 := Int.mul_pos hd hd
 have hm : 0 < m := by
  rcases Int.lt_or_le 0 m with h | h
  ·exact h
  ·rw [show m = 0 by omega, Int.zero_mul] at e5; omega
 have hn : 0 < n := by
  rcases Int.lt_or_le 0 n with h | h
  ·exact h
  ·rw [show n = 0 by omega, Int.mul_zero] at e5; omega
 rcases Int.le_total k n with h2 | h2
 ·left
  have b1 := PlaneG.scale_btw hn (by omega) h2 e1
  have b2 := PlaneG.scale_btw hn (by omega) h2 e2
  exact ⟨h1, by omega, by omega, by omega, by omega⟩
 ·right
  have h3 : k ≤ m := by
   rcases Int.le_total k m with h | h
   ·exact h
   ·rcases Int.lt_or_le m k with h4 | h4
    ·have a1 := Int.mul_lt_mul_of_pos_right h4 hd
     have a2 := Int.mul_le_mul_of_nonneg_left h2 n1
     omega
    ·exact h4
  have b1 := PlaneG.scale_btw hm (by omega) h3 e3
  have b2 := PlaneG.scale_btw hm (by omega) h3 e4
  exact ⟨h, by omega, by omega, by omega, by omega⟩
theorem same_pos {u v : Int} (h : (0 ≤ u ∧ u ≤ v) ∨ (v ≤ u ∧ u ≤ 0)) : 0 ≤ u * v ∧ (u ≠ 0 → 0 < u * v) := by
 rcases h with ⟨h1, h2⟩ | ⟨h1, h2⟩
 ·refine ⟨Int.mul_nonneg h1 (by omega), fun h => Int.mul_pos (by omega) (by omega)⟩
 ·refine ⟨Int.mul_nonneg_of_nonpos_of_nonpos h2 (by omega), fun h => Int.mul_pos_of_neg_of_neg (by omega) (by omega)⟩
theorem on_fold {a b c : Pt} (hab : a ≠ b) (h : onP b c a) : crossP a b c = 0 ∧ 0 < dotP a b c := by
 obtain ⟨h0, h1, h2, h3, h4⟩ := h
 refine ⟨by unfold crossP at *; grind, ?_⟩
 have x := same_pos (u := a.x - b.x) (v := c.x - b.x) (by omega)
 have y := same_pos (u := a.y - b.y) (v := c.y - b.y) (by omega)
 unfold dotP
 by_cases hx : a.x - b.x = 0
 ·have hy : a.y - b.y ≠ 0 := fun hy => hab (Pt.ext' (by omega) (by omega))
  have := y.2 hy
  omega
 ·have := x.2 hx
  omega
theorem dot_comm (a b c : Pt) : dotP a b c = dotP c b a := by unfold dotP; grind
theorem on_comm {a b q : Pt} (h : onP a b q) : onP b a q := by
 obtain ⟨h0, h1, h2, h3, h4⟩ := h
 exact ⟨by unfold crossP at *; grind, by omega, by omega, by omega, by omega⟩
theorem simple_eq {l : List Pt} (h3 : 3 ≤ l.length) : simpleP l ↔ rsimpleP l := by
 constructor
 ·intro hs
  have s := simp_of h3 hs
  refine ⟨fun i hi k hk e => ?_, fun i hi hb => ?_⟩
  ·refine s.dist (i := k) (j := i) hk (by omega) (pl_inj.2 ?_)
   rw [cyc_lt (by omega), cyc_lt hi, e]
  ·have n1 : cyc l i ≠ cyc l (i + 1) := fun e => s.ne i (pl_inj.2 e)
   have n2 : cyc l (i + 1) ≠ cyc l (i + 2) := fun e => s.ne (i + 1) (pl_inj.2 e)
   rcases hb with hb | hb | ⟨k, hk, hik, hc⟩
   ·exact hs i hi (.inr (.inl (on_fold n1 hb)))
   ·obtain ⟨g1, g2⟩ := on_fold (fun e => n2 e.symm) (on_comm hb)
    refine hs i hi (.inr (.inl ⟨by unfold crossP at *; grind, by rw [dot_comm]; exact g2⟩))
   ·exact hs i hi (.inr (.inr ⟨k, hk, hik, hc⟩))
 ·rintro ⟨hd, hs⟩ i hi hb
  rcases hb with hb | ⟨h1, h2⟩ | ⟨k, hk, hik, hc⟩
  ·rw [cyc_lt hi] at hb
   rcases Nat.lt_or_ge (i + 1) l.length with h | h
   ·rw [cyc_lt h] at hb
    exact hd (i + 1) h i (by omega) hb.symm
   ·unfold cyc at hb
    rw [show i + 1 = l.length by omega, Nat.mod_self] at hb
    exact hd i hi 0 (by omega) hb
  ·rcases fold_on h1 h2 with h | h
   ·exact hs i hi (.inl h)
   ·exact hs i hi (.inr (.inl h))
  ·exact hs i hi (.inr (.inr ⟨k, hk, hik, hc⟩))
theorem polyCheck_eq (l : List Pt) : polyCheck l = rpolyCheck l := by
 unfold polyCheck rpolyCheck
 by_cases h1 : l.length < 3
 ·rw [if_pos h1, if_pos h1]
 rw [if_neg h1, if_neg h1]
 by_cases h2 : 32 < l.length
 ·rw [if_pos h2, if_pos h2]
 rw [if_neg h2, if_neg h2]
 by_cases h3 : ∃ p ∈ l, farP p
 ·rw [if_pos h3, if_pos h3]
 rw [if_neg h3, if_neg h3]
 have he := simple_eq (l := l) (by omega)
 by_cases h4 : simpleP l
 ·have ha := area_ne (by omega) (fun p hp hf => h3 ⟨p, hp, hf⟩) h4
  rw [if_neg (by intro h; rcases h with h | h; exact h h4; exact ha h), if_neg (fun h => h (he.1 h4))]
 ·rw [if_pos (.inl h4), if_pos (fun h => h4 (he.2 h))]
theorem check_zero {l : List Pt} (h : polyCheck l = 0) : 3 ≤ l.length ∧ l.length ≤ 32 ∧ (∀ p ∈ l, ¬ farP p) ∧ simpleP l := by
 unfold polyCheck at h
 split at h
 ·cases h
 split at h
 ·cases h
 split at h
 ·cases h
 rename_i h3
 split at h
 ·cases h
 rename_i h4
 refine ⟨by omega, by omega, fun p hp hf => h3 ⟨p, hp, hf⟩, ?_⟩
 by_cases hs : simpleP l
 ·exact hs
 ·exact absurd (.inl hs) h4
theorem oddTo_congr {f g : Nat → Prop} [DecidablePred f] [DecidablePred g] : ∀ {n : Nat}, (∀ i, i < n → (f i ↔ g i)) → oddTo f n = oddTo g n
 | 0, _ => rfl
 | n + 1, h => by
  unfold oddTo
  rw [oddTo_congr fun i hi => h i (by omega)]
  have := h n (by omega)
  by_cases hf : f n
  ·rw [if_pos hf, if_pos (this.1 hf)]
  ·rw [if_neg hf, if_neg fun hg => hf (this.2 hg)]
theorem hit_eq {l : List Pt} {q : Pt} {i : Nat} (h : ¬ onEdge l q i) : hitP l q i ↔ rhitP l q i := by
 unfold hitP rhitP
 unfold onEdge at h
 by_cases hc : crossP (cyc l i) (cyc l (i + 1)) q = 0
 ·have hn : ¬ (((cyc l i).y ≤ q.y ∧ q.y < (cyc l (i + 1)).y) ∨ ((cyc l (i + 1)).y ≤ q.y ∧ q.y < (cyc l i).y)) := by
   intro hl
   have h0 : PlaneG.cri (pl (cyc l i)) (pl (cyc l (i + 1))) (pl q) = 0 := hc
   have hd := PlaneG.out_dot h0 (by rw [on_pl]; exact h)
   have e : ((cyc l i).x - q.x) * ((cyc l (i + 1)).y - q.y) = ((cyc l i).y - q.y) * ((cyc l (i + 1)).x - q.x) := by unfold crossP at hc; grind
   have hd : 0 < ((cyc l i).x - q.x) * ((cyc l (i + 1)).x - q.x) + ((cyc l i).y - q.y) * ((cyc l (i + 1)).y - q.y) := hd
   generalize (cyc l i).x - q.x = ux at *
   generalize hu : (cyc l i).y - q.y = uy at *
   generalize (cyc l (i + 1)).x - q.x = vx at *
   generalize hv : (cyc l (i + 1)).y - q.y = vy at *
   have sq : (ux * vx) * (uy * vy) = (ux * vy) * (ux * vy) := by grind
   have nn := PlaneG.sq_nn (ux * vy)
   have ny : uy * vy ≤ 0 := by
    rcases hl with hl | hl
    ·exact Int.mul_nonpos_of_nonpos_of_nonneg (by omega) (by omega)
    ·exact Int.mul_nonpos_of_nonneg_of_nonpos (by omega) (by omega)
   have px : 0 < ux * vx := by omega
   rcases Int.lt_or_eq_of_le ny with h1 | h1
   ·have := Int.mul_neg_of_pos_of_neg px h1
    omega
   ·have z : uy = 0 ∨ vy = 0 := Int.mul_eq_zero.1 h1
    rcases hl with hl | hl
    ·have : uy = 0 := by omega
     subst this
     rw [Int.zero_mul] at e
     have := Int.mul_eq_zero.1 e
     rcases this with h2 | h2
     ·rw [h2, Int.zero_mul] at px; omega
     ·omega
    ·have : vy = 0 := by omega
     subst this
     rw [Int.mul_zero] at e
     have := Int.mul_eq_zero.1 e.symm
     rcases this with h2 | h2
     ·omega
     ·rw [h2, Int.mul_zero] at px; omega
  omega
 ·omega
theorem where_eq (l : List Pt) (q : Pt) : whereP l q = rwhereP l q := by
 unfold whereP rwhereP
 rw [polyCheck_eq]
 by_cases h1 : farP q ∨ rpolyCheck l ≠ 0
 ·rw [if_pos h1, if_pos h1.symm]
 rw [if_neg h1, if_neg (show ¬ (rpolyCheck l ≠ 0 ∨ farP q) from fun h => h1 h.symm)]
 by_cases h2 : ∃ i, i < l.length ∧ onEdge l q i
 ·rw [if_pos h2, if_pos h2]
 rw [if_neg h2, if_neg h2]
 rw [oddTo_congr (f := hitP l q) (g := rhitP l q) fun i hi => hit_eq fun h => h2 ⟨i, hi, h⟩]
theorem rhit_wt (l : List Pt) (q : Pt) (i : Nat) : rhitP l q i ↔ PlaneG.wtI (pl (cyc l i)) (pl (cyc l (i + 1))) (pl q) ≠ 0 := by
 unfold rhitP PlaneG.wtI
 rw [cri_pl]
 show _ ↔ (if (cyc l i).y ≤ q.y ∧ q.y < (cyc l (i + 1)).y ∧ 0 < crossP (cyc l i) (cyc l (i + 1)) q then (1 : Int) else if (cyc l (i + 1)).y ≤ q.y ∧ q.y < (cyc l i).y ∧ crossP (cyc l i) (cyc l (i + 1)) q < 0 then -1 else 0) ≠ 0
 split
 ·simp [*]
 ·split
  ·simp [*]
  ·simp [*]
theorem oddTo_odd (l : List Pt) (q : Pt) : ∀ n, oddTo (rhitP l q) n = PlaneG.oddI n (fun i => pl (cyc l i)) (pl q)
 | 0 => rfl
 | n + 1 => by
  unfold oddTo PlaneG.oddI
  rw [oddTo_odd l q n]
  have := rhit_wt l q n
  by_cases h : rhitP l q n
  ·rw [if_pos h, if_pos (this.1 h)]
  ·rw [if_neg h, if_neg fun g => h (this.2 g)]
def crossC (p q : List Pt) : Prop := ∃ i, i < p.length ∧ ∃ k, k < q.length ∧ meetP (cyc p i) (cyc p (i + 1)) (cyc q k) (cyc q (k + 1))
instance (p q : List Pt) : Decidable (crossC p q) := by unfold crossC; infer_instance
theorem crossC_symm {p q : List Pt} (h : crossC p q) : crossC q p := by
 obtain ⟨i, hi, k, hk, hm⟩ := h
 exact ⟨k, hk, i, hi, meet_symm hm⟩
theorem off_edge {p q : List Pt} (hx : ¬ crossC p q) {i : Nat} (hi : i < p.length) : ¬ ∃ k, k < q.length ∧ onEdge q (cyc p i) k := by
 rintro ⟨k, hk, ho⟩
 exact hx ⟨i, hi, k, hk, .inr (.inr (.inl ho))⟩
theorem odd_next {p q : List Pt} (hp : polyCheck p = 0) (hq : polyCheck q = 0) (hx : ¬ crossC p q) (i : Nat) (hi : i < p.length) : oddTo (rhitP q (cyc p i)) q.length = oddTo (rhitP q (cyc p (i + 1))) q.length := by
 obtain ⟨p3, _, _, ps⟩ := check_zero hp
 obtain ⟨q3, _, _, qs⟩ := check_zero hq
 have sp := simp_of p3 ps
 have sq := simp_of q3 qs
 rw [oddTo_odd, oddTo_odd]
 refine PlaneG.oddI_eq (by show pl (cyc q q.length) = pl (cyc q 0); rw [show q.length = 0 + q.length by omega, cyc_add]) fun j hj => ?_
 refine PlaneG.api_of (sp.ne i) (sq.ne j) fun hm => hx ⟨i, hi, j, hj, hm⟩
theorem odd_all {p q : List Pt} (hp : polyCheck p = 0) (hq : polyCheck q = 0) (hx : ¬ crossC p q) : ∀ i, i < p.length → oddTo (rhitP q (cyc p i)) q.length = oddTo (rhitP q (cyc p 0)) q.length
 | 0, _ => rfl
 | i + 1, hi => by rw [← odd_next hp hq hx i (by omega)]; exact odd_all hp hq hx i (by omega)
theorem where_all {p q : List Pt} (hp : polyCheck p = 0) (hq : polyCheck q = 0) (hx : ¬ crossC p q) {i : Nat} (hi : i < p.length) : whereP q (cyc p i) = whereP q (cyc p 0) := by
 obtain ⟨p3, _, pf, _⟩ := check_zero hp
 have key : ∀ j, j < p.length → whereP q (cyc p j) = if oddTo (rhitP q (cyc p j)) q.length then 1 else -1 := fun j hj => by
  rw [where_eq]
  unfold rwhereP
  rw [if_neg (by rw [← polyCheck_eq]; rintro (h | h); exact h hq; exact pf _ (cyc_mem (by omega) j) h), if_neg (off_edge hx hj)]
 rw [key i hi, key 0 (by omega), odd_all hp hq hx i hi]
def withinC (h o : List Pt) : Prop := ¬ crossC h o ∧ ∀ c ∈ h, whereP o c = 1
instance (h o : List Pt) : Decidable (withinC h o) := by unfold withinC; infer_instance
def apartC (p q : List Pt) : Prop := ¬ crossC p q ∧ whereP p (cor q 0) < 0 ∧ whereP q (cor p 0) < 0
instance (p q : List Pt) : Decidable (apartC p q) := by unfold apartC; infer_instance
def firstErr (f : Nat → Int) : Nat → Int
 | 0 => 0
 | n + 1 => if firstErr f n ≠ 0 then firstErr f n else f n
def holeErr (o : List Pt) (hs : List (List Pt)) (i : Nat) : Int :=
 if polyCheck (hs.getD i []) ≠ 0 then polyCheck (hs.getD i []) else if 0 ≤ area2P (hs.getD i []) ∨ ¬ withinC (hs.getD i []) o ∨ ∃ k, k < i ∧ ¬ apartC (hs.getD i []) (hs.getD k []) then 17 else 0
def shapeCheck (o : List Pt) (hs : List (List Pt)) : Int :=
 if 8 < hs.length then 12 else if polyCheck o ≠ 0 then polyCheck o else if area2P o ≤ 0 then 17 else firstErr (holeErr o hs) hs.length
def rarea2P (l : List Pt) : Int := if rpolyCheck l = 0 then areaP l else 0
theorem area2_eq (l : List Pt) : area2P l = rarea2P l := by unfold area2P rarea2P; rw [polyCheck_eq]
def rholeErr (o : List Pt) (hs : List (List Pt)) (i : Nat) : Int :=
 if rpolyCheck (hs.getD i []) ≠ 0 then rpolyCheck (hs.getD i []) else if 0 ≤ rarea2P (hs.getD i []) ∨ crossC o (hs.getD i []) ∨ rwhereP o (cor (hs.getD i []) 0) ≠ 1 ∨ ∃ k, k < i ∧ (crossC (hs.getD i []) (hs.getD k []) ∨ rwhereP (hs.getD i []) (cor (hs.getD k []) 0) ≠ -1 ∨ rwhereP (hs.getD k []) (cor (hs.getD i []) 0) ≠ -1) then 17 else 0
def rshapeCheck (o : List Pt) (hs : List (List Pt)) : Int :=
 if 8 < hs.length then 12 else if rpolyCheck o ≠ 0 then rpolyCheck o else if rarea2P o ≤ 0 then 17 else firstErr (rholeErr o hs) hs.length
theorem where_cases (l : List Pt) (q : Pt) : whereP l q = -1 ∨ whereP l q = 0 ∨ whereP l q = 1 := by
 unfold whereP
 split
 ·exact .inl rfl
 split
 ·exact .inr (.inl rfl)
 split
 ·exact .inr (.inr rfl)
 ·exact .inl rfl
theorem within_eq {h o : List Pt} (hh : polyCheck h = 0) (ho : polyCheck o = 0) : withinC h o ↔ ¬ (crossC o h ∨ rwhereP o (cor h 0) ≠ 1) := by
 obtain ⟨h3, _, _, _⟩ := check_zero hh
 have e0 : cyc h 0 = cor h 0 := cyc_lt (by omega)
 constructor
 ·rintro ⟨h1, h2⟩ (h | h)
  ·exact h1 (crossC_symm h)
  ·rw [← where_eq, ← e0] at h
   exact h (h2 _ (cyc_mem (by omega) 0))
 ·intro hn
  have hx : ¬ crossC h o := fun h => hn (.inl (crossC_symm h))
  refine ⟨hx, fun c hc => ?_⟩
  obtain ⟨i, hi, rfl⟩ := List.mem_iff_getElem.1 hc
  have e : h[i] = cyc h i := by rw [cyc_lt hi, cor_at hi]
  rw [e, where_all hh ho hx hi, e0, where_eq]
  by_cases h1 : rwhereP o (cor h 0) = 1
  ·exact h1
  ·exact absurd (.inr h1) hn
theorem apart_eq (p q : List Pt) : apartC p q ↔ ¬ (crossC p q ∨ rwhereP p (cor q 0) ≠ -1 ∨ rwhereP q (cor p 0) ≠ -1) := by
 unfold apartC
 rw [← where_eq, ← where_eq]
 have c1 := where_cases p (cor q 0)
 have c2 := where_cases q (cor p 0)
 by_cases hx : crossC p q
 ·simp [hx]
 ·simp only [hx, not_false_eq_true, true_and, false_or]
  omega
theorem firstErr_congr {f g : Nat → Int} : ∀ {n : Nat}, (∀ i, i < n → f i = g i) → firstErr f n = firstErr g n
 | 0, _ => rfl
 | n + 1, h => by
  unfold firstErr
  rw [firstErr_congr fun i hi => h i (by omega), h n (by omega)]
theorem holeErr_eq {o : List Pt} {hs : List (List Pt)} (ho : polyCheck o = 0) (i : Nat) : holeErr o hs i = rholeErr o hs i := by
 unfold holeErr rholeErr
 rw [← polyCheck_eq, ← area2_eq]
 by_cases hh : polyCheck (hs.getD i []) = 0
 ·have hn : ¬ (polyCheck (hs.getD i []) ≠ 0) := fun h => h hh
  rw [if_neg hn, if_neg hn]
  have e1 := within_eq hh ho
  have e2 : (∃ k, k < i ∧ ¬ apartC (hs.getD i []) (hs.getD k [])) ↔ ∃ k, k < i ∧ (crossC (hs.getD i []) (hs.getD k []) ∨ rwhereP (hs.getD i []) (cor (hs.getD k []) 0) ≠ -1 ∨ rwhereP (hs.getD k []) (cor (hs.getD i []) 0) ≠ -1) := by
   constructor
   ·rintro ⟨k, hk, h⟩
    rw [apart_eq, Decidable.not_not] at h
    exact ⟨k, hk, h⟩
   ·rintro ⟨k, hk, h⟩
    refine ⟨k, hk, ?_⟩
    rw [apart_eq, Decidable.not_not]
    exact h
  have e3 : ¬ withinC (hs.getD i []) o ↔ (crossC o (hs.getD i []) ∨ rwhereP o (cor (hs.getD i []) 0) ≠ 1) := by
   rw [e1, Decidable.not_not]
  have e4 : (0 ≤ area2P (hs.getD i []) ∨ ¬ withinC (hs.getD i []) o ∨ ∃ k, k < i ∧ ¬ apartC (hs.getD i []) (hs.getD k [])) ↔ (0 ≤ area2P (hs.getD i []) ∨ crossC o (hs.getD i []) ∨ rwhereP o (cor (hs.getD i []) 0) ≠ 1 ∨ ∃ k, k < i ∧ (crossC (hs.getD i []) (hs.getD k []) ∨ rwhereP (hs.getD i []) (cor (hs.getD k []) 0) ≠ -1 ∨ rwhereP (hs.getD k []) (cor (hs.getD i []) 0) ≠ -1)) := by
   rw [e2, e3, or_assoc]
  by_cases h : 0 ≤ area2P (hs.getD i []) ∨ ¬ withinC (hs.getD i []) o ∨ ∃ k, k < i ∧ ¬ apartC (hs.getD i []) (hs.getD k [])
  ·rw [if_pos h, if_pos (e4.1 h)]
  ·rw [if_neg h, if_neg fun g => h (e4.2 g)]
 ·rw [if_pos hh, if_pos hh]
theorem shapeCheck_eq (o : List Pt) (hs : List (List Pt)) : shapeCheck o hs = rshapeCheck o hs := by
 unfold shapeCheck rshapeCheck
 rw [← polyCheck_eq, ← area2_eq]
 by_cases h1 : 8 < hs.length
 ·rw [if_pos h1, if_pos h1]
 rw [if_neg h1, if_neg h1]
 by_cases h2 : polyCheck o = 0
 ·have hn : ¬ (polyCheck o ≠ 0) := fun h => h h2
  rw [if_neg hn, if_neg hn]
  rw [firstErr_congr fun i _ => holeErr_eq h2 i]
 ·rw [if_pos h2, if_pos h2]
abbrev ptV (p : Pt) : Value := .agg #[.int .i64 p.x, .int .i64 p.y]
structure Nr (p : Pt) : Prop where
 h : -32768 ≤ p.x ∧ p.x ≤ 32768 ∧ -32768 ≤ p.y ∧ p.y ≤ 32768
def sgnZ (n : Int) : Int := if n < 0 then -1 else if n = 0 then 0 else 1
def c_sgn (args : List Value) (Post : Value → Prop) : Prop := match args with
 | [.int .i64 n] => Post (.int .i64 (sgnZ n))
 | _ => False
def c_cross (args : List Value) (Post : Value → Prop) : Prop := ∃ a b c : Pt, args = [ptV a, ptV b, ptV c] ∧ Nr a ∧ Nr b ∧ Nr c ∧ Post (.int .i64 (crossP a b c))
def c_onP (args : List Value) (Post : Value → Prop) : Prop := ∃ a b q : Pt, args = [ptV a, ptV b, ptV q] ∧ Nr a ∧ Nr b ∧ Nr q ∧ Post (.bool (decide (onP a b q)))
def c_meetP (args : List Value) (Post : Value → Prop) : Prop := ∃ a b c d : Pt, args = [ptV a, ptV b, ptV c, ptV d] ∧ Nr a ∧ Nr b ∧ Nr c ∧ Nr d ∧ Post (.bool (decide (meetP a b c d)))
theorem e_cross (a b c : Pt) (H : HT) (Post : PV) : vcP Tryz.prog noCall 229 [] [ptV a, ptV b, ptV c] H Post = (T16 (T8 (T4 (True ∧ Post (vi (IntKind.wrap IntKind.i64 (IntKind.wrap IntKind.i64 (IntKind.wrap IntKind.i64 (b.x - a.x) * IntKind.wrap IntKind.i64 (c.y - a.y)) - IntKind.wrap IntKind.i64 (IntKind.wrap IntKind.i64 (b.y - a.y) * IntKind.wrap IntKind.i64 (c.x - a.x))))))))) := by kernel_rfl
theorem e_onP (a b c : Pt) (H : HT) (Post : PV) : vcP Tryz.prog (inlCall Tryz.prog [250] (tabCall [⟨229, c_cross⟩] noCall) 2) 234 [] [ptV a, ptV b, ptV c] H Post = (T4 (T2 (True ∧ ∃ (a_1 : Pt), ∃ (b_1 : Pt), ∃ (c_1 : Pt), eqL [Value.agg #[vi a.x, vi a.y], Value.agg #[vi b.x, vi b.y], Value.agg #[vi c.x, vi c.y]] [ptV a_1, ptV b_1, ptV c_1] ∧ Nr a_1 ∧ Nr b_1 ∧ Nr c_1 ∧ True ∧ pIf (decide (crossP a_1 b_1 c_1 = 0)) (T16 (pIf (decide ((if b.x < a.x then b.x else a.x) ≤ c.x)) (T8 (True ∧ pIf (decide (c.x ≤ if b.x > a.x then b.x else a.x)) (T8 (T2 (pIf (decide ((if b.y < a.y then b.y else a.y) ≤ c.y)) (T8 (T2 (pIf (decide (c.y ≤ if b.y > a.y then b.y else a.y)) (T4 (True ∧ Post (vb true))) (T4 (True ∧ Post (vb false)))))) (T4 (T2 (True ∧ Post (vb false))))))) (T8 (True ∧ Post (vb false))))) (T8 (T2 (Post (vb false)))))) (T4 (Post (vb false)))))) := by kernel_rfl
theorem e_sgn (n : Int) (H : HT) (Post : PV) : vcP Tryz.prog (inlCall Tryz.prog [264, 271] noCall 3) 249 [] [.int .i64 n] H Post = (T8 (pIf (!decide (n = n)) (T8 (T4 (T2 (Post (vi (-1)))))) (T8 (T4 (T2 (pIf (decide (n < 0)) (T2 (True ∧ Post (vi (-1)))) (T2 (True ∧ pIf (decide (n > 0)) (T2 (True ∧ Post (vi 1))) (T2 (True ∧ Post (vi 0))))))))))) := by kernel_rfl
theorem e_meetP (a b c d : Pt) (H : HT) (Post : PV) : vcP Tryz.prog (tabCall [⟨249, c_sgn⟩, ⟨229, c_cross⟩, ⟨234, c_onP⟩] noCall) 230 [] [ptV a, ptV b, ptV c, ptV d] H Post = (let q1 := [Value.agg #[vi c.x, vi c.y], Value.agg #[vi d.x, vi d.y], Value.agg #[vi b.x, vi b.y]]; T8 (∃ (a_1 : Pt), ∃ (b_1 : Pt), ∃ (q : Pt), eqL [Value.agg #[vi a.x, vi a.y], Value.agg #[vi b.x, vi b.y], Value.agg #[vi c.x, vi c.y]] [ptV a_1, ptV b_1, ptV q] ∧ Nr a_1 ∧ Nr b_1 ∧ Nr q ∧ pIf (decide (onP a_1 b_1 q)) (T8 (Post (vb true))) (T4 (∃ (a_2 : Pt), ∃ (b_2 : Pt), ∃ (q : Pt), eqL [Value.agg #[vi a.x, vi a.y], Value.agg #[vi b.x, vi b.y], Value.agg #[vi d.x, vi d.y]] [ptV a_2, ptV b_2, ptV q] ∧ Nr a_2 ∧ Nr b_2 ∧ Nr q ∧ pIf (decide (onP a_2 b_2 q)) (T4 (T2 (True ∧ Post (vb true)))) (T4 (True ∧ ∃ (a_3 : Pt), ∃ (b_3 : Pt), ∃ (q : Pt), eqL [Value.agg #[vi c.x, vi c.y], Value.agg #[vi d.x, vi d.y], Value.agg #[vi a.x, vi a.y]] [ptV a_3, ptV b_3, ptV q] ∧ Nr a_3 ∧ Nr b_3 ∧ Nr q ∧ pIf (decide (onP a_3 b_3 q)) (T4 (True ∧ Post (vb true))) (T4 (True ∧ ∃ (a_4 : Pt), ∃ (b_4 : Pt), ∃ (q : Pt), eqL q1 [ptV a_4, ptV b_4, ptV q] ∧ Nr a_4 ∧ Nr b_4 ∧ Nr q ∧ pIf (decide (onP a_4 b_4 q)) (T2 (True ∧ Post (vb true))) (T4 (T2 (True ∧ ∃ (a_5 : Pt), ∃ (b_5 : Pt), ∃ (c_1 : Pt), eqL [Value.agg #[vi a.x, vi a.y], Value.agg #[vi b.x, vi b.y], Value.agg #[vi c.x, vi c.y]] [ptV a_5, ptV b_5, ptV c_1] ∧ Nr a_5 ∧ Nr b_5 ∧ Nr c_1 ∧ T2 (∃ (a_6 : Pt), ∃ (b_6 : Pt), ∃ (c_2 : Pt), eqL [Value.agg #[vi a.x, vi a.y], Value.agg #[vi b.x, vi b.y], Value.agg #[vi d.x, vi d.y]] [ptV a_6, ptV b_6, ptV c_2] ∧ Nr a_6 ∧ Nr b_6 ∧ Nr c_2 ∧ T4 (pIf (decide (IntKind.wrap IntKind.i64 (sgnZ (crossP a_5 b_5 c_1) * sgnZ (crossP a_6 b_6 c_2)) < 0)) (T4 (T2 (True ∧ ∃ (a_7 : Pt), ∃ (b_7 : Pt), ∃ (c_3 : Pt), eqL [Value.agg #[vi c.x, vi c.y], Value.agg #[vi d.x, vi d.y], Value.agg #[vi a.x, vi a.y]] [ptV a_7, ptV b_7, ptV c_3] ∧ Nr a_7 ∧ Nr b_7 ∧ Nr c_3 ∧ T2 (∃ (a : Pt), ∃ (b_8 : Pt), ∃ (c_4 : Pt), eqL q1 [ptV a, ptV b_8, ptV c_4] ∧ Nr a ∧ Nr b_8 ∧ Nr c_4 ∧ T4 (pIf (decide (IntKind.wrap IntKind.i64 (sgnZ (crossP a_7 b_7 c_3) * sgnZ (crossP a b_8 c_4)) < 0)) (T2 (True ∧ Post (vb true))) (T2 (True ∧ Post (vb false)))))))) (T4 (Post (vb false)))))))))))))))) := by kernel_rfl
theorem ifD {P : Prop} [Decidable P] {X Y : Prop} (h1 : P → X) (h2 : ¬ P → Y) : pIf (decide P) X Y := pIf_intro (fun h => h1 (of_decide_eq_true h)) (fun h => h2 (of_decide_eq_false h))
theorem ifN {P : Prop} [Decidable P] {X Y : Prop} (h1 : ¬ P → X) (h2 : P → Y) : pIf (!decide P) X Y := pIf_intro (fun h => h1 (by simpa using h)) (fun h => h2 (by simpa using h))
theorem mul_bd {a b A B : Int} (ha : -A ≤ a ∧ a ≤ A) (hb : -B ≤ b ∧ b ≤ B) : -(A * B) ≤ a * b ∧ a * b ≤ A * B := by
 have p1 := Int.mul_nonneg (show 0 ≤ A - a by omega) (show 0 ≤ B + b by omega)
 have p2 := Int.mul_nonneg (show 0 ≤ A + a by omega) (show 0 ≤ B - b by omega)
 have p3 := Int.mul_nonneg (show 0 ≤ A - a by omega) (show 0 ≤ B - b by omega)
 have p4 := Int.mul_nonneg (show 0 ≤ A + a by omega) (show 0 ≤ B + b by omega)
 have e1 : (A - a) * (B + b) + (A + a) * (B - b) = 2 * (A * B) - 2 * (a * b) := by grind
 have e2 : (A - a) * (B - b) + (A + a) * (B + b) = 2 * (A * B) + 2 * (a * b) := by grind
 omega
theorem cross_wrap {a b c : Pt} (ha : Nr a) (hb : Nr b) (hc : Nr c) : IntKind.wrap .i64 (IntKind.wrap .i64 (IntKind.wrap .i64 (b.x - a.x) * IntKind.wrap .i64 (c.y - a.y)) - IntKind.wrap .i64 (IntKind.wrap .i64 (b.y - a.y) * IntKind.wrap .i64 (c.x - a.x))) = crossP a b c := by
 have h1 := ha.h; have h2 := hb.h; have h3 := hc.h
 have m1 := mul_bd (a := b.x - a.x) (b := c.y - a.y) (A := 65536) (B := 65536) (by omega) (by omega)
 have m2 := mul_bd (a := b.y - a.y) (b := c.x - a.x) (A := 65536) (B := 65536) (by omega) (by omega)
 rw [wrap64 (n := b.x - a.x) (by omega) (by omega), wrap64 (n := c.y - a.y) (by omega) (by omega), wrap64 (n := b.y - a.y) (by omega) (by omega), wrap64 (n := c.x - a.x) (by omega) (by omega), wrap64 (n := (b.x - a.x) * (c.y - a.y)) (by omega) (by omega), wrap64 (n := (b.y - a.y) * (c.x - a.x)) (by omega) (by omega), wrap64 (by omega) (by omega)]
 rfl
theorem ok_cross : EntOk Tryz.prog ⟨229, c_cross⟩ := by
 rintro args Post ⟨a, b, c, rfl, ha, hb, hc, h⟩
 refine pure_P (vc := noCall) noCall_ok mixed (by kernel_rfl) (by kernel_rfl) _ (e_cross a b c _ _) ?_
 rw [← cross_wrap ha hb hc] at h
 simp only [true_and]
 exact h
theorem min_if (x y : Int) : (if y < x then y else x) = min x y := by
 by_cases h : y < x
 ·rw [if_pos h]; omega
 ·rw [if_neg h]; omega
theorem max_if (x y : Int) : (if y > x then y else x) = max x y := by
 by_cases h : y > x
 ·rw [if_pos h]; omega
 ·rw [if_neg h]; omega
theorem ok_onP : EntOk Tryz.prog ⟨234, c_onP⟩ := by
 rintro args Post ⟨a, b, q, rfl, ha, hb, hq, h⟩
 refine pure_P (inlCall_ok mixed (tabCall_ok (by
  intro e he
  simp only [List.mem_cons, List.not_mem_nil, or_false] at he
  subst he
  exact ok_cross) noCall_ok) 2) mixed (by kernel_rfl) (by kernel_rfl) _ (e_onP a b q _ _) ?_
 simp only [true_and, min_if, max_if]
 have yes : onP a b q → Post (.bool true) := fun hp => by rwa [decide_eq_true hp] at h
 have no : ¬ onP a b q → Post (.bool false) := fun hp => by rwa [decide_eq_false hp] at h
 refine ⟨a, b, q, rfl, ha, hb, hq, ifD (fun h1 => ?_) (fun h1 => no fun hp => h1 hp.1)⟩
 refine ifD (fun h2 => ?_) (fun h2 => no fun hp => h2 hp.2.1)
 refine ifD (fun h3 => ?_) (fun h3 => no fun hp => h3 hp.2.2.1)
 refine ifD (fun h4 => ?_) (fun h4 => no fun hp => h4 hp.2.2.2.1)
 exact ifD (fun h5 => yes ⟨h1, h2, h3, h4, h5⟩) (fun h5 => no fun hp => h5 hp.2.2.2.2)
theorem ok_sgn : EntOk Tryz.prog ⟨249, c_sgn⟩ := by
 intro args Post hc
 unfold c_sgn at hc
 dsimp only at hc
 split at hc
 case h_2 => exact hc.elim
 rename_i n
 refine pure_P (inlCall_ok mixed noCall_ok 3) mixed (by kernel_rfl) (by kernel_rfl) _ (e_sgn n _ _) ?_
 simp only [true_and]
 unfold sgnZ at hc
 refine ifN (fun h0 => absurd trivial h0) (fun _ => ifD (fun h1 => ?_) (fun h1 => ifD (fun h2 => ?_) (fun h2 => ?_)))
 ·rwa [if_pos h1] at hc
 ·rwa [if_neg h1, if_neg (by omega)] at hc
 ·rwa [if_neg h1, if_pos (by omega)] at hc
theorem sgnZ_cases (p : Int) : (p < 0 ∧ sgnZ p = -1) ∨ (p = 0 ∧ sgnZ p = 0) ∨ (0 < p ∧ sgnZ p = 1) := by
 unfold sgnZ
 rcases Int.lt_trichotomy p 0 with h1 | h1 | h1
 ·exact .inl ⟨h1, if_pos h1⟩
 ·exact .inr (.inl ⟨h1, by rw [if_neg (by omega), if_pos h1]⟩)
 ·exact .inr (.inr ⟨h1, by rw [if_neg (by omega), if_neg (by omega)]⟩)
theorem sgn_opp (p q : Int) : IntKind.wrap .i64 (sgnZ p * sgnZ q) < 0 ↔ oppP p q := by
 unfold oppP
 rcases sgnZ_cases p with ⟨h1, e1⟩ | ⟨h1, e1⟩ | ⟨h1, e1⟩ <;> rcases sgnZ_cases q with ⟨h2, e2⟩ | ⟨h2, e2⟩ | ⟨h2, e2⟩
 all_goals
  rw [e1, e2, wrap64 (by decide) (by decide)]
  omega
theorem ok_meetP : EntOk Tryz.prog ⟨230, c_meetP⟩ := by
 rintro args Post ⟨a, b, c, d, rfl, ha, hb, hc, hd, h⟩
 refine pure_P (tabCall_ok (by
  intro e he
  simp only [List.mem_cons, List.not_mem_nil, or_false] at he
  rcases he with rfl | rfl | rfl
  ·exact ok_sgn
  ·exact ok_cross
  ·exact ok_onP) noCall_ok) mixed (by kernel_rfl) (by kernel_rfl) _ (e_meetP a b c d _ _) ?_
 simp only [true_and, sgn_opp]
 have yes : meetP a b c d → Post (.bool true) := fun hp => by rwa [decide_eq_true hp] at h
 have no : ¬ meetP a b c d → Post (.bool false) := fun hp => by rwa [decide_eq_false hp] at h
 refine ⟨a, b, c, rfl, ha, hb, hc, ifD (fun h1 => yes (.inl h1)) (fun h1 => ⟨a, b, d, rfl, ha, hb, hd, ifD (fun h2 => yes (.inr (.inl h2))) (fun h2 => ⟨c, d, a, rfl, hc, hd, ha, ifD (fun h3 => yes (.inr (.inr (.inl h3)))) (fun h3 => ⟨c, d, b, rfl, hc, hd, hb, ifD (fun h4 => yes (.inr (.inr (.inr (.inl h4))))) (fun h4 => ?_)⟩)⟩)⟩)⟩
 refine ⟨a, b, c, rfl, ha, hb, hc, a, b, d, rfl, ha, hb, hd, ifD (fun h5 => ⟨c, d, a, rfl, hc, hd, ha, c, d, b, rfl, hc, hd, hb, ifD (fun h6 => yes (.inr (.inr (.inr (.inr ⟨h5, h6⟩))))) (fun h6 => no ?_)⟩) (fun h5 => no ?_)⟩
 ·rintro (h | h | h | h | ⟨_, h⟩)
  ·exact h1 h
  ·exact h2 h
  ·exact h3 h
  ·exact h4 h
  ·exact h6 h
 ·rintro (h | h | h | h | ⟨h, _⟩)
  ·exact h1 h
  ·exact h2 h
  ·exact h3 h
  ·exact h4 h
  ·exact h5 h
abbrev fnV (f : Nat) : Value := .func (.func f) #[] #[]
def c_farI (args : List Value) (Post : Value → Prop) : Prop := ∃ l : List Pt, args = [trPt l, fnV 196] ∧ Short l ∧ ∀ i : Int, (0 ≤ i ↔ ∃ p ∈ l, farP p) → Post (.int .i64 i)
def c_pfar (args : List Value) (Post : Value → Prop) : Prop := ∃ l : List Pt, args = [trPt l, fnV 196] ∧ Short l ∧ Post (.bool (decide (∃ p ∈ l, farP p)))
def c_psim (args : List Value) (Post : Value → Prop) : Prop := ∃ l : List Pt, args = [trPt l] ∧ l.length ≤ 32 ∧ (∀ p ∈ l, Nr p) ∧ Post (.bool (decide (simpleP l)))
def c_parea (args : List Value) (Post : Value → Prop) : Prop := ∃ l : List Pt, args = [trPt l] ∧ l.length ≤ 32 ∧ (∀ p ∈ l, Nr p) ∧ Post (.int .i64 (areaP l))
def c_pchk (args : List Value) (Post : Value → Prop) : Prop := ∃ l : List Pt, args = [trPt l] ∧ Short l ∧ Post (.int .i64 (polyCheck l))
def c_par2 (args : List Value) (Post : Value → Prop) : Prop := ∃ l : List Pt, args = [trPt l] ∧ Short l ∧ Post (.int .i64 (area2P l))
def c_pmom (args : List Value) (Post : Value → Prop) : Prop := ∃ l : List Pt, args = [trPt l] ∧ Short l ∧ Post (.tuple #[.int .i64 (mom6X l), .int .i64 (mom6Y l)])
def c_pwhere (args : List Value) (Post : Value → Prop) : Prop := ∃ (l : List Pt) (q : Pt), args = [trPt l, ptV q] ∧ Short l ∧ Post (.int .i64 (whereP l q))
def vcFar : VCall := inlCall Tryz.prog [196] noCall 2
theorem e_farI (n : Nat) (A : Array Value) (H : HT) (Post : PV) : vcP Tryz.prog vcFar 228 [(2, [0, 1, 7, 8])] [tree 2 n A, fnV 196] H Post = (T4 (T2 (H (lpC Tryz.prog 228 2) (lpK Tryz.prog 228 2) (stV [(0, some (tree 2 n A)), (1, some (Value.func (Fn.func 196) #[] #[])), (7, some (vi (↑n : Int))), (8, some (vi 0))] [] 0)))) := by kernel_rfl
theorem l_farI (n : Nat) (k : Int) (A : Array Value) (H : HT) (Post : PV) : vcLP Tryz.prog vcFar 228 [tree 2 n A, fnV 196] [(2, [0, 1, 7, 8])] 2 (stV [(0, some (tree 2 n A)), (1, some (fnV 196)), (7, some (.int .i64 n)), (8, some (.int .i64 k))] [] 0) H Post = (True ∧ pIf (decide (k < (↑n : Int))) (T4 (True ∧ (0 ≤ k ∧ k < (↑n : Int)) ∧ (cellAt A (Int.toNat k) 0 = vi (toI (cellAt A (Int.toNat k) 0)) ∧ cellAt A (Int.toNat k) 1 = vi (toI (cellAt A (Int.toNat k) 1)) ∧ True) ∧ T4 (True ∧ pIf (decide (toI (cellAt A (Int.toNat k) 0) < -32768)) (T8 (T2 (Post (vi k)))) (T4 (pIf (decide (toI (cellAt A (Int.toNat k) 0) > 32768)) (T8 (True ∧ Post (vi k))) (T4 (True ∧ pIf (decide (toI (cellAt A (Int.toNat k) 1) < -32768)) (T4 (T2 (True ∧ Post (vi k)))) (T4 (True ∧ pIf (decide (toI (cellAt A (Int.toNat k) 1) > 32768)) (T4 (True ∧ Post (vi k))) (T4 (T2 (H (lpC Tryz.prog 228 2) (lpK Tryz.prog 228 2) (stV [(0, some (tree 2 n A)), (1, some (Value.func (Fn.func 196) #[] #[])), (7, some (vi (↑n : Int))), (8, some (vi (IntKind.wrap IntKind.i64 (k + 1))))] [] 0))))))))))))) (T2 (Post (vi (-1))))) := by kernel_rfl
theorem e_pfar (n : Nat) (A : Array Value) (H : HT) (Post : PV) : vcP Tryz.prog (tabCall [⟨228, c_farI⟩] noCall) 195 [] [tree 2 n A, fnV 196] H Post = (T2 (True ∧ ∃ (l : List Pt), eqL [tree 2 n A, fnV 196] [trPt l, fnV 196] ∧ Short l ∧ ∀ (i : Int), (0 ≤ i ↔ ∃ (p : Pt), p ∈ l ∧ farP p) → True ∧ pIf (decide (i ≥ 0)) (T2 (Post (vb true))) (T2 (Post (vb false))))) := by kernel_rfl
theorem e_parea (n : Nat) (A : Array Value) (H : HT) (Post : PV) : vcP Tryz.prog noCall 198 [(3, [0, 3, 7, 8, 9])] [tree 2 n A] H Post = (T4 (T2 (True ∧ H (lpC Tryz.prog 198 3) (lpK Tryz.prog 198 3) (stV [(0, some (tree 2 n A)), (3, some (vi 0)), (7, some (tree 2 n A)), (8, some (vi (↑n : Int))), (9, some (vi 0))] [] 0)))) := by kernel_rfl
theorem l_parea (n : Nat) (k s : Int) (A : Array Value) (H : HT) (Post : PV) : vcLP Tryz.prog noCall 198 [tree 2 n A] [(3, [0, 3, 7, 8, 9])] 3 (stV [(0, some (tree 2 n A)), (3, some (.int .i64 s)), (7, some (tree 2 n A)), (8, some (.int .i64 n)), (9, some (.int .i64 k))] [] 0) H Post = (let q2 := IntKind.wrap IntKind.i64 (k + 1); let q1 := (Int.toNat (Int.tmod q2 (↑n : Int))); True ∧ pIf (decide (k < (↑n : Int))) (True ∧ (0 ≤ k ∧ k < (↑n : Int)) ∧ (cellAt A (Int.toNat k) 0 = vi (toI (cellAt A (Int.toNat k) 0)) ∧ cellAt A (Int.toNat k) 1 = vi (toI (cellAt A (Int.toNat k) 1)) ∧ True) ∧ T2 (2 ≤ 2 ∧ T4 (True ∧ ((↑n : Int) = 0 → False) ∧ (0 ≤ Int.tmod q2 (↑n : Int) ∧ Int.tmod q2 (↑n : Int) < (↑n : Int)) ∧ (cellAt A q1 0 = vi (toI (cellAt A q1 0)) ∧ cellAt A q1 1 = vi (toI (cellAt A q1 1)) ∧ True) ∧ True ∧ 2 ≤ 2 ∧ T16 (T2 (H (lpC Tryz.prog 198 3) (lpK Tryz.prog 198 3) (stV [(0, some (tree 2 n A)), (3, some (vi (IntKind.wrap IntKind.i64 (s + IntKind.wrap IntKind.i64 (IntKind.wrap IntKind.i64 (toI (cellAt A (Int.toNat k) 0) * toI (cellAt A q1 1)) - IntKind.wrap IntKind.i64 (toI (cellAt A q1 0) * toI (cellAt A (Int.toNat k) 1))))))), (7, some (tree 2 n A)), (8, some (vi (↑n : Int))), (9, some (vi q2))] [] 0)))))) (T2 (True ∧ Post (vi s)))) := by kernel_rfl
def vcSim : VCall := tabCall [⟨229, c_cross⟩, ⟨230, c_meetP⟩] noCall
theorem e_psim (n : Nat) (A : Array Value) (H : HT) (Post : PV) : vcP Tryz.prog vcSim 197 [(3, [0, 3, 12, 13]), (12, [0, 3, 4, 5, 6, 8, 12, 13])] [tree 2 n A] H Post = (T8 (True ∧ H (lpC Tryz.prog 197 3) (lpK Tryz.prog 197 3) (stV [(0, some (tree 2 n A)), (3, some (vi (↑n : Int))), (12, some (vi (↑n : Int))), (13, some (vi 0))] [] 0))) := by kernel_rfl
theorem l_psim (n : Nat) (k : Int) (A : Array Value) (H : HT) (Post : PV) : vcLP Tryz.prog vcSim 197 [tree 2 n A] [(3, [0, 3, 12, 13]), (12, [0, 3, 4, 5, 6, 8, 12, 13])] 3 (stV [(0, some (tree 2 n A)), (3, some (.int .i64 n)), (12, some (.int .i64 n)), (13, some (.int .i64 k))] [] 0) H Post = (let q7 := cellAt A (Int.toNat k) 1; let q6 := cellAt A (Int.toNat k) 0; let q5 := IntKind.wrap IntKind.i64 (k + 2); let q1 := (Int.toNat (Int.tmod (IntKind.wrap IntKind.i64 (k + 1)) (↑n : Int))); let q4 := #[vi (toI (cellAt A q1 0)), vi (toI (cellAt A q1 1))]; let q3 := (stV [(0, some (tree 2 n A)), (3, some (vi (↑n : Int))), (4, some (vi k)), (5, some (pt 0)), (6, some (pt 1)), (8, some (vi q5)), (12, some (vi (↑n : Int))), (13, some (vi k))] [(0, some (AObj.cells [vi (toI q6), vi (toI q7)] true)), (1, some (AObj.cells [vi (toI (cellAt A q1 0)), vi (toI (cellAt A q1 1))] true))] 2); let q2 := (Int.toNat (Int.tmod q5 (↑n : Int))); True ∧ pIf (decide (k < (↑n : Int))) (T4 ((0 ≤ k ∧ k < (↑n : Int)) ∧ (cellAt A (Int.toNat k) 0 = vi (toI q6) ∧ cellAt A (Int.toNat k) 1 = vi (toI q7) ∧ True) ∧ T4 (((↑n : Int) = 0 → False) ∧ (0 ≤ Int.tmod (IntKind.wrap IntKind.i64 (k + 1)) (↑n : Int) ∧ Int.tmod (IntKind.wrap IntKind.i64 (k + 1)) (↑n : Int) < (↑n : Int)) ∧ (cellAt A q1 0 = vi (toI (cellAt A q1 0)) ∧ cellAt A q1 1 = vi (toI (cellAt A q1 1)) ∧ True) ∧ T2 (2 ≤ 2 ∧ ((Value.agg q4 = Value.agg q4 ∧ cellAt A q1 0 = vi (toI (cellAt A q1 0)) ∧ cellAt A q1 1 = vi (toI (cellAt A q1 1)) ∧ True) ∧ True) ∧ 2 ≤ 2 ∧ T4 (pIf (decide (toI q6 = toI (cellAt A q1 0)) && (decide (toI q7 = toI (cellAt A q1 1)) && true)) (T2 (Post (vb false))) (T4 (((↑n : Int) = 0 → False) ∧ (0 ≤ Int.tmod q5 (↑n : Int) ∧ Int.tmod q5 (↑n : Int) < (↑n : Int)) ∧ (cellAt A q2 0 = vi (toI (cellAt A q2 0)) ∧ cellAt A q2 1 = vi (toI (cellAt A q2 1)) ∧ True) ∧ True ∧ 2 ≤ 2 ∧ T2 (True ∧ ∃ (a : Pt), ∃ (b : Pt), ∃ (c : Pt), eqL [Value.agg #[vi (toI q6), vi (toI q7)], Value.agg q4, Value.agg #[vi (toI (cellAt A q2 0)), vi (toI (cellAt A q2 1))]] [ptV a, ptV b, ptV c] ∧ Nr a ∧ Nr b ∧ Nr c ∧ True ∧ pIf (decide (crossP a b c = 0)) (T16 (T8 (True ∧ pIf (decide (IntKind.wrap IntKind.i64 (IntKind.wrap IntKind.i64 (IntKind.wrap IntKind.i64 (toI q6 - toI (cellAt A q1 0)) * IntKind.wrap IntKind.i64 (toI (cellAt A q2 0) - toI (cellAt A q1 0))) + IntKind.wrap IntKind.i64 (IntKind.wrap IntKind.i64 (toI q7 - toI (cellAt A q1 1)) * IntKind.wrap IntKind.i64 (toI (cellAt A q2 1) - toI (cellAt A q1 1)))) > 0)) (T2 (True ∧ Post (vb false))) (T4 (True ∧ (T2 (True)) ∧ H (lpC Tryz.prog 197 12) (lpK Tryz.prog 197 12) q3))))) (T4 (T2 ((T2 (True)) ∧ H (lpC Tryz.prog 197 12) (lpK Tryz.prog 197 12) q3))))))))))) (T2 (Post (vb true)))) := by kernel_rfl
theorem m_psim (n : Nat) (k j : Int) (a b : Pt) (A : Array Value) (H : HT) (Post : PV) : vcLP Tryz.prog vcSim 197 [tree 2 n A] [(3, [0, 3, 12, 13]), (12, [0, 3, 4, 5, 6, 8, 12, 13])] 12 (stV [(0, some (tree 2 n A)), (3, some (.int .i64 n)), (4, some (.int .i64 k)), (5, some (.pointer (some ⟨0, 0, none⟩))), (6, some (.pointer (some ⟨1, 0, none⟩))), (8, some (.int .i64 j)), (12, some (.int .i64 n)), (13, some (.int .i64 k))] [(0, some (.cells [.int .i64 a.x, .int .i64 a.y] true)), (1, some (.cells [.int .i64 b.x, .int .i64 b.y] true))] 2) H Post = (let q3 := IntKind.wrap IntKind.i64 (j + 1); let q2 := (Int.toNat (Int.tmod q3 (↑n : Int))); let q1 := (T4 (T2 ((T2 (True)) ∧ H (lpC Tryz.prog 197 12) (lpK Tryz.prog 197 12) (stV [(0, some (tree 2 n A)), (3, some (vi (↑n : Int))), (4, some (vi k)), (5, some (pt 0)), (6, some (pt 1)), (8, some (vi q3)), (12, some (vi (↑n : Int))), (13, some (vi k))] [(0, some (AObj.cells [vi a.x, vi a.y] true)), (1, some (AObj.cells [vi b.x, vi b.y] true))] 2)))); T2 (True ∧ pIf (decide (j < (↑n : Int))) (T2 (True ∧ ((↑n : Int) = 0 → False) ∧ T2 (pIf (!decide (Int.tmod q3 (↑n : Int) = k)) (T4 (True ∧ (0 ≤ j ∧ j < (↑n : Int)) ∧ (cellAt A (Int.toNat j) 0 = vi (toI (cellAt A (Int.toNat j) 0)) ∧ cellAt A (Int.toNat j) 1 = vi (toI (cellAt A (Int.toNat j) 1)) ∧ True) ∧ T4 (((↑n : Int) = 0 → False) ∧ (0 ≤ Int.tmod q3 (↑n : Int) ∧ Int.tmod q3 (↑n : Int) < (↑n : Int)) ∧ (cellAt A q2 0 = vi (toI (cellAt A q2 0)) ∧ cellAt A q2 1 = vi (toI (cellAt A q2 1)) ∧ True) ∧ ∃ (a_1 : Pt), ∃ (b_1 : Pt), ∃ (c : Pt), ∃ (d : Pt), eqL [Value.agg #[vi a.x, vi a.y], Value.agg #[vi b.x, vi b.y], Value.agg #[vi (toI (cellAt A (Int.toNat j) 0)), vi (toI (cellAt A (Int.toNat j) 1))], Value.agg #[vi (toI (cellAt A q2 0)), vi (toI (cellAt A q2 1))]] [ptV a_1, ptV b_1, ptV c, ptV d] ∧ Nr a_1 ∧ Nr b_1 ∧ Nr c ∧ Nr d ∧ pIf (decide (meetP a_1 b_1 c d)) (T4 (Post (vb false))) q1))) q1))) (T4 (H (lpC Tryz.prog 197 3) (lpK Tryz.prog 197 3) (stV [(0, some (tree 2 n A)), (3, some (vi (↑n : Int))), (12, some (vi (↑n : Int))), (13, some (vi (IntKind.wrap IntKind.i64 (k + 1))))] [] 0))))) := by kernel_rfl
def vcPch : VCall := tabCall [⟨195, c_pfar⟩, ⟨197, c_psim⟩, ⟨198, c_parea⟩] noCall
theorem e_pchk (n : Nat) (A : Array Value) (H : HT) (Post : PV) : vcP Tryz.prog vcPch 120 [] [tree 2 n A] H Post = (T4 (pIf (decide ((↑n : Int) < 3)) (T2 (True ∧ Post (vi 3))) (T4 (pIf (decide ((↑n : Int) > 32)) (T2 (True ∧ Post (vi 4))) (T2 (∃ (l : List Pt), eqL [tree 2 n A, Value.func (Fn.func 196) #[] #[]] [trPt l, fnV 196] ∧ Short l ∧ pIf (decide (∃ (p : Pt), p ∈ l ∧ farP p)) (T2 (True ∧ Post (vi 9))) (T2 (∃ (l : List Pt), eqL [tree 2 n A] [trPt l] ∧ List.length l ≤ 32 ∧ (∀ (p : Pt), p ∈ l → Nr p) ∧ pIf (decide (simpleP l)) (T2 (True ∧ ∃ (l : List Pt), eqL [tree 2 n A] [trPt l] ∧ List.length l ≤ 32 ∧ (∀ (p : Pt), p ∈ l → Nr p) ∧ True ∧ pIf (decide (areaP l = 0)) (T4 (Post (vi 17))) (T4 (Post (vi 0))))) (T4 (T2 (Post (vi 17)))))))))))) := by kernel_rfl
def vcPar : VCall := tabCall [⟨120, c_pchk⟩, ⟨198, c_parea⟩] noCall
theorem e_par2 (n : Nat) (A : Array Value) (H : HT) (Post : PV) : vcP Tryz.prog vcPar 121 [] [tree 2 n A] H Post = (T2 (∃ (l : List Pt), eqL [tree 2 n A] [trPt l] ∧ Short l ∧ True ∧ pIf (!decide (polyCheck l = 0)) (T2 (Post (vi 0))) (True ∧ ∃ (l : List Pt), eqL [tree 2 n A] [trPt l] ∧ List.length l ≤ 32 ∧ (∀ (p : Pt), p ∈ l → Nr p) ∧ T2 (Post (vi (areaP l)))))) := by kernel_rfl
theorem e_pmom (n : Nat) (A : Array Value) (H : HT) (Post : PV) : vcP Tryz.prog vcPar 141 [(4, [0, 2, 3, 11, 12, 13])] [tree 2 n A] H Post = (T2 (True ∧ ∃ (l : List Pt), eqL [tree 2 n A] [trPt l] ∧ Short l ∧ True ∧ pIf (!decide (polyCheck l = 0)) (T2 ((T2 (True)) ∧ Post (Value.tuple #[vi 0, vi 0]))) (T4 (True ∧ H (lpC Tryz.prog 141 4) (lpK Tryz.prog 141 4) (stV [(0, some (tree 2 n A)), (2, some (vi 0)), (3, some (vi 0)), (11, some (tree 2 n A)), (12, some (vi (↑n : Int))), (13, some (vi 0))] [] 0))))) := by kernel_rfl
theorem l_pmom (n : Nat) (k s t : Int) (A : Array Value) (H : HT) (Post : PV) : vcLP Tryz.prog vcPar 141 [tree 2 n A] [(4, [0, 2, 3, 11, 12, 13])] 4 (stV [(0, some (tree 2 n A)), (2, some (.int .i64 s)), (3, some (.int .i64 t)), (11, some (tree 2 n A)), (12, some (.int .i64 n)), (13, some (.int .i64 k))] [] 0) H Post = (let q3 := IntKind.wrap IntKind.i64 (k + 1); let q1 := (Int.toNat (Int.tmod q3 (↑n : Int))); let q2 := IntKind.wrap IntKind.i64 (toI (cellAt A (Int.toNat k) 0) * toI (cellAt A q1 1)) - IntKind.wrap IntKind.i64 (toI (cellAt A q1 0) * toI (cellAt A (Int.toNat k) 1)); True ∧ pIf (decide (k < (↑n : Int))) (True ∧ (0 ≤ k ∧ k < (↑n : Int)) ∧ (cellAt A (Int.toNat k) 0 = vi (toI (cellAt A (Int.toNat k) 0)) ∧ cellAt A (Int.toNat k) 1 = vi (toI (cellAt A (Int.toNat k) 1)) ∧ True) ∧ T2 (2 ≤ 2 ∧ T4 (True ∧ ((↑n : Int) = 0 → False) ∧ (0 ≤ Int.tmod q3 (↑n : Int) ∧ Int.tmod q3 (↑n : Int) < (↑n : Int)) ∧ (cellAt A q1 0 = vi (toI (cellAt A q1 0)) ∧ cellAt A q1 1 = vi (toI (cellAt A q1 1)) ∧ True) ∧ True ∧ 2 ≤ 2 ∧ T32 (T4 (H (lpC Tryz.prog 141 4) (lpK Tryz.prog 141 4) (stV [(0, some (tree 2 n A)), (2, some (vi (IntKind.wrap IntKind.i64 (s + IntKind.wrap IntKind.i64 (IntKind.wrap IntKind.i64 (toI (cellAt A (Int.toNat k) 0) + toI (cellAt A q1 0)) * IntKind.wrap IntKind.i64 q2))))), (3, some (vi (IntKind.wrap IntKind.i64 (t + IntKind.wrap IntKind.i64 (IntKind.wrap IntKind.i64 (toI (cellAt A (Int.toNat k) 1) + toI (cellAt A q1 1)) * IntKind.wrap IntKind.i64 q2))))), (11, some (tree 2 n A)), (12, some (vi (↑n : Int))), (13, some (vi q3))] [] 0)))))) (T4 ((T2 (True)) ∧ Post (Value.tuple #[vi s, vi t])))) := by kernel_rfl
def vcWh : VCall := inlCall Tryz.prog [196] (tabCall [⟨120, c_pchk⟩, ⟨234, c_onP⟩, ⟨229, c_cross⟩] noCall) 2
theorem e_pwhere (n : Nat) (q : Pt) (A : Array Value) (H : HT) (Post : PV) : vcP Tryz.prog vcWh 202 [(5, [0, 3, 5, 17, 18, 19])] [tree 2 n A, ptV q] H Post = (T8 (pIf (decide (q.x < -32768)) (T8 (T2 (True ∧ Post (vi (-1))))) (T4 (pIf (decide (q.x > 32768)) (T8 (T2 (Post (vi (-1))))) (T4 (True ∧ pIf (decide (q.y < -32768)) (T8 (Post (vi (-1)))) (T4 (True ∧ pIf (decide (q.y > 32768)) (T4 (T2 (Post (vi (-1))))) (T4 (∃ (l : List Pt), eqL [tree 2 n A] [trPt l] ∧ Short l ∧ True ∧ pIf (!decide (polyCheck l = 0)) (T2 (True ∧ Post (vi (-1)))) (T4 (T2 ((True ∧ True) ∧ H (lpC Tryz.prog 202 5) (lpK Tryz.prog 202 5) (stV [(0, some (tree 2 n A)), (3, some (pt 0)), (5, some (vb false)), (17, some (tree 2 n A)), (18, some (vi (↑n : Int))), (19, some (vi 0))] [(0, some (AObj.cells [vi q.x, vi q.y] true))] 1)))))))))))))) := by kernel_rfl
theorem l_pwhere (n : Nat) (k : Int) (q : Pt) (b : Bool) (A : Array Value) (H : HT) (Post : PV) : vcLP Tryz.prog vcWh 202 [tree 2 n A, ptV q] [(5, [0, 3, 5, 17, 18, 19])] 5 (stV [(0, some (tree 2 n A)), (3, some (.pointer (some ⟨0, 0, none⟩))), (5, some (.bool b)), (17, some (tree 2 n A)), (18, some (.int .i64 n)), (19, some (.int .i64 k))] [(0, some (.cells [.int .i64 q.x, .int .i64 q.y] true))] 1) H Post = (let q7 := [(0, some (AObj.cells [vi q.x, vi q.y] true))]; let q6 := IntKind.wrap IntKind.i64 (k + 1); let q3 := (Int.toNat (Int.tmod q6 (↑n : Int))); let q5 := decide (toI (cellAt A q3 1) > toI (cellAt A (Int.toNat k) 1)); let q4 := [Value.agg #[vi (toI (cellAt A (Int.toNat k) 0)), vi (toI (cellAt A (Int.toNat k) 1))], Value.agg #[vi (toI (cellAt A q3 0)), vi (toI (cellAt A q3 1))], Value.agg #[vi q.x, vi q.y]]; let q2 := (T4 ((True ∧ True) ∧ H (lpC Tryz.prog 202 5) (lpK Tryz.prog 202 5) (stV [(0, some (tree 2 n A)), (3, some (pt 0)), (5, some (vb b)), (17, some (tree 2 n A)), (18, some (vi (↑n : Int))), (19, some (vi q6))] q7 1))); let q1 := (T2 (pIf b (T4 (True ∧ (True ∧ True) ∧ H (lpC Tryz.prog 202 5) (lpK Tryz.prog 202 5) (stV [(0, some (tree 2 n A)), (3, some (pt 0)), (5, some (vb false)), (17, some (tree 2 n A)), (18, some (vi (↑n : Int))), (19, some (vi q6))] q7 1))) (T4 (True ∧ (True ∧ True) ∧ H (lpC Tryz.prog 202 5) (lpK Tryz.prog 202 5) (stV [(0, some (tree 2 n A)), (3, some (pt 0)), (5, some (vb true)), (17, some (tree 2 n A)), (18, some (vi (↑n : Int))), (19, some (vi q6))] q7 1))))); True ∧ pIf (decide (k < (↑n : Int))) (True ∧ (0 ≤ k ∧ k < (↑n : Int)) ∧ (cellAt A (Int.toNat k) 0 = vi (toI (cellAt A (Int.toNat k) 0)) ∧ cellAt A (Int.toNat k) 1 = vi (toI (cellAt A (Int.toNat k) 1)) ∧ True) ∧ T2 (2 ≤ 2 ∧ T4 (True ∧ ((↑n : Int) = 0 → False) ∧ (0 ≤ Int.tmod q6 (↑n : Int) ∧ Int.tmod q6 (↑n : Int) < (↑n : Int)) ∧ (cellAt A q3 0 = vi (toI (cellAt A q3 0)) ∧ cellAt A q3 1 = vi (toI (cellAt A q3 1)) ∧ True) ∧ True ∧ 2 ≤ 2 ∧ T2 (True ∧ ∃ (a : Pt), ∃ (b_1 : Pt), ∃ (q_1 : Pt), eqL q4 [ptV a, ptV b_1, ptV q_1] ∧ Nr a ∧ Nr b_1 ∧ Nr q_1 ∧ pIf (decide (onP a b_1 q_1)) (T2 (Post (vi 0))) (T4 (True ∧ pIf (decide (toI (cellAt A (Int.toNat k) 1) > q.y)) (T4 (True ∧ pIf (decide (toI (cellAt A q3 1) > q.y)) q2 (T4 (∃ (a : Pt), ∃ (b_2 : Pt), ∃ (c : Pt), eqL q4 [ptV a, ptV b_2, ptV c] ∧ Nr a ∧ Nr b_2 ∧ Nr c ∧ True ∧ pIf (decide (crossP a b_2 c > 0)) (T4 (T2 (True ∧ pIf q5 q1 q2))) (T4 (T2 (True ∧ pIf q5 q2 q1))))))) (T4 (True ∧ pIf (decide (toI (cellAt A q3 1) > q.y)) (T4 (∃ (a : Pt), ∃ (b_2 : Pt), ∃ (c : Pt), eqL q4 [ptV a, ptV b_2, ptV c] ∧ Nr a ∧ Nr b_2 ∧ Nr c ∧ True ∧ pIf (decide (crossP a b_2 c > 0)) (T4 (T2 (True ∧ pIf q5 q1 q2))) (T4 (T2 (True ∧ pIf q5 q2 q1))))) q2)))))))) (True ∧ pIf b (T2 (Post (vi 1))) (T2 (Post (vi (-1)))))) := by kernel_rfl
theorem tmN (m n : Nat) : Int.tmod (m : Int) (n : Int) = ((m % n : Nat) : Int) := (Int.ofNat_tmod m n).symm
theorem wrap2 {k : Nat} (h : k < 2 ^ 60) : IntKind.wrap .i64 ((k : Int) + 2) = ((k + 2 : Nat) : Int) := by rw [wrap64 (by omega) (by omega)]; omega
theorem cell_cyc {l : List Pt} (h : 0 < l.length) (k : Nat) : cellAt (encL l) (k % l.length) 0 = .int .i64 (cyc l k).x ∧ cellAt (encL l) (k % l.length) 1 = .int .i64 (cyc l k).y := by
 have hk := Nat.mod_lt k h
 obtain ⟨h1, h2⟩ := cell_pt hk
 unfold cyc
 rw [cor_at hk]
 exact ⟨h1, h2⟩
theorem cell_cyc0 {l : List Pt} {k : Nat} (h : k < l.length) : cellAt (encL l) k 0 = .int .i64 (cyc l k).x ∧ cellAt (encL l) k 1 = .int .i64 (cyc l k).y := by
 have := cell_cyc (l := l) (by omega) k
 rwa [Nat.mod_eq_of_lt h] at this
theorem near_cyc {l : List Pt} (h : ∀ p ∈ l, Nr p) (h0 : 0 < l.length) (k : Nat) : Nr (cyc l k) := h _ (cyc_mem h0 k)
theorem nr_far {p : Pt} : Nr p ↔ ¬ farP p := by
 unfold farP
 constructor
 ·intro h; have := h.h; omega
 ·intro h; exact ⟨by omega⟩
theorem ok_farI : EntOk Tryz.prog ⟨228, c_farI⟩ := by
 rintro args Post ⟨l, rfl, hs, h⟩
 refine pure_P (inlCall_ok mixed noCall_ok 2) mixed (by kernel_rfl) (by kernel_rfl) _ (e_farI l.length (encL l) _ _) ?_
 simp only [true_and]
 refine down (n := l.length) (p := fun k => (∀ i, i < k → ¬ farP (cyc l i)) → OkP 228 [trPt l, fnV 196] 2 Post (stV [(0, some (trPt l)), (1, some (fnV 196)), (7, some (.int .i64 l.length)), (8, some (.int .i64 k))] [] 0)) (fun hall => ?_) (fun k h1 ih hall => ?_) (fun i hi => by omega)
 ·refine ok_P (inlCall_ok mixed noCall_ok 2) mixed _ (l_farI l.length l.length (encL l) _ _) ?_
  simp only [true_and]
  refine ifD (fun hlt => by omega) (fun _ => h (-1) ⟨fun h => by omega, fun hp => ?_⟩)
  obtain ⟨p, hp, hf⟩ := hp
  obtain ⟨i, hi, rfl⟩ := List.mem_iff_getElem.1 hp
  have := hall i hi
  rw [cyc_lt hi, cor_at hi] at this
  exact absurd hf this
 ·refine ok_P (inlCall_ok mixed noCall_ok 2) mixed _ (l_farI l.length k (encL l) _ _) ?_
  have hk : ((k : Nat) : Int).toNat = k := Int.toNat_natCast k
  have yes : farP (cyc l k) → Post (.int .i64 k) := fun hf => h k ⟨fun _ => ⟨_, cyc_mem (by omega) k, hf⟩, fun _ => by omega⟩
  obtain ⟨c0, c1⟩ := cell_cyc0 h1
  simp only [true_and, and_true, hk, c0, c1, toI_int, wrapSucc (show k < 2 ^ 62 by omega)]
  refine ifD (fun _ => ⟨⟨by omega, by omega⟩, ?_⟩) (fun h' => by omega)
  refine ifD (fun hf => yes (.inl hf)) (fun f1 => ?_)
  refine ifD (fun hf => yes (.inr (.inl hf))) (fun f2 => ?_)
  refine ifD (fun hf => yes (.inr (.inr (.inl hf)))) (fun f3 => ?_)
  refine ifD (fun hf => yes (.inr (.inr (.inr hf)))) (fun f4 => ?_)
  refine ih fun i hi => ?_
  rcases Nat.lt_or_ge i k with h' | h'
  ·exact hall i h'
  ·rw [show i = k by omega]
   unfold farP
   omega
theorem ok_pfar : EntOk Tryz.prog ⟨195, c_pfar⟩ := by
 rintro args Post ⟨l, rfl, hs, h⟩
 refine pure_P (tabCall_ok (by
  intro e he
  simp only [List.mem_cons, List.not_mem_nil, or_false] at he
  subst he
  exact ok_farI) noCall_ok) mixed (by kernel_rfl) (by kernel_rfl) _ (e_pfar l.length (encL l) _ _) ?_
 simp only [true_and]
 refine ⟨l, rfl, hs, fun i hi => ifD (fun h1 => ?_) (fun h1 => ?_)⟩
 ·rwa [decide_eq_true (hi.1 h1)] at h
 ·rwa [decide_eq_false (fun hp => h1 (hi.2 hp))] at h
theorem share_bd {a b : Pt} (ha : Nr a) (hb : Nr b) : -2147483648 ≤ a.x * b.y - b.x * a.y ∧ a.x * b.y - b.x * a.y ≤ 2147483648 := by
 have h1 := ha.h; have h2 := hb.h
 have m1 := mul_bd (a := a.x) (b := b.y) (A := 32768) (B := 32768) (by omega) (by omega)
 have m2 := mul_bd (a := b.x) (b := a.y) (A := 32768) (B := 32768) (by omega) (by omega)
 omega
theorem share_wrap {a b : Pt} (ha : Nr a) (hb : Nr b) : IntKind.wrap .i64 (IntKind.wrap .i64 (a.x * b.y) - IntKind.wrap .i64 (b.x * a.y)) = a.x * b.y - b.x * a.y := by
 have h1 := ha.h; have h2 := hb.h
 have m1 := mul_bd (a := a.x) (b := b.y) (A := 32768) (B := 32768) (by omega) (by omega)
 have m2 := mul_bd (a := b.x) (b := a.y) (A := 32768) (B := 32768) (by omega) (by omega)
 rw [wrap64 (n := a.x * b.y) (by omega) (by omega), wrap64 (n := b.x * a.y) (by omega) (by omega), wrap64 (by omega) (by omega)]
theorem sumTo_bd {f : Nat → Int} {M : Int} (h : ∀ k, -M ≤ f k ∧ f k ≤ M) : ∀ k : Nat, -(M * (k : Int)) ≤ sumTo f k ∧ sumTo f k ≤ M * (k : Int)
 | 0 => by simp [sumTo]
 | k + 1 => by
  have h1 := h k
  have h2 := sumTo_bd h k
  have e : sumTo f (k + 1) = sumTo f k + f k := rfl
  rw [e, Int.natCast_succ, Int.mul_add]
  omega
theorem sum_wrap {f : Nat → Int} {M : Int} (h : ∀ k, -M ≤ f k ∧ f k ≤ M) (hM : M ≤ 140737488355328) {k : Nat} (hk : k < 32) : IntKind.wrap .i64 (sumTo f k + f k) = sumTo f (k + 1) := by
 have h1 := h k
 have h2 := sumTo_bd h k
 have h3 := Int.mul_le_mul_of_nonneg_left (show (k : Int) ≤ 32 by omega) (show 0 ≤ M by omega)
 rw [wrap64 (by omega) (by omega)]
 rfl
theorem shareP_bd {l : List Pt} (hn : ∀ p ∈ l, Nr p) (h0 : 0 < l.length) (k : Nat) : -2147483648 ≤ shareP l k ∧ shareP l k ≤ 2147483648 := share_bd (near_cyc hn h0 k) (near_cyc hn h0 (k + 1))
theorem ok_parea : EntOk Tryz.prog ⟨198, c_parea⟩ := by
 rintro args Post ⟨l, rfl, hs, hn, h⟩
 refine pure_P noCall_ok mixed (by kernel_rfl) (by kernel_rfl) _ (e_parea l.length (encL l) _ _) ?_
 simp only [true_and]
 refine down (n := l.length) (p := fun k => OkP 198 [trPt l] 3 Post (stV [(0, some (trPt l)), (3, some (.int .i64 (sumTo (shareP l) k))), (7, some (trPt l)), (8, some (.int .i64 l.length)), (9, some (.int .i64 k))] [] 0)) ?_ (fun k h1 ih => ?_)
 ·refine ok_P noCall_ok mixed _ (l_parea l.length l.length (sumTo (shareP l) l.length) (encL l) _ _) ?_
  simp only [true_and]
  exact ifD (fun hlt => by omega) (fun _ => h)
 ·refine ok_P noCall_ok mixed _ (l_parea l.length k (sumTo (shareP l) k) (encL l) _ _) ?_
  have h0 : 0 < l.length := by omega
  have hk : ((k : Nat) : Int).toNat = k := Int.toNat_natCast k
  have hk1 : (((k + 1) % l.length : Nat) : Int).toNat = (k + 1) % l.length := Int.toNat_natCast _
  have hm := Nat.mod_lt (k + 1) h0
  obtain ⟨c0, c1⟩ := cell_cyc0 h1
  obtain ⟨d0, d1⟩ := cell_cyc h0 (k + 1)
  have e1 := share_wrap (near_cyc hn h0 k) (near_cyc hn h0 (k + 1))
  have e2 : (cyc l k).x * (cyc l (k + 1)).y - (cyc l (k + 1)).x * (cyc l k).y = shareP l k := rfl
  rw [e2] at e1
  simp only [true_and, and_true, hk, tmN, hk1, c0, c1, d0, d1, toI_int, wrapSucc (show k < 2 ^ 62 by omega), e1, sum_wrap (shareP_bd hn h0) (by decide) (show k < 32 by omega)]
  exact ifD (fun _ => ⟨⟨by omega, by omega⟩, by decide, fun h => by omega, ⟨by omega, by omega⟩, by decide, ih⟩) (fun h' => by omega)
theorem dot_wrap {a b c : Pt} (ha : Nr a) (hb : Nr b) (hc : Nr c) : IntKind.wrap .i64 (IntKind.wrap .i64 (IntKind.wrap .i64 (a.x - b.x) * IntKind.wrap .i64 (c.x - b.x)) + IntKind.wrap .i64 (IntKind.wrap .i64 (a.y - b.y) * IntKind.wrap .i64 (c.y - b.y))) = dotP a b c := by
 have h1 := ha.h; have h2 := hb.h; have h3 := hc.h
 have m1 := mul_bd (a := a.x - b.x) (b := c.x - b.x) (A := 65536) (B := 65536) (by omega) (by omega)
 have m2 := mul_bd (a := a.y - b.y) (b := c.y - b.y) (A := 65536) (B := 65536) (by omega) (by omega)
 rw [wrap64 (n := a.x - b.x) (by omega) (by omega), wrap64 (n := c.x - b.x) (by omega) (by omega), wrap64 (n := a.y - b.y) (by omega) (by omega), wrap64 (n := c.y - b.y) (by omega) (by omega), wrap64 (n := (a.x - b.x) * (c.x - b.x)) (by omega) (by omega), wrap64 (n := (a.y - b.y) * (c.y - b.y)) (by omega) (by omega), wrap64 (by omega) (by omega)]
 rfl
theorem vcSim_ok : VCallOk Tryz.prog vcSim := tabCall_ok (by
 intro e he
 simp only [List.mem_cons, List.not_mem_nil, or_false] at he
 rcases he with rfl | rfl
 ·exact ok_cross
 ·exact ok_meetP) noCall_ok
theorem ok_psim : EntOk Tryz.prog ⟨197, c_psim⟩ := by
 rintro args Post ⟨l, rfl, hs, hn, h⟩
 have yes : simpleP l → Post (.bool true) := fun hp => by rwa [decide_eq_true hp] at h
 have no : ¬ simpleP l → Post (.bool false) := fun hp => by rwa [decide_eq_false hp] at h
 refine pure_P vcSim_ok mixed (by kernel_rfl) (by kernel_rfl) _ (e_psim l.length (encL l) _ _) ?_
 simp only [true_and]
 refine down (n := l.length) (p := fun k => (∀ i, i < k → ¬ badP l i) → OkP 197 [trPt l] 3 Post (stV [(0, some (trPt l)), (3, some (.int .i64 l.length)), (12, some (.int .i64 l.length)), (13, some (.int .i64 k))] [] 0)) (fun hall => ?_) (fun k h1 ih hall => ?_) (fun i hi => by omega)
 ·refine ok_P vcSim_ok mixed _ (l_psim l.length l.length (encL l) _ _) ?_
  simp only [true_and]
  exact ifD (fun hlt => by omega) (fun _ => yes hall)
 ·have h0 : 0 < l.length := by omega
  have bad : badP l k → Post (.bool false) := fun hb => no fun hp => hp k h1 hb
  have hk : ((k : Nat) : Int).toNat = k := Int.toNat_natCast k
  have hk1 : (((k + 1) % l.length : Nat) : Int).toNat = (k + 1) % l.length := Int.toNat_natCast _
  have hk2 : (((k + 2) % l.length : Nat) : Int).toNat = (k + 2) % l.length := Int.toNat_natCast _
  have hm := Nat.mod_lt (k + 1) h0
  have hm2 := Nat.mod_lt (k + 2) h0
  obtain ⟨c0, c1⟩ := cell_cyc0 h1
  obtain ⟨d0, d1⟩ := cell_cyc h0 (k + 1)
  obtain ⟨f0, f1⟩ := cell_cyc h0 (k + 2)
  have n0 := near_cyc hn h0 k
  have n1 := near_cyc hn h0 (k + 1)
  have n2 := near_cyc hn h0 (k + 2)
  -- the inner loop
  have inner : cyc l k ≠ cyc l (k + 1) → ¬ (crossP (cyc l k) (cyc l (k + 1)) (cyc l (k + 2)) = 0 ∧ 0 < dotP (cyc l k) (cyc l (k + 1)) (cyc l (k + 2))) → OkP 197 [trPt l] 12 Post (stV [(0, some (trPt l)), (3, some (.int .i64 l.length)), (4, some (.int .i64 k)), (5, some (.pointer (some ⟨0, 0, none⟩))), (6, some (.pointer (some ⟨1, 0, none⟩))), (8, some (.int .i64 ((k + 2 : Nat) : Int))), (12, some (.int .i64 l.length)), (13, some (.int .i64 k))] [(0, some (.cells [.int .i64 (cyc l k).x, .int .i64 (cyc l k).y] true)), (1, some (.cells [.int .i64 (cyc l (k + 1)).x, .int .i64 (cyc l (k + 1)).y] true))] 2) := fun g1 g2 => by
   have key : ∀ r j : Nat, j + r = l.length + 2 → k + 2 ≤ j → (∀ t, t < j → t < l.length → k + 2 ≤ t → ¬ clashP l k t) → OkP 197 [trPt l] 12 Post (stV [(0, some (trPt l)), (3, some (.int .i64 l.length)), (4, some (.int .i64 k)), (5, some (.pointer (some ⟨0, 0, none⟩))), (6, some (.pointer (some ⟨1, 0, none⟩))), (8, some (.int .i64 j)), (12, some (.int .i64 l.length)), (13, some (.int .i64 k))] [(0, some (.cells [.int .i64 (cyc l k).x, .int .i64 (cyc l k).y] true)), (1, some (.cells [.int .i64 (cyc l (k + 1)).x, .int .i64 (cyc l (k + 1)).y] true))] 2) := by
    intro r
    induction r with
    | zero =>
     intro j hj hkj hc
     refine ok_P vcSim_ok mixed _ (m_psim l.length k j (cyc l k) (cyc l (k + 1)) (encL l) _ _) ?_
     simp only [true_and, and_true, wrapSucc (show k < 2 ^ 62 by omega)]
     refine ifD (fun hlt => by omega) (fun _ => ih fun i hi => ?_)
     rcases Nat.lt_or_ge i k with h' | h'
     ·exact hall i h'
     ·rw [show i = k by omega]
      rintro (b1 | b2 | ⟨t, t1, t2, t3⟩)
      ·exact g1 b1
      ·exact g2 b2
      ·exact hc t (by omega) t1 t2 t3
    | succ r ihr =>
     intro j hj hkj hc
     refine ok_P vcSim_ok mixed _ (m_psim l.length k j (cyc l k) (cyc l (k + 1)) (encL l) _ _) ?_
     have hj0 : ((j : Nat) : Int).toNat = j := Int.toNat_natCast j
     have hj1 : (((j + 1) % l.length : Nat) : Int).toNat = (j + 1) % l.length := Int.toNat_natCast _
     have hmj := Nat.mod_lt (j + 1) h0
     by_cases hjl : j < l.length
     ·obtain ⟨p0, p1⟩ := cell_cyc0 hjl
      obtain ⟨q0, q1⟩ := cell_cyc h0 (j + 1)
      simp only [true_and, and_true, hj0, tmN, hj1, p0, p1, q0, q1, toI_int, wrapSucc (show j < 2 ^ 62 by omega), wrapSucc (show k < 2 ^ 62 by omega)]
      have step : ¬ clashP l k j → OkP 197 [trPt l] 12 Post (stV [(0, some (trPt l)), (3, some (.int .i64 l.length)), (4, some (.int .i64 k)), (5, some (.pointer (some ⟨0, 0, none⟩))), (6, some (.pointer (some ⟨1, 0, none⟩))), (8, some (.int .i64 ((j + 1 : Nat) : Int))), (12, some (.int .i64 l.length)), (13, some (.int .i64 k))] [(0, some (.cells [.int .i64 (cyc l k).x, .int .i64 (cyc l k).y] true)), (1, some (.cells [.int .i64 (cyc l (k + 1)).x, .int .i64 (cyc l (k + 1)).y] true))] 2) := fun hn => ihr (j + 1) (by omega) (by omega) fun t t1 t2 t3 => by
       rcases Nat.lt_or_ge t j with h' | h'
       ·exact hc t h' t2 t3
       ·rw [show t = j by omega]; exact hn
      refine ifD (fun _ => ⟨fun h => by omega, ifN (fun hne => ⟨⟨by omega, by omega⟩, fun h => by omega, ⟨by omega, by omega⟩, cyc l k, cyc l (k + 1), cyc l j, cyc l (j + 1), rfl, n0, n1, near_cyc hn h0 j, near_cyc hn h0 (j + 1), ifD (fun hm => bad (.inr (.inr ⟨j, hjl, hkj, fun e => hne (by rw [e]), hm⟩))) (fun hm => step fun hcl => hm hcl.2)⟩) (fun he => step fun hcl => hcl.1 (by omega))⟩) (fun h' => by omega)
     ·simp only [true_and, and_true, wrapSucc (show k < 2 ^ 62 by omega)]
      refine ifD (fun hlt => by omega) (fun _ => ih fun i hi => ?_)
      rcases Nat.lt_or_ge i k with h' | h'
      ·exact hall i h'
      ·rw [show i = k by omega]
       rintro (b1 | b2 | ⟨t, t1, t2, t3⟩)
       ·exact g1 b1
       ·exact g2 b2
       ·exact hc t (by omega) t1 t2 t3
   exact key (l.length - k) (k + 2) (by omega) (by omega) fun t t1 _ t3 => by omega
  refine ok_P vcSim_ok mixed _ (l_psim l.length k (encL l) _ _) ?_
  have w2 : IntKind.wrap .i64 ((k : Int) + 2) = ((k + 2 : Nat) : Int) := by rw [wrap64 (by omega) (by omega)]; omega
  simp only [true_and, and_true, hk, tmN, wrapSucc (show k < 2 ^ 62 by omega), hk1, hk2, c0, c1, d0, d1, f0, f1, toI_int, w2, dot_wrap n0 n1 n2, Bool.and_true]
  refine ifD (fun _ => ⟨⟨by omega, by omega⟩, fun h => by omega, ⟨by omega, by omega⟩, by decide, by decide, pIf_intro (fun he => ?_) (fun he => ?_)⟩) (fun h' => by omega)
  ·rw [Bool.and_eq_true, decide_eq_true_eq, decide_eq_true_eq] at he
   exact bad (.inl (Pt.ext' he.1 he.2))
  ·have hne : cyc l k ≠ cyc l (k + 1) := fun e => by
    rw [e] at he
    simp at he
   refine ⟨fun h => by omega, ⟨by omega, by omega⟩, by decide, cyc l k, cyc l (k + 1), cyc l (k + 2), rfl, n0, n1, n2, ifD (fun hc => ifD (fun hd => bad (.inr (.inl ⟨hc, hd⟩))) (fun hd => inner hne fun g => hd g.2)) (fun hc => inner hne fun g => hc g.1)⟩
theorem vcPch_ok : VCallOk Tryz.prog vcPch := tabCall_ok (by
 intro e he
 simp only [List.mem_cons, List.not_mem_nil, or_false] at he
 rcases he with rfl | rfl | rfl
 ·exact ok_pfar
 ·exact ok_psim
 ·exact ok_parea) noCall_ok
theorem ok_pchk : EntOk Tryz.prog ⟨120, c_pchk⟩ := by
 rintro args Post ⟨l, rfl, hs, h⟩
 refine pure_P vcPch_ok mixed (by kernel_rfl) (by kernel_rfl) _ (e_pchk l.length (encL l) _ _) ?_
 simp only [true_and]
 unfold polyCheck at h
 refine ifD (fun h1 => ?_) (fun h1 => ?_)
 ·rwa [if_pos (by omega)] at h
 rw [if_neg (by omega)] at h
 refine ifD (fun h2 => ?_) (fun h2 => ?_)
 ·rwa [if_pos (by omega)] at h
 rw [if_neg (by omega)] at h
 refine ⟨l, rfl, hs, ifD (fun h3 => ?_) (fun h3 => ?_)⟩
 ·rwa [if_pos h3] at h
 rw [if_neg h3] at h
 have hn : ∀ p ∈ l, Nr p := fun p hp => nr_far.2 fun hf => h3 ⟨p, hp, hf⟩
 refine ⟨l, rfl, by omega, hn, ifD (fun h4 => ⟨l, rfl, by omega, hn, ifD (fun h5 => ?_) (fun h5 => ?_)⟩) (fun h4 => ?_)⟩
 ·rwa [if_pos (.inr h5)] at h
 ·rwa [if_neg (by rintro (h | h); exact h h4; exact h5 h)] at h
 ·rwa [if_pos (.inl h4)] at h
theorem vcPar_ok : VCallOk Tryz.prog vcPar := tabCall_ok (by
 intro e he
 simp only [List.mem_cons, List.not_mem_nil, or_false] at he
 rcases he with rfl | rfl
 ·exact ok_pchk
 ·exact ok_parea) noCall_ok
theorem check_near {l : List Pt} (h : polyCheck l = 0) : 3 ≤ l.length ∧ l.length ≤ 32 ∧ ∀ p ∈ l, Nr p := by
 obtain ⟨h1, h2, h3, _⟩ := check_zero h
 exact ⟨h1, h2, fun p hp => nr_far.2 (h3 p hp)⟩
theorem ok_par2 : EntOk Tryz.prog ⟨121, c_par2⟩ := by
 rintro args Post ⟨l, rfl, hs, h⟩
 refine pure_P vcPar_ok mixed (by kernel_rfl) (by kernel_rfl) _ (e_par2 l.length (encL l) _ _) ?_
 simp only [true_and]
 unfold area2P at h
 refine ⟨l, rfl, hs, ifN (fun h1 => ?_) (fun h1 => ?_)⟩
 ·rwa [if_neg h1] at h
 ·rw [if_pos h1] at h
  obtain ⟨_, g2, g3⟩ := check_near h1
  exact ⟨l, rfl, g2, g3, h⟩
theorem mom_bd {a b s : Int} (ha : -32768 ≤ a ∧ a ≤ 32768) (hb : -32768 ≤ b ∧ b ≤ 32768) (hs : -2147483648 ≤ s ∧ s ≤ 2147483648) : -140737488355328 ≤ (a + b) * s ∧ (a + b) * s ≤ 140737488355328 := by
 have := mul_bd (a := a + b) (b := s) (A := 65536) (B := 2147483648) (by omega) (by omega)
 omega
theorem mom_wrap {a b s : Int} (ha : -32768 ≤ a ∧ a ≤ 32768) (hb : -32768 ≤ b ∧ b ≤ 32768) (hs : -2147483648 ≤ s ∧ s ≤ 2147483648) : IntKind.wrap .i64 (IntKind.wrap .i64 (a + b) * s) = (a + b) * s := by
 have := mom_bd ha hb hs
 rw [wrap64 (n := a + b) (by omega) (by omega), wrap64 (by omega) (by omega)]
theorem momX_bd {l : List Pt} (hn : ∀ p ∈ l, Nr p) (h0 : 0 < l.length) (k : Nat) : -140737488355328 ≤ momX l k ∧ momX l k ≤ 140737488355328 := by
 have h1 := (near_cyc hn h0 k).h; have h2 := (near_cyc hn h0 (k + 1)).h
 exact mom_bd (by omega) (by omega) (shareP_bd hn h0 k)
theorem momY_bd {l : List Pt} (hn : ∀ p ∈ l, Nr p) (h0 : 0 < l.length) (k : Nat) : -140737488355328 ≤ momY l k ∧ momY l k ≤ 140737488355328 := by
 have h1 := (near_cyc hn h0 k).h; have h2 := (near_cyc hn h0 (k + 1)).h
 exact mom_bd (by omega) (by omega) (shareP_bd hn h0 k)
theorem ok_pmom : EntOk Tryz.prog ⟨141, c_pmom⟩ := by
 rintro args Post ⟨l, rfl, hs, h⟩
 refine pure_P vcPar_ok mixed (by kernel_rfl) (by kernel_rfl) _ (e_pmom l.length (encL l) _ _) ?_
 simp only [true_and]
 unfold mom6X mom6Y at h
 refine ⟨l, rfl, hs, ifN (fun h1 => ?_) (fun h1 => ?_)⟩
 ·rwa [if_neg h1, if_neg h1] at h
 rw [if_pos h1, if_pos h1] at h
 obtain ⟨g1, g2, hn⟩ := check_near h1
 refine down (n := l.length) (p := fun k => OkP 141 [trPt l] 4 Post (stV [(0, some (trPt l)), (2, some (.int .i64 (sumTo (momX l) k))), (3, some (.int .i64 (sumTo (momY l) k))), (11, some (trPt l)), (12, some (.int .i64 l.length)), (13, some (.int .i64 k))] [] 0)) ?_ (fun k h1 ih => ?_)
 ·refine ok_P vcPar_ok mixed _ (l_pmom l.length l.length (sumTo (momX l) l.length) (sumTo (momY l) l.length) (encL l) _ _) ?_
  simp only [true_and]
  exact ifD (fun hlt => by omega) (fun _ => h)
 ·refine ok_P vcPar_ok mixed _ (l_pmom l.length k (sumTo (momX l) k) (sumTo (momY l) k) (encL l) _ _) ?_
  have h0 : 0 < l.length := by omega
  have hk : ((k : Nat) : Int).toNat = k := Int.toNat_natCast k
  have hk1 : (((k + 1) % l.length : Nat) : Int).toNat = (k + 1) % l.length := Int.toNat_natCast _
  have hm := Nat.mod_lt (k + 1) h0
  obtain ⟨c0, c1⟩ := cell_cyc0 h1
  obtain ⟨d0, d1⟩ := cell_cyc h0 (k + 1)
  have n0 := near_cyc hn h0 k
  have n1 := near_cyc hn h0 (k + 1)
  have e1 := share_wrap n0 n1
  have e2 : (cyc l k).x * (cyc l (k + 1)).y - (cyc l (k + 1)).x * (cyc l k).y = shareP l k := rfl
  rw [e2] at e1
  have q0 := n0.h; have q1 := n1.h
  have e3 := mom_wrap (a := (cyc l k).x) (b := (cyc l (k + 1)).x) (by omega) (by omega) (shareP_bd hn h0 k)
  have e4 := mom_wrap (a := (cyc l k).y) (b := (cyc l (k + 1)).y) (by omega) (by omega) (shareP_bd hn h0 k)
  have e5 : ((cyc l k).x + (cyc l (k + 1)).x) * shareP l k = momX l k := rfl
  have e6 : ((cyc l k).y + (cyc l (k + 1)).y) * shareP l k = momY l k := rfl
  rw [e5] at e3
  rw [e6] at e4
  simp only [true_and, and_true, hk, tmN, hk1, c0, c1, d0, d1, toI_int, wrapSucc (show k < 2 ^ 62 by omega), e1, e3, e4, sum_wrap (momX_bd hn h0) (by decide) (show k < 32 by omega), sum_wrap (momY_bd hn h0) (by decide) (show k < 32 by omega)]
  exact ifD (fun _ => ⟨⟨by omega, by omega⟩, by decide, fun h => by omega, ⟨by omega, by omega⟩, by decide, ih⟩) (fun h' => by omega)
theorem vcWh_ok : VCallOk Tryz.prog vcWh := inlCall_ok mixed (tabCall_ok (by
 intro e he
 simp only [List.mem_cons, List.not_mem_nil, or_false] at he
 rcases he with rfl | rfl | rfl
 ·exact ok_pchk
 ·exact ok_onP
 ·exact ok_cross) noCall_ok) 2
theorem ok_pwhere : EntOk Tryz.prog ⟨202, c_pwhere⟩ := by
 rintro args Post ⟨l, q, rfl, hs, h⟩
 refine pure_P vcWh_ok mixed (by kernel_rfl) (by kernel_rfl) _ (e_pwhere l.length q (encL l) _ _) ?_
 simp only [true_and]
 unfold whereP at h
 have far : farP q → Post (.int .i64 (-1)) := fun hf => by rwa [if_pos (.inl hf)] at h
 refine ifD (fun f1 => far (.inl f1)) (fun f1 => ifD (fun f2 => far (.inr (.inl f2))) (fun f2 => ifD (fun f3 => far (.inr (.inr (.inl f3)))) (fun f3 => ifD (fun f4 => far (.inr (.inr (.inr f4)))) (fun f4 => ⟨l, rfl, hs, ifN (fun hc => ?_) (fun hc => ?_)⟩))))
 ·rwa [if_pos (.inr hc)] at h
 have hf : ¬ farP q := by unfold farP; omega
 have nq : Nr q := nr_far.2 hf
 rw [if_neg (by rintro (h | h); exact hf h; exact h hc)] at h
 obtain ⟨g1, g2, hn⟩ := check_near hc
 refine down (n := l.length) (p := fun k => (∀ i, i < k → ¬ onEdge l q i) → OkP 202 [trPt l, ptV q] 5 Post (stV [(0, some (trPt l)), (3, some (.pointer (some ⟨0, 0, none⟩))), (5, some (.bool (oddTo (hitP l q) k))), (17, some (trPt l)), (18, some (.int .i64 l.length)), (19, some (.int .i64 k))] [(0, some (.cells [.int .i64 q.x, .int .i64 q.y] true))] 1)) (fun hall => ?_) (fun k h1 ih hall => ?_) (fun i hi => by omega)
 ·refine ok_P vcWh_ok mixed _ (l_pwhere l.length l.length q (oddTo (hitP l q) l.length) (encL l) _ _) ?_
  rw [if_neg (by rintro ⟨i, hi, ho⟩; exact hall i hi ho)] at h
  simp only [true_and]
  refine ifD (fun hlt => by omega) (fun _ => pIf_intro (fun hb => ?_) (fun hb => ?_))
  ·rwa [hb, if_pos rfl] at h
  ·rwa [hb, if_neg (by decide)] at h
 ·refine ok_P vcWh_ok mixed _ (l_pwhere l.length k q (oddTo (hitP l q) k) (encL l) _ _) ?_
  have h0 : 0 < l.length := by omega
  have hk : ((k : Nat) : Int).toNat = k := Int.toNat_natCast k
  have hk1 : (((k + 1) % l.length : Nat) : Int).toNat = (k + 1) % l.length := Int.toNat_natCast _
  have hm := Nat.mod_lt (k + 1) h0
  obtain ⟨c0, c1⟩ := cell_cyc0 h1
  obtain ⟨d0, d1⟩ := cell_cyc h0 (k + 1)
  have n0 := near_cyc hn h0 k
  have n1 := near_cyc hn h0 (k + 1)
  simp only [true_and, and_true, hk, tmN, hk1, c0, c1, d0, d1, toI_int, wrapSucc (show k < 2 ^ 62 by omega)]
  have e : oddTo (hitP l q) (k + 1) = if hitP l q k then !oddTo (hitP l q) k else oddTo (hitP l q) k := rfl
  refine ifD (fun _ => ⟨⟨by omega, by omega⟩, by decide, fun h => by omega, ⟨by omega, by omega⟩, by decide, cyc l k, cyc l (k + 1), q, rfl, n0, n1, nq, ifD (fun ho => ?_) (fun ho => ?_)⟩) (fun h' => by omega)
  ·rwa [if_pos ⟨k, h1, ho⟩] at h
  have ih := ih fun i hi => by
   rcases Nat.lt_or_ge i k with h' | h'
   ·exact hall i h'
   ·rw [show i = k by omega]; exact ho
  rw [e] at ih
  have stay : ¬ hitP l q k → OkP 202 [trPt l, ptV q] 5 Post (stV [(0, some (trPt l)), (3, some (.pointer (some ⟨0, 0, none⟩))), (5, some (.bool (oddTo (hitP l q) k))), (17, some (trPt l)), (18, some (.int .i64 l.length)), (19, some (.int .i64 ((k + 1 : Nat) : Int)))] [(0, some (.cells [.int .i64 q.x, .int .i64 q.y] true))] 1) := fun hh => by
   rwa [if_neg hh] at ih
  have turn : ∀ b : Bool, hitP l q k → b = !oddTo (hitP l q) k → OkP 202 [trPt l, ptV q] 5 Post (stV [(0, some (trPt l)), (3, some (.pointer (some ⟨0, 0, none⟩))), (5, some (.bool b)), (17, some (trPt l)), (18, some (.int .i64 l.length)), (19, some (.int .i64 ((k + 1 : Nat) : Int)))] [(0, some (.cells [.int .i64 q.x, .int .i64 q.y] true))] 1) := fun b hh hb => by
   rw [if_pos hh] at ih
   rw [hb]
   exact ih
  refine ifD (fun y0 => ifD (fun y1 => stay (by unfold hitP; omega)) (fun y1 => ⟨cyc l k, cyc l (k + 1), q, rfl, n0, n1, nq, ifD (fun hc => ifD (fun hy => ?_) (fun hy => stay (by unfold hitP; omega))) (fun hc => ifD (fun hy => stay (by unfold hitP; omega)) (fun hy => ?_))⟩)) (fun y0 => ifD (fun y1 => ⟨cyc l k, cyc l (k + 1), q, rfl, n0, n1, nq, ifD (fun hc => ifD (fun hy => ?_) (fun hy => stay (by unfold hitP; omega))) (fun hc => ifD (fun hy => stay (by unfold hitP; omega)) (fun hy => ?_))⟩) (fun y1 => stay (by unfold hitP; omega)))
  all_goals exact pIf_intro (fun hb => turn _ (by unfold hitP; omega) (by rw [hb]; rfl)) (fun hb => turn _ (by unfold hitP; omega) (by rw [hb]; rfl))
def c_rOn (args : List Value) (Post : Value → Prop) : Prop := ∃ q a b : Pt, args = [ptV q, ptV a, ptV b] ∧ Nr q ∧ Nr a ∧ Nr b ∧ Post (.bool (decide (onP a b q)))
def c_rNear (args : List Value) (Post : Value → Prop) : Prop := ∃ q : Pt, args = [ptV q] ∧ Post (.bool (decide (¬ farP q)))
def c_rnear (args : List Value) (Post : Value → Prop) : Prop := ∃ l : List Pt, args = [trPt l] ∧ Short l ∧ Post (.bool (decide (∀ p ∈ l, ¬ farP p)))
def c_rsim (args : List Value) (Post : Value → Prop) : Prop := ∃ l : List Pt, args = [trPt l] ∧ l.length ≤ 32 ∧ (∀ p ∈ l, Nr p) ∧ Post (.bool (decide (rsimpleP l)))
theorem e_rTurn (a b c : Pt) (H : HT) (Post : PV) : vcP Tryz.prog noCall 210 [] [ptV a, ptV b, ptV c] H Post = (T16 (T8 (T4 (True ∧ Post (vi (IntKind.wrap IntKind.i64 (IntKind.wrap IntKind.i64 (IntKind.wrap IntKind.i64 (b.x - a.x) * IntKind.wrap IntKind.i64 (c.y - a.y)) - IntKind.wrap IntKind.i64 (IntKind.wrap IntKind.i64 (b.y - a.y) * IntKind.wrap IntKind.i64 (c.x - a.x))))))))) := by kernel_rfl
theorem e_r12sgn (n : Int) (H : HT) (Post : PV) : vcP Tryz.prog noCall 251 [] [.int .i64 n] H Post = (T2 (True ∧ pIf (decide (n < 0)) (T2 (True ∧ Post (vi (-1)))) (T2 (True ∧ pIf (decide (n > 0)) (T2 (True ∧ Post (vi 1))) (T2 (True ∧ Post (vi 0))))))) := by kernel_rfl
theorem e_rOn (q a b : Pt) (H : HT) (Post : PV) : vcP Tryz.prog (tabCall [⟨210, c_cross⟩] noCall) 209 [] [ptV q, ptV a, ptV b] H Post = (T4 (T2 (True ∧ ∃ (a_1 : Pt), ∃ (b_1 : Pt), ∃ (c : Pt), eqL [Value.agg #[vi a.x, vi a.y], Value.agg #[vi b.x, vi b.y], Value.agg #[vi q.x, vi q.y]] [ptV a_1, ptV b_1, ptV c] ∧ Nr a_1 ∧ Nr b_1 ∧ Nr c ∧ True ∧ pIf (decide (crossP a_1 b_1 c = 0)) (T8 (True ∧ pIf (decide ((if b.x < a.x then b.x else a.x) ≤ q.x)) (T8 (T2 (pIf (decide (q.x ≤ if b.x > a.x then b.x else a.x)) (T8 (T2 (pIf (decide ((if b.y < a.y then b.y else a.y) ≤ q.y)) (T8 (T2 (pIf (decide (q.y ≤ if b.y > a.y then b.y else a.y)) (T2 (True ∧ Post (vb true))) (T2 (True ∧ Post (vb false)))))) (T4 (True ∧ Post (vb false)))))) (T4 (T2 (True ∧ Post (vb false))))))) (T8 (True ∧ Post (vb false))))) (T8 (T2 (Post (vb false))))))) := by kernel_rfl
def vcRm : VCall := tabCall [⟨210, c_cross⟩, ⟨251, c_sgn⟩, ⟨209, c_rOn⟩] noCall
theorem e_rMeet (a b c d : Pt) (H : HT) (Post : PV) : vcP Tryz.prog vcRm 235 [] [ptV a, ptV b, ptV c, ptV d] H Post = (T8 (∃ (q : Pt), ∃ (a_1 : Pt), ∃ (b_1 : Pt), eqL [Value.agg #[vi a.x, vi a.y], Value.agg #[vi c.x, vi c.y], Value.agg #[vi d.x, vi d.y]] [ptV q, ptV a_1, ptV b_1] ∧ Nr q ∧ Nr a_1 ∧ Nr b_1 ∧ pIf (decide (onP a_1 b_1 q)) (T8 (Post (vb true))) (T4 (∃ (q : Pt), ∃ (a_2 : Pt), ∃ (b_2 : Pt), eqL [Value.agg #[vi b.x, vi b.y], Value.agg #[vi c.x, vi c.y], Value.agg #[vi d.x, vi d.y]] [ptV q, ptV a_2, ptV b_2] ∧ Nr q ∧ Nr a_2 ∧ Nr b_2 ∧ pIf (decide (onP a_2 b_2 q)) (T4 (T2 (True ∧ Post (vb true)))) (T4 (True ∧ ∃ (q : Pt), ∃ (a_3 : Pt), ∃ (b_3 : Pt), eqL [Value.agg #[vi c.x, vi c.y], Value.agg #[vi a.x, vi a.y], Value.agg #[vi b.x, vi b.y]] [ptV q, ptV a_3, ptV b_3] ∧ Nr q ∧ Nr a_3 ∧ Nr b_3 ∧ pIf (decide (onP a_3 b_3 q)) (T4 (True ∧ Post (vb true))) (T4 (True ∧ ∃ (q : Pt), ∃ (a_4 : Pt), ∃ (b_4 : Pt), eqL [Value.agg #[vi d.x, vi d.y], Value.agg #[vi a.x, vi a.y], Value.agg #[vi b.x, vi b.y]] [ptV q, ptV a_4, ptV b_4] ∧ Nr q ∧ Nr a_4 ∧ Nr b_4 ∧ pIf (decide (onP a_4 b_4 q)) (T2 (True ∧ Post (vb true))) (T4 (T2 (True ∧ ∃ (a_5 : Pt), ∃ (b_5 : Pt), ∃ (c_1 : Pt), eqL [Value.agg #[vi a.x, vi a.y], Value.agg #[vi b.x, vi b.y], Value.agg #[vi c.x, vi c.y]] [ptV a_5, ptV b_5, ptV c_1] ∧ Nr a_5 ∧ Nr b_5 ∧ Nr c_1 ∧ T2 (∃ (a_6 : Pt), ∃ (b_6 : Pt), ∃ (c_2 : Pt), eqL [Value.agg #[vi a.x, vi a.y], Value.agg #[vi b.x, vi b.y], Value.agg #[vi d.x, vi d.y]] [ptV a_6, ptV b_6, ptV c_2] ∧ Nr a_6 ∧ Nr b_6 ∧ Nr c_2 ∧ T4 (pIf (decide (IntKind.wrap IntKind.i64 (sgnZ (crossP a_5 b_5 c_1) * sgnZ (crossP a_6 b_6 c_2)) < 0)) (T4 (T2 (True ∧ ∃ (a_7 : Pt), ∃ (b_7 : Pt), ∃ (c_3 : Pt), eqL [Value.agg #[vi c.x, vi c.y], Value.agg #[vi d.x, vi d.y], Value.agg #[vi a.x, vi a.y]] [ptV a_7, ptV b_7, ptV c_3] ∧ Nr a_7 ∧ Nr b_7 ∧ Nr c_3 ∧ T2 (∃ (a : Pt), ∃ (b_8 : Pt), ∃ (c_4 : Pt), eqL [Value.agg #[vi c.x, vi c.y], Value.agg #[vi d.x, vi d.y], Value.agg #[vi b.x, vi b.y]] [ptV a, ptV b_8, ptV c_4] ∧ Nr a ∧ Nr b_8 ∧ Nr c_4 ∧ T4 (pIf (decide (IntKind.wrap IntKind.i64 (sgnZ (crossP a_7 b_7 c_3) * sgnZ (crossP a b_8 c_4)) < 0)) (T2 (True ∧ Post (vb true))) (T2 (True ∧ Post (vb false)))))))) (T4 (Post (vb false)))))))))))))))) := by kernel_rfl
theorem e_rNear (q : Pt) (H : HT) (Post : PV) : vcP Tryz.prog noCall 208 [] [ptV q] H Post = (T4 (True ∧ pIf (decide (q.x ≥ -32768)) (T4 (pIf (decide (q.x ≤ 32768)) (T4 (True ∧ pIf (decide (q.y ≥ -32768)) (T4 (True ∧ pIf (decide (q.y ≤ 32768)) (T2 (True ∧ Post (vb true))) (T2 (True ∧ Post (vb false))))) (T4 (True ∧ Post (vb false))))) (T4 (T2 (True ∧ Post (vb false)))))) (T8 (Post (vb false))))) := by kernel_rfl
def vcRn : VCall := tabCall [⟨208, c_rNear⟩] noCall
theorem e_rnear (n : Nat) (A : Array Value) (H : Code → List Fr → AS → Prop) (Post : Value → Prop) : vcP Tryz.prog vcRn 205 [(2, [0, 3])] [tree 2 n A] H Post = (True ∧ True ∧ True ∧ True ∧ H (lpC Tryz.prog 205 2) (lpK Tryz.prog 205 2) (stV [(0, some (tree 2 n A)), (3, some (Value.int IntKind.i64 0))] [] 0)) := by kernel_rfl
theorem l_rnear (n : Nat) (k : Int) (A : Array Value) (H : HT) (Post : PV) : vcLP Tryz.prog vcRn 205 [tree 2 n A] [(2, [0, 3])] 2 (stV [(0, some (tree 2 n A)), (3, some (.int .i64 k))] [] 0) H Post = (T4 (pIf (decide (k < (↑n : Int))) (T2 ((0 ≤ k ∧ k < (↑n : Int)) ∧ (cellAt A (Int.toNat k) 0 = vi (toI (cellAt A (Int.toNat k) 0)) ∧ cellAt A (Int.toNat k) 1 = vi (toI (cellAt A (Int.toNat k) 1)) ∧ True) ∧ ∃ (q : Pt), eqL [Value.agg #[vi (toI (cellAt A (Int.toNat k) 0)), vi (toI (cellAt A (Int.toNat k) 1))]] [ptV q] ∧ pIf (decide ¬farP q) (T4 (T2 (H (lpC Tryz.prog 205 2) (lpK Tryz.prog 205 2) (stV [(0, some (tree 2 n A)), (3, some (vi (IntKind.wrap IntKind.i64 (k + 1))))] [] 0)))) (T2 (True ∧ Post (vb false))))) (T2 (Post (vb true))))) := by kernel_rfl
def vcRs : VCall := tabCall [⟨209, c_rOn⟩, ⟨235, c_meetP⟩] noCall
abbrev lpRs : List (Nat × List Nat) := [(3, [0, 3, 4]), (6, [0, 3, 4, 5]), (11, [0, 3, 6]), (17, [0, 3, 6, 7, 8, 10])]
theorem e_rsim (n : Nat) (A : Array Value) (H : Code → List Fr → AS → Prop) (Post : Value → Prop) : vcP Tryz.prog vcRs 206 lpRs [tree 2 n A] H Post = (True ∧ True ∧ True ∧ True ∧ True ∧ True ∧ True ∧ H (lpC Tryz.prog 206 3) (lpK Tryz.prog 206 3) (stV [(0, some (tree 2 n A)), (3, some (Value.int IntKind.i64 (↑n : Int))), (4, some (Value.int IntKind.i64 0))] [] 0)) := by kernel_rfl
theorem l_rsim (n : Nat) (k : Int) (A : Array Value) (H : HT) (Post : PV) : vcLP Tryz.prog vcRs 206 [tree 2 n A] lpRs 3 (stV [(0, some (tree 2 n A)), (3, some (.int .i64 n)), (4, some (.int .i64 k))] [] 0) H Post = (T2 (True ∧ pIf (decide (k < (↑n : Int))) (T2 (True ∧ H (lpC Tryz.prog 206 6) (lpK Tryz.prog 206 6) (stV [(0, some (tree 2 n A)), (3, some (vi (↑n : Int))), (4, some (vi k)), (5, some (vi 0))] [] 0))) (T2 (True ∧ H (lpC Tryz.prog 206 11) (lpK Tryz.prog 206 11) (stV [(0, some (tree 2 n A)), (3, some (vi (↑n : Int))), (6, some (vi 0))] [] 0))))) := by kernel_rfl
theorem m_rsim (n : Nat) (k j : Int) (A : Array Value) (H : HT) (Post : PV) : vcLP Tryz.prog vcRs 206 [tree 2 n A] lpRs 6 (stV [(0, some (tree 2 n A)), (3, some (.int .i64 n)), (4, some (.int .i64 k)), (5, some (.int .i64 j))] [] 0) H Post = (T2 (True ∧ pIf (decide (j < k)) (T2 ((0 ≤ k ∧ k < (↑n : Int)) ∧ (cellAt A (Int.toNat k) 0 = vi (toI (cellAt A (Int.toNat k) 0)) ∧ cellAt A (Int.toNat k) 1 = vi (toI (cellAt A (Int.toNat k) 1)) ∧ True) ∧ T2 ((0 ≤ j ∧ j < (↑n : Int)) ∧ (cellAt A (Int.toNat j) 0 = vi (toI (cellAt A (Int.toNat j) 0)) ∧ cellAt A (Int.toNat j) 1 = vi (toI (cellAt A (Int.toNat j) 1)) ∧ True) ∧ True ∧ pIf (decide (toI (cellAt A (Int.toNat k) 0) = toI (cellAt A (Int.toNat j) 0)) && (decide (toI (cellAt A (Int.toNat k) 1) = toI (cellAt A (Int.toNat j) 1)) && true)) (T2 (Post (vb false))) (T4 (True ∧ H (lpC Tryz.prog 206 6) (lpK Tryz.prog 206 6) (stV [(0, some (tree 2 n A)), (3, some (vi (↑n : Int))), (4, some (vi k)), (5, some (vi (IntKind.wrap IntKind.i64 (j + 1))))] [] 0)))))) (T4 (True ∧ H (lpC Tryz.prog 206 3) (lpK Tryz.prog 206 3) (stV [(0, some (tree 2 n A)), (3, some (vi (↑n : Int))), (4, some (vi (IntKind.wrap IntKind.i64 (k + 1))))] [] 0))))) := by kernel_rfl
theorem n_rsim (n : Nat) (k : Int) (A : Array Value) (H : HT) (Post : PV) : vcLP Tryz.prog vcRs 206 [tree 2 n A] lpRs 11 (stV [(0, some (tree 2 n A)), (3, some (.int .i64 n)), (6, some (.int .i64 k))] [] 0) H Post = (let q8 := toI (cellAt A (Int.toNat k) 1); let q7 := toI (cellAt A (Int.toNat k) 0); let q6 := IntKind.wrap IntKind.i64 (k + 2); let q1 := (Int.toNat (Int.tmod q6 (↑n : Int))); let q3 := #[vi (toI (cellAt A q1 0)), vi (toI (cellAt A q1 1))]; let q5 := Value.agg q3 = Value.agg q3 ∧ cellAt A q1 0 = vi (toI (cellAt A q1 0)) ∧ cellAt A q1 1 = vi (toI (cellAt A q1 1)) ∧ True; let q2 := (Int.toNat (Int.tmod (IntKind.wrap IntKind.i64 (k + 1)) (↑n : Int))); let q4 := #[vi (toI (cellAt A q2 0)), vi (toI (cellAt A q2 1))]; T2 (True ∧ pIf (decide (k < (↑n : Int))) (T2 ((0 ≤ k ∧ k < (↑n : Int)) ∧ (cellAt A (Int.toNat k) 0 = vi q7 ∧ cellAt A (Int.toNat k) 1 = vi q8 ∧ True) ∧ T4 (((↑n : Int) = 0 → False) ∧ (0 ≤ Int.tmod (IntKind.wrap IntKind.i64 (k + 1)) (↑n : Int) ∧ Int.tmod (IntKind.wrap IntKind.i64 (k + 1)) (↑n : Int) < (↑n : Int)) ∧ (cellAt A q2 0 = vi (toI (cellAt A q2 0)) ∧ cellAt A q2 1 = vi (toI (cellAt A q2 1)) ∧ True) ∧ T4 (((↑n : Int) = 0 → False) ∧ (0 ≤ Int.tmod q6 (↑n : Int) ∧ Int.tmod q6 (↑n : Int) < (↑n : Int)) ∧ (cellAt A q1 0 = vi (toI (cellAt A q1 0)) ∧ cellAt A q1 1 = vi (toI (cellAt A q1 1)) ∧ True) ∧ T2 (True ∧ 2 ≤ 2 ∧ (q5 ∧ (Value.agg q4 = Value.agg q4 ∧ cellAt A q2 0 = vi (toI (cellAt A q2 0)) ∧ cellAt A q2 1 = vi (toI (cellAt A q2 1)) ∧ True) ∧ True) ∧ 2 ≤ 2 ∧ (q5 ∧ True) ∧ 2 ≤ 2 ∧ T4 (∃ (q : Pt), ∃ (a : Pt), ∃ (b : Pt), eqL [Value.agg #[vi q7, vi q8], Value.agg q4, Value.agg q3] [ptV q, ptV a, ptV b] ∧ Nr q ∧ Nr a ∧ Nr b ∧ pIf (decide (onP a b q)) (T4 (Post (vb false))) (T4 (∃ (q : Pt), ∃ (a : Pt), ∃ (b : Pt), eqL [Value.agg q3, Value.agg #[vi q7, vi q8], Value.agg q4] [ptV q, ptV a, ptV b] ∧ Nr q ∧ Nr a ∧ Nr b ∧ pIf (decide (onP a b q)) (T2 (True ∧ Post (vb false))) (T4 (True ∧ (T2 (True)) ∧ H (lpC Tryz.prog 206 17) (lpK Tryz.prog 206 17) (stV [(0, some (tree 2 n A)), (3, some (vi (↑n : Int))), (6, some (vi k)), (7, some (pt 0)), (8, some (pt 1)), (10, some (vi q6))] [(0, some (AObj.cells [vi q7, vi q8] true)), (1, some (AObj.cells [vi (toI (cellAt A q2 0)), vi (toI (cellAt A q2 1))] true))] 2))))))))))) (T2 (Post (vb true))))) := by kernel_rfl
theorem o_rsim (n : Nat) (k j : Int) (a b : Pt) (A : Array Value) (H : HT) (Post : PV) : vcLP Tryz.prog vcRs 206 [tree 2 n A] lpRs 17 (stV [(0, some (tree 2 n A)), (3, some (.int .i64 n)), (6, some (.int .i64 k)), (7, some (.pointer (some ⟨0, 0, none⟩))), (8, some (.pointer (some ⟨1, 0, none⟩))), (10, some (.int .i64 j))] [(0, some (.cells [.int .i64 a.x, .int .i64 a.y] true)), (1, some (.cells [.int .i64 b.x, .int .i64 b.y] true))] 2) H Post = (let q3 := IntKind.wrap IntKind.i64 (j + 1); let q2 := (Int.toNat (Int.tmod q3 (↑n : Int))); let q1 := (T4 (T2 ((T2 (True)) ∧ H (lpC Tryz.prog 206 17) (lpK Tryz.prog 206 17) (stV [(0, some (tree 2 n A)), (3, some (vi (↑n : Int))), (6, some (vi k)), (7, some (pt 0)), (8, some (pt 1)), (10, some (vi q3))] [(0, some (AObj.cells [vi a.x, vi a.y] true)), (1, some (AObj.cells [vi b.x, vi b.y] true))] 2)))); T2 (True ∧ pIf (decide (j < (↑n : Int))) (T2 (True ∧ ((↑n : Int) = 0 → False) ∧ T2 (pIf (!decide (Int.tmod q3 (↑n : Int) = k)) (T4 (True ∧ (0 ≤ j ∧ j < (↑n : Int)) ∧ (cellAt A (Int.toNat j) 0 = vi (toI (cellAt A (Int.toNat j) 0)) ∧ cellAt A (Int.toNat j) 1 = vi (toI (cellAt A (Int.toNat j) 1)) ∧ True) ∧ T4 (((↑n : Int) = 0 → False) ∧ (0 ≤ Int.tmod q3 (↑n : Int) ∧ Int.tmod q3 (↑n : Int) < (↑n : Int)) ∧ (cellAt A q2 0 = vi (toI (cellAt A q2 0)) ∧ cellAt A q2 1 = vi (toI (cellAt A q2 1)) ∧ True) ∧ ∃ (a_1 : Pt), ∃ (b_1 : Pt), ∃ (c : Pt), ∃ (d : Pt), eqL [Value.agg #[vi a.x, vi a.y], Value.agg #[vi b.x, vi b.y], Value.agg #[vi (toI (cellAt A (Int.toNat j) 0)), vi (toI (cellAt A (Int.toNat j) 1))], Value.agg #[vi (toI (cellAt A q2 0)), vi (toI (cellAt A q2 1))]] [ptV a_1, ptV b_1, ptV c, ptV d] ∧ Nr a_1 ∧ Nr b_1 ∧ Nr c ∧ Nr d ∧ pIf (decide (meetP a_1 b_1 c d)) (T4 (Post (vb false))) q1))) q1))) (T4 (True ∧ H (lpC Tryz.prog 206 11) (lpK Tryz.prog 206 11) (stV [(0, some (tree 2 n A)), (3, some (vi (↑n : Int))), (6, some (vi (IntKind.wrap IntKind.i64 (k + 1))))] [] 0))))) := by kernel_rfl
theorem e_rpchk (n : Nat) (A : Array Value) (H : HT) (Post : PV) : vcP Tryz.prog (tabCall [⟨205, c_rnear⟩, ⟨206, c_rsim⟩] noCall) 130 [] [tree 2 n A] H Post = (T4 (pIf (decide ((↑n : Int) < 3)) (T2 (Post (vi 3))) (T2 (True ∧ pIf (decide ((↑n : Int) > 32)) (T2 (Post (vi 4))) (True ∧ ∃ (l : List Pt), eqL [tree 2 n A] [trPt l] ∧ Short l ∧ pIf (decide (∀ (p : Pt), p ∈ l → ¬farP p)) (T2 (∃ (l : List Pt), eqL [tree 2 n A] [trPt l] ∧ List.length l ≤ 32 ∧ (∀ (p : Pt), p ∈ l → Nr p) ∧ pIf (decide (rsimpleP l)) (T2 (True ∧ Post (vi 0))) (T2 (True ∧ Post (vi 17))))) (T2 (True ∧ Post (vi 9)))))))) := by kernel_rfl
def vcRpa : VCall := tabCall [⟨130, c_pchk⟩] noCall
theorem e_rpar2 (n : Nat) (A : Array Value) (H : HT) (Post : PV) : vcP Tryz.prog vcRpa 131 [(5, [0, 3, 4])] [tree 2 n A] H Post = (T2 (∃ (l : List Pt), eqL [tree 2 n A] [trPt l] ∧ Short l ∧ True ∧ pIf (!decide (polyCheck l = 0)) (T2 (Post (vi 0))) (T4 (H (lpC Tryz.prog 131 5) (lpK Tryz.prog 131 5) (stV [(0, some (tree 2 n A)), (3, some (vi 0)), (4, some (vi 0))] [] 0))))) := by kernel_rfl
theorem l_rpar2 (n : Nat) (k s : Int) (A : Array Value) (H : HT) (Post : PV) : vcLP Tryz.prog vcRpa 131 [tree 2 n A] [(5, [0, 3, 4])] 5 (stV [(0, some (tree 2 n A)), (3, some (.int .i64 s)), (4, some (.int .i64 k))] [] 0) H Post = (let q2 := IntKind.wrap IntKind.i64 (k + 1); let q1 := (Int.toNat (Int.tmod q2 (↑n : Int))); T4 (pIf (decide (k < (↑n : Int))) (T2 ((0 ≤ k ∧ k < (↑n : Int)) ∧ (cellAt A (Int.toNat k) 0 = vi (toI (cellAt A (Int.toNat k) 0)) ∧ cellAt A (Int.toNat k) 1 = vi (toI (cellAt A (Int.toNat k) 1)) ∧ True) ∧ T4 (True ∧ ((↑n : Int) = 0 → False) ∧ (0 ≤ Int.tmod q2 (↑n : Int) ∧ Int.tmod q2 (↑n : Int) < (↑n : Int)) ∧ (cellAt A q1 0 = vi (toI (cellAt A q1 0)) ∧ cellAt A q1 1 = vi (toI (cellAt A q1 1)) ∧ True) ∧ T2 (2 ≤ 2 ∧ ((Value.agg #[vi (toI (cellAt A q1 0)), vi (toI (cellAt A q1 1))] = Value.agg #[vi (toI (cellAt A q1 0)), vi (toI (cellAt A q1 1))] ∧ cellAt A q1 0 = vi (toI (cellAt A q1 0)) ∧ cellAt A q1 1 = vi (toI (cellAt A q1 1)) ∧ True) ∧ True) ∧ 2 ≤ 2 ∧ T16 (T4 (H (lpC Tryz.prog 131 5) (lpK Tryz.prog 131 5) (stV [(0, some (tree 2 n A)), (3, some (vi (IntKind.wrap IntKind.i64 (IntKind.wrap IntKind.i64 (s + IntKind.wrap IntKind.i64 (toI (cellAt A (Int.toNat k) 0) * toI (cellAt A q1 1))) - IntKind.wrap IntKind.i64 (toI (cellAt A (Int.toNat k) 1) * toI (cellAt A q1 0)))))), (4, some (vi q2))] [] 0))))))) (T2 (True ∧ Post (vi s))))) := by kernel_rfl
theorem e_rpmom (n : Nat) (A : Array Value) (H : HT) (Post : PV) : vcP Tryz.prog vcRpa 143 [(5, [0, 4, 5, 6])] [tree 2 n A] H Post = (T2 (True ∧ ∃ (l : List Pt), eqL [tree 2 n A] [trPt l] ∧ Short l ∧ True ∧ pIf (!decide (polyCheck l = 0)) (T2 ((T2 (True)) ∧ Post (Value.tuple #[vi 0, vi 0]))) (T4 (True ∧ H (lpC Tryz.prog 143 5) (lpK Tryz.prog 143 5) (stV [(0, some (tree 2 n A)), (4, some (vi 0)), (5, some (vi 0)), (6, some (vi 0))] [] 0))))) := by kernel_rfl
theorem l_rpmom (n : Nat) (k s t : Int) (A : Array Value) (H : HT) (Post : PV) : vcLP Tryz.prog vcRpa 143 [tree 2 n A] [(5, [0, 4, 5, 6])] 5 (stV [(0, some (tree 2 n A)), (4, some (.int .i64 s)), (5, some (.int .i64 t)), (6, some (.int .i64 k))] [] 0) H Post = (let q3 := IntKind.wrap IntKind.i64 (k + 1); let q1 := (Int.toNat (Int.tmod q3 (↑n : Int))); let q2 := IntKind.wrap IntKind.i64 (toI (cellAt A (Int.toNat k) 0) * toI (cellAt A q1 1)) - IntKind.wrap IntKind.i64 (toI (cellAt A (Int.toNat k) 1) * toI (cellAt A q1 0)); T4 (pIf (decide (k < (↑n : Int))) (T2 ((0 ≤ k ∧ k < (↑n : Int)) ∧ (cellAt A (Int.toNat k) 0 = vi (toI (cellAt A (Int.toNat k) 0)) ∧ cellAt A (Int.toNat k) 1 = vi (toI (cellAt A (Int.toNat k) 1)) ∧ True) ∧ T4 (True ∧ ((↑n : Int) = 0 → False) ∧ (0 ≤ Int.tmod q3 (↑n : Int) ∧ Int.tmod q3 (↑n : Int) < (↑n : Int)) ∧ (cellAt A q1 0 = vi (toI (cellAt A q1 0)) ∧ cellAt A q1 1 = vi (toI (cellAt A q1 1)) ∧ True) ∧ T2 (2 ≤ 2 ∧ ((Value.agg #[vi (toI (cellAt A q1 0)), vi (toI (cellAt A q1 1))] = Value.agg #[vi (toI (cellAt A q1 0)), vi (toI (cellAt A q1 1))] ∧ cellAt A q1 0 = vi (toI (cellAt A q1 0)) ∧ cellAt A q1 1 = vi (toI (cellAt A q1 1)) ∧ True) ∧ True) ∧ 2 ≤ 2 ∧ T32 (T4 (T2 (H (lpC Tryz.prog 143 5) (lpK Tryz.prog 143 5) (stV [(0, some (tree 2 n A)), (4, some (vi (IntKind.wrap IntKind.i64 (s + IntKind.wrap IntKind.i64 (IntKind.wrap IntKind.i64 (toI (cellAt A (Int.toNat k) 0) + toI (cellAt A q1 0)) * IntKind.wrap IntKind.i64 q2))))), (5, some (vi (IntKind.wrap IntKind.i64 (t + IntKind.wrap IntKind.i64 (IntKind.wrap IntKind.i64 (toI (cellAt A (Int.toNat k) 1) + toI (cellAt A q1 1)) * IntKind.wrap IntKind.i64 q2))))), (6, some (vi q3))] [] 0)))))))) (T4 ((T2 (True)) ∧ Post (Value.tuple #[vi s, vi t]))))) := by kernel_rfl
def vcRwh : VCall := tabCall [⟨130, c_pchk⟩, ⟨208, c_rNear⟩, ⟨209, c_rOn⟩, ⟨210, c_cross⟩] noCall
theorem e_rpwhere (n : Nat) (q : Pt) (A : Array Value) (H : HT) (Post : PV) : vcP Tryz.prog vcRwh 133 [(5, [0, 3, 5, 6])] [tree 2 n A, ptV q] H Post = (T2 (True ∧ ∃ (l : List Pt), eqL [tree 2 n A] [trPt l] ∧ Short l ∧ True ∧ pIf (!decide (polyCheck l = 0)) (T4 (Post (vi (-1)))) (T2 (∃ (q_1 : Pt), eqL [Value.agg #[vi q.x, vi q.y]] [ptV q_1] ∧ pIf (decide ¬farP q_1) (T4 (True ∧ (True ∧ True) ∧ H (lpC Tryz.prog 133 5) (lpK Tryz.prog 133 5) (stV [(0, some (tree 2 n A)), (3, some (pt 0)), (5, some (vb false)), (6, some (vi 0))] [(0, some (AObj.cells [vi q.x, vi q.y] true))] 1))) (T4 (Post (vi (-1)))))))) := by kernel_rfl
theorem l_rpwhere (n : Nat) (k : Int) (q : Pt) (b : Bool) (A : Array Value) (H : HT) (Post : PV) : vcLP Tryz.prog vcRwh 133 [tree 2 n A, ptV q] [(5, [0, 3, 5, 6])] 5 (stV [(0, some (tree 2 n A)), (3, some (.pointer (some ⟨0, 0, none⟩))), (5, some (.bool b)), (6, some (.int .i64 k))] [(0, some (.cells [.int .i64 q.x, .int .i64 q.y] true))] 1) H Post = (let q14 := [(0, some (AObj.cells [vi q.x, vi q.y] true))]; let q11 := IntKind.wrap IntKind.i64 (k + 1); let q1 := (Int.toNat (Int.tmod q11 (↑n : Int))); let q13 := decide (toI (cellAt A q1 1) ≤ q.y); let q12 := #[vi (toI (cellAt A q1 0)), vi (toI (cellAt A q1 1))]; let q10 := cellAt A (Int.toNat k) 1; let q3 := stV [(0, some (tree 2 n A)), (3, some (pt 0)), (5, some (vb b)), (6, some (vi q11))] q14 1; let q9 := T8 (T4 (True ∧ (True ∧ True) ∧ H (lpC Tryz.prog 133 5) (lpK Tryz.prog 133 5) q3)); let q8 := T4 (T2 ((True ∧ True) ∧ H (lpC Tryz.prog 133 5) (lpK Tryz.prog 133 5) (stV [(0, some (tree 2 n A)), (3, some (pt 0)), (5, some (vb true)), (6, some (vi q11))] q14 1))); let q7 := T4 (T2 ((True ∧ True) ∧ H (lpC Tryz.prog 133 5) (lpK Tryz.prog 133 5) (stV [(0, some (tree 2 n A)), (3, some (pt 0)), (5, some (vb false)), (6, some (vi q11))] q14 1))); let q6 := (True ∧ True) ∧ H (lpC Tryz.prog 133 5) (lpK Tryz.prog 133 5) q3; let q5 := [Value.agg #[vi (toI (cellAt A (Int.toNat k) 0)), vi (toI q10)], Value.agg q12, Value.agg #[vi q.x, vi q.y]]; let q4 := pIf b q7 q8; let q2 := True ∧ pIf b q7 q8; T4 (pIf (decide (k < (↑n : Int))) (T2 ((0 ≤ k ∧ k < (↑n : Int)) ∧ (cellAt A (Int.toNat k) 0 = vi (toI (cellAt A (Int.toNat k) 0)) ∧ cellAt A (Int.toNat k) 1 = vi (toI q10) ∧ True) ∧ T4 (True ∧ ((↑n : Int) = 0 → False) ∧ (0 ≤ Int.tmod q11 (↑n : Int) ∧ Int.tmod q11 (↑n : Int) < (↑n : Int)) ∧ (cellAt A q1 0 = vi (toI (cellAt A q1 0)) ∧ cellAt A q1 1 = vi (toI (cellAt A q1 1)) ∧ True) ∧ T2 (2 ≤ 2 ∧ ((Value.agg q12 = Value.agg q12 ∧ cellAt A q1 0 = vi (toI (cellAt A q1 0)) ∧ cellAt A q1 1 = vi (toI (cellAt A q1 1)) ∧ True) ∧ True) ∧ 2 ≤ 2 ∧ T4 (∃ (q_1 : Pt), ∃ (a : Pt), ∃ (b_1 : Pt), eqL [Value.agg #[vi q.x, vi q.y], Value.agg #[vi (toI (cellAt A (Int.toNat k) 0)), vi (toI q10)], Value.agg q12] [ptV q_1, ptV a, ptV b_1] ∧ Nr q_1 ∧ Nr a ∧ Nr b_1 ∧ pIf (decide (onP a b_1 q_1)) (T2 (Post (vi 0))) (T4 (True ∧ pIf (decide (toI q10 ≤ q.y)) (T4 (T2 (pIf (decide (q.y < toI (cellAt A q1 1))) (T4 (True ∧ ∃ (a : Pt), ∃ (b_2 : Pt), ∃ (c : Pt), eqL q5 [ptV a, ptV b_2, ptV c] ∧ Nr a ∧ Nr b_2 ∧ Nr c ∧ True ∧ pIf (decide (crossP a b_2 c > 0)) (T4 (T2 (True ∧ pIf q13 (T4 (T2 (pIf (decide (q.y < toI q10)) (T4 (True ∧ ∃ (a : Pt), ∃ (b_3 : Pt), ∃ (c : Pt), eqL q5 [ptV a, ptV b_3, ptV c] ∧ Nr a ∧ Nr b_3 ∧ Nr c ∧ True ∧ pIf (decide (crossP a b_3 c < 0)) (T4 (T2 q4)) (T4 (T2 q4)))) (T8 q4)))) (T8 q2)))) (T4 (T2 (True ∧ pIf q13 (T4 (T2 (pIf (decide (q.y < toI q10)) (T4 (True ∧ ∃ (a : Pt), ∃ (b_3 : Pt), ∃ (c : Pt), eqL q5 [ptV a, ptV b_3, ptV c] ∧ Nr a ∧ Nr b_3 ∧ Nr c ∧ True ∧ pIf (decide (crossP a b_3 c < 0)) (T4 (T2 q2)) (T8 (T2 q6)))) (T8 (T4 q6))))) q9))))) (T8 (True ∧ pIf q13 (T4 (T2 (pIf (decide (q.y < toI q10)) (T4 (True ∧ ∃ (a : Pt), ∃ (b_2 : Pt), ∃ (c : Pt), eqL q5 [ptV a, ptV b_2, ptV c] ∧ Nr a ∧ Nr b_2 ∧ Nr c ∧ True ∧ pIf (decide (crossP a b_2 c < 0)) (T4 (T2 q2)) (T8 (T2 q6)))) (T8 (T4 q6))))) q9))))) (T8 (T2 (pIf q13 (T4 (T2 (pIf (decide (q.y < toI q10)) (T4 (True ∧ ∃ (a : Pt), ∃ (b_2 : Pt), ∃ (c : Pt), eqL q5 [ptV a, ptV b_2, ptV c] ∧ Nr a ∧ Nr b_2 ∧ Nr c ∧ True ∧ pIf (decide (crossP a b_2 c < 0)) (T4 (T2 q2)) (T8 (T2 q6)))) (T8 (T4 q6))))) q9)))))))))) (True ∧ pIf b (T2 (Post (vi 1))) (T2 (Post (vi (-1))))))) := by kernel_rfl
end Go.Proofs.YtngginofamlkkaaGreatDoor
