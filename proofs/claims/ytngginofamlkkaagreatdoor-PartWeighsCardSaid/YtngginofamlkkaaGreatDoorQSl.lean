/-
  Put together out of several texts, each in its own namespace's block. Conditions: as each theorem states them.
-/
import Derived.Test.YtngginofamlkkaaGreatDoorQEvr
import Derived.Test.YtngginofamlkkaaGreatDoorProg
noncomputable section
namespace Go.Proofs.YtngginofamlkkaaGreatDoor
open Go Go.RowKit
set_option maxRecDepth 100000
set_option maxHeartbeats 8000000
def hpOf (conts : List (List Value)) : Tr AObj := putObjs 0 (conts.map fun l => some (.cells l true)) .e
theorem hpOf_get (conts : List (List Value)) (i : Nat) : (hpOf conts).get i = (conts[i]?).map fun l => .cells l true := by
 unfold hpOf
 rw [putObjs_get]
 simp only [Nat.zero_le, true_and, List.length_map, Nat.zero_add, Nat.sub_zero, List.getElem?_map]
 by_cases h : i < conts.length
 ·rw [if_pos h, List.getElem?_eq_getElem h]; rfl
 ·rw [if_neg h, List.getElem?_eq_none (by omega)]; exact Tr.get_e i
def outs (hp : Tr AObj) : Nat → Nat → Option (List (List Value))
 | _, 0 => some []
 | i, n + 1 => match hp.get i with
  | some (.cells l true) => match outs hp (i + 1) n with
   | some ls => some (l :: ls)
   | none => none
  | _ => none
theorem outs_get {hp : Tr AObj} : ∀ {n i : Nat} {ls : List (List Value)}, outs hp i n = some ls → ls.length = n ∧ ∀ (j : Nat) (l : List Value), ls[j]? = some l → hp.get (i + j) = some (.cells l true)
 | 0, i, ls, h => by simp only [outs] at h; cases h; exact ⟨rfl, fun j l hj => by simp at hj⟩
 | n + 1, i, ls, h => by
  simp only [outs] at h
  split at h
  case h_2 => cases h
  rename_i l hl
  split at h
  case h_2 => cases h
  rename_i ls0 h0
  cases h
  obtain ⟨g1, g2⟩ := outs_get h0
  refine ⟨by simp [g1], fun j x hx => ?_⟩
  cases j with
  | zero => simp at hx; subst hx; exact hl
  | succ j => rw [show i + (j + 1) = i + 1 + j by omega]; exact g2 j x (by simpa using hx)
def putConts : List (Nat × Bool) → List (List Value) → Tr AObj → Tr AObj
 | (b, _) :: l, c :: cs, hp => putConts l cs (hp.put b (some (.cells c true)))
 | _, _, hp => hp
theorem putConts_get : ∀ {l : List (Nat × Bool)} {cs : List (List Value)} {hp : Tr AObj}, nodupB l = true → cs.length = l.length → ∀ b, (∀ (i : Nat) (k : Bool) (c : List Value), l[i]? = some (b, k) → cs[i]? = some c → (putConts l cs hp).get b = some (.cells c true)) ∧ (memB b l = false → (putConts l cs hp).get b = hp.get b)
 | [], cs, hp, _, hl, b => by
  cases cs with
  | nil => exact ⟨fun i k c hi => by simp at hi, fun _ => rfl⟩
  | cons c cs => simp at hl
 | (x, k0) :: l, [], hp, _, hl, b => by simp at hl
 | (x, k0) :: l, c :: cs, hp, hn, hl, b => by
  simp only [nodupB] at hn
  cases hm : memB x l with
  | true => rw [hm] at hn; cases hn
  | false =>
   rw [hm, cond_false] at hn
   obtain ⟨g1, g2⟩ := putConts_get (hp := hp.put x (some (.cells c true))) hn (by simpa using hl) b
   simp only [putConts]
   refine ⟨fun i k c' hi hc => ?_, fun hb => ?_⟩
   ·cases i with
    | zero =>
     simp at hi hc
     obtain ⟨rfl, rfl⟩ := hi
     subst hc
     rw [g2 hm, Tr.get_put, if_pos rfl]
    | succ i => exact g1 i k c' (by simpa using hi) (by simpa using hc)
   ·simp only [memB] at hb
    cases hx : x.beq b with
    | true => rw [hx] at hb; cases hb
    | false =>
     rw [hx, cond_false] at hb
     rw [g2 hb, Tr.get_put, if_neg (fun e => by subst e; simp at hx)]
theorem addB_mem {b b' : Nat} {k k' : Bool} {l : List (Nat × Bool)} (h : (b', k') ∈ addB b k l) : (b', k') ∈ l ∨ b' = b := by
 unfold addB at h
 cases hm : memB b l with
 | true => rw [hm] at h; exact .inl h
 | false =>
  rw [hm, cond_false] at h
  rcases List.mem_append.1 h with h | h
  ·exact .inl h
  ·simp at h; exact .inr h.1
theorem memB_mem {b : Nat} : ∀ {l : List (Nat × Bool)}, memB b l = true → ∃ (i : Nat) (k : Bool), l[i]? = some (b, k)
 | [], h => by cases h
 | x :: l, h => by
  simp only [memB] at h
  cases hx : x.1.beq b with
  | true => exact ⟨0, x.2, by simp [← Nat.eq_of_beq_eq_true hx]⟩
  | false =>
   rw [hx, cond_false] at h
   obtain ⟨i, k, hi⟩ := memB_mem h
   exact ⟨i + 1, k, by simpa using hi⟩
theorem Rel.later {ρ : Place} {W : Base} {hp : Tr AObj} {nx : Nat} {w w' : World} (h : Rel ρ W hp nx w) (hb : Below w.heap.size w w') : Rel ρ W hp nx w' := by
 have lt : ∀ {c : Nat} {ob : Obj}, w.heap[c]? = some ob → c < w.heap.size := fun {c ob} hc => by
  rcases Nat.lt_or_ge c w.heap.size with h' | h'
  ·exact h'
  ·rw [Array.getElem?_eq_none h'] at hc; cases hc
 refine ⟨fun b x hx => ⟨(h.dom b x hx).1, Nat.lt_of_lt_of_le (h.dom b x hx).2 hb.size⟩, fun b o c s z ho hx => ?_, h.inj, h.fresh, ⟨hb.os.trans h.below.os, hb.tape.trans h.below.tape, hb.output.trans h.below.output, Nat.le_trans h.below.size hb.size, fun k hk => ?_⟩, fun c ob hc => ?_, h.apart, h.frn⟩
 ·obtain ⟨ob, e1, e2⟩ := h.obj b o c s z ho hx
  exact ⟨ob, by rw [hb.block c (lt e1)]; exact e1, e2⟩
 ·rw [hb.block k (Nat.lt_of_lt_of_le hk.1 h.below.size)]
  exact h.below.block k hk
 ·have := h.frz c ob hc
  rw [hb.block c (lt this)]
  exact this
class Enc (α : Type) where
 sz : Nat
 cells : α → List Value
 len : ∀ a, (cells a).length = sz
 nl : ∀ a, NLs (cells a)
def elt : List Value → Value
 | [v] => v
 | l => .agg l.toArray
theorem elt_cells : ∀ {l : List Value}, NLs l → (elt l).cells = l.toArray
 | [], _ => rfl
 | [v], h => by
  have := h v (by simp)
  cases v <;> first | rfl | (simp [nl1] at this)
 | _ :: _ :: _, _ => rfl
def encL {α : Type} [Enc α] (l : List α) : Array Value := (l.map fun a => elt (Enc.cells a)).toArray
instance instEncList {α : Type} [Enc α] : Enc (List α) where
 sz := 1
 cells l := [tree (Enc.sz α) l.length (encL l)]
 len _ := rfl
 nl l := by intro v hv; simp at hv; subst hv; rfl
instance : Enc Int where
 sz := 1
 cells n := [.int .i64 n]
 len _ := rfl
 nl n := by intro v hv; simp at hv; subst hv; rfl
instance : Enc ByteArray where
 sz := 1
 cells s := [.string s]
 len _ := rfl
 nl n := by intro v hv; simp at hv; subst hv; rfl
instance : Enc Bool where
 sz := 1
 cells b := [.bool b]
 len _ := rfl
 nl n := by intro v hv; simp at hv; subst hv; rfl
instance {α β : Type} [Enc α] [Enc β] : Enc (α × β) where
 sz := Enc.sz α + Enc.sz β
 cells p := Enc.cells p.1 ++ Enc.cells p.2
 len p := by rw [List.length_append, Enc.len, Enc.len]
 nl p := by
  intro v hv
  rcases List.mem_append.1 hv with h | h
  ·exact Enc.nl p.1 v h
  ·exact Enc.nl p.2 v h
theorem cellAt_encL {α : Type} [Enc α] {l : List α} {i j : Nat} {a : α} (h : l[i]? = some a) : cellAt (encL l) i j = ((Enc.cells a)[j]?).getD undef := by
 unfold cellAt encL
 simp [Array.getD_eq_getD_getElem?, h, elt_cells (Enc.nl a)]
theorem cellAt_encL' {α : Type} [Enc α] {l : List α} {i j : Nat} (h : i < l.length) : cellAt (encL l) i j = ((Enc.cells l[i])[j]?).getD undef := cellAt_encL (by simp)
theorem toI_int (k : IntKind) (n : Int) : toI (.int k n) = n := rfl
theorem toS_string (s : ByteArray) : toS (.string s) = s := rfl
theorem toN_tree (sz n : Nat) (els : Array Value) : toN (tree sz n els) = n := rfl
theorem toE_tree (sz n : Nat) (els : Array Value) : toE (tree sz n els) = els := rfl
abbrev OkP (f : FuncId) (na : List Value) (r : Nat) (Post : Value → Prop) (st : AS) : Prop := OkAt Tryz.prog f na Post (lpC Tryz.prog f r) (lpK Tryz.prog f r) st
theorem mixed : Tryz.prog.follows .mixedOrders = true := by kernel_rfl
theorem wrap64 {n : Int} (h1 : -9223372036854775808 ≤ n) (h2 : n < 9223372036854775808) : IntKind.i64.wrap n = n := by
 have e : IntKind.i64.wrap n = if (n % 18446744073709551616 : Int) ≥ 9223372036854775808 then n % 18446744073709551616 - 18446744073709551616 else n % 18446744073709551616 := by
  unfold IntKind.wrap
  simp [IntKind.signed, IntKind.bits]
 rw [e]
 split <;> omega
abbrev Short {α : Type} (l : List α) : Prop := l.length < 2 ^ 62
theorem wrapNat {n : Nat} (h : n < 2 ^ 62) : IntKind.i64.wrap (n : Int) = n := wrap64 (by omega) (by omega)
theorem wrapSucc {n : Nat} (h : n < 2 ^ 62) : IntKind.i64.wrap ((n : Int) + 1) = ((n + 1 : Nat) : Int) := by
 rw [wrap64 (by omega) (by omega)]; omega
structure Pt where
 x : Int
 y : Int
 deriving DecidableEq
theorem Pt.ext' {p q : Pt} (h1 : p.x = q.x) (h2 : p.y = q.y) : p = q := by
 cases p; cases q; cases h1; cases h2; rfl
instance : Inhabited Pt := ⟨⟨0, 0⟩⟩
instance : Enc Pt where
 sz := 2
 cells p := [.int .i64 p.x, .int .i64 p.y]
 len _ := rfl
 nl p := by intro v hv; simp at hv; rcases hv with rfl | rfl <;> rfl
abbrev trPt (l : List Pt) : Value := tree 2 l.length (encL l)
theorem cell_pt {l : List Pt} {i : Nat} (h : i < l.length) : cellAt (encL l) i 0 = .int .i64 l[i].x ∧ cellAt (encL l) i 1 = .int .i64 l[i].y := by
 rw [cellAt_encL' h, cellAt_encL' h]
 exact ⟨rfl, rfl⟩
abbrev trPts (l : List (List Pt)) : Value := tree 1 l.length (encL l)
theorem cell_pts {l : List (List Pt)} {i : Nat} (h : i < l.length) : cellAt (encL l) i 0 = trPt l[i] := by
 rw [cellAt_encL' h]
 rfl
structure Vec3 where
 x : Int
 y : Int
 z : Int
 deriving DecidableEq
structure Part where
 id : ByteArray
 rev : Int
 kind : Int
 node : ByteArray
 grade : ByteArray
 thick : Int
 outer : List Pt
 holes : List (List Pt)
 sect : ByteArray
 long : Int
 mass : Int
 centre : Vec3
 at_ : Vec3
 turn : Int
 deriving DecidableEq
def partC (p : Part) : List Value := [.string p.id, .int .i64 p.rev, .int .i64 p.kind, .string p.node, .string p.grade, .int .i64 p.thick, trPt p.outer, trPts p.holes, .string p.sect, .int .i64 p.long, .int .i64 p.mass,
 .int .i64 p.centre.x, .int .i64 p.centre.y, .int .i64 p.centre.z, .int .i64 p.at_.x, .int .i64 p.at_.y, .int .i64 p.at_.z, .int .i64 p.turn]
abbrev partV (p : Part) : Value := .agg (partC p).toArray
abbrev shapeV (o : List Pt) (h : List (List Pt)) : Value := .agg [trPt o, trPts h].toArray
theorem down {p : Nat → Prop} {n : Nat} (h0 : p n) (h : ∀ k, k < n → p (k + 1) → p k) : p 0 := by
 have : ∀ j k, k + j = n → p k := by
  intro j
  induction j with
  | zero => intro k hk; rw [show k = n by omega]; exact h0
  | succ j ih => intro k hk; exact h k (by omega) (ih (k + 1) (by omega))
 exact this n 0 (by omega)
end Go.Proofs.YtngginofamlkkaaGreatDoor
namespace Go.Proofs.YtngginofamlkkaaGreatDoor.PlaneG
structure Q2 where
 x : Rat
 h : Rat
 deriving DecidableEq
def crs (a b c : Q2) : Rat := (b.x - a.x) * (c.h - a.h) - (b.h - a.h) * (c.x - a.x)
theorem crs_cyc (a b c : Q2) : crs a b c = crs b c a := by unfold crs; grind
theorem crs_swap (a b c : Q2) : crs a b c = - crs b a c := by unfold crs; grind
theorem crs_aba (a b : Q2) : crs a b a = 0 := by unfold crs; grind
theorem crs_abb (a b : Q2) : crs a b b = 0 := by unfold crs; grind
theorem crs_four1 (a b u v : Q2) : (b.h - a.h) * crs u v a = -(crs a b u * (v.h - a.h) + crs a b v * (a.h - u.h)) := by unfold crs; grind
theorem crs_four2 (a b u v : Q2) : (b.h - a.h) * crs u v b = -(crs a b u * (v.h - b.h) + crs a b v * (b.h - u.h)) := by unfold crs; grind
def wt (e : Q2 × Q2) (p : Q2) : Int :=
 if e.1.h < p.h ∧ p.h < e.2.h ∧ 0 < crs e.1 e.2 p then 1 else if e.2.h < p.h ∧ p.h < e.1.h ∧ crs e.1 e.2 p < 0 then -1 else 0
def rev (e : Q2 × Q2) : Q2 × Q2 := (e.2, e.1)
theorem wt_rev (e : Q2 × Q2) (p : Q2) : wt (rev e) p = - wt e p := by
 have h := crs_swap e.1 e.2 p
 unfold wt rev
 simp only
 by_cases h1 : e.1.h < p.h ∧ p.h < e.2.h ∧ 0 < crs e.1 e.2 p
 ·have h2 : ¬ (e.2.h < p.h ∧ p.h < e.1.h ∧ 0 < crs e.2 e.1 p) := by grind
  have h3 : e.1.h < p.h ∧ p.h < e.2.h ∧ crs e.2 e.1 p < 0 := by grind
  rw [if_neg h2, if_pos h3, if_pos h1]
 ·by_cases h2 : e.2.h < p.h ∧ p.h < e.1.h ∧ crs e.1 e.2 p < 0
  ·have h3 : e.2.h < p.h ∧ p.h < e.1.h ∧ 0 < crs e.2 e.1 p := by grind
   rw [if_pos h3, if_neg h1, if_pos h2]
   rfl
  ·have h3 : ¬ (e.2.h < p.h ∧ p.h < e.1.h ∧ 0 < crs e.2 e.1 p) := by grind
   have h4 : ¬ (e.1.h < p.h ∧ p.h < e.2.h ∧ crs e.2 e.1 p < 0) := by grind
   rw [if_neg h3, if_neg h4, if_neg h1, if_neg h2]
   rfl
theorem lin_pos {k c a b m n : Rat} (hk : 0 < k) (hm : 0 < m) (hn : 0 < n) (e : k * c = -(a * m + b * n)) (ha : a < 0) (hb : b < 0) : 0 < c := by
 have h1 : 0 < (-a) * m := Rat.mul_pos (by grind) hm
 have h2 : 0 < (-b) * n := Rat.mul_pos (by grind) hn
 have h3 : 0 < k * c := by grind
 rcases Classical.em (0 < c) with h | h
 ·exact h
 ·have h4 : 0 ≤ -c := by grind
  have h5 : 0 ≤ k * (-c) := Rat.mul_nonneg (by grind) h4
  grind
theorem lin_neg {k c a b m n : Rat} (hk : 0 < k) (hm : 0 < m) (hn : 0 < n) (e : k * c = -(a * m + b * n)) (ha : 0 < a) (hb : 0 < b) : c < 0 := by
 have := lin_pos (c := -c) (a := -a) (b := -b) hk hm hn (by grind) (by grind) (by grind)
 grind
def inR (p q u : Q2) : Int := if p.h < u.h ∧ u.h < q.h ∧ crs p q u < 0 then 1 else 0
def dlt (p q : Q2) (e : Q2 × Q2) : Int := (wt e p - wt e q) - (inR p q e.2 - inR p q e.1)
theorem dlt_rev (p q : Q2) (e : Q2 × Q2) : dlt p q (rev e) = - dlt p q e := by
 unfold dlt
 rw [wt_rev, wt_rev]
 unfold rev
 simp only
 omega
def Apart (p q u v : Q2) : Prop := (crs p q u < 0 ∧ crs p q v < 0) ∨ (0 < crs p q u ∧ 0 < crs p q v) ∨ (crs u v p < 0 ∧ crs u v q < 0) ∨ (0 < crs u v p ∧ 0 < crs u v q) ∨ (crs p q u = 0 ∧ crs p q v = 0 ∧ crs u v p = 0 ∧ crs u v q = 0 ∧ ((p.h < u.h ∧ p.h < v.h ∧ q.h < u.h ∧ q.h < v.h) ∨ (u.h < p.h ∧ v.h < p.h ∧ u.h < q.h ∧ v.h < q.h)))
theorem ite_same {P Q : Prop} [Decidable P] [Decidable Q] (h : P ↔ Q) : (if P then (1 : Int) else 0) = if Q then 1 else 0 := by
 by_cases hp : P
 ·rw [if_pos hp, if_pos (h.1 hp)]
 ·rw [if_neg hp, if_neg (fun k => hp (h.2 k))]
theorem wt_up {u v p : Q2} (h : u.h < v.h) : wt (u, v) p = if u.h < p.h ∧ p.h < v.h ∧ 0 < crs u v p then 1 else 0 := by
 unfold wt
 simp only
 by_cases h1 : u.h < p.h ∧ p.h < v.h ∧ 0 < crs u v p
 ·rw [if_pos h1, if_pos h1]
 ·rw [if_neg h1, if_neg h1, if_neg (by grind)]
theorem dlt_up {p q u v : Q2} (hpq : p.h < q.h) (huv : u.h < v.h) (d1 : p.h ≠ u.h) (d2 : p.h ≠ v.h) (d3 : q.h ≠ u.h) (d4 : q.h ≠ v.h) (ha : Apart p q u v) : dlt p q (u, v) = 0 := by
 unfold dlt inR
 rw [wt_up huv, wt_up huv]
 simp only
 have e1 := crs_four1 p q u v
 have e2 := crs_four2 p q u v
 have e3 := crs_four1 u v p q
 have e4 := crs_four2 u v p q
 have kpq : 0 < q.h - p.h := by grind
 have kuv : 0 < v.h - u.h := by grind
 by_cases c1 : v.h < p.h
 ·rw [if_neg (by grind), if_neg (by grind), if_neg (by grind), if_neg (by grind)]; rfl
 by_cases c2 : q.h < u.h
 ·rw [if_neg (by grind), if_neg (by grind), if_neg (by grind), if_neg (by grind)]; rfl
 by_cases c3 : u.h < p.h
 ·by_cases c4 : q.h < v.h
  ·-- u < p < q < v
   rw [if_neg (c := p.h < v.h ∧ v.h < q.h ∧ crs p q v < 0) (by grind), if_neg (c := p.h < u.h ∧ u.h < q.h ∧ crs p q u < 0) (by grind)]
   rw [ite_same (Q := u.h < q.h ∧ q.h < v.h ∧ 0 < crs u v q)]
   ·omega
   ·rcases ha with ⟨h1, h2⟩ | ⟨h1, h2⟩ | ⟨h1, h2⟩ | ⟨h1, h2⟩ | ⟨_, _, _, _, h5⟩
    rotate_right
    ·exfalso; grind
    ·have g1 := lin_pos kpq (by grind) (by grind) e1 h1 h2
     have g2 := lin_pos kpq (by grind) (by grind) e2 h1 h2
     grind
    ·have g1 := lin_neg kpq (by grind) (by grind) e1 h1 h2
     have g2 := lin_neg kpq (by grind) (by grind) e2 h1 h2
     grind
    ·grind
    ·grind
  ·-- u < p < v < q
   rw [if_neg (c := u.h < q.h ∧ q.h < v.h ∧ 0 < crs u v q) (by grind), if_neg (c := p.h < u.h ∧ u.h < q.h ∧ crs p q u < 0) (by grind)]
   rw [ite_same (Q := p.h < v.h ∧ v.h < q.h ∧ crs p q v < 0)]
   ·omega
   ·rcases ha with ⟨h1, h2⟩ | ⟨h1, h2⟩ | ⟨h1, h2⟩ | ⟨h1, h2⟩ | ⟨_, _, _, _, h5⟩
    rotate_right
    ·exfalso; grind
    ·have g1 := lin_pos kpq (by grind) (by grind) e1 h1 h2
     grind
    ·have g1 := lin_neg kpq (by grind) (by grind) e1 h1 h2
     grind
    ·have g1 := lin_pos kuv (by grind) (by grind) e4 h1 h2
     grind
    ·have g1 := lin_neg kuv (by grind) (by grind) e4 h1 h2
     grind
 ·by_cases c4 : q.h < v.h
  ·-- p < u < q < v
   rw [if_neg (c := u.h < p.h ∧ p.h < v.h ∧ 0 < crs u v p) (by grind), if_neg (c := p.h < v.h ∧ v.h < q.h ∧ crs p q v < 0) (by grind)]
   rw [ite_same (P := u.h < q.h ∧ q.h < v.h ∧ 0 < crs u v q) (Q := p.h < u.h ∧ u.h < q.h ∧ crs p q u < 0)]
   ·omega
   ·rcases ha with ⟨h1, h2⟩ | ⟨h1, h2⟩ | ⟨h1, h2⟩ | ⟨h1, h2⟩ | ⟨_, _, _, _, h5⟩
    rotate_right
    ·exfalso; grind
    ·have g1 := lin_pos kpq (by grind) (by grind) e2 h1 h2
     grind
    ·have g1 := lin_neg kpq (by grind) (by grind) e2 h1 h2
     grind
    ·have g1 := lin_pos kuv (by grind) (by grind) e3 h1 h2
     grind
    ·have g1 := lin_neg kuv (by grind) (by grind) e3 h1 h2
     grind
  ·-- p < u < v < q
   rw [if_neg (c := u.h < p.h ∧ p.h < v.h ∧ 0 < crs u v p) (by grind), if_neg (c := u.h < q.h ∧ q.h < v.h ∧ 0 < crs u v q) (by grind)]
   rw [ite_same (P := p.h < v.h ∧ v.h < q.h ∧ crs p q v < 0) (Q := p.h < u.h ∧ u.h < q.h ∧ crs p q u < 0)]
   ·omega
   ·rcases ha with ⟨h1, h2⟩ | ⟨h1, h2⟩ | ⟨h1, h2⟩ | ⟨h1, h2⟩ | ⟨_, _, _, _, h5⟩
    rotate_right
    ·exfalso; grind
    ·grind
    ·grind
    ·have g1 := lin_pos kuv (by grind) (by grind) e3 h1 h2
     have g2 := lin_pos kuv (by grind) (by grind) e4 h1 h2
     grind
    ·have g1 := lin_neg kuv (by grind) (by grind) e3 h1 h2
     have g2 := lin_neg kuv (by grind) (by grind) e4 h1 h2
     grind
end Go.Proofs.YtngginofamlkkaaGreatDoor.PlaneG
namespace Go.Proofs.YtngginofamlkkaaGreatDoor.PlaneG
theorem dlt_self (p q : Q2) (h : p.h < q.h) : dlt p q (p, q) = 0 := by
 unfold dlt inR
 rw [wt_up h, wt_up h]
 simp only
 rw [if_neg (c := p.h < p.h ∧ p.h < q.h ∧ 0 < crs p q p) (by grind), if_neg (c := p.h < q.h ∧ q.h < q.h ∧ 0 < crs p q q) (by grind), if_neg (by grind), if_neg (by grind)]
 rfl
theorem wt_down {u v p : Q2} (h : v.h < u.h) : wt (u, v) p = - if v.h < p.h ∧ p.h < u.h ∧ crs u v p < 0 then 1 else 0 := by
 have e := wt_rev (v, u) p
 unfold rev at e
 simp only at e
 rw [e, wt_up h]
 have hs := crs_swap u v p
 congr 1
 exact ite_same (by grind)
theorem dlt_prev (p q z : Q2) (h : p.h < q.h) (d1 : z.h ≠ p.h) (d2 : z.h ≠ q.h) : dlt p q (z, p) = if p.h < z.h ∧ crs p q z < 0 then 1 else 0 := by
 have hc := crs_cyc z p q
 unfold dlt inR
 simp only
 by_cases hz : z.h < p.h
 ·rw [wt_up hz, wt_up hz, if_neg (c := z.h < p.h ∧ p.h < p.h ∧ 0 < crs z p p) (by grind), if_neg (c := z.h < q.h ∧ q.h < p.h ∧ 0 < crs z p q) (by grind), if_neg (c := p.h < p.h ∧ p.h < q.h ∧ crs p q p < 0) (by grind), if_neg (c := p.h < z.h ∧ z.h < q.h ∧ crs p q z < 0) (by grind), if_neg (by grind)]
  rfl
 ·have hz' : p.h < z.h := by grind
  rw [wt_down hz', wt_down hz', if_neg (c := p.h < p.h ∧ p.h < z.h ∧ crs z p p < 0) (by grind), if_neg (c := p.h < p.h ∧ p.h < q.h ∧ crs p q p < 0) (by grind)]
  by_cases h1 : crs p q z < 0
  ·rw [if_pos (c := p.h < z.h ∧ crs p q z < 0) ⟨hz', h1⟩]
   by_cases h2 : z.h < q.h
   ·rw [if_neg (c := p.h < q.h ∧ q.h < z.h ∧ crs z p q < 0) (by grind), if_pos (c := p.h < z.h ∧ z.h < q.h ∧ crs p q z < 0) (by grind)]
    rfl
   ·rw [if_pos (c := p.h < q.h ∧ q.h < z.h ∧ crs z p q < 0) (by grind), if_neg (c := p.h < z.h ∧ z.h < q.h ∧ crs p q z < 0) (by grind)]
    rfl
  ·rw [if_neg (c := p.h < z.h ∧ crs p q z < 0) (by grind), if_neg (c := p.h < q.h ∧ q.h < z.h ∧ crs z p q < 0) (by grind), if_neg (c := p.h < z.h ∧ z.h < q.h ∧ crs p q z < 0) (by grind)]
   rfl
theorem dlt_next (p q w : Q2) (h : p.h < q.h) (d1 : w.h ≠ p.h) (d2 : w.h ≠ q.h) : dlt p q (q, w) = - if w.h < q.h ∧ crs p q w < 0 then 1 else 0 := by
 have hc := crs_cyc p q w
 have hc2 := crs_cyc q w p
 unfold dlt inR
 simp only
 by_cases hz : q.h < w.h
 ·rw [wt_up hz, wt_up hz, if_neg (c := q.h < p.h ∧ p.h < w.h ∧ 0 < crs q w p) (by grind), if_neg (c := q.h < q.h ∧ q.h < w.h ∧ 0 < crs q w q) (by grind), if_neg (c := p.h < w.h ∧ w.h < q.h ∧ crs p q w < 0) (by grind), if_neg (c := p.h < q.h ∧ q.h < q.h ∧ crs p q q < 0) (by grind), if_neg (by grind)]
  rfl
 ·have hz' : w.h < q.h := by grind
  rw [wt_down hz', wt_down hz', if_neg (c := w.h < q.h ∧ q.h < q.h ∧ crs q w q < 0) (by grind), if_neg (c := p.h < q.h ∧ q.h < q.h ∧ crs p q q < 0) (by grind)]
  by_cases h1 : crs p q w < 0
  ·rw [if_pos (c := w.h < q.h ∧ crs p q w < 0) ⟨hz', h1⟩]
   by_cases h2 : p.h < w.h
   ·rw [if_neg (c := w.h < p.h ∧ p.h < q.h ∧ crs q w p < 0) (by grind), if_pos (c := p.h < w.h ∧ w.h < q.h ∧ crs p q w < 0) (by grind)]
    rfl
   ·rw [if_pos (c := w.h < p.h ∧ p.h < q.h ∧ crs q w p < 0) (by grind), if_neg (c := p.h < w.h ∧ w.h < q.h ∧ crs p q w < 0) (by grind)]
    rfl
  ·rw [if_neg (c := w.h < q.h ∧ crs p q w < 0) (by grind), if_neg (c := w.h < p.h ∧ p.h < q.h ∧ crs q w p < 0) (by grind), if_neg (c := p.h < w.h ∧ w.h < q.h ∧ crs p q w < 0) (by grind)]
   rfl
theorem dlt_apart {p q u v : Q2} (hpq : p.h < q.h) (duv : u.h ≠ v.h) (d1 : p.h ≠ u.h) (d2 : p.h ≠ v.h) (d3 : q.h ≠ u.h) (d4 : q.h ≠ v.h) (ha : Apart p q u v) : dlt p q (u, v) = 0 := by
 by_cases h : u.h < v.h
 ·exact dlt_up hpq h d1 d2 d3 d4 ha
 ·have hs : v.h < u.h := by grind
  have hx : Apart p q v u := by
   unfold Apart at ha ⊢
   have g1 := crs_swap u v p
   have g2 := crs_swap u v q
   rcases ha with ⟨a, b⟩ | ⟨a, b⟩ | ⟨a, b⟩ | ⟨a, b⟩ | ⟨a, b, c, d, e⟩
   ·exact .inl ⟨b, a⟩
   ·exact .inr (.inl ⟨b, a⟩)
   ·exact .inr (.inr (.inr (.inl ⟨by grind, by grind⟩)))
   ·exact .inr (.inr (.inl ⟨by grind, by grind⟩))
   ·exact .inr (.inr (.inr (.inr ⟨b, a, by grind, by grind, by grind⟩)))
  have := dlt_rev p q (v, u)
  unfold rev at this
  simp only at this
  rw [this, dlt_up hpq hs d2 d1 d4 d3 hx]
  rfl
end Go.Proofs.YtngginofamlkkaaGreatDoor.PlaneG
namespace Go.Proofs.YtngginofamlkkaaGreatDoor.PlaneG
def isum : Nat → (Nat → Int) → Int
 | 0, _ => 0
 | n + 1, f => isum n f + f n
theorem isum_head (f : Nat → Int) : ∀ n, isum (n + 1) f = f 0 + isum n (fun j => f (j + 1))
 | 0 => by simp [isum]
 | n + 1 => by
  have ih := isum_head f n
  show isum (n + 1) f + f (n + 1) = f 0 + (isum n (fun j => f (j + 1)) + f (n + 1))
  rw [ih]
  omega
theorem isum_shift1 {n : Nat} {f : Nat → Int} (h : f n = f 0) : isum n (fun j => f (j + 1)) = isum n f := by
 have := isum_head f n
 show isum n (fun j => f (j + 1)) = isum n f
 have e : isum (n + 1) f = isum n f + f n := rfl
 omega
theorem isum_shift {n : Nat} {f : Nat → Int} (h : ∀ i, f (i + n) = f i) : ∀ s, isum n (fun j => f (j + s)) = isum n f
 | 0 => rfl
 | s + 1 => by
  have e : isum n (fun j => f (j + 1 + s)) = isum n (fun j => f (j + s)) := isum_shift1 (f := fun j => f (j + s)) (by
   have := h s
   simp only [Nat.zero_add]
   rw [Nat.add_comm n s]; exact this)
  rw [← isum_shift h s, ← e]
  congr 1
  funext j
  congr 1
  omega
theorem isum_congr {n : Nat} {f g : Nat → Int} (h : ∀ j, j < n → f j = g j) : isum n f = isum n g := by
 induction n with
 | zero => rfl
 | succ n ih =>
  show isum n f + f n = isum n g + g n
  rw [ih fun j hj => h j (by omega), h n (by omega)]
theorem isum_zero (n : Nat) : isum n (fun _ => 0) = 0 := by
 induction n with
 | zero => rfl
 | succ n ih => show isum n _ + 0 = 0; rw [ih]; rfl
theorem isum_sub (n : Nat) (f g : Nat → Int) : isum n (fun j => f j - g j) = isum n f - isum n g := by
 induction n with
 | zero => rfl
 | succ n ih =>
  show isum n _ + (f n - g n) = isum n f + f n - (isum n g + g n)
  rw [ih]; omega
theorem isum_tel (n : Nat) (F : Nat → Int) : isum n (fun j => F (j + 1) - F j) = F n - F 0 := by
 induction n with
 | zero => show (0 : Int) = F 0 - F 0; omega
 | succ n ih =>
  show isum n _ + (F (n + 1) - F n) = _
  rw [ih]; omega
theorem isum_three {n : Nat} {f : Nat → Int} (h : ∀ j, 3 ≤ j → j < n + 3 → f j = 0) : isum (n + 3) f = f 0 + f 1 + f 2 := by
 induction n with
 | zero => show 0 + f 0 + f 1 + f 2 = _; omega
 | succ n ih =>
  have := ih fun j h1 h2 => h j h1 (by omega)
  show isum (n + 3) f + f (n + 3) = _
  rw [this, h (n + 3) (by omega) (by omega)]; omega
def wind (n : Nat) (P : Nat → Q2) (p : Q2) : Int := isum n (fun j => wt (P j, P (j + 1)) p)
structure Contour (n : Nat) (P : Nat → Q2) : Prop where
 n3 : 3 ≤ n
 per : ∀ i, P (i + n) = P i
 lev : ∀ i j, i < j → j < i + n → (P i).h ≠ (P j).h
 apart : ∀ i j, i + 1 < j → j + 1 < i + n → Apart (P i) (P (i + 1)) (P j) (P (j + 1))
 peak : ∀ i, (((P i).h < (P (i + 1)).h ∧ (P (i + 2)).h < (P (i + 1)).h) ∨ ((P (i + 1)).h < (P i).h ∧ (P (i + 1)).h < (P (i + 2)).h)) → crs (P i) (P (i + 1)) (P (i + 2)) ≠ 0
theorem wind_dlt {n : Nat} {P : Nat → Q2} (c : Contour n P) (p q : Q2) (s : Nat) : isum n (fun j => dlt p q (P (j + s), P (j + s + 1))) = wind n P p - wind n P q := by
 have e : ∀ j, dlt p q (P (j + s), P (j + s + 1)) = (fun i => wt (P i, P (i + 1)) p - wt (P i, P (i + 1)) q) (j + s) - ((fun i => inR p q (P (i + s))) (j + 1) - (fun i => inR p q (P (i + s))) j) := fun j => by
  unfold dlt
  simp only
  rw [show j + 1 + s = j + s + 1 by omega]
 have t := isum_tel n (fun i => inR p q (P (i + s)))
 have h0 : (fun i => inR p q (P (i + s))) n - (fun i => inR p q (P (i + s))) 0 = 0 := by
  simp only
  rw [Nat.add_comm n s, c.per, Nat.zero_add]; omega
 have t2 := isum_shift (n := n) (f := fun i => wt (P i, P (i + 1)) p - wt (P i, P (i + 1)) q) (fun i => by
  show wt (P (i + n), P (i + n + 1)) p - wt (P (i + n), P (i + n + 1)) q = _
  rw [c.per, show i + n + 1 = i + 1 + n by omega, c.per]) s
 have t3 := isum_sub n (fun i => wt (P i, P (i + 1)) p) (fun i => wt (P i, P (i + 1)) q)
 rw [isum_congr fun j _ => e j, isum_sub]
 unfold wind
 simp only at t t2 t3 h0 ⊢
 omega
theorem Contour.lev' {n : Nat} {P : Nat → Q2} (c : Contour n P) {i j : Nat} (h : i < j) (h2 : j < i + n) : (P j).h ≠ (P i).h := fun e => c.lev i j h h2 e.symm
theorem apart_swap {p q u v : Q2} (h : Apart p q u v) : Apart q p u v := by
 unfold Apart at h ⊢
 have g1 := crs_swap p q u
 have g2 := crs_swap p q v
 rcases h with ⟨a, b⟩ | ⟨a, b⟩ | ⟨a, b⟩ | ⟨a, b⟩ | ⟨a, b, c, d, e⟩
 ·exact .inr (.inl ⟨by grind, by grind⟩)
 ·exact .inl ⟨by grind, by grind⟩
 ·exact .inr (.inr (.inl ⟨b, a⟩))
 ·exact .inr (.inr (.inr (.inl ⟨b, a⟩)))
 ·exact .inr (.inr (.inr (.inr ⟨by grind, by grind, d, c, by grind⟩)))
theorem wind_up {n : Nat} {P : Nat → Q2} (c : Contour n P) (s : Nat) (h : (P (s + 1)).h < (P (s + 2)).h) :
  wind n P (P (s + 1)) - wind n P (P (s + 2)) = (if (P (s + 1)).h < (P s).h ∧ crs (P (s + 1)) (P (s + 2)) (P s) < 0 then 1 else 0) - (if (P (s + 3)).h < (P (s + 2)).h ∧ crs (P (s + 1)) (P (s + 2)) (P (s + 3)) < 0 then 1 else 0) := by
 have n3 := c.n3
 obtain ⟨m, rfl⟩ : ∃ m, n = m + 3 := ⟨n - 3, by omega⟩
 rw [← wind_dlt c (P (s + 1)) (P (s + 2)) s]
 rw [isum_three]
 ·simp only [Nat.zero_add]
  rw [show 1 + s = s + 1 by omega, show 2 + s = s + 2 by omega, show s + 1 + 1 = s + 2 by omega, show s + 2 + 1 = s + 3 by omega]
  have hp := c.per s
  have d1 : (P s).h ≠ (P (s + 1)).h := c.lev s (s + 1) (by omega) (by omega)
  have d2 : (P s).h ≠ (P (s + 2)).h := c.lev s (s + 2) (by omega) (by omega)
  have d4 : (P (s + 3)).h ≠ (P (s + 2)).h := c.lev' (by omega) (by omega)
  have d3 : (P (s + 3)).h ≠ (P (s + 1)).h := c.lev' (by omega) (by omega)
  rw [dlt_prev _ _ _ h d1 d2, dlt_self _ _ h, dlt_next _ _ _ h d3 d4]
  omega
 ·intro j h1 h2
  have k1 : (P (s + 1)).h ≠ (P (j + s)).h := c.lev _ _ (by omega) (by omega)
  have k3 : (P (s + 2)).h ≠ (P (j + s)).h := c.lev _ _ (by omega) (by omega)
  have k5 : (P (j + s)).h ≠ (P (j + s + 1)).h := c.lev _ _ (by omega) (by omega)
  have k2 : (P (s + 1)).h ≠ (P (j + s + 1)).h := c.lev _ _ (by omega) (by omega)
  have k4 : (P (s + 2)).h ≠ (P (j + s + 1)).h := c.lev _ _ (by omega) (by omega)
  exact dlt_apart h k5 k1 k2 k3 k4 (c.apart (s + 1) (j + s) (by omega) (by omega))
theorem wind_down {n : Nat} {P : Nat → Q2} (c : Contour n P) (s : Nat) (h : (P (s + 2)).h < (P (s + 1)).h) :
  wind n P (P (s + 2)) - wind n P (P (s + 1)) = (if (P s).h < (P (s + 1)).h ∧ crs (P (s + 2)) (P (s + 1)) (P s) < 0 then 1 else 0) - (if (P (s + 2)).h < (P (s + 3)).h ∧ crs (P (s + 2)) (P (s + 1)) (P (s + 3)) < 0 then 1 else 0) := by
 have n3 := c.n3
 obtain ⟨m, rfl⟩ : ∃ m, n = m + 3 := ⟨n - 3, by omega⟩
 rw [← wind_dlt c (P (s + 2)) (P (s + 1)) s]
 rw [isum_three]
 ·simp only [Nat.zero_add]
  rw [show 1 + s = s + 1 by omega, show 2 + s = s + 2 by omega, show s + 1 + 1 = s + 2 by omega, show s + 2 + 1 = s + 3 by omega]
  have d1 : (P s).h ≠ (P (s + 1)).h := c.lev s (s + 1) (by omega) (by omega)
  have d2 : (P s).h ≠ (P (s + 2)).h := c.lev s (s + 2) (by omega) (by omega)
  have d4 : (P (s + 3)).h ≠ (P (s + 2)).h := c.lev' (by omega) (by omega)
  have d3 : (P (s + 3)).h ≠ (P (s + 1)).h := c.lev' (by omega) (by omega)
  have r1 := dlt_rev (P (s + 2)) (P (s + 1)) (P (s + 1), P s)
  have r2 := dlt_rev (P (s + 2)) (P (s + 1)) (P (s + 3), P (s + 2))
  have r0 := dlt_rev (P (s + 2)) (P (s + 1)) (P (s + 2), P (s + 1))
  unfold rev at r0 r1 r2
  simp only at r0 r1 r2
  rw [r0, r1, r2, dlt_self _ _ h, dlt_next _ _ _ h d2 d1, dlt_prev _ _ _ h d4 d3]
  omega
 ·intro j h1 h2
  have k1 : (P (s + 1)).h ≠ (P (j + s)).h := c.lev _ _ (by omega) (by omega)
  have k3 : (P (s + 2)).h ≠ (P (j + s)).h := c.lev _ _ (by omega) (by omega)
  have k5 : (P (j + s)).h ≠ (P (j + s + 1)).h := c.lev _ _ (by omega) (by omega)
  have k2 : (P (s + 1)).h ≠ (P (j + s + 1)).h := c.lev _ _ (by omega) (by omega)
  have k4 : (P (s + 2)).h ≠ (P (j + s + 1)).h := c.lev _ _ (by omega) (by omega)
  exact dlt_apart h k5 k3 k4 k1 k2 (apart_swap (c.apart (s + 1) (j + s) (by omega) (by omega)))
end Go.Proofs.YtngginofamlkkaaGreatDoor.PlaneG
namespace Go.Proofs.YtngginofamlkkaaGreatDoor.PlaneG
def b01 (P : Prop) [Decidable P] : Int := if P then 1 else 0
def val (n : Nat) (P : Nat → Q2) (s : Nat) : Int :=
 if (P (s + 1)).h < (P (s + 2)).h then wind n P (P (s + 1)) - b01 ((P (s + 1)).h < (P s).h ∧ crs (P (s + 1)) (P (s + 2)) (P s) < 0)
 else wind n P (P (s + 1)) + b01 ((P s).h < (P (s + 1)).h ∧ crs (P (s + 2)) (P (s + 1)) (P s) < 0) - 1
theorem val_up {n : Nat} {P : Nat → Q2} (c : Contour n P) {s : Nat} (h : (P (s + 1)).h < (P (s + 2)).h) :
  val n P s = wind n P (P (s + 2)) - b01 ((P (s + 3)).h < (P (s + 2)).h ∧ crs (P (s + 1)) (P (s + 2)) (P (s + 3)) < 0) := by
 have := wind_up c s h
 unfold val b01
 rw [if_pos h]
 omega
theorem val_down {n : Nat} {P : Nat → Q2} (c : Contour n P) {s : Nat} (h : (P (s + 2)).h < (P (s + 1)).h) :
  val n P s = wind n P (P (s + 2)) + b01 ((P (s + 2)).h < (P (s + 3)).h ∧ crs (P (s + 2)) (P (s + 1)) (P (s + 3)) < 0) - 1 := by
 have := wind_down c s h
 unfold val b01
 rw [if_neg (by grind)]
 omega
theorem b01_yes {P : Prop} [Decidable P] (h : P) : b01 P = 1 := if_pos h
theorem b01_no {P : Prop} [Decidable P] (h : ¬ P) : b01 P = 0 := if_neg h
theorem val_next {n : Nat} {P : Nat → Q2} (c : Contour n P) (s : Nat) : val n P (s + 1) = val n P s := by
 have n3 := c.n3
 have d1 : (P (s + 1)).h ≠ (P (s + 2)).h := c.lev _ _ (by omega) (by omega)
 have d2 : (P (s + 2)).h ≠ (P (s + 3)).h := c.lev _ _ (by omega) (by omega)
 have pk := c.peak (s + 1)
 have g1 := crs_swap (P (s + 1)) (P (s + 2)) (P (s + 3))
 have g2 := crs_cyc (P (s + 1)) (P (s + 2)) (P (s + 3))
 have g3 := crs_cyc (P (s + 2)) (P (s + 3)) (P (s + 1))
 have g4 := crs_swap (P (s + 2)) (P (s + 3)) (P (s + 1))
 have g5 := crs_cyc (P (s + 3)) (P (s + 2)) (P (s + 1))
 have g6 := crs_cyc (P (s + 2)) (P (s + 1)) (P (s + 3))
 have hv : val n P (s + 1) = if (P (s + 2)).h < (P (s + 3)).h then wind n P (P (s + 2)) - b01 ((P (s + 2)).h < (P (s + 1)).h ∧ crs (P (s + 2)) (P (s + 3)) (P (s + 1)) < 0) else wind n P (P (s + 2)) + b01 ((P (s + 1)).h < (P (s + 2)).h ∧ crs (P (s + 3)) (P (s + 2)) (P (s + 1)) < 0) - 1 := rfl
 rw [show s + 1 + 1 = s + 2 by omega, show s + 1 + 2 = s + 3 by omega] at pk
 by_cases h1 : (P (s + 1)).h < (P (s + 2)).h
 ·rw [val_up c h1]
  by_cases h2 : (P (s + 2)).h < (P (s + 3)).h
  ·rw [hv, if_pos h2, b01_no (by grind), b01_no (by grind)]
  ·have h2' : (P (s + 3)).h < (P (s + 2)).h := by grind
   rw [hv, if_neg h2]
   have ne := pk (.inl ⟨h1, h2'⟩)
   by_cases h3 : crs (P (s + 1)) (P (s + 2)) (P (s + 3)) < 0
   ·rw [b01_no (by grind), b01_yes (P := (P (s + 3)).h < (P (s + 2)).h ∧ _) ⟨h2', h3⟩]; omega
   ·rw [b01_yes (P := (P (s + 1)).h < (P (s + 2)).h ∧ crs (P (s + 3)) (P (s + 2)) (P (s + 1)) < 0) (by grind), b01_no (P := (P (s + 3)).h < (P (s + 2)).h ∧ _) (by grind)]; omega
 ·have h1' : (P (s + 2)).h < (P (s + 1)).h := by grind
  rw [val_down c h1']
  by_cases h2 : (P (s + 2)).h < (P (s + 3)).h
  ·rw [hv, if_pos h2]
   have ne := pk (.inr ⟨h1', h2⟩)
   by_cases h3 : crs (P (s + 1)) (P (s + 2)) (P (s + 3)) < 0
   ·rw [b01_yes (P := (P (s + 2)).h < (P (s + 1)).h ∧ crs (P (s + 2)) (P (s + 3)) (P (s + 1)) < 0) (by grind), b01_no (P := (P (s + 2)).h < (P (s + 3)).h ∧ crs (P (s + 2)) (P (s + 1)) (P (s + 3)) < 0) (by grind)]; omega
   ·rw [b01_no (P := (P (s + 2)).h < (P (s + 1)).h ∧ crs (P (s + 2)) (P (s + 3)) (P (s + 1)) < 0) (by grind), b01_yes (P := (P (s + 2)).h < (P (s + 3)).h ∧ crs (P (s + 2)) (P (s + 1)) (P (s + 3)) < 0) (by grind)]; omega
  ·rw [hv, if_neg h2, b01_no (by grind), b01_no (by grind)]
theorem val_const {n : Nat} {P : Nat → Q2} (c : Contour n P) : ∀ s, val n P s = val n P 0
 | 0 => rfl
 | s + 1 => (val_next c s).trans (val_const c s)
theorem max_exists (f : Nat → Rat) : ∀ n, ∃ i, i ≤ n ∧ ∀ j, j ≤ n → f j ≤ f i
 | 0 => ⟨0, Nat.le_refl _, fun j hj => by
  obtain rfl : j = 0 := by omega
  exact Rat.le_refl⟩
 | n + 1 => by
  obtain ⟨i, hi, h⟩ := max_exists f n
  by_cases hc : f i < f (n + 1)
  ·refine ⟨n + 1, Nat.le_refl _, fun j hj => ?_⟩
   rcases Nat.lt_or_ge j (n + 1) with h' | h'
   ·have := h j (by omega); grind
   ·obtain rfl : j = n + 1 := by omega
    exact Rat.le_refl
  ·refine ⟨i, by omega, fun j hj => ?_⟩
   rcases Nat.lt_or_ge j (n + 1) with h' | h'
   ·exact h j (by omega)
   ·obtain rfl : j = n + 1 := by omega
    grind
theorem Contour.mod {n : Nat} {P : Nat → Q2} (c : Contour n P) : ∀ i, P i = P (i % n) := fun i => by
 have n3 := c.n3
 have key : ∀ k r, P (r + n * k) = P r := fun k => by
  induction k with
  | zero => intro r; simp
  | succ k ih => intro r; rw [Nat.mul_succ, ← Nat.add_assoc, c.per, ih]
 have := key (i / n) (i % n)
 rw [Nat.mod_add_div] at this
 exact this
theorem top_exists {n : Nat} {P : Nat → Q2} (c : Contour n P) : ∃ s, ∀ j, (P j).h ≤ (P (s + 1)).h := by
 have n3 := c.n3
 obtain ⟨i, hi, h⟩ := max_exists (fun j => (P j).h) n
 refine ⟨i + n - 1, fun j => ?_⟩
 rw [show i + n - 1 + 1 = i + n by omega, c.per, c.mod j]
 exact h _ (Nat.le_of_lt (Nat.mod_lt _ (by omega)))
theorem wind_top {n : Nat} {P : Nat → Q2} {p : Q2} (h : ∀ j, (P j).h ≤ p.h) : wind n P p = 0 := by
 unfold wind
 rw [isum_congr (g := fun _ => 0) fun j _ => ?_, isum_zero]
 unfold wt
 have h1 := h j
 have h2 := h (j + 1)
 simp only
 rw [if_neg (by grind), if_neg (by grind)]
theorem val_01 {n : Nat} {P : Nat → Q2} (c : Contour n P) : (∀ s, val n P s = 0) ∨ ∀ s, val n P s = -1 := by
 have n3 := c.n3
 obtain ⟨s, hs⟩ := top_exists c
 have d1 : (P (s + 1)).h ≠ (P (s + 2)).h := c.lev _ _ (by omega) (by omega)
 have hd : ¬ (P (s + 1)).h < (P (s + 2)).h := by have := hs (s + 2); grind
 have hv : val n P s = 0 ∨ val n P s = -1 := by
  unfold val
  rw [if_neg hd, wind_top hs]
  unfold b01
  split <;> omega
 rcases hv with e | e
 ·exact .inl fun t => by rw [val_const c t, ← val_const c s, e]
 ·exact .inr fun t => by rw [val_const c t, ← val_const c s, e]
end Go.Proofs.YtngginofamlkkaaGreatDoor.PlaneG
namespace Go.Proofs.YtngginofamlkkaaGreatDoor.PlaneG
def gsum (l : List (Rat × Int)) (x : Rat) : Int := (l.map fun e => if x < e.1 then e.2 else 0).sum
def dsum (l : List (Rat × Int)) : Rat := (l.map fun e => (e.2 : Rat) * e.1).sum
def tsum (l : List (Rat × Int)) : Int := (l.map fun e => e.2).sum
theorem perm_isum {l m : List Int} (h : l.Perm m) : l.sum = m.sum := by
 induction h with
 | nil => rfl
 | cons a _ ih => simp [ih]
 | swap a b l => simp only [List.sum_cons]; omega
 | trans _ _ h1 h2 => rw [h1, h2]
theorem perm_rsum {l m : List Rat} (h : l.Perm m) : l.sum = m.sum := by
 induction h with
 | nil => rfl
 | cons a _ ih => simp [ih]
 | swap a b l => simp only [List.sum_cons]; grind
 | trans _ _ h1 h2 => rw [h1, h2]
theorem max_mem : ∀ (l : List (Rat × Int)), l ≠ [] → ∃ e ∈ l, ∀ f ∈ l, f.1 ≤ e.1
 | [], h => absurd rfl h
 | [a], _ => ⟨a, by simp, fun f hf => by simp at hf; subst hf; exact Rat.le_refl⟩
 | a :: b :: l, _ => by
  obtain ⟨e, he, h⟩ := max_mem (b :: l) (by simp)
  by_cases hc : e.1 < a.1
  ·refine ⟨a, by simp, fun f hf => ?_⟩
   rcases List.mem_cons.1 hf with rfl | hf
   ·exact Rat.le_refl
   ·have := h f hf; grind
  ·refine ⟨e, List.mem_cons_of_mem _ he, fun f hf => ?_⟩
   rcases List.mem_cons.1 hf with rfl | hf
   ·grind
   ·exact h f hf
structure Alt (l : List (Rat × Int)) : Prop where
 nd : (l.map (·.1)).Nodup
 alt : ∀ e ∈ l, (e.2 = 1 ∧ gsum l e.1 = 0) ∨ (e.2 = -1 ∧ gsum l e.1 = 1)
theorem Alt.perm {l m : List (Rat × Int)} (h : l.Perm m) (a : Alt l) : Alt m :=
 ⟨(h.map _).nodup_iff.1 a.nd, fun e he => by
  have := a.alt e (h.mem_iff.2 he)
  unfold gsum at this ⊢
  rwa [perm_isum (h.map fun f => if e.1 < f.1 then f.2 else 0)] at this⟩
theorem gsum_none {l : List (Rat × Int)} {x : Rat} (h : ∀ e ∈ l, e.1 ≤ x) : gsum l x = 0 := by
 unfold gsum
 induction l with
 | nil => rfl
 | cons a l ih =>
  rw [List.map_cons, List.sum_cons, ih fun e he => h e (List.mem_cons_of_mem _ he), if_neg (by have := h a (by simp); grind)]
  rfl
theorem dsum_pos : ∀ (N : Nat) (l : List (Rat × Int)), l.length ≤ N → Alt l → tsum l = 0 → 0 ≤ dsum l ∧ (l ≠ [] → 0 < dsum l)
 | 0, l, hN, _, _ => by
  obtain rfl : l = [] := List.eq_nil_of_length_eq_zero (by omega)
  exact ⟨by unfold dsum; simp, fun h => absurd rfl h⟩
 | N + 1, l, hN, a, ht => by
  by_cases h0 : l = []
  ·subst h0
   exact ⟨by unfold dsum; simp, fun h => absurd rfl h⟩
  obtain ⟨e1, m1, top1⟩ := max_mem l h0
  have p1 := List.perm_cons_erase m1
  generalize l.erase e1 = l1 at p1
  have a1 := a.perm p1
  have t1 : tsum (e1 :: l1) = 0 := by unfold tsum at ht ⊢; rwa [perm_isum (p1.map _)] at ht
  have d1 : dsum l = dsum (e1 :: l1) := by unfold dsum; exact perm_rsum (p1.map _)
  have top1' : ∀ f ∈ l1, f.1 < e1.1 := fun f hf => by
   have h1 := top1 f (p1.mem_iff.2 (List.mem_cons_of_mem _ hf))
   have nd := a1.nd
   rw [List.map_cons, List.nodup_cons] at nd
   have : f.1 ≠ e1.1 := fun e => nd.1 (by rw [← e]; exact List.mem_map_of_mem hf)
   grind
  have s1 : e1.2 = 1 := by
   have := a1.alt e1 (by simp)
   rw [gsum_none (x := e1.1)] at this
   ·omega
   ·intro f hf
    rcases List.mem_cons.1 hf with rfl | hf
    ·exact Rat.le_refl
    ·have := top1' f hf; grind
  by_cases h1 : l1 = []
  ·subst h1
   unfold tsum at t1
   simp at t1
   omega
  obtain ⟨e2, m2, top2⟩ := max_mem l1 h1
  have p2 := List.perm_cons_erase m2
  generalize l1.erase e2 = l2 at p2
  have q2 := p2.cons e1
  have a2 := a1.perm q2
  have t2 : tsum (e1 :: e2 :: l2) = 0 := by unfold tsum at t1 ⊢; rwa [perm_isum (q2.map _)] at t1
  have d2 : dsum (e1 :: l1) = dsum (e1 :: e2 :: l2) := by unfold dsum; exact perm_rsum (q2.map _)
  have x12 : e2.1 < e1.1 := top1' e2 m2
  have top2' : ∀ f ∈ l2, f.1 < e2.1 := fun f hf => by
   have h1 := top2 f (p2.mem_iff.2 (List.mem_cons_of_mem _ hf))
   have nd := a2.nd
   rw [List.map_cons, List.map_cons, List.nodup_cons, List.nodup_cons] at nd
   have : f.1 ≠ e2.1 := fun e => nd.2.1 (by rw [← e]; exact List.mem_map_of_mem hf)
   grind
  have g2 : ∀ x, gsum (e1 :: e2 :: l2) x = (if x < e1.1 then e1.2 else 0) + ((if x < e2.1 then e2.2 else 0) + gsum l2 x) := fun x => by
   unfold gsum; simp
  have s2 : e2.2 = -1 := by
   have := a2.alt e2 (by simp)
   rw [g2, if_pos x12, if_neg (by grind), gsum_none fun f hf => by have := top2' f hf; grind] at this
   omega
  have a3 : Alt l2 := ⟨by
   have nd := a2.nd
   rw [List.map_cons, List.map_cons, List.nodup_cons, List.nodup_cons] at nd
   exact nd.2.2, fun f hf => by
   have := a2.alt f (by simp [hf])
   rw [g2, if_pos (by have := top2' f hf; grind), if_pos (top2' f hf)] at this
   omega⟩
  have t3 : tsum l2 = 0 := by
   unfold tsum at t2 ⊢
   simp only [List.map_cons, List.sum_cons] at t2
   omega
  have hl : l2.length ≤ N := by
   have := p1.length_eq; have := p2.length_eq
   simp only [List.length_cons] at *
   omega
  have ih := (dsum_pos N l2 hl a3 t3).1
  have ed : dsum (e1 :: e2 :: l2) = e1.1 + (-e2.1 + dsum l2) := by
   unfold dsum
   simp only [List.map_cons, List.sum_cons, s1, s2]
   grind
  have : 0 < dsum l := by rw [d1, d2, ed]; grind
  exact ⟨by grind, fun _ => this⟩
end Go.Proofs.YtngginofamlkkaaGreatDoor.PlaneG
namespace Go.Proofs.YtngginofamlkkaaGreatDoor.PlaneG
def X (u v : Q2) (y : Rat) : Rat := u.x + (v.x - u.x) * ((y - u.h) / (v.h - u.h))
def at_ (u v : Q2) (y : Rat) : Q2 := ⟨X u v y, y⟩
theorem crs_X {u v : Q2} (h : u.h ≠ v.h) (t y : Rat) : crs u v ⟨t, y⟩ = (v.h - u.h) * (X u v y - t) := by
 have hn : v.h - u.h ≠ 0 := by grind
 have e : (v.h - u.h) * ((y - u.h) / (v.h - u.h)) = y - u.h := by
  rw [Rat.div_def, Rat.mul_comm (y - u.h), ← Rat.mul_assoc, Rat.mul_inv_cancel _ hn, Rat.one_mul]
 unfold crs X
 simp only
 generalize (y - u.h) / (v.h - u.h) = k at e
 grind
theorem X_rev {u v : Q2} (h : u.h ≠ v.h) (y : Rat) : X u v y = X v u y := by
 have e1 := crs_X h (X v u y) y
 have e2 := crs_X (u := v) (v := u) (fun e => h e.symm) (X v u y) y
 have e3 := crs_swap u v ⟨X v u y, y⟩
 have hn : v.h - u.h ≠ 0 := by grind
 have : (v.h - u.h) * (X u v y - X v u y) = 0 := by grind
 rcases Rat.mul_eq_zero.1 this with h' | h'
 ·exact absurd h' hn
 ·grind
theorem wt_X {u v : Q2} (h : u.h ≠ v.h) (t y : Rat) : wt (u, v) ⟨t, y⟩ = if t < X u v y then (if u.h < y ∧ y < v.h then 1 else if v.h < y ∧ y < u.h then -1 else 0) else 0 := by
 have e := crs_X h t y
 by_cases hu : u.h < v.h
 ·have hp : 0 < v.h - u.h := by grind
  rw [wt_up hu]
  by_cases ht : t < X u v y
  ·have : 0 < crs u v ⟨t, y⟩ := by rw [e]; exact Rat.mul_pos hp (by grind)
   rw [if_pos ht]
   by_cases hc : u.h < y ∧ y < v.h
   ·rw [if_pos hc, if_pos ⟨hc.1, hc.2, this⟩]
   ·rw [if_neg hc, if_neg (by grind), if_neg (by grind)]
  ·have : crs u v ⟨t, y⟩ ≤ 0 := by
    rw [e]
    have h0 : 0 ≤ t - X u v y := by grind
    have := Rat.mul_nonneg (Rat.le_of_lt hp) h0
    grind
   rw [if_neg ht, if_neg (by grind)]
 ·have hv : v.h < u.h := by grind
  have hp : 0 < u.h - v.h := by grind
  rw [wt_down hv]
  by_cases ht : t < X u v y
  ·have : crs u v ⟨t, y⟩ < 0 := by
    have := Rat.mul_pos hp (b := X u v y - t) (by grind)
    rw [e]; grind
   rw [if_pos ht, if_neg (c := u.h < y ∧ y < v.h) (by grind)]
   by_cases hc : v.h < y ∧ y < u.h
   ·rw [if_pos (c := v.h < y ∧ y < u.h ∧ crs u v ⟨t, y⟩ < 0) ⟨hc.1, hc.2, this⟩, if_pos hc]
   ·rw [if_neg (c := v.h < y ∧ y < u.h ∧ crs u v ⟨t, y⟩ < 0) (by grind), if_neg hc]; rfl
  ·have : 0 ≤ crs u v ⟨t, y⟩ := by
    rw [e]
    have h0 : 0 ≤ t - X u v y := by grind
    have := Rat.mul_nonneg (Rat.le_of_lt hp) h0
    grind
   rw [if_neg ht, if_neg (c := v.h < y ∧ y < u.h ∧ crs u v ⟨t, y⟩ < 0) (by grind)]
   rfl
theorem crs_part {p q : Q2} (h : p.h < q.h) (y : Rat) (z : Q2) : (q.h - p.h) * crs p (at_ p q y) z = (y - p.h) * crs p q z := by
 have hn : q.h - p.h ≠ 0 := by grind
 have e : (q.h - p.h) * ((y - p.h) / (q.h - p.h)) = y - p.h := by
  rw [Rat.div_def, Rat.mul_comm (y - p.h), ← Rat.mul_assoc, Rat.mul_inv_cancel _ hn, Rat.one_mul]
 unfold crs at_ X
 simp only
 generalize (y - p.h) / (q.h - p.h) = k at e
 grind
theorem crs_mid {p q : Q2} (h : p.h < q.h) (y : Rat) (u v : Q2) : (q.h - p.h) * crs u v (at_ p q y) = (q.h - y) * crs u v p + (y - p.h) * crs u v q := by
 have hn : q.h - p.h ≠ 0 := by grind
 have e : (q.h - p.h) * ((y - p.h) / (q.h - p.h)) = y - p.h := by
  rw [Rat.div_def, Rat.mul_comm (y - p.h), ← Rat.mul_assoc, Rat.mul_inv_cancel _ hn, Rat.one_mul]
 unfold crs at_ X
 simp only
 generalize (y - p.h) / (q.h - p.h) = k at e
 grind
end Go.Proofs.YtngginofamlkkaaGreatDoor.PlaneG
namespace Go.Proofs.YtngginofamlkkaaGreatDoor.PlaneG
theorem scale_neg {k m c a : Rat} (hk : 0 < k) (hm : 0 < m) (e : k * c = m * a) : c < 0 ↔ a < 0 := by
 constructor
 ·intro h
  have h1 := Rat.mul_pos hk (b := -c) (by grind)
  rcases Classical.em (a < 0) with h' | h'
  ·exact h'
  ·have := Rat.mul_nonneg (Rat.le_of_lt hm) (b := a) (by grind)
   grind
 ·intro h
  have h1 := Rat.mul_pos hm (b := -a) (by grind)
  rcases Classical.em (c < 0) with h' | h'
  ·exact h'
  ·have := Rat.mul_nonneg (Rat.le_of_lt hk) (b := c) (by grind)
   grind
theorem scale_pos {k m c a : Rat} (hk : 0 < k) (hm : 0 < m) (e : k * c = m * a) : 0 < c ↔ 0 < a := by
 have := scale_neg (c := -c) (a := -a) hk hm (by grind)
 grind
theorem crs_at {p q : Q2} (h : p.h < q.h) (y : Rat) : crs p q (at_ p q y) = 0 := by
 have e := crs_mid h y p q
 rw [crs_aba, crs_abb] at e
 have hn : q.h - p.h ≠ 0 := by grind
 have : (q.h - p.h) * crs p q (at_ p q y) = 0 := by grind
 rcases Rat.mul_eq_zero.1 this with h' | h'
 ·exact absurd h' hn
 ·exact h'
theorem apart_part {p q u v : Q2} (h : p.h < q.h) {y : Rat} (h1 : p.h < y) (h2 : y < q.h) (ha : Apart p q u v) : Apart p (at_ p q y) u v := by
 have hk : 0 < q.h - p.h := by grind
 have hm : 0 < y - p.h := by grind
 have hl : 0 < q.h - y := by grind
 have e1 := crs_part h y u
 have e2 := crs_part h y v
 have e3 := crs_mid h y u v
 unfold Apart at ha ⊢
 rcases ha with ⟨g1, g2⟩ | ⟨g1, g2⟩ | ⟨g1, g2⟩ | ⟨g1, g2⟩ | ⟨g1, g2, g3, g4, g5⟩
 rotate_right
 ·refine .inr (.inr (.inr (.inr ⟨?_, ?_, g3, ?_, ?_⟩)))
  ·rw [g1, Rat.mul_zero] at e1
   rcases Rat.mul_eq_zero.1 e1 with h' | h'
   ·grind
   ·exact h'
  ·rw [g2, Rat.mul_zero] at e2
   rcases Rat.mul_eq_zero.1 e2 with h' | h'
   ·grind
   ·exact h'
  ·rw [g3, g4] at e3
   have e3' : (q.h - p.h) * crs u v (at_ p q y) = 0 := by grind
   rcases Rat.mul_eq_zero.1 e3' with h' | h'
   ·grind
   ·exact h'
  ·show (_ ∧ _ ∧ y < u.h ∧ y < v.h) ∨ (_ ∧ _ ∧ u.h < y ∧ v.h < y)
   grind
 ·exact .inl ⟨(scale_neg hk hm e1).2 g1, (scale_neg hk hm e2).2 g2⟩
 ·exact .inr (.inl ⟨(scale_pos hk hm e1).2 g1, (scale_pos hk hm e2).2 g2⟩)
 ·refine .inr (.inr (.inl ⟨g1, ?_⟩))
  exact lin_neg (a := -crs u v p) (b := -crs u v q) (m := q.h - y) (n := y - p.h) hk hl hm (by grind) (by grind) (by grind)
 ·refine .inr (.inr (.inr (.inl ⟨g1, ?_⟩)))
  exact lin_pos (a := -crs u v p) (b := -crs u v q) (m := q.h - y) (n := y - p.h) hk hl hm (by grind) (by grind) (by grind)
theorem dlt_own {p q : Q2} (h : p.h < q.h) {y : Rat} (h1 : p.h < y) (h2 : y < q.h) : dlt p (at_ p q y) (p, q) = 0 := by
 have e := crs_at h y
 have ey : (at_ p q y).h = y := rfl
 unfold dlt inR
 rw [wt_up h, wt_up h]
 simp only [ey, e]
 rw [if_neg (c := p.h < p.h ∧ p.h < q.h ∧ 0 < crs p q p) (by grind), if_neg (c := p.h < y ∧ y < q.h ∧ (0 : Rat) < 0) (by grind), if_neg (by grind), if_neg (by grind)]
 rfl
theorem dlt_above {p x u v : Q2} (h : p.h < x.h) (h1 : x.h < u.h) (h2 : x.h < v.h) : dlt p x (u, v) = 0 := by
 unfold dlt inR wt
 simp only
 rw [if_neg (c := u.h < p.h ∧ p.h < v.h ∧ 0 < crs u v p) (by grind), if_neg (c := v.h < p.h ∧ p.h < u.h ∧ crs u v p < 0) (by grind), if_neg (c := u.h < x.h ∧ x.h < v.h ∧ 0 < crs u v x) (by grind), if_neg (c := v.h < x.h ∧ x.h < u.h ∧ crs u v x < 0) (by grind), if_neg (by grind), if_neg (by grind)]
 rfl
theorem dlt_past {p q w : Q2} (h : p.h < q.h) {y : Rat} (h1 : p.h < y) (h2 : y < q.h) (dw : w.h ≠ y) (dp : p.h ≠ w.h) (dq : q.h ≠ w.h) (hw : w.h < q.h → crs p q w ≠ 0) : dlt p (at_ p q y) (q, w) = 0 := by
 have ey : (at_ p q y).h = y := rfl
 by_cases hc : y < w.h
 ·exact dlt_above (by rw [ey]; exact h1) (by rw [ey]; exact h2) (by rw [ey]; exact hc)
 ·have hn := hw (by grind)
  have hk : 0 < q.h - p.h := by grind
  have hl : 0 < q.h - y := by grind
  have e := crs_mid h y q w
  have c1 := crs_cyc p q w
  have c2 := crs_aba q w
  refine dlt_apart (by rw [ey]; exact h1) dq (by grind) dp (by rw [ey]; grind) (by rw [ey]; grind) ?_
  have e' : (q.h - p.h) * crs q w (at_ p q y) = (q.h - y) * crs q w p := by rw [e, c2]; grind
  unfold Apart
  by_cases hs : crs p q w < 0
  ·exact .inr (.inr (.inl ⟨by grind, (scale_neg hk hl e').2 (by grind)⟩))
  ·exact .inr (.inr (.inr (.inl ⟨by grind, (scale_pos hk hl e').2 (by grind)⟩)))
theorem wind_on_up {n : Nat} {P : Nat → Q2} (c : Contour n P) {s : Nat} (h : (P (s + 1)).h < (P (s + 2)).h) {y : Rat} (h1 : (P (s + 1)).h < y) (h2 : y < (P (s + 2)).h) (gen : ∀ j, (P j).h ≠ y) :
  wind n P (at_ (P (s + 1)) (P (s + 2)) y) = val n P s := by
 have n3 := c.n3
 obtain ⟨m, rfl⟩ : ∃ m, n = m + 3 := ⟨n - 3, by omega⟩
 have hw := wind_dlt c (P (s + 1)) (at_ (P (s + 1)) (P (s + 2)) y) s
 have ey : (at_ (P (s + 1)) (P (s + 2)) y).h = y := rfl
 have hk : 0 < (P (s + 2)).h - (P (s + 1)).h := by grind
 have hm : 0 < y - (P (s + 1)).h := by grind
 rw [isum_three] at hw
 ·simp only [Nat.zero_add] at hw
  rw [show 1 + s = s + 1 by omega, show 2 + s = s + 2 by omega, show s + 1 + 1 = s + 2 by omega, show s + 2 + 1 = s + 3 by omega] at hw
  have d1 : (P s).h ≠ (P (s + 1)).h := c.lev s (s + 1) (by omega) (by omega)
  have d3 : (P (s + 1)).h ≠ (P (s + 3)).h := c.lev _ _ (by omega) (by omega)
  have d4 : (P (s + 2)).h ≠ (P (s + 3)).h := c.lev _ _ (by omega) (by omega)
  rw [dlt_prev _ _ _ (by rw [ey]; exact h1) d1 (by rw [ey]; exact gen s), dlt_own h h1 h2, dlt_past h h1 h2 (gen _) d3 d4 (fun g => c.peak (s + 1) (.inl ⟨h, g⟩))] at hw
  have e := crs_part h y (P s)
  have es : (if (P (s + 1)).h < (P s).h ∧ crs (P (s + 1)) (at_ (P (s + 1)) (P (s + 2)) y) (P s) < 0 then (1 : Int) else 0) = if (P (s + 1)).h < (P s).h ∧ crs (P (s + 1)) (P (s + 2)) (P s) < 0 then 1 else 0 := ite_same (by rw [scale_neg hk hm e])
  rw [es] at hw
  unfold val b01
  rw [if_pos h]
  omega
 ·intro j j1 j2
  have k1 : (P (s + 1)).h ≠ (P (j + s)).h := c.lev _ _ (by omega) (by omega)
  have k5 : (P (j + s)).h ≠ (P (j + s + 1)).h := c.lev _ _ (by omega) (by omega)
  have k2 : (P (s + 1)).h ≠ (P (j + s + 1)).h := c.lev _ _ (by omega) (by omega)
  exact dlt_apart (by rw [ey]; exact h1) k5 k1 k2 (by rw [ey]; exact fun e => gen _ e.symm) (by rw [ey]; exact fun e => gen _ e.symm) (apart_part h h1 h2 (c.apart (s + 1) (j + s) (by omega) (by omega)))
end Go.Proofs.YtngginofamlkkaaGreatDoor.PlaneG
namespace Go.Proofs.YtngginofamlkkaaGreatDoor.PlaneG
theorem wind_on_down {n : Nat} {P : Nat → Q2} (c : Contour n P) {s : Nat} (h : (P (s + 2)).h < (P (s + 1)).h) {y : Rat} (h1 : (P (s + 2)).h < y) (h2 : y < (P (s + 1)).h) (gen : ∀ j, (P j).h ≠ y) :
  wind n P (at_ (P (s + 2)) (P (s + 1)) y) = val n P s + 1 := by
 have n3 := c.n3
 rw [val_down c h]
 obtain ⟨m, rfl⟩ : ∃ m, n = m + 3 := ⟨n - 3, by omega⟩
 have hw := wind_dlt c (P (s + 2)) (at_ (P (s + 2)) (P (s + 1)) y) s
 have ey : (at_ (P (s + 2)) (P (s + 1)) y).h = y := rfl
 have hk : 0 < (P (s + 1)).h - (P (s + 2)).h := by grind
 have hm : 0 < y - (P (s + 2)).h := by grind
 rw [isum_three] at hw
 ·simp only [Nat.zero_add] at hw
  rw [show 1 + s = s + 1 by omega, show 2 + s = s + 2 by omega, show s + 1 + 1 = s + 2 by omega, show s + 2 + 1 = s + 3 by omega] at hw
  have d1 : (P s).h ≠ (P (s + 1)).h := c.lev s (s + 1) (by omega) (by omega)
  have d2 : (P s).h ≠ (P (s + 2)).h := c.lev s (s + 2) (by omega) (by omega)
  have d4 : (P (s + 2)).h ≠ (P (s + 3)).h := c.lev _ _ (by omega) (by omega)
  have r1 := dlt_rev (P (s + 2)) (at_ (P (s + 2)) (P (s + 1)) y) (P (s + 1), P s)
  have r2 := dlt_rev (P (s + 2)) (at_ (P (s + 2)) (P (s + 1)) y) (P (s + 3), P (s + 2))
  have r0 := dlt_rev (P (s + 2)) (at_ (P (s + 2)) (P (s + 1)) y) (P (s + 2), P (s + 1))
  unfold rev at r0 r1 r2
  simp only at r0 r1 r2
  have hz : (P s).h < (P (s + 1)).h → crs (P (s + 2)) (P (s + 1)) (P s) ≠ 0 := fun g => by
   have := c.peak s (.inl ⟨g, h⟩)
   have e1 := crs_swap (P (s + 1)) (P (s + 2)) (P s)
   have e2 := crs_cyc (P s) (P (s + 1)) (P (s + 2))
   grind
  rw [r0, r1, r2, dlt_own h h1 h2, dlt_past h h1 h2 (gen _) (fun e => d2 e.symm) (fun e => d1 e.symm) hz, dlt_prev _ _ _ (by rw [ey]; exact h1) (fun e => d4 e.symm) (by rw [ey]; exact gen _)] at hw
  have e := crs_part h y (P (s + 3))
  have es : (if (P (s + 2)).h < (P (s + 3)).h ∧ crs (P (s + 2)) (at_ (P (s + 2)) (P (s + 1)) y) (P (s + 3)) < 0 then (1 : Int) else 0) = if (P (s + 2)).h < (P (s + 3)).h ∧ crs (P (s + 2)) (P (s + 1)) (P (s + 3)) < 0 then 1 else 0 := ite_same (by rw [scale_neg hk hm e])
  rw [es] at hw
  unfold b01
  omega
 ·intro j j1 j2
  have k3 : (P (s + 2)).h ≠ (P (j + s)).h := c.lev _ _ (by omega) (by omega)
  have k5 : (P (j + s)).h ≠ (P (j + s + 1)).h := c.lev _ _ (by omega) (by omega)
  have k4 : (P (s + 2)).h ≠ (P (j + s + 1)).h := c.lev _ _ (by omega) (by omega)
  exact dlt_apart (by rw [ey]; exact h1) k5 k3 k4 (by rw [ey]; exact fun e => gen _ e.symm) (by rw [ey]; exact fun e => gen _ e.symm) (apart_part h h1 h2 (apart_swap (c.apart (s + 1) (j + s) (by omega) (by omega))))
def dir (u v : Q2) (y : Rat) : Int := if u.h < y ∧ y < v.h then 1 else if v.h < y ∧ y < u.h then -1 else 0
theorem wind_line {n : Nat} {P : Nat → Q2} (c : Contour n P) (t y : Rat) : wind n P ⟨t, y⟩ = isum n (fun j => if t < X (P j) (P (j + 1)) y then dir (P j) (P (j + 1)) y else 0) := by
 have n3 := c.n3
 unfold wind
 exact isum_congr fun j _ => wt_X (c.lev j (j + 1) (by omega) (by omega)) t y
end Go.Proofs.YtngginofamlkkaaGreatDoor.PlaneG
namespace Go.Proofs.YtngginofamlkkaaGreatDoor.PlaneG
theorem dir_cases {u v : Q2} {y : Rat} (h : dir u v y ≠ 0) : (u.h < y ∧ y < v.h ∧ dir u v y = 1) ∨ (v.h < y ∧ y < u.h ∧ dir u v y = -1) := by
 unfold dir at h ⊢
 by_cases h1 : u.h < y ∧ y < v.h
 ·rw [if_pos h1]; exact .inl ⟨h1.1, h1.2, rfl⟩
 ·rw [if_neg h1] at h ⊢
  by_cases h2 : v.h < y ∧ y < u.h
  ·rw [if_pos h2]; exact .inr ⟨h2.1, h2.2, rfl⟩
  ·rw [if_neg h2] at h; exact absurd rfl h
theorem crs_on {u v : Q2} (h : u.h ≠ v.h) (y : Rat) : crs u v ⟨X u v y, y⟩ = 0 := by
 rw [crs_X h]; grind
theorem side_neg {u v : Q2} {y : Rat} (h : dir u v y ≠ 0) {p q : Q2} (h1 : crs p q u < 0) (h2 : crs p q v < 0) : crs p q ⟨X u v y, y⟩ < 0 := by
 rcases dir_cases h with ⟨g1, g2, _⟩ | ⟨g1, g2, _⟩
 ·have e := crs_mid (p := u) (q := v) (by grind) y p q
  exact lin_neg (a := -crs p q u) (b := -crs p q v) (m := v.h - y) (n := y - u.h) (k := v.h - u.h) (by grind) (by grind) (by grind) (by show _ * crs p q (at_ u v y) = _; grind) (by grind) (by grind)
 ·have e := crs_mid (p := v) (q := u) (by grind) y p q
  rw [X_rev (by grind)]
  exact lin_neg (a := -crs p q v) (b := -crs p q u) (m := u.h - y) (n := y - v.h) (k := u.h - v.h) (by grind) (by grind) (by grind) (by show _ * crs p q (at_ v u y) = _; grind) (by grind) (by grind)
theorem side_pos {u v : Q2} {y : Rat} (h : dir u v y ≠ 0) {p q : Q2} (h1 : 0 < crs p q u) (h2 : 0 < crs p q v) : 0 < crs p q ⟨X u v y, y⟩ := by
 have e1 := crs_swap p q u
 have e2 := crs_swap p q v
 have e3 := crs_swap p q ⟨X u v y, y⟩
 have := side_neg h (p := q) (q := p) (by grind) (by grind)
 grind
theorem X_far {p q u v : Q2} {y : Rat} (hp : dir p q y ≠ 0) (hu : dir u v y ≠ 0) (ha : Apart p q u v) : X p q y ≠ X u v y := fun e => by
 have np : p.h ≠ q.h := by rcases dir_cases hp with h | h <;> grind
 have nu : u.h ≠ v.h := by rcases dir_cases hu with h | h <;> grind
 have z1 := crs_on np y
 have z2 := crs_on nu y
 rcases ha with ⟨g1, g2⟩ | ⟨g1, g2⟩ | ⟨g1, g2⟩ | ⟨g1, g2⟩ | ⟨_, _, _, _, g5⟩
 rotate_right
 ·rcases dir_cases hp with h | h <;> rcases dir_cases hu with k | k <;> grind
 ·have := side_neg hu g1 g2; rw [← e] at this; grind
 ·have := side_pos hu g1 g2; rw [← e] at this; grind
 ·have := side_neg hp g1 g2; rw [e] at this; grind
 ·have := side_pos hp g1 g2; rw [e] at this; grind
theorem X_near {a b c : Q2} {y : Rat} (h1 : dir a b y ≠ 0) (h2 : dir b c y ≠ 0) (hb : b.h ≠ y) (hc : ((a.h < b.h ∧ c.h < b.h) ∨ (b.h < a.h ∧ b.h < c.h)) → crs a b c ≠ 0) : X a b y ≠ X b c y := fun e => by
 have n1 : a.h ≠ b.h := by rcases dir_cases h1 with h | h <;> grind
 have n2 : b.h ≠ c.h := by rcases dir_cases h2 with h | h <;> grind
 have z1 := crs_on n1 y
 have z2 := crs_on n2 y
 rw [← e] at z2
 have ne : crs a b c ≠ 0 := hc (by rcases dir_cases h1 with g | g <;> rcases dir_cases h2 with k | k <;> grind)
 have id : (y - b.h) * crs a b c = (a.h - b.h) * crs b c ⟨X a b y, y⟩ + (c.h - b.h) * crs a b ⟨X a b y, y⟩ := by unfold crs; grind
 rw [z1, z2] at id
 have : (y - b.h) * crs a b c = 0 := by grind
 rcases Rat.mul_eq_zero.1 this with h' | h'
 ·grind
 ·exact ne h'
theorem Contour.X_ne {n : Nat} {P : Nat → Q2} (c : Contour n P) {y : Rat} (gen : ∀ j, (P j).h ≠ y) {i j : Nat} (hij : i < j) (hj : j < i + n) (h1 : dir (P i) (P (i + 1)) y ≠ 0) (h2 : dir (P j) (P (j + 1)) y ≠ 0) : X (P i) (P (i + 1)) y ≠ X (P j) (P (j + 1)) y := by
 have n3 := c.n3
 by_cases e1 : j = i + 1
 ·subst e1
  exact X_near h1 h2 (gen _) (c.peak i)
 by_cases e2 : j + 1 = i + n
 ·have p1 : P (j + 1) = P i := by rw [e2, c.per]
  have p2 : P (j + 2) = P (i + 1) := by rw [show j + 2 = i + 1 + n by omega, c.per]
  have := X_near (a := P j) (b := P (j + 1)) (c := P (j + 2)) (y := y) h2 (by rw [p1, p2]; exact h1) (gen _) (c.peak j)
  rw [p2, p1] at this
  rw [p1]
  exact fun e => this e.symm
 ·exact X_far h1 h2 (c.apart i j (by omega) (by omega))
def cl (P : Nat → Q2) (y : Rat) : Nat → List (Rat × Int)
 | 0 => []
 | n + 1 => if dir (P n) (P (n + 1)) y = 0 then cl P y n else (X (P n) (P (n + 1)) y, dir (P n) (P (n + 1)) y) :: cl P y n
theorem cl_gsum (P : Nat → Q2) (y x : Rat) : ∀ n, gsum (cl P y n) x = isum n (fun j => if x < X (P j) (P (j + 1)) y then dir (P j) (P (j + 1)) y else 0)
 | 0 => rfl
 | n + 1 => by
  have ih := cl_gsum P y x n
  show gsum (if _ then _ else _) x = isum n _ + _
  rw [← ih]
  by_cases h : dir (P n) (P (n + 1)) y = 0
  ·rw [if_pos h]; simp [h]
  ·rw [if_neg h]
   unfold gsum
   simp only [List.map_cons, List.sum_cons]
   omega
theorem cl_tsum (P : Nat → Q2) (y : Rat) : ∀ n, tsum (cl P y n) = isum n (fun j => dir (P j) (P (j + 1)) y)
 | 0 => rfl
 | n + 1 => by
  have ih := cl_tsum P y n
  show tsum (if _ then _ else _) = isum n _ + _
  rw [← ih]
  by_cases h : dir (P n) (P (n + 1)) y = 0
  ·rw [if_pos h]; simp [h]
  ·rw [if_neg h]
   unfold tsum
   simp only [List.map_cons, List.sum_cons]
   omega
theorem cl_mem {P : Nat → Q2} {y : Rat} {e : Rat × Int} : ∀ {n}, e ∈ cl P y n → ∃ j, j < n ∧ dir (P j) (P (j + 1)) y ≠ 0 ∧ e = (X (P j) (P (j + 1)) y, dir (P j) (P (j + 1)) y)
 | 0, h => by simp [cl] at h
 | n + 1, h => by
  unfold cl at h
  split at h
  ·obtain ⟨j, h1, h2⟩ := cl_mem h
   exact ⟨j, by omega, h2⟩
  ·rename_i hd
   rcases List.mem_cons.1 h with rfl | h
   ·exact ⟨n, by omega, hd, rfl⟩
   ·obtain ⟨j, h1, h2⟩ := cl_mem h
    exact ⟨j, by omega, h2⟩
theorem dir_tel (u v : Q2) {y : Rat} (h1 : u.h ≠ y) (h2 : v.h ≠ y) : dir u v y = (if y < v.h then 1 else 0) - (if y < u.h then 1 else 0) := by
 unfold dir
 by_cases g1 : u.h < y <;> by_cases g2 : v.h < y
 ·rw [if_neg (by grind), if_neg (by grind), if_neg (by grind), if_neg (by grind)]; rfl
 ·rw [if_pos (by grind), if_pos (by grind), if_neg (by grind)]; rfl
 ·rw [if_neg (by grind), if_pos (by grind), if_neg (by grind), if_pos (by grind)]; rfl
 ·rw [if_neg (by grind), if_neg (by grind), if_pos (by grind), if_pos (by grind)]; rfl
theorem cl_total {n : Nat} {P : Nat → Q2} (c : Contour n P) {y : Rat} (gen : ∀ j, (P j).h ≠ y) : tsum (cl P y n) = 0 := by
 rw [cl_tsum, isum_congr fun j _ => dir_tel (P j) (P (j + 1)) (gen j) (gen (j + 1))]
 have t := isum_tel n (fun j => if y < (P j).h then 1 else 0)
 have p : P n = P 0 := by have := c.per 0; rwa [Nat.zero_add] at this
 simp only [p] at t
 omega
theorem cl_nodup {n : Nat} {P : Nat → Q2} (c : Contour n P) {y : Rat} (gen : ∀ j, (P j).h ≠ y) : ∀ m, m ≤ n → ((cl P y m).map (·.1)).Nodup
 | 0, _ => List.nodup_nil
 | m + 1, hm => by
  have ih := cl_nodup c gen m (by omega)
  unfold cl
  split
  ·exact ih
  ·rename_i hd
   rw [List.map_cons, List.nodup_cons]
   refine ⟨fun hx => ?_, ih⟩
   obtain ⟨e, he, hxe⟩ := List.mem_map.1 hx
   obtain ⟨j, hj, hdj, rfl⟩ := cl_mem he
   exact c.X_ne gen hj (by omega) hdj hd hxe
end Go.Proofs.YtngginofamlkkaaGreatDoor.PlaneG
namespace Go.Proofs.YtngginofamlkkaaGreatDoor.PlaneG
theorem cl_alt {n : Nat} {P : Nat → Q2} (c : Contour n P) (hv : ∀ s, val n P s = 0) {y : Rat} (gen : ∀ j, (P j).h ≠ y) : Alt (cl P y n) := by
 have n3 := c.n3
 refine ⟨cl_nodup c gen n (Nat.le_refl _), fun e he => ?_⟩
 obtain ⟨j, hj, hd, rfl⟩ := cl_mem he
 have hw := wind_line c (X (P j) (P (j + 1)) y) y
 rw [← cl_gsum] at hw
 simp only
 rw [← hw]
 have p0 : P (j + n - 1 + 1) = P j := by rw [show j + n - 1 + 1 = j + n by omega, c.per]
 have p1 : P (j + n - 1 + 2) = P (j + 1) := by rw [show j + n - 1 + 2 = j + 1 + n by omega, c.per]
 rcases dir_cases hd with ⟨g1, g2, g3⟩ | ⟨g1, g2, g3⟩
 ·left
  refine ⟨g3, ?_⟩
  have := wind_on_up c (s := j + n - 1) (y := y) (by rw [p0, p1]; grind) (by rw [p0]; exact g1) (by rw [p1]; exact g2) gen
  rw [p0, p1, hv] at this
  exact this
 ·right
  refine ⟨g3, ?_⟩
  have := wind_on_down c (s := j + n - 1) (y := y) (by rw [p0, p1]; grind) (by rw [p1]; exact g1) (by rw [p0]; exact g2) gen
  rw [p0, p1, hv] at this
  rw [X_rev (by grind)]
  exact this
def flip (l : List (Rat × Int)) : List (Rat × Int) := l.map fun e => (e.1, -e.2)
theorem flip_gsum (l : List (Rat × Int)) (x : Rat) : gsum (flip l) x = - gsum l x := by
 unfold gsum flip
 induction l with
 | nil => rfl
 | cons a l ih =>
  simp only [List.map_cons, List.sum_cons] at ih ⊢
  rw [ih]
  split <;> omega
theorem flip_tsum (l : List (Rat × Int)) : tsum (flip l) = - tsum l := by
 unfold tsum flip
 induction l with
 | nil => rfl
 | cons a l ih =>
  simp only [List.map_cons, List.sum_cons] at ih ⊢
  rw [ih]
  omega
theorem flip_dsum (l : List (Rat × Int)) : dsum (flip l) = - dsum l := by
 unfold dsum flip
 induction l with
 | nil => simp
 | cons a l ih =>
  simp only [List.map_cons, List.sum_cons] at ih ⊢
  rw [ih, Rat.intCast_neg]
  grind
theorem cl_alt' {n : Nat} {P : Nat → Q2} (c : Contour n P) (hv : ∀ s, val n P s = -1) {y : Rat} (gen : ∀ j, (P j).h ≠ y) : Alt (flip (cl P y n)) := by
 have n3 := c.n3
 refine ⟨by
  have := cl_nodup c gen n (Nat.le_refl _)
  unfold flip
  rw [List.map_map]
  exact this, fun e he => ?_⟩
 obtain ⟨e0, he0, rfl⟩ := List.mem_map.1 he
 obtain ⟨j, hj, hd, rfl⟩ := cl_mem he0
 have hw := wind_line c (X (P j) (P (j + 1)) y) y
 rw [← cl_gsum] at hw
 simp only
 rw [flip_gsum, ← hw]
 have p0 : P (j + n - 1 + 1) = P j := by rw [show j + n - 1 + 1 = j + n by omega, c.per]
 have p1 : P (j + n - 1 + 2) = P (j + 1) := by rw [show j + n - 1 + 2 = j + 1 + n by omega, c.per]
 rcases dir_cases hd with ⟨g1, g2, g3⟩ | ⟨g1, g2, g3⟩
 ·right
  refine ⟨by omega, ?_⟩
  have := wind_on_up c (s := j + n - 1) (y := y) (by rw [p0, p1]; grind) (by rw [p0]; exact g1) (by rw [p1]; exact g2) gen
  rw [p0, p1, hv] at this
  unfold at_ at this
  omega
 ·left
  refine ⟨by omega, ?_⟩
  have := wind_on_down c (s := j + n - 1) (y := y) (by rw [p0, p1]; grind) (by rw [p1]; exact g1) (by rw [p0]; exact g2) gen
  rw [p0, p1, hv] at this
  rw [X_rev (by grind)]
  unfold at_ at this
  omega
theorem dsum_sign {n : Nat} {P : Nat → Q2} (c : Contour n P) : (∀ y, (∀ j, (P j).h ≠ y) → 0 ≤ dsum (cl P y n) ∧ (cl P y n ≠ [] → 0 < dsum (cl P y n))) ∨ (∀ y, (∀ j, (P j).h ≠ y) → dsum (cl P y n) ≤ 0 ∧ (cl P y n ≠ [] → dsum (cl P y n) < 0)) := by
 rcases val_01 c with hv | hv
 ·exact .inl fun y gen => dsum_pos _ _ (Nat.le_refl _) (cl_alt c hv gen) (cl_total c gen)
 ·refine .inr fun y gen => ?_
  have := dsum_pos _ _ (Nat.le_refl _) (cl_alt' c hv gen) (by rw [flip_tsum, cl_total c gen]; rfl)
  rw [flip_dsum] at this
  refine ⟨by grind, fun hne => ?_⟩
  have h2 := this.2 (by unfold flip; simpa using hne)
  grind
end Go.Proofs.YtngginofamlkkaaGreatDoor.PlaneG
namespace Go.Proofs.YtngginofamlkkaaGreatDoor.PlaneG
def rsum : Nat → (Nat → Rat) → Rat
 | 0, _ => 0
 | n + 1, f => rsum n f + f n
theorem rsum_congr {n : Nat} {f g : Nat → Rat} (h : ∀ j, j < n → f j = g j) : rsum n f = rsum n g := by
 induction n with
 | zero => rfl
 | succ n ih =>
  show rsum n f + f n = rsum n g + g n
  rw [ih fun j hj => h j (by omega), h n (by omega)]
theorem rsum_add (n : Nat) (f g : Nat → Rat) : rsum n (fun j => f j + g j) = rsum n f + rsum n g := by
 induction n with
 | zero => show (0 : Rat) = 0 + 0; grind
 | succ n ih =>
  show rsum n _ + (f n + g n) = rsum n f + f n + (rsum n g + g n)
  rw [ih]; grind
theorem rsum_zero (n : Nat) : rsum n (fun _ => 0) = 0 := by
 induction n with
 | zero => rfl
 | succ n ih => show rsum n _ + 0 = 0; rw [ih]; grind
theorem rsum_swap (m : Nat) (f : Nat → Nat → Rat) : ∀ n, rsum n (fun j => rsum m (fun k => f j k)) = rsum m (fun k => rsum n (fun j => f j k))
 | 0 => (rsum_zero m).symm
 | n + 1 => by
  have ih := rsum_swap m f n
  show rsum n _ + rsum m _ = rsum m (fun k => rsum n (fun j => f j k) + f n k)
  rw [ih, rsum_add]
def gone (a b lo : Int) (m : Nat) : Int := if lo + m ≤ a then 0 else if b ≤ lo + m then b - a else lo + m - a
def lv (z : Int) : Rat := (z : Rat) + 1 / 2
theorem lv_above {a z : Int} : (a : Rat) < lv z ↔ a ≤ z := by
 unfold lv
 constructor
 ·intro h
  rcases Int.lt_or_le z a with h' | h'
  ·have : (z : Rat) + 1 ≤ a := by exact_mod_cast h'
   grind
  ·exact h'
 ·intro h
  have : (a : Rat) ≤ z := by exact_mod_cast h
  grind
theorem lv_below {b z : Int} : lv z < (b : Rat) ↔ z < b := by
 unfold lv
 constructor
 ·intro h
  rcases Int.lt_or_le z b with h' | h'
  ·exact h'
  ·have : (b : Rat) ≤ z := by exact_mod_cast h'
   grind
 ·intro h
  have : (z : Rat) + 1 ≤ b := by exact_mod_cast h
  grind
theorem edge_part {u v : Q2} {a b lo : Int} (hu : u.h = a) (hv : v.h = b) (hab : a < b) (hlo : lo ≤ a) (m : Nat) :
  rsum m (fun k => (dir u v (lv (lo + k)) : Rat) * (2 * X u v (lv (lo + k)))) = 2 * u.x * gone a b lo m + (v.x - u.x) / (b - a) * gone a b lo m * gone a b lo m := by
 induction m with
 | zero =>
  have : gone a b lo 0 = 0 := by unfold gone; rw [if_pos (by omega)]
  rw [this]
  show (0 : Rat) = _
  grind
 | succ m ih =>
  show rsum m _ + (dir u v (lv (lo + m)) : Rat) * (2 * X u v (lv (lo + m))) = _
  rw [ih]
  by_cases h1 : lo + m + 1 ≤ a
  ·have e1 : gone a b lo m = 0 := by unfold gone; rw [if_pos (by omega)]
   have e2 : gone a b lo (m + 1) = 0 := by unfold gone; rw [if_pos (by omega)]
   have e3 : dir u v (lv (lo + m)) = 0 := by
    unfold dir
    rw [hu, hv, if_neg (by rw [lv_above]; omega), if_neg (by rw [lv_above]; omega)]
   rw [e1, e2, e3]
   grind
  ·by_cases h2 : b ≤ lo + m
   ·have e1 : gone a b lo m = b - a := by unfold gone; rw [if_neg (by omega), if_pos (by omega)]
    have e2 : gone a b lo (m + 1) = b - a := by unfold gone; rw [if_neg (by omega), if_pos (by omega)]
    have e3 : dir u v (lv (lo + m)) = 0 := by
     unfold dir
     rw [hu, hv, if_neg (by rw [lv_below]; omega), if_neg (by rw [lv_below]; omega)]
    rw [e1, e2, e3]
    grind
   ·have e1 : gone a b lo m = lo + m - a := by
     unfold gone
     by_cases h3 : lo + (m : Int) ≤ a
     ·rw [if_pos h3]; omega
     ·rw [if_neg h3, if_neg (by omega)]
    have e2 : gone a b lo (m + 1) = lo + m - a + 1 := by
     unfold gone
     rw [if_neg (by omega)]
     by_cases h3 : b ≤ lo + ((m + 1 : Nat) : Int)
     ·rw [if_pos h3]; omega
     ·rw [if_neg h3]; omega
    have e3 : dir u v (lv (lo + m)) = 1 := by
     unfold dir
     rw [hu, hv, if_pos (by rw [lv_above, lv_below]; omega)]
    rw [e1, e2, e3]
    generalize hz : lo + (m : Int) = z
    unfold X lv
    rw [hu, hv]
    have hn : (b : Rat) - a ≠ 0 := by
     have : (a : Rat) < b := by exact_mod_cast hab
     grind
    have d1 : ∀ t : Rat, (v.x - u.x) * (t / ((b : Rat) - a)) = (v.x - u.x) / (b - a) * t := fun t => by
     rw [Rat.div_def, Rat.div_def]; grind
    rw [d1]
    generalize (v.x - u.x) / ((b : Rat) - a) = k
    simp only [Rat.intCast_add, Rat.intCast_sub, Rat.intCast_one]
    grind
theorem edge_all {u v : Q2} {a b lo : Int} {K : Nat} (hu : u.h = a) (hv : v.h = b) (hab : a < b) (hlo : lo ≤ a) (hK : b ≤ lo + K) :
  rsum K (fun k => (dir u v (lv (lo + k)) : Rat) * (2 * X u v (lv (lo + k)))) = (u.x + v.x) * (v.h - u.h) := by
 rw [edge_part hu hv hab hlo, hu, hv]
 have e : gone a b lo K = b - a := by unfold gone; rw [if_neg (by omega), if_pos hK]
 have hn : (b : Rat) - a ≠ 0 := by
  have : (a : Rat) < b := by exact_mod_cast hab
  grind
 rw [e, Rat.intCast_sub]
 have d1 : (v.x - u.x) / ((b : Rat) - a) * ((b : Rat) - a) = v.x - u.x := by
  rw [Rat.div_def, Rat.mul_assoc, Rat.inv_mul_cancel _ hn, Rat.mul_one]
 rw [d1]
 grind
end Go.Proofs.YtngginofamlkkaaGreatDoor.PlaneG
namespace Go.Proofs.YtngginofamlkkaaGreatDoor.PlaneG
def area2 (n : Nat) (P : Nat → Q2) : Rat := rsum n (fun j => ((P j).x + (P (j + 1)).x) * ((P (j + 1)).h - (P j).h))
theorem dir_rev (u v : Q2) (y : Rat) : dir v u y = - dir u v y := by
 unfold dir
 by_cases h1 : u.h < y ∧ y < v.h
 ·rw [if_pos h1, if_neg (by grind), if_pos (by grind)]
 ·by_cases h2 : v.h < y ∧ y < u.h
  ·rw [if_pos h2, if_neg h1, if_pos h2]; rfl
  ·rw [if_neg h2, if_neg h1, if_neg h1, if_neg h2]; rfl
theorem rsum_neg (n : Nat) (f : Nat → Rat) : rsum n (fun j => - f j) = - rsum n f := by
 induction n with
 | zero => show (0 : Rat) = -0; grind
 | succ n ih => show rsum n _ + - f n = -(rsum n f + f n); rw [ih]; grind
theorem edge_any {u v : Q2} {a b lo : Int} {K : Nat} (hu : u.h = a) (hv : v.h = b) (hab : a ≠ b) (ha : lo ≤ a) (hb : lo ≤ b) (hKa : a ≤ lo + K) (hKb : b ≤ lo + K) :
  rsum K (fun k => (dir u v (lv (lo + k)) : Rat) * (2 * X u v (lv (lo + k)))) = (u.x + v.x) * (v.h - u.h) := by
 rcases Int.lt_or_lt_of_ne hab with h | h
 ·exact edge_all hu hv h ha hKb
 ·have hne : u.h ≠ v.h := by
   rw [hu, hv]
   intro e
   have : a = b := by exact_mod_cast e
   exact hab this
  have e := edge_all hv hu h hb hKa
  have : rsum K (fun k => (dir u v (lv (lo + k)) : Rat) * (2 * X u v (lv (lo + k)))) = rsum K (fun k => - ((dir v u (lv (lo + k)) : Rat) * (2 * X v u (lv (lo + k))))) := rsum_congr fun k _ => by
   rw [dir_rev u v, X_rev hne, Rat.intCast_neg]
   grind
  rw [this, rsum_neg, e]
  grind
theorem cl_dsum (P : Nat → Q2) (y : Rat) : ∀ n, dsum (cl P y n) = rsum n (fun j => (dir (P j) (P (j + 1)) y : Rat) * X (P j) (P (j + 1)) y)
 | 0 => rfl
 | n + 1 => by
  have ih := cl_dsum P y n
  show dsum (if _ then _ else _) = rsum n _ + _
  rw [← ih]
  by_cases h : dir (P n) (P (n + 1)) y = 0
  ·rw [if_pos h]
   simp only [h, Rat.intCast_zero]
   grind
  ·rw [if_neg h]
   unfold dsum
   simp only [List.map_cons, List.sum_cons]
   grind
theorem rsum_two (n : Nat) (f g : Nat → Rat) : rsum n (fun j => f j * (2 * g j)) = 2 * rsum n (fun j => f j * g j) := by
 induction n with
 | zero => show (0 : Rat) = 2 * 0; grind
 | succ n ih => show rsum n _ + f n * (2 * g n) = 2 * (rsum n _ + f n * g n); rw [ih]; grind
theorem area_levels {n : Nat} {P : Nat → Q2} (c : Contour n P) {H : Nat → Int} (hH : ∀ j, (P j).h = H j) {lo : Int} {K : Nat} (h1 : ∀ j, lo ≤ H j) (h2 : ∀ j, H j ≤ lo + K) :
  area2 n P = rsum K (fun k => 2 * dsum (cl P (lv (lo + k)) n)) := by
 have n3 := c.n3
 have e : ∀ j, j < n → ((P j).x + (P (j + 1)).x) * ((P (j + 1)).h - (P j).h) = rsum K (fun k => (dir (P j) (P (j + 1)) (lv (lo + k)) : Rat) * (2 * X (P j) (P (j + 1)) (lv (lo + k)))) := fun j _ =>
  (edge_any (hH j) (hH (j + 1)) (fun e => c.lev j (j + 1) (by omega) (by omega) (by rw [hH, hH, e])) (h1 j) (h1 (j + 1)) (h2 j) (h2 (j + 1))).symm
 unfold area2
 rw [rsum_congr e, rsum_swap]
 refine rsum_congr fun k _ => ?_
 rw [cl_dsum, rsum_two]
theorem rsum_pos {n : Nat} {f : Nat → Rat} (h : ∀ j, j < n → 0 ≤ f j) {i : Nat} (hi : i < n) (hp : 0 < f i) : 0 < rsum n f := by
 induction n with
 | zero => omega
 | succ n ih =>
  show 0 < rsum n f + f n
  have nn : ∀ m, m ≤ n → 0 ≤ rsum m f := fun m hm => by
   induction m with
   | zero => exact Rat.le_refl
   | succ m ihm =>
    show 0 ≤ rsum m f + f m
    have := ihm (by omega)
    have := h m (by omega)
    grind
  rcases Nat.lt_or_ge i n with h' | h'
  ·have := ih (fun j hj => h j (by omega)) h'
   have := h n (by omega)
   grind
  ·obtain rfl : i = n := by omega
   have := nn i (Nat.le_refl _)
   grind
theorem cl_some {P : Nat → Q2} {y : Rat} : ∀ {n j : Nat}, j < n → dir (P j) (P (j + 1)) y ≠ 0 → cl P y n ≠ []
 | 0, j, h, _ => by omega
 | n + 1, j, h, hd => by
  unfold cl
  by_cases e : dir (P n) (P (n + 1)) y = 0
  ·rw [if_pos e]
   refine cl_some (j := j) ?_ hd
   rcases Nat.lt_or_ge j n with h' | h'
   ·exact h'
   ·obtain rfl : j = n := by omega
    exact absurd e hd
  ·rw [if_neg e]; simp
theorem area_ne {n : Nat} {P : Nat → Q2} (c : Contour n P) {H : Nat → Int} (hH : ∀ j, (P j).h = H j) {lo : Int} {K : Nat} (h1 : ∀ j, lo ≤ H j) (h2 : ∀ j, H j ≤ lo + K) : area2 n P ≠ 0 := by
 have n3 := c.n3
 have gen : ∀ (z : Int) j, (P j).h ≠ lv z := fun z j e => by
  rw [hH] at e
  rcases Int.lt_or_le z (H j) with h | h
  ·have := lv_below.2 h; grind
  ·have := lv_above.2 h; grind
 have hne : H 0 ≠ H 1 := fun e => c.lev 0 1 (by omega) (by omega) (by rw [hH, hH, e])
 obtain ⟨k, hk, hd⟩ : ∃ k : Nat, k < K ∧ dir (P 0) (P 1) (lv (lo + k)) ≠ 0 := by
  have a0 := h1 0; have a1 := h1 1; have b0 := h2 0; have b1 := h2 1
  rcases Int.lt_or_lt_of_ne hne with h | h
  ·refine ⟨(H 0 - lo).toNat, by omega, ?_⟩
   unfold dir
   rw [hH, hH, if_pos (by rw [lv_above, lv_below]; omega)]
   decide
  ·refine ⟨(H 1 - lo).toNat, by omega, ?_⟩
   unfold dir
   rw [hH, hH, if_neg (by rw [lv_above, lv_below]; omega), if_pos (by rw [lv_above, lv_below]; omega)]
   decide
 have hc := cl_some (n := n) (j := 0) (by omega) hd
 rw [area_levels c hH h1 h2]
 rcases dsum_sign c with hs | hs
 ·have : 0 < rsum K (fun k => 2 * dsum (cl P (lv (lo + k)) n)) := rsum_pos (i := k) (fun j _ => by
   have := (hs (lv (lo + j)) (gen _)).1; grind) hk (by have := (hs (lv (lo + k)) (gen _)).2 hc; grind)
  grind
 ·have : 0 < rsum K (fun k => - (2 * dsum (cl P (lv (lo + k)) n))) := rsum_pos (i := k) (fun j _ => by
   have := (hs (lv (lo + j)) (gen _)).1; grind) hk (by have := (hs (lv (lo + k)) (gen _)).2 hc; grind)
  rw [rsum_neg] at this
  grind
end Go.Proofs.YtngginofamlkkaaGreatDoor.PlaneG
namespace Go.Proofs.YtngginofamlkkaaGreatDoor.PlaneG
def sh (M : Int) (x y : Int) : Q2 := ⟨x, (M * y - x : Int)⟩
def crsI (ax ay bx b_y cx cy : Int) : Int := (bx - ax) * (cy - ay) - (b_y - ay) * (cx - ax)
theorem crs_sh (M ax ay bx b_y cx cy : Int) : crs (sh M ax ay) (sh M bx b_y) (sh M cx cy) = ((M * crsI ax ay bx b_y cx cy : Int) : Rat) := by
 unfold crs sh crsI
 simp only [Rat.intCast_sub, Rat.intCast_mul]
 grind
end Go.Proofs.YtngginofamlkkaaGreatDoor.PlaneG

namespace Go.Proofs.YtngginofamlkkaaGreatDoor.PlaneG
structure I2 where
 x : Int
 y : Int
 deriving DecidableEq
def cri (a b c : I2) : Int := (b.x - a.x) * (c.y - a.y) - (b.y - a.y) * (c.x - a.x)
def dti (a b c : I2) : Int := (a.x - b.x) * (c.x - b.x) + (a.y - b.y) * (c.y - b.y)
def onI (a b q : I2) : Prop := cri a b q = 0 ∧ min a.x b.x ≤ q.x ∧ q.x ≤ max a.x b.x ∧ min a.y b.y ≤ q.y ∧ q.y ≤ max a.y b.y
def opp (p q : Int) : Prop := (p < 0 ∧ 0 < q) ∨ (0 < p ∧ q < 0)
def meetI (a b c d : I2) : Prop := onI a b c ∨ onI a b d ∨ onI c d a ∨ onI c d b ∨ (opp (cri a b c) (cri a b d) ∧ opp (cri c d a) (cri c d b))
theorem sq_nn (z : Int) : 0 ≤ z * z := by
 rcases Int.le_total 0 z with h | h
 ·exact Int.mul_nonneg h h
 ·exact Int.mul_nonneg_of_nonpos_of_nonpos h h
theorem btw0 {a b c d : Int} (hc : a * d = b * c) (hd : a * c + b * d ≤ 0) : a * c ≤ 0 ∧ b * d ≤ 0 := by
 have sq : (a * c) * (b * d) = (a * d) * (a * d) := by grind
 have nn := sq_nn (a * d)
 constructor
 ·rcases Int.lt_or_le 0 (a * c) with h | h
  ·have := Int.mul_neg_of_pos_of_neg h (show b * d < 0 by omega)
   omega
  ·exact h
 ·rcases Int.lt_or_le 0 (b * d) with h | h
  ·have := Int.mul_neg_of_pos_of_neg h (show a * c < 0 by omega)
   have e : (b * d) * (a * c) = (a * c) * (b * d) := Int.mul_comm _ _
   omega
  ·exact h
theorem le0_two {a b : Int} (h : a * b ≤ 0) : (a ≤ 0 ∧ 0 ≤ b) ∨ (b ≤ 0 ∧ 0 ≤ a) := by
 rcases Int.lt_or_le 0 a with h1 | h1
 ·rcases Int.lt_or_le 0 b with h2 | h2
  ·have := Int.mul_pos h1 h2
   omega
  ·exact .inr ⟨h2, by omega⟩
 ·rcases Int.lt_or_le b 0 with h2 | h2
  ·rcases Int.lt_or_le a 0 with h3 | h3
   ·have := Int.mul_pos_of_neg_of_neg h3 h2
    omega
   ·exact .inr ⟨by omega, h3⟩
  ·exact .inl ⟨h1, h2⟩
theorem cri_swap (a b c : I2) : cri a b c = - cri b a c := by unfold cri; grind
theorem on_swap {a b q : I2} (h : onI a b q) : onI b a q := by
 unfold onI at *
 have := cri_swap a b q
 omega
theorem out_dot {a b c : I2} (h : cri a b c = 0) (hn : ¬ onI a b c) : 0 < dti a c b := by
 rcases Int.lt_or_le 0 (dti a c b) with h0 | h0
 ·exact h0
 exfalso
 have e : (a.x - c.x) * (b.y - c.y) = (a.y - c.y) * (b.x - c.x) := by
  unfold cri at h
  grind
 obtain ⟨h1, h2⟩ := btw0 e h0
 apply hn
 refine ⟨h, ?_⟩
 rcases le0_two h1 with ⟨x1, x2⟩ | ⟨x1, x2⟩ <;> rcases le0_two h2 with ⟨y1, y2⟩ | ⟨y1, y2⟩ <;> omega
theorem ratio_sign {r s k m : Int} (hk : 0 < k) (hm : 0 < m) (e : r * k = s * m) : (r < 0 ↔ s < 0) ∧ (0 < r ↔ 0 < s) := by
 constructor
 ·constructor
  ·intro h
   have h1 := Int.mul_neg_of_neg_of_pos h hk
   rcases Int.lt_or_le s 0 with h2 | h2
   ·exact h2
   ·have := Int.mul_nonneg h2 (show 0 ≤ m by omega)
    omega
  ·intro h
   have h1 := Int.mul_neg_of_neg_of_pos h hm
   rcases Int.lt_or_le r 0 with h2 | h2
   ·exact h2
   ·have := Int.mul_nonneg h2 (show 0 ≤ k by omega)
    omega
 ·constructor
  ·intro h
   have h1 := Int.mul_pos h hk
   rcases Int.lt_or_le 0 s with h2 | h2
   ·exact h2
   ·have := Int.mul_nonpos_of_nonpos_of_nonneg h2 (show 0 ≤ m by omega)
    omega
  ·intro h
   have h1 := Int.mul_pos h hm
   rcases Int.lt_or_le 0 r with h2 | h2
   ·exact h2
   ·have := Int.mul_nonpos_of_nonpos_of_nonneg h2 (show 0 ≤ k by omega)
    omega
theorem mul_zero_of {e f : Int} (he : e ≠ 0) (h : e * f = 0) : f = 0 := by
 rcases Int.mul_eq_zero.1 h with h | h
 ·exact absurd h he
 ·exact h
theorem I2.ne {a b : I2} (h : a ≠ b) : b.x - a.x ≠ 0 ∨ b.y - a.y ≠ 0 := by
 by_cases h1 : b.x - a.x = 0
 ·refine .inr fun h2 => h ?_
  cases a; cases b
  simp only [I2.mk.injEq] at *
  omega
 ·exact .inl h1
theorem one_side {a b c d : I2} (h : cri a b c = 0) (hd : cri a b d ≠ 0) (hn : ¬ onI a b c) : (cri c d a < 0 ∧ cri c d b < 0) ∨ (0 < cri c d a ∧ 0 < cri c d b) := by
 have hp := out_dot h hn
 have e : cri c d a * dti a c b = cri c d b * dti a c a := by
  unfold cri dti at *
  grind
 have hm : 0 < dti a c a := by
  have h1 := sq_nn (a.x - c.x)
  have h2 := sq_nn (a.y - c.y)
  rcases Int.lt_or_le 0 (dti a c a) with h3 | h3
  ·exact h3
  ·exfalso
   unfold dti at h3 hp
   have z1 : (a.x - c.x) * (a.x - c.x) = 0 := by omega
   have z2 : (a.y - c.y) * (a.y - c.y) = 0 := by omega
   have z1 : a.x - c.x = 0 := by rcases Int.mul_eq_zero.1 z1 with h | h <;> exact h
   have z2 : a.y - c.y = 0 := by rcases Int.mul_eq_zero.1 z2 with h | h <;> exact h
   rw [z1, z2, Int.zero_mul, Int.zero_mul] at hp
   omega
 have hs : cri a b d = cri c d a - cri c d b := by
  unfold cri at *
  grind
 obtain ⟨g1, g2⟩ := ratio_sign hp hm e
 omega
theorem line_all {a b c d : I2} (hab : a ≠ b) (h1 : cri a b c = 0) (h2 : cri a b d = 0) : cri c d a = 0 ∧ cri c d b = 0 := by
 rcases I2.ne hab with h | h
 ·constructor <;>
   (refine mul_zero_of h ?_; unfold cri at *; grind)
 ·constructor <;>
   (refine mul_zero_of h ?_; unfold cri at *; grind)
def lvl (M : Int) (a : I2) : Int := M * a.y - a.x
theorem scale_btw {e d k K : Int} (hK : 0 < K) (h0 : 0 ≤ k) (h1 : k ≤ K) (eq : e * K = d * k) : min 0 d ≤ e ∧ e ≤ max 0 d := by
 rcases Int.le_total 0 d with hd | hd
 ·have a1 := Int.mul_nonneg hd h0
  have a2 := Int.mul_le_mul_of_nonneg_left h1 hd
  constructor
  ·rcases Int.lt_or_le e 0 with h | h
   ·have := Int.mul_neg_of_neg_of_pos h hK
    omega
   ·omega
  ·rcases Int.lt_or_le d e with h | h
   ·have := Int.mul_lt_mul_of_pos_right h hK
    omega
   ·omega
 ·have a1 := Int.mul_nonpos_of_nonpos_of_nonneg hd h0
  have a2 := Int.mul_le_mul_of_nonpos_left hd h1
  constructor
  ·rcases Int.lt_or_le e d with h | h
   ·have := Int.mul_lt_mul_of_pos_right h hK
    omega
   ·omega
  ·rcases Int.lt_or_le 0 e with h | h
   ·have := Int.mul_pos h hK
    omega
   ·omega
theorem lvl_up {M : Int} {a b c : I2} (h : cri a b c = 0) (hl : lvl M a < lvl M b) (h1 : lvl M a ≤ lvl M c) (h2 : lvl M c ≤ lvl M b) : onI a b c := by
 have e1 : (c.x - a.x) * (lvl M b - lvl M a) = (b.x - a.x) * (lvl M c - lvl M a) := by
  unfold cri at h; unfold lvl; grind
 have e2 : (c.y - a.y) * (lvl M b - lvl M a) = (b.y - a.y) * (lvl M c - lvl M a) := by
  unfold cri at h; unfold lvl; grind
 have b1 := scale_btw (by omega) (by omega) (by omega) e1
 have b2 := scale_btw (by omega) (by omega) (by omega) e2
 refine ⟨h, ?_⟩
 omega
theorem lvl_on {M : Int} {a b c : I2} (h : cri a b c = 0) (hne : lvl M a ≠ lvl M b) (hn : ¬ onI a b c) : (lvl M c < lvl M a ∧ lvl M c < lvl M b) ∨ (lvl M a < lvl M c ∧ lvl M b < lvl M c) := by
 rcases Int.lt_or_gt_of_ne hne with hl | hl
 ·by_cases h1 : lvl M a ≤ lvl M c
  ·by_cases h2 : lvl M c ≤ lvl M b
   ·exact absurd (lvl_up h hl h1 h2) hn
   ·omega
  ·omega
 ·by_cases h1 : lvl M b ≤ lvl M c
  ·by_cases h2 : lvl M c ≤ lvl M a
   ·exact absurd (on_swap (lvl_up (by rw [cri_swap, h]; rfl) hl h1 h2)) hn
   ·omega
  ·omega
def Bd (N : Int) (a : I2) : Prop := -N ≤ a.x ∧ a.x ≤ N
theorem lvl_ne {M N : Int} (hM : 2 * N < M) {a b : I2} (ha : Bd N a) (hb : Bd N b) (h : a ≠ b) : lvl M a ≠ lvl M b := by
 intro e
 apply h
 unfold Bd at *
 unfold lvl at e
 have e2 : M * (b.y - a.y) = b.x - a.x := by grind
 have hN : 0 ≤ N := by omega
 have hy : b.y - a.y = 0 := by
  rcases Int.lt_or_le 0 (b.y - a.y) with h | h
  ·have := Int.mul_le_mul_of_nonneg_left (show 1 ≤ b.y - a.y by omega) (show 0 ≤ M by omega)
   omega
  ·rcases Int.lt_or_le (b.y - a.y) 0 with h | h
   ·have := Int.mul_le_mul_of_nonneg_left (show b.y - a.y ≤ -1 by omega) (show 0 ≤ M by omega)
    omega
   ·omega
 rw [hy, Int.mul_zero] at e2
 cases a; cases b
 simp only [I2.mk.injEq] at *
 omega
def shp (M : Int) (a : I2) : Q2 := ⟨a.x, (lvl M a : Int)⟩
theorem crs_shp (M : Int) (a b c : I2) : crs (shp M a) (shp M b) (shp M c) = ((M * cri a b c : Int) : Rat) := crs_sh M a.x a.y b.x b.y c.x c.y
theorem crs_neg {M : Int} (hM : 0 < M) {a b c : I2} : crs (shp M a) (shp M b) (shp M c) < 0 ↔ cri a b c < 0 := by
 rw [crs_shp]
 have : ((M * cri a b c : Int) : Rat) < ((0 : Int) : Rat) ↔ M * cri a b c < 0 := Rat.intCast_lt_intCast
 rw [show (0 : Rat) = ((0 : Int) : Rat) from rfl, this]
 constructor
 ·intro h
  rcases Int.lt_or_le (cri a b c) 0 with h2 | h2
  ·exact h2
  ·have := Int.mul_nonneg (show 0 ≤ M by omega) h2
   omega
 ·intro h
  exact Int.mul_neg_of_pos_of_neg hM h
theorem crs_pos {M : Int} (hM : 0 < M) {a b c : I2} : 0 < crs (shp M a) (shp M b) (shp M c) ↔ 0 < cri a b c := by
 rw [crs_shp]
 have : ((0 : Int) : Rat) < ((M * cri a b c : Int) : Rat) ↔ 0 < M * cri a b c := Rat.intCast_lt_intCast
 rw [show (0 : Rat) = ((0 : Int) : Rat) from rfl, this]
 constructor
 ·intro h
  rcases Int.lt_or_le 0 (cri a b c) with h2 | h2
  ·exact h2
  ·have := Int.mul_nonpos_of_nonneg_of_nonpos (show 0 ≤ M by omega) h2
   omega
 ·intro h
  exact Int.mul_pos hM h
theorem crs_zero {M : Int} {a b c : I2} (h : cri a b c = 0) : crs (shp M a) (shp M b) (shp M c) = 0 := by
 rw [crs_shp, h, Int.mul_zero]
 rfl
theorem lvl_lt {M : Int} {a b : I2} : (shp M a).h < (shp M b).h ↔ lvl M a < lvl M b := Rat.intCast_lt_intCast
theorem apart_of {M N : Int} (hM : 2 * N < M) {a b c d : I2} (ha : Bd N a) (hb : Bd N b) (hc : Bd N c) (hd : Bd N d) (hab : a ≠ b) (hcd : c ≠ d) (hm : ¬ meetI a b c d) : Apart (shp M a) (shp M b) (shp M c) (shp M d) := by
 have hM0 : 0 < M := by unfold Bd at ha; omega
 unfold meetI at hm
 simp only [not_or] at hm
 obtain ⟨m1, m2, m3, m4, m5⟩ := hm
 unfold Apart
 simp only [crs_neg hM0, crs_pos hM0, lvl_lt]
 by_cases p0 : cri a b c = 0
 ·by_cases q0 : cri a b d = 0
  ·obtain ⟨r0, s0⟩ := line_all hab p0 q0
   have l1 := lvl_ne hM ha hb hab
   have l2 := lvl_ne hM hc hd hcd
   have o1 := lvl_on p0 l1 m1
   have o2 := lvl_on q0 l1 m2
   have o3 := lvl_on r0 l2 m3
   have o4 := lvl_on s0 l2 m4
   refine .inr (.inr (.inr (.inr ⟨crs_zero p0, crs_zero q0, crs_zero r0, crs_zero s0, ?_⟩)))
   omega
  ·rcases one_side p0 q0 m1 with h | h
   ·exact .inr (.inr (.inl h))
   ·exact .inr (.inr (.inr (.inl h)))
 ·by_cases q0 : cri a b d = 0
  ·have := one_side q0 p0 m2
   have s1 := cri_swap c d a
   have s2 := cri_swap c d b
   rcases this with h | h
   ·exact .inr (.inr (.inr (.inl (by omega))))
   ·exact .inr (.inr (.inl (by omega)))
  ·by_cases r0 : cri c d a = 0
   ·by_cases s0 : cri c d b = 0
    ·exact absurd (line_all hcd r0 s0).1 p0
    ·rcases one_side r0 s0 m3 with h | h
     ·exact .inl h
     ·exact .inr (.inl h)
   ·by_cases s0 : cri c d b = 0
    ·have := one_side s0 r0 m4
     have s1 := cri_swap a b c
     have s2 := cri_swap a b d
     rcases this with h | h
     ·exact .inr (.inl (by omega))
     ·exact .inl (by omega)
    ·unfold opp at m5
     rcases Int.lt_or_gt_of_ne p0 with p1 | p1 <;> rcases Int.lt_or_gt_of_ne q0 with q1 | q1 <;> rcases Int.lt_or_gt_of_ne r0 with r1 | r1 <;> rcases Int.lt_or_gt_of_ne s0 with s1 | s1 <;>
      first
       | exact .inl ⟨p1, q1⟩
       | exact .inr (.inl ⟨p1, q1⟩)
       | exact .inr (.inr (.inl ⟨r1, s1⟩))
       | exact .inr (.inr (.inr (.inl ⟨r1, s1⟩)))
       | (exfalso; omega)
structure Simp (n : Nat) (p : Nat → I2) : Prop where
 n3 : 3 ≤ n
 per : ∀ i, p (i + n) = p i
 ne : ∀ i, p i ≠ p (i + 1)
 back : ∀ i, cri (p i) (p (i + 1)) (p (i + 2)) = 0 → dti (p i) (p (i + 1)) (p (i + 2)) ≤ 0
 far : ∀ i j, i + 1 < j → j + 1 < i + n → ¬ meetI (p i) (p (i + 1)) (p j) (p (j + 1))
theorem on_self (a b : I2) : onI a b a := by
 refine ⟨?_, ?_⟩
 ·unfold cri; grind
 ·omega
theorem Simp.dist {n : Nat} {p : Nat → I2} (s : Simp n p) {i j : Nat} (h : i < j) (h2 : j < i + n) : p i ≠ p j := by
 by_cases h3 : j = i + 1
 ·subst h3; exact s.ne i
 by_cases h4 : j + 1 = i + n
 ·have := s.ne j
  rw [h4, s.per] at this
  exact fun e => this e.symm
 ·intro e
  refine s.far i j (by omega) (by omega) (.inl ?_)
  rw [← e]
  exact on_self _ _
theorem dot_up {M : Int} {a b c : I2} (h : cri a b c = 0) (hl : (lvl M a < lvl M b ∧ lvl M c < lvl M b) ∨ (lvl M b < lvl M a ∧ lvl M b < lvl M c)) : 0 < dti a b c := by
 rcases Int.lt_or_le 0 (dti a b c) with h0 | h0
 ·exact h0
 exfalso
 have e : (a.x - b.x) * (c.y - b.y) = (a.y - b.y) * (c.x - b.x) := by
  unfold cri at h
  grind
 obtain ⟨h1, h2⟩ := btw0 e h0
 have h3 : (lvl M a - lvl M b) * (c.x - b.x) = (a.x - b.x) * (lvl M c - lvl M b) := by unfold lvl; grind
 have h4 : (lvl M a - lvl M b) * (c.y - b.y) = (a.y - b.y) * (lvl M c - lvl M b) := by unfold lvl; grind
 have hx : (a.x - b.x) * (c.x - b.x) = 0 := by
  have g : ((a.x - b.x) * (c.x - b.x)) * (lvl M a - lvl M b) = ((a.x - b.x) * (a.x - b.x)) * (lvl M c - lvl M b) := by grind
  have n1 := sq_nn (a.x - b.x)
  rcases Int.lt_or_eq_of_le h1 with h5 | h5
  ·exfalso
   rcases hl with ⟨l1, l2⟩ | ⟨l1, l2⟩
   ·have g1 := Int.mul_pos_of_neg_of_neg h5 (show lvl M a - lvl M b < 0 by omega)
    have g2 := Int.mul_nonpos_of_nonneg_of_nonpos n1 (show lvl M c - lvl M b ≤ 0 by omega)
    omega
   ·have g1 := Int.mul_neg_of_neg_of_pos h5 (show 0 < lvl M a - lvl M b by omega)
    have g2 := Int.mul_nonneg n1 (show 0 ≤ lvl M c - lvl M b by omega)
    omega
  ·exact h5
 have hy : (a.y - b.y) * (c.y - b.y) = 0 := by
  have g : ((a.y - b.y) * (c.y - b.y)) * (lvl M a - lvl M b) = ((a.y - b.y) * (a.y - b.y)) * (lvl M c - lvl M b) := by grind
  have n1 := sq_nn (a.y - b.y)
  rcases Int.lt_or_eq_of_le h2 with h5 | h5
  ·exfalso
   rcases hl with ⟨l1, l2⟩ | ⟨l1, l2⟩
   ·have g1 := Int.mul_pos_of_neg_of_neg h5 (show lvl M a - lvl M b < 0 by omega)
    have g2 := Int.mul_nonpos_of_nonneg_of_nonpos n1 (show lvl M c - lvl M b ≤ 0 by omega)
    omega
   ·have g1 := Int.mul_neg_of_neg_of_pos h5 (show 0 < lvl M a - lvl M b by omega)
    have g2 := Int.mul_nonneg n1 (show 0 ≤ lvl M c - lvl M b by omega)
    omega
  ·exact h5
 have q1 : (lvl M c - lvl M b) * ((a.x - b.x) * (a.x - b.x)) = 0 := by grind
 have q2 : (lvl M c - lvl M b) * ((a.y - b.y) * (a.y - b.y)) = 0 := by grind
 have q1 := mul_zero_of (by omega) q1
 have q2 := mul_zero_of (by omega) q2
 have q1 : a.x - b.x = 0 := by rcases Int.mul_eq_zero.1 q1 with h | h <;> exact h
 have q2 : a.y - b.y = 0 := by rcases Int.mul_eq_zero.1 q2 with h | h <;> exact h
 have : lvl M a = lvl M b := by
  unfold lvl
  rw [show a.y = b.y by omega, show a.x = b.x by omega]
 omega
theorem Simp.contour {n : Nat} {p : Nat → I2} (s : Simp n p) {M N : Int} (hM : 2 * N < M) (hb : ∀ i, Bd N (p i)) : Contour n fun i => shp M (p i) := by
 have hM0 : 0 < M := by have := hb 0; unfold Bd at this; omega
 refine ⟨s.n3, fun i => by rw [s.per], fun i j h1 h2 e => ?_, fun i j h1 h2 => ?_, fun i hp e => ?_⟩
 ·exact lvl_ne hM (hb i) (hb j) (s.dist h1 h2) (Rat.intCast_inj.1 e)
 ·exact apart_of hM (hb _) (hb _) (hb _) (hb _) (s.ne i) (s.ne j) (s.far i j h1 h2)
 ·have hz : cri (p i) (p (i + 1)) (p (i + 2)) = 0 := by
   have e2 : crs (shp M (p i)) (shp M (p (i + 1))) (shp M (p (i + 2))) = 0 := e
   rw [crs_shp, show (0 : Rat) = ((0 : Int) : Rat) from rfl] at e2
   exact mul_zero_of (by omega) (Rat.intCast_inj.1 e2)
  have h1 := s.back i hz
  have h2 := dot_up (M := M) hz (by simpa only [lvl_lt] using hp)
  omega
def a2 (n : Nat) (p : Nat → I2) : Int := isum n fun j => (p j).x * (p (j + 1)).y - (p (j + 1)).x * (p j).y
theorem isum_add (n : Nat) (f g : Nat → Int) : isum n (fun j => f j + g j) = isum n f + isum n g := by
 induction n with
 | zero => rfl
 | succ n ih => show isum n _ + (f n + g n) = isum n f + f n + (isum n g + g n); rw [ih]; omega
theorem isum_mul (n : Nat) (k : Int) (f : Nat → Int) : isum n (fun j => k * f j) = k * isum n f := by
 induction n with
 | zero => show (0 : Int) = k * 0; omega
 | succ n ih => show isum n _ + k * f n = k * (isum n f + f n); rw [ih, Int.mul_add]
theorem rsum_cast (n : Nat) (f : Nat → Int) : rsum n (fun j => ((f j : Int) : Rat)) = ((isum n f : Int) : Rat) := by
 induction n with
 | zero => rfl
 | succ n ih => show rsum n _ + _ = ((isum n f + f n : Int) : Rat); rw [ih, Rat.intCast_add]
theorem area_a2 {n : Nat} {p : Nat → I2} (per : ∀ i, p (i + n) = p i) (M : Int) : area2 n (fun i => shp M (p i)) = ((M * a2 n p : Int) : Rat) := by
 have e : area2 n (fun i => shp M (p i)) = ((isum n (fun j => ((p j).x + (p (j + 1)).x) * (lvl M (p (j + 1)) - lvl M (p j))) : Int) : Rat) := by
  rw [← rsum_cast]
  unfold area2
  refine rsum_congr fun j _ => ?_
  simp only [shp, Rat.intCast_mul, Rat.intCast_add, Rat.intCast_sub]
 rw [e]
 congr 1
 have e1 : ∀ j, ((p j).x + (p (j + 1)).x) * (lvl M (p (j + 1)) - lvl M (p j)) = M * ((p j).x * (p (j + 1)).y - (p (j + 1)).x * (p j).y) + ((fun i => M * ((p i).x * (p i).y) - (p i).x * (p i).x) (j + 1) - (fun i => M * ((p i).x * (p i).y) - (p i).x * (p i).x) j) := fun j => by
  unfold lvl
  grind
 have tel := isum_tel n fun i => M * ((p i).x * (p i).y) - (p i).x * (p i).x
 have h0 := per 0
 rw [Nat.zero_add] at h0
 simp only [h0, Int.sub_self] at tel
 rw [isum_congr fun j _ => e1 j, isum_add]
 simp only
 rw [tel, isum_mul]
 unfold a2
 omega
theorem Simp.area {n : Nat} {p : Nat → I2} (s : Simp n p) {N : Int} (hb : ∀ i, -N ≤ (p i).x ∧ (p i).x ≤ N ∧ -N ≤ (p i).y ∧ (p i).y ≤ N) : a2 n p ≠ 0 := by
 have hN : 0 ≤ N := by have := hb 0; omega
 have hl : ∀ i, -(2 * N + 1) * N - N ≤ lvl (2 * N + 1) (p i) ∧ lvl (2 * N + 1) (p i) ≤ (2 * N + 1) * N + N := fun i => by
  obtain ⟨h1, h2, h3, h4⟩ := hb i
  have a1 := Int.mul_le_mul_of_nonneg_left h3 (show 0 ≤ 2 * N + 1 by omega)
  have a2 := Int.mul_le_mul_of_nonneg_left h4 (show 0 ≤ 2 * N + 1 by omega)
  have a3 : (2 * N + 1) * -N = -(2 * N + 1) * N := by grind
  unfold lvl
  omega
 have c := s.contour (M := 2 * N + 1) (N := N) (by omega) fun i => ⟨(hb i).1, (hb i).2.1⟩
 have h := area_ne c (H := fun j => lvl (2 * N + 1) (p j)) (fun _ => rfl) (lo := -(2 * N + 1) * N - N) (K := (2 * ((2 * N + 1) * N + N)).toNat) (fun j => (hl j).1) (fun j => by
  have := hl j
  have e : -(2 * N + 1) * N = -((2 * N + 1) * N) := Int.neg_mul _ _
  have nn := Int.mul_nonneg (show 0 ≤ 2 * N + 1 by omega) hN
  generalize (2 * N + 1) * N = z at *
  omega)
 rw [area_a2 s.per] at h
 intro e
 rw [e, Int.mul_zero] at h
 exact h rfl
end Go.Proofs.YtngginofamlkkaaGreatDoor.PlaneG

namespace Go.Proofs.YtngginofamlkkaaGreatDoor.PlaneG
def ApI (u v a b : I2) : Prop := (cri u v a < 0 ∧ cri u v b < 0) ∨ (0 < cri u v a ∧ 0 < cri u v b) ∨ (cri a b u < 0 ∧ cri a b v < 0) ∨ (0 < cri a b u ∧ 0 < cri a b v) ∨ (cri u v a = 0 ∧ cri u v b = 0 ∧ cri a b u = 0 ∧ cri a b v = 0)
theorem api_of {a b c d : I2} (hab : a ≠ b) (hcd : c ≠ d) (hm : ¬ meetI a b c d) : ApI a b c d := by
 unfold meetI at hm
 simp only [not_or] at hm
 obtain ⟨m1, m2, m3, m4, m5⟩ := hm
 unfold ApI
 by_cases p0 : cri a b c = 0
 ·by_cases q0 : cri a b d = 0
  ·obtain ⟨r0, s0⟩ := line_all hab p0 q0
   exact .inr (.inr (.inr (.inr ⟨p0, q0, r0, s0⟩)))
  ·rcases one_side p0 q0 m1 with h | h
   ·exact .inr (.inr (.inl h))
   ·exact .inr (.inr (.inr (.inl h)))
 ·by_cases q0 : cri a b d = 0
  ·have := one_side q0 p0 m2
   have s1 := cri_swap c d a
   have s2 := cri_swap c d b
   rcases this with h | h
   ·exact .inr (.inr (.inr (.inl (by omega))))
   ·exact .inr (.inr (.inl (by omega)))
  ·by_cases r0 : cri c d a = 0
   ·by_cases s0 : cri c d b = 0
    ·exact absurd (line_all hcd r0 s0).1 p0
    ·rcases one_side r0 s0 m3 with h | h
     ·exact .inl h
     ·exact .inr (.inl h)
   ·by_cases s0 : cri c d b = 0
    ·have := one_side s0 r0 m4
     have s1 := cri_swap a b c
     have s2 := cri_swap a b d
     rcases this with h | h
     ·exact .inr (.inl (by omega))
     ·exact .inl (by omega)
    ·unfold opp at m5
     rcases Int.lt_or_gt_of_ne p0 with p1 | p1 <;> rcases Int.lt_or_gt_of_ne q0 with q1 | q1 <;> rcases Int.lt_or_gt_of_ne r0 with r1 | r1 <;> rcases Int.lt_or_gt_of_ne s0 with s1 | s1 <;>
      first
       | exact .inl ⟨p1, q1⟩
       | exact .inr (.inl ⟨p1, q1⟩)
       | exact .inr (.inr (.inl ⟨r1, s1⟩))
       | exact .inr (.inr (.inr (.inl ⟨r1, s1⟩)))
       | (exfalso; omega)
def wtI (a b q : I2) : Int := if a.y ≤ q.y ∧ q.y < b.y ∧ 0 < cri a b q then 1 else if b.y ≤ q.y ∧ q.y < a.y ∧ cri a b q < 0 then -1 else 0
def inI (u v c : I2) : Int := if u.y < c.y ∧ c.y ≤ v.y ∧ cri u v c < 0 then 1 else 0
theorem linI_pos {k c x y m n : Int} (hk : 0 < k) (hm : 0 ≤ m) (hn : 0 ≤ n) (hs : 0 < m + n) (e : k * c = -(x * m + y * n)) (hx : x < 0) (hy : y < 0) : 0 < c := by
 rcases Int.lt_or_le 0 c with h | h
 ·exact h
 exfalso
 have h1 := Int.mul_nonpos_of_nonneg_of_nonpos (show 0 ≤ k by omega) h
 have h2 := Int.mul_nonpos_of_nonpos_of_nonneg (show x ≤ 0 by omega) hm
 have h3 := Int.mul_nonpos_of_nonpos_of_nonneg (show y ≤ 0 by omega) hn
 rcases Int.lt_or_eq_of_le hm with h4 | h4
 ·have := Int.mul_neg_of_neg_of_pos hx h4
  omega
 ·have := Int.mul_neg_of_neg_of_pos hy (show 0 < n by omega)
  omega
theorem linI_neg {k c x y m n : Int} (hk : 0 < k) (hm : 0 ≤ m) (hn : 0 ≤ n) (hs : 0 < m + n) (e : k * c = -(x * m + y * n)) (hx : 0 < x) (hy : 0 < y) : c < 0 := by
 have := linI_pos (c := -c) (x := -x) (y := -y) hk hm hn hs (by grind) (by omega) (by omega)
 omega
theorem wtI_up {a b q : I2} (h : a.y < b.y) : wtI a b q = if a.y ≤ q.y ∧ q.y < b.y ∧ 0 < cri a b q then 1 else 0 := by
 unfold wtI
 by_cases h1 : a.y ≤ q.y ∧ q.y < b.y ∧ 0 < cri a b q
 ·rw [if_pos h1, if_pos h1]
 ·rw [if_neg h1, if_neg h1, if_neg (by omega)]
theorem wtI_rev (a b q : I2) : wtI b a q = - wtI a b q := by
 have hs := cri_swap a b q
 unfold wtI
 by_cases h1 : a.y ≤ q.y ∧ q.y < b.y ∧ 0 < cri a b q
 ·rw [if_pos h1, if_neg (by omega), if_pos (by omega)]
 ·rw [if_neg h1]
  by_cases h2 : b.y ≤ q.y ∧ q.y < a.y ∧ cri a b q < 0
  ·rw [if_pos (by omega), if_pos h2]; rfl
  ·rw [if_neg (by omega), if_neg (by omega), if_neg h2]; rfl
theorem fourI (a b u v : I2) : (b.y - a.y) * cri u v a = -(cri a b u * (v.y - a.y) + cri a b v * (a.y - u.y)) ∧ (b.y - a.y) * cri u v b = -(cri a b u * (v.y - b.y) + cri a b v * (b.y - u.y)) := by
 unfold cri; constructor <;> grind
theorem dltI_up {u v a b : I2} (huv : u.y < v.y) (hab : a.y < b.y) (h : ApI u v a b) : wtI a b u - wtI a b v = inI u v b - inI u v a := by
 rw [wtI_up hab, wtI_up hab]
 unfold inI
 obtain ⟨e3, e4⟩ := fourI a b u v
 obtain ⟨e1, e2⟩ := fourI u v a b
 have k1 : 0 < b.y - a.y := by omega
 have k2 : 0 < v.y - u.y := by omega
 by_cases c1 : b.y ≤ u.y
 ·rw [if_neg (by omega), if_neg (by omega), if_neg (by omega), if_neg (by omega)]
 by_cases c2 : v.y < a.y
 ·rw [if_neg (by omega), if_neg (by omega), if_neg (by omega), if_neg (by omega)]
 by_cases c3 : a.y ≤ u.y
 ·by_cases c4 : v.y < b.y
  ·rw [if_neg (c := u.y < b.y ∧ b.y ≤ v.y ∧ cri u v b < 0) (by omega), if_neg (c := u.y < a.y ∧ a.y ≤ v.y ∧ cri u v a < 0) (by omega)]
   have : (0 < cri a b u ↔ 0 < cri a b v) := by
    rcases h with ⟨h1, h2⟩ | ⟨h1, h2⟩ | ⟨h1, h2⟩ | ⟨h1, h2⟩ | ⟨h1, h2, h3, h4⟩
    ·have g1 := linI_pos k2 (by omega) (by omega) (by omega) e1 h1 h2
     have g2 := linI_pos k2 (by omega) (by omega) (by omega) e2 h1 h2
     omega
    ·have g1 := linI_neg k2 (by omega) (by omega) (by omega) e1 h1 h2
     have g2 := linI_neg k2 (by omega) (by omega) (by omega) e2 h1 h2
     omega
    ·omega
    ·omega
    ·omega
   by_cases q : 0 < cri a b u
   ·rw [if_pos (by omega), if_pos (by omega)]; rfl
   ·rw [if_neg (by omega), if_neg (by omega)]
  ·rw [if_neg (c := a.y ≤ v.y ∧ v.y < b.y ∧ 0 < cri a b v) (by omega), if_neg (c := u.y < a.y ∧ a.y ≤ v.y ∧ cri u v a < 0) (by omega)]
   have : (0 < cri a b u ↔ cri u v b < 0) := by
    rcases h with ⟨h1, h2⟩ | ⟨h1, h2⟩ | ⟨h1, h2⟩ | ⟨h1, h2⟩ | ⟨h1, h2, h3, h4⟩
    ·have g1 := linI_pos k2 (by omega) (by omega) (by omega) e1 h1 h2
     omega
    ·have g1 := linI_neg k2 (by omega) (by omega) (by omega) e1 h1 h2
     omega
    ·have g1 := linI_pos k1 (by omega) (by omega) (by omega) e4 h1 h2
     omega
    ·have g1 := linI_neg k1 (by omega) (by omega) (by omega) e4 h1 h2
     omega
    ·omega
   by_cases q : 0 < cri a b u
   ·rw [if_pos (by omega), if_pos (by omega)]
   ·rw [if_neg (by omega), if_neg (by omega)]
 ·by_cases c4 : v.y < b.y
  ·rw [if_neg (c := a.y ≤ u.y ∧ u.y < b.y ∧ 0 < cri a b u) (by omega), if_neg (c := u.y < b.y ∧ b.y ≤ v.y ∧ cri u v b < 0) (by omega)]
   have : (0 < cri a b v ↔ cri u v a < 0) := by
    rcases h with ⟨h1, h2⟩ | ⟨h1, h2⟩ | ⟨h1, h2⟩ | ⟨h1, h2⟩ | ⟨h1, h2, h3, h4⟩
    ·have g1 := linI_pos k2 (by omega) (by omega) (by omega) e2 h1 h2
     omega
    ·have g1 := linI_neg k2 (by omega) (by omega) (by omega) e2 h1 h2
     omega
    ·have g1 := linI_pos k1 (by omega) (by omega) (by omega) e3 h1 h2
     omega
    ·have g1 := linI_neg k1 (by omega) (by omega) (by omega) e3 h1 h2
     omega
    ·omega
   by_cases q : 0 < cri a b v
   ·rw [if_pos (by omega), if_pos (by omega)]
   ·rw [if_neg (by omega), if_neg (by omega)]
  ·rw [if_neg (c := a.y ≤ u.y ∧ u.y < b.y ∧ 0 < cri a b u) (by omega), if_neg (c := a.y ≤ v.y ∧ v.y < b.y ∧ 0 < cri a b v) (by omega)]
   have : (cri u v b < 0 ↔ cri u v a < 0) := by
    rcases h with ⟨h1, h2⟩ | ⟨h1, h2⟩ | ⟨h1, h2⟩ | ⟨h1, h2⟩ | ⟨h1, h2, h3, h4⟩
    ·omega
    ·omega
    ·have g1 := linI_pos k1 (by omega) (by omega) (by omega) e3 h1 h2
     have g2 := linI_pos k1 (by omega) (by omega) (by omega) e4 h1 h2
     omega
    ·have g1 := linI_neg k1 (by omega) (by omega) (by omega) e3 h1 h2
     have g2 := linI_neg k1 (by omega) (by omega) (by omega) e4 h1 h2
     omega
    ·omega
   by_cases q : cri u v b < 0
   ·rw [if_pos (c := u.y < b.y ∧ b.y ≤ v.y ∧ cri u v b < 0) (by omega), if_pos (by omega)]; rfl
   ·rw [if_neg (c := u.y < b.y ∧ b.y ≤ v.y ∧ cri u v b < 0) (by omega), if_neg (by omega)]
theorem mul_sign {k m n : Int} (hm : m < 0) (hn : 0 ≤ n) : ¬ ((k * m < 0 ∧ k * n < 0) ∨ (0 < k * m ∧ 0 < k * n)) := by
 rcases Int.lt_or_le k 0 with h | h
 ·have h1 := Int.mul_pos_of_neg_of_neg h hm
  have h2 := Int.mul_nonpos_of_nonpos_of_nonneg (show k ≤ 0 by omega) hn
  omega
 ·have h1 := Int.mul_nonpos_of_nonneg_of_nonpos h (show m ≤ 0 by omega)
  have h2 := Int.mul_nonneg h hn
  omega
theorem mul_sign' {k m n : Int} (hm : m ≤ 0) (hn : 0 < n) : ¬ ((k * m < 0 ∧ k * n < 0) ∨ (0 < k * m ∧ 0 < k * n)) := by
 rcases Int.lt_or_le k 0 with h | h
 ·have h1 := Int.mul_nonneg_of_nonpos_of_nonpos (show k ≤ 0 by omega) hm
  have h2 := Int.mul_neg_of_neg_of_pos h hn
  omega
 ·have h1 := Int.mul_nonpos_of_nonneg_of_nonpos h hm
  have h2 := Int.mul_nonneg h (show 0 ≤ n by omega)
  omega
theorem cri_flat {a b q : I2} (h : a.y = b.y) : cri a b q = (b.x - a.x) * (q.y - a.y) := by
 unfold cri
 rw [h, Int.sub_self, Int.zero_mul, Int.sub_zero]
theorem api_rev {u v a b : I2} (h : ApI u v a b) : ApI u v b a := by
 have h1 := cri_swap a b u
 have h2 := cri_swap a b v
 unfold ApI at *
 omega
theorem api_swap {u v a b : I2} (h : ApI u v a b) : ApI v u a b := by
 have h1 := cri_swap u v a
 have h2 := cri_swap u v b
 unfold ApI at *
 omega
theorem dltI_any {u v a b : I2} (huv : u.y < v.y) (h : ApI u v a b) : wtI a b u - wtI a b v = inI u v b - inI u v a := by
 by_cases h1 : a.y < b.y
 ·exact dltI_up huv h1 h
 by_cases h2 : b.y < a.y
 ·have := dltI_up huv h2 (api_rev h)
  rw [wtI_rev a b, wtI_rev a b] at this
  omega
 have he : a.y = b.y := by omega
 have z : ∀ q, wtI a b q = 0 := fun q => by
  unfold wtI
  rw [if_neg (by omega), if_neg (by omega)]
 rw [z, z]
 unfold inI
 by_cases hl : u.y < a.y ∧ a.y ≤ v.y
 ·have : (cri u v b < 0 ↔ cri u v a < 0) := by
   have f1 := cri_flat (q := u) he
   have f2 := cri_flat (q := v) he
   have := mul_sign (k := b.x - a.x) (m := u.y - a.y) (n := v.y - a.y) (by omega) (by omega)
   rw [← f1, ← f2] at this
   unfold ApI at h
   omega
  by_cases q : cri u v b < 0
  ·rw [if_pos (by omega), if_pos (by omega)]; rfl
  ·rw [if_neg (by omega), if_neg (by omega)]
 ·rw [if_neg (by omega), if_neg (by omega)]
theorem dltI_flat {u v a b : I2} (huv : u.y = v.y) (h : ApI u v a b) : wtI a b u = wtI a b v := by
 have f1 := cri_flat (q := a) huv
 have f2 := cri_flat (q := b) huv
 have key : (a.y ≤ u.y ∧ u.y < b.y) ∨ (b.y ≤ u.y ∧ u.y < a.y) → ((0 < cri a b u ↔ 0 < cri a b v) ∧ (cri a b u < 0 ↔ cri a b v < 0)) := fun hl => by
  have : ¬ ((cri u v a < 0 ∧ cri u v b < 0) ∨ (0 < cri u v a ∧ 0 < cri u v b)) := by
   rw [f1, f2]
   rcases hl with hl | hl
   ·exact mul_sign' (by omega) (by omega)
   ·intro hq
    exact mul_sign' (k := v.x - u.x) (m := b.y - u.y) (n := a.y - u.y) (by omega) (by omega) (by omega)
  unfold ApI at h
  omega
 unfold wtI
 by_cases c1 : a.y ≤ u.y ∧ u.y < b.y
 ·have := key (.inl c1)
  by_cases q : 0 < cri a b u
  ·rw [if_pos (by omega), if_pos (by omega)]
  ·rw [if_neg (by omega), if_neg (by omega), if_neg (by omega), if_neg (by omega)]
 by_cases c2 : b.y ≤ u.y ∧ u.y < a.y
 ·have := key (.inr c2)
  by_cases q : cri a b u < 0
  ·rw [if_neg (by omega), if_pos (by omega), if_neg (by omega), if_pos (by omega)]
  ·rw [if_neg (by omega), if_neg (by omega), if_neg (by omega), if_neg (by omega)]
 ·rw [if_neg (by omega), if_neg (by omega), if_neg (by omega), if_neg (by omega)]
theorem cobound (u v : I2) : ∃ R : I2 → Int, ∀ a b, ApI u v a b → wtI a b u - wtI a b v = R b - R a := by
 by_cases h1 : u.y < v.y
 ·exact ⟨inI u v, fun a b h => dltI_any h1 h⟩
 by_cases h2 : v.y < u.y
 ·refine ⟨fun c => - inI v u c, fun a b h => ?_⟩
  have := dltI_any h2 (api_swap h)
  show _ = - inI v u b - - inI v u a
  omega
 ·exact ⟨fun _ => 0, fun a b h => by rw [dltI_flat (by omega) h, Int.sub_self]; rfl⟩
def windI (n : Nat) (p : Nat → I2) (q : I2) : Int := isum n fun j => wtI (p j) (p (j + 1)) q
theorem windI_eq {n : Nat} {p : Nat → I2} (per : p n = p 0) {u v : I2} (h : ∀ j, j < n → ApI u v (p j) (p (j + 1))) : windI n p u = windI n p v := by
 obtain ⟨R, hR⟩ := cobound u v
 have t := isum_tel n fun j => R (p j)
 have s := isum_sub n (fun j => wtI (p j) (p (j + 1)) u) (fun j => wtI (p j) (p (j + 1)) v)
 have e : isum n (fun j => wtI (p j) (p (j + 1)) u - wtI (p j) (p (j + 1)) v) = isum n fun j => R (p (j + 1)) - R (p j) := isum_congr fun j hj => hR _ _ (h j hj)
 simp only [per] at t
 unfold windI
 omega
def oddI : Nat → (Nat → I2) → I2 → Bool
 | 0, _, _ => false
 | n + 1, p, q => if wtI (p n) (p (n + 1)) q ≠ 0 then !oddI n p q else oddI n p q
theorem wtI_cases (a b q : I2) : wtI a b q = 0 ∨ wtI a b q = 1 ∨ wtI a b q = -1 := by
 unfold wtI
 split
 ·exact .inr (.inl rfl)
 ·split
  ·exact .inr (.inr rfl)
  ·exact .inl rfl
theorem oddI_wind (p : Nat → I2) (q : I2) : ∀ n, (oddI n p q = true ↔ windI n p q % 2 = 1)
 | 0 => by unfold oddI windI isum; simp
 | n + 1 => by
  have ih := oddI_wind p q n
  have e : windI (n + 1) p q = windI n p q + wtI (p n) (p (n + 1)) q := rfl
  have c := wtI_cases (p n) (p (n + 1)) q
  rw [e]
  unfold oddI
  split
  ·cases h : oddI n p q
   ·rw [h] at ih; simp at ih ⊢; omega
   ·rw [h] at ih; simp at ih ⊢; omega
  ·rename_i h0
   rw [ih]
   omega
theorem oddI_eq {n : Nat} {p : Nat → I2} (per : p n = p 0) {u v : I2} (h : ∀ j, j < n → ApI u v (p j) (p (j + 1))) : oddI n p u = oddI n p v := by
 have h1 := oddI_wind p u n
 have h2 := oddI_wind p v n
 rw [windI_eq per h] at h1
 cases hu : oddI n p u <;> cases hv : oddI n p v <;> simp [hu, hv] at h1 h2 <;> first | rfl | omega
end Go.Proofs.YtngginofamlkkaaGreatDoor.PlaneG

