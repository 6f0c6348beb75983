/-
  Points as data; a plain fact on wrapping. Conditions: as each theorem states them.
-/
import Derived.Test.YtegjnjmimfgijaaGreatDoorSk
noncomputable section
namespace Go.Proofs.YtegjnjmimfgijaaGreatDoor
open Go Go.RowKit

theorem wrap64 {n : Int} (h1 : -9223372036854775808 ≤ n) (h2 : n < 9223372036854775808) : IntKind.i64.wrap n = n := by
  have e : IntKind.i64.wrap n = if (n % 18446744073709551616 : Int) ≥ 9223372036854775808 then n % 18446744073709551616 - 18446744073709551616 else n % 18446744073709551616 := by
    unfold IntKind.wrap
    simp [IntKind.signed, IntKind.bits]
  rw [e]
  split <;> omega
/-- Short enough that a counter does not overflow. -/
abbrev Short {α : Type} (l : List α) : Prop := l.length < 2 ^ 62
theorem wrapNat {n : Nat} (h : n < 2 ^ 62) : IntKind.i64.wrap (n : Int) = n := wrap64 (by omega) (by omega)
theorem wrapSucc {n : Nat} (h : n < 2 ^ 62) : IntKind.i64.wrap ((n : Int) + 1) = ((n + 1 : Nat) : Int) := by
  rw [wrap64 (by omega) (by omega)]; omega
structure Pt where
  x : Int
  y : Int
  deriving DecidableEq
theorem Pt.ext' {p q : Pt} (h1 : p.x = q.x) (h2 : p.y = q.y) : p = q := by
  cases p; cases q; cases h1; cases h2; rfl
instance : Inhabited Pt := ⟨⟨0, 0⟩⟩
instance : Enc Pt where
  sz := 2
  cells p := [.int .i64 p.x, .int .i64 p.y]
  len _ := rfl
  nl p := by intro v hv; simp at hv; rcases hv with rfl | rfl <;> rfl
/-- A list of points as a slice. -/
abbrev trPt (l : List Pt) : Value := tree 2 l.length (encL l)
theorem cell_pt {l : List Pt} {i : Nat} (h : i < l.length) : cellAt (encL l) i 0 = .int .i64 l[i].x ∧ cellAt (encL l) i 1 = .int .i64 l[i].y := by
  rw [cellAt_encL' h, cellAt_encL' h]
  exact ⟨rfl, rfl⟩
/-- A list of lists of points as a slice. -/
abbrev trPts (l : List (List Pt)) : Value := tree 1 l.length (encL l)
theorem cell_pts {l : List (List Pt)} {i : Nat} (h : i < l.length) : cellAt (encL l) i 0 = trPt l[i] := by
  rw [cellAt_encL' h]
  rfl
structure Vec3 where
  x : Int
  y : Int
  z : Int
  deriving DecidableEq
structure Part where
  id : ByteArray
  rev : Int
  kind : Int
  node : ByteArray
  grade : ByteArray
  thick : Int
  outer : List Pt
  holes : List (List Pt)
  sect : ByteArray
  long : Int
  mass : Int
  centre : Vec3
  at_ : Vec3
  turn : Int
  deriving DecidableEq
def partC (p : Part) : List Value := [.string p.id, .int .i64 p.rev, .int .i64 p.kind, .string p.node, .string p.grade, .int .i64 p.thick, trPt p.outer, trPts p.holes, .string p.sect, .int .i64 p.long, .int .i64 p.mass,
  .int .i64 p.centre.x, .int .i64 p.centre.y, .int .i64 p.centre.z, .int .i64 p.at_.x, .int .i64 p.at_.y, .int .i64 p.at_.z, .int .i64 p.turn]
/-- A part as a value. -/
abbrev partV (p : Part) : Value := .agg (partC p).toArray
abbrev shapeV (o : List Pt) (h : List (List Pt)) : Value := .agg [trPt o, trPts h].toArray
/-- Downwards. -/
theorem down {p : Nat → Prop} {n : Nat} (h0 : p n) (h : ∀ k, k < n → p (k + 1) → p k) : p 0 := by
  have : ∀ j k, k + j = n → p k := by
    intro j
    induction j with
    | zero => intro k hk; rw [show k = n by omega]; exact h0
    | succ j ih => intro k hk; exact h k (by omega) (ih (k + 1) (by omega))
  exact this n 0 (by omega)
theorem list_same {α : Type} {l m : List α} (hlen : l.length = m.length) (h : ∀ i : Nat, i < l.length → l[i]? = m[i]?) : l = m :=
  List.ext_getElem? fun i => by
    rcases Nat.lt_or_ge i l.length with h' | h'
    · exact h i h'
    · rw [List.getElem?_eq_none h', List.getElem?_eq_none (by omega)]
theorem same_next {α : Type} {l m : List α} {k : Nat} (h1 : k < l.length) (h2 : k < m.length) (h : ∀ i : Nat, i < k → l[i]? = m[i]?) (he : l[k] = m[k]) : ∀ i : Nat, i < k + 1 → l[i]? = m[i]? := fun i hi => by
  rcases Nat.lt_or_ge i k with h' | h'
  · exact h i h'
  · have : i = k := by omega
    subst this
    rw [List.getElem?_eq_getElem h1, List.getElem?_eq_getElem h2, he]
theorem ne_at {α : Type} {l m : List α} {k : Nat} (h1 : k < l.length) (h2 : k < m.length) (h : l[k] ≠ m[k]) : l ≠ m := fun e => by subst e; exact h rfl
end Go.Proofs.YtegjnjmimfgijaaGreatDoor
