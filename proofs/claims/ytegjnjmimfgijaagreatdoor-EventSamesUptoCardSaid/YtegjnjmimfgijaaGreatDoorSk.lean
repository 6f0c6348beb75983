/-
  Symbolic runs, part 11: lists of data as slices whose elements never change. Conditions: as each theorem states them.
-/
import Derived.Test.YtegjnjmimfgijaaGreatDoorProg
import Derived.Test.YtegjnjmimfgijaaGreatDoorSn
noncomputable section
namespace Go.Proofs.YtegjnjmimfgijaaGreatDoor
open Go Go.RowKit

/-- Data that lies in so many cells. -/
class Enc (α : Type) where
  sz : Nat
  cells : α → List Value
  len : ∀ a, (cells a).length = sz
  nl : ∀ a, NLs (cells a)
/-- An element: the one cell itself, or several cells together. -/
def elt : List Value → Value
  | [v] => v
  | l => .agg l.toArray
theorem elt_cells : ∀ {l : List Value}, NLs l → (elt l).cells = l.toArray
  | [], _ => rfl
  | [v], h => by
    have := h v (by simp)
    cases v <;> first | rfl | (simp [nl1] at this)
  | _ :: _ :: _, _ => rfl
def encL {α : Type} [Enc α] (l : List α) : Array Value := (l.map fun a => elt (Enc.cells a)).toArray
/-- A list as a slice. -/
abbrev tr {α : Type} [Enc α] (l : List α) : Value := tree (Enc.sz α) l.length (encL l)
instance instEncList {α : Type} [Enc α] : Enc (List α) where
  sz := 1
  cells l := [tree (Enc.sz α) l.length (encL l)]
  len _ := rfl
  nl l := by intro v hv; simp at hv; subst hv; rfl
instance : Enc Int where
  sz := 1
  cells n := [.int .i64 n]
  len _ := rfl
  nl n := by intro v hv; simp at hv; subst hv; rfl
instance : Enc ByteArray where
  sz := 1
  cells s := [.string s]
  len _ := rfl
  nl n := by intro v hv; simp at hv; subst hv; rfl
instance : Enc Bool where
  sz := 1
  cells b := [.bool b]
  len _ := rfl
  nl n := by intro v hv; simp at hv; subst hv; rfl
instance {α β : Type} [Enc α] [Enc β] : Enc (α × β) where
  sz := Enc.sz α + Enc.sz β
  cells p := Enc.cells p.1 ++ Enc.cells p.2
  len p := by rw [List.length_append, Enc.len, Enc.len]
  nl p := by
    intro v hv
    rcases List.mem_append.1 hv with h | h
    · exact Enc.nl p.1 v h
    · exact Enc.nl p.2 v h
theorem cellAt_encL {α : Type} [Enc α] {l : List α} {i j : Nat} {a : α} (h : l[i]? = some a) : cellAt (encL l) i j = ((Enc.cells a)[j]?).getD undef := by
  unfold cellAt encL
  simp [Array.getD_eq_getD_getElem?, h, elt_cells (Enc.nl a)]
theorem cellAt_encL' {α : Type} [Enc α] {l : List α} {i j : Nat} (h : i < l.length) : cellAt (encL l) i j = ((Enc.cells l[i])[j]?).getD undef := cellAt_encL (by simp)
theorem toI_int (k : IntKind) (n : Int) : toI (.int k n) = n := rfl
theorem toB_bool (b : Bool) : toB (.bool b) = b := rfl
theorem toS_string (s : ByteArray) : toS (.string s) = s := rfl
theorem toN_tree (sz n : Nat) (els : Array Value) : toN (tree sz n els) = n := rfl
theorem toE_tree (sz n : Nat) (els : Array Value) : toE (tree sz n els) = els := rfl
/-- From the head of a loop on, all ends well: for functions that write nothing but their own. -/
abbrev OkP (f : FuncId) (na : List Value) (r : Nat) (Post : Value → Prop) (st : AS) : Prop := OkAt Tryz.prog f na Post (lpC Tryz.prog f r) (lpK Tryz.prog f r) st
/-- The rows of this program. -/
theorem mixed : Tryz.prog.follows .mixedOrders = true := by kernel_rfl
end Go.Proofs.YtegjnjmimfgijaaGreatDoor
