/-
  Regions that draw their order and whose callees only make memory: one walk in the order of the text. Conditions: as each theorem states them.
-/
import Derived.Test.YtfgeocpooimojaaDoorBase
import Derived.Deep.QuietTactic
import Derived.BigQuiet
namespace Go.Proofs.YtfgeocpooimojaaDoor
open Go Go.RowKit

/-- The worlds that have only grown since w. -/
def Later (w : World) : Type := { x : World // Below w.heap.size w x }
instance later_nonempty (w : World) : Nonempty (Later w) := ⟨⟨w, Below.refl _ _⟩⟩
theorem later_cell {w : World} (u : Later w) (b o : Nat) (h : b < w.heap.size) : u.val.cell? ⟨b, o, none⟩ = w.cell? ⟨b, o, none⟩ := u.property.cell (p := ⟨b, o, none⟩) h
theorem later_size {w : World} (u : Later w) : w.heap.size ≤ u.val.heap.size := u.property.size
/-- A region that draws its order, whose operations only read what was there and whose callees only make memory: one walk in the order of the text. -/
theorem wp_region_later {P : Program} {id : Nat} {Q : Exit → Act → World → Prop} {a : Act} {w : World} {l : List Oper} (hm : P.follows .mixedOrders = true) (hB : Region.lexB .any l.toArray = true)
    (h : wpQuiet P l.toArray (fun w' => ∃ u : Later w, w' = u.val) (fun a' => ∀ w', (∃ u : Later w, w' = u.val) → Q .normal a' w') l a) : (Code.region id l.toArray true).wp P Q a w :=
  wp_region_quiet (C := fun w' => ∃ u : Later w, w' = u.val) hm hB ⟨⟨_, (Below.refl _ w).drew⟩, rfl⟩ (by simpa using h)
theorem later_call {P : Program} {f : FuncId} {args : Array Value} {w : World} {u : Later w} {v : Value} (h : Calls P f args u.val fun e w' => e = .returned v ∧ Below u.val.heap.size u.val w') :
    Calls P f args u.val fun e w'' => e = .returned v ∧ ∃ u' : Later w, w'' = u'.val :=
  h.mono fun _ w' ⟨he, hb⟩ => ⟨he, ⟨w', u.property.trans (hb.mono u.property.size)⟩, rfl⟩
theorem later_same {P : Program} {f : FuncId} {args : Array Value} {w : World} {u : Later w} {v : Value} (h : Calls P f args u.val fun e w' => e = .returned v ∧ u.val = w') :
    Calls P f args u.val fun e w'' => e = .returned v ∧ ∃ u' : Later w, w'' = u'.val :=
  h.mono fun _ _ ⟨he, hb⟩ => ⟨he, u, hb.symm⟩

end Go.Proofs.YtfgeocpooimojaaDoor
