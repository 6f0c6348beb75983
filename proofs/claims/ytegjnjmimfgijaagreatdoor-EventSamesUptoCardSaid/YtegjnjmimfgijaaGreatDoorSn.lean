/-
  Symbolic runs, part 9d: contracts called with slices of the caller's own. Conditions: as each theorem states them.
-/
import Derived.Test.YtegjnjmimfgijaaGreatDoorSm
noncomputable section
namespace Go.Proofs.YtegjnjmimfgijaaGreatDoor
open Go Go.RowKit

theorem Rel.later {ρ : Place} {W : Base} {hp : Tr AObj} {nx : Nat} {w w' : World} (h : Rel ρ W hp nx w) (hb : Below w.heap.size w w') : Rel ρ W hp nx w' := by
  have lt : ∀ {c : Nat} {ob : Obj}, w.heap[c]? = some ob → c < w.heap.size := fun {c ob} hc => by
    rcases Nat.lt_or_ge c w.heap.size with h' | h'
    · exact h'
    · rw [Array.getElem?_eq_none h'] at hc; cases hc
  refine ⟨fun b x hx => ⟨(h.dom b x hx).1, Nat.lt_of_lt_of_le (h.dom b x hx).2 hb.size⟩, fun b o c s z ho hx => ?_, h.inj, h.fresh, ⟨hb.os.trans h.below.os, hb.tape.trans h.below.tape, hb.output.trans h.below.output, Nat.le_trans h.below.size hb.size, fun k hk => ?_⟩, fun c ob hc => ?_, h.apart, h.frn⟩
  · obtain ⟨ob, e1, e2⟩ := h.obj b o c s z ho hx
    exact ⟨ob, by rw [hb.block c (lt e1)]; exact e1, e2⟩
  · rw [hb.block k (Nat.lt_of_lt_of_le hk.1 h.below.size)]
    exact h.below.block k hk
  · have := h.frz c ob hc
    rw [hb.block c (lt this)]
    exact this
/-- A table of contracts, whose arguments may be slices of the caller's own: they are taken as they are. -/
def tabCallF (P : Program) (tab : List Ent) (next : VCall) : VCall := fun f args hp nx K =>
  match entOf f tab with
  | some e => match P.funcs[f]? with
    | some fn => match frzTs P 0 fn.params.toList args hp with
      | some (us, hp', ob) => bif us.all nl then ob ∧ e.c us fun v => Bool.rec (motive := fun _ => Prop) (K v true hp' nx) (K v false hp nx) (closed v) else False
      | none => False
    | none => False
  | none => next f args hp nx K
theorem tabCallF_ok {P : Program} {tab : List Ent} {next : VCall} (ht : ∀ e ∈ tab, EntOk P e) (hnx : VCallOk P next) : VCallOk P (tabCallF P tab next) := by
  intro f args hp nx K h W ρ w args' hrel hargs
  unfold tabCallF at h
  split at h
  case h_2 => exact hnx f args hp nx K h W ρ w args' hrel hargs
  rename_i e he
  obtain ⟨h1, rfl⟩ := entOf_mem he
  split at h
  case h_2 => exact h.elim
  split at h
  case h_2 => exact h.elim
  rename_i us hp' ob hf
  cases ha : us.all nl with
  | false => rw [ha] at h; exact h.elim
  | true =>
    rw [ha, cond_true] at h
    obtain ⟨hob, hc⟩ := h
    obtain ⟨ρ1, g1, g2, g3, g4⟩ := frzTs_sound hrel hargs hf hob
    have hargs1 : VRL ρ1 us args' := .of g3 fun i v v' a b => VR0.lift (g4 i v v' a b)
    refine ((ht e h1 us _ hc).call ha g1 hargs1).mono ?_
    rintro e' w' ⟨v, v', ρ2, hK, rfl, q1, q2, q3, q4, q5⟩
    cases hcl : closed v with
    | true =>
      rw [hcl] at hK
      have e : v' = v := closed_eq hcl q1
      exact ⟨v, false, hp, nx, v', ρ, hK, fun _ => rfl, rfl, by rw [e]; exact closed_refl hcl, hrel.later q5, .refl _ _ _⟩
    | false =>
      rw [hcl] at hK
      exact ⟨v, true, hp', nx, v', ρ2, hK, fun e => (by cases e), rfl, q1, q3, g2.trans q4⟩
end Go.Proofs.YtegjnjmimfgijaaGreatDoor
