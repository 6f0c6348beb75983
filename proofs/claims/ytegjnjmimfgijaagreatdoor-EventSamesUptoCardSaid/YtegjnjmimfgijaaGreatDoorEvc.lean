/-
  Closed runs by evaluation, part 3: addresses, and all operations that do not touch memory. Conditions: as each theorem states them.
-/
import Derived.Test.YtegjnjmimfgijaaGreatDoorEvb
noncomputable section
namespace Go.Proofs.YtegjnjmimfgijaaGreatDoor
open Go

theorem add_eq (c s o k : Nat) : (⟨c, s + o, none⟩ : Addr).add k = ⟨c, s + (o + k), none⟩ := by
  unfold Addr.add
  split
  · rename_i h; subst h; rfl
  · simp [Nat.add_assoc]

def aFieldAddr (P : Program) (t : TypeId) (x : Value) (f : Nat) : Option Value :=
  match x with
  | .pointer (some ⟨b, o, none⟩) => match P.underlying t with
    | some (.struct fields) => match fields[f]? with
      | some fd => match pureRun P (sizeOf fd.type) with
        | some (_ + 1) => some (.pointer (some ⟨b, o + fd.offset, none⟩))
        | _ => none
      | none => none
    | _ => none
  | _ => none
theorem aFieldAddr_sound {P : Program} {ρ : Place} {t : TypeId} {x x' : Value} {f : Nat} {v : Value} (hx : VR ρ x x') (h : aFieldAddr P t x f = some v) (w : World) :
    ∃ v', (Instr.fieldAt t x' f).run P w = .ok v' w ∧ VR ρ v v' := by
  unfold aFieldAddr at h
  cases hx <;> try simp only [reduceCtorEq] at h
  case ptr b o c s z hb =>
    cases hu : P.underlying t with
    | none => rw [hu] at h; cases h
    | some d =>
      rw [hu] at h
      cases d <;> simp only [reduceCtorEq] at h
      case struct fields =>
        cases hf : fields[f]? with
        | none => rw [hf] at h; cases h
        | some fd =>
          rw [hf] at h
          dsimp only at h
          unfold Instr.fieldAt
          rw [bind_run (underlying_pure hu)]
          simp only [hf]
          cases hz : pureRun P (sizeOf fd.type) with
          | none => rw [hz] at h; cases h
          | some n =>
            rw [hz] at h
            cases n with
            | zero => cases h
            | succ n =>
              cases h
              show ∃ v', ((fieldPlace ⟨c, s + o, none⟩ fd) >>= _).run P w = _ ∧ _
              have : pureRun P (fieldPlace ⟨c, s + o, none⟩ fd) = some ((⟨c, s + o, none⟩ : Addr).add fd.offset) := by
                unfold fieldPlace
                have e : ∀ (β : Type) (g : Nat → Sem β), pureRun P (sizeOf fd.type >>= g) = pureRun P (g (n + 1)) := by
                  intro β g
                  exact pureRun_bind hz g
                rw [e]
                simp only [Nat.succ_ne_zero, if_false]
                rfl
              rw [bind_run this]
              refine ⟨_, rfl, ?_⟩
              rw [add_eq]
              exact .ptr hb

def aIndexAddr (P : Program) (t : TypeId) (x i : Value) : Option Value :=
  match i with
  | .int _ n => match P.underlying t, x with
    | some (.array len elem), .pointer (some ⟨b, o, none⟩) => bif decide (0 ≤ n ∧ n < len) then
        match pureRun P (sizeOf elem) with
        | some z => some (.pointer (some ⟨b, o + n.toNat * z, none⟩))
        | none => none
      else none
    | some (.slice elem), .slice (some ⟨b, o, none⟩) len _ => bif decide (0 ≤ n ∧ n < len) then
        match pureRun P (sizeOf elem) with
        | some z => some (.pointer (some ⟨b, o + n.toNat * z, none⟩))
        | none => none
      else none
    | _, _ => none
  | _ => none
theorem aIndexAddr_sound {P : Program} {ρ : Place} {t : TypeId} {x x' i i' : Value} {v : Value} (hx : VR ρ x x') (hi : VR ρ i i') (h : aIndexAddr P t x i = some v) (w : World) :
    ∃ v', (Instr.indexAt t x' i').run P w = .ok v' w ∧ VR ρ v v' := by
  unfold aIndexAddr at h
  cases hi <;> try simp only [reduceCtorEq] at h
  case int k n =>
    cases hu : P.underlying t with
    | none => rw [hu] at h; cases h
    | some d =>
      rw [hu] at h
      unfold Instr.indexAt
      cases d <;> try simp only [reduceCtorEq] at h
      case array len elem =>
        cases hx <;> try simp only [reduceCtorEq] at h
        case ptr b o c s z hb =>
          cases hd : decide (0 ≤ n ∧ n < (len : Int)) with
          | false => rw [hd] at h; cases h
          | true =>
            rw [hd, cond_true] at h
            have hd' := of_decide_eq_true hd
            cases hz : pureRun P (sizeOf elem) with
            | none => rw [hz] at h; cases h
            | some m =>
              rw [hz] at h
              cases h
              show ∃ v', ((underlying t) >>= _).run P w = _ ∧ _
              rw [bind_run (underlying_pure hu)]
              show ∃ v', ((underlying t) >>= _).run P w = _ ∧ _
              rw [bind_run (underlying_pure hu)]
              dsimp only
              rw [if_pos hd', bind_run hz]
              refine ⟨_, rfl, ?_⟩
              rw [add_eq]
              exact .ptr hb
      case slice elem =>
        cases hx <;> try simp only [reduceCtorEq] at h
        case slice b o len sz c s z cap hb h1 h2 =>
          cases hd : decide (0 ≤ n ∧ n < (len : Int)) with
          | false => rw [hd] at h; cases h
          | true =>
            rw [hd, cond_true] at h
            have hd' := of_decide_eq_true hd
            cases hz : pureRun P (sizeOf elem) with
            | none => rw [hz] at h; cases h
            | some m =>
              rw [hz] at h
              cases h
              show ∃ v', ((underlying t) >>= _).run P w = _ ∧ _
              rw [bind_run (underlying_pure hu)]
              show ∃ v', ((underlying t) >>= _).run P w = _ ∧ _
              rw [bind_run (underlying_pure hu)]
              dsimp only
              rw [if_pos hd', bind_run hz]
              refine ⟨_, rfl, ?_⟩
              rw [add_eq]
              exact .ptr hb
        case emptySlice b o y a' sz hb =>
          exfalso
          revert h
          have : decide (0 ≤ n ∧ n < ((0 : Nat) : Int)) = false := by simp
          rw [this]
          simp

/-- A bound of a slice expression. -/
def aBound (ev : Operand → Option Value) (dflt : Nat) : Option Operand → Option Nat
  | none => some dflt
  | some x => match ev x with
    | some (.int _ n) => bif decide (0 ≤ n) then some n.toNat else none
    | _ => none
def aSlice (P : Program) (ev : Operand → Option Value) (t : TypeId) (x : Value) (lo hi : Option Operand) : Option Value :=
  match P.underlying t, x with
  | some (.slice elem), .slice (some ⟨b, o, none⟩) len sz =>
    match pureRun P (sizeOf elem), aBound ev len hi, aBound ev 0 lo with
    | some z, some h, some l => bif (z.beq sz && h.ble len && l.ble h) then some (.slice (some ⟨b, o + l * sz, none⟩) (h - l) sz) else none
    | _, _, _ => none
  | _, _ => none
theorem aBound_sound {P : Program} {ρ : Place} {ev : Operand → Option Value} {a : Act} (hF : ERel ρ ev a) {d : Nat} {x : Operand} {k y : Nat} {code : BoundsCode} (h : aBound ev d (some x) = some k) (hy : k ≤ y) :
    pureRun P (Instr.sliceBound (a.eval x) y code) = some k := by
  simp only [aBound] at h
  cases hv : ev x with
  | none => rw [hv] at h; cases h
  | some v =>
    rw [hv] at h
    have := hF.eval hv
    generalize he : a.eval x = e at this
    cases this <;> try simp only [reduceCtorEq] at h
    rename_i kd m
    cases hd : decide (0 ≤ m) with
    | false => rw [hd] at h; cases h
    | true =>
      rw [hd, cond_true] at h
      cases h
      have h0 := of_decide_eq_true hd
      unfold Instr.sliceBound
      show pureRun P (if 0 ≤ m ∧ m ≤ (y : Int) then _ else _) = _
      rw [if_pos ⟨h0, by omega⟩]
      rfl
theorem aSlice_sound {P : Program} {ρ : Place} {ev : Operand → Option Value} {a : Act} (hF : ERel ρ ev a) {t : TypeId} {x x' : Value} {lo hi : Option Operand} {v : Value} (hx : VR ρ x x')
    (h : aSlice P ev t x lo hi = some v) (w : World) :
    ∃ v', (Instr.sliceAt t x' (lo.map a.eval) (hi.map a.eval) none).run P w = .ok v' w ∧ VR ρ v v' := by
  unfold aSlice at h
  cases hu : P.underlying t with
  | none => rw [hu] at h; cases h
  | some d =>
    rw [hu] at h
    cases d <;> try simp only [reduceCtorEq] at h
    case slice elem =>
      have key : ∀ (b o len sz : Nat) (A : Addr) (cap : Nat), len ≤ cap →
          (∀ l h', l ≤ h' → h' ≤ len → VR ρ (.slice (some ⟨b, o + l * sz, none⟩) (h' - l) sz) (.slice (if cap = l then some A else some (A.add (l * sz))) (h' - l) (cap - l))) →
          (match pureRun P (sizeOf elem), aBound ev len hi, aBound ev 0 lo with
            | some z, some h, some l => bif (z.beq sz && h.ble len && l.ble h) then some (.slice (some ⟨b, o + l * sz, none⟩) (h - l) sz) else none
            | _, _, _ => none) = some v →
          ∃ v', (Instr.sliceAt t (.slice (some A) len cap) (lo.map a.eval) (hi.map a.eval) none).run P w = .ok v' w ∧ VR ρ v v' := by
        intro b o len sz A cap hlc hV hh
        cases hz : pureRun P (sizeOf elem) with
        | none => rw [hz] at hh; simp at hh
        | some z =>
          cases hhi : aBound ev len hi with
          | none => rw [hz, hhi] at hh; simp at hh
          | some h' =>
            cases hlo : aBound ev 0 lo with
            | none => rw [hz, hhi, hlo] at hh; simp at hh
            | some l =>
              rw [hz, hhi, hlo] at hh
              simp only at hh
              cases hc : (z.beq sz && h'.ble len && l.ble h') with
              | false => rw [hc] at hh; cases hh
              | true =>
                rw [hc, cond_true] at hh
                cases hh
                simp only [Bool.and_eq_true] at hc
                obtain ⟨⟨hz1, hl1⟩, hl2⟩ := hc
                have hz1 := Nat.eq_of_beq_eq_true hz1
                have hl1 := Nat.le_of_ble_eq_true hl1
                have hl2 := Nat.le_of_ble_eq_true hl2
                subst hz1
                have hb : pureRun P (Instr.sliceBounds true len cap (lo.map a.eval) (hi.map a.eval) none) = some (l, h', cap) := by
                  unfold Instr.sliceBounds
                  cases hi with
                  | none =>
                    simp only [aBound] at hhi
                    cases hhi
                    cases lo with
                    | none => simp only [aBound] at hlo; cases hlo; rfl
                    | some y =>
                      show pureRun P (Instr.sliceBound (a.eval y) _ _ >>= _) = _
                      rw [pureRun_bind (aBound_sound hF hlo hl2)]
                      rfl
                  | some x =>
                    show pureRun P (Instr.sliceBound (a.eval x) _ _ >>= _) = _
                    rw [pureRun_bind (aBound_sound hF hhi (by omega))]
                    cases lo with
                    | none => simp only [aBound] at hlo; cases hlo; rfl
                    | some y =>
                      show pureRun P (Instr.sliceBound (a.eval y) _ _ >>= _) = _
                      rw [pureRun_bind (aBound_sound hF hlo hl2)]
                      rfl
                unfold Instr.sliceAt
                rw [bind_run (underlying_pure hu)]
                dsimp only
                unfold Instr.slice
                rw [bind_run (underlying_pure hu)]
                dsimp only
                rw [bind_run hb]
                dsimp only
                rw [bind_run hz]
                refine ⟨_, rfl, ?_⟩
                exact hV l h' hl2 hl1
      cases hx <;> try simp only [reduceCtorEq] at h
      case slice b o len sz c s z cap hb h1 h2 =>
        refine key b o len sz ⟨c, s + o, none⟩ cap h1 ?_ h
        intro l h' hl hh
        by_cases hcl : cap = l
        · rw [if_pos hcl]
          have e1 : h' - l = 0 := by omega
          have e2 : cap - l = 0 := by omega
          rw [e1, e2]
          exact .emptySlice _ hb
        · rw [if_neg hcl, add_eq]
          refine .slice hb (by omega) ?_
          have : s + (o + l * sz) + (cap - l) * sz = s + o + cap * sz := by
            have : cap * sz = l * sz + (cap - l) * sz := by rw [← Nat.add_mul]; congr 1; omega
            omega
          omega
      case emptySlice b o y a' sz hb =>
        refine key b o 0 sz a' 0 (Nat.le_refl _) ?_ h
        intro l h' hl hh
        have : l = 0 := by omega
        have h2 : h' = 0 := by omega
        subst this h2
        exact .emptySlice _ hb
end Go.Proofs.YtegjnjmimfgijaaGreatDoor
