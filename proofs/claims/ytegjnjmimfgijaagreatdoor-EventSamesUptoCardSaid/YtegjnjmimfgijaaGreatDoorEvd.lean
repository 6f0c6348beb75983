/-
  Closed runs by evaluation, part 4: all operations that do not touch memory, together. Conditions: as each theorem states them.
-/
import Derived.Test.YtegjnjmimfgijaaGreatDoorEvc
noncomputable section
namespace Go.Proofs.YtegjnjmimfgijaaGreatDoor
open Go

inductive VRL (ρ : Place) : List Value → List Value → Prop where
  | nil : VRL ρ [] []
  | cons {v v' : Value} {l l' : List Value} : VR ρ v v' → VRL ρ l l' → VRL ρ (v :: l) (v' :: l')
theorem VRL.mono {ρ ρ' : Place} (h : ρ.le ρ') {l l' : List Value} (hl : VRL ρ l l') : VRL ρ' l l' := by
  induction hl with
  | nil => exact .nil
  | cons hv _ ih => exact .cons (hv.mono h) ih
theorem VRL.len {ρ : Place} {l l' : List Value} (hl : VRL ρ l l') : l.length = l'.length := by
  induction hl with
  | nil => rfl
  | cons _ _ ih => simp [ih]
theorem VRL.get {ρ : Place} {l l' : List Value} (hl : VRL ρ l l') : ∀ {i : Nat} {v v' : Value}, l[i]? = some v → l'[i]? = some v' → VR ρ v v' := by
  induction hl with
  | nil => intro i v v' h; simp at h
  | cons hv _ ih =>
    intro i v v' h h'
    cases i with
    | zero => simp at h h'; subst h h'; exact hv
    | succ i => exact ih (by simpa using h) (by simpa using h')
theorem VRL.arr {ρ : Place} {l l' : List Value} (hl : VRL ρ l l') : VRA ρ l.toArray l'.toArray :=
  ⟨by simp [hl.len], fun i v v' h h' => hl.get (by simpa using h) (by simpa using h')⟩
theorem VRL.of {ρ : Place} : ∀ {l l' : List Value}, l.length = l'.length → (∀ (i : Nat) (v v' : Value), l[i]? = some v → l'[i]? = some v' → VR ρ v v') → VRL ρ l l'
  | [], [], _, _ => .nil
  | [], _ :: _, h, _ => by simp at h
  | _ :: _, [], h, _ => by simp at h
  | v :: l, v' :: l', h, hv => .cons (hv 0 v v' rfl rfl) (VRL.of (by simpa using h) fun i u u' a b => hv (i + 1) u u' a b)
theorem VRA.list {ρ : Place} {c c' : Array Value} (h : VRA ρ c c') : VRL ρ c.toList c'.toList :=
  .of (by simp [h.1]) fun i v v' a b => h.2 i v v' (by simpa using a) (by simpa using b)
theorem VRL.append {ρ : Place} {l l' m m' : List Value} (hl : VRL ρ l l') (hm : VRL ρ m m') : VRL ρ (l ++ m) (l' ++ m') := by
  induction hl with
  | nil => exact hm
  | cons hv _ ih => exact .cons hv ih

def evL (ev : Operand → Option Value) : List Operand → Option (List Value)
  | [] => some []
  | x :: l => match ev x with
    | some v => match evL ev l with
      | some vs => some (v :: vs)
      | none => none
    | none => none
theorem evL_sound {ρ : Place} {ev : Operand → Option Value} {a : Act} (hF : ERel ρ ev a) : ∀ {l : List Operand} {vs : List Value}, evL ev l = some vs → VRL ρ vs (l.map a.eval)
  | [], vs, h => by simp only [evL] at h; cases h; exact .nil
  | x :: l, vs, h => by
    simp only [evL] at h
    cases hv : ev x with
    | none => rw [hv] at h; cases h
    | some v =>
      rw [hv] at h
      cases hl : evL ev l with
      | none => rw [hl] at h; cases h
      | some us => rw [hl] at h; cases h; exact .cons (hF.eval hv) (evL_sound hF hl)
def evP (ev : Operand → Option Value) : List (Nat × Operand) → Option (List (Nat × Value))
  | [] => some []
  | (i, x) :: l => match ev x with
    | some v => match evP ev l with
      | some vs => some ((i, v) :: vs)
      | none => none
    | none => none
theorem evP_sound {ρ : Place} {ev : Operand → Option Value} {a : Act} (hF : ERel ρ ev a) : ∀ {l : List (Nat × Operand)} {vs : List (Nat × Value)}, evP ev l = some vs → Parts ρ vs (l.map fun p => (p.1, a.eval p.2))
  | [], vs, h => by simp only [evP] at h; cases h; exact .nil
  | (i, x) :: l, vs, h => by
    simp only [evP] at h
    cases hv : ev x with
    | none => rw [hv] at h; cases h
    | some v =>
      rw [hv] at h
      cases hl : evP ev l with
      | none => rw [hl] at h; cases h
      | some us => rw [hl] at h; cases h; exact .cons i (hF.eval hv) (evP_sound hF hl)

def eqRes (b : Bool) : BinOp → Option Value
  | .eql => some (.bool b)
  | .neq => some (.bool (!b))
  | _ => none
/-- A comparison with nil. -/
def aEq (P : Program) (op : BinOp) (t : TypeId) (x y : Value) : Option Value :=
  match x, y with
  | .pointer (some _), .pointer none | .pointer none, .pointer (some _) => match P.underlying t with
    | some (.pointer _) => eqRes false op
    | _ => none
  | .slice (some _) _ _, .slice none _ _ | .slice none _ _, .slice (some _) _ _ => match P.underlying t with
    | some (.slice _) => eqRes false op
    | _ => none
  | .func (.func _) _ _, .nilFunc | .nilFunc, .func (.func _) _ _ => match P.underlying t with
    | some (.func _ _ _) => eqRes false op
    | _ => none
  | .iface _ _, .nilIface | .nilIface, .iface _ _ => match P.underlying t with
    | some (.interface _) => eqRes false op
    | _ => none
  | _, _ => none
theorem eqRes_sound {P : Program} {op : BinOp} {t : TypeId} {x y : Operand} {X Y : Value} {b : Bool} {v : Value} (h : eqRes b op = some v)
    (hg : ∀ op, pureRun P (eqGuard op t x y X Y) = some ()) (he : pureRun P (Op.equal t X Y) = some b)
    (hb : ∀ op, (op = .eql → binOp op t X Y = do pure (.bool (← Op.equal t X Y))) ∧ (op = .neq → binOp op t X Y = do pure (.bool (!(← Op.equal t X Y))))) (w : World) :
    ((do eqGuard op t x y X Y; binOp op t X Y) >>= fun r => pure (Next.value r)).run P w = .ok (.value v) w := by
  have : pureRun P (do eqGuard op t x y X Y; binOp op t X Y) = some v := by
    rw [pureRun_bind (hg op)]
    cases op <;> simp only [eqRes, reduceCtorEq, Option.some.injEq] at h
    case eql => rw [(hb .eql).1 rfl, pureRun_bind he, ← h]; rfl
    case neq => rw [(hb .neq).2 rfl, pureRun_bind he, ← h]; rfl
  rw [bind_run this]
  rfl
theorem eqS {P : Program} {t : TypeId} {X Y : Value} {b : Bool} {d : TypeDesc} {g : Nat → TypeDesc → Sem Bool} (hd : P.underlying t = some d) (n : Nat) (he : ∀ n, Op.equalIn (n + 1) t X Y = underlying t >>= g n)
    (hg : pureRun P (g n d) = some b) : pureRun P (Op.equalIn (n + 1) t X Y) = some b := by
  rw [he, pureRun_bind (underlying_pure hd)]
  exact hg
theorem aEq_sound {P : Program} {ρ : Place} {op : BinOp} {t : TypeId} {x y : Operand} {u u' z z' v : Value} (hu : VR ρ u u') (hz : VR ρ z z') (h : aEq P op t u z = some v) (w : World) :
    ((do eqGuard op t x y u' z'; binOp op t u' z') >>= fun r => pure (Next.value r)).run P w = .ok (.value v) w := by
  unfold aEq at h
  have eqI : ∀ X Y, Op.equal t X Y = Op.equalIn (9999 + 1) t X Y := fun _ _ => rfl
  split at h
  all_goals first
    | (cases hd : P.underlying t with
       | none => rw [hd] at h; cases h
       | some d =>
         rw [hd] at h
         cases d <;> try (simp only [reduceCtorEq] at h)
         cases hu <;> cases hz <;>
         exact eqRes_sound h (fun op => by cases op <;> rfl) ((congrArg (pureRun P) (eqI _ _)).trans (eqS hd 9999 (by intro d; simp only [Op.equalIn]; rfl) rfl)) (fun op => ⟨fun e => by subst e; rfl, fun e => by subst e; rfl⟩) w)
    | cases h
end Go.Proofs.YtegjnjmimfgijaaGreatDoor
