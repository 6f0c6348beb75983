/-
  Symbolic runs, part 4: one operation that does not write, of any kind. Conditions: as each theorem states them.
-/
import Derived.Test.YtngginofamlkkaaGreatDoorSc
noncomputable section
namespace Go.Proofs.YtngginofamlkkaaGreatDoor
open Go Go.RowKit

def sval (r : Option (Value × Prop)) : Option (LRes × Prop) :=
  match r with
  | some (v, ob) => some (.val v, ob)
  | none => none
def sbase (P : Program) (hp : Tr AObj) (o : Oper) (ev : Operand → Option Value) : Option (LRes × Prop) :=
  match alight P hp o ev with
  | some r => some (r, True)
  | none => none
def sTreeLen (P : Program) (c : Call) (ev : Operand → Option Value) : Option Value :=
  match c.callee, c.argTypes[0]?, c.args[0]? with
  | .builtin .len, some t, some x => match ev x with
    | some (.func (.via _ _ n false) _ _) => match P.underlying t with
      | some (.slice _) => some (goInt n)
      | _ => none
    | _ => none
  | _, _, _ => none
def sCharAt (s : ByteArray) (k : Int) : Value := .int .u8 (s.data.getD k.toNat 0).toNat
/-- An operation that does not write, and what must be shown for it. -/
def slight (P : Program) (hp : Tr AObj) (o : Oper) (ev : Operand → Option Value) : Option (LRes × Prop) :=
  match o.op with
  | .load t x => match ev x with
    | some (.func (.via i _ off true) els _) => sval (sLoad P t els i off)
    | _ => sbase P hp o ev
  | .indexAddr t x i => match ev x, ev i with
    | some v, some (.int _ k) => sval (sIndexAddr P t v k)
    | _, _ => none
  | .fieldAddr t x f => match ev x with
    | some (.func (.via i _ off true) els _) => sval (sFieldAt P t els i off f)
    | _ => sbase P hp o ev
  | .nilCheck x => match ev x with
    | some (.func (.via i _ off true) els _) => some (.val (treeAt els i off), True)
    | _ => sbase P hp o ev
  | .slice t x lo hi none => match ev x with
    | some v => match sSlice P ev t v lo hi with
      | some r => sval (some r)
      | none => sbase P hp o ev
    | none => none
  | .index t x i => match ev x, ev i with
    | some (.string s), some (.int _ k) => match P.underlying t with
      | some .string => some (.val (sCharAt s k), 0 ≤ k ∧ k < (s.size : Int))
      | _ => none
    | _, _ => sbase P hp o ev
  | .binOp op t x y _ => match ev x, ev y with
    | some u, some z => match sBin P op t u z with
      | some r => sval (some r)
      | none => match aEq P op t u z with
        | some b => some (.val b, True)
        | none => match scalar P o ev with
          | some v => some (.val v, True)
          | none => none
    | _, _ => none
  | .convert src dst x => match ev x with
    | some (.slice (some A) n c) => sval (sBytes P hp src dst (.slice (some A) n c))
    | some (.func fn els c) => sval (sBytes P hp src dst (.func fn els c))
    | some _ => sbase P hp o ev
    | none => none
  | .pick c x y => match ev c with
    | some (.bool b) => Bool.rec (motive := fun _ => Option (LRes × Prop)) (match ev y with | some v => some (.val v, True) | none => none) (match ev x with | some v => some (.val v, True) | none => none) b
    | _ => none
  | .call c => match sTreeLen P c ev with
    | some v => some (.val v, True)
    | none => sbase P hp o ev
  | _ => sbase P hp o ev
theorem sval_eq {r : Option (Value × Prop)} {q : LRes} {ob : Prop} (h : sval r = some (q, ob)) : ∃ v, r = some (v, ob) ∧ q = .val v := by
  unfold sval at h
  split at h
  · cases h; exact ⟨_, rfl, rfl⟩
  · cases h
theorem sbase_eq {P : Program} {hp : Tr AObj} {o : Oper} {ev : Operand → Option Value} {q : LRes} {ob : Prop} (h : sbase P hp o ev = some (q, ob)) : alight P hp o ev = some q := by
  unfold sbase at h
  split at h
  · rename_i r hr; cases h; exact hr
  · cases h
theorem sTreeLen_sound {P : Program} {ρ : Place} {ev : Operand → Option Value} {a : Act} (hF : ERel ρ ev a) {o : Oper} {c : Call} (ho : o.op = .call c) {v : Value} (h : sTreeLen P c ev = some v) (w : World) :
    ∃ v', (execOp a.eval o).run P w = .ok (.value v') w ∧ VR ρ v v' := by
  obtain ⟨callee, args, argTypes⟩ := c
  unfold sTreeLen at h
  dsimp only at h
  split at h
  case h_2 => cases h
  rename_i t x hty har
  split at h
  case h_2 => cases h
  rename_i sz pth n els cap hv
  split at h
  case h_2 => cases h
  rename_i e hu
  cases h
  have hx := hF.eval hv
  generalize he : a.eval x = E at hx
  have main : ∀ (A' : Option Addr) (m' : Nat), E = .slice A' n m' → ∃ v', (execOp a.eval o).run P w = .ok (.value v') w ∧ VR ρ (goInt n) v' := by
    intro A' m' he'
    refine ⟨goInt n, ?_, .int _ _⟩
    unfold execOp
    rw [ho]
    simp only [resolve]
    have hl : pureRun P (Builtin.len_ argTypes o.type (args.map a.eval)) = some (goInt n) := by
      unfold Builtin.len_
      have : (args.map a.eval)[0]? = some (.slice A' n m') := by rw [Array.getElem?_map, har]; simp [he, he']
      rw [hty, this]
      dsimp only
      rw [pureRun_bind (underlying_pure hu)]
      rfl
    show ((Builtin.len_ argTypes o.type (args.map a.eval)) >>= fun r => pure (Next.value r)).run P w = _
    rw [bind_run hl]
    rfl
  cases hx with
  | tree => exact main _ _ rfl
  | treeNil => exact main _ _ rfl
theorem slight_sound {P : Program} {ρ : Place} {W : Base} {hp : Tr AObj} {nx : Nat} {w : World} (h : Rel ρ W hp nx w) {ev : Operand → Option Value} {a : Act} (hF : ERel ρ ev a) {o : Oper} {r : LRes} {ob : Prop} (hs : slight P hp o ev = some (r, ob)) (hob : ob) :
    LightRuns P ρ o a w r := by
  have base : sbase P hp o ev = some (r, ob) → LightRuns P ρ o a w r := fun hb => alight_sound h hF (sbase_eq hb)
  obtain ⟨dst, op, type, pos, after, guard⟩ := o
  unfold slight at hs
  cases op <;> dsimp only at hs <;> try exact base hs
  case load t x =>
    split at hs
    · rename_i i pth off els cap hx
      obtain ⟨v, h1, rfl⟩ := sval_eq hs
      have hv := hF.eval hx
      have hq : ∃ v', (Instr.loadAt t (a.eval x)).run P w = .ok v' w ∧ VR ρ v v' := by
        generalize a.eval x = E at hv
        cases hv with
        | treeAt h1' h2' h3' h4' => exact sLoad_sound h (.treeAt h1' h2' h3' h4') h1 hob
      obtain ⟨v', e, hv'⟩ := hq
      exact ⟨v', value_run e, hv'⟩
    · exact base hs
  case indexAddr t x i =>
    split at hs
    case h_2 => cases hs
    rename_i u q k hx hi
    obtain ⟨v, h1, rfl⟩ := sval_eq hs
    have hi' := hF.eval hi
    obtain ⟨v', e, hv'⟩ := sIndexAddr_sound (q := q) (hF.eval hx) h1 hob w
    refine ⟨v', value_run ?_, hv'⟩
    generalize hE : a.eval i = E at hi'
    cases hi'
    exact e
  case fieldAddr t x f =>
    split at hs
    · rename_i i pth off els cap hx
      obtain ⟨v, h1, rfl⟩ := sval_eq hs
      have hv := hF.eval hx
      have hq : ∃ v', (Instr.fieldAt t (a.eval x) f).run P w = .ok v' w ∧ VR ρ v v' := by
        generalize a.eval x = E at hv
        cases hv with
        | treeAt h1' h2' h3' h4' => exact sFieldAt_sound (.treeAt h1' h2' h3' h4') h1 w
      obtain ⟨v', e, hv'⟩ := hq
      exact ⟨v', value_run e, hv'⟩
    · exact base hs
  case nilCheck x =>
    split at hs
    · rename_i i pth off els cap hx
      cases hs
      have hv := hF.eval hx
      refine ⟨a.eval x, ?_, ?_⟩
      · unfold execOp
        dsimp only
        generalize a.eval x = E at hv
        cases hv with
        | treeAt => rfl
      · generalize a.eval x = E at hv
        cases hv with
        | treeAt h1' h2' h3' h4' => exact .treeAt h1' h2' h3' h4'
    · exact base hs
  case slice t x lo hi mx =>
    cases mx with
    | some m => exact base hs
    | none =>
      dsimp only at hs
      split at hs
      case h_2 => cases hs
      rename_i u hx
      split at hs
      · rename_i r0 hr
        obtain ⟨v, h1, rfl⟩ := sval_eq hs
        cases h1
        obtain ⟨v', e, hv'⟩ := sSlice_sound hF (hF.eval hx) hr hob w
        exact ⟨v', value_run e, hv'⟩
      · exact base hs
  case index t x i =>
    split at hs
    · rename_i s q k hx hi
      split at hs
      case h_2 => cases hs
      rename_i hu
      cases hs
      have hv := hF.eval hx
      have hi' := hF.eval hi
      refine ⟨sCharAt s k, value_run ?_, .int _ _⟩
      generalize a.eval x = X at hv
      generalize a.eval i = I at hi'
      cases hv
      cases hi'
      unfold Instr.index
      rw [bind_run (asInt_run q k)]
      dsimp only
      rw [bind_run (underlying_pure hu)]
      dsimp only
      rw [if_pos hob.1]
      have hlt : k.toNat < s.data.size := by
        have h2 := hob.2
        have h3 : s.data.size = s.size := rfl
        omega
      have e : s[k.toNat]? = some (s.data.getD k.toNat 0) := by
        rw [Array.getD_eq_getD_getElem?, Array.getElem?_eq_getElem hlt]
        exact getElem?_pos s k.toNat hlt
      rw [e]
      rfl
    · exact base hs
  case binOp op t x y ty =>
    split at hs
    case h_2 => cases hs
    rename_i u z hx hy
    split at hs
    · rename_i r0 hr
      obtain ⟨v, h1, rfl⟩ := sval_eq hs
      cases h1
      obtain ⟨g1, g2, g3, g4⟩ := sBin_sound (P := P) (t := t) (x := x) (y := y) hr hob w
      have e1 := closed1_eq g2 (hF.eval hx)
      have e2 := closed1_eq g3 (hF.eval hy)
      refine ⟨v, ?_, closed_refl g4⟩
      unfold execOp
      dsimp only
      rw [e1, e2]
      exact g1
    split at hs
    · rename_i b hb
      cases hs
      refine ⟨b, aEq_sound (hF.eval hx) (hF.eval hy) hb w, ?_⟩
      have : ∃ c, b = .bool c := by
        unfold aEq at hb
        have hE : ∀ c, eqRes c op = some b → ∃ c, b = .bool c := by
          intro c hh
          cases op <;> simp only [eqRes, reduceCtorEq, Option.some.injEq] at hh <;> exact ⟨_, hh.symm⟩
        split at hb <;> first | (split at hb <;> first | exact hE _ hb | cases hb) | cases hb
      obtain ⟨c, rfl⟩ := this
      exact .bool c
    split at hs
    case h_2 => cases hs
    rename_i v hv
    cases hs
    exact scalar_sound hF hv w
  case convert src dst' x =>
    split at hs
    · rename_i A n c hx
      obtain ⟨v, h1, rfl⟩ := sval_eq hs
      obtain ⟨v', e, hv'⟩ := sBytes_sound h (hF.eval hx) h1 hob
      exact ⟨v', value_run e, hv'⟩
    · rename_i fn els c hx
      obtain ⟨v, h1, rfl⟩ := sval_eq hs
      obtain ⟨v', e, hv'⟩ := sBytes_sound h (hF.eval hx) h1 hob
      exact ⟨v', value_run e, hv'⟩
    · exact base hs
    · cases hs
  case pick c x y =>
    split at hs
    case h_2 => cases hs
    rename_i b hc
    have hcv := hF.eval hc
    have hrun : (execOp a.eval ⟨dst, .pick c x y, type, pos, after, guard⟩).run P w = .ok (.value (if b then a.eval x else a.eval y)) w := by
      show ((asBool (a.eval c)) >>= fun t => pure (Next.value (if t then a.eval x else a.eval y))).run P w = _
      generalize a.eval c = C at hcv
      cases hcv
      rfl
    cases b with
    | true =>
      dsimp only at hs
      split at hs
      case h_2 => cases hs
      rename_i v hv
      cases hs
      exact ⟨_, hrun, hF.eval hv⟩
    | false =>
      dsimp only at hs
      split at hs
      case h_2 => cases hs
      rename_i v hv
      cases hs
      exact ⟨_, hrun, hF.eval hv⟩
  case call c =>
    split at hs
    · rename_i v hv
      cases hs
      exact sTreeLen_sound hF rfl hv w
    · exact base hs

theorem sBound_congr {ev ev' : Operand → Option Value} {d : Nat} {x : Option Operand} (h : ∀ y, x = some y → ev y = ev' y) : sBound ev d x = sBound ev' d x := by
  cases x with
  | none => rfl
  | some y => simp only [sBound, h y rfl]
theorem slight_congr {P : Program} {ev ev' : Operand → Option Value} {hp : Tr AObj} {o : Oper} (h : ∀ x ∈ o.op.operands, ev x = ev' x) : slight P hp o ev = slight P hp o ev' := by
  have hb : sbase P hp o ev = sbase P hp o ev' := by unfold sbase; rw [alight_congr h]
  have hsc : scalar P o ev = scalar P o ev' := scalar_congr h
  obtain ⟨dst, op, type, pos, after, guard⟩ := o
  unfold slight
  cases op <;> dsimp only <;> try exact hb
  case load t x => rw [h x (by simp [Op.operands]), hb]
  case indexAddr t x i => rw [h x (by simp [Op.operands]), h i (by simp [Op.operands])]
  case fieldAddr t x f => rw [h x (by simp [Op.operands]), hb]
  case nilCheck x => rw [h x (by simp [Op.operands]), hb]
  case slice t x lo hi mx =>
    cases mx with
    | some m => exact hb
    | none =>
      dsimp only
      have : ∀ v, sSlice P ev t v lo hi = sSlice P ev' t v lo hi := fun v => by
        unfold sSlice
        have b1 : ∀ d, sBound ev d hi = sBound ev' d hi := fun d => sBound_congr fun y hy => h y (by simp [Op.operands, hy])
        have b2 : ∀ d, sBound ev d lo = sBound ev' d lo := fun d => sBound_congr fun y hy => h y (by simp [Op.operands, hy])
        simp only [b1, b2]
      rw [h x (by simp [Op.operands]), hb]
      simp only [this]
  case index t x i => rw [h x (by simp [Op.operands]), h i (by simp [Op.operands]), hb]
  case binOp op t x y ty => rw [h x (by simp [Op.operands]), h y (by simp [Op.operands]), hsc]
  case convert src dst' x => rw [h x (by simp [Op.operands]), hb]
  case pick c x y => rw [h c (by simp [Op.operands]), h x (by simp [Op.operands]), h y (by simp [Op.operands])]
  case call c =>
    have : sTreeLen P c ev = sTreeLen P c ev' := by
      obtain ⟨callee, args, argTypes⟩ := c
      unfold sTreeLen
      dsimp only
      split
      · rename_i t x hty har
        rw [h x (by
          have := Array.mem_of_getElem? har
          simp [Op.operands, Call.operands, this])]
      · rfl
    rw [this, hb]
theorem slight_still {P : Program} {ev : Operand → Option Value} {hp hp' : Tr AObj} {o : Oper} (h : isRead o ev = false) : slight P hp o ev = slight P hp' o ev := by
  have hb : sbase P hp o ev = sbase P hp' o ev := by unfold sbase; rw [alight_still h]
  obtain ⟨dst, op, type, pos, after, guard⟩ := o
  unfold slight
  cases op <;> dsimp only <;> try exact hb
  case load t x => cases h
  case fieldAddr t x f => rw [hb]
  case nilCheck x => rw [hb]
  case slice t x lo hi mx => cases mx <;> dsimp only <;> rw [hb]
  case index t x i => rw [hb]
  case convert src dst' x =>
    split
    · rename_i A n c hx
      simp only [isRead, hx] at h
      cases h
    · rename_i fn els c hx
      have : sBytes P hp src dst' (.func fn els c) = sBytes P hp' src dst' (.func fn els c) := by
        unfold sBytes
        split
        · split
          · split
            · rename_i heq; cases heq
            · rfl
            · rfl
          · rfl
        · rfl
      rw [this]
    · exact hb
    · rfl
  case call c => rw [hb]
/-- What an operation that does not write gives, by the plain evaluator or by the symbolic one. -/
def LOk (P : Program) (hp : Tr AObj) (o : Oper) (ev : Operand → Option Value) (r : LRes) : Prop := alight P hp o ev = some r ∨ ∃ ob, slight P hp o ev = some (r, ob) ∧ ob
theorem LOk.sound {P : Program} {ρ : Place} {W : Base} {hp : Tr AObj} {nx : Nat} {w : World} (h : Rel ρ W hp nx w) {ev : Operand → Option Value} {a : Act} (hF : ERel ρ ev a) {o : Oper} {r : LRes} (hs : LOk P hp o ev r) : LightRuns P ρ o a w r := by
  rcases hs with hs | ⟨ob, h1, h2⟩
  · exact alight_sound h hF hs
  · exact slight_sound h hF h1 h2
theorem LOk.congr {P : Program} {ev ev' : Operand → Option Value} {hp : Tr AObj} {o : Oper} {r : LRes} (h : ∀ x ∈ o.op.operands, ev x = ev' x) (hs : LOk P hp o ev r) : LOk P hp o ev' r := by
  unfold LOk at *
  rw [← alight_congr h, ← slight_congr h]
  exact hs
theorem LOk.still {P : Program} {ev : Operand → Option Value} {hp hp' : Tr AObj} {o : Oper} {r : LRes} (h : isRead o ev = false) (hs : LOk P hp o ev r) : LOk P hp' o ev r := by
  unfold LOk at *
  rw [← alight_still (hp := hp) h, ← slight_still (hp := hp) h]
  exact hs
end Go.Proofs.YtngginofamlkkaaGreatDoor
