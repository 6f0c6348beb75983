/-
  Closed runs by evaluation, part 5: one operation that does not touch memory. Conditions: as each theorem states them.
-/
import Derived.Test.YtegjnjmimfgijaaGreatDoorEvd
noncomputable section
namespace Go.Proofs.YtegjnjmimfgijaaGreatDoor
open Go

def aLen (P : Program) (c : Call) (ev : Operand → Option Value) : Option Value :=
  match c.callee, c.argTypes[0]?, c.args[0]? with
  | .builtin .len, some t, some x => match ev x with
    | some (.slice _ n _) => match P.underlying t with
      | some (.slice _) => some (goInt n)
      | _ => none
    | _ => none
  | _, _, _ => none
/-- An int that needs no wrapping. -/
def fwrap : Int → Option Value
  | .ofNat m => bif Nat.blt m 9223372036854775808 then some (.int .i64 (.ofNat m)) else none
  | .negSucc m => bif Nat.blt m 9223372036854775808 then some (.int .i64 (.negSucc m)) else none
def ilt : Int → Int → Bool
  | .ofNat m, .ofNat n => Nat.blt m n
  | .ofNat _, .negSucc _ => false
  | .negSucc _, .ofNat _ => true
  | .negSucc m, .negSucc n => Nat.blt n m
def ieq : Int → Int → Bool
  | .ofNat m, .ofNat n => Nat.beq m n
  | .negSucc m, .negSucc n => Nat.beq m n
  | _, _ => false
theorem fwrap_eq {n : Int} {v : Value} (h : fwrap n = some v) : v = .int .i64 (IntKind.i64.wrap n) := by
  have key : ∀ n : Int, -9223372036854775808 ≤ n → n < 9223372036854775808 → IntKind.i64.wrap n = n := by
    intro n h1 h2
    have e : IntKind.i64.wrap n = if (n % 18446744073709551616 : Int) ≥ 9223372036854775808 then n % 18446744073709551616 - 18446744073709551616 else n % 18446744073709551616 := by
      unfold IntKind.wrap
      simp [IntKind.signed, IntKind.bits]
    rw [e]
    split <;> omega
  cases n with
  | ofNat m =>
    simp only [fwrap] at h
    cases hb : Nat.blt m 9223372036854775808 with
    | false => rw [hb] at h; cases h
    | true =>
      rw [hb] at h
      cases h
      have : m < 9223372036854775808 := Nat.le_of_ble_eq_true hb
      rw [key _ (by show (-9223372036854775808 : Int) ≤ (m : Int); omega) (by show (m : Int) < 9223372036854775808; omega)]
  | negSucc m =>
    simp only [fwrap] at h
    cases hb : Nat.blt m 9223372036854775808 with
    | false => rw [hb] at h; cases h
    | true =>
      rw [hb] at h
      cases h
      have : m < 9223372036854775808 := Nat.le_of_ble_eq_true hb
      rw [key _ (by omega) (by omega)]
theorem ilt_eq (a b : Int) : ilt a b = decide (a < b) := by
  cases a <;> cases b <;> simp only [ilt]
  · rw [Bool.eq_iff_iff]; simp [Nat.blt_eq]
  · symm; simp; omega
  · symm; simp; omega
  · rw [Bool.eq_iff_iff]; simp [Nat.blt_eq]; omega
theorem ieq_eq (a b : Int) : ieq a b = (a == b) := by
  cases a <;> cases b <;> simp only [ieq]
  · rw [Bool.eq_iff_iff]; simp; omega
  · symm; simp
  · symm; simp
  · rw [Bool.eq_iff_iff]; simp
/-- The everyday operators on ints. -/
def fbin (op : BinOp) : Value → Value → Option Value
  | .int .i64 a, .int .i64 b => match op with
    | .add => fwrap (a + b)
    | .sub => fwrap (a - b)
    | .mul => fwrap (a * b)
    | .eql => some (.bool (ieq a b))
    | .neq => some (.bool (!ieq a b))
    | .lss => some (.bool (ilt a b))
    | .leq => some (.bool (!ilt b a))
    | .gtr => some (.bool (ilt b a))
    | .geq => some (.bool (!ilt a b))
    | _ => none
  | _, _ => none
theorem fbin_sound {P : Program} {op : BinOp} {t : TypeId} {x y : Operand} {u z v : Value} (h : fbin op u z = some v) (w : World) :
    ((do eqGuard op t x y u z; binOp op t u z) >>= fun r => pure (Next.value r)).run P w = .ok (.value v) w ∧ closed v = true ∧ flat u = true ∧ flat z = true := by
  unfold fbin at h
  split at h
  case h_2 => cases h
  rename_i a b
  have main : ∀ s : Sem Value, binOp op t (.int .i64 a) (.int .i64 b) = s → pureRun P s = some v → ((do eqGuard op t x y (.int .i64 a) (.int .i64 b); binOp op t (.int .i64 a) (.int .i64 b)) >>= fun r => pure (Next.value r)).run P w = .ok (.value v) w := by
    intro s hs hp
    have hg : pureRun P (eqGuard op t x y (.int .i64 a) (.int .i64 b)) = some () := by cases op <;> rfl
    have : pureRun P (do eqGuard op t x y (.int .i64 a) (.int .i64 b); binOp op t (.int .i64 a) (.int .i64 b)) = some v := by rw [pureRun_bind hg, hs]; exact hp
    rw [bind_run this]
    rfl
  cases op <;> simp only [reduceCtorEq, Option.some.injEq] at h
  case add => have e := fwrap_eq h; subst e; exact ⟨main _ rfl rfl, rfl, rfl, rfl⟩
  case sub => have e := fwrap_eq h; subst e; exact ⟨main _ rfl rfl, rfl, rfl, rfl⟩
  case mul => have e := fwrap_eq h; subst e; exact ⟨main _ rfl rfl, rfl, rfl, rfl⟩
  case eql => subst h; exact ⟨main _ rfl (by rw [ieq_eq]; rfl), rfl, rfl, rfl⟩
  case neq => subst h; exact ⟨main _ rfl (by rw [ieq_eq]; rfl), rfl, rfl, rfl⟩
  case lss => subst h; exact ⟨main _ rfl (by rw [ilt_eq]; rfl), rfl, rfl, rfl⟩
  case leq => subst h; exact ⟨main _ rfl (by rw [ilt_eq, show (!decide (b < a)) = decide (a ≤ b) by rw [Bool.eq_iff_iff]; simp]; rfl), rfl, rfl, rfl⟩
  case gtr => subst h; exact ⟨main _ rfl (by rw [ilt_eq]; rfl), rfl, rfl, rfl⟩
  case geq => subst h; exact ⟨main _ rfl (by rw [ilt_eq, show (!decide (a < b)) = decide (a ≥ b) by rw [Bool.eq_iff_iff]; simp]; rfl), rfl, rfl, rfl⟩
/-- An operation that does not touch memory. -/
def apure (P : Program) (o : Oper) (ev : Operand → Option Value) : Option Value :=
  match o.op with
  | .move x | .assign x => ev x
  | .pick c x y => match ev c with
    | some (.bool true) => ev x
    | some (.bool false) => ev y
    | _ => none
  | .nilCheck x => match ev x with
    | some (.pointer (some a)) => some (.pointer (some a))
    | _ => scalar P o ev
  | .field t x f => match ev x with
    | some v => aField P t v f
    | none => none
  | .index t x i => match ev x, ev i with
    | some (.agg c), some j => aIndex P t (.agg c) j
    | _, _ => scalar P o ev
  | .extract x i => match ev x with
    | some (.tuple vs) => vs[i]?
    | _ => none
  | .build t ps => match evP ev ps.toList with
    | some l => aBuild P t l
    | none => none
  | .fieldAddr t x f => match ev x with
    | some v => aFieldAddr P t v f
    | none => none
  | .indexAddr t x i => match ev x, ev i with
    | some v, some j => aIndexAddr P t v j
    | _, _ => none
  | .slice t x lo hi none => match ev x with
    | some (.slice (some a) n c) => aSlice P ev t (.slice (some a) n c) lo hi
    | _ => scalar P o ev
  | .makeFunc (.func k) f c => match evL ev f.toList, evL ev c.toList with
    | some f', some c' => some (.func (.func k) f'.toArray c'.toArray)
    | _, _ => none
  | .makeInterface t x => match P.underlying t with
    | some (.interface _) => none
    | some _ => (ev x).map (.iface t)
    | none => none
  | .call c => match aLen P c ev with
    | some v => some v
    | none => scalar P o ev
  | .binOp op t x y _ => match ev x, ev y with
    | some v, some u => match fbin op v u with
      | some r => some r
      | none => match aEq P op t v u with
        | some b => some b
        | none => scalar P o ev
    | _, _ => none
  | _ => scalar P o ev
theorem aLen_sound {P : Program} {ρ : Place} {ev : Operand → Option Value} {a : Act} (hF : ERel ρ ev a) {o : Oper} {c : Call} (ho : o.op = .call c) {v : Value} (h : aLen P c ev = some v) (w : World) :
    ∃ v', (execOp a.eval o).run P w = .ok (.value v') w ∧ VR ρ v v' := by
  obtain ⟨callee, args, argTypes⟩ := c
  unfold aLen at h
  dsimp only at h
  split at h
  · rename_i t x hty har
    cases hv : ev x with
    | none => rw [hv] at h; cases h
    | some u =>
      rw [hv] at h
      have hx := hF.eval hv
      generalize he : a.eval x = e at hx
      have main : ∀ (A A' : Option Addr) (k m m' : Nat), u = .slice A k m → e = .slice A' k m' → ∃ v', (execOp a.eval o).run P w = .ok (.value v') w ∧ VR ρ v v' := by
        intro A A' k m m' hu' he'
        subst hu'
        dsimp only at h
        cases hu : P.underlying t with
        | none => rw [hu] at h; cases h
        | some d =>
          rw [hu] at h
          cases d <;> simp only [reduceCtorEq] at h
          cases h
          refine ⟨goInt k, ?_, .int _ _⟩
          unfold execOp
          rw [ho]
          simp only [resolve]
          have hl : pureRun P (Builtin.len_ argTypes o.type (args.map a.eval)) = some (goInt k) := by
            unfold Builtin.len_
            have : (args.map a.eval)[0]? = some (.slice A' k m') := by rw [Array.getElem?_map, har]; simp [he, he']
            rw [hty, this]
            dsimp only
            rw [pureRun_bind (underlying_pure hu)]
            rfl
          show ((Builtin.len_ argTypes o.type (args.map a.eval)) >>= fun r => pure (Next.value r)).run P w = _
          rw [bind_run hl]
          rfl
      cases hx <;> try simp only [reduceCtorEq] at h
      case nilSlice => exact main _ _ _ _ _ rfl rfl
      case slice => exact main _ _ _ _ _ rfl rfl
      case emptySlice => exact main _ _ _ _ _ rfl rfl
  · cases h
theorem value_run {P : Program} {s : Sem Value} {w w' : World} {v : Value} (h : s.run P w = .ok v w') : (s >>= fun r => pure (Next.value r)).run P w = .ok (.value v) w' := by
  rw [Sem.run_bind, h]
  rfl
theorem apure_sound {P : Program} {ρ : Place} {ev : Operand → Option Value} {a : Act} (hF : ERel ρ ev a) {o : Oper} {v : Value} (h : apure P o ev = some v) (w : World) :
    ∃ v', (execOp a.eval o).run P w = .ok (.value v') w ∧ VR ρ v v' := by
  have hsc : ∀ {v}, scalar P o ev = some v → ∃ v', (execOp a.eval o).run P w = .ok (.value v') w ∧ VR ρ v v' := fun h => scalar_sound hF h w
  obtain ⟨dst, op, type, pos, after, guard⟩ := o
  unfold apure at h
  cases op <;> dsimp only at h
  case move x => exact ⟨_, rfl, hF.eval h⟩
  case assign x => exact ⟨_, rfl, hF.eval h⟩
  case pick c x y =>
    cases hc : ev c with
    | none => rw [hc] at h; cases h
    | some u =>
      rw [hc] at h
      have hx := hF.eval hc
      generalize he : a.eval c = e at hx
      cases hx <;> try simp only [reduceCtorEq] at h
      rename_i b
      refine ⟨if b then a.eval x else a.eval y, ?_, ?_⟩
      · show ((asBool (a.eval c)) >>= fun t => pure (Next.value (if t then a.eval x else a.eval y))).run P w = _
        rw [he]
        rfl
      · cases b
        · exact hF.eval h
        · exact hF.eval h
  case nilCheck x =>
    split at h
    · rename_i A hx
      cases h
      have hv := hF.eval hx
      cases hE : a.eval x <;> rw [hE] at hv <;> try (cases hv)
      rename_i hb
      refine ⟨_, ?_, .ptr hb⟩
      unfold execOp
      dsimp only
      rw [hE]
      rfl
    · exact hsc h
  case field t x f =>
    cases hx : ev x with
    | none => rw [hx] at h; cases h
    | some u =>
      rw [hx] at h
      obtain ⟨v', e, hv⟩ := aField_sound (hF.eval hx) h w
      exact ⟨v', value_run e, hv⟩
  case index t x i =>
    split at h
    · rename_i c j hx hi
      obtain ⟨v', e, hv⟩ := aIndex_sound (hF.eval hx) (hF.eval hi) h w
      exact ⟨v', value_run e, hv⟩
    · exact hsc h
  case extract x i =>
    split at h
    · rename_i vs hx
      have hv := hF.eval hx
      cases hE : a.eval x <;> rw [hE] at hv <;> try (cases hv)
      rename_i vs' hs hc
      obtain ⟨v', e, hv⟩ := VRA.get ⟨hs, hc⟩ h
      refine ⟨v', ?_, hv⟩
      unfold execOp
      dsimp only
      rw [hE]
      exact value_run (s := Instr.extract (.tuple vs') i) (by unfold Instr.extract; dsimp only; rw [e]; rfl)
    · cases h
  case build t ps =>
    cases hx : evP ev ps.toList with
    | none => rw [hx] at h; cases h
    | some l =>
      rw [hx] at h
      obtain ⟨v', e, hv⟩ := aBuild_sound (evP_sound hF hx) h w
      refine ⟨v', ?_, hv⟩
      unfold execOp
      dsimp only
      refine value_run ?_
      rw [← e]
      congr 2
      apply Array.ext'
      simp
  case fieldAddr t x f =>
    cases hx : ev x with
    | none => rw [hx] at h; cases h
    | some u =>
      rw [hx] at h
      obtain ⟨v', e, hv⟩ := aFieldAddr_sound (hF.eval hx) h w
      exact ⟨v', value_run e, hv⟩
  case indexAddr t x i =>
    split at h
    · rename_i u j hx hi
      obtain ⟨v', e, hv⟩ := aIndexAddr_sound (hF.eval hx) (hF.eval hi) h w
      exact ⟨v', value_run e, hv⟩
    · cases h
  case slice t x lo hi mx =>
    cases mx with
    | some m => exact hsc h
    | none =>
      dsimp only at h
      split at h
      · rename_i A k c hx
        obtain ⟨v', e, hv⟩ := aSlice_sound hF (hF.eval hx) h w
        exact ⟨v', value_run e, hv⟩
      · exact hsc h
  case makeFunc fn f c =>
    cases fn <;> try exact hsc h
    rename_i k
    dsimp only at h
    split at h
    · rename_i f' c' hf hc
      cases h
      have h1 := (evL_sound hF hf).arr
      have h2 := (evL_sound hF hc).arr
      refine ⟨.func (.func k) (f.map a.eval) (c.map a.eval), rfl, ?_⟩
      have e1 : (f.toList.map a.eval).toArray = f.map a.eval := by apply Array.ext'; simp
      have e2 : (c.toList.map a.eval).toArray = c.map a.eval := by apply Array.ext'; simp
      rw [e1] at h1
      rw [e2] at h2
      exact .func k h1.1 h1.2 h2.1 h2.2
    · cases h
  case makeInterface t x =>
    cases hu : P.underlying t with
    | none => rw [hu] at h; cases h
    | some d =>
      rw [hu] at h
      have main : (∀ ms, d ≠ .interface ms) → (ev x).map (Value.iface t) = some v → ∃ v', (execOp a.eval ⟨dst, .makeInterface t x, type, pos, after, guard⟩).run P w = .ok (.value v') w ∧ VR ρ v v' := by
        intro hd hh
        simp only [Option.map_eq_some_iff] at hh
        obtain ⟨u, hx, rfl⟩ := hh
        refine ⟨.iface t (a.eval x), ?_, .iface t (hF.eval hx)⟩
        refine value_run (s := Instr.makeInterface t (a.eval x)) ?_
        unfold Instr.makeInterface
        rw [bind_run (underlying_pure hu)]
        cases d <;> first | rfl | exact absurd rfl (hd _)
      cases d <;> try exact main (by simp) h
      cases h
  case call c =>
    split at h
    · rename_i u hl
      cases h
      exact aLen_sound hF rfl hl w
    · exact hsc h
  case binOp op t x y ty =>
    split at h
    · rename_i u z hx hy
      split at h
      · rename_i r hr
        cases h
        obtain ⟨g1, g2, g3, g4⟩ := fbin_sound (P := P) (t := t) (x := x) (y := y) hr w
        have e1 := flat_eq g3 (hF.eval hx)
        have e2 := flat_eq g4 (hF.eval hy)
        refine ⟨_, ?_, closed_refl g2⟩
        unfold execOp
        dsimp only
        rw [e1, e2]
        exact g1
      split at h
      · rename_i b hb
        cases h
        refine ⟨v, aEq_sound (hF.eval hx) (hF.eval hy) hb w, ?_⟩
        have : ∃ b, v = .bool b := by
          unfold aEq at hb
          have hE : ∀ b, eqRes b op = some v → ∃ b, v = .bool b := by
            intro b hh
            cases op <;> simp only [eqRes, reduceCtorEq, Option.some.injEq] at hh <;> exact ⟨_, hh.symm⟩
          split at hb <;> first | (split at hb <;> first | exact hE _ hb | cases hb) | cases hb
        obtain ⟨b, rfl⟩ := this
        exact .bool b
      · exact hsc h
    · cases h
  all_goals exact hsc h
end Go.Proofs.YtegjnjmimfgijaaGreatDoor
