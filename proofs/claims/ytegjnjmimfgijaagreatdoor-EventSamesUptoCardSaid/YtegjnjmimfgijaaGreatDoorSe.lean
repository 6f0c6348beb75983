/-
  Symbolic runs, part 5: operations that write, and calls. Conditions: as each theorem states them.
-/
import Derived.Test.YtegjnjmimfgijaaGreatDoorEvr
noncomputable section
namespace Go.Proofs.YtegjnjmimfgijaaGreatDoor
open Go Go.RowKit

/-- Two ways: reduces where the Boolean is known. -/
def pIf (b : Bool) (X Y : Prop) : Prop := Bool.rec (motive := fun _ => Prop) Y X b
theorem pIf_intro {b : Bool} {X Y : Prop} (h1 : b = true → X) (h2 : b = false → Y) : pIf b X Y := by
  cases b with
  | true => exact h1 rfl
  | false => exact h2 rfl
theorem pIf_true {X Y : Prop} (h : pIf true X Y) : X := h
theorem pIf_false {X Y : Prop} (h : pIf false X Y) : Y := h
@[simp] theorem pIf_iff (b : Bool) (X Y : Prop) : pIf b X Y ↔ (b = true → X) ∧ (b = false → Y) := by
  cases b
  · exact ⟨fun h => ⟨fun e => (by cases e), fun _ => h⟩, fun h => h.2 rfl⟩
  · exact ⟨fun h => ⟨fun _ => h, fun e => (by cases e)⟩, fun h => h.1 rfl⟩

/-- A Boolean is split at once. -/
def vsplit (v : Value) (F : Value → Prop) : Prop :=
  match v with
  | .bool b => pIf b (F (.bool true)) (F (.bool false))
  | v => F v
theorem vsplit_ap {v : Value} {F : Value → Prop} (h : vsplit v F) : F v := by
  cases v <;> try exact h
  rename_i b
  cases b <;> exact h
abbrev VCall := FuncId → List Value → Tr AObj → Nat → (Value → Bool → Tr AObj → Nat → Prop) → Prop
def VCallOk (P : Program) (vc : VCall) : Prop :=
  ∀ f args hp nx K, vc f args hp nx K → ∀ (W : Base) ρ w args', Rel ρ W hp nx w → VRL ρ args args' →
    Calls P f args'.toArray w fun e w' => ∃ v c hp' nx' v' ρ', K v c hp' nx' ∧ (c = false → hp' = hp) ∧ e = .returned v' ∧ VR ρ' v v' ∧ Rel ρ' W hp' nx' w' ∧ Step ρ ρ' hp hp' nx nx'

def sStore (P : Program) (hp : Tr AObj) (t : TypeId) (x v : Value) : Option (Tr AObj × Prop) :=
  match x with
  | .pointer (some ⟨b, o, none⟩) => match hp.get b with
    | some (.cells l true) => match pureRun P (sizeOf t) with
      | some z => bif v.cells.size.beq z && v.cells.toList.all single then some (hp.put b (some (.cells (setFrom l o v.cells.toList) true)), o + z ≤ l.length) else none
      | none => none
    | _ => none
  | _ => none
theorem sStore_eq {P : Program} {hp hp' : Tr AObj} {t : TypeId} {x v : Value} {ob : Prop} (h : sStore P hp t x v = some (hp', ob)) (hob : ob) : aStore P hp t x v = some hp' := by
  unfold sStore at h
  split at h
  case h_2 => cases h
  rename_i b o
  split at h
  case h_2 => cases h
  rename_i l hb
  split at h
  case h_2 => cases h
  rename_i z hz
  cases hc : v.cells.size.beq z && v.cells.toList.all single with
  | false => rw [hc] at h; cases h
  | true =>
    rw [hc] at h
    cases h
    simp only [Bool.and_eq_true] at hc
    unfold aStore
    dsimp only
    rw [hb]
    dsimp only
    rw [hz]
    dsimp only
    rw [hc.1, hc.2, Nat.ble_eq_true_of_le hob]
    rfl
/-- The next rune of a string. -/
def sNext (hp : Tr AObj) (x : Value) (isString : Bool) (K : Value → Tr AObj → Prop) : Prop :=
  match x, isString with
  | .pointer (some ⟨b, 0, none⟩), true => match hp.get b with
    | some (.iter s pos) => pIf (decide (pos < s.size)) (K (.tuple #[.bool true, goInt pos, .int .i32 (Utf8.decode s pos).1]) (hp.put b (some (.iter s (pos + (Utf8.decode s pos).2))))) (K (.tuple #[.bool false]) hp)
    | _ => False
  | _, _ => False
theorem sNext_eq {hp : Tr AObj} {x : Value} {q : Bool} {K : Value → Tr AObj → Prop} (h : sNext hp x q K) : ∃ v hp', aNext hp x q = some (v, hp') ∧ K v hp' := by
  unfold sNext at h
  split at h
  case h_2 => exact h.elim
  rename_i b
  split at h
  case h_2 => exact h.elim
  rename_i s pos hb
  unfold aNext
  simp only [hb]
  by_cases hlt : pos < s.size
  · rw [decide_eq_true hlt] at h
    have : pos.blt s.size = true := Nat.ble_eq_true_of_le hlt
    rw [this]
    exact ⟨_, _, rfl, h⟩
  · rw [decide_eq_false hlt] at h
    have : pos.blt s.size = false := by
      cases hb : pos.blt s.size with
      | false => rfl
      | true => exact absurd (Nat.le_of_ble_eq_true hb) hlt
    rw [this]
    exact ⟨_, _, rfl, h⟩
/-- The cells that an append takes. -/
def sSrc (hp : Tr AObj) (size : Nat) : Value → Option (Nat × List Value × Prop)
  | .slice none 0 _ => some (0, [], True)
  | .slice (some ⟨b, o, none⟩) n _ => match hp.get b with
    | some (.cells l _) => some (n, (l.drop o).take (n * size), o + n * size ≤ l.length)
    | _ => none
  | .string s => some (s.size, (byteCells s).toList, True)
  | .func (.via sz _ n false) els _ => bif sz.beq size then some (n, els.toList.flatMap (fun u => u.cells.toList), True) else none
  | _ => none
theorem nat_beq_self (n : Nat) : n.beq n = true := Nat.beq_refl n
theorem sSrc_eq {hp : Tr AObj} {size n : Nat} {x : Value} {l : List Value} {ob : Prop} (h : sSrc hp size x = some (n, l, ob)) (hob : ob) : srcLen x = some n ∧ (n ≠ 0 → srcCells hp size n x = some l) := by
  unfold sSrc at h
  split at h
  · cases h; exact ⟨rfl, fun h => absurd rfl h⟩
  · rename_i b o m cp
    split at h
    case h_2 => cases h
    rename_i l0 wr hb
    cases h
    refine ⟨rfl, fun hn => ?_⟩
    have : n.beq 0 = false := by cases n with
      | zero => exact absurd rfl hn
      | succ n => rfl
    unfold srcCells
    rw [this]
    dsimp only
    rw [cond_false]
    unfold rowOf
    rw [hb]
    dsimp only
    rw [Nat.ble_eq_true_of_le hob, cond_true]
  · rename_i s
    cases h
    refine ⟨rfl, fun _ => ?_⟩
    unfold srcCells byteCells
    dsimp only
    congr 2
    rw [ByteArray.extract_zero_size]
  · rename_i sz pth m els cp
    cases hc : sz.beq size with
    | false => rw [hc] at h; cases h
    | true =>
      rw [hc] at h
      cases h
      refine ⟨rfl, fun _ => ?_⟩
      unfold srcCells
      dsimp only
      rw [hc, nat_beq_self]
      rfl
  · cases h
def sAppend (P : Program) (hp : Tr AObj) (nx : Nat) (argTypes : Array TypeId) (args : Array Value) (K : Value → Tr AObj → Nat → Prop) : Prop :=
  match argTypes[0]?, (args[0]? : Option Value), (args[1]? : Option Value) with
  | some t, some (.slice base sLen sz), some x => match P.underlying t with
    | some (.slice elem) => match pureRun P (sizeOf elem), pureRun P (typeInfo elem), pureRun P (zeroValue elem) with
      | some size, some info, some zero => match sSrc hp size x with
        | some (n, new, ob) => bif noMake P argTypes[1]? && zero.cells.size.beq size && info.bytes.ble (2 ^ 20) then
            ob ∧ pIf (n.beq 0) ((base.isSome || sLen.ble sz) = true ∧ K (.slice base sLen sz) hp nx)
              (sLen + n ≤ 2 ^ 25 ∧ new.all single = true ∧ new.length = n * size ∧ (match base with
                | none => bif sLen.beq 0 && sz.beq 0 then K (.slice (some ⟨nx, 0, none⟩) n size) (hp.put nx (some (.cells new true))) (nx + 1) else False
                | some ⟨b, o, none⟩ => match hp.get b with
                  | some (.cells l true) => bif sz.beq size then o + sLen * size = l.length ∧ K (.slice (some ⟨nx, 0, none⟩) (sLen + n) size) ((hp.put b none).put nx (some (.cells (l.drop o ++ new) true))) (nx + 1) else False
                  | _ => False
                | _ => False))
          else False
        | none => False
      | _, _, _ => False
    | _ => False
  | _, _, _ => False
theorem sAppend_eq {P : Program} {hp : Tr AObj} {nx : Nat} {argTypes : Array TypeId} {args : Array Value} {K : Value → Tr AObj → Nat → Prop} (h : sAppend P hp nx argTypes args K) :
    ∃ v hp' nx', aAppend P hp nx argTypes args = some (v, hp', nx') ∧ K v hp' nx' := by
  unfold sAppend at h
  split at h
  case h_2 => exact h.elim
  rename_i t base sLen sz x ht h0 h1
  split at h
  case h_2 => exact h.elim
  rename_i elem hu
  split at h
  case h_2 => exact h.elim
  rename_i size info zero hz hi hzv
  split at h
  case h_2 => exact h.elim
  rename_i n new ob hsrc
  cases hc : noMake P argTypes[1]? && zero.cells.size.beq size && info.bytes.ble (2 ^ 20) with
  | false => rw [hc] at h; exact h.elim
  | true =>
    rw [hc, cond_true] at h
    simp only [Bool.and_eq_true] at hc
    obtain ⟨⟨c1, c2⟩, c3⟩ := hc
    obtain ⟨hob, h⟩ := h
    obtain ⟨g1, g2⟩ := sSrc_eq hsrc hob
    unfold aAppend
    rw [ht, h0, h1]
    dsimp only
    rw [hu, g1]
    dsimp only
    rw [hz]
    dsimp only
    rw [c1, cond_true]
    cases hn : n.beq 0 with
    | true =>
      rw [hn] at h
      have h := pIf_true h
      rw [cond_true, h.1]
      exact ⟨_, _, _, rfl, h.2⟩
    | false =>
      rw [hn] at h
      replace h := pIf_false h
      obtain ⟨k1, k2, k3, h⟩ := h
      have hn0 : n ≠ 0 := fun e => by subst e; cases hn
      rw [cond_false, hi, hzv, g2 hn0]
      dsimp only
      rw [c2, Nat.ble_eq_true_of_le k1, c3, k2, show new.length.beq (n * size) = true by rw [k3]; exact nat_beq_self _]
      simp only [Bool.and_self, cond_true]
      split at h
      · cases hc : sLen.beq 0 && sz.beq 0 with
        | false => rw [hc] at h; exact h.elim
        | true => rw [hc] at h; exact ⟨_, _, _, rfl, h⟩
      · rename_i b o
        split at h
        case h_2 => exact h.elim
        rename_i l hb
        cases hc : sz.beq size with
        | false => rw [hc] at h; exact h.elim
        | true =>
          rw [hc, cond_true] at h
          dsimp only
          rw [hb]
          dsimp only
          have hrow : rowOf hp b o (sLen * size) = some (l.drop o) := by
            unfold rowOf
            rw [hb]
            dsimp only
            rw [Nat.ble_eq_true_of_le (Nat.le_of_eq h.1), cond_true]
            congr 1
            rw [List.take_of_length_le]
            rw [List.length_drop]
            omega
          rw [hrow]
          exact ⟨_, _, _, rfl, h.2⟩
      · exact h.elim
/-- Operations that write, and calls. -/
def vheavy (P : Program) (vc : VCall) (hp : Tr AObj) (nx : Nat) (o : Oper) (ev : Operand → Option Value) (K : Value → Bool → Tr AObj → Nat → Prop) : Prop :=
  match o.op with
  | .store t x y => match ev x, ev y with
    | some p, some v => match sStore P hp t p v with
      | some (hp', ob) => ob ∧ K undef true hp' nx
      | none => False
    | _, _ => False
  | .next x q => match ev x with
    | some p => sNext hp p q fun v hp' => K v true hp' nx
    | none => False
  | .call c => match c.callee with
    | .builtin .append => match evL ev c.args.toList with
      | some args => sAppend P hp nx c.argTypes args.toArray fun v hp' nx' => K v true hp' nx'
      | none => False
    | .value f => match ev f, evL ev c.args.toList with
      | some (.func (.func k) first captured), some args => bif enters P k then vc k (first.toList ++ args ++ captured.toList) hp nx K else False
      | _, _ => False
    | _ => False
  | _ => False
theorem vheavy_sound {P : Program} {vc : VCall} {ρ : Place} {W : Base} (hcall : VCallOk P vc) {hp : Tr AObj} {nx : Nat} {w : World} (h : Rel ρ W hp nx w) {ev : Operand → Option Value} {a : Act} (hF : ERel ρ ev a) {o : Oper} {K : Value → Bool → Tr AObj → Nat → Prop}
    (hs : vheavy P vc hp nx o ev K) {next : Act → World → Prop} {Q : Exit → Act → World → Prop}
    (hk : ∀ v c hp' nx' v' w' ρ', K v c hp' nx' → (c = false → hp' = hp) → VR ρ' v v' → Rel ρ' W hp' nx' w' → Step ρ ρ' hp hp' nx nx' → next (a.put o.dst v') w') : o.wp P a w next Q := by
  obtain ⟨dst, op, type, pos, after, guard⟩ := o
  unfold vheavy at hs
  unfold Oper.wp
  cases op <;> dsimp only at hs <;> try (exact hs.elim)
  case store t x y =>
    split at hs
    case h_2 => exact hs.elim
    rename_i p u hx hy
    split at hs
    case h_2 => exact hs.elim
    rename_i hq ob hst
    obtain ⟨w', h1, h2, h3⟩ := aStore_sound h (hF.eval hx) (hF.eval hy) (sStore_eq hst hs.1)
    have : (execOp a.eval ⟨dst, .store t x y, type, pos, after, guard⟩).run P w = .ok .skip w' := by
      show ((Instr.storeAt t (a.eval x) (a.eval y)) >>= fun _ => pure Next.skip).run P w = _
      rw [Sem.run_bind, h1, Result.andThen_ok]
      rfl
    rw [this]
    exact hk undef _ _ _ undef w' ρ hs.2 (fun e => by cases e) (closed_refl (by simp [undef, closed])) h2 h3
  case next x q =>
    split at hs
    case h_2 => exact hs.elim
    rename_i p hx
    obtain ⟨v, hp', hst, hK⟩ := sNext_eq hs
    obtain ⟨v', w', h1, h2, h3, h4⟩ := aNext_sound (P := P) (t := type) h (hF.eval hx) hst
    have : (execOp a.eval ⟨dst, .next x q, type, pos, after, guard⟩).run P w = .ok (.value v') w' := value_run h1
    rw [this]
    exact hk v _ _ _ v' w' ρ hK (fun e => by cases e) h2 h3 h4
  case call c =>
    obtain ⟨callee, args, argTypes⟩ := c
    dsimp only at hs
    split at hs
    · split at hs
      case h_2 => exact hs.elim
      rename_i as0 has
      have hA := (evL_sound hF has).arr
      have e1 : (args.toList.map a.eval).toArray = args.map a.eval := by apply Array.ext'; simp
      rw [e1] at hA
      obtain ⟨v, hp', nx', hs', hK⟩ := sAppend_eq hs
      obtain ⟨v', w', ρ', h1, h2, h3, h4⟩ := aAppend_sound (P := P) (ty := type) h hA hs'
      have : (execOp a.eval ⟨dst, .call ⟨.builtin .append, args, argTypes⟩, type, pos, after, guard⟩).run P w = .ok (.value v') w' := by
        show ((Builtin.append_ argTypes type (args.map a.eval)) >>= fun r => pure (Next.value r)).run P w = _
        exact value_run h1
      rw [this]
      exact hk v _ _ _ v' w' ρ' hK (fun e => by cases e) h2 h3 h4
    · rename_i f
      split at hs
      case h_2 => exact hs.elim
      rename_i k first captured as0 hf has
      cases he : enters P k with
      | false => rw [he] at hs; exact hs.elim
      | true =>
        rw [he, cond_true] at hs
        have hfv := hF.eval hf
        generalize hE : a.eval f = E at hfv
        cases hfv
        rename_i first' captured' s1 v1 s2 v2
        have hA := evL_sound hF has
        have hL := ((VRA.list ⟨s1, v1⟩).append hA).append (VRA.list ⟨s2, v2⟩)
        have hc := hcall k _ hp nx K hs W ρ w _ h hL
        have e2 : (first'.toList ++ args.toList.map a.eval ++ captured'.toList).toArray = first' ++ args.map a.eval ++ captured' := by apply Array.ext'; simp
        rw [e2] at hc
        have : (execOp a.eval ⟨dst, .call ⟨.value f, args, argTypes⟩, type, pos, after, guard⟩).run P w = .ok (.enter k (first' ++ args.map a.eval ++ captured')) w := by
          unfold execOp
          simp only [resolve, hE]
          show (callFunc k (first' ++ args.map a.eval ++ captured')).run P w = _
          exact pureRun_run (enters_run he _) w
        rw [this]
        refine hc.mono ?_
        rintro e w' ⟨v, c, hp', nx', v', ρ', hK, hc, rfl, h2, h3, h4⟩
        exact hk v c _ _ v' w' ρ' hK hc h2 h3 h4
    · exact hs.elim
end Go.Proofs.YtegjnjmimfgijaaGreatDoor
