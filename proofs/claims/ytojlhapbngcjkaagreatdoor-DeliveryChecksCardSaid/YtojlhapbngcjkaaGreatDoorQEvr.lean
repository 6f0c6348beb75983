/-
  Put together out of several texts, each in its own namespace's block. Conditions: as each theorem states them.
-/
import Derived.Test.YtojlhapbngcjkaaGreatDoorQEvn
noncomputable section
namespace Go.Proofs.YtojlhapbngcjkaaGreatDoor
open Go Go.RowKit
set_option maxRecDepth 100000
set_option maxHeartbeats 8000000
def pIf (b : Bool) (X Y : Prop) : Prop := Bool.rec (motive := fun _ => Prop) Y X b
theorem pIf_intro {b : Bool} {X Y : Prop} (h1 : b = true → X) (h2 : b = false → Y) : pIf b X Y := by
 cases b with
 | true => exact h1 rfl
 | false => exact h2 rfl
theorem pIf_true {X Y : Prop} (h : pIf true X Y) : X := h
theorem pIf_false {X Y : Prop} (h : pIf false X Y) : Y := h
@[simp] theorem pIf_iff (b : Bool) (X Y : Prop) : pIf b X Y ↔ (b = true → X) ∧ (b = false → Y) := by
 cases b
 ·exact ⟨fun h => ⟨fun e => (by cases e), fun _ => h⟩, fun h => h.2 rfl⟩
 ·exact ⟨fun h => ⟨fun _ => h, fun e => (by cases e)⟩, fun h => h.1 rfl⟩
def vsplit (v : Value) (F : Value → Prop) : Prop :=
 match v with
 | .bool b => pIf b (F (.bool true)) (F (.bool false))
 | v => F v
theorem vsplit_ap {v : Value} {F : Value → Prop} (h : vsplit v F) : F v := by
 cases v <;> try exact h
 rename_i b
 cases b <;> exact h
abbrev VCall := FuncId → List Value → Tr AObj → Nat → (Value → Bool → Tr AObj → Nat → Prop) → Prop
def VCallOk (P : Program) (vc : VCall) : Prop :=
 ∀ f args hp nx K, vc f args hp nx K → ∀ (W : Base) ρ w args', Rel ρ W hp nx w → VRL ρ args args' →
  Calls P f args'.toArray w fun e w' => ∃ v c hp' nx' v' ρ', K v c hp' nx' ∧ (c = false → hp' = hp) ∧ e = .returned v' ∧ VR ρ' v v' ∧ Rel ρ' W hp' nx' w' ∧ Step ρ ρ' hp hp' nx nx'
def sStore (P : Program) (hp : Tr AObj) (t : TypeId) (x v : Value) : Option (Tr AObj × Prop) :=
 match x with
 | .pointer (some ⟨b, o, none⟩) => match hp.get b with
  | some (.cells l true) => match pureRun P (sizeOf t) with
   | some z => bif v.cells.size.beq z && v.cells.toList.all single then some (hp.put b (some (.cells (setFrom l o v.cells.toList) true)), o + z ≤ l.length) else none
   | none => none
  | _ => none
 | _ => none
theorem sStore_eq {P : Program} {hp hp' : Tr AObj} {t : TypeId} {x v : Value} {ob : Prop} (h : sStore P hp t x v = some (hp', ob)) (hob : ob) : aStore P hp t x v = some hp' := by
 unfold sStore at h
 split at h
 case h_2 => cases h
 rename_i b o
 split at h
 case h_2 => cases h
 rename_i l hb
 split at h
 case h_2 => cases h
 rename_i z hz
 cases hc : v.cells.size.beq z && v.cells.toList.all single with
 | false => rw [hc] at h; cases h
 | true =>
  rw [hc] at h
  cases h
  simp only [Bool.and_eq_true] at hc
  unfold aStore
  dsimp only
  rw [hb]
  dsimp only
  rw [hz]
  dsimp only
  rw [hc.1, hc.2, Nat.ble_eq_true_of_le hob]
  rfl
def sNext (hp : Tr AObj) (x : Value) (isString : Bool) (K : Value → Tr AObj → Prop) : Prop :=
 match x, isString with
 | .pointer (some ⟨b, 0, none⟩), true => match hp.get b with
  | some (.iter s pos) => pIf (decide (pos < s.size)) (K (.tuple #[.bool true, goInt pos, .int .i32 (Utf8.decode s pos).1]) (hp.put b (some (.iter s (pos + (Utf8.decode s pos).2))))) (K (.tuple #[.bool false]) hp)
  | _ => False
 | _, _ => False
theorem sNext_eq {hp : Tr AObj} {x : Value} {q : Bool} {K : Value → Tr AObj → Prop} (h : sNext hp x q K) : ∃ v hp', aNext hp x q = some (v, hp') ∧ K v hp' := by
 unfold sNext at h
 split at h
 case h_2 => exact h.elim
 rename_i b
 split at h
 case h_2 => exact h.elim
 rename_i s pos hb
 unfold aNext
 simp only [hb]
 by_cases hlt : pos < s.size
 ·rw [decide_eq_true hlt] at h
  have : pos.blt s.size = true := Nat.ble_eq_true_of_le hlt
  rw [this]
  exact ⟨_, _, rfl, h⟩
 ·rw [decide_eq_false hlt] at h
  have : pos.blt s.size = false := by
   cases hb : pos.blt s.size with
   | false => rfl
   | true => exact absurd (Nat.le_of_ble_eq_true hb) hlt
  rw [this]
  exact ⟨_, _, rfl, h⟩
def sSrc (hp : Tr AObj) (size : Nat) : Value → Option (Nat × List Value × Prop)
 | .slice none 0 _ => some (0, [], True)
 | .slice (some ⟨b, o, none⟩) n _ => match hp.get b with
  | some (.cells l _) => some (n, (l.drop o).take (n * size), o + n * size ≤ l.length)
  | _ => none
 | .string s => some (s.size, (byteCells s).toList, True)
 | .func (.via sz _ n false) els _ => bif sz.beq size then some (n, els.toList.flatMap (fun u => u.cells.toList), True) else none
 | _ => none
theorem nat_beq_self (n : Nat) : n.beq n = true := Nat.beq_refl n
theorem sSrc_eq {hp : Tr AObj} {size n : Nat} {x : Value} {l : List Value} {ob : Prop} (h : sSrc hp size x = some (n, l, ob)) (hob : ob) : srcLen x = some n ∧ (n ≠ 0 → srcCells hp size n x = some l) := by
 unfold sSrc at h
 split at h
 ·cases h; exact ⟨rfl, fun h => absurd rfl h⟩
 ·rename_i b o m cp
  split at h
  case h_2 => cases h
  rename_i l0 wr hb
  cases h
  refine ⟨rfl, fun hn => ?_⟩
  have : n.beq 0 = false := by cases n with
   | zero => exact absurd rfl hn
   | succ n => rfl
  unfold srcCells
  rw [this]
  dsimp only
  rw [cond_false]
  unfold rowOf
  rw [hb]
  dsimp only
  rw [Nat.ble_eq_true_of_le hob, cond_true]
 ·rename_i s
  cases h
  refine ⟨rfl, fun _ => ?_⟩
  unfold srcCells byteCells
  dsimp only
  congr 2
  rw [ByteArray.extract_zero_size]
 ·rename_i sz pth m els cp
  cases hc : sz.beq size with
  | false => rw [hc] at h; cases h
  | true =>
   rw [hc] at h
   cases h
   refine ⟨rfl, fun _ => ?_⟩
   unfold srcCells
   dsimp only
   rw [hc, nat_beq_self]
   rfl
 ·cases h
def sAppend (P : Program) (hp : Tr AObj) (nx : Nat) (argTypes : Array TypeId) (args : Array Value) (K : Value → Tr AObj → Nat → Prop) : Prop :=
 match argTypes[0]?, (args[0]? : Option Value), (args[1]? : Option Value) with
 | some t, some (.slice base sLen sz), some x => match P.underlying t with
  | some (.slice elem) => match pureRun P (sizeOf elem), pureRun P (typeInfo elem), pureRun P (zeroValue elem) with
   | some size, some info, some zero => match sSrc hp size x with
    | some (n, new, ob) => bif noMake P argTypes[1]? && zero.cells.size.beq size && info.bytes.ble (2 ^ 20) then
      ob ∧ pIf (n.beq 0) ((base.isSome || sLen.ble sz) = true ∧ K (.slice base sLen sz) hp nx)
       (sLen + n ≤ 2 ^ 25 ∧ new.all single = true ∧ new.length = n * size ∧ (match base with
        | none => bif sLen.beq 0 && sz.beq 0 then K (.slice (some ⟨nx, 0, none⟩) n size) (hp.put nx (some (.cells new true))) (nx + 1) else False
        | some ⟨b, o, none⟩ => match hp.get b with
         | some (.cells l true) => bif sz.beq size then o + sLen * size = l.length ∧ K (.slice (some ⟨nx, 0, none⟩) (sLen + n) size) ((hp.put b none).put nx (some (.cells (l.drop o ++ new) true))) (nx + 1) else False
         | _ => False
        | _ => False))
     else False
    | none => False
   | _, _, _ => False
  | _ => False
 | _, _, _ => False
theorem sAppend_eq {P : Program} {hp : Tr AObj} {nx : Nat} {argTypes : Array TypeId} {args : Array Value} {K : Value → Tr AObj → Nat → Prop} (h : sAppend P hp nx argTypes args K) :
  ∃ v hp' nx', aAppend P hp nx argTypes args = some (v, hp', nx') ∧ K v hp' nx' := by
 unfold sAppend at h
 split at h
 case h_2 => exact h.elim
 rename_i t base sLen sz x ht h0 h1
 split at h
 case h_2 => exact h.elim
 rename_i elem hu
 split at h
 case h_2 => exact h.elim
 rename_i size info zero hz hi hzv
 split at h
 case h_2 => exact h.elim
 rename_i n new ob hsrc
 cases hc : noMake P argTypes[1]? && zero.cells.size.beq size && info.bytes.ble (2 ^ 20) with
 | false => rw [hc] at h; exact h.elim
 | true =>
  rw [hc, cond_true] at h
  simp only [Bool.and_eq_true] at hc
  obtain ⟨⟨c1, c2⟩, c3⟩ := hc
  obtain ⟨hob, h⟩ := h
  obtain ⟨g1, g2⟩ := sSrc_eq hsrc hob
  unfold aAppend
  rw [ht, h0, h1]
  dsimp only
  rw [hu, g1]
  dsimp only
  rw [hz]
  dsimp only
  rw [c1, cond_true]
  cases hn : n.beq 0 with
  | true =>
   rw [hn] at h
   have h := pIf_true h
   rw [cond_true, h.1]
   exact ⟨_, _, _, rfl, h.2⟩
  | false =>
   rw [hn] at h
   replace h := pIf_false h
   obtain ⟨k1, k2, k3, h⟩ := h
   have hn0 : n ≠ 0 := fun e => by subst e; cases hn
   rw [cond_false, hi, hzv, g2 hn0]
   dsimp only
   rw [c2, Nat.ble_eq_true_of_le k1, c3, k2, show new.length.beq (n * size) = true by rw [k3]; exact nat_beq_self _]
   simp only [Bool.and_self, cond_true]
   split at h
   ·cases hc : sLen.beq 0 && sz.beq 0 with
    | false => rw [hc] at h; exact h.elim
    | true => rw [hc] at h; exact ⟨_, _, _, rfl, h⟩
   ·rename_i b o
    split at h
    case h_2 => exact h.elim
    rename_i l hb
    cases hc : sz.beq size with
    | false => rw [hc] at h; exact h.elim
    | true =>
     rw [hc, cond_true] at h
     dsimp only
     rw [hb]
     dsimp only
     have hrow : rowOf hp b o (sLen * size) = some (l.drop o) := by
      unfold rowOf
      rw [hb]
      dsimp only
      rw [Nat.ble_eq_true_of_le (Nat.le_of_eq h.1), cond_true]
      congr 1
      rw [List.take_of_length_le]
      rw [List.length_drop]
      omega
     rw [hrow]
     exact ⟨_, _, _, rfl, h.2⟩
   ·exact h.elim
def vheavy (P : Program) (vc : VCall) (hp : Tr AObj) (nx : Nat) (o : Oper) (ev : Operand → Option Value) (K : Value → Bool → Tr AObj → Nat → Prop) : Prop :=
 match o.op with
 | .store t x y => match ev x, ev y with
  | some p, some v => match sStore P hp t p v with
   | some (hp', ob) => ob ∧ K undef true hp' nx
   | none => False
  | _, _ => False
 | .next x q => match ev x with
  | some p => bif q then sNext hp p true fun v hp' => K v true hp' nx else sNextM hp p fun v hp' => K v true hp' nx
  | none => False
 | .mapUpdate t x y z | .insert t x y z => match ev x, ev y, ev z with
  | some m, some k, some v => match aUpdate P hp t m k v with
   | some hp' => K undef true hp' nx
   | none => False
  | _, _, _ => False
 | .call c => match c.callee with
  | .builtin .append => match evL ev c.args.toList with
   | some args => sAppend P hp nx c.argTypes args.toArray fun v hp' nx' => K v true hp' nx'
   | none => False
  | .value f => match ev f, evL ev c.args.toList with
   | some (.func (.func k) first captured), some args => bif enters P k then vc k (first.toList ++ args ++ captured.toList) hp nx K else (match sExt P c ev with
    | some (v, ob) => ob ∧ K v false hp nx
    | none => False)
   | _, _ => False
  | _ => False
 | _ => False
theorem vheavy_sound {P : Program} {vc : VCall} {ρ : Place} {W : Base} (hcall : VCallOk P vc) {hp : Tr AObj} {nx : Nat} {w : World} (h : Rel ρ W hp nx w) {ev : Operand → Option Value} {a : Act} (hF : ERel ρ ev a) {o : Oper} {K : Value → Bool → Tr AObj → Nat → Prop}
  (hs : vheavy P vc hp nx o ev K) {next : Act → World → Prop} {Q : Exit → Act → World → Prop}
  (hk : ∀ v c hp' nx' v' w' ρ', K v c hp' nx' → (c = false → hp' = hp) → VR ρ' v v' → Rel ρ' W hp' nx' w' → Step ρ ρ' hp hp' nx nx' → next (a.put o.dst v') w') : o.wp P a w next Q := by
 obtain ⟨dst, op, type, pos, after, guard⟩ := o
 unfold vheavy at hs
 unfold Oper.wp
 cases op <;> dsimp only at hs <;> try (exact hs.elim)
 case store t x y =>
  split at hs
  case h_2 => exact hs.elim
  rename_i p u hx hy
  split at hs
  case h_2 => exact hs.elim
  rename_i hq ob hst
  obtain ⟨w', h1, h2, h3⟩ := aStore_sound h (hF.eval hx) (hF.eval hy) (sStore_eq hst hs.1)
  have : (execOp a.eval ⟨dst, .store t x y, type, pos, after, guard⟩).run P w = .ok .skip w' := by
   show ((Instr.storeAt t (a.eval x) (a.eval y)) >>= fun _ => pure Next.skip).run P w = _
   rw [Sem.run_bind, h1, Result.andThen_ok]
   rfl
  rw [this]
  exact hk undef _ _ _ undef w' ρ hs.2 (fun e => by cases e) (closed_refl (by simp [undef, closed])) h2 h3
 case next x q =>
  split at hs
  case h_2 => exact hs.elim
  rename_i p hx
  have both : ∃ v hp' v' w', K v true hp' nx ∧ (Instr.next (a.eval x) q type).run P w = .ok v' w' ∧ VR ρ v v' ∧ Rel ρ W hp' nx w' ∧ Step ρ ρ hp hp' nx nx := by
   cases q with
   | true =>
    rw [cond_true] at hs
    obtain ⟨v, hp', hst, hK⟩ := sNext_eq hs
    obtain ⟨v', w', h1⟩ := aNext_sound (P := P) (t := type) h (hF.eval hx) hst
    exact ⟨v, hp', v', w', hK, h1⟩
   | false =>
    rw [cond_false] at hs
    exact sNextM_sound (P := P) (t := type) h (hF.eval hx) hs
  obtain ⟨v, hp', v', w', hK, h1, h2, h3, h4⟩ := both
  have : (execOp a.eval ⟨dst, .next x q, type, pos, after, guard⟩).run P w = .ok (.value v') w' := value_run h1
  rw [this]
  exact hk v _ _ _ v' w' ρ hK (fun e => by cases e) h2 h3 h4
 case mapUpdate t x y z =>
  split at hs
  case h_2 => exact hs.elim
  rename_i m k u hx hy hz
  split at hs
  case h_2 => exact hs.elim
  rename_i hq hst
  obtain ⟨w', h1, h2, h3⟩ := aUpdate_sound h (hF.eval hx) (hF.eval hy) (hF.eval hz) hst
  have : (execOp a.eval ⟨dst, .mapUpdate t x y z, type, pos, after, guard⟩).run P w = .ok .skip w' := by
   show ((Instr.mapUpdate t (a.eval x) (a.eval y) (a.eval z)) >>= fun _ => pure Next.skip).run P w = _
   rw [Sem.run_bind, h1, Result.andThen_ok]
   rfl
  rw [this]
  exact hk undef _ _ _ undef w' ρ hs (fun e => by cases e) (closed_refl (by simp [undef, closed])) h2 h3
 case insert t x y z =>
  split at hs
  case h_2 => exact hs.elim
  rename_i m k u hx hy hz
  split at hs
  case h_2 => exact hs.elim
  rename_i hq hst
  obtain ⟨w', h1, h2, h3⟩ := aUpdate_sound h (hF.eval hx) (hF.eval hy) (hF.eval hz) hst
  have : (execOp a.eval ⟨dst, .insert t x y z, type, pos, after, guard⟩).run P w = .ok .skip w' := by
   show ((Instr.mapUpdate t (a.eval x) (a.eval y) (a.eval z)) >>= fun _ => pure Next.skip).run P w = _
   rw [Sem.run_bind, h1, Result.andThen_ok]
   rfl
  rw [this]
  exact hk undef _ _ _ undef w' ρ hs (fun e => by cases e) (closed_refl (by simp [undef, closed])) h2 h3
 case call c =>
  obtain ⟨callee, args, argTypes⟩ := c
  dsimp only at hs
  split at hs
  ·split at hs
   case h_2 => exact hs.elim
   rename_i as0 has
   have hA := (evL_sound hF has).arr
   have e1 : (args.toList.map a.eval).toArray = args.map a.eval := by apply Array.ext'; simp
   rw [e1] at hA
   obtain ⟨v, hp', nx', hs', hK⟩ := sAppend_eq hs
   obtain ⟨v', w', ρ', h1, h2, h3, h4⟩ := aAppend_sound (P := P) (ty := type) h hA hs'
   have : (execOp a.eval ⟨dst, .call ⟨.builtin .append, args, argTypes⟩, type, pos, after, guard⟩).run P w = .ok (.value v') w' := by
    show ((Builtin.append_ argTypes type (args.map a.eval)) >>= fun r => pure (Next.value r)).run P w = _
    exact value_run h1
   rw [this]
   exact hk v _ _ _ v' w' ρ' hK (fun e => by cases e) h2 h3 h4
  ·rename_i f
   split at hs
   case h_2 => exact hs.elim
   rename_i k first captured as0 hf has
   cases he : enters P k with
   | false =>
    rw [he, cond_false] at hs
    split at hs
    case h_2 => exact hs.elim
    rename_i v ob hx
    obtain ⟨v', e, hv⟩ := sExt_sound (P := P) hF (o := ⟨dst, .call ⟨.value f, args, argTypes⟩, type, pos, after, guard⟩) rfl hx hs.1 w
    rw [e]
    exact hk v false _ _ v' w ρ hs.2 (fun _ => rfl) hv h (.refl _ _ _)
   | true =>
    rw [he, cond_true] at hs
    have hfv := hF.eval hf
    generalize hE : a.eval f = E at hfv
    cases hfv
    rename_i first' captured' s1 v1 s2 v2
    have hA := evL_sound hF has
    have hL := ((VRA.list ⟨s1, v1⟩).append hA).append (VRA.list ⟨s2, v2⟩)
    have hc := hcall k _ hp nx K hs W ρ w _ h hL
    have e2 : (first'.toList ++ args.toList.map a.eval ++ captured'.toList).toArray = first' ++ args.map a.eval ++ captured' := by apply Array.ext'; simp
    rw [e2] at hc
    have : (execOp a.eval ⟨dst, .call ⟨.value f, args, argTypes⟩, type, pos, after, guard⟩).run P w = .ok (.enter k (first' ++ args.map a.eval ++ captured')) w := by
     unfold execOp
     simp only [resolve, hE]
     show (callFunc k (first' ++ args.map a.eval ++ captured')).run P w = _
     exact pureRun_run (enters_run he _) w
    rw [this]
    refine hc.mono ?_
    rintro e w' ⟨v, c, hp', nx', v', ρ', hK, hc, rfl, h2, h3, h4⟩
    exact hk v c _ _ v' w' ρ' hK hc h2 h3 h4
  ·exact hs.elim
abbrev pt (n : Nat) : Value := .pointer (some ⟨n, 0, none⟩)
abbrev vi (n : Int) : Value := .int .i64 n
abbrev vs (s : ByteArray) : Value := .string s
abbrev vb (b : Bool) : Value := .bool b
abbrev e0 : ByteArray := ⟨#[]⟩
abbrev vz : Value := .string ⟨#[]⟩
abbrev nS : Value := .slice none 0 0
abbrev w64 (n : Int) : Int := IntKind.wrap IntKind.i64 n
abbrev T2 (X : Prop) : Prop := True ∧ True ∧ X
abbrev T4 (X : Prop) : Prop := T2 (T2 X)
abbrev T8 (X : Prop) : Prop := T4 (T4 X)
abbrev T16 (X : Prop) : Prop := T8 (T8 X)
abbrev T32 (X : Prop) : Prop := T16 (T16 X)
end Go.Proofs.YtojlhapbngcjkaaGreatDoor
noncomputable section
namespace Go.Proofs.YtojlhapbngcjkaaGreatDoor
open Go Go.RowKit
def vguard (ops : Array Oper) (tm : Tr Value) (o : Oper) (X Y : Prop) : Prop :=
 match o.guard with
 | none => X
 | some (j, want) => match (ops[j]?).bind (·.dst) with
  | none => Y
  | some d => match tm.get d with
   | some (.bool b) => Bool.rec (motive := fun _ => Prop) (pIf b Y X) (pIf b X Y) want
   | some _ => Y
   | none => False
theorem vguard_cases {ops : Array Oper} {tm : Tr Value} {o : Oper} {X Y : Prop} (h : vguard ops tm o X Y) : (awanted ops tm o = some true ∧ X) ∨ (awanted ops tm o = some false ∧ Y) := by
 unfold vguard at h
 unfold awanted
 cases hg : o.guard with
 | none => rw [hg] at h; exact .inl ⟨rfl, h⟩
 | some p =>
  obtain ⟨j, want⟩ := p
  rw [hg] at h
  dsimp only at h ⊢
  cases hd : (ops[j]?).bind (·.dst) with
  | none => rw [hd] at h; exact .inr ⟨rfl, h⟩
  | some d =>
   rw [hd] at h
   dsimp only at h ⊢
   cases hv : tm.get d with
   | none => rw [hv] at h; exact h.elim
   | some v =>
    rw [hv] at h
    cases v <;> try exact .inr ⟨rfl, h⟩
    rename_i b
    cases want <;> cases b <;> first | exact .inl ⟨rfl, h⟩ | exact .inr ⟨rfl, h⟩
def vstab (P : Program) (hp : Tr AObj) (ops : Array Oper) (r : Nat) : List Rd → Prop
 | [] => True
 | rd :: l => bif comesBefore ops rd.i r then vstab P hp ops r l else match slight P hp rd.o (aev rd.tm) with
  | some (.val v, ob) => (v = rd.v ∧ ob) ∧ vstab P hp ops r l
  | _ => False
theorem vstab_ok {P : Program} {hp : Tr AObj} {ops : Array Oper} {r : Nat} : ∀ {l : List Rd}, vstab P hp ops r l → ∀ rd ∈ l, comesBefore ops rd.i r = true ∨ LOk P hp rd.o (aev rd.tm) (.val rd.v)
 | [], _, rd, hm => by cases hm
 | x :: l, h, rd, hm => by
  simp only [vstab] at h
  cases hc : comesBefore ops x.i r with
  | true =>
   rw [hc, cond_true] at h
   rcases List.mem_cons.1 hm with rfl | hm
   ·exact .inl hc
   ·exact vstab_ok h rd hm
  | false =>
   rw [hc, cond_false] at h
   split at h
   case h_2 => exact h.elim
   rename_i v ob hv
   rcases List.mem_cons.1 hm with rfl | hm
   ·refine .inr (.inr ⟨ob, ?_, h.1.2⟩)
    rw [hv, h.1.1]
   ·exact vstab_ok h.2 rd hm
def vdraw (P : Program) (vc : VCall) (ops : Array Oper) (n : Nat) : Nat → Array Bool → AS → List Rd → (AS → Prop) → Prop
 | 0, listed, st, _, K => match Region.ready .any ops listed with
  | [] => K st
  | _ => False
 | f + 1, listed, st, rds, K => match Region.ready .any ops listed with
  | [] => K st
  | r :: rs => match (r :: rs).find? (lightIdx ops) with
   | some i => match ops[i]? with
    | some o => vguard ops st.tm o
      (match slight P st.hp o (aev st.tm) with
      | some (.val v, ob) => ob ∧ vsplit v fun v => match aput n st.tm o.dst v with
       | some tm' => vdraw P vc ops n f (listed.setIfInBounds i true) ⟨tm', st.hp, st.nx⟩ (bif isRead o (aev st.tm) then ⟨i, o, st.tm, v⟩ :: rds else rds) K
       | none => False
      | some (.new b nv, ob) => match aput n st.tm o.dst (nv.val st.nx) with
       | some tm' => bif isRead o (aev st.tm) then False else ob ∧ vdraw P vc ops n f (listed.setIfInBounds i true) ⟨tm', st.hp.put st.nx (some b), st.nx + 1⟩ rds K
       | none => False
      | none => False)
      (match aput n st.tm o.dst undef with
      | some tm' => vdraw P vc ops n f (listed.setIfInBounds i true) ⟨tm', st.hp, st.nx⟩ rds K
      | none => False)
    | none => False
   | none => match rs with
    | [] => match ops[r]? with
     | some o => vguard ops st.tm o
       (vheavy P vc st.hp st.nx o (aev st.tm) fun v c hp' nx' => vsplit v fun v => match aput n st.tm o.dst v with
        | some tm' => Bool.rec (motive := fun _ => Prop) True (vstab P hp' ops r rds) c ∧ vdraw P vc ops n f (listed.setIfInBounds r true) ⟨tm', hp', nx'⟩ rds K
        | none => False)
       (match aput n st.tm o.dst undef with
       | some tm' => vdraw P vc ops n f (listed.setIfInBounds r true) ⟨tm', st.hp, st.nx⟩ rds K
       | none => False)
     | none => False
    | _ => False
theorem vheavy_congr {P : Program} {vc : VCall} {hp : Tr AObj} {nx : Nat} {o : Oper} {ev ev' : Operand → Option Value} {K : Value → Bool → Tr AObj → Nat → Prop} (h : ∀ x ∈ o.op.operands, ev x = ev' x) : vheavy P vc hp nx o ev K = vheavy P vc hp nx o ev' K := by
 obtain ⟨dst, op, type, pos, after, guard⟩ := o
 unfold vheavy
 cases op <;> dsimp only
 case store t x y => rw [h x (by simp [Op.operands]), h y (by simp [Op.operands])]
 case next x q => rw [h x (by simp [Op.operands])]
 case mapUpdate t x y z => rw [h x (by simp [Op.operands]), h y (by simp [Op.operands]), h z (by simp [Op.operands])]
 case insert t x y z => rw [h x (by simp [Op.operands]), h y (by simp [Op.operands]), h z (by simp [Op.operands])]
 case call c =>
  obtain ⟨callee, args, argTypes⟩ := c
  dsimp only
  have hA : evL ev args.toList = evL ev' args.toList := evL_congr fun x hx => h x (by simp [Op.operands, Call.operands]; exact .inr (by simpa using hx))
  split
  ·rw [hA]
  ·rename_i f
   have hX : sExt P ⟨.value f, args, argTypes⟩ ev = sExt P ⟨.value f, args, argTypes⟩ ev' := sExt_congr fun x hx => h x (by simp [Op.operands, Call.operands, hx])
   rw [hA, h f (by simp [Op.operands, Call.operands]), hX]
  ·rfl
section
variable {P : Program} {W : Base} {ops : Array Oper} {n : Nat} {st0 : AS} {ρ0 : Place} {Q : Exit → Act → World → Prop}
theorem vdraw_main {vc : VCall} (hcall : VCallOk P vc) (hD : drawOk ops = true) {K : AS → Prop} (hQ : ∀ st, K st → ∀ a' w' ρ', SRel ρ' W n st a' w' → Step ρ0 ρ' st0.hp st.hp st0.nx st.nx → Q .normal a' w') :
  ∀ (m f : Nat) (C : Array Bool) (st : AS) (rds : List Rd) (I : Info) (L : Array Bool) (a : Act) (w : World) (ρ : Place), unl ops L ≤ m → Inv P W ops n st0 ρ0 C st rds I L a w ρ → vdraw P vc ops n f C st rds K → wpAny P .any ops Q m L a w := by
 intro m
 induction m with
 | zero =>
  intro f C st rds I L a w ρ hm h hs
  have hr : Region.ready .any ops L = [] := by
   have hnil : ((List.range ops.size).filter fun i => !L.getD i true) = [] := List.eq_nil_of_length_eq_zero (Nat.le_zero.1 hm)
   apply List.eq_nil_iff_forall_not_mem.2
   intro j hj
   obtain ⟨h1, o, h2, h3⟩ := mem_ready.1 hj
   have : j ∈ ((List.range ops.size).filter fun i => !L.getD i true) := by
    simp only [List.mem_filter, List.mem_range]
    exact ⟨(Array.getElem?_eq_some_iff.1 h2).1, by rw [h1]; rfl⟩
   rw [hnil] at this
   cases this
  have hall := h.all hD hr
  have hallI : ∀ i, i < ops.size → In L i := fun i hi => Classical.byContradiction fun hn => by
   have : i ∈ ((List.range ops.size).filter fun i => !L.getD i true) := by
    simp only [List.mem_filter, List.mem_range]
    exact ⟨hi, by rw [unlisted_of (by rw [h.ls]; exact hi) hn]; rfl⟩
   rw [List.eq_nil_of_length_eq_zero (Nat.le_zero.1 hm)] at this
   cases this
  have hrC : Region.ready .any ops C = [] := by
   apply List.eq_nil_iff_forall_not_mem.2
   intro j hj
   obtain ⟨h1, o, h2, h3⟩ := mem_ready.1 hj
   exact (unlisted h1).2 (h.sub j (hallI j (Array.getElem?_eq_some_iff.1 h2).1))
  have hst : K st := by
   cases f with
   | zero => simp only [vdraw, hrC] at hs; exact hs
   | succ f => simp only [vdraw, hrC] at hs; exact hs
  exact ⟨hr, hQ st hst a w ρ (h.done hall) h.step⟩
 | succ m ihm =>
  intro f
  induction f with
  | zero =>
   intro C st rds I L a w ρ hm h hs
   have hs0 := hs
   simp only [vdraw] at hs
   split at hs
   case h_2 => exact hs.elim
   rename_i hrC
   refine ⟨fun hr => hQ st hs a w ρ (h.done (h.all hD hr)) h.step, fun j hj => ?_⟩
   obtain ⟨h1, h2, h3, o, h4, h5⟩ := ready_in h.cs h.sub hj
   rw [hrC] at h1
   have hjC := h1.resolve_right (by simp)
   refine wpOp_mono ?_ (h.run hD h4 hjC h2 h5)
   rintro a' w' ⟨ρ', h'⟩
   refine ihm 0 C _ rds I _ a' w' ρ' ?_ h' hs0
   have := unl_set (ops := ops) (L := L) h3 h.ls (mem_ready.1 hj).1
   omega
  | succ f ihf =>
   intro C st rds I L a w ρ hm h hs
   have pending : ∀ j, j ∈ Region.ready .any ops L → In C j → ∀ o, ops[j]? = some o → (∀ e ∈ o.after, Region.binds .any e = true → In L e.on) → wpOp P ops Q j (wpAny P .any ops Q m (L.setIfInBounds j true)) a w := by
    intro j hj hjC o ho hall
    refine wpOp_mono ?_ (h.run hD ho hjC (unlisted (mem_ready.1 hj).1).2 hall)
    rintro a' w' ⟨ρ', h'⟩
    refine ihm (f + 1) C st rds I _ a' w' ρ' ?_ h' hs
    have := unl_set (ops := ops) (L := L) (Array.getElem?_eq_some_iff.1 ho).1 h.ls (mem_ready.1 hj).1
    omega
   have hs0 := hs
   simp only [vdraw] at hs
   split at hs
   ·rename_i hrC
    refine ⟨fun hr => hQ st hs a w ρ (h.done (h.all hD hr)) h.step, fun j hj => ?_⟩
    obtain ⟨h1, h2, h3, o, h4, h5⟩ := ready_in h.cs h.sub hj
    rw [hrC] at h1
    exact pending j hj (h1.resolve_right (by simp)) o h4 h5
   ·rename_i r rs hrC
    split at hs
    ·rename_i i hf
     have him : i ∈ Region.ready .any ops C := by rw [hrC]; exact List.mem_of_find?_eq_some hf
     have hil := List.find?_some hf
     obtain ⟨g1, o, g2, g3⟩ := mem_ready.1 him
     have hnC := (unlisted g1).2
     have hh : isHeavy o.op = false := by
      unfold lightIdx at hil
      rw [g2] at hil
      simpa using hil
     rw [g2] at hs
     dsimp only at hs
     rcases vguard_cases hs with ⟨hw, hs⟩ | ⟨hw, hs⟩
     ·split at hs
      ·rename_i v ob hv
       obtain ⟨hob, hs⟩ := hs
       replace hs := vsplit_ap hs
       split at hs
       case h_2 => exact hs.elim
       rename_i tm' ht
       refine ihf _ ⟨tm', st.hp, st.nx⟩ _ (I.set i st.tm v none) L a w ρ hm (h.absorb hD g2 hnC g3 hh (st' := ⟨tm', st.hp, st.nx⟩) (v := v) (B := none) ht h.rel (fun _ _ h => h) (Nat.le_refl _) h.step (fun b hb => by cases hb) (fun I' e1 e2 e3 => .inr (.inl ⟨by rw [e1]; exact hw, .inr ⟨ob, by rw [e1, e2]; exact hv, hob⟩, e3⟩)) ?_ ?_) hs
       ·intro x hx
        cases isRead o (aev st.tm) <;> simp [hx]
       ·intro _ hrd
        rw [hrd]
        simp
      ·rename_i ob nv obp hv
       split at hs
       case h_2 => exact hs.elim
       rename_i tm' ht
       cases hrd : isRead o (aev st.tm) with
       | true => rw [hrd] at hs; exact hs.elim
       | false =>
        rw [hrd, cond_false] at hs
        obtain ⟨hob, hs⟩ := hs
        refine ihf _ ⟨tm', st.hp.put st.nx (some ob), st.nx + 1⟩ _ (I.set i st.tm (nv.val st.nx) (some st.nx)) L a w ρ hm (h.absorb hD g2 hnC g3 hh (st' := ⟨tm', st.hp.put st.nx (some ob), st.nx + 1⟩) (v := nv.val st.nx) (B := some st.nx) ht (h.rel.reserve ob) ?_ (Nat.le_succ _) ?_ (fun b hb => by cases hb; exact Nat.le_refl _) (fun I' e1 e2 e3 => ?_) (fun _ h => h) (fun _ h' => by rw [hrd] at h'; cases h')) hs
        ·intro b x hb
         have : b ≠ st.nx := fun e => by rw [e, h.rel.fresh _ (Nat.le_refl _)] at hb; cases hb
         rw [Tr.get_put, if_neg this]
         exact hb
        ·exact ⟨h.step.le, Nat.le_succ_of_le h.step.more, fun b hb hr => by
          have := h.step.old b hb hr
          refine ⟨this.1, ?_⟩
          rw [Tr.get_put, if_neg (by have := h.step.more; omega)]
          exact this.2⟩
        ·refine .inr (.inr ⟨by rw [e1]; exact hw, by rw [e1]; exact hrd, ob, nv, st.nx, ?_, e2, e3, by simp, h.step.more, h.rel.dom_none, by rw [Tr.get_put, if_pos rfl]⟩)
         rw [e1]
         exact LOk.still (hp := st.hp) hrd (.inr ⟨obp, hv, hob⟩)
      ·exact hs.elim
     ·split at hs
      case h_2 => exact hs.elim
      rename_i tm' ht
      exact ihf _ ⟨tm', st.hp, st.nx⟩ _ (I.set i st.tm undef none) L a w ρ hm (h.absorb hD g2 hnC g3 hh (st' := ⟨tm', st.hp, st.nx⟩) (v := undef) (B := none) ht h.rel (fun _ _ h => h) (Nat.le_refl _) h.step (fun b hb => by cases hb) (fun I' e1 e2 e3 => .inl ⟨by rw [e1]; exact hw, e2, e3⟩) (fun _ h => h) (fun h' => by rw [hw] at h'; cases h')) hs
    ·split at hs
     case h_2 => exact hs.elim
     split at hs
     case h_2 => exact hs.elim
     rename_i o ho
     have hrm : r ∈ Region.ready .any ops C := by rw [hrC]; simp
     obtain ⟨g1, o', g2, g3⟩ := mem_ready.1 hrm
     rw [ho] at g2
     cases g2
     have hnC := (unlisted g1).2
     refine ⟨fun hr => ?_, fun j hj => ?_⟩
     ·exfalso
      have hall := h.all hD hr
      have : r ∈ Region.ready .any ops L := mem_ready.2 ⟨unlisted_of (by rw [h.ls]; exact (Array.getElem?_eq_some_iff.1 ho).1) (fun h' => hnC (h.sub r h')), o, ho, fun e he hb => hall _ (g3 e he hb)⟩
      rw [hr] at this
      cases this
     ·obtain ⟨h1, h2, h3, oj, h4, h5⟩ := ready_in h.cs h.sub hj
      rcases h1 with h1 | h1
      ·exact pending j hj h1 oj h4 h5
      ·rw [hrC] at h1
       have hjr : j = r := by simpa using h1
       subst hjr
       rw [ho] at h4
       cases h4
       have hlk := h.heavyLook hD ho hnC g3 h5
       obtain ⟨ev', he1, he2⟩ := erel_of_looks hlk
       have fin : ∀ (st' : AS) (a' : Act) (w' : World), (∃ ρ' I', Inv P W ops n st0 ρ0 (C.setIfInBounds j true) st' rds I' (L.setIfInBounds j true) a' w' ρ') → vdraw P vc ops n f (C.setIfInBounds j true) st' rds K → wpAny P .any ops Q m (L.setIfInBounds j true) a' w' := by
        rintro st' a' w' ⟨ρ', I', h'⟩ hs'
        refine ihm f _ st' rds I' _ a' w' ρ' ?_ h' hs'
        have := unl_set (ops := ops) (L := L) h3 h.ls (mem_ready.1 hj).1
        omega
       unfold wpOp
       simp only [ho]
       rcases vguard_cases hs with ⟨hw, hs⟩ | ⟨hw, hs⟩
       ·rw [awanted_sound' h.size hlk hw, if_pos rfl]
        rw [vheavy_congr he2] at hs
        refine .inl (vheavy_sound hcall h.rel he1 hs fun v c hp' nx' v' w' ρ' hK hch q1 q2 q3 => ?_)
        replace hK := vsplit_ap hK
        split at hK
        case h_2 => exact hK.elim
        rename_i tm' ht
        exact fin ⟨tm', hp', nx'⟩ _ _ (h.heavyFin hD ho hnC g3 h5 (st' := ⟨tm', hp', nx'⟩) (by
         cases c with
         | false => exact .inl (hch rfl)
         | true => exact .inr (vstab_ok hK.1)) v v' w' ρ' ht q1 q2 q3) hK.2
       ·rw [awanted_sound' h.size hlk hw, if_neg (by simp)]
        split at hs
        case h_2 => exact hs.elim
        rename_i tm' ht
        exact fin ⟨tm', st.hp, st.nx⟩ _ _ (h.heavyFin hD ho hnC g3 h5 (st' := ⟨tm', st.hp, st.nx⟩) (.inl rfl) undef undef w ρ ht (closed_refl (by simp [undef, closed])) h.rel (.refl _ _ _)) hs
end
end Go.Proofs.YtojlhapbngcjkaaGreatDoor

noncomputable section
namespace Go.Proofs.YtojlhapbngcjkaaGreatDoor
open Go Go.RowKit
set_option maxRecDepth 100000
set_option maxHeartbeats 8000000
def leafN : Value → Bool
 | .bool _ | .int _ _ | .string _ => true
 | .func (.via _ _ _ _) _ _ => true
 | _ => false
theorem leafN_sound {ρ : Place} {v v' : Value} (h : leafN v = true) (hv : VR ρ v v') : VR0 ρ.fr v v' := by
 cases hv <;> first | cases h | skip
 case bool b => exact .bool b
 case int k n => exact .int k n
 case string s => exact .string s
 case tree h1 h2 h3 h4 h5 h6 => exact .tree h1 h2 h3 h4 h5 h6
 case treeNil => exact .treeNil _ _ _
 case treeAt h1 h2 h3 h4 => exact .treeAt h1 h2 h3 h4
def nl1 : Value → Bool
 | .bool _ | .int _ _ | .float _ _ | .complex _ _ _ | .string _ | .pointer none | .slice none _ _ | .map none | .chan none | .nilFunc | .nilIface => true
 | .func (.func _) f c => f.all leafN && c.isEmpty
 | .func (.via _ _ _ _) _ _ => true
 | .iface _ v => flat v
 | _ => false
def nl : Value → Bool
 | .agg c => c.all nl1
 | v => nl1 v
def NLs (l : List Value) : Prop := ∀ v ∈ l, nl1 v = true
theorem flat_VR0 {ρ : Place} {v v' : Value} (h : flat v = true) (hv : VR ρ v v') : VR0 ρ.fr v v' := by
 have e := flat_eq h hv
 subst e
 cases v' with
 | bool b => exact .bool b
 | int k n => exact .int k n
 | float k n => exact .float k n
 | complex k n m => exact .complex k n m
 | string s => exact .string s
 | pointer a => cases a with
  | none => exact .nilPtr
  | some a => cases h
 | slice a n c => cases a with
  | none => exact .nilSlice n c
  | some a => cases h
 | map r => cases r with
  | none => exact .nilMap
  | some r => cases h
 | chan r => cases r with
  | none => exact .nilChan
  | some r => cases h
 | func fn f c =>
  cases fn <;> try (cases h)
  simp [flat] at h
  obtain ⟨rfl, rfl⟩ := h
  exact .func _ rfl (by simp) rfl (by simp)
 | nilFunc => exact .nilFunc
 | nilIface => exact .nilIface
 | iface t v => cases h
 | agg c => cases h
 | tuple c => cases h
theorem nl1_sound {ρ : Place} {v v' : Value} (h : nl1 v = true) (hv : VR ρ v v') : VR0 ρ.fr v v' := by
 by_cases hf : flat v = true
 ·exact flat_VR0 hf hv
 ·cases v <;> try (first | exact absurd rfl hf | cases h)
  case func fn f c =>
   cases fn <;> try (cases h)
   case func k =>
    simp only [nl1, Bool.and_eq_true] at h
    cases hv with
    | func _ hs hv1 hs2 hv2 =>
     refine .func k hs (fun i v v' a b => leafN_sound (all_get h.1 a) (hv1 i v v' a b)) hs2 fun i v v' a b => ?_
     have hc := Array.isEmpty_iff.1 h.2
     subst hc
     simp at a
   case via t p n q =>
    cases hv with
    | tree h1 h2 h3 h4 h5 h6 => exact .tree h1 h2 h3 h4 h5 h6
    | treeNil => exact .treeNil _ _ _
    | treeAt h1 h2 h3 h4 => exact .treeAt h1 h2 h3 h4
  case iface t u =>
   cases hv with
   | iface _ hu => exact .iface t (flat_VR0 h hu)
  case pointer a => cases a <;> first | exact absurd rfl hf | cases h
  case slice a n c => cases a <;> first | exact absurd rfl hf | cases h
  case map a => cases a <;> first | exact absurd rfl hf | cases h
  case chan a => cases a <;> first | exact absurd rfl hf | cases h
theorem nl_sound {ρ : Place} {v v' : Value} (h : nl v = true) (hv : VR ρ v v') : VR0 ρ.fr v v' := by
 cases v <;> try exact nl1_sound h hv
 case agg c =>
  cases hv with
  | agg hs hc => exact .agg hs fun i v v' a b => nl1_sound (all_get h a) (hc i v v' a b)
def idx (b : Nat) : List (Nat × Bool) → Nat → Option Nat
 | [], _ => none
 | x :: l, i => bif x.1.beq b then some i else idx b l (i + 1)
theorem idx_get {b : Nat} : ∀ {l : List (Nat × Bool)} {i j : Nat}, idx b l i = some j → i ≤ j ∧ ∃ k, l[j - i]? = some (b, k)
 | [], i, j, h => by simp [idx] at h
 | x :: l, i, j, h => by
  simp only [idx] at h
  cases hx : x.1.beq b with
  | true =>
   rw [hx] at h
   cases h
   have := Nat.eq_of_beq_eq_true hx
   exact ⟨Nat.le_refl _, x.2, by simp [← this]⟩
  | false =>
   rw [hx, cond_false] at h
   obtain ⟨h1, k, h2⟩ := idx_get h
   refine ⟨by omega, k, ?_⟩
   rw [show j - i = (j - (i + 1)) + 1 by omega]
   simpa using h2
def ren0 (bl : List (Nat × Bool)) : Value → Option Value
 | .pointer (some ⟨b, o, none⟩) => match idx b bl 0 with
  | some i => some (.pointer (some ⟨i, o, none⟩))
  | none => none
 | .slice (some ⟨b, o, none⟩) n sz => match idx b bl 0 with
  | some i => some (.slice (some ⟨i, o, none⟩) n sz)
  | none => none
 | .iface t (.pointer (some ⟨b, o, none⟩)) => match idx b bl 0 with
  | some i => some (.iface t (.pointer (some ⟨i, o, none⟩)))
  | none => none
 | .map (some b) => match idx b bl 0 with
  | some i => some (.map (some i))
  | none => none
 | v => bif nl1 v then some v else none
def mapO (f : Value → Option Value) : List Value → Option (List Value)
 | [] => some []
 | v :: l => match f v, mapO f l with
  | some u, some m => some (u :: m)
  | _, _ => none
def ren1 (bl : List (Nat × Bool)) : Value → Option Value
 | .func (.func k) f c => match mapO (ren0 bl) f.toList, mapO (ren0 bl) c.toList with
  | some f', some c' => some (.func (.func k) f'.toArray c'.toArray)
  | _, _ => none
 | v => ren0 bl v
def ren (bl : List (Nat × Bool)) : Value → Option Value
 | .agg c => match mapO (ren1 bl) c.toList with
  | some c' => some (.agg c'.toArray)
  | none => none
 | v => ren1 bl v
def Place.via (ρ : Place) (bl : List (Nat × Bool)) : Place := ⟨fun i => match bl[i]? with | some p => ρ.pl p.1 | none => none, ρ.fr, ρ.gl⟩
theorem via_at {ρ : Place} {bl : List (Nat × Bool)} {b i : Nat} (h : idx b bl 0 = some i) : (ρ.via bl).pl i = ρ.pl b := by
 obtain ⟨_, k, hk⟩ := idx_get h
 unfold Place.via
 simp at hk
 simp [hk]
theorem ren0_sound {ρ : Place} {bl : List (Nat × Bool)} {v u v' : Value} (h : ren0 bl v = some u) (hv : VR ρ v v') : VR (ρ.via bl) u v' := by
 have base : (bif nl1 v then some v else none) = some u → VR (ρ.via bl) u v' := fun hb => by
  cases hn : nl1 v with
  | false => rw [hn] at hb; cases hb
  | true =>
   rw [hn] at hb
   cases hb
   have h0 : VR0 ρ.fr v v' := nl1_sound hn hv
   exact VR0.lift (ρ := ρ.via bl) h0
 cases v <;> try exact base (by exact h)
 case pointer a =>
  cases a with
  | none => exact base h
  | some a =>
   obtain ⟨b, o, s⟩ := a
   cases s with
   | some s => exact base h
   | none =>
    simp only [ren0] at h
    split at h
    ·rename_i i hi
     cases h
     cases hv with
     | ptr hb => exact .ptr (by rw [via_at hi]; exact hb)
    ·cases h
 case slice a n sz =>
  cases a with
  | none => exact base h
  | some a =>
   obtain ⟨b, o, s⟩ := a
   cases s with
   | some s => exact base h
   | none =>
    simp only [ren0] at h
    split at h
    ·rename_i i hi
     cases h
     cases hv with
     | slice hb h1 h2 => exact .slice (by rw [via_at hi]; exact hb) h1 h2
     | emptySlice a' hb => exact .emptySlice a' (by rw [via_at hi]; exact hb)
    ·cases h
 case map r =>
  cases r with
  | none => exact base h
  | some b =>
   simp only [ren0] at h
   split at h
   ·rename_i i hi
    cases h
    cases hv with
    | map hb => exact .map (by rw [via_at hi]; exact hb)
   ·cases h
 case iface t x =>
  cases x <;> try exact base (by exact h)
  rename_i a
  cases a with
  | none => exact base h
  | some a =>
   obtain ⟨b, o, s⟩ := a
   cases s with
   | some s => exact base h
   | none =>
    simp only [ren0] at h
    split at h
    ·rename_i i hi
     cases h
     cases hv with
     | iface _ hv => cases hv with
      | ptr hb => exact .iface t (.ptr (by rw [via_at hi]; exact hb))
    ·cases h
theorem mapO_sound {ρ ρ' : Place} {f : Value → Option Value} (hf : ∀ v u v', f v = some u → VR ρ v v' → VR ρ' u v') : ∀ {l m l' : List Value}, mapO f l = some m → VRL ρ l l' → VRL ρ' m l'
 | [], m, l', h, hl => by simp only [mapO] at h; cases h; cases hl; exact .nil
 | v :: l, m, l', h, hl => by
  simp only [mapO] at h
  split at h
  case h_2 => cases h
  rename_i u m' h1 h2
  cases h
  cases hl with
  | cons hv hl => exact .cons (hf v u _ h1 hv) (mapO_sound hf h2 hl)
theorem VRL.toVRA {ρ : Place} {l : List Value} {c' : Array Value} (h : VRL ρ l c'.toList) : VRA ρ l.toArray c' := by
 have := h.arr
 simpa using this
theorem ren1_sound {ρ : Place} {bl : List (Nat × Bool)} {v u v' : Value} (h : ren1 bl v = some u) (hv : VR ρ v v') : VR (ρ.via bl) u v' := by
 cases v <;> try exact ren0_sound (by exact h) hv
 case func fn f c =>
  cases fn <;> try exact ren0_sound (by exact h) hv
  simp only [ren1] at h
  split at h
  case h_2 => cases h
  rename_i f' c' h1 h2
  cases h
  cases hv with
  | func _ s1 r1 s2 r2 =>
   have g1 := (mapO_sound (fun _ _ _ => ren0_sound) h1 (VRA.list ⟨s1, r1⟩)).toVRA
   have g2 := (mapO_sound (fun _ _ _ => ren0_sound) h2 (VRA.list ⟨s2, r2⟩)).toVRA
   exact .func _ g1.1 g1.2 g2.1 g2.2
theorem ren_sound {ρ : Place} {bl : List (Nat × Bool)} {v u v' : Value} (h : ren bl v = some u) (hv : VR ρ v v') : VR (ρ.via bl) u v' := by
 cases v <;> try exact ren1_sound (by exact h) hv
 case agg c =>
  simp only [ren] at h
  split at h
  case h_2 => cases h
  rename_i c' h1
  cases h
  cases hv with
  | agg s r =>
   have g := (mapO_sound (fun _ _ _ => ren1_sound) h1 (VRA.list ⟨s, r⟩)).toVRA
   exact .agg g.1 g.2
def memB (b : Nat) : List (Nat × Bool) → Bool
 | [] => false
 | x :: l => bif x.1.beq b then true else memB b l
def addB (b : Nat) (k : Bool) (l : List (Nat × Bool)) : List (Nat × Bool) := bif memB b l then l else l ++ [(b, k)]
def scan0 (l : List (Nat × Bool)) : Value → List (Nat × Bool)
 | .pointer (some a) => addB a.block true l
 | .slice (some a) _ _ => addB a.block false l
 | .iface _ (.pointer (some a)) => addB a.block true l
 | .map (some b) => addB b false l
 | _ => l
def scan1 (l : List (Nat × Bool)) : Value → List (Nat × Bool)
 | .func (.func _) f c => c.toList.foldl scan0 (f.toList.foldl scan0 l)
 | v => scan0 l v
def scan (l : List (Nat × Bool)) : Value → List (Nat × Bool)
 | .agg c => c.toList.foldl scan1 l
 | v => scan1 l v
def scanB (hp : Tr AObj) : Nat → Nat → List (Nat × Bool) → List (Nat × Bool)
 | 0, _, l => l
 | f + 1, i, l => match l[i]? with
  | none => l
  | some (b, k) => scanB hp f (i + 1) (bif k then match hp.get b with | some (.cells c _) => c.foldl scan1 l | _ => l else l)
def nodupB : List (Nat × Bool) → Bool
 | [] => true
 | x :: l => bif memB x.1 l then false else nodupB l
def baseB : Nat → Nat → List (Nat × Bool) → Bool
 | 0, _, _ => true
 | _ + 1, _, [] => false
 | n + 1, i, x :: l => bif x.1.beq i then baseB n (i + 1) l else false
theorem memB_of {b : Nat} : ∀ {l : List (Nat × Bool)} {i : Nat} {k : Bool}, l[i]? = some (b, k) → memB b l = true
 | [], i, k, h => by simp at h
 | x :: l, 0, k, h => by simp at h; subst h; simp [memB]
 | x :: l, i + 1, k, h => by
  simp only [memB]
  cases x.1.beq b with
  | true => rfl
  | false => rw [cond_false]; exact memB_of (l := l) (i := i) (k := k) (by simpa using h)
theorem nodupB_inj : ∀ {l : List (Nat × Bool)}, nodupB l = true → ∀ {i j : Nat} {b : Nat} {k k' : Bool}, l[i]? = some (b, k) → l[j]? = some (b, k') → i = j
 | [], _, i, j, b, k, k', h, _ => by simp at h
 | x :: l, hn, i, j, b, k, k', h1, h2 => by
  simp only [nodupB] at hn
  cases hm : memB x.1 l with
  | true => rw [hm] at hn; cases hn
  | false =>
   rw [hm, cond_false] at hn
   cases i with
   | zero =>
    cases j with
    | zero => rfl
    | succ j =>
     simp at h1 h2
     subst h1
     rw [memB_of h2] at hm
     cases hm
   | succ i =>
    cases j with
    | zero =>
     simp at h1 h2
     subst h2
     rw [memB_of h1] at hm
     cases hm
    | succ j =>
     have := nodupB_inj hn (by simpa using h1) (by simpa using h2)
     omega
theorem baseB_get : ∀ {n i : Nat} {l : List (Nat × Bool)}, baseB n i l = true → ∀ j, j < n → ∃ k, l[j]? = some (i + j, k)
 | 0, i, l, _, j, hj => by omega
 | n + 1, i, [], h, j, hj => by simp [baseB] at h
 | n + 1, i, x :: l, h, j, hj => by
  simp only [baseB] at h
  cases hx : x.1.beq i with
  | false => rw [hx] at h; cases h
  | true =>
   rw [hx, cond_true] at h
   have := Nat.eq_of_beq_eq_true hx
   cases j with
   | zero => exact ⟨x.2, by simp [← this]⟩
   | succ j =>
    obtain ⟨k, hk⟩ := baseB_get h j (by omega)
    exact ⟨k, by rw [show i + (j + 1) = i + 1 + j by omega]; simpa using hk⟩
def renObj (bl : List (Nat × Bool)) (k : Bool) : AObj → Option (AObj × Prop)
 | .cells l wr => match k with
  | true => match mapO (ren1 bl) l with
   | some m => some (.cells m wr, True)
   | none => none
  | false => some (.cells l wr, NLs l)
 | .iter s p => some (.iter s p, True)
 | .map es ck => some (.map es ck, ∀ e ∈ es, nl1 e.2.1 = true)
 | .miter none a b l => some (.miter none a b l, True)
 | .miter (some _) _ _ _ => none
def renObjs (bl : List (Nat × Bool)) (hp : Tr AObj) : List (Nat × Bool) → Option (List (Option AObj) × Prop)
 | [] => some ([], True)
 | (b, k) :: l => match renObjs bl hp l with
  | some (os, ob) => match hp.get b with
   | some o => match renObj bl k o with
    | some (o', ob') => some (some o' :: os, ob' ∧ ob)
    | none => none
   | none => some (none :: os, ob)
  | none => none
def putObjs : Nat → List (Option AObj) → Tr AObj → Tr AObj
 | _, [], t => t
 | i, o :: l, t => putObjs (i + 1) l (t.put i o)
theorem putObjs_get : ∀ (l : List (Option AObj)) (i : Nat) (t : Tr AObj) (j : Nat), (putObjs i l t).get j = if i ≤ j ∧ j < i + l.length then (l[j - i]?).join else t.get j
 | [], i, t, j => by simp [putObjs]; omega
 | o :: l, i, t, j => by
  simp only [putObjs, putObjs_get l, Tr.get_put, List.length_cons]
  by_cases h : j = i
  ·subst h
   rw [if_neg (by omega), if_pos rfl, if_pos (by omega)]
   simp
  ·by_cases h2 : i + 1 ≤ j ∧ j < i + 1 + l.length
   ·rw [if_pos h2, if_pos (by omega), show j - i = (j - (i + 1)) + 1 by omega]; simp
   ·rw [if_neg h2, if_neg h, if_neg (by omega)]
def renTms (bl : List (Nat × Bool)) (tm : Tr Value) : List Nat → Option (Tr Value)
 | [] => some .e
 | t :: l => match renTms bl tm l with
  | some r => match tm.get t with
   | some v => match ren bl v with
    | some u => some (r.put t (some u))
    | none => none
   | none => some r
  | none => none
def scanTms (tm : Tr Value) : List Nat → List (Nat × Bool) → List (Nat × Bool)
 | [], l => l
 | t :: ts, l => scanTms tm ts (match tm.get t with | some v => scan l v | none => l)
def baseL : Nat → List Bool → List (Nat × Bool)
 | _, [] => []
 | i, k :: l => (i, k) :: baseL (i + 1) l
def canon (base : List Bool) (ts : List Nat) (st : AS) : Option (AS × Prop) :=
 let bl := scanB st.hp 60 0 (scanTms st.tm ts (baseL 0 base))
 bif nodupB bl && baseB base.length 0 bl then match renTms bl st.tm ts, renObjs bl st.hp bl with
  | some tm, some (os, ob) => some (⟨tm, putObjs 0 os .e, bl.length⟩, ob)
  | _, _ => none
 else none
theorem renTms_get {bl : List (Nat × Bool)} {tm : Tr Value} : ∀ {ts : List Nat} {r : Tr Value}, renTms bl tm ts = some r → ∀ t u, r.get t = some u → ∃ v, tm.get t = some v ∧ ren bl v = some u
 | [], r, h, t, u, hu => by simp only [renTms] at h; cases h; simp [Tr.get_e] at hu
 | x :: l, r, h, t, u, hu => by
  simp only [renTms] at h
  split at h
  case h_2 => cases h
  rename_i r0 h0
  split at h
  ·rename_i v hv
   split at h
   case h_2 => cases h
   rename_i u0 hu0
   cases h
   rw [Tr.get_put] at hu
   split at hu
   ·rename_i e
    cases hu
    exact ⟨v, by rw [e]; exact hv, hu0⟩
   ·exact renTms_get h0 t u hu
  ·cases h
   exact renTms_get h0 t u hu
theorem renObjs_len {bl : List (Nat × Bool)} {hp : Tr AObj} : ∀ {l : List (Nat × Bool)} {os : List (Option AObj)} {ob : Prop}, renObjs bl hp l = some (os, ob) → os.length = l.length
 | [], os, ob, h => by simp only [renObjs] at h; cases h; rfl
 | (b, k) :: l, os, ob, h => by
  simp only [renObjs] at h
  split at h
  case h_2 => cases h
  rename_i os0 ob0 h0
  have := renObjs_len h0
  split at h
  ·split at h
   ·cases h; simp [this]
   ·cases h
  ·cases h; simp [this]
theorem renObjs_get {bl : List (Nat × Bool)} {hp : Tr AObj} : ∀ {l : List (Nat × Bool)} {os : List (Option AObj)} {ob : Prop}, renObjs bl hp l = some (os, ob) → ob → ∀ (i : Nat) (o : AObj), os[i]? = some (some o) → ∃ b k o0 ob0, l[i]? = some (b, k) ∧ hp.get b = some o0 ∧ renObj bl k o0 = some (o, ob0) ∧ ob0
 | [], os, ob, h, _, i, o, ho => by simp only [renObjs] at h; cases h; simp at ho
 | (b, k) :: l, os, ob, h, hob, i, o, ho => by
  simp only [renObjs] at h
  split at h
  case h_2 => cases h
  rename_i os0 ob0 h0
  split at h
  ·rename_i o0 hg
   split at h
   case h_2 => cases h
   rename_i o1 ob1 h1
   cases h
   cases i with
   | zero =>
    simp at ho
    subst ho
    exact ⟨b, k, o0, ob1, rfl, hg, h1, hob.1⟩
   | succ i => simpa using renObjs_get h0 hob.2 i o (by simpa using ho)
  ·cases h
   cases i with
   | zero => simp at ho
   | succ i => simpa using renObjs_get h0 hob i o (by simpa using ho)
theorem renObj_wr {bl : List (Nat × Bool)} {k : Bool} {o o' : AObj} {ob : Prop} (h : renObj bl k o = some (o', ob)) : o'.wr = o.wr := by
 cases o with
 | cells l wr =>
  cases k with
  | true =>
   simp only [renObj] at h
   split at h
   ·cases h; rfl
   ·cases h
  | false => simp only [renObj] at h; cases h; rfl
 | iter s p => simp only [renObj] at h; cases h; rfl
 | map es ck => simp only [renObj] at h; cases h; rfl
 | miter m a b l => cases m with
  | none => simp only [renObj] at h; cases h; rfl
  | some b => simp only [renObj] at h; cases h
theorem mapO_get {f : Value → Option Value} : ∀ {l m : List Value}, mapO f l = some m → m.length = l.length ∧ ∀ (i : Nat) (u : Value), m[i]? = some u → ∃ v, l[i]? = some v ∧ f v = some u
 | [], m, h => by simp only [mapO] at h; cases h; exact ⟨rfl, fun i u hu => by simp at hu⟩
 | v :: l, m, h => by
  simp only [mapO] at h
  split at h
  case h_2 => cases h
  rename_i u m' h1 h2
  cases h
  obtain ⟨g1, g2⟩ := mapO_get h2
  refine ⟨by simp [g1], fun i x hx => ?_⟩
  cases i with
  | zero => simp at hx; subst hx; exact ⟨v, rfl, h1⟩
  | succ i => simpa using g2 i x (by simpa using hx)
theorem renObj_sound {ρ : Place} {O : Nat → Prop} {bl : List (Nat × Bool)} {k : Bool} {o o' : AObj} {ob : Prop} {c s z : Nat} {cob : Obj} (h : renObj bl k o = some (o', ob)) (hob : ob) (ho : ORel ρ O c s z o cob) : ORel (ρ.via bl) O c s z o' cob := by
 cases o with
 | iter st p => simp only [renObj] at h; cases h; cases cob <;> exact ho
 | map es ck =>
  simp only [renObj] at h
  cases h
  cases cob <;> try exact ho.elim
  obtain ⟨h1, h2, h3, h4, h5⟩ := ho
  refine ⟨h1, h2, h3, h4, fun i e he => ?_⟩
  obtain ⟨e', a, b, d, f, g⟩ := h5 i e he
  have hv : VR0 ρ.fr e.2.1 e'.val := nl1_sound (hob e (List.mem_of_getElem? he)) f
  exact ⟨e', a, b, d, VR0.lift (ρ := ρ.via bl) hv, g⟩
 | miter m a b l => cases m with
  | none =>
   simp only [renObj] at h
   cases h
   cases cob <;> exact ho
  | some b => simp only [renObj] at h; cases h
 | cells l wr =>
  cases cob <;> try exact ho.elim
  obtain ⟨h1, h2, h3, h4, h5⟩ := ho
  cases k with
  | true =>
   simp only [renObj] at h
   split at h
   case h_2 => cases h
   rename_i m hm
   cases h
   obtain ⟨g1, g2⟩ := mapO_get hm
   refine ⟨h1, by rw [g1]; exact h2, h3, fun i u hu => ?_, h5⟩
   obtain ⟨v, hv, hr⟩ := g2 i u hu
   obtain ⟨v', e, hvr⟩ := h4 i v hv
   exact ⟨v', e, ren1_sound hr hvr⟩
  | false =>
   simp only [renObj] at h
   cases h
   refine ⟨h1, h2, h3, fun i u hu => ?_, h5⟩
   obtain ⟨v', e, hvr⟩ := h4 i u hu
   have h0 : VR0 ρ.fr u v' := nl1_sound (hob u (List.mem_of_getElem? hu)) hvr
   exact ⟨v', e, VR0.lift (ρ := ρ.via bl) h0⟩
theorem canon_sound {ρ : Place} {W : Base} {n : Nat} {st st' : AS} {a : Act} {w : World} {base : List Bool} {ts : List Nat} {ob : Prop} (h : SRel ρ W n st a w) (hc : canon base ts st = some (st', ob)) (hob : ob) :
  ∃ ρ', SRel ρ' W n st' a w ∧ ρ'.fr = ρ.fr ∧ ∀ b, b < base.length → ρ'.pl b = ρ.pl b := by
 unfold canon at hc
 dsimp only at hc
 generalize scanB st.hp 60 0 (scanTms st.tm ts (baseL 0 base)) = bl at hc
 cases hb : nodupB bl && baseB base.length 0 bl with
 | false => rw [hb] at hc; cases hc
 | true =>
  rw [hb, cond_true] at hc
  simp only [Bool.and_eq_true] at hb
  split at hc
  case h_2 => cases hc
  rename_i tm os ob' h1 h2
  cases hc
  have hlen := renObjs_len h2
  have hget : ∀ i o, (putObjs 0 os .e).get i = some o → os[i]? = some (some o) := fun i o ho => by
   rw [putObjs_get] at ho
   split at ho
   ·simp only [Nat.sub_zero] at ho
    cases hx : os[i]? with
    | none => rw [hx] at ho; cases ho
    | some x => rw [hx] at ho; simp at ho; rw [ho]
   ·simp [Tr.get_e] at ho
  have hvia : ∀ i x, (ρ.via bl).pl i = some x → ∃ b k, bl[i]? = some (b, k) ∧ ρ.pl b = some x := fun i x hx => by
   unfold Place.via at hx
   dsimp only at hx
   split at hx
   ·rename_i p hp
    exact ⟨p.1, p.2, hp, hx⟩
   ·cases hx
  have hobj : ∀ i o x, (putObjs 0 os .e).get i = some o → (ρ.via bl).pl i = some x → ∃ b k o0 ob0, bl[i]? = some (b, k) ∧ st.hp.get b = some o0 ∧ renObj bl k o0 = some (o, ob0) ∧ ob0 ∧ ρ.pl b = some x := fun i o x ho hx => by
   obtain ⟨b, k, o0, ob0, g1, g2, g3, g4⟩ := renObjs_get h2 hob i o (hget i o ho)
   obtain ⟨b', k', q1, q2⟩ := hvia i x hx
   rw [g1] at q1
   cases q1
   exact ⟨b, k, o0, ob0, g1, g2, g3, g4, q2⟩
  refine ⟨ρ.via bl, ⟨⟨fun i x hx => ?_, fun i o c s z ho hx => ?_, fun i j x y o1 o2 g1 g2 hx hy hxy => ?_, fun i hi => ?_, h.rel.below, h.rel.frz, fun i o c s z ho hw hx => ?_, h.rel.frn⟩, h.frame.size, h.frame.defers, fun t u hu => ?_⟩, rfl, fun b hlt => ?_⟩
  ·obtain ⟨b, k, q1, q2⟩ := hvia i x hx
   refine ⟨?_, (h.rel.dom b x q2).2⟩
   rcases Nat.lt_or_ge i bl.length with h' | h'
   ·exact h'
   ·rw [List.getElem?_eq_none h'] at q1; cases q1
  ·obtain ⟨b, k, o0, ob0, q1, q2, q3, q4, q5⟩ := hobj i o _ ho hx
   obtain ⟨cob, e1, e2⟩ := h.rel.obj b o0 c s z q2 q5
   exact ⟨cob, e1, renObj_sound q3 q4 e2⟩
  ·obtain ⟨b, k, o0, ob0, q1, q2, q3, q4, q5⟩ := hobj i o1 _ g1 hx
   obtain ⟨b', k', o0', ob0', r1, r2, r3, r4, r5⟩ := hobj j o2 _ g2 hy
   have e := h.rel.inj b b' x y o0 o0' q2 r2 q5 r5 hxy
   subst e
   exact nodupB_inj hb.1 q1 r1
  ·have hi' : bl.length ≤ i := hi
   show (putObjs 0 os .e).get i = none
   rw [putObjs_get, if_neg (by omega)]
   exact Tr.get_e i
  ·obtain ⟨b, k, o0, ob0, q1, q2, q3, q4, q5⟩ := hobj i o _ ho hx
   exact h.rel.apart b o0 c s z q2 (by rw [← renObj_wr q3]; exact hw) q5
  ·obtain ⟨v, hv, hr⟩ := renTms_get h1 t u hu
   have := h.frame.slot t v hv
   exact ⟨this.1, ren_sound hr this.2⟩
  ·obtain ⟨k, hk⟩ := baseB_get hb.2 b hlt
   unfold Place.via
   dsimp only
   rw [hk]
   simp
def chunks (sz n : Nat) (l : List Value) : Array Value :=
 bif sz.beq 1 then (l.take n).toArray else ((List.range n).map fun i => Value.agg ((l.drop (i * sz)).take sz).toArray).toArray
theorem chunks_size {sz n : Nat} {l : List Value} (h : n * sz ≤ l.length) : (chunks sz n l).size = n := by
 unfold chunks
 cases hs : sz.beq 1 with
 | true =>
  have := Nat.eq_of_beq_eq_true hs
  subst this
  simp
  omega
 | false => simp
theorem chunks_get {sz n : Nat} {l : List Value} (h : n * sz ≤ l.length) (hl : NLs l) {i : Nat} {u : Value} (hu : (chunks sz n l)[i]? = some u) : i < n ∧ u.cells.size = sz ∧ ∀ (j : Nat) (v : Value), u.cells[j]? = some v → j < sz ∧ l[i * sz + j]? = some v := by
 unfold chunks at hu
 cases hs : sz.beq 1 with
 | true =>
  have := Nat.eq_of_beq_eq_true hs
  subst this
  rw [hs, cond_true] at hu
  have hu' : (l.take n)[i]? = some u := by simpa using hu
  rw [List.getElem?_take] at hu'
  split at hu'
  case isFalse => cases hu'
  rename_i hi
  have hnl := hl u (List.mem_of_getElem? hu')
  have hc : u.cells = #[u] := by cases u <;> first | rfl | cases hnl
  refine ⟨hi, by rw [hc]; rfl, fun j v hv => ?_⟩
  rw [hc] at hv
  cases j with
  | zero => simp at hv; subst hv; exact ⟨by omega, by simpa using hu'⟩
  | succ j => simp at hv
 | false =>
  rw [hs, cond_false] at hu
  have hu' : ((List.range n).map fun i => Value.agg ((l.drop (i * sz)).take sz).toArray)[i]? = some u := by simpa using hu
  rw [List.getElem?_map] at hu'
  have hi : i < n := by
   rcases Nat.lt_or_ge i n with h' | h'
   ·exact h'
   ·rw [List.getElem?_eq_none (by simpa using h')] at hu'; cases hu'
  rw [List.getElem?_range hi] at hu'
  cases hu'
  have hroom := mul_room hi h
  refine ⟨hi, by simp [Value.cells]; omega, fun j v hv => ?_⟩
  have hv' : ((l.drop (i * sz)).take sz)[j]? = some v := by simpa [Value.cells] using hv
  rw [List.getElem?_take] at hv'
  split at hv'
  ·rename_i hj
   rw [List.getElem?_drop] at hv'
   exact ⟨hj, hv'⟩
  ·cases hv'
def Place.freeze (ρ : Place) (c : Nat) (ob : Obj) : Place := ⟨ρ.pl, fun k => match ρ.fr k with | some o => some o | none => if k = c then some ob else none, fun g cs h => by
 obtain ⟨t, fz, hc⟩ := ρ.gl g cs h
 exact ⟨t, fz, by rw [hc]⟩⟩
theorem freeze_rel {ρ : Place} {W : Base} {hp : Tr AObj} {nx : Nat} {w : World} (h : Rel ρ W hp nx w) {b c s z : Nat} {l : List Value} {ob : Obj} (hb : hp.get b = some (.cells l true)) (hr : ρ b = some (c, s, z)) (hob : w.heap[c]? = some ob) :
  Rel (ρ.freeze c ob) W (hp.put b none) nx w ∧ ρ.le (ρ.freeze c ob) := by
 have hle : ρ.le (ρ.freeze c ob) := ⟨fun _ _ h => h, fun k x hk => by
  show (match ρ.fr k with | some o => some o | none => if k = c then some ob else none) = some x
  rw [hk]⟩
 have sub : ∀ k o, (hp.put b none).get k = some o → k ≠ b ∧ hp.get k = some o := fun k o hk => by
  rw [Tr.get_put] at hk
  split at hk
  ·cases hk
  ·rename_i e; exact ⟨e, hk⟩
 obtain ⟨ob0, e0, ho0⟩ := h.obj b _ c s z hb hr
 refine ⟨⟨h.dom, fun k o c' s' z' ho hk => ?_, fun k k' x x' o o' h1 h2 => h.inj k k' x x' o o' (sub _ _ h1).2 (sub _ _ h2).2, fun k hk => ?_, h.below, fun k x hk => ?_, fun k o c' s' z' ho hw hk => ?_, fun k x hk => ?_⟩, hle⟩
 ·obtain ⟨ob', e1, e2⟩ := h.obj k o c' s' z' (sub k o ho).2 hk
  exact ⟨ob', e1, e2.mono hle⟩
 ·rw [Tr.get_put]
  split
  ·rfl
  ·exact h.fresh k hk
 ·have hk' : (match ρ.fr k with | some o => some o | none => if k = c then some ob else none) = some x := hk
  split at hk'
  ·rename_i e; cases hk'; exact h.frz k x e
  ·split at hk'
   ·rename_i e; subst e; cases hk'; exact hob
   ·cases hk'
 ·show (match ρ.fr c' with | some o => some o | none => if c' = c then some ob else none) = none
  have := sub k o ho
  rw [h.apart k o c' s' z' this.2 hw hk]
  dsimp only
  rw [if_neg]
  ·intro e
   exact this.1 (h.inj k b _ _ _ _ this.2 hb hk hr e)
 ·have hk' : (match ρ.fr k with | some o => some o | none => if k = c then some ob else none) = some x := hk
  split at hk'
  ·rename_i e; cases hk'; exact h.frn k x e
  ·split at hk'
   ·rename_i e
    subst e
    cases ob0 <;> try exact ho0.elim
    exact .inr (ho0.2.2.2.2 rfl)
   ·cases hk'
def frzS (N : Nat) (hp : Tr AObj) (v : Value) : Option (Value × Tr AObj × Prop) :=
 match v with
 | .slice (some ⟨b, o, none⟩) n sz => match hp.get b with
  | some (.cells l true) => bif N.ble b then some (tree sz n (chunks sz n (l.drop o)), hp.put b none, o + n * sz ≤ l.length ∧ NLs (l.drop o)) else none
  | _ => none
 | v => some (v, hp, True)
theorem frzS_sound {N : Nat} {ρ : Place} {W : Base} {hp hp' : Tr AObj} {nx : Nat} {w : World} (h : Rel ρ W hp nx w) {v v' u : Value} {ob : Prop} (hv : VR ρ v v') (hf : frzS N hp v = some (u, hp', ob)) (hob : ob) :
  ∃ ρ', Rel ρ' W hp' nx w ∧ Step ρ ρ' hp hp' nx nx ∧ VR ρ' u v' := by
 unfold frzS at hf
 split at hf
 ·rename_i b o n sz
  split at hf
  case h_2 => cases hf
  rename_i l hg
  cases hc : N.ble b with
  | false => rw [hc] at hf; cases hf
  | true =>
   rw [hc] at hf
   cases hf
   obtain ⟨hlen, hnl⟩ := hob
   suffices hs : ∃ ρ', Rel ρ' W (hp.put b none) nx w ∧ Step ρ ρ' hp (hp.put b none) nx nx ∧ VR0 ρ'.fr (tree sz n (chunks sz n (l.drop o))) v' by
    obtain ⟨ρ', s1, s2, s3⟩ := hs
    exact ⟨ρ', s1, s2, VR0.lift (ρ := ρ') s3⟩
   cases hv with
   | @slice _ _ _ _ c s zz cap hr h1 h2 =>
    obtain ⟨ob, e0, ho⟩ := h.obj b _ c s zz hg hr
    obtain ⟨g1, g2⟩ := freeze_rel h hg hr e0
    refine ⟨_, g1, ⟨g2, Nat.le_refl _, fun k _ hn => ⟨hn, by rw [Tr.get_put, if_neg (by intro e; subst e; have hr' := hr; rw [hn] at hr'; cases hr')]⟩⟩, ?_⟩
    cases ob <;> try exact ho.elim
    rename_i cs ct fz
    obtain ⟨k1, k2, k3, k4, k5⟩ := ho
    have hlen' : n * sz ≤ (l.drop o).length := by rw [List.length_drop]; omega
    have hmul : n * sz ≤ cap * sz := Nat.mul_le_mul_right _ h1
    refine VR0.tree (o := s + o) (cs := cs) (t := ct) (fz := fz) (by show (match ρ.fr c with | some o => some o | none => if c = c then _ else none) = _; rw [h.apart b _ c s zz hg rfl hr]; dsimp only; rw [if_pos rfl]) (chunks_size hlen') h1 (by omega) (fun i u hu => (chunks_get hlen' hnl hu).2.1) (fun i j u a a' hu ha ha' => ?_)
    obtain ⟨q1, q2, q3⟩ := chunks_get hlen' hnl hu
    obtain ⟨q4, q5⟩ := q3 j a ha
    have q6 := q5
    rw [List.getElem?_drop] at q5
    obtain ⟨a2, e1, e2⟩ := k4 _ a q5
    have : a2 = a' := by
     rw [show s + o + i * sz + j = s + (o + (i * sz + j)) by omega, e1] at ha'
     cases ha'
     rfl
    subst this
    have hn := hnl a (List.mem_of_getElem? q6)
    have h0 : VR0 ρ.fr a a2 := nl1_sound hn e2
    exact h0.mono g2.2
   | @emptySlice _ _ y a' _ hr =>
    obtain ⟨c, s, zz⟩ := y
    obtain ⟨ob, e0, ho⟩ := h.obj b _ c s zz hg hr
    obtain ⟨g1, g2⟩ := freeze_rel h hg hr e0
    refine ⟨_, g1, ⟨g2, Nat.le_refl _, fun k _ hn => ⟨hn, by rw [Tr.get_put, if_neg (by intro e; subst e; have hr' := hr; rw [hn] at hr'; cases hr')]⟩⟩, ?_⟩
    have : chunks sz 0 (l.drop o) = #[] := by
     unfold chunks
     cases sz.beq 1 <;> simp
    rw [this]
    exact .treeNil _ _ _
 ·cases hf
  exact ⟨ρ, h, .refl _ _ _, hv⟩
def unmark (t : Nat) : Nat := bif Nat.ble 1000 t then t - 1000 else t
def frzTms (N : Nat) : List Nat → AS → Option (AS × Prop)
 | [], st => some (st, True)
 | t :: ts, st => bif Nat.ble 1000 t then match st.tm.get (t - 1000) with
   | some v => match frzS N st.hp v with
    | some (u, hp', ob) => match frzTms N ts ⟨st.tm.put (t - 1000) (some u), hp', st.nx⟩ with
     | some (st', ob') => some (st', ob ∧ ob')
     | none => none
    | none => none
   | none => none
  else frzTms N ts st
theorem frzTms_sound {N n : Nat} {W : Base} {a : Act} {w : World} : ∀ {ts : List Nat} {st st' : AS} {ρ : Place} {ob : Prop}, SRel ρ W n st a w → frzTms N ts st = some (st', ob) → ob →
  ∃ ρ', SRel ρ' W n st' a w ∧ ρ.le ρ'
 | [], st, st', ρ, ob, h, hf, hob => by
  simp only [frzTms] at hf
  cases hf
  exact ⟨ρ, h, ⟨fun _ _ h => h, fun _ _ h => h⟩⟩
 | t :: ts, st, st', ρ, ob, h, hf, hob => by
  simp only [frzTms] at hf
  cases hc : Nat.ble 1000 t with
  | false =>
   rw [hc] at hf
   exact frzTms_sound h hf hob
  | true =>
   rw [hc, cond_true] at hf
   clear hc
   generalize t - 1000 = q at hf
   split at hf
   case h_2 => cases hf
   rename_i v hv
   split at hf
   case h_2 => cases hf
   rename_i u hp' ob1 hz
   split at hf
   case h_2 => cases hf
   rename_i st1 ob2 hr
   cases hf
   obtain ⟨g0, g1⟩ := h.frame.slot _ _ hv
   obtain ⟨ρ1, k1, k2, k3⟩ := frzS_sound h.rel g1 hz hob.1
   have hs1 : SRel ρ1 W n ⟨st.tm.put q (some u), hp', st.nx⟩ a w := ⟨k1, ⟨h.frame.size, h.frame.defers, fun s x hx => by
    rw [Tr.get_put] at hx
    by_cases e : s = q
    ·rw [if_pos e] at hx
     cases hx
     rw [e]
     exact ⟨g0, k3⟩
    ·rw [if_neg e] at hx
     exact ⟨(h.frame.slot s x hx).1, (h.frame.slot s x hx).2.mono k2.le⟩⟩⟩
   obtain ⟨ρ2, q1, q2⟩ := frzTms_sound hs1 hr hob.2
   exact ⟨ρ2, q1, ⟨fun b x hb => q2.1 b x (k2.le.1 b x hb), fun c x hc => q2.2 c x (k2.le.2 c x hc)⟩⟩
end Go.Proofs.YtojlhapbngcjkaaGreatDoor
noncomputable section
namespace Go.Proofs.YtojlhapbngcjkaaGreatDoor
open Go Go.RowKit
def vseq (P : Program) (vc : VCall) (ops : Array Oper) (n : Nat) : List Oper → AS → (AS → Prop) → Prop
 | [], st, K => K st
 | o :: l, st, K => vguard ops st.tm o
   (bif isHeavy o.op then vheavy P vc st.hp st.nx o (aev st.tm) fun v _ hp' nx' => vsplit v fun v => match aput n st.tm o.dst v with
     | some tm' => vseq P vc ops n l ⟨tm', hp', nx'⟩ K
     | none => False
    else match slight P st.hp o (aev st.tm) with
     | some (.val v, ob) => ob ∧ vsplit v fun v => match aput n st.tm o.dst v with
      | some tm' => vseq P vc ops n l ⟨tm', st.hp, st.nx⟩ K
      | none => False
     | some (.new b nv, ob) => match aput n st.tm o.dst (nv.val st.nx) with
      | some tm' => ob ∧ vseq P vc ops n l ⟨tm', st.hp.put st.nx (some b), st.nx + 1⟩ K
      | none => False
     | none => False)
   (match aput n st.tm o.dst undef with
    | some tm' => vseq P vc ops n l ⟨tm', st.hp, st.nx⟩ K
    | none => False)
theorem vseq_sound {P : Program} {vc : VCall} {W : Base} (hcall : VCallOk P vc) {ops : Array Oper} {n : Nat} {Q : Exit → Act → World → Prop} : ∀ (l : List Oper) (k : Nat) (st : AS) (K : AS → Prop) (ρ : Place) (a : Act) (w : World), ops.toList.drop k = l →
  SRel ρ W n st a w → vseq P vc ops n l st K → (∀ st', K st' → ∀ a' w' ρ', SRel ρ' W n st' a' w' → Step ρ ρ' st.hp st'.hp st.nx st'.nx → Q .normal a' w') → wpOps P ops Q (List.range' k l.length) a w
 | [], k, st, K, ρ, a, w, _, h, hs, hk => by
  simp only [vseq] at hs
  exact hk st hs a w ρ h (.refl _ _ _)
 | o :: l, k, st, K, ρ, a, w, hd, h, hs, hk => by
  simp only [vseq] at hs
  have hi : ops[k]? = some o := by
   have : (ops.toList.drop k)[0]? = some o := by rw [hd]; rfl
   rw [List.getElem?_drop] at this
   simpa using this
  have next : ∀ (st1 : AS) (a1 : Act) (w1 : World) (ρ1 : Place), SRel ρ1 W n st1 a1 w1 → Step ρ ρ1 st.hp st1.hp st.nx st1.nx → vseq P vc ops n l st1 K → wpOps P ops Q (List.range' (k + 1) l.length) a1 w1 :=
   fun st1 a1 w1 ρ1 hr hst hv => vseq_sound hcall l (k + 1) st1 K ρ1 a1 w1 (by rw [← List.drop_drop, hd]; rfl) hr hv fun st' hK a' w' ρ' g1 g2 => hk st' hK a' w' ρ' g1 (hst.trans g2)
  rw [List.length_cons, List.range'_succ, wpOps_cons]
  unfold wpOp
  simp only [hi]
  rcases vguard_cases hs with ⟨hw, hs⟩ | ⟨hw, hs⟩
  ·rw [awanted_sound h.frame hw, if_pos rfl]
   refine .inl ?_
   cases hh : isHeavy o.op with
   | true =>
    rw [hh, cond_true] at hs
    refine vheavy_sound hcall h.rel h.frame.ev hs fun v c hp' nx' v' w' ρ' hK _ q1 q2 q3 => ?_
    replace hK := vsplit_ap hK
    split at hK
    case h_2 => exact hK.elim
    rename_i tm' ht
    exact next ⟨tm', hp', nx'⟩ _ _ ρ' ⟨q2, aput_sound (h.frame.mono q3.le) ht q1⟩ q3 hK
   | false =>
    rw [hh, cond_false] at hs
    split at hs
    ·rename_i v ob hv
     obtain ⟨hob, hs⟩ := hs
     replace hs := vsplit_ap hs
     split at hs
     case h_2 => exact hs.elim
     rename_i tm' ht
     obtain ⟨v', h1, h2⟩ := slight_sound (r := .val v) h.rel h.frame.ev hv hob
     unfold Oper.wp
     rw [h1]
     exact next ⟨tm', st.hp, st.nx⟩ _ _ ρ ⟨h.rel, aput_sound h.frame ht h2⟩ (.refl _ _ _) hs
    ·rename_i ob nv obp hv
     split at hs
     case h_2 => exact hs.elim
     rename_i tm' ht
     obtain ⟨v', ob', d, z, h1, h2, h3⟩ := slight_sound (r := .new ob nv) h.rel h.frame.ev hv hs.1
     unfold Oper.wp
     rw [h1]
     have hrel := ((h.rel.at_drawn d).reserve ob).realize (b := st.nx) (z := z) (ob := ob') (by omega) h.rel.dom_none (by rw [Tr.get_put, if_pos rfl]) (h2 _ h.rel.below.fresh)
     have hle := Place.le_set (x := (w.heap.size, 0, z)) h.rel.dom_none
     exact next ⟨tm', st.hp.put st.nx (some ob), st.nx + 1⟩ _ _ _ ⟨hrel, aput_sound (h.frame.mono hle) ht (h3 _ _ (Place.set_same ρ st.nx _))⟩ ⟨hle, Nat.le_succ _, fun b hb hr => ⟨by rw [Place.set_other (by omega)]; exact hr, by show (st.hp.put st.nx (some ob)).get b = _; rw [Tr.get_put, if_neg (by omega)]⟩⟩ hs.2
    ·exact hs.elim
  ·rw [awanted_sound h.frame hw, if_neg (by simp)]
   split at hs
   case h_2 => exact hs.elim
   rename_i tm' ht
   exact next ⟨tm', st.hp, st.nx⟩ _ _ ρ ⟨h.rel, aput_sound h.frame ht (closed_refl (by simp [undef, closed]))⟩ (.refl _ _ _) hs
def vregion (P : Program) (vc : VCall) (n : Nat) (ops : Array Oper) (draw : Bool) (st : AS) (K : AS → Prop) : Prop :=
 bif draw then (bif drawOk ops then vdraw P vc ops n ops.size (Array.replicate ops.size false) st [] K else False) else vseq P vc ops n ops.toList st K
theorem vregion_sound {P : Program} {vc : VCall} {W : Base} (hcall : VCallOk P vc) (hm : P.follows .mixedOrders = true) {ops : Array Oper} {draw : Bool} {id n : Nat} {Q : Exit → Act → World → Prop} {st : AS} {K : AS → Prop} {ρ : Place} {a : Act} {w : World} (h : SRel ρ W n st a w)
  (hs : vregion P vc n ops draw st K) (hk : ∀ st', K st' → ∀ a' w' ρ', SRel ρ' W n st' a' w' → Step ρ ρ' st.hp st'.hp st.nx st'.nx → Q .normal a' w') : (Code.region id ops draw).wp P Q a w := by
 unfold vregion at hs
 cases draw with
 | false =>
  rw [cond_false] at hs
  refine wp_region ?_
  rw [List.range_eq_range']
  have := vseq_sound hcall (Q := Q) ops.toList 0 st K ρ a w (by simp) h hs hk
  simpa using this
 | true =>
  rw [cond_true] at hs
  cases hD : drawOk ops with
  | false => rw [hD] at hs; exact hs.elim
  | true =>
   rw [hD, cond_true] at hs
   refine wp_region_any hm ?_
   have hnot : ∀ i, ¬ In (Array.replicate ops.size false) i := fun i hi => by
    have := lt_of_in (ops := ops) (by simp) hi
    simp [In, this] at hi
   refine vdraw_main hcall hD hk ops.size ops.size _ st [] ⟨fun _ => .e, fun _ => undef, fun _ => none⟩ _ a _ ρ ?_ ⟨by simp, by simp, fun i hi => (hnot i hi).elim, fun i hi => (hnot i hi).elim, fun i hi => hi, fun j o t hj => (hnot j hj).elim, fun t _ => rfl, h.rel.drew, h.frame.size, h.frame.defers, fun j o t hj => (hnot j hj).elim, fun t v _ hv => h.frame.slot t v hv, fun j o hj => (hnot j hj).elim, fun j k b hj => (hnot j hj).elim, .refl _ _ _, fun j o hj => (hnot j hj).elim⟩ hs
   unfold unl
   exact Nat.le_trans (List.length_filter_le _ _) (by simp)
inductive Fr where
 | seq (y : Code)
 | block (id : Nat)
 | loop (b : Code)
inductive VM where
 | code (c : Code)
 | normal
 | exit (id : Nat)
 | ret
def rid : Code → Option Nat
 | .region id _ _ => some id
 | .seq x y => match rid x with
  | some i => some i
  | none => rid y
 | .cond _ x y => match rid x with
  | some i => some i
  | none => rid y
 | .block _ b => rid b
 | .loop b => rid b
 | _ => none
def slotsOf (i : Option Nat) : List (Nat × List Nat) → Option (List Nat)
 | [] => none
 | x :: l => match i with
  | some j => bif j.beq x.1 then some x.2 else slotsOf i l
  | none => none
def vloop (lt : List (Nat × List Nat)) (base : List Bool) (H : Code → List Fr → AS → Prop) (b : Code) (k : List Fr) (st : AS) : Prop :=
 match slotsOf (rid b) lt with
 | some ts => match frzTms base.length ts st with
  | some (st0, ob0) => match canon base (ts.map unmark) st0 with
   | some (st', ob) => ob0 ∧ ob ∧ H b k st'
   | none => False
  | none => False
 | none => False
def vrun (P : Program) (vc : VCall) (n : Nat) (lt : List (Nat × List Nat)) (base : List Bool) (H : Code → List Fr → AS → Prop) (Fin : AS → Prop) : Nat → VM → List Fr → AS → Prop
 | 0, _, _, _ => False
 | f + 1, .normal, k, st => match k with
  | [] => Fin st
  | .seq y :: k' => vrun P vc n lt base H Fin f (.code y) k' st
  | .block _ :: k' => vrun P vc n lt base H Fin f .normal k' st
  | .loop b :: k' => match slotsOf (rid b) lt with
   | some _ => vloop lt base H b k' st
   | none => vrun P vc n lt base H Fin f (.code b) (.loop b :: k') st
 | f + 1, .exit id, k, st => match k with
  | [] => False
  | .block j :: k' => bif id.beq j then vrun P vc n lt base H Fin f .normal k' st else vrun P vc n lt base H Fin f (.exit id) k' st
  | _ :: k' => vrun P vc n lt base H Fin f (.exit id) k' st
 | _ + 1, .ret, _, st => Fin st
 | f + 1, .code c, k, st => match c with
  | .skip | .label _ => vrun P vc n lt base H Fin f .normal k st
  | .region _ ops draw => vregion P vc n ops draw st fun st' => vrun P vc n lt base H Fin f .normal k st'
  | .seq x y => vrun P vc n lt base H Fin f (.code x) (.seq y :: k) st
  | .cond c x y => match aev st.tm c with
   | some (.bool b) => pIf b (vrun P vc n lt base H Fin f (.code x) k st) (vrun P vc n lt base H Fin f (.code y) k st)
   | _ => False
  | .block id b => vrun P vc n lt base H Fin f (.code b) (.block id :: k) st
  | .loop b => match slotsOf (rid b) lt with
   | some _ => vloop lt base H b k st
   | none => vrun P vc n lt base H Fin f (.code b) (.loop b :: k) st
  | .exit id => vrun P vc n lt base H Fin f (.exit id) k st
  | .ret => vrun P vc n lt base H Fin f .ret k st
  | _ => False
def contQ (P : Program) (Q : Exit → Act → World → Prop) : List Fr → Exit → Act → World → Prop
 | [] => Q
 | .seq y :: k => Exit.then (y.wp P (contQ P Q k)) (contQ P Q k)
 | .block id :: k => Exit.inBlock id (contQ P Q k)
 | .loop b :: k => Exit.then (LoopWp P b (contQ P Q k)) (contQ P Q k)
theorem contQ_ret {P : Program} {Q : Exit → Act → World → Prop} {a : Act} {w : World} {k : List Fr} (h : Q .ret a w) : contQ P Q k .ret a w := by
 induction k with
 | nil => exact h
 | cons x k ih => cases x <;> exact ih
section
variable {P : Program} {vc : VCall} {W : Base} {n : Nat} {lt : List (Nat × List Nat)} {base : List Bool} {H : Code → List Fr → AS → Prop} {Fin : AS → Prop} {R : Place → AS → Prop} {Q : Exit → Act → World → Prop}
theorem vrun_sound (hcall : VCallOk P vc) (hm : P.follows .mixedOrders = true)
  (hR : ∀ ρ st ρ' st', R ρ st → Step ρ ρ' st.hp st'.hp st.nx st'.nx → R ρ' st')
  (hH : ∀ b k st, vloop lt base H b k st → ∀ ρ a w, SRel ρ W n st a w → R ρ st → LoopWp P b (contQ P Q k) a w)
  (hF : ∀ st, Fin st → ∀ ρ a w, SRel ρ W n st a w → R ρ st → Q .normal a w ∧ Q .ret a w) :
  ∀ (f : Nat) (m : VM) (k : List Fr) (st : AS), vrun P vc n lt base H Fin f m k st → ∀ ρ a w, SRel ρ W n st a w → R ρ st → (match m with
   | .code c => c.wp P (contQ P Q k) a w
   | .normal => contQ P Q k .normal a w
   | .exit id => contQ P Q k (.exit id) a w
   | .ret => contQ P Q k .ret a w) := by
 intro f
 induction f with
 | zero => intro m k st h; simp only [vrun] at h
 | succ f ih =>
  intro m k st h ρ a w hs hr
  cases m with
  | normal =>
   simp only [vrun] at h
   dsimp only
   cases k with
   | nil => exact (hF st h ρ a w hs hr).1
   | cons x k =>
    cases x with
    | seq y => exact ih (.code y) k st h ρ a w hs hr
    | block id => exact ih .normal k st h ρ a w hs hr
    | loop b =>
     dsimp only at h
     split at h
     ·exact hH b k st h ρ a w hs hr
     ·exact loop_round (ih (.code b) (.loop b :: k) st h ρ a w hs hr)
  | exit id =>
   simp only [vrun] at h
   dsimp only
   cases k with
   | nil => exact h.elim
   | cons x k =>
    cases x with
    | seq y => exact ih (.exit id) k st h ρ a w hs hr
    | block j =>
     show Exit.inBlock j (contQ P Q k) (.exit id) a w
     simp only [Exit.inBlock]
     dsimp only at h
     cases hj : id.beq j with
     | true =>
      rw [hj] at h
      rw [if_pos (Nat.eq_of_beq_eq_true hj)]
      exact ih .normal k st h ρ a w hs hr
     | false =>
      rw [hj] at h
      rw [if_neg (fun e => by subst e; simp at hj)]
      exact ih (.exit id) k st h ρ a w hs hr
    | loop b => exact ih (.exit id) k st h ρ a w hs hr
  | ret =>
   simp only [vrun] at h
   exact contQ_ret (hF st h ρ a w hs hr).2
  | code c =>
   simp only [vrun] at h
   dsimp only
   cases c with
   | skip => exact wp_skip (ih .normal k st h ρ a w hs hr)
   | label l => exact wp_label (ih .normal k st h ρ a w hs hr)
   | region id ops draw => exact vregion_sound hcall hm hs h fun st' hK a' w' ρ' g1 g2 => ih .normal k st' hK ρ' a' w' g1 (hR _ _ _ _ hr g2)
   | seq x y => exact wp_seq (ih (.code x) (.seq y :: k) st h ρ a w hs hr)
   | cond c x y =>
    dsimp only at h
    split at h
    ·rename_i b hc
     have := hs.frame.eval hc
     cases b with
     | true =>
      refine wp_cond_true (c := c) ?_ (ih (.code x) k st h ρ a w hs hr)
      generalize a.eval c = z at this
      cases this
      rfl
     | false =>
      refine wp_cond_false (c := c) ?_ (ih (.code y) k st h ρ a w hs hr)
      generalize a.eval c = z at this
      cases this
      rfl
    ·exact h.elim
   | block id b => exact wp_block (ih (.code b) (.block id :: k) st h ρ a w hs hr)
   | loop b =>
    dsimp only at h
    split at h
    ·exact loop_of (hH b k st h ρ a w hs hr)
    ·exact loop_of (loop_round (ih (.code b) (.loop b :: k) st h ρ a w hs hr))
   | exit id => exact wp_exit (ih (.exit id) k st h ρ a w hs hr)
   | ret => exact wp_ret (ih .ret k st h ρ a w hs hr)
   | goto l => exact h.elim
   | refuse y => exact h.elim
   | scope b => exact h.elim
   | rangeFunc f ps x y => exact h.elim
end
def StepG (N : Nat) (ρ ρ' : Place) : Prop := (∀ b x, b < N → ρ.pl b = some x → ρ'.pl b = some x) ∧ ∀ c x, ρ.fr c = some x → ρ'.fr c = some x
theorem StepG.refl (N : Nat) (ρ : Place) : StepG N ρ ρ := ⟨fun _ _ _ h => h, fun _ _ h => h⟩
theorem StepG.step {N : Nat} {ρ ρ' ρ'' : Place} {hp hp' : Tr AObj} {nx nx' : Nat} (h : StepG N ρ ρ') (k : Step ρ' ρ'' hp hp' nx nx') : StepG N ρ ρ'' :=
 ⟨fun b x hb hx => k.le.1 b x (h.1 b x hb hx), fun c x hc => k.le.2 c x (h.2 c x hc)⟩
def Good (P : Program) (n : Nat) (base : List Bool) (Fin : AS → Prop) (b : Code) (k : List Fr) (st : AS) : Prop :=
 ∀ (W : Base) (ρ0 : Place) (Q : Exit → Act → World → Prop), (∀ st, Fin st → ∀ ρ a w, SRel ρ W n st a w → StepG base.length ρ0 ρ → Q .normal a w ∧ Q .ret a w) →
  ∀ ρ a w, SRel ρ W n st a w → StepG base.length ρ0 ρ → LoopWp P b (contQ P Q k) a w
theorem good_vloop {P : Program} {n : Nat} {lt : List (Nat × List Nat)} {base : List Bool} {Fin : AS → Prop} {b : Code} {k : List Fr} {st : AS} (h : vloop lt base (Good P n base Fin) b k st) : Good P n base Fin b k st := by
 unfold vloop at h
 split at h
 case h_2 => exact h.elim
 split at h
 case h_2 => exact h.elim
 rename_i st0 ob0 hz
 split at h
 case h_2 => exact h.elim
 rename_i st' ob hc
 intro W ρ0 Q hF ρ a w hs hr
 obtain ⟨ρ1, f1, f2⟩ := frzTms_sound hs hz h.1
 obtain ⟨ρ', g1, g2, g3⟩ := canon_sound f1 hc h.2.1
 exact h.2.2 W ρ0 Q hF ρ' a w g1 ⟨fun b x hb hx => by rw [g3 b hb]; exact f2.1 b x (hr.1 b x hb hx), fun c x hx => by rw [g2]; exact f2.2 c x (hr.2 c x hx)⟩
theorem good_round {P : Program} {vc : VCall} (hcall : VCallOk P vc) (hm : P.follows .mixedOrders = true) {n : Nat} {lt : List (Nat × List Nat)} {base : List Bool} {Fin : AS → Prop} {b : Code} {k : List Fr} {st : AS} (f : Nat)
  (h : vrun P vc n lt base (Good P n base Fin) Fin f (.code b) (.loop b :: k) st) : Good P n base Fin b k st := by
 intro W ρ0 Q hF ρ a w hs hr
 refine loop_round ?_
 exact vrun_sound (R := fun ρ _ => StepG base.length ρ0 ρ) hcall hm (fun ρ st ρ' st' h k => h.step k) (fun b k st h ρ a w hs hr => good_vloop h W ρ0 Q hF ρ a w hs hr) hF f (.code b) (.loop b :: k) st h ρ a w hs hr
end Go.Proofs.YtojlhapbngcjkaaGreatDoor

