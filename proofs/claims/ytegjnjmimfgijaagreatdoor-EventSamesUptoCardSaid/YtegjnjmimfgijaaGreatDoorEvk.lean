/-
  Closed runs by evaluation, part 11: append is sound. Conditions: as each theorem states them.
-/
import Derived.Test.YtegjnjmimfgijaaGreatDoorEvj
noncomputable section
namespace Go.Proofs.YtegjnjmimfgijaaGreatDoor
open Go Go.RowKit

def makeBool (t : Option TypeId) : Sem Bool :=
  match t with
  | some xType => do pure ((← underlying xType) matches .int _)
  | none => pure false
theorem noMake_run {P : Program} {t : Option TypeId} (h : noMake P t = true) : pureRun P (makeBool t) = some false := by
  unfold makeBool
  cases t with
  | none => rfl
  | some t =>
    simp only [noMake] at h
    cases hu : P.underlying t with
    | none => rw [hu] at h; cases h
    | some d =>
      rw [hu] at h
      dsimp only
      rw [pureRun_bind (underlying_pure hu)]
      cases d <;> first | rfl | cases h
/-- append, up to the two ways. -/
theorem append_pre {P : Program} {argTypes : Array TypeId} {ty t elem : TypeId} {args : Array Value} {base : Option Addr} {sLen sCap n size : Nat} {x : Value} {w : World} (ht : argTypes[0]? = some t) (h0 : args[0]? = some (.slice base sLen sCap)) (h1 : args[1]? = some x)
    (hu : P.underlying t = some (.slice elem)) (hz : pureRun P (sizeOf elem) = some size) (hm : noMake P argTypes[1]? = true) (hl : pureRun P (Builtin.lenOf x) = some n) :
    (Builtin.append_ argTypes ty args).run P w = (if sLen + n ≤ sCap then (do
        let new ← Builtin.firstCells size n x
        if let some a := base then storeCells (a.add (sLen * size)) new.toList
        pure (.slice base (sLen + n) sCap))
      else (do
        if ((sLen + n : Nat) : Int) > IntKind.i64.max ∧ (false = true ∨ (← typeInfo elem).bytes = 0) then runtimePanic (.error "growslice: len out of range")
        if Builtin.nextslicecap (sLen + n) sCap * (← typeInfo elem).bytes > 2 ^ 48 then (do
          if !(← Builtin.mayShare size sLen n base x) then mark .noRoom
          unsupported (.resourceLimit "append: a slice or a string whose bytes no memory bears"))
        let newCap ← choose (.appendCap (sLen + n) sCap elem)
        askRoom (newCap * (← typeInfo elem).bytes)
        let old ← Builtin.firstCells size sLen (.slice base sLen sCap)
        let new ← Builtin.firstCells size n x
        let rest := Builtin.zeroCells (← zeroValue elem).cells (newCap - (sLen + n))
        pure (.slice (some (← newRow elem (old ++ new ++ rest))) (sLen + n) newCap)) : Sem Value).run P w := by
  unfold Builtin.append_
  rw [ht, h0, h1]
  dsimp only
  rw [bind_run (underlying_pure hu)]
  dsimp only
  rw [bind_run hz]
  have hmm := noMake_run hm
  have key : ∀ (k : Bool → Sem Value), (match argTypes[1]? with
      | some xType => underlying xType >>= fun d => pure (d matches .int _) >>= k
      | none => pure false >>= k).run P w = (k false).run P w := by
    intro k
    rw [← bind_run hmm k w]
    clear hmm hm
    generalize argTypes[1]? = q
    unfold makeBool
    cases q with
    | none => rfl
    | some t => simp only [bind_assoc]
  refine (key _).trans ?_
  simp only [Bool.false_eq_true, if_false]
  rw [bind_run hl]
  rfl
/-- append in place. -/
theorem append_in {P : Program} {base : Option Addr} {sLen sCap n size : Nat} {x : Value} {w w' : World} {new : Array Value} (hn : (Builtin.firstCells size n x).run P w = .ok new w)
    (hst : (match base with | some a => storeCells (a.add (sLen * size)) new.toList | none => pure () : Sem Unit).run P w = .ok () w') :
    ((do
        let new ← Builtin.firstCells size n x
        if let some a := base then storeCells (a.add (sLen * size)) new.toList
        pure (.slice base (sLen + n) sCap)) : Sem Value).run P w = .ok (.slice base (sLen + n) sCap) w' := by
  rw [Sem.run_bind, hn, Result.andThen_ok]
  cases base with
  | none =>
    cases hst
    rfl
  | some a =>
    dsimp only at hst ⊢
    rw [Sem.run_bind, hst, Result.andThen_ok]
    rfl
/-- append into new memory. -/
theorem append_out {P : Program} {elem : TypeId} {base : Option Addr} {sLen sCap n size : Nat} {x : Value} {w : World} {info : TypeInfo} {zero : Value} {old new : Array Value} (hi : pureRun P (typeInfo elem) = some info) (hz : pureRun P (zeroValue elem) = some zero)
    (hneed : sLen + n ≤ 2 ^ 25) (hb : info.bytes ≤ 2 ^ 20) (hlt : sCap < sLen + n)
    (hold : (Builtin.firstCells size sLen (.slice base sLen sCap)).run P { w with drawn := w.drawn + 1 } = .ok old { w with drawn := w.drawn + 1 })
    (hnew : (Builtin.firstCells size n x).run P { w with drawn := w.drawn + 1 } = .ok new { w with drawn := w.drawn + 1 }) :
    ∃ newCap, sLen + n ≤ newCap ∧ ((do
        if ((sLen + n : Nat) : Int) > IntKind.i64.max ∧ (false = true ∨ (← typeInfo elem).bytes = 0) then runtimePanic (.error "growslice: len out of range")
        if Builtin.nextslicecap (sLen + n) sCap * (← typeInfo elem).bytes > 2 ^ 48 then (do
          if !(← Builtin.mayShare size sLen n base x) then mark .noRoom
          unsupported (.resourceLimit "append: a slice or a string whose bytes no memory bears"))
        let newCap ← choose (.appendCap (sLen + n) sCap elem)
        askRoom (newCap * (← typeInfo elem).bytes)
        let old ← Builtin.firstCells size sLen (.slice base sLen sCap)
        let new ← Builtin.firstCells size n x
        let rest := Builtin.zeroCells (← zeroValue elem).cells (newCap - (sLen + n))
        pure (.slice (some (← newRow elem (old ++ new ++ rest))) (sLen + n) newCap)) : Sem Value).run P w =
      .ok (.slice (some ⟨w.heap.size, 0, none⟩) (sLen + n) newCap) (pushed { w with drawn := w.drawn + 1 } (.cells (old ++ new ++ Builtin.zeroCells zero.cells (newCap - (sLen + n))) elem)) := by
  let newCap := (Question.appendCap (sLen + n) sCap elem).cut (w.tape w.drawn (.appendCap (sLen + n) sCap elem))
  refine ⟨newCap, Nat.le_add_right _ _, ?_⟩
  have h1 : ¬ (((sLen + n : Nat) : Int) > IntKind.i64.max ∧ (false = true ∨ info.bytes = 0)) := by
    rintro ⟨h, _⟩
    have : IntKind.i64.max = 9223372036854775807 := by decide
    rw [this] at h
    omega
  have h2 : ¬ (Builtin.nextslicecap (sLen + n) sCap * info.bytes > 2 ^ 48) := by
    have := nextcap_le hlt
    have h3 : Builtin.nextslicecap (sLen + n) sCap ≤ 2 ^ 27 := by omega
    have : Builtin.nextslicecap (sLen + n) sCap * info.bytes ≤ 2 ^ 27 * 2 ^ 20 := Nat.mul_le_mul h3 hb
    omega
  have hch : (choose (.appendCap (sLen + n) sCap elem)).run P w = .ok newCap { w with drawn := w.drawn + 1 } := by
    simp [choose, Sem.run, Question.forced, newCap]
  have hr : pureRun P (askRoom (newCap * info.bytes)) = some () := by unfold askRoom; split <;> rfl
  rw [bind_run hi]
  rw [if_neg h1]
  rw [bind_run hi]
  rw [if_neg h2]
  rw [Sem.run_bind, hch, Result.andThen_ok]
  rw [bind_run hi]
  rw [bind_run hr]
  rw [Sem.run_bind, hold, Result.andThen_ok]
  rw [Sem.run_bind, hnew, Result.andThen_ok]
  rw [bind_run hz]
  rfl
theorem zeroCells_size (zero : Array Value) (n : Nat) : (Builtin.zeroCells zero n).size = n * zero.size := by simp [Builtin.zeroCells]
/-- The new block of an append that moves. -/
theorem append_moved {ρ : Place} {W : Base} {hp : Tr AObj} {nx : Nat} {w : World} (h : Rel ρ W hp nx w) {elem : TypeId} {old new old' new' : List Value} (ho : VRL ρ old old') (hn : VRL ρ new new') {zero : Array Value} {need newCap size : Nat} (hlen : old.length + new.length = need * size) (hcap : need ≤ newCap) (hz : zero.size = size) :
    let w' := pushed { w with drawn := w.drawn + 1 } (.cells (old'.toArray ++ new'.toArray ++ Builtin.zeroCells zero (newCap - need)) elem)
    ∃ ρ', Rel ρ' W (hp.put nx (some (.cells (old ++ new) true))) (nx + 1) w' ∧ ρ.le ρ' ∧ (∀ b, b < nx → ρ' b = ρ b) ∧ VR ρ' (.slice (some ⟨nx, 0, none⟩) need size) (.slice (some ⟨w.heap.size, 0, none⟩) need newCap) := by
  intro w'
  have hnx : ρ nx = none := by
    cases hc : ρ nx with
    | none => rfl
    | some x => have := (h.dom nx x hc).1; omega
  have hsz : (old'.toArray ++ new'.toArray ++ Builtin.zeroCells zero (newCap - need)).size = newCap * size := by
    simp only [Array.size_append, List.size_toArray, zeroCells_size, ← ho.len, ← hn.len, hz]
    rw [hlen, ← Nat.add_mul]
    congr 1
    omega
  have hrel := (h.drew.reserve (.cells (old ++ new) true)).realize (b := nx) (z := newCap * size) (ob := .cells (old'.toArray ++ new'.toArray ++ Builtin.zeroCells zero (newCap - need)) elem) (by omega) hnx (by rw [Tr.get_put, if_pos rfl]) (by
    refine ⟨hsz, ?_, fun o _ => by simp, fun i v hv => ?_, fun _ => h.below.fresh⟩
    · rw [List.length_append, hlen, Nat.zero_add]
      exact Nat.mul_le_mul_right _ hcap
    · have hvl := ho.append hn
      have hi : i < (old ++ new).length := by
        rcases Nat.lt_or_ge i (old ++ new).length with h' | h'
        · exact h'
        · rw [List.getElem?_eq_none h'] at hv; cases hv
      have hi' : i < (old' ++ new').length := by rw [← hvl.len]; exact hi
      refine ⟨(old' ++ new')[i], ?_, hvl.get hv (by simp)⟩
      rw [Nat.zero_add, Array.getElem?_append_left (by simpa using hi')]
      rw [show old'.toArray ++ new'.toArray = (old' ++ new').toArray by simp]
      simp)
  refine ⟨_, hrel, Place.le_set hnx, fun b hb => Place.set_other (by omega), ?_⟩
  have := VR.slice (ρ := ρ.set nx (w.heap.size, 0, newCap * size)) (o := 0) (n := need) (sz := size) (cap := newCap) (Place.set_same ρ nx _) hcap (by omega)
  exact this
theorem Rel.drawn {ρ : Place} {W : Base} {hp : Tr AObj} {nx : Nat} {w : World} (h : Rel ρ W hp nx w) : Rel ρ W hp nx { w with drawn := w.drawn + 1 } := h.drew
theorem aAppend_sound {P : Program} {ρ : Place} {W : Base} {hp hp' : Tr AObj} {nx nx' : Nat} {w : World} (h : Rel ρ W hp nx w) {argTypes : Array TypeId} {ty : TypeId} {args args' : Array Value} {v : Value} (hx : VRA ρ args args')
    (hs : aAppend P hp nx argTypes args = some (v, hp', nx')) : ∃ v' w' ρ', (Builtin.append_ argTypes ty args').run P w = .ok v' w' ∧ VR ρ' v v' ∧ Rel ρ' W hp' nx' w' ∧ Step ρ ρ' hp hp' nx nx' := by
  unfold aAppend at hs
  split at hs
  case h_2 => cases hs
  rename_i t base sLen sz x ht h0 h1
  obtain ⟨d', e0, hd⟩ := hx.get h0
  obtain ⟨x', e1, hxv⟩ := hx.get h1
  split at hs
  case h_2 => cases hs
  rename_i elem n hu hm
  split at hs
  case h_2 => cases hs
  rename_i size hz
  cases hmk : noMake P argTypes[1]? with
  | false => rw [hmk] at hs; cases hs
  | true =>
    rw [hmk, cond_true] at hs
    have hl := srcLen_sound (P := P) hxv hm
    cases hn0 : n.beq 0 with
    | true =>
      rw [hn0, cond_true] at hs
      have := Nat.eq_of_beq_eq_true hn0
      subst this
      cases hc : base.isSome || sLen.ble sz with
      | false => rw [hc] at hs; cases hs
      | true =>
        rw [hc] at hs
        cases hs
        have hf0 := first0 (P := P) hxv hm size w
        have fin : ∀ (A : Option Addr) (cap : Nat), d' = .slice A sLen cap → sLen ≤ cap → (Builtin.append_ argTypes ty args').run P w = .ok d' w := by
          intro A cap hA hle
          subst hA
          rw [append_pre ht e0 e1 hu hz hmk hl, if_pos (by omega)]
          rw [append_in (w' := w) hf0 (by cases A <;> rfl)]
          rfl
        refine ⟨d', w, ρ, ?_, hd, h, .refl _ _ _⟩
        cases hd with
        | nilSlice => exact fin _ _ rfl (Nat.le_of_ble_eq_true (by simpa using hc))
        | slice hr h3 h4 => exact fin _ _ rfl h3
        | emptySlice a' hb => exact fin _ _ rfl (Nat.le_refl _)
    | false =>
      rw [hn0, cond_false] at hs
      split at hs
      case h_2 => cases hs
      rename_i info zero new hi hzv hnew
      cases hc : zero.cells.size.beq size && (sLen + n).ble (2 ^ 25) && info.bytes.ble (2 ^ 20) && new.all single && new.length.beq (n * size) with
      | false => rw [hc] at hs; cases hs
      | true =>
        rw [hc, cond_true] at hs
        simp only [Bool.and_eq_true] at hc
        obtain ⟨⟨⟨⟨c1, c2⟩, c3⟩, c4⟩, c5⟩ := hc
        have c1 := Nat.eq_of_beq_eq_true c1
        have c2 := Nat.le_of_ble_eq_true c2
        have c3 := Nat.le_of_ble_eq_true c3
        have c5 := Nat.eq_of_beq_eq_true c5
        have hsrc : ∀ m, srcLen x = some m → n ≤ m := fun m hm' => by rw [hm] at hm'; cases hm'; exact Nat.le_refl _
        have hn1 : 0 < n := by
          rcases Nat.eq_zero_or_pos n with h' | h'
          · subst h'; cases hn0
          · exact h'
        have moved : ∀ (A : Option Addr) (cap : Nat) (old old' : List Value) (hq : Tr AObj), d' = .slice A sLen cap → cap < sLen + n → VRL ρ old old' → old.length = sLen * size →
            (Builtin.firstCells size sLen (.slice A sLen cap)).run P { w with drawn := w.drawn + 1 } = .ok old'.toArray { w with drawn := w.drawn + 1 } → Rel ρ W hq nx w →
            ∃ v' w' ρ', (Builtin.append_ argTypes ty args').run P w = .ok v' w' ∧ VR ρ' (.slice (some ⟨nx, 0, none⟩) (sLen + n) size) v' ∧ Rel ρ' W (hq.put nx (some (.cells (old ++ new) true))) (nx + 1) w' ∧ ρ.le ρ' ∧ (∀ b, b < nx → ρ' b = ρ b) := by
          intro A cap old old' hq hA hlt ho hol hfo hrq
          subst hA
          obtain ⟨new', g1, g2⟩ := srcCells_sound (P := P) h.drawn hxv hnew hsrc
          obtain ⟨newCap, k1, k2⟩ := append_out (P := P) (elem := elem) (base := A) (size := size) (x := x') (w := w) hi hzv c2 c3 hlt hfo g2
          obtain ⟨ρ', r1, r2, r3, r4⟩ := append_moved (elem := elem) hrq ho g1 (zero := zero.cells) (need := sLen + n) (newCap := newCap) (size := size) (by rw [hol, c5, Nat.add_mul]) k1 c1
          refine ⟨_, _, ρ', ?_, r4, r1, r2, r3⟩
          rw [append_pre ht e0 e1 hu hz hmk hl, if_neg (by omega)]
          exact k2
        cases hd with
        | nilSlice =>
          dsimp only at hs
          cases hc0 : sLen.beq 0 && sz.beq 0 with
          | false => rw [hc0] at hs; cases hs
          | true =>
            rw [hc0] at hs
            cases hs
            simp only [Bool.and_eq_true] at hc0
            have b1 := Nat.eq_of_beq_eq_true hc0.1
            have b2 := Nat.eq_of_beq_eq_true hc0.2
            subst b1 b2
            obtain ⟨v', w', ρ', r1, r2, r3, r4, r5⟩ := moved none 0 [] [] hp rfl (by omega) .nil (by simp) rfl h
            refine ⟨v', w', ρ', r1, by simpa using r2, by simpa using r3, r4, by omega, fun b hb hr => ⟨(r5 b hb).trans hr, ?_⟩⟩
            rw [Tr.get_put, if_neg (by omega)]
        | @emptySlice b o y a' _ hrb =>
          dsimp only at hs
          split at hs
          case h_2 => cases hs
          rename_i l hb
          cases hsz : sz.beq size with
          | false => rw [hsz] at hs; cases hs
          | true =>
            rw [hsz, cond_true] at hs
            split at hs
            case h_2 => cases hs
            rename_i old hold
            cases hs
            have hold0 : old = [] := by
              unfold rowOf at hold
              rw [hb] at hold
              dsimp only at hold
              rw [Nat.zero_mul] at hold
              cases hbb : (o + 0).ble l.length with
              | false => rw [hbb] at hold; cases hold
              | true => rw [hbb] at hold; cases hold; simp
            subst hold0
            obtain ⟨v', w', ρ', r1, r2, r3, r4, r5⟩ := moved (some a') 0 [] [] (hp.put b none) rfl (by omega) .nil (by simp) (by show (loadCells a' (0 * size)).run P _ = _; rw [Nat.zero_mul]; rfl) (h.drop b)
            refine ⟨v', w', ρ', r1, r2, r3, r4, by omega, fun k hk hr => ⟨(r5 k hk).trans hr, ?_⟩⟩
            rw [Tr.get_put, if_neg (by omega), Tr.get_put, if_neg (by intro e; subst e; rw [hrb] at hr; cases hr)]
        | slice hr h3 h4 =>
          rename_i b o c s z cap
          dsimp only at hs
          split at hs
          case h_2 => cases hs
          rename_i l hb
          cases hsz : sz.beq size with
          | false => rw [hsz] at hs; cases hs
          | true =>
            rw [hsz, cond_true] at hs
            have hsz := Nat.eq_of_beq_eq_true hsz
            subst hsz
            split at hs
            case h_2 => cases hs
            rename_i old hold
            cases hs
            by_cases hin : sLen + n ≤ cap
            · obtain ⟨new', g1, g2⟩ := srcCells_sound (P := P) h hxv hnew hsrc
              obtain ⟨old', g3, g4, g5⟩ := rowOf_sound (P := P) h hold hr
              have hnx : ρ nx = none := by
                cases hc : ρ nx with
                | none => rfl
                | some x => have := (h.dom nx x hc).1; omega
              have hle := Place.le_set (x := (c, s + o, z)) hnx
              have hol : ∀ (i : Nat) (v : Value), old[i]? = some v → l[o + i]? = some v := fun i v hv => by
                unfold rowOf at hold
                rw [hb] at hold
                dsimp only at hold
                cases hbb : (o + sLen * sz).ble l.length with
                | false => rw [hbb] at hold; cases hold
                | true =>
                  rw [hbb] at hold
                  cases hold
                  rw [List.getElem?_take] at hv
                  split at hv
                  · rw [List.getElem?_drop] at hv; exact hv
                  · cases hv
              have hmul : (sLen + n) * sz ≤ cap * sz := Nat.mul_le_mul_right _ hin
              have hmul2 : (sLen + n) * sz = sLen * sz + n * sz := Nat.add_mul _ _ _
              have hren := h.rename (o := o) hb hr hol (by omega)
              obtain ⟨w', k1, k2⟩ := extend_run (P := P) (o := sLen * sz) (Place.set_same ρ nx (c, s + o, z)) (g1.mono hle) 0 _ w old hren (by rw [Tr.get_put, if_pos rfl]) (by omega) (by omega) c4
              refine ⟨.slice (some ⟨c, s + o, none⟩) (sLen + n) cap, w', ρ.set nx (c, s + o, z), ?_, ?_, k2.congr (fun k => ?_), hle, by omega, fun k hk hrk => ⟨by rw [Place.set_other (by omega)]; exact hrk, ?_⟩⟩
              · rw [append_pre ht e0 e1 hu hz hmk hl, if_pos hin]
                refine append_in (base := some ⟨c, s + o, none⟩) (sLen := sLen) (sCap := cap) (w' := w') g2 ?_
                dsimp only
                rw [add_eq, show s + (o + sLen * sz) = s + o + sLen * sz by omega]
                exact k1
              · have := VR.slice (ρ := ρ.set nx (c, s + o, z)) (o := 0) (n := sLen + n) (sz := sz) (cap := cap) (Place.set_same ρ nx _) hin (by omega)
                exact this
              · simp only [Tr.get_put]
                split <;> rfl
              · rw [Tr.get_put, if_neg (by omega), Tr.get_put, if_neg (by intro e; subst e; rw [hr] at hrk; cases hrk)]
            · obtain ⟨old', g3, g4, g5⟩ := rowOf_sound (P := P) h.drawn hold hr
              obtain ⟨v', w', ρ', r1, r2, r3, r4, r5⟩ := moved (some ⟨c, s + o, none⟩) cap old old' (hp.put b none) rfl (by omega) g3 g4 g5 (h.drop b)
              refine ⟨v', w', ρ', r1, r2, r3, r4, by omega, fun k hk hrk => ⟨(r5 k hk).trans hrk, ?_⟩⟩
              rw [Tr.get_put, if_neg (by omega), Tr.get_put, if_neg (by intro e; subst e; rw [hr] at hrk; cases hrk)]
end Go.Proofs.YtegjnjmimfgijaaGreatDoor
