/-
  Closed runs by evaluation, part 7: operations that read, and operations that make memory. Conditions: as each theorem states them.
-/
import Derived.Test.YtegjnjmimfgijaaGreatDoorEvf
noncomputable section
namespace Go.Proofs.YtegjnjmimfgijaaGreatDoor
open Go Go.RowKit

theorem loadFrom_run {P : Program} {w : World} {a : Addr} : ∀ (vs : List Value) (k : Nat) (acc : Array Value), (∀ (i : Nat) (v : Value), vs[i]? = some v → w.cell? (a.add (k + i)) = some v) →
    (loadCellsFrom a k vs.length acc).run P w = .ok (acc ++ vs.toArray) w
  | [], k, acc, _ => by simp [loadCellsFrom]
  | v :: vs, k, acc, h => by
    have h0 : w.cell? (a.add k) = some v := by simpa using h 0 v rfl
    simp only [List.length_cons, loadCellsFrom]
    have hl : (load (a.add k)).run P w = .ok v w := by rw [run_load, h0]
    rw [Sem.run_bind, hl, Result.andThen_ok, loadFrom_run vs (k + 1) (acc.push v) fun i u hu => by
      have := h (i + 1) u (by simpa using hu)
      rw [show k + 1 + i = k + (i + 1) by omega]
      exact this]
    simp
/-- The cells of an abstract row, as many as are asked for. -/
def rowOf (hp : Tr AObj) (b o n : Nat) : Option (List Value) :=
  match hp.get b with
  | some (.cells l _) => bif (o + n).ble l.length then some ((l.drop o).take n) else none
  | _ => none
theorem rowOf_sound {P : Program} {ρ : Place} {W : Base} {hp : Tr AObj} {nx : Nat} {w : World} (h : Rel ρ W hp nx w) {b o n c s z : Nat} {l : List Value} (hl : rowOf hp b o n = some l) (hr : ρ b = some (c, s, z)) :
    ∃ l', VRL ρ l l' ∧ l.length = n ∧ (loadCells ⟨c, s + o, none⟩ n).run P w = .ok l'.toArray w := by
  unfold rowOf at hl
  cases hb : hp.get b with
  | none => rw [hb] at hl; cases hl
  | some ob =>
    rw [hb] at hl
    cases ob <;> try (cases hl)
    rename_i cs wr
    dsimp only at hl
    cases hc : (o + n).ble cs.length with
    | false => rw [hc] at hl; cases hl
    | true =>
      rw [hc, cond_true] at hl
      cases hl
      have hle := Nat.le_of_ble_eq_true hc
      have ex : ∀ i : Nat, i < n → ∃ v', w.cell? ⟨c, s + (o + i), none⟩ = some v' ∧ ∀ v, cs[o + i]? = some v → VR ρ v v' := by
        intro i hi
        have hlt : o + i < cs.length := by omega
        obtain ⟨v', e, hv⟩ := h.cell hb hr (i := o + i) (v := cs[o + i]) (by simp)
        exact ⟨v', e, fun v hv' => by simp [hlt] at hv'; rw [← hv']; exact hv⟩
      let f : Nat → Value := fun i => if hi : i < n then (ex i hi).choose else undef
      have hf : ∀ i, i < n → w.cell? ⟨c, s + (o + i), none⟩ = some (f i) ∧ ∀ v, cs[o + i]? = some v → VR ρ v (f i) := fun i hi => by
        simp only [f, hi, dif_pos]
        exact (ex i hi).choose_spec
      refine ⟨(List.range n).map f, .of (by simp; omega) (fun i v v' hv hv' => ?_), by simp; omega, ?_⟩
      · simp only [List.getElem?_map, Option.map_eq_some_iff] at hv'
        obtain ⟨k, hk, rfl⟩ := hv'
        rw [List.getElem?_range] at hk
        · cases hk
          have hi : i < n := by
            rcases Nat.lt_or_ge i n with h' | h'
            · exact h'
            · rw [List.getElem?_take, if_neg (by omega)] at hv; cases hv
          rw [List.getElem?_take, if_pos hi, List.getElem?_drop] at hv
          exact (hf i hi).2 v hv
        · rcases Nat.lt_or_ge i n with h' | h'
          · exact h'
          · rw [List.getElem?_take, if_neg (by omega)] at hv; cases hv
      · have := loadFrom_run (P := P) (w := w) (a := ⟨c, s + o, none⟩) ((List.range n).map f) 0 #[] (fun i v hv => by
          simp only [List.getElem?_map, Option.map_eq_some_iff] at hv
          obtain ⟨k, hk, rfl⟩ := hv
          have hi : i < n := by
            rcases Nat.lt_or_ge i n with h' | h'
            · exact h'
            · rw [List.getElem?_eq_none (by simp; omega)] at hk; cases hk
          rw [List.getElem?_range hi] at hk
          cases hk
          rw [Nat.zero_add, add_eq]
          exact (hf i hi).1)
        unfold loadCells
        simpa using this

def aLoad (P : Program) (hp : Tr AObj) (t : TypeId) (x : Value) : Option Value :=
  match x with
  | .pointer (some ⟨b, o, none⟩) => match pureRun P (isAgg t) with
    | some true => match pureRun P (sizeOf t) with
      | some z => match rowOf hp b o z with
        | some l => some (.agg l.toArray)
        | none => none
      | none => none
    | some false => match hp.get b with
      | some (.cells l _) => l[o]?
      | _ => none
    | none => none
  | _ => none
theorem aLoad_sound {P : Program} {ρ : Place} {W : Base} {hp : Tr AObj} {nx : Nat} {w : World} (h : Rel ρ W hp nx w) {t : TypeId} {x x' v : Value} (hx : VR ρ x x') (hv : aLoad P hp t x = some v) :
    ∃ v', (Instr.loadAt t x').run P w = .ok v' w ∧ VR ρ v v' := by
  unfold aLoad at hv
  cases hx <;> try simp only [reduceCtorEq] at hv
  case ptr b o c s z hr =>
    unfold Instr.loadAt
    show ∃ v', (loadVar t ⟨c, s + o, none⟩).run P w = _ ∧ _
    unfold loadVar
    cases hi : pureRun P (isAgg t) with
    | none => rw [hi] at hv; cases hv
    | some q =>
      rw [hi] at hv
      rw [bind_run hi]
      cases q with
      | true =>
        dsimp only at hv
        cases hz : pureRun P (sizeOf t) with
        | none => rw [hz] at hv; cases hv
        | some m =>
          rw [hz] at hv
          dsimp only at hv
          cases hl : rowOf hp b o m with
          | none => rw [hl] at hv; cases hv
          | some l =>
            rw [hl] at hv
            cases hv
            obtain ⟨l', h1, h2, h3⟩ := rowOf_sound (P := P) h hl hr
            rw [if_pos rfl, bind_run hz, Sem.run_bind, h3]
            exact ⟨_, rfl, .agg h1.arr.1 h1.arr.2⟩
      | false =>
        dsimp only at hv
        cases hb : hp.get b with
        | none => rw [hb] at hv; cases hv
        | some ob =>
          rw [hb] at hv
          cases ob <;> try (cases hv)
          rename_i l wr
          obtain ⟨v', e, hv'⟩ := h.cell hb hr hv
          rw [if_neg (by simp), run_load, e]
          exact ⟨v', rfl, hv'⟩

/-- What Go's conversion of bytes to a string does with the cells. -/
def bytesTail (cells : Array Value) : Sem Value := do
  let mut s := ByteArray.empty
  for c in cells do
    let .int .u8 n := c | stuck "bytesToString: byte expected"
    s := s.push (UInt8.ofNat n.toNat)
  pure (.string s)
theorem bytesToString_eq (a : Addr) (n c : Nat) : Conv.bytesToString (.slice (some a) n c) = loadCells a n >>= bytesTail := rfl
def aBytes (P : Program) (hp : Tr AObj) (src dst : TypeId) (x : Value) : Option Value :=
  match x with
  | .slice (some ⟨b, o, none⟩) n _ => match P.underlying src, P.underlying dst with
    | some (.slice e), some .string => match P.underlying e with
      | some (.int .u8) => match rowOf hp b o n with
        | some l => bif flats l.toArray then
            match pureRun P (bytesTail l.toArray) with
            | some (.string s) => some (.string s)
            | _ => none
          else none
        | none => none
      | _ => none
    | _, _ => none
  | _ => none
theorem aBytes_sound {P : Program} {ρ : Place} {W : Base} {hp : Tr AObj} {nx : Nat} {w : World} (h : Rel ρ W hp nx w) {src dst : TypeId} {x x' v : Value} (hx : VR ρ x x') (hv : aBytes P hp src dst x = some v) :
    ∃ v', (convert src dst x').run P w = .ok v' w ∧ VR ρ v v' := by
  unfold aBytes at hv
  have go : ∀ (b o n : Nat) (A : Addr) (cap : Nat), (∀ l, rowOf hp b o n = some l → ∃ l', VRL ρ l l' ∧ (loadCells A n).run P w = .ok l'.toArray w) →
      (match P.underlying src, P.underlying dst with
        | some (.slice e), some .string => match P.underlying e with
          | some (.int .u8) => match rowOf hp b o n with
            | some l => bif flats l.toArray then
                match pureRun P (bytesTail l.toArray) with
                | some (.string s) => some (.string s)
                | _ => none
              else none
            | none => none
          | _ => none
        | _, _ => none) = some v → ∃ v', (convert src dst (.slice (some A) n cap)).run P w = .ok v' w ∧ VR ρ v v' := by
    intro b o n A cap hL hh
    split at hh
    · rename_i e hs hd
      split at hh
      · rename_i he
        cases hl : rowOf hp b o n with
        | none => rw [hl] at hh; cases hh
        | some l =>
          rw [hl] at hh
          dsimp only at hh
          cases hf : flats l.toArray with
          | false => rw [hf] at hh; cases hh
          | true =>
            rw [hf, cond_true] at hh
            obtain ⟨l', h1, h2⟩ := hL l hl
            have hll : l'.toArray = l.toArray := arr_eq (fun _ _ => flat_eq) hf h1.arr.1 h1.arr.2
            split at hh
            · rename_i s hp'
              cases hh
              refine ⟨.string s, ?_, .string s⟩
              unfold convert
              rw [bind_run (underlying_pure hs), bind_run (underlying_pure hd)]
              dsimp only
              rw [bind_run (underlying_pure he)]
              dsimp only
              rw [bytesToString_eq, Sem.run_bind, h2, hll]
              exact pureRun_run hp' w
            · cases hh
      · cases hh
    · cases hh
  cases hx <;> try simp only [reduceCtorEq] at hv
  case slice b o n sz c s z cap hr h1 h2 =>
    refine go b o n ⟨c, s + o, none⟩ cap (fun l hl => ?_) hv
    obtain ⟨l', h1, _, h3⟩ := rowOf_sound (P := P) h hl hr
    exact ⟨l', h1, h3⟩
  case emptySlice b o y a' sz hr =>
    refine go b o 0 a' 0 (fun l hl => ⟨[], ?_, rfl⟩) hv
    unfold rowOf at hl
    split at hl
    · rename_i l0 wr hb
      cases hc : (o + 0).ble l0.length with
      | false => rw [hc] at hl; cases hl
      | true => rw [hc, cond_true] at hl; cases hl; simp; exact .nil
    · cases hl
/-- An operation that reads memory. -/
def aread (P : Program) (hp : Tr AObj) (o : Oper) (ev : Operand → Option Value) : Option Value :=
  match o.op with
  | .load t x => match ev x with
    | some v => aLoad P hp t v
    | none => none
  | .convert src dst x => match ev x with
    | some v => aBytes P hp src dst v
    | none => none
  | _ => none
theorem aread_sound {P : Program} {ρ : Place} {W : Base} {hp : Tr AObj} {nx : Nat} {w : World} (h : Rel ρ W hp nx w) {ev : Operand → Option Value} {a : Act} (hF : ERel ρ ev a) {o : Oper} {v : Value} (hv : aread P hp o ev = some v) :
    ∃ v', (execOp a.eval o).run P w = .ok (.value v') w ∧ VR ρ v v' := by
  obtain ⟨dst, op, type, pos, after, guard⟩ := o
  unfold aread at hv
  cases op <;> dsimp only at hv <;> try (cases hv)
  case load t x =>
    cases hx : ev x with
    | none => rw [hx] at hv; cases hv
    | some u =>
      rw [hx] at hv
      obtain ⟨v', e, hr⟩ := aLoad_sound h (hF.eval hx) hv
      exact ⟨v', value_run e, hr⟩
  case convert src dst' x =>
    cases hx : ev x with
    | none => rw [hx] at hv; cases hv
    | some u =>
      rw [hx] at hv
      obtain ⟨v', e, hr⟩ := aBytes_sound h (hF.eval hx) hv
      exact ⟨v', value_run e, hr⟩
end Go.Proofs.YtegjnjmimfgijaaGreatDoor
