/-
  Closed runs by evaluation, part 8: operations that make memory. Conditions: as each theorem states them.
-/
import Derived.Test.YtegjnjmimfgijaaGreatDoorEvg
noncomputable section
namespace Go.Proofs.YtegjnjmimfgijaaGreatDoor
open Go Go.RowKit

/-- What a new block is handed out as. -/
inductive NewV where
  | ptr
  | slice (n sz : Nat)
def NewV.val (b : Nat) : NewV → Value
  | .ptr => .pointer (some ⟨b, 0, none⟩)
  | .slice n sz => .slice (some ⟨b, 0, none⟩) n sz

/-- The run of an operation that makes one block. -/
def Makes (P : Program) (ρ : Place) (s : Sem Value) (ob : AObj) (nv : NewV) (w : World) : Prop :=
  ∃ v' ob' d z, s.run P w = .ok v' (pushed { w with drawn := d } ob') ∧ (∀ O : Nat → Prop, ¬ O w.heap.size → ORel ρ O w.heap.size 0 z ob ob') ∧ (∀ ρ' b, ρ' b = some (w.heap.size, 0, z) → VR ρ' (nv.val b) v')
theorem orel_row {ρ : Place} {l : List Value} {cs cs' : Array Value} (h : VRA ρ cs cs') (hl : l = cs.toList) (O : Nat → Prop) (k : Nat) (hB : ¬ O k) (t : TypeId) : ORel ρ O k 0 cs'.size (.cells l true) (.cells cs' t) := by
  subst hl
  refine ⟨rfl, by simp [h.1], fun o _ => by simp, fun i v hv => ?_, fun _ => hB⟩
  obtain ⟨v', e, hr⟩ := h.get (i := i) (v := v) (by simpa using hv)
  exact ⟨v', by simpa using e, hr⟩
theorem makes_row {P : Program} {ρ : Place} {w : World} {t : TypeId} {cs cs' : Array Value} (h : VRA ρ cs cs') {f : Addr → Value} {nv : NewV} {s : Sem Value} (hs : s.run P w = ((newRow t cs') >>= fun a => pure (f a)).run P w)
    (hv : ∀ ρ' b, ρ' b = some (w.heap.size, 0, cs'.size) → VR ρ' (nv.val b) (f ⟨w.heap.size, 0, none⟩)) : Makes P ρ s (.cells cs.toList true) nv w :=
  ⟨_, .cells cs' t, w.drawn, cs'.size, hs.trans rfl, fun B hB => orel_row h rfl B _ hB t, hv⟩

def aAlloc (P : Program) (t : TypeId) : Option AObj :=
  match pureRun P (zeroValue t) with
  | some z => bif flats z.cells then some (.cells z.cells.toList true) else none
  | none => none
theorem aAlloc_sound {P : Program} {ρ : Place} {t : TypeId} {ob : AObj} (h : aAlloc P t = some ob) (w : World) : Makes P ρ (Instr.alloc t true (.tuple #[])) ob .ptr w := by
  unfold aAlloc at h
  cases hz : pureRun P (zeroValue t) with
  | none => rw [hz] at h; cases h
  | some z =>
    rw [hz] at h
    dsimp only at h
    cases hf : flats z.cells with
    | false => rw [hf] at h; cases h
    | true =>
      rw [hf] at h
      cases h
      refine makes_row (t := t) (f := fun a => .pointer (some a)) (flats_refl hf) ?_ fun ρ' b hb => ?_
      · unfold Instr.alloc
        rw [bind_run hz]
        rfl
      · have := VR.ptr (ρ := ρ') (o := 0) hb
        exact this
theorem aBox_sound {P : Program} {ρ : Place} {t : TypeId} {v v' : Value} (hv : VR ρ v v') (w : World) : Makes P ρ (Instr.box t v') (.cells v.cells.toList true) .ptr w :=
  makes_row (t := t) (f := fun a => .pointer (some a)) hv.cells rfl fun ρ' _ hb => VR.ptr (ρ := ρ') (o := 0) hb

def aBuildSlice (P : Program) (t : TypeId) (len : Nat) (ps : List (Nat × Value)) : Option (AObj × NewV) :=
  match P.underlying t with
  | some (.slice elem) => match pureRun P (sizeOf elem) with
    | some size => bif (len * size).ble (2 ^ 24) then
        match (if len * size = 0 then some #[] else (pureRun P (zeroValue elem)).map Value.cells) with
        | some zero =>
          let base := (Array.range (len * size)).map (zero[· % zero.size]!)
          bif flats base then
            match Instr.fill (fun i => some (i * size, size)) base ps with
            | some cells => bif cells.size.beq (len * size) then some (.cells cells.toList true, .slice len size) else none
            | none => none
          else none
        | none => none
      else none
    | none => none
  | _ => none
theorem aBuildSlice_sound {P : Program} {ρ : Place} {t : TypeId} {len : Nat} {ps ps' : List (Nat × Value)} {ob : AObj} {nv : NewV} (hp : Parts ρ ps ps') (h : aBuildSlice P t len ps = some (ob, nv)) (w : World) :
    Makes P ρ (Instr.buildSlice t len ps'.toArray) ob nv w := by
  unfold aBuildSlice at h
  split at h
  case h_2 => cases h
  rename_i elem hu
  cases hz : pureRun P (sizeOf elem) with
  | none => rw [hz] at h; cases h
  | some size =>
    rw [hz] at h
    dsimp only at h
    cases hle : (len * size).ble (2 ^ 24) with
    | false => rw [hle] at h; cases h
    | true =>
      rw [hle, cond_true] at h
      have hle' := Nat.le_of_ble_eq_true hle
      split at h
      case h_2 => cases h
      rename_i zero hzero
      cases hf : flats ((Array.range (len * size)).map (zero[· % zero.size]!)) with
      | false => rw [hf] at h; cases h
      | true =>
        rw [hf, cond_true] at h
        split at h
        case h_2 => cases h
        rename_i cells hfill
        cases hsz : cells.size.beq (len * size) with
        | false => rw [hsz] at h; cases h
        | true =>
          rw [hsz, cond_true] at h
          cases h
          have hsz' := Nat.eq_of_beq_eq_true hsz
          obtain ⟨cells', e, hv⟩ := fill_rel _ hp (flats_refl (ρ := ρ) hf) hfill
          refine makes_row (t := elem) (f := fun a => .slice (some a) len len) hv ?_ fun ρ' b hb => ?_
          · unfold Instr.buildSlice
            rw [bind_run (underlying_pure hu)]
            dsimp only
            rw [bind_run hz]
            rw [if_neg (by omega)]
            have hzr : pureRun P (if len * size = 0 then (pure #[] : Sem (Array Value)) else do pure (← zeroValue elem).cells) = some zero := by
              by_cases h0 : len * size = 0
              · rw [if_pos h0] at hzero ⊢; cases hzero; rfl
              · rw [if_neg h0] at hzero ⊢
                simp only [Option.map_eq_some_iff] at hzero
                obtain ⟨zv, h1, h2⟩ := hzero
                rw [pureRun_bind h1, ← h2]
                rfl
            have hj : ∀ (k : Array Value → Sem Value), (if len * size = 0 then (pure #[] : Sem (Array Value)) >>= k else zeroValue elem >>= fun z => pure z.cells >>= k).run P w = (k zero).run P w := by
              intro k
              rw [← bind_run hzr k w]
              by_cases h0 : len * size = 0
              · rw [if_pos h0, if_pos h0]
              · rw [if_neg h0, if_neg h0]
                simp only [bind_assoc]
            refine (hj _).trans ?_
            have e' : Instr.fill (fun i => some (i * size, size)) ((Array.range (len * size)).map (zero[· % zero.size]!)) ps'.toArray.toList = some cells' := e
            rw [e']
          · have h2 := VR.slice (ρ := ρ') (o := 0) (n := len) (sz := size) (cap := len) hb (Nat.le_refl _) (by rw [← hv.1]; omega)
            exact h2

def aMakeSlice (P : Program) (t : TypeId) (x y : Value) : Option (AObj × NewV) :=
  match x, y, P.underlying t with
  | .int _ len, .int _ cap, some (.slice elem) => match pureRun P (typeInfo elem), pureRun P (sizeOf elem) with
    | some info, some size =>
      let l := IntKind.i64.wrap len
      let c := IntKind.i64.wrap cap
      bif (c < 0 || info.bytes * c > 2 ^ 48) || l < 0 || l > c then none else
      match (if c.toNat * size = 0 then some #[] else (pureRun P (zeroValue elem)).map Value.cells) with
      | some zero =>
        let cells := (Array.range (c.toNat * size)).map (zero[· % zero.size]!)
        bif flats cells then some (.cells cells.toList true, .slice l.toNat size) else none
      | none => none
    | _, _ => none
  | _, _, _ => none
theorem aMakeSlice_sound {P : Program} {ρ : Place} {t : TypeId} {x x' y y' : Value} {ob : AObj} {nv : NewV} (hx : VR ρ x x') (hy : VR ρ y y') (h : aMakeSlice P t x y = some (ob, nv)) (w : World) :
    Makes P ρ (Instr.makeSlice t x' y') ob nv w := by
  unfold aMakeSlice at h
  split at h
  case h_2 => cases h
  rename_i k1 len k2 cap elem hu
  cases hx
  cases hy
  split at h
  case h_2 => cases h
  rename_i info size hi hz
  dsimp only at h
  cases hc : ((decide (IntKind.i64.wrap cap < 0) || decide ((info.bytes : Int) * IntKind.i64.wrap cap > 2 ^ 48)) || decide (IntKind.i64.wrap len < 0) || decide (IntKind.i64.wrap len > IntKind.i64.wrap cap)) with
  | true => rw [hc] at h; cases h
  | false =>
    rw [hc, cond_false] at h
    split at h
    case h_2 => cases h
    rename_i zero hzero
    cases hf : flats ((Array.range ((IntKind.i64.wrap cap).toNat * size)).map (zero[· % zero.size]!)) with
    | false => rw [hf] at h; cases h
    | true =>
      rw [hf, cond_true] at h
      cases h
      refine makes_row (t := elem) (f := fun a => .slice (some a) (IntKind.i64.wrap len).toNat (IntKind.i64.wrap cap).toNat) (flats_refl hf) ?_ fun ρ' b hb => ?_
      · unfold Instr.makeSlice
        rw [bind_run (underlying_pure hu)]
        dsimp only
        show ((typeInfo elem) >>= _).run P w = _
        rw [bind_run hi]
        dsimp only
        rw [if_neg (by rw [hc]; simp)]
        have hr : pureRun P (askRoom ((IntKind.i64.wrap cap).toNat * info.bytes)) = some () := by unfold askRoom; split <;> rfl
        rw [bind_run hr]
        rw [bind_run hz]
        have hzr : pureRun P (if (IntKind.i64.wrap cap).toNat * size = 0 then (pure #[] : Sem (Array Value)) else do pure (← zeroValue elem).cells) = some zero := by
          by_cases h0 : (IntKind.i64.wrap cap).toNat * size = 0
          · rw [if_pos h0] at hzero ⊢; cases hzero; rfl
          · rw [if_neg h0] at hzero ⊢
            simp only [Option.map_eq_some_iff] at hzero
            obtain ⟨zv, h1, h2⟩ := hzero
            rw [pureRun_bind h1, ← h2]
            rfl
        have hj : ∀ (k : Array Value → Sem Value), (if (IntKind.i64.wrap cap).toNat * size = 0 then (pure #[] : Sem (Array Value)) >>= k else zeroValue elem >>= fun z => pure z.cells >>= k).run P w = (k zero).run P w := by
          intro k
          rw [← bind_run hzr k w]
          by_cases h0 : (IntKind.i64.wrap cap).toNat * size = 0
          · rw [if_pos h0, if_pos h0]
          · rw [if_neg h0, if_neg h0]
            simp only [bind_assoc]
        exact hj _
      · have : (IntKind.i64.wrap len).toNat ≤ (IntKind.i64.wrap cap).toNat := by
          simp at hc
          omega
        have h2 := VR.slice (ρ := ρ') (o := 0) (n := (IntKind.i64.wrap len).toNat) (sz := size) (cap := (IntKind.i64.wrap cap).toNat) hb this (by simp)
        exact h2

def byteCells (s : ByteArray) : Array Value := s.data.map fun b => .int .u8 b.toNat
theorem byteCells_flat (s : ByteArray) : flats (byteCells s) = true := by
  unfold flats byteCells
  rw [Array.all_eq_true_iff_forall_mem]
  intro x hx
  obtain ⟨b, _, rfl⟩ := Array.mem_map.1 hx
  rfl
theorem modify_push (h : Array Obj) (o : Obj) (f : Obj → Obj) : (h.push o).modify h.size f = h.push (f o) := by
  apply Array.ext (by simp)
  intro i h1 h2
  rw [Array.getElem_modify]
  by_cases hi : h.size = i
  · subst hi; simp
  · simp only [hi, if_false]
    rw [Array.getElem_push, Array.getElem_push]
    have : i < h.size := by simp at h2; omega
    simp [this]
theorem makes_bytes {P : Program} {ρ : Place} (e : TypeId) (s : ByteArray) (w : World) : Makes P ρ (Conv.stringToBytes e s) (.cells (byteCells s).toList true) (.slice s.size 1) w := by
  let cap := (Question.appendCap s.size 0 e).cut (w.tape w.drawn (.appendCap s.size 0 e))
  have hcap : s.size ≤ cap := Nat.le_add_right _ _
  have hsz : (byteCells s ++ Array.replicate (cap - s.size) (Value.int .u8 0)).size = cap := by
    simp [byteCells]
    have : s.data.size = s.size := rfl
    omega
  let cs := byteCells s ++ Array.replicate (cap - s.size) (Value.int .u8 0)
  refine ⟨.slice (some ⟨w.heap.size, 0, none⟩) s.size cap, .cells cs e (cap, cap + 1), w.drawn + 1, cap, ?_, fun B hB => ?_, fun ρ' b hb => ?_⟩
  · unfold Conv.stringToBytes
    have hch : (choose (.appendCap s.size 0 e)).run P w = .ok cap { w with drawn := w.drawn + 1 } := by
      simp [choose, Sem.run, Question.forced, cap]
    rw [Sem.run_bind, hch, Result.andThen_ok]
    let w1 : World := { w with drawn := w.drawn + 1 }
    have hn : (newRow e cs).run P w1 = .ok ⟨w.heap.size, 0, none⟩ (pushed w1 (.cells cs e)) := rfl
    have hsh : (pushed w1 (.cells cs e)).shape? w.heap.size = some (e, cap) := by
      unfold World.shape?
      rw [pushed_at w1 (.cells cs e)]
      simp only [cs, hsz]
    have hm : (markStringish ⟨w.heap.size, 0, none⟩).run P (pushed w1 (.cells cs e)) = .ok () (pushed w1 (.cells cs e (cap, cap + 1))) := by
      unfold markStringish
      rw [Sem.run_bind]
      show (Result.andThen (.ok ((pushed w1 (.cells cs e)).shape? w.heap.size) (pushed w1 (.cells cs e))) _) = _
      rw [hsh, Result.andThen_ok]
      show Result.ok () ((pushed w1 (.cells cs e)).freeze ⟨w.heap.size, cap, none⟩ 1) = _
      congr 1
      unfold World.freeze pushed
      simp only [Nat.one_ne_zero, if_false]
      congr 1
      exact modify_push w.heap _ _
    show (newRow e cs >>= fun a => markStringish a >>= fun _ => (pure (Value.slice (some a) s.size cap) : Sem Value)).run P w1 = _
    rw [Sem.run_bind, hn, Result.andThen_ok, Sem.run_bind, hm, Result.andThen_ok]
    rfl
  · refine ⟨hsz, by simp [byteCells]; have : s.data.size = s.size := rfl; omega, fun o ho => by simp; omega, fun i v hv => ?_, fun _ => hB⟩
    have hv' : (byteCells s)[i]? = some v := by simpa using hv
    have hi : i < (byteCells s).size := by
      rcases Nat.lt_or_ge i (byteCells s).size with h' | h'
      · exact h'
      · simp [Array.getElem?_eq_none h'] at hv'
    refine ⟨v, ?_, flat_refl (all_get (byteCells_flat s) hv')⟩
    rw [Nat.zero_add, Array.getElem?_append_left hi]
    exact hv'
  · have h2 := VR.slice (ρ := ρ') (o := 0) (n := s.size) (sz := 1) (cap := cap) hb hcap (by omega)
    exact h2
def aToBytes (P : Program) (src dst : TypeId) (x : Value) : Option (AObj × NewV) :=
  match x with
  | .string s => match P.underlying src, P.underlying dst with
    | some _, some (.slice e) => match P.underlying e with
      | some (.int .u8) => some (.cells (byteCells s).toList true, .slice s.size 1)
      | _ => none
    | _, _ => none
  | _ => none
theorem aToBytes_sound {P : Program} {ρ : Place} {src dst : TypeId} {x x' : Value} {ob : AObj} {nv : NewV} (hx : VR ρ x x') (h : aToBytes P src dst x = some (ob, nv)) (w : World) : Makes P ρ (convert src dst x') ob nv w := by
  unfold aToBytes at h
  split at h
  case h_2 => cases h
  rename_i s
  cases hx
  split at h
  case h_2 => cases h
  rename_i d e hs hd
  split at h
  case h_2 => cases h
  rename_i he
  cases h
  obtain ⟨v', ob', k, z, h1, h2, h3⟩ := makes_bytes (P := P) (ρ := ρ) e s w
  refine ⟨v', ob', k, z, ?_, h2, h3⟩
  rw [← h1]
  unfold convert
  rw [bind_run (underlying_pure hs), bind_run (underlying_pure hd)]
  dsimp only
  rw [bind_run (underlying_pure he)]
def aRange (P : Program) (t : TypeId) (x : Value) : Option (AObj × NewV) :=
  match x with
  | .string s => match P.underlying t with
    | some .string => some (.iter s 0, .ptr)
    | _ => none
  | _ => none
theorem aRange_sound {P : Program} {ρ : Place} {t : TypeId} {x x' : Value} {ob : AObj} {nv : NewV} (hx : VR ρ x x') (h : aRange P t x = some (ob, nv)) (w : World) : Makes P ρ (Instr.range t x') ob nv w := by
  unfold aRange at h
  split at h
  case h_2 => cases h
  rename_i s
  cases hx
  split at h
  case h_2 => cases h
  rename_i hu
  cases h
  refine ⟨_, .stringIter s 0, w.drawn, 0, ?_, fun B hB => ⟨rfl, rfl, hB, rfl⟩, fun ρ' b hb => VR.ptr (ρ := ρ') (o := 0) hb⟩
  unfold Instr.range
  rw [bind_run (underlying_pure hu)]
  rfl
/-- An operation that makes one block. -/
def anew (P : Program) (o : Oper) (ev : Operand → Option Value) : Option (AObj × NewV) :=
  match o.op with
  | .alloc t => (aAlloc P t).map fun ob => (ob, .ptr)
  | .box _ x => (ev x).map fun v => (.cells v.cells.toList true, .ptr)
  | .buildSlice t len ps => match evP ev ps.toList with
    | some l => aBuildSlice P t len l
    | none => none
  | .makeSlice t x y => match ev x, ev y with
    | some u, some v => aMakeSlice P t u v
    | _, _ => none
  | .convert src dst x => match ev x with
    | some v => aToBytes P src dst v
    | none => none
  | .range t x => match ev x with
    | some v => aRange P t v
    | none => none
  | _ => none
theorem makes_value {P : Program} {ρ : Place} {s : Sem Value} {ob : AObj} {nv : NewV} {w : World} (h : Makes P ρ s ob nv w) :
    ∃ v' ob' d z, (s >>= fun r => pure (Next.value r)).run P w = .ok (.value v') (pushed { w with drawn := d } ob') ∧ (∀ O : Nat → Prop, ¬ O w.heap.size → ORel ρ O w.heap.size 0 z ob ob') ∧ (∀ ρ' b, ρ' b = some (w.heap.size, 0, z) → VR ρ' (nv.val b) v') := by
  obtain ⟨v', ob', d, z, h1, h2, h3⟩ := h
  exact ⟨v', ob', d, z, value_run h1, h2, h3⟩
theorem anew_sound {P : Program} {ρ : Place} {ev : Operand → Option Value} {a : Act} (hF : ERel ρ ev a) {o : Oper} {ob : AObj} {nv : NewV} (h : anew P o ev = some (ob, nv)) (w : World) :
    ∃ v' ob' d z, (execOp a.eval o).run P w = .ok (.value v') (pushed { w with drawn := d } ob') ∧ (∀ O : Nat → Prop, ¬ O w.heap.size → ORel ρ O w.heap.size 0 z ob ob') ∧ (∀ ρ' b, ρ' b = some (w.heap.size, 0, z) → VR ρ' (nv.val b) v') := by
  obtain ⟨dst, op, type, pos, after, guard⟩ := o
  unfold anew at h
  cases op <;> dsimp only at h <;> try (cases h)
  case alloc t =>
    simp only [Option.map_eq_some_iff] at h
    obtain ⟨ob', h1, h2⟩ := h
    cases h2
    exact makes_value (aAlloc_sound h1 w)
  case box t x =>
    simp only [Option.map_eq_some_iff] at h
    obtain ⟨v, h1, h2⟩ := h
    cases h2
    exact makes_value (aBox_sound (hF.eval h1) w)
  case buildSlice t len ps =>
    cases hx : evP ev ps.toList with
    | none => rw [hx] at h; cases h
    | some l =>
      rw [hx] at h
      have := makes_value (aBuildSlice_sound (evP_sound hF hx) h w)
      have e : (ps.toList.map fun p => (p.1, a.eval p.2)).toArray = ps.map fun (i, x) => (i, a.eval x) := by apply Array.ext'; simp
      rw [e] at this
      exact this
  case makeSlice t x y =>
    split at h
    · rename_i u v hx hy
      exact makes_value (aMakeSlice_sound (hF.eval hx) (hF.eval hy) h w)
    · cases h
  case convert src dst' x =>
    cases hx : ev x with
    | none => rw [hx] at h; cases h
    | some u => rw [hx] at h; exact makes_value (aToBytes_sound (hF.eval hx) h w)
  case range t x =>
    cases hx : ev x with
    | none => rw [hx] at h; cases h
    | some u => rw [hx] at h; exact makes_value (aRange_sound (hF.eval hx) h w)
end Go.Proofs.YtegjnjmimfgijaaGreatDoor
