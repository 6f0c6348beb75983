/-
  Symbolic runs, part 4: one operation that does not write, of any kind. Conditions: as each theorem states them.
-/
import Derived.Test.YtegjnjmimfgijaaGreatDoorSc
noncomputable section
namespace Go.Proofs.YtegjnjmimfgijaaGreatDoor
open Go Go.RowKit

/-- The method that a call through an interface comes to, where it takes the value itself. -/
def aMethod (P : Program) (t : TypeId) (name : String) : Option FuncId :=
  match pureRun P (typeInfo t) with
  | some info => match info.methods.find? (fun m => m.name == name) with
    | some m => bif m.path.toList.isEmpty then match m.func, P.underlying t with
        | some (f, true), some (.pointer _) => some f
        | some (_, false), some (.pointer _) => none
        | some (f, false), some _ => some f
        | _, _ => none
      else none
    | none => none
  | none => none
theorem aMethod_run {P : Program} {t : TypeId} {name : String} {f : FuncId} (h : aMethod P t name = some f) (v : Value) (k : Nat) : pureRun P (method (k + 1) t v name) = some (f, v) := by
  unfold aMethod at h
  split at h
  case h_2 => cases h
  rename_i info hi
  split at h
  case h_2 => cases h
  rename_i m hm
  cases hp : m.path.toList.isEmpty with
  | false => rw [hp] at h; cases h
  | true =>
    rw [hp, cond_true] at h
    have hnil : m.path.toList = [] := List.isEmpty_iff.1 hp
    unfold method
    rw [pureRun_bind hi, hm]
    dsimp only
    rw [hnil]
    rw [pureRun_bind (show pureRun P (follow [] t (.val v)) = some (t, .val v) from rfl)]
    dsimp only
    cases hf : m.func with
    | none => rw [hf] at h; cases h
    | some q =>
      obtain ⟨g, pr⟩ := q
      rw [hf] at h
      cases hu : P.underlying t with
      | none => rw [hu] at h; cases pr <;> cases h
      | some d =>
        rw [hu] at h
        have hrun : pureRun P (receiverAt t (.val v) pr (if m.path.isEmpty then some ((name.splitOn ".").getLastD name) else none)) = some v := by
          unfold receiverAt
          rw [pureRun_bind (underlying_pure hu)]
          cases pr <;> cases d <;> first | rfl | cases h
        have hg : g = f := by cases pr <;> cases d <;> first | (cases h; done) | (cases h; rfl)
        subst hg
        dsimp only
        rw [pureRun_bind hrun]
        rfl
theorem nilAhead_run {P : Program} {t : TypeId} {name : String} {f : FuncId} (h : aMethod P t name = some f) (v : Value) (k : Nat) : pureRun P (nilAhead (k + 1) t v name) = some (some false) := by
  unfold aMethod at h
  split at h
  case h_2 => cases h
  rename_i info hi
  split at h
  case h_2 => cases h
  rename_i m hm
  cases hp : m.path.toList.isEmpty with
  | false => rw [hp] at h; cases h
  | true =>
    rw [hp, cond_true] at h
    have hnil : m.path.toList = [] := List.isEmpty_iff.1 hp
    unfold nilAhead
    rw [pureRun_bind hi, hm]
    dsimp only
    rw [hnil]
    rw [pureRun_bind (show pureRun P (followBlind [] t (some v)) = some (.ok (t, some v)) from rfl)]
    dsimp only
    cases hf : m.func with
    | none => rw [hf] at h; cases h
    | some q =>
      obtain ⟨g, pr⟩ := q
      rw [hf] at h
      cases hu : P.underlying t with
      | none => rw [hu] at h; cases pr <;> cases h
      | some d =>
        rw [hu] at h
        cases pr with
        | true => rfl
        | false =>
          dsimp only
          rw [pureRun_bind (underlying_pure hu)]
          cases d <;> first | rfl | cases h
def sval (r : Option (Value × Prop)) : Option (LRes × Prop) :=
  match r with
  | some (v, ob) => some (.val v, ob)
  | none => none
def sbase (P : Program) (hp : Tr AObj) (o : Oper) (ev : Operand → Option Value) : Option (LRes × Prop) :=
  match alight P hp o ev with
  | some r => some (r, True)
  | none => none
def sTreeLen (P : Program) (c : Call) (ev : Operand → Option Value) : Option Value :=
  match c.callee, c.argTypes[0]?, c.args[0]? with
  | .builtin .len, some t, some x => match ev x with
    | some (.func (.via _ _ n false) _ _) => match P.underlying t with
      | some (.slice _) => some (goInt n)
      | _ => none
    | _ => none
  | _, _, _ => none
def sCharAt (s : ByteArray) (k : Int) : Value := .int .u8 (s.data.getD k.toNat 0).toNat
/-- So many elements, each with these cells. -/
def zrow : Nat → List Value → List Value
  | 0, _ => []
  | n + 1, z => z ++ zrow n z
theorem zrow_len (z : List Value) : ∀ n, (zrow n z).length = n * z.length
  | 0 => by simp [zrow]
  | n + 1 => by rw [zrow, List.length_append, zrow_len z n, Nat.succ_mul]; omega
theorem zrow_get {z : List Value} : ∀ {n i : Nat} {v : Value}, (zrow n z)[i]? = some v → z[i % z.length]? = some v
  | 0, i, v, h => by simp [zrow] at h
  | n + 1, i, v, h => by
    rw [zrow] at h
    by_cases hi : i < z.length
    · rw [Nat.mod_eq_of_lt hi]
      rwa [List.getElem?_append_left hi] at h
    · rw [List.getElem?_append_right (by omega)] at h
      have := zrow_get h
      rwa [← Nat.mod_eq_sub_mod (by omega)] at this
/-- A slice of any length. -/
def sMakeSlice (P : Program) (t : TypeId) (x y : Value) : Option ((AObj × NewV) × Prop) :=
  match x, y, P.underlying t with
  | .int _ len, .int _ cap, some (.slice elem) => match pureRun P (typeInfo elem), pureRun P (sizeOf elem), pureRun P (zeroValue elem) with
    | some info, some size, some zv => bif flats zv.cells && (zv.cells.size.beq size && info.bytes.ble (2 ^ 20)) then
        some ((.cells (zrow len.toNat zv.cells.toList) true, .slice len.toNat size), 0 ≤ len ∧ len ≤ cap ∧ cap ≤ 2 ^ 25) else none
    | _, _, _ => none
  | _, _, _ => none
theorem sMakeSlice_sound {P : Program} {ρ : Place} {t : TypeId} {x x' y y' : Value} {ob : AObj} {nv : NewV} {pr : Prop} (hx : VR ρ x x') (hy : VR ρ y y') (h : sMakeSlice P t x y = some ((ob, nv), pr)) (hpr : pr) (w : World) :
    Makes P ρ (Instr.makeSlice t x' y') ob nv w := by
  unfold sMakeSlice at h
  split at h
  case h_2 => cases h
  rename_i k1 len k2 cap elem hu
  cases hx
  cases hy
  split at h
  case h_2 => cases h
  rename_i info size zv hi hz hzv
  cases hc : (flats zv.cells && (zv.cells.size.beq size && info.bytes.ble (2 ^ 20))) with
  | false => rw [hc] at h; cases h
  | true =>
    rw [hc, cond_true] at h
    cases h
    simp only [Bool.and_eq_true] at hc
    obtain ⟨hfl, hsz, hby⟩ := hc
    have hsz := Nat.eq_of_beq_eq_true hsz
    have hby := Nat.le_of_ble_eq_true hby
    obtain ⟨p1, p2, p3⟩ := hpr
    have wl : IntKind.i64.wrap len = len := by rw [IntKind.wrap_i64]; omega
    have wc : IntKind.i64.wrap cap = cap := by rw [IntKind.wrap_i64]; omega
    have hroom : ¬ ((info.bytes : Int) * cap > 2 ^ 48) := by
      have : (info.bytes : Int) * cap ≤ 2 ^ 20 * 2 ^ 25 := Int.mul_le_mul (by exact_mod_cast hby) p3 (by omega) (by decide)
      omega
    have hc0 : ((decide (IntKind.i64.wrap cap < 0) || decide ((info.bytes : Int) * IntKind.i64.wrap cap > 2 ^ 48)) || decide (IntKind.i64.wrap len < 0) || decide (IntKind.i64.wrap len > IntKind.i64.wrap cap)) = false := by
      rw [wl, wc]
      simp only [Bool.or_eq_false_iff, decide_eq_false_iff_not]
      exact ⟨⟨⟨by omega, hroom⟩, by omega⟩, by omega⟩
    have hzr : pureRun P (if cap.toNat * size = 0 then (pure #[] : Sem (Array Value)) else do pure (← zeroValue elem).cells) = some (if cap.toNat * size = 0 then #[] else zv.cells) := by
      by_cases h0 : cap.toNat * size = 0
      · rw [if_pos h0, if_pos h0]; rfl
      · rw [if_neg h0, if_neg h0, pureRun_bind hzv]; rfl
    have hrun : (Instr.makeSlice t (.int k1 len) (.int k2 cap)).run P w = ((newRow elem ((Array.range (cap.toNat * size)).map ((if cap.toNat * size = 0 then #[] else zv.cells)[· % (if cap.toNat * size = 0 then #[] else zv.cells).size]!))) >>= fun a => pure (.slice (some a) len.toNat cap.toNat)).run P w := by
      unfold Instr.makeSlice
      rw [bind_run (underlying_pure hu)]
      dsimp only
      show ((typeInfo elem) >>= _).run P w = _
      rw [bind_run hi]
      dsimp only
      rw [if_neg (by rw [hc0]; simp)]
      have hr : pureRun P (askRoom ((IntKind.i64.wrap cap).toNat * info.bytes)) = some () := by unfold askRoom; split <;> rfl
      rw [bind_run hr]
      rw [bind_run hz]
      rw [wl, wc]
      have hj : ∀ (k : Array Value → Sem Value), (if cap.toNat * size = 0 then (pure #[] : Sem (Array Value)) >>= k else zeroValue elem >>= fun z => pure z.cells >>= k).run P w = (k (if cap.toNat * size = 0 then #[] else zv.cells)).run P w := by
        intro k
        rw [← bind_run hzr k w]
        by_cases h0 : cap.toNat * size = 0
        · rw [if_pos h0, if_pos h0]
        · rw [if_neg h0, if_neg h0]
          simp only [bind_assoc]
      exact hj _
    have hlc : len.toNat ≤ cap.toNat := by omega
    have hmul : len.toNat * size ≤ cap.toNat * size := Nat.mul_le_mul_right _ hlc
    refine ⟨_, .cells ((Array.range (cap.toNat * size)).map ((if cap.toNat * size = 0 then #[] else zv.cells)[· % (if cap.toNat * size = 0 then #[] else zv.cells).size]!)) elem, w.drawn, cap.toNat * size, hrun.trans rfl, fun O hO => ⟨by simp, ?_, fun o _ => by simp, fun i v hv => ?_, fun _ => hO⟩, fun ρ' b hb => ?_⟩
    · rw [zrow_len, Array.length_toList, hsz]; omega
    · have hi1 : i < (zrow len.toNat zv.cells.toList).length := (List.getElem?_eq_some_iff.1 hv).1
      rw [zrow_len, Array.length_toList, hsz] at hi1
      have hne : cap.toNat * size ≠ 0 := by omega
      have hg := zrow_get hv
      rw [Array.length_toList] at hg
      refine ⟨v, ?_, ?_⟩
      · have e1 : (if cap.toNat * size = 0 then #[] else zv.cells) = zv.cells := if_neg hne
        have hg' : zv.cells[i % zv.cells.size]? = some v := by simpa using hg
        have hlt : i < cap.toNat * size := by omega
        rw [Nat.zero_add, Array.getElem?_map, Array.getElem?_range, if_pos hlt, e1]
        simp only [Option.map_some]
        rw [getElem!_def, hg']
      · exact flat_refl (all_get hfl (i := i % zv.cells.size) (by simpa using hg))
    · have h2 := VR.slice (ρ := ρ') (o := 0) (n := len.toNat) (sz := size) (cap := cap.toNat) hb hlc (by omega)
      exact h2
/-- An operation that does not write, and what must be shown for it. -/
def slight (P : Program) (hp : Tr AObj) (o : Oper) (ev : Operand → Option Value) : Option (LRes × Prop) :=
  match o.op with
  | .load t x => match ev x with
    | some (.func (.via i _ off true) els _) => sval (sLoad P t els i off)
    | _ => sbase P hp o ev
  | .indexAddr t x i => match ev x, ev i with
    | some v, some (.int _ k) => sval (sIndexAddr P t v k)
    | _, _ => none
  | .fieldAddr t x f => match ev x with
    | some (.func (.via i _ off true) els _) => sval (sFieldAt P t els i off f)
    | _ => sbase P hp o ev
  | .nilCheck x => match ev x with
    | some (.func (.via i _ off true) els _) => some (.val (treeAt els i off), True)
    | some (.func (.method name) first cap) => match first.toList with
      | [.iface t _] => match aMethod P t name with
        | some _ => some (.val (.func (.method name) first cap), True)
        | none => none
      | _ => none
    | _ => sbase P hp o ev
  | .typeAssert x _ y true => match ev x, P.underlying y with
    | some (.iface t v), some (.int _) => bif Nat.beq t y then some (.val (.tuple #[v, .bool true]), True) else none
    | _, _ => none
  | .makeFunc fn f c => match fn with
    | .method name => match evL ev f.toList, c.toList with
      | some [v], [] => some (.val (.func (.method name) #[v] #[]), True)
      | _, _ => none
    | _ => sbase P hp o ev
  | .slice t x lo hi none => match ev x with
    | some v => match sSlice P ev t v lo hi with
      | some r => sval (some r)
      | none => sbase P hp o ev
    | none => none
  | .index t x i => match ev x, ev i with
    | some (.string s), some (.int _ k) => match P.underlying t with
      | some .string => some (.val (sCharAt s k), 0 ≤ k ∧ k < (s.size : Int))
      | _ => none
    | _, _ => sbase P hp o ev
  | .binOp op t x y _ => match ev x, ev y with
    | some u, some z => match sBin P op t u z with
      | some r => sval (some r)
      | none => match aEq P op t u z with
        | some b => some (.val b, True)
        | none => match scalar P o ev with
          | some v => some (.val v, True)
          | none => none
    | _, _ => none
  | .convert src dst x => match ev x with
    | some (.slice (some A) n c) => sval (sBytes P hp src dst (.slice (some A) n c))
    | some (.func fn els c) => sval (sBytes P hp src dst (.func fn els c))
    | some _ => sbase P hp o ev
    | none => none
  | .pick c x y => match ev c with
    | some (.bool b) => Bool.rec (motive := fun _ => Option (LRes × Prop)) (match ev y with | some v => some (.val v, True) | none => none) (match ev x with | some v => some (.val v, True) | none => none) b
    | _ => none
  | .makeSlice t x y => match ev x, ev y with
    | some u, some v => match sMakeSlice P t u v with
      | some (q, pr) => some (.new q.1 q.2, pr)
      | none => none
    | _, _ => none
  | .call c => match sTreeLen P c ev with
    | some v => some (.val v, True)
    | none => sbase P hp o ev
  | _ => sbase P hp o ev
theorem sval_eq {r : Option (Value × Prop)} {q : LRes} {ob : Prop} (h : sval r = some (q, ob)) : ∃ v, r = some (v, ob) ∧ q = .val v := by
  unfold sval at h
  split at h
  · cases h; exact ⟨_, rfl, rfl⟩
  · cases h
theorem sbase_eq {P : Program} {hp : Tr AObj} {o : Oper} {ev : Operand → Option Value} {q : LRes} {ob : Prop} (h : sbase P hp o ev = some (q, ob)) : alight P hp o ev = some q := by
  unfold sbase at h
  split at h
  · rename_i r hr; cases h; exact hr
  · cases h
theorem sTreeLen_sound {P : Program} {ρ : Place} {ev : Operand → Option Value} {a : Act} (hF : ERel ρ ev a) {o : Oper} {c : Call} (ho : o.op = .call c) {v : Value} (h : sTreeLen P c ev = some v) (w : World) :
    ∃ v', (execOp a.eval o).run P w = .ok (.value v') w ∧ VR ρ v v' := by
  obtain ⟨callee, args, argTypes⟩ := c
  unfold sTreeLen at h
  dsimp only at h
  split at h
  case h_2 => cases h
  rename_i t x hty har
  split at h
  case h_2 => cases h
  rename_i sz pth n els cap hv
  split at h
  case h_2 => cases h
  rename_i e hu
  cases h
  have hx := hF.eval hv
  generalize he : a.eval x = E at hx
  have main : ∀ (A' : Option Addr) (m' : Nat), E = .slice A' n m' → ∃ v', (execOp a.eval o).run P w = .ok (.value v') w ∧ VR ρ (goInt n) v' := by
    intro A' m' he'
    refine ⟨goInt n, ?_, .int _ _⟩
    unfold execOp
    rw [ho]
    simp only [resolve]
    have hl : pureRun P (Builtin.len_ argTypes o.type (args.map a.eval)) = some (goInt n) := by
      unfold Builtin.len_
      have : (args.map a.eval)[0]? = some (.slice A' n m') := by rw [Array.getElem?_map, har]; simp [he, he']
      rw [hty, this]
      dsimp only
      rw [pureRun_bind (underlying_pure hu)]
      rfl
    show ((Builtin.len_ argTypes o.type (args.map a.eval)) >>= fun r => pure (Next.value r)).run P w = _
    rw [bind_run hl]
    rfl
  cases hx with
  | tree => exact main _ _ rfl
  | treeNil => exact main _ _ rfl
theorem slight_sound {P : Program} {ρ : Place} {W : Base} {hp : Tr AObj} {nx : Nat} {w : World} (h : Rel ρ W hp nx w) {ev : Operand → Option Value} {a : Act} (hF : ERel ρ ev a) {o : Oper} {r : LRes} {ob : Prop} (hs : slight P hp o ev = some (r, ob)) (hob : ob) :
    LightRuns P ρ o a w r := by
  have base : sbase P hp o ev = some (r, ob) → LightRuns P ρ o a w r := fun hb => alight_sound h hF (sbase_eq hb)
  obtain ⟨dst, op, type, pos, after, guard⟩ := o
  unfold slight at hs
  cases op <;> dsimp only at hs <;> try exact base hs
  case load t x =>
    split at hs
    · rename_i i pth off els cap hx
      obtain ⟨v, h1, rfl⟩ := sval_eq hs
      have hv := hF.eval hx
      have hq : ∃ v', (Instr.loadAt t (a.eval x)).run P w = .ok v' w ∧ VR ρ v v' := by
        generalize a.eval x = E at hv
        cases hv with
        | treeAt h1' h2' h3' h4' => exact sLoad_sound h (.treeAt h1' h2' h3' h4') h1 hob
      obtain ⟨v', e, hv'⟩ := hq
      exact ⟨v', value_run e, hv'⟩
    · exact base hs
  case indexAddr t x i =>
    split at hs
    case h_2 => cases hs
    rename_i u q k hx hi
    obtain ⟨v, h1, rfl⟩ := sval_eq hs
    have hi' := hF.eval hi
    obtain ⟨v', e, hv'⟩ := sIndexAddr_sound (q := q) (hF.eval hx) h1 hob w
    refine ⟨v', value_run ?_, hv'⟩
    generalize hE : a.eval i = E at hi'
    cases hi'
    exact e
  case fieldAddr t x f =>
    split at hs
    · rename_i i pth off els cap hx
      obtain ⟨v, h1, rfl⟩ := sval_eq hs
      have hv := hF.eval hx
      have hq : ∃ v', (Instr.fieldAt t (a.eval x) f).run P w = .ok v' w ∧ VR ρ v v' := by
        generalize a.eval x = E at hv
        cases hv with
        | treeAt h1' h2' h3' h4' => exact sFieldAt_sound (.treeAt h1' h2' h3' h4') h1 w
      obtain ⟨v', e, hv'⟩ := hq
      exact ⟨v', value_run e, hv'⟩
    · exact base hs
  case nilCheck x =>
    split at hs
    · rename_i i pth off els cap hx
      cases hs
      have hv := hF.eval hx
      refine ⟨a.eval x, ?_, ?_⟩
      · unfold execOp
        dsimp only
        generalize a.eval x = E at hv
        cases hv with
        | treeAt => rfl
      · generalize a.eval x = E at hv
        cases hv with
        | treeAt h1' h2' h3' h4' => exact .treeAt h1' h2' h3' h4'
    · rename_i name first cap hx
      split at hs
      case h_2 => cases hs
      rename_i t u hfst
      split at hs
      case h_2 => cases hs
      rename_i k hm
      cases hs
      have hv := hF.eval hx
      have key : ∀ E, VR ρ (.func (.method name) first cap) E → ∃ u', E = .func (.method name) #[.iface t u'] #[] := by
        intro E hE
        cases hE with
        | meth _ hv0 =>
          cases hfst
          cases hv0 with
          | iface _ hu => exact ⟨_, rfl⟩
      obtain ⟨u', he⟩ := key _ hv
      refine ⟨a.eval x, ?_, hv⟩
      have hd : 0 < Made.depth := by decide
      have hpos : ∃ j, P.types.size + Made.depth = j + 1 := ⟨P.types.size + Made.depth - 1, by omega⟩
      obtain ⟨j, hj⟩ := hpos
      unfold execOp
      dsimp only
      rw [he]
      dsimp only
      have e0 : (#[Value.iface t u'])[0]? = some (.iface t u') := rfl
      rw [e0]
      dsimp only
      have hprog : pureRun P program = some P := rfl
      rw [bind_run hprog]
      rw [hj]
      rw [bind_run (nilAhead_run hm u' j)]
      rfl
    · exact base hs
  case typeAssert x xt y ok =>
    cases ok with
    | false => exact base hs
    | true =>
      dsimp only at hs
      split at hs
      case h_2 => cases hs
      rename_i t v k hx hu
      cases hb : Nat.beq t y with
      | false => rw [hb] at hs; cases hs
      | true =>
        rw [hb] at hs
        cases hs
        have hty : t = y := Nat.eq_of_beq_eq_true hb
        subst hty
        have hv := hF.eval hx
        generalize hE : a.eval x = E at hv
        cases hv with
        | @iface _ _ v' hv =>
          refine ⟨.tuple #[v', .bool true], value_run ?_, .tuple rfl fun i u u' h1 h2 => ?_⟩
          · rw [hE]
            unfold Instr.typeAssert
            rw [bind_run (underlying_pure hu)]
            dsimp only
            rw [if_pos rfl]
            rfl
          · rcases i with _ | _ | i
            · cases h1; cases h2; exact hv
            · cases h1; cases h2; exact .bool true
            · simp at h1
  case makeFunc fn f c =>
    cases fn <;> try exact base hs
    rename_i name
    dsimp only at hs
    split at hs
    case h_2 => cases hs
    rename_i v hf hc
    cases hs
    have h1 := evL_sound hF hf
    have hcc : c = #[] := by apply Array.ext'; simpa using hc
    subst hcc
    generalize hl : f.toList.map a.eval = l at h1
    cases h1 with
    | cons hv ht =>
      cases ht
      rename_i v'
      refine ⟨.func (.method name) #[v'] #[], ?_, .meth name hv⟩
      have e1 : f.map a.eval = #[v'] := by apply Array.ext'; simpa using hl
      have e2 : (#[] : Array Operand).map a.eval = #[] := by simp
      unfold execOp
      dsimp only
      rw [e1, e2]
      rfl
  case slice t x lo hi mx =>
    cases mx with
    | some m => exact base hs
    | none =>
      dsimp only at hs
      split at hs
      case h_2 => cases hs
      rename_i u hx
      split at hs
      · rename_i r0 hr
        obtain ⟨v, h1, rfl⟩ := sval_eq hs
        cases h1
        obtain ⟨v', e, hv'⟩ := sSlice_sound hF (hF.eval hx) hr hob w
        exact ⟨v', value_run e, hv'⟩
      · exact base hs
  case index t x i =>
    split at hs
    · rename_i s q k hx hi
      split at hs
      case h_2 => cases hs
      rename_i hu
      cases hs
      have hv := hF.eval hx
      have hi' := hF.eval hi
      refine ⟨sCharAt s k, value_run ?_, .int _ _⟩
      generalize a.eval x = X at hv
      generalize a.eval i = I at hi'
      cases hv
      cases hi'
      unfold Instr.index
      rw [bind_run (asInt_run q k)]
      dsimp only
      rw [bind_run (underlying_pure hu)]
      dsimp only
      rw [if_pos hob.1]
      have hlt : k.toNat < s.data.size := by
        have h2 := hob.2
        have h3 : s.data.size = s.size := rfl
        omega
      have e : s[k.toNat]? = some (s.data.getD k.toNat 0) := by
        rw [Array.getD_eq_getD_getElem?, Array.getElem?_eq_getElem hlt]
        exact getElem?_pos s k.toNat hlt
      rw [e]
      rfl
    · exact base hs
  case binOp op t x y ty =>
    split at hs
    case h_2 => cases hs
    rename_i u z hx hy
    split at hs
    · rename_i r0 hr
      obtain ⟨v, h1, rfl⟩ := sval_eq hs
      cases h1
      obtain ⟨g1, g2, g3, g4⟩ := sBin_sound (P := P) (t := t) (x := x) (y := y) hr hob w
      have e1 := closed1_eq g2 (hF.eval hx)
      have e2 := closed1_eq g3 (hF.eval hy)
      refine ⟨v, ?_, closed_refl g4⟩
      unfold execOp
      dsimp only
      rw [e1, e2]
      exact g1
    split at hs
    · rename_i b hb
      cases hs
      refine ⟨b, aEq_sound (hF.eval hx) (hF.eval hy) hb w, ?_⟩
      have : ∃ c, b = .bool c := by
        unfold aEq at hb
        have hE : ∀ c, eqRes c op = some b → ∃ c, b = .bool c := by
          intro c hh
          cases op <;> simp only [eqRes, reduceCtorEq, Option.some.injEq] at hh <;> exact ⟨_, hh.symm⟩
        split at hb <;> first | (split at hb <;> first | exact hE _ hb | cases hb) | cases hb
      obtain ⟨c, rfl⟩ := this
      exact .bool c
    split at hs
    case h_2 => cases hs
    rename_i v hv
    cases hs
    exact scalar_sound hF hv w
  case convert src dst' x =>
    split at hs
    · rename_i A n c hx
      obtain ⟨v, h1, rfl⟩ := sval_eq hs
      obtain ⟨v', e, hv'⟩ := sBytes_sound h (hF.eval hx) h1 hob
      exact ⟨v', value_run e, hv'⟩
    · rename_i fn els c hx
      obtain ⟨v, h1, rfl⟩ := sval_eq hs
      obtain ⟨v', e, hv'⟩ := sBytes_sound h (hF.eval hx) h1 hob
      exact ⟨v', value_run e, hv'⟩
    · exact base hs
    · cases hs
  case makeSlice t x y =>
    split at hs
    case h_2 => cases hs
    rename_i u v hx hy
    split at hs
    case h_2 => cases hs
    rename_i q pr hq
    cases hs
    exact makes_value (sMakeSlice_sound (hF.eval hx) (hF.eval hy) hq hob w)
  case pick c x y =>
    split at hs
    case h_2 => cases hs
    rename_i b hc
    have hcv := hF.eval hc
    have hrun : (execOp a.eval ⟨dst, .pick c x y, type, pos, after, guard⟩).run P w = .ok (.value (if b then a.eval x else a.eval y)) w := by
      show ((asBool (a.eval c)) >>= fun t => pure (Next.value (if t then a.eval x else a.eval y))).run P w = _
      generalize a.eval c = C at hcv
      cases hcv
      rfl
    cases b with
    | true =>
      dsimp only at hs
      split at hs
      case h_2 => cases hs
      rename_i v hv
      cases hs
      exact ⟨_, hrun, hF.eval hv⟩
    | false =>
      dsimp only at hs
      split at hs
      case h_2 => cases hs
      rename_i v hv
      cases hs
      exact ⟨_, hrun, hF.eval hv⟩
  case call c =>
    split at hs
    · rename_i v hv
      cases hs
      exact sTreeLen_sound hF rfl hv w
    · exact base hs

theorem sBound_congr {ev ev' : Operand → Option Value} {d : Nat} {x : Option Operand} (h : ∀ y, x = some y → ev y = ev' y) : sBound ev d x = sBound ev' d x := by
  cases x with
  | none => rfl
  | some y => simp only [sBound, h y rfl]
theorem slight_congr {P : Program} {ev ev' : Operand → Option Value} {hp : Tr AObj} {o : Oper} (h : ∀ x ∈ o.op.operands, ev x = ev' x) : slight P hp o ev = slight P hp o ev' := by
  have hb : sbase P hp o ev = sbase P hp o ev' := by unfold sbase; rw [alight_congr h]
  have hsc : scalar P o ev = scalar P o ev' := scalar_congr h
  obtain ⟨dst, op, type, pos, after, guard⟩ := o
  unfold slight
  cases op <;> dsimp only <;> try exact hb
  case load t x => rw [h x (by simp [Op.operands]), hb]
  case indexAddr t x i => rw [h x (by simp [Op.operands]), h i (by simp [Op.operands])]
  case fieldAddr t x f => rw [h x (by simp [Op.operands]), hb]
  case nilCheck x => rw [h x (by simp [Op.operands]), hb]
  case typeAssert x xt y ok =>
    cases ok
    · exact hb
    · dsimp only
      rw [h x (by simp [Op.operands])]
  case makeFunc fn f c =>
    have : evL ev f.toList = evL ev' f.toList := evL_congr fun x hx => h x (by simp [Op.operands]; exact .inl (by simpa using hx))
    rw [this, hb]
  case slice t x lo hi mx =>
    cases mx with
    | some m => exact hb
    | none =>
      dsimp only
      have : ∀ v, sSlice P ev t v lo hi = sSlice P ev' t v lo hi := fun v => by
        unfold sSlice
        have b1 : ∀ d, sBound ev d hi = sBound ev' d hi := fun d => sBound_congr fun y hy => h y (by simp [Op.operands, hy])
        have b2 : ∀ d, sBound ev d lo = sBound ev' d lo := fun d => sBound_congr fun y hy => h y (by simp [Op.operands, hy])
        simp only [b1, b2]
      rw [h x (by simp [Op.operands]), hb]
      simp only [this]
  case index t x i => rw [h x (by simp [Op.operands]), h i (by simp [Op.operands]), hb]
  case binOp op t x y ty => rw [h x (by simp [Op.operands]), h y (by simp [Op.operands]), hsc]
  case convert src dst' x => rw [h x (by simp [Op.operands]), hb]
  case makeSlice t x y => rw [h x (by simp [Op.operands]), h y (by simp [Op.operands])]
  case pick c x y => rw [h c (by simp [Op.operands]), h x (by simp [Op.operands]), h y (by simp [Op.operands])]
  case call c =>
    have : sTreeLen P c ev = sTreeLen P c ev' := by
      obtain ⟨callee, args, argTypes⟩ := c
      unfold sTreeLen
      dsimp only
      split
      · rename_i t x hty har
        rw [h x (by
          have := Array.mem_of_getElem? har
          simp [Op.operands, Call.operands, this])]
      · rfl
    rw [this, hb]
theorem slight_still {P : Program} {ev : Operand → Option Value} {hp hp' : Tr AObj} {o : Oper} (h : isRead o ev = false) : slight P hp o ev = slight P hp' o ev := by
  have hb : sbase P hp o ev = sbase P hp' o ev := by unfold sbase; rw [alight_still h]
  obtain ⟨dst, op, type, pos, after, guard⟩ := o
  unfold slight
  cases op <;> dsimp only <;> try exact hb
  case load t x => cases h
  case fieldAddr t x f => rw [hb]
  case nilCheck x => rw [hb]
  case makeFunc fn f c => rw [hb]
  case typeAssert x xt y ok => cases ok <;> first | exact hb | rfl
  case slice t x lo hi mx => cases mx <;> dsimp only <;> rw [hb]
  case index t x i => rw [hb]
  case convert src dst' x =>
    split
    · rename_i A n c hx
      simp only [isRead, hx] at h
      cases h
    · rename_i fn els c hx
      have : sBytes P hp src dst' (.func fn els c) = sBytes P hp' src dst' (.func fn els c) := by
        unfold sBytes
        split
        · split
          · split
            · rename_i heq; cases heq
            · rfl
            · rfl
          · rfl
        · rfl
      rw [this]
    · exact hb
    · rfl
  case call c => rw [hb]
/-- What an operation that does not write gives, by the plain evaluator or by the symbolic one. -/
def LOk (P : Program) (hp : Tr AObj) (o : Oper) (ev : Operand → Option Value) (r : LRes) : Prop := alight P hp o ev = some r ∨ ∃ ob, slight P hp o ev = some (r, ob) ∧ ob
theorem LOk.sound {P : Program} {ρ : Place} {W : Base} {hp : Tr AObj} {nx : Nat} {w : World} (h : Rel ρ W hp nx w) {ev : Operand → Option Value} {a : Act} (hF : ERel ρ ev a) {o : Oper} {r : LRes} (hs : LOk P hp o ev r) : LightRuns P ρ o a w r := by
  rcases hs with hs | ⟨ob, h1, h2⟩
  · exact alight_sound h hF hs
  · exact slight_sound h hF h1 h2
theorem LOk.congr {P : Program} {ev ev' : Operand → Option Value} {hp : Tr AObj} {o : Oper} {r : LRes} (h : ∀ x ∈ o.op.operands, ev x = ev' x) (hs : LOk P hp o ev r) : LOk P hp o ev' r := by
  unfold LOk at *
  rw [← alight_congr h, ← slight_congr h]
  exact hs
theorem LOk.still {P : Program} {ev : Operand → Option Value} {hp hp' : Tr AObj} {o : Oper} {r : LRes} (h : isRead o ev = false) (hs : LOk P hp o ev r) : LOk P hp' o ev r := by
  unfold LOk at *
  rw [← alight_still (hp := hp) h, ← slight_still (hp := hp) h]
  exact hs
end Go.Proofs.YtegjnjmimfgijaaGreatDoor
