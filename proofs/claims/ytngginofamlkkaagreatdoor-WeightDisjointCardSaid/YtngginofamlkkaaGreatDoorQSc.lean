/-
  Put together out of several texts, each in its own namespace's block. Conditions: as each theorem states them.
-/
import Derived.Test.YtngginofamlkkaaGreatDoorQEvi
import Derived.Laws.Externs
noncomputable section
namespace Go.Proofs.YtngginofamlkkaaGreatDoor
open Go Go.RowKit
set_option maxRecDepth 100000
set_option maxHeartbeats 8000000
def byteOf (v : Value) : UInt8 := UInt8.ofNat (toI v).toNat
def bytesL (l : List Value) : ByteArray := ⟨(l.map byteOf).toArray⟩
def IsU8 (v : Value) : Prop := ∃ n, v = .int .u8 n
def AllU8 (l : List Value) : Prop := ∀ v ∈ l, IsU8 v
theorem bytes_loop {P : Program} : ∀ (l : List Value) (s : ByteArray), AllU8 l →
  pureRun P (forIn l s fun c r => (match c with | .int .u8 n => pure (ForInStep.yield (r.push (UInt8.ofNat n.toNat))) | _ => do stuck "bytesToString: byte expected"; pure (ForInStep.yield r) : Sem (ForInStep ByteArray))) = some ⟨(s.data.toList ++ l.map byteOf).toArray⟩
 | [], s, _ => by
  show some s = _
  congr 1
  simp
 | v :: l, s, h => by
  obtain ⟨n, rfl⟩ := h v (by simp)
  rw [List.forIn_cons]
  dsimp only
  rw [pureRun_bind (v := ForInStep.yield (s.push (UInt8.ofNat n.toNat))) rfl]
  dsimp only
  rw [bytes_loop l _ (fun u hu => h u (by simp [hu]))]
  congr 1
  simp [ByteArray.push, byteOf, toI]
theorem bytes_run {P : Program} {l : List Value} (h : AllU8 l) : pureRun P (bytesTail l.toArray) = some (.string (bytesL l)) := by
 have e : bytesTail l.toArray = (forIn l.toArray ByteArray.empty fun c r => (match c with | .int .u8 n => pure (ForInStep.yield (r.push (UInt8.ofNat n.toNat))) | _ => do stuck "bytesToString: byte expected"; pure (ForInStep.yield r) : Sem (ForInStep ByteArray))) >>= fun s => pure (.string s) := rfl
 rw [e, List.forIn_toArray, pureRun_bind (bytes_loop l _ h)]
 show some _ = some _
 congr 2
theorem AllU8.flat {l : List Value} (h : AllU8 l) : flats l.toArray = true := by
 unfold flats
 rw [Array.all_eq_true_iff_forall_mem]
 intro x hx
 obtain ⟨n, rfl⟩ := h x (by simpa using hx)
 rfl
def sBytes (P : Program) (hp : Tr AObj) (src dst : TypeId) (x : Value) : Option (Value × Prop) :=
 match P.underlying src, P.underlying dst with
 | some (.slice e), some .string => match P.underlying e with
  | some (.int .u8) => match x with
   | .slice (some ⟨b, o, none⟩) n _ => match hp.get b with
    | some (.cells l _) => some (.string (bytesL ((l.drop o).take n)), o + n ≤ l.length ∧ AllU8 ((l.drop o).take n))
    | _ => none
   | .func (.via 1 _ _ false) els _ => some (.string (bytesL els.toList), AllU8 els.toList)
   | _ => none
  | _ => none
 | _, _ => none
theorem sBytes_sound {P : Program} {ρ : Place} {W : Base} {hp : Tr AObj} {nx : Nat} {w : World} (h : Rel ρ W hp nx w) {src dst : TypeId} {x x' v : Value} {ob : Prop} (hx : VR ρ x x') (hv : sBytes P hp src dst x = some (v, ob)) (hob : ob) :
  ∃ v', (convert src dst x').run P w = .ok v' w ∧ VR ρ v v' := by
 unfold sBytes at hv
 split at hv
 case h_2 => cases hv
 rename_i e hs hd
 split at hv
 case h_2 => cases hv
 rename_i he
 split at hv
 ·rename_i b o n cp
  split at hv
  case h_2 => cases hv
  rename_i l wr hb
  cases hv
  refine aBytes_sound h hx ?_
  unfold aBytes
  rw [hs, hd]
  dsimp only
  rw [he]
  dsimp only
  have hrow : rowOf hp b o n = some ((l.drop o).take n) := by
   unfold rowOf
   rw [hb]
   dsimp only
   rw [Nat.ble_eq_true_of_le hob.1, cond_true]
  rw [hrow]
  dsimp only
  rw [hob.2.flat, cond_true, bytes_run hob.2]
 ·rename_i pth n els cap
  cases hv
  have main : ∀ (x' : Value) (l : List Value), (Conv.bytesToString x').run P w = .ok (.string (bytesL l)) w → (∃ a n c, x' = .slice a n c) → (convert src dst x').run P w = .ok (.string (bytesL l)) w := by
   rintro x' l hr ⟨a, n, c, rfl⟩
   unfold convert
   rw [bind_run (underlying_pure hs), bind_run (underlying_pure hd)]
   dsimp only
   rw [bind_run (underlying_pure he)]
   exact hr
  cases hx with
  | treeNil sz a cp =>
   refine ⟨_, main _ _ ?_ ⟨_, _, _, rfl⟩, .string _⟩
   cases a with
   | none => rfl
   | some a =>
    rw [bytesToString_eq, Sem.run_bind]
    show (bytesTail #[]).run P w = _
    exact pureRun_run (bytes_run (P := P) (l := []) (fun v hv => by cases hv)) w
  | @tree _ _ cp c o _ cs ct fz hf hn hcap hsl hsz hr =>
   refine ⟨_, main _ _ ?_ ⟨_, _, _, rfl⟩, .string _⟩
   rw [bytesToString_eq, Sem.run_bind]
   have hl := loadFrom_run (P := P) (w := w) (a := ⟨c, o, none⟩) els.toList 0 #[] (fun i v hi => by
    obtain ⟨m, rfl⟩ := hob v (List.mem_of_getElem? hi)
    have hi' : els[i]? = some (.int .u8 m) := by simpa using hi
    have hlt : i < n := by rw [← hn]; exact (Array.getElem?_eq_some_iff.1 hi').1
    rw [Nat.zero_add, show (⟨c, o, none⟩ : Addr) = ⟨c, o + 0, none⟩ from rfl, add_eq, frz_cell h hf]
    have hlt2 : o + i * 1 + 0 < cs.size := by omega
    have := hr i 0 _ (.int .u8 m) cs[o + i * 1 + 0] hi' rfl (by simp [hlt2])
    rw [show o + (0 + i) = o + i * 1 + 0 by omega, Array.getElem?_eq_getElem hlt2]
    generalize cs[o + i * 1 + 0] = y at this
    cases this
    rfl)
   have hsz' : els.toList.length = n := by simpa using hn
   unfold loadCells
   rw [← hsz', hl, Result.andThen_ok]
   show (bytesTail (#[] ++ els.toList.toArray)).run P w = _
   rw [show #[] ++ els.toList.toArray = els.toList.toArray by simp]
   exact pureRun_run (bytes_run (P := P) hob) w
 ·cases hv
def sBin (P : Program) (op : BinOp) (t : TypeId) (u z : Value) : Option (Value × Prop) :=
 match op, u, z with
 | .quo, .int k a, .int k' b => bif decide (k = k') then some (.int k (k.wrap (a.tdiv b)), b ≠ 0) else none
 | .rem, .int k a, .int k' b => bif decide (k = k') then some (.int k (a.tmod b), b ≠ 0) else none
 | .shl, .int k a, .int _ b => some (.int k (k.wrap (a * 2 ^ (min b.toNat k.bits))), 0 ≤ b)
 | .shr, .int k a, .int _ b => some (.int k (a.fdiv (2 ^ (min b.toNat k.bits))), 0 ≤ b)
 | .add, .string x, .string y => some (.string (x ++ y), x.size + y.size ≤ 9223372036854775807)
 | .eql, .string x, .string y => some (.bool (decide (x = y)), True)
 | .neq, .string x, .string y => some (.bool (!decide (x = y)), True)
 | .eql, .int k a, .int k' b => bif decide (k = k') then some (.bool (decide (a = b)), True) else none
 | .neq, .int k a, .int k' b => bif decide (k = k') then some (.bool (!decide (a = b)), True) else none
 | .eql, .agg xs, .agg ys => bif flats xs && flats ys && !P.eqGuardType P.depth t then match sEq P 100 t (.agg xs) (.agg ys) with
   | some b => some (.bool b, True)
   | none => none
  else none
 | .neq, .agg xs, .agg ys => bif flats xs && flats ys && !P.eqGuardType P.depth t then match sEq P 100 t (.agg xs) (.agg ys) with
   | some b => some (.bool (!b), True)
   | none => none
  else none
 | _, _, _ => none
theorem sBin_sound {P : Program} {op : BinOp} {t : TypeId} {x y : Operand} {u z v : Value} {ob : Prop} (h : sBin P op t u z = some (v, ob)) (hob : ob) (w : World) :
  ((do eqGuard op t x y u z; binOp op t u z) >>= fun r => pure (Next.value r)).run P w = .ok (.value v) w ∧ closed1 u = true ∧ closed1 z = true ∧ closed v = true := by
 have main : ∀ (op : BinOp) (u z v : Value), (∀ w, (eqGuard op t x y u z).run P w = .ok () w) → (∀ w, (binOp op t u z).run P w = .ok v w) → ((do eqGuard op t x y u z; binOp op t u z) >>= fun r => pure (Next.value r)).run P w = .ok (.value v) w := by
  intro op u z v h1 h2
  rw [Sem.run_bind, Sem.run_bind, h1, Result.andThen_ok, h2, Result.andThen_ok]
  rfl
 unfold sBin at h
 split at h
 ·rename_i k a k' b
  cases hk : decide (k = k') with
  | false => rw [hk] at h; cases h
  | true =>
   rw [hk] at h; cases h
   have := of_decide_eq_true hk; subst this
   refine ⟨main _ _ _ _ (fun _ => rfl) (fun w => ?_), rfl, rfl, rfl⟩
   show (if k ≠ k then stuck _ else Op.intDiv .quo k a b : Sem Value).run P w = _
   rw [if_neg (by simp)]
   unfold Op.intDiv
   rw [if_neg hob]
   rfl
 ·rename_i k a k' b
  cases hk : decide (k = k') with
  | false => rw [hk] at h; cases h
  | true =>
   rw [hk] at h; cases h
   have := of_decide_eq_true hk; subst this
   refine ⟨main _ _ _ _ (fun _ => rfl) (fun w => ?_), rfl, rfl, rfl⟩
   show (if k ≠ k then stuck _ else Op.intDiv .rem k a b : Sem Value).run P w = _
   rw [if_neg (by simp)]
   unfold Op.intDiv
   rw [if_neg hob]
   rfl
 ·rename_i k a k' b
  cases h
  refine ⟨main _ _ _ _ (fun _ => rfl) (fun w => ?_), rfl, rfl, rfl⟩
  show (Op.shift .shl k a k' b).run P w = _
  unfold Op.shift
  rw [if_neg (by omega)]
  rfl
 ·rename_i k a k' b
  cases h
  refine ⟨main _ _ _ _ (fun _ => rfl) (fun w => ?_), rfl, rfl, rfl⟩
  show (Op.shift .shr k a k' b).run P w = _
  unfold Op.shift
  rw [if_neg (by omega)]
  rfl
 ·rename_i a b
  cases h
  refine ⟨main _ _ _ _ (fun _ => rfl) (fun w => ?_), rfl, rfl, rfl⟩
  show (Op.stringOp .add a b).run P w = _
  unfold Op.stringOp
  dsimp only
  rw [if_neg (by (have : IntKind.i64.max = 9223372036854775807 := by decide); rw [this]; omega)]
  rfl
 ·rename_i a b
  cases h
  refine ⟨main _ _ _ _ (fun _ => rfl) (fun w => ?_), rfl, rfl, rfl⟩
  show Result.ok (Value.bool (a.toList == b.toList)) w = _
  rw [← beq_toListBytes, byteArray_beq]
 ·rename_i a b
  cases h
  refine ⟨main _ _ _ _ (fun _ => rfl) (fun w => ?_), rfl, rfl, rfl⟩
  show Result.ok (Value.bool (!(a.toList == b.toList))) w = _
  rw [← beq_toListBytes, byteArray_beq]
 ·rename_i k a k' b
  cases hk : decide (k = k') with
  | false => rw [hk] at h; cases h
  | true =>
   rw [hk] at h; cases h
   have := of_decide_eq_true hk; subst this
   refine ⟨main _ _ _ _ (fun _ => rfl) (fun w => ?_), rfl, rfl, rfl⟩
   show (if k ≠ k then stuck _ else Op.intCmp .eql a b : Sem Value).run P w = _
   rw [if_neg (by simp)]
   rfl
 ·rename_i k a k' b
  cases hk : decide (k = k') with
  | false => rw [hk] at h; cases h
  | true =>
   rw [hk] at h; cases h
   have := of_decide_eq_true hk; subst this
   refine ⟨main _ _ _ _ (fun _ => rfl) (fun w => ?_), rfl, rfl, rfl⟩
   show (if k ≠ k then stuck _ else Op.intCmp .neq a b : Sem Value).run P w = _
   rw [if_neg (by simp)]
   rfl
 ·rename_i xs ys
  cases hc : flats xs && flats ys && !P.eqGuardType P.depth t with
  | false => rw [hc] at h; cases h
  | true =>
   rw [hc, cond_true] at h
   simp only [Bool.and_eq_true, Bool.not_eq_true'] at hc
   split at h
   case h_2 => cases h
   rename_i b hb
   cases h
   refine ⟨main _ _ _ _ (fun w => run_eqGuard_agg w _ t x y xs ys hc.2) (fun w => ?_), hc.1.1, hc.1.2, rfl⟩
   rw [run_eql_struct, sEq_sound 100 9900 t (.agg xs) (.agg ys) b w hc.1.1 hc.1.2 hb, Result.andThen_ok]
 ·rename_i xs ys
  cases hc : flats xs && flats ys && !P.eqGuardType P.depth t with
  | false => rw [hc] at h; cases h
  | true =>
   rw [hc, cond_true] at h
   simp only [Bool.and_eq_true, Bool.not_eq_true'] at hc
   split at h
   case h_2 => cases h
   rename_i b hb
   cases h
   refine ⟨main _ _ _ _ (fun w => run_eqGuard_agg w _ t x y xs ys hc.2) (fun w => ?_), hc.1.1, hc.1.2, rfl⟩
   rw [run_neq_struct, sEq_sound 100 9900 t (.agg xs) (.agg ys) b w hc.1.1 hc.1.2 hb, Result.andThen_ok]
 ·cases h
def aMethod (P : Program) (t : TypeId) (name : String) : Option FuncId :=
 match pureRun P (typeInfo t) with
 | some info => match info.methods.find? (fun m => m.name == name) with
  | some m => bif m.path.toList.isEmpty then match m.func, P.underlying t with
    | some (f, true), some (.pointer _) => some f
    | some (_, false), some (.pointer _) => none
    | some (f, false), some _ => some f
    | _, _ => none
   else none
  | none => none
 | none => none
theorem aMethod_run {P : Program} {t : TypeId} {name : String} {f : FuncId} (h : aMethod P t name = some f) (v : Value) (k : Nat) : pureRun P (method (k + 1) t v name) = some (f, v) := by
 unfold aMethod at h
 split at h
 case h_2 => cases h
 rename_i info hi
 split at h
 case h_2 => cases h
 rename_i m hm
 cases hp : m.path.toList.isEmpty with
 | false => rw [hp] at h; cases h
 | true =>
  rw [hp, cond_true] at h
  have hnil : m.path.toList = [] := List.isEmpty_iff.1 hp
  unfold method
  rw [pureRun_bind hi, hm]
  dsimp only
  rw [hnil]
  rw [pureRun_bind (show pureRun P (follow [] t (.val v)) = some (t, .val v) from rfl)]
  dsimp only
  cases hf : m.func with
  | none => rw [hf] at h; cases h
  | some q =>
   obtain ⟨g, pr⟩ := q
   rw [hf] at h
   cases hu : P.underlying t with
   | none => rw [hu] at h; cases pr <;> cases h
   | some d =>
    rw [hu] at h
    have hrun : pureRun P (receiverAt t (.val v) pr (if m.path.isEmpty then some ((name.splitOn ".").getLastD name) else none)) = some v := by
     unfold receiverAt
     rw [pureRun_bind (underlying_pure hu)]
     cases pr <;> cases d <;> first | rfl | cases h
    have hg : g = f := by cases pr <;> cases d <;> first | (cases h; done) | (cases h; rfl)
    subst hg
    dsimp only
    rw [pureRun_bind hrun]
    rfl
theorem nilAhead_run {P : Program} {t : TypeId} {name : String} {f : FuncId} (h : aMethod P t name = some f) (v : Value) (k : Nat) : pureRun P (nilAhead (k + 1) t v name) = some (some false) := by
 unfold aMethod at h
 split at h
 case h_2 => cases h
 rename_i info hi
 split at h
 case h_2 => cases h
 rename_i m hm
 cases hp : m.path.toList.isEmpty with
 | false => rw [hp] at h; cases h
 | true =>
  rw [hp, cond_true] at h
  have hnil : m.path.toList = [] := List.isEmpty_iff.1 hp
  unfold nilAhead
  rw [pureRun_bind hi, hm]
  dsimp only
  rw [hnil]
  rw [pureRun_bind (show pureRun P (followBlind [] t (some v)) = some (.ok (t, some v)) from rfl)]
  dsimp only
  cases hf : m.func with
  | none => rw [hf] at h; cases h
  | some q =>
   obtain ⟨g, pr⟩ := q
   rw [hf] at h
   cases hu : P.underlying t with
   | none => rw [hu] at h; cases pr <;> cases h
   | some d =>
    rw [hu] at h
    cases pr with
    | true => rfl
    | false =>
     dsimp only
     rw [pureRun_bind (underlying_pure hu)]
     cases d <;> first | rfl | cases h
def sval (r : Option (Value × Prop)) : Option (LRes × Prop) :=
 match r with
 | some (v, ob) => some (.val v, ob)
 | none => none
def sbase (P : Program) (hp : Tr AObj) (o : Oper) (ev : Operand → Option Value) : Option (LRes × Prop) :=
 match alight P hp o ev with
 | some r => some (r, True)
 | none => none
def sTreeLen (P : Program) (c : Call) (ev : Operand → Option Value) : Option Value :=
 match c.callee, c.argTypes[0]?, c.args[0]? with
 | .builtin .len, some t, some x => match ev x with
  | some (.func (.via _ _ n false) _ _) => match P.underlying t with
   | some (.slice _) => some (goInt n)
   | _ => none
  | _ => none
 | _, _, _ => none
def sCharAt (s : ByteArray) (k : Int) : Value := .int .u8 (s.data.getD k.toNat 0).toNat
def zrow : Nat → List Value → List Value
 | 0, _ => []
 | n + 1, z => z ++ zrow n z
theorem zrow_len (z : List Value) : ∀ n, (zrow n z).length = n * z.length
 | 0 => by simp [zrow]
 | n + 1 => by rw [zrow, List.length_append, zrow_len z n, Nat.succ_mul]; omega
theorem zrow_get {z : List Value} : ∀ {n i : Nat} {v : Value}, (zrow n z)[i]? = some v → z[i % z.length]? = some v
 | 0, i, v, h => by simp [zrow] at h
 | n + 1, i, v, h => by
  rw [zrow] at h
  by_cases hi : i < z.length
  ·rw [Nat.mod_eq_of_lt hi]
   rwa [List.getElem?_append_left hi] at h
  ·rw [List.getElem?_append_right (by omega)] at h
   have := zrow_get h
   rwa [← Nat.mod_eq_sub_mod (by omega)] at this
def sMakeSlice (P : Program) (t : TypeId) (x y : Value) : Option ((AObj × NewV) × Prop) :=
 match x, y, P.underlying t with
 | .int _ len, .int _ cap, some (.slice elem) => match pureRun P (typeInfo elem), pureRun P (sizeOf elem), pureRun P (zeroValue elem) with
  | some info, some size, some zv => bif flats zv.cells && (zv.cells.size.beq size && info.bytes.ble (2 ^ 20)) then
    some ((.cells (zrow len.toNat zv.cells.toList) true, .slice len.toNat size), 0 ≤ len ∧ len ≤ cap ∧ cap ≤ 2 ^ 25) else none
  | _, _, _ => none
 | _, _, _ => none
theorem sMakeSlice_sound {P : Program} {ρ : Place} {t : TypeId} {x x' y y' : Value} {ob : AObj} {nv : NewV} {pr : Prop} (hx : VR ρ x x') (hy : VR ρ y y') (h : sMakeSlice P t x y = some ((ob, nv), pr)) (hpr : pr) (w : World) :
  Makes P ρ (Instr.makeSlice t x' y') ob nv w := by
 unfold sMakeSlice at h
 split at h
 case h_2 => cases h
 rename_i k1 len k2 cap elem hu
 cases hx
 cases hy
 split at h
 case h_2 => cases h
 rename_i info size zv hi hz hzv
 cases hc : (flats zv.cells && (zv.cells.size.beq size && info.bytes.ble (2 ^ 20))) with
 | false => rw [hc] at h; cases h
 | true =>
  rw [hc, cond_true] at h
  cases h
  simp only [Bool.and_eq_true] at hc
  obtain ⟨hfl, hsz, hby⟩ := hc
  have hsz := Nat.eq_of_beq_eq_true hsz
  have hby := Nat.le_of_ble_eq_true hby
  obtain ⟨p1, p2, p3⟩ := hpr
  have wl : IntKind.i64.wrap len = len := by rw [IntKind.wrap_i64]; omega
  have wc : IntKind.i64.wrap cap = cap := by rw [IntKind.wrap_i64]; omega
  have hroom : ¬ ((info.bytes : Int) * cap > 2 ^ 48) := by
   have : (info.bytes : Int) * cap ≤ 2 ^ 20 * 2 ^ 25 := Int.mul_le_mul (by exact_mod_cast hby) p3 (by omega) (by decide)
   omega
  have hc0 : ((decide (IntKind.i64.wrap cap < 0) || decide ((info.bytes : Int) * IntKind.i64.wrap cap > 2 ^ 48)) || decide (IntKind.i64.wrap len < 0) || decide (IntKind.i64.wrap len > IntKind.i64.wrap cap)) = false := by
   rw [wl, wc]
   simp only [Bool.or_eq_false_iff, decide_eq_false_iff_not]
   exact ⟨⟨⟨by omega, hroom⟩, by omega⟩, by omega⟩
  have hzr : pureRun P (if cap.toNat * size = 0 then (pure #[] : Sem (Array Value)) else do pure (← zeroValue elem).cells) = some (if cap.toNat * size = 0 then #[] else zv.cells) := by
   by_cases h0 : cap.toNat * size = 0
   ·rw [if_pos h0, if_pos h0]; rfl
   ·rw [if_neg h0, if_neg h0, pureRun_bind hzv]; rfl
  have hrun : (Instr.makeSlice t (.int k1 len) (.int k2 cap)).run P w = ((newRow elem ((Array.range (cap.toNat * size)).map ((if cap.toNat * size = 0 then #[] else zv.cells)[· % (if cap.toNat * size = 0 then #[] else zv.cells).size]!))) >>= fun a => pure (.slice (some a) len.toNat cap.toNat)).run P w := by
   unfold Instr.makeSlice
   rw [bind_run (underlying_pure hu)]
   dsimp only
   show ((typeInfo elem) >>= _).run P w = _
   rw [bind_run hi]
   dsimp only
   rw [if_neg (by rw [hc0]; simp)]
   have hr : pureRun P (askRoom ((IntKind.i64.wrap cap).toNat * info.bytes)) = some () := by unfold askRoom; split <;> rfl
   rw [bind_run hr]
   rw [bind_run hz]
   rw [wl, wc]
   have hj : ∀ (k : Array Value → Sem Value), (if cap.toNat * size = 0 then (pure #[] : Sem (Array Value)) >>= k else zeroValue elem >>= fun z => pure z.cells >>= k).run P w = (k (if cap.toNat * size = 0 then #[] else zv.cells)).run P w := by
    intro k
    rw [← bind_run hzr k w]
    by_cases h0 : cap.toNat * size = 0
    ·rw [if_pos h0, if_pos h0]
    ·rw [if_neg h0, if_neg h0]
     simp only [bind_assoc]
   exact hj _
  have hlc : len.toNat ≤ cap.toNat := by omega
  have hmul : len.toNat * size ≤ cap.toNat * size := Nat.mul_le_mul_right _ hlc
  refine ⟨_, .cells ((Array.range (cap.toNat * size)).map ((if cap.toNat * size = 0 then #[] else zv.cells)[· % (if cap.toNat * size = 0 then #[] else zv.cells).size]!)) elem, w.drawn, cap.toNat * size, hrun.trans rfl, fun O hO => ⟨by simp, ?_, fun o _ => by simp, fun i v hv => ?_, fun _ => hO⟩, fun ρ' b hb => ?_⟩
  ·rw [zrow_len, Array.length_toList, hsz]; omega
  ·have hi1 : i < (zrow len.toNat zv.cells.toList).length := (List.getElem?_eq_some_iff.1 hv).1
   rw [zrow_len, Array.length_toList, hsz] at hi1
   have hne : cap.toNat * size ≠ 0 := by omega
   have hg := zrow_get hv
   rw [Array.length_toList] at hg
   refine ⟨v, ?_, ?_⟩
   ·have e1 : (if cap.toNat * size = 0 then #[] else zv.cells) = zv.cells := if_neg hne
    have hg' : zv.cells[i % zv.cells.size]? = some v := by simpa using hg
    have hlt : i < cap.toNat * size := by omega
    rw [Nat.zero_add, Array.getElem?_map, Array.getElem?_range, if_pos hlt, e1]
    simp only [Option.map_some]
    rw [getElem!_def, hg']
   ·exact flat_refl (all_get hfl (i := i % zv.cells.size) (by simpa using hg))
  ·have h2 := VR.slice (ρ := ρ') (o := 0) (n := len.toNat) (sz := size) (cap := cap.toNat) hb hlc (by omega)
   exact h2
structure ExtIs (P : Program) (f : FuncId) (e : Array Value → Sem Value) : Prop where
 run : ∀ (args : Array Value) (w : World), (callFunc f args).run P w = ((e args).run P w).andThen fun v w' => .ok (.value v) w'
def extTab : List (Nat × Nat) :=
 (244, 0) ::
 []
def extKind (f : Nat) : List (Nat × Nat) → Option Nat
 | [] => none
 | q :: l => bif Nat.beq q.1 f then some q.2 else extKind f l
def sExt (P : Program) (c : Call) (ev : Operand → Option Value) : Option (Value × Prop) :=
 match c.callee with
 | .value (.func f) => match extKind f extTab with
  | some 0 => match evL ev c.args.toList with
   | some [.int .u64 x, .int .u64 y, .int .u64 z] => some (.tuple #[.int .u64 ((x + y + z) % 18446744073709551616), .int .u64 ((x + y + z) / 18446744073709551616)], ExtIs P f add64Entry ∧ 0 ≤ x ∧ 0 ≤ y ∧ 0 ≤ z ∧ z ≤ 1)
   | _ => none
  | _ => none
 | _ => none
theorem sExt_sound {P : Program} {ρ : Place} {ev : Operand → Option Value} {a : Act} (hF : ERel ρ ev a) {o : Oper} {c : Call} (ho : o.op = .call c) {v : Value} {ob : Prop} (h : sExt P c ev = some (v, ob)) (hob : ob) (w : World) :
  ∃ v', (execOp a.eval o).run P w = .ok (.value v') w ∧ VR ρ v v' := by
 obtain ⟨callee, args, argTypes⟩ := c
 unfold sExt at h
 dsimp only at h
 split at h
 case h_2 => cases h
 rename_i f
 split at h
 case h_2 => cases h
 split at h
 case h_2 => cases h
 rename_i x y z he
 cases h
 obtain ⟨hx, h0, h1, h2, h3⟩ := hob
 have hl := evL_sound hF he
 have hargs : args.map a.eval = #[.int .u64 x, .int .u64 y, .int .u64 z] := by
  apply Array.ext'
  rw [Array.toList_map]
  generalize args.toList.map a.eval = l at hl
  cases hl with
  | cons g1 hl =>
  cases hl with
  | cons g2 hl =>
  cases hl with
  | cons g3 hl =>
  cases hl
  cases g1
  cases g2
  cases g3
  rfl
 have hrun : (execOp a.eval o).run P w = (callFunc f (args.map a.eval)).run P w := by
  unfold execOp
  rw [ho]
  show (callFunc f ((#[] ++ args.map a.eval) ++ #[])).run P w = _
  rw [Array.append_empty, Array.empty_append]
 refine ⟨_, ?_, .tuple rfl fun i u u' e1 e2 => ?_⟩
 ·rw [hrun, hargs, hx.run, run_add64 x y z h0 h1 h2 h3]
  rfl
 ·rcases i with _ | _ | i
  ·cases e1; cases e2; exact .int _ _
  ·cases e1; cases e2; exact .int _ _
  ·simp at e1
theorem sExt_congr {P : Program} {ev ev' : Operand → Option Value} {c : Call} (h : ∀ x ∈ c.args, ev x = ev' x) : sExt P c ev = sExt P c ev' := by
 unfold sExt
 rw [evL_congr (l := c.args.toList) fun x hx => h x (by simpa using hx)]
def symTab : List (Nat × Nat × Nat) :=
 (22, 40, 41) ::
 []
def symAt (o : Oper) (t : TypeId) (x : Operand) : Bool :=
 match o.dst, x with
 | some d, .tmp k => symTab.any fun q => Nat.beq q.1 t && (Nat.beq q.2.1 k && Nat.beq q.2.2 d)
 | _, _ => false
def etaR (P : Program) (l : List Value) : List TypeId → Nat → Option (List Value × Prop)
 | [], _ => some ([], True)
 | t :: ts, j => match eta P t (l.getD j undef), etaR P l ts (j + 1) with
  | some v, some (vs, o) => some (v :: vs, l.getD j undef = v ∧ o)
  | _, _ => none
def symLoad (P : Program) (hp : Tr AObj) (t : TypeId) (x : Value) : Option (Value × Prop) :=
 match x with
 | .pointer (some ⟨b, o, none⟩) => match hp.get b with
  | some (.cells l _) => match pureRun P (isAgg t) with
   | some false => match eta P t (l.getD o undef) with
    | some v => some (v, l.getD o undef = v)
    | none => none
   | some true => match leaves P 20 t, pureRun P (sizeOf t) with
    | some ts, some z => bif ts.length.beq z then match etaR P l ts o with
     | some (vs, ob) => some (.agg vs.toArray, ob)
     | none => none
     else none
    | _, _ => none
   | none => none
  | _ => none
 | _ => none
theorem getD_some {l : List Value} {i : Nat} {v : Value} (h : l.getD i undef = v) (hv : v ≠ undef) : l[i]? = some v := by
 rw [List.getD_eq_getElem?_getD] at h
 cases hc : l[i]? with
 | none => rw [hc] at h; exact absurd h.symm hv
 | some x => rw [hc] at h; exact congrArg some h
theorem etaR_sound {P : Program} {l : List Value} : ∀ (ts : List TypeId) (j : Nat) (vs : List Value) (ob : Prop), etaR P l ts j = some (vs, ob) → ob → vs.length = ts.length ∧ ∀ (k : Nat) (v : Value), vs[k]? = some v → l[j + k]? = some v
 | [], j, vs, ob, h, _ => by
  simp only [etaR] at h
  cases h
  exact ⟨rfl, fun k v hk => by simp at hk⟩
 | t :: ts, j, vs, ob, h, hob => by
  simp only [etaR] at h
  split at h
  case h_2 => cases h
  rename_i v us ob' h1 h2
  cases h
  obtain ⟨g1, g2⟩ := etaR_sound ts (j + 1) us ob' h2 hob.2
  refine ⟨by simp [g1], fun k v' hk => ?_⟩
  cases k with
  | zero => simp at hk; subst hk; exact getD_some hob.1 (eta_undef h1)
  | succ k => rw [show j + (k + 1) = j + 1 + k by omega]; exact g2 k v' (by simpa using hk)
theorem symLoad_sound {P : Program} {ρ : Place} {W : Base} {hp : Tr AObj} {nx : Nat} {w : World} (h : Rel ρ W hp nx w) {t : TypeId} {x x' v : Value} {ob : Prop} (hx : VR ρ x x') (hv : symLoad P hp t x = some (v, ob)) (hob : ob) :
  ∃ v', (Instr.loadAt t x').run P w = .ok v' w ∧ VR ρ v v' := by
 unfold symLoad at hv
 split at hv
 case h_2 => cases hv
 rename_i b o
 cases hx with
 | @ptr _ _ c s z hr =>
 split at hv
 case h_2 => cases hv
 rename_i l wr hb
 have cell : ∀ {i : Nat} {u : Value}, l[i]? = some u → ∃ u', w.cell? ⟨c, s + i, none⟩ = some u' ∧ VR ρ u u' := fun hu => h.cell hb hr hu
 unfold Instr.loadAt
 show ∃ v', (loadVar t ⟨c, s + o, none⟩).run P w = _ ∧ _
 unfold loadVar
 split at hv
 ·rename_i hi
  split at hv
  case h_2 => cases hv
  rename_i v0 he
  cases hv
  obtain ⟨u', e1, e2⟩ := cell (getD_some hob (eta_undef he))
  rw [bind_run hi, if_neg (by simp), run_load, e1]
  exact ⟨_, rfl, e2⟩
 ·rename_i hi
  split at hv
  case h_2 => cases hv
  rename_i ts z' hts hz
  cases hbq : ts.length.beq z' with
  | false => rw [hbq] at hv; cases hv
  | true =>
   rw [hbq, cond_true] at hv
   have hbq := Nat.eq_of_beq_eq_true hbq
   split at hv
   case h_2 => cases hv
   rename_i vs ob' hl
   cases hv
   obtain ⟨g1, g2⟩ := etaR_sound ts o vs _ hl hob
   have build : ∀ k, k ≤ vs.length → ∃ l' : List Value, l'.length = k ∧ VRL ρ (vs.take k) l' ∧ ∀ (i : Nat) (u : Value), l'[i]? = some u → w.cell? ⟨c, s + (o + i), none⟩ = some u := by
    intro k
    induction k with
    | zero => exact fun _ => ⟨[], rfl, by rw [List.take_zero]; exact .nil, fun i u hi => by simp at hi⟩
    | succ k ih =>
     intro hk
     obtain ⟨l', q1, q2, q3⟩ := ih (by omega)
     have hvk : vs[k]? = some vs[k] := List.getElem?_eq_getElem hk
     obtain ⟨u', e1, e2⟩ := cell (g2 k _ hvk)
     refine ⟨l' ++ [u'], by simp [q1], VRL.of (by rw [List.length_take, List.length_append, q1]; simp; omega) fun i a a' ha ha' => ?_, fun i u hi => ?_⟩
     ·rcases Nat.lt_or_ge i k with h' | h'
      ·rw [List.getElem?_take, if_pos (by omega)] at ha
       rw [List.getElem?_append_left (by omega)] at ha'
       exact q2.get (by rw [List.getElem?_take, if_pos h']; exact ha) ha'
      ·rw [List.getElem?_take] at ha
       split at ha
       ·have : i = k := by omega
        subst this
        rw [hvk] at ha
        cases ha
        rw [List.getElem?_append_right (by omega), q1, Nat.sub_self] at ha'
        cases ha'
        exact e2
       ·cases ha
     ·rcases Nat.lt_or_ge i k with h' | h'
      ·rw [List.getElem?_append_left (by omega)] at hi
       exact q3 i u hi
      ·rw [List.getElem?_append_right (by omega), q1] at hi
       have : i = k := by
        rcases Nat.lt_or_ge k i with h'' | h''
        ·rw [List.getElem?_eq_none (by simp; omega)] at hi; cases hi
        ·omega
       subst this
       rw [Nat.sub_self] at hi
       cases hi
       exact e1
   obtain ⟨l', q1, q2, q3⟩ := build vs.length (Nat.le_refl _)
   rw [List.take_length] at q2
   have hlen : l'.length = z' := by rw [q1, g1, hbq]
   rw [bind_run hi, if_pos rfl, bind_run hz, Sem.run_bind]
   have := loadFrom_run (P := P) (w := w) (a := ⟨c, s + o, none⟩) l' 0 #[] (fun k u hk => by
    rw [Nat.zero_add, add_eq]
    exact q3 k u hk)
   unfold loadCells
   rw [← hlen]
   rw [this, Result.andThen_ok]
   refine ⟨_, rfl, ?_⟩
   have ha := q2.arr
   simpa using VR.agg ha.1 ha.2
 ·cases hv
def slight (P : Program) (hp : Tr AObj) (o : Oper) (ev : Operand → Option Value) : Option (LRes × Prop) :=
 match o.op with
 | .load t x => bif symAt o t x then match ev x with
  | some v => sval (symLoad P hp t v)
  | none => none
  else match ev x with
  | some (.func (.via i _ off true) els _) => sval (sLoad P t els i off)
  | _ => sbase P hp o ev
 | .indexAddr t x i => match ev x, ev i with
  | some v, some (.int _ k) => sval (sIndexAddr P t v k)
  | _, _ => none
 | .fieldAddr t x f => match ev x with
  | some (.func (.via i _ off true) els _) => sval (sFieldAt P t els i off f)
  | _ => sbase P hp o ev
 | .nilCheck x => match ev x with
  | some (.func (.via i _ off true) els _) => some (.val (treeAt els i off), True)
  | some (.func (.method name) first cap) => match first.toList with
   | [.iface t _] => match aMethod P t name with
    | some _ => some (.val (.func (.method name) first cap), True)
    | none => none
   | _ => none
  | _ => sbase P hp o ev
 | .typeAssert x _ y true => match ev x, P.underlying y with
  | some (.iface t v), some (.int _) => bif Nat.beq t y then some (.val (.tuple #[v, .bool true]), True) else none
  | _, _ => none
 | .makeFunc fn f c => match fn with
  | .method name => match evL ev f.toList, c.toList with
   | some [v], [] => some (.val (.func (.method name) #[v] #[]), True)
   | _, _ => none
  | _ => sbase P hp o ev
 | .slice t x lo hi none => match ev x with
  | some v => match sSlice P ev t v lo hi with
   | some r => sval (some r)
   | none => sbase P hp o ev
  | none => none
 | .index t x i => match ev x, ev i with
  | some (.string s), some (.int _ k) => match P.underlying t with
   | some .string => some (.val (sCharAt s k), 0 ≤ k ∧ k < (s.size : Int))
   | _ => none
  | _, _ => sbase P hp o ev
 | .binOp op t x y _ => match ev x, ev y with
  | some u, some z => match sBin P op t u z with
   | some r => sval (some r)
   | none => match aEq P op t u z with
    | some b => some (.val b, True)
    | none => match scalar P o ev with
     | some v => some (.val v, True)
     | none => none
  | _, _ => none
 | .convert src dst x => match ev x with
  | some (.slice (some A) n c) => sval (sBytes P hp src dst (.slice (some A) n c))
  | some (.func fn els c) => sval (sBytes P hp src dst (.func fn els c))
  | some _ => sbase P hp o ev
  | none => none
 | .pick c x y => match ev c with
  | some (.bool b) => Bool.rec (motive := fun _ => Option (LRes × Prop)) (match ev y with | some v => some (.val v, True) | none => none) (match ev x with | some v => some (.val v, True) | none => none) b
  | _ => none
 | .makeSlice t x y => match ev x, ev y with
  | some u, some v => match sMakeSlice P t u v with
   | some (q, pr) => some (.new q.1 q.2, pr)
   | none => none
  | _, _ => none
 | .call c => match sTreeLen P c ev with
  | some v => some (.val v, True)
  | none => match sExt P c ev with
   | some r => sval (some r)
   | none => sbase P hp o ev
 | _ => sbase P hp o ev
theorem sval_eq {r : Option (Value × Prop)} {q : LRes} {ob : Prop} (h : sval r = some (q, ob)) : ∃ v, r = some (v, ob) ∧ q = .val v := by
 unfold sval at h
 split at h
 ·cases h; exact ⟨_, rfl, rfl⟩
 ·cases h
theorem sbase_eq {P : Program} {hp : Tr AObj} {o : Oper} {ev : Operand → Option Value} {q : LRes} {ob : Prop} (h : sbase P hp o ev = some (q, ob)) : alight P hp o ev = some q := by
 unfold sbase at h
 split at h
 ·rename_i r hr; cases h; exact hr
 ·cases h
theorem sTreeLen_sound {P : Program} {ρ : Place} {ev : Operand → Option Value} {a : Act} (hF : ERel ρ ev a) {o : Oper} {c : Call} (ho : o.op = .call c) {v : Value} (h : sTreeLen P c ev = some v) (w : World) :
  ∃ v', (execOp a.eval o).run P w = .ok (.value v') w ∧ VR ρ v v' := by
 obtain ⟨callee, args, argTypes⟩ := c
 unfold sTreeLen at h
 dsimp only at h
 split at h
 case h_2 => cases h
 rename_i t x hty har
 split at h
 case h_2 => cases h
 rename_i sz pth n els cap hv
 split at h
 case h_2 => cases h
 rename_i e hu
 cases h
 have hx := hF.eval hv
 generalize he : a.eval x = E at hx
 have main : ∀ (A' : Option Addr) (m' : Nat), E = .slice A' n m' → ∃ v', (execOp a.eval o).run P w = .ok (.value v') w ∧ VR ρ (goInt n) v' := by
  intro A' m' he'
  refine ⟨goInt n, ?_, .int _ _⟩
  unfold execOp
  rw [ho]
  simp only [resolve]
  have hl : pureRun P (Builtin.len_ argTypes o.type (args.map a.eval)) = some (goInt n) := by
   unfold Builtin.len_
   have : (args.map a.eval)[0]? = some (.slice A' n m') := by rw [Array.getElem?_map, har]; simp [he, he']
   rw [hty, this]
   dsimp only
   rw [pureRun_bind (underlying_pure hu)]
   rfl
  show ((Builtin.len_ argTypes o.type (args.map a.eval)) >>= fun r => pure (Next.value r)).run P w = _
  rw [bind_run hl]
  rfl
 cases hx with
 | tree => exact main _ _ rfl
 | treeNil => exact main _ _ rfl
theorem slight_sound {P : Program} {ρ : Place} {W : Base} {hp : Tr AObj} {nx : Nat} {w : World} (h : Rel ρ W hp nx w) {ev : Operand → Option Value} {a : Act} (hF : ERel ρ ev a) {o : Oper} {r : LRes} {ob : Prop} (hs : slight P hp o ev = some (r, ob)) (hob : ob) :
  LightRuns P ρ o a w r := by
 have base : sbase P hp o ev = some (r, ob) → LightRuns P ρ o a w r := fun hb => alight_sound h hF (sbase_eq hb)
 obtain ⟨dst, op, type, pos, after, guard⟩ := o
 unfold slight at hs
 cases op <;> dsimp only at hs <;> try exact base hs
 case load t x =>
  cases hsy : symAt ⟨dst, .load t x, type, pos, after, guard⟩ t x with
  | true =>
   rw [hsy, cond_true] at hs
   split at hs
   case h_2 => cases hs
   rename_i u hx
   obtain ⟨v, h1, rfl⟩ := sval_eq hs
   obtain ⟨v', e, hv'⟩ := symLoad_sound h (hF.eval hx) h1 hob
   exact ⟨v', value_run e, hv'⟩
  | false =>
  rw [hsy, cond_false] at hs
  split at hs
  ·rename_i i pth off els cap hx
   obtain ⟨v, h1, rfl⟩ := sval_eq hs
   have hv := hF.eval hx
   have hq : ∃ v', (Instr.loadAt t (a.eval x)).run P w = .ok v' w ∧ VR ρ v v' := by
    generalize a.eval x = E at hv
    cases hv with
    | treeAt h1' h2' h3' h4' => exact sLoad_sound h (.treeAt h1' h2' h3' h4') h1 hob
   obtain ⟨v', e, hv'⟩ := hq
   exact ⟨v', value_run e, hv'⟩
  ·exact base hs
 case indexAddr t x i =>
  split at hs
  case h_2 => cases hs
  rename_i u q k hx hi
  obtain ⟨v, h1, rfl⟩ := sval_eq hs
  have hi' := hF.eval hi
  obtain ⟨v', e, hv'⟩ := sIndexAddr_sound (q := q) (hF.eval hx) h1 hob w
  refine ⟨v', value_run ?_, hv'⟩
  generalize hE : a.eval i = E at hi'
  cases hi'
  exact e
 case fieldAddr t x f =>
  split at hs
  ·rename_i i pth off els cap hx
   obtain ⟨v, h1, rfl⟩ := sval_eq hs
   have hv := hF.eval hx
   have hq : ∃ v', (Instr.fieldAt t (a.eval x) f).run P w = .ok v' w ∧ VR ρ v v' := by
    generalize a.eval x = E at hv
    cases hv with
    | treeAt h1' h2' h3' h4' => exact sFieldAt_sound (.treeAt h1' h2' h3' h4') h1 w
   obtain ⟨v', e, hv'⟩ := hq
   exact ⟨v', value_run e, hv'⟩
  ·exact base hs
 case nilCheck x =>
  split at hs
  ·rename_i i pth off els cap hx
   cases hs
   have hv := hF.eval hx
   refine ⟨a.eval x, ?_, ?_⟩
   ·unfold execOp
    dsimp only
    generalize a.eval x = E at hv
    cases hv with
    | treeAt => rfl
   ·generalize a.eval x = E at hv
    cases hv with
    | treeAt h1' h2' h3' h4' => exact .treeAt h1' h2' h3' h4'
  ·rename_i name first cap hx
   split at hs
   case h_2 => cases hs
   rename_i t u hfst
   split at hs
   case h_2 => cases hs
   rename_i k hm
   cases hs
   have hv := hF.eval hx
   have key : ∀ E, VR ρ (.func (.method name) first cap) E → ∃ u', E = .func (.method name) #[.iface t u'] #[] := by
    intro E hE
    cases hE with
    | meth _ hv0 =>
     cases hfst
     cases hv0 with
     | iface _ hu => exact ⟨_, rfl⟩
   obtain ⟨u', he⟩ := key _ hv
   refine ⟨a.eval x, ?_, hv⟩
   have hd : 0 < Made.depth := by decide
   have hpos : ∃ j, P.types.size + Made.depth = j + 1 := ⟨P.types.size + Made.depth - 1, by omega⟩
   obtain ⟨j, hj⟩ := hpos
   unfold execOp
   dsimp only
   rw [he]
   dsimp only
   have e0 : (#[Value.iface t u'])[0]? = some (.iface t u') := rfl
   rw [e0]
   dsimp only
   have hprog : pureRun P program = some P := rfl
   rw [bind_run hprog]
   rw [hj]
   rw [bind_run (nilAhead_run hm u' j)]
   rfl
  ·exact base hs
 case typeAssert x xt y ok =>
  cases ok with
  | false => exact base hs
  | true =>
   dsimp only at hs
   split at hs
   case h_2 => cases hs
   rename_i t v k hx hu
   cases hb : Nat.beq t y with
   | false => rw [hb] at hs; cases hs
   | true =>
    rw [hb] at hs
    cases hs
    have hty : t = y := Nat.eq_of_beq_eq_true hb
    subst hty
    have hv := hF.eval hx
    generalize hE : a.eval x = E at hv
    cases hv with
    | @iface _ _ v' hv =>
     refine ⟨.tuple #[v', .bool true], value_run ?_, .tuple rfl fun i u u' h1 h2 => ?_⟩
     ·rw [hE]
      unfold Instr.typeAssert
      rw [bind_run (underlying_pure hu)]
      dsimp only
      rw [if_pos rfl]
      rfl
     ·rcases i with _ | _ | i
      ·cases h1; cases h2; exact hv
      ·cases h1; cases h2; exact .bool true
      ·simp at h1
 case makeFunc fn f c =>
  cases fn <;> try exact base hs
  rename_i name
  dsimp only at hs
  split at hs
  case h_2 => cases hs
  rename_i v hf hc
  cases hs
  have h1 := evL_sound hF hf
  have hcc : c = #[] := by apply Array.ext'; simpa using hc
  subst hcc
  generalize hl : f.toList.map a.eval = l at h1
  cases h1 with
  | cons hv ht =>
   cases ht
   rename_i v'
   refine ⟨.func (.method name) #[v'] #[], ?_, .meth name hv⟩
   have e1 : f.map a.eval = #[v'] := by apply Array.ext'; simpa using hl
   have e2 : (#[] : Array Operand).map a.eval = #[] := by simp
   unfold execOp
   dsimp only
   rw [e1, e2]
   rfl
 case slice t x lo hi mx =>
  cases mx with
  | some m => exact base hs
  | none =>
   dsimp only at hs
   split at hs
   case h_2 => cases hs
   rename_i u hx
   split at hs
   ·rename_i r0 hr
    obtain ⟨v, h1, rfl⟩ := sval_eq hs
    cases h1
    obtain ⟨v', e, hv'⟩ := sSlice_sound hF (hF.eval hx) hr hob w
    exact ⟨v', value_run e, hv'⟩
   ·exact base hs
 case index t x i =>
  split at hs
  ·rename_i s q k hx hi
   split at hs
   case h_2 => cases hs
   rename_i hu
   cases hs
   have hv := hF.eval hx
   have hi' := hF.eval hi
   refine ⟨sCharAt s k, value_run ?_, .int _ _⟩
   generalize a.eval x = X at hv
   generalize a.eval i = I at hi'
   cases hv
   cases hi'
   unfold Instr.index
   rw [bind_run (asInt_run q k)]
   dsimp only
   rw [bind_run (underlying_pure hu)]
   dsimp only
   rw [if_pos hob.1]
   have hlt : k.toNat < s.data.size := by
    have h2 := hob.2
    have h3 : s.data.size = s.size := rfl
    omega
   have e : s[k.toNat]? = some (s.data.getD k.toNat 0) := by
    rw [Array.getD_eq_getD_getElem?, Array.getElem?_eq_getElem hlt]
    exact getElem?_pos s k.toNat hlt
   rw [e]
   rfl
  ·exact base hs
 case binOp op t x y ty =>
  split at hs
  case h_2 => cases hs
  rename_i u z hx hy
  split at hs
  ·rename_i r0 hr
   obtain ⟨v, h1, rfl⟩ := sval_eq hs
   cases h1
   obtain ⟨g1, g2, g3, g4⟩ := sBin_sound (P := P) (t := t) (x := x) (y := y) hr hob w
   have e1 := closed1_eq g2 (hF.eval hx)
   have e2 := closed1_eq g3 (hF.eval hy)
   refine ⟨v, ?_, closed_refl g4⟩
   unfold execOp
   dsimp only
   rw [e1, e2]
   exact g1
  split at hs
  ·rename_i b hb
   cases hs
   refine ⟨b, aEq_sound (hF.eval hx) (hF.eval hy) hb w, ?_⟩
   have : ∃ c, b = .bool c := by
    unfold aEq at hb
    have hE : ∀ c, eqRes c op = some b → ∃ c, b = .bool c := by
     intro c hh
     cases op <;> simp only [eqRes, reduceCtorEq, Option.some.injEq] at hh <;> exact ⟨_, hh.symm⟩
    split at hb <;> first | (split at hb <;> first | exact hE _ hb | cases hb) | cases hb
   obtain ⟨c, rfl⟩ := this
   exact .bool c
  split at hs
  case h_2 => cases hs
  rename_i v hv
  cases hs
  exact scalar_sound hF hv w
 case convert src dst' x =>
  split at hs
  ·rename_i A n c hx
   obtain ⟨v, h1, rfl⟩ := sval_eq hs
   obtain ⟨v', e, hv'⟩ := sBytes_sound h (hF.eval hx) h1 hob
   exact ⟨v', value_run e, hv'⟩
  ·rename_i fn els c hx
   obtain ⟨v, h1, rfl⟩ := sval_eq hs
   obtain ⟨v', e, hv'⟩ := sBytes_sound h (hF.eval hx) h1 hob
   exact ⟨v', value_run e, hv'⟩
  ·exact base hs
  ·cases hs
 case makeSlice t x y =>
  split at hs
  case h_2 => cases hs
  rename_i u v hx hy
  split at hs
  case h_2 => cases hs
  rename_i q pr hq
  cases hs
  exact makes_value (sMakeSlice_sound (hF.eval hx) (hF.eval hy) hq hob w)
 case pick c x y =>
  split at hs
  case h_2 => cases hs
  rename_i b hc
  have hcv := hF.eval hc
  have hrun : (execOp a.eval ⟨dst, .pick c x y, type, pos, after, guard⟩).run P w = .ok (.value (if b then a.eval x else a.eval y)) w := by
   show ((asBool (a.eval c)) >>= fun t => pure (Next.value (if t then a.eval x else a.eval y))).run P w = _
   generalize a.eval c = C at hcv
   cases hcv
   rfl
  cases b with
  | true =>
   dsimp only at hs
   split at hs
   case h_2 => cases hs
   rename_i v hv
   cases hs
   exact ⟨_, hrun, hF.eval hv⟩
  | false =>
   dsimp only at hs
   split at hs
   case h_2 => cases hs
   rename_i v hv
   cases hs
   exact ⟨_, hrun, hF.eval hv⟩
 case call c =>
  split at hs
  ·rename_i v hv
   cases hs
   exact sTreeLen_sound hF rfl hv w
  ·split at hs
   ·rename_i r0 hr
    obtain ⟨v, h1, rfl⟩ := sval_eq hs
    cases h1
    exact sExt_sound hF rfl hr hob w
   ·exact base hs
theorem sBound_congr {ev ev' : Operand → Option Value} {d : Nat} {x : Option Operand} (h : ∀ y, x = some y → ev y = ev' y) : sBound ev d x = sBound ev' d x := by
 cases x with
 | none => rfl
 | some y => simp only [sBound, h y rfl]
theorem slight_congr {P : Program} {ev ev' : Operand → Option Value} {hp : Tr AObj} {o : Oper} (h : ∀ x ∈ o.op.operands, ev x = ev' x) : slight P hp o ev = slight P hp o ev' := by
 have hb : sbase P hp o ev = sbase P hp o ev' := by unfold sbase; rw [alight_congr h]
 have hsc : scalar P o ev = scalar P o ev' := scalar_congr h
 obtain ⟨dst, op, type, pos, after, guard⟩ := o
 unfold slight
 cases op <;> dsimp only <;> try exact hb
 case load t x => rw [h x (by simp [Op.operands]), hb]
 case indexAddr t x i => rw [h x (by simp [Op.operands]), h i (by simp [Op.operands])]
 case fieldAddr t x f => rw [h x (by simp [Op.operands]), hb]
 case nilCheck x => rw [h x (by simp [Op.operands]), hb]
 case typeAssert x xt y ok =>
  cases ok
  ·exact hb
  ·dsimp only
   rw [h x (by simp [Op.operands])]
 case makeFunc fn f c =>
  have : evL ev f.toList = evL ev' f.toList := evL_congr fun x hx => h x (by simp [Op.operands]; exact .inl (by simpa using hx))
  rw [this, hb]
 case slice t x lo hi mx =>
  cases mx with
  | some m => exact hb
  | none =>
   dsimp only
   have : ∀ v, sSlice P ev t v lo hi = sSlice P ev' t v lo hi := fun v => by
    unfold sSlice
    have b1 : ∀ d, sBound ev d hi = sBound ev' d hi := fun d => sBound_congr fun y hy => h y (by simp [Op.operands, hy])
    have b2 : ∀ d, sBound ev d lo = sBound ev' d lo := fun d => sBound_congr fun y hy => h y (by simp [Op.operands, hy])
    simp only [b1, b2]
   rw [h x (by simp [Op.operands]), hb]
   simp only [this]
 case index t x i => rw [h x (by simp [Op.operands]), h i (by simp [Op.operands]), hb]
 case binOp op t x y ty => rw [h x (by simp [Op.operands]), h y (by simp [Op.operands]), hsc]
 case convert src dst' x => rw [h x (by simp [Op.operands]), hb]
 case makeSlice t x y => rw [h x (by simp [Op.operands]), h y (by simp [Op.operands])]
 case pick c x y => rw [h c (by simp [Op.operands]), h x (by simp [Op.operands]), h y (by simp [Op.operands])]
 case call c =>
  have : sTreeLen P c ev = sTreeLen P c ev' := by
   obtain ⟨callee, args, argTypes⟩ := c
   unfold sTreeLen
   dsimp only
   split
   ·rename_i t x hty har
    rw [h x (by
     have := Array.mem_of_getElem? har
     simp [Op.operands, Call.operands, this])]
   ·rfl
  have this2 : sExt P c ev = sExt P c ev' := sExt_congr fun x hx => h x (by simp [Op.operands, Call.operands, hx])
  rw [this, this2, hb]
theorem slight_still {P : Program} {ev : Operand → Option Value} {hp hp' : Tr AObj} {o : Oper} (h : isRead o ev = false) : slight P hp o ev = slight P hp' o ev := by
 have hb : sbase P hp o ev = sbase P hp' o ev := by unfold sbase; rw [alight_still h]
 obtain ⟨dst, op, type, pos, after, guard⟩ := o
 unfold slight
 cases op <;> dsimp only <;> try exact hb
 case load t x => cases h
 case fieldAddr t x f => rw [hb]
 case nilCheck x => rw [hb]
 case makeFunc fn f c => rw [hb]
 case typeAssert x xt y ok => cases ok <;> first | exact hb | rfl
 case slice t x lo hi mx => cases mx <;> dsimp only <;> rw [hb]
 case index t x i => rw [hb]
 case convert src dst' x =>
  split
  ·rename_i A n c hx
   simp only [isRead, hx] at h
   cases h
  ·rename_i fn els c hx
   have : sBytes P hp src dst' (.func fn els c) = sBytes P hp' src dst' (.func fn els c) := by
    unfold sBytes
    split
    ·split
     ·split
      ·rename_i heq; cases heq
      ·rfl
      ·rfl
     ·rfl
    ·rfl
   rw [this]
  ·exact hb
  ·rfl
 case call c => rw [hb]
def LOk (P : Program) (hp : Tr AObj) (o : Oper) (ev : Operand → Option Value) (r : LRes) : Prop := alight P hp o ev = some r ∨ ∃ ob, slight P hp o ev = some (r, ob) ∧ ob
theorem LOk.sound {P : Program} {ρ : Place} {W : Base} {hp : Tr AObj} {nx : Nat} {w : World} (h : Rel ρ W hp nx w) {ev : Operand → Option Value} {a : Act} (hF : ERel ρ ev a) {o : Oper} {r : LRes} (hs : LOk P hp o ev r) : LightRuns P ρ o a w r := by
 rcases hs with hs | ⟨ob, h1, h2⟩
 ·exact alight_sound h hF hs
 ·exact slight_sound h hF h1 h2
theorem LOk.congr {P : Program} {ev ev' : Operand → Option Value} {hp : Tr AObj} {o : Oper} {r : LRes} (h : ∀ x ∈ o.op.operands, ev x = ev' x) (hs : LOk P hp o ev r) : LOk P hp o ev' r := by
 unfold LOk at *
 rw [← alight_congr h, ← slight_congr h]
 exact hs
theorem LOk.still {P : Program} {ev : Operand → Option Value} {hp hp' : Tr AObj} {o : Oper} {r : LRes} (h : isRead o ev = false) (hs : LOk P hp o ev r) : LOk P hp' o ev r := by
 unfold LOk at *
 rw [← alight_still (hp := hp) h, ← slight_still (hp := hp) h]
 exact hs
end Go.Proofs.YtngginofamlkkaaGreatDoor
noncomputable section
namespace Go.Proofs.YtngginofamlkkaaGreatDoor
open Go Go.RowKit
def veqFlat : Value → Value → Bool
 | .bool a, .bool b => a == b
 | .int k n, .int k' n' => decide (k = k') && decide (n = n')
 | .string a, .string b => decide (a = b)
 | .pointer a, .pointer b => decide (a = b)
 | .slice a n c, .slice b m d => decide (a = b) && n.beq m && c.beq d
 | .nilIface, .nilIface | .nilFunc, .nilFunc => true
 | _, _ => false
def veqList : List Value → List Value → Bool
 | [], [] => true
 | x :: l, y :: m => veqFlat x y && veqList l m
 | _, _ => false
def veq : Value → Value → Bool
 | .agg a, .agg b => veqList a.toList b.toList
 | x, y => veqFlat x y
theorem veqFlat_eq {x y : Value} (h : veqFlat x y = true) : x = y := by
 unfold veqFlat at h
 split at h <;> simp only [Bool.and_eq_true, decide_eq_true_eq, beq_iff_eq, Bool.false_eq_true] at h <;> try (first | rfl | (subst h; rfl))
 ·obtain ⟨rfl, rfl⟩ := h; rfl
 ·obtain ⟨⟨rfl, h1⟩, h2⟩ := h
  rw [Nat.eq_of_beq_eq_true h1, Nat.eq_of_beq_eq_true h2]
theorem veqList_eq : ∀ {l m : List Value}, veqList l m = true → l = m
 | [], [], _ => rfl
 | [], _ :: _, h => by simp [veqList] at h
 | _ :: _, [], h => by simp [veqList] at h
 | x :: l, y :: m, h => by
  simp only [veqList, Bool.and_eq_true] at h
  rw [veqFlat_eq h.1, veqList_eq h.2]
theorem veq_eq {x y : Value} (h : veq x y = true) : x = y := by
 unfold veq at h
 split at h
 ·rw [Array.ext' (veqList_eq h)]
 ·exact veqFlat_eq h
structure Rd where
 i : Nat
 o : Oper
 tm : Tr Value
 v : Value
def stable (P : Program) (hp : Tr AObj) (r : Rd) : Bool :=
 match alight P hp r.o (aev r.tm) with
 | some (.val v) => veq r.v v
 | _ => false
def lightIdx (ops : Array Oper) (i : Nat) : Bool :=
 match ops[i]? with
 | some o => !isHeavy o.op
 | none => false
def drawOk (ops : Array Oper) : Bool :=
 (List.range ops.size).all fun i => (List.range ops.size).all fun j => match ops[i]?, ops[j]? with
  | some oi, some oj => (oi.after.all fun e => !Region.binds .any e || e.on.blt i) && (i == j || (match oj.dst with
   | some d => oi.dst != some d && (!(oi.looksAt ops).contains d || comesBefore ops j i || comesBefore ops i j)
   | none => true))
  | _, _ => true
theorem drawOk_edge {ops : Array Oper} (h : drawOk ops = true) {i : Nat} {o : Oper} (hi : ops[i]? = some o) {e : Edge} (he : e ∈ o.after) (hb : Region.binds .any e = true) : e.on < i := by
 have hlt := (Array.getElem?_eq_some_iff.1 hi).1
 unfold drawOk at h
 have h1 := List.all_eq_true.1 (List.all_eq_true.1 h i (by simpa using hlt)) i (by simpa using hlt)
 rw [hi] at h1
 simp only [Bool.and_eq_true] at h1
 have h2 := Array.all_eq_true_iff_forall_mem.1 h1.1 e he
 rw [hb] at h2
 simpa using h2
theorem drawOk_names {ops : Array Oper} (h : drawOk ops = true) {i j : Nat} {oi oj : Oper} (hi : ops[i]? = some oi) (hj : ops[j]? = some oj) (hne : i ≠ j) {d : Tmp} (hd : oj.dst = some d) :
  oi.dst ≠ some d ∧ (d ∈ oi.looksAt ops → comesBefore ops j i = true ∨ comesBefore ops i j = true) := by
 have h1 := List.all_eq_true.1 (List.all_eq_true.1 h i (by simpa using (Array.getElem?_eq_some_iff.1 hi).1)) j (by simpa using (Array.getElem?_eq_some_iff.1 hj).1)
 rw [hi, hj] at h1
 simp only [Bool.and_eq_true, Bool.or_eq_true, hd, beq_iff_eq, hne, false_or, bne_iff_ne, Bool.not_eq_true'] at h1
 refine ⟨h1.2.1, fun hm => ?_⟩
 rcases h1.2.2 with (h2 | h2) | h2
 ·rw [List.contains_iff_mem.2 hm] at h2; cases h2
 ·exact .inl h2
 ·exact .inr h2
def adraw (P : Program) (call : ACall) (ops : Array Oper) (n : Nat) : Nat → Array Bool → AS → List Rd → Option AS
 | 0, listed, st, _ => match Region.ready .any ops listed with
  | [] => some st
  | _ => none
 | f + 1, listed, st, rds => match Region.ready .any ops listed with
  | [] => some st
  | r :: rs => match (r :: rs).find? (lightIdx ops) with
   | some i => match ops[i]? with
    | some o => match awanted ops st.tm o with
     | some true => match alight P st.hp o (aev st.tm) with
      | some (.val v) => match aput n st.tm o.dst v with
       | some tm' => adraw P call ops n f (listed.setIfInBounds i true) ⟨tm', st.hp, st.nx⟩ (bif isRead o (aev st.tm) then ⟨i, o, st.tm, v⟩ :: rds else rds)
       | none => none
      | some (.new ob nv) => match aput n st.tm o.dst (nv.val st.nx) with
       | some tm' => bif isRead o (aev st.tm) then none else adraw P call ops n f (listed.setIfInBounds i true) ⟨tm', st.hp.put st.nx (some ob), st.nx + 1⟩ rds
       | none => none
      | none => none
     | some false => match aput n st.tm o.dst undef with
      | some tm' => adraw P call ops n f (listed.setIfInBounds i true) ⟨tm', st.hp, st.nx⟩ rds
      | none => none
     | none => none
    | none => none
   | none => match rs with
    | [] => match ops[r]? with
     | some o => match astep P call ops n st o with
      | some st' => bif rds.all (fun rd => comesBefore ops rd.i r || stable P st'.hp rd) then adraw P call ops n f (listed.setIfInBounds r true) st' rds else none
      | none => none
     | none => none
    | _ => none
abbrev In (L : Array Bool) (i : Nat) : Prop := L.getD i false = true
structure Info where
 T : Nat → Tr Value
 U : Nat → Value
 B : Nat → Option Nat
def PF (P : Program) (ops : Array Oper) (st0 st : AS) (ρ : Place) (I : Info) (j : Nat) (o : Oper) : Prop :=
 (awanted ops (I.T j) o = some false ∧ I.U j = undef ∧ I.B j = none) ∨
 (awanted ops (I.T j) o = some true ∧ LOk P st.hp o (aev (I.T j)) (.val (I.U j)) ∧ I.B j = none) ∨
 (awanted ops (I.T j) o = some true ∧ isRead o (aev (I.T j)) = false ∧ ∃ ob nv b, LOk P st.hp o (aev (I.T j)) (.new ob nv) ∧ I.U j = nv.val b ∧ I.B j = some b ∧ b < st.nx ∧ st0.nx ≤ b ∧ ρ b = none ∧ st.hp.get b = some ob)
def TC (ops : Array Oper) (st0 : AS) (I : Info) (j : Nat) (o : Oper) : Prop :=
 ∀ t ∈ o.looksAt ops, (∃ k ok, comesBefore ops k j = true ∧ ops[k]? = some ok ∧ ok.dst = some t ∧ (I.T j).get t = some (I.U k)) ∨
  ((∀ k ok, ops[k]? = some ok → ok.dst = some t → k ≠ j → comesBefore ops j k = true) ∧ (I.T j).get t = st0.tm.get t)
structure Inv (P : Program) (W : Base) (ops : Array Oper) (n : Nat) (st0 : AS) (ρ0 : Place) (C : Array Bool) (st : AS) (rds : List Rd) (I : Info) (L : Array Bool) (a : Act) (w : World) (ρ : Place) : Prop where
 cs : C.size = ops.size
 ls : L.size = ops.size
 cclosed : ∀ i, In C i → ∀ o, ops[i]? = some o → ∀ e ∈ o.after, Region.binds .any e = true → In C e.on
 lclosed : ∀ i, In L i → ∀ o, ops[i]? = some o → ∀ e ∈ o.after, Region.binds .any e = true → In L e.on
 sub : ∀ i, In L i → In C i
 tmC : ∀ j o t, In C j → ops[j]? = some o → o.dst = some t → st.tm.get t = some (I.U j)
 tm0 : ∀ t, (∀ j o, In C j → ops[j]? = some o → o.dst ≠ some t) → st.tm.get t = st0.tm.get t
 rel : Rel ρ W st.hp st.nx w
 size : a.tmps.size = n
 defers : a.defers = W.ds
 lv : ∀ j o t, In L j → ops[j]? = some o → o.dst = some t → t < n ∧ VR ρ (I.U j) (a.tmps.getD t undef)
 l0 : ∀ t v, (∀ j o, In L j → ops[j]? = some o → o.dst ≠ some t) → st0.tm.get t = some v → t < n ∧ VR ρ v (a.tmps.getD t undef)
 pend : ∀ j o, In C j → ¬ In L j → ops[j]? = some o → isHeavy o.op = false ∧ (∀ d, o.dst = some d → d < n) ∧ TC ops st0 I j o ∧ PF P ops st0 st ρ I j o
 bne : ∀ j k b, In C j → ¬ In L j → In C k → ¬ In L k → j ≠ k → I.B j = some b → I.B k ≠ some b
 step : Step ρ0 ρ st0.hp st.hp st0.nx st.nx
 rd : ∀ j o, In C j → ¬ In L j → ops[j]? = some o → awanted ops (I.T j) o = some true → isRead o (aev (I.T j)) = true → ⟨j, o, I.T j, I.U j⟩ ∈ rds
theorem in_set {L : Array Bool} {i j : Nat} (hi : i < L.size) : In (L.setIfInBounds i true) j ↔ j = i ∨ In L j := by
 unfold In
 by_cases h : i = j
 ·subst h; simp [hi]
 ·rw [getD_set_ne false h]
  constructor
  ·exact .inr
  ·rintro (h' | h')
   ·exact absurd h'.symm h
   ·exact h'
theorem unlisted {L : Array Bool} {i : Nat} (h : L.getD i true = false) : i < L.size ∧ ¬ In L i := by
 have hi : i < L.size := by
  rcases Nat.lt_or_ge i L.size with h' | h'
  ·exact h'
  ·simp [Array.getElem?_eq_none h'] at h
 refine ⟨hi, fun h' => ?_⟩
 simp [hi] at h h'
 rw [h] at h'
 cases h'
theorem unlisted_of {L : Array Bool} {i : Nat} (hi : i < L.size) (h : ¬ In L i) : L.getD i true = false := by
 simp [hi] at h ⊢
 exact h
theorem awanted_sound' {ρ : Place} {tm : Tr Value} {n : Nat} {a : Act} {ops : Array Oper} {o : Oper} {b : Bool} (hs : a.tmps.size = n) (hl : ∀ t ∈ o.looksAt ops, ∀ v, tm.get t = some v → t < n ∧ VR ρ v (a.tmps.getD t undef)) (h : awanted ops tm o = some b) :
  Region.wanted o (yielded ops a.tmps) = b := by
 unfold awanted at h
 unfold Region.wanted
 cases hg : o.guard with
 | none => rw [hg] at h; cases h; rfl
 | some p =>
  obtain ⟨j, want⟩ := p
  rw [hg] at h
  dsimp only at h ⊢
  unfold yielded
  cases hd : (ops[j]?).bind (·.dst) with
  | none => rw [hd] at h; cases h; rfl
  | some d =>
   rw [hd] at h
   dsimp only at h
   cases hv : tm.get d with
   | none => rw [hv] at h; cases h
   | some u =>
    rw [hv] at h
    have hs' := hl d (by unfold Oper.looksAt; rw [hg]; simp only [hd, List.mem_append]; exact .inr (by simp)) u hv
    have hlt : d < a.tmps.size := by rw [hs]; exact hs'.1
    have he : a.tmps[d]? = some (a.tmps.getD d undef) := by simp [hlt]
    have hu := hs'.2
    rw [Option.bind_some, he]
    generalize a.tmps.getD d undef = y at hu
    cases hu <;> simp only [Option.some.injEq] at h <;> subst h <;> first | rfl | simp
open Classical in
theorem erel_of_looks {ρ : Place} {tm : Tr Value} {n : Nat} {a : Act} {ops : Array Oper} {o : Oper} (hl : ∀ t ∈ o.looksAt ops, ∀ v, tm.get t = some v → t < n ∧ VR ρ v (a.tmps.getD t undef)) :
  ∃ ev', ERel ρ ev' a ∧ ∀ x ∈ o.op.operands, aev tm x = ev' x := by
 refine ⟨fun x => if x ∈ o.op.operands then aev tm x else none, fun x v hv => ?_, fun x hx => by simp [hx]⟩
 by_cases hx : x ∈ o.op.operands
 ·simp only [hx, if_true] at hv
  cases x with
  | tmp t => exact (hl t (by unfold Oper.looksAt; simp only [List.mem_append, List.mem_filterMap]; exact .inl ⟨.tmp t, by simpa using hx, rfl⟩) v hv).2
  | const u =>
   rw [aev_const] at hv
   cases hc : closed u with
   | true => rw [hc] at hv; cases hv; exact closed_refl hc
   | false => rw [hc] at hv; cases hv
  | global g => exact glob_ev hv a
  | func f => cases hv; exact .func _ rfl (by simp) rfl (by simp)
 ·simp [hx] at hv
section
variable {P : Program} {W : Base} {ops : Array Oper} {n : Nat} {st0 : AS} {ρ0 : Place} {C : Array Bool} {st : AS} {rds : List Rd} {I : Info} {L : Array Bool} {a : Act} {w : World} {ρ : Place}
theorem Inv.looks (h : Inv P W ops n st0 ρ0 C st rds I L a w ρ) {j : Nat} {o : Oper} (hj : ops[j]? = some o) (hn : ¬ In L j) (hr : ∀ e ∈ o.after, Region.binds .any e = true → In L e.on) (ht : TC ops st0 I j o) :
  ∀ t ∈ o.looksAt ops, ∀ v, (I.T j).get t = some v → t < n ∧ VR ρ v (a.tmps.getD t undef) := by
 intro t htm v hv
 rcases ht t htm with ⟨k, ok, h1, h2, h3, h4⟩ | ⟨h1, h2⟩
 ·rw [h4] at hv
  cases hv
  have hkL : In L k := closed_before h.lclosed j k h1 fun o' ho' e he hb => by rw [hj] at ho'; cases ho'; exact hr e he hb
  exact h.lv k ok t hkL h2 h3
 ·rw [h2] at hv
  refine h.l0 t v (fun k ok hk hok hdk => ?_) hv
  by_cases hkj : k = j
  ·subst hkj; exact hn hk
  ·exact hn (closed_before h.lclosed k j (h1 k ok hok hdk hkj) fun o' ho' e he hb => h.lclosed k hk o' ho' e he hb)
theorem Inv.exec (hD : drawOk ops = true) (h : Inv P W ops n st0 ρ0 C st rds I L a w ρ) {j : Nat} {o : Oper} (hj : ops[j]? = some o) (hjC : In C j) (hn : ¬ In L j) (hr : ∀ e ∈ o.after, Region.binds .any e = true → In L e.on)
  {v' : Value} {w' : World} {ρ' : Place} (hle : ρ.le ρ') (hrel : Rel ρ' W st.hp st.nx w') (hv : VR ρ' (I.U j) v') (hstep : Step ρ0 ρ' st0.hp st.hp st0.nx st.nx) (hb : ∀ b, I.B j ≠ some b → ρ b = none → ρ' b = none) :
  Inv P W ops n st0 ρ0 C st rds I (L.setIfInBounds j true) (a.put o.dst v') w' ρ' := by
 have hlt : j < L.size := by rw [h.ls]; exact (Array.getElem?_eq_some_iff.1 hj).1
 have hin : ∀ k, In (L.setIfInBounds j true) k ↔ k = j ∨ In L k := fun k => in_set hlt
 have hdn := (h.pend j o hjC hn hj).2.1
 have get_put : ∀ t, o.dst ≠ some t → (a.put o.dst v').tmps.getD t undef = a.tmps.getD t undef := fun t ht => by
  cases hd : o.dst with
  | none => rfl
  | some d =>
   have : d ≠ t := fun e => ht (by rw [hd, e])
   simp [Act.put, Array.getD_eq_getD_getElem?, Array.getElem?_setIfInBounds_ne this]
 refine ⟨h.cs, by simp [h.ls], h.cclosed, ?_, ?_, h.tmC, h.tm0, hrel, ?_, ?_, ?_, ?_, ?_, ?_, hstep, ?_⟩
 ·intro i hi o' ho' e he hbd
  rw [hin] at hi ⊢
  rcases hi with rfl | hi
  ·rw [hj] at ho'; cases ho'; exact .inr (hr e he hbd)
  ·exact .inr (h.lclosed i hi o' ho' e he hbd)
 ·intro i hi
  rw [hin] at hi
  rcases hi with rfl | hi
  ·exact hjC
  ·exact h.sub i hi
 ·cases hd : o.dst <;> simp [Act.put, h.size]
 ·cases hd : o.dst <;> simp [Act.put, h.defers]
 ·intro k ok t hk hok hdk
  rw [hin] at hk
  by_cases hkj : k = j
  ·subst hkj
   rw [hj] at hok
   cases hok
   refine ⟨hdn t hdk, ?_⟩
   rw [hdk]
   simpa [Act.put, Array.getD_eq_getD_getElem?, h.size, hdn t hdk] using hv
  ·have hkL := hk.resolve_left hkj
   have := h.lv k ok t hkL hok hdk
   rw [get_put t (drawOk_names hD hj hok (Ne.symm hkj) hdk).1]
   exact ⟨this.1, this.2.mono hle⟩
 ·intro t v hno hv0
  have hnj : o.dst ≠ some t := hno j o ((hin j).2 (.inl rfl)) hj
  have := h.l0 t v (fun k ok hk => hno k ok ((hin k).2 (.inr hk))) hv0
  rw [get_put t hnj]
  exact ⟨this.1, this.2.mono hle⟩
 ·intro k ok hk hkn hok
  have hkn' : ¬ In L k := fun h' => hkn ((hin k).2 (.inr h'))
  have hkj : k ≠ j := fun e => hkn ((hin k).2 (.inl e))
  obtain ⟨g1, g2, g3, g4⟩ := h.pend k ok hk hkn' hok
  refine ⟨g1, g2, g3, ?_⟩
  rcases g4 with g | g | ⟨g5, g6, ob, nv, b, g7, g8, g9, g10, g11, g12, g13⟩
  ·exact .inl g
  ·exact .inr (.inl g)
  ·exact .inr (.inr ⟨g5, g6, ob, nv, b, g7, g8, g9, g10, g11, hb b (fun e => h.bne j k b hjC hn hk hkn' (Ne.symm hkj) e g9) g12, g13⟩)
 ·intro i k b hi hin' hk hkn hik
  exact h.bne i k b hi (fun h' => hin' ((hin i).2 (.inr h'))) hk (fun h' => hkn ((hin k).2 (.inr h'))) hik
 ·intro k ok hk hkn
  exact h.rd k ok hk (fun h' => hkn ((hin k).2 (.inr h')))
theorem Inv.run (hD : drawOk ops = true) (h : Inv P W ops n st0 ρ0 C st rds I L a w ρ) {j : Nat} {o : Oper} (hj : ops[j]? = some o) (hjC : In C j) (hn : ¬ In L j) (hr : ∀ e ∈ o.after, Region.binds .any e = true → In L e.on)
  {Q : Exit → Act → World → Prop} : wpOp P ops Q j (fun a' w' => ∃ ρ', Inv P W ops n st0 ρ0 C st rds I (L.setIfInBounds j true) a' w' ρ') a w := by
 obtain ⟨g1, g2, g3, g4⟩ := h.pend j o hjC hn hj
 have hlk := h.looks hj hn hr g3
 obtain ⟨ev', he1, he2⟩ := erel_of_looks hlk
 unfold wpOp
 simp only [hj]
 rcases g4 with ⟨k1, k2, k3⟩ | ⟨k1, k2, k3⟩ | ⟨k1, k0, ob, nv, b, k2, k3, k4, k5, k6, k7, k8⟩
 ·rw [awanted_sound' h.size hlk k1, if_neg (by simp)]
  exact ⟨ρ, h.exec hD hj hjC hn hr (.refl ρ) h.rel (by rw [k2]; exact closed_refl (by simp [undef, closed])) h.step (fun _ _ h => h)⟩
 ·rw [awanted_sound' h.size hlk k1, if_pos rfl]
  replace k2 := k2.congr he2
  obtain ⟨v', r1, r2⟩ := LOk.sound h.rel he1 k2
  refine .inl ?_
  unfold Oper.wp
  rw [r1]
  exact ⟨ρ, h.exec hD hj hjC hn hr (.refl ρ) h.rel r2 h.step (fun _ _ h => h)⟩
 ·rw [awanted_sound' h.size hlk k1, if_pos rfl]
  replace k2 := k2.congr he2
  obtain ⟨v', ob', d, z, r1, r2, r3⟩ := LOk.sound h.rel he1 k2
  refine .inl ?_
  unfold Oper.wp
  rw [r1]
  have hrel := (h.rel.at_drawn d).realize (b := b) (z := z) (ob := ob') k5 k7 k8 (r2 _ h.rel.below.fresh)
  refine ⟨ρ.set b (w.heap.size, 0, z), h.exec hD hj hjC hn hr (Place.le_set k7) hrel (by rw [k3]; exact r3 _ _ (Place.set_same ρ b _)) ?_ (fun b' hb' hb0 => ?_)⟩
  ·refine ⟨h.step.le.trans (Place.le_set k7), h.step.more, fun b' hb' hr' => ?_⟩
   have := h.step.old b' hb' hr'
   exact ⟨by rw [Place.set_other (by omega)]; exact this.1, this.2⟩
  ·rw [Place.set_other (by intro e; subst e; exact hb' k4)]
   exact hb0
end
end Go.Proofs.YtngginofamlkkaaGreatDoor

noncomputable section
namespace Go.Proofs.YtngginofamlkkaaGreatDoor
open Go Go.RowKit
theorem rowOf_ext {hp hp' : Tr AObj} (h : ∀ b x, hp.get b = some x → hp'.get b = some x) {b o n : Nat} {l : List Value} (hl : rowOf hp b o n = some l) : rowOf hp' b o n = some l := by
 unfold rowOf at *
 cases hb : hp.get b with
 | none => rw [hb] at hl; cases hl
 | some x => rw [h b x hb]; rw [hb] at hl; exact hl
theorem aread_ext {P : Program} {hp hp' : Tr AObj} (h : ∀ b x, hp.get b = some x → hp'.get b = some x) {o : Oper} {ev : Operand → Option Value} {v : Value} (hl : aread P hp o ev = some v) : aread P hp' o ev = some v := by
 unfold aread at *
 split at hl
 ·rename_i t x hop
  cases hx : ev x with
  | none => rw [hx] at hl; cases hl
  | some u =>
   rw [hx] at hl
   dsimp only at hl ⊢
   unfold aLoad at *
   split at hl
   case h_2 => cases hl
   rename_i b o'
   split at hl
   ·split at hl
    case h_2 => cases hl
    split at hl
    case h_2 => cases hl
    rename_i l hr
    rw [rowOf_ext h hr]
    exact hl
   ·cases hb : hp.get b with
    | none => rw [hb] at hl; cases hl
    | some y => rw [h b y hb]; rw [hb] at hl; exact hl
   ·cases hl
 ·rename_i s d x hop
  cases hx : ev x with
  | none => rw [hx] at hl; cases hl
  | some u =>
   rw [hx] at hl
   dsimp only at hl ⊢
   unfold aBytes at *
   split at hl
   case h_2 => cases hl
   split at hl
   case h_2 => cases hl
   split at hl
   case h_2 => cases hl
   split at hl
   case h_2 => cases hl
   rename_i l hr
   rw [rowOf_ext h hr]
   exact hl
 ·cases hl
theorem alight_ext {P : Program} {hp hp' : Tr AObj} (h : ∀ b x, hp.get b = some x → hp'.get b = some x) {o : Oper} {ev : Operand → Option Value} {r : LRes} (hl : alight P hp o ev = some r) : alight P hp' o ev = some r := by
 unfold alight at *
 split at hl <;> try exact hl
 ·simp only [Option.map_eq_some_iff] at hl ⊢
  obtain ⟨v, hv, e⟩ := hl
  exact ⟨v, aread_ext h hv, e⟩
 ·split at hl <;> try exact hl
  simp only [Option.map_eq_some_iff] at hl ⊢
  obtain ⟨v, hv, e⟩ := hl
  exact ⟨v, aread_ext h hv, e⟩
theorem slight_ext {P : Program} {hp hp' : Tr AObj} (h : ∀ b x, hp.get b = some x → hp'.get b = some x) {o : Oper} {ev : Operand → Option Value} {r : LRes} {ob : Prop} (hl : slight P hp o ev = some (r, ob)) : slight P hp' o ev = some (r, ob) := by
 have hb : sbase P hp o ev = some (r, ob) → sbase P hp' o ev = some (r, ob) := fun hb => by
  unfold sbase at *
  split at hb
  ·rename_i q hq; rw [alight_ext h hq]; exact hb
  ·cases hb
 obtain ⟨dst, op, type, pos, after, guard⟩ := o
 unfold slight at *
 cases op <;> dsimp only at hl ⊢ <;> try exact hb hl
 case load t x =>
  cases hsy : symAt ⟨dst, .load t x, type, pos, after, guard⟩ t x with
  | true =>
   rw [hsy, cond_true] at hl
   rw [cond_true]
   split at hl
   case h_2 => cases hl
   rename_i v hx
   have key : ∀ q, symLoad P hp t v = some q → symLoad P hp' t v = some q := fun q hq => by
    unfold symLoad at *
    split at hq
    case h_2 => cases hq
    split at hq
    case h_2 => cases hq
    rename_i hg
    rw [h _ _ hg]
    exact hq
   unfold sval at *
   split at hl
   ·rename_i w ob' hq
    rw [key _ hq]
    exact hl
   ·cases hl
  | false =>
  rw [hsy, cond_false] at hl
  rw [cond_false]
  split at hl
  ·exact hl
  ·exact hb hl
 case indexAddr t x i => exact hl
 case fieldAddr t x f =>
  split at hl
  ·exact hl
  ·exact hb hl
 case nilCheck x =>
  split at hl
  ·exact hl
  ·exact hl
  ·exact hb hl
 case makeFunc fn f c =>
  cases fn <;> first | exact hl | exact hb hl
 case typeAssert x xt y ok => cases ok <;> first | exact hl | exact hb hl
 case slice t x lo hi mx =>
  cases mx with
  | some m => exact hb hl
  | none =>
   dsimp only at hl ⊢
   split at hl
   case h_2 => cases hl
   split at hl
   ·exact hl
   ·exact hb hl
 case index t x i =>
  split at hl
  ·exact hl
  ·exact hb hl
 case binOp op t x y ty => exact hl
 case convert src dst' x =>
  have hB : ∀ u, ∀ q, sBytes P hp src dst' u = some q → sBytes P hp' src dst' u = some q := fun u q hq => by
   unfold sBytes at *
   split at hq
   case h_2 => cases hq
   split at hq
   case h_2 => cases hq
   split at hq
   ·split at hq
    case h_2 => cases hq
    rename_i l wr hg
    rw [h _ _ hg]
    exact hq
   ·exact hq
   ·cases hq
  split at hl
  ·obtain ⟨v, h1, rfl⟩ := sval_eq hl
   rw [hB _ _ h1]
   rfl
  ·obtain ⟨v, h1, rfl⟩ := sval_eq hl
   rw [hB _ _ h1]
   rfl
  ·exact hb hl
  ·exact hl
 case makeSlice t x y => exact hl
 case pick c x y => exact hl
 case call c =>
  split at hl
  ·exact hl
  ·split at hl
   ·exact hl
   ·exact hb hl
theorem LOk.ext {P : Program} {hp hp' : Tr AObj} (h : ∀ b x, hp.get b = some x → hp'.get b = some x) {o : Oper} {ev : Operand → Option Value} {r : LRes} (hl : LOk P hp o ev r) : LOk P hp' o ev r := by
 rcases hl with hl | ⟨ob, h1, h2⟩
 ·exact .inl (alight_ext h hl)
 ·exact .inr ⟨ob, slight_ext h h1, h2⟩
def Info.set (I : Info) (i : Nat) (T : Tr Value) (U : Value) (B : Option Nat) : Info :=
 ⟨fun k => if k = i then T else I.T k, fun k => if k = i then U else I.U k, fun k => if k = i then B else I.B k⟩
section
variable {P : Program} {W : Base} {ops : Array Oper} {n : Nat} {st0 : AS} {ρ0 : Place} {C : Array Bool} {st : AS} {rds rds' : List Rd} {I : Info} {L : Array Bool} {a : Act} {w : World} {ρ : Place}
theorem aput_get {tm tm' : Tr Value} {dst : Option Tmp} {v : Value} (h : aput n tm dst v = some tm') : (∀ d, dst = some d → d < n ∧ tm'.get d = some v) ∧ ∀ t, dst ≠ some t → tm'.get t = tm.get t := by
 unfold aput at h
 cases dst with
 | none => cases h; exact ⟨fun d hd => by (cases hd), fun _ _ => rfl⟩
 | some d =>
  dsimp only at h
  cases hd : d.blt n with
  | false => rw [hd] at h; cases h
  | true =>
   rw [hd] at h
   cases h
   refine ⟨fun d' hd' => ?_, fun t ht => ?_⟩
   ·cases hd'
    exact ⟨Nat.le_of_ble_eq_true hd, by rw [Tr.get_put, if_pos rfl]⟩
   ·rw [Tr.get_put, if_neg (by intro e; subst e; exact ht rfl)]
theorem Inv.absorb (hD : drawOk ops = true) (h : Inv P W ops n st0 ρ0 C st rds I L a w ρ) {i : Nat} {o : Oper} (hi : ops[i]? = some o) (hn : ¬ In C i) (hr : ∀ e ∈ o.after, Region.binds .any e = true → In C e.on) (hh : isHeavy o.op = false)
  {st' : AS} {v : Value} {B : Option Nat} (ht : aput n st.tm o.dst v = some st'.tm) (hrel : Rel ρ W st'.hp st'.nx w) (hext : ∀ b x, st.hp.get b = some x → st'.hp.get b = some x) (hnx : st.nx ≤ st'.nx)
  (hstep : Step ρ0 ρ st0.hp st'.hp st0.nx st'.nx) (hB : ∀ b, B = some b → st.nx ≤ b)
  (hpf : ∀ I' : Info, I'.T i = st.tm → I'.U i = v → I'.B i = B → PF P ops st0 st' ρ I' i o) (hrd1 : ∀ x ∈ rds, x ∈ rds') (hrd2 : awanted ops st.tm o = some true → isRead o (aev st.tm) = true → ⟨i, o, st.tm, v⟩ ∈ rds') :
  Inv P W ops n st0 ρ0 (C.setIfInBounds i true) st' rds' (I.set i st.tm v B) L a w ρ := by
 have hlt : i < C.size := by rw [h.cs]; exact (Array.getElem?_eq_some_iff.1 hi).1
 have hin : ∀ k, In (C.setIfInBounds i true) k ↔ k = i ∨ In C k := fun k => in_set hlt
 have hiL : ¬ In L i := fun h' => hn (h.sub i h')
 have hU : ∀ k, k ≠ i → (I.set i st.tm v B).U k = I.U k := fun k hk => by simp [Info.set, hk]
 have hT : ∀ k, k ≠ i → (I.set i st.tm v B).T k = I.T k := fun k hk => by simp [Info.set, hk]
 have hBk : ∀ k, k ≠ i → (I.set i st.tm v B).B k = I.B k := fun k hk => by simp [Info.set, hk]
 have hUi : (I.set i st.tm v B).U i = v := by simp [Info.set]
 have hTi : (I.set i st.tm v B).T i = st.tm := by simp [Info.set]
 have hBi : (I.set i st.tm v B).B i = B := by simp [Info.set]
 obtain ⟨p1, p2⟩ := aput_get ht
 have hiC : ∀ k, comesBefore ops k i = true → In C k := fun k hk => closed_before h.cclosed i k hk fun o' ho' e he hb => by rw [hi] at ho'; cases ho'; exact hr e he hb
 have hCi : ∀ k, In C k → comesBefore ops i k = true → False := fun k hk hb => hn (closed_before h.cclosed k i hb fun o' ho' e he hb' => h.cclosed k hk o' ho' e he hb')
 refine ⟨by simp [h.cs], h.ls, ?_, h.lclosed, fun k hk => (hin k).2 (.inr (h.sub k hk)), ?_, ?_, hrel, h.size, h.defers, ?_, h.l0, ?_, ?_, hstep, ?_⟩
 ·intro k hk o' ho' e he hb
  rw [hin] at hk ⊢
  rcases hk with rfl | hk
  ·rw [hi] at ho'; cases ho'; exact .inr (hr e he hb)
  ·exact .inr (h.cclosed k hk o' ho' e he hb)
 ·intro k ok t hk hok hd
  rw [hin] at hk
  by_cases hki : k = i
  ·subst hki
   rw [hi] at hok
   cases hok
   rw [hUi]
   exact (p1 t hd).2
  ·rw [hU k hki, p2 t (drawOk_names hD hi hok (Ne.symm hki) hd).1]
   exact h.tmC k ok t (hk.resolve_left hki) hok hd
 ·intro t hno
  rw [p2 t (hno i o ((hin i).2 (.inl rfl)) hi)]
  exact h.tm0 t fun k ok hk => hno k ok ((hin k).2 (.inr hk))
 ·intro k ok t hk hok hd
  rw [hU k (fun e => hiL (e ▸ hk))]
  exact h.lv k ok t hk hok hd
 ·intro k ok hk hkn hok
  rw [hin] at hk
  by_cases hki : k = i
  ·subst hki
   rw [hi] at hok
   cases hok
   refine ⟨hh, fun d hd => (p1 d hd).1, fun t htm => ?_, hpf _ hTi hUi hBi⟩
   by_cases hex : ∃ j oj, In C j ∧ ops[j]? = some oj ∧ oj.dst = some t
   ·obtain ⟨j, oj, hj, hoj, hdj⟩ := hex
    have hji : j ≠ k := fun e => hn (e ▸ hj)
    rcases (drawOk_names hD hi hoj (Ne.symm hji) hdj).2 htm with hb | hb
    ·exact .inl ⟨j, oj, hb, hoj, hdj, by rw [hTi, hU j hji]; exact h.tmC j oj t hj hoj hdj⟩
    ·exact (hCi j hj hb).elim
   ·refine .inr ⟨fun j oj hoj hdj hji => ?_, by rw [hTi]; exact h.tm0 t fun j oj hj hoj hdj => hex ⟨j, oj, hj, hoj, hdj⟩⟩
    rcases (drawOk_names hD hi hoj (Ne.symm hji) hdj).2 htm with hb | hb
    ·exact (hex ⟨j, oj, hiC j hb, hoj, hdj⟩).elim
    ·exact hb
  ·have hkC := hk.resolve_left hki
   obtain ⟨g1, g2, g3, g4⟩ := h.pend k ok hkC hkn hok
   refine ⟨g1, g2, fun t htm => ?_, ?_⟩
   ·rw [hT k hki]
    rcases g3 t htm with ⟨j, oj, q1, q2, q3, q4⟩ | q
    ·have hjC : In C j := closed_before h.cclosed k j q1 fun o' ho' e he hb => h.cclosed k hkC o' ho' e he hb
     exact .inl ⟨j, oj, q1, q2, q3, by rw [hU j (fun e => hn (e ▸ hjC))]; exact q4⟩
    ·exact .inr q
   ·unfold PF
    rw [hT k hki, hU k hki, hBk k hki]
    rcases g4 with g | ⟨q1, q2, q3⟩ | ⟨g5, g6, ob, nv, b, g7, g8, g9, g10, g11, g12, g13⟩
    ·exact .inl g
    ·exact .inr (.inl ⟨q1, q2.ext hext, q3⟩)
    ·exact .inr (.inr ⟨g5, g6, ob, nv, b, g7.ext hext, g8, g9, by omega, g11, g12, hext _ _ g13⟩)
 ·intro j k b hj hjn hk hkn hjk
  rw [hin] at hj hk
  have old : ∀ k b, In C k → ¬ In L k → I.B k = some b → b < st.nx := fun k b hk hkn hb => by
   have hks : k < ops.size := by
    rcases Nat.lt_or_ge k C.size with h' | h'
    ·rw [← h.cs]; exact h'
    ·simp [In, Array.getElem?_eq_none h'] at hk
   obtain ⟨_, _, _, g4⟩ := h.pend k ops[k] hk hkn (by simp [hks])
   rcases g4 with ⟨_, _, g⟩ | ⟨_, _, g⟩ | ⟨_, _, ob, nv, b', _, _, g9, g10, _⟩
   ·rw [g] at hb; cases hb
   ·rw [g] at hb; cases hb
   ·rw [g9] at hb; cases hb; exact g10
  by_cases hji : j = i
  ·subst hji
   rw [hBi, hBk k (Ne.symm hjk)]
   intro hb hb'
   have := hB b hb
   have := old k b (hk.resolve_left (Ne.symm hjk)) hkn hb'
   omega
  ·rw [hBk j hji]
   by_cases hki : k = i
   ·subst hki
    rw [hBi]
    intro hb hb'
    have := hB b hb'
    have := old j b (hj.resolve_left hji) hjn hb
    omega
   ·rw [hBk k hki]
    exact h.bne j k b (hj.resolve_left hji) hjn (hk.resolve_left hki) hkn hjk
 ·intro k ok hk hkn hok hw hrd
  rw [hin] at hk
  by_cases hki : k = i
  ·subst hki
   rw [hi] at hok
   cases hok
   rw [hTi] at hw hrd ⊢
   rw [hUi]
   exact hrd2 hw hrd
  ·rw [hT k hki] at hw hrd ⊢
   rw [hU k hki]
   exact hrd1 _ (h.rd k ok (hk.resolve_left hki) hkn hok hw hrd)
theorem Inv.heavyLook (hD : drawOk ops = true) (h : Inv P W ops n st0 ρ0 C st rds I L a w ρ) {r : Nat} {o : Oper} (hr : ops[r]? = some o) (hn : ¬ In C r) (hrC : ∀ e ∈ o.after, Region.binds .any e = true → In C e.on)
  (hrL : ∀ e ∈ o.after, Region.binds .any e = true → In L e.on) :
  ∀ t ∈ o.looksAt ops, ∀ v, st.tm.get t = some v → t < n ∧ VR ρ v (a.tmps.getD t undef) := by
 have hltC : r < C.size := by rw [h.cs]; exact (Array.getElem?_eq_some_iff.1 hr).1
 have hltL : r < L.size := by rw [h.ls]; exact (Array.getElem?_eq_some_iff.1 hr).1
 have hinC : ∀ k, In (C.setIfInBounds r true) k ↔ k = r ∨ In C k := fun k => in_set hltC
 have hinL : ∀ k, In (L.setIfInBounds r true) k ↔ k = r ∨ In L k := fun k => in_set hltL
 have hrnL : ¬ In L r := fun h' => hn (h.sub r h')
 have hbL : ∀ k, comesBefore ops k r = true → In L k := fun k hk => closed_before h.lclosed r k hk fun o' ho' e he hb => by rw [hr] at ho'; cases ho'; exact hrL e he hb
 have hCr : ∀ k, In C k → comesBefore ops r k = true → False := fun k hk hb => hn (closed_before h.cclosed k r hb fun o' ho' e he hb' => h.cclosed k hk o' ho' e he hb')
 intro t htm v hv
 by_cases hex : ∃ j oj, In C j ∧ ops[j]? = some oj ∧ oj.dst = some t
 ·obtain ⟨j, oj, hj, hoj, hdj⟩ := hex
  have hjr : j ≠ r := fun e => hn (e ▸ hj)
  rw [h.tmC j oj t hj hoj hdj] at hv
  cases hv
  rcases (drawOk_names hD hr hoj (Ne.symm hjr) hdj).2 htm with hb | hb
  ·exact h.lv j oj t (hbL j hb) hoj hdj
  ·exact (hCr j hj hb).elim
 ·rw [h.tm0 t fun j oj hj hoj hdj => hex ⟨j, oj, hj, hoj, hdj⟩] at hv
  exact h.l0 t v (fun j oj hj hoj hdj => hex ⟨j, oj, h.sub j hj, hoj, hdj⟩) hv
theorem Inv.heavyFinW {W' : Base} (hds : W'.ds = W.ds) (hD : drawOk ops = true) (h : Inv P W ops n st0 ρ0 C st rds I L a w ρ) {r : Nat} {o : Oper} (hr : ops[r]? = some o) (hn : ¬ In C r) (hrC : ∀ e ∈ o.after, Region.binds .any e = true → In C e.on)
  (hrL : ∀ e ∈ o.after, Region.binds .any e = true → In L e.on) {st' : AS} (hst : st'.hp = st.hp ∨ ∀ rd ∈ rds, comesBefore ops rd.i r = true ∨ LOk P st'.hp rd.o (aev rd.tm) (.val rd.v))
  (v v' : Value) (w' : World) (ρ' : Place) (ht : aput n st.tm o.dst v = some st'.tm) (hv : VR ρ' v v') (hrel : Rel ρ' W' st'.hp st'.nx w') (hstep : Step ρ ρ' st.hp st'.hp st.nx st'.nx) :
  ∃ ρ' I', Inv P W' ops n st0 ρ0 (C.setIfInBounds r true) st' rds I' (L.setIfInBounds r true) (a.put o.dst v') w' ρ' := by
 have hltC : r < C.size := by rw [h.cs]; exact (Array.getElem?_eq_some_iff.1 hr).1
 have hltL : r < L.size := by rw [h.ls]; exact (Array.getElem?_eq_some_iff.1 hr).1
 have hinC : ∀ k, In (C.setIfInBounds r true) k ↔ k = r ∨ In C k := fun k => in_set hltC
 have hinL : ∀ k, In (L.setIfInBounds r true) k ↔ k = r ∨ In L k := fun k => in_set hltL
 have hrnL : ¬ In L r := fun h' => hn (h.sub r h')
 have hbL : ∀ k, comesBefore ops k r = true → In L k := fun k hk => closed_before h.lclosed r k hk fun o' ho' e he hb => by rw [hr] at ho'; cases ho'; exact hrL e he hb
 have hCr : ∀ k, In C k → comesBefore ops r k = true → False := fun k hk hb => hn (closed_before h.cclosed k r hb fun o' ho' e he hb' => h.cclosed k hk o' ho' e he hb')
 obtain ⟨p1, p2⟩ := aput_get ht
 have hU : ∀ k, k ≠ r → (I.set r st.tm v none).U k = I.U k := fun k hk => by simp [Info.set, hk]
 have hT : ∀ k, k ≠ r → (I.set r st.tm v none).T k = I.T k := fun k hk => by simp [Info.set, hk]
 have hBk : ∀ k, k ≠ r → (I.set r st.tm v none).B k = I.B k := fun k hk => by simp [Info.set, hk]
 have hUr : (I.set r st.tm v none).U r = v := by simp [Info.set]
 have get_put : ∀ t, o.dst ≠ some t → (a.put o.dst v').tmps.getD t undef = a.tmps.getD t undef := fun t ht => by
  cases hd : o.dst with
  | none => rfl
  | some d =>
   have : d ≠ t := fun e => ht (by rw [hd, e])
   simp [Act.put, Array.getD_eq_getD_getElem?, Array.getElem?_setIfInBounds_ne this]
 have pd : ∀ k, In (C.setIfInBounds r true) k → ¬ In (L.setIfInBounds r true) k → k ≠ r ∧ In C k ∧ ¬ In L k := fun k hk hkn => by
  rw [hinC] at hk
  have hkr : k ≠ r := fun e => hkn ((hinL k).2 (.inl e))
  exact ⟨hkr, hk.resolve_left hkr, fun h' => hkn ((hinL k).2 (.inr h'))⟩
 refine ⟨ρ', I.set r st.tm v none, by simp [h.cs], by simp [h.ls], ?_, ?_, ?_, ?_, ?_, hrel, ?_, ?_, ?_, ?_, ?_, ?_, h.step.trans hstep, ?_⟩
 ·intro k hk o' ho' e he hb
  rw [hinC] at hk ⊢
  rcases hk with rfl | hk
  ·rw [hr] at ho'; cases ho'; exact .inr (hrC e he hb)
  ·exact .inr (h.cclosed k hk o' ho' e he hb)
 ·intro k hk o' ho' e he hb
  rw [hinL] at hk ⊢
  rcases hk with rfl | hk
  ·rw [hr] at ho'; cases ho'; exact .inr (hrL e he hb)
  ·exact .inr (h.lclosed k hk o' ho' e he hb)
 ·intro k hk
  rw [hinL] at hk
  rw [hinC]
  exact hk.imp id (h.sub k)
 ·intro k ok t hk hok hd
  rw [hinC] at hk
  by_cases hkr : k = r
  ·subst hkr
   rw [hr] at hok
   cases hok
   rw [hUr]
   exact (p1 t hd).2
  ·rw [hU k hkr, p2 t (drawOk_names hD hr hok (Ne.symm hkr) hd).1]
   exact h.tmC k ok t (hk.resolve_left hkr) hok hd
 ·intro t hno
  rw [p2 t (hno r o ((hinC r).2 (.inl rfl)) hr)]
  exact h.tm0 t fun k ok hk => hno k ok ((hinC k).2 (.inr hk))
 ·cases hd : o.dst <;> simp [Act.put, h.size]
 ·cases hd : o.dst <;> simp [Act.put, h.defers, hds]
 ·intro k ok t hk hok hdk
  rw [hinL] at hk
  by_cases hkr : k = r
  ·subst hkr
   rw [hr] at hok
   cases hok
   have := (p1 t hdk).1
   refine ⟨this, ?_⟩
   rw [hUr, hdk]
   simpa [Act.put, Array.getD_eq_getD_getElem?, h.size, this] using hv
  ·have := h.lv k ok t (hk.resolve_left hkr) hok hdk
   rw [hU k hkr, get_put t (drawOk_names hD hr hok (Ne.symm hkr) hdk).1]
   exact ⟨this.1, this.2.mono hstep.le⟩
 ·intro t u hno hu
  have hnj : o.dst ≠ some t := hno r o ((hinL r).2 (.inl rfl)) hr
  have := h.l0 t u (fun k ok hk => hno k ok ((hinL k).2 (.inr hk))) hu
  rw [get_put t hnj]
  exact ⟨this.1, this.2.mono hstep.le⟩
 ·intro k ok hk hkn hok
  obtain ⟨hkr, hkC, hkL⟩ := pd k hk hkn
  obtain ⟨g1, g2, g3, g4⟩ := h.pend k ok hkC hkL hok
  refine ⟨g1, g2, fun t htm => ?_, ?_⟩
  ·rw [hT k hkr]
   rcases g3 t htm with ⟨j, oj, q1, q2, q3, q4⟩ | q
   ·have hjC : In C j := closed_before h.cclosed k j q1 fun o' ho' e he hb => h.cclosed k hkC o' ho' e he hb
    exact .inl ⟨j, oj, q1, q2, q3, by rw [hU j (fun e => hn (e ▸ hjC))]; exact q4⟩
   ·exact .inr q
  ·unfold PF
   rw [hT k hkr, hU k hkr, hBk k hkr]
   rcases g4 with g | ⟨q1, q2, q3⟩ | ⟨g5, g6, ob, nv, b, g7, g8, g9, g10, g11, g12, g13⟩
   ·exact .inl g
   ·refine .inr (.inl ⟨q1, ?_, q3⟩)
    cases hrd : isRead ok (aev (I.T k)) with
    | false => exact q2.still hrd
    | true =>
     have hm := h.rd k ok hkC hkL hok q1 hrd
     rcases hst with he | hst
     ·rw [he]; exact q2
     rcases hst _ hm with hc | hc
     ·exact (hkL (hbL k hc)).elim
     ·exact hc
   ·have hold := hstep.old b g10 g12
    refine .inr (.inr ⟨g5, g6, ob, nv, b, g7.still g6, g8, g9, Nat.lt_of_lt_of_le g10 hstep.more, g11, hold.1, hold.2.trans g13⟩)
 ·intro j k b hj hjn hk hkn hjk
  obtain ⟨hjr, hjC, hjL⟩ := pd j hj hjn
  obtain ⟨hkr, hkC, hkL⟩ := pd k hk hkn
  rw [hBk j hjr, hBk k hkr]
  exact h.bne j k b hjC hjL hkC hkL hjk
 ·intro k ok hk hkn hok hw hrd
  obtain ⟨hkr, hkC, hkL⟩ := pd k hk hkn
  rw [hT k hkr] at hw hrd ⊢
  rw [hU k hkr]
  exact h.rd k ok hkC hkL hok hw hrd
theorem Inv.heavyFin (hD : drawOk ops = true) (h : Inv P W ops n st0 ρ0 C st rds I L a w ρ) {r : Nat} {o : Oper} (hr : ops[r]? = some o) (hn : ¬ In C r) (hrC : ∀ e ∈ o.after, Region.binds .any e = true → In C e.on)
  (hrL : ∀ e ∈ o.after, Region.binds .any e = true → In L e.on) {st' : AS} (hst : st'.hp = st.hp ∨ ∀ rd ∈ rds, comesBefore ops rd.i r = true ∨ LOk P st'.hp rd.o (aev rd.tm) (.val rd.v))
  (v v' : Value) (w' : World) (ρ' : Place) (ht : aput n st.tm o.dst v = some st'.tm) (hv : VR ρ' v v') (hrel : Rel ρ' W st'.hp st'.nx w') (hstep : Step ρ ρ' st.hp st'.hp st.nx st'.nx) :
  ∃ ρ' I', Inv P W ops n st0 ρ0 (C.setIfInBounds r true) st' rds I' (L.setIfInBounds r true) (a.put o.dst v') w' ρ' :=
 h.heavyFinW rfl hD hr hn hrC hrL hst v v' w' ρ' ht hv hrel hstep
theorem Inv.heavy {call : ACall} (hcall : CallOk P W call) (hD : drawOk ops = true) (h : Inv P W ops n st0 ρ0 C st rds I L a w ρ) {r : Nat} {o : Oper} (hr : ops[r]? = some o) (hn : ¬ In C r) (hrC : ∀ e ∈ o.after, Region.binds .any e = true → In C e.on)
  (hrL : ∀ e ∈ o.after, Region.binds .any e = true → In L e.on) {st' : AS} (hs : astep P call ops n st o = some st') (hst : rds.all (fun rd => comesBefore ops rd.i r || stable P st'.hp rd) = true) {Q : Exit → Act → World → Prop} :
  wpOp P ops Q r (fun a' w' => ∃ ρ' I', Inv P W ops n st0 ρ0 (C.setIfInBounds r true) st' rds I' (L.setIfInBounds r true) a' w' ρ') a w := by
 have hlk := h.heavyLook hD hr hn hrC hrL
 obtain ⟨ev', he1, he2⟩ := erel_of_looks hlk
 have hst' : ∀ rd ∈ rds, comesBefore ops rd.i r = true ∨ LOk P st'.hp rd.o (aev rd.tm) (.val rd.v) := fun rd hm => by
  have hc := List.all_eq_true.1 hst _ hm
  simp only [Bool.or_eq_true] at hc
  refine hc.imp id fun hc => ?_
  unfold stable at hc
  split at hc
  ·rename_i v2 hv2
   rw [veq_eq hc]
   exact .inl hv2
  ·cases hc
 have fin := h.heavyFin hD hr hn hrC hrL (st' := st') (.inr hst')
 unfold wpOp
 simp only [hr]
 unfold astep at hs
 split at hs
 ·rename_i hw
  rw [awanted_sound' h.size hlk hw, if_pos rfl]
  split at hs
  case h_2 => cases hs
  rename_i v hp' nx' hv
  split at hs
  case h_2 => cases hs
  rename_i tm' ht
  cases hs
  rw [aany_congr he2] at hv
  exact .inl (aany_sound hcall h.rel he1 hv fun v' w' ρ' g1 g2 g3 => fin v v' w' ρ' ht g1 g2 g3)
 ·rename_i hw
  rw [awanted_sound' h.size hlk hw, if_neg (by simp)]
  split at hs
  case h_2 => cases hs
  rename_i tm' ht
  cases hs
  exact fin undef undef w ρ ht (closed_refl (by simp [undef, closed])) h.rel (.refl _ _ _)
 ·cases hs
end
end Go.Proofs.YtngginofamlkkaaGreatDoor

noncomputable section
namespace Go.Proofs.YtngginofamlkkaaGreatDoor
open Go Go.RowKit
def unl (ops : Array Oper) (L : Array Bool) : Nat := ((List.range ops.size).filter fun i => !L.getD i true).length
theorem unl_set {ops : Array Oper} {L : Array Bool} {i : Nat} (hi : i < ops.size) (hs : L.size = ops.size) (hn : L.getD i true = false) : unl ops (L.setIfInBounds i true) < unl ops L := by
 unfold unl
 have e : ((List.range ops.size).filter fun k => !(L.setIfInBounds i true).getD k true) = ((List.range ops.size).filter fun k => !L.getD k true).filter fun k => !(L.setIfInBounds i true).getD k true := by
  rw [List.filter_filter]
  apply List.filter_congr
  intro k _
  by_cases hk : i = k
  ·subst hk; simp [hs, hi]
  ·rw [getD_set_ne true hk]; simp
 rw [e, List.length_filter_lt_length_iff_exists]
 exact ⟨i, by simp only [List.mem_filter, List.mem_range]; exact ⟨hi, by rw [hn]; rfl⟩, by simp [hs, hi]⟩
section
variable {P : Program} {W : Base} {ops : Array Oper} {n : Nat} {st0 : AS} {ρ0 : Place} {Q : Exit → Act → World → Prop}
theorem lt_of_in {ops : Array Oper} {L : Array Bool} (hs : L.size = ops.size) {i : Nat} (h : In L i) : i < ops.size := by
 rw [← hs]
 rcases Nat.lt_or_ge i L.size with h' | h'
 ·exact h'
 ·simp [In, Array.getElem?_eq_none h'] at h
theorem Inv.all {C : Array Bool} {st : AS} {rds : List Rd} {I : Info} {L : Array Bool} {a : Act} {w : World} {ρ : Place} (hD : drawOk ops = true) (h : Inv P W ops n st0 ρ0 C st rds I L a w ρ) (hr : Region.ready .any ops L = []) : ∀ i, In C i → In L i := by
 intro i
 induction i using Nat.strongRecOn with
 | _ i ih =>
  intro hi
  refine Classical.byContradiction fun hn => ?_
  have hlt := lt_of_in h.cs hi
  have hm : i ∈ Region.ready .any ops L := by
   rw [mem_ready]
   refine ⟨unlisted_of (by rw [h.ls]; exact hlt) hn, ops[i], by simp [hlt], fun e he hb => ?_⟩
   have := drawOk_edge hD (i := i) (o := ops[i]) (by simp [hlt]) he hb
   exact ih e.on this (h.cclosed i hi ops[i] (by simp [hlt]) e he hb)
  rw [hr] at hm
  cases hm
theorem Inv.done {C : Array Bool} {st : AS} {rds : List Rd} {I : Info} {L : Array Bool} {a : Act} {w : World} {ρ : Place} (h : Inv P W ops n st0 ρ0 C st rds I L a w ρ) (hall : ∀ i, In C i → In L i) : SRel ρ W n st a w := by
 refine ⟨h.rel, h.size, h.defers, fun t v hv => ?_⟩
 by_cases hex : ∃ j oj, In C j ∧ ops[j]? = some oj ∧ oj.dst = some t
 ·obtain ⟨j, oj, hj, hoj, hdj⟩ := hex
  rw [h.tmC j oj t hj hoj hdj] at hv
  cases hv
  exact h.lv j oj t (hall j hj) hoj hdj
 ·rw [h.tm0 t fun j oj hj hoj hdj => hex ⟨j, oj, hj, hoj, hdj⟩] at hv
  exact h.l0 t v (fun j oj hj hoj hdj => hex ⟨j, oj, h.sub j hj, hoj, hdj⟩) hv
theorem ready_in {C L : Array Bool} (hc : C.size = ops.size) (hsub : ∀ i, In L i → In C i) {j : Nat} (hj : j ∈ Region.ready .any ops L) : (In C j ∨ j ∈ Region.ready .any ops C) ∧ ¬ In L j ∧ j < ops.size ∧ ∃ o, ops[j]? = some o ∧ ∀ e ∈ o.after, Region.binds .any e = true → In L e.on := by
 obtain ⟨h1, o, h2, h3⟩ := mem_ready.1 hj
 have hlt := (Array.getElem?_eq_some_iff.1 h2).1
 refine ⟨?_, (unlisted h1).2, hlt, o, h2, h3⟩
 by_cases hC : In C j
 ·exact .inl hC
 ·exact .inr (mem_ready.2 ⟨unlisted_of (by rw [hc]; exact hlt) hC, o, h2, fun e he hb => hsub _ (h3 e he hb)⟩)
theorem draw_main {call : ACall} (hcall : CallOk P W call) (hD : drawOk ops = true) {stF : AS} (hQ : ∀ a' w' ρ', SRel ρ' W n stF a' w' → Step ρ0 ρ' st0.hp stF.hp st0.nx stF.nx → Q .normal a' w') :
  ∀ (m f : Nat) (C : Array Bool) (st : AS) (rds : List Rd) (I : Info) (L : Array Bool) (a : Act) (w : World) (ρ : Place), unl ops L ≤ m → Inv P W ops n st0 ρ0 C st rds I L a w ρ → adraw P call ops n f C st rds = some stF → wpAny P .any ops Q m L a w := by
 intro m
 induction m with
 | zero =>
  intro f C st rds I L a w ρ hm h hs
  have hr : Region.ready .any ops L = [] := by
   have hnil : ((List.range ops.size).filter fun i => !L.getD i true) = [] := List.eq_nil_of_length_eq_zero (Nat.le_zero.1 hm)
   apply List.eq_nil_iff_forall_not_mem.2
   intro j hj
   obtain ⟨h1, o, h2, h3⟩ := mem_ready.1 hj
   have : j ∈ ((List.range ops.size).filter fun i => !L.getD i true) := by
    simp only [List.mem_filter, List.mem_range]
    exact ⟨(Array.getElem?_eq_some_iff.1 h2).1, by rw [h1]; rfl⟩
   rw [hnil] at this
   cases this
  have hall := h.all hD hr
  have hallI : ∀ i, i < ops.size → In L i := fun i hi => Classical.byContradiction fun hn => by
   have : i ∈ ((List.range ops.size).filter fun i => !L.getD i true) := by
    simp only [List.mem_filter, List.mem_range]
    exact ⟨hi, by rw [unlisted_of (by rw [h.ls]; exact hi) hn]; rfl⟩
   rw [List.eq_nil_of_length_eq_zero (Nat.le_zero.1 hm)] at this
   cases this
  have hrC : Region.ready .any ops C = [] := by
   apply List.eq_nil_iff_forall_not_mem.2
   intro j hj
   obtain ⟨h1, o, h2, h3⟩ := mem_ready.1 hj
   exact (unlisted h1).2 (h.sub j (hallI j (Array.getElem?_eq_some_iff.1 h2).1))
  have hst : st = stF := by
   cases f with
   | zero => simp only [adraw, hrC] at hs; cases hs; rfl
   | succ f => simp only [adraw, hrC] at hs; cases hs; rfl
  subst hst
  exact ⟨hr, hQ a w ρ (h.done hall) h.step⟩
 | succ m ihm =>
  intro f
  induction f with
  | zero =>
   intro C st rds I L a w ρ hm h hs
   simp only [adraw] at hs
   split at hs
   case h_2 => cases hs
   rename_i hrC
   cases hs
   refine ⟨fun hr => hQ a w ρ (h.done (h.all hD hr)) h.step, fun j hj => ?_⟩
   obtain ⟨h1, h2, h3, o, h4, h5⟩ := ready_in h.cs h.sub hj
   rw [hrC] at h1
   have hjC := h1.resolve_right (by simp)
   refine wpOp_mono ?_ (h.run hD h4 hjC h2 h5)
   rintro a' w' ⟨ρ', h'⟩
   refine ihm 0 C _ rds I _ a' w' ρ' ?_ h' (by simp only [adraw, hrC])
   have := unl_set (ops := ops) (L := L) h3 h.ls (mem_ready.1 hj).1
   omega
  | succ f ihf =>
   intro C st rds I L a w ρ hm h hs
   have pending : ∀ j, j ∈ Region.ready .any ops L → In C j → ∀ o, ops[j]? = some o → (∀ e ∈ o.after, Region.binds .any e = true → In L e.on) → wpOp P ops Q j (wpAny P .any ops Q m (L.setIfInBounds j true)) a w := by
    intro j hj hjC o ho hall
    refine wpOp_mono ?_ (h.run hD ho hjC (unlisted (mem_ready.1 hj).1).2 hall)
    rintro a' w' ⟨ρ', h'⟩
    refine ihm (f + 1) C st rds I _ a' w' ρ' ?_ h' hs
    have := unl_set (ops := ops) (L := L) (Array.getElem?_eq_some_iff.1 ho).1 h.ls (mem_ready.1 hj).1
    omega
   have hs0 := hs
   simp only [adraw] at hs
   split at hs
   ·rename_i hrC
    cases hs
    refine ⟨fun hr => hQ a w ρ (h.done (h.all hD hr)) h.step, fun j hj => ?_⟩
    obtain ⟨h1, h2, h3, o, h4, h5⟩ := ready_in h.cs h.sub hj
    rw [hrC] at h1
    exact pending j hj (h1.resolve_right (by simp)) o h4 h5
   ·rename_i r rs hrC
    split at hs
    ·rename_i i hf
     have him : i ∈ Region.ready .any ops C := by rw [hrC]; exact List.mem_of_find?_eq_some hf
     have hil := List.find?_some hf
     obtain ⟨g1, o, g2, g3⟩ := mem_ready.1 him
     have hnC := (unlisted g1).2
     have hh : isHeavy o.op = false := by
      unfold lightIdx at hil
      rw [g2] at hil
      simpa using hil
     rw [g2] at hs
     dsimp only at hs
     split at hs
     ·rename_i hw
      split at hs
      ·rename_i v hv
       split at hs
       case h_2 => cases hs
       rename_i tm' ht
       refine ihf _ ⟨tm', st.hp, st.nx⟩ _ (I.set i st.tm v none) L a w ρ hm (h.absorb hD g2 hnC g3 hh (st' := ⟨tm', st.hp, st.nx⟩) (v := v) (B := none) ht h.rel (fun _ _ h => h) (Nat.le_refl _) h.step (fun b hb => by cases hb) (fun I' e1 e2 e3 => .inr (.inl ⟨by rw [e1]; exact hw, .inl (by rw [e1, e2]; exact hv), e3⟩)) ?_ ?_) hs
       ·intro x hx
        cases isRead o (aev st.tm) <;> simp [hx]
       ·intro _ hrd
        rw [hrd]
        simp
      ·rename_i ob nv hv
       split at hs
       case h_2 => cases hs
       rename_i tm' ht
       cases hrd : isRead o (aev st.tm) with
       | true => rw [hrd] at hs; cases hs
       | false =>
        rw [hrd, cond_false] at hs
        refine ihf _ ⟨tm', st.hp.put st.nx (some ob), st.nx + 1⟩ _ (I.set i st.tm (nv.val st.nx) (some st.nx)) L a w ρ hm (h.absorb hD g2 hnC g3 hh (st' := ⟨tm', st.hp.put st.nx (some ob), st.nx + 1⟩) (v := nv.val st.nx) (B := some st.nx) ht (h.rel.reserve ob) ?_ (Nat.le_succ _) ?_ (fun b hb => by cases hb; exact Nat.le_refl _) (fun I' e1 e2 e3 => ?_) (fun _ h => h) (fun _ h' => by rw [hrd] at h'; cases h')) hs
        ·intro b x hb
         have : b ≠ st.nx := fun e => by rw [e, h.rel.fresh _ (Nat.le_refl _)] at hb; cases hb
         rw [Tr.get_put, if_neg this]
         exact hb
        ·exact ⟨h.step.le, Nat.le_succ_of_le h.step.more, fun b hb hr => by
          have := h.step.old b hb hr
          refine ⟨this.1, ?_⟩
          rw [Tr.get_put, if_neg (by have := h.step.more; omega)]
          exact this.2⟩
        ·refine .inr (.inr ⟨by rw [e1]; exact hw, by rw [e1]; exact hrd, ob, nv, st.nx, ?_, e2, e3, by simp, h.step.more, h.rel.dom_none, by rw [Tr.get_put, if_pos rfl]⟩)
         rw [e1]
         refine .inl ?_
         rw [← alight_still (hp := st.hp) hrd]
         exact hv
      ·cases hs
     ·rename_i hw
      split at hs
      case h_2 => cases hs
      rename_i tm' ht
      exact ihf _ ⟨tm', st.hp, st.nx⟩ _ (I.set i st.tm undef none) L a w ρ hm (h.absorb hD g2 hnC g3 hh (st' := ⟨tm', st.hp, st.nx⟩) (v := undef) (B := none) ht h.rel (fun _ _ h => h) (Nat.le_refl _) h.step (fun b hb => by cases hb) (fun I' e1 e2 e3 => .inl ⟨by rw [e1]; exact hw, e2, e3⟩) (fun _ h => h) (fun h' => by rw [hw] at h'; cases h')) hs
     ·cases hs
    ·split at hs
     case h_2 => cases hs
     split at hs
     case h_2 => cases hs
     rename_i o ho
     split at hs
     case h_2 => cases hs
     rename_i st' hst
     cases hchk : rds.all (fun rd => comesBefore ops rd.i r || stable P st'.hp rd) with
     | false => rw [hchk] at hs; cases hs
     | true =>
      rw [hchk, cond_true] at hs
      have hrm : r ∈ Region.ready .any ops C := by rw [hrC]; simp
      obtain ⟨g1, o', g2, g3⟩ := mem_ready.1 hrm
      rw [ho] at g2
      cases g2
      have hnC := (unlisted g1).2
      refine ⟨fun hr => ?_, fun j hj => ?_⟩
      ·exfalso
       have hall := h.all hD hr
       have : r ∈ Region.ready .any ops L := mem_ready.2 ⟨unlisted_of (by rw [h.ls]; exact (Array.getElem?_eq_some_iff.1 ho).1) (fun h' => hnC (h.sub r h')), o, ho, fun e he hb => hall _ (g3 e he hb)⟩
       rw [hr] at this
       cases this
      ·obtain ⟨h1, h2, h3, oj, h4, h5⟩ := ready_in h.cs h.sub hj
       rcases h1 with h1 | h1
       ·exact pending j hj h1 oj h4 h5
       ·rw [hrC] at h1
        have hjr : j = r := by simpa using h1
        subst hjr
        rw [ho] at h4
        cases h4
        refine wpOp_mono ?_ (h.heavy hcall hD ho hnC g3 h5 hst hchk)
        rintro a' w' ⟨ρ', I', h'⟩
        refine ihm f _ st' rds I' _ a' w' ρ' ?_ h' hs
        have := unl_set (ops := ops) (L := L) h3 h.ls (mem_ready.1 hj).1
        omega
theorem region_draw {call : ACall} (hcall : CallOk P W call) (hm : P.follows .mixedOrders = true) (hD : drawOk ops = true) {id : Nat} {stF : AS} {a : Act} {w : World} (h : SRel ρ0 W n st0 a w)
  (hs : adraw P call ops n ops.size (Array.replicate ops.size false) st0 [] = some stF) (hQ : ∀ a' w' ρ', SRel ρ' W n stF a' w' → Step ρ0 ρ' st0.hp stF.hp st0.nx stF.nx → Q .normal a' w') : (Code.region id ops true).wp P Q a w := by
 refine wp_region_any hm ?_
 have hnot : ∀ i, ¬ In (Array.replicate ops.size false) i := fun i hi => by
  have := lt_of_in (ops := ops) (by simp) hi
  simp [In, this] at hi
 refine draw_main hcall hD hQ ops.size ops.size _ st0 [] ⟨fun _ => .e, fun _ => undef, fun _ => none⟩ _ a _ ρ0 ?_ ⟨by simp, by simp, fun i hi => (hnot i hi).elim, fun i hi => (hnot i hi).elim, fun i hi => hi, fun j o t hj => (hnot j hj).elim, fun t _ => rfl, h.rel.drew, h.frame.size, h.frame.defers, fun j o t hj => (hnot j hj).elim, fun t v _ hv => h.frame.slot t v hv, fun j o hj => (hnot j hj).elim, fun j k b hj => (hnot j hj).elim, .refl _ _ _, fun j o hj => (hnot j hj).elim⟩ hs
 unfold unl
 exact Nat.le_trans (List.length_filter_le _ _) (by simp)
end
end Go.Proofs.YtngginofamlkkaaGreatDoor

noncomputable section
namespace Go.Proofs.YtngginofamlkkaaGreatDoor
open Go Go.RowKit
set_option maxRecDepth 100000
set_option maxHeartbeats 8000000
inductive AEx where
 | normal
 | exit (id : Nat)
 | ret
def AEx.to : AEx → Exit
 | .normal => .normal
 | .exit id => .exit id
 | .ret => .ret
def aresL (P : Program) (hp : Tr AObj) (tm : Tr Value) : List ResultVar → Option (List Value)
 | [] => some []
 | .tmp t :: l => match tm.get t with
  | some v => match aresL P hp tm l with
   | some vs => some (v :: vs)
   | none => none
  | none => none
 | .cell a t :: l => match tm.get a with
  | some p => match aLoad P hp t p with
   | some v => match aresL P hp tm l with
    | some vs => some (v :: vs)
    | none => none
   | none => none
  | none => none
def ares (P : Program) (hp : Tr AObj) (tm : Tr Value) (fn : Func) : Option Value :=
 match aresL P hp tm fn.results.toList with
 | some [v] => some v
 | some vs => some (.tuple vs.toArray)
 | none => none
theorem aresL_sound {P : Program} {ρ : Place} {W : Base} {hp : Tr AObj} {nx : Nat} {w : World} (h : Rel ρ W hp nx w) {tm : Tr Value} {n : Nat} {D : List Deferred} {a : Act} (hF : FRel D ρ tm n a) : ∀ {l : List ResultVar} {vs : List Value}, aresL P hp tm l = some vs →
  ∃ vs', VRL ρ vs vs' ∧ (l.mapM fun x => (match x with | .tmp t => pure (a.tmps.getD t undef) | .cell p t => do loadVar t (← asAddr (a.tmps.getD p undef)) : Sem Value)).run P w = .ok vs' w
 | [], vs, hl => by simp only [aresL] at hl; cases hl; exact ⟨[], .nil, rfl⟩
 | .tmp t :: l, vs, hl => by
  simp only [aresL] at hl
  split at hl
  case h_2 => cases hl
  rename_i v hv
  split at hl
  case h_2 => cases hl
  rename_i us hus
  cases hl
  obtain ⟨vs', h1, h2⟩ := aresL_sound h hF hus
  refine ⟨a.tmps.getD t undef :: vs', .cons (hF.slot t v hv).2 h1, ?_⟩
  rw [List.mapM_cons, Sem.run_bind]
  show (Result.andThen (.ok (a.tmps.getD t undef) w) _) = _
  rw [Result.andThen_ok, Sem.run_bind, h2, Result.andThen_ok]
  rfl
 | .cell p t :: l, vs, hl => by
  simp only [aresL] at hl
  split at hl
  case h_2 => cases hl
  rename_i q hq
  split at hl
  case h_2 => cases hl
  rename_i v hv
  split at hl
  case h_2 => cases hl
  rename_i us hus
  cases hl
  obtain ⟨vs', h1, h2⟩ := aresL_sound h hF hus
  have hp' := (hF.slot p q hq).2
  obtain ⟨v', e, hr⟩ := aLoad_sound h hp' hv
  refine ⟨v' :: vs', .cons hr h1, ?_⟩
  have e' : ((asAddr (a.tmps.getD p undef)) >>= fun x => loadVar t x).run P w = .ok v' w := by
   rw [← e]
   unfold Instr.loadAt
   generalize a.tmps.getD p undef = y at hp' ⊢
   unfold aLoad at hv
   cases hp' <;> try simp only [reduceCtorEq] at hv
   rfl
  rw [List.mapM_cons, Sem.run_bind, e', Result.andThen_ok, Sem.run_bind, h2, Result.andThen_ok]
  rfl
theorem ares_sound {P : Program} {ρ : Place} {W : Base} {hp : Tr AObj} {nx : Nat} {w : World} (h : Rel ρ W hp nx w) {tm : Tr Value} {n : Nat} {D : List Deferred} {a : Act} (hF : FRel D ρ tm n a) {fn : Func} {v : Value} (hv : ares P hp tm fn = some v) :
  ∃ v', (results fn a.tmps).run P w = .ok v' w ∧ VR ρ v v' := by
 unfold ares at hv
 have run : ∀ vs', (fn.results.toList.mapM fun x => (match x with | .tmp t => pure (a.tmps.getD t undef) | .cell p t => do loadVar t (← asAddr (a.tmps.getD p undef)) : Sem Value)).run P w = .ok vs' w →
   (results fn a.tmps).run P w = .ok (if h : vs'.toArray.size = 1 then vs'.toArray[0] else .tuple vs'.toArray) w := by
  intro vs' hr
  unfold results
  rw [Sem.run_bind]
  have : (fn.results.mapM fun x => (match x with | .tmp t => pure (a.tmps.getD t undef) | .cell p t => do loadVar t (← asAddr (a.tmps.getD p undef)) : Sem Value)).run P w = .ok vs'.toArray w := by
   rw [Array.mapM_eq_mapM_toList, Sem.run_map, hr]
   rfl
  exact (congrArg (fun r => Result.andThen r _) this).trans rfl
 split at hv
 ·rename_i u hl
  cases hv
  obtain ⟨vs', h1, h2⟩ := aresL_sound h hF hl
  cases h1 with
  | cons hu hnil =>
   cases hnil
   exact ⟨_, run _ h2, by simpa using hu⟩
 ·rename_i vs hne hl
  cases hv
  obtain ⟨vs', h1, h2⟩ := aresL_sound h hF hl
  refine ⟨_, run _ h2, ?_⟩
  have hlen : vs'.length ≠ 1 := fun e => by
   have := h1.len
   match vs, hne, this with
   | [v], hne, _ => exact hne v rfl
   | [], _, h => rw [e] at h; cases h
   | _ :: _ :: _, _, h => rw [e] at h; simp at h
  rw [dif_neg (by simpa using hlen)]
  exact .tuple h1.arr.1 h1.arr.2
 ·cases hv
def putArgs : Nat → List Value → Tr Value → Tr Value
 | _, [], t => t
 | i, v :: l, t => putArgs (i + 1) l (t.put i (some v))
theorem putArgs_get : ∀ (l : List Value) (i : Nat) (t : Tr Value) (k : Nat), (putArgs i l t).get k = if i ≤ k ∧ k < i + l.length then l[k - i]? else t.get k
 | [], i, t, k => by simp [putArgs]; omega
 | v :: l, i, t, k => by
  simp only [putArgs]
  rw [putArgs_get l (i + 1) _ k, Tr.get_put]
  by_cases h : k = i
  ·subst h
   rw [if_neg (by omega), if_pos rfl, if_pos (by simp)]
   simp
  ·by_cases h1 : i + 1 ≤ k ∧ k < i + 1 + l.length
   ·rw [if_pos h1, if_pos (by simp; omega)]
    obtain ⟨j, hj⟩ : ∃ j, k = i + 1 + j := ⟨k - (i + 1), by omega⟩
    subst hj
    rw [show i + 1 + j - (i + 1) = j by omega, show i + 1 + j - i = j + 1 by omega]
    simp
   ·rw [if_neg h1, if_neg h, if_neg (by simp; omega)]
def acallR (P : Program) (R : Nat → Code → AS → Option (AEx × AS)) : ACall := fun f args hp nx => match P.funcs[f]? with
 | some fn => match fn.body with
  | some c => match R (args.length + (fn.ntmps - args.length)) c ⟨putArgs 0 args .e, hp, nx⟩ with
   | some (.normal, st') | some (.ret, st') => match ares P st'.hp st'.tm fn with
    | some v => some (v, st'.hp, st'.nx)
    | none => none
   | _ => none
  | none => none
 | none => none
def cregion (P : Program) (R : Nat → Code → AS → Option (AEx × AS)) (n : Nat) (st : AS) (ops : Array Oper) (draw : Bool) : Option (AEx × AS) :=
 match (bif draw then (bif drawOk ops then adraw P (acallR P R) ops n ops.size (Array.replicate ops.size false) st [] else none) else aseq P (acallR P R) ops n st ops.toList) with
 | some st' => some (.normal, st')
 | none => none
def cseq (R : Nat → Code → AS → Option (AEx × AS)) (n : Nat) (y : Code) (r : Option (AEx × AS)) : Option (AEx × AS) :=
 match r with
 | some (.normal, st') => R n y st'
 | r => r
def ccond (R : Nat → Code → AS → Option (AEx × AS)) (n : Nat) (st : AS) (x y : Code) (c : Option Value) : Option (AEx × AS) :=
 match c with
 | some (.bool true) => R n x st
 | some (.bool false) => R n y st
 | _ => none
def cblock (id : Nat) (r : Option (AEx × AS)) : Option (AEx × AS) :=
 match r with
 | some (.exit j, st') => bif j.beq id then some (.normal, st') else some (.exit j, st')
 | r => r
def ctab (c : Code) : Program → (Nat → Code → AS → Option (AEx × AS)) → Nat → AS → Option (AEx × AS) :=
 Code.rec (motive := fun _ => Program → (Nat → Code → AS → Option (AEx × AS)) → Nat → AS → Option (AEx × AS))
  (fun _ _ _ st => some (.normal, st))
  (fun _ ops draw P R n st => cregion P R n st ops draw)
  (fun x y _ _ _ R n st => cseq R n y (R n x st))
  (fun c x y _ _ _ R n st => ccond R n st x y (aev st.tm c))
  (fun id b _ _ R n st => cblock id (R n b st))
  (fun b _ _ R n st => cseq R n (.loop b) (R n b st))
  (fun _ _ _ _ _ _ _ _ _ _ => none)
  (fun id _ _ _ st => some (.exit id, st))
  (fun _ _ _ _ _ _ => none)
  (fun _ _ _ _ st => some (.normal, st))
  (fun _ _ _ _ _ => none)
  (fun _ _ _ st => some (.ret, st))
  (fun _ _ _ _ _ => none) c
def acode (P : Program) (k : Nat) : Nat → Code → AS → Option (AEx × AS) :=
 Nat.rec (motive := fun _ => Nat → Code → AS → Option (AEx × AS)) (fun _ _ _ => none) (fun _ ih n c st => ctab c P ih n st) k
theorem acode_zero (P : Program) (n : Nat) (c : Code) (st : AS) : acode P 0 n c st = none := rfl
theorem acode_succ (P : Program) (k n : Nat) (c : Code) (st : AS) : acode P (k + 1) n c st =
  (match c with
  | .skip | .label _ => some (.normal, st)
  | .region _ ops draw => cregion P (acode P k) n st ops draw
  | .seq x y => cseq (acode P k) n y (acode P k n x st)
  | .cond c x y => ccond (acode P k) n st x y (aev st.tm c)
  | .block id b => cblock id (acode P k n b st)
  | .loop b => cseq (acode P k) n (.loop b) (acode P k n b st)
  | .exit id => some (.exit id, st)
  | .ret => some (.ret, st)
  | _ => none) := by cases c <;> rfl
def acall (P : Program) (k : Nat) : ACall := acallR P (acode P k)
def LoopWp (P : Program) (b : Code) (Q : Exit → Act → World → Prop) (a : Act) (w : World) : Prop :=
 ∀ (fr : Frame) (k : List Item) (cs : List Frame), ∃ e a' w', Q e a' w' ∧ Arrives P (lone (fr.at a (.code b :: .inLoop b :: k)) cs w) fr k cs e a' w'
theorem loop_of {P : Program} {b : Code} {Q : Exit → Act → World → Prop} {a : Act} {w : World} (h : LoopWp P b Q a w) : (Code.loop b).wp P Q a w :=
 fun fr k cs => let ⟨e, a', w', q, r⟩ := h fr k cs; ⟨e, a', w', q, .of_steps (.one step_loop) r⟩
theorem loop_round {P : Program} {b : Code} {Q : Exit → Act → World → Prop} {a : Act} {w : World} (h : b.wp P (Exit.then (LoopWp P b Q) Q) a w) : LoopWp P b Q a w := by
 intro fr k cs
 obtain ⟨e, a₁, w₁, hq, harr⟩ := h fr (.inLoop b :: k) cs
 cases e with
 | normal =>
  obtain ⟨e₂, a₂, w₂, hq₂, harr₂⟩ := hq fr k cs
  exact ⟨e₂, a₂, w₂, hq₂, .of_steps (Steps.trans harr (.one step_inLoop)) harr₂⟩
 | exit id => exact ⟨_, a₁, w₁, hq, .pass (x := .inLoop b) rfl (fun _ _ => .inl (by simp)) harr⟩
 | goto l => exact ⟨_, a₁, w₁, hq, .pass (x := .inLoop b) rfl (fun _ _ => .inl (by simp)) harr⟩
 | ret => exact ⟨_, a₁, w₁, hq, .pass (x := .inLoop b) rfl (fun _ _ => .inl (by simp)) harr⟩
 | panic ch => exact ⟨_, a₁, w₁, hq, .pass (x := .inLoop b) rfl (fun _ _ => .inl (by simp)) harr⟩
 | outgrown => exact ⟨_, a₁, w₁, hq, .pass (x := .inLoop b) rfl (fun _ _ => .inl (by simp)) harr⟩
def Runs (W : Base) (n : Nat) (st st' : AS) (e : AEx) (g : (Exit → Act → World → Prop) → Act → World → Prop) : Prop :=
 ∀ (ρ : Place) (a : Act) (w : World) (Q : Exit → Act → World → Prop), SRel ρ W n st a w → (∀ a' w' ρ', SRel ρ' W n st' a' w' → Step ρ ρ' st.hp st'.hp st.nx st'.nx → Q e.to a' w') → g Q a w
theorem acode_sound {P : Program} (hm : P.follows .mixedOrders = true) : ∀ k, (∀ W n c st e st', acode P k n c st = some (e, st') → Runs W n st st' e (c.wp P)) ∧
  (∀ W n b st e st', acode P k n (.loop b) st = some (e, st') → Runs W n st st' e (LoopWp P b)) ∧ ∀ W, CallOk P W (acall P k) := by
 intro k
 induction k with
 | zero =>
  refine ⟨fun W n c st e st' h => (nomatch (show (none : Option (AEx × AS)) = some (e, st') from h)), fun W n b st e st' h => (nomatch (show (none : Option (AEx × AS)) = some (e, st') from h)), fun W f args hp nx v hp' nx' h => ?_⟩
  unfold acall acallR at h
  split at h
  case h_2 => cases h
  split at h
  case h_2 => cases h
  simp [acode_zero] at h
 | succ k ih =>
  obtain ⟨ih1, ih2, ih3⟩ := ih
  have loops : ∀ W n b st e st', acode P (k + 1) n (.loop b) st = some (e, st') → Runs W n st st' e (LoopWp P b) := by
   intro W n b st e st' h ρ a w Q hs hQ
   rw [acode_succ] at h; dsimp only [cseq, ccond, cblock, cregion] at h
   refine loop_round ?_
   split at h
   ·rename_i st1 h1
    refine ih1 W n b st .normal st1 h1 ρ a w _ hs fun a' w' ρ' g1 g2 => ?_
    exact ih2 W n b st1 e st' h ρ' a' w' Q g1 fun a2 w2 ρ2 k1 k2 => hQ a2 w2 ρ2 k1 (g2.trans k2)
   ·rename_i hne
    refine ih1 W n b st e st' h ρ a w _ hs fun a' w' ρ' g1 g2 => ?_
    cases e with
    | normal => exact (hne st' h).elim
    | exit id => exact hQ a' w' ρ' g1 g2
    | ret => exact hQ a' w' ρ' g1 g2
  have codes : ∀ W n c st e st', acode P (k + 1) n c st = some (e, st') → Runs W n st st' e (c.wp P) := by
   intro W n c st e st' h ρ a w Q hs hQ
   cases c with
   | loop b => exact loop_of (loops W n b st e st' h ρ a w Q hs hQ)
   | skip => rw [acode_succ] at h; dsimp only [cseq, ccond, cblock, cregion] at h; cases h; exact wp_skip (hQ a w ρ hs (.refl _ _ _))
   | label l => rw [acode_succ] at h; dsimp only [cseq, ccond, cblock, cregion] at h; cases h; exact wp_label (hQ a w ρ hs (.refl _ _ _))
   | exit id => rw [acode_succ] at h; dsimp only [cseq, ccond, cblock, cregion] at h; cases h; exact wp_exit (hQ a w ρ hs (.refl _ _ _))
   | ret => rw [acode_succ] at h; dsimp only [cseq, ccond, cblock, cregion] at h; cases h; exact wp_ret (hQ a w ρ hs (.refl _ _ _))
   | goto l => rw [acode_succ] at h; cases h
   | refuse y => rw [acode_succ] at h; cases h
   | scope b => rw [acode_succ] at h; cases h
   | rangeFunc f ps x y => rw [acode_succ] at h; cases h
   | region id ops draw =>
    rw [acode_succ] at h; dsimp only [cseq, ccond, cblock, cregion] at h
    split at h
    case h_2 => cases h
    rename_i st1 h1
    cases h
    cases draw with
    | false =>
     simp only [cond_false] at h1
     exact region_seq (call := acall P k) (ih3 W) hs h1 hQ
    | true =>
     simp only [cond_true] at h1
     cases hD : drawOk ops with
     | false => rw [hD] at h1; cases h1
     | true =>
      rw [hD, cond_true] at h1
      exact region_draw (call := acall P k) (ih3 W) hm hD hs h1 hQ
   | seq x y =>
    rw [acode_succ] at h; dsimp only [cseq, ccond, cblock, cregion] at h
    refine wp_seq ?_
    split at h
    ·rename_i st1 h1
     refine ih1 W n x st .normal st1 h1 ρ a w _ hs fun a' w' ρ' g1 g2 => ?_
     exact ih1 W n y st1 e st' h ρ' a' w' Q g1 fun a2 w2 ρ2 k1 k2 => hQ a2 w2 ρ2 k1 (g2.trans k2)
    ·rename_i hne
     refine ih1 W n x st e st' h ρ a w _ hs fun a' w' ρ' g1 g2 => ?_
     cases e with
     | normal => exact (hne st' h).elim
     | exit id => exact hQ a' w' ρ' g1 g2
     | ret => exact hQ a' w' ρ' g1 g2
   | cond c x y =>
    rw [acode_succ] at h; dsimp only [cseq, ccond, cblock, cregion] at h
    split at h
    ·rename_i hc
     have := hs.frame.eval hc
     refine wp_cond_true (c := c) ?_ (ih1 W n x st e st' h ρ a w Q hs hQ)
     generalize a.eval c = z at this
     cases this
     rfl
    ·rename_i hc
     have := hs.frame.eval hc
     refine wp_cond_false (c := c) ?_ (ih1 W n y st e st' h ρ a w Q hs hQ)
     generalize a.eval c = z at this
     cases this
     rfl
    ·cases h
   | block id b =>
    rw [acode_succ] at h; dsimp only [cseq, ccond, cblock, cregion] at h
    refine wp_block ?_
    split at h
    ·rename_i j st1 h1
     refine ih1 W n b st (.exit j) st1 h1 ρ a w _ hs fun a' w' ρ' g1 g2 => ?_
     simp only [AEx.to, Exit.inBlock]
     cases hj : j.beq id with
     | true =>
      rw [hj] at h
      cases h
      rw [if_pos (Nat.eq_of_beq_eq_true hj)]
      exact hQ a' w' ρ' g1 g2
     | false =>
      rw [hj] at h
      cases h
      rw [if_neg (fun e => by subst e; simp at hj)]
      exact hQ a' w' ρ' g1 g2
    ·rename_i hne
     refine ih1 W n b st e st' h ρ a w _ hs fun a' w' ρ' g1 g2 => ?_
     cases e with
     | normal => exact hQ a' w' ρ' g1 g2
     | exit j => exact (hne j st' h).elim
     | ret => exact hQ a' w' ρ' g1 g2
  refine ⟨codes, loops, fun W f args hp nx v hp' nx' h ρ w args' hrel hargs => ?_⟩
  unfold acall acallR at h
  split at h
  case h_2 => cases h
  rename_i fn hfn
  split at h
  case h_2 => cases h
  rename_i c hc
  have start : SRel ρ W.bare (args.length + (fn.ntmps - args.length)) ⟨putArgs 0 args .e, hp, nx⟩ { tmps := args'.toArray ++ Array.replicate (fn.ntmps - args'.toArray.size) undef, defers := [] } w := by
   refine ⟨hrel.bare, ?_, rfl, fun t u hu => ?_⟩
   ·simp [hargs.len]
   ·rw [putArgs_get] at hu
    by_cases ht : 0 ≤ t ∧ t < 0 + args.length
    ·rw [if_pos ht] at hu
     have hlt : t < args'.length := by rw [← hargs.len]; omega
     refine ⟨by omega, ?_⟩
     have hg := hargs.get (i := t) (v := u) (v' := args'[t]) (by simpa using hu) (by simp)
     rw [Array.getD_eq_getD_getElem?, Array.getElem?_append_left (by simpa using hlt)]
     simpa [hlt] using hg
    ·rw [if_neg ht] at hu
     simp [Tr.get_e] at hu
  have fin : ∀ e st', acode P (k + 1) (args.length + (fn.ntmps - args.length)) c ⟨putArgs 0 args .e, hp, nx⟩ = some (e, st') → (e = .normal ∨ e = .ret) → (match ares P st'.hp st'.tm fn with | some v => some (v, st'.hp, st'.nx) | none => none) = some (v, hp', nx') →
    Calls P f args'.toArray w fun e w' => ∃ v' ρ', e = .returned v' ∧ VR ρ' v v' ∧ Rel ρ' W hp' nx' w' ∧ Step ρ ρ' hp hp' nx nx' := by
   intro e st' hac he hr
   split at hr
   case h_2 => cases hr
   rename_i u hu
   cases hr
   refine calls_of_wp hfn hc (codes _ _ c _ e st' hac ρ _ w _ start fun a' w' ρ' g1 g2 => ?_)
   obtain ⟨v', r1, r2⟩ := ares_sound g1.rel g1.frame hu
   rcases he with rfl | rfl
   ·exact ⟨g1.frame.defers, v', r1, v', ρ', rfl, r2, g1.rel.unbare, g2⟩
   ·exact ⟨g1.frame.defers, v', r1, v', ρ', rfl, r2, g1.rel.unbare, g2⟩
  split at h
  ·rename_i st' hac
   exact fin _ st' hac (.inl rfl) h
  ·rename_i st' hac
   exact fin _ st' hac (.inr rfl) h
  ·cases h
end Go.Proofs.YtngginofamlkkaaGreatDoor
