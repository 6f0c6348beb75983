/-
  Symbolic runs, part 3: bytes to strings, binary operators, and one operation that does not write, of any kind. Conditions: as each theorem states them.
-/
import Derived.Test.YtegjnjmimfgijaaGreatDoorSb
noncomputable section
namespace Go.Proofs.YtegjnjmimfgijaaGreatDoor
open Go Go.RowKit

def byteOf (v : Value) : UInt8 := UInt8.ofNat (toI v).toNat
def bytesL (l : List Value) : ByteArray := ⟨(l.map byteOf).toArray⟩
def IsU8 (v : Value) : Prop := ∃ n, v = .int .u8 n
def AllU8 (l : List Value) : Prop := ∀ v ∈ l, IsU8 v
theorem bytes_loop {P : Program} : ∀ (l : List Value) (s : ByteArray), AllU8 l →
    pureRun P (forIn l s fun c r => (match c with | .int .u8 n => pure (ForInStep.yield (r.push (UInt8.ofNat n.toNat))) | _ => do stuck "bytesToString: byte expected"; pure (ForInStep.yield r) : Sem (ForInStep ByteArray))) = some ⟨(s.data.toList ++ l.map byteOf).toArray⟩
  | [], s, _ => by
    show some s = _
    congr 1
    simp
  | v :: l, s, h => by
    obtain ⟨n, rfl⟩ := h v (by simp)
    rw [List.forIn_cons]
    dsimp only
    rw [pureRun_bind (v := ForInStep.yield (s.push (UInt8.ofNat n.toNat))) rfl]
    dsimp only
    rw [bytes_loop l _ (fun u hu => h u (by simp [hu]))]
    congr 1
    simp [ByteArray.push, byteOf, toI]
theorem bytes_run {P : Program} {l : List Value} (h : AllU8 l) : pureRun P (bytesTail l.toArray) = some (.string (bytesL l)) := by
  have e : bytesTail l.toArray = (forIn l.toArray ByteArray.empty fun c r => (match c with | .int .u8 n => pure (ForInStep.yield (r.push (UInt8.ofNat n.toNat))) | _ => do stuck "bytesToString: byte expected"; pure (ForInStep.yield r) : Sem (ForInStep ByteArray))) >>= fun s => pure (.string s) := rfl
  rw [e, List.forIn_toArray, pureRun_bind (bytes_loop l _ h)]
  show some _ = some _
  congr 2
theorem AllU8.flat {l : List Value} (h : AllU8 l) : flats l.toArray = true := by
  unfold flats
  rw [Array.all_eq_true_iff_forall_mem]
  intro x hx
  obtain ⟨n, rfl⟩ := h x (by simpa using hx)
  rfl
def sBytes (P : Program) (hp : Tr AObj) (src dst : TypeId) (x : Value) : Option (Value × Prop) :=
  match P.underlying src, P.underlying dst with
  | some (.slice e), some .string => match P.underlying e with
    | some (.int .u8) => match x with
      | .slice (some ⟨b, o, none⟩) n _ => match hp.get b with
        | some (.cells l _) => some (.string (bytesL ((l.drop o).take n)), o + n ≤ l.length ∧ AllU8 ((l.drop o).take n))
        | _ => none
      | .func (.via 1 _ _ false) els _ => some (.string (bytesL els.toList), AllU8 els.toList)
      | _ => none
    | _ => none
  | _, _ => none
theorem sBytes_sound {P : Program} {ρ : Place} {W : Base} {hp : Tr AObj} {nx : Nat} {w : World} (h : Rel ρ W hp nx w) {src dst : TypeId} {x x' v : Value} {ob : Prop} (hx : VR ρ x x') (hv : sBytes P hp src dst x = some (v, ob)) (hob : ob) :
    ∃ v', (convert src dst x').run P w = .ok v' w ∧ VR ρ v v' := by
  unfold sBytes at hv
  split at hv
  case h_2 => cases hv
  rename_i e hs hd
  split at hv
  case h_2 => cases hv
  rename_i he
  split at hv
  · rename_i b o n cp
    split at hv
    case h_2 => cases hv
    rename_i l wr hb
    cases hv
    refine aBytes_sound h hx ?_
    unfold aBytes
    rw [hs, hd]
    dsimp only
    rw [he]
    dsimp only
    have hrow : rowOf hp b o n = some ((l.drop o).take n) := by
      unfold rowOf
      rw [hb]
      dsimp only
      rw [Nat.ble_eq_true_of_le hob.1, cond_true]
    rw [hrow]
    dsimp only
    rw [hob.2.flat, cond_true, bytes_run hob.2]
  · rename_i pth n els cap
    cases hv
    have main : ∀ (x' : Value) (l : List Value), (Conv.bytesToString x').run P w = .ok (.string (bytesL l)) w → (∃ a n c, x' = .slice a n c) → (convert src dst x').run P w = .ok (.string (bytesL l)) w := by
      rintro x' l hr ⟨a, n, c, rfl⟩
      unfold convert
      rw [bind_run (underlying_pure hs), bind_run (underlying_pure hd)]
      dsimp only
      rw [bind_run (underlying_pure he)]
      exact hr
    cases hx with
    | treeNil sz a cp =>
      refine ⟨_, main _ _ ?_ ⟨_, _, _, rfl⟩, .string _⟩
      cases a with
      | none => rfl
      | some a =>
        rw [bytesToString_eq, Sem.run_bind]
        show (bytesTail #[]).run P w = _
        exact pureRun_run (bytes_run (P := P) (l := []) (fun v hv => by cases hv)) w
    | @tree _ _ cp c o _ cs ct fz hf hn hcap hsl hsz hr =>
      refine ⟨_, main _ _ ?_ ⟨_, _, _, rfl⟩, .string _⟩
      rw [bytesToString_eq, Sem.run_bind]
      have hl := loadFrom_run (P := P) (w := w) (a := ⟨c, o, none⟩) els.toList 0 #[] (fun i v hi => by
        obtain ⟨m, rfl⟩ := hob v (List.mem_of_getElem? hi)
        have hi' : els[i]? = some (.int .u8 m) := by simpa using hi
        have hlt : i < n := by rw [← hn]; exact (Array.getElem?_eq_some_iff.1 hi').1
        rw [Nat.zero_add, show (⟨c, o, none⟩ : Addr) = ⟨c, o + 0, none⟩ from rfl, add_eq, frz_cell h hf]
        have hlt2 : o + i * 1 + 0 < cs.size := by omega
        have := hr i 0 _ (.int .u8 m) cs[o + i * 1 + 0] hi' rfl (by simp [hlt2])
        rw [show o + (0 + i) = o + i * 1 + 0 by omega, Array.getElem?_eq_getElem hlt2]
        generalize cs[o + i * 1 + 0] = y at this
        cases this
        rfl)
      have hsz' : els.toList.length = n := by simpa using hn
      unfold loadCells
      rw [← hsz', hl, Result.andThen_ok]
      show (bytesTail (#[] ++ els.toList.toArray)).run P w = _
      rw [show #[] ++ els.toList.toArray = els.toList.toArray by simp]
      exact pureRun_run (bytes_run (P := P) hob) w
  · cases hv

/-- Binary operators that the plain evaluator can't carry out at symbols. -/
def sBin (P : Program) (op : BinOp) (t : TypeId) (u z : Value) : Option (Value × Prop) :=
  match op, u, z with
  | .quo, .int k a, .int k' b => bif decide (k = k') then some (.int k (k.wrap (a.tdiv b)), b ≠ 0) else none
  | .rem, .int k a, .int k' b => bif decide (k = k') then some (.int k (a.tmod b), b ≠ 0) else none
  | .shl, .int k a, .int _ b => some (.int k (k.wrap (a * 2 ^ (min b.toNat k.bits))), 0 ≤ b)
  | .shr, .int k a, .int _ b => some (.int k (a.fdiv (2 ^ (min b.toNat k.bits))), 0 ≤ b)
  | .add, .string x, .string y => some (.string (x ++ y), x.size + y.size ≤ 9223372036854775807)
  | .eql, .string x, .string y => some (.bool (decide (x = y)), True)
  | .neq, .string x, .string y => some (.bool (!decide (x = y)), True)
  | .eql, .int k a, .int k' b => bif decide (k = k') then some (.bool (decide (a = b)), True) else none
  | .neq, .int k a, .int k' b => bif decide (k = k') then some (.bool (!decide (a = b)), True) else none
  | .eql, .agg xs, .agg ys => bif flats xs && flats ys && !P.eqGuardType P.depth t then match sEq P 100 t (.agg xs) (.agg ys) with
      | some b => some (.bool b, True)
      | none => none
    else none
  | .neq, .agg xs, .agg ys => bif flats xs && flats ys && !P.eqGuardType P.depth t then match sEq P 100 t (.agg xs) (.agg ys) with
      | some b => some (.bool (!b), True)
      | none => none
    else none
  | _, _, _ => none
theorem sBin_sound {P : Program} {op : BinOp} {t : TypeId} {x y : Operand} {u z v : Value} {ob : Prop} (h : sBin P op t u z = some (v, ob)) (hob : ob) (w : World) :
    ((do eqGuard op t x y u z; binOp op t u z) >>= fun r => pure (Next.value r)).run P w = .ok (.value v) w ∧ closed1 u = true ∧ closed1 z = true ∧ closed v = true := by
  have main : ∀ (op : BinOp) (u z v : Value), (∀ w, (eqGuard op t x y u z).run P w = .ok () w) → (∀ w, (binOp op t u z).run P w = .ok v w) → ((do eqGuard op t x y u z; binOp op t u z) >>= fun r => pure (Next.value r)).run P w = .ok (.value v) w := by
    intro op u z v h1 h2
    rw [Sem.run_bind, Sem.run_bind, h1, Result.andThen_ok, h2, Result.andThen_ok]
    rfl
  unfold sBin at h
  split at h
  · rename_i k a k' b
    cases hk : decide (k = k') with
    | false => rw [hk] at h; cases h
    | true =>
      rw [hk] at h; cases h
      have := of_decide_eq_true hk; subst this
      refine ⟨main _ _ _ _ (fun _ => rfl) (fun w => ?_), rfl, rfl, rfl⟩
      show (if k ≠ k then stuck _ else Op.intDiv .quo k a b : Sem Value).run P w = _
      rw [if_neg (by simp)]
      unfold Op.intDiv
      rw [if_neg hob]
      rfl
  · rename_i k a k' b
    cases hk : decide (k = k') with
    | false => rw [hk] at h; cases h
    | true =>
      rw [hk] at h; cases h
      have := of_decide_eq_true hk; subst this
      refine ⟨main _ _ _ _ (fun _ => rfl) (fun w => ?_), rfl, rfl, rfl⟩
      show (if k ≠ k then stuck _ else Op.intDiv .rem k a b : Sem Value).run P w = _
      rw [if_neg (by simp)]
      unfold Op.intDiv
      rw [if_neg hob]
      rfl
  · rename_i k a k' b
    cases h
    refine ⟨main _ _ _ _ (fun _ => rfl) (fun w => ?_), rfl, rfl, rfl⟩
    show (Op.shift .shl k a k' b).run P w = _
    unfold Op.shift
    rw [if_neg (by omega)]
    rfl
  · rename_i k a k' b
    cases h
    refine ⟨main _ _ _ _ (fun _ => rfl) (fun w => ?_), rfl, rfl, rfl⟩
    show (Op.shift .shr k a k' b).run P w = _
    unfold Op.shift
    rw [if_neg (by omega)]
    rfl
  · rename_i a b
    cases h
    refine ⟨main _ _ _ _ (fun _ => rfl) (fun w => ?_), rfl, rfl, rfl⟩
    show (Op.stringOp .add a b).run P w = _
    unfold Op.stringOp
    dsimp only
    rw [if_neg (by have : IntKind.i64.max = 9223372036854775807 := by decide
                   rw [this]; omega)]
    rfl
  · rename_i a b
    cases h
    refine ⟨main _ _ _ _ (fun _ => rfl) (fun w => ?_), rfl, rfl, rfl⟩
    show Result.ok (Value.bool (a.toList == b.toList)) w = _
    rw [← beq_toListBytes, byteArray_beq]
  · rename_i a b
    cases h
    refine ⟨main _ _ _ _ (fun _ => rfl) (fun w => ?_), rfl, rfl, rfl⟩
    show Result.ok (Value.bool (!(a.toList == b.toList))) w = _
    rw [← beq_toListBytes, byteArray_beq]
  · rename_i k a k' b
    cases hk : decide (k = k') with
    | false => rw [hk] at h; cases h
    | true =>
      rw [hk] at h; cases h
      have := of_decide_eq_true hk; subst this
      refine ⟨main _ _ _ _ (fun _ => rfl) (fun w => ?_), rfl, rfl, rfl⟩
      show (if k ≠ k then stuck _ else Op.intCmp .eql a b : Sem Value).run P w = _
      rw [if_neg (by simp)]
      rfl
  · rename_i k a k' b
    cases hk : decide (k = k') with
    | false => rw [hk] at h; cases h
    | true =>
      rw [hk] at h; cases h
      have := of_decide_eq_true hk; subst this
      refine ⟨main _ _ _ _ (fun _ => rfl) (fun w => ?_), rfl, rfl, rfl⟩
      show (if k ≠ k then stuck _ else Op.intCmp .neq a b : Sem Value).run P w = _
      rw [if_neg (by simp)]
      rfl
  · rename_i xs ys
    cases hc : flats xs && flats ys && !P.eqGuardType P.depth t with
    | false => rw [hc] at h; cases h
    | true =>
      rw [hc, cond_true] at h
      simp only [Bool.and_eq_true, Bool.not_eq_true'] at hc
      split at h
      case h_2 => cases h
      rename_i b hb
      cases h
      refine ⟨main _ _ _ _ (fun w => run_eqGuard_agg w _ t x y xs ys hc.2) (fun w => ?_), hc.1.1, hc.1.2, rfl⟩
      rw [run_eql_struct, sEq_sound 100 9900 t (.agg xs) (.agg ys) b w hc.1.1 hc.1.2 hb, Result.andThen_ok]
  · rename_i xs ys
    cases hc : flats xs && flats ys && !P.eqGuardType P.depth t with
    | false => rw [hc] at h; cases h
    | true =>
      rw [hc, cond_true] at h
      simp only [Bool.and_eq_true, Bool.not_eq_true'] at hc
      split at h
      case h_2 => cases h
      rename_i b hb
      cases h
      refine ⟨main _ _ _ _ (fun w => run_eqGuard_agg w _ t x y xs ys hc.2) (fun w => ?_), hc.1.1, hc.1.2, rfl⟩
      rw [run_neq_struct, sEq_sound 100 9900 t (.agg xs) (.agg ys) b w hc.1.1 hc.1.2 hb, Result.andThen_ok]
  · cases h
end Go.Proofs.YtegjnjmimfgijaaGreatDoor
