/-
  Closed runs by evaluation, part 13: operations depend on their operands alone; which operations come before one. Conditions: as each theorem states them.
-/
import Derived.Test.YtegjnjmimfgijaaGreatDoorEvl
noncomputable section
namespace Go.Proofs.YtegjnjmimfgijaaGreatDoor
open Go Go.RowKit

section
variable {P : Program} {ev ev' : Operand → Option Value}
theorem allClosed_congr {xs : Array Operand} (h : ∀ x ∈ xs, ev x = ev' x) : allClosed ev xs = allClosed ev' xs := by
  unfold allClosed
  rw [Bool.eq_iff_iff, Array.all_eq_true_iff_forall_mem, Array.all_eq_true_iff_forall_mem]
  constructor
  · intro g x hx; rw [← h x hx]; exact g x hx
  · intro g x hx; rw [h x hx]; exact g x hx
theorem scalar_congr {o : Oper} (h : ∀ x ∈ o.op.operands, ev x = ev' x) : scalar P o ev = scalar P o ev' := by
  unfold scalar
  rw [allClosed_congr h]
  cases hs : isSelect o.op with
  | true => simp
  | false =>
    have : execOp (fun x => (ev x).getD undef) o = execOp (fun x => (ev' x).getD undef) o :=
      execOp_congr o (fun cs b e => by rw [e] at hs; cases hs) fun x hx => by rw [h x hx]
    rw [this]
theorem evL_congr : ∀ {l : List Operand}, (∀ x ∈ l, ev x = ev' x) → evL ev l = evL ev' l
  | [], _ => rfl
  | x :: l, h => by
    simp only [evL]
    rw [h x (by simp), evL_congr fun y hy => h y (by simp [hy])]
theorem evP_congr : ∀ {l : List (Nat × Operand)}, (∀ p ∈ l, ev p.2 = ev' p.2) → evP ev l = evP ev' l
  | [], _ => rfl
  | (i, x) :: l, h => by
    simp only [evP]
    rw [h (i, x) (by simp), evP_congr fun y hy => h y (by simp [hy])]
theorem aBound_congr {d : Nat} {x : Option Operand} (h : ∀ y, x = some y → ev y = ev' y) : aBound ev d x = aBound ev' d x := by
  cases x with
  | none => rfl
  | some y => simp only [aBound]; rw [h y rfl]
theorem aLen_congr {c : Call} (h : ∀ x ∈ c.operands, ev x = ev' x) : aLen P c ev = aLen P c ev' := by
  unfold aLen
  split
  · rename_i t x hcal hty har
    rw [h x (by simp [Call.operands]; exact .inr (Array.mem_of_getElem? har))]
  · rfl
theorem apure_congr {o : Oper} (h : ∀ x ∈ o.op.operands, ev x = ev' x) : apure P o ev = apure P o ev' := by
  have hsc := scalar_congr (P := P) h
  obtain ⟨dst, op, type, pos, after, guard⟩ := o
  unfold apure
  cases op <;> simp only [Op.operands] at h <;> dsimp only
  case move x => exact h x (by simp)
  case assign x => exact h x (by simp)
  case pick c x y => rw [h c (by simp), h x (by simp), h y (by simp)]
  case nilCheck x => rw [h x (by simp), hsc]
  case field t x f => rw [h x (by simp)]
  case index t x i => rw [h x (by simp), h i (by simp), hsc]
  case extract x i => rw [h x (by simp)]
  case build t ps => rw [evP_congr fun p hp => h p.2 (by simp; exact ⟨p.1, by simpa using hp⟩)]
  case fieldAddr t x f => rw [h x (by simp)]
  case indexAddr t x i => rw [h x (by simp), h i (by simp)]
  case slice t x lo hi mx =>
    cases mx with
    | some m => exact hsc
    | none =>
      dsimp only
      rw [h x (by simp), hsc]
      have : ∀ v, aSlice P ev t v lo hi = aSlice P ev' t v lo hi := fun v => by
        unfold aSlice
        have b1 : ∀ d, aBound ev d hi = aBound ev' d hi := fun d => aBound_congr fun y hy => h y (by simp [hy])
        have b2 : ∀ d, aBound ev d lo = aBound ev' d lo := fun d => aBound_congr fun y hy => h y (by simp [hy])
        simp only [b1, b2]
      simp only [this]
  case makeFunc fn f c =>
    cases fn <;> try exact hsc
    dsimp only
    rw [evL_congr fun x hx => h x (by simp; exact .inl (by simpa using hx)), evL_congr fun x hx => h x (by simp; exact .inr (by simpa using hx))]
  case makeInterface t x => rw [h x (by simp)]
  case call c => rw [aLen_congr h, hsc]
  case binOp op t x y ty => rw [h x (by simp), h y (by simp), hsc]
  all_goals exact hsc
theorem aread_congr {hp : Tr AObj} {o : Oper} (h : ∀ x ∈ o.op.operands, ev x = ev' x) : aread P hp o ev = aread P hp o ev' := by
  obtain ⟨dst, op, type, pos, after, guard⟩ := o
  unfold aread
  cases op <;> simp only [Op.operands] at h <;> dsimp only
  case load t x => rw [h x (by simp)]
  case convert src dst' x => rw [h x (by simp)]
theorem anew_congr {o : Oper} (h : ∀ x ∈ o.op.operands, ev x = ev' x) : anew P o ev = anew P o ev' := by
  obtain ⟨dst, op, type, pos, after, guard⟩ := o
  unfold anew
  cases op <;> simp only [Op.operands] at h <;> dsimp only
  case box t x => rw [h x (by simp)]
  case buildSlice t len ps => rw [evP_congr fun p hp => h p.2 (by simp; exact ⟨p.1, by simpa using hp⟩)]
  case makeSlice t x y => rw [h x (by simp), h y (by simp)]
  case convert src dst' x => rw [h x (by simp)]
  case range t x => rw [h x (by simp)]
theorem alight_congr {hp : Tr AObj} {o : Oper} (h : ∀ x ∈ o.op.operands, ev x = ev' x) : alight P hp o ev = alight P hp o ev' := by
  have h1 := apure_congr (P := P) h
  have h2 := aread_congr (P := P) (hp := hp) h
  have h3 := anew_congr (P := P) h
  unfold alight
  rw [h1, h2, h3]
  split <;> try rfl
  rename_i s d x hop
  rw [h x (by rw [hop]; simp [Op.operands])]
theorem aheavy_congr {call : ACall} {hp : Tr AObj} {nx : Nat} {o : Oper} (h : ∀ x ∈ o.op.operands, ev x = ev' x) : aheavy P call hp nx o ev = aheavy P call hp nx o ev' := by
  obtain ⟨dst, op, type, pos, after, guard⟩ := o
  unfold aheavy
  cases op <;> simp only [Op.operands] at h <;> dsimp only
  case store t x y => rw [h x (by simp), h y (by simp)]
  case next x q => rw [h x (by simp)]
  case call c =>
    obtain ⟨callee, args, argTypes⟩ := c
    have ha : evL ev args.toList = evL ev' args.toList := evL_congr fun x hx => h x (by simp [Call.operands]; exact .inr (by simpa using hx))
    dsimp only
    rw [ha]
    cases callee with
    | value f => dsimp only; rw [h f (by simp [Call.operands])]
    | invoke r m => rfl
    | builtin b => cases b <;> rfl
theorem aany_congr {call : ACall} {hp : Tr AObj} {nx : Nat} {o : Oper} (h : ∀ x ∈ o.op.operands, ev x = ev' x) : aany P call hp nx o ev = aany P call hp nx o ev' := by
  rw [aany_eq, aany_eq]
  unfold aany0
  rw [aheavy_congr h, alight_congr h]
end

/-- The operation reads memory. -/
def isRead (o : Oper) (ev : Operand → Option Value) : Bool :=
  match o.op with
  | .load .. => true
  | .convert _ _ x => match ev x with
    | some (.slice (some _) _ _) => true
    | _ => false
  | _ => false
theorem alight_still {P : Program} {ev : Operand → Option Value} {hp hp' : Tr AObj} {o : Oper} (h : isRead o ev = false) : alight P hp o ev = alight P hp' o ev := by
  unfold isRead at h
  unfold alight
  split <;> try rfl
  · rename_i t x hop; rw [hop] at h; cases h
  · rename_i s d x hop
    rw [hop] at h
    dsimp only at h
    split
    · rename_i hx; rw [hx] at h; cases h
    · rfl
    · rfl

/-- Operation j comes before operation i, by 'Region.before'. -/
def comesBefore (ops : Array Oper) (j i : Nat) : Bool := ((Region.before ops).getD i 0).testBit j
theorem or_foldl (acc : Array Nat) (j : Nat) : ∀ (l : List Edge) (s : Nat), (l.foldl (fun s e => if Region.binds .any e then s ||| 2 ^ e.on ||| acc.getD e.on 0 else s) s).testBit j = true →
    s.testBit j = true ∨ ∃ e ∈ l, Region.binds .any e = true ∧ (e.on = j ∨ (acc.getD e.on 0).testBit j = true)
  | [], s, h => .inl h
  | e :: l, s, h => by
    simp only [List.foldl_cons] at h
    rcases or_foldl acc j l _ h with h' | ⟨e', h1, h2⟩
    · split at h'
      · rename_i hb
        simp only [Nat.testBit_or, Bool.or_eq_true, Nat.testBit_two_pow, decide_eq_true_eq] at h'
        rcases h' with (h' | h') | h'
        · exact .inl h'
        · exact .inr ⟨e, by simp, hb, .inl h'⟩
        · exact .inr ⟨e, by simp, hb, .inr h'⟩
      · exact .inl h'
    · exact .inr ⟨e', by simp [h1], h2⟩
theorem before_list : ∀ (l : List Oper) (acc : Array Nat) (ops : Array Oper), ops.toList.drop acc.size = l →
    (∀ i j, (acc.getD i 0).testBit j = true → ∃ o, ops[i]? = some o ∧ ∃ e ∈ o.after.toList, Region.binds .any e = true ∧ (e.on = j ∨ (e.on < i ∧ (acc.getD e.on 0).testBit j = true))) →
    ∀ i j, ((l.foldl (fun acc o => acc.push (o.after.foldl (fun s e => if Region.binds .any e then s ||| 2 ^ e.on ||| acc.getD e.on 0 else s) 0)) acc).getD i 0).testBit j = true →
      ∃ o, ops[i]? = some o ∧ ∃ e ∈ o.after.toList, Region.binds .any e = true ∧ (e.on = j ∨ (e.on < i ∧ ((l.foldl (fun acc o => acc.push (o.after.foldl (fun s e => if Region.binds .any e then s ||| 2 ^ e.on ||| acc.getD e.on 0 else s) 0)) acc).getD e.on 0).testBit j = true))
  | [], acc, ops, _, hI => hI
  | o :: l, acc, ops, hd, hI => by
    simp only [List.foldl_cons]
    refine before_list l _ ops (by rw [Array.size_push, ← List.drop_drop, hd]; rfl) ?_
    intro i j hij
    have getD_lt : ∀ k, k < acc.size → ∀ x, (acc.push x).getD k 0 = acc.getD k 0 := fun k hk x => by
      simp [Array.getD_eq_getD_getElem?, Array.getElem?_push, Nat.ne_of_lt hk]
    rcases Nat.lt_trichotomy i acc.size with h | h | h
    · rw [getD_lt i h] at hij
      obtain ⟨o', h1, e, h2, h3, h4⟩ := hI i j hij
      refine ⟨o', h1, e, h2, h3, h4.imp id fun ⟨a, b⟩ => ⟨a, ?_⟩⟩
      rw [getD_lt _ (by omega)]
      exact b
    · subst h
      have ho : ops[acc.size]? = some o := by
        have : (ops.toList.drop acc.size)[0]? = some o := by rw [hd]; rfl
        rw [List.getElem?_drop] at this
        simpa using this
      have hx : ((acc.push (o.after.foldl (fun s e => if Region.binds .any e then s ||| 2 ^ e.on ||| acc.getD e.on 0 else s) 0)).getD acc.size 0) = o.after.foldl (fun s e => if Region.binds .any e then s ||| 2 ^ e.on ||| acc.getD e.on 0 else s) 0 := by
        simp [Array.getD_eq_getD_getElem?]
      rw [hx, ← Array.foldl_toList] at hij
      rcases or_foldl acc j o.after.toList 0 hij with h' | ⟨e, h1, h2, h3⟩
      · simp at h'
      · refine ⟨o, ho, e, h1, h2, ?_⟩
        rcases h3 with h3 | h3
        · exact .inl h3
        · have hlt : e.on < acc.size := by
            rcases Nat.lt_or_ge e.on acc.size with h' | h'
            · exact h'
            · simp [Array.getD_eq_getD_getElem?, Array.getElem?_eq_none h'] at h3
          exact .inr ⟨hlt, by rw [getD_lt _ hlt]; exact h3⟩
    · have : (acc.push (o.after.foldl (fun s e => if Region.binds .any e then s ||| 2 ^ e.on ||| acc.getD e.on 0 else s) 0)).getD i 0 = 0 := by
        rw [Array.getD_eq_getD_getElem?, Array.getElem?_eq_none (by simp; omega)]
        rfl
      rw [this] at hij
      simp at hij
theorem before_spec {ops : Array Oper} {i j : Nat} (h : comesBefore ops j i = true) : ∃ o, ops[i]? = some o ∧ ∃ e ∈ o.after.toList, Region.binds .any e = true ∧ (e.on = j ∨ (e.on < i ∧ comesBefore ops j e.on = true)) := by
  unfold comesBefore Region.before at *
  rw [← Array.foldl_toList] at *
  exact before_list ops.toList #[] ops (by simp) (fun i j h => by simp at h) i j h
/-- A set of operations that holds whatever comes straight before its members holds whatever comes before them. -/
theorem closed_before {ops : Array Oper} {L : Nat → Prop} (hL : ∀ i, L i → ∀ o, ops[i]? = some o → ∀ e ∈ o.after, Region.binds .any e = true → L e.on) :
    ∀ i j, comesBefore ops j i = true → (∀ o, ops[i]? = some o → ∀ e ∈ o.after, Region.binds .any e = true → L e.on) → L j := by
  intro i
  induction i using Nat.strongRecOn with
  | _ i ih =>
    intro j hij hi
    obtain ⟨o, h1, e, h2, h3, h4⟩ := before_spec hij
    have hLe := hi o h1 e (by simpa using h2) h3
    rcases h4 with h4 | ⟨h4, h5⟩
    · rw [← h4]; exact hLe
    · exact ih e.on h4 j h5 fun o' ho' e' he' hb' => hL e.on hLe o' ho' e' he' hb'
end Go.Proofs.YtegjnjmimfgijaaGreatDoor
