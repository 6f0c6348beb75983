/-
  Put together out of several texts, each in its own namespace's block. Conditions: as each theorem states them.
-/
import Derived.Test.YtojlhapbngcjkaaGreatDoorQEvi
import Derived.Laws.StructEq
import Derived.Laws.Externs
noncomputable section
namespace Go.Proofs.YtojlhapbngcjkaaGreatDoor
open Go Go.RowKit
section
variable {P : Program} {ev ev' : Operand → Option Value}
theorem allClosed_congr {xs : Array Operand} (h : ∀ x ∈ xs, ev x = ev' x) : allClosed ev xs = allClosed ev' xs := by
 unfold allClosed
 rw [Bool.eq_iff_iff, Array.all_eq_true_iff_forall_mem, Array.all_eq_true_iff_forall_mem]
 constructor
 ·intro g x hx; rw [← h x hx]; exact g x hx
 ·intro g x hx; rw [h x hx]; exact g x hx
theorem scalar_congr {o : Oper} (h : ∀ x ∈ o.op.operands, ev x = ev' x) : scalar P o ev = scalar P o ev' := by
 unfold scalar
 rw [allClosed_congr h]
 cases hs : isSelect o.op with
 | true => simp
 | false =>
  have : execOp (fun x => (ev x).getD undef) o = execOp (fun x => (ev' x).getD undef) o :=
   execOp_congr o (fun cs b e => by rw [e] at hs; cases hs) fun x hx => by rw [h x hx]
  rw [this]
theorem evL_congr : ∀ {l : List Operand}, (∀ x ∈ l, ev x = ev' x) → evL ev l = evL ev' l
 | [], _ => rfl
 | x :: l, h => by
  simp only [evL]
  rw [h x (by simp), evL_congr fun y hy => h y (by simp [hy])]
theorem evP_congr : ∀ {l : List (Nat × Operand)}, (∀ p ∈ l, ev p.2 = ev' p.2) → evP ev l = evP ev' l
 | [], _ => rfl
 | (i, x) :: l, h => by
  simp only [evP]
  rw [h (i, x) (by simp), evP_congr fun y hy => h y (by simp [hy])]
theorem aBound_congr {d : Nat} {x : Option Operand} (h : ∀ y, x = some y → ev y = ev' y) : aBound ev d x = aBound ev' d x := by
 cases x with
 | none => rfl
 | some y => simp only [aBound]; rw [h y rfl]
theorem aLen_congr {c : Call} (h : ∀ x ∈ c.operands, ev x = ev' x) : aLen P c ev = aLen P c ev' := by
 unfold aLen
 split
 ·rename_i t x hcal hty har
  rw [h x (by simp [Call.operands]; exact .inr (Array.mem_of_getElem? har))]
 ·rfl
theorem apure_congr {o : Oper} (h : ∀ x ∈ o.op.operands, ev x = ev' x) : apure P o ev = apure P o ev' := by
 have hsc := scalar_congr (P := P) h
 obtain ⟨dst, op, type, pos, after, guard⟩ := o
 unfold apure
 cases op <;> simp only [Op.operands] at h <;> dsimp only
 case move x => exact h x (by simp)
 case assign x => exact h x (by simp)
 case pick c x y => rw [h c (by simp), h x (by simp), h y (by simp)]
 case nilCheck x => rw [h x (by simp), hsc]
 case field t x f => rw [h x (by simp)]
 case index t x i => rw [h x (by simp), h i (by simp), hsc]
 case extract x i => rw [h x (by simp)]
 case build t ps => rw [evP_congr fun p hp => h p.2 (by simp; exact ⟨p.1, by simpa using hp⟩)]
 case fieldAddr t x f => rw [h x (by simp)]
 case indexAddr t x i => rw [h x (by simp), h i (by simp)]
 case slice t x lo hi mx =>
  cases mx with
  | some m => exact hsc
  | none =>
   dsimp only
   rw [h x (by simp), hsc]
   have : ∀ v, aSlice P ev t v lo hi = aSlice P ev' t v lo hi := fun v => by
    unfold aSlice
    have b1 : ∀ d, aBound ev d hi = aBound ev' d hi := fun d => aBound_congr fun y hy => h y (by simp [hy])
    have b2 : ∀ d, aBound ev d lo = aBound ev' d lo := fun d => aBound_congr fun y hy => h y (by simp [hy])
    simp only [b1, b2]
   simp only [this]
 case makeFunc fn f c =>
  cases fn <;> try exact hsc
  dsimp only
  rw [evL_congr fun x hx => h x (by simp; exact .inl (by simpa using hx)), evL_congr fun x hx => h x (by simp; exact .inr (by simpa using hx))]
 case makeInterface t x => rw [h x (by simp)]
 case call c => rw [aLen_congr h, hsc]
 case binOp op t x y ty => rw [h x (by simp), h y (by simp), hsc]
 all_goals exact hsc
theorem aread_congr {hp : Tr AObj} {o : Oper} (h : ∀ x ∈ o.op.operands, ev x = ev' x) : aread P hp o ev = aread P hp o ev' := by
 obtain ⟨dst, op, type, pos, after, guard⟩ := o
 unfold aread
 cases op <;> simp only [Op.operands] at h <;> dsimp only
 case load t x => rw [h x (by simp)]
 case convert src dst' x => rw [h x (by simp)]
theorem anew_congr {o : Oper} (h : ∀ x ∈ o.op.operands, ev x = ev' x) : anew P o ev = anew P o ev' := by
 obtain ⟨dst, op, type, pos, after, guard⟩ := o
 unfold anew
 cases op <;> simp only [Op.operands] at h <;> dsimp only
 case box t x => rw [h x (by simp)]
 case buildSlice t len ps => rw [evP_congr fun p hp => h p.2 (by simp; exact ⟨p.1, by simpa using hp⟩)]
 case makeSlice t x y => rw [h x (by simp), h y (by simp)]
 case convert src dst' x => rw [h x (by simp)]
 case range t x => rw [h x (by simp)]
theorem alight_congr {hp : Tr AObj} {o : Oper} (h : ∀ x ∈ o.op.operands, ev x = ev' x) : alight P hp o ev = alight P hp o ev' := by
 have h1 := apure_congr (P := P) h
 have h2 := aread_congr (P := P) (hp := hp) h
 have h3 := anew_congr (P := P) h
 obtain ⟨dst, op, type, pos, after, guard⟩ := o
 unfold alight
 rw [h1, h2, h3]
 simp only [] at h
 cases op <;> simp only [Op.operands] at h <;> dsimp only
 case convert s d x => rw [h x (by simp)]
 case range t x => rw [h x (by simp)]
 case makeMap t r =>
  cases r with
  | none => rfl
  | some x => dsimp only; rw [h x (by simp)]
 case lookup t x y c => rw [h x (by simp), h y (by simp)]
 case entry x => rw [h x (by simp)]
 case call c => rw [aMapLen_congr (by simpa using h), mapLenQ_congr (by simpa using h)]
theorem aheavy_congr {call : ACall} {hp : Tr AObj} {nx : Nat} {o : Oper} (h : ∀ x ∈ o.op.operands, ev x = ev' x) : aheavy P call hp nx o ev = aheavy P call hp nx o ev' := by
 obtain ⟨dst, op, type, pos, after, guard⟩ := o
 unfold aheavy
 cases op <;> simp only [Op.operands] at h <;> dsimp only
 case store t x y => rw [h x (by simp), h y (by simp)]
 case next x q => rw [h x (by simp)]
 case mapUpdate t x y z => rw [h x (by simp), h y (by simp), h z (by simp)]
 case insert t x y z => rw [h x (by simp), h y (by simp), h z (by simp)]
 case call c =>
  obtain ⟨callee, args, argTypes⟩ := c
  have ha : evL ev args.toList = evL ev' args.toList := evL_congr fun x hx => h x (by simp [Call.operands]; exact .inr (by simpa using hx))
  dsimp only
  rw [ha]
  cases callee with
  | value f => dsimp only; rw [h f (by simp [Call.operands])]
  | invoke r m => rfl
  | builtin b => cases b <;> rfl
theorem aany_congr {call : ACall} {hp : Tr AObj} {nx : Nat} {o : Oper} (h : ∀ x ∈ o.op.operands, ev x = ev' x) : aany P call hp nx o ev = aany P call hp nx o ev' := by
 rw [aany_eq, aany_eq]
 unfold aany0
 rw [aheavy_congr h, alight_congr h]
end
def isRead (o : Oper) (ev : Operand → Option Value) : Bool :=
 match o.op with
 | .load .. | .lookup .. | .entry .. => true
 | .range _ x => match ev x with
  | some (.map _) => true
  | _ => false
 | .call c => mapLenQ c ev
 | .convert _ _ x => match ev x with
  | some (.slice (some _) _ _) => true
  | _ => false
 | .slice _ x _ _ none => match ev x with
  | some (.pointer (some _)) => true
  | _ => false
 | _ => false
theorem alight_still {P : Program} {ev : Operand → Option Value} {hp hp' : Tr AObj} {o : Oper} (h : isRead o ev = false) : alight P hp o ev = alight P hp' o ev := by
 obtain ⟨dst, op, type, pos, after, guard⟩ := o
 unfold isRead at h
 unfold alight
 cases op <;> dsimp only at h ⊢ <;> try (cases h)
 case range t x =>
  split
  ·rename_i hx; rw [hx] at h; cases h
  ·rfl
 case call c =>
  rw [h]
  rfl
 case convert s d x =>
  split
  ·rename_i hx; rw [hx] at h; cases h
  ·rfl
  ·rfl
def comesBefore (ops : Array Oper) (j i : Nat) : Bool := ((Region.before ops).getD i 0).testBit j
theorem or_foldl (acc : Array Nat) (j : Nat) : ∀ (l : List Edge) (s : Nat), (l.foldl (fun s e => if Region.binds .any e then s ||| 2 ^ e.on ||| acc.getD e.on 0 else s) s).testBit j = true →
  s.testBit j = true ∨ ∃ e ∈ l, Region.binds .any e = true ∧ (e.on = j ∨ (acc.getD e.on 0).testBit j = true)
 | [], s, h => .inl h
 | e :: l, s, h => by
  simp only [List.foldl_cons] at h
  rcases or_foldl acc j l _ h with h' | ⟨e', h1, h2⟩
  ·split at h'
   ·rename_i hb
    simp only [Nat.testBit_or, Bool.or_eq_true, Nat.testBit_two_pow, decide_eq_true_eq] at h'
    rcases h' with (h' | h') | h'
    ·exact .inl h'
    ·exact .inr ⟨e, by simp, hb, .inl h'⟩
    ·exact .inr ⟨e, by simp, hb, .inr h'⟩
   ·exact .inl h'
  ·exact .inr ⟨e', by simp [h1], h2⟩
theorem before_list : ∀ (l : List Oper) (acc : Array Nat) (ops : Array Oper), ops.toList.drop acc.size = l →
  (∀ i j, (acc.getD i 0).testBit j = true → ∃ o, ops[i]? = some o ∧ ∃ e ∈ o.after.toList, Region.binds .any e = true ∧ (e.on = j ∨ (e.on < i ∧ (acc.getD e.on 0).testBit j = true))) →
  ∀ i j, ((l.foldl (fun acc o => acc.push (o.after.foldl (fun s e => if Region.binds .any e then s ||| 2 ^ e.on ||| acc.getD e.on 0 else s) 0)) acc).getD i 0).testBit j = true →
   ∃ o, ops[i]? = some o ∧ ∃ e ∈ o.after.toList, Region.binds .any e = true ∧ (e.on = j ∨ (e.on < i ∧ ((l.foldl (fun acc o => acc.push (o.after.foldl (fun s e => if Region.binds .any e then s ||| 2 ^ e.on ||| acc.getD e.on 0 else s) 0)) acc).getD e.on 0).testBit j = true))
 | [], acc, ops, _, hI => hI
 | o :: l, acc, ops, hd, hI => by
  simp only [List.foldl_cons]
  refine before_list l _ ops (by rw [Array.size_push, ← List.drop_drop, hd]; rfl) ?_
  intro i j hij
  have getD_lt : ∀ k, k < acc.size → ∀ x, (acc.push x).getD k 0 = acc.getD k 0 := fun k hk x => by
   simp [Array.getD_eq_getD_getElem?, Array.getElem?_push, Nat.ne_of_lt hk]
  rcases Nat.lt_trichotomy i acc.size with h | h | h
  ·rw [getD_lt i h] at hij
   obtain ⟨o', h1, e, h2, h3, h4⟩ := hI i j hij
   refine ⟨o', h1, e, h2, h3, h4.imp id fun ⟨a, b⟩ => ⟨a, ?_⟩⟩
   rw [getD_lt _ (by omega)]
   exact b
  ·subst h
   have ho : ops[acc.size]? = some o := by
    have : (ops.toList.drop acc.size)[0]? = some o := by rw [hd]; rfl
    rw [List.getElem?_drop] at this
    simpa using this
   have hx : ((acc.push (o.after.foldl (fun s e => if Region.binds .any e then s ||| 2 ^ e.on ||| acc.getD e.on 0 else s) 0)).getD acc.size 0) = o.after.foldl (fun s e => if Region.binds .any e then s ||| 2 ^ e.on ||| acc.getD e.on 0 else s) 0 := by
    simp [Array.getD_eq_getD_getElem?]
   rw [hx, ← Array.foldl_toList] at hij
   rcases or_foldl acc j o.after.toList 0 hij with h' | ⟨e, h1, h2, h3⟩
   ·simp at h'
   ·refine ⟨o, ho, e, h1, h2, ?_⟩
    rcases h3 with h3 | h3
    ·exact .inl h3
    ·have hlt : e.on < acc.size := by
      rcases Nat.lt_or_ge e.on acc.size with h' | h'
      ·exact h'
      ·simp [Array.getD_eq_getD_getElem?, Array.getElem?_eq_none h'] at h3
     exact .inr ⟨hlt, by rw [getD_lt _ hlt]; exact h3⟩
  ·have : (acc.push (o.after.foldl (fun s e => if Region.binds .any e then s ||| 2 ^ e.on ||| acc.getD e.on 0 else s) 0)).getD i 0 = 0 := by
    rw [Array.getD_eq_getD_getElem?, Array.getElem?_eq_none (by simp; omega)]
    rfl
   rw [this] at hij
   simp at hij
theorem before_spec {ops : Array Oper} {i j : Nat} (h : comesBefore ops j i = true) : ∃ o, ops[i]? = some o ∧ ∃ e ∈ o.after.toList, Region.binds .any e = true ∧ (e.on = j ∨ (e.on < i ∧ comesBefore ops j e.on = true)) := by
 unfold comesBefore Region.before at *
 rw [← Array.foldl_toList] at *
 exact before_list ops.toList #[] ops (by simp) (fun i j h => by simp at h) i j h
theorem closed_before {ops : Array Oper} {L : Nat → Prop} (hL : ∀ i, L i → ∀ o, ops[i]? = some o → ∀ e ∈ o.after, Region.binds .any e = true → L e.on) :
  ∀ i j, comesBefore ops j i = true → (∀ o, ops[i]? = some o → ∀ e ∈ o.after, Region.binds .any e = true → L e.on) → L j := by
 intro i
 induction i using Nat.strongRecOn with
 | _ i ih =>
  intro j hij hi
  obtain ⟨o, h1, e, h2, h3, h4⟩ := before_spec hij
  have hLe := hi o h1 e (by simpa using h2) h3
  rcases h4 with h4 | ⟨h4, h5⟩
  ·rw [← h4]; exact hLe
  ·exact ih e.on h4 j h5 fun o' ho' e' he' hb' => hL e.on hLe o' ho' e' he' hb'
end Go.Proofs.YtojlhapbngcjkaaGreatDoor

noncomputable section
namespace Go.Proofs.YtojlhapbngcjkaaGreatDoor
open Go Go.RowKit
def toB : Value → Bool
 | .bool b => b
 | _ => false
def toI : Value → Int
 | .int _ n => n
 | _ => 0
def toS : Value → ByteArray
 | .string s => s
 | _ => .empty
def toN : Value → Nat
 | .func (.via _ _ n _) _ _ => n
 | _ => 0
def toE : Value → Array Value
 | .func _ els _ => els
 | _ => #[]
def cellAt (els : Array Value) (i j : Nat) : Value := ((els.getD i undef).cells).getD j undef
def eta (P : Program) (t : TypeId) (x : Value) : Option Value :=
 match P.underlying t with
 | some .bool => some (.bool (toB x))
 | some (.int k) => some (.int k (toI x))
 | some .string => some (.string (toS x))
 | some (.slice e) => match pureRun P (sizeOf e) with
  | some z => some (tree z (toN x) (toE x))
  | none => none
 | _ => none
theorem eta_undef {P : Program} {t : TypeId} {x v : Value} (h : eta P t x = some v) : v ≠ undef := by
 unfold eta at h
 split at h
 ·cases h; simp [undef]
 ·cases h; simp [undef]
 ·cases h; simp [undef]
 ·split at h
  ·cases h; simp [undef]
  ·cases h
 ·cases h
def leavesL (f : TypeId → Option (List TypeId)) : List TypeId → Option (List TypeId)
 | [] => some []
 | t :: l => match f t, leavesL f l with
  | some a, some b => some (a ++ b)
  | _, _ => none
def leaves (P : Program) : Nat → TypeId → Option (List TypeId)
 | 0, _ => none
 | k + 1, t => match P.underlying t with
  | some (.struct fs) => leavesL (leaves P k) (fs.toList.map (·.type))
  | some (.array n e) => leavesL (leaves P k) (List.replicate n e)
  | some _ => some [t]
  | none => none
def etaL (P : Program) (els : Array Value) (i : Nat) : List TypeId → Nat → Option (List Value × Prop)
 | [], _ => some ([], True)
 | t :: ts, j => match eta P t (cellAt els i j), etaL P els i ts (j + 1) with
  | some v, some (vs, o) => some (v :: vs, cellAt els i j = v ∧ o)
  | _, _ => none
def sLoad (P : Program) (t : TypeId) (els : Array Value) (i off : Nat) : Option (Value × Prop) :=
 match pureRun P (isAgg t) with
 | some true => match leaves P 20 t, pureRun P (sizeOf t) with
  | some ts, some z => bif ts.length.beq z then match etaL P els i ts off with
   | some (vs, o) => some (.agg vs.toArray, o)
   | none => none
   else none
  | _, _ => none
 | some false => match eta P t (cellAt els i off) with
  | some v => some (v, cellAt els i off = v)
  | none => none
 | none => none
theorem cellAt_get {els : Array Value} {i j : Nat} {u v : Value} (hu : els[i]? = some u) (h : cellAt els i j = v) (hv : v ≠ undef) : u.cells[j]? = some v := by
 unfold cellAt at h
 simp only [Array.getD_eq_getD_getElem?, hu, Option.getD_some] at h
 cases hc : u.cells[j]? with
 | none => rw [hc] at h; exact absurd h.symm hv
 | some x => rw [hc] at h; exact congrArg some h
section
variable {P : Program} {ρ : Place} {els cs : Array Value} {i o : Nat} {u : Value}
theorem etaL_sound (hu : els[i]? = some u) (hs : o + u.cells.size ≤ cs.size) (hv : ∀ (j : Nat) (v v' : Value), u.cells[j]? = some v → cs[o + j]? = some v' → VR0 ρ.fr v v') :
  ∀ (ts : List TypeId) (j : Nat) (vs : List Value) (ob : Prop), etaL P els i ts j = some (vs, ob) → ob → ∃ l', VRL ρ vs l' ∧ vs.length = ts.length ∧ ∀ (k : Nat) (v : Value), l'[k]? = some v → cs[o + (j + k)]? = some v
 | [], j, vs, ob, h, _ => by
  simp only [etaL] at h
  cases h
  exact ⟨[], .nil, rfl, fun k v hk => by simp at hk⟩
 | t :: ts, j, vs, ob, h, hob => by
  simp only [etaL] at h
  split at h
  case h_2 => cases h
  rename_i v us ob' h1 h2
  cases h
  obtain ⟨l', g1, g2, g3⟩ := etaL_sound hu hs hv ts (j + 1) us ob' h2 hob.2
  have hc := cellAt_get hu hob.1 (eta_undef h1)
  have hj : j < u.cells.size := by
   rcases Nat.lt_or_ge j u.cells.size with h' | h'
   ·exact h'
   ·rw [Array.getElem?_eq_none h'] at hc; cases hc
  have hlt : o + j < cs.size := by omega
  refine ⟨cs[o + j] :: l', .cons (hv j v _ hc (by simp [hlt])).lift g1, by simp [g2], fun k v' hk => ?_⟩
  cases k with
  | zero => simp at hk; subst hk; simp [hlt]
  | succ k => rw [show o + (j + (k + 1)) = o + (j + 1 + k) by omega]; exact g3 k v' (by simpa using hk)
end
theorem frz_cell {ρ : Place} {W : Base} {hp : Tr AObj} {nx : Nat} {w : World} (h : Rel ρ W hp nx w) {c : Nat} {cs : Array Value} {t : TypeId} {fz : Nat × Nat} (hc : ρ.fr c = some (.cells cs t fz)) (o : Nat) : w.cell? ⟨c, o, none⟩ = cs[o]? := by
 simp [World.cell?, h.frz c _ hc]
theorem sLoad_sound {P : Program} {ρ : Place} {W : Base} {hp : Tr AObj} {nx : Nat} {w : World} (h : Rel ρ W hp nx w) {t : TypeId} {els : Array Value} {i off : Nat} {x' v : Value} {ob : Prop} (hx : VR ρ (treeAt els i off) x') (hv : sLoad P t els i off = some (v, ob)) (hob : ob) :
  ∃ v', (Instr.loadAt t x').run P w = .ok v' w ∧ VR ρ v v' := by
 cases hx with
 | @treeAt _ _ c o _ cs ct fz u hf hu hs hr =>
  unfold Instr.loadAt
  show ∃ v', (loadVar t ⟨c, o + off, none⟩).run P w = _ ∧ _
  unfold loadVar
  unfold sLoad at hv
  cases hi : pureRun P (isAgg t) with
  | none => rw [hi] at hv; cases hv
  | some q =>
   rw [hi] at hv
   rw [bind_run hi]
   cases q with
   | true =>
    dsimp only at hv
    split at hv
    case h_2 => cases hv
    rename_i ts z hts hz
    cases hb : ts.length.beq z with
    | false => rw [hb] at hv; cases hv
    | true =>
     rw [hb, cond_true] at hv
     have hb := Nat.eq_of_beq_eq_true hb
     split at hv
     case h_2 => cases hv
     rename_i vs ob' hl
     cases hv
     obtain ⟨l', g1, g2, g3⟩ := etaL_sound hu hs hr ts off vs _ hl hob
     rw [if_pos rfl, bind_run hz, Sem.run_bind]
     have hlen : l'.length = z := by rw [← g1.len, g2, hb]
     have := loadFrom_run (P := P) (w := w) (a := ⟨c, o + off, none⟩) l' 0 #[] (fun k v hk => by
      rw [Nat.zero_add, add_eq, frz_cell h hf, show o + (off + k) = o + (off + k) from rfl]
      exact g3 k v hk)
     unfold loadCells
     rw [← hlen]
     rw [this, Result.andThen_ok]
     refine ⟨_, rfl, ?_⟩
     have ha := g1.arr
     simpa using VR.agg ha.1 ha.2
   | false =>
    dsimp only at hv
    split at hv
    case h_2 => cases hv
    rename_i v0 he
    cases hv
    have hc := cellAt_get hu hob (eta_undef he)
    have hj : off < u.cells.size := by
     rcases Nat.lt_or_ge off u.cells.size with h' | h'
     ·exact h'
     ·rw [Array.getElem?_eq_none h'] at hc; cases hc
    have hlt : o + off < cs.size := by omega
    rw [if_neg (by simp), run_load, frz_cell h hf]
    simp only [hlt, Array.getElem?_eq_getElem]
    exact ⟨_, rfl, (hr off v _ hc (by simp [hlt])).lift⟩
def sEqF (f : TypeId → Value → Value → Option Bool) (P : Program) (xs ys : Array Value) : List Field → Option Bool
 | [] => some true
 | fd :: l => bif fd.name == "_" then sEqF f P xs ys l else match aPart P fd.type xs fd.offset, aPart P fd.type ys fd.offset with
  | some a, some b => match f fd.type a b, sEqF f P xs ys l with
   | some r, some r' => some (r && r')
   | _, _ => none
  | _, _ => none
def sEq (P : Program) : Nat → TypeId → Value → Value → Option Bool
 | 0, _, _, _ => none
 | d + 1, t, x, y => match P.underlying t, x, y with
  | some .bool, .bool a, .bool b => some (a == b)
  | some (.int _), .int k a, .int k' b => bif decide (k = k') then some (decide (a = b)) else none
  | some .string, .string a, .string b => some (decide (a = b))
  | some (.struct fs), .agg xs, .agg ys => bif P.stoodInHeld t then none else sEqF (sEq P d) P xs ys fs.toList
  | _, _, _ => none
theorem mem_extract {c : Array Value} {a b : Nat} {x : Value} (h : x ∈ c.extract a b) : x ∈ c := by
 rw [← Array.mem_toList_iff, Array.toList_extract] at h
 rw [← Array.mem_toList_iff]
 exact List.mem_of_mem_drop (List.mem_of_mem_take h)
theorem byteArray_beq (a b : ByteArray) : (a == b) = decide (a = b) := by
 rw [beq_toListBytes, ByteArray.toList_eq, ByteArray.toList_eq]
 obtain ⟨⟨x⟩⟩ := a
 obtain ⟨⟨y⟩⟩ := b
 by_cases h : x = y
 ·subst h; simp
 ·have : (⟨⟨x⟩⟩ : ByteArray) ≠ ⟨⟨y⟩⟩ := fun e => h (by cases e; rfl)
  simp [h]
theorem aPart_self {P : Program} {t : TypeId} {cs : Array Value} {off : Nat} {v : Value} (hc : flats cs = true) (h : aPart P t cs off = some v) (w : World) : (part t cs off).run P w = .ok v w := by
 obtain ⟨v', h1, h2⟩ := aPart_sound (ρ := Place.any) (flats_refl hc) h w
 have : v' = v := by
  unfold aPart at h
  cases hi : pureRun P (isAgg t) with
  | none => rw [hi] at h; cases h
  | some b =>
   rw [hi] at h
   cases b with
   | true =>
    dsimp only at h
    cases hz : pureRun P (sizeOf t) with
    | none => rw [hz] at h; cases h
    | some z =>
     rw [hz] at h
     cases h
     refine closed1_eq ?_ h2
     unfold closed1 flats
     dsimp only
     rw [Array.all_eq_true_iff_forall_mem]
     intro x hx
     exact (Array.all_eq_true_iff_forall_mem.1 hc) x (mem_extract hx)
   | false => exact flat_eq (all_get hc h) h2
 rw [← this]
 exact h1
theorem aPart_closed {P : Program} {t : TypeId} {cs : Array Value} {off : Nat} {v : Value} (hc : flats cs = true) (h : aPart P t cs off = some v) : closed1 v = true := by
 unfold aPart at h
 cases hi : pureRun P (isAgg t) with
 | none => rw [hi] at h; cases h
 | some b =>
  rw [hi] at h
  cases b with
  | true =>
   dsimp only at h
   cases hz : pureRun P (sizeOf t) with
   | none => rw [hz] at h; cases h
   | some z =>
    rw [hz] at h
    cases h
    unfold closed1 flats
    dsimp only
    rw [Array.all_eq_true_iff_forall_mem]
    intro x hx
    exact (Array.all_eq_true_iff_forall_mem.1 hc) x (mem_extract hx)
  | false =>
   have := all_get hc h
   cases v <;> first | exact this | cases this
theorem sEqF_sound {P : Program} {xs ys : Array Value} (hx : flats xs = true) (hy : flats ys = true) (D : Nat) {f : TypeId → Value → Value → Option Bool}
  (ih : ∀ t x y r w, closed1 x = true → closed1 y = true → f t x y = some r → (Op.equalIn D t x y).run P w = .ok r w) :
  ∀ (l : List Field) (r : Bool) (w : World), sEqF f P xs ys l = some r → (Op.eqFields D xs ys l).run P w = .ok r w
 | [], r, w, h => by simp only [sEqF] at h; cases h; rfl
 | fd :: l, r, w, h => by
  simp only [sEqF] at h
  simp only [Op.eqFields]
  cases hn : fd.name == "_" with
  | true =>
   rw [hn, cond_true] at h
   rw [if_neg (by simp; simpa using hn)]
   exact sEqF_sound hx hy D ih l r w h
  | false =>
   rw [hn, cond_false] at h
   rw [if_pos (by simpa using hn)]
   split at h
   case h_2 => cases h
   rename_i a b ha hb
   split at h
   case h_2 => cases h
   rename_i r1 r2 h1 h2
   cases h
   rw [Sem.run_bind, aPart_self hx ha w, Result.andThen_ok, Sem.run_bind, aPart_self hy hb w, Result.andThen_ok, Sem.run_bind, ih _ _ _ _ w (aPart_closed hx ha) (aPart_closed hy hb) h1, Result.andThen_ok]
   cases r1 with
   | true => simp only [Bool.not_true, Bool.false_eq_true, if_false, Bool.true_and]; exact sEqF_sound hx hy D ih l r2 w h2
   | false => rfl
theorem sEq_sound {P : Program} : ∀ (d D : Nat) (t : TypeId) (x y : Value) (r : Bool) (w : World), closed1 x = true → closed1 y = true → sEq P d t x y = some r → (Op.equalIn (D + d) t x y).run P w = .ok r w := by
 intro d
 induction d with
 | zero => intro D t x y r w _ _ h; simp [sEq] at h
 | succ d ih =>
  intro D t x y r w hx hy h
  unfold sEq at h
  rw [show D + (d + 1) = (D + d) + 1 by omega]
  split at h
  ·rename_i a b hu
   cases h
   exact run_equalIn_bool' w (D + d) t a b hu
  ·rename_i k0 k a k' b hu
   cases hk : decide (k = k') with
   | false => rw [hk] at h; cases h
   | true =>
    rw [hk] at h
    cases h
    have := of_decide_eq_true hk
    subst this
    rw [run_equalIn_int w (D + d) t k k0 a b hu]
    rfl
  ·rename_i a b hu
   cases h
   rw [run_equalIn_string w (D + d) t a b hu]
   congr 1
   rw [← beq_toListBytes]
   exact byteArray_beq a b
  ·rename_i fs xs ys hu
   cases hs : P.stoodInHeld t with
   | true => rw [hs] at h; cases h
   | false =>
    rw [hs, cond_false] at h
    have hf : P.fieldsOf t = fs := by unfold Program.fieldsOf; rw [hu]
    rw [run_equalIn_struct w (D + d) t xs ys (by rw [hf]; exact hu) hs, hf]
    exact sEqF_sound hx hy (D + d) (fun t x y r w hx hy h => ih D t x y r w hx hy h) fs.toList r w h
  ·cases h
end Go.Proofs.YtojlhapbngcjkaaGreatDoor

noncomputable section
namespace Go.Proofs.YtojlhapbngcjkaaGreatDoor
open Go Go.RowKit
set_option maxRecDepth 100000
set_option maxHeartbeats 8000000
theorem asInt_run {P : Program} (k : IntKind) (n : Int) : pureRun P (asIntOf (.int k n)) = some (k, n) := rfl
def sIndexAddr (P : Program) (t : TypeId) (x : Value) (k : Int) : Option (Value × Prop) :=
 match P.underlying t, x with
 | some (.slice elem), .func (.via sz _ n false) els _ => match pureRun P (sizeOf elem) with
  | some z => bif z.beq sz then some (treeAt els k.toNat 0, 0 ≤ k ∧ k < (n : Int)) else none
  | none => none
 | some (.slice elem), .slice (some ⟨b, o, none⟩) len _ => match pureRun P (sizeOf elem) with
  | some z => some (.pointer (some ⟨b, o + k.toNat * z, none⟩), 0 ≤ k ∧ k < (len : Int))
  | none => none
 | some (.array len elem), .pointer (some ⟨b, o, none⟩) => match pureRun P (sizeOf elem) with
  | some z => some (.pointer (some ⟨b, o + k.toNat * z, none⟩), 0 ≤ k ∧ k < (len : Int))
  | none => none
 | some (.array len elem), .func (.via i _ off true) els _ => match pureRun P (sizeOf elem) with
  | some z => some (treeAt els i (off + k.toNat * z), 0 ≤ k ∧ k < (len : Int))
  | none => none
 | _, _ => none
theorem mul_room {i n sz s : Nat} (h : i < n) (hs : n * sz ≤ s) : i * sz + sz ≤ s := by
 have h2 : (i + 1) * sz ≤ n * sz := Nat.mul_le_mul_right _ h
 rw [Nat.succ_mul] at h2
 omega
theorem sIndexAddr_sound {P : Program} {ρ : Place} {t : TypeId} {x x' v : Value} {k : Int} {q : IntKind} {ob : Prop} (hx : VR ρ x x') (h : sIndexAddr P t x k = some (v, ob)) (hob : ob) (w : World) :
  ∃ v', (Instr.indexAt t x' (.int q k)).run P w = .ok v' w ∧ VR ρ v v' := by
 unfold sIndexAddr at h
 split at h
 ·rename_i elem sz pth n els cap hu
  cases hz : pureRun P (sizeOf elem) with
  | none => rw [hz] at h; cases h
  | some z =>
   rw [hz] at h
   dsimp only at h
   cases hb : z.beq sz with
   | false => rw [hb] at h; cases h
   | true =>
    rw [hb] at h
    cases h
    have hb := Nat.eq_of_beq_eq_true hb
    subst hb
    cases hx with
    | treeNil => omega
    | @tree _ _ cp c o _ cs ct fz hf hn hcap hs hsz hr =>
     unfold Instr.indexAt
     rw [bind_run (asInt_run q k)]
     dsimp only
     show ∃ v', ((underlying t) >>= _).run P w = _ ∧ _
     rw [bind_run (underlying_pure hu)]
     show ∃ v', ((underlying t) >>= _).run P w = _ ∧ _
     rw [bind_run (underlying_pure hu)]
     dsimp only
     rw [if_pos hob, bind_run hz]
     have hk : k.toNat < n := by omega
     have hks : k.toNat < els.size := by rw [hn]; exact hk
     refine ⟨_, rfl, ?_⟩
     rw [show (⟨c, o, none⟩ : Addr) = ⟨c, o + 0, none⟩ from rfl, add_eq, show o + (0 + k.toNat * z) = o + k.toNat * z + 0 by omega]
     have hz' := hsz k.toNat els[k.toNat] (by simp [hks])
     have hroom := mul_room hk (s := cs.size - o) (sz := z) (by omega)
     exact VR.treeAt (u := els[k.toNat]) (o := o + k.toNat * z) (off := 0) hf (by simp [hks]) (by rw [hz']; omega) (fun j a a' ha ha' => hr k.toNat j _ a a' (by simp [hks]) ha ha')
 ·rename_i elem b o len cp hu
  cases hz : pureRun P (sizeOf elem) with
  | none => rw [hz] at h; cases h
  | some z =>
   rw [hz] at h
   cases h
   refine aIndexAddr_sound hx (.int q k) ?_ w
   unfold aIndexAddr
   rw [hu]
   dsimp only
   rw [show decide (0 ≤ k ∧ k < (len : Int)) = true from decide_eq_true hob, cond_true, hz]
 ·rename_i len elem b o hu
  cases hz : pureRun P (sizeOf elem) with
  | none => rw [hz] at h; cases h
  | some z =>
   rw [hz] at h
   cases h
   refine aIndexAddr_sound hx (.int q k) ?_ w
   unfold aIndexAddr
   rw [hu]
   dsimp only
   rw [show decide (0 ≤ k ∧ k < (len : Int)) = true from decide_eq_true hob, cond_true, hz]
 ·rename_i len elem i pth off els cap hu
  cases hz : pureRun P (sizeOf elem) with
  | none => rw [hz] at h; cases h
  | some z =>
   rw [hz] at h
   cases h
   cases hx with
   | @treeAt _ _ c o _ cs ct fz u hfr hue hs hr =>
    unfold Instr.indexAt
    rw [bind_run (asInt_run q k)]
    dsimp only
    show ∃ v', ((underlying t) >>= _).run P w = _ ∧ _
    rw [bind_run (underlying_pure hu)]
    show ∃ v', ((underlying t) >>= _).run P w = _ ∧ _
    rw [bind_run (underlying_pure hu)]
    dsimp only
    rw [if_pos hob, bind_run hz]
    refine ⟨_, rfl, ?_⟩
    rw [add_eq, ← Nat.add_assoc, Nat.add_assoc]
    exact VR.treeAt hfr hue hs hr
 ·cases h
def sFieldAt (P : Program) (t : TypeId) (els : Array Value) (i off f : Nat) : Option (Value × Prop) :=
 match P.underlying t with
 | some (.struct fields) => match fields[f]? with
  | some fd => match pureRun P (sizeOf fd.type) with
   | some (_ + 1) => some (treeAt els i (off + fd.offset), True)
   | _ => none
  | none => none
 | _ => none
theorem sFieldAt_sound {P : Program} {ρ : Place} {t : TypeId} {els : Array Value} {i off f : Nat} {x' v : Value} {ob : Prop} (hx : VR ρ (treeAt els i off) x') (h : sFieldAt P t els i off f = some (v, ob)) (w : World) :
  ∃ v', (Instr.fieldAt t x' f).run P w = .ok v' w ∧ VR ρ v v' := by
 cases hx with
 | @treeAt _ _ c o _ cs ct fz u hfr hu hs hr =>
  unfold sFieldAt at h
  cases hd : P.underlying t with
  | none => rw [hd] at h; cases h
  | some d =>
   rw [hd] at h
   cases d <;> simp only [reduceCtorEq] at h
   rename_i fields
   cases hf : fields[f]? with
   | none => rw [hf] at h; cases h
   | some fd =>
    rw [hf] at h
    dsimp only at h
    unfold Instr.fieldAt
    rw [bind_run (underlying_pure hd)]
    simp only [hf]
    cases hz : pureRun P (sizeOf fd.type) with
    | none => rw [hz] at h; cases h
    | some n =>
     rw [hz] at h
     cases n with
     | zero => cases h
     | succ n =>
      cases h
      show ∃ v', ((fieldPlace ⟨c, o + off, none⟩ fd) >>= _).run P w = _ ∧ _
      have : pureRun P (fieldPlace ⟨c, o + off, none⟩ fd) = some ((⟨c, o + off, none⟩ : Addr).add fd.offset) := by
       unfold fieldPlace
       have e : ∀ (β : Type) (g : Nat → Sem β), pureRun P (sizeOf fd.type >>= g) = pureRun P (g (n + 1)) := by
        intro β g
        exact pureRun_bind hz g
       rw [e]
       simp only [Nat.succ_ne_zero, if_false]
       rfl
      rw [bind_run this]
      refine ⟨_, rfl, ?_⟩
      rw [add_eq]
      exact VR.treeAt hfr hu hs hr
def sBound (ev : Operand → Option Value) (d : Nat) : Option Operand → Option (Nat × Prop)
 | none => some (d, True)
 | some x => match ev x with
  | some (.int _ n) => some (n.toNat, 0 ≤ n)
  | _ => none
theorem sBound_sound {P : Program} {ρ : Place} {ev : Operand → Option Value} {a : Act} (hF : ERel ρ ev a) {d : Nat} {x : Operand} {k y : Nat} {ob : Prop} {code : BoundsCode} (h : sBound ev d (some x) = some (k, ob)) (hob : ob) (hy : k ≤ y) :
  pureRun P (Instr.sliceBound (a.eval x) y code) = some k := by
 simp only [sBound] at h
 cases hv : ev x with
 | none => rw [hv] at h; cases h
 | some v =>
  rw [hv] at h
  have := hF.eval hv
  generalize he : a.eval x = e at this
  cases this <;> try simp only [reduceCtorEq] at h
  rename_i kd m
  cases h
  unfold Instr.sliceBound
  show pureRun P (if 0 ≤ m ∧ m ≤ (y : Int) then _ else _) = _
  rw [if_pos ⟨hob, by omega⟩]
  rfl
theorem sBounds_run {P : Program} {ρ : Place} {ev : Operand → Option Value} {a : Act} (hF : ERel ρ ev a) {lo hi : Option Operand} {len cap l h : Nat} {ol oh : Prop} (h1 : sBound ev len hi = some (h, oh)) (h2 : sBound ev 0 lo = some (l, ol))
  (hoh : oh) (hol : ol) (hl : l ≤ h) (hh : h ≤ len) (hc : len ≤ cap) (q : Bool) : pureRun P (Instr.sliceBounds q len cap (lo.map a.eval) (hi.map a.eval) none) = some (l, h, cap) := by
 unfold Instr.sliceBounds
 cases hi with
 | none =>
  simp only [sBound] at h1
  cases h1
  cases lo with
  | none => simp only [sBound] at h2; cases h2; rfl
  | some y =>
   show pureRun P (Instr.sliceBound (a.eval y) _ _ >>= _) = _
   rw [pureRun_bind (sBound_sound hF h2 hol hl)]
   rfl
 | some x =>
  show pureRun P (Instr.sliceBound (a.eval x) _ _ >>= _) = _
  rw [pureRun_bind (sBound_sound hF h1 hoh (by omega))]
  cases lo with
  | none => simp only [sBound] at h2; cases h2; rfl
  | some y =>
   show pureRun P (Instr.sliceBound (a.eval y) _ _ >>= _) = _
   rw [pureRun_bind (sBound_sound hF h2 hol hl)]
   rfl
def sSlice (P : Program) (ev : Operand → Option Value) (t : TypeId) (x : Value) (lo hi : Option Operand) : Option (Value × Prop) :=
 match P.underlying t, x with
 | some (.slice elem), .func (.via sz _ n false) els _ => match pureRun P (sizeOf elem), sBound ev n hi, sBound ev 0 lo with
  | some z, some (h, oh), some (l, ol) => bif z.beq sz then some (tree sz (h - l) (els.extract l h), oh ∧ ol ∧ l ≤ h ∧ h ≤ n) else none
  | _, _, _ => none
 | some (.slice elem), .slice (some ⟨b, o, none⟩) len sz => match pureRun P (sizeOf elem), sBound ev len hi, sBound ev 0 lo with
  | some z, some (h, oh), some (l, ol) => bif z.beq sz then some (.slice (some ⟨b, o + l * sz, none⟩) (h - l) sz, oh ∧ ol ∧ l ≤ h ∧ h ≤ len) else none
  | _, _, _ => none
 | some .string, .string s => match sBound ev s.size hi, sBound ev 0 lo with
  | some (h, oh), some (l, ol) => some (.string (s.extract l h), oh ∧ ol ∧ l ≤ h ∧ h ≤ s.size)
  | _, _ => none
 | _, _ => none
theorem sliceAt_run {P : Program} {t elem : TypeId} {base : Option Addr} {len cap l h z : Nat} {lo hi : Option Value} (hu : P.underlying t = some (.slice elem)) (hb : pureRun P (Instr.sliceBounds true len cap lo hi none) = some (l, h, cap)) (hz : pureRun P (sizeOf elem) = some z) (w : World) :
  (Instr.sliceAt t (.slice base len cap) lo hi none).run P w = .ok (.slice (if cap = l then base else base.map (·.add (l * z))) (h - l) (cap - l)) w := by
 unfold Instr.sliceAt
 rw [bind_run (underlying_pure hu)]
 dsimp only
 unfold Instr.slice
 rw [bind_run (underlying_pure hu)]
 dsimp only
 rw [bind_run hb]
 dsimp only
 rw [bind_run hz]
 rfl
theorem sSlice_sound {P : Program} {ρ : Place} {ev : Operand → Option Value} {a : Act} (hF : ERel ρ ev a) {t : TypeId} {x x' : Value} {lo hi : Option Operand} {v : Value} {ob : Prop} (hx : VR ρ x x')
  (h : sSlice P ev t x lo hi = some (v, ob)) (hob : ob) (w : World) : ∃ v', (Instr.sliceAt t x' (lo.map a.eval) (hi.map a.eval) none).run P w = .ok v' w ∧ VR ρ v v' := by
 unfold sSlice at h
 split at h
 ·rename_i elem sz pth n els cap hu
  split at h
  case h_2 => cases h
  rename_i z hh oh l ol hz h1 h2
  cases hb : z.beq sz with
  | false => rw [hb] at h; cases h
  | true =>
   rw [hb] at h
   cases h
   have hb := Nat.eq_of_beq_eq_true hb
   subst hb
   obtain ⟨k1, k2, k3, k4⟩ := hob
   cases hx with
   | treeNil sz a' cp =>
    have e1 : hh = 0 := by omega
    have e2 : l = 0 := by omega
    subst e1 e2
    rw [sliceAt_run hu (sBounds_run hF h1 h2 k1 k2 k3 k4 (Nat.zero_le cp) true) hz]
    exact ⟨_, rfl, .treeNil _ _ _⟩
   | @tree _ _ cp c o _ cs ct fz hf hn hcap hs hsz hr =>
    rw [sliceAt_run hu (sBounds_run hF h1 h2 k1 k2 k3 k4 hcap true) hz]
    refine ⟨_, rfl, ?_⟩
    by_cases hcl : cp = l
    ·rw [if_pos hcl]
     have e : els.extract l hh = #[] := by apply Array.ext' ; simp; omega
     have e2 : hh - l = 0 := by omega
     rw [e, e2]
     exact .treeNil _ _ _
    ·rw [if_neg hcl]
     show VR ρ _ (.slice (some ((⟨c, o, none⟩ : Addr).add (l * z))) _ _)
     rw [show (⟨c, o, none⟩ : Addr) = ⟨c, o + 0, none⟩ from rfl, add_eq]
     have hroom : o + (l * z) + (hh - l) * z ≤ cs.size := by
      have e1 : hh * z ≤ n * z := Nat.mul_le_mul_right _ k4
      have e2 : l * z + (hh - l) * z = hh * z := by rw [← Nat.add_mul]; congr 1; omega
      omega
     refine VR.tree (o := o + (0 + l * z)) hf (by simp; omega) (by omega) (by omega) (fun i u hu' => ?_) (fun i j u b b' hu' hb hb' => ?_)
     ·rw [Array.getElem?_extract] at hu'
      split at hu'
      ·exact hsz _ u hu'
      ·cases hu'
     ·rw [Array.getElem?_extract] at hu'
      split at hu'
      ·refine hr (l + i) j u b b' hu' hb ?_
       rw [← hb']
       congr 1
       rw [Nat.add_mul]
       omega
      ·cases hu'
 ·rename_i elem b o len sz hu
  split at h
  case h_2 => cases h
  rename_i z hh oh l ol hz h1 h2
  cases hb : z.beq sz with
  | false => rw [hb] at h; cases h
  | true =>
   rw [hb] at h
   cases h
   have hb := Nat.eq_of_beq_eq_true hb
   subst hb
   obtain ⟨k1, k2, k3, k4⟩ := hob
   cases hx with
   | @slice _ _ _ _ c s zz cap hb h3 h4 =>
    rw [sliceAt_run hu (sBounds_run hF h1 h2 k1 k2 k3 k4 h3 true) hz]
    refine ⟨_, rfl, ?_⟩
    by_cases hcl : cap = l
    ·rw [if_pos hcl]
     have e1 : hh - l = 0 := by omega
     have e2 : cap - l = 0 := by omega
     rw [e1, e2]
     exact .emptySlice _ hb
    ·rw [if_neg hcl]
     show VR ρ _ (.slice (some ((⟨c, s + o, none⟩ : Addr).add (l * z))) _ _)
     rw [add_eq]
     refine .slice hb (by omega) ?_
     have : s + (o + l * z) + (cap - l) * z = s + o + cap * z := by
      have : cap * z = l * z + (cap - l) * z := by rw [← Nat.add_mul]; congr 1; omega
      omega
     omega
   | @emptySlice _ _ y a' _ hb =>
    have e1 : hh = 0 := by omega
    have e2 : l = 0 := by omega
    subst e1 e2
    rw [sliceAt_run hu (sBounds_run hF h1 h2 k1 k2 k3 k4 (Nat.zero_le 0) true) hz]
    exact ⟨_, rfl, .emptySlice _ hb⟩
 ·rename_i s hu
  split at h
  case h_2 => cases h
  rename_i hh oh l ol h1 h2
  cases h
  obtain ⟨k1, k2, k3, k4⟩ := hob
  cases hx
  refine ⟨.string (s.extract l hh), ?_, .string _⟩
  unfold Instr.sliceAt
  rw [bind_run (underlying_pure hu)]
  dsimp only
  unfold Instr.slice
  rw [bind_run (underlying_pure hu)]
  show (Instr.sliceBounds false s.size s.size _ _ none >>= _).run P w = _
  rw [bind_run (sBounds_run hF h1 h2 k1 k2 k3 k4 (Nat.le_refl _) false)]
  rfl
 ·cases h
def byteOf (v : Value) : UInt8 := UInt8.ofNat (toI v).toNat
def bytesL (l : List Value) : ByteArray := ⟨(l.map byteOf).toArray⟩
def IsU8 (v : Value) : Prop := ∃ n, v = .int .u8 n
def AllU8 (l : List Value) : Prop := ∀ v ∈ l, IsU8 v
theorem bytes_loop {P : Program} : ∀ (l : List Value) (s : ByteArray), AllU8 l →
  pureRun P (forIn l s fun c r => (match c with | .int .u8 n => pure (ForInStep.yield (r.push (UInt8.ofNat n.toNat))) | _ => do stuck "bytesToString: byte expected"; pure (ForInStep.yield r) : Sem (ForInStep ByteArray))) = some ⟨(s.data.toList ++ l.map byteOf).toArray⟩
 | [], s, _ => by
  show some s = _
  congr 1
  simp
 | v :: l, s, h => by
  obtain ⟨n, rfl⟩ := h v (by simp)
  rw [List.forIn_cons]
  dsimp only
  rw [pureRun_bind (v := ForInStep.yield (s.push (UInt8.ofNat n.toNat))) rfl]
  dsimp only
  rw [bytes_loop l _ (fun u hu => h u (by simp [hu]))]
  congr 1
  simp [ByteArray.push, byteOf, toI]
theorem bytes_run {P : Program} {l : List Value} (h : AllU8 l) : pureRun P (bytesTail l.toArray) = some (.string (bytesL l)) := by
 have e : bytesTail l.toArray = (forIn l.toArray ByteArray.empty fun c r => (match c with | .int .u8 n => pure (ForInStep.yield (r.push (UInt8.ofNat n.toNat))) | _ => do stuck "bytesToString: byte expected"; pure (ForInStep.yield r) : Sem (ForInStep ByteArray))) >>= fun s => pure (.string s) := rfl
 rw [e, List.forIn_toArray, pureRun_bind (bytes_loop l _ h)]
 show some _ = some _
 congr 2
theorem AllU8.flat {l : List Value} (h : AllU8 l) : flats l.toArray = true := by
 unfold flats
 rw [Array.all_eq_true_iff_forall_mem]
 intro x hx
 obtain ⟨n, rfl⟩ := h x (by simpa using hx)
 rfl
def sBytes (P : Program) (hp : Tr AObj) (src dst : TypeId) (x : Value) : Option (Value × Prop) :=
 match P.underlying src, P.underlying dst with
 | some (.slice e), some .string => match P.underlying e with
  | some (.int .u8) => match x with
   | .slice (some ⟨b, o, none⟩) n _ => match hp.get b with
    | some (.cells l _) => some (.string (bytesL ((l.drop o).take n)), o + n ≤ l.length ∧ AllU8 ((l.drop o).take n))
    | _ => none
   | .func (.via 1 _ _ false) els _ => some (.string (bytesL els.toList), AllU8 els.toList)
   | _ => none
  | _ => none
 | _, _ => none
theorem sBytes_sound {P : Program} {ρ : Place} {W : Base} {hp : Tr AObj} {nx : Nat} {w : World} (h : Rel ρ W hp nx w) {src dst : TypeId} {x x' v : Value} {ob : Prop} (hx : VR ρ x x') (hv : sBytes P hp src dst x = some (v, ob)) (hob : ob) :
  ∃ v', (convert src dst x').run P w = .ok v' w ∧ VR ρ v v' := by
 unfold sBytes at hv
 split at hv
 case h_2 => cases hv
 rename_i e hs hd
 split at hv
 case h_2 => cases hv
 rename_i he
 split at hv
 ·rename_i b o n cp
  split at hv
  case h_2 => cases hv
  rename_i l wr hb
  cases hv
  refine aBytes_sound h hx ?_
  unfold aBytes
  rw [hs, hd]
  dsimp only
  rw [he]
  dsimp only
  have hrow : rowOf hp b o n = some ((l.drop o).take n) := by
   unfold rowOf
   rw [hb]
   dsimp only
   rw [Nat.ble_eq_true_of_le hob.1, cond_true]
  rw [hrow]
  dsimp only
  rw [hob.2.flat, cond_true, bytes_run hob.2]
 ·rename_i pth n els cap
  cases hv
  have main : ∀ (x' : Value) (l : List Value), (Conv.bytesToString x').run P w = .ok (.string (bytesL l)) w → (∃ a n c, x' = .slice a n c) → (convert src dst x').run P w = .ok (.string (bytesL l)) w := by
   rintro x' l hr ⟨a, n, c, rfl⟩
   unfold convert
   rw [bind_run (underlying_pure hs), bind_run (underlying_pure hd)]
   dsimp only
   rw [bind_run (underlying_pure he)]
   exact hr
  cases hx with
  | treeNil sz a cp =>
   refine ⟨_, main _ _ ?_ ⟨_, _, _, rfl⟩, .string _⟩
   cases a with
   | none => rfl
   | some a =>
    rw [bytesToString_eq, Sem.run_bind]
    show (bytesTail #[]).run P w = _
    exact pureRun_run (bytes_run (P := P) (l := []) (fun v hv => by cases hv)) w
  | @tree _ _ cp c o _ cs ct fz hf hn hcap hsl hsz hr =>
   refine ⟨_, main _ _ ?_ ⟨_, _, _, rfl⟩, .string _⟩
   rw [bytesToString_eq, Sem.run_bind]
   have hl := loadFrom_run (P := P) (w := w) (a := ⟨c, o, none⟩) els.toList 0 #[] (fun i v hi => by
    obtain ⟨m, rfl⟩ := hob v (List.mem_of_getElem? hi)
    have hi' : els[i]? = some (.int .u8 m) := by simpa using hi
    have hlt : i < n := by rw [← hn]; exact (Array.getElem?_eq_some_iff.1 hi').1
    rw [Nat.zero_add, show (⟨c, o, none⟩ : Addr) = ⟨c, o + 0, none⟩ from rfl, add_eq, frz_cell h hf]
    have hlt2 : o + i * 1 + 0 < cs.size := by omega
    have := hr i 0 _ (.int .u8 m) cs[o + i * 1 + 0] hi' rfl (by simp [hlt2])
    rw [show o + (0 + i) = o + i * 1 + 0 by omega, Array.getElem?_eq_getElem hlt2]
    generalize cs[o + i * 1 + 0] = y at this
    cases this
    rfl)
   have hsz' : els.toList.length = n := by simpa using hn
   unfold loadCells
   rw [← hsz', hl, Result.andThen_ok]
   show (bytesTail (#[] ++ els.toList.toArray)).run P w = _
   rw [show #[] ++ els.toList.toArray = els.toList.toArray by simp]
   exact pureRun_run (bytes_run (P := P) hob) w
 ·cases hv
def sBin (P : Program) (op : BinOp) (t : TypeId) (u z : Value) : Option (Value × Prop) :=
 match op, u, z with
 | .quo, .int k a, .int k' b => bif decide (k = k') then some (.int k (k.wrap (a.tdiv b)), b ≠ 0) else none
 | .rem, .int k a, .int k' b => bif decide (k = k') then some (.int k (a.tmod b), b ≠ 0) else none
 | .shl, .int k a, .int _ b => some (.int k (k.wrap (a * 2 ^ (min b.toNat k.bits))), 0 ≤ b)
 | .shr, .int k a, .int _ b => some (.int k (a.fdiv (2 ^ (min b.toNat k.bits))), 0 ≤ b)
 | .add, .string x, .string y => some (.string (x ++ y), x.size + y.size ≤ 9223372036854775807)
 | .eql, .string x, .string y => some (.bool (decide (x = y)), True)
 | .neq, .string x, .string y => some (.bool (!decide (x = y)), True)
 | .eql, .int k a, .int k' b => bif decide (k = k') then some (.bool (decide (a = b)), True) else none
 | .neq, .int k a, .int k' b => bif decide (k = k') then some (.bool (!decide (a = b)), True) else none
 | .eql, .agg xs, .agg ys => bif flats xs && flats ys && !P.eqGuardType P.depth t then match sEq P 100 t (.agg xs) (.agg ys) with
   | some b => some (.bool b, True)
   | none => none
  else none
 | .neq, .agg xs, .agg ys => bif flats xs && flats ys && !P.eqGuardType P.depth t then match sEq P 100 t (.agg xs) (.agg ys) with
   | some b => some (.bool (!b), True)
   | none => none
  else none
 | _, _, _ => none
theorem sBin_sound {P : Program} {op : BinOp} {t : TypeId} {x y : Operand} {u z v : Value} {ob : Prop} (h : sBin P op t u z = some (v, ob)) (hob : ob) (w : World) :
  ((do eqGuard op t x y u z; binOp op t u z) >>= fun r => pure (Next.value r)).run P w = .ok (.value v) w ∧ closed1 u = true ∧ closed1 z = true ∧ closed v = true := by
 have main : ∀ (op : BinOp) (u z v : Value), (∀ w, (eqGuard op t x y u z).run P w = .ok () w) → (∀ w, (binOp op t u z).run P w = .ok v w) → ((do eqGuard op t x y u z; binOp op t u z) >>= fun r => pure (Next.value r)).run P w = .ok (.value v) w := by
  intro op u z v h1 h2
  rw [Sem.run_bind, Sem.run_bind, h1, Result.andThen_ok, h2, Result.andThen_ok]
  rfl
 unfold sBin at h
 split at h
 ·rename_i k a k' b
  cases hk : decide (k = k') with
  | false => rw [hk] at h; cases h
  | true =>
   rw [hk] at h; cases h
   have := of_decide_eq_true hk; subst this
   refine ⟨main _ _ _ _ (fun _ => rfl) (fun w => ?_), rfl, rfl, rfl⟩
   show (if k ≠ k then stuck _ else Op.intDiv .quo k a b : Sem Value).run P w = _
   rw [if_neg (by simp)]
   unfold Op.intDiv
   rw [if_neg hob]
   rfl
 ·rename_i k a k' b
  cases hk : decide (k = k') with
  | false => rw [hk] at h; cases h
  | true =>
   rw [hk] at h; cases h
   have := of_decide_eq_true hk; subst this
   refine ⟨main _ _ _ _ (fun _ => rfl) (fun w => ?_), rfl, rfl, rfl⟩
   show (if k ≠ k then stuck _ else Op.intDiv .rem k a b : Sem Value).run P w = _
   rw [if_neg (by simp)]
   unfold Op.intDiv
   rw [if_neg hob]
   rfl
 ·rename_i k a k' b
  cases h
  refine ⟨main _ _ _ _ (fun _ => rfl) (fun w => ?_), rfl, rfl, rfl⟩
  show (Op.shift .shl k a k' b).run P w = _
  unfold Op.shift
  rw [if_neg (by omega)]
  rfl
 ·rename_i k a k' b
  cases h
  refine ⟨main _ _ _ _ (fun _ => rfl) (fun w => ?_), rfl, rfl, rfl⟩
  show (Op.shift .shr k a k' b).run P w = _
  unfold Op.shift
  rw [if_neg (by omega)]
  rfl
 ·rename_i a b
  cases h
  refine ⟨main _ _ _ _ (fun _ => rfl) (fun w => ?_), rfl, rfl, rfl⟩
  show (Op.stringOp .add a b).run P w = _
  unfold Op.stringOp
  dsimp only
  rw [if_neg (by (have : IntKind.i64.max = 9223372036854775807 := by decide); rw [this]; omega)]
  rfl
 ·rename_i a b
  cases h
  refine ⟨main _ _ _ _ (fun _ => rfl) (fun w => ?_), rfl, rfl, rfl⟩
  show Result.ok (Value.bool (a.toList == b.toList)) w = _
  rw [← beq_toListBytes, byteArray_beq]
 ·rename_i a b
  cases h
  refine ⟨main _ _ _ _ (fun _ => rfl) (fun w => ?_), rfl, rfl, rfl⟩
  show Result.ok (Value.bool (!(a.toList == b.toList))) w = _
  rw [← beq_toListBytes, byteArray_beq]
 ·rename_i k a k' b
  cases hk : decide (k = k') with
  | false => rw [hk] at h; cases h
  | true =>
   rw [hk] at h; cases h
   have := of_decide_eq_true hk; subst this
   refine ⟨main _ _ _ _ (fun _ => rfl) (fun w => ?_), rfl, rfl, rfl⟩
   show (if k ≠ k then stuck _ else Op.intCmp .eql a b : Sem Value).run P w = _
   rw [if_neg (by simp)]
   rfl
 ·rename_i k a k' b
  cases hk : decide (k = k') with
  | false => rw [hk] at h; cases h
  | true =>
   rw [hk] at h; cases h
   have := of_decide_eq_true hk; subst this
   refine ⟨main _ _ _ _ (fun _ => rfl) (fun w => ?_), rfl, rfl, rfl⟩
   show (if k ≠ k then stuck _ else Op.intCmp .neq a b : Sem Value).run P w = _
   rw [if_neg (by simp)]
   rfl
 ·rename_i xs ys
  cases hc : flats xs && flats ys && !P.eqGuardType P.depth t with
  | false => rw [hc] at h; cases h
  | true =>
   rw [hc, cond_true] at h
   simp only [Bool.and_eq_true, Bool.not_eq_true'] at hc
   split at h
   case h_2 => cases h
   rename_i b hb
   cases h
   refine ⟨main _ _ _ _ (fun w => run_eqGuard_agg w _ t x y xs ys hc.2) (fun w => ?_), hc.1.1, hc.1.2, rfl⟩
   rw [run_eql_struct, sEq_sound 100 9900 t (.agg xs) (.agg ys) b w hc.1.1 hc.1.2 hb, Result.andThen_ok]
 ·rename_i xs ys
  cases hc : flats xs && flats ys && !P.eqGuardType P.depth t with
  | false => rw [hc] at h; cases h
  | true =>
   rw [hc, cond_true] at h
   simp only [Bool.and_eq_true, Bool.not_eq_true'] at hc
   split at h
   case h_2 => cases h
   rename_i b hb
   cases h
   refine ⟨main _ _ _ _ (fun w => run_eqGuard_agg w _ t x y xs ys hc.2) (fun w => ?_), hc.1.1, hc.1.2, rfl⟩
   rw [run_neq_struct, sEq_sound 100 9900 t (.agg xs) (.agg ys) b w hc.1.1 hc.1.2 hb, Result.andThen_ok]
 ·cases h
def aMethod (P : Program) (t : TypeId) (name : String) : Option FuncId :=
 match pureRun P (typeInfo t) with
 | some info => match info.methods.find? (fun m => m.name == name) with
  | some m => bif m.path.toList.isEmpty then match m.func, P.underlying t with
    | some (f, true), some (.pointer _) => some f
    | some (_, false), some (.pointer _) => none
    | some (f, false), some _ => some f
    | _, _ => none
   else none
  | none => none
 | none => none
theorem aMethod_run {P : Program} {t : TypeId} {name : String} {f : FuncId} (h : aMethod P t name = some f) (v : Value) (k : Nat) : pureRun P (method (k + 1) t v name) = some (f, v) := by
 unfold aMethod at h
 split at h
 case h_2 => cases h
 rename_i info hi
 split at h
 case h_2 => cases h
 rename_i m hm
 cases hp : m.path.toList.isEmpty with
 | false => rw [hp] at h; cases h
 | true =>
  rw [hp, cond_true] at h
  have hnil : m.path.toList = [] := List.isEmpty_iff.1 hp
  unfold method
  rw [pureRun_bind hi, hm]
  dsimp only
  rw [hnil]
  rw [pureRun_bind (show pureRun P (follow [] t (.val v)) = some (t, .val v) from rfl)]
  dsimp only
  cases hf : m.func with
  | none => rw [hf] at h; cases h
  | some q =>
   obtain ⟨g, pr⟩ := q
   rw [hf] at h
   cases hu : P.underlying t with
   | none => rw [hu] at h; cases pr <;> cases h
   | some d =>
    rw [hu] at h
    have hrun : pureRun P (receiverAt t (.val v) pr (if m.path.isEmpty then some ((name.splitOn ".").getLastD name) else none)) = some v := by
     unfold receiverAt
     rw [pureRun_bind (underlying_pure hu)]
     cases pr <;> cases d <;> first | rfl | cases h
    have hg : g = f := by cases pr <;> cases d <;> first | (cases h; done) | (cases h; rfl)
    subst hg
    dsimp only
    rw [pureRun_bind hrun]
    rfl
theorem nilAhead_run {P : Program} {t : TypeId} {name : String} {f : FuncId} (h : aMethod P t name = some f) (v : Value) (k : Nat) : pureRun P (nilAhead (k + 1) t v name) = some (some false) := by
 unfold aMethod at h
 split at h
 case h_2 => cases h
 rename_i info hi
 split at h
 case h_2 => cases h
 rename_i m hm
 cases hp : m.path.toList.isEmpty with
 | false => rw [hp] at h; cases h
 | true =>
  rw [hp, cond_true] at h
  have hnil : m.path.toList = [] := List.isEmpty_iff.1 hp
  unfold nilAhead
  rw [pureRun_bind hi, hm]
  dsimp only
  rw [hnil]
  rw [pureRun_bind (show pureRun P (followBlind [] t (some v)) = some (.ok (t, some v)) from rfl)]
  dsimp only
  cases hf : m.func with
  | none => rw [hf] at h; cases h
  | some q =>
   obtain ⟨g, pr⟩ := q
   rw [hf] at h
   cases hu : P.underlying t with
   | none => rw [hu] at h; cases pr <;> cases h
   | some d =>
    rw [hu] at h
    cases pr with
    | true => rfl
    | false =>
     dsimp only
     rw [pureRun_bind (underlying_pure hu)]
     cases d <;> first | rfl | cases h
def sval (r : Option (Value × Prop)) : Option (LRes × Prop) :=
 match r with
 | some (v, ob) => some (.val v, ob)
 | none => none
def sbase (P : Program) (hp : Tr AObj) (o : Oper) (ev : Operand → Option Value) : Option (LRes × Prop) :=
 match alight P hp o ev with
 | some r => some (r, True)
 | none => none
def sTreeLen (P : Program) (c : Call) (ev : Operand → Option Value) : Option Value :=
 match c.callee, c.argTypes[0]?, c.args[0]? with
 | .builtin .len, some t, some x => match ev x with
  | some (.func (.via _ _ n false) _ _) => match P.underlying t with
   | some (.slice _) => some (goInt n)
   | _ => none
  | _ => none
 | _, _, _ => none
def sCharAt (s : ByteArray) (k : Int) : Value := .int .u8 (s.data.getD k.toNat 0).toNat
def zrow : Nat → List Value → List Value
 | 0, _ => []
 | n + 1, z => z ++ zrow n z
theorem zrow_len (z : List Value) : ∀ n, (zrow n z).length = n * z.length
 | 0 => by simp [zrow]
 | n + 1 => by rw [zrow, List.length_append, zrow_len z n, Nat.succ_mul]; omega
theorem zrow_get {z : List Value} : ∀ {n i : Nat} {v : Value}, (zrow n z)[i]? = some v → z[i % z.length]? = some v
 | 0, i, v, h => by simp [zrow] at h
 | n + 1, i, v, h => by
  rw [zrow] at h
  by_cases hi : i < z.length
  ·rw [Nat.mod_eq_of_lt hi]
   rwa [List.getElem?_append_left hi] at h
  ·rw [List.getElem?_append_right (by omega)] at h
   have := zrow_get h
   rwa [← Nat.mod_eq_sub_mod (by omega)] at this
def sMakeSlice (P : Program) (t : TypeId) (x y : Value) : Option ((AObj × NewV) × Prop) :=
 match x, y, P.underlying t with
 | .int _ len, .int _ cap, some (.slice elem) => match pureRun P (typeInfo elem), pureRun P (sizeOf elem), pureRun P (zeroValue elem) with
  | some info, some size, some zv => bif flats zv.cells && (zv.cells.size.beq size && info.bytes.ble (2 ^ 20)) then
    some ((.cells (zrow len.toNat zv.cells.toList) true, .slice len.toNat size), 0 ≤ len ∧ len ≤ cap ∧ cap ≤ 2 ^ 25) else none
  | _, _, _ => none
 | _, _, _ => none
theorem sMakeSlice_sound {P : Program} {ρ : Place} {t : TypeId} {x x' y y' : Value} {ob : AObj} {nv : NewV} {pr : Prop} (hx : VR ρ x x') (hy : VR ρ y y') (h : sMakeSlice P t x y = some ((ob, nv), pr)) (hpr : pr) (w : World) :
  Makes P ρ (Instr.makeSlice t x' y') ob nv w := by
 unfold sMakeSlice at h
 split at h
 case h_2 => cases h
 rename_i k1 len k2 cap elem hu
 cases hx
 cases hy
 split at h
 case h_2 => cases h
 rename_i info size zv hi hz hzv
 cases hc : (flats zv.cells && (zv.cells.size.beq size && info.bytes.ble (2 ^ 20))) with
 | false => rw [hc] at h; cases h
 | true =>
  rw [hc, cond_true] at h
  cases h
  simp only [Bool.and_eq_true] at hc
  obtain ⟨hfl, hsz, hby⟩ := hc
  have hsz := Nat.eq_of_beq_eq_true hsz
  have hby := Nat.le_of_ble_eq_true hby
  obtain ⟨p1, p2, p3⟩ := hpr
  have wl : IntKind.i64.wrap len = len := by rw [IntKind.wrap_i64]; omega
  have wc : IntKind.i64.wrap cap = cap := by rw [IntKind.wrap_i64]; omega
  have hroom : ¬ ((info.bytes : Int) * cap > 2 ^ 48) := by
   have : (info.bytes : Int) * cap ≤ 2 ^ 20 * 2 ^ 25 := Int.mul_le_mul (by exact_mod_cast hby) p3 (by omega) (by decide)
   omega
  have hc0 : ((decide (IntKind.i64.wrap cap < 0) || decide ((info.bytes : Int) * IntKind.i64.wrap cap > 2 ^ 48)) || decide (IntKind.i64.wrap len < 0) || decide (IntKind.i64.wrap len > IntKind.i64.wrap cap)) = false := by
   rw [wl, wc]
   simp only [Bool.or_eq_false_iff, decide_eq_false_iff_not]
   exact ⟨⟨⟨by omega, hroom⟩, by omega⟩, by omega⟩
  have hzr : pureRun P (if cap.toNat * size = 0 then (pure #[] : Sem (Array Value)) else do pure (← zeroValue elem).cells) = some (if cap.toNat * size = 0 then #[] else zv.cells) := by
   by_cases h0 : cap.toNat * size = 0
   ·rw [if_pos h0, if_pos h0]; rfl
   ·rw [if_neg h0, if_neg h0, pureRun_bind hzv]; rfl
  have hrun : (Instr.makeSlice t (.int k1 len) (.int k2 cap)).run P w = ((newRow elem ((Array.range (cap.toNat * size)).map ((if cap.toNat * size = 0 then #[] else zv.cells)[· % (if cap.toNat * size = 0 then #[] else zv.cells).size]!))) >>= fun a => pure (.slice (some a) len.toNat cap.toNat)).run P w := by
   unfold Instr.makeSlice
   rw [bind_run (underlying_pure hu)]
   dsimp only
   show ((typeInfo elem) >>= _).run P w = _
   rw [bind_run hi]
   dsimp only
   rw [if_neg (by rw [hc0]; simp)]
   have hr : pureRun P (askRoom ((IntKind.i64.wrap cap).toNat * info.bytes)) = some () := by unfold askRoom; split <;> rfl
   rw [bind_run hr]
   rw [bind_run hz]
   rw [wl, wc]
   have hj : ∀ (k : Array Value → Sem Value), (if cap.toNat * size = 0 then (pure #[] : Sem (Array Value)) >>= k else zeroValue elem >>= fun z => pure z.cells >>= k).run P w = (k (if cap.toNat * size = 0 then #[] else zv.cells)).run P w := by
    intro k
    rw [← bind_run hzr k w]
    by_cases h0 : cap.toNat * size = 0
    ·rw [if_pos h0, if_pos h0]
    ·rw [if_neg h0, if_neg h0]
     simp only [bind_assoc]
   exact hj _
  have hlc : len.toNat ≤ cap.toNat := by omega
  have hmul : len.toNat * size ≤ cap.toNat * size := Nat.mul_le_mul_right _ hlc
  refine ⟨_, .cells ((Array.range (cap.toNat * size)).map ((if cap.toNat * size = 0 then #[] else zv.cells)[· % (if cap.toNat * size = 0 then #[] else zv.cells).size]!)) elem, w.drawn, cap.toNat * size, hrun.trans rfl, fun O hO => ⟨by simp, ?_, fun o _ => by simp, fun i v hv => ?_, fun _ => hO⟩, fun ρ' b hb => ?_⟩
  ·rw [zrow_len, Array.length_toList, hsz]; omega
  ·have hi1 : i < (zrow len.toNat zv.cells.toList).length := (List.getElem?_eq_some_iff.1 hv).1
   rw [zrow_len, Array.length_toList, hsz] at hi1
   have hne : cap.toNat * size ≠ 0 := by omega
   have hg := zrow_get hv
   rw [Array.length_toList] at hg
   refine ⟨v, ?_, ?_⟩
   ·have e1 : (if cap.toNat * size = 0 then #[] else zv.cells) = zv.cells := if_neg hne
    have hg' : zv.cells[i % zv.cells.size]? = some v := by simpa using hg
    have hlt : i < cap.toNat * size := by omega
    rw [Nat.zero_add, Array.getElem?_map, Array.getElem?_range, if_pos hlt, e1]
    simp only [Option.map_some]
    rw [getElem!_def, hg']
   ·exact flat_refl (all_get hfl (i := i % zv.cells.size) (by simpa using hg))
  ·have h2 := VR.slice (ρ := ρ') (o := 0) (n := len.toNat) (sz := size) (cap := cap.toNat) hb hlc (by omega)
   exact h2
structure ExtIs (P : Program) (f : FuncId) (e : Array Value → Sem Value) : Prop where
 run : ∀ (args : Array Value) (w : World), (callFunc f args).run P w = ((e args).run P w).andThen fun v w' => .ok (.value v) w'
def extTab : List (Nat × Nat) :=
 (270, 0) ::
 []
def extKind (f : Nat) : List (Nat × Nat) → Option Nat
 | [] => none
 | q :: l => bif Nat.beq q.1 f then some q.2 else extKind f l
def sExt (P : Program) (c : Call) (ev : Operand → Option Value) : Option (Value × Prop) :=
 match c.callee with
 | .value (.func f) => match extKind f extTab with
  | some 0 => match evL ev c.args.toList with
   | some [.int .u64 x, .int .u64 y, .int .u64 z] => some (.tuple #[.int .u64 ((x + y + z) % 18446744073709551616), .int .u64 ((x + y + z) / 18446744073709551616)], ExtIs P f add64Entry ∧ 0 ≤ x ∧ 0 ≤ y ∧ 0 ≤ z ∧ z ≤ 1)
   | _ => none
  | _ => none
 | _ => none
theorem sExt_sound {P : Program} {ρ : Place} {ev : Operand → Option Value} {a : Act} (hF : ERel ρ ev a) {o : Oper} {c : Call} (ho : o.op = .call c) {v : Value} {ob : Prop} (h : sExt P c ev = some (v, ob)) (hob : ob) (w : World) :
  ∃ v', (execOp a.eval o).run P w = .ok (.value v') w ∧ VR ρ v v' := by
 obtain ⟨callee, args, argTypes⟩ := c
 unfold sExt at h
 dsimp only at h
 split at h
 case h_2 => cases h
 rename_i f
 split at h
 case h_2 => cases h
 split at h
 case h_2 => cases h
 rename_i x y z he
 cases h
 obtain ⟨hx, h0, h1, h2, h3⟩ := hob
 have hl := evL_sound hF he
 have hargs : args.map a.eval = #[.int .u64 x, .int .u64 y, .int .u64 z] := by
  apply Array.ext'
  rw [Array.toList_map]
  generalize args.toList.map a.eval = l at hl
  cases hl with
  | cons g1 hl =>
  cases hl with
  | cons g2 hl =>
  cases hl with
  | cons g3 hl =>
  cases hl
  cases g1
  cases g2
  cases g3
  rfl
 have hrun : (execOp a.eval o).run P w = (callFunc f (args.map a.eval)).run P w := by
  unfold execOp
  rw [ho]
  show (callFunc f ((#[] ++ args.map a.eval) ++ #[])).run P w = _
  rw [Array.append_empty, Array.empty_append]
 refine ⟨_, ?_, .tuple rfl fun i u u' e1 e2 => ?_⟩
 ·rw [hrun, hargs, hx.run, run_add64 x y z h0 h1 h2 h3]
  rfl
 ·rcases i with _ | _ | i
  ·cases e1; cases e2; exact .int _ _
  ·cases e1; cases e2; exact .int _ _
  ·simp at e1
theorem sExt_congr {P : Program} {ev ev' : Operand → Option Value} {c : Call} (h : ∀ x ∈ c.args, ev x = ev' x) : sExt P c ev = sExt P c ev' := by
 unfold sExt
 rw [evL_congr (l := c.args.toList) fun x hx => h x (by simpa using hx)]
def symTab : List (Nat × Nat × Nat) :=
 (82, 40, 41) ::
 []
def symAt (o : Oper) (t : TypeId) (x : Operand) : Bool :=
 match o.dst, x with
 | some d, .tmp k => symTab.any fun q => Nat.beq q.1 t && (Nat.beq q.2.1 k && Nat.beq q.2.2 d)
 | _, _ => false
def etaR (P : Program) (l : List Value) : List TypeId → Nat → Option (List Value × Prop)
 | [], _ => some ([], True)
 | t :: ts, j => match eta P t (l.getD j undef), etaR P l ts (j + 1) with
  | some v, some (vs, o) => some (v :: vs, l.getD j undef = v ∧ o)
  | _, _ => none
def symLoad (P : Program) (hp : Tr AObj) (t : TypeId) (x : Value) : Option (Value × Prop) :=
 match x with
 | .pointer (some ⟨b, o, none⟩) => match hp.get b with
  | some (.cells l _) => match pureRun P (isAgg t) with
   | some false => match eta P t (l.getD o undef) with
    | some v => some (v, l.getD o undef = v)
    | none => none
   | some true => match leaves P 20 t, pureRun P (sizeOf t) with
    | some ts, some z => bif ts.length.beq z then match etaR P l ts o with
     | some (vs, ob) => some (.agg vs.toArray, ob)
     | none => none
     else none
    | _, _ => none
   | none => none
  | _ => none
 | _ => none
theorem getD_some {l : List Value} {i : Nat} {v : Value} (h : l.getD i undef = v) (hv : v ≠ undef) : l[i]? = some v := by
 rw [List.getD_eq_getElem?_getD] at h
 cases hc : l[i]? with
 | none => rw [hc] at h; exact absurd h.symm hv
 | some x => rw [hc] at h; exact congrArg some h
theorem etaR_sound {P : Program} {l : List Value} : ∀ (ts : List TypeId) (j : Nat) (vs : List Value) (ob : Prop), etaR P l ts j = some (vs, ob) → ob → vs.length = ts.length ∧ ∀ (k : Nat) (v : Value), vs[k]? = some v → l[j + k]? = some v
 | [], j, vs, ob, h, _ => by
  simp only [etaR] at h
  cases h
  exact ⟨rfl, fun k v hk => by simp at hk⟩
 | t :: ts, j, vs, ob, h, hob => by
  simp only [etaR] at h
  split at h
  case h_2 => cases h
  rename_i v us ob' h1 h2
  cases h
  obtain ⟨g1, g2⟩ := etaR_sound ts (j + 1) us ob' h2 hob.2
  refine ⟨by simp [g1], fun k v' hk => ?_⟩
  cases k with
  | zero => simp at hk; subst hk; exact getD_some hob.1 (eta_undef h1)
  | succ k => rw [show j + (k + 1) = j + 1 + k by omega]; exact g2 k v' (by simpa using hk)
theorem symLoad_sound {P : Program} {ρ : Place} {W : Base} {hp : Tr AObj} {nx : Nat} {w : World} (h : Rel ρ W hp nx w) {t : TypeId} {x x' v : Value} {ob : Prop} (hx : VR ρ x x') (hv : symLoad P hp t x = some (v, ob)) (hob : ob) :
  ∃ v', (Instr.loadAt t x').run P w = .ok v' w ∧ VR ρ v v' := by
 unfold symLoad at hv
 split at hv
 case h_2 => cases hv
 rename_i b o
 cases hx with
 | @ptr _ _ c s z hr =>
 split at hv
 case h_2 => cases hv
 rename_i l wr hb
 have cell : ∀ {i : Nat} {u : Value}, l[i]? = some u → ∃ u', w.cell? ⟨c, s + i, none⟩ = some u' ∧ VR ρ u u' := fun hu => h.cell hb hr hu
 unfold Instr.loadAt
 show ∃ v', (loadVar t ⟨c, s + o, none⟩).run P w = _ ∧ _
 unfold loadVar
 split at hv
 ·rename_i hi
  split at hv
  case h_2 => cases hv
  rename_i v0 he
  cases hv
  obtain ⟨u', e1, e2⟩ := cell (getD_some hob (eta_undef he))
  rw [bind_run hi, if_neg (by simp), run_load, e1]
  exact ⟨_, rfl, e2⟩
 ·rename_i hi
  split at hv
  case h_2 => cases hv
  rename_i ts z' hts hz
  cases hbq : ts.length.beq z' with
  | false => rw [hbq] at hv; cases hv
  | true =>
   rw [hbq, cond_true] at hv
   have hbq := Nat.eq_of_beq_eq_true hbq
   split at hv
   case h_2 => cases hv
   rename_i vs ob' hl
   cases hv
   obtain ⟨g1, g2⟩ := etaR_sound ts o vs _ hl hob
   have build : ∀ k, k ≤ vs.length → ∃ l' : List Value, l'.length = k ∧ VRL ρ (vs.take k) l' ∧ ∀ (i : Nat) (u : Value), l'[i]? = some u → w.cell? ⟨c, s + (o + i), none⟩ = some u := by
    intro k
    induction k with
    | zero => exact fun _ => ⟨[], rfl, by rw [List.take_zero]; exact .nil, fun i u hi => by simp at hi⟩
    | succ k ih =>
     intro hk
     obtain ⟨l', q1, q2, q3⟩ := ih (by omega)
     have hvk : vs[k]? = some vs[k] := List.getElem?_eq_getElem hk
     obtain ⟨u', e1, e2⟩ := cell (g2 k _ hvk)
     refine ⟨l' ++ [u'], by simp [q1], VRL.of (by rw [List.length_take, List.length_append, q1]; simp; omega) fun i a a' ha ha' => ?_, fun i u hi => ?_⟩
     ·rcases Nat.lt_or_ge i k with h' | h'
      ·rw [List.getElem?_take, if_pos (by omega)] at ha
       rw [List.getElem?_append_left (by omega)] at ha'
       exact q2.get (by rw [List.getElem?_take, if_pos h']; exact ha) ha'
      ·rw [List.getElem?_take] at ha
       split at ha
       ·have : i = k := by omega
        subst this
        rw [hvk] at ha
        cases ha
        rw [List.getElem?_append_right (by omega), q1, Nat.sub_self] at ha'
        cases ha'
        exact e2
       ·cases ha
     ·rcases Nat.lt_or_ge i k with h' | h'
      ·rw [List.getElem?_append_left (by omega)] at hi
       exact q3 i u hi
      ·rw [List.getElem?_append_right (by omega), q1] at hi
       have : i = k := by
        rcases Nat.lt_or_ge k i with h'' | h''
        ·rw [List.getElem?_eq_none (by simp; omega)] at hi; cases hi
        ·omega
       subst this
       rw [Nat.sub_self] at hi
       cases hi
       exact e1
   obtain ⟨l', q1, q2, q3⟩ := build vs.length (Nat.le_refl _)
   rw [List.take_length] at q2
   have hlen : l'.length = z' := by rw [q1, g1, hbq]
   rw [bind_run hi, if_pos rfl, bind_run hz, Sem.run_bind]
   have := loadFrom_run (P := P) (w := w) (a := ⟨c, s + o, none⟩) l' 0 #[] (fun k u hk => by
    rw [Nat.zero_add, add_eq]
    exact q3 k u hk)
   unfold loadCells
   rw [← hlen]
   rw [this, Result.andThen_ok]
   refine ⟨_, rfl, ?_⟩
   have ha := q2.arr
   simpa using VR.agg ha.1 ha.2
 ·cases hv
def sArr (P : Program) (hp : Tr AObj) (ev : Operand → Option Value) (t : TypeId) (v : Value) (lo hi : Option Operand) : Option (Value × Prop) :=
 match P.underlying t, v with
 | some (.array len elem), .pointer (some ⟨b, o, none⟩) => match hp.get b with
  | some (.cells l _) => match pureRun P (sizeOf elem), sBound ev len hi, sBound ev 0 lo with
   | some z, some (h, oh), some (l0, ol) => some (.slice (some ⟨b, o + l0 * z, none⟩) (h - l0) z, oh ∧ ol ∧ l0 ≤ h ∧ h ≤ len ∧ o + len * z ≤ l.length)
   | _, _, _ => none
  | _ => none
 | _, _ => none
theorem sArr_sound {P : Program} {ρ : Place} {W : Base} {hp : Tr AObj} {nx : Nat} {w : World} (h : Rel ρ W hp nx w) {ev : Operand → Option Value} {a : Act} (hF : ERel ρ ev a) {t : TypeId} {x x' : Value} {lo hi : Option Operand} {v : Value} {ob : Prop} (hx : VR ρ x x')
  (hs : sArr P hp ev t x lo hi = some (v, ob)) (hob : ob) : ∃ v', (Instr.sliceAt t x' (lo.map a.eval) (hi.map a.eval) none).run P w = .ok v' w ∧ VR ρ v v' := by
 unfold sArr at hs
 split at hs
 case h_2 => cases hs
 rename_i len elem b o hu
 split at hs
 case h_2 => cases hs
 rename_i l wr hg
 split at hs
 case h_2 => cases hs
 rename_i z hh oh l0 ol hz h1 h2
 cases hs
 obtain ⟨k1, k2, k3, k4, k5⟩ := hob
 cases hx with
 | ptr hr =>
  rename_i c s zz
  obtain ⟨ob, e, ho⟩ := h.obj b _ c s zz hg hr
  cases ob <;> try exact ho.elim
  have ho2 := ho.2.1
  unfold Instr.sliceAt
  rw [bind_run (underlying_pure hu)]
  dsimp only
  rw [bind_run (show pureRun P (Instr.sureAddr (.pointer (some ⟨c, s + o, none⟩))) = some (⟨c, s + o, none⟩ : Addr) from rfl)]
  rw [bind_run (sBounds_run hF h1 h2 k1 k2 k3 k4 (Nat.le_refl _) false)]
  dsimp only
  rw [bind_run hz]
  refine ⟨_, rfl, ?_⟩
  by_cases hcl : len = l0
  ·rw [if_pos hcl, show hh - l0 = 0 by omega, show len - l0 = 0 by omega]
   exact .emptySlice _ hr
  ·rw [if_neg hcl, add_eq]
   have e1 : l0 * z + (len - l0) * z = len * z := by rw [← Nat.add_mul]; congr 1; omega
   exact .slice hr (by omega) (by omega)
def lookS (z : ByteArray) (k : Int) : List (Int × ByteArray) → ByteArray
 | [] => z
 | e :: l => bif decide (k = e.1) then e.2 else lookS z k l
def lookB (k : Int) : List (Int × ByteArray) → Bool
 | [] => false
 | e :: l => bif decide (k = e.1) then true else lookB k l
def esI (q : IntKind) : List Ment → Option (List (Int × ByteArray))
 | [] => some []
 | (.int q2 j, .string s, _) :: es => if q2 = q then match esI q es with
   | some l => some ((j, s) :: l)
   | none => none
  else none
 | _ :: _ => none
def sLook (P : Program) (hp : Tr AObj) (t : TypeId) (x k : Value) (c : Bool) : Option Value :=
 match c, P.underlying t, x, k with
 | true, some (.map kt et), .map (some b), .int q i => match P.underlying kt, pureRun P (zeroValue et), hp.get b with
  | some (.int _), some (.string z), some (.map es _) => match esI q es with
   | some l => some (.tuple #[.string (lookS z i l), .bool (lookB i l)])
   | none => none
  | _, _, _ => none
 | _, _, _, _ => none
theorem esI_find {kd : IntKind} {q : IntKind} {i : Int} {z : ByteArray} : ∀ {es : List Ment} {l : List (Int × ByteArray)} (n : Nat) (pre : List Ment), pre.length = n → esI q es = some l →
  ∃ r, aFind (.int kd) (.int q i) es n = some r ∧ match r with
   | some j => ∃ e : Ment, (pre ++ es)[j]? = some e ∧ e.2.1 = .string (lookS z i l) ∧ lookB i l = true
   | none => lookS z i l = z ∧ lookB i l = false
 | [], l, n, pre, hn, h => by
  simp only [esI] at h
  cases h
  exact ⟨none, rfl, rfl, rfl⟩
 | e :: es, l, n, pre, hn, h => by
  unfold esI at h
  split at h
  ·rename_i heq; cases heq
  ·rename_i q2 j s ck es' heq
   cases heq
   split at h
   case isFalse => cases h
   rename_i hq
   subst hq
   split at h
   case h_2 => cases h
   rename_i l' hl
   cases h
   have hs : Instr.sameNow (.int kd) (.int q2 i) (.int q2 j) = some (i == j) := by
    unfold Instr.sameNow
    exact if_pos rfl
   by_cases hij : i = j
   ·subst hij
    refine ⟨some n, ?_, (.int q2 i, .string s, ck), ?_, ?_, ?_⟩
    ·simp only [aFind, hs, beq_self_eq_true]
    ·rw [List.getElem?_append_right (by omega), hn, Nat.sub_self]
     rfl
    ·simp [lookS]
    ·simp [lookB]
   ·obtain ⟨r, h1, h2⟩ := esI_find (z := z) (n + 1) (pre ++ [(.int q2 j, .string s, ck)]) (by simp [hn]) hl
    refine ⟨r, ?_, ?_⟩
    ·have hb : (i == j) = false := by simpa using hij
     simp only [aFind, hs, hb]
     exact h1
    ·simp only [lookS, lookB, hij, decide_false, cond_false]
     rw [List.append_assoc] at h2
     exact h2
  ·cases h
theorem sLook_eq {P : Program} {hp : Tr AObj} {t : TypeId} {x k v : Value} {c : Bool} (h : sLook P hp t x k c = some v) : aLookup P hp t x k c = some v := by
 unfold sLook at h
 split at h
 case h_2 => cases h
 rename_i kt et b q i hu
 split at h
 case h_2 => cases h
 rename_i kd z es ck h1 h2 h3
 split at h
 case h_2 => cases h
 rename_i l hl
 cases h
 obtain ⟨r, g1, g2⟩ := esI_find (kd := kd) (z := z) (i := i) 0 [] rfl hl
 unfold aLookup
 rw [hu]
 dsimp only
 rw [h1, h2]
 dsimp only
 have hc : (keyNow (.int kd) && (closed1 (.int q i) && closed1 (.string z))) = true := rfl
 rw [hc, cond_true, h3]
 dsimp only
 rw [g1]
 cases r with
 | none =>
  obtain ⟨e1, e2⟩ := g2
  dsimp only
  rw [e1, e2]
  rfl
 | some j =>
  obtain ⟨e, e0, e1, e2⟩ := g2
  rw [List.nil_append] at e0
  dsimp only
  rw [e0]
  dsimp only
  rw [e1, e2]
  rfl
def slight (P : Program) (hp : Tr AObj) (o : Oper) (ev : Operand → Option Value) : Option (LRes × Prop) :=
 match o.op with
 | .load t x => bif symAt o t x then match ev x with
  | some v => sval (symLoad P hp t v)
  | none => none
  else match ev x with
  | some (.func (.via i _ off true) els _) => sval (sLoad P t els i off)
  | _ => sbase P hp o ev
 | .indexAddr t x i => match ev x, ev i with
  | some v, some (.int _ k) => sval (sIndexAddr P t v k)
  | _, _ => none
 | .fieldAddr t x f => match ev x with
  | some (.func (.via i _ off true) els _) => sval (sFieldAt P t els i off f)
  | _ => sbase P hp o ev
 | .nilCheck x => match ev x with
  | some (.func (.via i _ off true) els _) => some (.val (treeAt els i off), True)
  | some (.func (.method name) first cap) => match first.toList with
   | [.iface t _] => match aMethod P t name with
    | some _ => some (.val (.func (.method name) first cap), True)
    | none => none
   | _ => none
  | _ => sbase P hp o ev
 | .typeAssert x _ y true => match ev x, P.underlying y with
  | some (.iface t v), some (.int _) => bif Nat.beq t y then some (.val (.tuple #[v, .bool true]), True) else none
  | _, _ => none
 | .makeFunc fn f c => match fn with
  | .method name => match evL ev f.toList, c.toList with
   | some [v], [] => some (.val (.func (.method name) #[v] #[]), True)
   | _, _ => none
  | _ => sbase P hp o ev
 | .slice t x lo hi none => match ev x with
  | some v => match sSlice P ev t v lo hi with
   | some r => sval (some r)
   | none => match v with
    | .pointer (some A) => sval (sArr P hp ev t (.pointer (some A)) lo hi)
    | _ => sbase P hp o ev
  | none => none
 | .index t x i => match ev x, ev i with
  | some (.string s), some (.int _ k) => match P.underlying t with
   | some .string => some (.val (sCharAt s k), 0 ≤ k ∧ k < (s.size : Int))
   | _ => none
  | _, _ => sbase P hp o ev
 | .binOp op t x y _ => match ev x, ev y with
  | some u, some z => match sBin P op t u z with
   | some r => sval (some r)
   | none => match aEq P op t u z with
    | some b => some (.val b, True)
    | none => match scalar P o ev with
     | some v => some (.val v, True)
     | none => none
  | _, _ => none
 | .convert src dst x => match ev x with
  | some (.slice (some A) n c) => sval (sBytes P hp src dst (.slice (some A) n c))
  | some (.func fn els c) => sval (sBytes P hp src dst (.func fn els c))
  | some _ => sbase P hp o ev
  | none => none
 | .pick c x y => match ev c with
  | some (.bool b) => Bool.rec (motive := fun _ => Option (LRes × Prop)) (match ev y with | some v => some (.val v, True) | none => none) (match ev x with | some v => some (.val v, True) | none => none) b
  | _ => none
 | .makeSlice t x y => match ev x, ev y with
  | some u, some v => match sMakeSlice P t u v with
   | some (q, pr) => some (.new q.1 q.2, pr)
   | none => none
  | _, _ => none
 | .lookup t x y c => match ev x, ev y with
  | some u, some v => match sLook P hp t u v c with
   | some r => some (.val r, True)
   | none => sbase P hp o ev
  | _, _ => none
 | .call c => match sTreeLen P c ev with
  | some v => some (.val v, True)
  | none => match sExt P c ev with
   | some r => sval (some r)
   | none => sbase P hp o ev
 | _ => sbase P hp o ev
theorem sval_eq {r : Option (Value × Prop)} {q : LRes} {ob : Prop} (h : sval r = some (q, ob)) : ∃ v, r = some (v, ob) ∧ q = .val v := by
 unfold sval at h
 split at h
 ·cases h; exact ⟨_, rfl, rfl⟩
 ·cases h
theorem sbase_eq {P : Program} {hp : Tr AObj} {o : Oper} {ev : Operand → Option Value} {q : LRes} {ob : Prop} (h : sbase P hp o ev = some (q, ob)) : alight P hp o ev = some q := by
 unfold sbase at h
 split at h
 ·rename_i r hr; cases h; exact hr
 ·cases h
theorem sTreeLen_sound {P : Program} {ρ : Place} {ev : Operand → Option Value} {a : Act} (hF : ERel ρ ev a) {o : Oper} {c : Call} (ho : o.op = .call c) {v : Value} (h : sTreeLen P c ev = some v) (w : World) :
  ∃ v', (execOp a.eval o).run P w = .ok (.value v') w ∧ VR ρ v v' := by
 obtain ⟨callee, args, argTypes⟩ := c
 unfold sTreeLen at h
 dsimp only at h
 split at h
 case h_2 => cases h
 rename_i t x hty har
 split at h
 case h_2 => cases h
 rename_i sz pth n els cap hv
 split at h
 case h_2 => cases h
 rename_i e hu
 cases h
 have hx := hF.eval hv
 generalize he : a.eval x = E at hx
 have main : ∀ (A' : Option Addr) (m' : Nat), E = .slice A' n m' → ∃ v', (execOp a.eval o).run P w = .ok (.value v') w ∧ VR ρ (goInt n) v' := by
  intro A' m' he'
  refine ⟨goInt n, ?_, .int _ _⟩
  unfold execOp
  rw [ho]
  simp only [resolve]
  have hl : pureRun P (Builtin.len_ argTypes o.type (args.map a.eval)) = some (goInt n) := by
   unfold Builtin.len_
   have : (args.map a.eval)[0]? = some (.slice A' n m') := by rw [Array.getElem?_map, har]; simp [he, he']
   rw [hty, this]
   dsimp only
   rw [pureRun_bind (underlying_pure hu)]
   rfl
  show ((Builtin.len_ argTypes o.type (args.map a.eval)) >>= fun r => pure (Next.value r)).run P w = _
  rw [bind_run hl]
  rfl
 cases hx with
 | tree => exact main _ _ rfl
 | treeNil => exact main _ _ rfl
theorem slight_sound {P : Program} {ρ : Place} {W : Base} {hp : Tr AObj} {nx : Nat} {w : World} (h : Rel ρ W hp nx w) {ev : Operand → Option Value} {a : Act} (hF : ERel ρ ev a) {o : Oper} {r : LRes} {ob : Prop} (hs : slight P hp o ev = some (r, ob)) (hob : ob) :
  LightRuns P ρ o a w r := by
 have base : sbase P hp o ev = some (r, ob) → LightRuns P ρ o a w r := fun hb => alight_sound h hF (sbase_eq hb)
 obtain ⟨dst, op, type, pos, after, guard⟩ := o
 unfold slight at hs
 cases op <;> dsimp only at hs <;> try exact base hs
 case load t x =>
  cases hsy : symAt ⟨dst, .load t x, type, pos, after, guard⟩ t x with
  | true =>
   rw [hsy, cond_true] at hs
   split at hs
   case h_2 => cases hs
   rename_i u hx
   obtain ⟨v, h1, rfl⟩ := sval_eq hs
   obtain ⟨v', e, hv'⟩ := symLoad_sound h (hF.eval hx) h1 hob
   exact ⟨v', value_run e, hv'⟩
  | false =>
  rw [hsy, cond_false] at hs
  split at hs
  ·rename_i i pth off els cap hx
   obtain ⟨v, h1, rfl⟩ := sval_eq hs
   have hv := hF.eval hx
   have hq : ∃ v', (Instr.loadAt t (a.eval x)).run P w = .ok v' w ∧ VR ρ v v' := by
    generalize a.eval x = E at hv
    cases hv with
    | treeAt h1' h2' h3' h4' => exact sLoad_sound h (.treeAt h1' h2' h3' h4') h1 hob
   obtain ⟨v', e, hv'⟩ := hq
   exact ⟨v', value_run e, hv'⟩
  ·exact base hs
 case indexAddr t x i =>
  split at hs
  case h_2 => cases hs
  rename_i u q k hx hi
  obtain ⟨v, h1, rfl⟩ := sval_eq hs
  have hi' := hF.eval hi
  obtain ⟨v', e, hv'⟩ := sIndexAddr_sound (q := q) (hF.eval hx) h1 hob w
  refine ⟨v', value_run ?_, hv'⟩
  generalize hE : a.eval i = E at hi'
  cases hi'
  exact e
 case fieldAddr t x f =>
  split at hs
  ·rename_i i pth off els cap hx
   obtain ⟨v, h1, rfl⟩ := sval_eq hs
   have hv := hF.eval hx
   have hq : ∃ v', (Instr.fieldAt t (a.eval x) f).run P w = .ok v' w ∧ VR ρ v v' := by
    generalize a.eval x = E at hv
    cases hv with
    | treeAt h1' h2' h3' h4' => exact sFieldAt_sound (.treeAt h1' h2' h3' h4') h1 w
   obtain ⟨v', e, hv'⟩ := hq
   exact ⟨v', value_run e, hv'⟩
  ·exact base hs
 case nilCheck x =>
  split at hs
  ·rename_i i pth off els cap hx
   cases hs
   have hv := hF.eval hx
   refine ⟨a.eval x, ?_, ?_⟩
   ·unfold execOp
    dsimp only
    generalize a.eval x = E at hv
    cases hv with
    | treeAt => rfl
   ·generalize a.eval x = E at hv
    cases hv with
    | treeAt h1' h2' h3' h4' => exact .treeAt h1' h2' h3' h4'
  ·rename_i name first cap hx
   split at hs
   case h_2 => cases hs
   rename_i t u hfst
   split at hs
   case h_2 => cases hs
   rename_i k hm
   cases hs
   have hv := hF.eval hx
   have key : ∀ E, VR ρ (.func (.method name) first cap) E → ∃ u', E = .func (.method name) #[.iface t u'] #[] := by
    intro E hE
    cases hE with
    | meth _ hv0 =>
     cases hfst
     cases hv0 with
     | iface _ hu => exact ⟨_, rfl⟩
   obtain ⟨u', he⟩ := key _ hv
   refine ⟨a.eval x, ?_, hv⟩
   have hd : 0 < Made.depth := by decide
   have hpos : ∃ j, P.types.size + Made.depth = j + 1 := ⟨P.types.size + Made.depth - 1, by omega⟩
   obtain ⟨j, hj⟩ := hpos
   unfold execOp
   dsimp only
   rw [he]
   dsimp only
   have e0 : (#[Value.iface t u'])[0]? = some (.iface t u') := rfl
   rw [e0]
   dsimp only
   have hprog : pureRun P program = some P := rfl
   rw [bind_run hprog]
   rw [hj]
   rw [bind_run (nilAhead_run hm u' j)]
   rfl
  ·exact base hs
 case typeAssert x xt y ok =>
  cases ok with
  | false => exact base hs
  | true =>
   dsimp only at hs
   split at hs
   case h_2 => cases hs
   rename_i t v k hx hu
   cases hb : Nat.beq t y with
   | false => rw [hb] at hs; cases hs
   | true =>
    rw [hb] at hs
    cases hs
    have hty : t = y := Nat.eq_of_beq_eq_true hb
    subst hty
    have hv := hF.eval hx
    generalize hE : a.eval x = E at hv
    cases hv with
    | @iface _ _ v' hv =>
     refine ⟨.tuple #[v', .bool true], value_run ?_, .tuple rfl fun i u u' h1 h2 => ?_⟩
     ·rw [hE]
      unfold Instr.typeAssert
      rw [bind_run (underlying_pure hu)]
      dsimp only
      rw [if_pos rfl]
      rfl
     ·rcases i with _ | _ | i
      ·cases h1; cases h2; exact hv
      ·cases h1; cases h2; exact .bool true
      ·simp at h1
 case makeFunc fn f c =>
  cases fn <;> try exact base hs
  rename_i name
  dsimp only at hs
  split at hs
  case h_2 => cases hs
  rename_i v hf hc
  cases hs
  have h1 := evL_sound hF hf
  have hcc : c = #[] := by apply Array.ext'; simpa using hc
  subst hcc
  generalize hl : f.toList.map a.eval = l at h1
  cases h1 with
  | cons hv ht =>
   cases ht
   rename_i v'
   refine ⟨.func (.method name) #[v'] #[], ?_, .meth name hv⟩
   have e1 : f.map a.eval = #[v'] := by apply Array.ext'; simpa using hl
   have e2 : (#[] : Array Operand).map a.eval = #[] := by simp
   unfold execOp
   dsimp only
   rw [e1, e2]
   rfl
 case slice t x lo hi mx =>
  cases mx with
  | some m => exact base hs
  | none =>
   dsimp only at hs
   split at hs
   case h_2 => cases hs
   rename_i u hx
   split at hs
   ·rename_i r0 hr
    obtain ⟨v, h1, rfl⟩ := sval_eq hs
    cases h1
    obtain ⟨v', e, hv'⟩ := sSlice_sound hF (hF.eval hx) hr hob w
    exact ⟨v', value_run e, hv'⟩
   ·split at hs
    ·obtain ⟨v, h1, rfl⟩ := sval_eq hs
     obtain ⟨v', e, hv'⟩ := sArr_sound h hF (hF.eval hx) h1 hob
     exact ⟨v', value_run e, hv'⟩
    ·exact base hs
 case index t x i =>
  split at hs
  ·rename_i s q k hx hi
   split at hs
   case h_2 => cases hs
   rename_i hu
   cases hs
   have hv := hF.eval hx
   have hi' := hF.eval hi
   refine ⟨sCharAt s k, value_run ?_, .int _ _⟩
   generalize a.eval x = X at hv
   generalize a.eval i = I at hi'
   cases hv
   cases hi'
   unfold Instr.index
   rw [bind_run (asInt_run q k)]
   dsimp only
   rw [bind_run (underlying_pure hu)]
   dsimp only
   rw [if_pos hob.1]
   have hlt : k.toNat < s.data.size := by
    have h2 := hob.2
    have h3 : s.data.size = s.size := rfl
    omega
   have e : s[k.toNat]? = some (s.data.getD k.toNat 0) := by
    rw [Array.getD_eq_getD_getElem?, Array.getElem?_eq_getElem hlt]
    exact getElem?_pos s k.toNat hlt
   rw [e]
   rfl
  ·exact base hs
 case binOp op t x y ty =>
  split at hs
  case h_2 => cases hs
  rename_i u z hx hy
  split at hs
  ·rename_i r0 hr
   obtain ⟨v, h1, rfl⟩ := sval_eq hs
   cases h1
   obtain ⟨g1, g2, g3, g4⟩ := sBin_sound (P := P) (t := t) (x := x) (y := y) hr hob w
   have e1 := closed1_eq g2 (hF.eval hx)
   have e2 := closed1_eq g3 (hF.eval hy)
   refine ⟨v, ?_, closed_refl g4⟩
   unfold execOp
   dsimp only
   rw [e1, e2]
   exact g1
  split at hs
  ·rename_i b hb
   cases hs
   refine ⟨b, aEq_sound (hF.eval hx) (hF.eval hy) hb w, ?_⟩
   have : ∃ c, b = .bool c := by
    unfold aEq at hb
    have hE : ∀ c, eqRes c op = some b → ∃ c, b = .bool c := by
     intro c hh
     cases op <;> simp only [eqRes, reduceCtorEq, Option.some.injEq] at hh <;> exact ⟨_, hh.symm⟩
    split at hb <;> first | (split at hb <;> first | exact hE _ hb | cases hb) | cases hb
   obtain ⟨c, rfl⟩ := this
   exact .bool c
  split at hs
  case h_2 => cases hs
  rename_i v hv
  cases hs
  exact scalar_sound hF hv w
 case convert src dst' x =>
  split at hs
  ·rename_i A n c hx
   obtain ⟨v, h1, rfl⟩ := sval_eq hs
   obtain ⟨v', e, hv'⟩ := sBytes_sound h (hF.eval hx) h1 hob
   exact ⟨v', value_run e, hv'⟩
  ·rename_i fn els c hx
   obtain ⟨v, h1, rfl⟩ := sval_eq hs
   obtain ⟨v', e, hv'⟩ := sBytes_sound h (hF.eval hx) h1 hob
   exact ⟨v', value_run e, hv'⟩
  ·exact base hs
  ·cases hs
 case makeSlice t x y =>
  split at hs
  case h_2 => cases hs
  rename_i u v hx hy
  split at hs
  case h_2 => cases hs
  rename_i q pr hq
  cases hs
  exact makes_value (sMakeSlice_sound (hF.eval hx) (hF.eval hy) hq hob w)
 case pick c x y =>
  split at hs
  case h_2 => cases hs
  rename_i b hc
  have hcv := hF.eval hc
  have hrun : (execOp a.eval ⟨dst, .pick c x y, type, pos, after, guard⟩).run P w = .ok (.value (if b then a.eval x else a.eval y)) w := by
   show ((asBool (a.eval c)) >>= fun t => pure (Next.value (if t then a.eval x else a.eval y))).run P w = _
   generalize a.eval c = C at hcv
   cases hcv
   rfl
  cases b with
  | true =>
   dsimp only at hs
   split at hs
   case h_2 => cases hs
   rename_i v hv
   cases hs
   exact ⟨_, hrun, hF.eval hv⟩
  | false =>
   dsimp only at hs
   split at hs
   case h_2 => cases hs
   rename_i v hv
   cases hs
   exact ⟨_, hrun, hF.eval hv⟩
 case lookup t x y c =>
  split at hs
  case h_2 => cases hs
  rename_i u v hx hy
  split at hs
  ·rename_i r0 hr
   cases hs
   obtain ⟨v', e, hv'⟩ := aLookup_sound h (hF.eval hx) (hF.eval hy) (sLook_eq hr)
   exact ⟨v', value_run e, hv'⟩
  ·exact base hs
 case call c =>
  split at hs
  ·rename_i v hv
   cases hs
   exact sTreeLen_sound hF rfl hv w
  ·split at hs
   ·rename_i r0 hr
    obtain ⟨v, h1, rfl⟩ := sval_eq hs
    cases h1
    exact sExt_sound hF rfl hr hob w
   ·exact base hs
theorem sBound_congr {ev ev' : Operand → Option Value} {d : Nat} {x : Option Operand} (h : ∀ y, x = some y → ev y = ev' y) : sBound ev d x = sBound ev' d x := by
 cases x with
 | none => rfl
 | some y => simp only [sBound, h y rfl]
theorem slight_congr {P : Program} {ev ev' : Operand → Option Value} {hp : Tr AObj} {o : Oper} (h : ∀ x ∈ o.op.operands, ev x = ev' x) : slight P hp o ev = slight P hp o ev' := by
 have hb : sbase P hp o ev = sbase P hp o ev' := by unfold sbase; rw [alight_congr h]
 have hsc : scalar P o ev = scalar P o ev' := scalar_congr h
 obtain ⟨dst, op, type, pos, after, guard⟩ := o
 unfold slight
 cases op <;> dsimp only <;> try exact hb
 case load t x => rw [h x (by simp [Op.operands]), hb]
 case indexAddr t x i => rw [h x (by simp [Op.operands]), h i (by simp [Op.operands])]
 case fieldAddr t x f => rw [h x (by simp [Op.operands]), hb]
 case nilCheck x => rw [h x (by simp [Op.operands]), hb]
 case typeAssert x xt y ok =>
  cases ok
  ·exact hb
  ·dsimp only
   rw [h x (by simp [Op.operands])]
 case makeFunc fn f c =>
  have : evL ev f.toList = evL ev' f.toList := evL_congr fun x hx => h x (by simp [Op.operands]; exact .inl (by simpa using hx))
  rw [this, hb]
 case slice t x lo hi mx =>
  cases mx with
  | some m => exact hb
  | none =>
   dsimp only
   have : ∀ v, sSlice P ev t v lo hi = sSlice P ev' t v lo hi := fun v => by
    unfold sSlice
    have b1 : ∀ d, sBound ev d hi = sBound ev' d hi := fun d => sBound_congr fun y hy => h y (by simp [Op.operands, hy])
    have b2 : ∀ d, sBound ev d lo = sBound ev' d lo := fun d => sBound_congr fun y hy => h y (by simp [Op.operands, hy])
    simp only [b1, b2]
   have this2 : ∀ v, sArr P hp ev t v lo hi = sArr P hp ev' t v lo hi := fun v => by
    unfold sArr
    have b1 : ∀ d, sBound ev d hi = sBound ev' d hi := fun d => sBound_congr fun y hy => h y (by simp [Op.operands, hy])
    have b2 : ∀ d, sBound ev d lo = sBound ev' d lo := fun d => sBound_congr fun y hy => h y (by simp [Op.operands, hy])
    simp only [b1, b2]
   rw [h x (by simp [Op.operands]), hb]
   simp only [this, this2]
 case index t x i => rw [h x (by simp [Op.operands]), h i (by simp [Op.operands]), hb]
 case binOp op t x y ty => rw [h x (by simp [Op.operands]), h y (by simp [Op.operands]), hsc]
 case convert src dst' x => rw [h x (by simp [Op.operands]), hb]
 case makeSlice t x y => rw [h x (by simp [Op.operands]), h y (by simp [Op.operands])]
 case pick c x y => rw [h c (by simp [Op.operands]), h x (by simp [Op.operands]), h y (by simp [Op.operands])]
 case lookup t x y c => rw [h x (by simp [Op.operands]), h y (by simp [Op.operands]), hb]
 case call c =>
  have : sTreeLen P c ev = sTreeLen P c ev' := by
   obtain ⟨callee, args, argTypes⟩ := c
   unfold sTreeLen
   dsimp only
   split
   ·rename_i t x hty har
    rw [h x (by
     have := Array.mem_of_getElem? har
     simp [Op.operands, Call.operands, this])]
   ·rfl
  have this2 : sExt P c ev = sExt P c ev' := sExt_congr fun x hx => h x (by simp [Op.operands, Call.operands, hx])
  rw [this, this2, hb]
theorem slight_still {P : Program} {ev : Operand → Option Value} {hp hp' : Tr AObj} {o : Oper} (h : isRead o ev = false) : slight P hp o ev = slight P hp' o ev := by
 have hb : sbase P hp o ev = sbase P hp' o ev := by unfold sbase; rw [alight_still h]
 obtain ⟨dst, op, type, pos, after, guard⟩ := o
 unfold slight
 cases op <;> dsimp only <;> try exact hb
 case load t x => cases h
 case lookup t x y c => cases h
 case fieldAddr t x f => rw [hb]
 case nilCheck x => rw [hb]
 case makeFunc fn f c => rw [hb]
 case typeAssert x xt y ok => cases ok <;> first | exact hb | rfl
 case slice t x lo hi mx =>
  cases mx with
  | some m => exact hb
  | none =>
   dsimp only
   split
   ·rename_i v hx
    split
    ·rfl
    ·split
     ·simp only [isRead, hx] at h
      cases h
     ·exact hb
   ·rfl
 case index t x i => rw [hb]
 case convert src dst' x =>
  split
  ·rename_i A n c hx
   simp only [isRead, hx] at h
   cases h
  ·rename_i fn els c hx
   have : sBytes P hp src dst' (.func fn els c) = sBytes P hp' src dst' (.func fn els c) := by
    unfold sBytes
    split
    ·split
     ·split
      ·rename_i heq; cases heq
      ·rfl
      ·rfl
     ·rfl
    ·rfl
   rw [this]
  ·exact hb
  ·rfl
 case call c => rw [hb]
def LOk (P : Program) (hp : Tr AObj) (o : Oper) (ev : Operand → Option Value) (r : LRes) : Prop := alight P hp o ev = some r ∨ ∃ ob, slight P hp o ev = some (r, ob) ∧ ob
theorem LOk.sound {P : Program} {ρ : Place} {W : Base} {hp : Tr AObj} {nx : Nat} {w : World} (h : Rel ρ W hp nx w) {ev : Operand → Option Value} {a : Act} (hF : ERel ρ ev a) {o : Oper} {r : LRes} (hs : LOk P hp o ev r) : LightRuns P ρ o a w r := by
 rcases hs with hs | ⟨ob, h1, h2⟩
 ·exact alight_sound h hF hs
 ·exact slight_sound h hF h1 h2
theorem LOk.congr {P : Program} {ev ev' : Operand → Option Value} {hp : Tr AObj} {o : Oper} {r : LRes} (h : ∀ x ∈ o.op.operands, ev x = ev' x) (hs : LOk P hp o ev r) : LOk P hp o ev' r := by
 unfold LOk at *
 rw [← alight_congr h, ← slight_congr h]
 exact hs
theorem LOk.still {P : Program} {ev : Operand → Option Value} {hp hp' : Tr AObj} {o : Oper} {r : LRes} (h : isRead o ev = false) (hs : LOk P hp o ev r) : LOk P hp' o ev r := by
 unfold LOk at *
 rw [← alight_still (hp := hp) h, ← slight_still (hp := hp) h]
 exact hs
end Go.Proofs.YtojlhapbngcjkaaGreatDoor
noncomputable section
namespace Go.Proofs.YtojlhapbngcjkaaGreatDoor
open Go Go.RowKit
def veqFlat : Value → Value → Bool
 | .bool a, .bool b => a == b
 | .int k n, .int k' n' => decide (k = k') && decide (n = n')
 | .string a, .string b => decide (a = b)
 | .pointer a, .pointer b => decide (a = b)
 | .slice a n c, .slice b m d => decide (a = b) && n.beq m && c.beq d
 | .nilIface, .nilIface | .nilFunc, .nilFunc => true
 | _, _ => false
def veqList : List Value → List Value → Bool
 | [], [] => true
 | x :: l, y :: m => veqFlat x y && veqList l m
 | _, _ => false
def veq : Value → Value → Bool
 | .agg a, .agg b => veqList a.toList b.toList
 | x, y => veqFlat x y
theorem veqFlat_eq {x y : Value} (h : veqFlat x y = true) : x = y := by
 unfold veqFlat at h
 split at h <;> simp only [Bool.and_eq_true, decide_eq_true_eq, beq_iff_eq, Bool.false_eq_true] at h <;> try (first | rfl | (subst h; rfl))
 ·obtain ⟨rfl, rfl⟩ := h; rfl
 ·obtain ⟨⟨rfl, h1⟩, h2⟩ := h
  rw [Nat.eq_of_beq_eq_true h1, Nat.eq_of_beq_eq_true h2]
theorem veqList_eq : ∀ {l m : List Value}, veqList l m = true → l = m
 | [], [], _ => rfl
 | [], _ :: _, h => by simp [veqList] at h
 | _ :: _, [], h => by simp [veqList] at h
 | x :: l, y :: m, h => by
  simp only [veqList, Bool.and_eq_true] at h
  rw [veqFlat_eq h.1, veqList_eq h.2]
theorem veq_eq {x y : Value} (h : veq x y = true) : x = y := by
 unfold veq at h
 split at h
 ·rw [Array.ext' (veqList_eq h)]
 ·exact veqFlat_eq h
structure Rd where
 i : Nat
 o : Oper
 tm : Tr Value
 v : Value
def stable (P : Program) (hp : Tr AObj) (r : Rd) : Bool :=
 match alight P hp r.o (aev r.tm) with
 | some (.val v) => veq r.v v
 | _ => false
def lightIdx (ops : Array Oper) (i : Nat) : Bool :=
 match ops[i]? with
 | some o => !isHeavy o.op
 | none => false
def drawOk (ops : Array Oper) : Bool :=
 (List.range ops.size).all fun i => (List.range ops.size).all fun j => match ops[i]?, ops[j]? with
  | some oi, some oj => (oi.after.all fun e => !Region.binds .any e || e.on.blt i) && (i == j || (match oj.dst with
   | some d => oi.dst != some d && (!(oi.looksAt ops).contains d || comesBefore ops j i || comesBefore ops i j)
   | none => true))
  | _, _ => true
theorem drawOk_edge {ops : Array Oper} (h : drawOk ops = true) {i : Nat} {o : Oper} (hi : ops[i]? = some o) {e : Edge} (he : e ∈ o.after) (hb : Region.binds .any e = true) : e.on < i := by
 have hlt := (Array.getElem?_eq_some_iff.1 hi).1
 unfold drawOk at h
 have h1 := List.all_eq_true.1 (List.all_eq_true.1 h i (by simpa using hlt)) i (by simpa using hlt)
 rw [hi] at h1
 simp only [Bool.and_eq_true] at h1
 have h2 := Array.all_eq_true_iff_forall_mem.1 h1.1 e he
 rw [hb] at h2
 simpa using h2
theorem drawOk_names {ops : Array Oper} (h : drawOk ops = true) {i j : Nat} {oi oj : Oper} (hi : ops[i]? = some oi) (hj : ops[j]? = some oj) (hne : i ≠ j) {d : Tmp} (hd : oj.dst = some d) :
  oi.dst ≠ some d ∧ (d ∈ oi.looksAt ops → comesBefore ops j i = true ∨ comesBefore ops i j = true) := by
 have h1 := List.all_eq_true.1 (List.all_eq_true.1 h i (by simpa using (Array.getElem?_eq_some_iff.1 hi).1)) j (by simpa using (Array.getElem?_eq_some_iff.1 hj).1)
 rw [hi, hj] at h1
 simp only [Bool.and_eq_true, Bool.or_eq_true, hd, beq_iff_eq, hne, false_or, bne_iff_ne, Bool.not_eq_true'] at h1
 refine ⟨h1.2.1, fun hm => ?_⟩
 rcases h1.2.2 with (h2 | h2) | h2
 ·rw [List.contains_iff_mem.2 hm] at h2; cases h2
 ·exact .inl h2
 ·exact .inr h2
def adraw (P : Program) (call : ACall) (ops : Array Oper) (n : Nat) : Nat → Array Bool → AS → List Rd → Option AS
 | 0, listed, st, _ => match Region.ready .any ops listed with
  | [] => some st
  | _ => none
 | f + 1, listed, st, rds => match Region.ready .any ops listed with
  | [] => some st
  | r :: rs => match (r :: rs).find? (lightIdx ops) with
   | some i => match ops[i]? with
    | some o => match awanted ops st.tm o with
     | some true => match alight P st.hp o (aev st.tm) with
      | some (.val v) => match aput n st.tm o.dst v with
       | some tm' => adraw P call ops n f (listed.setIfInBounds i true) ⟨tm', st.hp, st.nx⟩ (bif isRead o (aev st.tm) then ⟨i, o, st.tm, v⟩ :: rds else rds)
       | none => none
      | some (.new ob nv) => match aput n st.tm o.dst (nv.val st.nx) with
       | some tm' => bif isRead o (aev st.tm) then none else adraw P call ops n f (listed.setIfInBounds i true) ⟨tm', st.hp.put st.nx (some ob), st.nx + 1⟩ rds
       | none => none
      | none => none
     | some false => match aput n st.tm o.dst undef with
      | some tm' => adraw P call ops n f (listed.setIfInBounds i true) ⟨tm', st.hp, st.nx⟩ rds
      | none => none
     | none => none
    | none => none
   | none => match rs with
    | [] => match ops[r]? with
     | some o => match astep P call ops n st o with
      | some st' => bif rds.all (fun rd => comesBefore ops rd.i r || stable P st'.hp rd) then adraw P call ops n f (listed.setIfInBounds r true) st' rds else none
      | none => none
     | none => none
    | _ => none
abbrev In (L : Array Bool) (i : Nat) : Prop := L.getD i false = true
structure Info where
 T : Nat → Tr Value
 U : Nat → Value
 B : Nat → Option Nat
def PF (P : Program) (ops : Array Oper) (st0 st : AS) (ρ : Place) (I : Info) (j : Nat) (o : Oper) : Prop :=
 (awanted ops (I.T j) o = some false ∧ I.U j = undef ∧ I.B j = none) ∨
 (awanted ops (I.T j) o = some true ∧ LOk P st.hp o (aev (I.T j)) (.val (I.U j)) ∧ I.B j = none) ∨
 (awanted ops (I.T j) o = some true ∧ isRead o (aev (I.T j)) = false ∧ ∃ ob nv b, LOk P st.hp o (aev (I.T j)) (.new ob nv) ∧ I.U j = nv.val b ∧ I.B j = some b ∧ b < st.nx ∧ st0.nx ≤ b ∧ ρ b = none ∧ st.hp.get b = some ob)
def TC (ops : Array Oper) (st0 : AS) (I : Info) (j : Nat) (o : Oper) : Prop :=
 ∀ t ∈ o.looksAt ops, (∃ k ok, comesBefore ops k j = true ∧ ops[k]? = some ok ∧ ok.dst = some t ∧ (I.T j).get t = some (I.U k)) ∨
  ((∀ k ok, ops[k]? = some ok → ok.dst = some t → k ≠ j → comesBefore ops j k = true) ∧ (I.T j).get t = st0.tm.get t)
structure Inv (P : Program) (W : Base) (ops : Array Oper) (n : Nat) (st0 : AS) (ρ0 : Place) (C : Array Bool) (st : AS) (rds : List Rd) (I : Info) (L : Array Bool) (a : Act) (w : World) (ρ : Place) : Prop where
 cs : C.size = ops.size
 ls : L.size = ops.size
 cclosed : ∀ i, In C i → ∀ o, ops[i]? = some o → ∀ e ∈ o.after, Region.binds .any e = true → In C e.on
 lclosed : ∀ i, In L i → ∀ o, ops[i]? = some o → ∀ e ∈ o.after, Region.binds .any e = true → In L e.on
 sub : ∀ i, In L i → In C i
 tmC : ∀ j o t, In C j → ops[j]? = some o → o.dst = some t → st.tm.get t = some (I.U j)
 tm0 : ∀ t, (∀ j o, In C j → ops[j]? = some o → o.dst ≠ some t) → st.tm.get t = st0.tm.get t
 rel : Rel ρ W st.hp st.nx w
 size : a.tmps.size = n
 defers : a.defers = W.ds
 lv : ∀ j o t, In L j → ops[j]? = some o → o.dst = some t → t < n ∧ VR ρ (I.U j) (a.tmps.getD t undef)
 l0 : ∀ t v, (∀ j o, In L j → ops[j]? = some o → o.dst ≠ some t) → st0.tm.get t = some v → t < n ∧ VR ρ v (a.tmps.getD t undef)
 pend : ∀ j o, In C j → ¬ In L j → ops[j]? = some o → isHeavy o.op = false ∧ (∀ d, o.dst = some d → d < n) ∧ TC ops st0 I j o ∧ PF P ops st0 st ρ I j o
 bne : ∀ j k b, In C j → ¬ In L j → In C k → ¬ In L k → j ≠ k → I.B j = some b → I.B k ≠ some b
 step : Step ρ0 ρ st0.hp st.hp st0.nx st.nx
 rd : ∀ j o, In C j → ¬ In L j → ops[j]? = some o → awanted ops (I.T j) o = some true → isRead o (aev (I.T j)) = true → ⟨j, o, I.T j, I.U j⟩ ∈ rds
theorem in_set {L : Array Bool} {i j : Nat} (hi : i < L.size) : In (L.setIfInBounds i true) j ↔ j = i ∨ In L j := by
 unfold In
 by_cases h : i = j
 ·subst h; simp [hi]
 ·rw [getD_set_ne false h]
  constructor
  ·exact .inr
  ·rintro (h' | h')
   ·exact absurd h'.symm h
   ·exact h'
theorem unlisted {L : Array Bool} {i : Nat} (h : L.getD i true = false) : i < L.size ∧ ¬ In L i := by
 have hi : i < L.size := by
  rcases Nat.lt_or_ge i L.size with h' | h'
  ·exact h'
  ·simp [Array.getElem?_eq_none h'] at h
 refine ⟨hi, fun h' => ?_⟩
 simp [hi] at h h'
 rw [h] at h'
 cases h'
theorem unlisted_of {L : Array Bool} {i : Nat} (hi : i < L.size) (h : ¬ In L i) : L.getD i true = false := by
 simp [hi] at h ⊢
 exact h
theorem awanted_sound' {ρ : Place} {tm : Tr Value} {n : Nat} {a : Act} {ops : Array Oper} {o : Oper} {b : Bool} (hs : a.tmps.size = n) (hl : ∀ t ∈ o.looksAt ops, ∀ v, tm.get t = some v → t < n ∧ VR ρ v (a.tmps.getD t undef)) (h : awanted ops tm o = some b) :
  Region.wanted o (yielded ops a.tmps) = b := by
 unfold awanted at h
 unfold Region.wanted
 cases hg : o.guard with
 | none => rw [hg] at h; cases h; rfl
 | some p =>
  obtain ⟨j, want⟩ := p
  rw [hg] at h
  dsimp only at h ⊢
  unfold yielded
  cases hd : (ops[j]?).bind (·.dst) with
  | none => rw [hd] at h; cases h; rfl
  | some d =>
   rw [hd] at h
   dsimp only at h
   cases hv : tm.get d with
   | none => rw [hv] at h; cases h
   | some u =>
    rw [hv] at h
    have hs' := hl d (by unfold Oper.looksAt; rw [hg]; simp only [hd, List.mem_append]; exact .inr (by simp)) u hv
    have hlt : d < a.tmps.size := by rw [hs]; exact hs'.1
    have he : a.tmps[d]? = some (a.tmps.getD d undef) := by simp [hlt]
    have hu := hs'.2
    rw [Option.bind_some, he]
    generalize a.tmps.getD d undef = y at hu
    cases hu <;> simp only [Option.some.injEq] at h <;> subst h <;> first | rfl | simp
open Classical in
theorem erel_of_looks {ρ : Place} {tm : Tr Value} {n : Nat} {a : Act} {ops : Array Oper} {o : Oper} (hl : ∀ t ∈ o.looksAt ops, ∀ v, tm.get t = some v → t < n ∧ VR ρ v (a.tmps.getD t undef)) :
  ∃ ev', ERel ρ ev' a ∧ ∀ x ∈ o.op.operands, aev tm x = ev' x := by
 refine ⟨fun x => if x ∈ o.op.operands then aev tm x else none, fun x v hv => ?_, fun x hx => by simp [hx]⟩
 by_cases hx : x ∈ o.op.operands
 ·simp only [hx, if_true] at hv
  cases x with
  | tmp t => exact (hl t (by unfold Oper.looksAt; simp only [List.mem_append, List.mem_filterMap]; exact .inl ⟨.tmp t, by simpa using hx, rfl⟩) v hv).2
  | const u =>
   rw [aev_const] at hv
   cases hc : closed u with
   | true => rw [hc] at hv; cases hv; exact closed_refl hc
   | false => rw [hc] at hv; cases hv
  | global g => exact glob_ev hv a
  | func f => cases hv; exact .func _ rfl (by simp) rfl (by simp)
 ·simp [hx] at hv
section
variable {P : Program} {W : Base} {ops : Array Oper} {n : Nat} {st0 : AS} {ρ0 : Place} {C : Array Bool} {st : AS} {rds : List Rd} {I : Info} {L : Array Bool} {a : Act} {w : World} {ρ : Place}
theorem Inv.looks (h : Inv P W ops n st0 ρ0 C st rds I L a w ρ) {j : Nat} {o : Oper} (hj : ops[j]? = some o) (hn : ¬ In L j) (hr : ∀ e ∈ o.after, Region.binds .any e = true → In L e.on) (ht : TC ops st0 I j o) :
  ∀ t ∈ o.looksAt ops, ∀ v, (I.T j).get t = some v → t < n ∧ VR ρ v (a.tmps.getD t undef) := by
 intro t htm v hv
 rcases ht t htm with ⟨k, ok, h1, h2, h3, h4⟩ | ⟨h1, h2⟩
 ·rw [h4] at hv
  cases hv
  have hkL : In L k := closed_before h.lclosed j k h1 fun o' ho' e he hb => by rw [hj] at ho'; cases ho'; exact hr e he hb
  exact h.lv k ok t hkL h2 h3
 ·rw [h2] at hv
  refine h.l0 t v (fun k ok hk hok hdk => ?_) hv
  by_cases hkj : k = j
  ·subst hkj; exact hn hk
  ·exact hn (closed_before h.lclosed k j (h1 k ok hok hdk hkj) fun o' ho' e he hb => h.lclosed k hk o' ho' e he hb)
theorem Inv.exec (hD : drawOk ops = true) (h : Inv P W ops n st0 ρ0 C st rds I L a w ρ) {j : Nat} {o : Oper} (hj : ops[j]? = some o) (hjC : In C j) (hn : ¬ In L j) (hr : ∀ e ∈ o.after, Region.binds .any e = true → In L e.on)
  {v' : Value} {w' : World} {ρ' : Place} (hle : ρ.le ρ') (hrel : Rel ρ' W st.hp st.nx w') (hv : VR ρ' (I.U j) v') (hstep : Step ρ0 ρ' st0.hp st.hp st0.nx st.nx) (hb : ∀ b, I.B j ≠ some b → ρ b = none → ρ' b = none) :
  Inv P W ops n st0 ρ0 C st rds I (L.setIfInBounds j true) (a.put o.dst v') w' ρ' := by
 have hlt : j < L.size := by rw [h.ls]; exact (Array.getElem?_eq_some_iff.1 hj).1
 have hin : ∀ k, In (L.setIfInBounds j true) k ↔ k = j ∨ In L k := fun k => in_set hlt
 have hdn := (h.pend j o hjC hn hj).2.1
 have get_put : ∀ t, o.dst ≠ some t → (a.put o.dst v').tmps.getD t undef = a.tmps.getD t undef := fun t ht => by
  cases hd : o.dst with
  | none => rfl
  | some d =>
   have : d ≠ t := fun e => ht (by rw [hd, e])
   simp [Act.put, Array.getD_eq_getD_getElem?, Array.getElem?_setIfInBounds_ne this]
 refine ⟨h.cs, by simp [h.ls], h.cclosed, ?_, ?_, h.tmC, h.tm0, hrel, ?_, ?_, ?_, ?_, ?_, ?_, hstep, ?_⟩
 ·intro i hi o' ho' e he hbd
  rw [hin] at hi ⊢
  rcases hi with rfl | hi
  ·rw [hj] at ho'; cases ho'; exact .inr (hr e he hbd)
  ·exact .inr (h.lclosed i hi o' ho' e he hbd)
 ·intro i hi
  rw [hin] at hi
  rcases hi with rfl | hi
  ·exact hjC
  ·exact h.sub i hi
 ·cases hd : o.dst <;> simp [Act.put, h.size]
 ·cases hd : o.dst <;> simp [Act.put, h.defers]
 ·intro k ok t hk hok hdk
  rw [hin] at hk
  by_cases hkj : k = j
  ·subst hkj
   rw [hj] at hok
   cases hok
   refine ⟨hdn t hdk, ?_⟩
   rw [hdk]
   simpa [Act.put, Array.getD_eq_getD_getElem?, h.size, hdn t hdk] using hv
  ·have hkL := hk.resolve_left hkj
   have := h.lv k ok t hkL hok hdk
   rw [get_put t (drawOk_names hD hj hok (Ne.symm hkj) hdk).1]
   exact ⟨this.1, this.2.mono hle⟩
 ·intro t v hno hv0
  have hnj : o.dst ≠ some t := hno j o ((hin j).2 (.inl rfl)) hj
  have := h.l0 t v (fun k ok hk => hno k ok ((hin k).2 (.inr hk))) hv0
  rw [get_put t hnj]
  exact ⟨this.1, this.2.mono hle⟩
 ·intro k ok hk hkn hok
  have hkn' : ¬ In L k := fun h' => hkn ((hin k).2 (.inr h'))
  have hkj : k ≠ j := fun e => hkn ((hin k).2 (.inl e))
  obtain ⟨g1, g2, g3, g4⟩ := h.pend k ok hk hkn' hok
  refine ⟨g1, g2, g3, ?_⟩
  rcases g4 with g | g | ⟨g5, g6, ob, nv, b, g7, g8, g9, g10, g11, g12, g13⟩
  ·exact .inl g
  ·exact .inr (.inl g)
  ·exact .inr (.inr ⟨g5, g6, ob, nv, b, g7, g8, g9, g10, g11, hb b (fun e => h.bne j k b hjC hn hk hkn' (Ne.symm hkj) e g9) g12, g13⟩)
 ·intro i k b hi hin' hk hkn hik
  exact h.bne i k b hi (fun h' => hin' ((hin i).2 (.inr h'))) hk (fun h' => hkn ((hin k).2 (.inr h'))) hik
 ·intro k ok hk hkn
  exact h.rd k ok hk (fun h' => hkn ((hin k).2 (.inr h')))
theorem Inv.run (hD : drawOk ops = true) (h : Inv P W ops n st0 ρ0 C st rds I L a w ρ) {j : Nat} {o : Oper} (hj : ops[j]? = some o) (hjC : In C j) (hn : ¬ In L j) (hr : ∀ e ∈ o.after, Region.binds .any e = true → In L e.on)
  {Q : Exit → Act → World → Prop} : wpOp P ops Q j (fun a' w' => ∃ ρ', Inv P W ops n st0 ρ0 C st rds I (L.setIfInBounds j true) a' w' ρ') a w := by
 obtain ⟨g1, g2, g3, g4⟩ := h.pend j o hjC hn hj
 have hlk := h.looks hj hn hr g3
 obtain ⟨ev', he1, he2⟩ := erel_of_looks hlk
 unfold wpOp
 simp only [hj]
 rcases g4 with ⟨k1, k2, k3⟩ | ⟨k1, k2, k3⟩ | ⟨k1, k0, ob, nv, b, k2, k3, k4, k5, k6, k7, k8⟩
 ·rw [awanted_sound' h.size hlk k1, if_neg (by simp)]
  exact ⟨ρ, h.exec hD hj hjC hn hr (.refl ρ) h.rel (by rw [k2]; exact closed_refl (by simp [undef, closed])) h.step (fun _ _ h => h)⟩
 ·rw [awanted_sound' h.size hlk k1, if_pos rfl]
  replace k2 := k2.congr he2
  obtain ⟨v', r1, r2⟩ := LOk.sound h.rel he1 k2
  refine .inl ?_
  unfold Oper.wp
  rw [r1]
  exact ⟨ρ, h.exec hD hj hjC hn hr (.refl ρ) h.rel r2 h.step (fun _ _ h => h)⟩
 ·rw [awanted_sound' h.size hlk k1, if_pos rfl]
  replace k2 := k2.congr he2
  obtain ⟨v', ob', d, z, r1, r2, r3⟩ := LOk.sound h.rel he1 k2
  refine .inl ?_
  unfold Oper.wp
  rw [r1]
  have hrel := (h.rel.at_drawn d).realize (b := b) (z := z) (ob := ob') k5 k7 k8 (r2 _ h.rel.below.fresh)
  refine ⟨ρ.set b (w.heap.size, 0, z), h.exec hD hj hjC hn hr (Place.le_set k7) hrel (by rw [k3]; exact r3 _ _ (Place.set_same ρ b _)) ?_ (fun b' hb' hb0 => ?_)⟩
  ·refine ⟨h.step.le.trans (Place.le_set k7), h.step.more, fun b' hb' hr' => ?_⟩
   have := h.step.old b' hb' hr'
   exact ⟨by rw [Place.set_other (by omega)]; exact this.1, this.2⟩
  ·rw [Place.set_other (by intro e; subst e; exact hb' k4)]
   exact hb0
end
end Go.Proofs.YtojlhapbngcjkaaGreatDoor

