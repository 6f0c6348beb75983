/-
  Closed runs by evaluation, part 14: regions that draw their order: the evaluator and its invariant. Conditions: as each theorem states them.
-/
import Derived.Test.YtegjnjmimfgijaaGreatDoorSd
noncomputable section
namespace Go.Proofs.YtegjnjmimfgijaaGreatDoor
open Go Go.RowKit

def veqFlat : Value → Value → Bool
  | .bool a, .bool b => a == b
  | .int k n, .int k' n' => decide (k = k') && decide (n = n')
  | .string a, .string b => decide (a = b)
  | .pointer a, .pointer b => decide (a = b)
  | .slice a n c, .slice b m d => decide (a = b) && n.beq m && c.beq d
  | .nilIface, .nilIface | .nilFunc, .nilFunc => true
  | _, _ => false
def veqList : List Value → List Value → Bool
  | [], [] => true
  | x :: l, y :: m => veqFlat x y && veqList l m
  | _, _ => false
def veq : Value → Value → Bool
  | .agg a, .agg b => veqList a.toList b.toList
  | x, y => veqFlat x y
theorem veqFlat_eq {x y : Value} (h : veqFlat x y = true) : x = y := by
  unfold veqFlat at h
  split at h <;> simp only [Bool.and_eq_true, decide_eq_true_eq, beq_iff_eq, Bool.false_eq_true] at h <;> try (first | rfl | (subst h; rfl))
  · obtain ⟨rfl, rfl⟩ := h; rfl
  · obtain ⟨⟨rfl, h1⟩, h2⟩ := h
    rw [Nat.eq_of_beq_eq_true h1, Nat.eq_of_beq_eq_true h2]
theorem veqList_eq : ∀ {l m : List Value}, veqList l m = true → l = m
  | [], [], _ => rfl
  | [], _ :: _, h => by simp [veqList] at h
  | _ :: _, [], h => by simp [veqList] at h
  | x :: l, y :: m, h => by
    simp only [veqList, Bool.and_eq_true] at h
    rw [veqFlat_eq h.1, veqList_eq h.2]
theorem veq_eq {x y : Value} (h : veq x y = true) : x = y := by
  unfold veq at h
  split at h
  · rw [Array.ext' (veqList_eq h)]
  · exact veqFlat_eq h

structure Rd where
  i : Nat
  o : Oper
  tm : Tr Value
  v : Value
def stable (P : Program) (hp : Tr AObj) (r : Rd) : Bool :=
  match alight P hp r.o (aev r.tm) with
  | some (.val v) => veq r.v v
  | _ => false
def lightIdx (ops : Array Oper) (i : Nat) : Bool :=
  match ops[i]? with
  | some o => !isHeavy o.op
  | none => false
/-- What a region that draws must be like. -/
def drawOk (ops : Array Oper) : Bool :=
  (List.range ops.size).all fun i => (List.range ops.size).all fun j => match ops[i]?, ops[j]? with
    | some oi, some oj => (oi.after.all fun e => !Region.binds .any e || e.on.blt i) && (i == j || (match oj.dst with
      | some d => oi.dst != some d && (!(oi.looksAt ops).contains d || comesBefore ops j i || comesBefore ops i j)
      | none => true))
    | _, _ => true
theorem drawOk_edge {ops : Array Oper} (h : drawOk ops = true) {i : Nat} {o : Oper} (hi : ops[i]? = some o) {e : Edge} (he : e ∈ o.after) (hb : Region.binds .any e = true) : e.on < i := by
  have hlt := (Array.getElem?_eq_some_iff.1 hi).1
  unfold drawOk at h
  have h1 := List.all_eq_true.1 (List.all_eq_true.1 h i (by simpa using hlt)) i (by simpa using hlt)
  rw [hi] at h1
  simp only [Bool.and_eq_true] at h1
  have h2 := Array.all_eq_true_iff_forall_mem.1 h1.1 e he
  rw [hb] at h2
  simpa using h2
theorem drawOk_names {ops : Array Oper} (h : drawOk ops = true) {i j : Nat} {oi oj : Oper} (hi : ops[i]? = some oi) (hj : ops[j]? = some oj) (hne : i ≠ j) {d : Tmp} (hd : oj.dst = some d) :
    oi.dst ≠ some d ∧ (d ∈ oi.looksAt ops → comesBefore ops j i = true ∨ comesBefore ops i j = true) := by
  have h1 := List.all_eq_true.1 (List.all_eq_true.1 h i (by simpa using (Array.getElem?_eq_some_iff.1 hi).1)) j (by simpa using (Array.getElem?_eq_some_iff.1 hj).1)
  rw [hi, hj] at h1
  simp only [Bool.and_eq_true, Bool.or_eq_true, hd, beq_iff_eq, hne, false_or, bne_iff_ne, Bool.not_eq_true'] at h1
  refine ⟨h1.2.1, fun hm => ?_⟩
  rcases h1.2.2 with (h2 | h2) | h2
  · rw [List.contains_iff_mem.2 hm] at h2; cases h2
  · exact .inl h2
  · exact .inr h2
def adraw (P : Program) (call : ACall) (ops : Array Oper) (n : Nat) : Nat → Array Bool → AS → List Rd → Option AS
  | 0, listed, st, _ => match Region.ready .any ops listed with
    | [] => some st
    | _ => none
  | f + 1, listed, st, rds => match Region.ready .any ops listed with
    | [] => some st
    | r :: rs => match (r :: rs).find? (lightIdx ops) with
      | some i => match ops[i]? with
        | some o => match awanted ops st.tm o with
          | some true => match alight P st.hp o (aev st.tm) with
            | some (.val v) => match aput n st.tm o.dst v with
              | some tm' => adraw P call ops n f (listed.setIfInBounds i true) ⟨tm', st.hp, st.nx⟩ (bif isRead o (aev st.tm) then ⟨i, o, st.tm, v⟩ :: rds else rds)
              | none => none
            | some (.new ob nv) => match aput n st.tm o.dst (nv.val st.nx) with
              | some tm' => bif isRead o (aev st.tm) then none else adraw P call ops n f (listed.setIfInBounds i true) ⟨tm', st.hp.put st.nx (some ob), st.nx + 1⟩ rds
              | none => none
            | none => none
          | some false => match aput n st.tm o.dst undef with
            | some tm' => adraw P call ops n f (listed.setIfInBounds i true) ⟨tm', st.hp, st.nx⟩ rds
            | none => none
          | none => none
        | none => none
      | none => match rs with
        | [] => match ops[r]? with
          | some o => match astep P call ops n st o with
            | some st' => bif rds.all (fun rd => comesBefore ops rd.i r || stable P st'.hp rd) then adraw P call ops n f (listed.setIfInBounds r true) st' rds else none
            | none => none
          | none => none
        | _ => none

abbrev In (L : Array Bool) (i : Nat) : Prop := L.getD i false = true
structure Info where
  T : Nat → Tr Value
  U : Nat → Value
  B : Nat → Option Nat
/-- What an operation that was evaluated, and perhaps not run yet, has found. -/
def PF (P : Program) (ops : Array Oper) (st0 st : AS) (ρ : Place) (I : Info) (j : Nat) (o : Oper) : Prop :=
  (awanted ops (I.T j) o = some false ∧ I.U j = undef ∧ I.B j = none) ∨
  (awanted ops (I.T j) o = some true ∧ LOk P st.hp o (aev (I.T j)) (.val (I.U j)) ∧ I.B j = none) ∨
  (awanted ops (I.T j) o = some true ∧ isRead o (aev (I.T j)) = false ∧ ∃ ob nv b, LOk P st.hp o (aev (I.T j)) (.new ob nv) ∧ I.U j = nv.val b ∧ I.B j = some b ∧ b < st.nx ∧ st0.nx ≤ b ∧ ρ b = none ∧ st.hp.get b = some ob)
/-- Where its operands come from. -/
def TC (ops : Array Oper) (st0 : AS) (I : Info) (j : Nat) (o : Oper) : Prop :=
  ∀ t ∈ o.looksAt ops, (∃ k ok, comesBefore ops k j = true ∧ ops[k]? = some ok ∧ ok.dst = some t ∧ (I.T j).get t = some (I.U k)) ∨
    ((∀ k ok, ops[k]? = some ok → ok.dst = some t → k ≠ j → comesBefore ops j k = true) ∧ (I.T j).get t = st0.tm.get t)
structure Inv (P : Program) (W : Base) (ops : Array Oper) (n : Nat) (st0 : AS) (ρ0 : Place) (C : Array Bool) (st : AS) (rds : List Rd) (I : Info) (L : Array Bool) (a : Act) (w : World) (ρ : Place) : Prop where
  cs : C.size = ops.size
  ls : L.size = ops.size
  cclosed : ∀ i, In C i → ∀ o, ops[i]? = some o → ∀ e ∈ o.after, Region.binds .any e = true → In C e.on
  lclosed : ∀ i, In L i → ∀ o, ops[i]? = some o → ∀ e ∈ o.after, Region.binds .any e = true → In L e.on
  sub : ∀ i, In L i → In C i
  tmC : ∀ j o t, In C j → ops[j]? = some o → o.dst = some t → st.tm.get t = some (I.U j)
  tm0 : ∀ t, (∀ j o, In C j → ops[j]? = some o → o.dst ≠ some t) → st.tm.get t = st0.tm.get t
  rel : Rel ρ W st.hp st.nx w
  size : a.tmps.size = n
  defers : a.defers = W.ds
  lv : ∀ j o t, In L j → ops[j]? = some o → o.dst = some t → t < n ∧ VR ρ (I.U j) (a.tmps.getD t undef)
  l0 : ∀ t v, (∀ j o, In L j → ops[j]? = some o → o.dst ≠ some t) → st0.tm.get t = some v → t < n ∧ VR ρ v (a.tmps.getD t undef)
  pend : ∀ j o, In C j → ¬ In L j → ops[j]? = some o → isHeavy o.op = false ∧ (∀ d, o.dst = some d → d < n) ∧ TC ops st0 I j o ∧ PF P ops st0 st ρ I j o
  bne : ∀ j k b, In C j → ¬ In L j → In C k → ¬ In L k → j ≠ k → I.B j = some b → I.B k ≠ some b
  step : Step ρ0 ρ st0.hp st.hp st0.nx st.nx
  rd : ∀ j o, In C j → ¬ In L j → ops[j]? = some o → awanted ops (I.T j) o = some true → isRead o (aev (I.T j)) = true → ⟨j, o, I.T j, I.U j⟩ ∈ rds

theorem in_set {L : Array Bool} {i j : Nat} (hi : i < L.size) : In (L.setIfInBounds i true) j ↔ j = i ∨ In L j := by
  unfold In
  by_cases h : i = j
  · subst h; simp [hi]
  · rw [getD_set_ne false h]
    constructor
    · exact .inr
    · rintro (h' | h')
      · exact absurd h'.symm h
      · exact h'
theorem unlisted {L : Array Bool} {i : Nat} (h : L.getD i true = false) : i < L.size ∧ ¬ In L i := by
  have hi : i < L.size := by
    rcases Nat.lt_or_ge i L.size with h' | h'
    · exact h'
    · simp [Array.getElem?_eq_none h'] at h
  refine ⟨hi, fun h' => ?_⟩
  simp [hi] at h h'
  rw [h] at h'
  cases h'
theorem unlisted_of {L : Array Bool} {i : Nat} (hi : i < L.size) (h : ¬ In L i) : L.getD i true = false := by
  simp [hi] at h ⊢
  exact h

theorem awanted_sound' {ρ : Place} {tm : Tr Value} {n : Nat} {a : Act} {ops : Array Oper} {o : Oper} {b : Bool} (hs : a.tmps.size = n) (hl : ∀ t ∈ o.looksAt ops, ∀ v, tm.get t = some v → t < n ∧ VR ρ v (a.tmps.getD t undef)) (h : awanted ops tm o = some b) :
    Region.wanted o (yielded ops a.tmps) = b := by
  unfold awanted at h
  unfold Region.wanted
  cases hg : o.guard with
  | none => rw [hg] at h; cases h; rfl
  | some p =>
    obtain ⟨j, want⟩ := p
    rw [hg] at h
    dsimp only at h ⊢
    unfold yielded
    cases hd : (ops[j]?).bind (·.dst) with
    | none => rw [hd] at h; cases h; rfl
    | some d =>
      rw [hd] at h
      dsimp only at h
      cases hv : tm.get d with
      | none => rw [hv] at h; cases h
      | some u =>
        rw [hv] at h
        have hs' := hl d (by unfold Oper.looksAt; rw [hg]; simp only [hd, List.mem_append]; exact .inr (by simp)) u hv
        have hlt : d < a.tmps.size := by rw [hs]; exact hs'.1
        have he : a.tmps[d]? = some (a.tmps.getD d undef) := by simp [hlt]
        have hu := hs'.2
        rw [Option.bind_some, he]
        generalize a.tmps.getD d undef = y at hu
        cases hu <;> simp only [Option.some.injEq] at h <;> subst h <;> first | rfl | simp
open Classical in
/-- The operands, read off the frame. -/
theorem erel_of_looks {ρ : Place} {tm : Tr Value} {n : Nat} {a : Act} {ops : Array Oper} {o : Oper} (hl : ∀ t ∈ o.looksAt ops, ∀ v, tm.get t = some v → t < n ∧ VR ρ v (a.tmps.getD t undef)) :
    ∃ ev', ERel ρ ev' a ∧ ∀ x ∈ o.op.operands, aev tm x = ev' x := by
  refine ⟨fun x => if x ∈ o.op.operands then aev tm x else none, fun x v hv => ?_, fun x hx => by simp [hx]⟩
  by_cases hx : x ∈ o.op.operands
  · simp only [hx, if_true] at hv
    cases x with
    | tmp t => exact (hl t (by unfold Oper.looksAt; simp only [List.mem_append, List.mem_filterMap]; exact .inl ⟨.tmp t, by simpa using hx, rfl⟩) v hv).2
    | const u =>
      rw [aev_const] at hv
      cases hc : closed u with
      | true => rw [hc] at hv; cases hv; exact closed_refl hc
      | false => rw [hc] at hv; cases hv
    | global g => exact glob_ev hv a
    | func f => cases hv; exact .func _ rfl (by simp) rfl (by simp)
  · simp [hx] at hv

section
variable {P : Program} {W : Base} {ops : Array Oper} {n : Nat} {st0 : AS} {ρ0 : Place} {C : Array Bool} {st : AS} {rds : List Rd} {I : Info} {L : Array Bool} {a : Act} {w : World} {ρ : Place}
/-- The operands of an operation that was evaluated and may run now. -/
theorem Inv.looks (h : Inv P W ops n st0 ρ0 C st rds I L a w ρ) {j : Nat} {o : Oper} (hj : ops[j]? = some o) (hn : ¬ In L j) (hr : ∀ e ∈ o.after, Region.binds .any e = true → In L e.on) (ht : TC ops st0 I j o) :
    ∀ t ∈ o.looksAt ops, ∀ v, (I.T j).get t = some v → t < n ∧ VR ρ v (a.tmps.getD t undef) := by
  intro t htm v hv
  rcases ht t htm with ⟨k, ok, h1, h2, h3, h4⟩ | ⟨h1, h2⟩
  · rw [h4] at hv
    cases hv
    have hkL : In L k := closed_before h.lclosed j k h1 fun o' ho' e he hb => by rw [hj] at ho'; cases ho'; exact hr e he hb
    exact h.lv k ok t hkL h2 h3
  · rw [h2] at hv
    refine h.l0 t v (fun k ok hk hok hdk => ?_) hv
    by_cases hkj : k = j
    · subst hkj; exact hn hk
    · exact hn (closed_before h.lclosed k j (h1 k ok hok hdk hkj) fun o' ho' e he hb => h.lclosed k hk o' ho' e he hb)
/-- An operation that was evaluated has run. -/
theorem Inv.exec (hD : drawOk ops = true) (h : Inv P W ops n st0 ρ0 C st rds I L a w ρ) {j : Nat} {o : Oper} (hj : ops[j]? = some o) (hjC : In C j) (hn : ¬ In L j) (hr : ∀ e ∈ o.after, Region.binds .any e = true → In L e.on)
    {v' : Value} {w' : World} {ρ' : Place} (hle : ρ.le ρ') (hrel : Rel ρ' W st.hp st.nx w') (hv : VR ρ' (I.U j) v') (hstep : Step ρ0 ρ' st0.hp st.hp st0.nx st.nx) (hb : ∀ b, I.B j ≠ some b → ρ b = none → ρ' b = none) :
    Inv P W ops n st0 ρ0 C st rds I (L.setIfInBounds j true) (a.put o.dst v') w' ρ' := by
  have hlt : j < L.size := by rw [h.ls]; exact (Array.getElem?_eq_some_iff.1 hj).1
  have hin : ∀ k, In (L.setIfInBounds j true) k ↔ k = j ∨ In L k := fun k => in_set hlt
  have hdn := (h.pend j o hjC hn hj).2.1
  have get_put : ∀ t, o.dst ≠ some t → (a.put o.dst v').tmps.getD t undef = a.tmps.getD t undef := fun t ht => by
    cases hd : o.dst with
    | none => rfl
    | some d =>
      have : d ≠ t := fun e => ht (by rw [hd, e])
      simp [Act.put, Array.getD_eq_getD_getElem?, Array.getElem?_setIfInBounds_ne this]
  refine ⟨h.cs, by simp [h.ls], h.cclosed, ?_, ?_, h.tmC, h.tm0, hrel, ?_, ?_, ?_, ?_, ?_, ?_, hstep, ?_⟩
  · intro i hi o' ho' e he hbd
    rw [hin] at hi ⊢
    rcases hi with rfl | hi
    · rw [hj] at ho'; cases ho'; exact .inr (hr e he hbd)
    · exact .inr (h.lclosed i hi o' ho' e he hbd)
  · intro i hi
    rw [hin] at hi
    rcases hi with rfl | hi
    · exact hjC
    · exact h.sub i hi
  · cases hd : o.dst <;> simp [Act.put, h.size]
  · cases hd : o.dst <;> simp [Act.put, h.defers]
  · intro k ok t hk hok hdk
    rw [hin] at hk
    by_cases hkj : k = j
    · subst hkj
      rw [hj] at hok
      cases hok
      refine ⟨hdn t hdk, ?_⟩
      rw [hdk]
      simpa [Act.put, Array.getD_eq_getD_getElem?, h.size, hdn t hdk] using hv
    · have hkL := hk.resolve_left hkj
      have := h.lv k ok t hkL hok hdk
      rw [get_put t (drawOk_names hD hj hok (Ne.symm hkj) hdk).1]
      exact ⟨this.1, this.2.mono hle⟩
  · intro t v hno hv0
    have hnj : o.dst ≠ some t := hno j o ((hin j).2 (.inl rfl)) hj
    have := h.l0 t v (fun k ok hk => hno k ok ((hin k).2 (.inr hk))) hv0
    rw [get_put t hnj]
    exact ⟨this.1, this.2.mono hle⟩
  · intro k ok hk hkn hok
    have hkn' : ¬ In L k := fun h' => hkn ((hin k).2 (.inr h'))
    have hkj : k ≠ j := fun e => hkn ((hin k).2 (.inl e))
    obtain ⟨g1, g2, g3, g4⟩ := h.pend k ok hk hkn' hok
    refine ⟨g1, g2, g3, ?_⟩
    rcases g4 with g | g | ⟨g5, g6, ob, nv, b, g7, g8, g9, g10, g11, g12, g13⟩
    · exact .inl g
    · exact .inr (.inl g)
    · exact .inr (.inr ⟨g5, g6, ob, nv, b, g7, g8, g9, g10, g11, hb b (fun e => h.bne j k b hjC hn hk hkn' (Ne.symm hkj) e g9) g12, g13⟩)
  · intro i k b hi hin' hk hkn hik
    exact h.bne i k b hi (fun h' => hin' ((hin i).2 (.inr h'))) hk (fun h' => hkn ((hin k).2 (.inr h'))) hik
  · intro k ok hk hkn
    exact h.rd k ok hk (fun h' => hkn ((hin k).2 (.inr h')))
/-- An operation that was evaluated comes up. -/
theorem Inv.run (hD : drawOk ops = true) (h : Inv P W ops n st0 ρ0 C st rds I L a w ρ) {j : Nat} {o : Oper} (hj : ops[j]? = some o) (hjC : In C j) (hn : ¬ In L j) (hr : ∀ e ∈ o.after, Region.binds .any e = true → In L e.on)
    {Q : Exit → Act → World → Prop} : wpOp P ops Q j (fun a' w' => ∃ ρ', Inv P W ops n st0 ρ0 C st rds I (L.setIfInBounds j true) a' w' ρ') a w := by
  obtain ⟨g1, g2, g3, g4⟩ := h.pend j o hjC hn hj
  have hlk := h.looks hj hn hr g3
  obtain ⟨ev', he1, he2⟩ := erel_of_looks hlk
  unfold wpOp
  simp only [hj]
  rcases g4 with ⟨k1, k2, k3⟩ | ⟨k1, k2, k3⟩ | ⟨k1, k0, ob, nv, b, k2, k3, k4, k5, k6, k7, k8⟩
  · rw [awanted_sound' h.size hlk k1, if_neg (by simp)]
    exact ⟨ρ, h.exec hD hj hjC hn hr (.refl ρ) h.rel (by rw [k2]; exact closed_refl (by simp [undef, closed])) h.step (fun _ _ h => h)⟩
  · rw [awanted_sound' h.size hlk k1, if_pos rfl]
    replace k2 := k2.congr he2
    obtain ⟨v', r1, r2⟩ := LOk.sound h.rel he1 k2
    refine .inl ?_
    unfold Oper.wp
    rw [r1]
    exact ⟨ρ, h.exec hD hj hjC hn hr (.refl ρ) h.rel r2 h.step (fun _ _ h => h)⟩
  · rw [awanted_sound' h.size hlk k1, if_pos rfl]
    replace k2 := k2.congr he2
    obtain ⟨v', ob', d, z, r1, r2, r3⟩ := LOk.sound h.rel he1 k2
    refine .inl ?_
    unfold Oper.wp
    rw [r1]
    have hrel := (h.rel.at_drawn d).realize (b := b) (z := z) (ob := ob') k5 k7 k8 (r2 _ h.rel.below.fresh)
    refine ⟨ρ.set b (w.heap.size, 0, z), h.exec hD hj hjC hn hr (Place.le_set k7) hrel (by rw [k3]; exact r3 _ _ (Place.set_same ρ b _)) ?_ (fun b' hb' hb0 => ?_)⟩
    · refine ⟨h.step.le.trans (Place.le_set k7), h.step.more, fun b' hb' hr' => ?_⟩
      have := h.step.old b' hb' hr'
      exact ⟨by rw [Place.set_other (by omega)]; exact this.1, this.2⟩
    · rw [Place.set_other (by intro e; subst e; exact hb' k4)]
      exact hb0
end
end Go.Proofs.YtegjnjmimfgijaaGreatDoor
