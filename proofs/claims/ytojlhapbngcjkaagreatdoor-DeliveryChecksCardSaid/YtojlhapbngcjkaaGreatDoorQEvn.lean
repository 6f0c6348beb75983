/-
  Put together out of several texts, each in its own namespace's block. Conditions: as each theorem states them.
-/
import Derived.Test.YtojlhapbngcjkaaGreatDoorQSa
import Derived.Scope
noncomputable section
namespace Go.Proofs.YtojlhapbngcjkaaGreatDoor
open Go Go.RowKit
def veqFlat : Value → Value → Bool
 | .bool a, .bool b => a == b
 | .int k n, .int k' n' => decide (k = k') && decide (n = n')
 | .string a, .string b => decide (a = b)
 | .pointer a, .pointer b => decide (a = b)
 | .slice a n c, .slice b m d => decide (a = b) && n.beq m && c.beq d
 | .nilIface, .nilIface | .nilFunc, .nilFunc => true
 | _, _ => false
def veqList : List Value → List Value → Bool
 | [], [] => true
 | x :: l, y :: m => veqFlat x y && veqList l m
 | _, _ => false
def veq : Value → Value → Bool
 | .agg a, .agg b => veqList a.toList b.toList
 | x, y => veqFlat x y
theorem veqFlat_eq {x y : Value} (h : veqFlat x y = true) : x = y := by
 unfold veqFlat at h
 split at h <;> simp only [Bool.and_eq_true, decide_eq_true_eq, beq_iff_eq, Bool.false_eq_true] at h <;> try (first | rfl | (subst h; rfl))
 ·obtain ⟨rfl, rfl⟩ := h; rfl
 ·obtain ⟨⟨rfl, h1⟩, h2⟩ := h
  rw [Nat.eq_of_beq_eq_true h1, Nat.eq_of_beq_eq_true h2]
theorem veqList_eq : ∀ {l m : List Value}, veqList l m = true → l = m
 | [], [], _ => rfl
 | [], _ :: _, h => by simp [veqList] at h
 | _ :: _, [], h => by simp [veqList] at h
 | x :: l, y :: m, h => by
  simp only [veqList, Bool.and_eq_true] at h
  rw [veqFlat_eq h.1, veqList_eq h.2]
theorem veq_eq {x y : Value} (h : veq x y = true) : x = y := by
 unfold veq at h
 split at h
 ·rw [Array.ext' (veqList_eq h)]
 ·exact veqFlat_eq h
structure Rd where
 i : Nat
 o : Oper
 tm : Tr Value
 v : Value
def stable (P : Program) (hp : Tr AObj) (r : Rd) : Bool :=
 match alight P hp r.o (aev r.tm) with
 | some (.val v) => veq r.v v
 | _ => false
def lightIdx (ops : Array Oper) (i : Nat) : Bool :=
 match ops[i]? with
 | some o => !isHeavy o.op
 | none => false
def drawOk (ops : Array Oper) : Bool :=
 (List.range ops.size).all fun i => (List.range ops.size).all fun j => match ops[i]?, ops[j]? with
  | some oi, some oj => (oi.after.all fun e => !Region.binds .any e || e.on.blt i) && (i == j || (match oj.dst with
   | some d => oi.dst != some d && (!(oi.looksAt ops).contains d || comesBefore ops j i || comesBefore ops i j)
   | none => true))
  | _, _ => true
theorem drawOk_edge {ops : Array Oper} (h : drawOk ops = true) {i : Nat} {o : Oper} (hi : ops[i]? = some o) {e : Edge} (he : e ∈ o.after) (hb : Region.binds .any e = true) : e.on < i := by
 have hlt := (Array.getElem?_eq_some_iff.1 hi).1
 unfold drawOk at h
 have h1 := List.all_eq_true.1 (List.all_eq_true.1 h i (by simpa using hlt)) i (by simpa using hlt)
 rw [hi] at h1
 simp only [Bool.and_eq_true] at h1
 have h2 := Array.all_eq_true_iff_forall_mem.1 h1.1 e he
 rw [hb] at h2
 simpa using h2
theorem drawOk_names {ops : Array Oper} (h : drawOk ops = true) {i j : Nat} {oi oj : Oper} (hi : ops[i]? = some oi) (hj : ops[j]? = some oj) (hne : i ≠ j) {d : Tmp} (hd : oj.dst = some d) :
  oi.dst ≠ some d ∧ (d ∈ oi.looksAt ops → comesBefore ops j i = true ∨ comesBefore ops i j = true) := by
 have h1 := List.all_eq_true.1 (List.all_eq_true.1 h i (by simpa using (Array.getElem?_eq_some_iff.1 hi).1)) j (by simpa using (Array.getElem?_eq_some_iff.1 hj).1)
 rw [hi, hj] at h1
 simp only [Bool.and_eq_true, Bool.or_eq_true, hd, beq_iff_eq, hne, false_or, bne_iff_ne, Bool.not_eq_true'] at h1
 refine ⟨h1.2.1, fun hm => ?_⟩
 rcases h1.2.2 with (h2 | h2) | h2
 ·rw [List.contains_iff_mem.2 hm] at h2; cases h2
 ·exact .inl h2
 ·exact .inr h2
def adraw (P : Program) (call : ACall) (ops : Array Oper) (n : Nat) : Nat → Array Bool → AS → List Rd → Option AS
 | 0, listed, st, _ => match Region.ready .any ops listed with
  | [] => some st
  | _ => none
 | f + 1, listed, st, rds => match Region.ready .any ops listed with
  | [] => some st
  | r :: rs => match (r :: rs).find? (lightIdx ops) with
   | some i => match ops[i]? with
    | some o => match awanted ops st.tm o with
     | some true => match alight P st.hp o (aev st.tm) with
      | some (.val v) => match aput n st.tm o.dst v with
       | some tm' => adraw P call ops n f (listed.setIfInBounds i true) ⟨tm', st.hp, st.nx⟩ (bif isRead o (aev st.tm) then ⟨i, o, st.tm, v⟩ :: rds else rds)
       | none => none
      | some (.new ob nv) => match aput n st.tm o.dst (nv.val st.nx) with
       | some tm' => bif isRead o (aev st.tm) then none else adraw P call ops n f (listed.setIfInBounds i true) ⟨tm', st.hp.put st.nx (some ob), st.nx + 1⟩ rds
       | none => none
      | none => none
     | some false => match aput n st.tm o.dst undef with
      | some tm' => adraw P call ops n f (listed.setIfInBounds i true) ⟨tm', st.hp, st.nx⟩ rds
      | none => none
     | none => none
    | none => none
   | none => match rs with
    | [] => match ops[r]? with
     | some o => match astep P call ops n st o with
      | some st' => bif rds.all (fun rd => comesBefore ops rd.i r || stable P st'.hp rd) then adraw P call ops n f (listed.setIfInBounds r true) st' rds else none
      | none => none
     | none => none
    | _ => none
abbrev In (L : Array Bool) (i : Nat) : Prop := L.getD i false = true
structure Info where
 T : Nat → Tr Value
 U : Nat → Value
 B : Nat → Option Nat
def PF (P : Program) (ops : Array Oper) (st0 st : AS) (ρ : Place) (I : Info) (j : Nat) (o : Oper) : Prop :=
 (awanted ops (I.T j) o = some false ∧ I.U j = undef ∧ I.B j = none) ∨
 (awanted ops (I.T j) o = some true ∧ LOk P st.hp o (aev (I.T j)) (.val (I.U j)) ∧ I.B j = none) ∨
 (awanted ops (I.T j) o = some true ∧ isRead o (aev (I.T j)) = false ∧ ∃ ob nv b, LOk P st.hp o (aev (I.T j)) (.new ob nv) ∧ I.U j = nv.val b ∧ I.B j = some b ∧ b < st.nx ∧ st0.nx ≤ b ∧ ρ b = none ∧ st.hp.get b = some ob)
def TC (ops : Array Oper) (st0 : AS) (I : Info) (j : Nat) (o : Oper) : Prop :=
 ∀ t ∈ o.looksAt ops, (∃ k ok, comesBefore ops k j = true ∧ ops[k]? = some ok ∧ ok.dst = some t ∧ (I.T j).get t = some (I.U k)) ∨
  ((∀ k ok, ops[k]? = some ok → ok.dst = some t → k ≠ j → comesBefore ops j k = true) ∧ (I.T j).get t = st0.tm.get t)
structure Inv (P : Program) (W : Base) (ops : Array Oper) (n : Nat) (st0 : AS) (ρ0 : Place) (C : Array Bool) (st : AS) (rds : List Rd) (I : Info) (L : Array Bool) (a : Act) (w : World) (ρ : Place) : Prop where
 cs : C.size = ops.size
 ls : L.size = ops.size
 cclosed : ∀ i, In C i → ∀ o, ops[i]? = some o → ∀ e ∈ o.after, Region.binds .any e = true → In C e.on
 lclosed : ∀ i, In L i → ∀ o, ops[i]? = some o → ∀ e ∈ o.after, Region.binds .any e = true → In L e.on
 sub : ∀ i, In L i → In C i
 tmC : ∀ j o t, In C j → ops[j]? = some o → o.dst = some t → st.tm.get t = some (I.U j)
 tm0 : ∀ t, (∀ j o, In C j → ops[j]? = some o → o.dst ≠ some t) → st.tm.get t = st0.tm.get t
 rel : Rel ρ W st.hp st.nx w
 size : a.tmps.size = n
 defers : a.defers = W.ds
 lv : ∀ j o t, In L j → ops[j]? = some o → o.dst = some t → t < n ∧ VR ρ (I.U j) (a.tmps.getD t undef)
 l0 : ∀ t v, (∀ j o, In L j → ops[j]? = some o → o.dst ≠ some t) → st0.tm.get t = some v → t < n ∧ VR ρ v (a.tmps.getD t undef)
 pend : ∀ j o, In C j → ¬ In L j → ops[j]? = some o → isHeavy o.op = false ∧ (∀ d, o.dst = some d → d < n) ∧ TC ops st0 I j o ∧ PF P ops st0 st ρ I j o
 bne : ∀ j k b, In C j → ¬ In L j → In C k → ¬ In L k → j ≠ k → I.B j = some b → I.B k ≠ some b
 step : Step ρ0 ρ st0.hp st.hp st0.nx st.nx
 rd : ∀ j o, In C j → ¬ In L j → ops[j]? = some o → awanted ops (I.T j) o = some true → isRead o (aev (I.T j)) = true → ⟨j, o, I.T j, I.U j⟩ ∈ rds
theorem in_set {L : Array Bool} {i j : Nat} (hi : i < L.size) : In (L.setIfInBounds i true) j ↔ j = i ∨ In L j := by
 unfold In
 by_cases h : i = j
 ·subst h; simp [hi]
 ·rw [getD_set_ne false h]
  constructor
  ·exact .inr
  ·rintro (h' | h')
   ·exact absurd h'.symm h
   ·exact h'
theorem unlisted {L : Array Bool} {i : Nat} (h : L.getD i true = false) : i < L.size ∧ ¬ In L i := by
 have hi : i < L.size := by
  rcases Nat.lt_or_ge i L.size with h' | h'
  ·exact h'
  ·simp [Array.getElem?_eq_none h'] at h
 refine ⟨hi, fun h' => ?_⟩
 simp [hi] at h h'
 rw [h] at h'
 cases h'
theorem unlisted_of {L : Array Bool} {i : Nat} (hi : i < L.size) (h : ¬ In L i) : L.getD i true = false := by
 simp [hi] at h ⊢
 exact h
theorem awanted_sound' {ρ : Place} {tm : Tr Value} {n : Nat} {a : Act} {ops : Array Oper} {o : Oper} {b : Bool} (hs : a.tmps.size = n) (hl : ∀ t ∈ o.looksAt ops, ∀ v, tm.get t = some v → t < n ∧ VR ρ v (a.tmps.getD t undef)) (h : awanted ops tm o = some b) :
  Region.wanted o (yielded ops a.tmps) = b := by
 unfold awanted at h
 unfold Region.wanted
 cases hg : o.guard with
 | none => rw [hg] at h; cases h; rfl
 | some p =>
  obtain ⟨j, want⟩ := p
  rw [hg] at h
  dsimp only at h ⊢
  unfold yielded
  cases hd : (ops[j]?).bind (·.dst) with
  | none => rw [hd] at h; cases h; rfl
  | some d =>
   rw [hd] at h
   dsimp only at h
   cases hv : tm.get d with
   | none => rw [hv] at h; cases h
   | some u =>
    rw [hv] at h
    have hs' := hl d (by unfold Oper.looksAt; rw [hg]; simp only [hd, List.mem_append]; exact .inr (by simp)) u hv
    have hlt : d < a.tmps.size := by rw [hs]; exact hs'.1
    have he : a.tmps[d]? = some (a.tmps.getD d undef) := by simp [hlt]
    have hu := hs'.2
    rw [Option.bind_some, he]
    generalize a.tmps.getD d undef = y at hu
    cases hu <;> simp only [Option.some.injEq] at h <;> subst h <;> first | rfl | simp
open Classical in
theorem erel_of_looks {ρ : Place} {tm : Tr Value} {n : Nat} {a : Act} {ops : Array Oper} {o : Oper} (hl : ∀ t ∈ o.looksAt ops, ∀ v, tm.get t = some v → t < n ∧ VR ρ v (a.tmps.getD t undef)) :
  ∃ ev', ERel ρ ev' a ∧ ∀ x ∈ o.op.operands, aev tm x = ev' x := by
 refine ⟨fun x => if x ∈ o.op.operands then aev tm x else none, fun x v hv => ?_, fun x hx => by simp [hx]⟩
 by_cases hx : x ∈ o.op.operands
 ·simp only [hx, if_true] at hv
  cases x with
  | tmp t => exact (hl t (by unfold Oper.looksAt; simp only [List.mem_append, List.mem_filterMap]; exact .inl ⟨.tmp t, by simpa using hx, rfl⟩) v hv).2
  | const u =>
   rw [aev_const] at hv
   cases hc : closed u with
   | true => rw [hc] at hv; cases hv; exact closed_refl hc
   | false => rw [hc] at hv; cases hv
  | global g => exact glob_ev hv a
  | func f => cases hv; exact .func _ rfl (by simp) rfl (by simp)
 ·simp [hx] at hv
section
variable {P : Program} {W : Base} {ops : Array Oper} {n : Nat} {st0 : AS} {ρ0 : Place} {C : Array Bool} {st : AS} {rds : List Rd} {I : Info} {L : Array Bool} {a : Act} {w : World} {ρ : Place}
theorem Inv.looks (h : Inv P W ops n st0 ρ0 C st rds I L a w ρ) {j : Nat} {o : Oper} (hj : ops[j]? = some o) (hn : ¬ In L j) (hr : ∀ e ∈ o.after, Region.binds .any e = true → In L e.on) (ht : TC ops st0 I j o) :
  ∀ t ∈ o.looksAt ops, ∀ v, (I.T j).get t = some v → t < n ∧ VR ρ v (a.tmps.getD t undef) := by
 intro t htm v hv
 rcases ht t htm with ⟨k, ok, h1, h2, h3, h4⟩ | ⟨h1, h2⟩
 ·rw [h4] at hv
  cases hv
  have hkL : In L k := closed_before h.lclosed j k h1 fun o' ho' e he hb => by rw [hj] at ho'; cases ho'; exact hr e he hb
  exact h.lv k ok t hkL h2 h3
 ·rw [h2] at hv
  refine h.l0 t v (fun k ok hk hok hdk => ?_) hv
  by_cases hkj : k = j
  ·subst hkj; exact hn hk
  ·exact hn (closed_before h.lclosed k j (h1 k ok hok hdk hkj) fun o' ho' e he hb => h.lclosed k hk o' ho' e he hb)
theorem Inv.exec (hD : drawOk ops = true) (h : Inv P W ops n st0 ρ0 C st rds I L a w ρ) {j : Nat} {o : Oper} (hj : ops[j]? = some o) (hjC : In C j) (hn : ¬ In L j) (hr : ∀ e ∈ o.after, Region.binds .any e = true → In L e.on)
  {v' : Value} {w' : World} {ρ' : Place} (hle : ρ.le ρ') (hrel : Rel ρ' W st.hp st.nx w') (hv : VR ρ' (I.U j) v') (hstep : Step ρ0 ρ' st0.hp st.hp st0.nx st.nx) (hb : ∀ b, I.B j ≠ some b → ρ b = none → ρ' b = none) :
  Inv P W ops n st0 ρ0 C st rds I (L.setIfInBounds j true) (a.put o.dst v') w' ρ' := by
 have hlt : j < L.size := by rw [h.ls]; exact (Array.getElem?_eq_some_iff.1 hj).1
 have hin : ∀ k, In (L.setIfInBounds j true) k ↔ k = j ∨ In L k := fun k => in_set hlt
 have hdn := (h.pend j o hjC hn hj).2.1
 have get_put : ∀ t, o.dst ≠ some t → (a.put o.dst v').tmps.getD t undef = a.tmps.getD t undef := fun t ht => by
  cases hd : o.dst with
  | none => rfl
  | some d =>
   have : d ≠ t := fun e => ht (by rw [hd, e])
   simp [Act.put, Array.getD_eq_getD_getElem?, Array.getElem?_setIfInBounds_ne this]
 refine ⟨h.cs, by simp [h.ls], h.cclosed, ?_, ?_, h.tmC, h.tm0, hrel, ?_, ?_, ?_, ?_, ?_, ?_, hstep, ?_⟩
 ·intro i hi o' ho' e he hbd
  rw [hin] at hi ⊢
  rcases hi with rfl | hi
  ·rw [hj] at ho'; cases ho'; exact .inr (hr e he hbd)
  ·exact .inr (h.lclosed i hi o' ho' e he hbd)
 ·intro i hi
  rw [hin] at hi
  rcases hi with rfl | hi
  ·exact hjC
  ·exact h.sub i hi
 ·cases hd : o.dst <;> simp [Act.put, h.size]
 ·cases hd : o.dst <;> simp [Act.put, h.defers]
 ·intro k ok t hk hok hdk
  rw [hin] at hk
  by_cases hkj : k = j
  ·subst hkj
   rw [hj] at hok
   cases hok
   refine ⟨hdn t hdk, ?_⟩
   rw [hdk]
   simpa [Act.put, Array.getD_eq_getD_getElem?, h.size, hdn t hdk] using hv
  ·have hkL := hk.resolve_left hkj
   have := h.lv k ok t hkL hok hdk
   rw [get_put t (drawOk_names hD hj hok (Ne.symm hkj) hdk).1]
   exact ⟨this.1, this.2.mono hle⟩
 ·intro t v hno hv0
  have hnj : o.dst ≠ some t := hno j o ((hin j).2 (.inl rfl)) hj
  have := h.l0 t v (fun k ok hk => hno k ok ((hin k).2 (.inr hk))) hv0
  rw [get_put t hnj]
  exact ⟨this.1, this.2.mono hle⟩
 ·intro k ok hk hkn hok
  have hkn' : ¬ In L k := fun h' => hkn ((hin k).2 (.inr h'))
  have hkj : k ≠ j := fun e => hkn ((hin k).2 (.inl e))
  obtain ⟨g1, g2, g3, g4⟩ := h.pend k ok hk hkn' hok
  refine ⟨g1, g2, g3, ?_⟩
  rcases g4 with g | g | ⟨g5, g6, ob, nv, b, g7, g8, g9, g10, g11, g12, g13⟩
  ·exact .inl g
  ·exact .inr (.inl g)
  ·exact .inr (.inr ⟨g5, g6, ob, nv, b, g7, g8, g9, g10, g11, hb b (fun e => h.bne j k b hjC hn hk hkn' (Ne.symm hkj) e g9) g12, g13⟩)
 ·intro i k b hi hin' hk hkn hik
  exact h.bne i k b hi (fun h' => hin' ((hin i).2 (.inr h'))) hk (fun h' => hkn ((hin k).2 (.inr h'))) hik
 ·intro k ok hk hkn
  exact h.rd k ok hk (fun h' => hkn ((hin k).2 (.inr h')))
theorem Inv.run (hD : drawOk ops = true) (h : Inv P W ops n st0 ρ0 C st rds I L a w ρ) {j : Nat} {o : Oper} (hj : ops[j]? = some o) (hjC : In C j) (hn : ¬ In L j) (hr : ∀ e ∈ o.after, Region.binds .any e = true → In L e.on)
  {Q : Exit → Act → World → Prop} : wpOp P ops Q j (fun a' w' => ∃ ρ', Inv P W ops n st0 ρ0 C st rds I (L.setIfInBounds j true) a' w' ρ') a w := by
 obtain ⟨g1, g2, g3, g4⟩ := h.pend j o hjC hn hj
 have hlk := h.looks hj hn hr g3
 obtain ⟨ev', he1, he2⟩ := erel_of_looks hlk
 unfold wpOp
 simp only [hj]
 rcases g4 with ⟨k1, k2, k3⟩ | ⟨k1, k2, k3⟩ | ⟨k1, k0, ob, nv, b, k2, k3, k4, k5, k6, k7, k8⟩
 ·rw [awanted_sound' h.size hlk k1, if_neg (by simp)]
  exact ⟨ρ, h.exec hD hj hjC hn hr (.refl ρ) h.rel (by rw [k2]; exact closed_refl (by simp [undef, closed])) h.step (fun _ _ h => h)⟩
 ·rw [awanted_sound' h.size hlk k1, if_pos rfl]
  replace k2 := k2.congr he2
  obtain ⟨v', r1, r2⟩ := LOk.sound h.rel he1 k2
  refine .inl ?_
  unfold Oper.wp
  rw [r1]
  exact ⟨ρ, h.exec hD hj hjC hn hr (.refl ρ) h.rel r2 h.step (fun _ _ h => h)⟩
 ·rw [awanted_sound' h.size hlk k1, if_pos rfl]
  replace k2 := k2.congr he2
  obtain ⟨v', ob', d, z, r1, r2, r3⟩ := LOk.sound h.rel he1 k2
  refine .inl ?_
  unfold Oper.wp
  rw [r1]
  have hrel := (h.rel.at_drawn d).realize (b := b) (z := z) (ob := ob') k5 k7 k8 (r2 _ h.rel.below.fresh)
  refine ⟨ρ.set b (w.heap.size, 0, z), h.exec hD hj hjC hn hr (Place.le_set k7) hrel (by rw [k3]; exact r3 _ _ (Place.set_same ρ b _)) ?_ (fun b' hb' hb0 => ?_)⟩
  ·refine ⟨h.step.le.trans (Place.le_set k7), h.step.more, fun b' hb' hr' => ?_⟩
   have := h.step.old b' hb' hr'
   exact ⟨by rw [Place.set_other (by omega)]; exact this.1, this.2⟩
  ·rw [Place.set_other (by intro e; subst e; exact hb' k4)]
   exact hb0
end
end Go.Proofs.YtojlhapbngcjkaaGreatDoor

noncomputable section
namespace Go.Proofs.YtojlhapbngcjkaaGreatDoor
open Go Go.RowKit
theorem rowOf_ext {hp hp' : Tr AObj} (h : ∀ b x, hp.get b = some x → hp'.get b = some x) {b o n : Nat} {l : List Value} (hl : rowOf hp b o n = some l) : rowOf hp' b o n = some l := by
 unfold rowOf at *
 cases hb : hp.get b with
 | none => rw [hb] at hl; cases hl
 | some x => rw [h b x hb]; rw [hb] at hl; exact hl
theorem aread_ext {P : Program} {hp hp' : Tr AObj} (h : ∀ b x, hp.get b = some x → hp'.get b = some x) {o : Oper} {ev : Operand → Option Value} {v : Value} (hl : aread P hp o ev = some v) : aread P hp' o ev = some v := by
 unfold aread at *
 split at hl
 ·rename_i t x hop
  cases hx : ev x with
  | none => rw [hx] at hl; cases hl
  | some u =>
   rw [hx] at hl
   dsimp only at hl ⊢
   unfold aLoad at *
   split at hl
   case h_2 => cases hl
   rename_i b o'
   split at hl
   ·split at hl
    case h_2 => cases hl
    split at hl
    case h_2 => cases hl
    rename_i l hr
    rw [rowOf_ext h hr]
    exact hl
   ·cases hb : hp.get b with
    | none => rw [hb] at hl; cases hl
    | some y => rw [h b y hb]; rw [hb] at hl; exact hl
   ·cases hl
 ·rename_i s d x hop
  cases hx : ev x with
  | none => rw [hx] at hl; cases hl
  | some u =>
   rw [hx] at hl
   dsimp only at hl ⊢
   unfold aBytes at *
   split at hl
   case h_2 => cases hl
   split at hl
   case h_2 => cases hl
   split at hl
   case h_2 => cases hl
   split at hl
   case h_2 => cases hl
   rename_i l hr
   rw [rowOf_ext h hr]
   exact hl
 ·cases hl
theorem aLookup_ext {P : Program} {hp hp' : Tr AObj} (h : ∀ b x, hp.get b = some x → hp'.get b = some x) {t : TypeId} {x k v : Value} {c : Bool} (hl : aLookup P hp t x k c = some v) : aLookup P hp' t x k c = some v := by
 unfold aLookup at *
 split at hl
 case h_2 => cases hl
 rename_i kt et hu
 split at hl
 case h_2 => cases hl
 rename_i kd zv hkd hz
 cases hc : keyNow kd && (closed1 k && closed1 zv) with
 | false => rw [hc] at hl; cases hl
 | true =>
  rw [hc, cond_true] at hl
  rw [cond_true]
  split at hl
  ·exact hl
  ·rename_i b
   try dsimp only
   cases hb : hp.get b with
   | none => rw [hb] at hl; cases hl
   | some y => rw [h b y hb]; rw [hb] at hl; exact hl
  ·cases hl
theorem aEntry_ext {hp hp' : Tr AObj} (h : ∀ b x, hp.get b = some x → hp'.get b = some x) {x v : Value} (hl : aEntry hp x = some v) : aEntry hp' x = some v := by
 unfold aEntry at *
 split at hl
 case h_2 => cases hl
 rename_i b
 try dsimp only
 cases hb : hp.get b with
 | none => rw [hb] at hl; cases hl
 | some y =>
  rw [h b y hb]
  rw [hb] at hl
  cases y <;> try (cases hl)
  rename_i m since last seen
  cases m with
  | none => cases hl
  | some mb =>
   dsimp only at hl ⊢
   cases hs : seen.getLast? with
   | none => rw [hs] at hl; cases hl
   | some stamp =>
    cases hm : hp.get mb with
    | none => rw [hs, hm] at hl; cases hl
    | some z => rw [h mb z hm]; rw [hs, hm] at hl; exact hl
theorem aRangeM_ext {P : Program} {hp hp' : Tr AObj} (h : ∀ b x, hp.get b = some x → hp'.get b = some x) {t : TypeId} {x : Value} {r : AObj × NewV} (hl : aRangeM P hp t x = some r) : aRangeM P hp' t x = some r := by
 unfold aRangeM at *
 split at hl
 ·rename_i hu
  exact hl
 ·rename_i b k e hu
  try dsimp only
  cases hb : hp.get b with
  | none => rw [hb] at hl; cases hl
  | some y => rw [h b y hb]; rw [hb] at hl; exact hl
 ·cases hl
theorem alight_ext {P : Program} {hp hp' : Tr AObj} (h : ∀ b x, hp.get b = some x → hp'.get b = some x) {o : Oper} {ev : Operand → Option Value} {r : LRes} (hl : alight P hp o ev = some r) : alight P hp' o ev = some r := by
 obtain ⟨dst, op, type, pos, after, guard⟩ := o
 unfold alight at *
 cases op <;> dsimp only at hl ⊢ <;> try exact hl
 case load t x =>
  simp only [Option.map_eq_some_iff] at hl ⊢
  obtain ⟨v, hv, e⟩ := hl
  exact ⟨v, aread_ext h hv, e⟩
 case range t x =>
  split at hl
  ·simp only [Option.map_eq_some_iff] at hl ⊢
   obtain ⟨v, hv, e⟩ := hl
   exact ⟨v, aRangeM_ext h hv, e⟩
  ·exact hl
 case lookup t x y c =>
  split at hl
  case h_2 => cases hl
  simp only [Option.map_eq_some_iff] at hl ⊢
  obtain ⟨v, hv, e⟩ := hl
  exact ⟨v, aLookup_ext h hv, e⟩
 case entry x =>
  split at hl
  case h_2 => cases hl
  simp only [Option.map_eq_some_iff] at hl ⊢
  obtain ⟨v, hv, e⟩ := hl
  exact ⟨v, aEntry_ext h hv, e⟩
 case call c =>
  cases hq : mapLenQ c ev with
  | true =>
   rw [hq, cond_true] at hl
   rw [cond_true]
   simp only [Option.map_eq_some_iff] at hl ⊢
   obtain ⟨v, hv, e⟩ := hl
   exact ⟨v, aMapLen_ext h hv, e⟩
  | false =>
   rw [hq, cond_false] at hl
   exact hl
 case convert s d x =>
  split at hl <;> try exact hl
  simp only [Option.map_eq_some_iff] at hl ⊢
  obtain ⟨v, hv, e⟩ := hl
  exact ⟨v, aread_ext h hv, e⟩
theorem sLook_ext {P : Program} {hp hp' : Tr AObj} (h : ∀ b x, hp.get b = some x → hp'.get b = some x) {t : TypeId} {x k v : Value} {c : Bool} (hl : sLook P hp t x k c = some v) : sLook P hp' t x k c = some v := by
 unfold sLook at *
 split at hl
 case h_2 => cases hl
 split at hl
 case h_2 => cases hl
 rename_i kd z es ck h1 h2 h3
 rw [h1, h2, h _ _ h3]
 exact hl
theorem slight_ext {P : Program} {hp hp' : Tr AObj} (h : ∀ b x, hp.get b = some x → hp'.get b = some x) {o : Oper} {ev : Operand → Option Value} {r : LRes} {ob : Prop} (hl : slight P hp o ev = some (r, ob)) : slight P hp' o ev = some (r, ob) := by
 have hb : sbase P hp o ev = some (r, ob) → sbase P hp' o ev = some (r, ob) := fun hb => by
  unfold sbase at *
  split at hb
  ·rename_i q hq; rw [alight_ext h hq]; exact hb
  ·cases hb
 obtain ⟨dst, op, type, pos, after, guard⟩ := o
 unfold slight at *
 cases op <;> dsimp only at hl ⊢ <;> try exact hb hl
 case load t x =>
  cases hsy : symAt ⟨dst, .load t x, type, pos, after, guard⟩ t x with
  | true =>
   rw [hsy, cond_true] at hl
   rw [cond_true]
   split at hl
   case h_2 => cases hl
   rename_i v hx
   have key : ∀ q, symLoad P hp t v = some q → symLoad P hp' t v = some q := fun q hq => by
    unfold symLoad at *
    split at hq
    case h_2 => cases hq
    split at hq
    case h_2 => cases hq
    rename_i hg
    rw [h _ _ hg]
    exact hq
   unfold sval at *
   split at hl
   ·rename_i w ob' hq
    rw [key _ hq]
    exact hl
   ·cases hl
  | false =>
  rw [hsy, cond_false] at hl
  rw [cond_false]
  split at hl
  ·exact hl
  ·exact hb hl
 case lookup t x y c =>
  split at hl
  case h_2 => cases hl
  rename_i u v hx hy
  cases hq : sLook P hp t u v c with
  | some r0 =>
   rw [hq] at hl
   rw [sLook_ext h hq]
   exact hl
  | none =>
   rw [hq] at hl
   have hl' := hb hl
   cases hq' : sLook P hp' t u v c with
   | none => exact hl'
   | some r' =>
    have e1 := sLook_eq hq'
    have e2 := sbase_eq hl'
    unfold sbase at hl'
    split at hl'
    ·cases hl'
     unfold alight at e2
     dsimp only at e2
     rw [hx, hy] at e2
     dsimp only at e2
     rw [e1] at e2
     cases e2
     rfl
    ·cases hl'
 case indexAddr t x i => exact hl
 case fieldAddr t x f =>
  split at hl
  ·exact hl
  ·exact hb hl
 case nilCheck x =>
  split at hl
  ·exact hl
  ·exact hl
  ·exact hb hl
 case makeFunc fn f c =>
  cases fn <;> first | exact hl | exact hb hl
 case typeAssert x xt y ok => cases ok <;> first | exact hl | exact hb hl
 case slice t x lo hi mx =>
  cases mx with
  | some m => exact hb hl
  | none =>
   dsimp only at hl ⊢
   split at hl
   case h_2 => cases hl
   split at hl
   ·exact hl
   ·split at hl
    ·unfold sval at hl ⊢
     split at hl
     case h_2 => cases hl
     rename_i r ob' hr
     have key : ∀ u, sArr P hp ev t u lo hi = some (r, ob') → sArr P hp' ev t u lo hi = some (r, ob') := fun u hr => by
      unfold sArr at hr ⊢
      split at hr
      case h_2 => cases hr
      split at hr
      case h_2 => cases hr
      rename_i hg
      rw [h _ _ hg]
      exact hr
     rw [key _ hr]
     exact hl
    ·exact hb hl
 case index t x i =>
  split at hl
  ·exact hl
  ·exact hb hl
 case binOp op t x y ty => exact hl
 case convert src dst' x =>
  have hB : ∀ u, ∀ q, sBytes P hp src dst' u = some q → sBytes P hp' src dst' u = some q := fun u q hq => by
   unfold sBytes at *
   split at hq
   case h_2 => cases hq
   split at hq
   case h_2 => cases hq
   split at hq
   ·split at hq
    case h_2 => cases hq
    rename_i l wr hg
    rw [h _ _ hg]
    exact hq
   ·exact hq
   ·cases hq
  split at hl
  ·obtain ⟨v, h1, rfl⟩ := sval_eq hl
   rw [hB _ _ h1]
   rfl
  ·obtain ⟨v, h1, rfl⟩ := sval_eq hl
   rw [hB _ _ h1]
   rfl
  ·exact hb hl
  ·exact hl
 case makeSlice t x y => exact hl
 case pick c x y => exact hl
 case call c =>
  split at hl
  ·exact hl
  ·split at hl
   ·exact hl
   ·exact hb hl
theorem LOk.ext {P : Program} {hp hp' : Tr AObj} (h : ∀ b x, hp.get b = some x → hp'.get b = some x) {o : Oper} {ev : Operand → Option Value} {r : LRes} (hl : LOk P hp o ev r) : LOk P hp' o ev r := by
 rcases hl with hl | ⟨ob, h1, h2⟩
 ·exact .inl (alight_ext h hl)
 ·exact .inr ⟨ob, slight_ext h h1, h2⟩
def Info.set (I : Info) (i : Nat) (T : Tr Value) (U : Value) (B : Option Nat) : Info :=
 ⟨fun k => if k = i then T else I.T k, fun k => if k = i then U else I.U k, fun k => if k = i then B else I.B k⟩
section
variable {P : Program} {W : Base} {ops : Array Oper} {n : Nat} {st0 : AS} {ρ0 : Place} {C : Array Bool} {st : AS} {rds rds' : List Rd} {I : Info} {L : Array Bool} {a : Act} {w : World} {ρ : Place}
theorem aput_get {tm tm' : Tr Value} {dst : Option Tmp} {v : Value} (h : aput n tm dst v = some tm') : (∀ d, dst = some d → d < n ∧ tm'.get d = some v) ∧ ∀ t, dst ≠ some t → tm'.get t = tm.get t := by
 unfold aput at h
 cases dst with
 | none => cases h; exact ⟨fun d hd => by (cases hd), fun _ _ => rfl⟩
 | some d =>
  dsimp only at h
  cases hd : d.blt n with
  | false => rw [hd] at h; cases h
  | true =>
   rw [hd] at h
   cases h
   refine ⟨fun d' hd' => ?_, fun t ht => ?_⟩
   ·cases hd'
    exact ⟨Nat.le_of_ble_eq_true hd, by rw [Tr.get_put, if_pos rfl]⟩
   ·rw [Tr.get_put, if_neg (by intro e; subst e; exact ht rfl)]
theorem Inv.absorb (hD : drawOk ops = true) (h : Inv P W ops n st0 ρ0 C st rds I L a w ρ) {i : Nat} {o : Oper} (hi : ops[i]? = some o) (hn : ¬ In C i) (hr : ∀ e ∈ o.after, Region.binds .any e = true → In C e.on) (hh : isHeavy o.op = false)
  {st' : AS} {v : Value} {B : Option Nat} (ht : aput n st.tm o.dst v = some st'.tm) (hrel : Rel ρ W st'.hp st'.nx w) (hext : ∀ b x, st.hp.get b = some x → st'.hp.get b = some x) (hnx : st.nx ≤ st'.nx)
  (hstep : Step ρ0 ρ st0.hp st'.hp st0.nx st'.nx) (hB : ∀ b, B = some b → st.nx ≤ b)
  (hpf : ∀ I' : Info, I'.T i = st.tm → I'.U i = v → I'.B i = B → PF P ops st0 st' ρ I' i o) (hrd1 : ∀ x ∈ rds, x ∈ rds') (hrd2 : awanted ops st.tm o = some true → isRead o (aev st.tm) = true → ⟨i, o, st.tm, v⟩ ∈ rds') :
  Inv P W ops n st0 ρ0 (C.setIfInBounds i true) st' rds' (I.set i st.tm v B) L a w ρ := by
 have hlt : i < C.size := by rw [h.cs]; exact (Array.getElem?_eq_some_iff.1 hi).1
 have hin : ∀ k, In (C.setIfInBounds i true) k ↔ k = i ∨ In C k := fun k => in_set hlt
 have hiL : ¬ In L i := fun h' => hn (h.sub i h')
 have hU : ∀ k, k ≠ i → (I.set i st.tm v B).U k = I.U k := fun k hk => by simp [Info.set, hk]
 have hT : ∀ k, k ≠ i → (I.set i st.tm v B).T k = I.T k := fun k hk => by simp [Info.set, hk]
 have hBk : ∀ k, k ≠ i → (I.set i st.tm v B).B k = I.B k := fun k hk => by simp [Info.set, hk]
 have hUi : (I.set i st.tm v B).U i = v := by simp [Info.set]
 have hTi : (I.set i st.tm v B).T i = st.tm := by simp [Info.set]
 have hBi : (I.set i st.tm v B).B i = B := by simp [Info.set]
 obtain ⟨p1, p2⟩ := aput_get ht
 have hiC : ∀ k, comesBefore ops k i = true → In C k := fun k hk => closed_before h.cclosed i k hk fun o' ho' e he hb => by rw [hi] at ho'; cases ho'; exact hr e he hb
 have hCi : ∀ k, In C k → comesBefore ops i k = true → False := fun k hk hb => hn (closed_before h.cclosed k i hb fun o' ho' e he hb' => h.cclosed k hk o' ho' e he hb')
 refine ⟨by simp [h.cs], h.ls, ?_, h.lclosed, fun k hk => (hin k).2 (.inr (h.sub k hk)), ?_, ?_, hrel, h.size, h.defers, ?_, h.l0, ?_, ?_, hstep, ?_⟩
 ·intro k hk o' ho' e he hb
  rw [hin] at hk ⊢
  rcases hk with rfl | hk
  ·rw [hi] at ho'; cases ho'; exact .inr (hr e he hb)
  ·exact .inr (h.cclosed k hk o' ho' e he hb)
 ·intro k ok t hk hok hd
  rw [hin] at hk
  by_cases hki : k = i
  ·subst hki
   rw [hi] at hok
   cases hok
   rw [hUi]
   exact (p1 t hd).2
  ·rw [hU k hki, p2 t (drawOk_names hD hi hok (Ne.symm hki) hd).1]
   exact h.tmC k ok t (hk.resolve_left hki) hok hd
 ·intro t hno
  rw [p2 t (hno i o ((hin i).2 (.inl rfl)) hi)]
  exact h.tm0 t fun k ok hk => hno k ok ((hin k).2 (.inr hk))
 ·intro k ok t hk hok hd
  rw [hU k (fun e => hiL (e ▸ hk))]
  exact h.lv k ok t hk hok hd
 ·intro k ok hk hkn hok
  rw [hin] at hk
  by_cases hki : k = i
  ·subst hki
   rw [hi] at hok
   cases hok
   refine ⟨hh, fun d hd => (p1 d hd).1, fun t htm => ?_, hpf _ hTi hUi hBi⟩
   by_cases hex : ∃ j oj, In C j ∧ ops[j]? = some oj ∧ oj.dst = some t
   ·obtain ⟨j, oj, hj, hoj, hdj⟩ := hex
    have hji : j ≠ k := fun e => hn (e ▸ hj)
    rcases (drawOk_names hD hi hoj (Ne.symm hji) hdj).2 htm with hb | hb
    ·exact .inl ⟨j, oj, hb, hoj, hdj, by rw [hTi, hU j hji]; exact h.tmC j oj t hj hoj hdj⟩
    ·exact (hCi j hj hb).elim
   ·refine .inr ⟨fun j oj hoj hdj hji => ?_, by rw [hTi]; exact h.tm0 t fun j oj hj hoj hdj => hex ⟨j, oj, hj, hoj, hdj⟩⟩
    rcases (drawOk_names hD hi hoj (Ne.symm hji) hdj).2 htm with hb | hb
    ·exact (hex ⟨j, oj, hiC j hb, hoj, hdj⟩).elim
    ·exact hb
  ·have hkC := hk.resolve_left hki
   obtain ⟨g1, g2, g3, g4⟩ := h.pend k ok hkC hkn hok
   refine ⟨g1, g2, fun t htm => ?_, ?_⟩
   ·rw [hT k hki]
    rcases g3 t htm with ⟨j, oj, q1, q2, q3, q4⟩ | q
    ·have hjC : In C j := closed_before h.cclosed k j q1 fun o' ho' e he hb => h.cclosed k hkC o' ho' e he hb
     exact .inl ⟨j, oj, q1, q2, q3, by rw [hU j (fun e => hn (e ▸ hjC))]; exact q4⟩
    ·exact .inr q
   ·unfold PF
    rw [hT k hki, hU k hki, hBk k hki]
    rcases g4 with g | ⟨q1, q2, q3⟩ | ⟨g5, g6, ob, nv, b, g7, g8, g9, g10, g11, g12, g13⟩
    ·exact .inl g
    ·exact .inr (.inl ⟨q1, q2.ext hext, q3⟩)
    ·exact .inr (.inr ⟨g5, g6, ob, nv, b, g7.ext hext, g8, g9, by omega, g11, g12, hext _ _ g13⟩)
 ·intro j k b hj hjn hk hkn hjk
  rw [hin] at hj hk
  have old : ∀ k b, In C k → ¬ In L k → I.B k = some b → b < st.nx := fun k b hk hkn hb => by
   have hks : k < ops.size := by
    rcases Nat.lt_or_ge k C.size with h' | h'
    ·rw [← h.cs]; exact h'
    ·simp [In, Array.getElem?_eq_none h'] at hk
   obtain ⟨_, _, _, g4⟩ := h.pend k ops[k] hk hkn (by simp [hks])
   rcases g4 with ⟨_, _, g⟩ | ⟨_, _, g⟩ | ⟨_, _, ob, nv, b', _, _, g9, g10, _⟩
   ·rw [g] at hb; cases hb
   ·rw [g] at hb; cases hb
   ·rw [g9] at hb; cases hb; exact g10
  by_cases hji : j = i
  ·subst hji
   rw [hBi, hBk k (Ne.symm hjk)]
   intro hb hb'
   have := hB b hb
   have := old k b (hk.resolve_left (Ne.symm hjk)) hkn hb'
   omega
  ·rw [hBk j hji]
   by_cases hki : k = i
   ·subst hki
    rw [hBi]
    intro hb hb'
    have := hB b hb'
    have := old j b (hj.resolve_left hji) hjn hb
    omega
   ·rw [hBk k hki]
    exact h.bne j k b (hj.resolve_left hji) hjn (hk.resolve_left hki) hkn hjk
 ·intro k ok hk hkn hok hw hrd
  rw [hin] at hk
  by_cases hki : k = i
  ·subst hki
   rw [hi] at hok
   cases hok
   rw [hTi] at hw hrd ⊢
   rw [hUi]
   exact hrd2 hw hrd
  ·rw [hT k hki] at hw hrd ⊢
   rw [hU k hki]
   exact hrd1 _ (h.rd k ok (hk.resolve_left hki) hkn hok hw hrd)
theorem Inv.heavyLook (hD : drawOk ops = true) (h : Inv P W ops n st0 ρ0 C st rds I L a w ρ) {r : Nat} {o : Oper} (hr : ops[r]? = some o) (hn : ¬ In C r) (hrC : ∀ e ∈ o.after, Region.binds .any e = true → In C e.on)
  (hrL : ∀ e ∈ o.after, Region.binds .any e = true → In L e.on) :
  ∀ t ∈ o.looksAt ops, ∀ v, st.tm.get t = some v → t < n ∧ VR ρ v (a.tmps.getD t undef) := by
 have hltC : r < C.size := by rw [h.cs]; exact (Array.getElem?_eq_some_iff.1 hr).1
 have hltL : r < L.size := by rw [h.ls]; exact (Array.getElem?_eq_some_iff.1 hr).1
 have hinC : ∀ k, In (C.setIfInBounds r true) k ↔ k = r ∨ In C k := fun k => in_set hltC
 have hinL : ∀ k, In (L.setIfInBounds r true) k ↔ k = r ∨ In L k := fun k => in_set hltL
 have hrnL : ¬ In L r := fun h' => hn (h.sub r h')
 have hbL : ∀ k, comesBefore ops k r = true → In L k := fun k hk => closed_before h.lclosed r k hk fun o' ho' e he hb => by rw [hr] at ho'; cases ho'; exact hrL e he hb
 have hCr : ∀ k, In C k → comesBefore ops r k = true → False := fun k hk hb => hn (closed_before h.cclosed k r hb fun o' ho' e he hb' => h.cclosed k hk o' ho' e he hb')
 intro t htm v hv
 by_cases hex : ∃ j oj, In C j ∧ ops[j]? = some oj ∧ oj.dst = some t
 ·obtain ⟨j, oj, hj, hoj, hdj⟩ := hex
  have hjr : j ≠ r := fun e => hn (e ▸ hj)
  rw [h.tmC j oj t hj hoj hdj] at hv
  cases hv
  rcases (drawOk_names hD hr hoj (Ne.symm hjr) hdj).2 htm with hb | hb
  ·exact h.lv j oj t (hbL j hb) hoj hdj
  ·exact (hCr j hj hb).elim
 ·rw [h.tm0 t fun j oj hj hoj hdj => hex ⟨j, oj, hj, hoj, hdj⟩] at hv
  exact h.l0 t v (fun j oj hj hoj hdj => hex ⟨j, oj, h.sub j hj, hoj, hdj⟩) hv
theorem Inv.heavyFinW {W' : Base} (hds : W'.ds = W.ds) (hD : drawOk ops = true) (h : Inv P W ops n st0 ρ0 C st rds I L a w ρ) {r : Nat} {o : Oper} (hr : ops[r]? = some o) (hn : ¬ In C r) (hrC : ∀ e ∈ o.after, Region.binds .any e = true → In C e.on)
  (hrL : ∀ e ∈ o.after, Region.binds .any e = true → In L e.on) {st' : AS} (hst : st'.hp = st.hp ∨ ∀ rd ∈ rds, comesBefore ops rd.i r = true ∨ LOk P st'.hp rd.o (aev rd.tm) (.val rd.v))
  (v v' : Value) (w' : World) (ρ' : Place) (ht : aput n st.tm o.dst v = some st'.tm) (hv : VR ρ' v v') (hrel : Rel ρ' W' st'.hp st'.nx w') (hstep : Step ρ ρ' st.hp st'.hp st.nx st'.nx) :
  ∃ ρ' I', Inv P W' ops n st0 ρ0 (C.setIfInBounds r true) st' rds I' (L.setIfInBounds r true) (a.put o.dst v') w' ρ' := by
 have hltC : r < C.size := by rw [h.cs]; exact (Array.getElem?_eq_some_iff.1 hr).1
 have hltL : r < L.size := by rw [h.ls]; exact (Array.getElem?_eq_some_iff.1 hr).1
 have hinC : ∀ k, In (C.setIfInBounds r true) k ↔ k = r ∨ In C k := fun k => in_set hltC
 have hinL : ∀ k, In (L.setIfInBounds r true) k ↔ k = r ∨ In L k := fun k => in_set hltL
 have hrnL : ¬ In L r := fun h' => hn (h.sub r h')
 have hbL : ∀ k, comesBefore ops k r = true → In L k := fun k hk => closed_before h.lclosed r k hk fun o' ho' e he hb => by rw [hr] at ho'; cases ho'; exact hrL e he hb
 have hCr : ∀ k, In C k → comesBefore ops r k = true → False := fun k hk hb => hn (closed_before h.cclosed k r hb fun o' ho' e he hb' => h.cclosed k hk o' ho' e he hb')
 obtain ⟨p1, p2⟩ := aput_get ht
 have hU : ∀ k, k ≠ r → (I.set r st.tm v none).U k = I.U k := fun k hk => by simp [Info.set, hk]
 have hT : ∀ k, k ≠ r → (I.set r st.tm v none).T k = I.T k := fun k hk => by simp [Info.set, hk]
 have hBk : ∀ k, k ≠ r → (I.set r st.tm v none).B k = I.B k := fun k hk => by simp [Info.set, hk]
 have hUr : (I.set r st.tm v none).U r = v := by simp [Info.set]
 have get_put : ∀ t, o.dst ≠ some t → (a.put o.dst v').tmps.getD t undef = a.tmps.getD t undef := fun t ht => by
  cases hd : o.dst with
  | none => rfl
  | some d =>
   have : d ≠ t := fun e => ht (by rw [hd, e])
   simp [Act.put, Array.getD_eq_getD_getElem?, Array.getElem?_setIfInBounds_ne this]
 have pd : ∀ k, In (C.setIfInBounds r true) k → ¬ In (L.setIfInBounds r true) k → k ≠ r ∧ In C k ∧ ¬ In L k := fun k hk hkn => by
  rw [hinC] at hk
  have hkr : k ≠ r := fun e => hkn ((hinL k).2 (.inl e))
  exact ⟨hkr, hk.resolve_left hkr, fun h' => hkn ((hinL k).2 (.inr h'))⟩
 refine ⟨ρ', I.set r st.tm v none, by simp [h.cs], by simp [h.ls], ?_, ?_, ?_, ?_, ?_, hrel, ?_, ?_, ?_, ?_, ?_, ?_, h.step.trans hstep, ?_⟩
 ·intro k hk o' ho' e he hb
  rw [hinC] at hk ⊢
  rcases hk with rfl | hk
  ·rw [hr] at ho'; cases ho'; exact .inr (hrC e he hb)
  ·exact .inr (h.cclosed k hk o' ho' e he hb)
 ·intro k hk o' ho' e he hb
  rw [hinL] at hk ⊢
  rcases hk with rfl | hk
  ·rw [hr] at ho'; cases ho'; exact .inr (hrL e he hb)
  ·exact .inr (h.lclosed k hk o' ho' e he hb)
 ·intro k hk
  rw [hinL] at hk
  rw [hinC]
  exact hk.imp id (h.sub k)
 ·intro k ok t hk hok hd
  rw [hinC] at hk
  by_cases hkr : k = r
  ·subst hkr
   rw [hr] at hok
   cases hok
   rw [hUr]
   exact (p1 t hd).2
  ·rw [hU k hkr, p2 t (drawOk_names hD hr hok (Ne.symm hkr) hd).1]
   exact h.tmC k ok t (hk.resolve_left hkr) hok hd
 ·intro t hno
  rw [p2 t (hno r o ((hinC r).2 (.inl rfl)) hr)]
  exact h.tm0 t fun k ok hk => hno k ok ((hinC k).2 (.inr hk))
 ·cases hd : o.dst <;> simp [Act.put, h.size]
 ·cases hd : o.dst <;> simp [Act.put, h.defers, hds]
 ·intro k ok t hk hok hdk
  rw [hinL] at hk
  by_cases hkr : k = r
  ·subst hkr
   rw [hr] at hok
   cases hok
   have := (p1 t hdk).1
   refine ⟨this, ?_⟩
   rw [hUr, hdk]
   simpa [Act.put, Array.getD_eq_getD_getElem?, h.size, this] using hv
  ·have := h.lv k ok t (hk.resolve_left hkr) hok hdk
   rw [hU k hkr, get_put t (drawOk_names hD hr hok (Ne.symm hkr) hdk).1]
   exact ⟨this.1, this.2.mono hstep.le⟩
 ·intro t u hno hu
  have hnj : o.dst ≠ some t := hno r o ((hinL r).2 (.inl rfl)) hr
  have := h.l0 t u (fun k ok hk => hno k ok ((hinL k).2 (.inr hk))) hu
  rw [get_put t hnj]
  exact ⟨this.1, this.2.mono hstep.le⟩
 ·intro k ok hk hkn hok
  obtain ⟨hkr, hkC, hkL⟩ := pd k hk hkn
  obtain ⟨g1, g2, g3, g4⟩ := h.pend k ok hkC hkL hok
  refine ⟨g1, g2, fun t htm => ?_, ?_⟩
  ·rw [hT k hkr]
   rcases g3 t htm with ⟨j, oj, q1, q2, q3, q4⟩ | q
   ·have hjC : In C j := closed_before h.cclosed k j q1 fun o' ho' e he hb => h.cclosed k hkC o' ho' e he hb
    exact .inl ⟨j, oj, q1, q2, q3, by rw [hU j (fun e => hn (e ▸ hjC))]; exact q4⟩
   ·exact .inr q
  ·unfold PF
   rw [hT k hkr, hU k hkr, hBk k hkr]
   rcases g4 with g | ⟨q1, q2, q3⟩ | ⟨g5, g6, ob, nv, b, g7, g8, g9, g10, g11, g12, g13⟩
   ·exact .inl g
   ·refine .inr (.inl ⟨q1, ?_, q3⟩)
    cases hrd : isRead ok (aev (I.T k)) with
    | false => exact q2.still hrd
    | true =>
     have hm := h.rd k ok hkC hkL hok q1 hrd
     rcases hst with he | hst
     ·rw [he]; exact q2
     rcases hst _ hm with hc | hc
     ·exact (hkL (hbL k hc)).elim
     ·exact hc
   ·have hold := hstep.old b g10 g12
    refine .inr (.inr ⟨g5, g6, ob, nv, b, g7.still g6, g8, g9, Nat.lt_of_lt_of_le g10 hstep.more, g11, hold.1, hold.2.trans g13⟩)
 ·intro j k b hj hjn hk hkn hjk
  obtain ⟨hjr, hjC, hjL⟩ := pd j hj hjn
  obtain ⟨hkr, hkC, hkL⟩ := pd k hk hkn
  rw [hBk j hjr, hBk k hkr]
  exact h.bne j k b hjC hjL hkC hkL hjk
 ·intro k ok hk hkn hok hw hrd
  obtain ⟨hkr, hkC, hkL⟩ := pd k hk hkn
  rw [hT k hkr] at hw hrd ⊢
  rw [hU k hkr]
  exact h.rd k ok hkC hkL hok hw hrd
theorem Inv.heavyFin (hD : drawOk ops = true) (h : Inv P W ops n st0 ρ0 C st rds I L a w ρ) {r : Nat} {o : Oper} (hr : ops[r]? = some o) (hn : ¬ In C r) (hrC : ∀ e ∈ o.after, Region.binds .any e = true → In C e.on)
  (hrL : ∀ e ∈ o.after, Region.binds .any e = true → In L e.on) {st' : AS} (hst : st'.hp = st.hp ∨ ∀ rd ∈ rds, comesBefore ops rd.i r = true ∨ LOk P st'.hp rd.o (aev rd.tm) (.val rd.v))
  (v v' : Value) (w' : World) (ρ' : Place) (ht : aput n st.tm o.dst v = some st'.tm) (hv : VR ρ' v v') (hrel : Rel ρ' W st'.hp st'.nx w') (hstep : Step ρ ρ' st.hp st'.hp st.nx st'.nx) :
  ∃ ρ' I', Inv P W ops n st0 ρ0 (C.setIfInBounds r true) st' rds I' (L.setIfInBounds r true) (a.put o.dst v') w' ρ' :=
 h.heavyFinW rfl hD hr hn hrC hrL hst v v' w' ρ' ht hv hrel hstep
theorem Inv.heavy {call : ACall} (hcall : CallOk P W call) (hD : drawOk ops = true) (h : Inv P W ops n st0 ρ0 C st rds I L a w ρ) {r : Nat} {o : Oper} (hr : ops[r]? = some o) (hn : ¬ In C r) (hrC : ∀ e ∈ o.after, Region.binds .any e = true → In C e.on)
  (hrL : ∀ e ∈ o.after, Region.binds .any e = true → In L e.on) {st' : AS} (hs : astep P call ops n st o = some st') (hst : rds.all (fun rd => comesBefore ops rd.i r || stable P st'.hp rd) = true) {Q : Exit → Act → World → Prop} :
  wpOp P ops Q r (fun a' w' => ∃ ρ' I', Inv P W ops n st0 ρ0 (C.setIfInBounds r true) st' rds I' (L.setIfInBounds r true) a' w' ρ') a w := by
 have hlk := h.heavyLook hD hr hn hrC hrL
 obtain ⟨ev', he1, he2⟩ := erel_of_looks hlk
 have hst' : ∀ rd ∈ rds, comesBefore ops rd.i r = true ∨ LOk P st'.hp rd.o (aev rd.tm) (.val rd.v) := fun rd hm => by
  have hc := List.all_eq_true.1 hst _ hm
  simp only [Bool.or_eq_true] at hc
  refine hc.imp id fun hc => ?_
  unfold stable at hc
  split at hc
  ·rename_i v2 hv2
   rw [veq_eq hc]
   exact .inl hv2
  ·cases hc
 have fin := h.heavyFin hD hr hn hrC hrL (st' := st') (.inr hst')
 unfold wpOp
 simp only [hr]
 unfold astep at hs
 split at hs
 ·rename_i hw
  rw [awanted_sound' h.size hlk hw, if_pos rfl]
  split at hs
  case h_2 => cases hs
  rename_i v hp' nx' hv
  split at hs
  case h_2 => cases hs
  rename_i tm' ht
  cases hs
  rw [aany_congr he2] at hv
  exact .inl (aany_sound hcall h.rel he1 hv fun v' w' ρ' g1 g2 g3 => fin v v' w' ρ' ht g1 g2 g3)
 ·rename_i hw
  rw [awanted_sound' h.size hlk hw, if_neg (by simp)]
  split at hs
  case h_2 => cases hs
  rename_i tm' ht
  cases hs
  exact fin undef undef w ρ ht (closed_refl (by simp [undef, closed])) h.rel (.refl _ _ _)
 ·cases hs
end
end Go.Proofs.YtojlhapbngcjkaaGreatDoor

noncomputable section
namespace Go.Proofs.YtojlhapbngcjkaaGreatDoor
open Go Go.RowKit
def unl (ops : Array Oper) (L : Array Bool) : Nat := ((List.range ops.size).filter fun i => !L.getD i true).length
theorem unl_set {ops : Array Oper} {L : Array Bool} {i : Nat} (hi : i < ops.size) (hs : L.size = ops.size) (hn : L.getD i true = false) : unl ops (L.setIfInBounds i true) < unl ops L := by
 unfold unl
 have e : ((List.range ops.size).filter fun k => !(L.setIfInBounds i true).getD k true) = ((List.range ops.size).filter fun k => !L.getD k true).filter fun k => !(L.setIfInBounds i true).getD k true := by
  rw [List.filter_filter]
  apply List.filter_congr
  intro k _
  by_cases hk : i = k
  ·subst hk; simp [hs, hi]
  ·rw [getD_set_ne true hk]; simp
 rw [e, List.length_filter_lt_length_iff_exists]
 exact ⟨i, by simp only [List.mem_filter, List.mem_range]; exact ⟨hi, by rw [hn]; rfl⟩, by simp [hs, hi]⟩
section
variable {P : Program} {W : Base} {ops : Array Oper} {n : Nat} {st0 : AS} {ρ0 : Place} {Q : Exit → Act → World → Prop}
theorem lt_of_in {ops : Array Oper} {L : Array Bool} (hs : L.size = ops.size) {i : Nat} (h : In L i) : i < ops.size := by
 rw [← hs]
 rcases Nat.lt_or_ge i L.size with h' | h'
 ·exact h'
 ·simp [In, Array.getElem?_eq_none h'] at h
theorem Inv.all {C : Array Bool} {st : AS} {rds : List Rd} {I : Info} {L : Array Bool} {a : Act} {w : World} {ρ : Place} (hD : drawOk ops = true) (h : Inv P W ops n st0 ρ0 C st rds I L a w ρ) (hr : Region.ready .any ops L = []) : ∀ i, In C i → In L i := by
 intro i
 induction i using Nat.strongRecOn with
 | _ i ih =>
  intro hi
  refine Classical.byContradiction fun hn => ?_
  have hlt := lt_of_in h.cs hi
  have hm : i ∈ Region.ready .any ops L := by
   rw [mem_ready]
   refine ⟨unlisted_of (by rw [h.ls]; exact hlt) hn, ops[i], by simp [hlt], fun e he hb => ?_⟩
   have := drawOk_edge hD (i := i) (o := ops[i]) (by simp [hlt]) he hb
   exact ih e.on this (h.cclosed i hi ops[i] (by simp [hlt]) e he hb)
  rw [hr] at hm
  cases hm
theorem Inv.done {C : Array Bool} {st : AS} {rds : List Rd} {I : Info} {L : Array Bool} {a : Act} {w : World} {ρ : Place} (h : Inv P W ops n st0 ρ0 C st rds I L a w ρ) (hall : ∀ i, In C i → In L i) : SRel ρ W n st a w := by
 refine ⟨h.rel, h.size, h.defers, fun t v hv => ?_⟩
 by_cases hex : ∃ j oj, In C j ∧ ops[j]? = some oj ∧ oj.dst = some t
 ·obtain ⟨j, oj, hj, hoj, hdj⟩ := hex
  rw [h.tmC j oj t hj hoj hdj] at hv
  cases hv
  exact h.lv j oj t (hall j hj) hoj hdj
 ·rw [h.tm0 t fun j oj hj hoj hdj => hex ⟨j, oj, hj, hoj, hdj⟩] at hv
  exact h.l0 t v (fun j oj hj hoj hdj => hex ⟨j, oj, h.sub j hj, hoj, hdj⟩) hv
theorem ready_in {C L : Array Bool} (hc : C.size = ops.size) (hsub : ∀ i, In L i → In C i) {j : Nat} (hj : j ∈ Region.ready .any ops L) : (In C j ∨ j ∈ Region.ready .any ops C) ∧ ¬ In L j ∧ j < ops.size ∧ ∃ o, ops[j]? = some o ∧ ∀ e ∈ o.after, Region.binds .any e = true → In L e.on := by
 obtain ⟨h1, o, h2, h3⟩ := mem_ready.1 hj
 have hlt := (Array.getElem?_eq_some_iff.1 h2).1
 refine ⟨?_, (unlisted h1).2, hlt, o, h2, h3⟩
 by_cases hC : In C j
 ·exact .inl hC
 ·exact .inr (mem_ready.2 ⟨unlisted_of (by rw [hc]; exact hlt) hC, o, h2, fun e he hb => hsub _ (h3 e he hb)⟩)
theorem draw_main {call : ACall} (hcall : CallOk P W call) (hD : drawOk ops = true) {stF : AS} (hQ : ∀ a' w' ρ', SRel ρ' W n stF a' w' → Step ρ0 ρ' st0.hp stF.hp st0.nx stF.nx → Q .normal a' w') :
  ∀ (m f : Nat) (C : Array Bool) (st : AS) (rds : List Rd) (I : Info) (L : Array Bool) (a : Act) (w : World) (ρ : Place), unl ops L ≤ m → Inv P W ops n st0 ρ0 C st rds I L a w ρ → adraw P call ops n f C st rds = some stF → wpAny P .any ops Q m L a w := by
 intro m
 induction m with
 | zero =>
  intro f C st rds I L a w ρ hm h hs
  have hr : Region.ready .any ops L = [] := by
   have hnil : ((List.range ops.size).filter fun i => !L.getD i true) = [] := List.eq_nil_of_length_eq_zero (Nat.le_zero.1 hm)
   apply List.eq_nil_iff_forall_not_mem.2
   intro j hj
   obtain ⟨h1, o, h2, h3⟩ := mem_ready.1 hj
   have : j ∈ ((List.range ops.size).filter fun i => !L.getD i true) := by
    simp only [List.mem_filter, List.mem_range]
    exact ⟨(Array.getElem?_eq_some_iff.1 h2).1, by rw [h1]; rfl⟩
   rw [hnil] at this
   cases this
  have hall := h.all hD hr
  have hallI : ∀ i, i < ops.size → In L i := fun i hi => Classical.byContradiction fun hn => by
   have : i ∈ ((List.range ops.size).filter fun i => !L.getD i true) := by
    simp only [List.mem_filter, List.mem_range]
    exact ⟨hi, by rw [unlisted_of (by rw [h.ls]; exact hi) hn]; rfl⟩
   rw [List.eq_nil_of_length_eq_zero (Nat.le_zero.1 hm)] at this
   cases this
  have hrC : Region.ready .any ops C = [] := by
   apply List.eq_nil_iff_forall_not_mem.2
   intro j hj
   obtain ⟨h1, o, h2, h3⟩ := mem_ready.1 hj
   exact (unlisted h1).2 (h.sub j (hallI j (Array.getElem?_eq_some_iff.1 h2).1))
  have hst : st = stF := by
   cases f with
   | zero => simp only [adraw, hrC] at hs; cases hs; rfl
   | succ f => simp only [adraw, hrC] at hs; cases hs; rfl
  subst hst
  exact ⟨hr, hQ a w ρ (h.done hall) h.step⟩
 | succ m ihm =>
  intro f
  induction f with
  | zero =>
   intro C st rds I L a w ρ hm h hs
   simp only [adraw] at hs
   split at hs
   case h_2 => cases hs
   rename_i hrC
   cases hs
   refine ⟨fun hr => hQ a w ρ (h.done (h.all hD hr)) h.step, fun j hj => ?_⟩
   obtain ⟨h1, h2, h3, o, h4, h5⟩ := ready_in h.cs h.sub hj
   rw [hrC] at h1
   have hjC := h1.resolve_right (by simp)
   refine wpOp_mono ?_ (h.run hD h4 hjC h2 h5)
   rintro a' w' ⟨ρ', h'⟩
   refine ihm 0 C _ rds I _ a' w' ρ' ?_ h' (by simp only [adraw, hrC])
   have := unl_set (ops := ops) (L := L) h3 h.ls (mem_ready.1 hj).1
   omega
  | succ f ihf =>
   intro C st rds I L a w ρ hm h hs
   have pending : ∀ j, j ∈ Region.ready .any ops L → In C j → ∀ o, ops[j]? = some o → (∀ e ∈ o.after, Region.binds .any e = true → In L e.on) → wpOp P ops Q j (wpAny P .any ops Q m (L.setIfInBounds j true)) a w := by
    intro j hj hjC o ho hall
    refine wpOp_mono ?_ (h.run hD ho hjC (unlisted (mem_ready.1 hj).1).2 hall)
    rintro a' w' ⟨ρ', h'⟩
    refine ihm (f + 1) C st rds I _ a' w' ρ' ?_ h' hs
    have := unl_set (ops := ops) (L := L) (Array.getElem?_eq_some_iff.1 ho).1 h.ls (mem_ready.1 hj).1
    omega
   have hs0 := hs
   simp only [adraw] at hs
   split at hs
   ·rename_i hrC
    cases hs
    refine ⟨fun hr => hQ a w ρ (h.done (h.all hD hr)) h.step, fun j hj => ?_⟩
    obtain ⟨h1, h2, h3, o, h4, h5⟩ := ready_in h.cs h.sub hj
    rw [hrC] at h1
    exact pending j hj (h1.resolve_right (by simp)) o h4 h5
   ·rename_i r rs hrC
    split at hs
    ·rename_i i hf
     have him : i ∈ Region.ready .any ops C := by rw [hrC]; exact List.mem_of_find?_eq_some hf
     have hil := List.find?_some hf
     obtain ⟨g1, o, g2, g3⟩ := mem_ready.1 him
     have hnC := (unlisted g1).2
     have hh : isHeavy o.op = false := by
      unfold lightIdx at hil
      rw [g2] at hil
      simpa using hil
     rw [g2] at hs
     dsimp only at hs
     split at hs
     ·rename_i hw
      split at hs
      ·rename_i v hv
       split at hs
       case h_2 => cases hs
       rename_i tm' ht
       refine ihf _ ⟨tm', st.hp, st.nx⟩ _ (I.set i st.tm v none) L a w ρ hm (h.absorb hD g2 hnC g3 hh (st' := ⟨tm', st.hp, st.nx⟩) (v := v) (B := none) ht h.rel (fun _ _ h => h) (Nat.le_refl _) h.step (fun b hb => by cases hb) (fun I' e1 e2 e3 => .inr (.inl ⟨by rw [e1]; exact hw, .inl (by rw [e1, e2]; exact hv), e3⟩)) ?_ ?_) hs
       ·intro x hx
        cases isRead o (aev st.tm) <;> simp [hx]
       ·intro _ hrd
        rw [hrd]
        simp
      ·rename_i ob nv hv
       split at hs
       case h_2 => cases hs
       rename_i tm' ht
       cases hrd : isRead o (aev st.tm) with
       | true => rw [hrd] at hs; cases hs
       | false =>
        rw [hrd, cond_false] at hs
        refine ihf _ ⟨tm', st.hp.put st.nx (some ob), st.nx + 1⟩ _ (I.set i st.tm (nv.val st.nx) (some st.nx)) L a w ρ hm (h.absorb hD g2 hnC g3 hh (st' := ⟨tm', st.hp.put st.nx (some ob), st.nx + 1⟩) (v := nv.val st.nx) (B := some st.nx) ht (h.rel.reserve ob) ?_ (Nat.le_succ _) ?_ (fun b hb => by cases hb; exact Nat.le_refl _) (fun I' e1 e2 e3 => ?_) (fun _ h => h) (fun _ h' => by rw [hrd] at h'; cases h')) hs
        ·intro b x hb
         have : b ≠ st.nx := fun e => by rw [e, h.rel.fresh _ (Nat.le_refl _)] at hb; cases hb
         rw [Tr.get_put, if_neg this]
         exact hb
        ·exact ⟨h.step.le, Nat.le_succ_of_le h.step.more, fun b hb hr => by
          have := h.step.old b hb hr
          refine ⟨this.1, ?_⟩
          rw [Tr.get_put, if_neg (by have := h.step.more; omega)]
          exact this.2⟩
        ·refine .inr (.inr ⟨by rw [e1]; exact hw, by rw [e1]; exact hrd, ob, nv, st.nx, ?_, e2, e3, by simp, h.step.more, h.rel.dom_none, by rw [Tr.get_put, if_pos rfl]⟩)
         rw [e1]
         refine .inl ?_
         rw [← alight_still (hp := st.hp) hrd]
         exact hv
      ·cases hs
     ·rename_i hw
      split at hs
      case h_2 => cases hs
      rename_i tm' ht
      exact ihf _ ⟨tm', st.hp, st.nx⟩ _ (I.set i st.tm undef none) L a w ρ hm (h.absorb hD g2 hnC g3 hh (st' := ⟨tm', st.hp, st.nx⟩) (v := undef) (B := none) ht h.rel (fun _ _ h => h) (Nat.le_refl _) h.step (fun b hb => by cases hb) (fun I' e1 e2 e3 => .inl ⟨by rw [e1]; exact hw, e2, e3⟩) (fun _ h => h) (fun h' => by rw [hw] at h'; cases h')) hs
     ·cases hs
    ·split at hs
     case h_2 => cases hs
     split at hs
     case h_2 => cases hs
     rename_i o ho
     split at hs
     case h_2 => cases hs
     rename_i st' hst
     cases hchk : rds.all (fun rd => comesBefore ops rd.i r || stable P st'.hp rd) with
     | false => rw [hchk] at hs; cases hs
     | true =>
      rw [hchk, cond_true] at hs
      have hrm : r ∈ Region.ready .any ops C := by rw [hrC]; simp
      obtain ⟨g1, o', g2, g3⟩ := mem_ready.1 hrm
      rw [ho] at g2
      cases g2
      have hnC := (unlisted g1).2
      refine ⟨fun hr => ?_, fun j hj => ?_⟩
      ·exfalso
       have hall := h.all hD hr
       have : r ∈ Region.ready .any ops L := mem_ready.2 ⟨unlisted_of (by rw [h.ls]; exact (Array.getElem?_eq_some_iff.1 ho).1) (fun h' => hnC (h.sub r h')), o, ho, fun e he hb => hall _ (g3 e he hb)⟩
       rw [hr] at this
       cases this
      ·obtain ⟨h1, h2, h3, oj, h4, h5⟩ := ready_in h.cs h.sub hj
       rcases h1 with h1 | h1
       ·exact pending j hj h1 oj h4 h5
       ·rw [hrC] at h1
        have hjr : j = r := by simpa using h1
        subst hjr
        rw [ho] at h4
        cases h4
        refine wpOp_mono ?_ (h.heavy hcall hD ho hnC g3 h5 hst hchk)
        rintro a' w' ⟨ρ', I', h'⟩
        refine ihm f _ st' rds I' _ a' w' ρ' ?_ h' hs
        have := unl_set (ops := ops) (L := L) h3 h.ls (mem_ready.1 hj).1
        omega
theorem region_draw {call : ACall} (hcall : CallOk P W call) (hm : P.follows .mixedOrders = true) (hD : drawOk ops = true) {id : Nat} {stF : AS} {a : Act} {w : World} (h : SRel ρ0 W n st0 a w)
  (hs : adraw P call ops n ops.size (Array.replicate ops.size false) st0 [] = some stF) (hQ : ∀ a' w' ρ', SRel ρ' W n stF a' w' → Step ρ0 ρ' st0.hp stF.hp st0.nx stF.nx → Q .normal a' w') : (Code.region id ops true).wp P Q a w := by
 refine wp_region_any hm ?_
 have hnot : ∀ i, ¬ In (Array.replicate ops.size false) i := fun i hi => by
  have := lt_of_in (ops := ops) (by simp) hi
  simp [In, this] at hi
 refine draw_main hcall hD hQ ops.size ops.size _ st0 [] ⟨fun _ => .e, fun _ => undef, fun _ => none⟩ _ a _ ρ0 ?_ ⟨by simp, by simp, fun i hi => (hnot i hi).elim, fun i hi => (hnot i hi).elim, fun i hi => hi, fun j o t hj => (hnot j hj).elim, fun t _ => rfl, h.rel.drew, h.frame.size, h.frame.defers, fun j o t hj => (hnot j hj).elim, fun t v _ hv => h.frame.slot t v hv, fun j o hj => (hnot j hj).elim, fun j k b hj => (hnot j hj).elim, .refl _ _ _, fun j o hj => (hnot j hj).elim⟩ hs
 unfold unl
 exact Nat.le_trans (List.length_filter_le _ _) (by simp)
end
end Go.Proofs.YtojlhapbngcjkaaGreatDoor

noncomputable section
namespace Go.Proofs.YtojlhapbngcjkaaGreatDoor
open Go Go.RowKit
set_option maxRecDepth 100000
set_option maxHeartbeats 8000000
inductive AEx where
 | normal
 | exit (id : Nat)
 | ret
def AEx.to : AEx → Exit
 | .normal => .normal
 | .exit id => .exit id
 | .ret => .ret
def aresL (P : Program) (hp : Tr AObj) (tm : Tr Value) : List ResultVar → Option (List Value)
 | [] => some []
 | .tmp t :: l => match tm.get t with
  | some v => match aresL P hp tm l with
   | some vs => some (v :: vs)
   | none => none
  | none => none
 | .cell a t :: l => match tm.get a with
  | some p => match aLoad P hp t p with
   | some v => match aresL P hp tm l with
    | some vs => some (v :: vs)
    | none => none
   | none => none
  | none => none
def ares (P : Program) (hp : Tr AObj) (tm : Tr Value) (fn : Func) : Option Value :=
 match aresL P hp tm fn.results.toList with
 | some [v] => some v
 | some vs => some (.tuple vs.toArray)
 | none => none
theorem aresL_sound {P : Program} {ρ : Place} {W : Base} {hp : Tr AObj} {nx : Nat} {w : World} (h : Rel ρ W hp nx w) {tm : Tr Value} {n : Nat} {D : List Deferred} {a : Act} (hF : FRel D ρ tm n a) : ∀ {l : List ResultVar} {vs : List Value}, aresL P hp tm l = some vs →
  ∃ vs', VRL ρ vs vs' ∧ (l.mapM fun x => (match x with | .tmp t => pure (a.tmps.getD t undef) | .cell p t => do loadVar t (← asAddr (a.tmps.getD p undef)) : Sem Value)).run P w = .ok vs' w
 | [], vs, hl => by simp only [aresL] at hl; cases hl; exact ⟨[], .nil, rfl⟩
 | .tmp t :: l, vs, hl => by
  simp only [aresL] at hl
  split at hl
  case h_2 => cases hl
  rename_i v hv
  split at hl
  case h_2 => cases hl
  rename_i us hus
  cases hl
  obtain ⟨vs', h1, h2⟩ := aresL_sound h hF hus
  refine ⟨a.tmps.getD t undef :: vs', .cons (hF.slot t v hv).2 h1, ?_⟩
  rw [List.mapM_cons, Sem.run_bind]
  show (Result.andThen (.ok (a.tmps.getD t undef) w) _) = _
  rw [Result.andThen_ok, Sem.run_bind, h2, Result.andThen_ok]
  rfl
 | .cell p t :: l, vs, hl => by
  simp only [aresL] at hl
  split at hl
  case h_2 => cases hl
  rename_i q hq
  split at hl
  case h_2 => cases hl
  rename_i v hv
  split at hl
  case h_2 => cases hl
  rename_i us hus
  cases hl
  obtain ⟨vs', h1, h2⟩ := aresL_sound h hF hus
  have hp' := (hF.slot p q hq).2
  obtain ⟨v', e, hr⟩ := aLoad_sound h hp' hv
  refine ⟨v' :: vs', .cons hr h1, ?_⟩
  have e' : ((asAddr (a.tmps.getD p undef)) >>= fun x => loadVar t x).run P w = .ok v' w := by
   rw [← e]
   unfold Instr.loadAt
   generalize a.tmps.getD p undef = y at hp' ⊢
   unfold aLoad at hv
   cases hp' <;> try simp only [reduceCtorEq] at hv
   rfl
  rw [List.mapM_cons, Sem.run_bind, e', Result.andThen_ok, Sem.run_bind, h2, Result.andThen_ok]
  rfl
theorem ares_sound {P : Program} {ρ : Place} {W : Base} {hp : Tr AObj} {nx : Nat} {w : World} (h : Rel ρ W hp nx w) {tm : Tr Value} {n : Nat} {D : List Deferred} {a : Act} (hF : FRel D ρ tm n a) {fn : Func} {v : Value} (hv : ares P hp tm fn = some v) :
  ∃ v', (results fn a.tmps).run P w = .ok v' w ∧ VR ρ v v' := by
 unfold ares at hv
 have run : ∀ vs', (fn.results.toList.mapM fun x => (match x with | .tmp t => pure (a.tmps.getD t undef) | .cell p t => do loadVar t (← asAddr (a.tmps.getD p undef)) : Sem Value)).run P w = .ok vs' w →
   (results fn a.tmps).run P w = .ok (if h : vs'.toArray.size = 1 then vs'.toArray[0] else .tuple vs'.toArray) w := by
  intro vs' hr
  unfold results
  rw [Sem.run_bind]
  have : (fn.results.mapM fun x => (match x with | .tmp t => pure (a.tmps.getD t undef) | .cell p t => do loadVar t (← asAddr (a.tmps.getD p undef)) : Sem Value)).run P w = .ok vs'.toArray w := by
   rw [Array.mapM_eq_mapM_toList, Sem.run_map, hr]
   rfl
  exact (congrArg (fun r => Result.andThen r _) this).trans rfl
 split at hv
 ·rename_i u hl
  cases hv
  obtain ⟨vs', h1, h2⟩ := aresL_sound h hF hl
  cases h1 with
  | cons hu hnil =>
   cases hnil
   exact ⟨_, run _ h2, by simpa using hu⟩
 ·rename_i vs hne hl
  cases hv
  obtain ⟨vs', h1, h2⟩ := aresL_sound h hF hl
  refine ⟨_, run _ h2, ?_⟩
  have hlen : vs'.length ≠ 1 := fun e => by
   have := h1.len
   match vs, hne, this with
   | [v], hne, _ => exact hne v rfl
   | [], _, h => rw [e] at h; cases h
   | _ :: _ :: _, _, h => rw [e] at h; simp at h
  rw [dif_neg (by simpa using hlen)]
  exact .tuple h1.arr.1 h1.arr.2
 ·cases hv
def putArgs : Nat → List Value → Tr Value → Tr Value
 | _, [], t => t
 | i, v :: l, t => putArgs (i + 1) l (t.put i (some v))
theorem putArgs_get : ∀ (l : List Value) (i : Nat) (t : Tr Value) (k : Nat), (putArgs i l t).get k = if i ≤ k ∧ k < i + l.length then l[k - i]? else t.get k
 | [], i, t, k => by simp [putArgs]; omega
 | v :: l, i, t, k => by
  simp only [putArgs]
  rw [putArgs_get l (i + 1) _ k, Tr.get_put]
  by_cases h : k = i
  ·subst h
   rw [if_neg (by omega), if_pos rfl, if_pos (by simp)]
   simp
  ·by_cases h1 : i + 1 ≤ k ∧ k < i + 1 + l.length
   ·rw [if_pos h1, if_pos (by simp; omega)]
    obtain ⟨j, hj⟩ : ∃ j, k = i + 1 + j := ⟨k - (i + 1), by omega⟩
    subst hj
    rw [show i + 1 + j - (i + 1) = j by omega, show i + 1 + j - i = j + 1 by omega]
    simp
   ·rw [if_neg h1, if_neg h, if_neg (by simp; omega)]
abbrev noA : ACall := fun _ _ _ _ => none
theorem noA_ok {P : Program} (W : Base) : CallOk P W noA := fun f args hp nx v hp' nx' h => (by cases h)
def acallR (P : Program) (orc : ACall) (R : Nat → Code → AS → Option (AEx × AS)) : ACall := fun f args hp nx => match orc f args hp nx with
 | some r => some r
 | none => match P.funcs[f]? with
  | some fn => match fn.body with
   | some c => match R (args.length + (fn.ntmps - args.length)) c ⟨putArgs 0 args .e, hp, nx⟩ with
    | some (.normal, st') | some (.ret, st') => match ares P st'.hp st'.tm fn with
     | some v => some (v, st'.hp, st'.nx)
     | none => none
    | _ => none
   | none => none
  | none => none
def cregion (P : Program) (orc : ACall) (R : Nat → Code → AS → Option (AEx × AS)) (n : Nat) (st : AS) (ops : Array Oper) (draw : Bool) : Option (AEx × AS) :=
 match (bif draw then (bif drawOk ops then adraw P (acallR P orc R) ops n ops.size (Array.replicate ops.size false) st [] else none) else aseq P (acallR P orc R) ops n st ops.toList) with
 | some st' => some (.normal, st')
 | none => none
def cseq (R : Nat → Code → AS → Option (AEx × AS)) (n : Nat) (y : Code) (r : Option (AEx × AS)) : Option (AEx × AS) :=
 match r with
 | some (.normal, st') => R n y st'
 | r => r
def ccond (R : Nat → Code → AS → Option (AEx × AS)) (n : Nat) (st : AS) (x y : Code) (c : Option Value) : Option (AEx × AS) :=
 match c with
 | some (.bool true) => R n x st
 | some (.bool false) => R n y st
 | _ => none
def cblock (id : Nat) (r : Option (AEx × AS)) : Option (AEx × AS) :=
 match r with
 | some (.exit j, st') => bif j.beq id then some (.normal, st') else some (.exit j, st')
 | r => r
def ctab (c : Code) : Program → ACall → (Nat → Code → AS → Option (AEx × AS)) → Nat → AS → Option (AEx × AS) :=
 Code.rec (motive := fun _ => Program → ACall → (Nat → Code → AS → Option (AEx × AS)) → Nat → AS → Option (AEx × AS))
  (fun _ _ _ _ st => some (.normal, st))
  (fun _ ops draw P orc R n st => cregion P orc R n st ops draw)
  (fun x y _ _ _ _ R n st => cseq R n y (R n x st))
  (fun c x y _ _ _ _ R n st => ccond R n st x y (aev st.tm c))
  (fun id b _ _ _ R n st => cblock id (R n b st))
  (fun b _ _ _ R n st => cseq R n (.loop b) (R n b st))
  (fun _ _ _ _ _ _ _ _ _ _ _ => none)
  (fun id _ _ _ _ st => some (.exit id, st))
  (fun b _ _ _ R n st => R n b st)
  (fun _ _ _ _ _ st => some (.normal, st))
  (fun _ _ _ _ _ _ => none)
  (fun _ _ _ _ st => some (.ret, st))
  (fun _ _ _ _ _ _ => none) c
def acode (P : Program) (orc : ACall) (k : Nat) : Nat → Code → AS → Option (AEx × AS) :=
 Nat.rec (motive := fun _ => Nat → Code → AS → Option (AEx × AS)) (fun _ _ _ => none) (fun _ ih n c st => ctab c P orc ih n st) k
theorem acode_zero (P : Program) (orc : ACall) (n : Nat) (c : Code) (st : AS) : acode P orc 0 n c st = none := rfl
theorem acode_succ (P : Program) (orc : ACall) (k n : Nat) (c : Code) (st : AS) : acode P orc (k + 1) n c st =
  (match c with
  | .skip | .label _ => some (.normal, st)
  | .region _ ops draw => cregion P orc (acode P orc k) n st ops draw
  | .seq x y => cseq (acode P orc k) n y (acode P orc k n x st)
  | .cond c x y => ccond (acode P orc k) n st x y (aev st.tm c)
  | .block id b => cblock id (acode P orc k n b st)
  | .loop b => cseq (acode P orc k) n (.loop b) (acode P orc k n b st)
  | .exit id => some (.exit id, st)
  | .ret => some (.ret, st)
  | .scope b => acode P orc k n b st
  | _ => none) := by cases c <;> rfl
def acallO (P : Program) (orc : ACall) (k : Nat) : ACall := acallR P orc (acode P orc k)
def LoopWp (P : Program) (b : Code) (Q : Exit → Act → World → Prop) (a : Act) (w : World) : Prop :=
 ∀ (fr : Frame) (k : List Item) (cs : List Frame), ∃ e a' w', Q e a' w' ∧ Arrives P (lone (fr.at a (.code b :: .inLoop b :: k)) cs w) fr k cs e a' w'
theorem loop_of {P : Program} {b : Code} {Q : Exit → Act → World → Prop} {a : Act} {w : World} (h : LoopWp P b Q a w) : (Code.loop b).wp P Q a w :=
 fun fr k cs => let ⟨e, a', w', q, r⟩ := h fr k cs; ⟨e, a', w', q, .of_steps (.one step_loop) r⟩
theorem loop_round {P : Program} {b : Code} {Q : Exit → Act → World → Prop} {a : Act} {w : World} (h : b.wp P (Exit.then (LoopWp P b Q) Q) a w) : LoopWp P b Q a w := by
 intro fr k cs
 obtain ⟨e, a₁, w₁, hq, harr⟩ := h fr (.inLoop b :: k) cs
 cases e with
 | normal =>
  obtain ⟨e₂, a₂, w₂, hq₂, harr₂⟩ := hq fr k cs
  exact ⟨e₂, a₂, w₂, hq₂, .of_steps (Steps.trans harr (.one step_inLoop)) harr₂⟩
 | exit id => exact ⟨_, a₁, w₁, hq, .pass (x := .inLoop b) rfl (fun _ _ => .inl (by simp)) harr⟩
 | goto l => exact ⟨_, a₁, w₁, hq, .pass (x := .inLoop b) rfl (fun _ _ => .inl (by simp)) harr⟩
 | ret => exact ⟨_, a₁, w₁, hq, .pass (x := .inLoop b) rfl (fun _ _ => .inl (by simp)) harr⟩
 | panic ch => exact ⟨_, a₁, w₁, hq, .pass (x := .inLoop b) rfl (fun _ _ => .inl (by simp)) harr⟩
 | outgrown => exact ⟨_, a₁, w₁, hq, .pass (x := .inLoop b) rfl (fun _ _ => .inl (by simp)) harr⟩
def Runs (W : Base) (n : Nat) (st st' : AS) (e : AEx) (g : (Exit → Act → World → Prop) → Act → World → Prop) : Prop :=
 ∀ (ρ : Place) (a : Act) (w : World) (Q : Exit → Act → World → Prop), SRel ρ W n st a w → (∀ a' w' ρ', SRel ρ' W n st' a' w' → Step ρ ρ' st.hp st'.hp st.nx st'.nx → Q e.to a' w') → g Q a w
theorem acode_sound {P : Program} (hm : P.follows .mixedOrders = true) {orc : ACall} (horc : ∀ W, CallOk P W orc) : ∀ k, (∀ W n c st e st', acode P orc k n c st = some (e, st') → Runs W n st st' e (c.wp P)) ∧
  (∀ W n b st e st', acode P orc k n (.loop b) st = some (e, st') → Runs W n st st' e (LoopWp P b)) ∧ ∀ W, CallOk P W (acallO P orc k) := by
 intro k
 induction k with
 | zero =>
  refine ⟨fun W n c st e st' h => (nomatch (show (none : Option (AEx × AS)) = some (e, st') from h)), fun W n b st e st' h => (nomatch (show (none : Option (AEx × AS)) = some (e, st') from h)), fun W f args hp nx v hp' nx' h => ?_⟩
  unfold acallO acallR at h
  split at h
  ·rename_i r hr
   cases h
   exact horc W f args hp nx _ _ _ hr
  split at h
  case h_2 => cases h
  split at h
  case h_2 => cases h
  simp [acode_zero] at h
 | succ k ih =>
  obtain ⟨ih1, ih2, ih3⟩ := ih
  have loops : ∀ W n b st e st', acode P orc (k + 1) n (.loop b) st = some (e, st') → Runs W n st st' e (LoopWp P b) := by
   intro W n b st e st' h ρ a w Q hs hQ
   rw [acode_succ] at h; dsimp only [cseq, ccond, cblock, cregion] at h
   refine loop_round ?_
   split at h
   ·rename_i st1 h1
    refine ih1 W n b st .normal st1 h1 ρ a w _ hs fun a' w' ρ' g1 g2 => ?_
    exact ih2 W n b st1 e st' h ρ' a' w' Q g1 fun a2 w2 ρ2 k1 k2 => hQ a2 w2 ρ2 k1 (g2.trans k2)
   ·rename_i hne
    refine ih1 W n b st e st' h ρ a w _ hs fun a' w' ρ' g1 g2 => ?_
    cases e with
    | normal => exact (hne st' h).elim
    | exit id => exact hQ a' w' ρ' g1 g2
    | ret => exact hQ a' w' ρ' g1 g2
  have codes : ∀ W n c st e st', acode P orc (k + 1) n c st = some (e, st') → Runs W n st st' e (c.wp P) := by
   intro W n c st e st' h ρ a w Q hs hQ
   cases c with
   | loop b => exact loop_of (loops W n b st e st' h ρ a w Q hs hQ)
   | skip => rw [acode_succ] at h; dsimp only [cseq, ccond, cblock, cregion] at h; cases h; exact wp_skip (hQ a w ρ hs (.refl _ _ _))
   | label l => rw [acode_succ] at h; dsimp only [cseq, ccond, cblock, cregion] at h; cases h; exact wp_label (hQ a w ρ hs (.refl _ _ _))
   | exit id => rw [acode_succ] at h; dsimp only [cseq, ccond, cblock, cregion] at h; cases h; exact wp_exit (hQ a w ρ hs (.refl _ _ _))
   | ret => rw [acode_succ] at h; dsimp only [cseq, ccond, cblock, cregion] at h; cases h; exact wp_ret (hQ a w ρ hs (.refl _ _ _))
   | goto l => rw [acode_succ] at h; cases h
   | refuse y => rw [acode_succ] at h; cases h
   | scope b =>
    rw [acode_succ] at h; dsimp only [cseq, ccond, cblock, cregion] at h
    refine wp_scope_straight ?_
    refine ih1 W n b st e st' h ρ a w _ hs fun a' w' ρ' g1 g2 => ?_
    cases e <;> exact hQ a' w' ρ' g1 g2
   | rangeFunc f ps x y => rw [acode_succ] at h; cases h
   | region id ops draw =>
    rw [acode_succ] at h; dsimp only [cseq, ccond, cblock, cregion] at h
    split at h
    case h_2 => cases h
    rename_i st1 h1
    cases h
    cases draw with
    | false =>
     simp only [cond_false] at h1
     exact region_seq (call := acallO P orc k) (ih3 W) hs h1 hQ
    | true =>
     simp only [cond_true] at h1
     cases hD : drawOk ops with
     | false => rw [hD] at h1; cases h1
     | true =>
      rw [hD, cond_true] at h1
      exact region_draw (call := acallO P orc k) (ih3 W) hm hD hs h1 hQ
   | seq x y =>
    rw [acode_succ] at h; dsimp only [cseq, ccond, cblock, cregion] at h
    refine wp_seq ?_
    split at h
    ·rename_i st1 h1
     refine ih1 W n x st .normal st1 h1 ρ a w _ hs fun a' w' ρ' g1 g2 => ?_
     exact ih1 W n y st1 e st' h ρ' a' w' Q g1 fun a2 w2 ρ2 k1 k2 => hQ a2 w2 ρ2 k1 (g2.trans k2)
    ·rename_i hne
     refine ih1 W n x st e st' h ρ a w _ hs fun a' w' ρ' g1 g2 => ?_
     cases e with
     | normal => exact (hne st' h).elim
     | exit id => exact hQ a' w' ρ' g1 g2
     | ret => exact hQ a' w' ρ' g1 g2
   | cond c x y =>
    rw [acode_succ] at h; dsimp only [cseq, ccond, cblock, cregion] at h
    split at h
    ·rename_i hc
     have := hs.frame.eval hc
     refine wp_cond_true (c := c) ?_ (ih1 W n x st e st' h ρ a w Q hs hQ)
     generalize a.eval c = z at this
     cases this
     rfl
    ·rename_i hc
     have := hs.frame.eval hc
     refine wp_cond_false (c := c) ?_ (ih1 W n y st e st' h ρ a w Q hs hQ)
     generalize a.eval c = z at this
     cases this
     rfl
    ·cases h
   | block id b =>
    rw [acode_succ] at h; dsimp only [cseq, ccond, cblock, cregion] at h
    refine wp_block ?_
    split at h
    ·rename_i j st1 h1
     refine ih1 W n b st (.exit j) st1 h1 ρ a w _ hs fun a' w' ρ' g1 g2 => ?_
     simp only [AEx.to, Exit.inBlock]
     cases hj : j.beq id with
     | true =>
      rw [hj] at h
      cases h
      rw [if_pos (Nat.eq_of_beq_eq_true hj)]
      exact hQ a' w' ρ' g1 g2
     | false =>
      rw [hj] at h
      cases h
      rw [if_neg (fun e => by subst e; simp at hj)]
      exact hQ a' w' ρ' g1 g2
    ·rename_i hne
     refine ih1 W n b st e st' h ρ a w _ hs fun a' w' ρ' g1 g2 => ?_
     cases e with
     | normal => exact hQ a' w' ρ' g1 g2
     | exit j => exact (hne j st' h).elim
     | ret => exact hQ a' w' ρ' g1 g2
  refine ⟨codes, loops, fun W f args hp nx v hp' nx' h ρ w args' hrel hargs => ?_⟩
  unfold acallO acallR at h
  split at h
  ·rename_i r hr
   cases h
   exact horc W f args hp nx _ _ _ hr ρ w args' hrel hargs
  split at h
  case h_2 => cases h
  rename_i fn hfn
  split at h
  case h_2 => cases h
  rename_i c hc
  have start : SRel ρ W.bare (args.length + (fn.ntmps - args.length)) ⟨putArgs 0 args .e, hp, nx⟩ { tmps := args'.toArray ++ Array.replicate (fn.ntmps - args'.toArray.size) undef, defers := [] } w := by
   refine ⟨hrel.bare, ?_, rfl, fun t u hu => ?_⟩
   ·simp [hargs.len]
   ·rw [putArgs_get] at hu
    by_cases ht : 0 ≤ t ∧ t < 0 + args.length
    ·rw [if_pos ht] at hu
     have hlt : t < args'.length := by rw [← hargs.len]; omega
     refine ⟨by omega, ?_⟩
     have hg := hargs.get (i := t) (v := u) (v' := args'[t]) (by simpa using hu) (by simp)
     rw [Array.getD_eq_getD_getElem?, Array.getElem?_append_left (by simpa using hlt)]
     simpa [hlt] using hg
    ·rw [if_neg ht] at hu
     simp [Tr.get_e] at hu
  have fin : ∀ e st', acode P orc (k + 1) (args.length + (fn.ntmps - args.length)) c ⟨putArgs 0 args .e, hp, nx⟩ = some (e, st') → (e = .normal ∨ e = .ret) → (match ares P st'.hp st'.tm fn with | some v => some (v, st'.hp, st'.nx) | none => none) = some (v, hp', nx') →
    Calls P f args'.toArray w fun e w' => ∃ v' ρ', e = .returned v' ∧ VR ρ' v v' ∧ Rel ρ' W hp' nx' w' ∧ Step ρ ρ' hp hp' nx nx' := by
   intro e st' hac he hr
   split at hr
   case h_2 => cases hr
   rename_i u hu
   cases hr
   refine calls_of_wp hfn hc (codes _ _ c _ e st' hac ρ _ w _ start fun a' w' ρ' g1 g2 => ?_)
   obtain ⟨v', r1, r2⟩ := ares_sound g1.rel g1.frame hu
   rcases he with rfl | rfl
   ·exact ⟨g1.frame.defers, v', r1, v', ρ', rfl, r2, g1.rel.unbare, g2⟩
   ·exact ⟨g1.frame.defers, v', r1, v', ρ', rfl, r2, g1.rel.unbare, g2⟩
  split at h
  ·rename_i st' hac
   exact fin _ st' hac (.inl rfl) h
  ·rename_i st' hac
   exact fin _ st' hac (.inr rfl) h
  ·cases h
end Go.Proofs.YtojlhapbngcjkaaGreatDoor
