/-
  Symbolic runs, part 6: regions. Conditions: as each theorem states them.
-/
import Derived.Test.YtegjnjmimfgijaaGreatDoorSe
noncomputable section
namespace Go.Proofs.YtegjnjmimfgijaaGreatDoor
open Go Go.RowKit

/-- An operation is wanted (X), or not (Y). -/
def vguard (ops : Array Oper) (tm : Tr Value) (o : Oper) (X Y : Prop) : Prop :=
  match o.guard with
  | none => X
  | some (j, want) => match (ops[j]?).bind (·.dst) with
    | none => Y
    | some d => match tm.get d with
      | some (.bool b) => Bool.rec (motive := fun _ => Prop) (pIf b Y X) (pIf b X Y) want
      | some _ => Y
      | none => False
theorem vguard_cases {ops : Array Oper} {tm : Tr Value} {o : Oper} {X Y : Prop} (h : vguard ops tm o X Y) : (awanted ops tm o = some true ∧ X) ∨ (awanted ops tm o = some false ∧ Y) := by
  unfold vguard at h
  unfold awanted
  cases hg : o.guard with
  | none => rw [hg] at h; exact .inl ⟨rfl, h⟩
  | some p =>
    obtain ⟨j, want⟩ := p
    rw [hg] at h
    dsimp only at h ⊢
    cases hd : (ops[j]?).bind (·.dst) with
    | none => rw [hd] at h; exact .inr ⟨rfl, h⟩
    | some d =>
      rw [hd] at h
      dsimp only at h ⊢
      cases hv : tm.get d with
      | none => rw [hv] at h; exact h.elim
      | some v =>
        rw [hv] at h
        cases v <;> try exact .inr ⟨rfl, h⟩
        rename_i b
        cases want <;> cases b <;> first | exact .inl ⟨rfl, h⟩ | exact .inr ⟨rfl, h⟩
/-- The reads that may come later read the same. -/
def vstab (P : Program) (hp : Tr AObj) (ops : Array Oper) (r : Nat) : List Rd → Prop
  | [] => True
  | rd :: l => bif comesBefore ops rd.i r then vstab P hp ops r l else match slight P hp rd.o (aev rd.tm) with
    | some (.val v, ob) => (v = rd.v ∧ ob) ∧ vstab P hp ops r l
    | _ => False
theorem vstab_ok {P : Program} {hp : Tr AObj} {ops : Array Oper} {r : Nat} : ∀ {l : List Rd}, vstab P hp ops r l → ∀ rd ∈ l, comesBefore ops rd.i r = true ∨ LOk P hp rd.o (aev rd.tm) (.val rd.v)
  | [], _, rd, hm => by cases hm
  | x :: l, h, rd, hm => by
    simp only [vstab] at h
    cases hc : comesBefore ops x.i r with
    | true =>
      rw [hc, cond_true] at h
      rcases List.mem_cons.1 hm with rfl | hm
      · exact .inl hc
      · exact vstab_ok h rd hm
    | false =>
      rw [hc, cond_false] at h
      split at h
      case h_2 => exact h.elim
      rename_i v ob hv
      rcases List.mem_cons.1 hm with rfl | hm
      · refine .inr (.inr ⟨ob, ?_, h.1.2⟩)
        rw [hv, h.1.1]
      · exact vstab_ok h.2 rd hm
def vdraw (P : Program) (vc : VCall) (ops : Array Oper) (n : Nat) : Nat → Array Bool → AS → List Rd → (AS → Prop) → Prop
  | 0, listed, st, _, K => match Region.ready .any ops listed with
    | [] => K st
    | _ => False
  | f + 1, listed, st, rds, K => match Region.ready .any ops listed with
    | [] => K st
    | r :: rs => match (r :: rs).find? (lightIdx ops) with
      | some i => match ops[i]? with
        | some o => vguard ops st.tm o
            (match slight P st.hp o (aev st.tm) with
            | some (.val v, ob) => ob ∧ vsplit v fun v => match aput n st.tm o.dst v with
              | some tm' => vdraw P vc ops n f (listed.setIfInBounds i true) ⟨tm', st.hp, st.nx⟩ (bif isRead o (aev st.tm) then ⟨i, o, st.tm, v⟩ :: rds else rds) K
              | none => False
            | some (.new b nv, ob) => match aput n st.tm o.dst (nv.val st.nx) with
              | some tm' => bif isRead o (aev st.tm) then False else ob ∧ vdraw P vc ops n f (listed.setIfInBounds i true) ⟨tm', st.hp.put st.nx (some b), st.nx + 1⟩ rds K
              | none => False
            | none => False)
            (match aput n st.tm o.dst undef with
            | some tm' => vdraw P vc ops n f (listed.setIfInBounds i true) ⟨tm', st.hp, st.nx⟩ rds K
            | none => False)
        | none => False
      | none => match rs with
        | [] => match ops[r]? with
          | some o => vguard ops st.tm o
              (vheavy P vc st.hp st.nx o (aev st.tm) fun v c hp' nx' => vsplit v fun v => match aput n st.tm o.dst v with
                | some tm' => Bool.rec (motive := fun _ => Prop) True (vstab P hp' ops r rds) c ∧ vdraw P vc ops n f (listed.setIfInBounds r true) ⟨tm', hp', nx'⟩ rds K
                | none => False)
              (match aput n st.tm o.dst undef with
              | some tm' => vdraw P vc ops n f (listed.setIfInBounds r true) ⟨tm', st.hp, st.nx⟩ rds K
              | none => False)
          | none => False
        | _ => False
theorem sBin_congr {ev ev' : Operand → Option Value} {xs : List Operand} (h : ∀ x ∈ xs, ev x = ev' x) : evL ev xs = evL ev' xs := evL_congr h
theorem vheavy_congr {P : Program} {vc : VCall} {hp : Tr AObj} {nx : Nat} {o : Oper} {ev ev' : Operand → Option Value} {K : Value → Bool → Tr AObj → Nat → Prop} (h : ∀ x ∈ o.op.operands, ev x = ev' x) : vheavy P vc hp nx o ev K = vheavy P vc hp nx o ev' K := by
  obtain ⟨dst, op, type, pos, after, guard⟩ := o
  unfold vheavy
  cases op <;> dsimp only
  case store t x y => rw [h x (by simp [Op.operands]), h y (by simp [Op.operands])]
  case next x q => rw [h x (by simp [Op.operands])]
  case call c =>
    obtain ⟨callee, args, argTypes⟩ := c
    dsimp only
    have hA : evL ev args.toList = evL ev' args.toList := evL_congr fun x hx => h x (by simp [Op.operands, Call.operands]; exact .inr (by simpa using hx))
    split
    · rw [hA]
    · rename_i f
      rw [hA, h f (by simp [Op.operands, Call.operands])]
    · rfl
section
variable {P : Program} {W : Base} {ops : Array Oper} {n : Nat} {st0 : AS} {ρ0 : Place} {Q : Exit → Act → World → Prop}
theorem vdraw_main {vc : VCall} (hcall : VCallOk P vc) (hD : drawOk ops = true) {K : AS → Prop} (hQ : ∀ st, K st → ∀ a' w' ρ', SRel ρ' W n st a' w' → Step ρ0 ρ' st0.hp st.hp st0.nx st.nx → Q .normal a' w') :
    ∀ (m f : Nat) (C : Array Bool) (st : AS) (rds : List Rd) (I : Info) (L : Array Bool) (a : Act) (w : World) (ρ : Place), unl ops L ≤ m → Inv P W ops n st0 ρ0 C st rds I L a w ρ → vdraw P vc ops n f C st rds K → wpAny P .any ops Q m L a w := by
  intro m
  induction m with
  | zero =>
    intro f C st rds I L a w ρ hm h hs
    have hr : Region.ready .any ops L = [] := by
      have hnil : ((List.range ops.size).filter fun i => !L.getD i true) = [] := List.eq_nil_of_length_eq_zero (Nat.le_zero.1 hm)
      apply List.eq_nil_iff_forall_not_mem.2
      intro j hj
      obtain ⟨h1, o, h2, h3⟩ := mem_ready.1 hj
      have : j ∈ ((List.range ops.size).filter fun i => !L.getD i true) := by
        simp only [List.mem_filter, List.mem_range]
        exact ⟨(Array.getElem?_eq_some_iff.1 h2).1, by rw [h1]; rfl⟩
      rw [hnil] at this
      cases this
    have hall := h.all hD hr
    have hallI : ∀ i, i < ops.size → In L i := fun i hi => Classical.byContradiction fun hn => by
      have : i ∈ ((List.range ops.size).filter fun i => !L.getD i true) := by
        simp only [List.mem_filter, List.mem_range]
        exact ⟨hi, by rw [unlisted_of (by rw [h.ls]; exact hi) hn]; rfl⟩
      rw [List.eq_nil_of_length_eq_zero (Nat.le_zero.1 hm)] at this
      cases this
    have hrC : Region.ready .any ops C = [] := by
      apply List.eq_nil_iff_forall_not_mem.2
      intro j hj
      obtain ⟨h1, o, h2, h3⟩ := mem_ready.1 hj
      exact (unlisted h1).2 (h.sub j (hallI j (Array.getElem?_eq_some_iff.1 h2).1))
    have hst : K st := by
      cases f with
      | zero => simp only [vdraw, hrC] at hs; exact hs
      | succ f => simp only [vdraw, hrC] at hs; exact hs
    exact ⟨hr, hQ st hst a w ρ (h.done hall) h.step⟩
  | succ m ihm =>
    intro f
    induction f with
    | zero =>
      intro C st rds I L a w ρ hm h hs
      have hs0 := hs
      simp only [vdraw] at hs
      split at hs
      case h_2 => exact hs.elim
      rename_i hrC
      refine ⟨fun hr => hQ st hs a w ρ (h.done (h.all hD hr)) h.step, fun j hj => ?_⟩
      obtain ⟨h1, h2, h3, o, h4, h5⟩ := ready_in h.cs h.sub hj
      rw [hrC] at h1
      have hjC := h1.resolve_right (by simp)
      refine wpOp_mono ?_ (h.run hD h4 hjC h2 h5)
      rintro a' w' ⟨ρ', h'⟩
      refine ihm 0 C _ rds I _ a' w' ρ' ?_ h' hs0
      have := unl_set (ops := ops) (L := L) h3 h.ls (mem_ready.1 hj).1
      omega
    | succ f ihf =>
      intro C st rds I L a w ρ hm h hs
      have pending : ∀ j, j ∈ Region.ready .any ops L → In C j → ∀ o, ops[j]? = some o → (∀ e ∈ o.after, Region.binds .any e = true → In L e.on) → wpOp P ops Q j (wpAny P .any ops Q m (L.setIfInBounds j true)) a w := by
        intro j hj hjC o ho hall
        refine wpOp_mono ?_ (h.run hD ho hjC (unlisted (mem_ready.1 hj).1).2 hall)
        rintro a' w' ⟨ρ', h'⟩
        refine ihm (f + 1) C st rds I _ a' w' ρ' ?_ h' hs
        have := unl_set (ops := ops) (L := L) (Array.getElem?_eq_some_iff.1 ho).1 h.ls (mem_ready.1 hj).1
        omega
      have hs0 := hs
      simp only [vdraw] at hs
      split at hs
      · rename_i hrC
        refine ⟨fun hr => hQ st hs a w ρ (h.done (h.all hD hr)) h.step, fun j hj => ?_⟩
        obtain ⟨h1, h2, h3, o, h4, h5⟩ := ready_in h.cs h.sub hj
        rw [hrC] at h1
        exact pending j hj (h1.resolve_right (by simp)) o h4 h5
      · rename_i r rs hrC
        split at hs
        · rename_i i hf
          have him : i ∈ Region.ready .any ops C := by rw [hrC]; exact List.mem_of_find?_eq_some hf
          have hil := List.find?_some hf
          obtain ⟨g1, o, g2, g3⟩ := mem_ready.1 him
          have hnC := (unlisted g1).2
          have hh : isHeavy o.op = false := by
            unfold lightIdx at hil
            rw [g2] at hil
            simpa using hil
          rw [g2] at hs
          dsimp only at hs
          rcases vguard_cases hs with ⟨hw, hs⟩ | ⟨hw, hs⟩
          · split at hs
            · rename_i v ob hv
              obtain ⟨hob, hs⟩ := hs
              replace hs := vsplit_ap hs
              split at hs
              case h_2 => exact hs.elim
              rename_i tm' ht
              refine ihf _ ⟨tm', st.hp, st.nx⟩ _ (I.set i st.tm v none) L a w ρ hm (h.absorb hD g2 hnC g3 hh (st' := ⟨tm', st.hp, st.nx⟩) (v := v) (B := none) ht h.rel (fun _ _ h => h) (Nat.le_refl _) h.step (fun b hb => by cases hb) (fun I' e1 e2 e3 => .inr (.inl ⟨by rw [e1]; exact hw, .inr ⟨ob, by rw [e1, e2]; exact hv, hob⟩, e3⟩)) ?_ ?_) hs
              · intro x hx
                cases isRead o (aev st.tm) <;> simp [hx]
              · intro _ hrd
                rw [hrd]
                simp
            · rename_i ob nv obp hv
              split at hs
              case h_2 => exact hs.elim
              rename_i tm' ht
              cases hrd : isRead o (aev st.tm) with
              | true => rw [hrd] at hs; exact hs.elim
              | false =>
                rw [hrd, cond_false] at hs
                obtain ⟨hob, hs⟩ := hs
                refine ihf _ ⟨tm', st.hp.put st.nx (some ob), st.nx + 1⟩ _ (I.set i st.tm (nv.val st.nx) (some st.nx)) L a w ρ hm (h.absorb hD g2 hnC g3 hh (st' := ⟨tm', st.hp.put st.nx (some ob), st.nx + 1⟩) (v := nv.val st.nx) (B := some st.nx) ht (h.rel.reserve ob) ?_ (Nat.le_succ _) ?_ (fun b hb => by cases hb; exact Nat.le_refl _) (fun I' e1 e2 e3 => ?_) (fun _ h => h) (fun _ h' => by rw [hrd] at h'; cases h')) hs
                · intro b x hb
                  have : b ≠ st.nx := fun e => by rw [e, h.rel.fresh _ (Nat.le_refl _)] at hb; cases hb
                  rw [Tr.get_put, if_neg this]
                  exact hb
                · exact ⟨h.step.le, Nat.le_succ_of_le h.step.more, fun b hb hr => by
                    have := h.step.old b hb hr
                    refine ⟨this.1, ?_⟩
                    rw [Tr.get_put, if_neg (by have := h.step.more; omega)]
                    exact this.2⟩
                · refine .inr (.inr ⟨by rw [e1]; exact hw, by rw [e1]; exact hrd, ob, nv, st.nx, ?_, e2, e3, by simp, h.step.more, h.rel.dom_none, by rw [Tr.get_put, if_pos rfl]⟩)
                  rw [e1]
                  exact LOk.still (hp := st.hp) hrd (.inr ⟨obp, hv, hob⟩)
            · exact hs.elim
          · split at hs
            case h_2 => exact hs.elim
            rename_i tm' ht
            exact ihf _ ⟨tm', st.hp, st.nx⟩ _ (I.set i st.tm undef none) L a w ρ hm (h.absorb hD g2 hnC g3 hh (st' := ⟨tm', st.hp, st.nx⟩) (v := undef) (B := none) ht h.rel (fun _ _ h => h) (Nat.le_refl _) h.step (fun b hb => by cases hb) (fun I' e1 e2 e3 => .inl ⟨by rw [e1]; exact hw, e2, e3⟩) (fun _ h => h) (fun h' => by rw [hw] at h'; cases h')) hs
        · split at hs
          case h_2 => exact hs.elim
          split at hs
          case h_2 => exact hs.elim
          rename_i o ho
          have hrm : r ∈ Region.ready .any ops C := by rw [hrC]; simp
          obtain ⟨g1, o', g2, g3⟩ := mem_ready.1 hrm
          rw [ho] at g2
          cases g2
          have hnC := (unlisted g1).2
          refine ⟨fun hr => ?_, fun j hj => ?_⟩
          · exfalso
            have hall := h.all hD hr
            have : r ∈ Region.ready .any ops L := mem_ready.2 ⟨unlisted_of (by rw [h.ls]; exact (Array.getElem?_eq_some_iff.1 ho).1) (fun h' => hnC (h.sub r h')), o, ho, fun e he hb => hall _ (g3 e he hb)⟩
            rw [hr] at this
            cases this
          · obtain ⟨h1, h2, h3, oj, h4, h5⟩ := ready_in h.cs h.sub hj
            rcases h1 with h1 | h1
            · exact pending j hj h1 oj h4 h5
            · rw [hrC] at h1
              have hjr : j = r := by simpa using h1
              subst hjr
              rw [ho] at h4
              cases h4
              have hlk := h.heavyLook hD ho hnC g3 h5
              obtain ⟨ev', he1, he2⟩ := erel_of_looks hlk
              have fin : ∀ (st' : AS) (a' : Act) (w' : World), (∃ ρ' I', Inv P W ops n st0 ρ0 (C.setIfInBounds j true) st' rds I' (L.setIfInBounds j true) a' w' ρ') → vdraw P vc ops n f (C.setIfInBounds j true) st' rds K → wpAny P .any ops Q m (L.setIfInBounds j true) a' w' := by
                rintro st' a' w' ⟨ρ', I', h'⟩ hs'
                refine ihm f _ st' rds I' _ a' w' ρ' ?_ h' hs'
                have := unl_set (ops := ops) (L := L) h3 h.ls (mem_ready.1 hj).1
                omega
              unfold wpOp
              simp only [ho]
              rcases vguard_cases hs with ⟨hw, hs⟩ | ⟨hw, hs⟩
              · rw [awanted_sound' h.size hlk hw, if_pos rfl]
                rw [vheavy_congr he2] at hs
                refine .inl (vheavy_sound hcall h.rel he1 hs fun v c hp' nx' v' w' ρ' hK hch q1 q2 q3 => ?_)
                replace hK := vsplit_ap hK
                split at hK
                case h_2 => exact hK.elim
                rename_i tm' ht
                exact fin ⟨tm', hp', nx'⟩ _ _ (h.heavyFin hD ho hnC g3 h5 (st' := ⟨tm', hp', nx'⟩) (by
                  cases c with
                  | false => exact .inl (hch rfl)
                  | true => exact .inr (vstab_ok hK.1)) v v' w' ρ' ht q1 q2 q3) hK.2
              · rw [awanted_sound' h.size hlk hw, if_neg (by simp)]
                split at hs
                case h_2 => exact hs.elim
                rename_i tm' ht
                exact fin ⟨tm', st.hp, st.nx⟩ _ _ (h.heavyFin hD ho hnC g3 h5 (st' := ⟨tm', st.hp, st.nx⟩) (.inl rfl) undef undef w ρ ht (closed_refl (by simp [undef, closed])) h.rel (.refl _ _ _)) hs
end
end Go.Proofs.YtegjnjmimfgijaaGreatDoor
