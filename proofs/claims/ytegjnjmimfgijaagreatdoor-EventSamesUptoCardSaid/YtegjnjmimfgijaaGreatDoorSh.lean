/-
  Symbolic runs, part 8: code, with what must be shown; loops. Conditions: as each theorem states them.
-/
import Derived.Test.YtegjnjmimfgijaaGreatDoorSgb
noncomputable section
namespace Go.Proofs.YtegjnjmimfgijaaGreatDoor
open Go Go.RowKit

/-- A region in the text's order. -/
def vseq (P : Program) (vc : VCall) (ops : Array Oper) (n : Nat) : List Oper → AS → (AS → Prop) → Prop
  | [], st, K => K st
  | o :: l, st, K => vguard ops st.tm o
      (bif isHeavy o.op then vheavy P vc st.hp st.nx o (aev st.tm) fun v _ hp' nx' => vsplit v fun v => match aput n st.tm o.dst v with
          | some tm' => vseq P vc ops n l ⟨tm', hp', nx'⟩ K
          | none => False
        else match slight P st.hp o (aev st.tm) with
          | some (.val v, ob) => ob ∧ vsplit v fun v => match aput n st.tm o.dst v with
            | some tm' => vseq P vc ops n l ⟨tm', st.hp, st.nx⟩ K
            | none => False
          | some (.new b nv, ob) => match aput n st.tm o.dst (nv.val st.nx) with
            | some tm' => ob ∧ vseq P vc ops n l ⟨tm', st.hp.put st.nx (some b), st.nx + 1⟩ K
            | none => False
          | none => False)
      (match aput n st.tm o.dst undef with
        | some tm' => vseq P vc ops n l ⟨tm', st.hp, st.nx⟩ K
        | none => False)
theorem vseq_sound {P : Program} {vc : VCall} {W : Base} (hcall : VCallOk P vc) {ops : Array Oper} {n : Nat} {Q : Exit → Act → World → Prop} : ∀ (l : List Oper) (k : Nat) (st : AS) (K : AS → Prop) (ρ : Place) (a : Act) (w : World), ops.toList.drop k = l →
    SRel ρ W n st a w → vseq P vc ops n l st K → (∀ st', K st' → ∀ a' w' ρ', SRel ρ' W n st' a' w' → Step ρ ρ' st.hp st'.hp st.nx st'.nx → Q .normal a' w') → wpOps P ops Q (List.range' k l.length) a w
  | [], k, st, K, ρ, a, w, _, h, hs, hk => by
    simp only [vseq] at hs
    exact hk st hs a w ρ h (.refl _ _ _)
  | o :: l, k, st, K, ρ, a, w, hd, h, hs, hk => by
    simp only [vseq] at hs
    have hi : ops[k]? = some o := by
      have : (ops.toList.drop k)[0]? = some o := by rw [hd]; rfl
      rw [List.getElem?_drop] at this
      simpa using this
    have next : ∀ (st1 : AS) (a1 : Act) (w1 : World) (ρ1 : Place), SRel ρ1 W n st1 a1 w1 → Step ρ ρ1 st.hp st1.hp st.nx st1.nx → vseq P vc ops n l st1 K → wpOps P ops Q (List.range' (k + 1) l.length) a1 w1 :=
      fun st1 a1 w1 ρ1 hr hst hv => vseq_sound hcall l (k + 1) st1 K ρ1 a1 w1 (by rw [← List.drop_drop, hd]; rfl) hr hv fun st' hK a' w' ρ' g1 g2 => hk st' hK a' w' ρ' g1 (hst.trans g2)
    rw [List.length_cons, List.range'_succ, wpOps_cons]
    unfold wpOp
    simp only [hi]
    rcases vguard_cases hs with ⟨hw, hs⟩ | ⟨hw, hs⟩
    · rw [awanted_sound h.frame hw, if_pos rfl]
      refine .inl ?_
      cases hh : isHeavy o.op with
      | true =>
        rw [hh, cond_true] at hs
        refine vheavy_sound hcall h.rel h.frame.ev hs fun v c hp' nx' v' w' ρ' hK _ q1 q2 q3 => ?_
        replace hK := vsplit_ap hK
        split at hK
        case h_2 => exact hK.elim
        rename_i tm' ht
        exact next ⟨tm', hp', nx'⟩ _ _ ρ' ⟨q2, aput_sound (h.frame.mono q3.le) ht q1⟩ q3 hK
      | false =>
        rw [hh, cond_false] at hs
        split at hs
        · rename_i v ob hv
          obtain ⟨hob, hs⟩ := hs
          replace hs := vsplit_ap hs
          split at hs
          case h_2 => exact hs.elim
          rename_i tm' ht
          obtain ⟨v', h1, h2⟩ := slight_sound (r := .val v) h.rel h.frame.ev hv hob
          unfold Oper.wp
          rw [h1]
          exact next ⟨tm', st.hp, st.nx⟩ _ _ ρ ⟨h.rel, aput_sound h.frame ht h2⟩ (.refl _ _ _) hs
        · rename_i ob nv obp hv
          split at hs
          case h_2 => exact hs.elim
          rename_i tm' ht
          obtain ⟨v', ob', d, z, h1, h2, h3⟩ := slight_sound (r := .new ob nv) h.rel h.frame.ev hv hs.1
          unfold Oper.wp
          rw [h1]
          have hrel := ((h.rel.at_drawn d).reserve ob).realize (b := st.nx) (z := z) (ob := ob') (by omega) h.rel.dom_none (by rw [Tr.get_put, if_pos rfl]) (h2 _ h.rel.below.fresh)
          have hle := Place.le_set (x := (w.heap.size, 0, z)) h.rel.dom_none
          exact next ⟨tm', st.hp.put st.nx (some ob), st.nx + 1⟩ _ _ _ ⟨hrel, aput_sound (h.frame.mono hle) ht (h3 _ _ (Place.set_same ρ st.nx _))⟩ ⟨hle, Nat.le_succ _, fun b hb hr => ⟨by rw [Place.set_other (by omega)]; exact hr, by show (st.hp.put st.nx (some ob)).get b = _; rw [Tr.get_put, if_neg (by omega)]⟩⟩ hs.2
        · exact hs.elim
    · rw [awanted_sound h.frame hw, if_neg (by simp)]
      split at hs
      case h_2 => exact hs.elim
      rename_i tm' ht
      exact next ⟨tm', st.hp, st.nx⟩ _ _ ρ ⟨h.rel, aput_sound h.frame ht (closed_refl (by simp [undef, closed]))⟩ (.refl _ _ _) hs
def vregion (P : Program) (vc : VCall) (n : Nat) (ops : Array Oper) (draw : Bool) (st : AS) (K : AS → Prop) : Prop :=
  bif draw then (bif drawOk ops then vdraw P vc ops n ops.size (Array.replicate ops.size false) st [] K else False) else vseq P vc ops n ops.toList st K
theorem vregion_sound {P : Program} {vc : VCall} {W : Base} (hcall : VCallOk P vc) (hm : P.follows .mixedOrders = true) {ops : Array Oper} {draw : Bool} {id n : Nat} {Q : Exit → Act → World → Prop} {st : AS} {K : AS → Prop} {ρ : Place} {a : Act} {w : World} (h : SRel ρ W n st a w)
    (hs : vregion P vc n ops draw st K) (hk : ∀ st', K st' → ∀ a' w' ρ', SRel ρ' W n st' a' w' → Step ρ ρ' st.hp st'.hp st.nx st'.nx → Q .normal a' w') : (Code.region id ops draw).wp P Q a w := by
  unfold vregion at hs
  cases draw with
  | false =>
    rw [cond_false] at hs
    refine wp_region ?_
    rw [List.range_eq_range']
    have := vseq_sound hcall (Q := Q) ops.toList 0 st K ρ a w (by simp) h hs hk
    simpa using this
  | true =>
    rw [cond_true] at hs
    cases hD : drawOk ops with
    | false => rw [hD] at hs; exact hs.elim
    | true =>
      rw [hD, cond_true] at hs
      refine wp_region_any hm ?_
      have hnot : ∀ i, ¬ In (Array.replicate ops.size false) i := fun i hi => by
        have := lt_of_in (ops := ops) (by simp) hi
        simp [In, this] at hi
      refine vdraw_main hcall hD hk ops.size ops.size _ st [] ⟨fun _ => .e, fun _ => undef, fun _ => none⟩ _ a _ ρ ?_ ⟨by simp, by simp, fun i hi => (hnot i hi).elim, fun i hi => (hnot i hi).elim, fun i hi => hi, fun j o t hj => (hnot j hj).elim, fun t _ => rfl, h.rel.drew, h.frame.size, h.frame.defers, fun j o t hj => (hnot j hj).elim, fun t v _ hv => h.frame.slot t v hv, fun j o hj => (hnot j hj).elim, fun j k b hj => (hnot j hj).elim, .refl _ _ _, fun j o hj => (hnot j hj).elim⟩ hs
      unfold unl
      exact Nat.le_trans (List.length_filter_le _ _) (by simp)

/-- What is left to do behind a piece of code. -/
inductive Fr where
  | seq (y : Code)
  | block (id : Nat)
  | loop (b : Code)
inductive VM where
  | code (c : Code)
  | normal
  | exit (id : Nat)
  | ret
/-- The first region of a piece of code. -/
def rid : Code → Option Nat
  | .region id _ _ => some id
  | .seq x y => match rid x with
    | some i => some i
    | none => rid y
  | .cond _ x y => match rid x with
    | some i => some i
    | none => rid y
  | .block _ b => rid b
  | .loop b => rid b
  | _ => none
def slotsOf (i : Option Nat) : List (Nat × List Nat) → Option (List Nat)
  | [] => none
  | x :: l => match i with
    | some j => bif j.beq x.1 then some x.2 else slotsOf i l
    | none => none
/-- At a loop's head. -/
def vloop (lt : List (Nat × List Nat)) (base : List Bool) (H : Code → List Fr → AS → Prop) (b : Code) (k : List Fr) (st : AS) : Prop :=
  match slotsOf (rid b) lt with
  | some ts => match frzTms base.length ts st with
    | some (st0, ob0) => match canon base (ts.map unmark) st0 with
      | some (st', ob) => ob0 ∧ ob ∧ H b k st'
      | none => False
    | none => False
  | none => False
def vrun (P : Program) (vc : VCall) (n : Nat) (lt : List (Nat × List Nat)) (base : List Bool) (H : Code → List Fr → AS → Prop) (Fin : AS → Prop) : Nat → VM → List Fr → AS → Prop
  | 0, _, _, _ => False
  | f + 1, .normal, k, st => match k with
    | [] => Fin st
    | .seq y :: k' => vrun P vc n lt base H Fin f (.code y) k' st
    | .block _ :: k' => vrun P vc n lt base H Fin f .normal k' st
    | .loop b :: k' => match slotsOf (rid b) lt with
      | some _ => vloop lt base H b k' st
      | none => vrun P vc n lt base H Fin f (.code b) (.loop b :: k') st
  | f + 1, .exit id, k, st => match k with
    | [] => False
    | .block j :: k' => bif id.beq j then vrun P vc n lt base H Fin f .normal k' st else vrun P vc n lt base H Fin f (.exit id) k' st
    | _ :: k' => vrun P vc n lt base H Fin f (.exit id) k' st
  | _ + 1, .ret, _, st => Fin st
  | f + 1, .code c, k, st => match c with
    | .skip | .label _ => vrun P vc n lt base H Fin f .normal k st
    | .region _ ops draw => vregion P vc n ops draw st fun st' => vrun P vc n lt base H Fin f .normal k st'
    | .seq x y => vrun P vc n lt base H Fin f (.code x) (.seq y :: k) st
    | .cond c x y => match aev st.tm c with
      | some (.bool b) => pIf b (vrun P vc n lt base H Fin f (.code x) k st) (vrun P vc n lt base H Fin f (.code y) k st)
      | _ => False
    | .block id b => vrun P vc n lt base H Fin f (.code b) (.block id :: k) st
    | .loop b => match slotsOf (rid b) lt with
      | some _ => vloop lt base H b k st
      | none => vrun P vc n lt base H Fin f (.code b) (.loop b :: k) st
    | .exit id => vrun P vc n lt base H Fin f (.exit id) k st
    | .ret => vrun P vc n lt base H Fin f .ret k st
    | _ => False
def contQ (P : Program) (Q : Exit → Act → World → Prop) : List Fr → Exit → Act → World → Prop
  | [] => Q
  | .seq y :: k => Exit.then (y.wp P (contQ P Q k)) (contQ P Q k)
  | .block id :: k => Exit.inBlock id (contQ P Q k)
  | .loop b :: k => Exit.then (LoopWp P b (contQ P Q k)) (contQ P Q k)
theorem contQ_ret {P : Program} {Q : Exit → Act → World → Prop} {a : Act} {w : World} {k : List Fr} (h : Q .ret a w) : contQ P Q k .ret a w := by
  induction k with
  | nil => exact h
  | cons x k ih => cases x <;> exact ih
section
variable {P : Program} {vc : VCall} {W : Base} {n : Nat} {lt : List (Nat × List Nat)} {base : List Bool} {H : Code → List Fr → AS → Prop} {Fin : AS → Prop} {R : Place → AS → Prop} {Q : Exit → Act → World → Prop}
theorem vrun_sound (hcall : VCallOk P vc) (hm : P.follows .mixedOrders = true)
    (hR : ∀ ρ st ρ' st', R ρ st → Step ρ ρ' st.hp st'.hp st.nx st'.nx → R ρ' st')
    (hH : ∀ b k st, vloop lt base H b k st → ∀ ρ a w, SRel ρ W n st a w → R ρ st → LoopWp P b (contQ P Q k) a w)
    (hF : ∀ st, Fin st → ∀ ρ a w, SRel ρ W n st a w → R ρ st → Q .normal a w ∧ Q .ret a w) :
    ∀ (f : Nat) (m : VM) (k : List Fr) (st : AS), vrun P vc n lt base H Fin f m k st → ∀ ρ a w, SRel ρ W n st a w → R ρ st → (match m with
      | .code c => c.wp P (contQ P Q k) a w
      | .normal => contQ P Q k .normal a w
      | .exit id => contQ P Q k (.exit id) a w
      | .ret => contQ P Q k .ret a w) := by
  intro f
  induction f with
  | zero => intro m k st h; simp only [vrun] at h
  | succ f ih =>
    intro m k st h ρ a w hs hr
    cases m with
    | normal =>
      simp only [vrun] at h
      dsimp only
      cases k with
      | nil => exact (hF st h ρ a w hs hr).1
      | cons x k =>
        cases x with
        | seq y => exact ih (.code y) k st h ρ a w hs hr
        | block id => exact ih .normal k st h ρ a w hs hr
        | loop b =>
          dsimp only at h
          split at h
          · exact hH b k st h ρ a w hs hr
          · exact loop_round (ih (.code b) (.loop b :: k) st h ρ a w hs hr)
    | exit id =>
      simp only [vrun] at h
      dsimp only
      cases k with
      | nil => exact h.elim
      | cons x k =>
        cases x with
        | seq y => exact ih (.exit id) k st h ρ a w hs hr
        | block j =>
          show Exit.inBlock j (contQ P Q k) (.exit id) a w
          simp only [Exit.inBlock]
          dsimp only at h
          cases hj : id.beq j with
          | true =>
            rw [hj] at h
            rw [if_pos (Nat.eq_of_beq_eq_true hj)]
            exact ih .normal k st h ρ a w hs hr
          | false =>
            rw [hj] at h
            rw [if_neg (fun e => by subst e; simp at hj)]
            exact ih (.exit id) k st h ρ a w hs hr
        | loop b => exact ih (.exit id) k st h ρ a w hs hr
    | ret =>
      simp only [vrun] at h
      exact contQ_ret (hF st h ρ a w hs hr).2
    | code c =>
      simp only [vrun] at h
      dsimp only
      cases c with
      | skip => exact wp_skip (ih .normal k st h ρ a w hs hr)
      | label l => exact wp_label (ih .normal k st h ρ a w hs hr)
      | region id ops draw => exact vregion_sound hcall hm hs h fun st' hK a' w' ρ' g1 g2 => ih .normal k st' hK ρ' a' w' g1 (hR _ _ _ _ hr g2)
      | seq x y => exact wp_seq (ih (.code x) (.seq y :: k) st h ρ a w hs hr)
      | cond c x y =>
        dsimp only at h
        split at h
        · rename_i b hc
          have := hs.frame.eval hc
          cases b with
          | true =>
            refine wp_cond_true (c := c) ?_ (ih (.code x) k st h ρ a w hs hr)
            generalize a.eval c = z at this
            cases this
            rfl
          | false =>
            refine wp_cond_false (c := c) ?_ (ih (.code y) k st h ρ a w hs hr)
            generalize a.eval c = z at this
            cases this
            rfl
        · exact h.elim
      | block id b => exact wp_block (ih (.code b) (.block id :: k) st h ρ a w hs hr)
      | loop b =>
        dsimp only at h
        split at h
        · exact loop_of (hH b k st h ρ a w hs hr)
        · exact loop_of (loop_round (ih (.code b) (.loop b :: k) st h ρ a w hs hr))
      | exit id => exact wp_exit (ih (.exit id) k st h ρ a w hs hr)
      | ret => exact wp_ret (ih .ret k st h ρ a w hs hr)
      | goto l => exact h.elim
      | refuse y => exact h.elim
      | scope b => exact h.elim
      | rangeFunc f ps x y => exact h.elim
end
/-- The names of the first N blocks stay, and what never changes. -/
def StepG (N : Nat) (ρ ρ' : Place) : Prop := (∀ b x, b < N → ρ.pl b = some x → ρ'.pl b = some x) ∧ ∀ c x, ρ.fr c = some x → ρ'.fr c = some x
theorem StepG.refl (N : Nat) (ρ : Place) : StepG N ρ ρ := ⟨fun _ _ _ h => h, fun _ _ h => h⟩
theorem StepG.step {N : Nat} {ρ ρ' ρ'' : Place} {hp hp' : Tr AObj} {nx nx' : Nat} (h : StepG N ρ ρ') (k : Step ρ' ρ'' hp hp' nx nx') : StepG N ρ ρ'' :=
  ⟨fun b x hb hx => k.le.1 b x (h.1 b x hb hx), fun c x hc => k.le.2 c x (h.2 c x hc)⟩
/-- From a loop's head on, all ends well. -/
def Good (P : Program) (n : Nat) (base : List Bool) (Fin : AS → Prop) (b : Code) (k : List Fr) (st : AS) : Prop :=
  ∀ (W : Base) (ρ0 : Place) (Q : Exit → Act → World → Prop), (∀ st, Fin st → ∀ ρ a w, SRel ρ W n st a w → StepG base.length ρ0 ρ → Q .normal a w ∧ Q .ret a w) →
    ∀ ρ a w, SRel ρ W n st a w → StepG base.length ρ0 ρ → LoopWp P b (contQ P Q k) a w
theorem good_vloop {P : Program} {n : Nat} {lt : List (Nat × List Nat)} {base : List Bool} {Fin : AS → Prop} {b : Code} {k : List Fr} {st : AS} (h : vloop lt base (Good P n base Fin) b k st) : Good P n base Fin b k st := by
  unfold vloop at h
  split at h
  case h_2 => exact h.elim
  split at h
  case h_2 => exact h.elim
  rename_i st0 ob0 hz
  split at h
  case h_2 => exact h.elim
  rename_i st' ob hc
  intro W ρ0 Q hF ρ a w hs hr
  obtain ⟨ρ1, f1, f2⟩ := frzTms_sound hs hz h.1
  obtain ⟨ρ', g1, g2, g3⟩ := canon_sound f1 hc h.2.1
  exact h.2.2 W ρ0 Q hF ρ' a w g1 ⟨fun b x hb hx => by rw [g3 b hb]; exact f2.1 b x (hr.1 b x hb hx), fun c x hx => by rw [g2]; exact f2.2 c x (hr.2 c x hx)⟩
/-- One round. -/
theorem good_round {P : Program} {vc : VCall} (hcall : VCallOk P vc) (hm : P.follows .mixedOrders = true) {n : Nat} {lt : List (Nat × List Nat)} {base : List Bool} {Fin : AS → Prop} {b : Code} {k : List Fr} {st : AS} (f : Nat)
    (h : vrun P vc n lt base (Good P n base Fin) Fin f (.code b) (.loop b :: k) st) : Good P n base Fin b k st := by
  intro W ρ0 Q hF ρ a w hs hr
  refine loop_round ?_
  exact vrun_sound (R := fun ρ _ => StepG base.length ρ0 ρ) hcall hm (fun ρ st ρ' st' h k => h.step k) (fun b k st h ρ a w hs hr => good_vloop h W ρ0 Q hF ρ a w hs hr) hF f (.code b) (.loop b :: k) st h ρ a w hs hr
end Go.Proofs.YtegjnjmimfgijaaGreatDoor
