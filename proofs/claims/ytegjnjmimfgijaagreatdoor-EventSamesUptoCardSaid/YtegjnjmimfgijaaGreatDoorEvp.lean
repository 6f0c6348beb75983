/-
  Closed runs by evaluation, part 16: regions that draw their order, whole. Conditions: as each theorem states them.
-/
import Derived.Test.YtegjnjmimfgijaaGreatDoorEvo
noncomputable section
namespace Go.Proofs.YtegjnjmimfgijaaGreatDoor
open Go Go.RowKit

def unl (ops : Array Oper) (L : Array Bool) : Nat := ((List.range ops.size).filter fun i => !L.getD i true).length
theorem unl_set {ops : Array Oper} {L : Array Bool} {i : Nat} (hi : i < ops.size) (hs : L.size = ops.size) (hn : L.getD i true = false) : unl ops (L.setIfInBounds i true) < unl ops L := by
  unfold unl
  have e : ((List.range ops.size).filter fun k => !(L.setIfInBounds i true).getD k true) = ((List.range ops.size).filter fun k => !L.getD k true).filter fun k => !(L.setIfInBounds i true).getD k true := by
    rw [List.filter_filter]
    apply List.filter_congr
    intro k _
    by_cases hk : i = k
    · subst hk; simp [hs, hi]
    · rw [getD_set_ne true hk]; simp
  rw [e, List.length_filter_lt_length_iff_exists]
  exact ⟨i, by simp only [List.mem_filter, List.mem_range]; exact ⟨hi, by rw [hn]; rfl⟩, by simp [hs, hi]⟩
section
variable {P : Program} {W : Base} {ops : Array Oper} {n : Nat} {st0 : AS} {ρ0 : Place} {Q : Exit → Act → World → Prop}
theorem lt_of_in {ops : Array Oper} {L : Array Bool} (hs : L.size = ops.size) {i : Nat} (h : In L i) : i < ops.size := by
  rw [← hs]
  rcases Nat.lt_or_ge i L.size with h' | h'
  · exact h'
  · simp [In, Array.getElem?_eq_none h'] at h
/-- If nothing may come up, everything that was evaluated has run. -/
theorem Inv.all {C : Array Bool} {st : AS} {rds : List Rd} {I : Info} {L : Array Bool} {a : Act} {w : World} {ρ : Place} (hD : drawOk ops = true) (h : Inv P W ops n st0 ρ0 C st rds I L a w ρ) (hr : Region.ready .any ops L = []) : ∀ i, In C i → In L i := by
  intro i
  induction i using Nat.strongRecOn with
  | _ i ih =>
    intro hi
    refine Classical.byContradiction fun hn => ?_
    have hlt := lt_of_in h.cs hi
    have hm : i ∈ Region.ready .any ops L := by
      rw [mem_ready]
      refine ⟨unlisted_of (by rw [h.ls]; exact hlt) hn, ops[i], by simp [hlt], fun e he hb => ?_⟩
      have := drawOk_edge hD (i := i) (o := ops[i]) (by simp [hlt]) he hb
      exact ih e.on this (h.cclosed i hi ops[i] (by simp [hlt]) e he hb)
    rw [hr] at hm
    cases hm
theorem Inv.done {C : Array Bool} {st : AS} {rds : List Rd} {I : Info} {L : Array Bool} {a : Act} {w : World} {ρ : Place} (h : Inv P W ops n st0 ρ0 C st rds I L a w ρ) (hall : ∀ i, In C i → In L i) : SRel ρ W n st a w := by
  refine ⟨h.rel, h.size, h.defers, fun t v hv => ?_⟩
  by_cases hex : ∃ j oj, In C j ∧ ops[j]? = some oj ∧ oj.dst = some t
  · obtain ⟨j, oj, hj, hoj, hdj⟩ := hex
    rw [h.tmC j oj t hj hoj hdj] at hv
    cases hv
    exact h.lv j oj t (hall j hj) hoj hdj
  · rw [h.tm0 t fun j oj hj hoj hdj => hex ⟨j, oj, hj, hoj, hdj⟩] at hv
    exact h.l0 t v (fun j oj hj hoj hdj => hex ⟨j, oj, h.sub j hj, hoj, hdj⟩) hv
theorem ready_in {C L : Array Bool} (hc : C.size = ops.size) (hsub : ∀ i, In L i → In C i) {j : Nat} (hj : j ∈ Region.ready .any ops L) : (In C j ∨ j ∈ Region.ready .any ops C) ∧ ¬ In L j ∧ j < ops.size ∧ ∃ o, ops[j]? = some o ∧ ∀ e ∈ o.after, Region.binds .any e = true → In L e.on := by
  obtain ⟨h1, o, h2, h3⟩ := mem_ready.1 hj
  have hlt := (Array.getElem?_eq_some_iff.1 h2).1
  refine ⟨?_, (unlisted h1).2, hlt, o, h2, h3⟩
  by_cases hC : In C j
  · exact .inl hC
  · exact .inr (mem_ready.2 ⟨unlisted_of (by rw [hc]; exact hlt) hC, o, h2, fun e he hb => hsub _ (h3 e he hb)⟩)
theorem draw_main {call : ACall} (hcall : CallOk P W call) (hD : drawOk ops = true) {stF : AS} (hQ : ∀ a' w' ρ', SRel ρ' W n stF a' w' → Step ρ0 ρ' st0.hp stF.hp st0.nx stF.nx → Q .normal a' w') :
    ∀ (m f : Nat) (C : Array Bool) (st : AS) (rds : List Rd) (I : Info) (L : Array Bool) (a : Act) (w : World) (ρ : Place), unl ops L ≤ m → Inv P W ops n st0 ρ0 C st rds I L a w ρ → adraw P call ops n f C st rds = some stF → wpAny P .any ops Q m L a w := by
  intro m
  induction m with
  | zero =>
    intro f C st rds I L a w ρ hm h hs
    have hr : Region.ready .any ops L = [] := by
      have hnil : ((List.range ops.size).filter fun i => !L.getD i true) = [] := List.eq_nil_of_length_eq_zero (Nat.le_zero.1 hm)
      apply List.eq_nil_iff_forall_not_mem.2
      intro j hj
      obtain ⟨h1, o, h2, h3⟩ := mem_ready.1 hj
      have : j ∈ ((List.range ops.size).filter fun i => !L.getD i true) := by
        simp only [List.mem_filter, List.mem_range]
        exact ⟨(Array.getElem?_eq_some_iff.1 h2).1, by rw [h1]; rfl⟩
      rw [hnil] at this
      cases this
    have hall := h.all hD hr
    have hallI : ∀ i, i < ops.size → In L i := fun i hi => Classical.byContradiction fun hn => by
      have : i ∈ ((List.range ops.size).filter fun i => !L.getD i true) := by
        simp only [List.mem_filter, List.mem_range]
        exact ⟨hi, by rw [unlisted_of (by rw [h.ls]; exact hi) hn]; rfl⟩
      rw [List.eq_nil_of_length_eq_zero (Nat.le_zero.1 hm)] at this
      cases this
    have hrC : Region.ready .any ops C = [] := by
      apply List.eq_nil_iff_forall_not_mem.2
      intro j hj
      obtain ⟨h1, o, h2, h3⟩ := mem_ready.1 hj
      exact (unlisted h1).2 (h.sub j (hallI j (Array.getElem?_eq_some_iff.1 h2).1))
    have hst : st = stF := by
      cases f with
      | zero => simp only [adraw, hrC] at hs; cases hs; rfl
      | succ f => simp only [adraw, hrC] at hs; cases hs; rfl
    subst hst
    exact ⟨hr, hQ a w ρ (h.done hall) h.step⟩
  | succ m ihm =>
    intro f
    induction f with
    | zero =>
      intro C st rds I L a w ρ hm h hs
      simp only [adraw] at hs
      split at hs
      case h_2 => cases hs
      rename_i hrC
      cases hs
      refine ⟨fun hr => hQ a w ρ (h.done (h.all hD hr)) h.step, fun j hj => ?_⟩
      obtain ⟨h1, h2, h3, o, h4, h5⟩ := ready_in h.cs h.sub hj
      rw [hrC] at h1
      have hjC := h1.resolve_right (by simp)
      refine wpOp_mono ?_ (h.run hD h4 hjC h2 h5)
      rintro a' w' ⟨ρ', h'⟩
      refine ihm 0 C _ rds I _ a' w' ρ' ?_ h' (by simp only [adraw, hrC])
      have := unl_set (ops := ops) (L := L) h3 h.ls (mem_ready.1 hj).1
      omega
    | succ f ihf =>
      intro C st rds I L a w ρ hm h hs
      have pending : ∀ j, j ∈ Region.ready .any ops L → In C j → ∀ o, ops[j]? = some o → (∀ e ∈ o.after, Region.binds .any e = true → In L e.on) → wpOp P ops Q j (wpAny P .any ops Q m (L.setIfInBounds j true)) a w := by
        intro j hj hjC o ho hall
        refine wpOp_mono ?_ (h.run hD ho hjC (unlisted (mem_ready.1 hj).1).2 hall)
        rintro a' w' ⟨ρ', h'⟩
        refine ihm (f + 1) C st rds I _ a' w' ρ' ?_ h' hs
        have := unl_set (ops := ops) (L := L) (Array.getElem?_eq_some_iff.1 ho).1 h.ls (mem_ready.1 hj).1
        omega
      have hs0 := hs
      simp only [adraw] at hs
      split at hs
      · rename_i hrC
        cases hs
        refine ⟨fun hr => hQ a w ρ (h.done (h.all hD hr)) h.step, fun j hj => ?_⟩
        obtain ⟨h1, h2, h3, o, h4, h5⟩ := ready_in h.cs h.sub hj
        rw [hrC] at h1
        exact pending j hj (h1.resolve_right (by simp)) o h4 h5
      · rename_i r rs hrC
        split at hs
        · rename_i i hf
          have him : i ∈ Region.ready .any ops C := by rw [hrC]; exact List.mem_of_find?_eq_some hf
          have hil := List.find?_some hf
          obtain ⟨g1, o, g2, g3⟩ := mem_ready.1 him
          have hnC := (unlisted g1).2
          have hh : isHeavy o.op = false := by
            unfold lightIdx at hil
            rw [g2] at hil
            simpa using hil
          rw [g2] at hs
          dsimp only at hs
          split at hs
          · rename_i hw
            split at hs
            · rename_i v hv
              split at hs
              case h_2 => cases hs
              rename_i tm' ht
              refine ihf _ ⟨tm', st.hp, st.nx⟩ _ (I.set i st.tm v none) L a w ρ hm (h.absorb hD g2 hnC g3 hh (st' := ⟨tm', st.hp, st.nx⟩) (v := v) (B := none) ht h.rel (fun _ _ h => h) (Nat.le_refl _) h.step (fun b hb => by cases hb) (fun I' e1 e2 e3 => .inr (.inl ⟨by rw [e1]; exact hw, .inl (by rw [e1, e2]; exact hv), e3⟩)) ?_ ?_) hs
              · intro x hx
                cases isRead o (aev st.tm) <;> simp [hx]
              · intro _ hrd
                rw [hrd]
                simp
            · rename_i ob nv hv
              split at hs
              case h_2 => cases hs
              rename_i tm' ht
              cases hrd : isRead o (aev st.tm) with
              | true => rw [hrd] at hs; cases hs
              | false =>
                rw [hrd, cond_false] at hs
                refine ihf _ ⟨tm', st.hp.put st.nx (some ob), st.nx + 1⟩ _ (I.set i st.tm (nv.val st.nx) (some st.nx)) L a w ρ hm (h.absorb hD g2 hnC g3 hh (st' := ⟨tm', st.hp.put st.nx (some ob), st.nx + 1⟩) (v := nv.val st.nx) (B := some st.nx) ht (h.rel.reserve ob) ?_ (Nat.le_succ _) ?_ (fun b hb => by cases hb; exact Nat.le_refl _) (fun I' e1 e2 e3 => ?_) (fun _ h => h) (fun _ h' => by rw [hrd] at h'; cases h')) hs
                · intro b x hb
                  have : b ≠ st.nx := fun e => by rw [e, h.rel.fresh _ (Nat.le_refl _)] at hb; cases hb
                  rw [Tr.get_put, if_neg this]
                  exact hb
                · exact ⟨h.step.le, Nat.le_succ_of_le h.step.more, fun b hb hr => by
                    have := h.step.old b hb hr
                    refine ⟨this.1, ?_⟩
                    rw [Tr.get_put, if_neg (by have := h.step.more; omega)]
                    exact this.2⟩
                · refine .inr (.inr ⟨by rw [e1]; exact hw, by rw [e1]; exact hrd, ob, nv, st.nx, ?_, e2, e3, by simp, h.step.more, h.rel.dom_none, by rw [Tr.get_put, if_pos rfl]⟩)
                  rw [e1]
                  refine .inl ?_
                  rw [← alight_still (hp := st.hp) hrd]
                  exact hv
            · cases hs
          · rename_i hw
            split at hs
            case h_2 => cases hs
            rename_i tm' ht
            exact ihf _ ⟨tm', st.hp, st.nx⟩ _ (I.set i st.tm undef none) L a w ρ hm (h.absorb hD g2 hnC g3 hh (st' := ⟨tm', st.hp, st.nx⟩) (v := undef) (B := none) ht h.rel (fun _ _ h => h) (Nat.le_refl _) h.step (fun b hb => by cases hb) (fun I' e1 e2 e3 => .inl ⟨by rw [e1]; exact hw, e2, e3⟩) (fun _ h => h) (fun h' => by rw [hw] at h'; cases h')) hs
          · cases hs
        · split at hs
          case h_2 => cases hs
          split at hs
          case h_2 => cases hs
          rename_i o ho
          split at hs
          case h_2 => cases hs
          rename_i st' hst
          cases hchk : rds.all (fun rd => comesBefore ops rd.i r || stable P st'.hp rd) with
          | false => rw [hchk] at hs; cases hs
          | true =>
            rw [hchk, cond_true] at hs
            have hrm : r ∈ Region.ready .any ops C := by rw [hrC]; simp
            obtain ⟨g1, o', g2, g3⟩ := mem_ready.1 hrm
            rw [ho] at g2
            cases g2
            have hnC := (unlisted g1).2
            refine ⟨fun hr => ?_, fun j hj => ?_⟩
            · exfalso
              have hall := h.all hD hr
              have : r ∈ Region.ready .any ops L := mem_ready.2 ⟨unlisted_of (by rw [h.ls]; exact (Array.getElem?_eq_some_iff.1 ho).1) (fun h' => hnC (h.sub r h')), o, ho, fun e he hb => hall _ (g3 e he hb)⟩
              rw [hr] at this
              cases this
            · obtain ⟨h1, h2, h3, oj, h4, h5⟩ := ready_in h.cs h.sub hj
              rcases h1 with h1 | h1
              · exact pending j hj h1 oj h4 h5
              · rw [hrC] at h1
                have hjr : j = r := by simpa using h1
                subst hjr
                rw [ho] at h4
                cases h4
                refine wpOp_mono ?_ (h.heavy hcall hD ho hnC g3 h5 hst hchk)
                rintro a' w' ⟨ρ', I', h'⟩
                refine ihm f _ st' rds I' _ a' w' ρ' ?_ h' hs
                have := unl_set (ops := ops) (L := L) h3 h.ls (mem_ready.1 hj).1
                omega
/-- A region that draws its order. -/
theorem region_draw {call : ACall} (hcall : CallOk P W call) (hm : P.follows .mixedOrders = true) (hD : drawOk ops = true) {id : Nat} {stF : AS} {a : Act} {w : World} (h : SRel ρ0 W n st0 a w)
    (hs : adraw P call ops n ops.size (Array.replicate ops.size false) st0 [] = some stF) (hQ : ∀ a' w' ρ', SRel ρ' W n stF a' w' → Step ρ0 ρ' st0.hp stF.hp st0.nx stF.nx → Q .normal a' w') : (Code.region id ops true).wp P Q a w := by
  refine wp_region_any hm ?_
  have hnot : ∀ i, ¬ In (Array.replicate ops.size false) i := fun i hi => by
    have := lt_of_in (ops := ops) (by simp) hi
    simp [In, this] at hi
  refine draw_main hcall hD hQ ops.size ops.size _ st0 [] ⟨fun _ => .e, fun _ => undef, fun _ => none⟩ _ a _ ρ0 ?_ ⟨by simp, by simp, fun i hi => (hnot i hi).elim, fun i hi => (hnot i hi).elim, fun i hi => hi, fun j o t hj => (hnot j hj).elim, fun t _ => rfl, h.rel.drew, h.frame.size, h.frame.defers, fun j o t hj => (hnot j hj).elim, fun t v _ hv => h.frame.slot t v hv, fun j o hj => (hnot j hj).elim, fun j k b hj => (hnot j hj).elim, .refl _ _ _, fun j o hj => (hnot j hj).elim⟩ hs
  unfold unl
  exact Nat.le_trans (List.length_filter_le _ _) (by simp)
end
end Go.Proofs.YtegjnjmimfgijaaGreatDoor
