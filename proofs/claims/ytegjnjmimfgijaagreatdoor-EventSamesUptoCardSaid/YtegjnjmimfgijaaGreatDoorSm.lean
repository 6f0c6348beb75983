/-
  Symbolic runs, part 9c: contracts of functions that return a slice of their own, which the caller may extend. Conditions: as each theorem states them.
-/
import Derived.Test.YtegjnjmimfgijaaGreatDoorSl
noncomputable section
namespace Go.Proofs.YtegjnjmimfgijaaGreatDoor
open Go Go.RowKit

/-- The end of a function that returns a slice of its own: its cells, its length, an element's cells. -/
def finF (P : Program) (fn : Func) (Post : List Value → Nat → Nat → Prop) (st : AS) : Prop :=
  match ares P st.hp st.tm fn with
  | some (.slice (some ⟨b, o, none⟩) n sz) => match st.hp.get b with
    | some (.cells l true) => (o + n * sz = l.length ∧ NLs (l.drop o)) ∧ Post (l.drop o) n sz
    | _ => False
  | _ => False
def PureF (P : Program) (f : FuncId) (args : List Value) (Post : List Value → Nat → Nat → Prop) : Prop :=
  ∀ (W : Base) ρ w args', Rel ρ W .e 0 w → VRL ρ args args' → Calls P f args'.toArray w fun e w' => ∃ b o n sz l hp' nx' v' ρ', Post (l.drop o) n sz ∧ e = .returned v' ∧ VR ρ' (.slice (some ⟨b, o, none⟩) n sz) v' ∧ hp'.get b = some (.cells l true) ∧ o + n * sz = l.length ∧ NLs (l.drop o) ∧ Rel ρ' W hp' nx' w' ∧ StepG 0 ρ ρ'
def FinQF (P : Program) (fn : Func) (W : Base) (ρ : Place) (Post : List Value → Nat → Nat → Prop) (e : Exit) (a : Act) (w : World) : Prop :=
  bodyPost P fn (fun e w' => ∃ b o n sz l hp' nx' v' ρ', Post (l.drop o) n sz ∧ e = .returned v' ∧ VR ρ' (.slice (some ⟨b, o, none⟩) n sz) v' ∧ hp'.get b = some (.cells l true) ∧ o + n * sz = l.length ∧ NLs (l.drop o) ∧ Rel ρ' W hp' nx' w' ∧ StepG 0 ρ ρ') e a w
theorem finF_ok {P : Program} {fn : Func} {n : Nat} {Post : List Value → Nat → Nat → Prop} {st : AS} (h : finF P fn Post st) {W : Base} (hd : W.ds = []) {ρ0 ρ : Place} {a : Act} {w : World} (hs : SRel ρ W n st a w) (hr : StepG 0 ρ0 ρ) :
    FinQF P fn W ρ0 Post .normal a w ∧ FinQF P fn W ρ0 Post .ret a w := by
  unfold finF at h
  split at h
  case h_2 => exact h.elim
  rename_i b o m sz hv
  split at h
  case h_2 => exact h.elim
  rename_i l hl
  obtain ⟨v', r1, r2⟩ := ares_sound hs.rel hs.frame hv
  have : ∃ b o n sz l hp' nx' v'' ρ', Post (l.drop o) n sz ∧ Ending.returned v' = .returned v'' ∧ VR ρ' (.slice (some ⟨b, o, none⟩) n sz) v'' ∧ hp'.get b = some (.cells l true) ∧ o + n * sz = l.length ∧ NLs (l.drop o) ∧ Rel ρ' W hp' nx' w ∧ StepG 0 ρ0 ρ' :=
    ⟨b, o, m, sz, l, st.hp, st.nx, v', ρ, h.2, rfl, r2, hl, h.1.1, h.1.2, hs.rel, hr⟩
  exact ⟨⟨hs.frame.defers.trans hd, v', r1, this⟩, ⟨hs.frame.defers.trans hd, v', r1, this⟩⟩
/-- What must be shown. -/
def vcF (P : Program) (vc : VCall) (f : FuncId) (lt : List (Nat × List Nat)) (args : List Value) (H : Code → List Fr → AS → Prop) (Post : List Value → Nat → Nat → Prop) : Prop :=
  vrun P vc (slotsN args (fnAt P f)) lt [] H (finF P (fnAt P f) Post) 3000 (.code (codeOf (fnAt P f))) [] ⟨putArgs 0 args .e, .e, 0⟩
def vcLF (P : Program) (vc : VCall) (f : FuncId) (na : List Value) (lt : List (Nat × List Nat)) (r : Nat) (st : AS) (H : Code → List Fr → AS → Prop) (Post : List Value → Nat → Nat → Prop) : Prop :=
  vrun P vc (slotsN na (fnAt P f)) lt [] H (finF P (fnAt P f) Post) 3000 (.code (lpC P f r)) (.loop (lpC P f r) :: lpK P f r) st
def OkF (P : Program) (f : FuncId) (na : List Value) (Post : List Value → Nat → Nat → Prop) : Code → List Fr → AS → Prop :=
  Good P (slotsN na (fnAt P f)) [] (finF P (fnAt P f) Post)
theorem pure_F {P : Program} {vc : VCall} (hcall : VCallOk P vc) (hm : P.follows .mixedOrders = true) {f : FuncId} (hf : (P.funcs[f]?).isSome = true) (hc : (fnAt P f).body.isSome = true) (lt : List (Nat × List Nat)) {args : List Value} {Post : List Value → Nat → Nat → Prop}
    {X : Prop} (e : vcF P vc f lt args (OkF P f args Post) Post = X) (h : X) : PureF P f args Post := by
  have hf' : P.funcs[f]? = some (fnAt P f) := by
    unfold fnAt
    cases hx : P.funcs[f]? with
    | none => rw [hx] at hf; cases hf
    | some x => rfl
  have hc' : (fnAt P f).body = some (codeOf (fnAt P f)) := by
    unfold codeOf
    cases hx : (fnAt P f).body with
    | none => rw [hx] at hc; cases hc
    | some x => rfl
  have h' := Eq.mpr e h
  intro W ρ w args' hrel hargs
  suffices hb : Calls P f args'.toArray w fun e w' => ∃ b o n sz l hp' nx' v' ρ', Post (l.drop o) n sz ∧ e = .returned v' ∧ VR ρ' (.slice (some ⟨b, o, none⟩) n sz) v' ∧ hp'.get b = some (.cells l true) ∧ o + n * sz = l.length ∧ NLs (l.drop o) ∧ Rel ρ' W.bare hp' nx' w' ∧ StepG 0 ρ ρ' from
    hb.mono fun e w' ⟨b, o, n, sz, l, hp', nx', v', ρ', g1, g2, g3, g4, g5, g6, g7, g8⟩ => ⟨b, o, n, sz, l, hp', nx', v', ρ', g1, g2, g3, g4, g5, g6, g7.unbare, g8⟩
  refine calls_of_wp hf' hc' ?_
  exact vrun_sound (R := fun ρ' _ => StepG 0 ρ ρ') (Q := FinQF P (fnAt P f) W.bare ρ Post) hcall hm (fun _ _ _ _ h k => h.step k)
    (fun b k st h ρ' a w hs hr => good_vloop (base := []) h W.bare ρ _ (fun st hst ρ' a w hs hr => finF_ok hst rfl hs hr) ρ' a w hs hr) (fun st hst ρ' a w hs hr => finF_ok hst rfl hs hr) 3000 _ [] _ h' ρ _ w (start_rel rfl hrel.bare hargs (fnAt P f)) (.refl _ _)
theorem ok_F {P : Program} {vc : VCall} (hcall : VCallOk P vc) (hm : P.follows .mixedOrders = true) {f : FuncId} {na : List Value} (lt : List (Nat × List Nat)) {r : Nat} {st : AS} {Post : List Value → Nat → Nat → Prop}
    {X : Prop} (e : vcLF P vc f na lt r st (OkF P f na Post) Post = X) (h : X) : OkF P f na Post (lpC P f r) (lpK P f r) st := good_round hcall hm 3000 (Eq.mpr e h)
structure FEnt where
  f : FuncId
  c : List Value → (List Value → Nat → Nat → Prop) → Prop
def FEntOk (P : Program) (e : FEnt) : Prop := ∀ args Post, e.c args Post → PureF P e.f args Post
def fentOf (f : FuncId) : List FEnt → Option FEnt
  | [] => none
  | e :: l => bif e.f.beq f then some e else fentOf f l
theorem fentOf_mem {f : FuncId} {e : FEnt} : ∀ {l : List FEnt}, fentOf f l = some e → e ∈ l ∧ e.f = f
  | [], h => by simp [fentOf] at h
  | x :: l, h => by
    simp only [fentOf] at h
    cases hx : x.f.beq f with
    | true => rw [hx] at h; cases h; exact ⟨by simp, Nat.eq_of_beq_eq_true hx⟩
    | false => rw [hx, cond_false] at h; exact ⟨by simp [(fentOf_mem h).1], (fentOf_mem h).2⟩
def ftabCall (tab : List FEnt) (next : VCall) : VCall := fun f args hp nx K =>
  match fentOf f tab with
  | some e => bif args.all nl then e.c args fun l n sz => K (.slice (some ⟨nx, 0, none⟩) n sz) true (hp.put nx (some (.cells l true))) (nx + 1) else False
  | none => next f args hp nx K
theorem ftabCall_ok {P : Program} {tab : List FEnt} {next : VCall} (ht : ∀ e ∈ tab, FEntOk P e) (hnx : VCallOk P next) : VCallOk P (ftabCall tab next) := by
  intro f args hp nx K h W ρ w args' hrel hargs
  unfold ftabCall at h
  split at h
  case h_2 => exact hnx f args hp nx K h W ρ w args' hrel hargs
  rename_i e he
  obtain ⟨h1, rfl⟩ := fentOf_mem he
  cases ha : args.all nl with
  | false => rw [ha] at h; exact h.elim
  | true =>
    rw [ha, cond_true] at h
    have hargs1 : VRL ⟨fun _ => none, ρ.fr, ρ.gl⟩ args args' := .of hargs.len fun i v v' a b => by
      have h0 : VR0 ρ.fr v v' := nl_sound (List.all_eq_true.1 ha v (List.mem_of_getElem? a)) (hargs.get a b)
      exact VR0.lift (ρ := ⟨fun _ => none, ρ.fr, ρ.gl⟩) h0
    have hrel1 : Rel ⟨fun _ => none, ρ.fr, ρ.gl⟩ ⟨w, fun _ => False, ρ.fr, []⟩ .e 0 w := ⟨fun b x hb => (by cases hb), fun b o c s z ho => (by cases ho), fun b b' x x' o o' ho => (by cases ho), fun b _ => rfl, ⟨rfl, rfl, rfl, Nat.le_refl _, fun _ _ => rfl⟩, hrel.frz, fun b o c s z ho => (by cases ho), fun c ob hc => .inl hc⟩
    refine (ht e h1 args _ h ⟨w, fun _ => False, ρ.fr, []⟩ _ w args' hrel1 hargs1).mono ?_
    rintro e' w' ⟨b, o, n, sz, l, hp', nx', v', ρ1, hP, rfl, hv, hb, hlen, hnl, hr, hg⟩
    have old : ∀ c, c < w.heap.size → w'.heap[c]? = w.heap[c]? := fun c hc => hr.below.block c ⟨hc, fun h => h⟩
    have hsz : w.heap.size ≤ w'.heap.size := hr.below.size
    have lt : ∀ {c : Nat} {ob : Obj}, w.heap[c]? = some ob → c < w.heap.size := fun {c ob} hc => by
      rcases Nat.lt_or_ge c w.heap.size with h' | h'
      · exact h'
      · rw [Array.getElem?_eq_none h'] at hc; cases hc
    -- the new block
    have hplace : ∃ c s z, ρ1.pl b = some (c, s, z) := by
      cases hv with
      | slice hx _ _ => exact ⟨_, _, _, hx⟩
      | emptySlice a' hx => exact ⟨_, _, _, hx⟩
    obtain ⟨c, s, z, hx⟩ := hplace
    obtain ⟨ob, e1, e2⟩ := hr.obj b _ c s z hb hx
    cases ob <;> try exact e2.elim
    rename_i cs ct fz
    obtain ⟨k1, k2, k3, k4, k5⟩ := e2
    have hc0 : w.heap.size ≤ c := by
      rcases Nat.lt_or_ge c w.heap.size with h' | h'
      · exact absurd ⟨h', fun h => h⟩ (k5 rfl)
      · exact h'
    have hcl : c < w'.heap.size := (hr.dom b _ hx).2
    have hno : ρ.pl nx = none := hrel.dom_none
    let ρ' : Place := ⟨fun k => if k = nx then some (c, s + o, z) else ρ.pl k, ρ1.fr, ρ1.gl⟩
    have hle : ρ.le ρ' := ⟨fun k x hk => by
      show (if k = nx then _ else _) = _
      rw [if_neg (by intro e; rw [e, hno] at hk; cases hk)]
      exact hk, fun c x hc => hg.2 c x hc⟩
    have pl_nx : ρ'.pl nx = some (c, s + o, z) := by show (if nx = nx then _ else _) = _; rw [if_pos rfl]
    have pl_other : ∀ k, k ≠ nx → ρ'.pl k = ρ.pl k := fun k hk => by show (if k = nx then _ else _) = _; rw [if_neg hk]
    have hdl : (l.drop o).length = n * sz := by rw [List.length_drop]; omega
    have hval : VR ρ' (.slice (some ⟨nx, 0, none⟩) n sz) v' := by
      cases hv with
      | @slice _ _ _ _ c2 s2 z2 cap hx2 q1 q2 =>
        rw [hx] at hx2
        cases hx2
        exact VR.slice (ρ := ρ') (s := s + o) (o := 0) pl_nx q1 (by omega)
      | emptySlice a' hx2 => exact VR.emptySlice (ρ := ρ') a' pl_nx
    have hget : ∀ k, k ≠ nx → (hp.put nx (some (.cells (l.drop o) true))).get k = hp.get k := fun k hk => by rw [Tr.get_put, if_neg hk]
    have hgetn : (hp.put nx (some (.cells (l.drop o) true))).get nx = some (.cells (l.drop o) true) := by rw [Tr.get_put, if_pos rfl]
    refine ⟨_, true, _, _, v', ρ', hP, fun e => (by cases e), rfl, hval, ?_, ⟨hle, Nat.le_succ _, fun k hk hn => ⟨by rw [pl_other k (by omega)]; exact hn, hget k (by omega)⟩⟩⟩
    refine ⟨fun k x hk => ?_, fun k o' c' s' z' ho hk => ?_, fun k k' x x' o1 o2 g1 g2 hk hk' hxx => ?_, fun k hk => ?_, ⟨hr.below.os.trans hrel.below.os, hr.below.tape.trans hrel.below.tape, hr.below.output.trans hrel.below.output, Nat.le_trans hrel.below.size hsz, fun k hk => ?_⟩, hr.frz, fun k o' c' s' z' ho hw hk => ?_, fun c' ob hc => ?_⟩
    · by_cases e : k = nx
      · subst e
        rw [pl_nx] at hk
        cases hk
        exact ⟨by omega, hcl⟩
      · rw [pl_other k e] at hk
        exact ⟨by have := (hrel.dom k x hk).1; omega, Nat.lt_of_lt_of_le (hrel.dom k x hk).2 hsz⟩
    · by_cases e : k = nx
      · subst e
        rw [hgetn] at ho
        cases ho
        rw [pl_nx] at hk
        cases hk
        refine ⟨.cells cs ct fz, e1, k1, ?_, k3, fun j v hj => ?_, fun _ ho => ?_⟩
        · rw [hdl]; omega
        · have hj2 := hj
          rw [List.getElem?_drop] at hj
          obtain ⟨u, q1, q2⟩ := k4 _ v hj
          have h0 : VR0 ρ1.fr v u := nl1_sound (hnl v (List.mem_of_getElem? hj2)) q2
          exact ⟨u, by rw [show s + o + j = s + (o + j) by omega]; exact q1, VR0.lift (ρ := ρ') h0⟩
        · have := hrel.below.size
          have := ho.1
          omega
      · rw [hget k e] at ho
        rw [pl_other k e] at hk
        obtain ⟨ob, q1, q2⟩ := hrel.obj k o' c' s' z' ho hk
        exact ⟨ob, by rw [old c' (lt q1)]; exact q1, q2.mono hle⟩
    · by_cases e : k = nx
      · by_cases e' : k' = nx
        · rw [e, e']
        · subst e
          rw [pl_nx] at hk
          cases hk
          rw [pl_other k' e'] at hk'
          have := (hrel.dom k' x' hk').2
          simp only at hxx
          omega
      · by_cases e' : k' = nx
        · subst e'
          rw [pl_nx] at hk'
          cases hk'
          rw [pl_other k e] at hk
          have := (hrel.dom k x hk).2
          simp only at hxx
          omega
        · rw [hget k e] at g1
          rw [hget k' e'] at g2
          rw [pl_other k e] at hk
          rw [pl_other k' e'] at hk'
          exact hrel.inj k k' x x' o1 o2 g1 g2 hk hk' hxx
    · rw [hget k (by omega)]
      exact hrel.fresh k (by omega)
    · rw [old k (Nat.lt_of_lt_of_le hk.1 hrel.below.size)]
      exact hrel.below.block k hk
    · show ρ1.fr c' = none
      by_cases e : k = nx
      · subst e
        rw [pl_nx] at hk
        cases hk
        exact hr.apart b _ c s z hb rfl hx
      · rw [hget k e] at ho
        rw [pl_other k e] at hk
        cases hcf : ρ1.fr c' with
        | none => rfl
        | some ob =>
          have hcl' := (hrel.dom k _ hk).2
          rcases hr.frn c' ob hcf with q | q
          · have h2 : ρ.fr c' = some ob := q
            rw [hrel.apart k o' c' s' z' ho hw hk] at h2
            cases h2
          · exact absurd ⟨hcl', fun h => h⟩ q
    · rcases hr.frn c' ob hc with q | q
      · exact hrel.frn c' ob q
      · refine .inr fun h2 => q ⟨Nat.lt_of_lt_of_le h2.1 hrel.below.size, fun h => h⟩
end Go.Proofs.YtegjnjmimfgijaaGreatDoor
