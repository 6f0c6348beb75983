/-
  Closed runs by evaluation, part 15: regions that draw their order are evaluated right. Conditions: as each theorem states them.
-/
import Derived.Test.YtegjnjmimfgijaaGreatDoorEvn
noncomputable section
namespace Go.Proofs.YtegjnjmimfgijaaGreatDoor
open Go Go.RowKit

theorem rowOf_ext {hp hp' : Tr AObj} (h : ∀ b x, hp.get b = some x → hp'.get b = some x) {b o n : Nat} {l : List Value} (hl : rowOf hp b o n = some l) : rowOf hp' b o n = some l := by
  unfold rowOf at *
  cases hb : hp.get b with
  | none => rw [hb] at hl; cases hl
  | some x => rw [h b x hb]; rw [hb] at hl; exact hl
theorem aread_ext {P : Program} {hp hp' : Tr AObj} (h : ∀ b x, hp.get b = some x → hp'.get b = some x) {o : Oper} {ev : Operand → Option Value} {v : Value} (hl : aread P hp o ev = some v) : aread P hp' o ev = some v := by
  unfold aread at *
  split at hl
  · rename_i t x hop
    cases hx : ev x with
    | none => rw [hx] at hl; cases hl
    | some u =>
      rw [hx] at hl
      dsimp only at hl ⊢
      unfold aLoad at *
      split at hl
      case h_2 => cases hl
      rename_i b o'
      split at hl
      · split at hl
        case h_2 => cases hl
        split at hl
        case h_2 => cases hl
        rename_i l hr
        rw [rowOf_ext h hr]
        exact hl
      · cases hb : hp.get b with
        | none => rw [hb] at hl; cases hl
        | some y => rw [h b y hb]; rw [hb] at hl; exact hl
      · cases hl
  · rename_i s d x hop
    cases hx : ev x with
    | none => rw [hx] at hl; cases hl
    | some u =>
      rw [hx] at hl
      dsimp only at hl ⊢
      unfold aBytes at *
      split at hl
      case h_2 => cases hl
      split at hl
      case h_2 => cases hl
      split at hl
      case h_2 => cases hl
      split at hl
      case h_2 => cases hl
      rename_i l hr
      rw [rowOf_ext h hr]
      exact hl
  · cases hl
theorem alight_ext {P : Program} {hp hp' : Tr AObj} (h : ∀ b x, hp.get b = some x → hp'.get b = some x) {o : Oper} {ev : Operand → Option Value} {r : LRes} (hl : alight P hp o ev = some r) : alight P hp' o ev = some r := by
  unfold alight at *
  split at hl <;> try exact hl
  · simp only [Option.map_eq_some_iff] at hl ⊢
    obtain ⟨v, hv, e⟩ := hl
    exact ⟨v, aread_ext h hv, e⟩
  · split at hl <;> try exact hl
    simp only [Option.map_eq_some_iff] at hl ⊢
    obtain ⟨v, hv, e⟩ := hl
    exact ⟨v, aread_ext h hv, e⟩
theorem slight_ext {P : Program} {hp hp' : Tr AObj} (h : ∀ b x, hp.get b = some x → hp'.get b = some x) {o : Oper} {ev : Operand → Option Value} {r : LRes} {ob : Prop} (hl : slight P hp o ev = some (r, ob)) : slight P hp' o ev = some (r, ob) := by
  have hb : sbase P hp o ev = some (r, ob) → sbase P hp' o ev = some (r, ob) := fun hb => by
    unfold sbase at *
    split at hb
    · rename_i q hq; rw [alight_ext h hq]; exact hb
    · cases hb
  obtain ⟨dst, op, type, pos, after, guard⟩ := o
  unfold slight at *
  cases op <;> dsimp only at hl ⊢ <;> try exact hb hl
  case load t x =>
    split at hl
    · exact hl
    · exact hb hl
  case indexAddr t x i => exact hl
  case fieldAddr t x f =>
    split at hl
    · exact hl
    · exact hb hl
  case nilCheck x =>
    split at hl
    · exact hl
    · exact hl
    · exact hb hl
  case makeFunc fn f c =>
    cases fn <;> first | exact hl | exact hb hl
  case typeAssert x xt y ok => cases ok <;> first | exact hl | exact hb hl
  case slice t x lo hi mx =>
    cases mx with
    | some m => exact hb hl
    | none =>
      dsimp only at hl ⊢
      split at hl
      case h_2 => cases hl
      split at hl
      · exact hl
      · exact hb hl
  case index t x i =>
    split at hl
    · exact hl
    · exact hb hl
  case binOp op t x y ty => exact hl
  case convert src dst' x =>
    have hB : ∀ u, ∀ q, sBytes P hp src dst' u = some q → sBytes P hp' src dst' u = some q := fun u q hq => by
      unfold sBytes at *
      split at hq
      case h_2 => cases hq
      split at hq
      case h_2 => cases hq
      split at hq
      · split at hq
        case h_2 => cases hq
        rename_i l wr hg
        rw [h _ _ hg]
        exact hq
      · exact hq
      · cases hq
    split at hl
    · obtain ⟨v, h1, rfl⟩ := sval_eq hl
      rw [hB _ _ h1]
      rfl
    · obtain ⟨v, h1, rfl⟩ := sval_eq hl
      rw [hB _ _ h1]
      rfl
    · exact hb hl
    · exact hl
  case makeSlice t x y => exact hl
  case pick c x y => exact hl
  case call c =>
    split at hl
    · exact hl
    · exact hb hl
theorem LOk.ext {P : Program} {hp hp' : Tr AObj} (h : ∀ b x, hp.get b = some x → hp'.get b = some x) {o : Oper} {ev : Operand → Option Value} {r : LRes} (hl : LOk P hp o ev r) : LOk P hp' o ev r := by
  rcases hl with hl | ⟨ob, h1, h2⟩
  · exact .inl (alight_ext h hl)
  · exact .inr ⟨ob, slight_ext h h1, h2⟩

def Info.set (I : Info) (i : Nat) (T : Tr Value) (U : Value) (B : Option Nat) : Info :=
  ⟨fun k => if k = i then T else I.T k, fun k => if k = i then U else I.U k, fun k => if k = i then B else I.B k⟩
section
variable {P : Program} {W : Base} {ops : Array Oper} {n : Nat} {st0 : AS} {ρ0 : Place} {C : Array Bool} {st : AS} {rds rds' : List Rd} {I : Info} {L : Array Bool} {a : Act} {w : World} {ρ : Place}
theorem aput_get {tm tm' : Tr Value} {dst : Option Tmp} {v : Value} (h : aput n tm dst v = some tm') : (∀ d, dst = some d → d < n ∧ tm'.get d = some v) ∧ ∀ t, dst ≠ some t → tm'.get t = tm.get t := by
  unfold aput at h
  cases dst with
  | none => cases h; exact ⟨fun d hd => by (cases hd), fun _ _ => rfl⟩
  | some d =>
    dsimp only at h
    cases hd : d.blt n with
    | false => rw [hd] at h; cases h
    | true =>
      rw [hd] at h
      cases h
      refine ⟨fun d' hd' => ?_, fun t ht => ?_⟩
      · cases hd'
        exact ⟨Nat.le_of_ble_eq_true hd, by rw [Tr.get_put, if_pos rfl]⟩
      · rw [Tr.get_put, if_neg (by intro e; subst e; exact ht rfl)]
/-- An operation is evaluated that has not run. -/
theorem Inv.absorb (hD : drawOk ops = true) (h : Inv P W ops n st0 ρ0 C st rds I L a w ρ) {i : Nat} {o : Oper} (hi : ops[i]? = some o) (hn : ¬ In C i) (hr : ∀ e ∈ o.after, Region.binds .any e = true → In C e.on) (hh : isHeavy o.op = false)
    {st' : AS} {v : Value} {B : Option Nat} (ht : aput n st.tm o.dst v = some st'.tm) (hrel : Rel ρ W st'.hp st'.nx w) (hext : ∀ b x, st.hp.get b = some x → st'.hp.get b = some x) (hnx : st.nx ≤ st'.nx)
    (hstep : Step ρ0 ρ st0.hp st'.hp st0.nx st'.nx) (hB : ∀ b, B = some b → st.nx ≤ b)
    (hpf : ∀ I' : Info, I'.T i = st.tm → I'.U i = v → I'.B i = B → PF P ops st0 st' ρ I' i o) (hrd1 : ∀ x ∈ rds, x ∈ rds') (hrd2 : awanted ops st.tm o = some true → isRead o (aev st.tm) = true → ⟨i, o, st.tm, v⟩ ∈ rds') :
    Inv P W ops n st0 ρ0 (C.setIfInBounds i true) st' rds' (I.set i st.tm v B) L a w ρ := by
  have hlt : i < C.size := by rw [h.cs]; exact (Array.getElem?_eq_some_iff.1 hi).1
  have hin : ∀ k, In (C.setIfInBounds i true) k ↔ k = i ∨ In C k := fun k => in_set hlt
  have hiL : ¬ In L i := fun h' => hn (h.sub i h')
  have hU : ∀ k, k ≠ i → (I.set i st.tm v B).U k = I.U k := fun k hk => by simp [Info.set, hk]
  have hT : ∀ k, k ≠ i → (I.set i st.tm v B).T k = I.T k := fun k hk => by simp [Info.set, hk]
  have hBk : ∀ k, k ≠ i → (I.set i st.tm v B).B k = I.B k := fun k hk => by simp [Info.set, hk]
  have hUi : (I.set i st.tm v B).U i = v := by simp [Info.set]
  have hTi : (I.set i st.tm v B).T i = st.tm := by simp [Info.set]
  have hBi : (I.set i st.tm v B).B i = B := by simp [Info.set]
  obtain ⟨p1, p2⟩ := aput_get ht
  have hiC : ∀ k, comesBefore ops k i = true → In C k := fun k hk => closed_before h.cclosed i k hk fun o' ho' e he hb => by rw [hi] at ho'; cases ho'; exact hr e he hb
  have hCi : ∀ k, In C k → comesBefore ops i k = true → False := fun k hk hb => hn (closed_before h.cclosed k i hb fun o' ho' e he hb' => h.cclosed k hk o' ho' e he hb')
  refine ⟨by simp [h.cs], h.ls, ?_, h.lclosed, fun k hk => (hin k).2 (.inr (h.sub k hk)), ?_, ?_, hrel, h.size, h.defers, ?_, h.l0, ?_, ?_, hstep, ?_⟩
  · intro k hk o' ho' e he hb
    rw [hin] at hk ⊢
    rcases hk with rfl | hk
    · rw [hi] at ho'; cases ho'; exact .inr (hr e he hb)
    · exact .inr (h.cclosed k hk o' ho' e he hb)
  · intro k ok t hk hok hd
    rw [hin] at hk
    by_cases hki : k = i
    · subst hki
      rw [hi] at hok
      cases hok
      rw [hUi]
      exact (p1 t hd).2
    · rw [hU k hki, p2 t (drawOk_names hD hi hok (Ne.symm hki) hd).1]
      exact h.tmC k ok t (hk.resolve_left hki) hok hd
  · intro t hno
    rw [p2 t (hno i o ((hin i).2 (.inl rfl)) hi)]
    exact h.tm0 t fun k ok hk => hno k ok ((hin k).2 (.inr hk))
  · intro k ok t hk hok hd
    rw [hU k (fun e => hiL (e ▸ hk))]
    exact h.lv k ok t hk hok hd
  · intro k ok hk hkn hok
    rw [hin] at hk
    by_cases hki : k = i
    · subst hki
      rw [hi] at hok
      cases hok
      refine ⟨hh, fun d hd => (p1 d hd).1, fun t htm => ?_, hpf _ hTi hUi hBi⟩
      by_cases hex : ∃ j oj, In C j ∧ ops[j]? = some oj ∧ oj.dst = some t
      · obtain ⟨j, oj, hj, hoj, hdj⟩ := hex
        have hji : j ≠ k := fun e => hn (e ▸ hj)
        rcases (drawOk_names hD hi hoj (Ne.symm hji) hdj).2 htm with hb | hb
        · exact .inl ⟨j, oj, hb, hoj, hdj, by rw [hTi, hU j hji]; exact h.tmC j oj t hj hoj hdj⟩
        · exact (hCi j hj hb).elim
      · refine .inr ⟨fun j oj hoj hdj hji => ?_, by rw [hTi]; exact h.tm0 t fun j oj hj hoj hdj => hex ⟨j, oj, hj, hoj, hdj⟩⟩
        rcases (drawOk_names hD hi hoj (Ne.symm hji) hdj).2 htm with hb | hb
        · exact (hex ⟨j, oj, hiC j hb, hoj, hdj⟩).elim
        · exact hb
    · have hkC := hk.resolve_left hki
      obtain ⟨g1, g2, g3, g4⟩ := h.pend k ok hkC hkn hok
      refine ⟨g1, g2, fun t htm => ?_, ?_⟩
      · rw [hT k hki]
        rcases g3 t htm with ⟨j, oj, q1, q2, q3, q4⟩ | q
        · have hjC : In C j := closed_before h.cclosed k j q1 fun o' ho' e he hb => h.cclosed k hkC o' ho' e he hb
          exact .inl ⟨j, oj, q1, q2, q3, by rw [hU j (fun e => hn (e ▸ hjC))]; exact q4⟩
        · exact .inr q
      · unfold PF
        rw [hT k hki, hU k hki, hBk k hki]
        rcases g4 with g | ⟨q1, q2, q3⟩ | ⟨g5, g6, ob, nv, b, g7, g8, g9, g10, g11, g12, g13⟩
        · exact .inl g
        · exact .inr (.inl ⟨q1, q2.ext hext, q3⟩)
        · exact .inr (.inr ⟨g5, g6, ob, nv, b, g7.ext hext, g8, g9, by omega, g11, g12, hext _ _ g13⟩)
  · intro j k b hj hjn hk hkn hjk
    rw [hin] at hj hk
    have old : ∀ k b, In C k → ¬ In L k → I.B k = some b → b < st.nx := fun k b hk hkn hb => by
      have hks : k < ops.size := by
        rcases Nat.lt_or_ge k C.size with h' | h'
        · rw [← h.cs]; exact h'
        · simp [In, Array.getElem?_eq_none h'] at hk
      obtain ⟨_, _, _, g4⟩ := h.pend k ops[k] hk hkn (by simp [hks])
      rcases g4 with ⟨_, _, g⟩ | ⟨_, _, g⟩ | ⟨_, _, ob, nv, b', _, _, g9, g10, _⟩
      · rw [g] at hb; cases hb
      · rw [g] at hb; cases hb
      · rw [g9] at hb; cases hb; exact g10
    by_cases hji : j = i
    · subst hji
      rw [hBi, hBk k (Ne.symm hjk)]
      intro hb hb'
      have := hB b hb
      have := old k b (hk.resolve_left (Ne.symm hjk)) hkn hb'
      omega
    · rw [hBk j hji]
      by_cases hki : k = i
      · subst hki
        rw [hBi]
        intro hb hb'
        have := hB b hb'
        have := old j b (hj.resolve_left hji) hjn hb
        omega
      · rw [hBk k hki]
        exact h.bne j k b (hj.resolve_left hji) hjn (hk.resolve_left hki) hkn hjk
  · intro k ok hk hkn hok hw hrd
    rw [hin] at hk
    by_cases hki : k = i
    · subst hki
      rw [hi] at hok
      cases hok
      rw [hTi] at hw hrd ⊢
      rw [hUi]
      exact hrd2 hw hrd
    · rw [hT k hki] at hw hrd ⊢
      rw [hU k hki]
      exact hrd1 _ (h.rd k ok (hk.resolve_left hki) hkn hok hw hrd)
/-- What an operation with an effect looks at. -/
theorem Inv.heavyLook (hD : drawOk ops = true) (h : Inv P W ops n st0 ρ0 C st rds I L a w ρ) {r : Nat} {o : Oper} (hr : ops[r]? = some o) (hn : ¬ In C r) (hrC : ∀ e ∈ o.after, Region.binds .any e = true → In C e.on)
    (hrL : ∀ e ∈ o.after, Region.binds .any e = true → In L e.on) :
    ∀ t ∈ o.looksAt ops, ∀ v, st.tm.get t = some v → t < n ∧ VR ρ v (a.tmps.getD t undef) := by
  have hltC : r < C.size := by rw [h.cs]; exact (Array.getElem?_eq_some_iff.1 hr).1
  have hltL : r < L.size := by rw [h.ls]; exact (Array.getElem?_eq_some_iff.1 hr).1
  have hinC : ∀ k, In (C.setIfInBounds r true) k ↔ k = r ∨ In C k := fun k => in_set hltC
  have hinL : ∀ k, In (L.setIfInBounds r true) k ↔ k = r ∨ In L k := fun k => in_set hltL
  have hrnL : ¬ In L r := fun h' => hn (h.sub r h')
  have hbL : ∀ k, comesBefore ops k r = true → In L k := fun k hk => closed_before h.lclosed r k hk fun o' ho' e he hb => by rw [hr] at ho'; cases ho'; exact hrL e he hb
  have hCr : ∀ k, In C k → comesBefore ops r k = true → False := fun k hk hb => hn (closed_before h.cclosed k r hb fun o' ho' e he hb' => h.cclosed k hk o' ho' e he hb')
  intro t htm v hv
  by_cases hex : ∃ j oj, In C j ∧ ops[j]? = some oj ∧ oj.dst = some t
  · obtain ⟨j, oj, hj, hoj, hdj⟩ := hex
    have hjr : j ≠ r := fun e => hn (e ▸ hj)
    rw [h.tmC j oj t hj hoj hdj] at hv
    cases hv
    rcases (drawOk_names hD hr hoj (Ne.symm hjr) hdj).2 htm with hb | hb
    · exact h.lv j oj t (hbL j hb) hoj hdj
    · exact (hCr j hj hb).elim
  · rw [h.tm0 t fun j oj hj hoj hdj => hex ⟨j, oj, hj, hoj, hdj⟩] at hv
    exact h.l0 t v (fun j oj hj hoj hdj => hex ⟨j, oj, h.sub j hj, hoj, hdj⟩) hv
/-- Behind an operation with an effect. -/
theorem Inv.heavyFinW {W' : Base} (hds : W'.ds = W.ds) (hD : drawOk ops = true) (h : Inv P W ops n st0 ρ0 C st rds I L a w ρ) {r : Nat} {o : Oper} (hr : ops[r]? = some o) (hn : ¬ In C r) (hrC : ∀ e ∈ o.after, Region.binds .any e = true → In C e.on)
    (hrL : ∀ e ∈ o.after, Region.binds .any e = true → In L e.on) {st' : AS} (hst : st'.hp = st.hp ∨ ∀ rd ∈ rds, comesBefore ops rd.i r = true ∨ LOk P st'.hp rd.o (aev rd.tm) (.val rd.v))
    (v v' : Value) (w' : World) (ρ' : Place) (ht : aput n st.tm o.dst v = some st'.tm) (hv : VR ρ' v v') (hrel : Rel ρ' W' st'.hp st'.nx w') (hstep : Step ρ ρ' st.hp st'.hp st.nx st'.nx) :
    ∃ ρ' I', Inv P W' ops n st0 ρ0 (C.setIfInBounds r true) st' rds I' (L.setIfInBounds r true) (a.put o.dst v') w' ρ' := by
  have hltC : r < C.size := by rw [h.cs]; exact (Array.getElem?_eq_some_iff.1 hr).1
  have hltL : r < L.size := by rw [h.ls]; exact (Array.getElem?_eq_some_iff.1 hr).1
  have hinC : ∀ k, In (C.setIfInBounds r true) k ↔ k = r ∨ In C k := fun k => in_set hltC
  have hinL : ∀ k, In (L.setIfInBounds r true) k ↔ k = r ∨ In L k := fun k => in_set hltL
  have hrnL : ¬ In L r := fun h' => hn (h.sub r h')
  have hbL : ∀ k, comesBefore ops k r = true → In L k := fun k hk => closed_before h.lclosed r k hk fun o' ho' e he hb => by rw [hr] at ho'; cases ho'; exact hrL e he hb
  have hCr : ∀ k, In C k → comesBefore ops r k = true → False := fun k hk hb => hn (closed_before h.cclosed k r hb fun o' ho' e he hb' => h.cclosed k hk o' ho' e he hb')
  obtain ⟨p1, p2⟩ := aput_get ht
  have hU : ∀ k, k ≠ r → (I.set r st.tm v none).U k = I.U k := fun k hk => by simp [Info.set, hk]
  have hT : ∀ k, k ≠ r → (I.set r st.tm v none).T k = I.T k := fun k hk => by simp [Info.set, hk]
  have hBk : ∀ k, k ≠ r → (I.set r st.tm v none).B k = I.B k := fun k hk => by simp [Info.set, hk]
  have hUr : (I.set r st.tm v none).U r = v := by simp [Info.set]
  have get_put : ∀ t, o.dst ≠ some t → (a.put o.dst v').tmps.getD t undef = a.tmps.getD t undef := fun t ht => by
    cases hd : o.dst with
    | none => rfl
    | some d =>
      have : d ≠ t := fun e => ht (by rw [hd, e])
      simp [Act.put, Array.getD_eq_getD_getElem?, Array.getElem?_setIfInBounds_ne this]
  have pd : ∀ k, In (C.setIfInBounds r true) k → ¬ In (L.setIfInBounds r true) k → k ≠ r ∧ In C k ∧ ¬ In L k := fun k hk hkn => by
    rw [hinC] at hk
    have hkr : k ≠ r := fun e => hkn ((hinL k).2 (.inl e))
    exact ⟨hkr, hk.resolve_left hkr, fun h' => hkn ((hinL k).2 (.inr h'))⟩
  refine ⟨ρ', I.set r st.tm v none, by simp [h.cs], by simp [h.ls], ?_, ?_, ?_, ?_, ?_, hrel, ?_, ?_, ?_, ?_, ?_, ?_, h.step.trans hstep, ?_⟩
  · intro k hk o' ho' e he hb
    rw [hinC] at hk ⊢
    rcases hk with rfl | hk
    · rw [hr] at ho'; cases ho'; exact .inr (hrC e he hb)
    · exact .inr (h.cclosed k hk o' ho' e he hb)
  · intro k hk o' ho' e he hb
    rw [hinL] at hk ⊢
    rcases hk with rfl | hk
    · rw [hr] at ho'; cases ho'; exact .inr (hrL e he hb)
    · exact .inr (h.lclosed k hk o' ho' e he hb)
  · intro k hk
    rw [hinL] at hk
    rw [hinC]
    exact hk.imp id (h.sub k)
  · intro k ok t hk hok hd
    rw [hinC] at hk
    by_cases hkr : k = r
    · subst hkr
      rw [hr] at hok
      cases hok
      rw [hUr]
      exact (p1 t hd).2
    · rw [hU k hkr, p2 t (drawOk_names hD hr hok (Ne.symm hkr) hd).1]
      exact h.tmC k ok t (hk.resolve_left hkr) hok hd
  · intro t hno
    rw [p2 t (hno r o ((hinC r).2 (.inl rfl)) hr)]
    exact h.tm0 t fun k ok hk => hno k ok ((hinC k).2 (.inr hk))
  · cases hd : o.dst <;> simp [Act.put, h.size]
  · cases hd : o.dst <;> simp [Act.put, h.defers, hds]
  · intro k ok t hk hok hdk
    rw [hinL] at hk
    by_cases hkr : k = r
    · subst hkr
      rw [hr] at hok
      cases hok
      have := (p1 t hdk).1
      refine ⟨this, ?_⟩
      rw [hUr, hdk]
      simpa [Act.put, Array.getD_eq_getD_getElem?, h.size, this] using hv
    · have := h.lv k ok t (hk.resolve_left hkr) hok hdk
      rw [hU k hkr, get_put t (drawOk_names hD hr hok (Ne.symm hkr) hdk).1]
      exact ⟨this.1, this.2.mono hstep.le⟩
  · intro t u hno hu
    have hnj : o.dst ≠ some t := hno r o ((hinL r).2 (.inl rfl)) hr
    have := h.l0 t u (fun k ok hk => hno k ok ((hinL k).2 (.inr hk))) hu
    rw [get_put t hnj]
    exact ⟨this.1, this.2.mono hstep.le⟩
  · intro k ok hk hkn hok
    obtain ⟨hkr, hkC, hkL⟩ := pd k hk hkn
    obtain ⟨g1, g2, g3, g4⟩ := h.pend k ok hkC hkL hok
    refine ⟨g1, g2, fun t htm => ?_, ?_⟩
    · rw [hT k hkr]
      rcases g3 t htm with ⟨j, oj, q1, q2, q3, q4⟩ | q
      · have hjC : In C j := closed_before h.cclosed k j q1 fun o' ho' e he hb => h.cclosed k hkC o' ho' e he hb
        exact .inl ⟨j, oj, q1, q2, q3, by rw [hU j (fun e => hn (e ▸ hjC))]; exact q4⟩
      · exact .inr q
    · unfold PF
      rw [hT k hkr, hU k hkr, hBk k hkr]
      rcases g4 with g | ⟨q1, q2, q3⟩ | ⟨g5, g6, ob, nv, b, g7, g8, g9, g10, g11, g12, g13⟩
      · exact .inl g
      · refine .inr (.inl ⟨q1, ?_, q3⟩)
        cases hrd : isRead ok (aev (I.T k)) with
        | false => exact q2.still hrd
        | true =>
          have hm := h.rd k ok hkC hkL hok q1 hrd
          rcases hst with he | hst
          · rw [he]; exact q2
          rcases hst _ hm with hc | hc
          · exact (hkL (hbL k hc)).elim
          · exact hc
      · have hold := hstep.old b g10 g12
        refine .inr (.inr ⟨g5, g6, ob, nv, b, g7.still g6, g8, g9, Nat.lt_of_lt_of_le g10 hstep.more, g11, hold.1, hold.2.trans g13⟩)
  · intro j k b hj hjn hk hkn hjk
    obtain ⟨hjr, hjC, hjL⟩ := pd j hj hjn
    obtain ⟨hkr, hkC, hkL⟩ := pd k hk hkn
    rw [hBk j hjr, hBk k hkr]
    exact h.bne j k b hjC hjL hkC hkL hjk
  · intro k ok hk hkn hok hw hrd
    obtain ⟨hkr, hkC, hkL⟩ := pd k hk hkn
    rw [hT k hkr] at hw hrd ⊢
    rw [hU k hkr]
    exact h.rd k ok hkC hkL hok hw hrd
/-- An operation with an effect comes up. -/
theorem Inv.heavyFin (hD : drawOk ops = true) (h : Inv P W ops n st0 ρ0 C st rds I L a w ρ) {r : Nat} {o : Oper} (hr : ops[r]? = some o) (hn : ¬ In C r) (hrC : ∀ e ∈ o.after, Region.binds .any e = true → In C e.on)
    (hrL : ∀ e ∈ o.after, Region.binds .any e = true → In L e.on) {st' : AS} (hst : st'.hp = st.hp ∨ ∀ rd ∈ rds, comesBefore ops rd.i r = true ∨ LOk P st'.hp rd.o (aev rd.tm) (.val rd.v))
    (v v' : Value) (w' : World) (ρ' : Place) (ht : aput n st.tm o.dst v = some st'.tm) (hv : VR ρ' v v') (hrel : Rel ρ' W st'.hp st'.nx w') (hstep : Step ρ ρ' st.hp st'.hp st.nx st'.nx) :
    ∃ ρ' I', Inv P W ops n st0 ρ0 (C.setIfInBounds r true) st' rds I' (L.setIfInBounds r true) (a.put o.dst v') w' ρ' :=
  h.heavyFinW rfl hD hr hn hrC hrL hst v v' w' ρ' ht hv hrel hstep
theorem Inv.heavy {call : ACall} (hcall : CallOk P W call) (hD : drawOk ops = true) (h : Inv P W ops n st0 ρ0 C st rds I L a w ρ) {r : Nat} {o : Oper} (hr : ops[r]? = some o) (hn : ¬ In C r) (hrC : ∀ e ∈ o.after, Region.binds .any e = true → In C e.on)
    (hrL : ∀ e ∈ o.after, Region.binds .any e = true → In L e.on) {st' : AS} (hs : astep P call ops n st o = some st') (hst : rds.all (fun rd => comesBefore ops rd.i r || stable P st'.hp rd) = true) {Q : Exit → Act → World → Prop} :
    wpOp P ops Q r (fun a' w' => ∃ ρ' I', Inv P W ops n st0 ρ0 (C.setIfInBounds r true) st' rds I' (L.setIfInBounds r true) a' w' ρ') a w := by
  have hlk := h.heavyLook hD hr hn hrC hrL
  obtain ⟨ev', he1, he2⟩ := erel_of_looks hlk
  have hst' : ∀ rd ∈ rds, comesBefore ops rd.i r = true ∨ LOk P st'.hp rd.o (aev rd.tm) (.val rd.v) := fun rd hm => by
    have hc := List.all_eq_true.1 hst _ hm
    simp only [Bool.or_eq_true] at hc
    refine hc.imp id fun hc => ?_
    unfold stable at hc
    split at hc
    · rename_i v2 hv2
      rw [veq_eq hc]
      exact .inl hv2
    · cases hc
  have fin := h.heavyFin hD hr hn hrC hrL (st' := st') (.inr hst')
  unfold wpOp
  simp only [hr]
  unfold astep at hs
  split at hs
  · rename_i hw
    rw [awanted_sound' h.size hlk hw, if_pos rfl]
    split at hs
    case h_2 => cases hs
    rename_i v hp' nx' hv
    split at hs
    case h_2 => cases hs
    rename_i tm' ht
    cases hs
    rw [aany_congr he2] at hv
    exact .inl (aany_sound hcall h.rel he1 hv fun v' w' ρ' g1 g2 g3 => fin v v' w' ρ' ht g1 g2 g3)
  · rename_i hw
    rw [awanted_sound' h.size hlk hw, if_neg (by simp)]
    split at hs
    case h_2 => cases hs
    rename_i tm' ht
    cases hs
    exact fin undef undef w ρ ht (closed_refl (by simp [undef, closed])) h.rel (.refl _ _ _)
  · cases hs
end
end Go.Proofs.YtegjnjmimfgijaaGreatDoor
