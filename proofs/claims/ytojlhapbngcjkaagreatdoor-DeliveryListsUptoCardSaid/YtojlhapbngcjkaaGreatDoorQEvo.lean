/-
  Put together out of several texts, each in its own namespace's block. Conditions: as each theorem states them.
-/
import Derived.Test.YtojlhapbngcjkaaGreatDoorQEvm
import Derived.Scope
noncomputable section
namespace Go.Proofs.YtojlhapbngcjkaaGreatDoor
open Go Go.RowKit
theorem rowOf_ext {hp hp' : Tr AObj} (h : ∀ b x, hp.get b = some x → hp'.get b = some x) {b o n : Nat} {l : List Value} (hl : rowOf hp b o n = some l) : rowOf hp' b o n = some l := by
 unfold rowOf at *
 cases hb : hp.get b with
 | none => rw [hb] at hl; cases hl
 | some x => rw [h b x hb]; rw [hb] at hl; exact hl
theorem aread_ext {P : Program} {hp hp' : Tr AObj} (h : ∀ b x, hp.get b = some x → hp'.get b = some x) {o : Oper} {ev : Operand → Option Value} {v : Value} (hl : aread P hp o ev = some v) : aread P hp' o ev = some v := by
 unfold aread at *
 split at hl
 ·rename_i t x hop
  cases hx : ev x with
  | none => rw [hx] at hl; cases hl
  | some u =>
   rw [hx] at hl
   dsimp only at hl ⊢
   unfold aLoad at *
   split at hl
   case h_2 => cases hl
   rename_i b o'
   split at hl
   ·split at hl
    case h_2 => cases hl
    split at hl
    case h_2 => cases hl
    rename_i l hr
    rw [rowOf_ext h hr]
    exact hl
   ·cases hb : hp.get b with
    | none => rw [hb] at hl; cases hl
    | some y => rw [h b y hb]; rw [hb] at hl; exact hl
   ·cases hl
 ·rename_i s d x hop
  cases hx : ev x with
  | none => rw [hx] at hl; cases hl
  | some u =>
   rw [hx] at hl
   dsimp only at hl ⊢
   unfold aBytes at *
   split at hl
   case h_2 => cases hl
   split at hl
   case h_2 => cases hl
   split at hl
   case h_2 => cases hl
   split at hl
   case h_2 => cases hl
   rename_i l hr
   rw [rowOf_ext h hr]
   exact hl
 ·cases hl
theorem aLookup_ext {P : Program} {hp hp' : Tr AObj} (h : ∀ b x, hp.get b = some x → hp'.get b = some x) {t : TypeId} {x k v : Value} {c : Bool} (hl : aLookup P hp t x k c = some v) : aLookup P hp' t x k c = some v := by
 unfold aLookup at *
 split at hl
 case h_2 => cases hl
 rename_i kt et hu
 split at hl
 case h_2 => cases hl
 rename_i kd zv hkd hz
 cases hc : keyNow kd && (closed1 k && closed1 zv) with
 | false => rw [hc] at hl; cases hl
 | true =>
  rw [hc, cond_true] at hl
  rw [cond_true]
  split at hl
  ·exact hl
  ·rename_i b
   try dsimp only
   cases hb : hp.get b with
   | none => rw [hb] at hl; cases hl
   | some y => rw [h b y hb]; rw [hb] at hl; exact hl
  ·cases hl
theorem aEntry_ext {hp hp' : Tr AObj} (h : ∀ b x, hp.get b = some x → hp'.get b = some x) {x v : Value} (hl : aEntry hp x = some v) : aEntry hp' x = some v := by
 unfold aEntry at *
 split at hl
 case h_2 => cases hl
 rename_i b
 try dsimp only
 cases hb : hp.get b with
 | none => rw [hb] at hl; cases hl
 | some y =>
  rw [h b y hb]
  rw [hb] at hl
  cases y <;> try (cases hl)
  rename_i m since last seen
  cases m with
  | none => cases hl
  | some mb =>
   dsimp only at hl ⊢
   cases hs : seen.getLast? with
   | none => rw [hs] at hl; cases hl
   | some stamp =>
    cases hm : hp.get mb with
    | none => rw [hs, hm] at hl; cases hl
    | some z => rw [h mb z hm]; rw [hs, hm] at hl; exact hl
theorem aRangeM_ext {P : Program} {hp hp' : Tr AObj} (h : ∀ b x, hp.get b = some x → hp'.get b = some x) {t : TypeId} {x : Value} {r : AObj × NewV} (hl : aRangeM P hp t x = some r) : aRangeM P hp' t x = some r := by
 unfold aRangeM at *
 split at hl
 ·rename_i hu
  exact hl
 ·rename_i b k e hu
  try dsimp only
  cases hb : hp.get b with
  | none => rw [hb] at hl; cases hl
  | some y => rw [h b y hb]; rw [hb] at hl; exact hl
 ·cases hl
theorem alight_ext {P : Program} {hp hp' : Tr AObj} (h : ∀ b x, hp.get b = some x → hp'.get b = some x) {o : Oper} {ev : Operand → Option Value} {r : LRes} (hl : alight P hp o ev = some r) : alight P hp' o ev = some r := by
 obtain ⟨dst, op, type, pos, after, guard⟩ := o
 unfold alight at *
 cases op <;> dsimp only at hl ⊢ <;> try exact hl
 case load t x =>
  simp only [Option.map_eq_some_iff] at hl ⊢
  obtain ⟨v, hv, e⟩ := hl
  exact ⟨v, aread_ext h hv, e⟩
 case range t x =>
  split at hl
  ·simp only [Option.map_eq_some_iff] at hl ⊢
   obtain ⟨v, hv, e⟩ := hl
   exact ⟨v, aRangeM_ext h hv, e⟩
  ·exact hl
 case lookup t x y c =>
  split at hl
  case h_2 => cases hl
  simp only [Option.map_eq_some_iff] at hl ⊢
  obtain ⟨v, hv, e⟩ := hl
  exact ⟨v, aLookup_ext h hv, e⟩
 case entry x =>
  split at hl
  case h_2 => cases hl
  simp only [Option.map_eq_some_iff] at hl ⊢
  obtain ⟨v, hv, e⟩ := hl
  exact ⟨v, aEntry_ext h hv, e⟩
 case call c =>
  cases hq : mapLenQ c ev with
  | true =>
   rw [hq, cond_true] at hl
   rw [cond_true]
   simp only [Option.map_eq_some_iff] at hl ⊢
   obtain ⟨v, hv, e⟩ := hl
   exact ⟨v, aMapLen_ext h hv, e⟩
  | false =>
   rw [hq, cond_false] at hl
   exact hl
 case convert s d x =>
  split at hl <;> try exact hl
  simp only [Option.map_eq_some_iff] at hl ⊢
  obtain ⟨v, hv, e⟩ := hl
  exact ⟨v, aread_ext h hv, e⟩
theorem sLook_ext {P : Program} {hp hp' : Tr AObj} (h : ∀ b x, hp.get b = some x → hp'.get b = some x) {t : TypeId} {x k v : Value} {c : Bool} (hl : sLook P hp t x k c = some v) : sLook P hp' t x k c = some v := by
 unfold sLook at *
 split at hl
 case h_2 => cases hl
 split at hl
 case h_2 => cases hl
 rename_i kd z es ck h1 h2 h3
 rw [h1, h2, h _ _ h3]
 exact hl
theorem slight_ext {P : Program} {hp hp' : Tr AObj} (h : ∀ b x, hp.get b = some x → hp'.get b = some x) {o : Oper} {ev : Operand → Option Value} {r : LRes} {ob : Prop} (hl : slight P hp o ev = some (r, ob)) : slight P hp' o ev = some (r, ob) := by
 have hb : sbase P hp o ev = some (r, ob) → sbase P hp' o ev = some (r, ob) := fun hb => by
  unfold sbase at *
  split at hb
  ·rename_i q hq; rw [alight_ext h hq]; exact hb
  ·cases hb
 obtain ⟨dst, op, type, pos, after, guard⟩ := o
 unfold slight at *
 cases op <;> dsimp only at hl ⊢ <;> try exact hb hl
 case load t x =>
  cases hsy : symAt ⟨dst, .load t x, type, pos, after, guard⟩ t x with
  | true =>
   rw [hsy, cond_true] at hl
   rw [cond_true]
   split at hl
   case h_2 => cases hl
   rename_i v hx
   have key : ∀ q, symLoad P hp t v = some q → symLoad P hp' t v = some q := fun q hq => by
    unfold symLoad at *
    split at hq
    case h_2 => cases hq
    split at hq
    case h_2 => cases hq
    rename_i hg
    rw [h _ _ hg]
    exact hq
   unfold sval at *
   split at hl
   ·rename_i w ob' hq
    rw [key _ hq]
    exact hl
   ·cases hl
  | false =>
  rw [hsy, cond_false] at hl
  rw [cond_false]
  split at hl
  ·exact hl
  ·exact hb hl
 case lookup t x y c =>
  split at hl
  case h_2 => cases hl
  rename_i u v hx hy
  cases hq : sLook P hp t u v c with
  | some r0 =>
   rw [hq] at hl
   rw [sLook_ext h hq]
   exact hl
  | none =>
   rw [hq] at hl
   have hl' := hb hl
   cases hq' : sLook P hp' t u v c with
   | none => exact hl'
   | some r' =>
    have e1 := sLook_eq hq'
    have e2 := sbase_eq hl'
    unfold sbase at hl'
    split at hl'
    ·cases hl'
     unfold alight at e2
     dsimp only at e2
     rw [hx, hy] at e2
     dsimp only at e2
     rw [e1] at e2
     cases e2
     rfl
    ·cases hl'
 case indexAddr t x i => exact hl
 case fieldAddr t x f =>
  split at hl
  ·exact hl
  ·exact hb hl
 case nilCheck x =>
  split at hl
  ·exact hl
  ·exact hl
  ·exact hb hl
 case makeFunc fn f c =>
  cases fn <;> first | exact hl | exact hb hl
 case typeAssert x xt y ok => cases ok <;> first | exact hl | exact hb hl
 case slice t x lo hi mx =>
  cases mx with
  | some m => exact hb hl
  | none =>
   dsimp only at hl ⊢
   split at hl
   case h_2 => cases hl
   split at hl
   ·exact hl
   ·split at hl
    ·unfold sval at hl ⊢
     split at hl
     case h_2 => cases hl
     rename_i r ob' hr
     have key : ∀ u, sArr P hp ev t u lo hi = some (r, ob') → sArr P hp' ev t u lo hi = some (r, ob') := fun u hr => by
      unfold sArr at hr ⊢
      split at hr
      case h_2 => cases hr
      split at hr
      case h_2 => cases hr
      rename_i hg
      rw [h _ _ hg]
      exact hr
     rw [key _ hr]
     exact hl
    ·exact hb hl
 case index t x i =>
  split at hl
  ·exact hl
  ·exact hb hl
 case binOp op t x y ty => exact hl
 case convert src dst' x =>
  have hB : ∀ u, ∀ q, sBytes P hp src dst' u = some q → sBytes P hp' src dst' u = some q := fun u q hq => by
   unfold sBytes at *
   split at hq
   case h_2 => cases hq
   split at hq
   case h_2 => cases hq
   split at hq
   ·split at hq
    case h_2 => cases hq
    rename_i l wr hg
    rw [h _ _ hg]
    exact hq
   ·exact hq
   ·cases hq
  split at hl
  ·obtain ⟨v, h1, rfl⟩ := sval_eq hl
   rw [hB _ _ h1]
   rfl
  ·obtain ⟨v, h1, rfl⟩ := sval_eq hl
   rw [hB _ _ h1]
   rfl
  ·exact hb hl
  ·exact hl
 case makeSlice t x y => exact hl
 case pick c x y => exact hl
 case call c =>
  split at hl
  ·exact hl
  ·split at hl
   ·exact hl
   ·exact hb hl
theorem LOk.ext {P : Program} {hp hp' : Tr AObj} (h : ∀ b x, hp.get b = some x → hp'.get b = some x) {o : Oper} {ev : Operand → Option Value} {r : LRes} (hl : LOk P hp o ev r) : LOk P hp' o ev r := by
 rcases hl with hl | ⟨ob, h1, h2⟩
 ·exact .inl (alight_ext h hl)
 ·exact .inr ⟨ob, slight_ext h h1, h2⟩
def Info.set (I : Info) (i : Nat) (T : Tr Value) (U : Value) (B : Option Nat) : Info :=
 ⟨fun k => if k = i then T else I.T k, fun k => if k = i then U else I.U k, fun k => if k = i then B else I.B k⟩
section
variable {P : Program} {W : Base} {ops : Array Oper} {n : Nat} {st0 : AS} {ρ0 : Place} {C : Array Bool} {st : AS} {rds rds' : List Rd} {I : Info} {L : Array Bool} {a : Act} {w : World} {ρ : Place}
theorem aput_get {tm tm' : Tr Value} {dst : Option Tmp} {v : Value} (h : aput n tm dst v = some tm') : (∀ d, dst = some d → d < n ∧ tm'.get d = some v) ∧ ∀ t, dst ≠ some t → tm'.get t = tm.get t := by
 unfold aput at h
 cases dst with
 | none => cases h; exact ⟨fun d hd => by (cases hd), fun _ _ => rfl⟩
 | some d =>
  dsimp only at h
  cases hd : d.blt n with
  | false => rw [hd] at h; cases h
  | true =>
   rw [hd] at h
   cases h
   refine ⟨fun d' hd' => ?_, fun t ht => ?_⟩
   ·cases hd'
    exact ⟨Nat.le_of_ble_eq_true hd, by rw [Tr.get_put, if_pos rfl]⟩
   ·rw [Tr.get_put, if_neg (by intro e; subst e; exact ht rfl)]
theorem Inv.absorb (hD : drawOk ops = true) (h : Inv P W ops n st0 ρ0 C st rds I L a w ρ) {i : Nat} {o : Oper} (hi : ops[i]? = some o) (hn : ¬ In C i) (hr : ∀ e ∈ o.after, Region.binds .any e = true → In C e.on) (hh : isHeavy o.op = false)
  {st' : AS} {v : Value} {B : Option Nat} (ht : aput n st.tm o.dst v = some st'.tm) (hrel : Rel ρ W st'.hp st'.nx w) (hext : ∀ b x, st.hp.get b = some x → st'.hp.get b = some x) (hnx : st.nx ≤ st'.nx)
  (hstep : Step ρ0 ρ st0.hp st'.hp st0.nx st'.nx) (hB : ∀ b, B = some b → st.nx ≤ b)
  (hpf : ∀ I' : Info, I'.T i = st.tm → I'.U i = v → I'.B i = B → PF P ops st0 st' ρ I' i o) (hrd1 : ∀ x ∈ rds, x ∈ rds') (hrd2 : awanted ops st.tm o = some true → isRead o (aev st.tm) = true → ⟨i, o, st.tm, v⟩ ∈ rds') :
  Inv P W ops n st0 ρ0 (C.setIfInBounds i true) st' rds' (I.set i st.tm v B) L a w ρ := by
 have hlt : i < C.size := by rw [h.cs]; exact (Array.getElem?_eq_some_iff.1 hi).1
 have hin : ∀ k, In (C.setIfInBounds i true) k ↔ k = i ∨ In C k := fun k => in_set hlt
 have hiL : ¬ In L i := fun h' => hn (h.sub i h')
 have hU : ∀ k, k ≠ i → (I.set i st.tm v B).U k = I.U k := fun k hk => by simp [Info.set, hk]
 have hT : ∀ k, k ≠ i → (I.set i st.tm v B).T k = I.T k := fun k hk => by simp [Info.set, hk]
 have hBk : ∀ k, k ≠ i → (I.set i st.tm v B).B k = I.B k := fun k hk => by simp [Info.set, hk]
 have hUi : (I.set i st.tm v B).U i = v := by simp [Info.set]
 have hTi : (I.set i st.tm v B).T i = st.tm := by simp [Info.set]
 have hBi : (I.set i st.tm v B).B i = B := by simp [Info.set]
 obtain ⟨p1, p2⟩ := aput_get ht
 have hiC : ∀ k, comesBefore ops k i = true → In C k := fun k hk => closed_before h.cclosed i k hk fun o' ho' e he hb => by rw [hi] at ho'; cases ho'; exact hr e he hb
 have hCi : ∀ k, In C k → comesBefore ops i k = true → False := fun k hk hb => hn (closed_before h.cclosed k i hb fun o' ho' e he hb' => h.cclosed k hk o' ho' e he hb')
 refine ⟨by simp [h.cs], h.ls, ?_, h.lclosed, fun k hk => (hin k).2 (.inr (h.sub k hk)), ?_, ?_, hrel, h.size, h.defers, ?_, h.l0, ?_, ?_, hstep, ?_⟩
 ·intro k hk o' ho' e he hb
  rw [hin] at hk ⊢
  rcases hk with rfl | hk
  ·rw [hi] at ho'; cases ho'; exact .inr (hr e he hb)
  ·exact .inr (h.cclosed k hk o' ho' e he hb)
 ·intro k ok t hk hok hd
  rw [hin] at hk
  by_cases hki : k = i
  ·subst hki
   rw [hi] at hok
   cases hok
   rw [hUi]
   exact (p1 t hd).2
  ·rw [hU k hki, p2 t (drawOk_names hD hi hok (Ne.symm hki) hd).1]
   exact h.tmC k ok t (hk.resolve_left hki) hok hd
 ·intro t hno
  rw [p2 t (hno i o ((hin i).2 (.inl rfl)) hi)]
  exact h.tm0 t fun k ok hk => hno k ok ((hin k).2 (.inr hk))
 ·intro k ok t hk hok hd
  rw [hU k (fun e => hiL (e ▸ hk))]
  exact h.lv k ok t hk hok hd
 ·intro k ok hk hkn hok
  rw [hin] at hk
  by_cases hki : k = i
  ·subst hki
   rw [hi] at hok
   cases hok
   refine ⟨hh, fun d hd => (p1 d hd).1, fun t htm => ?_, hpf _ hTi hUi hBi⟩
   by_cases hex : ∃ j oj, In C j ∧ ops[j]? = some oj ∧ oj.dst = some t
   ·obtain ⟨j, oj, hj, hoj, hdj⟩ := hex
    have hji : j ≠ k := fun e => hn (e ▸ hj)
    rcases (drawOk_names hD hi hoj (Ne.symm hji) hdj).2 htm with hb | hb
    ·exact .inl ⟨j, oj, hb, hoj, hdj, by rw [hTi, hU j hji]; exact h.tmC j oj t hj hoj hdj⟩
    ·exact (hCi j hj hb).elim
   ·refine .inr ⟨fun j oj hoj hdj hji => ?_, by rw [hTi]; exact h.tm0 t fun j oj hj hoj hdj => hex ⟨j, oj, hj, hoj, hdj⟩⟩
    rcases (drawOk_names hD hi hoj (Ne.symm hji) hdj).2 htm with hb | hb
    ·exact (hex ⟨j, oj, hiC j hb, hoj, hdj⟩).elim
    ·exact hb
  ·have hkC := hk.resolve_left hki
   obtain ⟨g1, g2, g3, g4⟩ := h.pend k ok hkC hkn hok
   refine ⟨g1, g2, fun t htm => ?_, ?_⟩
   ·rw [hT k hki]
    rcases g3 t htm with ⟨j, oj, q1, q2, q3, q4⟩ | q
    ·have hjC : In C j := closed_before h.cclosed k j q1 fun o' ho' e he hb => h.cclosed k hkC o' ho' e he hb
     exact .inl ⟨j, oj, q1, q2, q3, by rw [hU j (fun e => hn (e ▸ hjC))]; exact q4⟩
    ·exact .inr q
   ·unfold PF
    rw [hT k hki, hU k hki, hBk k hki]
    rcases g4 with g | ⟨q1, q2, q3⟩ | ⟨g5, g6, ob, nv, b, g7, g8, g9, g10, g11, g12, g13⟩
    ·exact .inl g
    ·exact .inr (.inl ⟨q1, q2.ext hext, q3⟩)
    ·exact .inr (.inr ⟨g5, g6, ob, nv, b, g7.ext hext, g8, g9, by omega, g11, g12, hext _ _ g13⟩)
 ·intro j k b hj hjn hk hkn hjk
  rw [hin] at hj hk
  have old : ∀ k b, In C k → ¬ In L k → I.B k = some b → b < st.nx := fun k b hk hkn hb => by
   have hks : k < ops.size := by
    rcases Nat.lt_or_ge k C.size with h' | h'
    ·rw [← h.cs]; exact h'
    ·simp [In, Array.getElem?_eq_none h'] at hk
   obtain ⟨_, _, _, g4⟩ := h.pend k ops[k] hk hkn (by simp [hks])
   rcases g4 with ⟨_, _, g⟩ | ⟨_, _, g⟩ | ⟨_, _, ob, nv, b', _, _, g9, g10, _⟩
   ·rw [g] at hb; cases hb
   ·rw [g] at hb; cases hb
   ·rw [g9] at hb; cases hb; exact g10
  by_cases hji : j = i
  ·subst hji
   rw [hBi, hBk k (Ne.symm hjk)]
   intro hb hb'
   have := hB b hb
   have := old k b (hk.resolve_left (Ne.symm hjk)) hkn hb'
   omega
  ·rw [hBk j hji]
   by_cases hki : k = i
   ·subst hki
    rw [hBi]
    intro hb hb'
    have := hB b hb'
    have := old j b (hj.resolve_left hji) hjn hb
    omega
   ·rw [hBk k hki]
    exact h.bne j k b (hj.resolve_left hji) hjn (hk.resolve_left hki) hkn hjk
 ·intro k ok hk hkn hok hw hrd
  rw [hin] at hk
  by_cases hki : k = i
  ·subst hki
   rw [hi] at hok
   cases hok
   rw [hTi] at hw hrd ⊢
   rw [hUi]
   exact hrd2 hw hrd
  ·rw [hT k hki] at hw hrd ⊢
   rw [hU k hki]
   exact hrd1 _ (h.rd k ok (hk.resolve_left hki) hkn hok hw hrd)
theorem Inv.heavyLook (hD : drawOk ops = true) (h : Inv P W ops n st0 ρ0 C st rds I L a w ρ) {r : Nat} {o : Oper} (hr : ops[r]? = some o) (hn : ¬ In C r) (hrC : ∀ e ∈ o.after, Region.binds .any e = true → In C e.on)
  (hrL : ∀ e ∈ o.after, Region.binds .any e = true → In L e.on) :
  ∀ t ∈ o.looksAt ops, ∀ v, st.tm.get t = some v → t < n ∧ VR ρ v (a.tmps.getD t undef) := by
 have hltC : r < C.size := by rw [h.cs]; exact (Array.getElem?_eq_some_iff.1 hr).1
 have hltL : r < L.size := by rw [h.ls]; exact (Array.getElem?_eq_some_iff.1 hr).1
 have hinC : ∀ k, In (C.setIfInBounds r true) k ↔ k = r ∨ In C k := fun k => in_set hltC
 have hinL : ∀ k, In (L.setIfInBounds r true) k ↔ k = r ∨ In L k := fun k => in_set hltL
 have hrnL : ¬ In L r := fun h' => hn (h.sub r h')
 have hbL : ∀ k, comesBefore ops k r = true → In L k := fun k hk => closed_before h.lclosed r k hk fun o' ho' e he hb => by rw [hr] at ho'; cases ho'; exact hrL e he hb
 have hCr : ∀ k, In C k → comesBefore ops r k = true → False := fun k hk hb => hn (closed_before h.cclosed k r hb fun o' ho' e he hb' => h.cclosed k hk o' ho' e he hb')
 intro t htm v hv
 by_cases hex : ∃ j oj, In C j ∧ ops[j]? = some oj ∧ oj.dst = some t
 ·obtain ⟨j, oj, hj, hoj, hdj⟩ := hex
  have hjr : j ≠ r := fun e => hn (e ▸ hj)
  rw [h.tmC j oj t hj hoj hdj] at hv
  cases hv
  rcases (drawOk_names hD hr hoj (Ne.symm hjr) hdj).2 htm with hb | hb
  ·exact h.lv j oj t (hbL j hb) hoj hdj
  ·exact (hCr j hj hb).elim
 ·rw [h.tm0 t fun j oj hj hoj hdj => hex ⟨j, oj, hj, hoj, hdj⟩] at hv
  exact h.l0 t v (fun j oj hj hoj hdj => hex ⟨j, oj, h.sub j hj, hoj, hdj⟩) hv
theorem Inv.heavyFinW {W' : Base} (hds : W'.ds = W.ds) (hD : drawOk ops = true) (h : Inv P W ops n st0 ρ0 C st rds I L a w ρ) {r : Nat} {o : Oper} (hr : ops[r]? = some o) (hn : ¬ In C r) (hrC : ∀ e ∈ o.after, Region.binds .any e = true → In C e.on)
  (hrL : ∀ e ∈ o.after, Region.binds .any e = true → In L e.on) {st' : AS} (hst : st'.hp = st.hp ∨ ∀ rd ∈ rds, comesBefore ops rd.i r = true ∨ LOk P st'.hp rd.o (aev rd.tm) (.val rd.v))
  (v v' : Value) (w' : World) (ρ' : Place) (ht : aput n st.tm o.dst v = some st'.tm) (hv : VR ρ' v v') (hrel : Rel ρ' W' st'.hp st'.nx w') (hstep : Step ρ ρ' st.hp st'.hp st.nx st'.nx) :
  ∃ ρ' I', Inv P W' ops n st0 ρ0 (C.setIfInBounds r true) st' rds I' (L.setIfInBounds r true) (a.put o.dst v') w' ρ' := by
 have hltC : r < C.size := by rw [h.cs]; exact (Array.getElem?_eq_some_iff.1 hr).1
 have hltL : r < L.size := by rw [h.ls]; exact (Array.getElem?_eq_some_iff.1 hr).1
 have hinC : ∀ k, In (C.setIfInBounds r true) k ↔ k = r ∨ In C k := fun k => in_set hltC
 have hinL : ∀ k, In (L.setIfInBounds r true) k ↔ k = r ∨ In L k := fun k => in_set hltL
 have hrnL : ¬ In L r := fun h' => hn (h.sub r h')
 have hbL : ∀ k, comesBefore ops k r = true → In L k := fun k hk => closed_before h.lclosed r k hk fun o' ho' e he hb => by rw [hr] at ho'; cases ho'; exact hrL e he hb
 have hCr : ∀ k, In C k → comesBefore ops r k = true → False := fun k hk hb => hn (closed_before h.cclosed k r hb fun o' ho' e he hb' => h.cclosed k hk o' ho' e he hb')
 obtain ⟨p1, p2⟩ := aput_get ht
 have hU : ∀ k, k ≠ r → (I.set r st.tm v none).U k = I.U k := fun k hk => by simp [Info.set, hk]
 have hT : ∀ k, k ≠ r → (I.set r st.tm v none).T k = I.T k := fun k hk => by simp [Info.set, hk]
 have hBk : ∀ k, k ≠ r → (I.set r st.tm v none).B k = I.B k := fun k hk => by simp [Info.set, hk]
 have hUr : (I.set r st.tm v none).U r = v := by simp [Info.set]
 have get_put : ∀ t, o.dst ≠ some t → (a.put o.dst v').tmps.getD t undef = a.tmps.getD t undef := fun t ht => by
  cases hd : o.dst with
  | none => rfl
  | some d =>
   have : d ≠ t := fun e => ht (by rw [hd, e])
   simp [Act.put, Array.getD_eq_getD_getElem?, Array.getElem?_setIfInBounds_ne this]
 have pd : ∀ k, In (C.setIfInBounds r true) k → ¬ In (L.setIfInBounds r true) k → k ≠ r ∧ In C k ∧ ¬ In L k := fun k hk hkn => by
  rw [hinC] at hk
  have hkr : k ≠ r := fun e => hkn ((hinL k).2 (.inl e))
  exact ⟨hkr, hk.resolve_left hkr, fun h' => hkn ((hinL k).2 (.inr h'))⟩
 refine ⟨ρ', I.set r st.tm v none, by simp [h.cs], by simp [h.ls], ?_, ?_, ?_, ?_, ?_, hrel, ?_, ?_, ?_, ?_, ?_, ?_, h.step.trans hstep, ?_⟩
 ·intro k hk o' ho' e he hb
  rw [hinC] at hk ⊢
  rcases hk with rfl | hk
  ·rw [hr] at ho'; cases ho'; exact .inr (hrC e he hb)
  ·exact .inr (h.cclosed k hk o' ho' e he hb)
 ·intro k hk o' ho' e he hb
  rw [hinL] at hk ⊢
  rcases hk with rfl | hk
  ·rw [hr] at ho'; cases ho'; exact .inr (hrL e he hb)
  ·exact .inr (h.lclosed k hk o' ho' e he hb)
 ·intro k hk
  rw [hinL] at hk
  rw [hinC]
  exact hk.imp id (h.sub k)
 ·intro k ok t hk hok hd
  rw [hinC] at hk
  by_cases hkr : k = r
  ·subst hkr
   rw [hr] at hok
   cases hok
   rw [hUr]
   exact (p1 t hd).2
  ·rw [hU k hkr, p2 t (drawOk_names hD hr hok (Ne.symm hkr) hd).1]
   exact h.tmC k ok t (hk.resolve_left hkr) hok hd
 ·intro t hno
  rw [p2 t (hno r o ((hinC r).2 (.inl rfl)) hr)]
  exact h.tm0 t fun k ok hk => hno k ok ((hinC k).2 (.inr hk))
 ·cases hd : o.dst <;> simp [Act.put, h.size]
 ·cases hd : o.dst <;> simp [Act.put, h.defers, hds]
 ·intro k ok t hk hok hdk
  rw [hinL] at hk
  by_cases hkr : k = r
  ·subst hkr
   rw [hr] at hok
   cases hok
   have := (p1 t hdk).1
   refine ⟨this, ?_⟩
   rw [hUr, hdk]
   simpa [Act.put, Array.getD_eq_getD_getElem?, h.size, this] using hv
  ·have := h.lv k ok t (hk.resolve_left hkr) hok hdk
   rw [hU k hkr, get_put t (drawOk_names hD hr hok (Ne.symm hkr) hdk).1]
   exact ⟨this.1, this.2.mono hstep.le⟩
 ·intro t u hno hu
  have hnj : o.dst ≠ some t := hno r o ((hinL r).2 (.inl rfl)) hr
  have := h.l0 t u (fun k ok hk => hno k ok ((hinL k).2 (.inr hk))) hu
  rw [get_put t hnj]
  exact ⟨this.1, this.2.mono hstep.le⟩
 ·intro k ok hk hkn hok
  obtain ⟨hkr, hkC, hkL⟩ := pd k hk hkn
  obtain ⟨g1, g2, g3, g4⟩ := h.pend k ok hkC hkL hok
  refine ⟨g1, g2, fun t htm => ?_, ?_⟩
  ·rw [hT k hkr]
   rcases g3 t htm with ⟨j, oj, q1, q2, q3, q4⟩ | q
   ·have hjC : In C j := closed_before h.cclosed k j q1 fun o' ho' e he hb => h.cclosed k hkC o' ho' e he hb
    exact .inl ⟨j, oj, q1, q2, q3, by rw [hU j (fun e => hn (e ▸ hjC))]; exact q4⟩
   ·exact .inr q
  ·unfold PF
   rw [hT k hkr, hU k hkr, hBk k hkr]
   rcases g4 with g | ⟨q1, q2, q3⟩ | ⟨g5, g6, ob, nv, b, g7, g8, g9, g10, g11, g12, g13⟩
   ·exact .inl g
   ·refine .inr (.inl ⟨q1, ?_, q3⟩)
    cases hrd : isRead ok (aev (I.T k)) with
    | false => exact q2.still hrd
    | true =>
     have hm := h.rd k ok hkC hkL hok q1 hrd
     rcases hst with he | hst
     ·rw [he]; exact q2
     rcases hst _ hm with hc | hc
     ·exact (hkL (hbL k hc)).elim
     ·exact hc
   ·have hold := hstep.old b g10 g12
    refine .inr (.inr ⟨g5, g6, ob, nv, b, g7.still g6, g8, g9, Nat.lt_of_lt_of_le g10 hstep.more, g11, hold.1, hold.2.trans g13⟩)
 ·intro j k b hj hjn hk hkn hjk
  obtain ⟨hjr, hjC, hjL⟩ := pd j hj hjn
  obtain ⟨hkr, hkC, hkL⟩ := pd k hk hkn
  rw [hBk j hjr, hBk k hkr]
  exact h.bne j k b hjC hjL hkC hkL hjk
 ·intro k ok hk hkn hok hw hrd
  obtain ⟨hkr, hkC, hkL⟩ := pd k hk hkn
  rw [hT k hkr] at hw hrd ⊢
  rw [hU k hkr]
  exact h.rd k ok hkC hkL hok hw hrd
theorem Inv.heavyFin (hD : drawOk ops = true) (h : Inv P W ops n st0 ρ0 C st rds I L a w ρ) {r : Nat} {o : Oper} (hr : ops[r]? = some o) (hn : ¬ In C r) (hrC : ∀ e ∈ o.after, Region.binds .any e = true → In C e.on)
  (hrL : ∀ e ∈ o.after, Region.binds .any e = true → In L e.on) {st' : AS} (hst : st'.hp = st.hp ∨ ∀ rd ∈ rds, comesBefore ops rd.i r = true ∨ LOk P st'.hp rd.o (aev rd.tm) (.val rd.v))
  (v v' : Value) (w' : World) (ρ' : Place) (ht : aput n st.tm o.dst v = some st'.tm) (hv : VR ρ' v v') (hrel : Rel ρ' W st'.hp st'.nx w') (hstep : Step ρ ρ' st.hp st'.hp st.nx st'.nx) :
  ∃ ρ' I', Inv P W ops n st0 ρ0 (C.setIfInBounds r true) st' rds I' (L.setIfInBounds r true) (a.put o.dst v') w' ρ' :=
 h.heavyFinW rfl hD hr hn hrC hrL hst v v' w' ρ' ht hv hrel hstep
theorem Inv.heavy {call : ACall} (hcall : CallOk P W call) (hD : drawOk ops = true) (h : Inv P W ops n st0 ρ0 C st rds I L a w ρ) {r : Nat} {o : Oper} (hr : ops[r]? = some o) (hn : ¬ In C r) (hrC : ∀ e ∈ o.after, Region.binds .any e = true → In C e.on)
  (hrL : ∀ e ∈ o.after, Region.binds .any e = true → In L e.on) {st' : AS} (hs : astep P call ops n st o = some st') (hst : rds.all (fun rd => comesBefore ops rd.i r || stable P st'.hp rd) = true) {Q : Exit → Act → World → Prop} :
  wpOp P ops Q r (fun a' w' => ∃ ρ' I', Inv P W ops n st0 ρ0 (C.setIfInBounds r true) st' rds I' (L.setIfInBounds r true) a' w' ρ') a w := by
 have hlk := h.heavyLook hD hr hn hrC hrL
 obtain ⟨ev', he1, he2⟩ := erel_of_looks hlk
 have hst' : ∀ rd ∈ rds, comesBefore ops rd.i r = true ∨ LOk P st'.hp rd.o (aev rd.tm) (.val rd.v) := fun rd hm => by
  have hc := List.all_eq_true.1 hst _ hm
  simp only [Bool.or_eq_true] at hc
  refine hc.imp id fun hc => ?_
  unfold stable at hc
  split at hc
  ·rename_i v2 hv2
   rw [veq_eq hc]
   exact .inl hv2
  ·cases hc
 have fin := h.heavyFin hD hr hn hrC hrL (st' := st') (.inr hst')
 unfold wpOp
 simp only [hr]
 unfold astep at hs
 split at hs
 ·rename_i hw
  rw [awanted_sound' h.size hlk hw, if_pos rfl]
  split at hs
  case h_2 => cases hs
  rename_i v hp' nx' hv
  split at hs
  case h_2 => cases hs
  rename_i tm' ht
  cases hs
  rw [aany_congr he2] at hv
  exact .inl (aany_sound hcall h.rel he1 hv fun v' w' ρ' g1 g2 g3 => fin v v' w' ρ' ht g1 g2 g3)
 ·rename_i hw
  rw [awanted_sound' h.size hlk hw, if_neg (by simp)]
  split at hs
  case h_2 => cases hs
  rename_i tm' ht
  cases hs
  exact fin undef undef w ρ ht (closed_refl (by simp [undef, closed])) h.rel (.refl _ _ _)
 ·cases hs
end
end Go.Proofs.YtojlhapbngcjkaaGreatDoor

noncomputable section
namespace Go.Proofs.YtojlhapbngcjkaaGreatDoor
open Go Go.RowKit
def unl (ops : Array Oper) (L : Array Bool) : Nat := ((List.range ops.size).filter fun i => !L.getD i true).length
theorem unl_set {ops : Array Oper} {L : Array Bool} {i : Nat} (hi : i < ops.size) (hs : L.size = ops.size) (hn : L.getD i true = false) : unl ops (L.setIfInBounds i true) < unl ops L := by
 unfold unl
 have e : ((List.range ops.size).filter fun k => !(L.setIfInBounds i true).getD k true) = ((List.range ops.size).filter fun k => !L.getD k true).filter fun k => !(L.setIfInBounds i true).getD k true := by
  rw [List.filter_filter]
  apply List.filter_congr
  intro k _
  by_cases hk : i = k
  ·subst hk; simp [hs, hi]
  ·rw [getD_set_ne true hk]; simp
 rw [e, List.length_filter_lt_length_iff_exists]
 exact ⟨i, by simp only [List.mem_filter, List.mem_range]; exact ⟨hi, by rw [hn]; rfl⟩, by simp [hs, hi]⟩
section
variable {P : Program} {W : Base} {ops : Array Oper} {n : Nat} {st0 : AS} {ρ0 : Place} {Q : Exit → Act → World → Prop}
theorem lt_of_in {ops : Array Oper} {L : Array Bool} (hs : L.size = ops.size) {i : Nat} (h : In L i) : i < ops.size := by
 rw [← hs]
 rcases Nat.lt_or_ge i L.size with h' | h'
 ·exact h'
 ·simp [In, Array.getElem?_eq_none h'] at h
theorem Inv.all {C : Array Bool} {st : AS} {rds : List Rd} {I : Info} {L : Array Bool} {a : Act} {w : World} {ρ : Place} (hD : drawOk ops = true) (h : Inv P W ops n st0 ρ0 C st rds I L a w ρ) (hr : Region.ready .any ops L = []) : ∀ i, In C i → In L i := by
 intro i
 induction i using Nat.strongRecOn with
 | _ i ih =>
  intro hi
  refine Classical.byContradiction fun hn => ?_
  have hlt := lt_of_in h.cs hi
  have hm : i ∈ Region.ready .any ops L := by
   rw [mem_ready]
   refine ⟨unlisted_of (by rw [h.ls]; exact hlt) hn, ops[i], by simp [hlt], fun e he hb => ?_⟩
   have := drawOk_edge hD (i := i) (o := ops[i]) (by simp [hlt]) he hb
   exact ih e.on this (h.cclosed i hi ops[i] (by simp [hlt]) e he hb)
  rw [hr] at hm
  cases hm
theorem Inv.done {C : Array Bool} {st : AS} {rds : List Rd} {I : Info} {L : Array Bool} {a : Act} {w : World} {ρ : Place} (h : Inv P W ops n st0 ρ0 C st rds I L a w ρ) (hall : ∀ i, In C i → In L i) : SRel ρ W n st a w := by
 refine ⟨h.rel, h.size, h.defers, fun t v hv => ?_⟩
 by_cases hex : ∃ j oj, In C j ∧ ops[j]? = some oj ∧ oj.dst = some t
 ·obtain ⟨j, oj, hj, hoj, hdj⟩ := hex
  rw [h.tmC j oj t hj hoj hdj] at hv
  cases hv
  exact h.lv j oj t (hall j hj) hoj hdj
 ·rw [h.tm0 t fun j oj hj hoj hdj => hex ⟨j, oj, hj, hoj, hdj⟩] at hv
  exact h.l0 t v (fun j oj hj hoj hdj => hex ⟨j, oj, h.sub j hj, hoj, hdj⟩) hv
theorem ready_in {C L : Array Bool} (hc : C.size = ops.size) (hsub : ∀ i, In L i → In C i) {j : Nat} (hj : j ∈ Region.ready .any ops L) : (In C j ∨ j ∈ Region.ready .any ops C) ∧ ¬ In L j ∧ j < ops.size ∧ ∃ o, ops[j]? = some o ∧ ∀ e ∈ o.after, Region.binds .any e = true → In L e.on := by
 obtain ⟨h1, o, h2, h3⟩ := mem_ready.1 hj
 have hlt := (Array.getElem?_eq_some_iff.1 h2).1
 refine ⟨?_, (unlisted h1).2, hlt, o, h2, h3⟩
 by_cases hC : In C j
 ·exact .inl hC
 ·exact .inr (mem_ready.2 ⟨unlisted_of (by rw [hc]; exact hlt) hC, o, h2, fun e he hb => hsub _ (h3 e he hb)⟩)
theorem draw_main {call : ACall} (hcall : CallOk P W call) (hD : drawOk ops = true) {stF : AS} (hQ : ∀ a' w' ρ', SRel ρ' W n stF a' w' → Step ρ0 ρ' st0.hp stF.hp st0.nx stF.nx → Q .normal a' w') :
  ∀ (m f : Nat) (C : Array Bool) (st : AS) (rds : List Rd) (I : Info) (L : Array Bool) (a : Act) (w : World) (ρ : Place), unl ops L ≤ m → Inv P W ops n st0 ρ0 C st rds I L a w ρ → adraw P call ops n f C st rds = some stF → wpAny P .any ops Q m L a w := by
 intro m
 induction m with
 | zero =>
  intro f C st rds I L a w ρ hm h hs
  have hr : Region.ready .any ops L = [] := by
   have hnil : ((List.range ops.size).filter fun i => !L.getD i true) = [] := List.eq_nil_of_length_eq_zero (Nat.le_zero.1 hm)
   apply List.eq_nil_iff_forall_not_mem.2
   intro j hj
   obtain ⟨h1, o, h2, h3⟩ := mem_ready.1 hj
   have : j ∈ ((List.range ops.size).filter fun i => !L.getD i true) := by
    simp only [List.mem_filter, List.mem_range]
    exact ⟨(Array.getElem?_eq_some_iff.1 h2).1, by rw [h1]; rfl⟩
   rw [hnil] at this
   cases this
  have hall := h.all hD hr
  have hallI : ∀ i, i < ops.size → In L i := fun i hi => Classical.byContradiction fun hn => by
   have : i ∈ ((List.range ops.size).filter fun i => !L.getD i true) := by
    simp only [List.mem_filter, List.mem_range]
    exact ⟨hi, by rw [unlisted_of (by rw [h.ls]; exact hi) hn]; rfl⟩
   rw [List.eq_nil_of_length_eq_zero (Nat.le_zero.1 hm)] at this
   cases this
  have hrC : Region.ready .any ops C = [] := by
   apply List.eq_nil_iff_forall_not_mem.2
   intro j hj
   obtain ⟨h1, o, h2, h3⟩ := mem_ready.1 hj
   exact (unlisted h1).2 (h.sub j (hallI j (Array.getElem?_eq_some_iff.1 h2).1))
  have hst : st = stF := by
   cases f with
   | zero => simp only [adraw, hrC] at hs; cases hs; rfl
   | succ f => simp only [adraw, hrC] at hs; cases hs; rfl
  subst hst
  exact ⟨hr, hQ a w ρ (h.done hall) h.step⟩
 | succ m ihm =>
  intro f
  induction f with
  | zero =>
   intro C st rds I L a w ρ hm h hs
   simp only [adraw] at hs
   split at hs
   case h_2 => cases hs
   rename_i hrC
   cases hs
   refine ⟨fun hr => hQ a w ρ (h.done (h.all hD hr)) h.step, fun j hj => ?_⟩
   obtain ⟨h1, h2, h3, o, h4, h5⟩ := ready_in h.cs h.sub hj
   rw [hrC] at h1
   have hjC := h1.resolve_right (by simp)
   refine wpOp_mono ?_ (h.run hD h4 hjC h2 h5)
   rintro a' w' ⟨ρ', h'⟩
   refine ihm 0 C _ rds I _ a' w' ρ' ?_ h' (by simp only [adraw, hrC])
   have := unl_set (ops := ops) (L := L) h3 h.ls (mem_ready.1 hj).1
   omega
  | succ f ihf =>
   intro C st rds I L a w ρ hm h hs
   have pending : ∀ j, j ∈ Region.ready .any ops L → In C j → ∀ o, ops[j]? = some o → (∀ e ∈ o.after, Region.binds .any e = true → In L e.on) → wpOp P ops Q j (wpAny P .any ops Q m (L.setIfInBounds j true)) a w := by
    intro j hj hjC o ho hall
    refine wpOp_mono ?_ (h.run hD ho hjC (unlisted (mem_ready.1 hj).1).2 hall)
    rintro a' w' ⟨ρ', h'⟩
    refine ihm (f + 1) C st rds I _ a' w' ρ' ?_ h' hs
    have := unl_set (ops := ops) (L := L) (Array.getElem?_eq_some_iff.1 ho).1 h.ls (mem_ready.1 hj).1
    omega
   have hs0 := hs
   simp only [adraw] at hs
   split at hs
   ·rename_i hrC
    cases hs
    refine ⟨fun hr => hQ a w ρ (h.done (h.all hD hr)) h.step, fun j hj => ?_⟩
    obtain ⟨h1, h2, h3, o, h4, h5⟩ := ready_in h.cs h.sub hj
    rw [hrC] at h1
    exact pending j hj (h1.resolve_right (by simp)) o h4 h5
   ·rename_i r rs hrC
    split at hs
    ·rename_i i hf
     have him : i ∈ Region.ready .any ops C := by rw [hrC]; exact List.mem_of_find?_eq_some hf
     have hil := List.find?_some hf
     obtain ⟨g1, o, g2, g3⟩ := mem_ready.1 him
     have hnC := (unlisted g1).2
     have hh : isHeavy o.op = false := by
      unfold lightIdx at hil
      rw [g2] at hil
      simpa using hil
     rw [g2] at hs
     dsimp only at hs
     split at hs
     ·rename_i hw
      split at hs
      ·rename_i v hv
       split at hs
       case h_2 => cases hs
       rename_i tm' ht
       refine ihf _ ⟨tm', st.hp, st.nx⟩ _ (I.set i st.tm v none) L a w ρ hm (h.absorb hD g2 hnC g3 hh (st' := ⟨tm', st.hp, st.nx⟩) (v := v) (B := none) ht h.rel (fun _ _ h => h) (Nat.le_refl _) h.step (fun b hb => by cases hb) (fun I' e1 e2 e3 => .inr (.inl ⟨by rw [e1]; exact hw, .inl (by rw [e1, e2]; exact hv), e3⟩)) ?_ ?_) hs
       ·intro x hx
        cases isRead o (aev st.tm) <;> simp [hx]
       ·intro _ hrd
        rw [hrd]
        simp
      ·rename_i ob nv hv
       split at hs
       case h_2 => cases hs
       rename_i tm' ht
       cases hrd : isRead o (aev st.tm) with
       | true => rw [hrd] at hs; cases hs
       | false =>
        rw [hrd, cond_false] at hs
        refine ihf _ ⟨tm', st.hp.put st.nx (some ob), st.nx + 1⟩ _ (I.set i st.tm (nv.val st.nx) (some st.nx)) L a w ρ hm (h.absorb hD g2 hnC g3 hh (st' := ⟨tm', st.hp.put st.nx (some ob), st.nx + 1⟩) (v := nv.val st.nx) (B := some st.nx) ht (h.rel.reserve ob) ?_ (Nat.le_succ _) ?_ (fun b hb => by cases hb; exact Nat.le_refl _) (fun I' e1 e2 e3 => ?_) (fun _ h => h) (fun _ h' => by rw [hrd] at h'; cases h')) hs
        ·intro b x hb
         have : b ≠ st.nx := fun e => by rw [e, h.rel.fresh _ (Nat.le_refl _)] at hb; cases hb
         rw [Tr.get_put, if_neg this]
         exact hb
        ·exact ⟨h.step.le, Nat.le_succ_of_le h.step.more, fun b hb hr => by
          have := h.step.old b hb hr
          refine ⟨this.1, ?_⟩
          rw [Tr.get_put, if_neg (by have := h.step.more; omega)]
          exact this.2⟩
        ·refine .inr (.inr ⟨by rw [e1]; exact hw, by rw [e1]; exact hrd, ob, nv, st.nx, ?_, e2, e3, by simp, h.step.more, h.rel.dom_none, by rw [Tr.get_put, if_pos rfl]⟩)
         rw [e1]
         refine .inl ?_
         rw [← alight_still (hp := st.hp) hrd]
         exact hv
      ·cases hs
     ·rename_i hw
      split at hs
      case h_2 => cases hs
      rename_i tm' ht
      exact ihf _ ⟨tm', st.hp, st.nx⟩ _ (I.set i st.tm undef none) L a w ρ hm (h.absorb hD g2 hnC g3 hh (st' := ⟨tm', st.hp, st.nx⟩) (v := undef) (B := none) ht h.rel (fun _ _ h => h) (Nat.le_refl _) h.step (fun b hb => by cases hb) (fun I' e1 e2 e3 => .inl ⟨by rw [e1]; exact hw, e2, e3⟩) (fun _ h => h) (fun h' => by rw [hw] at h'; cases h')) hs
     ·cases hs
    ·split at hs
     case h_2 => cases hs
     split at hs
     case h_2 => cases hs
     rename_i o ho
     split at hs
     case h_2 => cases hs
     rename_i st' hst
     cases hchk : rds.all (fun rd => comesBefore ops rd.i r || stable P st'.hp rd) with
     | false => rw [hchk] at hs; cases hs
     | true =>
      rw [hchk, cond_true] at hs
      have hrm : r ∈ Region.ready .any ops C := by rw [hrC]; simp
      obtain ⟨g1, o', g2, g3⟩ := mem_ready.1 hrm
      rw [ho] at g2
      cases g2
      have hnC := (unlisted g1).2
      refine ⟨fun hr => ?_, fun j hj => ?_⟩
      ·exfalso
       have hall := h.all hD hr
       have : r ∈ Region.ready .any ops L := mem_ready.2 ⟨unlisted_of (by rw [h.ls]; exact (Array.getElem?_eq_some_iff.1 ho).1) (fun h' => hnC (h.sub r h')), o, ho, fun e he hb => hall _ (g3 e he hb)⟩
       rw [hr] at this
       cases this
      ·obtain ⟨h1, h2, h3, oj, h4, h5⟩ := ready_in h.cs h.sub hj
       rcases h1 with h1 | h1
       ·exact pending j hj h1 oj h4 h5
       ·rw [hrC] at h1
        have hjr : j = r := by simpa using h1
        subst hjr
        rw [ho] at h4
        cases h4
        refine wpOp_mono ?_ (h.heavy hcall hD ho hnC g3 h5 hst hchk)
        rintro a' w' ⟨ρ', I', h'⟩
        refine ihm f _ st' rds I' _ a' w' ρ' ?_ h' hs
        have := unl_set (ops := ops) (L := L) h3 h.ls (mem_ready.1 hj).1
        omega
theorem region_draw {call : ACall} (hcall : CallOk P W call) (hm : P.follows .mixedOrders = true) (hD : drawOk ops = true) {id : Nat} {stF : AS} {a : Act} {w : World} (h : SRel ρ0 W n st0 a w)
  (hs : adraw P call ops n ops.size (Array.replicate ops.size false) st0 [] = some stF) (hQ : ∀ a' w' ρ', SRel ρ' W n stF a' w' → Step ρ0 ρ' st0.hp stF.hp st0.nx stF.nx → Q .normal a' w') : (Code.region id ops true).wp P Q a w := by
 refine wp_region_any hm ?_
 have hnot : ∀ i, ¬ In (Array.replicate ops.size false) i := fun i hi => by
  have := lt_of_in (ops := ops) (by simp) hi
  simp [In, this] at hi
 refine draw_main hcall hD hQ ops.size ops.size _ st0 [] ⟨fun _ => .e, fun _ => undef, fun _ => none⟩ _ a _ ρ0 ?_ ⟨by simp, by simp, fun i hi => (hnot i hi).elim, fun i hi => (hnot i hi).elim, fun i hi => hi, fun j o t hj => (hnot j hj).elim, fun t _ => rfl, h.rel.drew, h.frame.size, h.frame.defers, fun j o t hj => (hnot j hj).elim, fun t v _ hv => h.frame.slot t v hv, fun j o hj => (hnot j hj).elim, fun j k b hj => (hnot j hj).elim, .refl _ _ _, fun j o hj => (hnot j hj).elim⟩ hs
 unfold unl
 exact Nat.le_trans (List.length_filter_le _ _) (by simp)
end
end Go.Proofs.YtojlhapbngcjkaaGreatDoor

noncomputable section
namespace Go.Proofs.YtojlhapbngcjkaaGreatDoor
open Go Go.RowKit
set_option maxRecDepth 100000
set_option maxHeartbeats 8000000
inductive AEx where
 | normal
 | exit (id : Nat)
 | ret
def AEx.to : AEx → Exit
 | .normal => .normal
 | .exit id => .exit id
 | .ret => .ret
def aresL (P : Program) (hp : Tr AObj) (tm : Tr Value) : List ResultVar → Option (List Value)
 | [] => some []
 | .tmp t :: l => match tm.get t with
  | some v => match aresL P hp tm l with
   | some vs => some (v :: vs)
   | none => none
  | none => none
 | .cell a t :: l => match tm.get a with
  | some p => match aLoad P hp t p with
   | some v => match aresL P hp tm l with
    | some vs => some (v :: vs)
    | none => none
   | none => none
  | none => none
def ares (P : Program) (hp : Tr AObj) (tm : Tr Value) (fn : Func) : Option Value :=
 match aresL P hp tm fn.results.toList with
 | some [v] => some v
 | some vs => some (.tuple vs.toArray)
 | none => none
theorem aresL_sound {P : Program} {ρ : Place} {W : Base} {hp : Tr AObj} {nx : Nat} {w : World} (h : Rel ρ W hp nx w) {tm : Tr Value} {n : Nat} {D : List Deferred} {a : Act} (hF : FRel D ρ tm n a) : ∀ {l : List ResultVar} {vs : List Value}, aresL P hp tm l = some vs →
  ∃ vs', VRL ρ vs vs' ∧ (l.mapM fun x => (match x with | .tmp t => pure (a.tmps.getD t undef) | .cell p t => do loadVar t (← asAddr (a.tmps.getD p undef)) : Sem Value)).run P w = .ok vs' w
 | [], vs, hl => by simp only [aresL] at hl; cases hl; exact ⟨[], .nil, rfl⟩
 | .tmp t :: l, vs, hl => by
  simp only [aresL] at hl
  split at hl
  case h_2 => cases hl
  rename_i v hv
  split at hl
  case h_2 => cases hl
  rename_i us hus
  cases hl
  obtain ⟨vs', h1, h2⟩ := aresL_sound h hF hus
  refine ⟨a.tmps.getD t undef :: vs', .cons (hF.slot t v hv).2 h1, ?_⟩
  rw [List.mapM_cons, Sem.run_bind]
  show (Result.andThen (.ok (a.tmps.getD t undef) w) _) = _
  rw [Result.andThen_ok, Sem.run_bind, h2, Result.andThen_ok]
  rfl
 | .cell p t :: l, vs, hl => by
  simp only [aresL] at hl
  split at hl
  case h_2 => cases hl
  rename_i q hq
  split at hl
  case h_2 => cases hl
  rename_i v hv
  split at hl
  case h_2 => cases hl
  rename_i us hus
  cases hl
  obtain ⟨vs', h1, h2⟩ := aresL_sound h hF hus
  have hp' := (hF.slot p q hq).2
  obtain ⟨v', e, hr⟩ := aLoad_sound h hp' hv
  refine ⟨v' :: vs', .cons hr h1, ?_⟩
  have e' : ((asAddr (a.tmps.getD p undef)) >>= fun x => loadVar t x).run P w = .ok v' w := by
   rw [← e]
   unfold Instr.loadAt
   generalize a.tmps.getD p undef = y at hp' ⊢
   unfold aLoad at hv
   cases hp' <;> try simp only [reduceCtorEq] at hv
   rfl
  rw [List.mapM_cons, Sem.run_bind, e', Result.andThen_ok, Sem.run_bind, h2, Result.andThen_ok]
  rfl
theorem ares_sound {P : Program} {ρ : Place} {W : Base} {hp : Tr AObj} {nx : Nat} {w : World} (h : Rel ρ W hp nx w) {tm : Tr Value} {n : Nat} {D : List Deferred} {a : Act} (hF : FRel D ρ tm n a) {fn : Func} {v : Value} (hv : ares P hp tm fn = some v) :
  ∃ v', (results fn a.tmps).run P w = .ok v' w ∧ VR ρ v v' := by
 unfold ares at hv
 have run : ∀ vs', (fn.results.toList.mapM fun x => (match x with | .tmp t => pure (a.tmps.getD t undef) | .cell p t => do loadVar t (← asAddr (a.tmps.getD p undef)) : Sem Value)).run P w = .ok vs' w →
   (results fn a.tmps).run P w = .ok (if h : vs'.toArray.size = 1 then vs'.toArray[0] else .tuple vs'.toArray) w := by
  intro vs' hr
  unfold results
  rw [Sem.run_bind]
  have : (fn.results.mapM fun x => (match x with | .tmp t => pure (a.tmps.getD t undef) | .cell p t => do loadVar t (← asAddr (a.tmps.getD p undef)) : Sem Value)).run P w = .ok vs'.toArray w := by
   rw [Array.mapM_eq_mapM_toList, Sem.run_map, hr]
   rfl
  exact (congrArg (fun r => Result.andThen r _) this).trans rfl
 split at hv
 ·rename_i u hl
  cases hv
  obtain ⟨vs', h1, h2⟩ := aresL_sound h hF hl
  cases h1 with
  | cons hu hnil =>
   cases hnil
   exact ⟨_, run _ h2, by simpa using hu⟩
 ·rename_i vs hne hl
  cases hv
  obtain ⟨vs', h1, h2⟩ := aresL_sound h hF hl
  refine ⟨_, run _ h2, ?_⟩
  have hlen : vs'.length ≠ 1 := fun e => by
   have := h1.len
   match vs, hne, this with
   | [v], hne, _ => exact hne v rfl
   | [], _, h => rw [e] at h; cases h
   | _ :: _ :: _, _, h => rw [e] at h; simp at h
  rw [dif_neg (by simpa using hlen)]
  exact .tuple h1.arr.1 h1.arr.2
 ·cases hv
def putArgs : Nat → List Value → Tr Value → Tr Value
 | _, [], t => t
 | i, v :: l, t => putArgs (i + 1) l (t.put i (some v))
theorem putArgs_get : ∀ (l : List Value) (i : Nat) (t : Tr Value) (k : Nat), (putArgs i l t).get k = if i ≤ k ∧ k < i + l.length then l[k - i]? else t.get k
 | [], i, t, k => by simp [putArgs]; omega
 | v :: l, i, t, k => by
  simp only [putArgs]
  rw [putArgs_get l (i + 1) _ k, Tr.get_put]
  by_cases h : k = i
  ·subst h
   rw [if_neg (by omega), if_pos rfl, if_pos (by simp)]
   simp
  ·by_cases h1 : i + 1 ≤ k ∧ k < i + 1 + l.length
   ·rw [if_pos h1, if_pos (by simp; omega)]
    obtain ⟨j, hj⟩ : ∃ j, k = i + 1 + j := ⟨k - (i + 1), by omega⟩
    subst hj
    rw [show i + 1 + j - (i + 1) = j by omega, show i + 1 + j - i = j + 1 by omega]
    simp
   ·rw [if_neg h1, if_neg h, if_neg (by simp; omega)]
abbrev noA : ACall := fun _ _ _ _ => none
theorem noA_ok {P : Program} (W : Base) : CallOk P W noA := fun f args hp nx v hp' nx' h => (by cases h)
def acallR (P : Program) (orc : ACall) (R : Nat → Code → AS → Option (AEx × AS)) : ACall := fun f args hp nx => match orc f args hp nx with
 | some r => some r
 | none => match P.funcs[f]? with
  | some fn => match fn.body with
   | some c => match R (args.length + (fn.ntmps - args.length)) c ⟨putArgs 0 args .e, hp, nx⟩ with
    | some (.normal, st') | some (.ret, st') => match ares P st'.hp st'.tm fn with
     | some v => some (v, st'.hp, st'.nx)
     | none => none
    | _ => none
   | none => none
  | none => none
def cregion (P : Program) (orc : ACall) (R : Nat → Code → AS → Option (AEx × AS)) (n : Nat) (st : AS) (ops : Array Oper) (draw : Bool) : Option (AEx × AS) :=
 match (bif draw then (bif drawOk ops then adraw P (acallR P orc R) ops n ops.size (Array.replicate ops.size false) st [] else none) else aseq P (acallR P orc R) ops n st ops.toList) with
 | some st' => some (.normal, st')
 | none => none
def cseq (R : Nat → Code → AS → Option (AEx × AS)) (n : Nat) (y : Code) (r : Option (AEx × AS)) : Option (AEx × AS) :=
 match r with
 | some (.normal, st') => R n y st'
 | r => r
def ccond (R : Nat → Code → AS → Option (AEx × AS)) (n : Nat) (st : AS) (x y : Code) (c : Option Value) : Option (AEx × AS) :=
 match c with
 | some (.bool true) => R n x st
 | some (.bool false) => R n y st
 | _ => none
def cblock (id : Nat) (r : Option (AEx × AS)) : Option (AEx × AS) :=
 match r with
 | some (.exit j, st') => bif j.beq id then some (.normal, st') else some (.exit j, st')
 | r => r
def ctab (c : Code) : Program → ACall → (Nat → Code → AS → Option (AEx × AS)) → Nat → AS → Option (AEx × AS) :=
 Code.rec (motive := fun _ => Program → ACall → (Nat → Code → AS → Option (AEx × AS)) → Nat → AS → Option (AEx × AS))
  (fun _ _ _ _ st => some (.normal, st))
  (fun _ ops draw P orc R n st => cregion P orc R n st ops draw)
  (fun x y _ _ _ _ R n st => cseq R n y (R n x st))
  (fun c x y _ _ _ _ R n st => ccond R n st x y (aev st.tm c))
  (fun id b _ _ _ R n st => cblock id (R n b st))
  (fun b _ _ _ R n st => cseq R n (.loop b) (R n b st))
  (fun _ _ _ _ _ _ _ _ _ _ _ => none)
  (fun id _ _ _ _ st => some (.exit id, st))
  (fun b _ _ _ R n st => R n b st)
  (fun _ _ _ _ _ st => some (.normal, st))
  (fun _ _ _ _ _ _ => none)
  (fun _ _ _ _ st => some (.ret, st))
  (fun _ _ _ _ _ _ => none) c
def acode (P : Program) (orc : ACall) (k : Nat) : Nat → Code → AS → Option (AEx × AS) :=
 Nat.rec (motive := fun _ => Nat → Code → AS → Option (AEx × AS)) (fun _ _ _ => none) (fun _ ih n c st => ctab c P orc ih n st) k
theorem acode_zero (P : Program) (orc : ACall) (n : Nat) (c : Code) (st : AS) : acode P orc 0 n c st = none := rfl
theorem acode_succ (P : Program) (orc : ACall) (k n : Nat) (c : Code) (st : AS) : acode P orc (k + 1) n c st =
  (match c with
  | .skip | .label _ => some (.normal, st)
  | .region _ ops draw => cregion P orc (acode P orc k) n st ops draw
  | .seq x y => cseq (acode P orc k) n y (acode P orc k n x st)
  | .cond c x y => ccond (acode P orc k) n st x y (aev st.tm c)
  | .block id b => cblock id (acode P orc k n b st)
  | .loop b => cseq (acode P orc k) n (.loop b) (acode P orc k n b st)
  | .exit id => some (.exit id, st)
  | .ret => some (.ret, st)
  | .scope b => acode P orc k n b st
  | _ => none) := by cases c <;> rfl
def acallO (P : Program) (orc : ACall) (k : Nat) : ACall := acallR P orc (acode P orc k)
def LoopWp (P : Program) (b : Code) (Q : Exit → Act → World → Prop) (a : Act) (w : World) : Prop :=
 ∀ (fr : Frame) (k : List Item) (cs : List Frame), ∃ e a' w', Q e a' w' ∧ Arrives P (lone (fr.at a (.code b :: .inLoop b :: k)) cs w) fr k cs e a' w'
theorem loop_of {P : Program} {b : Code} {Q : Exit → Act → World → Prop} {a : Act} {w : World} (h : LoopWp P b Q a w) : (Code.loop b).wp P Q a w :=
 fun fr k cs => let ⟨e, a', w', q, r⟩ := h fr k cs; ⟨e, a', w', q, .of_steps (.one step_loop) r⟩
theorem loop_round {P : Program} {b : Code} {Q : Exit → Act → World → Prop} {a : Act} {w : World} (h : b.wp P (Exit.then (LoopWp P b Q) Q) a w) : LoopWp P b Q a w := by
 intro fr k cs
 obtain ⟨e, a₁, w₁, hq, harr⟩ := h fr (.inLoop b :: k) cs
 cases e with
 | normal =>
  obtain ⟨e₂, a₂, w₂, hq₂, harr₂⟩ := hq fr k cs
  exact ⟨e₂, a₂, w₂, hq₂, .of_steps (Steps.trans harr (.one step_inLoop)) harr₂⟩
 | exit id => exact ⟨_, a₁, w₁, hq, .pass (x := .inLoop b) rfl (fun _ _ => .inl (by simp)) harr⟩
 | goto l => exact ⟨_, a₁, w₁, hq, .pass (x := .inLoop b) rfl (fun _ _ => .inl (by simp)) harr⟩
 | ret => exact ⟨_, a₁, w₁, hq, .pass (x := .inLoop b) rfl (fun _ _ => .inl (by simp)) harr⟩
 | panic ch => exact ⟨_, a₁, w₁, hq, .pass (x := .inLoop b) rfl (fun _ _ => .inl (by simp)) harr⟩
 | outgrown => exact ⟨_, a₁, w₁, hq, .pass (x := .inLoop b) rfl (fun _ _ => .inl (by simp)) harr⟩
def Runs (W : Base) (n : Nat) (st st' : AS) (e : AEx) (g : (Exit → Act → World → Prop) → Act → World → Prop) : Prop :=
 ∀ (ρ : Place) (a : Act) (w : World) (Q : Exit → Act → World → Prop), SRel ρ W n st a w → (∀ a' w' ρ', SRel ρ' W n st' a' w' → Step ρ ρ' st.hp st'.hp st.nx st'.nx → Q e.to a' w') → g Q a w
theorem acode_sound {P : Program} (hm : P.follows .mixedOrders = true) {orc : ACall} (horc : ∀ W, CallOk P W orc) : ∀ k, (∀ W n c st e st', acode P orc k n c st = some (e, st') → Runs W n st st' e (c.wp P)) ∧
  (∀ W n b st e st', acode P orc k n (.loop b) st = some (e, st') → Runs W n st st' e (LoopWp P b)) ∧ ∀ W, CallOk P W (acallO P orc k) := by
 intro k
 induction k with
 | zero =>
  refine ⟨fun W n c st e st' h => (nomatch (show (none : Option (AEx × AS)) = some (e, st') from h)), fun W n b st e st' h => (nomatch (show (none : Option (AEx × AS)) = some (e, st') from h)), fun W f args hp nx v hp' nx' h => ?_⟩
  unfold acallO acallR at h
  split at h
  ·rename_i r hr
   cases h
   exact horc W f args hp nx _ _ _ hr
  split at h
  case h_2 => cases h
  split at h
  case h_2 => cases h
  simp [acode_zero] at h
 | succ k ih =>
  obtain ⟨ih1, ih2, ih3⟩ := ih
  have loops : ∀ W n b st e st', acode P orc (k + 1) n (.loop b) st = some (e, st') → Runs W n st st' e (LoopWp P b) := by
   intro W n b st e st' h ρ a w Q hs hQ
   rw [acode_succ] at h; dsimp only [cseq, ccond, cblock, cregion] at h
   refine loop_round ?_
   split at h
   ·rename_i st1 h1
    refine ih1 W n b st .normal st1 h1 ρ a w _ hs fun a' w' ρ' g1 g2 => ?_
    exact ih2 W n b st1 e st' h ρ' a' w' Q g1 fun a2 w2 ρ2 k1 k2 => hQ a2 w2 ρ2 k1 (g2.trans k2)
   ·rename_i hne
    refine ih1 W n b st e st' h ρ a w _ hs fun a' w' ρ' g1 g2 => ?_
    cases e with
    | normal => exact (hne st' h).elim
    | exit id => exact hQ a' w' ρ' g1 g2
    | ret => exact hQ a' w' ρ' g1 g2
  have codes : ∀ W n c st e st', acode P orc (k + 1) n c st = some (e, st') → Runs W n st st' e (c.wp P) := by
   intro W n c st e st' h ρ a w Q hs hQ
   cases c with
   | loop b => exact loop_of (loops W n b st e st' h ρ a w Q hs hQ)
   | skip => rw [acode_succ] at h; dsimp only [cseq, ccond, cblock, cregion] at h; cases h; exact wp_skip (hQ a w ρ hs (.refl _ _ _))
   | label l => rw [acode_succ] at h; dsimp only [cseq, ccond, cblock, cregion] at h; cases h; exact wp_label (hQ a w ρ hs (.refl _ _ _))
   | exit id => rw [acode_succ] at h; dsimp only [cseq, ccond, cblock, cregion] at h; cases h; exact wp_exit (hQ a w ρ hs (.refl _ _ _))
   | ret => rw [acode_succ] at h; dsimp only [cseq, ccond, cblock, cregion] at h; cases h; exact wp_ret (hQ a w ρ hs (.refl _ _ _))
   | goto l => rw [acode_succ] at h; cases h
   | refuse y => rw [acode_succ] at h; cases h
   | scope b =>
    rw [acode_succ] at h; dsimp only [cseq, ccond, cblock, cregion] at h
    refine wp_scope_straight ?_
    refine ih1 W n b st e st' h ρ a w _ hs fun a' w' ρ' g1 g2 => ?_
    cases e <;> exact hQ a' w' ρ' g1 g2
   | rangeFunc f ps x y => rw [acode_succ] at h; cases h
   | region id ops draw =>
    rw [acode_succ] at h; dsimp only [cseq, ccond, cblock, cregion] at h
    split at h
    case h_2 => cases h
    rename_i st1 h1
    cases h
    cases draw with
    | false =>
     simp only [cond_false] at h1
     exact region_seq (call := acallO P orc k) (ih3 W) hs h1 hQ
    | true =>
     simp only [cond_true] at h1
     cases hD : drawOk ops with
     | false => rw [hD] at h1; cases h1
     | true =>
      rw [hD, cond_true] at h1
      exact region_draw (call := acallO P orc k) (ih3 W) hm hD hs h1 hQ
   | seq x y =>
    rw [acode_succ] at h; dsimp only [cseq, ccond, cblock, cregion] at h
    refine wp_seq ?_
    split at h
    ·rename_i st1 h1
     refine ih1 W n x st .normal st1 h1 ρ a w _ hs fun a' w' ρ' g1 g2 => ?_
     exact ih1 W n y st1 e st' h ρ' a' w' Q g1 fun a2 w2 ρ2 k1 k2 => hQ a2 w2 ρ2 k1 (g2.trans k2)
    ·rename_i hne
     refine ih1 W n x st e st' h ρ a w _ hs fun a' w' ρ' g1 g2 => ?_
     cases e with
     | normal => exact (hne st' h).elim
     | exit id => exact hQ a' w' ρ' g1 g2
     | ret => exact hQ a' w' ρ' g1 g2
   | cond c x y =>
    rw [acode_succ] at h; dsimp only [cseq, ccond, cblock, cregion] at h
    split at h
    ·rename_i hc
     have := hs.frame.eval hc
     refine wp_cond_true (c := c) ?_ (ih1 W n x st e st' h ρ a w Q hs hQ)
     generalize a.eval c = z at this
     cases this
     rfl
    ·rename_i hc
     have := hs.frame.eval hc
     refine wp_cond_false (c := c) ?_ (ih1 W n y st e st' h ρ a w Q hs hQ)
     generalize a.eval c = z at this
     cases this
     rfl
    ·cases h
   | block id b =>
    rw [acode_succ] at h; dsimp only [cseq, ccond, cblock, cregion] at h
    refine wp_block ?_
    split at h
    ·rename_i j st1 h1
     refine ih1 W n b st (.exit j) st1 h1 ρ a w _ hs fun a' w' ρ' g1 g2 => ?_
     simp only [AEx.to, Exit.inBlock]
     cases hj : j.beq id with
     | true =>
      rw [hj] at h
      cases h
      rw [if_pos (Nat.eq_of_beq_eq_true hj)]
      exact hQ a' w' ρ' g1 g2
     | false =>
      rw [hj] at h
      cases h
      rw [if_neg (fun e => by subst e; simp at hj)]
      exact hQ a' w' ρ' g1 g2
    ·rename_i hne
     refine ih1 W n b st e st' h ρ a w _ hs fun a' w' ρ' g1 g2 => ?_
     cases e with
     | normal => exact hQ a' w' ρ' g1 g2
     | exit j => exact (hne j st' h).elim
     | ret => exact hQ a' w' ρ' g1 g2
  refine ⟨codes, loops, fun W f args hp nx v hp' nx' h ρ w args' hrel hargs => ?_⟩
  unfold acallO acallR at h
  split at h
  ·rename_i r hr
   cases h
   exact horc W f args hp nx _ _ _ hr ρ w args' hrel hargs
  split at h
  case h_2 => cases h
  rename_i fn hfn
  split at h
  case h_2 => cases h
  rename_i c hc
  have start : SRel ρ W.bare (args.length + (fn.ntmps - args.length)) ⟨putArgs 0 args .e, hp, nx⟩ { tmps := args'.toArray ++ Array.replicate (fn.ntmps - args'.toArray.size) undef, defers := [] } w := by
   refine ⟨hrel.bare, ?_, rfl, fun t u hu => ?_⟩
   ·simp [hargs.len]
   ·rw [putArgs_get] at hu
    by_cases ht : 0 ≤ t ∧ t < 0 + args.length
    ·rw [if_pos ht] at hu
     have hlt : t < args'.length := by rw [← hargs.len]; omega
     refine ⟨by omega, ?_⟩
     have hg := hargs.get (i := t) (v := u) (v' := args'[t]) (by simpa using hu) (by simp)
     rw [Array.getD_eq_getD_getElem?, Array.getElem?_append_left (by simpa using hlt)]
     simpa [hlt] using hg
    ·rw [if_neg ht] at hu
     simp [Tr.get_e] at hu
  have fin : ∀ e st', acode P orc (k + 1) (args.length + (fn.ntmps - args.length)) c ⟨putArgs 0 args .e, hp, nx⟩ = some (e, st') → (e = .normal ∨ e = .ret) → (match ares P st'.hp st'.tm fn with | some v => some (v, st'.hp, st'.nx) | none => none) = some (v, hp', nx') →
    Calls P f args'.toArray w fun e w' => ∃ v' ρ', e = .returned v' ∧ VR ρ' v v' ∧ Rel ρ' W hp' nx' w' ∧ Step ρ ρ' hp hp' nx nx' := by
   intro e st' hac he hr
   split at hr
   case h_2 => cases hr
   rename_i u hu
   cases hr
   refine calls_of_wp hfn hc (codes _ _ c _ e st' hac ρ _ w _ start fun a' w' ρ' g1 g2 => ?_)
   obtain ⟨v', r1, r2⟩ := ares_sound g1.rel g1.frame hu
   rcases he with rfl | rfl
   ·exact ⟨g1.frame.defers, v', r1, v', ρ', rfl, r2, g1.rel.unbare, g2⟩
   ·exact ⟨g1.frame.defers, v', r1, v', ρ', rfl, r2, g1.rel.unbare, g2⟩
  split at h
  ·rename_i st' hac
   exact fin _ st' hac (.inl rfl) h
  ·rename_i st' hac
   exact fin _ st' hac (.inr rfl) h
  ·cases h
def pIf (b : Bool) (X Y : Prop) : Prop := Bool.rec (motive := fun _ => Prop) Y X b
theorem pIf_intro {b : Bool} {X Y : Prop} (h1 : b = true → X) (h2 : b = false → Y) : pIf b X Y := by
 cases b with
 | true => exact h1 rfl
 | false => exact h2 rfl
theorem pIf_true {X Y : Prop} (h : pIf true X Y) : X := h
theorem pIf_false {X Y : Prop} (h : pIf false X Y) : Y := h
@[simp] theorem pIf_iff (b : Bool) (X Y : Prop) : pIf b X Y ↔ (b = true → X) ∧ (b = false → Y) := by
 cases b
 ·exact ⟨fun h => ⟨fun e => (by cases e), fun _ => h⟩, fun h => h.2 rfl⟩
 ·exact ⟨fun h => ⟨fun _ => h, fun e => (by cases e)⟩, fun h => h.1 rfl⟩
def vsplit (v : Value) (F : Value → Prop) : Prop :=
 match v with
 | .bool b => pIf b (F (.bool true)) (F (.bool false))
 | v => F v
theorem vsplit_ap {v : Value} {F : Value → Prop} (h : vsplit v F) : F v := by
 cases v <;> try exact h
 rename_i b
 cases b <;> exact h
abbrev VCall := FuncId → List Value → Tr AObj → Nat → (Value → Bool → Tr AObj → Nat → Prop) → Prop
def VCallOk (P : Program) (vc : VCall) : Prop :=
 ∀ f args hp nx K, vc f args hp nx K → ∀ (W : Base) ρ w args', Rel ρ W hp nx w → VRL ρ args args' →
  Calls P f args'.toArray w fun e w' => ∃ v c hp' nx' v' ρ', K v c hp' nx' ∧ (c = false → hp' = hp) ∧ e = .returned v' ∧ VR ρ' v v' ∧ Rel ρ' W hp' nx' w' ∧ Step ρ ρ' hp hp' nx nx'
def sStore (P : Program) (hp : Tr AObj) (t : TypeId) (x v : Value) : Option (Tr AObj × Prop) :=
 match x with
 | .pointer (some ⟨b, o, none⟩) => match hp.get b with
  | some (.cells l true) => match pureRun P (sizeOf t) with
   | some z => bif v.cells.size.beq z && v.cells.toList.all single then some (hp.put b (some (.cells (setFrom l o v.cells.toList) true)), o + z ≤ l.length) else none
   | none => none
  | _ => none
 | _ => none
theorem sStore_eq {P : Program} {hp hp' : Tr AObj} {t : TypeId} {x v : Value} {ob : Prop} (h : sStore P hp t x v = some (hp', ob)) (hob : ob) : aStore P hp t x v = some hp' := by
 unfold sStore at h
 split at h
 case h_2 => cases h
 rename_i b o
 split at h
 case h_2 => cases h
 rename_i l hb
 split at h
 case h_2 => cases h
 rename_i z hz
 cases hc : v.cells.size.beq z && v.cells.toList.all single with
 | false => rw [hc] at h; cases h
 | true =>
  rw [hc] at h
  cases h
  simp only [Bool.and_eq_true] at hc
  unfold aStore
  dsimp only
  rw [hb]
  dsimp only
  rw [hz]
  dsimp only
  rw [hc.1, hc.2, Nat.ble_eq_true_of_le hob]
  rfl
def sNext (hp : Tr AObj) (x : Value) (isString : Bool) (K : Value → Tr AObj → Prop) : Prop :=
 match x, isString with
 | .pointer (some ⟨b, 0, none⟩), true => match hp.get b with
  | some (.iter s pos) => pIf (decide (pos < s.size)) (K (.tuple #[.bool true, goInt pos, .int .i32 (Utf8.decode s pos).1]) (hp.put b (some (.iter s (pos + (Utf8.decode s pos).2))))) (K (.tuple #[.bool false]) hp)
  | _ => False
 | _, _ => False
theorem sNext_eq {hp : Tr AObj} {x : Value} {q : Bool} {K : Value → Tr AObj → Prop} (h : sNext hp x q K) : ∃ v hp', aNext hp x q = some (v, hp') ∧ K v hp' := by
 unfold sNext at h
 split at h
 case h_2 => exact h.elim
 rename_i b
 split at h
 case h_2 => exact h.elim
 rename_i s pos hb
 unfold aNext
 simp only [hb]
 by_cases hlt : pos < s.size
 ·rw [decide_eq_true hlt] at h
  have : pos.blt s.size = true := Nat.ble_eq_true_of_le hlt
  rw [this]
  exact ⟨_, _, rfl, h⟩
 ·rw [decide_eq_false hlt] at h
  have : pos.blt s.size = false := by
   cases hb : pos.blt s.size with
   | false => rfl
   | true => exact absurd (Nat.le_of_ble_eq_true hb) hlt
  rw [this]
  exact ⟨_, _, rfl, h⟩
def sSrc (hp : Tr AObj) (size : Nat) : Value → Option (Nat × List Value × Prop)
 | .slice none 0 _ => some (0, [], True)
 | .slice (some ⟨b, o, none⟩) n _ => match hp.get b with
  | some (.cells l _) => some (n, (l.drop o).take (n * size), o + n * size ≤ l.length)
  | _ => none
 | .string s => some (s.size, (byteCells s).toList, True)
 | .func (.via sz _ n false) els _ => bif sz.beq size then some (n, els.toList.flatMap (fun u => u.cells.toList), True) else none
 | _ => none
theorem nat_beq_self (n : Nat) : n.beq n = true := Nat.beq_refl n
theorem sSrc_eq {hp : Tr AObj} {size n : Nat} {x : Value} {l : List Value} {ob : Prop} (h : sSrc hp size x = some (n, l, ob)) (hob : ob) : srcLen x = some n ∧ (n ≠ 0 → srcCells hp size n x = some l) := by
 unfold sSrc at h
 split at h
 ·cases h; exact ⟨rfl, fun h => absurd rfl h⟩
 ·rename_i b o m cp
  split at h
  case h_2 => cases h
  rename_i l0 wr hb
  cases h
  refine ⟨rfl, fun hn => ?_⟩
  have : n.beq 0 = false := by cases n with
   | zero => exact absurd rfl hn
   | succ n => rfl
  unfold srcCells
  rw [this]
  dsimp only
  rw [cond_false]
  unfold rowOf
  rw [hb]
  dsimp only
  rw [Nat.ble_eq_true_of_le hob, cond_true]
 ·rename_i s
  cases h
  refine ⟨rfl, fun _ => ?_⟩
  unfold srcCells byteCells
  dsimp only
  congr 2
  rw [ByteArray.extract_zero_size]
 ·rename_i sz pth m els cp
  cases hc : sz.beq size with
  | false => rw [hc] at h; cases h
  | true =>
   rw [hc] at h
   cases h
   refine ⟨rfl, fun _ => ?_⟩
   unfold srcCells
   dsimp only
   rw [hc, nat_beq_self]
   rfl
 ·cases h
def sAppend (P : Program) (hp : Tr AObj) (nx : Nat) (argTypes : Array TypeId) (args : Array Value) (K : Value → Tr AObj → Nat → Prop) : Prop :=
 match argTypes[0]?, (args[0]? : Option Value), (args[1]? : Option Value) with
 | some t, some (.slice base sLen sz), some x => match P.underlying t with
  | some (.slice elem) => match pureRun P (sizeOf elem), pureRun P (typeInfo elem), pureRun P (zeroValue elem) with
   | some size, some info, some zero => match sSrc hp size x with
    | some (n, new, ob) => bif noMake P argTypes[1]? && zero.cells.size.beq size && info.bytes.ble (2 ^ 20) then
      ob ∧ pIf (n.beq 0) ((base.isSome || sLen.ble sz) = true ∧ K (.slice base sLen sz) hp nx)
       (sLen + n ≤ 2 ^ 25 ∧ new.all single = true ∧ new.length = n * size ∧ (match base with
        | none => bif sLen.beq 0 && sz.beq 0 then K (.slice (some ⟨nx, 0, none⟩) n size) (hp.put nx (some (.cells new true))) (nx + 1) else False
        | some ⟨b, o, none⟩ => match hp.get b with
         | some (.cells l true) => bif sz.beq size then o + sLen * size = l.length ∧ K (.slice (some ⟨nx, 0, none⟩) (sLen + n) size) ((hp.put b none).put nx (some (.cells (l.drop o ++ new) true))) (nx + 1) else False
         | _ => False
        | _ => False))
     else False
    | none => False
   | _, _, _ => False
  | _ => False
 | _, _, _ => False
theorem sAppend_eq {P : Program} {hp : Tr AObj} {nx : Nat} {argTypes : Array TypeId} {args : Array Value} {K : Value → Tr AObj → Nat → Prop} (h : sAppend P hp nx argTypes args K) :
  ∃ v hp' nx', aAppend P hp nx argTypes args = some (v, hp', nx') ∧ K v hp' nx' := by
 unfold sAppend at h
 split at h
 case h_2 => exact h.elim
 rename_i t base sLen sz x ht h0 h1
 split at h
 case h_2 => exact h.elim
 rename_i elem hu
 split at h
 case h_2 => exact h.elim
 rename_i size info zero hz hi hzv
 split at h
 case h_2 => exact h.elim
 rename_i n new ob hsrc
 cases hc : noMake P argTypes[1]? && zero.cells.size.beq size && info.bytes.ble (2 ^ 20) with
 | false => rw [hc] at h; exact h.elim
 | true =>
  rw [hc, cond_true] at h
  simp only [Bool.and_eq_true] at hc
  obtain ⟨⟨c1, c2⟩, c3⟩ := hc
  obtain ⟨hob, h⟩ := h
  obtain ⟨g1, g2⟩ := sSrc_eq hsrc hob
  unfold aAppend
  rw [ht, h0, h1]
  dsimp only
  rw [hu, g1]
  dsimp only
  rw [hz]
  dsimp only
  rw [c1, cond_true]
  cases hn : n.beq 0 with
  | true =>
   rw [hn] at h
   have h := pIf_true h
   rw [cond_true, h.1]
   exact ⟨_, _, _, rfl, h.2⟩
  | false =>
   rw [hn] at h
   replace h := pIf_false h
   obtain ⟨k1, k2, k3, h⟩ := h
   have hn0 : n ≠ 0 := fun e => by subst e; cases hn
   rw [cond_false, hi, hzv, g2 hn0]
   dsimp only
   rw [c2, Nat.ble_eq_true_of_le k1, c3, k2, show new.length.beq (n * size) = true by rw [k3]; exact nat_beq_self _]
   simp only [Bool.and_self, cond_true]
   split at h
   ·cases hc : sLen.beq 0 && sz.beq 0 with
    | false => rw [hc] at h; exact h.elim
    | true => rw [hc] at h; exact ⟨_, _, _, rfl, h⟩
   ·rename_i b o
    split at h
    case h_2 => exact h.elim
    rename_i l hb
    cases hc : sz.beq size with
    | false => rw [hc] at h; exact h.elim
    | true =>
     rw [hc, cond_true] at h
     dsimp only
     rw [hb]
     dsimp only
     have hrow : rowOf hp b o (sLen * size) = some (l.drop o) := by
      unfold rowOf
      rw [hb]
      dsimp only
      rw [Nat.ble_eq_true_of_le (Nat.le_of_eq h.1), cond_true]
      congr 1
      rw [List.take_of_length_le]
      rw [List.length_drop]
      omega
     rw [hrow]
     exact ⟨_, _, _, rfl, h.2⟩
   ·exact h.elim
def vheavy (P : Program) (vc : VCall) (hp : Tr AObj) (nx : Nat) (o : Oper) (ev : Operand → Option Value) (K : Value → Bool → Tr AObj → Nat → Prop) : Prop :=
 match o.op with
 | .store t x y => match ev x, ev y with
  | some p, some v => match sStore P hp t p v with
   | some (hp', ob) => ob ∧ K undef true hp' nx
   | none => False
  | _, _ => False
 | .next x q => match ev x with
  | some p => bif q then sNext hp p true fun v hp' => K v true hp' nx else sNextM hp p fun v hp' => K v true hp' nx
  | none => False
 | .mapUpdate t x y z | .insert t x y z => match ev x, ev y, ev z with
  | some m, some k, some v => match aUpdate P hp t m k v with
   | some hp' => K undef true hp' nx
   | none => False
  | _, _, _ => False
 | .call c => match c.callee with
  | .builtin .append => match evL ev c.args.toList with
   | some args => sAppend P hp nx c.argTypes args.toArray fun v hp' nx' => K v true hp' nx'
   | none => False
  | .value f => match ev f, evL ev c.args.toList with
   | some (.func (.func k) first captured), some args => bif enters P k then vc k (first.toList ++ args ++ captured.toList) hp nx K else (match sExt P c ev with
    | some (v, ob) => ob ∧ K v false hp nx
    | none => False)
   | _, _ => False
  | _ => False
 | _ => False
theorem vheavy_sound {P : Program} {vc : VCall} {ρ : Place} {W : Base} (hcall : VCallOk P vc) {hp : Tr AObj} {nx : Nat} {w : World} (h : Rel ρ W hp nx w) {ev : Operand → Option Value} {a : Act} (hF : ERel ρ ev a) {o : Oper} {K : Value → Bool → Tr AObj → Nat → Prop}
  (hs : vheavy P vc hp nx o ev K) {next : Act → World → Prop} {Q : Exit → Act → World → Prop}
  (hk : ∀ v c hp' nx' v' w' ρ', K v c hp' nx' → (c = false → hp' = hp) → VR ρ' v v' → Rel ρ' W hp' nx' w' → Step ρ ρ' hp hp' nx nx' → next (a.put o.dst v') w') : o.wp P a w next Q := by
 obtain ⟨dst, op, type, pos, after, guard⟩ := o
 unfold vheavy at hs
 unfold Oper.wp
 cases op <;> dsimp only at hs <;> try (exact hs.elim)
 case store t x y =>
  split at hs
  case h_2 => exact hs.elim
  rename_i p u hx hy
  split at hs
  case h_2 => exact hs.elim
  rename_i hq ob hst
  obtain ⟨w', h1, h2, h3⟩ := aStore_sound h (hF.eval hx) (hF.eval hy) (sStore_eq hst hs.1)
  have : (execOp a.eval ⟨dst, .store t x y, type, pos, after, guard⟩).run P w = .ok .skip w' := by
   show ((Instr.storeAt t (a.eval x) (a.eval y)) >>= fun _ => pure Next.skip).run P w = _
   rw [Sem.run_bind, h1, Result.andThen_ok]
   rfl
  rw [this]
  exact hk undef _ _ _ undef w' ρ hs.2 (fun e => by cases e) (closed_refl (by simp [undef, closed])) h2 h3
 case next x q =>
  split at hs
  case h_2 => exact hs.elim
  rename_i p hx
  have both : ∃ v hp' v' w', K v true hp' nx ∧ (Instr.next (a.eval x) q type).run P w = .ok v' w' ∧ VR ρ v v' ∧ Rel ρ W hp' nx w' ∧ Step ρ ρ hp hp' nx nx := by
   cases q with
   | true =>
    rw [cond_true] at hs
    obtain ⟨v, hp', hst, hK⟩ := sNext_eq hs
    obtain ⟨v', w', h1⟩ := aNext_sound (P := P) (t := type) h (hF.eval hx) hst
    exact ⟨v, hp', v', w', hK, h1⟩
   | false =>
    rw [cond_false] at hs
    exact sNextM_sound (P := P) (t := type) h (hF.eval hx) hs
  obtain ⟨v, hp', v', w', hK, h1, h2, h3, h4⟩ := both
  have : (execOp a.eval ⟨dst, .next x q, type, pos, after, guard⟩).run P w = .ok (.value v') w' := value_run h1
  rw [this]
  exact hk v _ _ _ v' w' ρ hK (fun e => by cases e) h2 h3 h4
 case mapUpdate t x y z =>
  split at hs
  case h_2 => exact hs.elim
  rename_i m k u hx hy hz
  split at hs
  case h_2 => exact hs.elim
  rename_i hq hst
  obtain ⟨w', h1, h2, h3⟩ := aUpdate_sound h (hF.eval hx) (hF.eval hy) (hF.eval hz) hst
  have : (execOp a.eval ⟨dst, .mapUpdate t x y z, type, pos, after, guard⟩).run P w = .ok .skip w' := by
   show ((Instr.mapUpdate t (a.eval x) (a.eval y) (a.eval z)) >>= fun _ => pure Next.skip).run P w = _
   rw [Sem.run_bind, h1, Result.andThen_ok]
   rfl
  rw [this]
  exact hk undef _ _ _ undef w' ρ hs (fun e => by cases e) (closed_refl (by simp [undef, closed])) h2 h3
 case insert t x y z =>
  split at hs
  case h_2 => exact hs.elim
  rename_i m k u hx hy hz
  split at hs
  case h_2 => exact hs.elim
  rename_i hq hst
  obtain ⟨w', h1, h2, h3⟩ := aUpdate_sound h (hF.eval hx) (hF.eval hy) (hF.eval hz) hst
  have : (execOp a.eval ⟨dst, .insert t x y z, type, pos, after, guard⟩).run P w = .ok .skip w' := by
   show ((Instr.mapUpdate t (a.eval x) (a.eval y) (a.eval z)) >>= fun _ => pure Next.skip).run P w = _
   rw [Sem.run_bind, h1, Result.andThen_ok]
   rfl
  rw [this]
  exact hk undef _ _ _ undef w' ρ hs (fun e => by cases e) (closed_refl (by simp [undef, closed])) h2 h3
 case call c =>
  obtain ⟨callee, args, argTypes⟩ := c
  dsimp only at hs
  split at hs
  ·split at hs
   case h_2 => exact hs.elim
   rename_i as0 has
   have hA := (evL_sound hF has).arr
   have e1 : (args.toList.map a.eval).toArray = args.map a.eval := by apply Array.ext'; simp
   rw [e1] at hA
   obtain ⟨v, hp', nx', hs', hK⟩ := sAppend_eq hs
   obtain ⟨v', w', ρ', h1, h2, h3, h4⟩ := aAppend_sound (P := P) (ty := type) h hA hs'
   have : (execOp a.eval ⟨dst, .call ⟨.builtin .append, args, argTypes⟩, type, pos, after, guard⟩).run P w = .ok (.value v') w' := by
    show ((Builtin.append_ argTypes type (args.map a.eval)) >>= fun r => pure (Next.value r)).run P w = _
    exact value_run h1
   rw [this]
   exact hk v _ _ _ v' w' ρ' hK (fun e => by cases e) h2 h3 h4
  ·rename_i f
   split at hs
   case h_2 => exact hs.elim
   rename_i k first captured as0 hf has
   cases he : enters P k with
   | false =>
    rw [he, cond_false] at hs
    split at hs
    case h_2 => exact hs.elim
    rename_i v ob hx
    obtain ⟨v', e, hv⟩ := sExt_sound (P := P) hF (o := ⟨dst, .call ⟨.value f, args, argTypes⟩, type, pos, after, guard⟩) rfl hx hs.1 w
    rw [e]
    exact hk v false _ _ v' w ρ hs.2 (fun _ => rfl) hv h (.refl _ _ _)
   | true =>
    rw [he, cond_true] at hs
    have hfv := hF.eval hf
    generalize hE : a.eval f = E at hfv
    cases hfv
    rename_i first' captured' s1 v1 s2 v2
    have hA := evL_sound hF has
    have hL := ((VRA.list ⟨s1, v1⟩).append hA).append (VRA.list ⟨s2, v2⟩)
    have hc := hcall k _ hp nx K hs W ρ w _ h hL
    have e2 : (first'.toList ++ args.toList.map a.eval ++ captured'.toList).toArray = first' ++ args.map a.eval ++ captured' := by apply Array.ext'; simp
    rw [e2] at hc
    have : (execOp a.eval ⟨dst, .call ⟨.value f, args, argTypes⟩, type, pos, after, guard⟩).run P w = .ok (.enter k (first' ++ args.map a.eval ++ captured')) w := by
     unfold execOp
     simp only [resolve, hE]
     show (callFunc k (first' ++ args.map a.eval ++ captured')).run P w = _
     exact pureRun_run (enters_run he _) w
    rw [this]
    refine hc.mono ?_
    rintro e w' ⟨v, c, hp', nx', v', ρ', hK, hc, rfl, h2, h3, h4⟩
    exact hk v c _ _ v' w' ρ' hK hc h2 h3 h4
  ·exact hs.elim
abbrev pt (n : Nat) : Value := .pointer (some ⟨n, 0, none⟩)
abbrev vi (n : Int) : Value := .int .i64 n
abbrev vs (s : ByteArray) : Value := .string s
abbrev vb (b : Bool) : Value := .bool b
abbrev e0 : ByteArray := ⟨#[]⟩
abbrev vz : Value := .string ⟨#[]⟩
abbrev nS : Value := .slice none 0 0
abbrev w64 (n : Int) : Int := IntKind.wrap IntKind.i64 n
abbrev T2 (X : Prop) : Prop := True ∧ True ∧ X
abbrev T4 (X : Prop) : Prop := T2 (T2 X)
abbrev T8 (X : Prop) : Prop := T4 (T4 X)
abbrev T16 (X : Prop) : Prop := T8 (T8 X)
abbrev T32 (X : Prop) : Prop := T16 (T16 X)
end Go.Proofs.YtojlhapbngcjkaaGreatDoor
noncomputable section
namespace Go.Proofs.YtojlhapbngcjkaaGreatDoor
open Go Go.RowKit
def vguard (ops : Array Oper) (tm : Tr Value) (o : Oper) (X Y : Prop) : Prop :=
 match o.guard with
 | none => X
 | some (j, want) => match (ops[j]?).bind (·.dst) with
  | none => Y
  | some d => match tm.get d with
   | some (.bool b) => Bool.rec (motive := fun _ => Prop) (pIf b Y X) (pIf b X Y) want
   | some _ => Y
   | none => False
theorem vguard_cases {ops : Array Oper} {tm : Tr Value} {o : Oper} {X Y : Prop} (h : vguard ops tm o X Y) : (awanted ops tm o = some true ∧ X) ∨ (awanted ops tm o = some false ∧ Y) := by
 unfold vguard at h
 unfold awanted
 cases hg : o.guard with
 | none => rw [hg] at h; exact .inl ⟨rfl, h⟩
 | some p =>
  obtain ⟨j, want⟩ := p
  rw [hg] at h
  dsimp only at h ⊢
  cases hd : (ops[j]?).bind (·.dst) with
  | none => rw [hd] at h; exact .inr ⟨rfl, h⟩
  | some d =>
   rw [hd] at h
   dsimp only at h ⊢
   cases hv : tm.get d with
   | none => rw [hv] at h; exact h.elim
   | some v =>
    rw [hv] at h
    cases v <;> try exact .inr ⟨rfl, h⟩
    rename_i b
    cases want <;> cases b <;> first | exact .inl ⟨rfl, h⟩ | exact .inr ⟨rfl, h⟩
def vstab (P : Program) (hp : Tr AObj) (ops : Array Oper) (r : Nat) : List Rd → Prop
 | [] => True
 | rd :: l => bif comesBefore ops rd.i r then vstab P hp ops r l else match slight P hp rd.o (aev rd.tm) with
  | some (.val v, ob) => (v = rd.v ∧ ob) ∧ vstab P hp ops r l
  | _ => False
theorem vstab_ok {P : Program} {hp : Tr AObj} {ops : Array Oper} {r : Nat} : ∀ {l : List Rd}, vstab P hp ops r l → ∀ rd ∈ l, comesBefore ops rd.i r = true ∨ LOk P hp rd.o (aev rd.tm) (.val rd.v)
 | [], _, rd, hm => by cases hm
 | x :: l, h, rd, hm => by
  simp only [vstab] at h
  cases hc : comesBefore ops x.i r with
  | true =>
   rw [hc, cond_true] at h
   rcases List.mem_cons.1 hm with rfl | hm
   ·exact .inl hc
   ·exact vstab_ok h rd hm
  | false =>
   rw [hc, cond_false] at h
   split at h
   case h_2 => exact h.elim
   rename_i v ob hv
   rcases List.mem_cons.1 hm with rfl | hm
   ·refine .inr (.inr ⟨ob, ?_, h.1.2⟩)
    rw [hv, h.1.1]
   ·exact vstab_ok h.2 rd hm
def vdraw (P : Program) (vc : VCall) (ops : Array Oper) (n : Nat) : Nat → Array Bool → AS → List Rd → (AS → Prop) → Prop
 | 0, listed, st, _, K => match Region.ready .any ops listed with
  | [] => K st
  | _ => False
 | f + 1, listed, st, rds, K => match Region.ready .any ops listed with
  | [] => K st
  | r :: rs => match (r :: rs).find? (lightIdx ops) with
   | some i => match ops[i]? with
    | some o => vguard ops st.tm o
      (match slight P st.hp o (aev st.tm) with
      | some (.val v, ob) => ob ∧ vsplit v fun v => match aput n st.tm o.dst v with
       | some tm' => vdraw P vc ops n f (listed.setIfInBounds i true) ⟨tm', st.hp, st.nx⟩ (bif isRead o (aev st.tm) then ⟨i, o, st.tm, v⟩ :: rds else rds) K
       | none => False
      | some (.new b nv, ob) => match aput n st.tm o.dst (nv.val st.nx) with
       | some tm' => bif isRead o (aev st.tm) then False else ob ∧ vdraw P vc ops n f (listed.setIfInBounds i true) ⟨tm', st.hp.put st.nx (some b), st.nx + 1⟩ rds K
       | none => False
      | none => False)
      (match aput n st.tm o.dst undef with
      | some tm' => vdraw P vc ops n f (listed.setIfInBounds i true) ⟨tm', st.hp, st.nx⟩ rds K
      | none => False)
    | none => False
   | none => match rs with
    | [] => match ops[r]? with
     | some o => vguard ops st.tm o
       (vheavy P vc st.hp st.nx o (aev st.tm) fun v c hp' nx' => vsplit v fun v => match aput n st.tm o.dst v with
        | some tm' => Bool.rec (motive := fun _ => Prop) True (vstab P hp' ops r rds) c ∧ vdraw P vc ops n f (listed.setIfInBounds r true) ⟨tm', hp', nx'⟩ rds K
        | none => False)
       (match aput n st.tm o.dst undef with
       | some tm' => vdraw P vc ops n f (listed.setIfInBounds r true) ⟨tm', st.hp, st.nx⟩ rds K
       | none => False)
     | none => False
    | _ => False
theorem vheavy_congr {P : Program} {vc : VCall} {hp : Tr AObj} {nx : Nat} {o : Oper} {ev ev' : Operand → Option Value} {K : Value → Bool → Tr AObj → Nat → Prop} (h : ∀ x ∈ o.op.operands, ev x = ev' x) : vheavy P vc hp nx o ev K = vheavy P vc hp nx o ev' K := by
 obtain ⟨dst, op, type, pos, after, guard⟩ := o
 unfold vheavy
 cases op <;> dsimp only
 case store t x y => rw [h x (by simp [Op.operands]), h y (by simp [Op.operands])]
 case next x q => rw [h x (by simp [Op.operands])]
 case mapUpdate t x y z => rw [h x (by simp [Op.operands]), h y (by simp [Op.operands]), h z (by simp [Op.operands])]
 case insert t x y z => rw [h x (by simp [Op.operands]), h y (by simp [Op.operands]), h z (by simp [Op.operands])]
 case call c =>
  obtain ⟨callee, args, argTypes⟩ := c
  dsimp only
  have hA : evL ev args.toList = evL ev' args.toList := evL_congr fun x hx => h x (by simp [Op.operands, Call.operands]; exact .inr (by simpa using hx))
  split
  ·rw [hA]
  ·rename_i f
   have hX : sExt P ⟨.value f, args, argTypes⟩ ev = sExt P ⟨.value f, args, argTypes⟩ ev' := sExt_congr fun x hx => h x (by simp [Op.operands, Call.operands, hx])
   rw [hA, h f (by simp [Op.operands, Call.operands]), hX]
  ·rfl
section
variable {P : Program} {W : Base} {ops : Array Oper} {n : Nat} {st0 : AS} {ρ0 : Place} {Q : Exit → Act → World → Prop}
theorem vdraw_main {vc : VCall} (hcall : VCallOk P vc) (hD : drawOk ops = true) {K : AS → Prop} (hQ : ∀ st, K st → ∀ a' w' ρ', SRel ρ' W n st a' w' → Step ρ0 ρ' st0.hp st.hp st0.nx st.nx → Q .normal a' w') :
  ∀ (m f : Nat) (C : Array Bool) (st : AS) (rds : List Rd) (I : Info) (L : Array Bool) (a : Act) (w : World) (ρ : Place), unl ops L ≤ m → Inv P W ops n st0 ρ0 C st rds I L a w ρ → vdraw P vc ops n f C st rds K → wpAny P .any ops Q m L a w := by
 intro m
 induction m with
 | zero =>
  intro f C st rds I L a w ρ hm h hs
  have hr : Region.ready .any ops L = [] := by
   have hnil : ((List.range ops.size).filter fun i => !L.getD i true) = [] := List.eq_nil_of_length_eq_zero (Nat.le_zero.1 hm)
   apply List.eq_nil_iff_forall_not_mem.2
   intro j hj
   obtain ⟨h1, o, h2, h3⟩ := mem_ready.1 hj
   have : j ∈ ((List.range ops.size).filter fun i => !L.getD i true) := by
    simp only [List.mem_filter, List.mem_range]
    exact ⟨(Array.getElem?_eq_some_iff.1 h2).1, by rw [h1]; rfl⟩
   rw [hnil] at this
   cases this
  have hall := h.all hD hr
  have hallI : ∀ i, i < ops.size → In L i := fun i hi => Classical.byContradiction fun hn => by
   have : i ∈ ((List.range ops.size).filter fun i => !L.getD i true) := by
    simp only [List.mem_filter, List.mem_range]
    exact ⟨hi, by rw [unlisted_of (by rw [h.ls]; exact hi) hn]; rfl⟩
   rw [List.eq_nil_of_length_eq_zero (Nat.le_zero.1 hm)] at this
   cases this
  have hrC : Region.ready .any ops C = [] := by
   apply List.eq_nil_iff_forall_not_mem.2
   intro j hj
   obtain ⟨h1, o, h2, h3⟩ := mem_ready.1 hj
   exact (unlisted h1).2 (h.sub j (hallI j (Array.getElem?_eq_some_iff.1 h2).1))
  have hst : K st := by
   cases f with
   | zero => simp only [vdraw, hrC] at hs; exact hs
   | succ f => simp only [vdraw, hrC] at hs; exact hs
  exact ⟨hr, hQ st hst a w ρ (h.done hall) h.step⟩
 | succ m ihm =>
  intro f
  induction f with
  | zero =>
   intro C st rds I L a w ρ hm h hs
   have hs0 := hs
   simp only [vdraw] at hs
   split at hs
   case h_2 => exact hs.elim
   rename_i hrC
   refine ⟨fun hr => hQ st hs a w ρ (h.done (h.all hD hr)) h.step, fun j hj => ?_⟩
   obtain ⟨h1, h2, h3, o, h4, h5⟩ := ready_in h.cs h.sub hj
   rw [hrC] at h1
   have hjC := h1.resolve_right (by simp)
   refine wpOp_mono ?_ (h.run hD h4 hjC h2 h5)
   rintro a' w' ⟨ρ', h'⟩
   refine ihm 0 C _ rds I _ a' w' ρ' ?_ h' hs0
   have := unl_set (ops := ops) (L := L) h3 h.ls (mem_ready.1 hj).1
   omega
  | succ f ihf =>
   intro C st rds I L a w ρ hm h hs
   have pending : ∀ j, j ∈ Region.ready .any ops L → In C j → ∀ o, ops[j]? = some o → (∀ e ∈ o.after, Region.binds .any e = true → In L e.on) → wpOp P ops Q j (wpAny P .any ops Q m (L.setIfInBounds j true)) a w := by
    intro j hj hjC o ho hall
    refine wpOp_mono ?_ (h.run hD ho hjC (unlisted (mem_ready.1 hj).1).2 hall)
    rintro a' w' ⟨ρ', h'⟩
    refine ihm (f + 1) C st rds I _ a' w' ρ' ?_ h' hs
    have := unl_set (ops := ops) (L := L) (Array.getElem?_eq_some_iff.1 ho).1 h.ls (mem_ready.1 hj).1
    omega
   have hs0 := hs
   simp only [vdraw] at hs
   split at hs
   ·rename_i hrC
    refine ⟨fun hr => hQ st hs a w ρ (h.done (h.all hD hr)) h.step, fun j hj => ?_⟩
    obtain ⟨h1, h2, h3, o, h4, h5⟩ := ready_in h.cs h.sub hj
    rw [hrC] at h1
    exact pending j hj (h1.resolve_right (by simp)) o h4 h5
   ·rename_i r rs hrC
    split at hs
    ·rename_i i hf
     have him : i ∈ Region.ready .any ops C := by rw [hrC]; exact List.mem_of_find?_eq_some hf
     have hil := List.find?_some hf
     obtain ⟨g1, o, g2, g3⟩ := mem_ready.1 him
     have hnC := (unlisted g1).2
     have hh : isHeavy o.op = false := by
      unfold lightIdx at hil
      rw [g2] at hil
      simpa using hil
     rw [g2] at hs
     dsimp only at hs
     rcases vguard_cases hs with ⟨hw, hs⟩ | ⟨hw, hs⟩
     ·split at hs
      ·rename_i v ob hv
       obtain ⟨hob, hs⟩ := hs
       replace hs := vsplit_ap hs
       split at hs
       case h_2 => exact hs.elim
       rename_i tm' ht
       refine ihf _ ⟨tm', st.hp, st.nx⟩ _ (I.set i st.tm v none) L a w ρ hm (h.absorb hD g2 hnC g3 hh (st' := ⟨tm', st.hp, st.nx⟩) (v := v) (B := none) ht h.rel (fun _ _ h => h) (Nat.le_refl _) h.step (fun b hb => by cases hb) (fun I' e1 e2 e3 => .inr (.inl ⟨by rw [e1]; exact hw, .inr ⟨ob, by rw [e1, e2]; exact hv, hob⟩, e3⟩)) ?_ ?_) hs
       ·intro x hx
        cases isRead o (aev st.tm) <;> simp [hx]
       ·intro _ hrd
        rw [hrd]
        simp
      ·rename_i ob nv obp hv
       split at hs
       case h_2 => exact hs.elim
       rename_i tm' ht
       cases hrd : isRead o (aev st.tm) with
       | true => rw [hrd] at hs; exact hs.elim
       | false =>
        rw [hrd, cond_false] at hs
        obtain ⟨hob, hs⟩ := hs
        refine ihf _ ⟨tm', st.hp.put st.nx (some ob), st.nx + 1⟩ _ (I.set i st.tm (nv.val st.nx) (some st.nx)) L a w ρ hm (h.absorb hD g2 hnC g3 hh (st' := ⟨tm', st.hp.put st.nx (some ob), st.nx + 1⟩) (v := nv.val st.nx) (B := some st.nx) ht (h.rel.reserve ob) ?_ (Nat.le_succ _) ?_ (fun b hb => by cases hb; exact Nat.le_refl _) (fun I' e1 e2 e3 => ?_) (fun _ h => h) (fun _ h' => by rw [hrd] at h'; cases h')) hs
        ·intro b x hb
         have : b ≠ st.nx := fun e => by rw [e, h.rel.fresh _ (Nat.le_refl _)] at hb; cases hb
         rw [Tr.get_put, if_neg this]
         exact hb
        ·exact ⟨h.step.le, Nat.le_succ_of_le h.step.more, fun b hb hr => by
          have := h.step.old b hb hr
          refine ⟨this.1, ?_⟩
          rw [Tr.get_put, if_neg (by have := h.step.more; omega)]
          exact this.2⟩
        ·refine .inr (.inr ⟨by rw [e1]; exact hw, by rw [e1]; exact hrd, ob, nv, st.nx, ?_, e2, e3, by simp, h.step.more, h.rel.dom_none, by rw [Tr.get_put, if_pos rfl]⟩)
         rw [e1]
         exact LOk.still (hp := st.hp) hrd (.inr ⟨obp, hv, hob⟩)
      ·exact hs.elim
     ·split at hs
      case h_2 => exact hs.elim
      rename_i tm' ht
      exact ihf _ ⟨tm', st.hp, st.nx⟩ _ (I.set i st.tm undef none) L a w ρ hm (h.absorb hD g2 hnC g3 hh (st' := ⟨tm', st.hp, st.nx⟩) (v := undef) (B := none) ht h.rel (fun _ _ h => h) (Nat.le_refl _) h.step (fun b hb => by cases hb) (fun I' e1 e2 e3 => .inl ⟨by rw [e1]; exact hw, e2, e3⟩) (fun _ h => h) (fun h' => by rw [hw] at h'; cases h')) hs
    ·split at hs
     case h_2 => exact hs.elim
     split at hs
     case h_2 => exact hs.elim
     rename_i o ho
     have hrm : r ∈ Region.ready .any ops C := by rw [hrC]; simp
     obtain ⟨g1, o', g2, g3⟩ := mem_ready.1 hrm
     rw [ho] at g2
     cases g2
     have hnC := (unlisted g1).2
     refine ⟨fun hr => ?_, fun j hj => ?_⟩
     ·exfalso
      have hall := h.all hD hr
      have : r ∈ Region.ready .any ops L := mem_ready.2 ⟨unlisted_of (by rw [h.ls]; exact (Array.getElem?_eq_some_iff.1 ho).1) (fun h' => hnC (h.sub r h')), o, ho, fun e he hb => hall _ (g3 e he hb)⟩
      rw [hr] at this
      cases this
     ·obtain ⟨h1, h2, h3, oj, h4, h5⟩ := ready_in h.cs h.sub hj
      rcases h1 with h1 | h1
      ·exact pending j hj h1 oj h4 h5
      ·rw [hrC] at h1
       have hjr : j = r := by simpa using h1
       subst hjr
       rw [ho] at h4
       cases h4
       have hlk := h.heavyLook hD ho hnC g3 h5
       obtain ⟨ev', he1, he2⟩ := erel_of_looks hlk
       have fin : ∀ (st' : AS) (a' : Act) (w' : World), (∃ ρ' I', Inv P W ops n st0 ρ0 (C.setIfInBounds j true) st' rds I' (L.setIfInBounds j true) a' w' ρ') → vdraw P vc ops n f (C.setIfInBounds j true) st' rds K → wpAny P .any ops Q m (L.setIfInBounds j true) a' w' := by
        rintro st' a' w' ⟨ρ', I', h'⟩ hs'
        refine ihm f _ st' rds I' _ a' w' ρ' ?_ h' hs'
        have := unl_set (ops := ops) (L := L) h3 h.ls (mem_ready.1 hj).1
        omega
       unfold wpOp
       simp only [ho]
       rcases vguard_cases hs with ⟨hw, hs⟩ | ⟨hw, hs⟩
       ·rw [awanted_sound' h.size hlk hw, if_pos rfl]
        rw [vheavy_congr he2] at hs
        refine .inl (vheavy_sound hcall h.rel he1 hs fun v c hp' nx' v' w' ρ' hK hch q1 q2 q3 => ?_)
        replace hK := vsplit_ap hK
        split at hK
        case h_2 => exact hK.elim
        rename_i tm' ht
        exact fin ⟨tm', hp', nx'⟩ _ _ (h.heavyFin hD ho hnC g3 h5 (st' := ⟨tm', hp', nx'⟩) (by
         cases c with
         | false => exact .inl (hch rfl)
         | true => exact .inr (vstab_ok hK.1)) v v' w' ρ' ht q1 q2 q3) hK.2
       ·rw [awanted_sound' h.size hlk hw, if_neg (by simp)]
        split at hs
        case h_2 => exact hs.elim
        rename_i tm' ht
        exact fin ⟨tm', st.hp, st.nx⟩ _ _ (h.heavyFin hD ho hnC g3 h5 (st' := ⟨tm', st.hp, st.nx⟩) (.inl rfl) undef undef w ρ ht (closed_refl (by simp [undef, closed])) h.rel (.refl _ _ _)) hs
end
end Go.Proofs.YtojlhapbngcjkaaGreatDoor

noncomputable section
namespace Go.Proofs.YtojlhapbngcjkaaGreatDoor
open Go Go.RowKit
set_option maxRecDepth 100000
set_option maxHeartbeats 8000000
def leafN : Value → Bool
 | .bool _ | .int _ _ | .string _ => true
 | .func (.via _ _ _ _) _ _ => true
 | _ => false
theorem leafN_sound {ρ : Place} {v v' : Value} (h : leafN v = true) (hv : VR ρ v v') : VR0 ρ.fr v v' := by
 cases hv <;> first | cases h | skip
 case bool b => exact .bool b
 case int k n => exact .int k n
 case string s => exact .string s
 case tree h1 h2 h3 h4 h5 h6 => exact .tree h1 h2 h3 h4 h5 h6
 case treeNil => exact .treeNil _ _ _
 case treeAt h1 h2 h3 h4 => exact .treeAt h1 h2 h3 h4
def nl1 : Value → Bool
 | .bool _ | .int _ _ | .float _ _ | .complex _ _ _ | .string _ | .pointer none | .slice none _ _ | .map none | .chan none | .nilFunc | .nilIface => true
 | .func (.func _) f c => f.all leafN && c.isEmpty
 | .func (.via _ _ _ _) _ _ => true
 | .iface _ v => flat v
 | _ => false
def nl : Value → Bool
 | .agg c => c.all nl1
 | v => nl1 v
def NLs (l : List Value) : Prop := ∀ v ∈ l, nl1 v = true
theorem flat_VR0 {ρ : Place} {v v' : Value} (h : flat v = true) (hv : VR ρ v v') : VR0 ρ.fr v v' := by
 have e := flat_eq h hv
 subst e
 cases v' with
 | bool b => exact .bool b
 | int k n => exact .int k n
 | float k n => exact .float k n
 | complex k n m => exact .complex k n m
 | string s => exact .string s
 | pointer a => cases a with
  | none => exact .nilPtr
  | some a => cases h
 | slice a n c => cases a with
  | none => exact .nilSlice n c
  | some a => cases h
 | map r => cases r with
  | none => exact .nilMap
  | some r => cases h
 | chan r => cases r with
  | none => exact .nilChan
  | some r => cases h
 | func fn f c =>
  cases fn <;> try (cases h)
  simp [flat] at h
  obtain ⟨rfl, rfl⟩ := h
  exact .func _ rfl (by simp) rfl (by simp)
 | nilFunc => exact .nilFunc
 | nilIface => exact .nilIface
 | iface t v => cases h
 | agg c => cases h
 | tuple c => cases h
theorem nl1_sound {ρ : Place} {v v' : Value} (h : nl1 v = true) (hv : VR ρ v v') : VR0 ρ.fr v v' := by
 by_cases hf : flat v = true
 ·exact flat_VR0 hf hv
 ·cases v <;> try (first | exact absurd rfl hf | cases h)
  case func fn f c =>
   cases fn <;> try (cases h)
   case func k =>
    simp only [nl1, Bool.and_eq_true] at h
    cases hv with
    | func _ hs hv1 hs2 hv2 =>
     refine .func k hs (fun i v v' a b => leafN_sound (all_get h.1 a) (hv1 i v v' a b)) hs2 fun i v v' a b => ?_
     have hc := Array.isEmpty_iff.1 h.2
     subst hc
     simp at a
   case via t p n q =>
    cases hv with
    | tree h1 h2 h3 h4 h5 h6 => exact .tree h1 h2 h3 h4 h5 h6
    | treeNil => exact .treeNil _ _ _
    | treeAt h1 h2 h3 h4 => exact .treeAt h1 h2 h3 h4
  case iface t u =>
   cases hv with
   | iface _ hu => exact .iface t (flat_VR0 h hu)
  case pointer a => cases a <;> first | exact absurd rfl hf | cases h
  case slice a n c => cases a <;> first | exact absurd rfl hf | cases h
  case map a => cases a <;> first | exact absurd rfl hf | cases h
  case chan a => cases a <;> first | exact absurd rfl hf | cases h
theorem nl_sound {ρ : Place} {v v' : Value} (h : nl v = true) (hv : VR ρ v v') : VR0 ρ.fr v v' := by
 cases v <;> try exact nl1_sound h hv
 case agg c =>
  cases hv with
  | agg hs hc => exact .agg hs fun i v v' a b => nl1_sound (all_get h a) (hc i v v' a b)
def idx (b : Nat) : List (Nat × Bool) → Nat → Option Nat
 | [], _ => none
 | x :: l, i => bif x.1.beq b then some i else idx b l (i + 1)
theorem idx_get {b : Nat} : ∀ {l : List (Nat × Bool)} {i j : Nat}, idx b l i = some j → i ≤ j ∧ ∃ k, l[j - i]? = some (b, k)
 | [], i, j, h => by simp [idx] at h
 | x :: l, i, j, h => by
  simp only [idx] at h
  cases hx : x.1.beq b with
  | true =>
   rw [hx] at h
   cases h
   have := Nat.eq_of_beq_eq_true hx
   exact ⟨Nat.le_refl _, x.2, by simp [← this]⟩
  | false =>
   rw [hx, cond_false] at h
   obtain ⟨h1, k, h2⟩ := idx_get h
   refine ⟨by omega, k, ?_⟩
   rw [show j - i = (j - (i + 1)) + 1 by omega]
   simpa using h2
def ren0 (bl : List (Nat × Bool)) : Value → Option Value
 | .pointer (some ⟨b, o, none⟩) => match idx b bl 0 with
  | some i => some (.pointer (some ⟨i, o, none⟩))
  | none => none
 | .slice (some ⟨b, o, none⟩) n sz => match idx b bl 0 with
  | some i => some (.slice (some ⟨i, o, none⟩) n sz)
  | none => none
 | .iface t (.pointer (some ⟨b, o, none⟩)) => match idx b bl 0 with
  | some i => some (.iface t (.pointer (some ⟨i, o, none⟩)))
  | none => none
 | .map (some b) => match idx b bl 0 with
  | some i => some (.map (some i))
  | none => none
 | v => bif nl1 v then some v else none
def mapO (f : Value → Option Value) : List Value → Option (List Value)
 | [] => some []
 | v :: l => match f v, mapO f l with
  | some u, some m => some (u :: m)
  | _, _ => none
def ren1 (bl : List (Nat × Bool)) : Value → Option Value
 | .func (.func k) f c => match mapO (ren0 bl) f.toList, mapO (ren0 bl) c.toList with
  | some f', some c' => some (.func (.func k) f'.toArray c'.toArray)
  | _, _ => none
 | v => ren0 bl v
def ren (bl : List (Nat × Bool)) : Value → Option Value
 | .agg c => match mapO (ren1 bl) c.toList with
  | some c' => some (.agg c'.toArray)
  | none => none
 | v => ren1 bl v
def Place.via (ρ : Place) (bl : List (Nat × Bool)) : Place := ⟨fun i => match bl[i]? with | some p => ρ.pl p.1 | none => none, ρ.fr, ρ.gl⟩
theorem via_at {ρ : Place} {bl : List (Nat × Bool)} {b i : Nat} (h : idx b bl 0 = some i) : (ρ.via bl).pl i = ρ.pl b := by
 obtain ⟨_, k, hk⟩ := idx_get h
 unfold Place.via
 simp at hk
 simp [hk]
theorem ren0_sound {ρ : Place} {bl : List (Nat × Bool)} {v u v' : Value} (h : ren0 bl v = some u) (hv : VR ρ v v') : VR (ρ.via bl) u v' := by
 have base : (bif nl1 v then some v else none) = some u → VR (ρ.via bl) u v' := fun hb => by
  cases hn : nl1 v with
  | false => rw [hn] at hb; cases hb
  | true =>
   rw [hn] at hb
   cases hb
   have h0 : VR0 ρ.fr v v' := nl1_sound hn hv
   exact VR0.lift (ρ := ρ.via bl) h0
 cases v <;> try exact base (by exact h)
 case pointer a =>
  cases a with
  | none => exact base h
  | some a =>
   obtain ⟨b, o, s⟩ := a
   cases s with
   | some s => exact base h
   | none =>
    simp only [ren0] at h
    split at h
    ·rename_i i hi
     cases h
     cases hv with
     | ptr hb => exact .ptr (by rw [via_at hi]; exact hb)
    ·cases h
 case slice a n sz =>
  cases a with
  | none => exact base h
  | some a =>
   obtain ⟨b, o, s⟩ := a
   cases s with
   | some s => exact base h
   | none =>
    simp only [ren0] at h
    split at h
    ·rename_i i hi
     cases h
     cases hv with
     | slice hb h1 h2 => exact .slice (by rw [via_at hi]; exact hb) h1 h2
     | emptySlice a' hb => exact .emptySlice a' (by rw [via_at hi]; exact hb)
    ·cases h
 case map r =>
  cases r with
  | none => exact base h
  | some b =>
   simp only [ren0] at h
   split at h
   ·rename_i i hi
    cases h
    cases hv with
    | map hb => exact .map (by rw [via_at hi]; exact hb)
   ·cases h
 case iface t x =>
  cases x <;> try exact base (by exact h)
  rename_i a
  cases a with
  | none => exact base h
  | some a =>
   obtain ⟨b, o, s⟩ := a
   cases s with
   | some s => exact base h
   | none =>
    simp only [ren0] at h
    split at h
    ·rename_i i hi
     cases h
     cases hv with
     | iface _ hv => cases hv with
      | ptr hb => exact .iface t (.ptr (by rw [via_at hi]; exact hb))
    ·cases h
theorem mapO_sound {ρ ρ' : Place} {f : Value → Option Value} (hf : ∀ v u v', f v = some u → VR ρ v v' → VR ρ' u v') : ∀ {l m l' : List Value}, mapO f l = some m → VRL ρ l l' → VRL ρ' m l'
 | [], m, l', h, hl => by simp only [mapO] at h; cases h; cases hl; exact .nil
 | v :: l, m, l', h, hl => by
  simp only [mapO] at h
  split at h
  case h_2 => cases h
  rename_i u m' h1 h2
  cases h
  cases hl with
  | cons hv hl => exact .cons (hf v u _ h1 hv) (mapO_sound hf h2 hl)
theorem VRL.toVRA {ρ : Place} {l : List Value} {c' : Array Value} (h : VRL ρ l c'.toList) : VRA ρ l.toArray c' := by
 have := h.arr
 simpa using this
theorem ren1_sound {ρ : Place} {bl : List (Nat × Bool)} {v u v' : Value} (h : ren1 bl v = some u) (hv : VR ρ v v') : VR (ρ.via bl) u v' := by
 cases v <;> try exact ren0_sound (by exact h) hv
 case func fn f c =>
  cases fn <;> try exact ren0_sound (by exact h) hv
  simp only [ren1] at h
  split at h
  case h_2 => cases h
  rename_i f' c' h1 h2
  cases h
  cases hv with
  | func _ s1 r1 s2 r2 =>
   have g1 := (mapO_sound (fun _ _ _ => ren0_sound) h1 (VRA.list ⟨s1, r1⟩)).toVRA
   have g2 := (mapO_sound (fun _ _ _ => ren0_sound) h2 (VRA.list ⟨s2, r2⟩)).toVRA
   exact .func _ g1.1 g1.2 g2.1 g2.2
theorem ren_sound {ρ : Place} {bl : List (Nat × Bool)} {v u v' : Value} (h : ren bl v = some u) (hv : VR ρ v v') : VR (ρ.via bl) u v' := by
 cases v <;> try exact ren1_sound (by exact h) hv
 case agg c =>
  simp only [ren] at h
  split at h
  case h_2 => cases h
  rename_i c' h1
  cases h
  cases hv with
  | agg s r =>
   have g := (mapO_sound (fun _ _ _ => ren1_sound) h1 (VRA.list ⟨s, r⟩)).toVRA
   exact .agg g.1 g.2
def memB (b : Nat) : List (Nat × Bool) → Bool
 | [] => false
 | x :: l => bif x.1.beq b then true else memB b l
def addB (b : Nat) (k : Bool) (l : List (Nat × Bool)) : List (Nat × Bool) := bif memB b l then l else l ++ [(b, k)]
def scan0 (l : List (Nat × Bool)) : Value → List (Nat × Bool)
 | .pointer (some a) => addB a.block true l
 | .slice (some a) _ _ => addB a.block false l
 | .iface _ (.pointer (some a)) => addB a.block true l
 | .map (some b) => addB b false l
 | _ => l
def scan1 (l : List (Nat × Bool)) : Value → List (Nat × Bool)
 | .func (.func _) f c => c.toList.foldl scan0 (f.toList.foldl scan0 l)
 | v => scan0 l v
def scan (l : List (Nat × Bool)) : Value → List (Nat × Bool)
 | .agg c => c.toList.foldl scan1 l
 | v => scan1 l v
def scanB (hp : Tr AObj) : Nat → Nat → List (Nat × Bool) → List (Nat × Bool)
 | 0, _, l => l
 | f + 1, i, l => match l[i]? with
  | none => l
  | some (b, k) => scanB hp f (i + 1) (bif k then match hp.get b with | some (.cells c _) => c.foldl scan1 l | _ => l else l)
def nodupB : List (Nat × Bool) → Bool
 | [] => true
 | x :: l => bif memB x.1 l then false else nodupB l
def baseB : Nat → Nat → List (Nat × Bool) → Bool
 | 0, _, _ => true
 | _ + 1, _, [] => false
 | n + 1, i, x :: l => bif x.1.beq i then baseB n (i + 1) l else false
theorem memB_of {b : Nat} : ∀ {l : List (Nat × Bool)} {i : Nat} {k : Bool}, l[i]? = some (b, k) → memB b l = true
 | [], i, k, h => by simp at h
 | x :: l, 0, k, h => by simp at h; subst h; simp [memB]
 | x :: l, i + 1, k, h => by
  simp only [memB]
  cases x.1.beq b with
  | true => rfl
  | false => rw [cond_false]; exact memB_of (l := l) (i := i) (k := k) (by simpa using h)
theorem nodupB_inj : ∀ {l : List (Nat × Bool)}, nodupB l = true → ∀ {i j : Nat} {b : Nat} {k k' : Bool}, l[i]? = some (b, k) → l[j]? = some (b, k') → i = j
 | [], _, i, j, b, k, k', h, _ => by simp at h
 | x :: l, hn, i, j, b, k, k', h1, h2 => by
  simp only [nodupB] at hn
  cases hm : memB x.1 l with
  | true => rw [hm] at hn; cases hn
  | false =>
   rw [hm, cond_false] at hn
   cases i with
   | zero =>
    cases j with
    | zero => rfl
    | succ j =>
     simp at h1 h2
     subst h1
     rw [memB_of h2] at hm
     cases hm
   | succ i =>
    cases j with
    | zero =>
     simp at h1 h2
     subst h2
     rw [memB_of h1] at hm
     cases hm
    | succ j =>
     have := nodupB_inj hn (by simpa using h1) (by simpa using h2)
     omega
theorem baseB_get : ∀ {n i : Nat} {l : List (Nat × Bool)}, baseB n i l = true → ∀ j, j < n → ∃ k, l[j]? = some (i + j, k)
 | 0, i, l, _, j, hj => by omega
 | n + 1, i, [], h, j, hj => by simp [baseB] at h
 | n + 1, i, x :: l, h, j, hj => by
  simp only [baseB] at h
  cases hx : x.1.beq i with
  | false => rw [hx] at h; cases h
  | true =>
   rw [hx, cond_true] at h
   have := Nat.eq_of_beq_eq_true hx
   cases j with
   | zero => exact ⟨x.2, by simp [← this]⟩
   | succ j =>
    obtain ⟨k, hk⟩ := baseB_get h j (by omega)
    exact ⟨k, by rw [show i + (j + 1) = i + 1 + j by omega]; simpa using hk⟩
def renObj (bl : List (Nat × Bool)) (k : Bool) : AObj → Option (AObj × Prop)
 | .cells l wr => match k with
  | true => match mapO (ren1 bl) l with
   | some m => some (.cells m wr, True)
   | none => none
  | false => some (.cells l wr, NLs l)
 | .iter s p => some (.iter s p, True)
 | .map es ck => some (.map es ck, ∀ e ∈ es, nl1 e.2.1 = true)
 | .miter none a b l => some (.miter none a b l, True)
 | .miter (some _) _ _ _ => none
def renObjs (bl : List (Nat × Bool)) (hp : Tr AObj) : List (Nat × Bool) → Option (List (Option AObj) × Prop)
 | [] => some ([], True)
 | (b, k) :: l => match renObjs bl hp l with
  | some (os, ob) => match hp.get b with
   | some o => match renObj bl k o with
    | some (o', ob') => some (some o' :: os, ob' ∧ ob)
    | none => none
   | none => some (none :: os, ob)
  | none => none
def putObjs : Nat → List (Option AObj) → Tr AObj → Tr AObj
 | _, [], t => t
 | i, o :: l, t => putObjs (i + 1) l (t.put i o)
theorem putObjs_get : ∀ (l : List (Option AObj)) (i : Nat) (t : Tr AObj) (j : Nat), (putObjs i l t).get j = if i ≤ j ∧ j < i + l.length then (l[j - i]?).join else t.get j
 | [], i, t, j => by simp [putObjs]; omega
 | o :: l, i, t, j => by
  simp only [putObjs, putObjs_get l, Tr.get_put, List.length_cons]
  by_cases h : j = i
  ·subst h
   rw [if_neg (by omega), if_pos rfl, if_pos (by omega)]
   simp
  ·by_cases h2 : i + 1 ≤ j ∧ j < i + 1 + l.length
   ·rw [if_pos h2, if_pos (by omega), show j - i = (j - (i + 1)) + 1 by omega]; simp
   ·rw [if_neg h2, if_neg h, if_neg (by omega)]
def renTms (bl : List (Nat × Bool)) (tm : Tr Value) : List Nat → Option (Tr Value)
 | [] => some .e
 | t :: l => match renTms bl tm l with
  | some r => match tm.get t with
   | some v => match ren bl v with
    | some u => some (r.put t (some u))
    | none => none
   | none => some r
  | none => none
def scanTms (tm : Tr Value) : List Nat → List (Nat × Bool) → List (Nat × Bool)
 | [], l => l
 | t :: ts, l => scanTms tm ts (match tm.get t with | some v => scan l v | none => l)
def baseL : Nat → List Bool → List (Nat × Bool)
 | _, [] => []
 | i, k :: l => (i, k) :: baseL (i + 1) l
def canon (base : List Bool) (ts : List Nat) (st : AS) : Option (AS × Prop) :=
 let bl := scanB st.hp 60 0 (scanTms st.tm ts (baseL 0 base))
 bif nodupB bl && baseB base.length 0 bl then match renTms bl st.tm ts, renObjs bl st.hp bl with
  | some tm, some (os, ob) => some (⟨tm, putObjs 0 os .e, bl.length⟩, ob)
  | _, _ => none
 else none
theorem renTms_get {bl : List (Nat × Bool)} {tm : Tr Value} : ∀ {ts : List Nat} {r : Tr Value}, renTms bl tm ts = some r → ∀ t u, r.get t = some u → ∃ v, tm.get t = some v ∧ ren bl v = some u
 | [], r, h, t, u, hu => by simp only [renTms] at h; cases h; simp [Tr.get_e] at hu
 | x :: l, r, h, t, u, hu => by
  simp only [renTms] at h
  split at h
  case h_2 => cases h
  rename_i r0 h0
  split at h
  ·rename_i v hv
   split at h
   case h_2 => cases h
   rename_i u0 hu0
   cases h
   rw [Tr.get_put] at hu
   split at hu
   ·rename_i e
    cases hu
    exact ⟨v, by rw [e]; exact hv, hu0⟩
   ·exact renTms_get h0 t u hu
  ·cases h
   exact renTms_get h0 t u hu
theorem renObjs_len {bl : List (Nat × Bool)} {hp : Tr AObj} : ∀ {l : List (Nat × Bool)} {os : List (Option AObj)} {ob : Prop}, renObjs bl hp l = some (os, ob) → os.length = l.length
 | [], os, ob, h => by simp only [renObjs] at h; cases h; rfl
 | (b, k) :: l, os, ob, h => by
  simp only [renObjs] at h
  split at h
  case h_2 => cases h
  rename_i os0 ob0 h0
  have := renObjs_len h0
  split at h
  ·split at h
   ·cases h; simp [this]
   ·cases h
  ·cases h; simp [this]
theorem renObjs_get {bl : List (Nat × Bool)} {hp : Tr AObj} : ∀ {l : List (Nat × Bool)} {os : List (Option AObj)} {ob : Prop}, renObjs bl hp l = some (os, ob) → ob → ∀ (i : Nat) (o : AObj), os[i]? = some (some o) → ∃ b k o0 ob0, l[i]? = some (b, k) ∧ hp.get b = some o0 ∧ renObj bl k o0 = some (o, ob0) ∧ ob0
 | [], os, ob, h, _, i, o, ho => by simp only [renObjs] at h; cases h; simp at ho
 | (b, k) :: l, os, ob, h, hob, i, o, ho => by
  simp only [renObjs] at h
  split at h
  case h_2 => cases h
  rename_i os0 ob0 h0
  split at h
  ·rename_i o0 hg
   split at h
   case h_2 => cases h
   rename_i o1 ob1 h1
   cases h
   cases i with
   | zero =>
    simp at ho
    subst ho
    exact ⟨b, k, o0, ob1, rfl, hg, h1, hob.1⟩
   | succ i => simpa using renObjs_get h0 hob.2 i o (by simpa using ho)
  ·cases h
   cases i with
   | zero => simp at ho
   | succ i => simpa using renObjs_get h0 hob i o (by simpa using ho)
theorem renObj_wr {bl : List (Nat × Bool)} {k : Bool} {o o' : AObj} {ob : Prop} (h : renObj bl k o = some (o', ob)) : o'.wr = o.wr := by
 cases o with
 | cells l wr =>
  cases k with
  | true =>
   simp only [renObj] at h
   split at h
   ·cases h; rfl
   ·cases h
  | false => simp only [renObj] at h; cases h; rfl
 | iter s p => simp only [renObj] at h; cases h; rfl
 | map es ck => simp only [renObj] at h; cases h; rfl
 | miter m a b l => cases m with
  | none => simp only [renObj] at h; cases h; rfl
  | some b => simp only [renObj] at h; cases h
theorem mapO_get {f : Value → Option Value} : ∀ {l m : List Value}, mapO f l = some m → m.length = l.length ∧ ∀ (i : Nat) (u : Value), m[i]? = some u → ∃ v, l[i]? = some v ∧ f v = some u
 | [], m, h => by simp only [mapO] at h; cases h; exact ⟨rfl, fun i u hu => by simp at hu⟩
 | v :: l, m, h => by
  simp only [mapO] at h
  split at h
  case h_2 => cases h
  rename_i u m' h1 h2
  cases h
  obtain ⟨g1, g2⟩ := mapO_get h2
  refine ⟨by simp [g1], fun i x hx => ?_⟩
  cases i with
  | zero => simp at hx; subst hx; exact ⟨v, rfl, h1⟩
  | succ i => simpa using g2 i x (by simpa using hx)
theorem renObj_sound {ρ : Place} {O : Nat → Prop} {bl : List (Nat × Bool)} {k : Bool} {o o' : AObj} {ob : Prop} {c s z : Nat} {cob : Obj} (h : renObj bl k o = some (o', ob)) (hob : ob) (ho : ORel ρ O c s z o cob) : ORel (ρ.via bl) O c s z o' cob := by
 cases o with
 | iter st p => simp only [renObj] at h; cases h; cases cob <;> exact ho
 | map es ck =>
  simp only [renObj] at h
  cases h
  cases cob <;> try exact ho.elim
  obtain ⟨h1, h2, h3, h4, h5⟩ := ho
  refine ⟨h1, h2, h3, h4, fun i e he => ?_⟩
  obtain ⟨e', a, b, d, f, g⟩ := h5 i e he
  have hv : VR0 ρ.fr e.2.1 e'.val := nl1_sound (hob e (List.mem_of_getElem? he)) f
  exact ⟨e', a, b, d, VR0.lift (ρ := ρ.via bl) hv, g⟩
 | miter m a b l => cases m with
  | none =>
   simp only [renObj] at h
   cases h
   cases cob <;> exact ho
  | some b => simp only [renObj] at h; cases h
 | cells l wr =>
  cases cob <;> try exact ho.elim
  obtain ⟨h1, h2, h3, h4, h5⟩ := ho
  cases k with
  | true =>
   simp only [renObj] at h
   split at h
   case h_2 => cases h
   rename_i m hm
   cases h
   obtain ⟨g1, g2⟩ := mapO_get hm
   refine ⟨h1, by rw [g1]; exact h2, h3, fun i u hu => ?_, h5⟩
   obtain ⟨v, hv, hr⟩ := g2 i u hu
   obtain ⟨v', e, hvr⟩ := h4 i v hv
   exact ⟨v', e, ren1_sound hr hvr⟩
  | false =>
   simp only [renObj] at h
   cases h
   refine ⟨h1, h2, h3, fun i u hu => ?_, h5⟩
   obtain ⟨v', e, hvr⟩ := h4 i u hu
   have h0 : VR0 ρ.fr u v' := nl1_sound (hob u (List.mem_of_getElem? hu)) hvr
   exact ⟨v', e, VR0.lift (ρ := ρ.via bl) h0⟩
theorem canon_sound {ρ : Place} {W : Base} {n : Nat} {st st' : AS} {a : Act} {w : World} {base : List Bool} {ts : List Nat} {ob : Prop} (h : SRel ρ W n st a w) (hc : canon base ts st = some (st', ob)) (hob : ob) :
  ∃ ρ', SRel ρ' W n st' a w ∧ ρ'.fr = ρ.fr ∧ ∀ b, b < base.length → ρ'.pl b = ρ.pl b := by
 unfold canon at hc
 dsimp only at hc
 generalize scanB st.hp 60 0 (scanTms st.tm ts (baseL 0 base)) = bl at hc
 cases hb : nodupB bl && baseB base.length 0 bl with
 | false => rw [hb] at hc; cases hc
 | true =>
  rw [hb, cond_true] at hc
  simp only [Bool.and_eq_true] at hb
  split at hc
  case h_2 => cases hc
  rename_i tm os ob' h1 h2
  cases hc
  have hlen := renObjs_len h2
  have hget : ∀ i o, (putObjs 0 os .e).get i = some o → os[i]? = some (some o) := fun i o ho => by
   rw [putObjs_get] at ho
   split at ho
   ·simp only [Nat.sub_zero] at ho
    cases hx : os[i]? with
    | none => rw [hx] at ho; cases ho
    | some x => rw [hx] at ho; simp at ho; rw [ho]
   ·simp [Tr.get_e] at ho
  have hvia : ∀ i x, (ρ.via bl).pl i = some x → ∃ b k, bl[i]? = some (b, k) ∧ ρ.pl b = some x := fun i x hx => by
   unfold Place.via at hx
   dsimp only at hx
   split at hx
   ·rename_i p hp
    exact ⟨p.1, p.2, hp, hx⟩
   ·cases hx
  have hobj : ∀ i o x, (putObjs 0 os .e).get i = some o → (ρ.via bl).pl i = some x → ∃ b k o0 ob0, bl[i]? = some (b, k) ∧ st.hp.get b = some o0 ∧ renObj bl k o0 = some (o, ob0) ∧ ob0 ∧ ρ.pl b = some x := fun i o x ho hx => by
   obtain ⟨b, k, o0, ob0, g1, g2, g3, g4⟩ := renObjs_get h2 hob i o (hget i o ho)
   obtain ⟨b', k', q1, q2⟩ := hvia i x hx
   rw [g1] at q1
   cases q1
   exact ⟨b, k, o0, ob0, g1, g2, g3, g4, q2⟩
  refine ⟨ρ.via bl, ⟨⟨fun i x hx => ?_, fun i o c s z ho hx => ?_, fun i j x y o1 o2 g1 g2 hx hy hxy => ?_, fun i hi => ?_, h.rel.below, h.rel.frz, fun i o c s z ho hw hx => ?_, h.rel.frn⟩, h.frame.size, h.frame.defers, fun t u hu => ?_⟩, rfl, fun b hlt => ?_⟩
  ·obtain ⟨b, k, q1, q2⟩ := hvia i x hx
   refine ⟨?_, (h.rel.dom b x q2).2⟩
   rcases Nat.lt_or_ge i bl.length with h' | h'
   ·exact h'
   ·rw [List.getElem?_eq_none h'] at q1; cases q1
  ·obtain ⟨b, k, o0, ob0, q1, q2, q3, q4, q5⟩ := hobj i o _ ho hx
   obtain ⟨cob, e1, e2⟩ := h.rel.obj b o0 c s z q2 q5
   exact ⟨cob, e1, renObj_sound q3 q4 e2⟩
  ·obtain ⟨b, k, o0, ob0, q1, q2, q3, q4, q5⟩ := hobj i o1 _ g1 hx
   obtain ⟨b', k', o0', ob0', r1, r2, r3, r4, r5⟩ := hobj j o2 _ g2 hy
   have e := h.rel.inj b b' x y o0 o0' q2 r2 q5 r5 hxy
   subst e
   exact nodupB_inj hb.1 q1 r1
  ·have hi' : bl.length ≤ i := hi
   show (putObjs 0 os .e).get i = none
   rw [putObjs_get, if_neg (by omega)]
   exact Tr.get_e i
  ·obtain ⟨b, k, o0, ob0, q1, q2, q3, q4, q5⟩ := hobj i o _ ho hx
   exact h.rel.apart b o0 c s z q2 (by rw [← renObj_wr q3]; exact hw) q5
  ·obtain ⟨v, hv, hr⟩ := renTms_get h1 t u hu
   have := h.frame.slot t v hv
   exact ⟨this.1, ren_sound hr this.2⟩
  ·obtain ⟨k, hk⟩ := baseB_get hb.2 b hlt
   unfold Place.via
   dsimp only
   rw [hk]
   simp
end Go.Proofs.YtojlhapbngcjkaaGreatDoor
