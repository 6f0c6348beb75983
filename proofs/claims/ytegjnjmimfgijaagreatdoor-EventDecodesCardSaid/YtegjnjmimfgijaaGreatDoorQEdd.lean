/-
  Put together out of several texts, each in its own namespace's block. Conditions: as each theorem states them.
-/
import Derived.Test.YtegjnjmimfgijaaGreatDoorQRu
import Derived.Test.YtegjnjmimfgijaaGreatDoorQVa
import Derived.Test.YtegjnjmimfgijaaGreatDoorRows
import Derived.Test.YtegjnjmimfgijaaGreatDoorChecked
import Derived.Test.YtegjnjmimfgijaaGreatDoorQEva
import Derived.MakeChecks
import Derived.OpenShut
import Derived.ChangeBears2
import Derived.Test.YtegjnjmimfgijaaGreatDoorQSj
noncomputable section
namespace Go.Proofs.YtegjnjmimfgijaaGreatDoor
open Go Go.RowKit
set_option maxRecDepth 100000
set_option maxHeartbeats 8000000
def callDl : PCall := tabNil Tryz.prog [⟨17, c_rSame⟩] (ofV (tabCall [⟨16, c_decA⟩, ⟨14, c_enc⟩, ⟨10, c_check⟩, ⟨9, c_awake⟩] noCall))
theorem callDl_ok : PCallOk Tryz.prog callDl := tabNil_ok (by
 intro e he
 simp only [List.mem_cons, List.not_mem_nil, or_false] at he
 subst he
 exact ok_rSame) (ofV_ok (tabCall_ok (by
 intro e he
 simp only [List.mem_cons, List.not_mem_nil, or_false] at he
 rcases he with rfl | rfl | rfl | rfl
 ·exact ok_decA
 ·exact ok_enc
 ·exact ok_check
 ·exact ok_awake) noCall_ok))
theorem e_EventDecodes (s : ByteArray) (H : HT) (Post : PX) : vcX Tryz.prog callDl 5 [] [] [.string s] H Post = (T4 (pIf (decide ((↑s.size : Int) > 3000)) (eqL [] [] ∧ True ∧ (True ∧ True) ∧ true = true ∧ Post (Out.ret (vb true)) []) (True ∧ s.size < 4611686018427387904 ∧ ∀ (x : Event) (e : Int), DecA s x e → T4 (40 ≤ 40 ∧ T2 (True ∧ pIf (!decide (e = 0)) (T2 (((T32 (T8 (True))) ∧ (T32 (T8 (True))) ∧ True) ∧ ∃ (a : Event), ∃ (b : Event), eqL [Value.agg (evK x.kind x).toArray, Value.agg #[vi 0, vi 0, vz, vz, vz, vi 0, vb false, vz, tree 38 0 #[], vz, vz, vi 0, vi 0, vi 0, vz, vz, vz, vz, vi 0, vz, vz, vi 0, tree 5 0 #[], vz, vi 0, tree 1 0 #[], vz, vi 0, vi 0, vi 0, vi 0, vi 0, vi 0, tree 1 0 #[], vz, tree 4 0 #[], vz, vi 0, vi 0, vi 0]] [eventV a, eventV b] ∧ ShortEv a ∧ pIf (decide (a = b)) (True ∧ eqL [] [] ∧ T2 ((True ∧ True) ∧ true = true ∧ Post (Out.ret (vb true)) [])) (T2 (True ∧ (True ∧ True) ∧ true = true ∧ Post (Out.ret (vb false)) [])))) (True ∧ ∃ (x_1 : Event), eqL [Value.agg (evK x.kind x).toArray] [eventV x_1] ∧ ShortEv x_1 ∧ InOrder x_1.order ∧ FewO x_1.order ∧ x_1.item.size < 16777000 ∧ ByteArray.size (bOrder x_1.order) ≤ 16000000 ∧ T4 (T2 (∃ (x_2 : Event), eqL [Value.agg (evK x.kind x).toArray] [eventV x_2] ∧ ShortEv x_2 ∧ InOrder x_2.order ∧ FewO x_2.order ∧ x_2.item.size < 16777000 ∧ True ∧ pIf (decide (checkE x_2 = 0)) (T2 (True ∧ pIf (decide (Prod.snd (encR x_1) = 0)) (T4 (True ∧ pIf (decide (Prod.fst (encR x_1) = s)) (T2 (eqL [] [] ∧ T2 ((True ∧ True) ∧ true = true ∧ Post (Out.ret (vb true)) []))) (T4 ((True ∧ True) ∧ true = true ∧ Post (Out.ret (vb false)) [])))) (T4 (T2 ((True ∧ True) ∧ true = true ∧ Post (Out.ret (vb false)) []))))) (T4 (T2 (True ∧ (True ∧ True) ∧ true = true ∧ Post (Out.ret (vb false)) []))))))))))) := by kernel_rfl
theorem eventDecodes_pure (s : ByteArray) : Pure Tryz.prog 5 [.string s] fun v => v = .bool true := by
 refine B.pure_of_X ?_
 refine spec_X (conts := []) callDl_ok mixed (by kernel_rfl) (by kernel_rfl) [] (e_EventDecodes s _ _) ?_
 simp only [true_and, and_true]
 refine pIfD (fun _ => ?_) (fun hs => ?_)
 ·repeat' (first | exact rfl | exact trivial | refine And.intro ?_ ?_)
 refine ⟨by omega, fun x e h => ⟨by decide, pIfN (fun he => ?_) (fun he => ?_)⟩⟩
 ·cases h.no he
  repeat' (first
   | exact rfl
   | exact trivial
   | refine pIfD (fun _ => ?_) (fun hh => absurd rfl hh)
   | refine ⟨evt0, evt0, rfl, hold0.short, ?_⟩
   | refine And.intro ?_ ?_)
 ·obtain ⟨h1, h2⟩ := h.yes he
  have hx := h.hold
  have e1 : encR x = (s, 0) := by unfold encR; rw [if_pos h2, h1]
  have hi : x.item.size < 16777000 := by have := hx.item; omega
  refine ⟨x, rfl, hx.short, hx.inO, hx.few, hi, hx.size, x, rfl, hx.short, hx.inO, hx.few, hi, ?_⟩
  rw [e1]
  refine pIfD (fun _ => ?_) (fun hh => absurd h2 hh)
  repeat' (first
   | exact rfl
   | exact trivial
   | refine pIfD (fun _ => ?_) (fun hh => absurd rfl hh)
   | refine And.intro ?_ ?_)
end Go.Proofs.YtegjnjmimfgijaaGreatDoor
namespace Go.Proofs.YtegjnjmimfgijaaGreatDoor
open Go Go.RowKit Go.ChangeShapes
set_option maxRecDepth 100000
theorem cs_pieces {z : Nat} : ∀ {c : List (List Value)} {cs : List Value}, cs.length = c.length * z → (∀ i p, c[i]? = some p → (cs.drop (i * z)).take z = p) → cs = c.flatten
 | [], cs, hl, _ => by simp at hl; simp [hl]
 | a :: c, cs, hl, h => by
  have h0 := h 0 a rfl
  simp only [Nat.zero_mul, List.drop_zero] at h0
  have ih := cs_pieces (z := z) (c := c) (cs := cs.drop z) (by rw [List.length_drop, hl, List.length_cons, Nat.succ_mul]; omega) fun i p hp => by
   rw [List.drop_drop]
   have := h (i + 1) p (by simpa using hp)
   rwa [Nat.succ_mul, Nat.add_comm] at this
  rw [List.flatten_cons, ← ih, ← h0, List.take_append_drop]
def flat1 : DataW Unit → List Value
 | .lit (.string b) => [.string ⟨b.toArray⟩]
 | .lit (.int k n) => [.int k n]
 | _ => []
def flat2 : DataW Unit → List Value
 | .agg l => l.flatMap flat1
 | d => flat1 d
section
variable {enc : TypeId × Value → Unit} {P : Program} {w : World} {base : Nat} {spare : Nat → Bool} {held : Bool} {fuel : Nat} {t e : TypeId} {cs : List Value} {x : DataW Unit × List MemPlace}
theorem flat_string (ht : P.underlying t = some .string) (h : DataW.trod enc P w base spare held fuel t cs = some x) : cs = flat1 x.1 := by
 obtain ⟨s, rfl, rfl, _⟩ := DataW.trod_string ht h
 simp [flat1]
theorem flat_int {k : IntKind} (ht : P.underlying t = some (.int k)) (h : DataW.trod enc P w base spare held fuel t cs = some x) : cs = flat1 x.1 := by
 obtain ⟨s, rfl, rfl, _⟩ := DataW.trod_int ht h
 rfl
theorem flat_array {n : Nat} {F : DataW Unit → List Value} (ht : P.underlying t = some (.array n e)) (hz : P.cellsOf t = n * P.cellsOf e) (h : DataW.trod enc P w base spare held fuel t cs = some x)
  (hF : ∀ fuel cs x, DataW.trod enc P w base spare held fuel e cs = some x → cs = F x.1) : ∃ l, x.1 = .agg l ∧ cs = (l.map F).flatten := by
 obtain ⟨xs, m, _, rfl, hl, hxl, hi⟩ := DataW.trod_array ht h
 refine ⟨_, rfl, cs_pieces (z := P.cellsOf e) (by rw [List.length_map, List.length_map, hxl, hl, hz]) fun i p hp => ?_⟩
 rw [List.getElem?_map, List.getElem?_map] at hp
 cases hx : xs[i]? with
 | none => rw [hx] at hp; cases hp
 | some y =>
  rw [hx] at hp
  simp only [Option.map_some, Option.some.injEq] at hp
  subst hp
  have hin : i < n := by
   rw [← hxl]
   rcases Nat.lt_or_ge i xs.length with h' | h'
   ·exact h'
   ·rw [List.getElem?_eq_none h'] at hx; cases hx
  exact hF _ _ _ ((hi i hin).trans hx)
theorem flat_pair {f0 f1 : Field} (ht : P.underlying t = some (.struct #[f0, f1])) (hz : P.cellsOf t = 2) (h0 : f0.offset = 0) (h1 : f1.offset = 1) (c0 : P.cellsOf f0.type = 1) (c1 : P.cellsOf f1.type = 1) {k : IntKind}
  (u0 : P.underlying f0.type = some (.int k)) (u1 : P.underlying f1.type = some (.int k)) (h : DataW.trod enc P w base spare held fuel t cs = some x) : cs = flat2 x.1 := by
 obtain ⟨y0, y1, n, rfl, hl, g0, g1⟩ := trod_struct2 ht h
 rw [h0, c0] at g0
 rw [h1, c1] at g1
 have e0 := flat_int u0 g0
 have e1 := flat_int u1 g1
 match cs, hl.trans hz with
 | [a, b], _ =>
  simp at e0 e1
  show [a, b] = [y0.1, y1.1].flatMap flat1
  simp [← e0, ← e1]
end
theorem glob_laid {W : World} (h : laidMetH Tryz.prog Rows.eventSamesRow.laid W) : ∀ g cs, glob g = some cs → ∃ t fz, W.heap[g]? = some (.cells cs t fz) := by
 rw [MakeChecks.laidMetH_plain _ _ _ (by kernel_rfl)] at h
 obtain ⟨ps, ⟨g, t, cs, fuel, p, q, hg, ht, hv, htr, ⟨g', t', cs', fuel', p', q', hg', ht', hv', htr', _⟩, _⟩, _, _⟩ := h
 have heap : ∀ {n : String} {g : Nat} {cs : Array Value}, Tryz.prog.globalNamed n = some g → W.var? Tryz.prog n = some cs → ∃ t fz, W.heap[g]? = some (.cells cs t fz) := fun {n g cs} hg hv => by
  simp only [World.var?, hg, Option.bind_some] at hv
  split at hv
  ·rename_i c t fz hh
   cases hv
   exact ⟨t, fz, hh⟩
  ·cases hv
 obtain rfl : 3 = g := Option.some.inj ((show Tryz.prog.globalNamed "unicode/utf8.acceptRanges" = some 3 by kernel_rfl).symm.trans hg)
 obtain rfl : 0 = g' := Option.some.inj ((show Tryz.prog.globalNamed "shipyard/event.names" = some 0 by kernel_rfl).symm.trans hg')
 obtain rfl : 195 = t := Option.some.inj ((show (Tryz.prog.globals[3]?).map (·.type) = some 195 by kernel_rfl).symm.trans ht)
 obtain rfl : 73 = t' := Option.some.inj ((show (Tryz.prog.globals[0]?).map (·.type) = some 73 by kernel_rfl).symm.trans ht')
 obtain ⟨l, hl, hc⟩ := flat_array (F := flat2) Tryz.underlying195 (by kernel_rfl) htr fun fuel cs x hx => flat_pair Tryz.underlying194 (by kernel_rfl) rfl rfl (by kernel_rfl) (by kernel_rfl) Tryz.underlying5 Tryz.underlying5 hx
 obtain ⟨l', hl', hc'⟩ := flat_array (F := flat1) Tryz.underlying73 (by kernel_rfl) htr' fun fuel cs x hx => flat_string Tryz.underlying9 hx
 cases hl
 cases hl'
 intro k c hk
 unfold glob at hk
 cases h0 : k.beq 0 with
 | true =>
  rw [h0, cond_true] at hk
  obtain rfl := Nat.eq_of_beq_eq_true h0
  cases hk
  have := heap hg' hv'
  rwa [show cs' = _ from Array.toList_inj.1 (hc'.trans (by kernel_rfl))] at this
 | false =>
  rw [h0, cond_false] at hk
  cases h1 : k.beq 3 with
  | false => rw [h1] at hk; cases hk
  | true =>
   rw [h1, cond_true] at hk
   obtain rfl := Nat.eq_of_beq_eq_true h1
   cases hk
   have := heap hg hv
   rwa [show cs = _ from Array.toList_inj.1 (hc.trans (by kernel_rfl))] at this
end Go.Proofs.YtegjnjmimfgijaaGreatDoor

namespace Go.Proofs.YtegjnjmimfgijaaGreatDoor
open Go Go.RowKit Go.ChangeShapes Go.WideShapes Go.ChangeAt Go.Deep Go.Joins
theorem Tryz.own : ownKnob Tryz.prog.godebug = none := by kernel_rfl
theorem Tryz.laidOut : laidOutB Tryz.prog = true := by kernel_rfl
theorem trodAll_stays {H : Type} {enc : TypeId × Value → H} {P : Program} {W W' : World} {sp' : Nat → Bool} (hl : laidOutB P = true) : ∀ {ts : List TypeId} {vs : List Value} {ds : List (DataW H)} {ps : List MemPlace},
  (ts.all fun t => P.readableRec t && decide (t < P.types.size)) = true → DataW.TrodAll enc P W 0 (fun _ => true) true ts vs ds ps → (∀ p ∈ ps, W.sameAt W' p) → (∀ p ∈ ps, sp' p.block = true) →
  DataW.TrodAll enc P W' 0 sp' true ts vs ds ps := by
 intro ts
 induction ts with
 | nil =>
  intro vs ds ps _ h _ _
  obtain ⟨rfl, rfl, rfl⟩ := trodAll_nil h
  exact trodAll_mk0
 | cons t ts ih =>
  intro vs ds ps hr h hs hp
  obtain ⟨v, vs', d, ds', p, q, rfl, rfl, rfl, hd, hrest⟩ := trodAll_cons h
  simp only [List.all_cons, Bool.and_eq_true, decide_eq_true_eq] at hr
  exact trodAll_cons_mk (WideElems.Trod_stays hl hr.1.1 hr.1.2 hd (fun x hx => hs x (by simp [hx])) (fun x hx => hp x (by simp [hx])))
   (ih hr.2 hrest (fun x hx => hs x (by simp [hx])) (fun x hx => hp x (by simp [hx])))
end Go.Proofs.YtegjnjmimfgijaaGreatDoor

