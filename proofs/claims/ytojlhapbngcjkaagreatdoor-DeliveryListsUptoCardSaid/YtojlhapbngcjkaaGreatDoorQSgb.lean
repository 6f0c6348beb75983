/-
  Put together out of several texts, each in its own namespace's block. Conditions: as each theorem states them.
-/
import Derived.Test.YtojlhapbngcjkaaGreatDoorQEvo
import Derived.KernelRfl
import Derived.Test.YtojlhapbngcjkaaGreatDoorProg
import Derived.Shelf.Slices.Clone
import Derived.Shelf.Strings.OnBuilder
import Derived.Shelf.Strings.Repeat
import Derived.Handy
import Derived.Below
import Derived.Laws.OwnMore
import Derived.Deep.AppendLies
import Derived.Deep.Draws
import Derived.Laws.Rows
import Derived.Lib.Hide
import Derived.Lib.SmallJoins
import Derived.Deep.Slices
import Derived.Deep.Fields
import Derived.ChangeSame
import Derived.ProofKit
import Derived.LaidMore
import Derived.OpenShut
import Derived.Stop.Joined
import Derived.Test.YtojlhapbngcjkaaGreatDoorChecked
import Derived.Shelf.Strconv.Itoa3
import Derived.Lib.ItoaLen
noncomputable section
namespace Go.Proofs.YtojlhapbngcjkaaGreatDoor
open Go Go.RowKit
set_option maxRecDepth 100000
set_option maxHeartbeats 8000000
def chunks (sz n : Nat) (l : List Value) : Array Value :=
 bif sz.beq 1 then (l.take n).toArray else ((List.range n).map fun i => Value.agg ((l.drop (i * sz)).take sz).toArray).toArray
theorem chunks_size {sz n : Nat} {l : List Value} (h : n * sz ≤ l.length) : (chunks sz n l).size = n := by
 unfold chunks
 cases hs : sz.beq 1 with
 | true =>
  have := Nat.eq_of_beq_eq_true hs
  subst this
  simp
  omega
 | false => simp
theorem chunks_get {sz n : Nat} {l : List Value} (h : n * sz ≤ l.length) (hl : NLs l) {i : Nat} {u : Value} (hu : (chunks sz n l)[i]? = some u) : i < n ∧ u.cells.size = sz ∧ ∀ (j : Nat) (v : Value), u.cells[j]? = some v → j < sz ∧ l[i * sz + j]? = some v := by
 unfold chunks at hu
 cases hs : sz.beq 1 with
 | true =>
  have := Nat.eq_of_beq_eq_true hs
  subst this
  rw [hs, cond_true] at hu
  have hu' : (l.take n)[i]? = some u := by simpa using hu
  rw [List.getElem?_take] at hu'
  split at hu'
  case isFalse => cases hu'
  rename_i hi
  have hnl := hl u (List.mem_of_getElem? hu')
  have hc : u.cells = #[u] := by cases u <;> first | rfl | cases hnl
  refine ⟨hi, by rw [hc]; rfl, fun j v hv => ?_⟩
  rw [hc] at hv
  cases j with
  | zero => simp at hv; subst hv; exact ⟨by omega, by simpa using hu'⟩
  | succ j => simp at hv
 | false =>
  rw [hs, cond_false] at hu
  have hu' : ((List.range n).map fun i => Value.agg ((l.drop (i * sz)).take sz).toArray)[i]? = some u := by simpa using hu
  rw [List.getElem?_map] at hu'
  have hi : i < n := by
   rcases Nat.lt_or_ge i n with h' | h'
   ·exact h'
   ·rw [List.getElem?_eq_none (by simpa using h')] at hu'; cases hu'
  rw [List.getElem?_range hi] at hu'
  cases hu'
  have hroom := mul_room hi h
  refine ⟨hi, by simp [Value.cells]; omega, fun j v hv => ?_⟩
  have hv' : ((l.drop (i * sz)).take sz)[j]? = some v := by simpa [Value.cells] using hv
  rw [List.getElem?_take] at hv'
  split at hv'
  ·rename_i hj
   rw [List.getElem?_drop] at hv'
   exact ⟨hj, hv'⟩
  ·cases hv'
def Place.freeze (ρ : Place) (c : Nat) (ob : Obj) : Place := ⟨ρ.pl, fun k => match ρ.fr k with | some o => some o | none => if k = c then some ob else none, fun g cs h => by
 obtain ⟨t, fz, hc⟩ := ρ.gl g cs h
 exact ⟨t, fz, by rw [hc]⟩⟩
theorem freeze_rel {ρ : Place} {W : Base} {hp : Tr AObj} {nx : Nat} {w : World} (h : Rel ρ W hp nx w) {b c s z : Nat} {l : List Value} {ob : Obj} (hb : hp.get b = some (.cells l true)) (hr : ρ b = some (c, s, z)) (hob : w.heap[c]? = some ob) :
  Rel (ρ.freeze c ob) W (hp.put b none) nx w ∧ ρ.le (ρ.freeze c ob) := by
 have hle : ρ.le (ρ.freeze c ob) := ⟨fun _ _ h => h, fun k x hk => by
  show (match ρ.fr k with | some o => some o | none => if k = c then some ob else none) = some x
  rw [hk]⟩
 have sub : ∀ k o, (hp.put b none).get k = some o → k ≠ b ∧ hp.get k = some o := fun k o hk => by
  rw [Tr.get_put] at hk
  split at hk
  ·cases hk
  ·rename_i e; exact ⟨e, hk⟩
 obtain ⟨ob0, e0, ho0⟩ := h.obj b _ c s z hb hr
 refine ⟨⟨h.dom, fun k o c' s' z' ho hk => ?_, fun k k' x x' o o' h1 h2 => h.inj k k' x x' o o' (sub _ _ h1).2 (sub _ _ h2).2, fun k hk => ?_, h.below, fun k x hk => ?_, fun k o c' s' z' ho hw hk => ?_, fun k x hk => ?_⟩, hle⟩
 ·obtain ⟨ob', e1, e2⟩ := h.obj k o c' s' z' (sub k o ho).2 hk
  exact ⟨ob', e1, e2.mono hle⟩
 ·rw [Tr.get_put]
  split
  ·rfl
  ·exact h.fresh k hk
 ·have hk' : (match ρ.fr k with | some o => some o | none => if k = c then some ob else none) = some x := hk
  split at hk'
  ·rename_i e; cases hk'; exact h.frz k x e
  ·split at hk'
   ·rename_i e; subst e; cases hk'; exact hob
   ·cases hk'
 ·show (match ρ.fr c' with | some o => some o | none => if c' = c then some ob else none) = none
  have := sub k o ho
  rw [h.apart k o c' s' z' this.2 hw hk]
  dsimp only
  rw [if_neg]
  ·intro e
   exact this.1 (h.inj k b _ _ _ _ this.2 hb hk hr e)
 ·have hk' : (match ρ.fr k with | some o => some o | none => if k = c then some ob else none) = some x := hk
  split at hk'
  ·rename_i e; cases hk'; exact h.frn k x e
  ·split at hk'
   ·rename_i e
    subst e
    cases ob0 <;> try exact ho0.elim
    exact .inr (ho0.2.2.2.2 rfl)
   ·cases hk'
def frzS (N : Nat) (hp : Tr AObj) (v : Value) : Option (Value × Tr AObj × Prop) :=
 match v with
 | .slice (some ⟨b, o, none⟩) n sz => match hp.get b with
  | some (.cells l true) => bif N.ble b then some (tree sz n (chunks sz n (l.drop o)), hp.put b none, o + n * sz ≤ l.length ∧ NLs (l.drop o)) else none
  | _ => none
 | v => some (v, hp, True)
theorem frzS_sound {N : Nat} {ρ : Place} {W : Base} {hp hp' : Tr AObj} {nx : Nat} {w : World} (h : Rel ρ W hp nx w) {v v' u : Value} {ob : Prop} (hv : VR ρ v v') (hf : frzS N hp v = some (u, hp', ob)) (hob : ob) :
  ∃ ρ', Rel ρ' W hp' nx w ∧ Step ρ ρ' hp hp' nx nx ∧ VR ρ' u v' := by
 unfold frzS at hf
 split at hf
 ·rename_i b o n sz
  split at hf
  case h_2 => cases hf
  rename_i l hg
  cases hc : N.ble b with
  | false => rw [hc] at hf; cases hf
  | true =>
   rw [hc] at hf
   cases hf
   obtain ⟨hlen, hnl⟩ := hob
   suffices hs : ∃ ρ', Rel ρ' W (hp.put b none) nx w ∧ Step ρ ρ' hp (hp.put b none) nx nx ∧ VR0 ρ'.fr (tree sz n (chunks sz n (l.drop o))) v' by
    obtain ⟨ρ', s1, s2, s3⟩ := hs
    exact ⟨ρ', s1, s2, VR0.lift (ρ := ρ') s3⟩
   cases hv with
   | @slice _ _ _ _ c s zz cap hr h1 h2 =>
    obtain ⟨ob, e0, ho⟩ := h.obj b _ c s zz hg hr
    obtain ⟨g1, g2⟩ := freeze_rel h hg hr e0
    refine ⟨_, g1, ⟨g2, Nat.le_refl _, fun k _ hn => ⟨hn, by rw [Tr.get_put, if_neg (by intro e; subst e; have hr' := hr; rw [hn] at hr'; cases hr')]⟩⟩, ?_⟩
    cases ob <;> try exact ho.elim
    rename_i cs ct fz
    obtain ⟨k1, k2, k3, k4, k5⟩ := ho
    have hlen' : n * sz ≤ (l.drop o).length := by rw [List.length_drop]; omega
    have hmul : n * sz ≤ cap * sz := Nat.mul_le_mul_right _ h1
    refine VR0.tree (o := s + o) (cs := cs) (t := ct) (fz := fz) (by show (match ρ.fr c with | some o => some o | none => if c = c then _ else none) = _; rw [h.apart b _ c s zz hg rfl hr]; dsimp only; rw [if_pos rfl]) (chunks_size hlen') h1 (by omega) (fun i u hu => (chunks_get hlen' hnl hu).2.1) (fun i j u a a' hu ha ha' => ?_)
    obtain ⟨q1, q2, q3⟩ := chunks_get hlen' hnl hu
    obtain ⟨q4, q5⟩ := q3 j a ha
    have q6 := q5
    rw [List.getElem?_drop] at q5
    obtain ⟨a2, e1, e2⟩ := k4 _ a q5
    have : a2 = a' := by
     rw [show s + o + i * sz + j = s + (o + (i * sz + j)) by omega, e1] at ha'
     cases ha'
     rfl
    subst this
    have hn := hnl a (List.mem_of_getElem? q6)
    have h0 : VR0 ρ.fr a a2 := nl1_sound hn e2
    exact h0.mono g2.2
   | @emptySlice _ _ y a' _ hr =>
    obtain ⟨c, s, zz⟩ := y
    obtain ⟨ob, e0, ho⟩ := h.obj b _ c s zz hg hr
    obtain ⟨g1, g2⟩ := freeze_rel h hg hr e0
    refine ⟨_, g1, ⟨g2, Nat.le_refl _, fun k _ hn => ⟨hn, by rw [Tr.get_put, if_neg (by intro e; subst e; have hr' := hr; rw [hn] at hr'; cases hr')]⟩⟩, ?_⟩
    have : chunks sz 0 (l.drop o) = #[] := by
     unfold chunks
     cases sz.beq 1 <;> simp
    rw [this]
    exact .treeNil _ _ _
 ·cases hf
  exact ⟨ρ, h, .refl _ _ _, hv⟩
def unmark (t : Nat) : Nat := bif Nat.ble 1000 t then t - 1000 else t
def frzTms (N : Nat) : List Nat → AS → Option (AS × Prop)
 | [], st => some (st, True)
 | t :: ts, st => bif Nat.ble 1000 t then match st.tm.get (t - 1000) with
   | some v => match frzS N st.hp v with
    | some (u, hp', ob) => match frzTms N ts ⟨st.tm.put (t - 1000) (some u), hp', st.nx⟩ with
     | some (st', ob') => some (st', ob ∧ ob')
     | none => none
    | none => none
   | none => none
  else frzTms N ts st
theorem frzTms_sound {N n : Nat} {W : Base} {a : Act} {w : World} : ∀ {ts : List Nat} {st st' : AS} {ρ : Place} {ob : Prop}, SRel ρ W n st a w → frzTms N ts st = some (st', ob) → ob →
  ∃ ρ', SRel ρ' W n st' a w ∧ ρ.le ρ'
 | [], st, st', ρ, ob, h, hf, hob => by
  simp only [frzTms] at hf
  cases hf
  exact ⟨ρ, h, ⟨fun _ _ h => h, fun _ _ h => h⟩⟩
 | t :: ts, st, st', ρ, ob, h, hf, hob => by
  simp only [frzTms] at hf
  cases hc : Nat.ble 1000 t with
  | false =>
   rw [hc] at hf
   exact frzTms_sound h hf hob
  | true =>
   rw [hc, cond_true] at hf
   clear hc
   generalize t - 1000 = q at hf
   split at hf
   case h_2 => cases hf
   rename_i v hv
   split at hf
   case h_2 => cases hf
   rename_i u hp' ob1 hz
   split at hf
   case h_2 => cases hf
   rename_i st1 ob2 hr
   cases hf
   obtain ⟨g0, g1⟩ := h.frame.slot _ _ hv
   obtain ⟨ρ1, k1, k2, k3⟩ := frzS_sound h.rel g1 hz hob.1
   have hs1 : SRel ρ1 W n ⟨st.tm.put q (some u), hp', st.nx⟩ a w := ⟨k1, ⟨h.frame.size, h.frame.defers, fun s x hx => by
    rw [Tr.get_put] at hx
    by_cases e : s = q
    ·rw [if_pos e] at hx
     cases hx
     rw [e]
     exact ⟨g0, k3⟩
    ·rw [if_neg e] at hx
     exact ⟨(h.frame.slot s x hx).1, (h.frame.slot s x hx).2.mono k2.le⟩⟩⟩
   obtain ⟨ρ2, q1, q2⟩ := frzTms_sound hs1 hr hob.2
   exact ⟨ρ2, q1, ⟨fun b x hb => q2.1 b x (k2.le.1 b x hb), fun c x hc => q2.2 c x (k2.le.2 c x hc)⟩⟩
end Go.Proofs.YtojlhapbngcjkaaGreatDoor
noncomputable section
namespace Go.Proofs.YtojlhapbngcjkaaGreatDoor
open Go Go.RowKit
def vseq (P : Program) (vc : VCall) (ops : Array Oper) (n : Nat) : List Oper → AS → (AS → Prop) → Prop
 | [], st, K => K st
 | o :: l, st, K => vguard ops st.tm o
   (bif isHeavy o.op then vheavy P vc st.hp st.nx o (aev st.tm) fun v _ hp' nx' => vsplit v fun v => match aput n st.tm o.dst v with
     | some tm' => vseq P vc ops n l ⟨tm', hp', nx'⟩ K
     | none => False
    else match slight P st.hp o (aev st.tm) with
     | some (.val v, ob) => ob ∧ vsplit v fun v => match aput n st.tm o.dst v with
      | some tm' => vseq P vc ops n l ⟨tm', st.hp, st.nx⟩ K
      | none => False
     | some (.new b nv, ob) => match aput n st.tm o.dst (nv.val st.nx) with
      | some tm' => ob ∧ vseq P vc ops n l ⟨tm', st.hp.put st.nx (some b), st.nx + 1⟩ K
      | none => False
     | none => False)
   (match aput n st.tm o.dst undef with
    | some tm' => vseq P vc ops n l ⟨tm', st.hp, st.nx⟩ K
    | none => False)
theorem vseq_sound {P : Program} {vc : VCall} {W : Base} (hcall : VCallOk P vc) {ops : Array Oper} {n : Nat} {Q : Exit → Act → World → Prop} : ∀ (l : List Oper) (k : Nat) (st : AS) (K : AS → Prop) (ρ : Place) (a : Act) (w : World), ops.toList.drop k = l →
  SRel ρ W n st a w → vseq P vc ops n l st K → (∀ st', K st' → ∀ a' w' ρ', SRel ρ' W n st' a' w' → Step ρ ρ' st.hp st'.hp st.nx st'.nx → Q .normal a' w') → wpOps P ops Q (List.range' k l.length) a w
 | [], k, st, K, ρ, a, w, _, h, hs, hk => by
  simp only [vseq] at hs
  exact hk st hs a w ρ h (.refl _ _ _)
 | o :: l, k, st, K, ρ, a, w, hd, h, hs, hk => by
  simp only [vseq] at hs
  have hi : ops[k]? = some o := by
   have : (ops.toList.drop k)[0]? = some o := by rw [hd]; rfl
   rw [List.getElem?_drop] at this
   simpa using this
  have next : ∀ (st1 : AS) (a1 : Act) (w1 : World) (ρ1 : Place), SRel ρ1 W n st1 a1 w1 → Step ρ ρ1 st.hp st1.hp st.nx st1.nx → vseq P vc ops n l st1 K → wpOps P ops Q (List.range' (k + 1) l.length) a1 w1 :=
   fun st1 a1 w1 ρ1 hr hst hv => vseq_sound hcall l (k + 1) st1 K ρ1 a1 w1 (by rw [← List.drop_drop, hd]; rfl) hr hv fun st' hK a' w' ρ' g1 g2 => hk st' hK a' w' ρ' g1 (hst.trans g2)
  rw [List.length_cons, List.range'_succ, wpOps_cons]
  unfold wpOp
  simp only [hi]
  rcases vguard_cases hs with ⟨hw, hs⟩ | ⟨hw, hs⟩
  ·rw [awanted_sound h.frame hw, if_pos rfl]
   refine .inl ?_
   cases hh : isHeavy o.op with
   | true =>
    rw [hh, cond_true] at hs
    refine vheavy_sound hcall h.rel h.frame.ev hs fun v c hp' nx' v' w' ρ' hK _ q1 q2 q3 => ?_
    replace hK := vsplit_ap hK
    split at hK
    case h_2 => exact hK.elim
    rename_i tm' ht
    exact next ⟨tm', hp', nx'⟩ _ _ ρ' ⟨q2, aput_sound (h.frame.mono q3.le) ht q1⟩ q3 hK
   | false =>
    rw [hh, cond_false] at hs
    split at hs
    ·rename_i v ob hv
     obtain ⟨hob, hs⟩ := hs
     replace hs := vsplit_ap hs
     split at hs
     case h_2 => exact hs.elim
     rename_i tm' ht
     obtain ⟨v', h1, h2⟩ := slight_sound (r := .val v) h.rel h.frame.ev hv hob
     unfold Oper.wp
     rw [h1]
     exact next ⟨tm', st.hp, st.nx⟩ _ _ ρ ⟨h.rel, aput_sound h.frame ht h2⟩ (.refl _ _ _) hs
    ·rename_i ob nv obp hv
     split at hs
     case h_2 => exact hs.elim
     rename_i tm' ht
     obtain ⟨v', ob', d, z, h1, h2, h3⟩ := slight_sound (r := .new ob nv) h.rel h.frame.ev hv hs.1
     unfold Oper.wp
     rw [h1]
     have hrel := ((h.rel.at_drawn d).reserve ob).realize (b := st.nx) (z := z) (ob := ob') (by omega) h.rel.dom_none (by rw [Tr.get_put, if_pos rfl]) (h2 _ h.rel.below.fresh)
     have hle := Place.le_set (x := (w.heap.size, 0, z)) h.rel.dom_none
     exact next ⟨tm', st.hp.put st.nx (some ob), st.nx + 1⟩ _ _ _ ⟨hrel, aput_sound (h.frame.mono hle) ht (h3 _ _ (Place.set_same ρ st.nx _))⟩ ⟨hle, Nat.le_succ _, fun b hb hr => ⟨by rw [Place.set_other (by omega)]; exact hr, by show (st.hp.put st.nx (some ob)).get b = _; rw [Tr.get_put, if_neg (by omega)]⟩⟩ hs.2
    ·exact hs.elim
  ·rw [awanted_sound h.frame hw, if_neg (by simp)]
   split at hs
   case h_2 => exact hs.elim
   rename_i tm' ht
   exact next ⟨tm', st.hp, st.nx⟩ _ _ ρ ⟨h.rel, aput_sound h.frame ht (closed_refl (by simp [undef, closed]))⟩ (.refl _ _ _) hs
def vregion (P : Program) (vc : VCall) (n : Nat) (ops : Array Oper) (draw : Bool) (st : AS) (K : AS → Prop) : Prop :=
 bif draw then (bif drawOk ops then vdraw P vc ops n ops.size (Array.replicate ops.size false) st [] K else False) else vseq P vc ops n ops.toList st K
theorem vregion_sound {P : Program} {vc : VCall} {W : Base} (hcall : VCallOk P vc) (hm : P.follows .mixedOrders = true) {ops : Array Oper} {draw : Bool} {id n : Nat} {Q : Exit → Act → World → Prop} {st : AS} {K : AS → Prop} {ρ : Place} {a : Act} {w : World} (h : SRel ρ W n st a w)
  (hs : vregion P vc n ops draw st K) (hk : ∀ st', K st' → ∀ a' w' ρ', SRel ρ' W n st' a' w' → Step ρ ρ' st.hp st'.hp st.nx st'.nx → Q .normal a' w') : (Code.region id ops draw).wp P Q a w := by
 unfold vregion at hs
 cases draw with
 | false =>
  rw [cond_false] at hs
  refine wp_region ?_
  rw [List.range_eq_range']
  have := vseq_sound hcall (Q := Q) ops.toList 0 st K ρ a w (by simp) h hs hk
  simpa using this
 | true =>
  rw [cond_true] at hs
  cases hD : drawOk ops with
  | false => rw [hD] at hs; exact hs.elim
  | true =>
   rw [hD, cond_true] at hs
   refine wp_region_any hm ?_
   have hnot : ∀ i, ¬ In (Array.replicate ops.size false) i := fun i hi => by
    have := lt_of_in (ops := ops) (by simp) hi
    simp [In, this] at hi
   refine vdraw_main hcall hD hk ops.size ops.size _ st [] ⟨fun _ => .e, fun _ => undef, fun _ => none⟩ _ a _ ρ ?_ ⟨by simp, by simp, fun i hi => (hnot i hi).elim, fun i hi => (hnot i hi).elim, fun i hi => hi, fun j o t hj => (hnot j hj).elim, fun t _ => rfl, h.rel.drew, h.frame.size, h.frame.defers, fun j o t hj => (hnot j hj).elim, fun t v _ hv => h.frame.slot t v hv, fun j o hj => (hnot j hj).elim, fun j k b hj => (hnot j hj).elim, .refl _ _ _, fun j o hj => (hnot j hj).elim⟩ hs
   unfold unl
   exact Nat.le_trans (List.length_filter_le _ _) (by simp)
inductive Fr where
 | seq (y : Code)
 | block (id : Nat)
 | loop (b : Code)
inductive VM where
 | code (c : Code)
 | normal
 | exit (id : Nat)
 | ret
def rid : Code → Option Nat
 | .region id _ _ => some id
 | .seq x y => match rid x with
  | some i => some i
  | none => rid y
 | .cond _ x y => match rid x with
  | some i => some i
  | none => rid y
 | .block _ b => rid b
 | .loop b => rid b
 | _ => none
def slotsOf (i : Option Nat) : List (Nat × List Nat) → Option (List Nat)
 | [] => none
 | x :: l => match i with
  | some j => bif j.beq x.1 then some x.2 else slotsOf i l
  | none => none
def vloop (lt : List (Nat × List Nat)) (base : List Bool) (H : Code → List Fr → AS → Prop) (b : Code) (k : List Fr) (st : AS) : Prop :=
 match slotsOf (rid b) lt with
 | some ts => match frzTms base.length ts st with
  | some (st0, ob0) => match canon base (ts.map unmark) st0 with
   | some (st', ob) => ob0 ∧ ob ∧ H b k st'
   | none => False
  | none => False
 | none => False
def vrun (P : Program) (vc : VCall) (n : Nat) (lt : List (Nat × List Nat)) (base : List Bool) (H : Code → List Fr → AS → Prop) (Fin : AS → Prop) : Nat → VM → List Fr → AS → Prop
 | 0, _, _, _ => False
 | f + 1, .normal, k, st => match k with
  | [] => Fin st
  | .seq y :: k' => vrun P vc n lt base H Fin f (.code y) k' st
  | .block _ :: k' => vrun P vc n lt base H Fin f .normal k' st
  | .loop b :: k' => match slotsOf (rid b) lt with
   | some _ => vloop lt base H b k' st
   | none => vrun P vc n lt base H Fin f (.code b) (.loop b :: k') st
 | f + 1, .exit id, k, st => match k with
  | [] => False
  | .block j :: k' => bif id.beq j then vrun P vc n lt base H Fin f .normal k' st else vrun P vc n lt base H Fin f (.exit id) k' st
  | _ :: k' => vrun P vc n lt base H Fin f (.exit id) k' st
 | _ + 1, .ret, _, st => Fin st
 | f + 1, .code c, k, st => match c with
  | .skip | .label _ => vrun P vc n lt base H Fin f .normal k st
  | .region _ ops draw => vregion P vc n ops draw st fun st' => vrun P vc n lt base H Fin f .normal k st'
  | .seq x y => vrun P vc n lt base H Fin f (.code x) (.seq y :: k) st
  | .cond c x y => match aev st.tm c with
   | some (.bool b) => pIf b (vrun P vc n lt base H Fin f (.code x) k st) (vrun P vc n lt base H Fin f (.code y) k st)
   | _ => False
  | .block id b => vrun P vc n lt base H Fin f (.code b) (.block id :: k) st
  | .loop b => match slotsOf (rid b) lt with
   | some _ => vloop lt base H b k st
   | none => vrun P vc n lt base H Fin f (.code b) (.loop b :: k) st
  | .exit id => vrun P vc n lt base H Fin f (.exit id) k st
  | .ret => vrun P vc n lt base H Fin f .ret k st
  | _ => False
def contQ (P : Program) (Q : Exit → Act → World → Prop) : List Fr → Exit → Act → World → Prop
 | [] => Q
 | .seq y :: k => Exit.then (y.wp P (contQ P Q k)) (contQ P Q k)
 | .block id :: k => Exit.inBlock id (contQ P Q k)
 | .loop b :: k => Exit.then (LoopWp P b (contQ P Q k)) (contQ P Q k)
theorem contQ_ret {P : Program} {Q : Exit → Act → World → Prop} {a : Act} {w : World} {k : List Fr} (h : Q .ret a w) : contQ P Q k .ret a w := by
 induction k with
 | nil => exact h
 | cons x k ih => cases x <;> exact ih
section
variable {P : Program} {vc : VCall} {W : Base} {n : Nat} {lt : List (Nat × List Nat)} {base : List Bool} {H : Code → List Fr → AS → Prop} {Fin : AS → Prop} {R : Place → AS → Prop} {Q : Exit → Act → World → Prop}
theorem vrun_sound (hcall : VCallOk P vc) (hm : P.follows .mixedOrders = true)
  (hR : ∀ ρ st ρ' st', R ρ st → Step ρ ρ' st.hp st'.hp st.nx st'.nx → R ρ' st')
  (hH : ∀ b k st, vloop lt base H b k st → ∀ ρ a w, SRel ρ W n st a w → R ρ st → LoopWp P b (contQ P Q k) a w)
  (hF : ∀ st, Fin st → ∀ ρ a w, SRel ρ W n st a w → R ρ st → Q .normal a w ∧ Q .ret a w) :
  ∀ (f : Nat) (m : VM) (k : List Fr) (st : AS), vrun P vc n lt base H Fin f m k st → ∀ ρ a w, SRel ρ W n st a w → R ρ st → (match m with
   | .code c => c.wp P (contQ P Q k) a w
   | .normal => contQ P Q k .normal a w
   | .exit id => contQ P Q k (.exit id) a w
   | .ret => contQ P Q k .ret a w) := by
 intro f
 induction f with
 | zero => intro m k st h; simp only [vrun] at h
 | succ f ih =>
  intro m k st h ρ a w hs hr
  cases m with
  | normal =>
   simp only [vrun] at h
   dsimp only
   cases k with
   | nil => exact (hF st h ρ a w hs hr).1
   | cons x k =>
    cases x with
    | seq y => exact ih (.code y) k st h ρ a w hs hr
    | block id => exact ih .normal k st h ρ a w hs hr
    | loop b =>
     dsimp only at h
     split at h
     ·exact hH b k st h ρ a w hs hr
     ·exact loop_round (ih (.code b) (.loop b :: k) st h ρ a w hs hr)
  | exit id =>
   simp only [vrun] at h
   dsimp only
   cases k with
   | nil => exact h.elim
   | cons x k =>
    cases x with
    | seq y => exact ih (.exit id) k st h ρ a w hs hr
    | block j =>
     show Exit.inBlock j (contQ P Q k) (.exit id) a w
     simp only [Exit.inBlock]
     dsimp only at h
     cases hj : id.beq j with
     | true =>
      rw [hj] at h
      rw [if_pos (Nat.eq_of_beq_eq_true hj)]
      exact ih .normal k st h ρ a w hs hr
     | false =>
      rw [hj] at h
      rw [if_neg (fun e => by subst e; simp at hj)]
      exact ih (.exit id) k st h ρ a w hs hr
    | loop b => exact ih (.exit id) k st h ρ a w hs hr
  | ret =>
   simp only [vrun] at h
   exact contQ_ret (hF st h ρ a w hs hr).2
  | code c =>
   simp only [vrun] at h
   dsimp only
   cases c with
   | skip => exact wp_skip (ih .normal k st h ρ a w hs hr)
   | label l => exact wp_label (ih .normal k st h ρ a w hs hr)
   | region id ops draw => exact vregion_sound hcall hm hs h fun st' hK a' w' ρ' g1 g2 => ih .normal k st' hK ρ' a' w' g1 (hR _ _ _ _ hr g2)
   | seq x y => exact wp_seq (ih (.code x) (.seq y :: k) st h ρ a w hs hr)
   | cond c x y =>
    dsimp only at h
    split at h
    ·rename_i b hc
     have := hs.frame.eval hc
     cases b with
     | true =>
      refine wp_cond_true (c := c) ?_ (ih (.code x) k st h ρ a w hs hr)
      generalize a.eval c = z at this
      cases this
      rfl
     | false =>
      refine wp_cond_false (c := c) ?_ (ih (.code y) k st h ρ a w hs hr)
      generalize a.eval c = z at this
      cases this
      rfl
    ·exact h.elim
   | block id b => exact wp_block (ih (.code b) (.block id :: k) st h ρ a w hs hr)
   | loop b =>
    dsimp only at h
    split at h
    ·exact loop_of (hH b k st h ρ a w hs hr)
    ·exact loop_of (loop_round (ih (.code b) (.loop b :: k) st h ρ a w hs hr))
   | exit id => exact wp_exit (ih (.exit id) k st h ρ a w hs hr)
   | ret => exact wp_ret (ih .ret k st h ρ a w hs hr)
   | goto l => exact h.elim
   | refuse y => exact h.elim
   | scope b => exact h.elim
   | rangeFunc f ps x y => exact h.elim
end
def StepG (N : Nat) (ρ ρ' : Place) : Prop := (∀ b x, b < N → ρ.pl b = some x → ρ'.pl b = some x) ∧ ∀ c x, ρ.fr c = some x → ρ'.fr c = some x
theorem StepG.refl (N : Nat) (ρ : Place) : StepG N ρ ρ := ⟨fun _ _ _ h => h, fun _ _ h => h⟩
theorem StepG.step {N : Nat} {ρ ρ' ρ'' : Place} {hp hp' : Tr AObj} {nx nx' : Nat} (h : StepG N ρ ρ') (k : Step ρ' ρ'' hp hp' nx nx') : StepG N ρ ρ'' :=
 ⟨fun b x hb hx => k.le.1 b x (h.1 b x hb hx), fun c x hc => k.le.2 c x (h.2 c x hc)⟩
def Good (P : Program) (n : Nat) (base : List Bool) (Fin : AS → Prop) (b : Code) (k : List Fr) (st : AS) : Prop :=
 ∀ (W : Base) (ρ0 : Place) (Q : Exit → Act → World → Prop), (∀ st, Fin st → ∀ ρ a w, SRel ρ W n st a w → StepG base.length ρ0 ρ → Q .normal a w ∧ Q .ret a w) →
  ∀ ρ a w, SRel ρ W n st a w → StepG base.length ρ0 ρ → LoopWp P b (contQ P Q k) a w
theorem good_vloop {P : Program} {n : Nat} {lt : List (Nat × List Nat)} {base : List Bool} {Fin : AS → Prop} {b : Code} {k : List Fr} {st : AS} (h : vloop lt base (Good P n base Fin) b k st) : Good P n base Fin b k st := by
 unfold vloop at h
 split at h
 case h_2 => exact h.elim
 split at h
 case h_2 => exact h.elim
 rename_i st0 ob0 hz
 split at h
 case h_2 => exact h.elim
 rename_i st' ob hc
 intro W ρ0 Q hF ρ a w hs hr
 obtain ⟨ρ1, f1, f2⟩ := frzTms_sound hs hz h.1
 obtain ⟨ρ', g1, g2, g3⟩ := canon_sound f1 hc h.2.1
 exact h.2.2 W ρ0 Q hF ρ' a w g1 ⟨fun b x hb hx => by rw [g3 b hb]; exact f2.1 b x (hr.1 b x hb hx), fun c x hx => by rw [g2]; exact f2.2 c x (hr.2 c x hx)⟩
theorem good_round {P : Program} {vc : VCall} (hcall : VCallOk P vc) (hm : P.follows .mixedOrders = true) {n : Nat} {lt : List (Nat × List Nat)} {base : List Bool} {Fin : AS → Prop} {b : Code} {k : List Fr} {st : AS} (f : Nat)
  (h : vrun P vc n lt base (Good P n base Fin) Fin f (.code b) (.loop b :: k) st) : Good P n base Fin b k st := by
 intro W ρ0 Q hF ρ a w hs hr
 refine loop_round ?_
 exact vrun_sound (R := fun ρ _ => StepG base.length ρ0 ρ) hcall hm (fun ρ st ρ' st' h k => h.step k) (fun b k st h ρ a w hs hr => good_vloop h W ρ0 Q hF ρ a w hs hr) hF f (.code b) (.loop b :: k) st h ρ a w hs hr
end Go.Proofs.YtojlhapbngcjkaaGreatDoor

noncomputable section
namespace Go.Proofs.YtojlhapbngcjkaaGreatDoor
open Go Go.RowKit
set_option maxRecDepth 100000
set_option maxHeartbeats 8000000
def frzL (P : Program) (N : Nat) (t : TypeId) (hp : Tr AObj) (v : Value) : Option (Value × Tr AObj × Prop) :=
 match P.underlying t, v with
 | some (.slice e), .slice (some ⟨b, o, none⟩) n sz => match pureRun P (sizeOf e), hp.get b with
  | some z, some (.cells l true) => bif z.beq sz && N.ble b then some (tree sz n (chunks sz n (l.drop o)), hp.put b none, o + n * sz ≤ l.length ∧ NLs (l.drop o)) else none
  | _, _ => none
 | some (.slice e), .slice none 0 _ => match pureRun P (sizeOf e) with
  | some z => some (tree z 0 #[], hp, True)
  | none => none
 | _, v => bif nl1 v then some (v, hp, True) else none
theorem frzL_sound {P : Program} {N : Nat} {t : TypeId} {ρ : Place} {W : Base} {hp hp' : Tr AObj} {nx : Nat} {w : World} (h : Rel ρ W hp nx w) {v v' u : Value} {ob : Prop} (hv : VR ρ v v') (hf : frzL P N t hp v = some (u, hp', ob)) (hob : ob) :
  ∃ ρ', Rel ρ' W hp' nx w ∧ Step ρ ρ' hp hp' nx nx ∧ VR0 ρ'.fr u v' := by
 have base : ∀ {v : Value}, VR ρ v v' → (bif nl1 v then some (v, hp, True) else none) = some (u, hp', ob) → ∃ ρ', Rel ρ' W hp' nx w ∧ Step ρ ρ' hp hp' nx nx ∧ VR0 ρ'.fr u v' := fun {v} hv hf => by
  cases hn : nl1 v with
  | false => rw [hn] at hf; cases hf
  | true => rw [hn] at hf; cases hf; exact ⟨ρ, h, .refl _ _ _, nl1_sound hn hv⟩
 unfold frzL at hf
 split at hf
 ·rename_i e b o n sz hu
  split at hf
  case h_2 => cases hf
  rename_i z l hz hg
  cases hc : z.beq sz && N.ble b with
  | false => rw [hc] at hf; cases hf
  | true =>
   rw [hc] at hf
   cases hf
   obtain ⟨hlen, hnl⟩ := hob
   cases hv with
   | @slice _ _ _ _ c s zz cap hr h1 h2 =>
    obtain ⟨ob, e0, ho⟩ := h.obj b _ c s zz hg hr
    obtain ⟨g1, g2⟩ := freeze_rel h hg hr e0
    refine ⟨_, g1, ⟨g2, Nat.le_refl _, fun k _ hn => ⟨hn, by rw [Tr.get_put, if_neg (by intro e; subst e; have hr' := hr; rw [hn] at hr'; cases hr')]⟩⟩, ?_⟩
    cases ob <;> try exact ho.elim
    rename_i cs ct fz
    obtain ⟨k1, k2, k3, k4, k5⟩ := ho
    have hlen' : n * sz ≤ (l.drop o).length := by rw [List.length_drop]; omega
    have hmul : n * sz ≤ cap * sz := Nat.mul_le_mul_right _ h1
    refine VR0.tree (o := s + o) (cs := cs) (t := ct) (fz := fz) (by show (match ρ.fr c with | some o => some o | none => if c = c then _ else none) = _; rw [h.apart b _ c s zz hg rfl hr]; dsimp only; rw [if_pos rfl]) (chunks_size hlen') h1 (by omega) (fun i u hu => (chunks_get hlen' hnl hu).2.1) (fun i j u a a' hu ha ha' => ?_)
    obtain ⟨q1, q2, q3⟩ := chunks_get hlen' hnl hu
    obtain ⟨q4, q5⟩ := q3 j a ha
    have q6 := q5
    rw [List.getElem?_drop] at q5
    obtain ⟨a2, e1, e2⟩ := k4 _ a q5
    have : a2 = a' := by
     rw [show s + o + i * sz + j = s + (o + (i * sz + j)) by omega, e1] at ha'
     cases ha'
     rfl
    subst this
    have hn := hnl a (List.mem_of_getElem? q6)
    have h0 : VR0 ρ.fr a a2 := nl1_sound hn e2
    exact h0.mono g2.2
   | @emptySlice _ _ y a' _ hr =>
    obtain ⟨c, s, zz⟩ := y
    obtain ⟨ob, e0, ho⟩ := h.obj b _ c s zz hg hr
    obtain ⟨g1, g2⟩ := freeze_rel h hg hr e0
    refine ⟨_, g1, ⟨g2, Nat.le_refl _, fun k _ hn => ⟨hn, by rw [Tr.get_put, if_neg (by intro e; subst e; have hr' := hr; rw [hn] at hr'; cases hr')]⟩⟩, ?_⟩
    have : chunks sz 0 (l.drop o) = #[] := by
     unfold chunks
     cases sz.beq 1 <;> simp
    rw [this]
    exact .treeNil _ _ _
 ·rename_i e cp hu
  split at hf
  case h_2 => cases hf
  cases hf
  cases hv with
  | nilSlice => exact ⟨ρ, h, .refl _ _ _, .treeNil _ _ _⟩
 ·exact base hv hf
def frzC (P : Program) (N : Nat) : List TypeId → List Value → Tr AObj → Option (List Value × Tr AObj × Prop)
 | [], [], hp => some ([], hp, True)
 | t :: ts, v :: vs, hp => match frzL P N t hp v with
  | some (u, hp1, o1) => match frzC P N ts vs hp1 with
   | some (us, hp2, o2) => some (u :: us, hp2, o1 ∧ o2)
   | none => none
  | none => none
 | _, _, _ => none
theorem VR0L {fr : Nat → Option Obj} {c c' : List Value} (h : c.length = c'.length ∧ ∀ (i : Nat) (v v' : Value), c[i]? = some v → c'[i]? = some v' → VR0 fr v v') : VR0 fr (.agg c.toArray) (.agg c'.toArray) :=
 .agg (by simp [h.1]) fun i v v' a b => h.2 i v v' (by simpa using a) (by simpa using b)
theorem frzC_sound {P : Program} {N : Nat} {W : Base} {nx : Nat} {w : World} : ∀ {ts : List TypeId} {vs vs' us : List Value} {ρ : Place} {hp hp' : Tr AObj} {ob : Prop}, Rel ρ W hp nx w → VRL ρ vs vs' → frzC P N ts vs hp = some (us, hp', ob) → ob →
  ∃ ρ', Rel ρ' W hp' nx w ∧ Step ρ ρ' hp hp' nx nx ∧ us.length = vs'.length ∧ ∀ (i : Nat) (v v' : Value), us[i]? = some v → vs'[i]? = some v' → VR0 ρ'.fr v v'
 | [], [], vs', us, ρ, hp, hp', ob, h, hl, hf, _ => by
  simp only [frzC] at hf
  cases hf
  cases hl
  exact ⟨ρ, h, .refl _ _ _, rfl, fun i v v' a => by simp at a⟩
 | [], _ :: _, vs', us, ρ, hp, hp', ob, h, hl, hf, _ => by simp [frzC] at hf
 | _ :: _, [], vs', us, ρ, hp, hp', ob, h, hl, hf, _ => by simp [frzC] at hf
 | t :: ts, v :: vs, vs', us, ρ, hp, hp', ob, h, hl, hf, hob => by
  simp only [frzC] at hf
  split at hf
  case h_2 => cases hf
  rename_i u hp1 o1 h1
  split at hf
  case h_2 => cases hf
  rename_i us0 hp2 o2 h2
  cases hf
  cases hl with
  | cons hv hl =>
   obtain ⟨ρ1, g1, g2, g3⟩ := frzL_sound h hv h1 hob.1
   obtain ⟨ρ2, k1, k2, k3, k4⟩ := frzC_sound g1 (hl.mono g2.le) h2 hob.2
   refine ⟨ρ2, k1, g2.trans k2, by simp [k3], fun i x x' a b => ?_⟩
   cases i with
   | zero => simp at a b; subst a b; exact g3.mono k2.le.2
   | succ i => exact k4 i x x' (by simpa using a) (by simpa using b)
def frzT (P : Program) (N : Nat) (t : TypeId) (hp : Tr AObj) (v : Value) : Option (Value × Tr AObj × Prop) :=
 match v with
 | .agg c => match leaves P 20 t with
  | some ts => match frzC P N ts c.toList hp with
   | some (us, hp', ob) => some (.agg us.toArray, hp', ob)
   | none => none
  | none => none
 | v => frzL P N t hp v
theorem frzT_sound {P : Program} {N : Nat} {t : TypeId} {ρ : Place} {W : Base} {hp hp' : Tr AObj} {nx : Nat} {w : World} (h : Rel ρ W hp nx w) {v v' u : Value} {ob : Prop} (hv : VR ρ v v') (hf : frzT P N t hp v = some (u, hp', ob)) (hob : ob) :
  ∃ ρ', Rel ρ' W hp' nx w ∧ Step ρ ρ' hp hp' nx nx ∧ VR0 ρ'.fr u v' := by
 unfold frzT at hf
 split at hf
 ·rename_i c
  split at hf
  case h_2 => cases hf
  split at hf
  case h_2 => cases hf
  rename_i us hp2 ob2 h2
  cases hf
  cases hv with
  | agg hs hc =>
   rename_i c'
   obtain ⟨ρ', g1, g2, g3, g4⟩ := frzC_sound h (VRA.list ⟨hs, hc⟩) h2 hob
   refine ⟨ρ', g1, g2, ?_⟩
   have := VR0L ⟨g3, g4⟩
   simpa using this
 ·exact frzL_sound h hv hf hob
def frzTs (P : Program) (N : Nat) : List TypeId → List Value → Tr AObj → Option (List Value × Tr AObj × Prop)
 | [], [], hp => some ([], hp, True)
 | t :: ts, v :: vs, hp => match frzT P N t hp v with
  | some (u, hp1, o1) => match frzTs P N ts vs hp1 with
   | some (us, hp2, o2) => some (u :: us, hp2, o1 ∧ o2)
   | none => none
  | none => none
 | _, _, _ => none
theorem frzTs_sound {P : Program} {N : Nat} {W : Base} {nx : Nat} {w : World} : ∀ {ts : List TypeId} {vs vs' us : List Value} {ρ : Place} {hp hp' : Tr AObj} {ob : Prop}, Rel ρ W hp nx w → VRL ρ vs vs' → frzTs P N ts vs hp = some (us, hp', ob) → ob →
  ∃ ρ', Rel ρ' W hp' nx w ∧ Step ρ ρ' hp hp' nx nx ∧ us.length = vs'.length ∧ ∀ (i : Nat) (v v' : Value), us[i]? = some v → vs'[i]? = some v' → VR0 ρ'.fr v v'
 | [], [], vs', us, ρ, hp, hp', ob, h, hl, hf, _ => by
  simp only [frzTs] at hf
  cases hf
  cases hl
  exact ⟨ρ, h, .refl _ _ _, rfl, fun i v v' a => by simp at a⟩
 | [], _ :: _, vs', us, ρ, hp, hp', ob, h, hl, hf, _ => by simp [frzTs] at hf
 | _ :: _, [], vs', us, ρ, hp, hp', ob, h, hl, hf, _ => by simp [frzTs] at hf
 | t :: ts, v :: vs, vs', us, ρ, hp, hp', ob, h, hl, hf, hob => by
  simp only [frzTs] at hf
  split at hf
  case h_2 => cases hf
  rename_i u hp1 o1 h1
  split at hf
  case h_2 => cases hf
  rename_i us0 hp2 o2 h2
  cases hf
  cases hl with
  | cons hv hl =>
   obtain ⟨ρ1, g1, g2, g3⟩ := frzT_sound h hv h1 hob.1
   obtain ⟨ρ2, k1, k2, k3, k4⟩ := frzTs_sound g1 (hl.mono g2.le) h2 hob.2
   refine ⟨ρ2, k1, g2.trans k2, by simp [k3], fun i x x' a b => ?_⟩
   cases i with
   | zero => simp at a b; subst a b; exact g3.mono k2.le.2
   | succ i => exact k4 i x x' (by simpa using a) (by simpa using b)
def frzR (P : Program) (N : Nat) (ts : List TypeId) (hp : Tr AObj) (v : Value) : Option (Value × Tr AObj × Prop) :=
 match ts with
 | [t] => frzT P N t hp v
 | ts => match v with
  | .tuple vs => match frzTs P N ts vs.toList hp with
   | some (us, hp', ob) => some (.tuple us.toArray, hp', ob)
   | none => none
  | _ => none
theorem frzR_sound {P : Program} {N : Nat} {ts : List TypeId} {ρ : Place} {W : Base} {hp hp' : Tr AObj} {nx : Nat} {w : World} (h : Rel ρ W hp nx w) {v v' u : Value} {ob : Prop} (hv : VR ρ v v') (hf : frzR P N ts hp v = some (u, hp', ob)) (hob : ob) :
  ∃ ρ', Rel ρ' W hp' nx w ∧ Step ρ ρ' hp hp' nx nx ∧ VR0 ρ'.fr u v' := by
 unfold frzR at hf
 split at hf
 ·exact frzT_sound h hv hf hob
 ·split at hf
  case h_2 => cases hf
  rename_i vs
  split at hf
  case h_2 => cases hf
  rename_i us hp2 ob2 h2
  cases hf
  cases hv with
  | tuple hs hc =>
   rename_i c'
   obtain ⟨ρ', g1, g2, g3, g4⟩ := frzTs_sound h (VRA.list ⟨hs, hc⟩) h2 hob
   refine ⟨ρ', g1, g2, .tuple (by simpa using g3) fun i v v' a b => g4 i v v' (by simpa using a) (by simpa using b)⟩
def finOf (P : Program) (fn : Func) (N : Nat) (Post : Value → Tr AObj → Prop) (st : AS) : Prop :=
 match ares P st.hp st.tm fn with
 | some v => match frzR P N fn.resultTypes.toList st.hp v with
  | some (u, hp', ob) => ob ∧ Post u hp'
  | none => False
 | none => False
def Spec (P : Program) (f : FuncId) (N : Nat) (hp : Tr AObj) (args : List Value) (Post : Value → Tr AObj → Prop) : Prop :=
 ∀ (W : Base) ρ w args', Rel ρ W hp N w → VRL ρ args args' → Calls P f args'.toArray w fun e w' => ∃ v hp' nx' v' ρ', Post v hp' ∧ e = .returned v' ∧ VR0 ρ'.fr v v' ∧ Rel ρ' W hp' nx' w' ∧ StepG N ρ ρ'
def FinQ (P : Program) (fn : Func) (W : Base) (N : Nat) (ρ : Place) (Post : Value → Tr AObj → Prop) (e : Exit) (a : Act) (w : World) : Prop :=
 bodyPost P fn (fun e w' => ∃ v hp' nx' v' ρ', Post v hp' ∧ e = .returned v' ∧ VR0 ρ'.fr v v' ∧ Rel ρ' W hp' nx' w' ∧ StepG N ρ ρ') e a w
theorem finOf_ok {P : Program} {fn : Func} {N n : Nat} {Post : Value → Tr AObj → Prop} {st : AS} (h : finOf P fn N Post st) {W : Base} (hd : W.ds = []) {ρ0 ρ : Place} {a : Act} {w : World} (hs : SRel ρ W n st a w) (hr : StepG N ρ0 ρ) :
  FinQ P fn W N ρ0 Post .normal a w ∧ FinQ P fn W N ρ0 Post .ret a w := by
 unfold finOf at h
 split at h
 case h_2 => exact h.elim
 rename_i v hv
 split at h
 case h_2 => exact h.elim
 rename_i u hp' ob hf
 obtain ⟨v', r1, r2⟩ := ares_sound hs.rel hs.frame hv
 obtain ⟨ρ', g1, g2, g3⟩ := frzR_sound hs.rel r2 hf h.1
 have : ∃ v hp' nx' v'' ρ', Post v hp' ∧ Ending.returned v' = .returned v'' ∧ VR0 ρ'.fr v v'' ∧ Rel ρ' W hp' nx' w ∧ StepG N ρ0 ρ' :=
  ⟨u, hp', st.nx, v', ρ', h.2, rfl, g3, g1, fun b x hb hx => g2.le.1 b x (hr.1 b x hb hx), fun c x hx => g2.le.2 c x (hr.2 c x hx)⟩
 exact ⟨⟨hs.frame.defers.trans hd, v', r1, this⟩, ⟨hs.frame.defers.trans hd, v', r1, this⟩⟩
def slotsN (args : List Value) (fn : Func) : Nat := args.length + (fn.ntmps - args.length)
theorem start_rel {ρ : Place} {W : Base} (hd : W.ds = []) {hp : Tr AObj} {nx : Nat} {w : World} (h : Rel ρ W hp nx w) {args args' : List Value} (hargs : VRL ρ args args') (fn : Func) :
  SRel ρ W (slotsN args fn) ⟨putArgs 0 args .e, hp, nx⟩ { tmps := args'.toArray ++ Array.replicate (fn.ntmps - args'.toArray.size) undef, defers := [] } w := by
 refine ⟨h, ?_, hd.symm, fun t u hu => ?_⟩
 ·simp [slotsN, hargs.len]
 ·rw [putArgs_get] at hu
  by_cases ht : 0 ≤ t ∧ t < 0 + args.length
  ·rw [if_pos ht] at hu
   have hlt : t < args'.length := by rw [← hargs.len]; omega
   refine ⟨by unfold slotsN; omega, ?_⟩
   have hg := hargs.get (i := t) (v := u) (v' := args'[t]) (by simpa using hu) (by simp)
   rw [Array.getD_eq_getD_getElem?, Array.getElem?_append_left (by simpa using hlt)]
   simpa [hlt] using hg
  ·rw [if_neg ht] at hu
   simp [Tr.get_e] at hu
theorem spec_of {P : Program} {vc : VCall} (hcall : VCallOk P vc) (hm : P.follows .mixedOrders = true) {f : FuncId} {fn : Func} {c : Code} (hf : P.funcs[f]? = some fn) (hc : fn.body = some c) {lt : List (Nat × List Nat)} {base : List Bool} {hp : Tr AObj} {args : List Value} {Post : Value → Tr AObj → Prop} (k : Nat)
  (h : vrun P vc (slotsN args fn) lt base (Good P (slotsN args fn) base (finOf P fn base.length Post)) (finOf P fn base.length Post) k (.code c) [] ⟨putArgs 0 args .e, hp, base.length⟩) : Spec P f base.length hp args Post := by
 intro W ρ w args' hrel hargs
 suffices hb : Calls P f args'.toArray w fun e w' => ∃ v hp' nx' v' ρ', Post v hp' ∧ e = .returned v' ∧ VR0 ρ'.fr v v' ∧ Rel ρ' W.bare hp' nx' w' ∧ StepG base.length ρ ρ' from hb.mono fun e w' ⟨v, hp', nx', v', ρ', g1, g2, g3, g4, g5⟩ => ⟨v, hp', nx', v', ρ', g1, g2, g3, g4.unbare, g5⟩
 refine calls_of_wp hf hc ?_
 exact vrun_sound (R := fun ρ' _ => StepG base.length ρ ρ') (Q := FinQ P fn W.bare base.length ρ Post) hcall hm (fun _ _ _ _ h k => h.step k)
  (fun b k st h ρ' a w hs hr => good_vloop h W.bare ρ _ (fun st hst ρ' a w hs hr => finOf_ok hst rfl hs hr) ρ' a w hs hr) (fun st hst ρ' a w hs hr => finOf_ok hst rfl hs hr) k (.code c) [] _ h ρ _ w (start_rel rfl hrel.bare hargs fn) (.refl _ _)
def Pure (P : Program) (f : FuncId) (args : List Value) (Post : Value → Prop) : Prop := Spec P f 0 .e args fun v _ => Post v
theorem Pure.call {P : Program} {f : FuncId} {args : List Value} {Post : Value → Prop} (h : Pure P f args Post) (hn : args.all nl = true) {W : Base} {ρ : Place} {hp : Tr AObj} {nx : Nat} {w : World} {args' : List Value} (hrel : Rel ρ W hp nx w) (hargs : VRL ρ args args') :
  Calls P f args'.toArray w fun e w' => ∃ v v' ρ', Post v ∧ e = .returned v' ∧ VR ρ' v v' ∧ VR0 ρ'.fr v v' ∧ Rel ρ' W hp nx w' ∧ Step ρ ρ' hp hp nx nx ∧ Below w.heap.size w w' := by
 have hargs1 : VRL ⟨fun _ => none, ρ.fr, ρ.gl⟩ args args' := .of hargs.len fun i v v' a b => by
  have h0 : VR0 ρ.fr v v' := nl_sound (List.all_eq_true.1 hn v (List.mem_of_getElem? a)) (hargs.get a b)
  exact VR0.lift (ρ := ⟨fun _ => none, ρ.fr, ρ.gl⟩) h0
 have hrel1 : Rel ⟨fun _ => none, ρ.fr, ρ.gl⟩ ⟨w, fun _ => False, ρ.fr, []⟩ .e 0 w := ⟨fun b x hb => (by cases hb), fun b o c s z ho => (by cases ho), fun b b' x x' o o' ho => (by cases ho), fun b _ => rfl, ⟨rfl, rfl, rfl, Nat.le_refl _, fun _ _ => rfl⟩, hrel.frz, fun b o c s z ho => (by cases ho), fun c ob hc => .inl hc⟩
 refine (h ⟨w, fun _ => False, ρ.fr, []⟩ _ w args' hrel1 hargs1).mono ?_
 rintro e w' ⟨v, hp', nx', v', ρ1, hP, rfl, hv, hr, hg⟩
 have old : ∀ c, c < w.heap.size → w'.heap[c]? = w.heap[c]? := fun c hc => hr.below.block c ⟨hc, fun h => h⟩
 have hsz : w.heap.size ≤ w'.heap.size := hr.below.size
 have lt : ∀ {c : Nat} {ob : Obj}, w.heap[c]? = some ob → c < w.heap.size := fun {c ob} hc => by
  rcases Nat.lt_or_ge c w.heap.size with h' | h'
  ·exact h'
  ·rw [Array.getElem?_eq_none h'] at hc; cases hc
 have hle : ρ.le ⟨ρ.pl, ρ1.fr, ρ1.gl⟩ := ⟨fun _ _ h => h, fun c x hc => hg.2 c x hc⟩
 refine ⟨v, v', ⟨ρ.pl, ρ1.fr, ρ1.gl⟩, hP, rfl, VR0.lift (ρ := ⟨ρ.pl, ρ1.fr, ρ1.gl⟩) hv, hv, ?_, ⟨hle, Nat.le_refl _, fun _ _ h => ⟨h, rfl⟩⟩, ⟨hr.below.os, hr.below.tape, hr.below.output, hsz, old⟩⟩
 refine ⟨fun b x hb => ⟨(hrel.dom b x hb).1, Nat.lt_of_lt_of_le (hrel.dom b x hb).2 hsz⟩, fun b o c s z ho hb => ?_, hrel.inj, hrel.fresh, ⟨hr.below.os.trans hrel.below.os, hr.below.tape.trans hrel.below.tape, hr.below.output.trans hrel.below.output, Nat.le_trans hrel.below.size hsz, fun k hk => ?_⟩, hr.frz, fun b o c s z ho hw hb => ?_, fun c ob hc => ?_⟩
 ·obtain ⟨ob, e1, e2⟩ := hrel.obj b o c s z ho hb
  exact ⟨ob, by rw [old c (lt e1)]; exact e1, e2.mono hle⟩
 ·rw [old k (Nat.lt_of_lt_of_le hk.1 hrel.below.size)]
  exact hrel.below.block k hk
 ·show ρ1.fr c = none
  cases hc : ρ1.fr c with
  | none => rfl
  | some ob =>
   have hcl := (hrel.dom b _ hb).2
   rcases hr.frn c ob hc with h1 | h1
   ·have := hrel.apart b o c s z ho hw hb
    have h2 : ρ.fr c = some ob := h1
    rw [this] at h2
    cases h2
   ·exact absurd ⟨hcl, fun h => h⟩ h1
 ·rcases hr.frn c ob hc with h1 | h1
  ·exact hrel.frn c ob h1
  ·refine .inr fun h2 => h1 ⟨Nat.lt_of_lt_of_le h2.1 hrel.below.size, fun h => h⟩
structure Ent where
 f : FuncId
 c : List Value → (Value → Prop) → Prop
def EntOk (P : Program) (e : Ent) : Prop := ∀ args Post, e.c args Post → Pure P e.f args Post
def entOf (f : FuncId) : List Ent → Option Ent
 | [] => none
 | e :: l => bif e.f.beq f then some e else entOf f l
theorem entOf_mem {f : FuncId} {e : Ent} : ∀ {l : List Ent}, entOf f l = some e → e ∈ l ∧ e.f = f
 | [], h => by simp [entOf] at h
 | x :: l, h => by
  simp only [entOf] at h
  cases hx : x.f.beq f with
  | true => rw [hx] at h; cases h; exact ⟨by simp, Nat.eq_of_beq_eq_true hx⟩
  | false => rw [hx, cond_false] at h; exact ⟨by simp [(entOf_mem h).1], (entOf_mem h).2⟩
def tabCall (tab : List Ent) (next : VCall) : VCall := fun f args hp nx K =>
 match entOf f tab with
 | some e => bif args.all nl then e.c args fun v => K v false hp nx else False
 | none => next f args hp nx K
theorem tabCall_ok {P : Program} {tab : List Ent} {next : VCall} (ht : ∀ e ∈ tab, EntOk P e) (hn : VCallOk P next) : VCallOk P (tabCall tab next) := by
 intro f args hp nx K h W ρ w args' hrel hargs
 unfold tabCall at h
 split at h
 ·rename_i e he
  obtain ⟨h1, rfl⟩ := entOf_mem he
  cases ha : args.all nl with
  | false => rw [ha] at h; exact h.elim
  | true =>
   rw [ha, cond_true] at h
   refine ((ht e h1 args _ h).call ha hrel hargs).mono ?_
   rintro e' w' ⟨v, v', ρ', hK, rfl, g1, _, g2, g3, _⟩
   exact ⟨v, false, hp, nx, v', ρ', hK, fun _ => rfl, rfl, g1, g2, g3⟩
 ·exact hn f args hp nx K h W ρ w args' hrel hargs
def noCall : VCall := fun _ _ _ _ _ => False
theorem noCall_ok {P : Program} : VCallOk P noCall := fun _ _ _ _ _ h => h.elim
def inlCall (P : Program) (inl : List FuncId) (next : VCall) : Nat → VCall
 | 0 => next
 | k + 1 => fun f args hp nx K => bif inl.contains f then match P.funcs[f]? with
   | some fn => match fn.body with
    | some c => vrun P (inlCall P inl next k) (slotsN args fn) [] [] (fun _ _ _ => False) (fun st => match ares P st.hp st.tm fn with | some v => K v true st.hp st.nx | none => False) 1000 (.code c) [] ⟨putArgs 0 args .e, hp, nx⟩
    | none => False
   | none => False
  else next f args hp nx K
theorem inlCall_ok {P : Program} (hm : P.follows .mixedOrders = true) {inl : List FuncId} {next : VCall} (hn : VCallOk P next) : ∀ k, VCallOk P (inlCall P inl next k)
 | 0 => hn
 | k + 1 => by
  intro f args hp nx K h W ρ w args' hrel hargs
  unfold inlCall at h
  cases hi : inl.contains f with
  | false => rw [hi] at h; exact hn f args hp nx K h W ρ w args' hrel hargs
  | true =>
   rw [hi, cond_true] at h
   split at h
   case h_2 => exact h.elim
   rename_i fn hf
   split at h
   case h_2 => exact h.elim
   rename_i c hc
   refine calls_of_wp hf hc ?_
   have fin : ∀ st, (match ares P st.hp st.tm fn with | some v => K v true st.hp st.nx | none => False) → ∀ ρ' a w', SRel ρ' W.bare (slotsN args fn) st a w' → Step ρ ρ' hp st.hp nx st.nx →
     a.defers = [] ∧ ∃ v', (results fn a.tmps).run P w' = .ok v' w' ∧ ∃ v c hp' nx' v'' ρ', K v c hp' nx' ∧ (c = false → hp' = hp) ∧ Ending.returned v' = .returned v'' ∧ VR ρ' v v'' ∧ Rel ρ' W hp' nx' w' ∧ Step ρ ρ' hp hp' nx nx' := by
    intro st hst ρ' a w' hs hr
    split at hst
    case h_2 => exact hst.elim
    rename_i v hv
    obtain ⟨v', r1, r2⟩ := ares_sound hs.rel hs.frame hv
    exact ⟨hs.frame.defers, v', r1, v, true, st.hp, st.nx, v', ρ', hst, fun e => (by cases e), rfl, r2, hs.rel.unbare, hr⟩
   exact vrun_sound (W := W.bare) (R := fun ρ' st => Step ρ ρ' hp st.hp nx st.nx) (inlCall_ok hm hn k) hm (fun _ _ _ _ h k => h.trans k)
    (fun b k st h ρ' a w hs hr => by
     unfold vloop at h
     split at h
     case h_2 => exact h.elim
     split at h
     case h_2 => exact h.elim
     split at h
     case h_2 => exact h.elim
     exact h.2.2.elim) (fun st hst ρ' a w hs hr => ⟨fin st hst ρ' a w hs hr, fin st hst ρ' a w hs hr⟩) 1000 (.code c) [] _ h ρ _ w (start_rel rfl hrel.bare hargs fn) (.refl _ _ _)
abbrev eqL (a b : List Value) : Prop := a = b
def trV {α : Type} (l : List (Nat × Option α)) : Tr α := l.foldl (fun t p => t.put p.1 p.2) .e
def stV (tm : List (Nat × Option Value)) (hp : List (Nat × Option AObj)) (nx : Nat) : AS := ⟨trV tm, trV hp, nx⟩
def fnAt (P : Program) (f : FuncId) : Func := (P.funcs[f]?).getD default
def codeOf (fn : Func) : Code := fn.body.getD .skip
def findL (r : Nat) : Code → List Fr → Option (Code × List Fr)
 | .seq x y, k => match findL r x (.seq y :: k) with
  | some p => some p
  | none => findL r y k
 | .cond _ x y, k => match findL r x k with
  | some p => some p
  | none => findL r y k
 | .block id b, k => findL r b (.block id :: k)
 | .loop b, k => match rid b with
  | some j => bif j.beq r then some (b, k) else findL r b (.loop b :: k)
  | none => none
 | _, _ => none
def lpC (P : Program) (f : FuncId) (r : Nat) : Code := ((findL r (codeOf (fnAt P f)) []).map (·.1)).getD .skip
def lpK (P : Program) (f : FuncId) (r : Nat) : List Fr := ((findL r (codeOf (fnAt P f)) []).map (·.2)).getD []
def vcE (P : Program) (vc : VCall) (f : FuncId) (lt : List (Nat × List Nat)) (base : List Bool) (hp : Tr AObj) (args : List Value) (H : Code → List Fr → AS → Prop) (Post : Value → Tr AObj → Prop) : Prop :=
 vrun P vc (slotsN args (fnAt P f)) lt base H (finOf P (fnAt P f) base.length Post) 3000 (.code (codeOf (fnAt P f))) [] ⟨putArgs 0 args .e, hp, base.length⟩
def vcL (P : Program) (vc : VCall) (f : FuncId) (na : List Value) (lt : List (Nat × List Nat)) (base : List Bool) (r : Nat) (st : AS) (H : Code → List Fr → AS → Prop) (Post : Value → Tr AObj → Prop) : Prop :=
 vrun P vc (slotsN na (fnAt P f)) lt base H (finOf P (fnAt P f) base.length Post) 3000 (.code (lpC P f r)) (.loop (lpC P f r) :: lpK P f r) st
def Ok (P : Program) (f : FuncId) (na : List Value) (base : List Bool) (Post : Value → Tr AObj → Prop) : Code → List Fr → AS → Prop :=
 Good P (slotsN na (fnAt P f)) base (finOf P (fnAt P f) base.length Post)
theorem spec_E {P : Program} {vc : VCall} (hcall : VCallOk P vc) (hm : P.follows .mixedOrders = true) {f : FuncId} (hf : (P.funcs[f]?).isSome = true) (hc : (fnAt P f).body.isSome = true) {lt : List (Nat × List Nat)} {base : List Bool} {hp : Tr AObj} {args : List Value} {Post : Value → Tr AObj → Prop}
  (h : vcE P vc f lt base hp args (Ok P f args base Post) Post) : Spec P f base.length hp args Post := by
 have hf' : P.funcs[f]? = some (fnAt P f) := by
  unfold fnAt
  cases hx : P.funcs[f]? with
  | none => rw [hx] at hf; cases hf
  | some x => rfl
 have hc' : (fnAt P f).body = some (codeOf (fnAt P f)) := by
  unfold codeOf
  cases hx : (fnAt P f).body with
  | none => rw [hx] at hc; cases hc
  | some x => rfl
 exact spec_of hcall hm hf' hc' 3000 h
theorem pure_E {P : Program} {vc : VCall} (hcall : VCallOk P vc) (hm : P.follows .mixedOrders = true) {f : FuncId} (hf : (P.funcs[f]?).isSome = true) (hc : (fnAt P f).body.isSome = true) {lt : List (Nat × List Nat)} {args : List Value} {Post : Value → Prop}
  (h : vcE P vc f lt [] .e args (Ok P f args [] fun v _ => Post v) fun v _ => Post v) : Pure P f args Post := spec_E hcall hm hf hc h
theorem ok_L {P : Program} {vc : VCall} (hcall : VCallOk P vc) (hm : P.follows .mixedOrders = true) {f : FuncId} {na : List Value} {lt : List (Nat × List Nat)} {base : List Bool} {r : Nat} {st : AS} {Post : Value → Tr AObj → Prop}
  (h : vcL P vc f na lt base r st (Ok P f na base Post) Post) : Ok P f na base Post (lpC P f r) (lpK P f r) st := good_round hcall hm 3000 h
def vcP (P : Program) (vc : VCall) (f : FuncId) (lt : List (Nat × List Nat)) (args : List Value) (H : Code → List Fr → AS → Prop) (Post : Value → Prop) : Prop := vcE P vc f lt [] .e args H fun v _ => Post v
def vcLP (P : Program) (vc : VCall) (f : FuncId) (na : List Value) (lt : List (Nat × List Nat)) (r : Nat) (st : AS) (H : Code → List Fr → AS → Prop) (Post : Value → Prop) : Prop := vcL P vc f na lt [] r st H fun v _ => Post v
def OkAt (P : Program) (f : FuncId) (na : List Value) (Post : Value → Prop) : Code → List Fr → AS → Prop := Ok P f na [] fun v _ => Post v
theorem pure_P {P : Program} {vc : VCall} (hcall : VCallOk P vc) (hm : P.follows .mixedOrders = true) {f : FuncId} (hf : (P.funcs[f]?).isSome = true) (hc : (fnAt P f).body.isSome = true) (lt : List (Nat × List Nat)) {args : List Value} {Post : Value → Prop}
  {X : Prop} (e : vcP P vc f lt args (OkAt P f args Post) Post = X) (h : X) : Pure P f args Post := pure_E (lt := lt) hcall hm hf hc (Eq.mpr e h)
theorem ok_P {P : Program} {vc : VCall} (hcall : VCallOk P vc) (hm : P.follows .mixedOrders = true) {f : FuncId} {na : List Value} (lt : List (Nat × List Nat)) {r : Nat} {st : AS} {Post : Value → Prop}
  {X : Prop} (e : vcLP P vc f na lt r st (OkAt P f na Post) Post = X) (h : X) : OkAt P f na Post (lpC P f r) (lpK P f r) st := ok_L (lt := lt) hcall hm (Eq.mpr e h)
abbrev HT : Type := Code → List Fr → AS → Prop
abbrev PV : Type := Value → Prop
abbrev PI : Type := Value → List (List Value) → Prop
def hpOf (conts : List (List Value)) : Tr AObj := putObjs 0 (conts.map fun l => some (.cells l true)) .e
theorem hpOf_get (conts : List (List Value)) (i : Nat) : (hpOf conts).get i = (conts[i]?).map fun l => .cells l true := by
 unfold hpOf
 rw [putObjs_get]
 simp only [Nat.zero_le, true_and, List.length_map, Nat.zero_add, Nat.sub_zero, List.getElem?_map]
 by_cases h : i < conts.length
 ·rw [if_pos h, List.getElem?_eq_getElem h]; rfl
 ·rw [if_neg h, List.getElem?_eq_none (by omega)]; exact Tr.get_e i
def outs (hp : Tr AObj) : Nat → Nat → Option (List (List Value))
 | _, 0 => some []
 | i, n + 1 => match hp.get i with
  | some (.cells l true) => match outs hp (i + 1) n with
   | some ls => some (l :: ls)
   | none => none
  | _ => none
theorem outs_get {hp : Tr AObj} : ∀ {n i : Nat} {ls : List (List Value)}, outs hp i n = some ls → ls.length = n ∧ ∀ (j : Nat) (l : List Value), ls[j]? = some l → hp.get (i + j) = some (.cells l true)
 | 0, i, ls, h => by simp only [outs] at h; cases h; exact ⟨rfl, fun j l hj => by simp at hj⟩
 | n + 1, i, ls, h => by
  simp only [outs] at h
  split at h
  case h_2 => cases h
  rename_i l hl
  split at h
  case h_2 => cases h
  rename_i ls0 h0
  cases h
  obtain ⟨g1, g2⟩ := outs_get h0
  refine ⟨by simp [g1], fun j x hx => ?_⟩
  cases j with
  | zero => simp at hx; subst hx; exact hl
  | succ j => rw [show i + (j + 1) = i + 1 + j by omega]; exact g2 j x (by simpa using hx)
def putConts : List (Nat × Bool) → List (List Value) → Tr AObj → Tr AObj
 | (b, _) :: l, c :: cs, hp => putConts l cs (hp.put b (some (.cells c true)))
 | _, _, hp => hp
theorem putConts_get : ∀ {l : List (Nat × Bool)} {cs : List (List Value)} {hp : Tr AObj}, nodupB l = true → cs.length = l.length → ∀ b, (∀ (i : Nat) (k : Bool) (c : List Value), l[i]? = some (b, k) → cs[i]? = some c → (putConts l cs hp).get b = some (.cells c true)) ∧ (memB b l = false → (putConts l cs hp).get b = hp.get b)
 | [], cs, hp, _, hl, b => by
  cases cs with
  | nil => exact ⟨fun i k c hi => by simp at hi, fun _ => rfl⟩
  | cons c cs => simp at hl
 | (x, k0) :: l, [], hp, _, hl, b => by simp at hl
 | (x, k0) :: l, c :: cs, hp, hn, hl, b => by
  simp only [nodupB] at hn
  cases hm : memB x l with
  | true => rw [hm] at hn; cases hn
  | false =>
   rw [hm, cond_false] at hn
   obtain ⟨g1, g2⟩ := putConts_get (hp := hp.put x (some (.cells c true))) hn (by simpa using hl) b
   simp only [putConts]
   refine ⟨fun i k c' hi hc => ?_, fun hb => ?_⟩
   ·cases i with
    | zero =>
     simp at hi hc
     obtain ⟨rfl, rfl⟩ := hi
     subst hc
     rw [g2 hm, Tr.get_put, if_pos rfl]
    | succ i => exact g1 i k c' (by simpa using hi) (by simpa using hc)
   ·simp only [memB] at hb
    cases hx : x.beq b with
    | true => rw [hx] at hb; cases hb
    | false =>
     rw [hx, cond_false] at hb
     rw [g2 hb, Tr.get_put, if_neg (fun e => by subst e; simp at hx)]
theorem addB_mem {b b' : Nat} {k k' : Bool} {l : List (Nat × Bool)} (h : (b', k') ∈ addB b k l) : (b', k') ∈ l ∨ b' = b := by
 unfold addB at h
 cases hm : memB b l with
 | true => rw [hm] at h; exact .inl h
 | false =>
  rw [hm, cond_false] at h
  rcases List.mem_append.1 h with h | h
  ·exact .inl h
  ·simp at h; exact .inr h.1
theorem memB_mem {b : Nat} : ∀ {l : List (Nat × Bool)}, memB b l = true → ∃ (i : Nat) (k : Bool), l[i]? = some (b, k)
 | [], h => by cases h
 | x :: l, h => by
  simp only [memB] at h
  cases hx : x.1.beq b with
  | true => exact ⟨0, x.2, by simp [← Nat.eq_of_beq_eq_true hx]⟩
  | false =>
   rw [hx, cond_false] at h
   obtain ⟨i, k, hi⟩ := memB_mem h
   exact ⟨i + 1, k, by simpa using hi⟩
theorem Rel.later {ρ : Place} {W : Base} {hp : Tr AObj} {nx : Nat} {w w' : World} (h : Rel ρ W hp nx w) (hb : Below w.heap.size w w') : Rel ρ W hp nx w' := by
 have lt : ∀ {c : Nat} {ob : Obj}, w.heap[c]? = some ob → c < w.heap.size := fun {c ob} hc => by
  rcases Nat.lt_or_ge c w.heap.size with h' | h'
  ·exact h'
  ·rw [Array.getElem?_eq_none h'] at hc; cases hc
 refine ⟨fun b x hx => ⟨(h.dom b x hx).1, Nat.lt_of_lt_of_le (h.dom b x hx).2 hb.size⟩, fun b o c s z ho hx => ?_, h.inj, h.fresh, ⟨hb.os.trans h.below.os, hb.tape.trans h.below.tape, hb.output.trans h.below.output, Nat.le_trans h.below.size hb.size, fun k hk => ?_⟩, fun c ob hc => ?_, h.apart, h.frn⟩
 ·obtain ⟨ob, e1, e2⟩ := h.obj b o c s z ho hx
  exact ⟨ob, by rw [hb.block c (lt e1)]; exact e1, e2⟩
 ·rw [hb.block k (Nat.lt_of_lt_of_le hk.1 h.below.size)]
  exact h.below.block k hk
 ·have := h.frz c ob hc
  rw [hb.block c (lt this)]
  exact this
def tabCallF (P : Program) (tab : List Ent) (next : VCall) : VCall := fun f args hp nx K =>
 match entOf f tab with
 | some e => match P.funcs[f]? with
  | some fn => match frzTs P 0 fn.params.toList args hp with
   | some (us, hp', ob) => bif us.all nl then ob ∧ e.c us fun v => Bool.rec (motive := fun _ => Prop) (K v true hp' nx) (K v false hp nx) (closed v) else False
   | none => False
  | none => False
 | none => next f args hp nx K
theorem tabCallF_ok {P : Program} {tab : List Ent} {next : VCall} (ht : ∀ e ∈ tab, EntOk P e) (hnx : VCallOk P next) : VCallOk P (tabCallF P tab next) := by
 intro f args hp nx K h W ρ w args' hrel hargs
 unfold tabCallF at h
 split at h
 case h_2 => exact hnx f args hp nx K h W ρ w args' hrel hargs
 rename_i e he
 obtain ⟨h1, rfl⟩ := entOf_mem he
 split at h
 case h_2 => exact h.elim
 split at h
 case h_2 => exact h.elim
 rename_i us hp' ob hf
 cases ha : us.all nl with
 | false => rw [ha] at h; exact h.elim
 | true =>
  rw [ha, cond_true] at h
  obtain ⟨hob, hc⟩ := h
  obtain ⟨ρ1, g1, g2, g3, g4⟩ := frzTs_sound hrel hargs hf hob
  have hargs1 : VRL ρ1 us args' := .of g3 fun i v v' a b => VR0.lift (g4 i v v' a b)
  refine ((ht e h1 us _ hc).call ha g1 hargs1).mono ?_
  rintro e' w' ⟨v, v', ρ2, hK, rfl, q1, q2, q3, q4, q5⟩
  cases hcl : closed v with
  | true =>
   rw [hcl] at hK
   have e : v' = v := closed_eq hcl q1
   exact ⟨v, false, hp, nx, v', ρ, hK, fun _ => rfl, rfl, by rw [e]; exact closed_refl hcl, hrel.later q5, .refl _ _ _⟩
  | false =>
   rw [hcl] at hK
   exact ⟨v, true, hp', nx, v', ρ2, hK, fun e => (by cases e), rfl, q1, q3, g2.trans q4⟩
class Enc (α : Type) where
 sz : Nat
 cells : α → List Value
 len : ∀ a, (cells a).length = sz
 nl : ∀ a, NLs (cells a)
def elt : List Value → Value
 | [v] => v
 | l => .agg l.toArray
theorem elt_cells : ∀ {l : List Value}, NLs l → (elt l).cells = l.toArray
 | [], _ => rfl
 | [v], h => by
  have := h v (by simp)
  cases v <;> first | rfl | (simp [nl1] at this)
 | _ :: _ :: _, _ => rfl
def encL {α : Type} [Enc α] (l : List α) : Array Value := (l.map fun a => elt (Enc.cells a)).toArray
instance instEncList {α : Type} [Enc α] : Enc (List α) where
 sz := 1
 cells l := [tree (Enc.sz α) l.length (encL l)]
 len _ := rfl
 nl l := by intro v hv; simp at hv; subst hv; rfl
instance : Enc Int where
 sz := 1
 cells n := [.int .i64 n]
 len _ := rfl
 nl n := by intro v hv; simp at hv; subst hv; rfl
instance : Enc ByteArray where
 sz := 1
 cells s := [.string s]
 len _ := rfl
 nl n := by intro v hv; simp at hv; subst hv; rfl
instance : Enc Bool where
 sz := 1
 cells b := [.bool b]
 len _ := rfl
 nl n := by intro v hv; simp at hv; subst hv; rfl
instance {α β : Type} [Enc α] [Enc β] : Enc (α × β) where
 sz := Enc.sz α + Enc.sz β
 cells p := Enc.cells p.1 ++ Enc.cells p.2
 len p := by rw [List.length_append, Enc.len, Enc.len]
 nl p := by
  intro v hv
  rcases List.mem_append.1 hv with h | h
  ·exact Enc.nl p.1 v h
  ·exact Enc.nl p.2 v h
theorem cellAt_encL {α : Type} [Enc α] {l : List α} {i j : Nat} {a : α} (h : l[i]? = some a) : cellAt (encL l) i j = ((Enc.cells a)[j]?).getD undef := by
 unfold cellAt encL
 simp [Array.getD_eq_getD_getElem?, h, elt_cells (Enc.nl a)]
theorem cellAt_encL' {α : Type} [Enc α] {l : List α} {i j : Nat} (h : i < l.length) : cellAt (encL l) i j = ((Enc.cells l[i])[j]?).getD undef := cellAt_encL (by simp)
theorem toI_int (k : IntKind) (n : Int) : toI (.int k n) = n := rfl
theorem toB_bool (b : Bool) : toB (.bool b) = b := rfl
theorem toS_string (s : ByteArray) : toS (.string s) = s := rfl
theorem toN_tree (sz n : Nat) (els : Array Value) : toN (tree sz n els) = n := rfl
theorem toE_tree (sz n : Nat) (els : Array Value) : toE (tree sz n els) = els := rfl
abbrev OkP (f : FuncId) (na : List Value) (r : Nat) (Post : Value → Prop) (st : AS) : Prop := OkAt Tryz.prog f na Post (lpC Tryz.prog f r) (lpK Tryz.prog f r) st
theorem mixed : Tryz.prog.follows .mixedOrders = true := by kernel_rfl
end Go.Proofs.YtojlhapbngcjkaaGreatDoor
noncomputable section
namespace Go.Proofs.YtojlhapbngcjkaaGreatDoor
open Go Go.RowKit Go.Shelf Go.Lib
set_option maxRecDepth 100000
section
variable {P : Program} {nm : String} {ρ : Ren} {i0 : TypeInfo} {z : Value} {sz bytes : Nat}
end
end Go.Proofs.YtojlhapbngcjkaaGreatDoor

noncomputable section
namespace Go.Proofs.YtojlhapbngcjkaaGreatDoor
open Go Go.RowKit
set_option maxRecDepth 100000
set_option maxHeartbeats 8000000
theorem tree_arg {ρ : Place} {W : Base} {hp : Tr AObj} {nx : Nat} {w : World} (hrel : Rel ρ W hp nx w) {sz n : Nat} {els : Array Value} {x' : Value} (hx : VR ρ (tree sz n els) x') :
  ∃ (a : Option Addr) (cap : Nat) (cells : List Value), x' = .slice a n cap ∧ els.size = n ∧ cells.length = n * sz ∧ (∀ (j : Nat) (u : Value), cells[j]? = some u → ∃ ad, a = some ad ∧ w.cell? (ad.add j) = some u) ∧
   (∀ (i : Nat) (u : Value), els[i]? = some u → u.cells.size = sz) ∧ ∀ (i j : Nat) (u v v' : Value), els[i]? = some u → u.cells[j]? = some v → cells[i * sz + j]? = some v' → VR0 ρ.fr v v' := by
 cases hx with
 | @tree _ _ cap c o _ cs t fz hb h1 h2 h3 h4 h5 =>
  have hheap := hrel.frz c _ hb
  have hl : ((cs.toList.drop o).take (n * sz)).length = n * sz := by
   rw [List.length_take, List.length_drop, Array.length_toList]
   omega
  have get : ∀ (j : Nat) (u : Value), ((cs.toList.drop o).take (n * sz))[j]? = some u → cs[o + j]? = some u := fun j u hj => by
   have hlt : j < n * sz := by
    rcases Nat.lt_or_ge j (n * sz) with h | h
    ·exact h
    ·rw [List.getElem?_eq_none (by omega)] at hj; cases hj
   rw [List.getElem?_take, if_pos hlt, List.getElem?_drop, Array.getElem?_toList] at hj
   exact hj
  refine ⟨_, cap, _, rfl, h1, hl, fun j u hj => ⟨_, rfl, ?_⟩, h4, fun i j u v v' hu hv hv' => h5 i j u v v' hu hv ?_⟩
  ·have e := get j u hj
   have ha : (⟨c, o, none⟩ : Addr).add j = ⟨c, o + j, none⟩ := by
    unfold Addr.add
    split
    ·rename_i h0
     subst h0
     rfl
    ·rfl
   rw [ha]
   unfold World.cell?
   dsimp only
   rw [hheap]
   exact e
  ·rw [Nat.add_assoc]
   exact get _ _ hv'
 | treeNil _ a cap =>
  refine ⟨a, cap, [], rfl, rfl, by simp, fun j u hj => by simp at hj, fun i u hu => by simp at hu, fun i j u v v' hu => by simp at hu⟩
theorem wrap64 {n : Int} (h1 : -9223372036854775808 ≤ n) (h2 : n < 9223372036854775808) : IntKind.i64.wrap n = n := by
 have e : IntKind.i64.wrap n = if (n % 18446744073709551616 : Int) ≥ 9223372036854775808 then n % 18446744073709551616 - 18446744073709551616 else n % 18446744073709551616 := by
  unfold IntKind.wrap
  simp [IntKind.signed, IntKind.bits]
 rw [e]
 split <;> omega
abbrev Short {α : Type} (l : List α) : Prop := l.length < 2 ^ 62
theorem wrapSucc {n : Nat} (h : n < 2 ^ 62) : IntKind.i64.wrap ((n : Int) + 1) = ((n + 1 : Nat) : Int) := by
 rw [wrap64 (by omega) (by omega)]; omega
structure Pt where
 x : Int
 y : Int
 deriving DecidableEq
theorem Pt.ext' {p q : Pt} (h1 : p.x = q.x) (h2 : p.y = q.y) : p = q := by
 cases p; cases q; cases h1; cases h2; rfl
instance : Inhabited Pt := ⟨⟨0, 0⟩⟩
instance : Enc Pt where
 sz := 2
 cells p := [.int .i64 p.x, .int .i64 p.y]
 len _ := rfl
 nl p := by intro v hv; simp at hv; rcases hv with rfl | rfl <;> rfl
abbrev trPt (l : List Pt) : Value := tree 2 l.length (encL l)
abbrev trPts (l : List (List Pt)) : Value := tree 1 l.length (encL l)
structure Vec3 where
 x : Int
 y : Int
 z : Int
 deriving DecidableEq
structure Part where
 id : ByteArray
 rev : Int
 kind : Int
 node : ByteArray
 grade : ByteArray
 thick : Int
 outer : List Pt
 holes : List (List Pt)
 sect : ByteArray
 long : Int
 mass : Int
 centre : Vec3
 at_ : Vec3
 turn : Int
 deriving DecidableEq
def partC (p : Part) : List Value := [.string p.id, .int .i64 p.rev, .int .i64 p.kind, .string p.node, .string p.grade, .int .i64 p.thick, trPt p.outer, trPts p.holes, .string p.sect, .int .i64 p.long, .int .i64 p.mass,
 .int .i64 p.centre.x, .int .i64 p.centre.y, .int .i64 p.centre.z, .int .i64 p.at_.x, .int .i64 p.at_.y, .int .i64 p.at_.z, .int .i64 p.turn]
theorem down {p : Nat → Prop} {n : Nat} (h0 : p n) (h : ∀ k, k < n → p (k + 1) → p k) : p 0 := by
 have : ∀ j k, k + j = n → p k := by
  intro j
  induction j with
  | zero => intro k hk; rw [show k = n by omega]; exact h0
  | succ j ih => intro k hk; exact h k (by omega) (ih (k + 1) (by omega))
 exact this n 0 (by omega)
def renJoin : Shelf.Ren := ⟨fun x => if x = 156 then 33 else if x = 165 then 62 else if x = 166 then 55 else if x = 169 then 25 else if x = 240 then 111 else if x = 241 then 115 else if x = 276 then 163 else if x = 277 then 165 else x, fun x => if x = 0 then 0 else if x = 3 then 3 else if x = 4 then 4 else if x = 5 then 5 else if x = 9 then 9 else if x = 20 then 20 else if x = 31 then 46 else if x = 37 then 76 else if x = 70 then 75 else if x = 72 then 78 else if x = 75 then 138 else if x = 76 then 139 else if x = 80 then 98 else if x = 127 then 144 else if x = 164 then 252 else x, fun x => x⟩
theorem laysJoin : Lays.n156 Tryz.prog renJoin where
 mixed := by kernel_rfl
 f156 := by kernel_rfl
 f165 := by kernel_rfl
 f166 := by kernel_rfl
 f169 := by kernel_rfl
 f240 := by kernel_rfl
 f241 := by kernel_rfl
 f276 := by kernel_rfl
 f277 := by kernel_rfl
 t0 := by kernel_rfl
 a0 := fun w => by kernel_rfl
 z0 := fun w => by kernel_rfl
 v0 := fun w => by kernel_rfl
 t3 := by kernel_rfl
 a3 := fun w => by kernel_rfl
 z3 := fun w => by kernel_rfl
 v3 := fun w => by kernel_rfl
 t4 := by kernel_rfl
 a4 := fun w => by kernel_rfl
 z4 := fun w => by kernel_rfl
 v4 := fun w => by kernel_rfl
 t9 := by kernel_rfl
 a9 := fun w => by kernel_rfl
 z9 := fun w => by kernel_rfl
 v9 := fun w => by kernel_rfl
 t20 := by kernel_rfl
 a20 := fun w => by kernel_rfl
 z20 := fun w => by kernel_rfl
 v20 := fun w => by kernel_rfl
 t31 := by kernel_rfl
 a31 := fun w => by kernel_rfl
 z31 := fun w => by kernel_rfl
 v31 := fun w => by kernel_rfl
 t37 := by kernel_rfl
 a37 := fun w => by kernel_rfl
 z37 := fun w => by kernel_rfl
 v37 := fun w => by kernel_rfl
 t70 := by kernel_rfl
 a70 := fun w => by kernel_rfl
 z70 := fun w => by kernel_rfl
 v70 := fun w => by kernel_rfl
 t72 := by kernel_rfl
 a72 := fun w => by kernel_rfl
 z72 := fun w => by kernel_rfl
 v72 := fun w => by kernel_rfl
 t75 := by kernel_rfl
 a75 := fun w => by kernel_rfl
 z75 := fun w => by kernel_rfl
 v75 := fun w => by kernel_rfl
 t76 := by kernel_rfl
 a76 := fun w => by kernel_rfl
 z76 := fun w => by kernel_rfl
 v76 := fun w => by kernel_rfl
 t127 := by kernel_rfl
 a127 := fun w => by kernel_rfl
 z127 := fun w => by kernel_rfl
 v127 := fun w => by kernel_rfl
 t164 := by kernel_rfl
 a164 := fun w => by kernel_rfl
 z164 := fun w => by kernel_rfl
 v164 := fun w => by kernel_rfl
theorem extraJoin : Builder.Extra Tryz.prog renJoin where
 sizeBuilder := by kernel_rfl
 liesBuilder := by kernel_rfl
 t5 := by kernel_rfl
 a5 := fun w => by kernel_rfl
 z5 := fun w => by kernel_rfl
 v5 := fun w => by kernel_rfl
 infoByte := by kernel_rfl
 cellsByte := by kernel_rfl
 sizeByte := by kernel_rfl
 neB5 := by decide
def renRep : Shelf.Ren := ⟨fun x => if x = 99 then 123 else if x = 105 then 76 else if x = 165 then 62 else if x = 166 then 55 else if x = 169 then 25 else if x = 170 then 124 else if x = 206 then 116 else if x = 212 then 122 else if x = 240 then 111 else if x = 241 then 115 else if x = 263 then 173 else if x = 264 then 174 else if x = 276 then 163 else if x = 277 then 165 else x, fun x => if x = 0 then 0 else if x = 3 then 3 else if x = 4 then 4 else if x = 5 then 5 else if x = 9 then 9 else if x = 20 then 20 else if x = 37 then 76 else if x = 46 then 206 else if x = 51 then 160 else if x = 53 then 145 else if x = 70 then 75 else if x = 72 then 78 else if x = 75 then 138 else if x = 76 then 139 else if x = 80 then 98 else if x = 109 then 208 else if x = 127 then 144 else if x = 146 then 262 else if x = 148 then 264 else if x = 164 then 252 else x, fun x => x⟩
theorem laysRep : Lays.n105 Tryz.prog renRep where
 mixed := by kernel_rfl
 f99 := by kernel_rfl
 f105 := by kernel_rfl
 f165 := by kernel_rfl
 f166 := by kernel_rfl
 f169 := by kernel_rfl
 f170 := by kernel_rfl
 f206 := by kernel_rfl
 f212 := by kernel_rfl
 f240 := by kernel_rfl
 f241 := by kernel_rfl
 f263 := by kernel_rfl
 f264 := by kernel_rfl
 f276 := by kernel_rfl
 f277 := by kernel_rfl
 t0 := by kernel_rfl
 a0 := fun w => by kernel_rfl
 z0 := fun w => by kernel_rfl
 v0 := fun w => by kernel_rfl
 t3 := by kernel_rfl
 a3 := fun w => by kernel_rfl
 z3 := fun w => by kernel_rfl
 v3 := fun w => by kernel_rfl
 t4 := by kernel_rfl
 a4 := fun w => by kernel_rfl
 z4 := fun w => by kernel_rfl
 v4 := fun w => by kernel_rfl
 t5 := by kernel_rfl
 a5 := fun w => by kernel_rfl
 z5 := fun w => by kernel_rfl
 v5 := fun w => by kernel_rfl
 t9 := by kernel_rfl
 a9 := fun w => by kernel_rfl
 z9 := fun w => by kernel_rfl
 v9 := fun w => by kernel_rfl
 t20 := by kernel_rfl
 a20 := fun w => by kernel_rfl
 z20 := fun w => by kernel_rfl
 v20 := fun w => by kernel_rfl
 t37 := by kernel_rfl
 a37 := fun w => by kernel_rfl
 z37 := fun w => by kernel_rfl
 v37 := fun w => by kernel_rfl
 t46 := by kernel_rfl
 a46 := fun w => by kernel_rfl
 z46 := fun w => by kernel_rfl
 v46 := fun w => by kernel_rfl
 t51 := by kernel_rfl
 a51 := fun w => by kernel_rfl
 z51 := fun w => by kernel_rfl
 v51 := fun w => by kernel_rfl
 t53 := by kernel_rfl
 a53 := fun w => by kernel_rfl
 z53 := fun w => by kernel_rfl
 v53 := fun w => by kernel_rfl
 t70 := by kernel_rfl
 a70 := fun w => by kernel_rfl
 z70 := fun w => by kernel_rfl
 v70 := fun w => by kernel_rfl
 t72 := by kernel_rfl
 a72 := fun w => by kernel_rfl
 z72 := fun w => by kernel_rfl
 v72 := fun w => by kernel_rfl
 t75 := by kernel_rfl
 a75 := fun w => by kernel_rfl
 z75 := fun w => by kernel_rfl
 v75 := fun w => by kernel_rfl
 t76 := by kernel_rfl
 a76 := fun w => by kernel_rfl
 z76 := fun w => by kernel_rfl
 v76 := fun w => by kernel_rfl
 t109 := by kernel_rfl
 a109 := fun w => by kernel_rfl
 z109 := fun w => by kernel_rfl
 v109 := fun w => by kernel_rfl
 t127 := by kernel_rfl
 a127 := fun w => by kernel_rfl
 z127 := fun w => by kernel_rfl
 v127 := fun w => by kernel_rfl
 t146 := by kernel_rfl
 a146 := fun w => by kernel_rfl
 z146 := fun w => by kernel_rfl
 v146 := fun w => by kernel_rfl
 t148 := by kernel_rfl
 a148 := fun w => by kernel_rfl
 z148 := fun w => by kernel_rfl
 v148 := fun w => by kernel_rfl
 t164 := by kernel_rfl
 a164 := fun w => by kernel_rfl
 z164 := fun w => by kernel_rfl
 v164 := fun w => by kernel_rfl
theorem extraRep : Builder.Extra Tryz.prog renRep where
 sizeBuilder := by kernel_rfl
 liesBuilder := by kernel_rfl
 t5 := by kernel_rfl
 a5 := fun w => by kernel_rfl
 z5 := fun w => by kernel_rfl
 v5 := fun w => by kernel_rfl
 infoByte := by kernel_rfl
 cellsByte := by kernel_rfl
 sizeByte := by kernel_rfl
 neB5 := by decide
def joinB (l : List ByteArray) (sep : ByteArray) : ByteArray := ⟨(Lib.join (l.map (·.data.toList)) sep.data.toList).toArray⟩
def c_join (args : List Value) (Post : Value → Prop) : Prop := ∃ (l : List ByteArray) (sep : ByteArray), args = [tree 1 l.length (encL l), .string sep] ∧ l.length ≤ 140737488355328 ∧ (joinB l sep).size ≤ 140737488355328 ∧ Post (.string (joinB l sep))
theorem tree_cap {ρ : Place} {sz n : Nat} {els : Array Value} {x' : Value} (hx : VR ρ (tree sz n els) x') (hn : 0 < n) : ∃ c o cap, x' = .slice (some ⟨c, o, none⟩) n cap ∧ n ≤ cap := by
 cases hx with
 | tree hb h1 h2 => exact ⟨_, _, _, rfl, h2⟩
 | treeNil => omega
theorem str_of {fr : Nat → Option Obj} {y : ByteArray} {v : Value} (h : VR0 fr (.string y) v) : v = .string y := by
 cases h
 rfl
theorem ok_join : EntOk Tryz.prog ⟨33, c_join⟩ := by
 rintro args Post ⟨l, sep, rfl, hl, hb, h⟩
 intro W ρ w args' hrel hargs
 cases hargs with
 | cons hv hnil =>
 cases hnil with
 | cons hs hnil =>
 cases hnil
 cases hs
 have fin : ∀ w', Below w.heap.size w w' → ∃ v hp' nx' v' ρ', Post v ∧ Ending.returned (.string (joinB l sep)) = .returned v' ∧ VR0 ρ'.fr v v' ∧ Rel ρ' W hp' nx' w' ∧ StepG 0 ρ ρ' := fun w' hw =>
  ⟨_, .e, 0, _, ρ, h, rfl, .string _, hrel.later hw, .refl _ _⟩
 obtain ⟨a, cap0, cells, e0, h1, hlen, hcell, h4, h5⟩ := tree_arg hrel hv
 rcases Nat.eq_zero_or_pos l.length with h0 | hpos
 ·obtain rfl : l = [] := List.eq_nil_of_length_eq_zero h0
  subst e0
  refine (Any.strings_Join_none laysJoin extraJoin a cap0 sep w).mono ?_
  rintro e w' ⟨rfl, rfl⟩
  exact fin _ (Below.refl _ _)
 ·obtain ⟨bk, o, cap, rfl, hcap⟩ := tree_cap hv hpos
  cases e0
  have cell : ∀ (j : Nat) (y : ByteArray), l[j]? = some y → w.cell? ⟨bk, o + j, none⟩ = some (.string y) := fun j y hy => by
   have hj : j < cells.length := by
    have := (List.getElem?_eq_some_iff.1 hy).1
    omega
   obtain ⟨ad, e, hw⟩ := hcell j _ (List.getElem?_eq_getElem hj)
   cases e
   have he : (encL l)[j]? = some (.string y) := by
    unfold encL
    simp only [List.getElem?_toArray, List.getElem?_map, hy]
    rfl
   have := str_of (h5 j 0 (.string y) (.string y) cells[j] he rfl (by rw [Nat.mul_one, Nat.add_zero]; exact List.getElem?_eq_getElem hj))
   rw [this] at hw
   have e : (⟨bk, o, none⟩ : Addr).add j = ⟨bk, o + j, none⟩ := by unfold Addr.add; split <;> simp_all
   rwa [e] at hw
  have hbk : bk < w.heap.size := by
   have := cell 0 l[0] (List.getElem?_eq_getElem hpos)
   rcases Nat.lt_or_ge bk w.heap.size with h' | h'
   ·exact h'
   ·simp [World.cell?, Array.getElem?_eq_none h'] at this
  refine (Any.strings_Join laysJoin extraJoin bk o _ l sep w cell hbk hl hcap (by simpa [joinB, ByteArray.size] using hb)).mono ?_
  rintro e w' ⟨rfl, hw⟩
  exact fin _ hw
def isStr : Value → Bool
 | .string _ => true
 | _ => false
theorem encL_strs : ∀ {l : List Value}, l.all isStr = true → encL (l.map toS) = l.toArray := by
 intro l h
 unfold encL
 congr 1
 rw [List.map_map]
 induction l with
 | nil => rfl
 | cons v l ih =>
  simp only [List.all_cons, Bool.and_eq_true] at h
  rw [List.map_cons, ih h.2]
  congr 1
  cases v <;> try (cases h.1)
  rfl
def c_joinV (args : List Value) (Post : Value → Prop) : Prop := match args with
 | [.func (.via 1 p n false) els c, .string sep] => (p.isEmpty && c.isEmpty && n.beq els.size && els.toList.all isStr) = true ∧ els.size ≤ 140737488355328 ∧ (joinB (els.toList.map toS) sep).size ≤ 140737488355328 ∧ Post (.string (joinB (els.toList.map toS) sep))
 | _ => False
theorem ok_joinV : EntOk Tryz.prog ⟨33, c_joinV⟩ := by
 intro args Post h
 unfold c_joinV at h
 dsimp only at h
 split at h
 case h_2 => exact h.elim
 rename_i p n els c sep
 obtain ⟨h1, h2, h3, h4⟩ := h
 simp only [Bool.and_eq_true, Array.isEmpty_iff] at h1
 obtain ⟨⟨⟨rfl, rfl⟩, hn⟩, hs⟩ := h1
 obtain rfl := Nat.eq_of_beq_eq_true hn
 refine ok_join _ _ ⟨els.toList.map toS, sep, ?_, by simpa using h2, h3, h4⟩
 have e := encL_strs hs
 rw [e]
 simp
def repB (s : ByteArray) (n : Nat) : ByteArray := ⟨(Lib.repeatL s.data.toList n).toArray⟩
def c_rep (args : List Value) (Post : Value → Prop) : Prop := ∃ (s : ByteArray) (n : Int), args = [.string s, .int .i64 n] ∧ 0 ≤ n ∧ n ≤ 1000000 ∧ s.size ≤ 1000000 ∧ Post (.string (repB s n.toNat))
theorem ok_rep : EntOk Tryz.prog ⟨76, c_rep⟩ := by
 rintro args Post ⟨s, n, rfl, h0, h1, h2, h⟩
 intro W ρ w args' hrel hargs
 cases hargs with
 | cons hv hnil =>
 cases hnil with
 | cons hs hnil =>
 cases hnil
 cases hv
 cases hs
 obtain ⟨k, rfl⟩ := Int.eq_ofNat_of_zero_le h0
 have hk : k ≤ 1000000 := by omega
 have hm : s.size * k ≤ 1000000 * 1000000 := Nat.mul_le_mul h2 hk
 refine (Any.strings_Repeat laysRep extraRep s k w (by omega) (by omega)).mono ?_
 rintro e w' ⟨rfl, hw⟩
 exact ⟨_, .e, 0, _, ρ, h, rfl, .string _, hrel.later hw, .refl _ _⟩
end Go.Proofs.YtojlhapbngcjkaaGreatDoor
namespace Go.Proofs.YtojlhapbngcjkaaGreatDoor
open Go Go.RowKit
theorem block_of_add (a : Addr) (n : Nat) : (a.add n).block = a.block := by unfold Addr.add; split <;> rfl
theorem add_of_add (a : Addr) (i j : Nat) : (a.add i).add j = a.add (i + j) := by
 unfold Addr.add
 by_cases hi : i = 0 <;> by_cases hj : j = 0 <;> simp [hi, hj, Nat.add_assoc]
def Reads (w : World) (B size : Nat) (A : Option Addr) (n : Nat) (xs : List Value) : Prop :=
 xs.length = n * size ∧ (0 < n → ∃ ad, A = some ad ∧ ad.block < B ∧ ∀ j u, xs[j]? = some u → w.cell? (ad.add j) = some u)
section
variable {w w' : World} {B B' size n : Nat} {A : Option Addr} {xs : List Value}
theorem Reads.at_ {k : Nat} (h : Reads w B 1 A n xs) (hk : k < n) : ∃ ad u, A = some ad ∧ ad.block < B ∧ xs[k]? = some u ∧ w.cell? (ad.add k) = some u := by
 obtain ⟨ad, e, hb, hc⟩ := h.2 (by omega)
 have hl : k < xs.length := by have := h.1; omega
 exact ⟨ad, xs[k], e, hb, List.getElem?_eq_getElem hl, hc k _ (List.getElem?_eq_getElem hl)⟩
theorem Reads.keep (h : Reads w B size A n xs) (hk : ∀ p : Addr, p.block < B → w'.cell? p = w.cell? p) : Reads w' B size A n xs :=
 ⟨h.1, fun hn => by
  obtain ⟨ad, e, hb, hc⟩ := h.2 hn
  exact ⟨ad, e, hb, fun j u hu => (hk _ (by rw [block_of_add]; exact hb)).trans (hc j u hu)⟩⟩
theorem Reads.more (h : Reads w B size A n xs) (hB : B ≤ B') : Reads w B' size A n xs :=
 ⟨h.1, fun hn => by
  obtain ⟨ad, e, hb, hc⟩ := h.2 hn
  exact ⟨ad, e, by omega, hc⟩⟩
theorem Reads.below (h : Reads w B size A n xs) (hb : Below B w w') : Reads w' B size A n xs := h.keep fun _ hp => hb.cell hp
theorem Reads.drew (h : Reads w B size A n xs) : Reads w.drew B size A n xs := h
theorem Reads.drewN (h : Reads w B size A n xs) (k : Nat) : Reads (w.drewN k) B size A n xs := h
theorem Reads.alloc (h : Reads w B size A n xs) (hB : B ≤ w.heap.size) (o : Obj) : Reads (w.alloc o) B size A n xs := h.keep fun p hp => World.cell?_alloc_lt w o p (by omega)
theorem Reads.setCell (h : Reads w B size A n xs) {p : Addr} (hB : B ≤ p.block) (u : Value) : Reads (w.setCell p u) B size A n xs :=
 h.keep fun q hq => World.cell?_setCell_other w p q u (fun e => by subst e; omega)
theorem Reads.cut (h : Reads w B size A n xs) {k cap : Nat} (hk : k ≤ n) (hc : n ≤ cap) :
  Reads w B size (if cap = k then A else A.map (·.add (k * size))) (n - k) (xs.drop (k * size)) := by
 refine ⟨by rw [List.length_drop, h.1, Nat.sub_mul], fun hn => ?_⟩
 obtain ⟨ad, rfl, hb, hcell⟩ := h.2 (by omega)
 rw [if_neg (by omega)]
 refine ⟨ad.add (k * size), rfl, by rw [block_of_add]; exact hb, fun j u hu => ?_⟩
 rw [add_of_add]
 exact hcell _ u (by rw [← hu, List.getElem?_drop])
end
def Blk (w : World) (g : Nat) (t : TypeId) (cs : Array Value) : Prop := w.heap[g]? = some (.cells cs t (0, 0))
section
variable {w w' : World} {g : Nat} {t : TypeId} {cs : Array Value}
theorem Blk.lt (h : Blk w g t cs) : g < w.heap.size := by
 rcases Nat.lt_or_ge g w.heap.size with hlt | hge
 ·exact hlt
 ·unfold Blk at h; rw [Array.getElem?_eq_none hge] at h; cases h
theorem Blk.cell (h : Blk w g t cs) (i : Nat) : w.cell? ⟨g, i, none⟩ = cs[i]? := cell_of_row w g i cs t (0, 0) h
theorem Blk.frozen (h : Blk w g t cs) (i : Nat) : w.frozen? ⟨g, i, none⟩ = false := by
 unfold Blk at h
 simp [World.frozen?, h]
theorem Blk.new (w : World) (t : TypeId) (cs : Array Value) : Blk (w.alloc (.cells cs t)) w.heap.size t cs := heap_alloc_new w _
theorem Blk.drew (h : Blk w g t cs) : Blk w.drew g t cs := h
theorem Blk.drewN (h : Blk w g t cs) (n : Nat) : Blk (w.drewN n) g t cs := h
theorem Blk.alloc (h : Blk w g t cs) (o : Obj) : Blk (w.alloc o) g t cs := (Below.heap_alloc w o g h.lt).trans h
theorem Blk.below {B : Nat} (h : Blk w g t cs) (hb : Below B w w') (hg : g < B) : Blk w' g t cs := (hb.block g hg).trans h
end
end Go.Proofs.YtojlhapbngcjkaaGreatDoor

namespace Go.Proofs.YtojlhapbngcjkaaGreatDoor
open Go Go.RowKit Go.ChangeShapes Go.WideShapes Go.ChangeAt Go.Deep Go.Joins
section
variable {H : Type} {enc : TypeId × Value → H} {P : Program} {w : World} {base : Nat} {spare : Nat → Bool} {held : Bool}
theorem post_of_below {f : Func} {s : ChangeSpec} {apart fresh handsOn again : Bool} {W W' : World} {args : Array Value} {v : Value} {ds gs : List (DataW H)} {before pa pv : List MemPlace}
  (hW : DataW.Whole enc P f.params.toList s.vars apart W args.toList ds gs before)
  (hres : ∀ (b : Nat) (sp : Nat → Bool) (hd : Bool), DataW.TrodAll enc P W' b sp hd f.resultTypes.toList (v.resultList f.resultTypes.size) (s.fn H (ds ++ gs)).results [])
  (hargs : ∀ sp : Nat → Bool, (∀ p ∈ before, sp p.block = true) → DataW.TrodAll enc P W' 0 sp true f.params.toList args.toList (s.fn H (ds ++ gs)).args pa)
  (hvars : ∀ sp : Nat → Bool, (∀ p ∈ before, sp p.block = true) → DataW.TrodVars enc P W' sp s.vars (s.fn H (ds ++ gs)).vars pv)
  (hps : before = pa ++ pv) (hb : Below W.heap.size W W')
  (hok : ∀ (j : Nat) (t : TypeId) (r : Value), f.resultTypes[j]? = some t → (v.resultList f.resultTypes.size)[j]? = some r → Value.okWide P W' .any 0 t r) :
  s.post enc P f apart fresh handsOn again W args v W' := by
 have hlt : ∀ p ∈ before, p.block < W.heap.size := fun p hp => hW.lt p hp
 have hold : ∀ p ∈ before, (fun b => decide (b < W.heap.size)) p.block = true := fun p hp => by simpa using hlt p hp
 refine ⟨ds, gs, before, [], pa, pv, hW, hres _ _ _, hargs _ hold, hvars _ hold, World.keptBut_mono (fun p hp => ⟨hp, ?_⟩) (hb.frame (· ∈ before)), fun _ => ?_⟩
 ·rw [hps, List.mem_append] at hp
  exact Or.inr hp
 ·obtain ⟨_, _, _, _, _, hz, hn⟩ := hW
  refine ⟨hok, _, _, ([] ++ pa) ++ pv, ⟨[] ++ pa, pv, trodAll_append (hargs _ (fun _ _ => rfl)) (hres _ _ _), hvars _ (fun _ _ => rfl), rfl, ?_, ?_⟩, ?_⟩
  ·intro b off hp
   have hin : MemPlace.cell b off ∈ before := by rw [hps]; simpa using hp
   rw [hb.frozen (hlt _ hin)]
   exact hz b off hin
  ·intro ha
   have := hn ha
   rw [hps] at this
   simpa using this
  ·intro p hp _
   rw [hps]
   simpa using hp
end
end Go.Proofs.YtojlhapbngcjkaaGreatDoor

noncomputable section
namespace Go.Proofs.YtojlhapbngcjkaaGreatDoor
open Go Go.RowKit Go.ChangeShapes Go.WideShapes Go.ChangeAt Go.Deep Go.Joins
def frW (w : World) : Nat → Option Obj := fun c => w.heap[c]?
def VRC (fr : Nat → Option Obj) (l cs : List Value) : Prop := l.length = cs.length ∧ ∀ (i : Nat) (v v' : Value), l[i]? = some v → cs[i]? = some v' → VR0 fr v v'
theorem VRC.one {fr : Nat → Option Obj} {v v' : Value} (h : VR0 fr v v') : VRC fr [v] [v'] := ⟨rfl, fun i a b ha hb => by
 cases i with
 | zero => simp at ha hb; subst ha hb; exact h
 | succ i => simp at ha⟩
theorem VRC.append {fr : Nat → Option Obj} {l m cs ds : List Value} (h : VRC fr l cs) (k : VRC fr m ds) : VRC fr (l ++ m) (cs ++ ds) := by
 refine ⟨by rw [List.length_append, List.length_append, h.1, k.1], fun i a b ha hb => ?_⟩
 rcases Nat.lt_or_ge i l.length with hi | hi
 ·rw [List.getElem?_append_left hi] at ha
  rw [List.getElem?_append_left (by rw [← h.1]; exact hi)] at hb
  exact h.2 i a b ha hb
 ·rw [List.getElem?_append_right hi] at ha
  rw [List.getElem?_append_right (by rw [← h.1]; exact hi), ← h.1] at hb
  exact k.2 _ a b ha hb
theorem VRC.step {fr : Nat → Option Obj} {l m cs : List Value} {o k : Nat} (h : VRC fr l ((cs.drop o).take k)) (r : VRC fr m (cs.drop (o + k))) : VRC fr (l ++ m) (cs.drop o) := by
 have := h.append r
 rwa [← List.drop_drop, List.take_append_drop] at this
theorem VRC.next {fr : Nat → Option Obj} {l m cs : List Value} {o k : Nat} (h : VRC fr l ((cs.drop o).take k)) (r : VRC fr m (cs.drop (o + l.length))) : VRC fr (l ++ m) (cs.drop o) := by
 have e : (cs.drop o).take k = (cs.drop o).take l.length := by
  have h1 := h.1
  rw [List.length_take] at h1
  rcases Nat.le_total k (cs.drop o).length with hk | hk
  ·rw [show l.length = k by omega]
  ·rw [List.take_of_length_le hk, List.take_of_length_le (by omega)]
 rw [e] at h
 exact h.step r
theorem VRC.done {fr : Nat → Option Obj} {cs : List Value} {n : Nat} (h : cs.length = n) : VRC fr [] (cs.drop n) := by
 rw [List.drop_eq_nil_of_le (by omega)]
 exact ⟨rfl, fun i a b ha => by simp at ha⟩
def In64 (n : Int) : Prop := -9223372036854775808 ≤ n ∧ n < 9223372036854775808
section
variable {P : Program} {w : World}
theorem cell_at {a : Addr} {i : Nat} {v : Value} (h : w.cell? (a.add i) = some v) : ∃ cs t fz, w.heap[a.block]? = some (.cells cs t fz) ∧ cs[a.off + i]? = some v ∧ (i = 0 → a.spot = none) := by
 unfold World.cell? at h
 have hb : (a.add i).block = a.block := by unfold Addr.add; split <;> rfl
 rw [hb] at h
 split at h
 ·rename_i cs t fz hc
  refine ⟨cs, t, fz, hc, ?_, fun h0 => ?_⟩
  ·split at h
   ·cases h
   ·have : (a.add i).off = a.off + i := by unfold Addr.add; split <;> simp_all
    rw [this] at h
    exact h
  ·subst h0
   split at h
   ·cases h
   ·rename_i hs
    have : (a.add 0) = a := rfl
    rw [this] at hs
    cases hsp : a.spot with
    | none => rfl
    | some s => rw [hsp] at hs; simp at hs
 ·cases h
theorem VRC.agg {l : List Value} {c : Array Value} (h : VRC (frW w) l c.toList) : VR0 (frW w) (.agg l.toArray) (.agg c) :=
 .agg (by simp [h.1]) fun i v v' a b => h.2 i v v' (by simpa using a) (by simpa using b)
theorem Pure.at {f : FuncId} {args : List Value} {Post : Value → Prop} (h : Pure P f args Post) (hg : ∀ g cs, glob g = some cs → ∃ t fz, w.heap[g]? = some (.cells cs t fz)) (hn : args.all nl = true) {args' : List Value} (hargs : VRC (frW w) args args') :
  Calls P f args'.toArray w fun e w' => ∃ v v', Post v ∧ e = .returned v' ∧ (closed v = true → v' = v) ∧ Below w.heap.size w w' := by
 refine (h.call hn (W := ⟨w, fun _ => False, frW w, []⟩) (ρ := ⟨fun _ => none, frW w, hg⟩) (hp := .e) (nx := 0) (w := w) ⟨fun b x hb => (by cases hb), fun b o c s z ho => (by cases ho), fun b b' x x' o o' ho => (by cases ho), fun b _ => rfl, ⟨rfl, rfl, rfl, Nat.le_refl _, fun _ _ => rfl⟩, fun c ob hc => hc, fun b o c s z ho => (by cases ho), fun c ob hc => .inl hc⟩ (.of hargs.1 fun i v v' a b => VR0.lift (ρ := ⟨fun _ => none, frW w, hg⟩) (hargs.2 i v v' a b))).mono ?_
 rintro e w' ⟨v, v', ρ', hP, rfl, hv, _, _, _, hb⟩
 exact ⟨v, v', hP, rfl, fun hc => closed_eq hc hv, hb⟩
end
end Go.Proofs.YtojlhapbngcjkaaGreatDoor

noncomputable section
namespace Go.Proofs.YtojlhapbngcjkaaGreatDoor
open Go Go.RowKit Go.ChangeShapes Go.WideShapes Go.ChangeAt Go.Deep Go.Joins
set_option maxRecDepth 100000
instance : Enc Vec3 where
 sz := 3
 cells p := [.int .i64 p.x, .int .i64 p.y, .int .i64 p.z]
 len _ := rfl
 nl p := by intro v hv; simp at hv; rcases hv with rfl | rfl | rfl <;> rfl
instance : Enc Part where
 sz := 18
 cells := partC
 len _ := rfl
 nl p := by intro v hv; simp [partC] at hv; rcases hv with rfl | rfl | rfl | rfl | rfl | rfl | rfl | rfl | rfl | rfl | rfl | rfl | rfl | rfl | rfl | rfl | rfl | rfl <;> rfl
def InPt (p : Pt) : Prop := In64 p.x ∧ In64 p.y
def InV (p : Vec3) : Prop := In64 p.x ∧ In64 p.y ∧ In64 p.z
structure InPart (p : Part) : Prop where
 rev : In64 p.rev
 kind : In64 p.kind
 thick : In64 p.thick
 outer : ∀ x ∈ p.outer, InPt x
 holes : ∀ l ∈ p.holes, ∀ x ∈ l, InPt x
 long : In64 p.long
 mass : In64 p.mass
 centre : InV p.centre
 at_ : InV p.at_
 turn : In64 p.turn
 id : p.id.size ≤ maxLen
 node : p.node.size ≤ maxLen
 grade : p.grade.size ≤ maxLen
 sect : p.sect.size ≤ maxLen
variable {w : World}
end Go.Proofs.YtojlhapbngcjkaaGreatDoor

noncomputable section
namespace Go.Proofs.YtojlhapbngcjkaaGreatDoor
open Go Go.RowKit
set_option maxRecDepth 100000
set_option maxHeartbeats 8000000
def renItoa : Shelf.Ren := ⟨fun x => if x = 129 then 223 else if x = 171 then 56 else if x = 243 then 112 else if x = 246 then 164 else if x = 283 then 169 else if x = 284 then 170 else if x = 285 then 171 else if x = 286 then 172 else if x = 317 then 222 else if x = 318 then 224 else if x = 319 then 225 else if x = 320 then 226 else if x = 337 then 252 else if x = 338 then 253 else x, fun x => if x = 0 then 0 else if x = 2 then 2 else if x = 3 then 3 else if x = 4 then 4 else if x = 5 then 5 else if x = 9 then 9 else if x = 20 then 20 else if x = 37 then 76 else if x = 46 then 206 else if x = 51 then 160 else if x = 53 then 145 else if x = 171 then 257 else if x = 173 then 260 else if x = 212 then 318 else if x = 213 then 319 else if x = 232 then 360 else if x = 233 then 361 else x, fun x => if x = 17 then 6 else if x = 18 then 7 else if x = 19 then 8 else x⟩
theorem laysItoa : LaysM.n171 Tryz.prog renItoa where
 mixed := by kernel_rfl
 f129 := by kernel_rfl
 f171 := by kernel_rfl
 f243 := by kernel_rfl
 f246 := by kernel_rfl
 f283 := by kernel_rfl
 f284 := by kernel_rfl
 f285 := by kernel_rfl
 f286 := by kernel_rfl
 f317 := by kernel_rfl
 f318 := by kernel_rfl
 f319 := by kernel_rfl
 f320 := by kernel_rfl
 f337 := by kernel_rfl
 f338 := by kernel_rfl
 t0 := by kernel_rfl
 a0 := fun w => by kernel_rfl
 z0 := fun w => by kernel_rfl
 v0 := fun w => by kernel_rfl
 t2 := by kernel_rfl
 a2 := fun w => by kernel_rfl
 z2 := fun w => by kernel_rfl
 v2 := fun w => by kernel_rfl
 t3 := by kernel_rfl
 a3 := fun w => by kernel_rfl
 z3 := fun w => by kernel_rfl
 v3 := fun w => by kernel_rfl
 t4 := by kernel_rfl
 a4 := fun w => by kernel_rfl
 z4 := fun w => by kernel_rfl
 v4 := fun w => by kernel_rfl
 t5 := by kernel_rfl
 a5 := fun w => by kernel_rfl
 z5 := fun w => by kernel_rfl
 v5 := fun w => by kernel_rfl
 t9 := by kernel_rfl
 a9 := fun w => by kernel_rfl
 z9 := fun w => by kernel_rfl
 v9 := fun w => by kernel_rfl
 t20 := by kernel_rfl
 a20 := fun w => by kernel_rfl
 z20 := fun w => by kernel_rfl
 v20 := fun w => by kernel_rfl
 t37 := by kernel_rfl
 a37 := fun w => by kernel_rfl
 z37 := fun w => by kernel_rfl
 v37 := fun w => by kernel_rfl
 t46 := by kernel_rfl
 a46 := fun w => by kernel_rfl
 z46 := fun w => by kernel_rfl
 v46 := fun w => by kernel_rfl
 t51 := by kernel_rfl
 a51 := fun w => by kernel_rfl
 z51 := fun w => by kernel_rfl
 v51 := fun w => by kernel_rfl
 t53 := by kernel_rfl
 a53 := fun w => by kernel_rfl
 z53 := fun w => by kernel_rfl
 v53 := fun w => by kernel_rfl
 t171 := by kernel_rfl
 a171 := fun w => by kernel_rfl
 z171 := fun w => by kernel_rfl
 v171 := fun w => by kernel_rfl
 t173 := by kernel_rfl
 a173 := fun w => by kernel_rfl
 z173 := fun w => by kernel_rfl
 v173 := fun w => by kernel_rfl
 t212 := by kernel_rfl
 a212 := fun w => by kernel_rfl
 z212 := fun w => by kernel_rfl
 v212 := fun w => by kernel_rfl
 t213 := by kernel_rfl
 a213 := fun w => by kernel_rfl
 z213 := fun w => by kernel_rfl
 t232 := by kernel_rfl
 a232 := fun w => by kernel_rfl
 z232 := fun w => by kernel_rfl
 v232 := fun w => by kernel_rfl
 t233 := by kernel_rfl
 a233 := fun w => by kernel_rfl
 z233 := fun w => by kernel_rfl
 v233 := fun w => by kernel_rfl
 g17 := by kernel_rfl
 g18 := by kernel_rfl
 g19 := by kernel_rfl
 i0 := by kernel_rfl
 i2 := by kernel_rfl
 i3 := by kernel_rfl
 i4 := by kernel_rfl
 i5 := by kernel_rfl
 i9 := by kernel_rfl
 i20 := by kernel_rfl
 i37 := by kernel_rfl
 i46 := by kernel_rfl
 i51 := by kernel_rfl
 i53 := by kernel_rfl
 i171 := by kernel_rfl
 i173 := by kernel_rfl
 i212 := by kernel_rfl
 i232 := by kernel_rfl
 i233 := by kernel_rfl
 m17 := by kernel_rfl
 m18 := by kernel_rfl
 m19 := by kernel_rfl
def decB (n : Int) : ByteArray := ⟨(Lib.itoa n).toArray⟩
theorem decB_size {n : Int} (h : In64 n) : (decB n).size ≤ 21 := by
 have := Lib.itoa_length_le n (by unfold In64 at h; omega) (by unfold In64 at h; omega)
 simpa [decB, ByteArray.size] using this
theorem below_grown (w : World) (k : Nat) (os : Array Obj) : Below w.heap.size w (Sort.grow (w.drewN k) os) := by
 refine ⟨rfl, rfl, rfl, ?_, fun b hb => ?_⟩
 ·show _ ≤ (w.heap ++ os).size
  rw [Array.size_append]
  omega
 ·show (w.heap ++ os)[b]? = _
  rw [Array.getElem?_append_left hb]
def c_itoa (args : List Value) (Post : Value → Prop) : Prop := ∃ n : Int, args = [.int .i64 n] ∧ In64 n ∧ Post (.string (decB n))
theorem ok_itoa : EntOk Tryz.prog ⟨56, c_itoa⟩ := by
 rintro args Post ⟨n, rfl, hn, h⟩
 intro W ρ w args' hrel hargs
 cases hargs with
 | cons hv hnil =>
 cases hnil
 cases hv
 have hg : glob 6 = some ((Lib.pow10Tab.map fun z => Value.int .u64 z).toArray) := by kernel_rfl
 obtain ⟨t, fz, hfr⟩ := ρ.gl _ _ hg
 have hh := hrel.frz _ _ hfr
 have htab : Lib.TabIs Tryz.prog w "internal/strconv.uint64pow10" .u64 Lib.pow10Tab := by
  unfold Lib.TabIs World.var?
  rw [show Tryz.prog.globalNamed "internal/strconv.uint64pow10" = some 6 by kernel_rfl]
  simp only [Option.bind_some, hh]
 refine (Any.strconv_Itoa laysItoa n (by unfold In64 at hn; omega) (by unfold In64 at hn; omega) w htab).mono ?_
 rintro e w' ⟨rfl, k, os, rfl⟩
 exact ⟨_, .e, 0, _, ρ, h, rfl, .string _, hrel.later (below_grown w k os), .refl _ _⟩
def c_text (args : List Value) (Post : Value → Prop) : Prop := c_itoa args Post
theorem e_text (n : Int) (H : Code → List Fr → AS → Prop) (Post : Value → Prop) : vcP Tryz.prog (tabCall [⟨56, c_itoa⟩] noCall) 22 [] [.int .i64 n] H Post = (True ∧ True ∧ ∃ (n_1 : Int), eqL [Value.int IntKind.i64 n] [Value.int IntKind.i64 n_1] ∧ (-9223372036854775808 ≤ n_1 ∧ n_1 < 9223372036854775808) ∧ True ∧ True ∧ Post (Value.string (decB n_1))) := by kernel_rfl
theorem ok_text : EntOk Tryz.prog ⟨22, c_text⟩ := by
 rintro args Post ⟨n, rfl, hn, h⟩
 refine pure_P (tabCall_ok (by
  intro e he
  simp only [List.mem_cons, List.not_mem_nil, or_false] at he
  subst he
  exact ok_itoa) noCall_ok) mixed (by kernel_rfl) (by kernel_rfl) _ (e_text n _ _) ?_
 simp only [true_and]
 exact ⟨n, rfl, hn, h⟩
structure Node3 where
 id : ByteArray
 kind : Int
 parent : ByteArray
 deriving DecidableEq
def node3C (p : Node3) : List Value := [.string p.id, .int .i64 p.kind, .string p.parent]
instance : Enc Node3 where
 sz := 3
 cells := node3C
 len _ := rfl
 nl p := fun v hv => List.all_eq_true.1 (show (node3C p).all nl1 = true from rfl) v hv
theorem Node3.ext' {p q : Node3} (h0 : p.id = q.id) (h1 : p.kind = q.kind) (h2 : p.parent = q.parent) : p = q := by
 cases p; cases q
 simp only at h0 h1 h2
 simp only [h0, h1, h2]
structure Seam6 where
 id : ByteArray
 a : ByteArray
 b : ByteArray
 kind : Int
 long : Int
 cls : Int
 deriving DecidableEq
def seam6C (p : Seam6) : List Value := [.string p.id, .string p.a, .string p.b, .int .i64 p.kind, .int .i64 p.long, .int .i64 p.cls]
instance : Enc Seam6 where
 sz := 6
 cells := seam6C
 len _ := rfl
 nl p := fun v hv => List.all_eq_true.1 (show (seam6C p).all nl1 = true from rfl) v hv
theorem Seam6.ext' {p q : Seam6} (h0 : p.id = q.id) (h1 : p.a = q.a) (h2 : p.b = q.b) (h3 : p.kind = q.kind) (h4 : p.long = q.long) (h5 : p.cls = q.cls) : p = q := by
 cases p; cases q
 simp only at h0 h1 h2 h3 h4 h5
 simp only [h0, h1, h2, h3, h4, h5]
structure Pack5 where
 id : ByteArray
 block : ByteArray
 parts : List ByteArray
 hours : Int
 after : List ByteArray
 deriving DecidableEq
def pack5C (p : Pack5) : List Value := [.string p.id, .string p.block, tree 1 p.parts.length (encL p.parts), .int .i64 p.hours, tree 1 p.after.length (encL p.after)]
instance : Enc Pack5 where
 sz := 5
 cells := pack5C
 len _ := rfl
 nl p := fun v hv => List.all_eq_true.1 (show (pack5C p).all nl1 = true from rfl) v hv
theorem Pack5.ext' {p q : Pack5} (h0 : p.id = q.id) (h1 : p.block = q.block) (h2 : p.parts = q.parts) (h3 : p.hours = q.hours) (h4 : p.after = q.after) : p = q := by
 cases p; cases q
 simp only at h0 h1 h2 h3 h4
 simp only [h0, h1, h2, h3, h4]
structure Need3 where
 kind : Int
 block : ByteArray
 on : ByteArray
 deriving DecidableEq
def need3C (p : Need3) : List Value := [.int .i64 p.kind, .string p.block, .string p.on]
instance : Enc Need3 where
 sz := 3
 cells := need3C
 len _ := rfl
 nl p := fun v hv => List.all_eq_true.1 (show (need3C p).all nl1 = true from rfl) v hv
theorem Need3.ext' {p q : Need3} (h0 : p.kind = q.kind) (h1 : p.block = q.block) (h2 : p.on = q.on) : p = q := by
 cases p; cases q
 simp only at h0 h1 h2
 simp only [h0, h1, h2]
structure Edit where
 kind : Int
 id : ByteArray
 til : ByteArray
 node : Node3
 part : Part
 seam : Seam6
 pack : Pack5
 need : Need3
 deriving DecidableEq
def editC (p : Edit) : List Value := [.int .i64 p.kind, .string p.id, .string p.til, .string p.node.id, .int .i64 p.node.kind, .string p.node.parent, .string p.part.id, .int .i64 p.part.rev, .int .i64 p.part.kind, .string p.part.node, .string p.part.grade, .int .i64 p.part.thick, tree 2 p.part.outer.length (encL p.part.outer), tree 1 p.part.holes.length (encL p.part.holes), .string p.part.sect, .int .i64 p.part.long, .int .i64 p.part.mass, .int .i64 p.part.centre.x, .int .i64 p.part.centre.y, .int .i64 p.part.centre.z, .int .i64 p.part.at_.x, .int .i64 p.part.at_.y, .int .i64 p.part.at_.z, .int .i64 p.part.turn, .string p.seam.id, .string p.seam.a, .string p.seam.b, .int .i64 p.seam.kind, .int .i64 p.seam.long, .int .i64 p.seam.cls, .string p.pack.id, .string p.pack.block, tree 1 p.pack.parts.length (encL p.pack.parts), .int .i64 p.pack.hours, tree 1 p.pack.after.length (encL p.pack.after), .int .i64 p.need.kind, .string p.need.block, .string p.need.on]
instance : Enc Edit where
 sz := 38
 cells := editC
 len _ := rfl
 nl p := fun v hv => List.all_eq_true.1 (show (editC p).all nl1 = true from rfl) v hv
theorem Edit.ext' {p q : Edit} (h0 : p.kind = q.kind) (h1 : p.id = q.id) (h2 : p.til = q.til) (h3 : p.node = q.node) (h4 : p.part = q.part) (h5 : p.seam = q.seam) (h6 : p.pack = q.pack) (h7 : p.need = q.need) : p = q := by
 cases p; cases q
 simp only at h0 h1 h2 h3 h4 h5 h6 h7
 simp only [h0, h1, h2, h3, h4, h5, h6, h7]
structure Order2 where
 id : ByteArray
 edits : List Edit
 deriving DecidableEq
def order2C (p : Order2) : List Value := [.string p.id, tree 38 p.edits.length (encL p.edits)]
instance : Enc Order2 where
 sz := 2
 cells := order2C
 len _ := rfl
 nl p := fun v hv => List.all_eq_true.1 (show (order2C p).all nl1 = true from rfl) v hv
theorem Order2.ext' {p q : Order2} (h0 : p.id = q.id) (h1 : p.edits = q.edits) : p = q := by
 cases p; cases q
 simp only at h0 h1
 simp only [h0, h1]
structure Sheet6 where
 id : ByteArray
 grade : ByteArray
 thick : Int
 long : Int
 width : Int
 heat : ByteArray
 deriving DecidableEq
def sheet6C (p : Sheet6) : List Value := [.string p.id, .string p.grade, .int .i64 p.thick, .int .i64 p.long, .int .i64 p.width, .string p.heat]
instance : Enc Sheet6 where
 sz := 6
 cells := sheet6C
 len _ := rfl
 nl p := fun v hv => List.all_eq_true.1 (show (sheet6C p).all nl1 = true from rfl) v hv
theorem Sheet6.ext' {p q : Sheet6} (h0 : p.id = q.id) (h1 : p.grade = q.grade) (h2 : p.thick = q.thick) (h3 : p.long = q.long) (h4 : p.width = q.width) (h5 : p.heat = q.heat) : p = q := by
 cases p; cases q
 simp only at h0 h1 h2 h3 h4 h5
 simp only [h0, h1, h2, h3, h4, h5]
structure Bar5 where
 id : ByteArray
 sect : ByteArray
 grade : ByteArray
 long : Int
 heat : ByteArray
 deriving DecidableEq
def bar5C (p : Bar5) : List Value := [.string p.id, .string p.sect, .string p.grade, .int .i64 p.long, .string p.heat]
instance : Enc Bar5 where
 sz := 5
 cells := bar5C
 len _ := rfl
 nl p := fun v hv => List.all_eq_true.1 (show (bar5C p).all nl1 = true from rfl) v hv
theorem Bar5.ext' {p q : Bar5} (h0 : p.id = q.id) (h1 : p.sect = q.sect) (h2 : p.grade = q.grade) (h3 : p.long = q.long) (h4 : p.heat = q.heat) : p = q := by
 cases p; cases q
 simp only at h0 h1 h2 h3 h4
 simp only [h0, h1, h2, h3, h4]
structure Spot where
 part : ByteArray
 at_ : Pt
 turn : Int
 flip : Bool
 deriving DecidableEq
def spotC (p : Spot) : List Value := [.string p.part, .int .i64 p.at_.x, .int .i64 p.at_.y, .int .i64 p.turn, .bool p.flip]
instance : Enc Spot where
 sz := 5
 cells := spotC
 len _ := rfl
 nl p := fun v hv => List.all_eq_true.1 (show (spotC p).all nl1 = true from rfl) v hv
theorem Spot.ext' {p q : Spot} (h0 : p.part = q.part) (h1 : p.at_ = q.at_) (h2 : p.turn = q.turn) (h3 : p.flip = q.flip) : p = q := by
 cases p; cases q
 simp only at h0 h1 h2 h3
 simp only [h0, h1, h2, h3]
structure Nest3 where
 sheet : ByteArray
 gap : Int
 spots : List Spot
 deriving DecidableEq
def nest3C (p : Nest3) : List Value := [.string p.sheet, .int .i64 p.gap, tree 5 p.spots.length (encL p.spots)]
instance : Enc Nest3 where
 sz := 3
 cells := nest3C
 len _ := rfl
 nl p := fun v hv => List.all_eq_true.1 (show (nest3C p).all nl1 = true from rfl) v hv
theorem Nest3.ext' {p q : Nest3} (h0 : p.sheet = q.sheet) (h1 : p.gap = q.gap) (h2 : p.spots = q.spots) : p = q := by
 cases p; cases q
 simp only at h0 h1 h2
 simp only [h0, h1, h2]
structure Saw3 where
 bar : ByteArray
 kerf : Int
 parts : List ByteArray
 deriving DecidableEq
def saw3C (p : Saw3) : List Value := [.string p.bar, .int .i64 p.kerf, tree 1 p.parts.length (encL p.parts)]
instance : Enc Saw3 where
 sz := 3
 cells := saw3C
 len _ := rfl
 nl p := fun v hv => List.all_eq_true.1 (show (saw3C p).all nl1 = true from rfl) v hv
theorem Saw3.ext' {p q : Saw3} (h0 : p.bar = q.bar) (h1 : p.kerf = q.kerf) (h2 : p.parts = q.parts) : p = q := by
 cases p; cases q
 simp only at h0 h1 h2
 simp only [h0, h1, h2]
structure Weig where
 block : ByteArray
 at_ : Int
 mass : Int
 centre : Vec3
 sigma : Int
 parts : List ByteArray
 deriving DecidableEq
def weigC (p : Weig) : List Value := [.string p.block, .int .i64 p.at_, .int .i64 p.mass, .int .i64 p.centre.x, .int .i64 p.centre.y, .int .i64 p.centre.z, .int .i64 p.sigma, tree 1 p.parts.length (encL p.parts)]
instance : Enc Weig where
 sz := 8
 cells := weigC
 len _ := rfl
 nl p := fun v hv => List.all_eq_true.1 (show (weigC p).all nl1 = true from rfl) v hv
theorem Weig.ext' {p q : Weig} (h0 : p.block = q.block) (h1 : p.at_ = q.at_) (h2 : p.mass = q.mass) (h3 : p.centre = q.centre) (h4 : p.sigma = q.sigma) (h5 : p.parts = q.parts) : p = q := by
 cases p; cases q
 simp only at h0 h1 h2 h3 h4 h5
 simp only [h0, h1, h2, h3, h4, h5]
structure Hook4 where
 crane : ByteArray
 at_ : Pt
 radius : Int
 deriving DecidableEq
def hook4C (p : Hook4) : List Value := [.string p.crane, .int .i64 p.at_.x, .int .i64 p.at_.y, .int .i64 p.radius]
instance : Enc Hook4 where
 sz := 4
 cells := hook4C
 len _ := rfl
 nl p := fun v hv => List.all_eq_true.1 (show (hook4C p).all nl1 = true from rfl) v hv
theorem Hook4.ext' {p q : Hook4} (h0 : p.crane = q.crane) (h1 : p.at_ = q.at_) (h2 : p.radius = q.radius) : p = q := by
 cases p; cases q
 simp only at h0 h1 h2
 simp only [h0, h1, h2]
structure Lift2 where
 block : ByteArray
 hooks : List Hook4
 deriving DecidableEq
def lift2C (p : Lift2) : List Value := [.string p.block, tree 4 p.hooks.length (encL p.hooks)]
instance : Enc Lift2 where
 sz := 2
 cells := lift2C
 len _ := rfl
 nl p := fun v hv => List.all_eq_true.1 (show (lift2C p).all nl1 = true from rfl) v hv
theorem Lift2.ext' {p q : Lift2} (h0 : p.block = q.block) (h1 : p.hooks = q.hooks) : p = q := by
 cases p; cases q
 simp only at h0 h1
 simp only [h0, h1]
structure Span2 where
 a : Int
 b : Int
 deriving DecidableEq
def span2C (p : Span2) : List Value := [.int .i64 p.a, .int .i64 p.b]
instance : Enc Span2 where
 sz := 2
 cells := span2C
 len _ := rfl
 nl p := fun v hv => List.all_eq_true.1 (show (span2C p).all nl1 = true from rfl) v hv
theorem Span2.ext' {p q : Span2} (h0 : p.a = q.a) (h1 : p.b = q.b) : p = q := by
 cases p; cases q
 simp only at h0 h1
 simp only [h0, h1]
structure Permit3 where
 id : ByteArray
 kind : Int
 time : Span2
 deriving DecidableEq
def permit3C (p : Permit3) : List Value := [.string p.id, .int .i64 p.kind, .int .i64 p.time.a, .int .i64 p.time.b]
instance : Enc Permit3 where
 sz := 4
 cells := permit3C
 len _ := rfl
 nl p := fun v hv => List.all_eq_true.1 (show (permit3C p).all nl1 = true from rfl) v hv
theorem Permit3.ext' {p q : Permit3} (h0 : p.id = q.id) (h1 : p.kind = q.kind) (h2 : p.time = q.time) : p = q := by
 cases p; cases q
 simp only at h0 h1 h2
 simp only [h0, h1, h2]
structure Event where
 kind : Int
 at_ : Int
 item : ByteArray
 of_ : ByteArray
 by_ : ByteArray
 n : Int
 pass : Bool
 order : Order2
 sheet : Sheet6
 bar : Bar5
 nest : Nest3
 saw : Saw3
 weig : Weig
 lift : Lift2
 permit : Permit3
 deriving DecidableEq
def eventC (p : Event) : List Value := [.int .i64 p.kind, .int .i64 p.at_, .string p.item, .string p.of_, .string p.by_, .int .i64 p.n, .bool p.pass, .string p.order.id, tree 38 p.order.edits.length (encL p.order.edits), .string p.sheet.id, .string p.sheet.grade, .int .i64 p.sheet.thick, .int .i64 p.sheet.long, .int .i64 p.sheet.width, .string p.sheet.heat, .string p.bar.id, .string p.bar.sect, .string p.bar.grade, .int .i64 p.bar.long, .string p.bar.heat, .string p.nest.sheet, .int .i64 p.nest.gap, tree 5 p.nest.spots.length (encL p.nest.spots), .string p.saw.bar, .int .i64 p.saw.kerf, tree 1 p.saw.parts.length (encL p.saw.parts), .string p.weig.block, .int .i64 p.weig.at_, .int .i64 p.weig.mass, .int .i64 p.weig.centre.x, .int .i64 p.weig.centre.y, .int .i64 p.weig.centre.z, .int .i64 p.weig.sigma, tree 1 p.weig.parts.length (encL p.weig.parts), .string p.lift.block, tree 4 p.lift.hooks.length (encL p.lift.hooks), .string p.permit.id, .int .i64 p.permit.kind, .int .i64 p.permit.time.a, .int .i64 p.permit.time.b]
instance : Enc Event where
 sz := 40
 cells := eventC
 len _ := rfl
 nl p := fun v hv => List.all_eq_true.1 (show (eventC p).all nl1 = true from rfl) v hv
theorem Event.ext' {p q : Event} (h0 : p.kind = q.kind) (h1 : p.at_ = q.at_) (h2 : p.item = q.item) (h3 : p.of_ = q.of_) (h4 : p.by_ = q.by_) (h5 : p.n = q.n) (h6 : p.pass = q.pass) (h7 : p.order = q.order) (h8 : p.sheet = q.sheet) (h9 : p.bar = q.bar) (h10 : p.nest = q.nest) (h11 : p.saw = q.saw) (h12 : p.weig = q.weig) (h13 : p.lift = q.lift) (h14 : p.permit = q.permit) : p = q := by
 cases p; cases q
 simp only at h0 h1 h2 h3 h4 h5 h6 h7 h8 h9 h10 h11 h12 h13 h14
 simp only [h0, h1, h2, h3, h4, h5, h6, h7, h8, h9, h10, h11, h12, h13, h14]
abbrev evK (k : Int) (x : Event) : List Value := .int .i64 k :: (eventC x).tail
structure Design6 where
 hull : ByteArray
 nodes : List Node3
 parts : List Part
 seams : List Seam6
 packs : List Pack5
 needs : List Need3
 deriving DecidableEq
def design6C (p : Design6) : List Value := [.string p.hull, tree 3 p.nodes.length (encL p.nodes), tree 18 p.parts.length (encL p.parts), tree 6 p.seams.length (encL p.seams), tree 5 p.packs.length (encL p.packs), tree 3 p.needs.length (encL p.needs)]
abbrev design6V (p : Design6) : Value := .agg (design6C p).toArray
instance : Enc Design6 where
 sz := 6
 cells := design6C
 len _ := rfl
 nl p := fun v hv => List.all_eq_true.1 (show (design6C p).all nl1 = true from rfl) v hv
end Go.Proofs.YtojlhapbngcjkaaGreatDoor
