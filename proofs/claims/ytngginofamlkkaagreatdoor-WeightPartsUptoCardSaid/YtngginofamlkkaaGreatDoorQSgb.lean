/-
  Put together out of several texts, each in its own namespace's block. Conditions: as each theorem states them.
-/
import Derived.Test.YtngginofamlkkaaGreatDoorQEvn
import Derived.KernelRfl
import Derived.Test.YtngginofamlkkaaGreatDoorProg
import Derived.Shelf.Slices.Clone
import Derived.Handy
import Derived.Below
import Derived.Laws.OwnMore
import Derived.Deep.AppendLies
import Derived.Deep.Draws
import Derived.Laws.Rows
import Derived.Lib.Hide
import Derived.Lib.SmallJoins
import Derived.Deep.Slices
import Derived.Deep.Fields
import Derived.ChangeSame
import Derived.ProofKit
import Derived.LaidMore
import Derived.OpenShut
import Derived.Stop.Joined
import Derived.Test.YtngginofamlkkaaGreatDoorChecked
noncomputable section
namespace Go.Proofs.YtngginofamlkkaaGreatDoor
open Go Go.RowKit
set_option maxRecDepth 100000
set_option maxHeartbeats 8000000
def chunks (sz n : Nat) (l : List Value) : Array Value :=
 bif sz.beq 1 then (l.take n).toArray else ((List.range n).map fun i => Value.agg ((l.drop (i * sz)).take sz).toArray).toArray
theorem chunks_size {sz n : Nat} {l : List Value} (h : n * sz ≤ l.length) : (chunks sz n l).size = n := by
 unfold chunks
 cases hs : sz.beq 1 with
 | true =>
  have := Nat.eq_of_beq_eq_true hs
  subst this
  simp
  omega
 | false => simp
theorem chunks_get {sz n : Nat} {l : List Value} (h : n * sz ≤ l.length) (hl : NLs l) {i : Nat} {u : Value} (hu : (chunks sz n l)[i]? = some u) : i < n ∧ u.cells.size = sz ∧ ∀ (j : Nat) (v : Value), u.cells[j]? = some v → j < sz ∧ l[i * sz + j]? = some v := by
 unfold chunks at hu
 cases hs : sz.beq 1 with
 | true =>
  have := Nat.eq_of_beq_eq_true hs
  subst this
  rw [hs, cond_true] at hu
  have hu' : (l.take n)[i]? = some u := by simpa using hu
  rw [List.getElem?_take] at hu'
  split at hu'
  case isFalse => cases hu'
  rename_i hi
  have hnl := hl u (List.mem_of_getElem? hu')
  have hc : u.cells = #[u] := by cases u <;> first | rfl | cases hnl
  refine ⟨hi, by rw [hc]; rfl, fun j v hv => ?_⟩
  rw [hc] at hv
  cases j with
  | zero => simp at hv; subst hv; exact ⟨by omega, by simpa using hu'⟩
  | succ j => simp at hv
 | false =>
  rw [hs, cond_false] at hu
  have hu' : ((List.range n).map fun i => Value.agg ((l.drop (i * sz)).take sz).toArray)[i]? = some u := by simpa using hu
  rw [List.getElem?_map] at hu'
  have hi : i < n := by
   rcases Nat.lt_or_ge i n with h' | h'
   ·exact h'
   ·rw [List.getElem?_eq_none (by simpa using h')] at hu'; cases hu'
  rw [List.getElem?_range hi] at hu'
  cases hu'
  have hroom := mul_room hi h
  refine ⟨hi, by simp [Value.cells]; omega, fun j v hv => ?_⟩
  have hv' : ((l.drop (i * sz)).take sz)[j]? = some v := by simpa [Value.cells] using hv
  rw [List.getElem?_take] at hv'
  split at hv'
  ·rename_i hj
   rw [List.getElem?_drop] at hv'
   exact ⟨hj, hv'⟩
  ·cases hv'
def Place.freeze (ρ : Place) (c : Nat) (ob : Obj) : Place := ⟨ρ.pl, fun k => match ρ.fr k with | some o => some o | none => if k = c then some ob else none, fun g cs h => by
 obtain ⟨t, fz, hc⟩ := ρ.gl g cs h
 exact ⟨t, fz, by rw [hc]⟩⟩
theorem freeze_rel {ρ : Place} {W : Base} {hp : Tr AObj} {nx : Nat} {w : World} (h : Rel ρ W hp nx w) {b c s z : Nat} {l : List Value} {ob : Obj} (hb : hp.get b = some (.cells l true)) (hr : ρ b = some (c, s, z)) (hob : w.heap[c]? = some ob) :
  Rel (ρ.freeze c ob) W (hp.put b none) nx w ∧ ρ.le (ρ.freeze c ob) := by
 have hle : ρ.le (ρ.freeze c ob) := ⟨fun _ _ h => h, fun k x hk => by
  show (match ρ.fr k with | some o => some o | none => if k = c then some ob else none) = some x
  rw [hk]⟩
 have sub : ∀ k o, (hp.put b none).get k = some o → k ≠ b ∧ hp.get k = some o := fun k o hk => by
  rw [Tr.get_put] at hk
  split at hk
  ·cases hk
  ·rename_i e; exact ⟨e, hk⟩
 obtain ⟨ob0, e0, ho0⟩ := h.obj b _ c s z hb hr
 refine ⟨⟨h.dom, fun k o c' s' z' ho hk => ?_, fun k k' x x' o o' h1 h2 => h.inj k k' x x' o o' (sub _ _ h1).2 (sub _ _ h2).2, fun k hk => ?_, h.below, fun k x hk => ?_, fun k o c' s' z' ho hw hk => ?_, fun k x hk => ?_⟩, hle⟩
 ·obtain ⟨ob', e1, e2⟩ := h.obj k o c' s' z' (sub k o ho).2 hk
  exact ⟨ob', e1, e2.mono hle⟩
 ·rw [Tr.get_put]
  split
  ·rfl
  ·exact h.fresh k hk
 ·have hk' : (match ρ.fr k with | some o => some o | none => if k = c then some ob else none) = some x := hk
  split at hk'
  ·rename_i e; cases hk'; exact h.frz k x e
  ·split at hk'
   ·rename_i e; subst e; cases hk'; exact hob
   ·cases hk'
 ·show (match ρ.fr c' with | some o => some o | none => if c' = c then some ob else none) = none
  have := sub k o ho
  rw [h.apart k o c' s' z' this.2 hw hk]
  dsimp only
  rw [if_neg]
  ·intro e
   exact this.1 (h.inj k b _ _ _ _ this.2 hb hk hr e)
 ·have hk' : (match ρ.fr k with | some o => some o | none => if k = c then some ob else none) = some x := hk
  split at hk'
  ·rename_i e; cases hk'; exact h.frn k x e
  ·split at hk'
   ·rename_i e
    subst e
    cases ob0 <;> try exact ho0.elim
    exact .inr (ho0.2.2.2.2 rfl)
   ·cases hk'
def frzS (N : Nat) (hp : Tr AObj) (v : Value) : Option (Value × Tr AObj × Prop) :=
 match v with
 | .slice (some ⟨b, o, none⟩) n sz => match hp.get b with
  | some (.cells l true) => bif N.ble b then some (tree sz n (chunks sz n (l.drop o)), hp.put b none, o + n * sz ≤ l.length ∧ NLs (l.drop o)) else none
  | _ => none
 | v => some (v, hp, True)
theorem frzS_sound {N : Nat} {ρ : Place} {W : Base} {hp hp' : Tr AObj} {nx : Nat} {w : World} (h : Rel ρ W hp nx w) {v v' u : Value} {ob : Prop} (hv : VR ρ v v') (hf : frzS N hp v = some (u, hp', ob)) (hob : ob) :
  ∃ ρ', Rel ρ' W hp' nx w ∧ Step ρ ρ' hp hp' nx nx ∧ VR ρ' u v' := by
 unfold frzS at hf
 split at hf
 ·rename_i b o n sz
  split at hf
  case h_2 => cases hf
  rename_i l hg
  cases hc : N.ble b with
  | false => rw [hc] at hf; cases hf
  | true =>
   rw [hc] at hf
   cases hf
   obtain ⟨hlen, hnl⟩ := hob
   suffices hs : ∃ ρ', Rel ρ' W (hp.put b none) nx w ∧ Step ρ ρ' hp (hp.put b none) nx nx ∧ VR0 ρ'.fr (tree sz n (chunks sz n (l.drop o))) v' by
    obtain ⟨ρ', s1, s2, s3⟩ := hs
    exact ⟨ρ', s1, s2, VR0.lift (ρ := ρ') s3⟩
   cases hv with
   | @slice _ _ _ _ c s zz cap hr h1 h2 =>
    obtain ⟨ob, e0, ho⟩ := h.obj b _ c s zz hg hr
    obtain ⟨g1, g2⟩ := freeze_rel h hg hr e0
    refine ⟨_, g1, ⟨g2, Nat.le_refl _, fun k _ hn => ⟨hn, by rw [Tr.get_put, if_neg (by intro e; subst e; have hr' := hr; rw [hn] at hr'; cases hr')]⟩⟩, ?_⟩
    cases ob <;> try exact ho.elim
    rename_i cs ct fz
    obtain ⟨k1, k2, k3, k4, k5⟩ := ho
    have hlen' : n * sz ≤ (l.drop o).length := by rw [List.length_drop]; omega
    have hmul : n * sz ≤ cap * sz := Nat.mul_le_mul_right _ h1
    refine VR0.tree (o := s + o) (cs := cs) (t := ct) (fz := fz) (by show (match ρ.fr c with | some o => some o | none => if c = c then _ else none) = _; rw [h.apart b _ c s zz hg rfl hr]; dsimp only; rw [if_pos rfl]) (chunks_size hlen') h1 (by omega) (fun i u hu => (chunks_get hlen' hnl hu).2.1) (fun i j u a a' hu ha ha' => ?_)
    obtain ⟨q1, q2, q3⟩ := chunks_get hlen' hnl hu
    obtain ⟨q4, q5⟩ := q3 j a ha
    have q6 := q5
    rw [List.getElem?_drop] at q5
    obtain ⟨a2, e1, e2⟩ := k4 _ a q5
    have : a2 = a' := by
     rw [show s + o + i * sz + j = s + (o + (i * sz + j)) by omega, e1] at ha'
     cases ha'
     rfl
    subst this
    have hn := hnl a (List.mem_of_getElem? q6)
    have h0 : VR0 ρ.fr a a2 := nl1_sound hn e2
    exact h0.mono g2.2
   | @emptySlice _ _ y a' _ hr =>
    obtain ⟨c, s, zz⟩ := y
    obtain ⟨ob, e0, ho⟩ := h.obj b _ c s zz hg hr
    obtain ⟨g1, g2⟩ := freeze_rel h hg hr e0
    refine ⟨_, g1, ⟨g2, Nat.le_refl _, fun k _ hn => ⟨hn, by rw [Tr.get_put, if_neg (by intro e; subst e; have hr' := hr; rw [hn] at hr'; cases hr')]⟩⟩, ?_⟩
    have : chunks sz 0 (l.drop o) = #[] := by
     unfold chunks
     cases sz.beq 1 <;> simp
    rw [this]
    exact .treeNil _ _ _
 ·cases hf
  exact ⟨ρ, h, .refl _ _ _, hv⟩
def unmark (t : Nat) : Nat := bif Nat.ble 1000 t then t - 1000 else t
def frzTms (N : Nat) : List Nat → AS → Option (AS × Prop)
 | [], st => some (st, True)
 | t :: ts, st => bif Nat.ble 1000 t then match st.tm.get (t - 1000) with
   | some v => match frzS N st.hp v with
    | some (u, hp', ob) => match frzTms N ts ⟨st.tm.put (t - 1000) (some u), hp', st.nx⟩ with
     | some (st', ob') => some (st', ob ∧ ob')
     | none => none
    | none => none
   | none => none
  else frzTms N ts st
theorem frzTms_sound {N n : Nat} {W : Base} {a : Act} {w : World} : ∀ {ts : List Nat} {st st' : AS} {ρ : Place} {ob : Prop}, SRel ρ W n st a w → frzTms N ts st = some (st', ob) → ob →
  ∃ ρ', SRel ρ' W n st' a w ∧ ρ.le ρ'
 | [], st, st', ρ, ob, h, hf, hob => by
  simp only [frzTms] at hf
  cases hf
  exact ⟨ρ, h, ⟨fun _ _ h => h, fun _ _ h => h⟩⟩
 | t :: ts, st, st', ρ, ob, h, hf, hob => by
  simp only [frzTms] at hf
  cases hc : Nat.ble 1000 t with
  | false =>
   rw [hc] at hf
   exact frzTms_sound h hf hob
  | true =>
   rw [hc, cond_true] at hf
   clear hc
   generalize t - 1000 = q at hf
   split at hf
   case h_2 => cases hf
   rename_i v hv
   split at hf
   case h_2 => cases hf
   rename_i u hp' ob1 hz
   split at hf
   case h_2 => cases hf
   rename_i st1 ob2 hr
   cases hf
   obtain ⟨g0, g1⟩ := h.frame.slot _ _ hv
   obtain ⟨ρ1, k1, k2, k3⟩ := frzS_sound h.rel g1 hz hob.1
   have hs1 : SRel ρ1 W n ⟨st.tm.put q (some u), hp', st.nx⟩ a w := ⟨k1, ⟨h.frame.size, h.frame.defers, fun s x hx => by
    rw [Tr.get_put] at hx
    by_cases e : s = q
    ·rw [if_pos e] at hx
     cases hx
     rw [e]
     exact ⟨g0, k3⟩
    ·rw [if_neg e] at hx
     exact ⟨(h.frame.slot s x hx).1, (h.frame.slot s x hx).2.mono k2.le⟩⟩⟩
   obtain ⟨ρ2, q1, q2⟩ := frzTms_sound hs1 hr hob.2
   exact ⟨ρ2, q1, ⟨fun b x hb => q2.1 b x (k2.le.1 b x hb), fun c x hc => q2.2 c x (k2.le.2 c x hc)⟩⟩
end Go.Proofs.YtngginofamlkkaaGreatDoor
noncomputable section
namespace Go.Proofs.YtngginofamlkkaaGreatDoor
open Go Go.RowKit
def vseq (P : Program) (vc : VCall) (ops : Array Oper) (n : Nat) : List Oper → AS → (AS → Prop) → Prop
 | [], st, K => K st
 | o :: l, st, K => vguard ops st.tm o
   (bif isHeavy o.op then vheavy P vc st.hp st.nx o (aev st.tm) fun v _ hp' nx' => vsplit v fun v => match aput n st.tm o.dst v with
     | some tm' => vseq P vc ops n l ⟨tm', hp', nx'⟩ K
     | none => False
    else match slight P st.hp o (aev st.tm) with
     | some (.val v, ob) => ob ∧ vsplit v fun v => match aput n st.tm o.dst v with
      | some tm' => vseq P vc ops n l ⟨tm', st.hp, st.nx⟩ K
      | none => False
     | some (.new b nv, ob) => match aput n st.tm o.dst (nv.val st.nx) with
      | some tm' => ob ∧ vseq P vc ops n l ⟨tm', st.hp.put st.nx (some b), st.nx + 1⟩ K
      | none => False
     | none => False)
   (match aput n st.tm o.dst undef with
    | some tm' => vseq P vc ops n l ⟨tm', st.hp, st.nx⟩ K
    | none => False)
theorem vseq_sound {P : Program} {vc : VCall} {W : Base} (hcall : VCallOk P vc) {ops : Array Oper} {n : Nat} {Q : Exit → Act → World → Prop} : ∀ (l : List Oper) (k : Nat) (st : AS) (K : AS → Prop) (ρ : Place) (a : Act) (w : World), ops.toList.drop k = l →
  SRel ρ W n st a w → vseq P vc ops n l st K → (∀ st', K st' → ∀ a' w' ρ', SRel ρ' W n st' a' w' → Step ρ ρ' st.hp st'.hp st.nx st'.nx → Q .normal a' w') → wpOps P ops Q (List.range' k l.length) a w
 | [], k, st, K, ρ, a, w, _, h, hs, hk => by
  simp only [vseq] at hs
  exact hk st hs a w ρ h (.refl _ _ _)
 | o :: l, k, st, K, ρ, a, w, hd, h, hs, hk => by
  simp only [vseq] at hs
  have hi : ops[k]? = some o := by
   have : (ops.toList.drop k)[0]? = some o := by rw [hd]; rfl
   rw [List.getElem?_drop] at this
   simpa using this
  have next : ∀ (st1 : AS) (a1 : Act) (w1 : World) (ρ1 : Place), SRel ρ1 W n st1 a1 w1 → Step ρ ρ1 st.hp st1.hp st.nx st1.nx → vseq P vc ops n l st1 K → wpOps P ops Q (List.range' (k + 1) l.length) a1 w1 :=
   fun st1 a1 w1 ρ1 hr hst hv => vseq_sound hcall l (k + 1) st1 K ρ1 a1 w1 (by rw [← List.drop_drop, hd]; rfl) hr hv fun st' hK a' w' ρ' g1 g2 => hk st' hK a' w' ρ' g1 (hst.trans g2)
  rw [List.length_cons, List.range'_succ, wpOps_cons]
  unfold wpOp
  simp only [hi]
  rcases vguard_cases hs with ⟨hw, hs⟩ | ⟨hw, hs⟩
  ·rw [awanted_sound h.frame hw, if_pos rfl]
   refine .inl ?_
   cases hh : isHeavy o.op with
   | true =>
    rw [hh, cond_true] at hs
    refine vheavy_sound hcall h.rel h.frame.ev hs fun v c hp' nx' v' w' ρ' hK _ q1 q2 q3 => ?_
    replace hK := vsplit_ap hK
    split at hK
    case h_2 => exact hK.elim
    rename_i tm' ht
    exact next ⟨tm', hp', nx'⟩ _ _ ρ' ⟨q2, aput_sound (h.frame.mono q3.le) ht q1⟩ q3 hK
   | false =>
    rw [hh, cond_false] at hs
    split at hs
    ·rename_i v ob hv
     obtain ⟨hob, hs⟩ := hs
     replace hs := vsplit_ap hs
     split at hs
     case h_2 => exact hs.elim
     rename_i tm' ht
     obtain ⟨v', h1, h2⟩ := slight_sound (r := .val v) h.rel h.frame.ev hv hob
     unfold Oper.wp
     rw [h1]
     exact next ⟨tm', st.hp, st.nx⟩ _ _ ρ ⟨h.rel, aput_sound h.frame ht h2⟩ (.refl _ _ _) hs
    ·rename_i ob nv obp hv
     split at hs
     case h_2 => exact hs.elim
     rename_i tm' ht
     obtain ⟨v', ob', d, z, h1, h2, h3⟩ := slight_sound (r := .new ob nv) h.rel h.frame.ev hv hs.1
     unfold Oper.wp
     rw [h1]
     have hrel := ((h.rel.at_drawn d).reserve ob).realize (b := st.nx) (z := z) (ob := ob') (by omega) h.rel.dom_none (by rw [Tr.get_put, if_pos rfl]) (h2 _ h.rel.below.fresh)
     have hle := Place.le_set (x := (w.heap.size, 0, z)) h.rel.dom_none
     exact next ⟨tm', st.hp.put st.nx (some ob), st.nx + 1⟩ _ _ _ ⟨hrel, aput_sound (h.frame.mono hle) ht (h3 _ _ (Place.set_same ρ st.nx _))⟩ ⟨hle, Nat.le_succ _, fun b hb hr => ⟨by rw [Place.set_other (by omega)]; exact hr, by show (st.hp.put st.nx (some ob)).get b = _; rw [Tr.get_put, if_neg (by omega)]⟩⟩ hs.2
    ·exact hs.elim
  ·rw [awanted_sound h.frame hw, if_neg (by simp)]
   split at hs
   case h_2 => exact hs.elim
   rename_i tm' ht
   exact next ⟨tm', st.hp, st.nx⟩ _ _ ρ ⟨h.rel, aput_sound h.frame ht (closed_refl (by simp [undef, closed]))⟩ (.refl _ _ _) hs
def vregion (P : Program) (vc : VCall) (n : Nat) (ops : Array Oper) (draw : Bool) (st : AS) (K : AS → Prop) : Prop :=
 bif draw then (bif drawOk ops then vdraw P vc ops n ops.size (Array.replicate ops.size false) st [] K else False) else vseq P vc ops n ops.toList st K
theorem vregion_sound {P : Program} {vc : VCall} {W : Base} (hcall : VCallOk P vc) (hm : P.follows .mixedOrders = true) {ops : Array Oper} {draw : Bool} {id n : Nat} {Q : Exit → Act → World → Prop} {st : AS} {K : AS → Prop} {ρ : Place} {a : Act} {w : World} (h : SRel ρ W n st a w)
  (hs : vregion P vc n ops draw st K) (hk : ∀ st', K st' → ∀ a' w' ρ', SRel ρ' W n st' a' w' → Step ρ ρ' st.hp st'.hp st.nx st'.nx → Q .normal a' w') : (Code.region id ops draw).wp P Q a w := by
 unfold vregion at hs
 cases draw with
 | false =>
  rw [cond_false] at hs
  refine wp_region ?_
  rw [List.range_eq_range']
  have := vseq_sound hcall (Q := Q) ops.toList 0 st K ρ a w (by simp) h hs hk
  simpa using this
 | true =>
  rw [cond_true] at hs
  cases hD : drawOk ops with
  | false => rw [hD] at hs; exact hs.elim
  | true =>
   rw [hD, cond_true] at hs
   refine wp_region_any hm ?_
   have hnot : ∀ i, ¬ In (Array.replicate ops.size false) i := fun i hi => by
    have := lt_of_in (ops := ops) (by simp) hi
    simp [In, this] at hi
   refine vdraw_main hcall hD hk ops.size ops.size _ st [] ⟨fun _ => .e, fun _ => undef, fun _ => none⟩ _ a _ ρ ?_ ⟨by simp, by simp, fun i hi => (hnot i hi).elim, fun i hi => (hnot i hi).elim, fun i hi => hi, fun j o t hj => (hnot j hj).elim, fun t _ => rfl, h.rel.drew, h.frame.size, h.frame.defers, fun j o t hj => (hnot j hj).elim, fun t v _ hv => h.frame.slot t v hv, fun j o hj => (hnot j hj).elim, fun j k b hj => (hnot j hj).elim, .refl _ _ _, fun j o hj => (hnot j hj).elim⟩ hs
   unfold unl
   exact Nat.le_trans (List.length_filter_le _ _) (by simp)
inductive Fr where
 | seq (y : Code)
 | block (id : Nat)
 | loop (b : Code)
inductive VM where
 | code (c : Code)
 | normal
 | exit (id : Nat)
 | ret
def rid : Code → Option Nat
 | .region id _ _ => some id
 | .seq x y => match rid x with
  | some i => some i
  | none => rid y
 | .cond _ x y => match rid x with
  | some i => some i
  | none => rid y
 | .block _ b => rid b
 | .loop b => rid b
 | _ => none
def slotsOf (i : Option Nat) : List (Nat × List Nat) → Option (List Nat)
 | [] => none
 | x :: l => match i with
  | some j => bif j.beq x.1 then some x.2 else slotsOf i l
  | none => none
def vloop (lt : List (Nat × List Nat)) (base : List Bool) (H : Code → List Fr → AS → Prop) (b : Code) (k : List Fr) (st : AS) : Prop :=
 match slotsOf (rid b) lt with
 | some ts => match frzTms base.length ts st with
  | some (st0, ob0) => match canon base (ts.map unmark) st0 with
   | some (st', ob) => ob0 ∧ ob ∧ H b k st'
   | none => False
  | none => False
 | none => False
def vrun (P : Program) (vc : VCall) (n : Nat) (lt : List (Nat × List Nat)) (base : List Bool) (H : Code → List Fr → AS → Prop) (Fin : AS → Prop) : Nat → VM → List Fr → AS → Prop
 | 0, _, _, _ => False
 | f + 1, .normal, k, st => match k with
  | [] => Fin st
  | .seq y :: k' => vrun P vc n lt base H Fin f (.code y) k' st
  | .block _ :: k' => vrun P vc n lt base H Fin f .normal k' st
  | .loop b :: k' => match slotsOf (rid b) lt with
   | some _ => vloop lt base H b k' st
   | none => vrun P vc n lt base H Fin f (.code b) (.loop b :: k') st
 | f + 1, .exit id, k, st => match k with
  | [] => False
  | .block j :: k' => bif id.beq j then vrun P vc n lt base H Fin f .normal k' st else vrun P vc n lt base H Fin f (.exit id) k' st
  | _ :: k' => vrun P vc n lt base H Fin f (.exit id) k' st
 | _ + 1, .ret, _, st => Fin st
 | f + 1, .code c, k, st => match c with
  | .skip | .label _ => vrun P vc n lt base H Fin f .normal k st
  | .region _ ops draw => vregion P vc n ops draw st fun st' => vrun P vc n lt base H Fin f .normal k st'
  | .seq x y => vrun P vc n lt base H Fin f (.code x) (.seq y :: k) st
  | .cond c x y => match aev st.tm c with
   | some (.bool b) => pIf b (vrun P vc n lt base H Fin f (.code x) k st) (vrun P vc n lt base H Fin f (.code y) k st)
   | _ => False
  | .block id b => vrun P vc n lt base H Fin f (.code b) (.block id :: k) st
  | .loop b => match slotsOf (rid b) lt with
   | some _ => vloop lt base H b k st
   | none => vrun P vc n lt base H Fin f (.code b) (.loop b :: k) st
  | .exit id => vrun P vc n lt base H Fin f (.exit id) k st
  | .ret => vrun P vc n lt base H Fin f .ret k st
  | _ => False
def contQ (P : Program) (Q : Exit → Act → World → Prop) : List Fr → Exit → Act → World → Prop
 | [] => Q
 | .seq y :: k => Exit.then (y.wp P (contQ P Q k)) (contQ P Q k)
 | .block id :: k => Exit.inBlock id (contQ P Q k)
 | .loop b :: k => Exit.then (LoopWp P b (contQ P Q k)) (contQ P Q k)
theorem contQ_ret {P : Program} {Q : Exit → Act → World → Prop} {a : Act} {w : World} {k : List Fr} (h : Q .ret a w) : contQ P Q k .ret a w := by
 induction k with
 | nil => exact h
 | cons x k ih => cases x <;> exact ih
section
variable {P : Program} {vc : VCall} {W : Base} {n : Nat} {lt : List (Nat × List Nat)} {base : List Bool} {H : Code → List Fr → AS → Prop} {Fin : AS → Prop} {R : Place → AS → Prop} {Q : Exit → Act → World → Prop}
theorem vrun_sound (hcall : VCallOk P vc) (hm : P.follows .mixedOrders = true)
  (hR : ∀ ρ st ρ' st', R ρ st → Step ρ ρ' st.hp st'.hp st.nx st'.nx → R ρ' st')
  (hH : ∀ b k st, vloop lt base H b k st → ∀ ρ a w, SRel ρ W n st a w → R ρ st → LoopWp P b (contQ P Q k) a w)
  (hF : ∀ st, Fin st → ∀ ρ a w, SRel ρ W n st a w → R ρ st → Q .normal a w ∧ Q .ret a w) :
  ∀ (f : Nat) (m : VM) (k : List Fr) (st : AS), vrun P vc n lt base H Fin f m k st → ∀ ρ a w, SRel ρ W n st a w → R ρ st → (match m with
   | .code c => c.wp P (contQ P Q k) a w
   | .normal => contQ P Q k .normal a w
   | .exit id => contQ P Q k (.exit id) a w
   | .ret => contQ P Q k .ret a w) := by
 intro f
 induction f with
 | zero => intro m k st h; simp only [vrun] at h
 | succ f ih =>
  intro m k st h ρ a w hs hr
  cases m with
  | normal =>
   simp only [vrun] at h
   dsimp only
   cases k with
   | nil => exact (hF st h ρ a w hs hr).1
   | cons x k =>
    cases x with
    | seq y => exact ih (.code y) k st h ρ a w hs hr
    | block id => exact ih .normal k st h ρ a w hs hr
    | loop b =>
     dsimp only at h
     split at h
     ·exact hH b k st h ρ a w hs hr
     ·exact loop_round (ih (.code b) (.loop b :: k) st h ρ a w hs hr)
  | exit id =>
   simp only [vrun] at h
   dsimp only
   cases k with
   | nil => exact h.elim
   | cons x k =>
    cases x with
    | seq y => exact ih (.exit id) k st h ρ a w hs hr
    | block j =>
     show Exit.inBlock j (contQ P Q k) (.exit id) a w
     simp only [Exit.inBlock]
     dsimp only at h
     cases hj : id.beq j with
     | true =>
      rw [hj] at h
      rw [if_pos (Nat.eq_of_beq_eq_true hj)]
      exact ih .normal k st h ρ a w hs hr
     | false =>
      rw [hj] at h
      rw [if_neg (fun e => by subst e; simp at hj)]
      exact ih (.exit id) k st h ρ a w hs hr
    | loop b => exact ih (.exit id) k st h ρ a w hs hr
  | ret =>
   simp only [vrun] at h
   exact contQ_ret (hF st h ρ a w hs hr).2
  | code c =>
   simp only [vrun] at h
   dsimp only
   cases c with
   | skip => exact wp_skip (ih .normal k st h ρ a w hs hr)
   | label l => exact wp_label (ih .normal k st h ρ a w hs hr)
   | region id ops draw => exact vregion_sound hcall hm hs h fun st' hK a' w' ρ' g1 g2 => ih .normal k st' hK ρ' a' w' g1 (hR _ _ _ _ hr g2)
   | seq x y => exact wp_seq (ih (.code x) (.seq y :: k) st h ρ a w hs hr)
   | cond c x y =>
    dsimp only at h
    split at h
    ·rename_i b hc
     have := hs.frame.eval hc
     cases b with
     | true =>
      refine wp_cond_true (c := c) ?_ (ih (.code x) k st h ρ a w hs hr)
      generalize a.eval c = z at this
      cases this
      rfl
     | false =>
      refine wp_cond_false (c := c) ?_ (ih (.code y) k st h ρ a w hs hr)
      generalize a.eval c = z at this
      cases this
      rfl
    ·exact h.elim
   | block id b => exact wp_block (ih (.code b) (.block id :: k) st h ρ a w hs hr)
   | loop b =>
    dsimp only at h
    split at h
    ·exact loop_of (hH b k st h ρ a w hs hr)
    ·exact loop_of (loop_round (ih (.code b) (.loop b :: k) st h ρ a w hs hr))
   | exit id => exact wp_exit (ih (.exit id) k st h ρ a w hs hr)
   | ret => exact wp_ret (ih .ret k st h ρ a w hs hr)
   | goto l => exact h.elim
   | refuse y => exact h.elim
   | scope b => exact h.elim
   | rangeFunc f ps x y => exact h.elim
end
def StepG (N : Nat) (ρ ρ' : Place) : Prop := (∀ b x, b < N → ρ.pl b = some x → ρ'.pl b = some x) ∧ ∀ c x, ρ.fr c = some x → ρ'.fr c = some x
theorem StepG.refl (N : Nat) (ρ : Place) : StepG N ρ ρ := ⟨fun _ _ _ h => h, fun _ _ h => h⟩
theorem StepG.step {N : Nat} {ρ ρ' ρ'' : Place} {hp hp' : Tr AObj} {nx nx' : Nat} (h : StepG N ρ ρ') (k : Step ρ' ρ'' hp hp' nx nx') : StepG N ρ ρ'' :=
 ⟨fun b x hb hx => k.le.1 b x (h.1 b x hb hx), fun c x hc => k.le.2 c x (h.2 c x hc)⟩
def Good (P : Program) (n : Nat) (base : List Bool) (Fin : AS → Prop) (b : Code) (k : List Fr) (st : AS) : Prop :=
 ∀ (W : Base) (ρ0 : Place) (Q : Exit → Act → World → Prop), (∀ st, Fin st → ∀ ρ a w, SRel ρ W n st a w → StepG base.length ρ0 ρ → Q .normal a w ∧ Q .ret a w) →
  ∀ ρ a w, SRel ρ W n st a w → StepG base.length ρ0 ρ → LoopWp P b (contQ P Q k) a w
theorem good_vloop {P : Program} {n : Nat} {lt : List (Nat × List Nat)} {base : List Bool} {Fin : AS → Prop} {b : Code} {k : List Fr} {st : AS} (h : vloop lt base (Good P n base Fin) b k st) : Good P n base Fin b k st := by
 unfold vloop at h
 split at h
 case h_2 => exact h.elim
 split at h
 case h_2 => exact h.elim
 rename_i st0 ob0 hz
 split at h
 case h_2 => exact h.elim
 rename_i st' ob hc
 intro W ρ0 Q hF ρ a w hs hr
 obtain ⟨ρ1, f1, f2⟩ := frzTms_sound hs hz h.1
 obtain ⟨ρ', g1, g2, g3⟩ := canon_sound f1 hc h.2.1
 exact h.2.2 W ρ0 Q hF ρ' a w g1 ⟨fun b x hb hx => by rw [g3 b hb]; exact f2.1 b x (hr.1 b x hb hx), fun c x hx => by rw [g2]; exact f2.2 c x (hr.2 c x hx)⟩
theorem good_round {P : Program} {vc : VCall} (hcall : VCallOk P vc) (hm : P.follows .mixedOrders = true) {n : Nat} {lt : List (Nat × List Nat)} {base : List Bool} {Fin : AS → Prop} {b : Code} {k : List Fr} {st : AS} (f : Nat)
  (h : vrun P vc n lt base (Good P n base Fin) Fin f (.code b) (.loop b :: k) st) : Good P n base Fin b k st := by
 intro W ρ0 Q hF ρ a w hs hr
 refine loop_round ?_
 exact vrun_sound (R := fun ρ _ => StepG base.length ρ0 ρ) hcall hm (fun ρ st ρ' st' h k => h.step k) (fun b k st h ρ a w hs hr => good_vloop h W ρ0 Q hF ρ a w hs hr) hF f (.code b) (.loop b :: k) st h ρ a w hs hr
end Go.Proofs.YtngginofamlkkaaGreatDoor

noncomputable section
namespace Go.Proofs.YtngginofamlkkaaGreatDoor
open Go Go.RowKit
set_option maxRecDepth 100000
set_option maxHeartbeats 8000000
def frzL (P : Program) (N : Nat) (t : TypeId) (hp : Tr AObj) (v : Value) : Option (Value × Tr AObj × Prop) :=
 match P.underlying t, v with
 | some (.slice e), .slice (some ⟨b, o, none⟩) n sz => match pureRun P (sizeOf e), hp.get b with
  | some z, some (.cells l true) => bif z.beq sz && N.ble b then some (tree sz n (chunks sz n (l.drop o)), hp.put b none, o + n * sz ≤ l.length ∧ NLs (l.drop o)) else none
  | _, _ => none
 | some (.slice e), .slice none 0 _ => match pureRun P (sizeOf e) with
  | some z => some (tree z 0 #[], hp, True)
  | none => none
 | _, v => bif nl1 v then some (v, hp, True) else none
theorem frzL_sound {P : Program} {N : Nat} {t : TypeId} {ρ : Place} {W : Base} {hp hp' : Tr AObj} {nx : Nat} {w : World} (h : Rel ρ W hp nx w) {v v' u : Value} {ob : Prop} (hv : VR ρ v v') (hf : frzL P N t hp v = some (u, hp', ob)) (hob : ob) :
  ∃ ρ', Rel ρ' W hp' nx w ∧ Step ρ ρ' hp hp' nx nx ∧ VR0 ρ'.fr u v' := by
 have base : ∀ {v : Value}, VR ρ v v' → (bif nl1 v then some (v, hp, True) else none) = some (u, hp', ob) → ∃ ρ', Rel ρ' W hp' nx w ∧ Step ρ ρ' hp hp' nx nx ∧ VR0 ρ'.fr u v' := fun {v} hv hf => by
  cases hn : nl1 v with
  | false => rw [hn] at hf; cases hf
  | true => rw [hn] at hf; cases hf; exact ⟨ρ, h, .refl _ _ _, nl1_sound hn hv⟩
 unfold frzL at hf
 split at hf
 ·rename_i e b o n sz hu
  split at hf
  case h_2 => cases hf
  rename_i z l hz hg
  cases hc : z.beq sz && N.ble b with
  | false => rw [hc] at hf; cases hf
  | true =>
   rw [hc] at hf
   cases hf
   obtain ⟨hlen, hnl⟩ := hob
   cases hv with
   | @slice _ _ _ _ c s zz cap hr h1 h2 =>
    obtain ⟨ob, e0, ho⟩ := h.obj b _ c s zz hg hr
    obtain ⟨g1, g2⟩ := freeze_rel h hg hr e0
    refine ⟨_, g1, ⟨g2, Nat.le_refl _, fun k _ hn => ⟨hn, by rw [Tr.get_put, if_neg (by intro e; subst e; have hr' := hr; rw [hn] at hr'; cases hr')]⟩⟩, ?_⟩
    cases ob <;> try exact ho.elim
    rename_i cs ct fz
    obtain ⟨k1, k2, k3, k4, k5⟩ := ho
    have hlen' : n * sz ≤ (l.drop o).length := by rw [List.length_drop]; omega
    have hmul : n * sz ≤ cap * sz := Nat.mul_le_mul_right _ h1
    refine VR0.tree (o := s + o) (cs := cs) (t := ct) (fz := fz) (by show (match ρ.fr c with | some o => some o | none => if c = c then _ else none) = _; rw [h.apart b _ c s zz hg rfl hr]; dsimp only; rw [if_pos rfl]) (chunks_size hlen') h1 (by omega) (fun i u hu => (chunks_get hlen' hnl hu).2.1) (fun i j u a a' hu ha ha' => ?_)
    obtain ⟨q1, q2, q3⟩ := chunks_get hlen' hnl hu
    obtain ⟨q4, q5⟩ := q3 j a ha
    have q6 := q5
    rw [List.getElem?_drop] at q5
    obtain ⟨a2, e1, e2⟩ := k4 _ a q5
    have : a2 = a' := by
     rw [show s + o + i * sz + j = s + (o + (i * sz + j)) by omega, e1] at ha'
     cases ha'
     rfl
    subst this
    have hn := hnl a (List.mem_of_getElem? q6)
    have h0 : VR0 ρ.fr a a2 := nl1_sound hn e2
    exact h0.mono g2.2
   | @emptySlice _ _ y a' _ hr =>
    obtain ⟨c, s, zz⟩ := y
    obtain ⟨ob, e0, ho⟩ := h.obj b _ c s zz hg hr
    obtain ⟨g1, g2⟩ := freeze_rel h hg hr e0
    refine ⟨_, g1, ⟨g2, Nat.le_refl _, fun k _ hn => ⟨hn, by rw [Tr.get_put, if_neg (by intro e; subst e; have hr' := hr; rw [hn] at hr'; cases hr')]⟩⟩, ?_⟩
    have : chunks sz 0 (l.drop o) = #[] := by
     unfold chunks
     cases sz.beq 1 <;> simp
    rw [this]
    exact .treeNil _ _ _
 ·rename_i e cp hu
  split at hf
  case h_2 => cases hf
  cases hf
  cases hv with
  | nilSlice => exact ⟨ρ, h, .refl _ _ _, .treeNil _ _ _⟩
 ·exact base hv hf
def frzC (P : Program) (N : Nat) : List TypeId → List Value → Tr AObj → Option (List Value × Tr AObj × Prop)
 | [], [], hp => some ([], hp, True)
 | t :: ts, v :: vs, hp => match frzL P N t hp v with
  | some (u, hp1, o1) => match frzC P N ts vs hp1 with
   | some (us, hp2, o2) => some (u :: us, hp2, o1 ∧ o2)
   | none => none
  | none => none
 | _, _, _ => none
theorem VR0L {fr : Nat → Option Obj} {c c' : List Value} (h : c.length = c'.length ∧ ∀ (i : Nat) (v v' : Value), c[i]? = some v → c'[i]? = some v' → VR0 fr v v') : VR0 fr (.agg c.toArray) (.agg c'.toArray) :=
 .agg (by simp [h.1]) fun i v v' a b => h.2 i v v' (by simpa using a) (by simpa using b)
theorem frzC_sound {P : Program} {N : Nat} {W : Base} {nx : Nat} {w : World} : ∀ {ts : List TypeId} {vs vs' us : List Value} {ρ : Place} {hp hp' : Tr AObj} {ob : Prop}, Rel ρ W hp nx w → VRL ρ vs vs' → frzC P N ts vs hp = some (us, hp', ob) → ob →
  ∃ ρ', Rel ρ' W hp' nx w ∧ Step ρ ρ' hp hp' nx nx ∧ us.length = vs'.length ∧ ∀ (i : Nat) (v v' : Value), us[i]? = some v → vs'[i]? = some v' → VR0 ρ'.fr v v'
 | [], [], vs', us, ρ, hp, hp', ob, h, hl, hf, _ => by
  simp only [frzC] at hf
  cases hf
  cases hl
  exact ⟨ρ, h, .refl _ _ _, rfl, fun i v v' a => by simp at a⟩
 | [], _ :: _, vs', us, ρ, hp, hp', ob, h, hl, hf, _ => by simp [frzC] at hf
 | _ :: _, [], vs', us, ρ, hp, hp', ob, h, hl, hf, _ => by simp [frzC] at hf
 | t :: ts, v :: vs, vs', us, ρ, hp, hp', ob, h, hl, hf, hob => by
  simp only [frzC] at hf
  split at hf
  case h_2 => cases hf
  rename_i u hp1 o1 h1
  split at hf
  case h_2 => cases hf
  rename_i us0 hp2 o2 h2
  cases hf
  cases hl with
  | cons hv hl =>
   obtain ⟨ρ1, g1, g2, g3⟩ := frzL_sound h hv h1 hob.1
   obtain ⟨ρ2, k1, k2, k3, k4⟩ := frzC_sound g1 (hl.mono g2.le) h2 hob.2
   refine ⟨ρ2, k1, g2.trans k2, by simp [k3], fun i x x' a b => ?_⟩
   cases i with
   | zero => simp at a b; subst a b; exact g3.mono k2.le.2
   | succ i => exact k4 i x x' (by simpa using a) (by simpa using b)
def frzT (P : Program) (N : Nat) (t : TypeId) (hp : Tr AObj) (v : Value) : Option (Value × Tr AObj × Prop) :=
 match v with
 | .agg c => match leaves P 20 t with
  | some ts => match frzC P N ts c.toList hp with
   | some (us, hp', ob) => some (.agg us.toArray, hp', ob)
   | none => none
  | none => none
 | v => frzL P N t hp v
theorem frzT_sound {P : Program} {N : Nat} {t : TypeId} {ρ : Place} {W : Base} {hp hp' : Tr AObj} {nx : Nat} {w : World} (h : Rel ρ W hp nx w) {v v' u : Value} {ob : Prop} (hv : VR ρ v v') (hf : frzT P N t hp v = some (u, hp', ob)) (hob : ob) :
  ∃ ρ', Rel ρ' W hp' nx w ∧ Step ρ ρ' hp hp' nx nx ∧ VR0 ρ'.fr u v' := by
 unfold frzT at hf
 split at hf
 ·rename_i c
  split at hf
  case h_2 => cases hf
  split at hf
  case h_2 => cases hf
  rename_i us hp2 ob2 h2
  cases hf
  cases hv with
  | agg hs hc =>
   rename_i c'
   obtain ⟨ρ', g1, g2, g3, g4⟩ := frzC_sound h (VRA.list ⟨hs, hc⟩) h2 hob
   refine ⟨ρ', g1, g2, ?_⟩
   have := VR0L ⟨g3, g4⟩
   simpa using this
 ·exact frzL_sound h hv hf hob
def frzTs (P : Program) (N : Nat) : List TypeId → List Value → Tr AObj → Option (List Value × Tr AObj × Prop)
 | [], [], hp => some ([], hp, True)
 | t :: ts, v :: vs, hp => match frzT P N t hp v with
  | some (u, hp1, o1) => match frzTs P N ts vs hp1 with
   | some (us, hp2, o2) => some (u :: us, hp2, o1 ∧ o2)
   | none => none
  | none => none
 | _, _, _ => none
theorem frzTs_sound {P : Program} {N : Nat} {W : Base} {nx : Nat} {w : World} : ∀ {ts : List TypeId} {vs vs' us : List Value} {ρ : Place} {hp hp' : Tr AObj} {ob : Prop}, Rel ρ W hp nx w → VRL ρ vs vs' → frzTs P N ts vs hp = some (us, hp', ob) → ob →
  ∃ ρ', Rel ρ' W hp' nx w ∧ Step ρ ρ' hp hp' nx nx ∧ us.length = vs'.length ∧ ∀ (i : Nat) (v v' : Value), us[i]? = some v → vs'[i]? = some v' → VR0 ρ'.fr v v'
 | [], [], vs', us, ρ, hp, hp', ob, h, hl, hf, _ => by
  simp only [frzTs] at hf
  cases hf
  cases hl
  exact ⟨ρ, h, .refl _ _ _, rfl, fun i v v' a => by simp at a⟩
 | [], _ :: _, vs', us, ρ, hp, hp', ob, h, hl, hf, _ => by simp [frzTs] at hf
 | _ :: _, [], vs', us, ρ, hp, hp', ob, h, hl, hf, _ => by simp [frzTs] at hf
 | t :: ts, v :: vs, vs', us, ρ, hp, hp', ob, h, hl, hf, hob => by
  simp only [frzTs] at hf
  split at hf
  case h_2 => cases hf
  rename_i u hp1 o1 h1
  split at hf
  case h_2 => cases hf
  rename_i us0 hp2 o2 h2
  cases hf
  cases hl with
  | cons hv hl =>
   obtain ⟨ρ1, g1, g2, g3⟩ := frzT_sound h hv h1 hob.1
   obtain ⟨ρ2, k1, k2, k3, k4⟩ := frzTs_sound g1 (hl.mono g2.le) h2 hob.2
   refine ⟨ρ2, k1, g2.trans k2, by simp [k3], fun i x x' a b => ?_⟩
   cases i with
   | zero => simp at a b; subst a b; exact g3.mono k2.le.2
   | succ i => exact k4 i x x' (by simpa using a) (by simpa using b)
def frzR (P : Program) (N : Nat) (ts : List TypeId) (hp : Tr AObj) (v : Value) : Option (Value × Tr AObj × Prop) :=
 match ts with
 | [t] => frzT P N t hp v
 | ts => match v with
  | .tuple vs => match frzTs P N ts vs.toList hp with
   | some (us, hp', ob) => some (.tuple us.toArray, hp', ob)
   | none => none
  | _ => none
theorem frzR_sound {P : Program} {N : Nat} {ts : List TypeId} {ρ : Place} {W : Base} {hp hp' : Tr AObj} {nx : Nat} {w : World} (h : Rel ρ W hp nx w) {v v' u : Value} {ob : Prop} (hv : VR ρ v v') (hf : frzR P N ts hp v = some (u, hp', ob)) (hob : ob) :
  ∃ ρ', Rel ρ' W hp' nx w ∧ Step ρ ρ' hp hp' nx nx ∧ VR0 ρ'.fr u v' := by
 unfold frzR at hf
 split at hf
 ·exact frzT_sound h hv hf hob
 ·split at hf
  case h_2 => cases hf
  rename_i vs
  split at hf
  case h_2 => cases hf
  rename_i us hp2 ob2 h2
  cases hf
  cases hv with
  | tuple hs hc =>
   rename_i c'
   obtain ⟨ρ', g1, g2, g3, g4⟩ := frzTs_sound h (VRA.list ⟨hs, hc⟩) h2 hob
   refine ⟨ρ', g1, g2, .tuple (by simpa using g3) fun i v v' a b => g4 i v v' (by simpa using a) (by simpa using b)⟩
def finOf (P : Program) (fn : Func) (N : Nat) (Post : Value → Tr AObj → Prop) (st : AS) : Prop :=
 match ares P st.hp st.tm fn with
 | some v => match frzR P N fn.resultTypes.toList st.hp v with
  | some (u, hp', ob) => ob ∧ Post u hp'
  | none => False
 | none => False
def Spec (P : Program) (f : FuncId) (N : Nat) (hp : Tr AObj) (args : List Value) (Post : Value → Tr AObj → Prop) : Prop :=
 ∀ (W : Base) ρ w args', Rel ρ W hp N w → VRL ρ args args' → Calls P f args'.toArray w fun e w' => ∃ v hp' nx' v' ρ', Post v hp' ∧ e = .returned v' ∧ VR0 ρ'.fr v v' ∧ Rel ρ' W hp' nx' w' ∧ StepG N ρ ρ'
def FinQ (P : Program) (fn : Func) (W : Base) (N : Nat) (ρ : Place) (Post : Value → Tr AObj → Prop) (e : Exit) (a : Act) (w : World) : Prop :=
 bodyPost P fn (fun e w' => ∃ v hp' nx' v' ρ', Post v hp' ∧ e = .returned v' ∧ VR0 ρ'.fr v v' ∧ Rel ρ' W hp' nx' w' ∧ StepG N ρ ρ') e a w
theorem finOf_ok {P : Program} {fn : Func} {N n : Nat} {Post : Value → Tr AObj → Prop} {st : AS} (h : finOf P fn N Post st) {W : Base} (hd : W.ds = []) {ρ0 ρ : Place} {a : Act} {w : World} (hs : SRel ρ W n st a w) (hr : StepG N ρ0 ρ) :
  FinQ P fn W N ρ0 Post .normal a w ∧ FinQ P fn W N ρ0 Post .ret a w := by
 unfold finOf at h
 split at h
 case h_2 => exact h.elim
 rename_i v hv
 split at h
 case h_2 => exact h.elim
 rename_i u hp' ob hf
 obtain ⟨v', r1, r2⟩ := ares_sound hs.rel hs.frame hv
 obtain ⟨ρ', g1, g2, g3⟩ := frzR_sound hs.rel r2 hf h.1
 have : ∃ v hp' nx' v'' ρ', Post v hp' ∧ Ending.returned v' = .returned v'' ∧ VR0 ρ'.fr v v'' ∧ Rel ρ' W hp' nx' w ∧ StepG N ρ0 ρ' :=
  ⟨u, hp', st.nx, v', ρ', h.2, rfl, g3, g1, fun b x hb hx => g2.le.1 b x (hr.1 b x hb hx), fun c x hx => g2.le.2 c x (hr.2 c x hx)⟩
 exact ⟨⟨hs.frame.defers.trans hd, v', r1, this⟩, ⟨hs.frame.defers.trans hd, v', r1, this⟩⟩
def slotsN (args : List Value) (fn : Func) : Nat := args.length + (fn.ntmps - args.length)
theorem start_rel {ρ : Place} {W : Base} (hd : W.ds = []) {hp : Tr AObj} {nx : Nat} {w : World} (h : Rel ρ W hp nx w) {args args' : List Value} (hargs : VRL ρ args args') (fn : Func) :
  SRel ρ W (slotsN args fn) ⟨putArgs 0 args .e, hp, nx⟩ { tmps := args'.toArray ++ Array.replicate (fn.ntmps - args'.toArray.size) undef, defers := [] } w := by
 refine ⟨h, ?_, hd.symm, fun t u hu => ?_⟩
 ·simp [slotsN, hargs.len]
 ·rw [putArgs_get] at hu
  by_cases ht : 0 ≤ t ∧ t < 0 + args.length
  ·rw [if_pos ht] at hu
   have hlt : t < args'.length := by rw [← hargs.len]; omega
   refine ⟨by unfold slotsN; omega, ?_⟩
   have hg := hargs.get (i := t) (v := u) (v' := args'[t]) (by simpa using hu) (by simp)
   rw [Array.getD_eq_getD_getElem?, Array.getElem?_append_left (by simpa using hlt)]
   simpa [hlt] using hg
  ·rw [if_neg ht] at hu
   simp [Tr.get_e] at hu
theorem spec_of {P : Program} {vc : VCall} (hcall : VCallOk P vc) (hm : P.follows .mixedOrders = true) {f : FuncId} {fn : Func} {c : Code} (hf : P.funcs[f]? = some fn) (hc : fn.body = some c) {lt : List (Nat × List Nat)} {base : List Bool} {hp : Tr AObj} {args : List Value} {Post : Value → Tr AObj → Prop} (k : Nat)
  (h : vrun P vc (slotsN args fn) lt base (Good P (slotsN args fn) base (finOf P fn base.length Post)) (finOf P fn base.length Post) k (.code c) [] ⟨putArgs 0 args .e, hp, base.length⟩) : Spec P f base.length hp args Post := by
 intro W ρ w args' hrel hargs
 suffices hb : Calls P f args'.toArray w fun e w' => ∃ v hp' nx' v' ρ', Post v hp' ∧ e = .returned v' ∧ VR0 ρ'.fr v v' ∧ Rel ρ' W.bare hp' nx' w' ∧ StepG base.length ρ ρ' from hb.mono fun e w' ⟨v, hp', nx', v', ρ', g1, g2, g3, g4, g5⟩ => ⟨v, hp', nx', v', ρ', g1, g2, g3, g4.unbare, g5⟩
 refine calls_of_wp hf hc ?_
 exact vrun_sound (R := fun ρ' _ => StepG base.length ρ ρ') (Q := FinQ P fn W.bare base.length ρ Post) hcall hm (fun _ _ _ _ h k => h.step k)
  (fun b k st h ρ' a w hs hr => good_vloop h W.bare ρ _ (fun st hst ρ' a w hs hr => finOf_ok hst rfl hs hr) ρ' a w hs hr) (fun st hst ρ' a w hs hr => finOf_ok hst rfl hs hr) k (.code c) [] _ h ρ _ w (start_rel rfl hrel.bare hargs fn) (.refl _ _)
def Pure (P : Program) (f : FuncId) (args : List Value) (Post : Value → Prop) : Prop := Spec P f 0 .e args fun v _ => Post v
theorem Pure.call {P : Program} {f : FuncId} {args : List Value} {Post : Value → Prop} (h : Pure P f args Post) (hn : args.all nl = true) {W : Base} {ρ : Place} {hp : Tr AObj} {nx : Nat} {w : World} {args' : List Value} (hrel : Rel ρ W hp nx w) (hargs : VRL ρ args args') :
  Calls P f args'.toArray w fun e w' => ∃ v v' ρ', Post v ∧ e = .returned v' ∧ VR ρ' v v' ∧ VR0 ρ'.fr v v' ∧ Rel ρ' W hp nx w' ∧ Step ρ ρ' hp hp nx nx ∧ Below w.heap.size w w' := by
 have hargs1 : VRL ⟨fun _ => none, ρ.fr, ρ.gl⟩ args args' := .of hargs.len fun i v v' a b => by
  have h0 : VR0 ρ.fr v v' := nl_sound (List.all_eq_true.1 hn v (List.mem_of_getElem? a)) (hargs.get a b)
  exact VR0.lift (ρ := ⟨fun _ => none, ρ.fr, ρ.gl⟩) h0
 have hrel1 : Rel ⟨fun _ => none, ρ.fr, ρ.gl⟩ ⟨w, fun _ => False, ρ.fr, []⟩ .e 0 w := ⟨fun b x hb => (by cases hb), fun b o c s z ho => (by cases ho), fun b b' x x' o o' ho => (by cases ho), fun b _ => rfl, ⟨rfl, rfl, rfl, Nat.le_refl _, fun _ _ => rfl⟩, hrel.frz, fun b o c s z ho => (by cases ho), fun c ob hc => .inl hc⟩
 refine (h ⟨w, fun _ => False, ρ.fr, []⟩ _ w args' hrel1 hargs1).mono ?_
 rintro e w' ⟨v, hp', nx', v', ρ1, hP, rfl, hv, hr, hg⟩
 have old : ∀ c, c < w.heap.size → w'.heap[c]? = w.heap[c]? := fun c hc => hr.below.block c ⟨hc, fun h => h⟩
 have hsz : w.heap.size ≤ w'.heap.size := hr.below.size
 have lt : ∀ {c : Nat} {ob : Obj}, w.heap[c]? = some ob → c < w.heap.size := fun {c ob} hc => by
  rcases Nat.lt_or_ge c w.heap.size with h' | h'
  ·exact h'
  ·rw [Array.getElem?_eq_none h'] at hc; cases hc
 have hle : ρ.le ⟨ρ.pl, ρ1.fr, ρ1.gl⟩ := ⟨fun _ _ h => h, fun c x hc => hg.2 c x hc⟩
 refine ⟨v, v', ⟨ρ.pl, ρ1.fr, ρ1.gl⟩, hP, rfl, VR0.lift (ρ := ⟨ρ.pl, ρ1.fr, ρ1.gl⟩) hv, hv, ?_, ⟨hle, Nat.le_refl _, fun _ _ h => ⟨h, rfl⟩⟩, ⟨hr.below.os, hr.below.tape, hr.below.output, hsz, old⟩⟩
 refine ⟨fun b x hb => ⟨(hrel.dom b x hb).1, Nat.lt_of_lt_of_le (hrel.dom b x hb).2 hsz⟩, fun b o c s z ho hb => ?_, hrel.inj, hrel.fresh, ⟨hr.below.os.trans hrel.below.os, hr.below.tape.trans hrel.below.tape, hr.below.output.trans hrel.below.output, Nat.le_trans hrel.below.size hsz, fun k hk => ?_⟩, hr.frz, fun b o c s z ho hw hb => ?_, fun c ob hc => ?_⟩
 ·obtain ⟨ob, e1, e2⟩ := hrel.obj b o c s z ho hb
  exact ⟨ob, by rw [old c (lt e1)]; exact e1, e2.mono hle⟩
 ·rw [old k (Nat.lt_of_lt_of_le hk.1 hrel.below.size)]
  exact hrel.below.block k hk
 ·show ρ1.fr c = none
  cases hc : ρ1.fr c with
  | none => rfl
  | some ob =>
   have hcl := (hrel.dom b _ hb).2
   rcases hr.frn c ob hc with h1 | h1
   ·have := hrel.apart b o c s z ho hw hb
    have h2 : ρ.fr c = some ob := h1
    rw [this] at h2
    cases h2
   ·exact absurd ⟨hcl, fun h => h⟩ h1
 ·rcases hr.frn c ob hc with h1 | h1
  ·exact hrel.frn c ob h1
  ·refine .inr fun h2 => h1 ⟨Nat.lt_of_lt_of_le h2.1 hrel.below.size, fun h => h⟩
structure Ent where
 f : FuncId
 c : List Value → (Value → Prop) → Prop
def EntOk (P : Program) (e : Ent) : Prop := ∀ args Post, e.c args Post → Pure P e.f args Post
def entOf (f : FuncId) : List Ent → Option Ent
 | [] => none
 | e :: l => bif e.f.beq f then some e else entOf f l
theorem entOf_mem {f : FuncId} {e : Ent} : ∀ {l : List Ent}, entOf f l = some e → e ∈ l ∧ e.f = f
 | [], h => by simp [entOf] at h
 | x :: l, h => by
  simp only [entOf] at h
  cases hx : x.f.beq f with
  | true => rw [hx] at h; cases h; exact ⟨by simp, Nat.eq_of_beq_eq_true hx⟩
  | false => rw [hx, cond_false] at h; exact ⟨by simp [(entOf_mem h).1], (entOf_mem h).2⟩
def tabCall (tab : List Ent) (next : VCall) : VCall := fun f args hp nx K =>
 match entOf f tab with
 | some e => bif args.all nl then e.c args fun v => K v false hp nx else False
 | none => next f args hp nx K
theorem tabCall_ok {P : Program} {tab : List Ent} {next : VCall} (ht : ∀ e ∈ tab, EntOk P e) (hn : VCallOk P next) : VCallOk P (tabCall tab next) := by
 intro f args hp nx K h W ρ w args' hrel hargs
 unfold tabCall at h
 split at h
 ·rename_i e he
  obtain ⟨h1, rfl⟩ := entOf_mem he
  cases ha : args.all nl with
  | false => rw [ha] at h; exact h.elim
  | true =>
   rw [ha, cond_true] at h
   refine ((ht e h1 args _ h).call ha hrel hargs).mono ?_
   rintro e' w' ⟨v, v', ρ', hK, rfl, g1, _, g2, g3, _⟩
   exact ⟨v, false, hp, nx, v', ρ', hK, fun _ => rfl, rfl, g1, g2, g3⟩
 ·exact hn f args hp nx K h W ρ w args' hrel hargs
def noCall : VCall := fun _ _ _ _ _ => False
theorem noCall_ok {P : Program} : VCallOk P noCall := fun _ _ _ _ _ h => h.elim
def inlCall (P : Program) (inl : List FuncId) (next : VCall) : Nat → VCall
 | 0 => next
 | k + 1 => fun f args hp nx K => bif inl.contains f then match P.funcs[f]? with
   | some fn => match fn.body with
    | some c => vrun P (inlCall P inl next k) (slotsN args fn) [] [] (fun _ _ _ => False) (fun st => match ares P st.hp st.tm fn with | some v => K v true st.hp st.nx | none => False) 1000 (.code c) [] ⟨putArgs 0 args .e, hp, nx⟩
    | none => False
   | none => False
  else next f args hp nx K
theorem inlCall_ok {P : Program} (hm : P.follows .mixedOrders = true) {inl : List FuncId} {next : VCall} (hn : VCallOk P next) : ∀ k, VCallOk P (inlCall P inl next k)
 | 0 => hn
 | k + 1 => by
  intro f args hp nx K h W ρ w args' hrel hargs
  unfold inlCall at h
  cases hi : inl.contains f with
  | false => rw [hi] at h; exact hn f args hp nx K h W ρ w args' hrel hargs
  | true =>
   rw [hi, cond_true] at h
   split at h
   case h_2 => exact h.elim
   rename_i fn hf
   split at h
   case h_2 => exact h.elim
   rename_i c hc
   refine calls_of_wp hf hc ?_
   have fin : ∀ st, (match ares P st.hp st.tm fn with | some v => K v true st.hp st.nx | none => False) → ∀ ρ' a w', SRel ρ' W.bare (slotsN args fn) st a w' → Step ρ ρ' hp st.hp nx st.nx →
     a.defers = [] ∧ ∃ v', (results fn a.tmps).run P w' = .ok v' w' ∧ ∃ v c hp' nx' v'' ρ', K v c hp' nx' ∧ (c = false → hp' = hp) ∧ Ending.returned v' = .returned v'' ∧ VR ρ' v v'' ∧ Rel ρ' W hp' nx' w' ∧ Step ρ ρ' hp hp' nx nx' := by
    intro st hst ρ' a w' hs hr
    split at hst
    case h_2 => exact hst.elim
    rename_i v hv
    obtain ⟨v', r1, r2⟩ := ares_sound hs.rel hs.frame hv
    exact ⟨hs.frame.defers, v', r1, v, true, st.hp, st.nx, v', ρ', hst, fun e => (by cases e), rfl, r2, hs.rel.unbare, hr⟩
   exact vrun_sound (W := W.bare) (R := fun ρ' st => Step ρ ρ' hp st.hp nx st.nx) (inlCall_ok hm hn k) hm (fun _ _ _ _ h k => h.trans k)
    (fun b k st h ρ' a w hs hr => by
     unfold vloop at h
     split at h
     case h_2 => exact h.elim
     split at h
     case h_2 => exact h.elim
     split at h
     case h_2 => exact h.elim
     exact h.2.2.elim) (fun st hst ρ' a w hs hr => ⟨fin st hst ρ' a w hs hr, fin st hst ρ' a w hs hr⟩) 1000 (.code c) [] _ h ρ _ w (start_rel rfl hrel.bare hargs fn) (.refl _ _ _)
abbrev eqL (a b : List Value) : Prop := a = b
def trV {α : Type} (l : List (Nat × Option α)) : Tr α := l.foldl (fun t p => t.put p.1 p.2) .e
def stV (tm : List (Nat × Option Value)) (hp : List (Nat × Option AObj)) (nx : Nat) : AS := ⟨trV tm, trV hp, nx⟩
def fnAt (P : Program) (f : FuncId) : Func := (P.funcs[f]?).getD default
def codeOf (fn : Func) : Code := fn.body.getD .skip
def findL (r : Nat) : Code → List Fr → Option (Code × List Fr)
 | .seq x y, k => match findL r x (.seq y :: k) with
  | some p => some p
  | none => findL r y k
 | .cond _ x y, k => match findL r x k with
  | some p => some p
  | none => findL r y k
 | .block id b, k => findL r b (.block id :: k)
 | .loop b, k => match rid b with
  | some j => bif j.beq r then some (b, k) else findL r b (.loop b :: k)
  | none => none
 | _, _ => none
def lpC (P : Program) (f : FuncId) (r : Nat) : Code := ((findL r (codeOf (fnAt P f)) []).map (·.1)).getD .skip
def lpK (P : Program) (f : FuncId) (r : Nat) : List Fr := ((findL r (codeOf (fnAt P f)) []).map (·.2)).getD []
def vcE (P : Program) (vc : VCall) (f : FuncId) (lt : List (Nat × List Nat)) (base : List Bool) (hp : Tr AObj) (args : List Value) (H : Code → List Fr → AS → Prop) (Post : Value → Tr AObj → Prop) : Prop :=
 vrun P vc (slotsN args (fnAt P f)) lt base H (finOf P (fnAt P f) base.length Post) 3000 (.code (codeOf (fnAt P f))) [] ⟨putArgs 0 args .e, hp, base.length⟩
def vcL (P : Program) (vc : VCall) (f : FuncId) (na : List Value) (lt : List (Nat × List Nat)) (base : List Bool) (r : Nat) (st : AS) (H : Code → List Fr → AS → Prop) (Post : Value → Tr AObj → Prop) : Prop :=
 vrun P vc (slotsN na (fnAt P f)) lt base H (finOf P (fnAt P f) base.length Post) 3000 (.code (lpC P f r)) (.loop (lpC P f r) :: lpK P f r) st
def Ok (P : Program) (f : FuncId) (na : List Value) (base : List Bool) (Post : Value → Tr AObj → Prop) : Code → List Fr → AS → Prop :=
 Good P (slotsN na (fnAt P f)) base (finOf P (fnAt P f) base.length Post)
theorem spec_E {P : Program} {vc : VCall} (hcall : VCallOk P vc) (hm : P.follows .mixedOrders = true) {f : FuncId} (hf : (P.funcs[f]?).isSome = true) (hc : (fnAt P f).body.isSome = true) {lt : List (Nat × List Nat)} {base : List Bool} {hp : Tr AObj} {args : List Value} {Post : Value → Tr AObj → Prop}
  (h : vcE P vc f lt base hp args (Ok P f args base Post) Post) : Spec P f base.length hp args Post := by
 have hf' : P.funcs[f]? = some (fnAt P f) := by
  unfold fnAt
  cases hx : P.funcs[f]? with
  | none => rw [hx] at hf; cases hf
  | some x => rfl
 have hc' : (fnAt P f).body = some (codeOf (fnAt P f)) := by
  unfold codeOf
  cases hx : (fnAt P f).body with
  | none => rw [hx] at hc; cases hc
  | some x => rfl
 exact spec_of hcall hm hf' hc' 3000 h
theorem pure_E {P : Program} {vc : VCall} (hcall : VCallOk P vc) (hm : P.follows .mixedOrders = true) {f : FuncId} (hf : (P.funcs[f]?).isSome = true) (hc : (fnAt P f).body.isSome = true) {lt : List (Nat × List Nat)} {args : List Value} {Post : Value → Prop}
  (h : vcE P vc f lt [] .e args (Ok P f args [] fun v _ => Post v) fun v _ => Post v) : Pure P f args Post := spec_E hcall hm hf hc h
theorem ok_L {P : Program} {vc : VCall} (hcall : VCallOk P vc) (hm : P.follows .mixedOrders = true) {f : FuncId} {na : List Value} {lt : List (Nat × List Nat)} {base : List Bool} {r : Nat} {st : AS} {Post : Value → Tr AObj → Prop}
  (h : vcL P vc f na lt base r st (Ok P f na base Post) Post) : Ok P f na base Post (lpC P f r) (lpK P f r) st := good_round hcall hm 3000 h
def vcP (P : Program) (vc : VCall) (f : FuncId) (lt : List (Nat × List Nat)) (args : List Value) (H : Code → List Fr → AS → Prop) (Post : Value → Prop) : Prop := vcE P vc f lt [] .e args H fun v _ => Post v
def vcLP (P : Program) (vc : VCall) (f : FuncId) (na : List Value) (lt : List (Nat × List Nat)) (r : Nat) (st : AS) (H : Code → List Fr → AS → Prop) (Post : Value → Prop) : Prop := vcL P vc f na lt [] r st H fun v _ => Post v
def OkAt (P : Program) (f : FuncId) (na : List Value) (Post : Value → Prop) : Code → List Fr → AS → Prop := Ok P f na [] fun v _ => Post v
theorem pure_P {P : Program} {vc : VCall} (hcall : VCallOk P vc) (hm : P.follows .mixedOrders = true) {f : FuncId} (hf : (P.funcs[f]?).isSome = true) (hc : (fnAt P f).body.isSome = true) (lt : List (Nat × List Nat)) {args : List Value} {Post : Value → Prop}
  {X : Prop} (e : vcP P vc f lt args (OkAt P f args Post) Post = X) (h : X) : Pure P f args Post := pure_E (lt := lt) hcall hm hf hc (Eq.mpr e h)
theorem ok_P {P : Program} {vc : VCall} (hcall : VCallOk P vc) (hm : P.follows .mixedOrders = true) {f : FuncId} {na : List Value} (lt : List (Nat × List Nat)) {r : Nat} {st : AS} {Post : Value → Prop}
  {X : Prop} (e : vcLP P vc f na lt r st (OkAt P f na Post) Post = X) (h : X) : OkAt P f na Post (lpC P f r) (lpK P f r) st := ok_L (lt := lt) hcall hm (Eq.mpr e h)
theorem of_b {Post : Value → Prop} {b c : Bool} (h : Post (.bool b)) (e : b = c) : Post (.bool c) := e ▸ h
theorem pure_yields {P : Program} (hm : P.follows .mixedOrders = true) {k f : Nat} (h : yields P k f = true) : EntOk P ⟨f, fun args Post => args = [] ∧ Post (.bool true)⟩ := by
 rintro args Post ⟨rfl, hP⟩
 unfold yields at h
 split at h
 case h_2 => cases h
 rename_i b st hc
 subst h
 intro W ρ w args' hrel hargs
 refine ((acode_sound hm k).2.2 W f [] .e 0 (.bool true) st.1 st.2 hc ρ w args' hrel hargs).mono ?_
 rintro e w' ⟨v', ρ', rfl, h1, h2, h3⟩
 exact ⟨.bool true, st.1, st.2, v', ρ', hP, rfl, nl1_sound (by rfl) h1, h2, ⟨fun b x hb => by omega, h3.le.2⟩⟩
abbrev HT : Type := Code → List Fr → AS → Prop
abbrev PV : Type := Value → Prop
abbrev PI : Type := Value → List (List Value) → Prop
def hpOf (conts : List (List Value)) : Tr AObj := putObjs 0 (conts.map fun l => some (.cells l true)) .e
theorem hpOf_get (conts : List (List Value)) (i : Nat) : (hpOf conts).get i = (conts[i]?).map fun l => .cells l true := by
 unfold hpOf
 rw [putObjs_get]
 simp only [Nat.zero_le, true_and, List.length_map, Nat.zero_add, Nat.sub_zero, List.getElem?_map]
 by_cases h : i < conts.length
 ·rw [if_pos h, List.getElem?_eq_getElem h]; rfl
 ·rw [if_neg h, List.getElem?_eq_none (by omega)]; exact Tr.get_e i
def outs (hp : Tr AObj) : Nat → Nat → Option (List (List Value))
 | _, 0 => some []
 | i, n + 1 => match hp.get i with
  | some (.cells l true) => match outs hp (i + 1) n with
   | some ls => some (l :: ls)
   | none => none
  | _ => none
theorem outs_get {hp : Tr AObj} : ∀ {n i : Nat} {ls : List (List Value)}, outs hp i n = some ls → ls.length = n ∧ ∀ (j : Nat) (l : List Value), ls[j]? = some l → hp.get (i + j) = some (.cells l true)
 | 0, i, ls, h => by simp only [outs] at h; cases h; exact ⟨rfl, fun j l hj => by simp at hj⟩
 | n + 1, i, ls, h => by
  simp only [outs] at h
  split at h
  case h_2 => cases h
  rename_i l hl
  split at h
  case h_2 => cases h
  rename_i ls0 h0
  cases h
  obtain ⟨g1, g2⟩ := outs_get h0
  refine ⟨by simp [g1], fun j x hx => ?_⟩
  cases j with
  | zero => simp at hx; subst hx; exact hl
  | succ j => rw [show i + (j + 1) = i + 1 + j by omega]; exact g2 j x (by simpa using hx)
def putConts : List (Nat × Bool) → List (List Value) → Tr AObj → Tr AObj
 | (b, _) :: l, c :: cs, hp => putConts l cs (hp.put b (some (.cells c true)))
 | _, _, hp => hp
theorem putConts_get : ∀ {l : List (Nat × Bool)} {cs : List (List Value)} {hp : Tr AObj}, nodupB l = true → cs.length = l.length → ∀ b, (∀ (i : Nat) (k : Bool) (c : List Value), l[i]? = some (b, k) → cs[i]? = some c → (putConts l cs hp).get b = some (.cells c true)) ∧ (memB b l = false → (putConts l cs hp).get b = hp.get b)
 | [], cs, hp, _, hl, b => by
  cases cs with
  | nil => exact ⟨fun i k c hi => by simp at hi, fun _ => rfl⟩
  | cons c cs => simp at hl
 | (x, k0) :: l, [], hp, _, hl, b => by simp at hl
 | (x, k0) :: l, c :: cs, hp, hn, hl, b => by
  simp only [nodupB] at hn
  cases hm : memB x l with
  | true => rw [hm] at hn; cases hn
  | false =>
   rw [hm, cond_false] at hn
   obtain ⟨g1, g2⟩ := putConts_get (hp := hp.put x (some (.cells c true))) hn (by simpa using hl) b
   simp only [putConts]
   refine ⟨fun i k c' hi hc => ?_, fun hb => ?_⟩
   ·cases i with
    | zero =>
     simp at hi hc
     obtain ⟨rfl, rfl⟩ := hi
     subst hc
     rw [g2 hm, Tr.get_put, if_pos rfl]
    | succ i => exact g1 i k c' (by simpa using hi) (by simpa using hc)
   ·simp only [memB] at hb
    cases hx : x.beq b with
    | true => rw [hx] at hb; cases hb
    | false =>
     rw [hx, cond_false] at hb
     rw [g2 hb, Tr.get_put, if_neg (fun e => by subst e; simp at hx)]
theorem addB_mem {b b' : Nat} {k k' : Bool} {l : List (Nat × Bool)} (h : (b', k') ∈ addB b k l) : (b', k') ∈ l ∨ b' = b := by
 unfold addB at h
 cases hm : memB b l with
 | true => rw [hm] at h; exact .inl h
 | false =>
  rw [hm, cond_false] at h
  rcases List.mem_append.1 h with h | h
  ·exact .inl h
  ·simp at h; exact .inr h.1
theorem memB_mem {b : Nat} : ∀ {l : List (Nat × Bool)}, memB b l = true → ∃ (i : Nat) (k : Bool), l[i]? = some (b, k)
 | [], h => by cases h
 | x :: l, h => by
  simp only [memB] at h
  cases hx : x.1.beq b with
  | true => exact ⟨0, x.2, by simp [← Nat.eq_of_beq_eq_true hx]⟩
  | false =>
   rw [hx, cond_false] at h
   obtain ⟨i, k, hi⟩ := memB_mem h
   exact ⟨i + 1, k, by simpa using hi⟩
theorem Rel.later {ρ : Place} {W : Base} {hp : Tr AObj} {nx : Nat} {w w' : World} (h : Rel ρ W hp nx w) (hb : Below w.heap.size w w') : Rel ρ W hp nx w' := by
 have lt : ∀ {c : Nat} {ob : Obj}, w.heap[c]? = some ob → c < w.heap.size := fun {c ob} hc => by
  rcases Nat.lt_or_ge c w.heap.size with h' | h'
  ·exact h'
  ·rw [Array.getElem?_eq_none h'] at hc; cases hc
 refine ⟨fun b x hx => ⟨(h.dom b x hx).1, Nat.lt_of_lt_of_le (h.dom b x hx).2 hb.size⟩, fun b o c s z ho hx => ?_, h.inj, h.fresh, ⟨hb.os.trans h.below.os, hb.tape.trans h.below.tape, hb.output.trans h.below.output, Nat.le_trans h.below.size hb.size, fun k hk => ?_⟩, fun c ob hc => ?_, h.apart, h.frn⟩
 ·obtain ⟨ob, e1, e2⟩ := h.obj b o c s z ho hx
  exact ⟨ob, by rw [hb.block c (lt e1)]; exact e1, e2⟩
 ·rw [hb.block k (Nat.lt_of_lt_of_le hk.1 h.below.size)]
  exact h.below.block k hk
 ·have := h.frz c ob hc
  rw [hb.block c (lt this)]
  exact this
def tabCallF (P : Program) (tab : List Ent) (next : VCall) : VCall := fun f args hp nx K =>
 match entOf f tab with
 | some e => match P.funcs[f]? with
  | some fn => match frzTs P 0 fn.params.toList args hp with
   | some (us, hp', ob) => bif us.all nl then ob ∧ e.c us fun v => Bool.rec (motive := fun _ => Prop) (K v true hp' nx) (K v false hp nx) (closed v) else False
   | none => False
  | none => False
 | none => next f args hp nx K
theorem tabCallF_ok {P : Program} {tab : List Ent} {next : VCall} (ht : ∀ e ∈ tab, EntOk P e) (hnx : VCallOk P next) : VCallOk P (tabCallF P tab next) := by
 intro f args hp nx K h W ρ w args' hrel hargs
 unfold tabCallF at h
 split at h
 case h_2 => exact hnx f args hp nx K h W ρ w args' hrel hargs
 rename_i e he
 obtain ⟨h1, rfl⟩ := entOf_mem he
 split at h
 case h_2 => exact h.elim
 split at h
 case h_2 => exact h.elim
 rename_i us hp' ob hf
 cases ha : us.all nl with
 | false => rw [ha] at h; exact h.elim
 | true =>
  rw [ha, cond_true] at h
  obtain ⟨hob, hc⟩ := h
  obtain ⟨ρ1, g1, g2, g3, g4⟩ := frzTs_sound hrel hargs hf hob
  have hargs1 : VRL ρ1 us args' := .of g3 fun i v v' a b => VR0.lift (g4 i v v' a b)
  refine ((ht e h1 us _ hc).call ha g1 hargs1).mono ?_
  rintro e' w' ⟨v, v', ρ2, hK, rfl, q1, q2, q3, q4, q5⟩
  cases hcl : closed v with
  | true =>
   rw [hcl] at hK
   have e : v' = v := closed_eq hcl q1
   exact ⟨v, false, hp, nx, v', ρ, hK, fun _ => rfl, rfl, by rw [e]; exact closed_refl hcl, hrel.later q5, .refl _ _ _⟩
  | false =>
   rw [hcl] at hK
   exact ⟨v, true, hp', nx, v', ρ2, hK, fun e => (by cases e), rfl, q1, q3, g2.trans q4⟩
class Enc (α : Type) where
 sz : Nat
 cells : α → List Value
 len : ∀ a, (cells a).length = sz
 nl : ∀ a, NLs (cells a)
def elt : List Value → Value
 | [v] => v
 | l => .agg l.toArray
theorem elt_cells : ∀ {l : List Value}, NLs l → (elt l).cells = l.toArray
 | [], _ => rfl
 | [v], h => by
  have := h v (by simp)
  cases v <;> first | rfl | (simp [nl1] at this)
 | _ :: _ :: _, _ => rfl
def encL {α : Type} [Enc α] (l : List α) : Array Value := (l.map fun a => elt (Enc.cells a)).toArray
instance instEncList {α : Type} [Enc α] : Enc (List α) where
 sz := 1
 cells l := [tree (Enc.sz α) l.length (encL l)]
 len _ := rfl
 nl l := by intro v hv; simp at hv; subst hv; rfl
instance : Enc Int where
 sz := 1
 cells n := [.int .i64 n]
 len _ := rfl
 nl n := by intro v hv; simp at hv; subst hv; rfl
instance : Enc ByteArray where
 sz := 1
 cells s := [.string s]
 len _ := rfl
 nl n := by intro v hv; simp at hv; subst hv; rfl
instance : Enc Bool where
 sz := 1
 cells b := [.bool b]
 len _ := rfl
 nl n := by intro v hv; simp at hv; subst hv; rfl
instance {α β : Type} [Enc α] [Enc β] : Enc (α × β) where
 sz := Enc.sz α + Enc.sz β
 cells p := Enc.cells p.1 ++ Enc.cells p.2
 len p := by rw [List.length_append, Enc.len, Enc.len]
 nl p := by
  intro v hv
  rcases List.mem_append.1 hv with h | h
  ·exact Enc.nl p.1 v h
  ·exact Enc.nl p.2 v h
theorem cellAt_encL {α : Type} [Enc α] {l : List α} {i j : Nat} {a : α} (h : l[i]? = some a) : cellAt (encL l) i j = ((Enc.cells a)[j]?).getD undef := by
 unfold cellAt encL
 simp [Array.getD_eq_getD_getElem?, h, elt_cells (Enc.nl a)]
theorem cellAt_encL' {α : Type} [Enc α] {l : List α} {i j : Nat} (h : i < l.length) : cellAt (encL l) i j = ((Enc.cells l[i])[j]?).getD undef := cellAt_encL (by simp)
theorem toI_int (k : IntKind) (n : Int) : toI (.int k n) = n := rfl
theorem toS_string (s : ByteArray) : toS (.string s) = s := rfl
theorem toN_tree (sz n : Nat) (els : Array Value) : toN (tree sz n els) = n := rfl
theorem toE_tree (sz n : Nat) (els : Array Value) : toE (tree sz n els) = els := rfl
abbrev OkP (f : FuncId) (na : List Value) (r : Nat) (Post : Value → Prop) (st : AS) : Prop := OkAt Tryz.prog f na Post (lpC Tryz.prog f r) (lpK Tryz.prog f r) st
theorem mixed : Tryz.prog.follows .mixedOrders = true := by kernel_rfl
end Go.Proofs.YtngginofamlkkaaGreatDoor
noncomputable section
namespace Go.Proofs.YtngginofamlkkaaGreatDoor
open Go Go.RowKit Go.Shelf Go.Lib
set_option maxRecDepth 100000
def cloneBody (nm : String) (ρ : Ren) : Func := { Body2.n15 ρ with name := nm, targs := #[ρ.t 22, ρ.t 3] }
theorem cloneBody_ntmps (nm : String) (ρ : Ren) : (cloneBody nm ρ).ntmps = 8 := Body2.n15_ntmps ρ
structure CloneT (P : Program) (nm : String) (ρ : Ren) (i0 : TypeInfo) (z : Value) (sz bytes : Nat) : Prop where
 mixed : P.follows .mixedOrders = true
 f15 : P.funcs[ρ.f 15]? = some (cloneBody nm ρ)
 t4 : P.underlying (ρ.t 4) = some (TypeDesc.bool)
 a4 : ∀ w, (isAgg (ρ.t 4)).run P w = .ok false w
 z4 : ∀ w, (Go.sizeOf (ρ.t 4)).run P w = .ok 1 w
 v4 : ∀ w, (zeroValue (ρ.t 4)).run P w = .ok (Value.bool false) w
 t22 : P.underlying (ρ.t 22) = some (TypeDesc.slice (ρ.t 3))
 a22 : ∀ w, (isAgg (ρ.t 22)).run P w = .ok false w
 z22 : ∀ w, (Go.sizeOf (ρ.t 22)).run P w = .ok 1 w
 v22 : ∀ w, (zeroValue (ρ.t 22)).run P w = .ok (Value.slice none 0 0) w
 hi : P.info? (ρ.t 3) = some i0
 hz0 : i0.zero = some z
 hz1 : i0.size = sz
 hz2 : i0.bytes = bytes
 hzc : z.cells.size = sz
 z3 : ∀ w, (Go.sizeOf (ρ.t 3)).run P w = .ok sz w
 pos : 0 < sz
 bpos : 0 < bytes
def CloneFn (P : Program) (f : FuncId) (sz bytes : Nat) : Prop := ∀ (a : Option Addr) (n c : Nat) (cells : List Value) (w : World), cells.length = n * sz → n * bytes ≤ 140737488355328 →
 (∀ (j : Nat) (u : Value), cells[j]? = some u → ∃ ad, a = some ad ∧ w.cell? (ad.add j) = some u) → (∀ u ∈ cells, u.oneCell' = true) →
 Calls P f #[.slice a n c] w fun e w' => ∃ v', e = .returned v' ∧ Below w.heap.size w w' ∧ ((n = 0 ∧ ∃ a' c', v' = .slice a' 0 c') ∨ (0 < n ∧ ∃ t, w'.ownsRow w.heap.size t sz v' n cells))
section
variable {P : Program} {nm : String} {ρ : Ren} {i0 : TypeInfo} {z : Value} {sz bytes : Nat}
set_option maxHeartbeats 2000000 in
theorem clone_row (L : CloneT P nm ρ i0 z sz bytes) (ad : Addr) (n c : Nat) (cells : List Value) (w : World) (hlen : cells.length = n * sz) (hbig : n * bytes ≤ 140737488355328)
  (hc : ∀ (j : Nat) (u : Value), cells[j]? = some u → w.cell? (ad.add j) = some u) (h1 : ∀ u ∈ cells, u.oneCell' = true) :
  Calls P (ρ.f 15) #[.slice (some ad) n c] w fun e w' => ∃ v', e = .returned v' ∧ w'.ownsRow w.heap.size (ρ.t 3) sz v' n cells ∧ Below w.heap.size w w' := by
 have mixed := L.mixed; have t4 := L.t4; have a4 := L.a4; have z4 := L.z4; have v4 := L.v4; have t22 := L.t22; have a22 := L.a22; have z22 := L.z22; have v22 := L.v22
 have hi := L.hi; have hz0 := L.hz0; have hz1 := L.hz1; have hz2 := L.hz2; have hzc := L.hzc; have pos := L.pos; have z3 := L.z3
 have room : (0 + n) * bytes ≤ 140737488355328 := by
  rw [Nat.zero_add]
  exact hbig
 have hn : n ≤ 140737488355328 := Nat.le_trans (Nat.le_mul_of_pos_right n L.bpos) hbig
 have q22 : ∀ (w : World) (a : Option Addr) (n c n' c' : Nat), (binOp .eql (ρ.t 22) (.slice a n c) (.slice none n' c')).run P w = .ok (.bool a.isNone) w := fun w a n c n' c' => Lib.run_eql_slice_nil w _ _ a n c n' c' L.t22
 have u22 : ∀ w, Sem.run P (underlying (ρ.t 22)) w = .ok (TypeDesc.slice (ρ.t 3)) w := run_underlying t22
 have A : Aside (∀ (j : Nat) (u : Value), cells[j]? = some u → w.cell? (ad.add j) = some u) := hc
 have B : Aside (∀ u ∈ cells, u.oneCell' = true) := h1
 clear hc h1
 go_enter L.f15, cloneBody_ntmps nm ρ
 go_wp2_with (at_builtin; refine wpList_append_own _ rfl _ _ (ρ.t 22) rfl w.heap.size (ρ.t 3) i0 z sz bytes t22 hi hz0 hz1 hz2 hzc pos _ _ _ rfl (World.ownsRow_made w #[] 0 (Nat.le_refl _) (Nat.zero_le _) (by simp)) ad n c cells rfl ?qc1 ?qc2 ?qc3 ?qc4 ?qc5 ?qc6 ?_)
 case qc1 => exact hlen
 case qc2 =>
  intro j u hj
  exact Lib.cell?_alloc_some _ (A.out j u hj)
 case qc3 => exact B.out
 case qc4 => unfold maxLen; omega
 case qc5 => exact room
 case qc6 => simp
 intro v' w1 hown hgrow hnil
 go_wp2
 go_ret
 refine ⟨v', rfl, by simpa using hown, ?_⟩
 exact ((Below.refl _ w).alloc (Nat.le_refl _) _).grown hgrow (by simp) (by intro k hk; simp [Value.ownBlock] at hk; omega)
set_option maxHeartbeats 1000000 in
theorem clone_nil (L : CloneT P nm ρ i0 z sz bytes) (n c : Nat) (w : World) :
  Calls P (ρ.f 15) #[.slice none n c] w fun e w' => e = .returned (.slice none 0 0) ∧ w' = w := by
 have mixed := L.mixed; have t4 := L.t4; have a4 := L.a4; have z4 := L.z4; have v4 := L.v4; have t22 := L.t22; have a22 := L.a22; have z22 := L.z22; have v22 := L.v22
 have q22 : ∀ (w : World) (a : Option Addr) (n c n' c' : Nat), (binOp .eql (ρ.t 22) (.slice a n c) (.slice none n' c')).run P w = .ok (.bool a.isNone) w := fun w a n c n' c' => Lib.run_eql_slice_nil w _ _ a n c n' c' L.t22
 go_enter L.f15, cloneBody_ntmps nm ρ
 go_wp2
 go_ret
 exact ⟨rfl, rfl⟩
theorem ownsRow_len {w : World} {b : Nat} {t : TypeId} {v : Value} {cells : List Value} (h : w.ownsRow b t sz v 0 cells) : ∃ a' c', v = .slice a' 0 c' := by
 obtain ⟨_, hown⟩ := h
 rcases hown with ⟨rfl, _⟩ | ⟨g, cap', cur, rfl, _⟩
 ·exact ⟨_, _, rfl⟩
 ·exact ⟨_, _, rfl⟩
theorem clone_fn (L : CloneT P nm ρ i0 z sz bytes) : CloneFn P (ρ.f 15) sz bytes := by
 intro a n c cells w hlen hn hc h1
 cases a with
 | none =>
  have h0 : n = 0 := by
   cases n with
   | zero => rfl
   | succ n =>
    have := L.pos
    have hl : 0 < cells.length := by
     rw [hlen, Nat.succ_mul]
     omega
    obtain ⟨ad, e, _⟩ := hc 0 _ (List.getElem?_eq_getElem hl)
    cases e
  subst h0
  refine (clone_nil L 0 c w).mono ?_
  rintro e w' ⟨rfl, rfl⟩
  exact ⟨_, rfl, Below.refl _ _, .inl ⟨rfl, _, _, rfl⟩⟩
 | some ad =>
  refine (clone_row L ad n c cells w hlen hn (fun j u hj => ?_) h1).mono ?_
  ·obtain ⟨_, e, h⟩ := hc j u hj
   cases e
   exact h
  ·rintro e w' ⟨v', rfl, ho, hb⟩
   refine ⟨v', rfl, hb, ?_⟩
   rcases Nat.eq_zero_or_pos n with rfl | hp
   ·exact .inl ⟨rfl, ownsRow_len ho⟩
   ·exact .inr ⟨hp, _, ho⟩
end
end Go.Proofs.YtngginofamlkkaaGreatDoor

noncomputable section
namespace Go.Proofs.YtngginofamlkkaaGreatDoor
open Go Go.RowKit
set_option maxRecDepth 100000
set_option maxHeartbeats 8000000
theorem nl1_one {fr : Nat → Option Obj} {v v' : Value} (h : nl1 v = true) (hv : VR0 fr v v') : v'.oneCell' = true := by
 cases hv <;> first | rfl | cases h
theorem tree_arg {ρ : Place} {W : Base} {hp : Tr AObj} {nx : Nat} {w : World} (hrel : Rel ρ W hp nx w) {sz n : Nat} {els : Array Value} {x' : Value} (hx : VR ρ (tree sz n els) x') :
  ∃ (a : Option Addr) (cap : Nat) (cells : List Value), x' = .slice a n cap ∧ els.size = n ∧ cells.length = n * sz ∧ (∀ (j : Nat) (u : Value), cells[j]? = some u → ∃ ad, a = some ad ∧ w.cell? (ad.add j) = some u) ∧
   (∀ (i : Nat) (u : Value), els[i]? = some u → u.cells.size = sz) ∧ ∀ (i j : Nat) (u v v' : Value), els[i]? = some u → u.cells[j]? = some v → cells[i * sz + j]? = some v' → VR0 ρ.fr v v' := by
 cases hx with
 | @tree _ _ cap c o _ cs t fz hb h1 h2 h3 h4 h5 =>
  have hheap := hrel.frz c _ hb
  have hl : ((cs.toList.drop o).take (n * sz)).length = n * sz := by
   rw [List.length_take, List.length_drop, Array.length_toList]
   omega
  have get : ∀ (j : Nat) (u : Value), ((cs.toList.drop o).take (n * sz))[j]? = some u → cs[o + j]? = some u := fun j u hj => by
   have hlt : j < n * sz := by
    rcases Nat.lt_or_ge j (n * sz) with h | h
    ·exact h
    ·rw [List.getElem?_eq_none (by omega)] at hj; cases hj
   rw [List.getElem?_take, if_pos hlt, List.getElem?_drop, Array.getElem?_toList] at hj
   exact hj
  refine ⟨_, cap, _, rfl, h1, hl, fun j u hj => ⟨_, rfl, ?_⟩, h4, fun i j u v v' hu hv hv' => h5 i j u v v' hu hv ?_⟩
  ·have e := get j u hj
   have ha : (⟨c, o, none⟩ : Addr).add j = ⟨c, o + j, none⟩ := by
    unfold Addr.add
    split
    ·rename_i h0
     subst h0
     rfl
    ·rfl
   rw [ha]
   unfold World.cell?
   dsimp only
   rw [hheap]
   exact e
  ·rw [Nat.add_assoc]
   exact get _ _ hv'
 | treeNil _ a cap =>
  refine ⟨a, cap, [], rfl, rfl, by simp, fun j u hj => by simp at hj, fun i u hu => by simp at hu, fun i j u v v' hu => by simp at hu⟩
theorem cells_one {fr : Nat → Option Obj} {sz n : Nat} {els : Array Value} {cells : List Value} (he : els.size = n) (hlen : cells.length = n * sz) (h4 : ∀ (i : Nat) (u : Value), els[i]? = some u → u.cells.size = sz)
  (h5 : ∀ (i j : Nat) (u v v' : Value), els[i]? = some u → u.cells[j]? = some v → cells[i * sz + j]? = some v' → VR0 fr v v') (hnl : ∀ (i j : Nat) (u v : Value), els[i]? = some u → u.cells[j]? = some v → nl1 v = true) : ∀ u ∈ cells, u.oneCell' = true := fun x hx => by
 obtain ⟨m, hm, rfl⟩ := List.mem_iff_getElem.1 hx
 have hsz : 0 < sz := by
  rcases Nat.eq_zero_or_pos sz with h | h
  ·rw [h, Nat.mul_zero] at hlen; omega
  ·exact h
 have hi : m / sz < els.size := by
  rw [he, Nat.div_lt_iff_lt_mul hsz]
  omega
 have hj := Nat.mod_lt m hsz
 have hu : els[m / sz]? = some els[m / sz] := Array.getElem?_eq_getElem hi
 have hs := h4 _ _ hu
 have hv : (els[m / sz]).cells[m % sz]? = some ((els[m / sz]).cells[m % sz]'(by omega)) := Array.getElem?_eq_getElem (by omega)
 refine nl1_one (hnl _ _ _ _ hu hv) (h5 _ _ _ _ _ hu hv ?_)
 have e : m / sz * sz + m % sz = m := by rw [Nat.mul_comm]; exact Nat.div_add_mod m sz
 rw [e]
 exact List.getElem?_eq_getElem hm
def c_cloneT (α : Type) [Enc α] (bytes : Nat) (args : List Value) (Post : Value → Prop) : Prop := ∃ l : List α, args = [tree (Enc.sz α) l.length (encL l)] ∧ l.length * bytes ≤ 140737488355328 ∧ Post (tree (Enc.sz α) l.length (encL l))
theorem encL_get {α : Type} [Enc α] {l : List α} {i : Nat} {u : Value} (h : (encL l)[i]? = some u) : ∃ b, l[i]? = some b ∧ u = elt (Enc.cells b) := by
 unfold encL at h
 simp only [List.getElem?_toArray, List.getElem?_map, Option.map_eq_some_iff] at h
 obtain ⟨b, h1, h2⟩ := h
 exact ⟨b, h1, h2.symm⟩
theorem encL_nl {α : Type} [Enc α] {l : List α} {i j : Nat} {u v : Value} (h : (encL l)[i]? = some u) (hv : u.cells[j]? = some v) : nl1 v = true := by
 obtain ⟨b, _, rfl⟩ := encL_get h
 rw [elt_cells (Enc.nl b), List.getElem?_toArray] at hv
 exact Enc.nl b v (List.mem_of_getElem? hv)
theorem freezeOwn {ρ : Place} {W : Base} {w w' : World} (h : Rel ρ W .e 0 w') {g : Nat} {ob : Obj} (hg : w.heap.size ≤ g) (hw : W.w.heap.size ≤ w.heap.size) (hf : ∀ x, ρ.fr g = some x → False) (ho : w'.heap[g]? = some ob) :
  Rel (ρ.freeze g ob) W .e 0 w' ∧ (ρ.freeze g ob).fr g = some ob ∧ StepG 0 ρ (ρ.freeze g ob) := by
 have hn : ρ.fr g = none := by
  cases hx : ρ.fr g with
  | none => rfl
  | some x => exact (hf x hx).elim
 have key : ∀ c x, (ρ.freeze g ob).fr c = some x → ρ.fr c = some x ∨ (c = g ∧ x = ob) := fun c x hc => by
  have hc : (match ρ.fr c with | some o => some o | none => if c = g then some ob else none) = some x := hc
  cases hx : ρ.fr c with
  | some y => rw [hx] at hc; exact .inl hc
  | none =>
   rw [hx] at hc
   dsimp only at hc
   split at hc
   ·cases hc; exact .inr ⟨by assumption, rfl⟩
   ·cases hc
 have gg : (ρ.freeze g ob).fr g = some ob := by
  show (match ρ.fr g with | some o => some o | none => if g = g then some ob else none) = _
  rw [hn]
  dsimp only
  rw [if_pos rfl]
 have le : ∀ c x, ρ.fr c = some x → (ρ.freeze g ob).fr c = some x := fun c x hc => by
  show (match ρ.fr c with | some o => some o | none => if c = g then some ob else none) = _
  rw [hc]
 have he : ∀ b, (Tr.e : Tr AObj).get b = none := fun b => by simp [Tr.get]
 refine ⟨⟨h.dom, fun b o c s z hb => (by rw [he] at hb; cases hb), fun b b' x x' o o' hb => (by rw [he] at hb; cases hb), h.fresh, h.below, fun c x hc => ?_, fun b o c s z hb => (by rw [he] at hb; cases hb), fun c x hc => ?_⟩, gg, ⟨fun b x hb => by omega, le⟩⟩
 ·rcases key c x hc with h1 | ⟨rfl, rfl⟩
  ·exact h.frz c x h1
  ·exact ho
 ·rcases key c x hc with h1 | ⟨rfl, rfl⟩
  ·exact h.frn c x h1
  ·exact .inr fun ho => by have := ho.1; omega
theorem ok_cloneT {α : Type} [Enc α] {bytes : Nat} {P : Program} {f : FuncId} (hf : CloneFn P f (Enc.sz α) bytes) : EntOk P ⟨f, c_cloneT α bytes⟩ := by
 rintro args Post ⟨l, rfl, hl, h⟩
 intro W ρ w args' hrel hargs
 cases hargs with
 | cons hv hnil =>
 cases hnil
 obtain ⟨a, cap, cells, rfl, h1, hlen, hcell, h4, h5⟩ := tree_arg hrel hv
 refine (hf a l.length cap cells w hlen hl hcell (cells_one h1 hlen h4 h5 fun i j u v hu hv => encL_nl hu hv)).mono ?_
 rintro e w' ⟨v', rfl, hb, hr⟩
 have hr1 := hrel.later hb
 rcases hr with ⟨h0, a', c', rfl⟩ | ⟨h0, t, _, hown⟩
 ·have l0 : l = [] := List.eq_nil_of_length_eq_zero h0
  subst l0
  exact ⟨_, .e, 0, _, ρ, h, rfl, .treeNil _ _ _, hr1, .refl _ _⟩
 ·rcases hown with ⟨_, h00⟩ | ⟨g, cap', cur, rfl, hg, hcur, hn, hcap, hsz, htk⟩
  ·omega
  obtain ⟨r1, r2, r3⟩ := freezeOwn hr1 hg hrel.below.size (fun x hx => by
   have := hrel.frz g x hx
   rw [Array.getElem?_eq_none hg] at this
   cases this) hcur
  have hcs : l.length * Enc.sz α ≤ cur.size := by rw [hsz]; exact Nat.mul_le_mul_right _ hn
  refine ⟨tree (Enc.sz α) l.length (encL l), .e, 0, _, _, h, rfl, VR0.tree r2 h1 hn (by omega) h4 (fun i j u v v' hu hv hv' => ?_), r1, r3⟩
  refine VR0.mono (fun c x hc => r3.2 c x hc) (h5 i j u v v' hu hv ?_)
  have hi : i < l.length := by
   rw [← h1]
   exact (Array.getElem?_eq_some_iff.1 hu).1
  have hj : j < Enc.sz α := by
   rw [← h4 i u hu]
   exact (Array.getElem?_eq_some_iff.1 hv).1
  have hlt : i * Enc.sz α + j < l.length * Enc.sz α := by
   have := Nat.mul_le_mul_right (Enc.sz α) (show i + 1 ≤ l.length by omega)
   rw [Nat.succ_mul] at this
   omega
  rw [← htk, List.getElem?_take, if_pos hlt, Array.getElem?_toList]
  rw [Nat.zero_add] at hv'
  exact hv'
def cloneOf (f : FuncId) : List (FuncId × Nat × Nat) → Option (Nat × Nat)
 | [] => none
 | (g, sz) :: l => bif Nat.beq f g then some sz else cloneOf f l
theorem cloneOf_mem {f : FuncId} {sz : Nat × Nat} : ∀ {l : List (FuncId × Nat × Nat)}, cloneOf f l = some sz → (f, sz) ∈ l
 | [], h => by cases h
 | (g, s) :: l, h => by
  unfold cloneOf at h
  cases hb : Nat.beq f g with
  | true =>
   rw [hb, cond_true] at h
   cases h
   have : f = g := Nat.eq_of_beq_eq_true hb
   subst this
   simp
  | false =>
   rw [hb, cond_false] at h
   exact List.mem_cons_of_mem _ (cloneOf_mem h)
def flatEls (els : Array Value) : List Value := els.toList.flatMap fun u => u.cells.toList
theorem flatE_get {sz : Nat} : ∀ {l : List Value} {m : Nat} {v : Value}, (∀ u ∈ l, u.cells.size = sz) → (l.flatMap fun u => u.cells.toList)[m]? = some v → ∃ i u j, l[i]? = some u ∧ u.cells[j]? = some v ∧ m = i * sz + j
 | [], m, v, _, h => by simp at h
 | a :: l, m, v, hl, h => by
  rw [List.flatMap_cons] at h
  have ha := hl a (by simp)
  rcases Nat.lt_or_ge m sz with hm | hm
  ·rw [List.getElem?_append_left (by rw [Array.length_toList]; omega)] at h
   exact ⟨0, a, m, rfl, by simpa using h, by omega⟩
  ·rw [List.getElem?_append_right (by rw [Array.length_toList]; omega), Array.length_toList, ha] at h
   obtain ⟨i, u, j, h1, h2, h3⟩ := flatE_get (fun u hu => hl u (by simp [hu])) h
   exact ⟨i + 1, u, j, by simpa using h1, h2, by rw [Nat.succ_mul]; omega⟩
theorem flatE_len {sz : Nat} : ∀ {l : List Value}, (∀ u ∈ l, u.cells.size = sz) → (l.flatMap fun u => u.cells.toList).length = l.length * sz
 | [], _ => by simp
 | a :: l, hl => by
  rw [List.flatMap_cons, List.length_append, Array.length_toList, hl a (by simp), flatE_len fun u hu => hl u (by simp [hu]), List.length_cons, Nat.succ_mul]
  omega
def cloneCall (tab : List (FuncId × Nat × Nat)) (next : VCall) : VCall := fun f args hp nx K =>
 match cloneOf f tab with
 | some (sz, bytes) => match args with
  | [.func (.via sz' p n false) els c] => bif Nat.beq sz sz' && (p.isEmpty && c.isEmpty) then (n * bytes ≤ 140737488355328 ∧ NLs (flatEls els)) ∧ (n = 0 → K (tree sz 0 #[]) false hp nx) ∧ (0 < n → K (.slice (some ⟨nx, 0, none⟩) n sz) true (hp.put nx (some (.cells (flatEls els) true))) (nx + 1)) else False
  | _ => False
 | none => next f args hp nx K
theorem cloneCall_ok {P : Program} {tab : List (FuncId × Nat × Nat)} {next : VCall} (ht : ∀ e ∈ tab, CloneFn P e.1 e.2.1 e.2.2) (hnx : VCallOk P next) : VCallOk P (cloneCall tab next) := by
 intro f args hp nx K h W ρ w args' hrel hargs
 unfold cloneCall at h
 split at h
 case h_2 => exact hnx f args hp nx K h W ρ w args' hrel hargs
 rename_i sz bytes he
 have hf : CloneFn P f sz bytes := ht _ (cloneOf_mem he)
 split at h
 case h_2 => exact h.elim
 rename_i sz' p n els c
 cases hb : Nat.beq sz sz' && (p.isEmpty && c.isEmpty) with
 | false => rw [hb] at h; exact h.elim
 | true =>
  rw [hb, cond_true] at h
  simp only [Bool.and_eq_true] at hb
  obtain ⟨e1, e2, e3⟩ := hb
  have e1 : sz = sz' := Nat.eq_of_beq_eq_true e1
  subst e1
  have e2 : p = #[] := Array.isEmpty_iff.1 e2
  have e3 : c = #[] := Array.isEmpty_iff.1 e3
  subst e2 e3
  obtain ⟨⟨hn, hnl⟩, hK0, hK1⟩ := h
  cases hargs with
  | cons hv hnil =>
  cases hnil
  obtain ⟨a, cap, cells, rfl, h1, hlen, hcell, h4, h5⟩ := tree_arg hrel hv
  have hnl2 : ∀ (i j : Nat) (u v : Value), els[i]? = some u → u.cells[j]? = some v → nl1 v = true := fun i j u v hu hv => hnl v (by
   unfold flatEls
   rw [List.mem_flatMap]
   exact ⟨u, by rw [← Array.getElem?_toList] at hu; exact List.mem_of_getElem? hu, by rw [← Array.getElem?_toList] at hv; exact List.mem_of_getElem? hv⟩)
  have hsz4 : ∀ u ∈ els.toList, u.cells.size = sz := fun u hu => by
   obtain ⟨i, hi, rfl⟩ := List.mem_iff_getElem.1 hu
   exact h4 i _ (by rw [← Array.getElem?_toList]; exact List.getElem?_eq_getElem hi)
  refine (hf a n cap cells w hlen hn hcell (cells_one h1 hlen h4 h5 hnl2)).mono ?_
  rintro e w' ⟨v', rfl, hb, hr⟩
  rcases hr with ⟨h0, a', c', rfl⟩ | ⟨h0, t, _, hown⟩
  ·exact ⟨_, false, hp, nx, _, ρ, hK0 h0, fun _ => rfl, rfl, .treeNil _ _ _, hrel.later hb, .refl _ _ _⟩
  rcases hown with ⟨_, h00⟩ | ⟨g, cap', cur, rfl, hg, hcur, hcn, hcap, hcsz, htk⟩
  ·omega
  have hsz : w.heap.size ≤ w'.heap.size := hb.size
  have lt : ∀ {c : Nat} {ob : Obj}, w.heap[c]? = some ob → c < w.heap.size := fun {c ob} hc => by
   rcases Nat.lt_or_ge c w.heap.size with h' | h'
   ·exact h'
   ·rw [Array.getElem?_eq_none h'] at hc; cases hc
  have old : ∀ c, c < w.heap.size → w'.heap[c]? = w.heap[c]? := fun c hc => hb.block c hc
  have hgl : g < w'.heap.size := by
   rcases Nat.lt_or_ge g w'.heap.size with h' | h'
   ·exact h'
   ·rw [Array.getElem?_eq_none h'] at hcur; cases hcur
  have hno : ρ.pl nx = none := hrel.dom_none
  let ρ' : Place := ⟨fun k => if k = nx then some (g, 0, cur.size) else ρ.pl k, ρ.fr, ρ.gl⟩
  have hle : ρ.le ρ' := ⟨fun k x hk => by
   show (if k = nx then _ else _) = _
   rw [if_neg (by intro e; rw [e, hno] at hk; cases hk)]
   exact hk, fun c x hc => hc⟩
  have pl_nx : ρ'.pl nx = some (g, 0, cur.size) := by show (if nx = nx then _ else _) = _; rw [if_pos rfl]
  have pl_other : ∀ k, k ≠ nx → ρ'.pl k = ρ.pl k := fun k hk => by show (if k = nx then _ else _) = _; rw [if_neg hk]
  have hget : ∀ k, k ≠ nx → (hp.put nx (some (.cells (flatEls els) true))).get k = hp.get k := fun k hk => by rw [Tr.get_put, if_neg hk]
  have hgetn : (hp.put nx (some (.cells (flatEls els) true))).get nx = some (.cells (flatEls els) true) := by rw [Tr.get_put, if_pos rfl]
  have hfl : (flatEls els).length = n * sz := by
   unfold flatEls
   rw [flatE_len hsz4, Array.length_toList, h1]
  have hcs : n * sz ≤ cur.size := by rw [hcsz]; exact Nat.mul_le_mul_right _ hcn
  refine ⟨_, true, _, _, _, ρ', hK1 h0, fun e => (by cases e), rfl, VR.slice (ρ := ρ') (s := 0) (o := 0) pl_nx hcn (by rw [hcsz]; omega), ?_, ⟨hle, Nat.le_succ _, fun k hk hn => ⟨by rw [pl_other k (by omega)]; exact hn, hget k (by omega)⟩⟩⟩
  refine ⟨fun k x hk => ?_, fun k o' c' s' z' ho hk => ?_, fun k k' x x' o1 o2 g1 g2 hk hk' hxx => ?_, fun k hk => ?_, ⟨hb.os.trans hrel.below.os, hb.tape.trans hrel.below.tape, hb.output.trans hrel.below.output, Nat.le_trans hrel.below.size hsz, fun k hk => ?_⟩, fun c ob hc => ?_, fun k o' c' s' z' ho hw hk => ?_, hrel.frn⟩
  ·by_cases e : k = nx
   ·subst e
    rw [pl_nx] at hk
    cases hk
    exact ⟨by omega, hgl⟩
   ·rw [pl_other k e] at hk
    exact ⟨by have := (hrel.dom k x hk).1; omega, Nat.lt_of_lt_of_le (hrel.dom k x hk).2 hsz⟩
  ·by_cases e : k = nx
   ·subst e
    rw [hgetn] at ho
    cases ho
    rw [pl_nx] at hk
    cases hk
    refine ⟨.cells cur t (0, 0), hcur, rfl, by rw [Nat.zero_add, hfl]; exact hcs, fun o _ => by simp, fun m v hm => ?_, fun _ ho => ?_⟩
    ·obtain ⟨i, u, j, q1, q2, rfl⟩ := flatE_get hsz4 hm
     have hlt : i * sz + j < n * sz := by
      have := (List.getElem?_eq_some_iff.1 hm).1
      have e3 : (List.flatMap (fun u : Value => u.cells.toList) els.toList).length = n * sz := hfl
      omega
     rw [Array.getElem?_toList] at q1
     have hc : cells[i * sz + j]? = some (cells[i * sz + j]'(by omega)) := List.getElem?_eq_getElem _
     refine ⟨_, ?_, VR0.lift (ρ := ρ') (h5 i j u v _ q1 q2 hc)⟩
     have e0 : ∀ m : Nat, cur[0 + m]? = cur[m]? := fun m => by rw [Nat.zero_add]
     have e1 : cells[i * sz + j]? = cur[i * sz + j]? := by rw [← htk, List.getElem?_take, if_pos hlt, Array.getElem?_toList]
     exact (e0 _).trans (e1.symm.trans hc)
    ·have := hrel.below.size
     have := ho.1
     omega
   ·rw [hget k e] at ho
    rw [pl_other k e] at hk
    obtain ⟨ob, q1, q2⟩ := hrel.obj k o' c' s' z' ho hk
    exact ⟨ob, by rw [old c' (lt q1)]; exact q1, q2.mono hle⟩
  ·by_cases e : k = nx
   ·by_cases e' : k' = nx
    ·rw [e, e']
    ·subst e
     rw [pl_nx] at hk
     cases hk
     rw [pl_other k' e'] at hk'
     have := (hrel.dom k' x' hk').2
     simp only at hxx
     omega
   ·by_cases e' : k' = nx
    ·subst e'
     rw [pl_nx] at hk'
     cases hk'
     rw [pl_other k e] at hk
     have := (hrel.dom k x hk).2
     simp only at hxx
     omega
    ·rw [hget k e] at g1
     rw [hget k' e'] at g2
     rw [pl_other k e] at hk
     rw [pl_other k' e'] at hk'
     exact hrel.inj k k' x x' o1 o2 g1 g2 hk hk' hxx
  ·rw [hget k (by omega)]
   exact hrel.fresh k (by omega)
  ·rw [old k (Nat.lt_of_lt_of_le hk.1 hrel.below.size)]
   exact hrel.below.block k hk
  ·have := hrel.frz c ob hc
   rw [old c (lt this)]
   exact this
  ·by_cases e : k = nx
   ·subst e
    rw [pl_nx] at hk
    cases hk
    show ρ.fr _ = none
    cases hx : ρ.fr g with
    | none => rfl
    | some y =>
     have := lt (hrel.frz g y hx)
     omega
   ·rw [hget k e] at ho
    rw [pl_other k e] at hk
    exact hrel.apart k o' c' s' z' ho hw hk
structure CloneL (P : Program) (nm : String) (ρ : Shelf.Ren) (z : Value) (sz bytes : Nat) : Prop where
 mixed : P.follows .mixedOrders = true
 f15 : P.funcs[ρ.f 15]? = some (cloneBody nm ρ)
 t4 : P.underlying (ρ.t 4) = some (TypeDesc.bool)
 a4 : ∀ w, (isAgg (ρ.t 4)).run P w = .ok false w
 z4 : ∀ w, (Go.sizeOf (ρ.t 4)).run P w = .ok 1 w
 v4 : ∀ w, (zeroValue (ρ.t 4)).run P w = .ok (Value.bool false) w
 t22 : P.underlying (ρ.t 22) = some (TypeDesc.slice (ρ.t 3))
 a22 : ∀ w, (isAgg (ρ.t 22)).run P w = .ok false w
 z22 : ∀ w, (Go.sizeOf (ρ.t 22)).run P w = .ok 1 w
 v22 : ∀ w, (zeroValue (ρ.t 22)).run P w = .ok (Value.slice none 0 0) w
 i3 : (P.info? (ρ.t 3)).map (fun i => (i.zero, i.size, i.bytes)) = some (some z, sz, bytes)
 z3 : ∀ w, (Go.sizeOf (ρ.t 3)).run P w = .ok sz w
 ok : (z.cells.size.beq sz && (Nat.blt 0 sz && Nat.blt 0 bytes)) = true
theorem clone_lays {P : Program} {nm : String} {ρ : Shelf.Ren} {z : Value} {sz bytes : Nat} (L : CloneL P nm ρ z sz bytes) : CloneFn P (ρ.f 15) sz bytes := by
 obtain ⟨i0, hi, hz0, hz1, hz2⟩ := info_parts L.i3
 have hok := L.ok
 simp only [Bool.and_eq_true] at hok
 exact clone_fn (i0 := i0) (z := z) ⟨L.mixed, L.f15, L.t4, L.a4, L.z4, L.v4, L.t22, L.a22, L.z22, L.v22, hi, hz0, hz1, hz2, Nat.eq_of_beq_eq_true hok.1, L.z3, Nat.lt_of_lt_of_le (Nat.succ_pos 0) (Nat.le_of_ble_eq_true hok.2.1), Nat.lt_of_lt_of_le (Nat.succ_pos 0) (Nat.le_of_ble_eq_true hok.2.2)⟩
theorem wrap64 {n : Int} (h1 : -9223372036854775808 ≤ n) (h2 : n < 9223372036854775808) : IntKind.i64.wrap n = n := by
 have e : IntKind.i64.wrap n = if (n % 18446744073709551616 : Int) ≥ 9223372036854775808 then n % 18446744073709551616 - 18446744073709551616 else n % 18446744073709551616 := by
  unfold IntKind.wrap
  simp [IntKind.signed, IntKind.bits]
 rw [e]
 split <;> omega
abbrev Short {α : Type} (l : List α) : Prop := l.length < 2 ^ 62
theorem wrapNat {n : Nat} (h : n < 2 ^ 62) : IntKind.i64.wrap (n : Int) = n := wrap64 (by omega) (by omega)
theorem wrapSucc {n : Nat} (h : n < 2 ^ 62) : IntKind.i64.wrap ((n : Int) + 1) = ((n + 1 : Nat) : Int) := by
 rw [wrap64 (by omega) (by omega)]; omega
structure Pt where
 x : Int
 y : Int
 deriving DecidableEq
theorem Pt.ext' {p q : Pt} (h1 : p.x = q.x) (h2 : p.y = q.y) : p = q := by
 cases p; cases q; cases h1; cases h2; rfl
instance : Inhabited Pt := ⟨⟨0, 0⟩⟩
instance : Enc Pt where
 sz := 2
 cells p := [.int .i64 p.x, .int .i64 p.y]
 len _ := rfl
 nl p := by intro v hv; simp at hv; rcases hv with rfl | rfl <;> rfl
abbrev trPt (l : List Pt) : Value := tree 2 l.length (encL l)
theorem cell_pt {l : List Pt} {i : Nat} (h : i < l.length) : cellAt (encL l) i 0 = .int .i64 l[i].x ∧ cellAt (encL l) i 1 = .int .i64 l[i].y := by
 rw [cellAt_encL' h, cellAt_encL' h]
 exact ⟨rfl, rfl⟩
abbrev trPts (l : List (List Pt)) : Value := tree 1 l.length (encL l)
theorem cell_pts {l : List (List Pt)} {i : Nat} (h : i < l.length) : cellAt (encL l) i 0 = trPt l[i] := by
 rw [cellAt_encL' h]
 rfl
structure Vec3 where
 x : Int
 y : Int
 z : Int
 deriving DecidableEq
structure Part where
 id : ByteArray
 rev : Int
 kind : Int
 node : ByteArray
 grade : ByteArray
 thick : Int
 outer : List Pt
 holes : List (List Pt)
 sect : ByteArray
 long : Int
 mass : Int
 centre : Vec3
 at_ : Vec3
 turn : Int
 deriving DecidableEq
def partC (p : Part) : List Value := [.string p.id, .int .i64 p.rev, .int .i64 p.kind, .string p.node, .string p.grade, .int .i64 p.thick, trPt p.outer, trPts p.holes, .string p.sect, .int .i64 p.long, .int .i64 p.mass,
 .int .i64 p.centre.x, .int .i64 p.centre.y, .int .i64 p.centre.z, .int .i64 p.at_.x, .int .i64 p.at_.y, .int .i64 p.at_.z, .int .i64 p.turn]
abbrev partV (p : Part) : Value := .agg (partC p).toArray
abbrev shapeV (o : List Pt) (h : List (List Pt)) : Value := .agg [trPt o, trPts h].toArray
theorem down {p : Nat → Prop} {n : Nat} (h0 : p n) (h : ∀ k, k < n → p (k + 1) → p k) : p 0 := by
 have : ∀ j k, k + j = n → p k := by
  intro j
  induction j with
  | zero => intro k hk; rw [show k = n by omega]; exact h0
  | succ j ih => intro k hk; exact h k (by omega) (ih (k + 1) (by omega))
 exact this n 0 (by omega)
def renCP : Shelf.Ren := ⟨fun x => if x = 15 then 167 else x, fun x => if x = 22 then 22 else if x = 3 then 53 else if x = 4 then 4 else x, fun x => x⟩
theorem laysCP : CloneL Tryz.prog "slices.Clone[[]shipyard/api.Point,shipyard/api.Point]" renCP (.agg #[.int .i64 0, .int .i64 0]) 2 16 where
 mixed := by kernel_rfl
 f15 := by kernel_rfl
 t4 := by kernel_rfl
 a4 := fun w => by kernel_rfl
 z4 := fun w => by kernel_rfl
 v4 := fun w => by kernel_rfl
 t22 := by kernel_rfl
 a22 := fun w => by kernel_rfl
 z22 := fun w => by kernel_rfl
 v22 := fun w => by kernel_rfl
 i3 := by kernel_rfl
 z3 := fun w => by kernel_rfl
 ok := by kernel_rfl
theorem cloneFP : CloneFn Tryz.prog 167 2 16 := clone_lays laysCP
def renCH : Shelf.Ren := ⟨fun x => if x = 15 then 168 else x, fun x => if x = 22 then 23 else if x = 3 then 22 else if x = 4 then 4 else x, fun x => x⟩
theorem laysCH : CloneL Tryz.prog "slices.Clone[[][]shipyard/api.Point,[]shipyard/api.Point]" renCH (.slice none 0 0) 1 24 where
 mixed := by kernel_rfl
 f15 := by kernel_rfl
 t4 := by kernel_rfl
 a4 := fun w => by kernel_rfl
 z4 := fun w => by kernel_rfl
 v4 := fun w => by kernel_rfl
 t22 := by kernel_rfl
 a22 := fun w => by kernel_rfl
 z22 := fun w => by kernel_rfl
 v22 := fun w => by kernel_rfl
 i3 := by kernel_rfl
 z3 := fun w => by kernel_rfl
 ok := by kernel_rfl
theorem cloneFH : CloneFn Tryz.prog 168 1 24 := clone_lays laysCH
theorem ok_cloneP : EntOk Tryz.prog ⟨167, c_cloneT Pt 16⟩ := ok_cloneT cloneFP
end Go.Proofs.YtngginofamlkkaaGreatDoor
namespace Go.Proofs.YtngginofamlkkaaGreatDoor
open Go Go.RowKit
theorem block_of_add (a : Addr) (n : Nat) : (a.add n).block = a.block := by unfold Addr.add; split <;> rfl
theorem add_of_add (a : Addr) (i j : Nat) : (a.add i).add j = a.add (i + j) := by
 unfold Addr.add
 by_cases hi : i = 0 <;> by_cases hj : j = 0 <;> simp [hi, hj, Nat.add_assoc]
def Reads (w : World) (B size : Nat) (A : Option Addr) (n : Nat) (xs : List Value) : Prop :=
 xs.length = n * size ∧ (0 < n → ∃ ad, A = some ad ∧ ad.block < B ∧ ∀ j u, xs[j]? = some u → w.cell? (ad.add j) = some u)
section
variable {w w' : World} {B B' size n : Nat} {A : Option Addr} {xs : List Value}
theorem Reads.at_ {k : Nat} (h : Reads w B 1 A n xs) (hk : k < n) : ∃ ad u, A = some ad ∧ ad.block < B ∧ xs[k]? = some u ∧ w.cell? (ad.add k) = some u := by
 obtain ⟨ad, e, hb, hc⟩ := h.2 (by omega)
 have hl : k < xs.length := by have := h.1; omega
 exact ⟨ad, xs[k], e, hb, List.getElem?_eq_getElem hl, hc k _ (List.getElem?_eq_getElem hl)⟩
theorem Reads.keep (h : Reads w B size A n xs) (hk : ∀ p : Addr, p.block < B → w'.cell? p = w.cell? p) : Reads w' B size A n xs :=
 ⟨h.1, fun hn => by
  obtain ⟨ad, e, hb, hc⟩ := h.2 hn
  exact ⟨ad, e, hb, fun j u hu => (hk _ (by rw [block_of_add]; exact hb)).trans (hc j u hu)⟩⟩
theorem Reads.more (h : Reads w B size A n xs) (hB : B ≤ B') : Reads w B' size A n xs :=
 ⟨h.1, fun hn => by
  obtain ⟨ad, e, hb, hc⟩ := h.2 hn
  exact ⟨ad, e, by omega, hc⟩⟩
theorem Reads.below (h : Reads w B size A n xs) (hb : Below B w w') : Reads w' B size A n xs := h.keep fun _ hp => hb.cell hp
theorem Reads.drew (h : Reads w B size A n xs) : Reads w.drew B size A n xs := h
theorem Reads.alloc (h : Reads w B size A n xs) (hB : B ≤ w.heap.size) (o : Obj) : Reads (w.alloc o) B size A n xs := h.keep fun p hp => World.cell?_alloc_lt w o p (by omega)
theorem Reads.setCell (h : Reads w B size A n xs) {p : Addr} (hB : B ≤ p.block) (u : Value) : Reads (w.setCell p u) B size A n xs :=
 h.keep fun q hq => World.cell?_setCell_other w p q u (fun e => by subst e; omega)
theorem Reads.grown (h : Reads w B size A n xs) {row : Option Nat} (hg : w.grownBy w' row) (hB : B ≤ w.heap.size) (hr : ∀ g, row = some g → B ≤ g) : Reads w' B size A n xs :=
 h.keep fun p hp => World.cell?_of_block (hg.block p.block (by omega) (fun e => by have := hr _ e.symm; omega))
theorem Reads.cut (h : Reads w B size A n xs) {k cap : Nat} (hk : k ≤ n) (hc : n ≤ cap) :
  Reads w B size (if cap = k then A else A.map (·.add (k * size))) (n - k) (xs.drop (k * size)) := by
 refine ⟨by rw [List.length_drop, h.1, Nat.sub_mul], fun hn => ?_⟩
 obtain ⟨ad, rfl, hb, hcell⟩ := h.2 (by omega)
 rw [if_neg (by omega)]
 refine ⟨ad.add (k * size), rfl, by rw [block_of_add]; exact hb, fun j u hu => ?_⟩
 rw [add_of_add]
 exact hcell _ u (by rw [← hu, List.getElem?_drop])
end
def Blk (w : World) (g : Nat) (t : TypeId) (cs : Array Value) : Prop := w.heap[g]? = some (.cells cs t (0, 0))
section
variable {w w' : World} {g : Nat} {t : TypeId} {cs : Array Value}
theorem Blk.lt (h : Blk w g t cs) : g < w.heap.size := by
 rcases Nat.lt_or_ge g w.heap.size with hlt | hge
 ·exact hlt
 ·unfold Blk at h; rw [Array.getElem?_eq_none hge] at h; cases h
theorem Blk.cell (h : Blk w g t cs) (i : Nat) : w.cell? ⟨g, i, none⟩ = cs[i]? := cell_of_row w g i cs t (0, 0) h
theorem Blk.frozen (h : Blk w g t cs) (i : Nat) : w.frozen? ⟨g, i, none⟩ = false := by
 unfold Blk at h
 simp [World.frozen?, h]
theorem Blk.new (w : World) (t : TypeId) (cs : Array Value) : Blk (w.alloc (.cells cs t)) w.heap.size t cs := heap_alloc_new w _
theorem Blk.drew (h : Blk w g t cs) : Blk w.drew g t cs := h
theorem Blk.alloc (h : Blk w g t cs) (o : Obj) : Blk (w.alloc o) g t cs := (Below.heap_alloc w o g h.lt).trans h
theorem Blk.far (h : Blk w g t cs) {p : Addr} (hp : g ≠ p.block) (u : Value) : Blk (w.setCell p u) g t cs := (Below.heap_setCell w p u g hp).trans h
theorem Blk.below {B : Nat} (h : Blk w g t cs) (hb : Below B w w') (hg : g < B) : Blk w' g t cs := (hb.block g hg).trans h
theorem Blk.grown {row : Option Nat} (h : Blk w g t cs) (hb : w.grownBy w' row) (hg : some g ≠ row) : Blk w' g t cs := (hb.block g h.lt hg).trans h
end
end Go.Proofs.YtngginofamlkkaaGreatDoor

namespace Go.Proofs.YtngginofamlkkaaGreatDoor
open Go Go.RowKit Go.ChangeShapes Go.WideShapes Go.ChangeAt Go.Deep Go.Joins
section
variable {H : Type} {enc : TypeId × Value → H} {P : Program} {w : World} {base : Nat} {spare : Nat → Bool} {held : Bool}
theorem post_of_below {f : Func} {s : ChangeSpec} {apart fresh handsOn again : Bool} {W W' : World} {args : Array Value} {v : Value} {ds gs : List (DataW H)} {before pa pv : List MemPlace}
  (hW : DataW.Whole enc P f.params.toList s.vars apart W args.toList ds gs before)
  (hres : ∀ (b : Nat) (sp : Nat → Bool) (hd : Bool), DataW.TrodAll enc P W' b sp hd f.resultTypes.toList (v.resultList f.resultTypes.size) (s.fn H (ds ++ gs)).results [])
  (hargs : ∀ sp : Nat → Bool, (∀ p ∈ before, sp p.block = true) → DataW.TrodAll enc P W' 0 sp true f.params.toList args.toList (s.fn H (ds ++ gs)).args pa)
  (hvars : ∀ sp : Nat → Bool, (∀ p ∈ before, sp p.block = true) → DataW.TrodVars enc P W' sp s.vars (s.fn H (ds ++ gs)).vars pv)
  (hps : before = pa ++ pv) (hb : Below W.heap.size W W')
  (hok : ∀ (j : Nat) (t : TypeId) (r : Value), f.resultTypes[j]? = some t → (v.resultList f.resultTypes.size)[j]? = some r → Value.okWide P W' .any 0 t r) :
  s.post enc P f apart fresh handsOn again W args v W' := by
 have hlt : ∀ p ∈ before, p.block < W.heap.size := fun p hp => hW.lt p hp
 have hold : ∀ p ∈ before, (fun b => decide (b < W.heap.size)) p.block = true := fun p hp => by simpa using hlt p hp
 refine ⟨ds, gs, before, [], pa, pv, hW, hres _ _ _, hargs _ hold, hvars _ hold, World.keptBut_mono (fun p hp => ⟨hp, ?_⟩) (hb.frame (· ∈ before)), fun _ => ?_⟩
 ·rw [hps, List.mem_append] at hp
  exact Or.inr hp
 ·obtain ⟨_, _, _, _, _, hz, hn⟩ := hW
  refine ⟨hok, _, _, ([] ++ pa) ++ pv, ⟨[] ++ pa, pv, trodAll_append (hargs _ (fun _ _ => rfl)) (hres _ _ _), hvars _ (fun _ _ => rfl), rfl, ?_, ?_⟩, ?_⟩
  ·intro b off hp
   have hin : MemPlace.cell b off ∈ before := by rw [hps]; simpa using hp
   rw [hb.frozen (hlt _ hin)]
   exact hz b off hin
  ·intro ha
   have := hn ha
   rw [hps] at this
   simpa using this
  ·intro p hp _
   rw [hps]
   simpa using hp
end
end Go.Proofs.YtngginofamlkkaaGreatDoor

noncomputable section
namespace Go.Proofs.YtngginofamlkkaaGreatDoor
open Go Go.RowKit Go.ChangeShapes Go.WideShapes Go.ChangeAt Go.Deep Go.Joins
def frW (w : World) : Nat → Option Obj := fun c => w.heap[c]?
def VRC (fr : Nat → Option Obj) (l cs : List Value) : Prop := l.length = cs.length ∧ ∀ (i : Nat) (v v' : Value), l[i]? = some v → cs[i]? = some v' → VR0 fr v v'
theorem VRC.one {fr : Nat → Option Obj} {v v' : Value} (h : VR0 fr v v') : VRC fr [v] [v'] := ⟨rfl, fun i a b ha hb => by
 cases i with
 | zero => simp at ha hb; subst ha hb; exact h
 | succ i => simp at ha⟩
theorem VRC.append {fr : Nat → Option Obj} {l m cs ds : List Value} (h : VRC fr l cs) (k : VRC fr m ds) : VRC fr (l ++ m) (cs ++ ds) := by
 refine ⟨by rw [List.length_append, List.length_append, h.1, k.1], fun i a b ha hb => ?_⟩
 rcases Nat.lt_or_ge i l.length with hi | hi
 ·rw [List.getElem?_append_left hi] at ha
  rw [List.getElem?_append_left (by rw [← h.1]; exact hi)] at hb
  exact h.2 i a b ha hb
 ·rw [List.getElem?_append_right hi] at ha
  rw [List.getElem?_append_right (by rw [← h.1]; exact hi), ← h.1] at hb
  exact k.2 _ a b ha hb
theorem VRC.step {fr : Nat → Option Obj} {l m cs : List Value} {o k : Nat} (h : VRC fr l ((cs.drop o).take k)) (r : VRC fr m (cs.drop (o + k))) : VRC fr (l ++ m) (cs.drop o) := by
 have := h.append r
 rwa [← List.drop_drop, List.take_append_drop] at this
theorem VRC.next {fr : Nat → Option Obj} {l m cs : List Value} {o k : Nat} (h : VRC fr l ((cs.drop o).take k)) (r : VRC fr m (cs.drop (o + l.length))) : VRC fr (l ++ m) (cs.drop o) := by
 have e : (cs.drop o).take k = (cs.drop o).take l.length := by
  have h1 := h.1
  rw [List.length_take] at h1
  rcases Nat.le_total k (cs.drop o).length with hk | hk
  ·rw [show l.length = k by omega]
  ·rw [List.take_of_length_le hk, List.take_of_length_le (by omega)]
 rw [e] at h
 exact h.step r
theorem VRC.done {fr : Nat → Option Obj} {cs : List Value} {n : Nat} (h : cs.length = n) : VRC fr [] (cs.drop n) := by
 rw [List.drop_eq_nil_of_le (by omega)]
 exact ⟨rfl, fun i a b ha => by simp at ha⟩
def In64 (n : Int) : Prop := -9223372036854775808 ≤ n ∧ n < 9223372036854775808
section
variable {P : Program} {w : World}
theorem cell_at {a : Addr} {i : Nat} {v : Value} (h : w.cell? (a.add i) = some v) : ∃ cs t fz, w.heap[a.block]? = some (.cells cs t fz) ∧ cs[a.off + i]? = some v ∧ (i = 0 → a.spot = none) := by
 unfold World.cell? at h
 have hb : (a.add i).block = a.block := by unfold Addr.add; split <;> rfl
 rw [hb] at h
 split at h
 ·rename_i cs t fz hc
  refine ⟨cs, t, fz, hc, ?_, fun h0 => ?_⟩
  ·split at h
   ·cases h
   ·have : (a.add i).off = a.off + i := by unfold Addr.add; split <;> simp_all
    rw [this] at h
    exact h
  ·subst h0
   split at h
   ·cases h
   ·rename_i hs
    have : (a.add 0) = a := rfl
    rw [this] at hs
    cases hsp : a.spot with
    | none => rfl
    | some s => rw [hsp] at hs; simp at hs
 ·cases h
theorem VRC.agg {l : List Value} {c : Array Value} (h : VRC (frW w) l c.toList) : VR0 (frW w) (.agg l.toArray) (.agg c) :=
 .agg (by simp [h.1]) fun i v v' a b => h.2 i v v' (by simpa using a) (by simpa using b)
theorem Pure.at {f : FuncId} {args : List Value} {Post : Value → Prop} (h : Pure P f args Post) (hg : ∀ g cs, glob g = some cs → ∃ t fz, w.heap[g]? = some (.cells cs t fz)) (hn : args.all nl = true) {args' : List Value} (hargs : VRC (frW w) args args') :
  Calls P f args'.toArray w fun e w' => ∃ v v', Post v ∧ e = .returned v' ∧ (closed v = true → v' = v) ∧ Below w.heap.size w w' := by
 refine (h.call hn (W := ⟨w, fun _ => False, frW w, []⟩) (ρ := ⟨fun _ => none, frW w, hg⟩) (hp := .e) (nx := 0) (w := w) ⟨fun b x hb => (by cases hb), fun b o c s z ho => (by cases ho), fun b b' x x' o o' ho => (by cases ho), fun b _ => rfl, ⟨rfl, rfl, rfl, Nat.le_refl _, fun _ _ => rfl⟩, fun c ob hc => hc, fun b o c s z ho => (by cases ho), fun c ob hc => .inl hc⟩ (.of hargs.1 fun i v v' a b => VR0.lift (ρ := ⟨fun _ => none, frW w, hg⟩) (hargs.2 i v v' a b))).mono ?_
 rintro e w' ⟨v, v', ρ', hP, rfl, hv, _, _, _, hb⟩
 exact ⟨v, v', hP, rfl, fun hc => closed_eq hc hv, hb⟩
end
end Go.Proofs.YtngginofamlkkaaGreatDoor

noncomputable section
namespace Go.Proofs.YtngginofamlkkaaGreatDoor
open Go Go.RowKit Go.ChangeShapes Go.WideShapes Go.ChangeAt Go.Deep Go.Joins
set_option maxRecDepth 100000
instance : Enc Vec3 where
 sz := 3
 cells p := [.int .i64 p.x, .int .i64 p.y, .int .i64 p.z]
 len _ := rfl
 nl p := by intro v hv; simp at hv; rcases hv with rfl | rfl | rfl <;> rfl
instance : Enc Part where
 sz := 18
 cells := partC
 len _ := rfl
 nl p := by intro v hv; simp [partC] at hv; rcases hv with rfl | rfl | rfl | rfl | rfl | rfl | rfl | rfl | rfl | rfl | rfl | rfl | rfl | rfl | rfl | rfl | rfl | rfl <;> rfl
def InPt (p : Pt) : Prop := In64 p.x ∧ In64 p.y
def InV (p : Vec3) : Prop := In64 p.x ∧ In64 p.y ∧ In64 p.z
structure InPart (p : Part) : Prop where
 rev : In64 p.rev
 kind : In64 p.kind
 thick : In64 p.thick
 outer : ∀ x ∈ p.outer, InPt x
 holes : ∀ l ∈ p.holes, ∀ x ∈ l, InPt x
 long : In64 p.long
 mass : In64 p.mass
 centre : InV p.centre
 at_ : InV p.at_
 turn : In64 p.turn
 id : p.id.size ≤ maxLen
 node : p.node.size ≤ maxLen
 grade : p.grade.size ≤ maxLen
 sect : p.sect.size ≤ maxLen
variable {w : World}
end Go.Proofs.YtngginofamlkkaaGreatDoor

noncomputable section
namespace Go.Proofs.YtngginofamlkkaaGreatDoor
open Go Go.RowKit
set_option maxRecDepth 100000
set_option maxHeartbeats 8000000
structure Node3 where
 id : ByteArray
 kind : Int
 parent : ByteArray
 deriving DecidableEq
def node3C (p : Node3) : List Value := [.string p.id, .int .i64 p.kind, .string p.parent]
instance : Enc Node3 where
 sz := 3
 cells := node3C
 len _ := rfl
 nl p := fun v hv => List.all_eq_true.1 (show (node3C p).all nl1 = true from rfl) v hv
theorem Node3.ext' {p q : Node3} (h0 : p.id = q.id) (h1 : p.kind = q.kind) (h2 : p.parent = q.parent) : p = q := by
 cases p; cases q
 simp only at h0 h1 h2
 simp only [h0, h1, h2]
structure Seam6 where
 id : ByteArray
 a : ByteArray
 b : ByteArray
 kind : Int
 long : Int
 cls : Int
 deriving DecidableEq
def seam6C (p : Seam6) : List Value := [.string p.id, .string p.a, .string p.b, .int .i64 p.kind, .int .i64 p.long, .int .i64 p.cls]
instance : Enc Seam6 where
 sz := 6
 cells := seam6C
 len _ := rfl
 nl p := fun v hv => List.all_eq_true.1 (show (seam6C p).all nl1 = true from rfl) v hv
theorem Seam6.ext' {p q : Seam6} (h0 : p.id = q.id) (h1 : p.a = q.a) (h2 : p.b = q.b) (h3 : p.kind = q.kind) (h4 : p.long = q.long) (h5 : p.cls = q.cls) : p = q := by
 cases p; cases q
 simp only at h0 h1 h2 h3 h4 h5
 simp only [h0, h1, h2, h3, h4, h5]
structure Pack5 where
 id : ByteArray
 block : ByteArray
 parts : List ByteArray
 hours : Int
 after : List ByteArray
 deriving DecidableEq
def pack5C (p : Pack5) : List Value := [.string p.id, .string p.block, tree 1 p.parts.length (encL p.parts), .int .i64 p.hours, tree 1 p.after.length (encL p.after)]
instance : Enc Pack5 where
 sz := 5
 cells := pack5C
 len _ := rfl
 nl p := fun v hv => List.all_eq_true.1 (show (pack5C p).all nl1 = true from rfl) v hv
theorem Pack5.ext' {p q : Pack5} (h0 : p.id = q.id) (h1 : p.block = q.block) (h2 : p.parts = q.parts) (h3 : p.hours = q.hours) (h4 : p.after = q.after) : p = q := by
 cases p; cases q
 simp only at h0 h1 h2 h3 h4
 simp only [h0, h1, h2, h3, h4]
structure Need3 where
 kind : Int
 block : ByteArray
 on : ByteArray
 deriving DecidableEq
def need3C (p : Need3) : List Value := [.int .i64 p.kind, .string p.block, .string p.on]
instance : Enc Need3 where
 sz := 3
 cells := need3C
 len _ := rfl
 nl p := fun v hv => List.all_eq_true.1 (show (need3C p).all nl1 = true from rfl) v hv
theorem Need3.ext' {p q : Need3} (h0 : p.kind = q.kind) (h1 : p.block = q.block) (h2 : p.on = q.on) : p = q := by
 cases p; cases q
 simp only at h0 h1 h2
 simp only [h0, h1, h2]
structure Edit where
 kind : Int
 id : ByteArray
 to : ByteArray
 node : Node3
 part : Part
 seam : Seam6
 pack : Pack5
 need : Need3
 deriving DecidableEq
def editC (p : Edit) : List Value := [.int .i64 p.kind, .string p.id, .string p.to, .string p.node.id, .int .i64 p.node.kind, .string p.node.parent, .string p.part.id, .int .i64 p.part.rev, .int .i64 p.part.kind, .string p.part.node, .string p.part.grade, .int .i64 p.part.thick, tree 2 p.part.outer.length (encL p.part.outer), tree 1 p.part.holes.length (encL p.part.holes), .string p.part.sect, .int .i64 p.part.long, .int .i64 p.part.mass, .int .i64 p.part.centre.x, .int .i64 p.part.centre.y, .int .i64 p.part.centre.z, .int .i64 p.part.at_.x, .int .i64 p.part.at_.y, .int .i64 p.part.at_.z, .int .i64 p.part.turn, .string p.seam.id, .string p.seam.a, .string p.seam.b, .int .i64 p.seam.kind, .int .i64 p.seam.long, .int .i64 p.seam.cls, .string p.pack.id, .string p.pack.block, tree 1 p.pack.parts.length (encL p.pack.parts), .int .i64 p.pack.hours, tree 1 p.pack.after.length (encL p.pack.after), .int .i64 p.need.kind, .string p.need.block, .string p.need.on]
instance : Enc Edit where
 sz := 38
 cells := editC
 len _ := rfl
 nl p := fun v hv => List.all_eq_true.1 (show (editC p).all nl1 = true from rfl) v hv
theorem Edit.ext' {p q : Edit} (h0 : p.kind = q.kind) (h1 : p.id = q.id) (h2 : p.to = q.to) (h3 : p.node = q.node) (h4 : p.part = q.part) (h5 : p.seam = q.seam) (h6 : p.pack = q.pack) (h7 : p.need = q.need) : p = q := by
 cases p; cases q
 simp only at h0 h1 h2 h3 h4 h5 h6 h7
 simp only [h0, h1, h2, h3, h4, h5, h6, h7]
structure Order2 where
 id : ByteArray
 edits : List Edit
 deriving DecidableEq
def order2C (p : Order2) : List Value := [.string p.id, tree 38 p.edits.length (encL p.edits)]
instance : Enc Order2 where
 sz := 2
 cells := order2C
 len _ := rfl
 nl p := fun v hv => List.all_eq_true.1 (show (order2C p).all nl1 = true from rfl) v hv
theorem Order2.ext' {p q : Order2} (h0 : p.id = q.id) (h1 : p.edits = q.edits) : p = q := by
 cases p; cases q
 simp only at h0 h1
 simp only [h0, h1]
structure Sheet6 where
 id : ByteArray
 grade : ByteArray
 thick : Int
 long : Int
 width : Int
 heat : ByteArray
 deriving DecidableEq
def sheet6C (p : Sheet6) : List Value := [.string p.id, .string p.grade, .int .i64 p.thick, .int .i64 p.long, .int .i64 p.width, .string p.heat]
instance : Enc Sheet6 where
 sz := 6
 cells := sheet6C
 len _ := rfl
 nl p := fun v hv => List.all_eq_true.1 (show (sheet6C p).all nl1 = true from rfl) v hv
theorem Sheet6.ext' {p q : Sheet6} (h0 : p.id = q.id) (h1 : p.grade = q.grade) (h2 : p.thick = q.thick) (h3 : p.long = q.long) (h4 : p.width = q.width) (h5 : p.heat = q.heat) : p = q := by
 cases p; cases q
 simp only at h0 h1 h2 h3 h4 h5
 simp only [h0, h1, h2, h3, h4, h5]
structure Bar5 where
 id : ByteArray
 sect : ByteArray
 grade : ByteArray
 long : Int
 heat : ByteArray
 deriving DecidableEq
def bar5C (p : Bar5) : List Value := [.string p.id, .string p.sect, .string p.grade, .int .i64 p.long, .string p.heat]
instance : Enc Bar5 where
 sz := 5
 cells := bar5C
 len _ := rfl
 nl p := fun v hv => List.all_eq_true.1 (show (bar5C p).all nl1 = true from rfl) v hv
theorem Bar5.ext' {p q : Bar5} (h0 : p.id = q.id) (h1 : p.sect = q.sect) (h2 : p.grade = q.grade) (h3 : p.long = q.long) (h4 : p.heat = q.heat) : p = q := by
 cases p; cases q
 simp only at h0 h1 h2 h3 h4
 simp only [h0, h1, h2, h3, h4]
structure Spot where
 part : ByteArray
 at_ : Pt
 turn : Int
 flip : Bool
 deriving DecidableEq
def spotC (p : Spot) : List Value := [.string p.part, .int .i64 p.at_.x, .int .i64 p.at_.y, .int .i64 p.turn, .bool p.flip]
instance : Enc Spot where
 sz := 5
 cells := spotC
 len _ := rfl
 nl p := fun v hv => List.all_eq_true.1 (show (spotC p).all nl1 = true from rfl) v hv
theorem Spot.ext' {p q : Spot} (h0 : p.part = q.part) (h1 : p.at_ = q.at_) (h2 : p.turn = q.turn) (h3 : p.flip = q.flip) : p = q := by
 cases p; cases q
 simp only at h0 h1 h2 h3
 simp only [h0, h1, h2, h3]
structure Nest3 where
 sheet : ByteArray
 gap : Int
 spots : List Spot
 deriving DecidableEq
def nest3C (p : Nest3) : List Value := [.string p.sheet, .int .i64 p.gap, tree 5 p.spots.length (encL p.spots)]
instance : Enc Nest3 where
 sz := 3
 cells := nest3C
 len _ := rfl
 nl p := fun v hv => List.all_eq_true.1 (show (nest3C p).all nl1 = true from rfl) v hv
theorem Nest3.ext' {p q : Nest3} (h0 : p.sheet = q.sheet) (h1 : p.gap = q.gap) (h2 : p.spots = q.spots) : p = q := by
 cases p; cases q
 simp only at h0 h1 h2
 simp only [h0, h1, h2]
structure Saw3 where
 bar : ByteArray
 kerf : Int
 parts : List ByteArray
 deriving DecidableEq
def saw3C (p : Saw3) : List Value := [.string p.bar, .int .i64 p.kerf, tree 1 p.parts.length (encL p.parts)]
instance : Enc Saw3 where
 sz := 3
 cells := saw3C
 len _ := rfl
 nl p := fun v hv => List.all_eq_true.1 (show (saw3C p).all nl1 = true from rfl) v hv
theorem Saw3.ext' {p q : Saw3} (h0 : p.bar = q.bar) (h1 : p.kerf = q.kerf) (h2 : p.parts = q.parts) : p = q := by
 cases p; cases q
 simp only at h0 h1 h2
 simp only [h0, h1, h2]
structure Weig where
 block : ByteArray
 at_ : Int
 mass : Int
 centre : Vec3
 sigma : Int
 parts : List ByteArray
 deriving DecidableEq
def weigC (p : Weig) : List Value := [.string p.block, .int .i64 p.at_, .int .i64 p.mass, .int .i64 p.centre.x, .int .i64 p.centre.y, .int .i64 p.centre.z, .int .i64 p.sigma, tree 1 p.parts.length (encL p.parts)]
instance : Enc Weig where
 sz := 8
 cells := weigC
 len _ := rfl
 nl p := fun v hv => List.all_eq_true.1 (show (weigC p).all nl1 = true from rfl) v hv
theorem Weig.ext' {p q : Weig} (h0 : p.block = q.block) (h1 : p.at_ = q.at_) (h2 : p.mass = q.mass) (h3 : p.centre = q.centre) (h4 : p.sigma = q.sigma) (h5 : p.parts = q.parts) : p = q := by
 cases p; cases q
 simp only at h0 h1 h2 h3 h4 h5
 simp only [h0, h1, h2, h3, h4, h5]
structure Hook4 where
 crane : ByteArray
 at_ : Pt
 radius : Int
 deriving DecidableEq
def hook4C (p : Hook4) : List Value := [.string p.crane, .int .i64 p.at_.x, .int .i64 p.at_.y, .int .i64 p.radius]
instance : Enc Hook4 where
 sz := 4
 cells := hook4C
 len _ := rfl
 nl p := fun v hv => List.all_eq_true.1 (show (hook4C p).all nl1 = true from rfl) v hv
theorem Hook4.ext' {p q : Hook4} (h0 : p.crane = q.crane) (h1 : p.at_ = q.at_) (h2 : p.radius = q.radius) : p = q := by
 cases p; cases q
 simp only at h0 h1 h2
 simp only [h0, h1, h2]
structure Lift2 where
 block : ByteArray
 hooks : List Hook4
 deriving DecidableEq
def lift2C (p : Lift2) : List Value := [.string p.block, tree 4 p.hooks.length (encL p.hooks)]
instance : Enc Lift2 where
 sz := 2
 cells := lift2C
 len _ := rfl
 nl p := fun v hv => List.all_eq_true.1 (show (lift2C p).all nl1 = true from rfl) v hv
theorem Lift2.ext' {p q : Lift2} (h0 : p.block = q.block) (h1 : p.hooks = q.hooks) : p = q := by
 cases p; cases q
 simp only at h0 h1
 simp only [h0, h1]
structure Span2 where
 a : Int
 b : Int
 deriving DecidableEq
def span2C (p : Span2) : List Value := [.int .i64 p.a, .int .i64 p.b]
instance : Enc Span2 where
 sz := 2
 cells := span2C
 len _ := rfl
 nl p := fun v hv => List.all_eq_true.1 (show (span2C p).all nl1 = true from rfl) v hv
theorem Span2.ext' {p q : Span2} (h0 : p.a = q.a) (h1 : p.b = q.b) : p = q := by
 cases p; cases q
 simp only at h0 h1
 simp only [h0, h1]
structure Permit3 where
 id : ByteArray
 kind : Int
 time : Span2
 deriving DecidableEq
def permit3C (p : Permit3) : List Value := [.string p.id, .int .i64 p.kind, .int .i64 p.time.a, .int .i64 p.time.b]
instance : Enc Permit3 where
 sz := 4
 cells := permit3C
 len _ := rfl
 nl p := fun v hv => List.all_eq_true.1 (show (permit3C p).all nl1 = true from rfl) v hv
theorem Permit3.ext' {p q : Permit3} (h0 : p.id = q.id) (h1 : p.kind = q.kind) (h2 : p.time = q.time) : p = q := by
 cases p; cases q
 simp only at h0 h1 h2
 simp only [h0, h1, h2]
structure Event where
 kind : Int
 at_ : Int
 item : ByteArray
 of_ : ByteArray
 by_ : ByteArray
 n : Int
 pass : Bool
 order : Order2
 sheet : Sheet6
 bar : Bar5
 nest : Nest3
 saw : Saw3
 weig : Weig
 lift : Lift2
 permit : Permit3
 deriving DecidableEq
def eventC (p : Event) : List Value := [.int .i64 p.kind, .int .i64 p.at_, .string p.item, .string p.of_, .string p.by_, .int .i64 p.n, .bool p.pass, .string p.order.id, tree 38 p.order.edits.length (encL p.order.edits), .string p.sheet.id, .string p.sheet.grade, .int .i64 p.sheet.thick, .int .i64 p.sheet.long, .int .i64 p.sheet.width, .string p.sheet.heat, .string p.bar.id, .string p.bar.sect, .string p.bar.grade, .int .i64 p.bar.long, .string p.bar.heat, .string p.nest.sheet, .int .i64 p.nest.gap, tree 5 p.nest.spots.length (encL p.nest.spots), .string p.saw.bar, .int .i64 p.saw.kerf, tree 1 p.saw.parts.length (encL p.saw.parts), .string p.weig.block, .int .i64 p.weig.at_, .int .i64 p.weig.mass, .int .i64 p.weig.centre.x, .int .i64 p.weig.centre.y, .int .i64 p.weig.centre.z, .int .i64 p.weig.sigma, tree 1 p.weig.parts.length (encL p.weig.parts), .string p.lift.block, tree 4 p.lift.hooks.length (encL p.lift.hooks), .string p.permit.id, .int .i64 p.permit.kind, .int .i64 p.permit.time.a, .int .i64 p.permit.time.b]
instance : Enc Event where
 sz := 40
 cells := eventC
 len _ := rfl
 nl p := fun v hv => List.all_eq_true.1 (show (eventC p).all nl1 = true from rfl) v hv
theorem Event.ext' {p q : Event} (h0 : p.kind = q.kind) (h1 : p.at_ = q.at_) (h2 : p.item = q.item) (h3 : p.of_ = q.of_) (h4 : p.by_ = q.by_) (h5 : p.n = q.n) (h6 : p.pass = q.pass) (h7 : p.order = q.order) (h8 : p.sheet = q.sheet) (h9 : p.bar = q.bar) (h10 : p.nest = q.nest) (h11 : p.saw = q.saw) (h12 : p.weig = q.weig) (h13 : p.lift = q.lift) (h14 : p.permit = q.permit) : p = q := by
 cases p; cases q
 simp only at h0 h1 h2 h3 h4 h5 h6 h7 h8 h9 h10 h11 h12 h13 h14
 simp only [h0, h1, h2, h3, h4, h5, h6, h7, h8, h9, h10, h11, h12, h13, h14]
abbrev evK (k : Int) (x : Event) : List Value := .int .i64 k :: (eventC x).tail
structure Design6 where
 hull : ByteArray
 nodes : List Node3
 parts : List Part
 seams : List Seam6
 packs : List Pack5
 needs : List Need3
 deriving DecidableEq
def design6C (p : Design6) : List Value := [.string p.hull, tree 3 p.nodes.length (encL p.nodes), tree 18 p.parts.length (encL p.parts), tree 6 p.seams.length (encL p.seams), tree 5 p.packs.length (encL p.packs), tree 3 p.needs.length (encL p.needs)]
abbrev design6V (p : Design6) : Value := .agg (design6C p).toArray
instance : Enc Design6 where
 sz := 6
 cells := design6C
 len _ := rfl
 nl p := fun v hv => List.all_eq_true.1 (show (design6C p).all nl1 = true from rfl) v hv
end Go.Proofs.YtngginofamlkkaaGreatDoor
namespace Go.Proofs.YtngginofamlkkaaGreatDoor.PlaneG
structure Q2 where
 x : Rat
 h : Rat
 deriving DecidableEq
def crs (a b c : Q2) : Rat := (b.x - a.x) * (c.h - a.h) - (b.h - a.h) * (c.x - a.x)
theorem crs_cyc (a b c : Q2) : crs a b c = crs b c a := by unfold crs; grind
theorem crs_swap (a b c : Q2) : crs a b c = - crs b a c := by unfold crs; grind
theorem crs_aba (a b : Q2) : crs a b a = 0 := by unfold crs; grind
theorem crs_abb (a b : Q2) : crs a b b = 0 := by unfold crs; grind
theorem crs_four1 (a b u v : Q2) : (b.h - a.h) * crs u v a = -(crs a b u * (v.h - a.h) + crs a b v * (a.h - u.h)) := by unfold crs; grind
theorem crs_four2 (a b u v : Q2) : (b.h - a.h) * crs u v b = -(crs a b u * (v.h - b.h) + crs a b v * (b.h - u.h)) := by unfold crs; grind
def wt (e : Q2 × Q2) (p : Q2) : Int :=
 if e.1.h < p.h ∧ p.h < e.2.h ∧ 0 < crs e.1 e.2 p then 1 else if e.2.h < p.h ∧ p.h < e.1.h ∧ crs e.1 e.2 p < 0 then -1 else 0
def rev (e : Q2 × Q2) : Q2 × Q2 := (e.2, e.1)
theorem wt_rev (e : Q2 × Q2) (p : Q2) : wt (rev e) p = - wt e p := by
 have h := crs_swap e.1 e.2 p
 unfold wt rev
 simp only
 by_cases h1 : e.1.h < p.h ∧ p.h < e.2.h ∧ 0 < crs e.1 e.2 p
 ·have h2 : ¬ (e.2.h < p.h ∧ p.h < e.1.h ∧ 0 < crs e.2 e.1 p) := by grind
  have h3 : e.1.h < p.h ∧ p.h < e.2.h ∧ crs e.2 e.1 p < 0 := by grind
  rw [if_neg h2, if_pos h3, if_pos h1]
 ·by_cases h2 : e.2.h < p.h ∧ p.h < e.1.h ∧ crs e.1 e.2 p < 0
  ·have h3 : e.2.h < p.h ∧ p.h < e.1.h ∧ 0 < crs e.2 e.1 p := by grind
   rw [if_pos h3, if_neg h1, if_pos h2]
   rfl
  ·have h3 : ¬ (e.2.h < p.h ∧ p.h < e.1.h ∧ 0 < crs e.2 e.1 p) := by grind
   have h4 : ¬ (e.1.h < p.h ∧ p.h < e.2.h ∧ crs e.2 e.1 p < 0) := by grind
   rw [if_neg h3, if_neg h4, if_neg h1, if_neg h2]
   rfl
theorem lin_pos {k c a b m n : Rat} (hk : 0 < k) (hm : 0 < m) (hn : 0 < n) (e : k * c = -(a * m + b * n)) (ha : a < 0) (hb : b < 0) : 0 < c := by
 have h1 : 0 < (-a) * m := Rat.mul_pos (by grind) hm
 have h2 : 0 < (-b) * n := Rat.mul_pos (by grind) hn
 have h3 : 0 < k * c := by grind
 rcases Classical.em (0 < c) with h | h
 ·exact h
 ·have h4 : 0 ≤ -c := by grind
  have h5 : 0 ≤ k * (-c) := Rat.mul_nonneg (by grind) h4
  grind
theorem lin_neg {k c a b m n : Rat} (hk : 0 < k) (hm : 0 < m) (hn : 0 < n) (e : k * c = -(a * m + b * n)) (ha : 0 < a) (hb : 0 < b) : c < 0 := by
 have := lin_pos (c := -c) (a := -a) (b := -b) hk hm hn (by grind) (by grind) (by grind)
 grind
def inR (p q u : Q2) : Int := if p.h < u.h ∧ u.h < q.h ∧ crs p q u < 0 then 1 else 0
def dlt (p q : Q2) (e : Q2 × Q2) : Int := (wt e p - wt e q) - (inR p q e.2 - inR p q e.1)
theorem dlt_rev (p q : Q2) (e : Q2 × Q2) : dlt p q (rev e) = - dlt p q e := by
 unfold dlt
 rw [wt_rev, wt_rev]
 unfold rev
 simp only
 omega
def Apart (p q u v : Q2) : Prop := (crs p q u < 0 ∧ crs p q v < 0) ∨ (0 < crs p q u ∧ 0 < crs p q v) ∨ (crs u v p < 0 ∧ crs u v q < 0) ∨ (0 < crs u v p ∧ 0 < crs u v q) ∨ (crs p q u = 0 ∧ crs p q v = 0 ∧ crs u v p = 0 ∧ crs u v q = 0 ∧ ((p.h < u.h ∧ p.h < v.h ∧ q.h < u.h ∧ q.h < v.h) ∨ (u.h < p.h ∧ v.h < p.h ∧ u.h < q.h ∧ v.h < q.h)))
theorem ite_same {P Q : Prop} [Decidable P] [Decidable Q] (h : P ↔ Q) : (if P then (1 : Int) else 0) = if Q then 1 else 0 := by
 by_cases hp : P
 ·rw [if_pos hp, if_pos (h.1 hp)]
 ·rw [if_neg hp, if_neg (fun k => hp (h.2 k))]
theorem wt_up {u v p : Q2} (h : u.h < v.h) : wt (u, v) p = if u.h < p.h ∧ p.h < v.h ∧ 0 < crs u v p then 1 else 0 := by
 unfold wt
 simp only
 by_cases h1 : u.h < p.h ∧ p.h < v.h ∧ 0 < crs u v p
 ·rw [if_pos h1, if_pos h1]
 ·rw [if_neg h1, if_neg h1, if_neg (by grind)]
theorem dlt_up {p q u v : Q2} (hpq : p.h < q.h) (huv : u.h < v.h) (d1 : p.h ≠ u.h) (d2 : p.h ≠ v.h) (d3 : q.h ≠ u.h) (d4 : q.h ≠ v.h) (ha : Apart p q u v) : dlt p q (u, v) = 0 := by
 unfold dlt inR
 rw [wt_up huv, wt_up huv]
 simp only
 have e1 := crs_four1 p q u v
 have e2 := crs_four2 p q u v
 have e3 := crs_four1 u v p q
 have e4 := crs_four2 u v p q
 have kpq : 0 < q.h - p.h := by grind
 have kuv : 0 < v.h - u.h := by grind
 by_cases c1 : v.h < p.h
 ·rw [if_neg (by grind), if_neg (by grind), if_neg (by grind), if_neg (by grind)]; rfl
 by_cases c2 : q.h < u.h
 ·rw [if_neg (by grind), if_neg (by grind), if_neg (by grind), if_neg (by grind)]; rfl
 by_cases c3 : u.h < p.h
 ·by_cases c4 : q.h < v.h
  ·-- u < p < q < v
   rw [if_neg (c := p.h < v.h ∧ v.h < q.h ∧ crs p q v < 0) (by grind), if_neg (c := p.h < u.h ∧ u.h < q.h ∧ crs p q u < 0) (by grind)]
   rw [ite_same (Q := u.h < q.h ∧ q.h < v.h ∧ 0 < crs u v q)]
   ·omega
   ·rcases ha with ⟨h1, h2⟩ | ⟨h1, h2⟩ | ⟨h1, h2⟩ | ⟨h1, h2⟩ | ⟨_, _, _, _, h5⟩
    rotate_right
    ·exfalso; grind
    ·have g1 := lin_pos kpq (by grind) (by grind) e1 h1 h2
     have g2 := lin_pos kpq (by grind) (by grind) e2 h1 h2
     grind
    ·have g1 := lin_neg kpq (by grind) (by grind) e1 h1 h2
     have g2 := lin_neg kpq (by grind) (by grind) e2 h1 h2
     grind
    ·grind
    ·grind
  ·-- u < p < v < q
   rw [if_neg (c := u.h < q.h ∧ q.h < v.h ∧ 0 < crs u v q) (by grind), if_neg (c := p.h < u.h ∧ u.h < q.h ∧ crs p q u < 0) (by grind)]
   rw [ite_same (Q := p.h < v.h ∧ v.h < q.h ∧ crs p q v < 0)]
   ·omega
   ·rcases ha with ⟨h1, h2⟩ | ⟨h1, h2⟩ | ⟨h1, h2⟩ | ⟨h1, h2⟩ | ⟨_, _, _, _, h5⟩
    rotate_right
    ·exfalso; grind
    ·have g1 := lin_pos kpq (by grind) (by grind) e1 h1 h2
     grind
    ·have g1 := lin_neg kpq (by grind) (by grind) e1 h1 h2
     grind
    ·have g1 := lin_pos kuv (by grind) (by grind) e4 h1 h2
     grind
    ·have g1 := lin_neg kuv (by grind) (by grind) e4 h1 h2
     grind
 ·by_cases c4 : q.h < v.h
  ·-- p < u < q < v
   rw [if_neg (c := u.h < p.h ∧ p.h < v.h ∧ 0 < crs u v p) (by grind), if_neg (c := p.h < v.h ∧ v.h < q.h ∧ crs p q v < 0) (by grind)]
   rw [ite_same (P := u.h < q.h ∧ q.h < v.h ∧ 0 < crs u v q) (Q := p.h < u.h ∧ u.h < q.h ∧ crs p q u < 0)]
   ·omega
   ·rcases ha with ⟨h1, h2⟩ | ⟨h1, h2⟩ | ⟨h1, h2⟩ | ⟨h1, h2⟩ | ⟨_, _, _, _, h5⟩
    rotate_right
    ·exfalso; grind
    ·have g1 := lin_pos kpq (by grind) (by grind) e2 h1 h2
     grind
    ·have g1 := lin_neg kpq (by grind) (by grind) e2 h1 h2
     grind
    ·have g1 := lin_pos kuv (by grind) (by grind) e3 h1 h2
     grind
    ·have g1 := lin_neg kuv (by grind) (by grind) e3 h1 h2
     grind
  ·-- p < u < v < q
   rw [if_neg (c := u.h < p.h ∧ p.h < v.h ∧ 0 < crs u v p) (by grind), if_neg (c := u.h < q.h ∧ q.h < v.h ∧ 0 < crs u v q) (by grind)]
   rw [ite_same (P := p.h < v.h ∧ v.h < q.h ∧ crs p q v < 0) (Q := p.h < u.h ∧ u.h < q.h ∧ crs p q u < 0)]
   ·omega
   ·rcases ha with ⟨h1, h2⟩ | ⟨h1, h2⟩ | ⟨h1, h2⟩ | ⟨h1, h2⟩ | ⟨_, _, _, _, h5⟩
    rotate_right
    ·exfalso; grind
    ·grind
    ·grind
    ·have g1 := lin_pos kuv (by grind) (by grind) e3 h1 h2
     have g2 := lin_pos kuv (by grind) (by grind) e4 h1 h2
     grind
    ·have g1 := lin_neg kuv (by grind) (by grind) e3 h1 h2
     have g2 := lin_neg kuv (by grind) (by grind) e4 h1 h2
     grind
end Go.Proofs.YtngginofamlkkaaGreatDoor.PlaneG
namespace Go.Proofs.YtngginofamlkkaaGreatDoor.PlaneG
theorem dlt_self (p q : Q2) (h : p.h < q.h) : dlt p q (p, q) = 0 := by
 unfold dlt inR
 rw [wt_up h, wt_up h]
 simp only
 rw [if_neg (c := p.h < p.h ∧ p.h < q.h ∧ 0 < crs p q p) (by grind), if_neg (c := p.h < q.h ∧ q.h < q.h ∧ 0 < crs p q q) (by grind), if_neg (by grind), if_neg (by grind)]
 rfl
theorem wt_down {u v p : Q2} (h : v.h < u.h) : wt (u, v) p = - if v.h < p.h ∧ p.h < u.h ∧ crs u v p < 0 then 1 else 0 := by
 have e := wt_rev (v, u) p
 unfold rev at e
 simp only at e
 rw [e, wt_up h]
 have hs := crs_swap u v p
 congr 1
 exact ite_same (by grind)
theorem dlt_prev (p q z : Q2) (h : p.h < q.h) (d1 : z.h ≠ p.h) (d2 : z.h ≠ q.h) : dlt p q (z, p) = if p.h < z.h ∧ crs p q z < 0 then 1 else 0 := by
 have hc := crs_cyc z p q
 unfold dlt inR
 simp only
 by_cases hz : z.h < p.h
 ·rw [wt_up hz, wt_up hz, if_neg (c := z.h < p.h ∧ p.h < p.h ∧ 0 < crs z p p) (by grind), if_neg (c := z.h < q.h ∧ q.h < p.h ∧ 0 < crs z p q) (by grind), if_neg (c := p.h < p.h ∧ p.h < q.h ∧ crs p q p < 0) (by grind), if_neg (c := p.h < z.h ∧ z.h < q.h ∧ crs p q z < 0) (by grind), if_neg (by grind)]
  rfl
 ·have hz' : p.h < z.h := by grind
  rw [wt_down hz', wt_down hz', if_neg (c := p.h < p.h ∧ p.h < z.h ∧ crs z p p < 0) (by grind), if_neg (c := p.h < p.h ∧ p.h < q.h ∧ crs p q p < 0) (by grind)]
  by_cases h1 : crs p q z < 0
  ·rw [if_pos (c := p.h < z.h ∧ crs p q z < 0) ⟨hz', h1⟩]
   by_cases h2 : z.h < q.h
   ·rw [if_neg (c := p.h < q.h ∧ q.h < z.h ∧ crs z p q < 0) (by grind), if_pos (c := p.h < z.h ∧ z.h < q.h ∧ crs p q z < 0) (by grind)]
    rfl
   ·rw [if_pos (c := p.h < q.h ∧ q.h < z.h ∧ crs z p q < 0) (by grind), if_neg (c := p.h < z.h ∧ z.h < q.h ∧ crs p q z < 0) (by grind)]
    rfl
  ·rw [if_neg (c := p.h < z.h ∧ crs p q z < 0) (by grind), if_neg (c := p.h < q.h ∧ q.h < z.h ∧ crs z p q < 0) (by grind), if_neg (c := p.h < z.h ∧ z.h < q.h ∧ crs p q z < 0) (by grind)]
   rfl
theorem dlt_next (p q w : Q2) (h : p.h < q.h) (d1 : w.h ≠ p.h) (d2 : w.h ≠ q.h) : dlt p q (q, w) = - if w.h < q.h ∧ crs p q w < 0 then 1 else 0 := by
 have hc := crs_cyc p q w
 have hc2 := crs_cyc q w p
 unfold dlt inR
 simp only
 by_cases hz : q.h < w.h
 ·rw [wt_up hz, wt_up hz, if_neg (c := q.h < p.h ∧ p.h < w.h ∧ 0 < crs q w p) (by grind), if_neg (c := q.h < q.h ∧ q.h < w.h ∧ 0 < crs q w q) (by grind), if_neg (c := p.h < w.h ∧ w.h < q.h ∧ crs p q w < 0) (by grind), if_neg (c := p.h < q.h ∧ q.h < q.h ∧ crs p q q < 0) (by grind), if_neg (by grind)]
  rfl
 ·have hz' : w.h < q.h := by grind
  rw [wt_down hz', wt_down hz', if_neg (c := w.h < q.h ∧ q.h < q.h ∧ crs q w q < 0) (by grind), if_neg (c := p.h < q.h ∧ q.h < q.h ∧ crs p q q < 0) (by grind)]
  by_cases h1 : crs p q w < 0
  ·rw [if_pos (c := w.h < q.h ∧ crs p q w < 0) ⟨hz', h1⟩]
   by_cases h2 : p.h < w.h
   ·rw [if_neg (c := w.h < p.h ∧ p.h < q.h ∧ crs q w p < 0) (by grind), if_pos (c := p.h < w.h ∧ w.h < q.h ∧ crs p q w < 0) (by grind)]
    rfl
   ·rw [if_pos (c := w.h < p.h ∧ p.h < q.h ∧ crs q w p < 0) (by grind), if_neg (c := p.h < w.h ∧ w.h < q.h ∧ crs p q w < 0) (by grind)]
    rfl
  ·rw [if_neg (c := w.h < q.h ∧ crs p q w < 0) (by grind), if_neg (c := w.h < p.h ∧ p.h < q.h ∧ crs q w p < 0) (by grind), if_neg (c := p.h < w.h ∧ w.h < q.h ∧ crs p q w < 0) (by grind)]
   rfl
theorem dlt_apart {p q u v : Q2} (hpq : p.h < q.h) (duv : u.h ≠ v.h) (d1 : p.h ≠ u.h) (d2 : p.h ≠ v.h) (d3 : q.h ≠ u.h) (d4 : q.h ≠ v.h) (ha : Apart p q u v) : dlt p q (u, v) = 0 := by
 by_cases h : u.h < v.h
 ·exact dlt_up hpq h d1 d2 d3 d4 ha
 ·have hs : v.h < u.h := by grind
  have hx : Apart p q v u := by
   unfold Apart at ha ⊢
   have g1 := crs_swap u v p
   have g2 := crs_swap u v q
   rcases ha with ⟨a, b⟩ | ⟨a, b⟩ | ⟨a, b⟩ | ⟨a, b⟩ | ⟨a, b, c, d, e⟩
   ·exact .inl ⟨b, a⟩
   ·exact .inr (.inl ⟨b, a⟩)
   ·exact .inr (.inr (.inr (.inl ⟨by grind, by grind⟩)))
   ·exact .inr (.inr (.inl ⟨by grind, by grind⟩))
   ·exact .inr (.inr (.inr (.inr ⟨b, a, by grind, by grind, by grind⟩)))
  have := dlt_rev p q (v, u)
  unfold rev at this
  simp only at this
  rw [this, dlt_up hpq hs d2 d1 d4 d3 hx]
  rfl
end Go.Proofs.YtngginofamlkkaaGreatDoor.PlaneG
namespace Go.Proofs.YtngginofamlkkaaGreatDoor.PlaneG
def isum : Nat → (Nat → Int) → Int
 | 0, _ => 0
 | n + 1, f => isum n f + f n
theorem isum_head (f : Nat → Int) : ∀ n, isum (n + 1) f = f 0 + isum n (fun j => f (j + 1))
 | 0 => by simp [isum]
 | n + 1 => by
  have ih := isum_head f n
  show isum (n + 1) f + f (n + 1) = f 0 + (isum n (fun j => f (j + 1)) + f (n + 1))
  rw [ih]
  omega
theorem isum_shift1 {n : Nat} {f : Nat → Int} (h : f n = f 0) : isum n (fun j => f (j + 1)) = isum n f := by
 have := isum_head f n
 show isum n (fun j => f (j + 1)) = isum n f
 have e : isum (n + 1) f = isum n f + f n := rfl
 omega
theorem isum_shift {n : Nat} {f : Nat → Int} (h : ∀ i, f (i + n) = f i) : ∀ s, isum n (fun j => f (j + s)) = isum n f
 | 0 => rfl
 | s + 1 => by
  have e : isum n (fun j => f (j + 1 + s)) = isum n (fun j => f (j + s)) := isum_shift1 (f := fun j => f (j + s)) (by
   have := h s
   simp only [Nat.zero_add]
   rw [Nat.add_comm n s]; exact this)
  rw [← isum_shift h s, ← e]
  congr 1
  funext j
  congr 1
  omega
theorem isum_congr {n : Nat} {f g : Nat → Int} (h : ∀ j, j < n → f j = g j) : isum n f = isum n g := by
 induction n with
 | zero => rfl
 | succ n ih =>
  show isum n f + f n = isum n g + g n
  rw [ih fun j hj => h j (by omega), h n (by omega)]
theorem isum_zero (n : Nat) : isum n (fun _ => 0) = 0 := by
 induction n with
 | zero => rfl
 | succ n ih => show isum n _ + 0 = 0; rw [ih]; rfl
theorem isum_sub (n : Nat) (f g : Nat → Int) : isum n (fun j => f j - g j) = isum n f - isum n g := by
 induction n with
 | zero => rfl
 | succ n ih =>
  show isum n _ + (f n - g n) = isum n f + f n - (isum n g + g n)
  rw [ih]; omega
theorem isum_tel (n : Nat) (F : Nat → Int) : isum n (fun j => F (j + 1) - F j) = F n - F 0 := by
 induction n with
 | zero => show (0 : Int) = F 0 - F 0; omega
 | succ n ih =>
  show isum n _ + (F (n + 1) - F n) = _
  rw [ih]; omega
theorem isum_three {n : Nat} {f : Nat → Int} (h : ∀ j, 3 ≤ j → j < n + 3 → f j = 0) : isum (n + 3) f = f 0 + f 1 + f 2 := by
 induction n with
 | zero => show 0 + f 0 + f 1 + f 2 = _; omega
 | succ n ih =>
  have := ih fun j h1 h2 => h j h1 (by omega)
  show isum (n + 3) f + f (n + 3) = _
  rw [this, h (n + 3) (by omega) (by omega)]; omega
def wind (n : Nat) (P : Nat → Q2) (p : Q2) : Int := isum n (fun j => wt (P j, P (j + 1)) p)
structure Contour (n : Nat) (P : Nat → Q2) : Prop where
 n3 : 3 ≤ n
 per : ∀ i, P (i + n) = P i
 lev : ∀ i j, i < j → j < i + n → (P i).h ≠ (P j).h
 apart : ∀ i j, i + 1 < j → j + 1 < i + n → Apart (P i) (P (i + 1)) (P j) (P (j + 1))
 peak : ∀ i, (((P i).h < (P (i + 1)).h ∧ (P (i + 2)).h < (P (i + 1)).h) ∨ ((P (i + 1)).h < (P i).h ∧ (P (i + 1)).h < (P (i + 2)).h)) → crs (P i) (P (i + 1)) (P (i + 2)) ≠ 0
theorem wind_dlt {n : Nat} {P : Nat → Q2} (c : Contour n P) (p q : Q2) (s : Nat) : isum n (fun j => dlt p q (P (j + s), P (j + s + 1))) = wind n P p - wind n P q := by
 have e : ∀ j, dlt p q (P (j + s), P (j + s + 1)) = (fun i => wt (P i, P (i + 1)) p - wt (P i, P (i + 1)) q) (j + s) - ((fun i => inR p q (P (i + s))) (j + 1) - (fun i => inR p q (P (i + s))) j) := fun j => by
  unfold dlt
  simp only
  rw [show j + 1 + s = j + s + 1 by omega]
 have t := isum_tel n (fun i => inR p q (P (i + s)))
 have h0 : (fun i => inR p q (P (i + s))) n - (fun i => inR p q (P (i + s))) 0 = 0 := by
  simp only
  rw [Nat.add_comm n s, c.per, Nat.zero_add]; omega
 have t2 := isum_shift (n := n) (f := fun i => wt (P i, P (i + 1)) p - wt (P i, P (i + 1)) q) (fun i => by
  show wt (P (i + n), P (i + n + 1)) p - wt (P (i + n), P (i + n + 1)) q = _
  rw [c.per, show i + n + 1 = i + 1 + n by omega, c.per]) s
 have t3 := isum_sub n (fun i => wt (P i, P (i + 1)) p) (fun i => wt (P i, P (i + 1)) q)
 rw [isum_congr fun j _ => e j, isum_sub]
 unfold wind
 simp only at t t2 t3 h0 ⊢
 omega
theorem Contour.lev' {n : Nat} {P : Nat → Q2} (c : Contour n P) {i j : Nat} (h : i < j) (h2 : j < i + n) : (P j).h ≠ (P i).h := fun e => c.lev i j h h2 e.symm
theorem apart_swap {p q u v : Q2} (h : Apart p q u v) : Apart q p u v := by
 unfold Apart at h ⊢
 have g1 := crs_swap p q u
 have g2 := crs_swap p q v
 rcases h with ⟨a, b⟩ | ⟨a, b⟩ | ⟨a, b⟩ | ⟨a, b⟩ | ⟨a, b, c, d, e⟩
 ·exact .inr (.inl ⟨by grind, by grind⟩)
 ·exact .inl ⟨by grind, by grind⟩
 ·exact .inr (.inr (.inl ⟨b, a⟩))
 ·exact .inr (.inr (.inr (.inl ⟨b, a⟩)))
 ·exact .inr (.inr (.inr (.inr ⟨by grind, by grind, d, c, by grind⟩)))
theorem wind_up {n : Nat} {P : Nat → Q2} (c : Contour n P) (s : Nat) (h : (P (s + 1)).h < (P (s + 2)).h) :
  wind n P (P (s + 1)) - wind n P (P (s + 2)) = (if (P (s + 1)).h < (P s).h ∧ crs (P (s + 1)) (P (s + 2)) (P s) < 0 then 1 else 0) - (if (P (s + 3)).h < (P (s + 2)).h ∧ crs (P (s + 1)) (P (s + 2)) (P (s + 3)) < 0 then 1 else 0) := by
 have n3 := c.n3
 obtain ⟨m, rfl⟩ : ∃ m, n = m + 3 := ⟨n - 3, by omega⟩
 rw [← wind_dlt c (P (s + 1)) (P (s + 2)) s]
 rw [isum_three]
 ·simp only [Nat.zero_add]
  rw [show 1 + s = s + 1 by omega, show 2 + s = s + 2 by omega, show s + 1 + 1 = s + 2 by omega, show s + 2 + 1 = s + 3 by omega]
  have hp := c.per s
  have d1 : (P s).h ≠ (P (s + 1)).h := c.lev s (s + 1) (by omega) (by omega)
  have d2 : (P s).h ≠ (P (s + 2)).h := c.lev s (s + 2) (by omega) (by omega)
  have d4 : (P (s + 3)).h ≠ (P (s + 2)).h := c.lev' (by omega) (by omega)
  have d3 : (P (s + 3)).h ≠ (P (s + 1)).h := c.lev' (by omega) (by omega)
  rw [dlt_prev _ _ _ h d1 d2, dlt_self _ _ h, dlt_next _ _ _ h d3 d4]
  omega
 ·intro j h1 h2
  have k1 : (P (s + 1)).h ≠ (P (j + s)).h := c.lev _ _ (by omega) (by omega)
  have k3 : (P (s + 2)).h ≠ (P (j + s)).h := c.lev _ _ (by omega) (by omega)
  have k5 : (P (j + s)).h ≠ (P (j + s + 1)).h := c.lev _ _ (by omega) (by omega)
  have k2 : (P (s + 1)).h ≠ (P (j + s + 1)).h := c.lev _ _ (by omega) (by omega)
  have k4 : (P (s + 2)).h ≠ (P (j + s + 1)).h := c.lev _ _ (by omega) (by omega)
  exact dlt_apart h k5 k1 k2 k3 k4 (c.apart (s + 1) (j + s) (by omega) (by omega))
theorem wind_down {n : Nat} {P : Nat → Q2} (c : Contour n P) (s : Nat) (h : (P (s + 2)).h < (P (s + 1)).h) :
  wind n P (P (s + 2)) - wind n P (P (s + 1)) = (if (P s).h < (P (s + 1)).h ∧ crs (P (s + 2)) (P (s + 1)) (P s) < 0 then 1 else 0) - (if (P (s + 2)).h < (P (s + 3)).h ∧ crs (P (s + 2)) (P (s + 1)) (P (s + 3)) < 0 then 1 else 0) := by
 have n3 := c.n3
 obtain ⟨m, rfl⟩ : ∃ m, n = m + 3 := ⟨n - 3, by omega⟩
 rw [← wind_dlt c (P (s + 2)) (P (s + 1)) s]
 rw [isum_three]
 ·simp only [Nat.zero_add]
  rw [show 1 + s = s + 1 by omega, show 2 + s = s + 2 by omega, show s + 1 + 1 = s + 2 by omega, show s + 2 + 1 = s + 3 by omega]
  have d1 : (P s).h ≠ (P (s + 1)).h := c.lev s (s + 1) (by omega) (by omega)
  have d2 : (P s).h ≠ (P (s + 2)).h := c.lev s (s + 2) (by omega) (by omega)
  have d4 : (P (s + 3)).h ≠ (P (s + 2)).h := c.lev' (by omega) (by omega)
  have d3 : (P (s + 3)).h ≠ (P (s + 1)).h := c.lev' (by omega) (by omega)
  have r1 := dlt_rev (P (s + 2)) (P (s + 1)) (P (s + 1), P s)
  have r2 := dlt_rev (P (s + 2)) (P (s + 1)) (P (s + 3), P (s + 2))
  have r0 := dlt_rev (P (s + 2)) (P (s + 1)) (P (s + 2), P (s + 1))
  unfold rev at r0 r1 r2
  simp only at r0 r1 r2
  rw [r0, r1, r2, dlt_self _ _ h, dlt_next _ _ _ h d2 d1, dlt_prev _ _ _ h d4 d3]
  omega
 ·intro j h1 h2
  have k1 : (P (s + 1)).h ≠ (P (j + s)).h := c.lev _ _ (by omega) (by omega)
  have k3 : (P (s + 2)).h ≠ (P (j + s)).h := c.lev _ _ (by omega) (by omega)
  have k5 : (P (j + s)).h ≠ (P (j + s + 1)).h := c.lev _ _ (by omega) (by omega)
  have k2 : (P (s + 1)).h ≠ (P (j + s + 1)).h := c.lev _ _ (by omega) (by omega)
  have k4 : (P (s + 2)).h ≠ (P (j + s + 1)).h := c.lev _ _ (by omega) (by omega)
  exact dlt_apart h k5 k3 k4 k1 k2 (apart_swap (c.apart (s + 1) (j + s) (by omega) (by omega)))
end Go.Proofs.YtngginofamlkkaaGreatDoor.PlaneG
namespace Go.Proofs.YtngginofamlkkaaGreatDoor.PlaneG
def b01 (P : Prop) [Decidable P] : Int := if P then 1 else 0
def val (n : Nat) (P : Nat → Q2) (s : Nat) : Int :=
 if (P (s + 1)).h < (P (s + 2)).h then wind n P (P (s + 1)) - b01 ((P (s + 1)).h < (P s).h ∧ crs (P (s + 1)) (P (s + 2)) (P s) < 0)
 else wind n P (P (s + 1)) + b01 ((P s).h < (P (s + 1)).h ∧ crs (P (s + 2)) (P (s + 1)) (P s) < 0) - 1
theorem val_up {n : Nat} {P : Nat → Q2} (c : Contour n P) {s : Nat} (h : (P (s + 1)).h < (P (s + 2)).h) :
  val n P s = wind n P (P (s + 2)) - b01 ((P (s + 3)).h < (P (s + 2)).h ∧ crs (P (s + 1)) (P (s + 2)) (P (s + 3)) < 0) := by
 have := wind_up c s h
 unfold val b01
 rw [if_pos h]
 omega
theorem val_down {n : Nat} {P : Nat → Q2} (c : Contour n P) {s : Nat} (h : (P (s + 2)).h < (P (s + 1)).h) :
  val n P s = wind n P (P (s + 2)) + b01 ((P (s + 2)).h < (P (s + 3)).h ∧ crs (P (s + 2)) (P (s + 1)) (P (s + 3)) < 0) - 1 := by
 have := wind_down c s h
 unfold val b01
 rw [if_neg (by grind)]
 omega
theorem b01_yes {P : Prop} [Decidable P] (h : P) : b01 P = 1 := if_pos h
theorem b01_no {P : Prop} [Decidable P] (h : ¬ P) : b01 P = 0 := if_neg h
theorem val_next {n : Nat} {P : Nat → Q2} (c : Contour n P) (s : Nat) : val n P (s + 1) = val n P s := by
 have n3 := c.n3
 have d1 : (P (s + 1)).h ≠ (P (s + 2)).h := c.lev _ _ (by omega) (by omega)
 have d2 : (P (s + 2)).h ≠ (P (s + 3)).h := c.lev _ _ (by omega) (by omega)
 have pk := c.peak (s + 1)
 have g1 := crs_swap (P (s + 1)) (P (s + 2)) (P (s + 3))
 have g2 := crs_cyc (P (s + 1)) (P (s + 2)) (P (s + 3))
 have g3 := crs_cyc (P (s + 2)) (P (s + 3)) (P (s + 1))
 have g4 := crs_swap (P (s + 2)) (P (s + 3)) (P (s + 1))
 have g5 := crs_cyc (P (s + 3)) (P (s + 2)) (P (s + 1))
 have g6 := crs_cyc (P (s + 2)) (P (s + 1)) (P (s + 3))
 have hv : val n P (s + 1) = if (P (s + 2)).h < (P (s + 3)).h then wind n P (P (s + 2)) - b01 ((P (s + 2)).h < (P (s + 1)).h ∧ crs (P (s + 2)) (P (s + 3)) (P (s + 1)) < 0) else wind n P (P (s + 2)) + b01 ((P (s + 1)).h < (P (s + 2)).h ∧ crs (P (s + 3)) (P (s + 2)) (P (s + 1)) < 0) - 1 := rfl
 rw [show s + 1 + 1 = s + 2 by omega, show s + 1 + 2 = s + 3 by omega] at pk
 by_cases h1 : (P (s + 1)).h < (P (s + 2)).h
 ·rw [val_up c h1]
  by_cases h2 : (P (s + 2)).h < (P (s + 3)).h
  ·rw [hv, if_pos h2, b01_no (by grind), b01_no (by grind)]
  ·have h2' : (P (s + 3)).h < (P (s + 2)).h := by grind
   rw [hv, if_neg h2]
   have ne := pk (.inl ⟨h1, h2'⟩)
   by_cases h3 : crs (P (s + 1)) (P (s + 2)) (P (s + 3)) < 0
   ·rw [b01_no (by grind), b01_yes (P := (P (s + 3)).h < (P (s + 2)).h ∧ _) ⟨h2', h3⟩]; omega
   ·rw [b01_yes (P := (P (s + 1)).h < (P (s + 2)).h ∧ crs (P (s + 3)) (P (s + 2)) (P (s + 1)) < 0) (by grind), b01_no (P := (P (s + 3)).h < (P (s + 2)).h ∧ _) (by grind)]; omega
 ·have h1' : (P (s + 2)).h < (P (s + 1)).h := by grind
  rw [val_down c h1']
  by_cases h2 : (P (s + 2)).h < (P (s + 3)).h
  ·rw [hv, if_pos h2]
   have ne := pk (.inr ⟨h1', h2⟩)
   by_cases h3 : crs (P (s + 1)) (P (s + 2)) (P (s + 3)) < 0
   ·rw [b01_yes (P := (P (s + 2)).h < (P (s + 1)).h ∧ crs (P (s + 2)) (P (s + 3)) (P (s + 1)) < 0) (by grind), b01_no (P := (P (s + 2)).h < (P (s + 3)).h ∧ crs (P (s + 2)) (P (s + 1)) (P (s + 3)) < 0) (by grind)]; omega
   ·rw [b01_no (P := (P (s + 2)).h < (P (s + 1)).h ∧ crs (P (s + 2)) (P (s + 3)) (P (s + 1)) < 0) (by grind), b01_yes (P := (P (s + 2)).h < (P (s + 3)).h ∧ crs (P (s + 2)) (P (s + 1)) (P (s + 3)) < 0) (by grind)]; omega
  ·rw [hv, if_neg h2, b01_no (by grind), b01_no (by grind)]
theorem val_const {n : Nat} {P : Nat → Q2} (c : Contour n P) : ∀ s, val n P s = val n P 0
 | 0 => rfl
 | s + 1 => (val_next c s).trans (val_const c s)
theorem max_exists (f : Nat → Rat) : ∀ n, ∃ i, i ≤ n ∧ ∀ j, j ≤ n → f j ≤ f i
 | 0 => ⟨0, Nat.le_refl _, fun j hj => by
  obtain rfl : j = 0 := by omega
  exact Rat.le_refl⟩
 | n + 1 => by
  obtain ⟨i, hi, h⟩ := max_exists f n
  by_cases hc : f i < f (n + 1)
  ·refine ⟨n + 1, Nat.le_refl _, fun j hj => ?_⟩
   rcases Nat.lt_or_ge j (n + 1) with h' | h'
   ·have := h j (by omega); grind
   ·obtain rfl : j = n + 1 := by omega
    exact Rat.le_refl
  ·refine ⟨i, by omega, fun j hj => ?_⟩
   rcases Nat.lt_or_ge j (n + 1) with h' | h'
   ·exact h j (by omega)
   ·obtain rfl : j = n + 1 := by omega
    grind
theorem Contour.mod {n : Nat} {P : Nat → Q2} (c : Contour n P) : ∀ i, P i = P (i % n) := fun i => by
 have n3 := c.n3
 have key : ∀ k r, P (r + n * k) = P r := fun k => by
  induction k with
  | zero => intro r; simp
  | succ k ih => intro r; rw [Nat.mul_succ, ← Nat.add_assoc, c.per, ih]
 have := key (i / n) (i % n)
 rw [Nat.mod_add_div] at this
 exact this
theorem top_exists {n : Nat} {P : Nat → Q2} (c : Contour n P) : ∃ s, ∀ j, (P j).h ≤ (P (s + 1)).h := by
 have n3 := c.n3
 obtain ⟨i, hi, h⟩ := max_exists (fun j => (P j).h) n
 refine ⟨i + n - 1, fun j => ?_⟩
 rw [show i + n - 1 + 1 = i + n by omega, c.per, c.mod j]
 exact h _ (Nat.le_of_lt (Nat.mod_lt _ (by omega)))
theorem wind_top {n : Nat} {P : Nat → Q2} {p : Q2} (h : ∀ j, (P j).h ≤ p.h) : wind n P p = 0 := by
 unfold wind
 rw [isum_congr (g := fun _ => 0) fun j _ => ?_, isum_zero]
 unfold wt
 have h1 := h j
 have h2 := h (j + 1)
 simp only
 rw [if_neg (by grind), if_neg (by grind)]
theorem val_01 {n : Nat} {P : Nat → Q2} (c : Contour n P) : (∀ s, val n P s = 0) ∨ ∀ s, val n P s = -1 := by
 have n3 := c.n3
 obtain ⟨s, hs⟩ := top_exists c
 have d1 : (P (s + 1)).h ≠ (P (s + 2)).h := c.lev _ _ (by omega) (by omega)
 have hd : ¬ (P (s + 1)).h < (P (s + 2)).h := by have := hs (s + 2); grind
 have hv : val n P s = 0 ∨ val n P s = -1 := by
  unfold val
  rw [if_neg hd, wind_top hs]
  unfold b01
  split <;> omega
 rcases hv with e | e
 ·exact .inl fun t => by rw [val_const c t, ← val_const c s, e]
 ·exact .inr fun t => by rw [val_const c t, ← val_const c s, e]
end Go.Proofs.YtngginofamlkkaaGreatDoor.PlaneG
namespace Go.Proofs.YtngginofamlkkaaGreatDoor.PlaneG
def gsum (l : List (Rat × Int)) (x : Rat) : Int := (l.map fun e => if x < e.1 then e.2 else 0).sum
def dsum (l : List (Rat × Int)) : Rat := (l.map fun e => (e.2 : Rat) * e.1).sum
def tsum (l : List (Rat × Int)) : Int := (l.map fun e => e.2).sum
theorem perm_isum {l m : List Int} (h : l.Perm m) : l.sum = m.sum := by
 induction h with
 | nil => rfl
 | cons a _ ih => simp [ih]
 | swap a b l => simp only [List.sum_cons]; omega
 | trans _ _ h1 h2 => rw [h1, h2]
theorem perm_rsum {l m : List Rat} (h : l.Perm m) : l.sum = m.sum := by
 induction h with
 | nil => rfl
 | cons a _ ih => simp [ih]
 | swap a b l => simp only [List.sum_cons]; grind
 | trans _ _ h1 h2 => rw [h1, h2]
theorem max_mem : ∀ (l : List (Rat × Int)), l ≠ [] → ∃ e ∈ l, ∀ f ∈ l, f.1 ≤ e.1
 | [], h => absurd rfl h
 | [a], _ => ⟨a, by simp, fun f hf => by simp at hf; subst hf; exact Rat.le_refl⟩
 | a :: b :: l, _ => by
  obtain ⟨e, he, h⟩ := max_mem (b :: l) (by simp)
  by_cases hc : e.1 < a.1
  ·refine ⟨a, by simp, fun f hf => ?_⟩
   rcases List.mem_cons.1 hf with rfl | hf
   ·exact Rat.le_refl
   ·have := h f hf; grind
  ·refine ⟨e, List.mem_cons_of_mem _ he, fun f hf => ?_⟩
   rcases List.mem_cons.1 hf with rfl | hf
   ·grind
   ·exact h f hf
structure Alt (l : List (Rat × Int)) : Prop where
 nd : (l.map (·.1)).Nodup
 alt : ∀ e ∈ l, (e.2 = 1 ∧ gsum l e.1 = 0) ∨ (e.2 = -1 ∧ gsum l e.1 = 1)
theorem Alt.perm {l m : List (Rat × Int)} (h : l.Perm m) (a : Alt l) : Alt m :=
 ⟨(h.map _).nodup_iff.1 a.nd, fun e he => by
  have := a.alt e (h.mem_iff.2 he)
  unfold gsum at this ⊢
  rwa [perm_isum (h.map fun f => if e.1 < f.1 then f.2 else 0)] at this⟩
theorem gsum_none {l : List (Rat × Int)} {x : Rat} (h : ∀ e ∈ l, e.1 ≤ x) : gsum l x = 0 := by
 unfold gsum
 induction l with
 | nil => rfl
 | cons a l ih =>
  rw [List.map_cons, List.sum_cons, ih fun e he => h e (List.mem_cons_of_mem _ he), if_neg (by have := h a (by simp); grind)]
  rfl
theorem dsum_pos : ∀ (N : Nat) (l : List (Rat × Int)), l.length ≤ N → Alt l → tsum l = 0 → 0 ≤ dsum l ∧ (l ≠ [] → 0 < dsum l)
 | 0, l, hN, _, _ => by
  obtain rfl : l = [] := List.eq_nil_of_length_eq_zero (by omega)
  exact ⟨by unfold dsum; simp, fun h => absurd rfl h⟩
 | N + 1, l, hN, a, ht => by
  by_cases h0 : l = []
  ·subst h0
   exact ⟨by unfold dsum; simp, fun h => absurd rfl h⟩
  obtain ⟨e1, m1, top1⟩ := max_mem l h0
  have p1 := List.perm_cons_erase m1
  generalize l.erase e1 = l1 at p1
  have a1 := a.perm p1
  have t1 : tsum (e1 :: l1) = 0 := by unfold tsum at ht ⊢; rwa [perm_isum (p1.map _)] at ht
  have d1 : dsum l = dsum (e1 :: l1) := by unfold dsum; exact perm_rsum (p1.map _)
  have top1' : ∀ f ∈ l1, f.1 < e1.1 := fun f hf => by
   have h1 := top1 f (p1.mem_iff.2 (List.mem_cons_of_mem _ hf))
   have nd := a1.nd
   rw [List.map_cons, List.nodup_cons] at nd
   have : f.1 ≠ e1.1 := fun e => nd.1 (by rw [← e]; exact List.mem_map_of_mem hf)
   grind
  have s1 : e1.2 = 1 := by
   have := a1.alt e1 (by simp)
   rw [gsum_none (x := e1.1)] at this
   ·omega
   ·intro f hf
    rcases List.mem_cons.1 hf with rfl | hf
    ·exact Rat.le_refl
    ·have := top1' f hf; grind
  by_cases h1 : l1 = []
  ·subst h1
   unfold tsum at t1
   simp at t1
   omega
  obtain ⟨e2, m2, top2⟩ := max_mem l1 h1
  have p2 := List.perm_cons_erase m2
  generalize l1.erase e2 = l2 at p2
  have q2 := p2.cons e1
  have a2 := a1.perm q2
  have t2 : tsum (e1 :: e2 :: l2) = 0 := by unfold tsum at t1 ⊢; rwa [perm_isum (q2.map _)] at t1
  have d2 : dsum (e1 :: l1) = dsum (e1 :: e2 :: l2) := by unfold dsum; exact perm_rsum (q2.map _)
  have x12 : e2.1 < e1.1 := top1' e2 m2
  have top2' : ∀ f ∈ l2, f.1 < e2.1 := fun f hf => by
   have h1 := top2 f (p2.mem_iff.2 (List.mem_cons_of_mem _ hf))
   have nd := a2.nd
   rw [List.map_cons, List.map_cons, List.nodup_cons, List.nodup_cons] at nd
   have : f.1 ≠ e2.1 := fun e => nd.2.1 (by rw [← e]; exact List.mem_map_of_mem hf)
   grind
  have g2 : ∀ x, gsum (e1 :: e2 :: l2) x = (if x < e1.1 then e1.2 else 0) + ((if x < e2.1 then e2.2 else 0) + gsum l2 x) := fun x => by
   unfold gsum; simp
  have s2 : e2.2 = -1 := by
   have := a2.alt e2 (by simp)
   rw [g2, if_pos x12, if_neg (by grind), gsum_none fun f hf => by have := top2' f hf; grind] at this
   omega
  have a3 : Alt l2 := ⟨by
   have nd := a2.nd
   rw [List.map_cons, List.map_cons, List.nodup_cons, List.nodup_cons] at nd
   exact nd.2.2, fun f hf => by
   have := a2.alt f (by simp [hf])
   rw [g2, if_pos (by have := top2' f hf; grind), if_pos (top2' f hf)] at this
   omega⟩
  have t3 : tsum l2 = 0 := by
   unfold tsum at t2 ⊢
   simp only [List.map_cons, List.sum_cons] at t2
   omega
  have hl : l2.length ≤ N := by
   have := p1.length_eq; have := p2.length_eq
   simp only [List.length_cons] at *
   omega
  have ih := (dsum_pos N l2 hl a3 t3).1
  have ed : dsum (e1 :: e2 :: l2) = e1.1 + (-e2.1 + dsum l2) := by
   unfold dsum
   simp only [List.map_cons, List.sum_cons, s1, s2]
   grind
  have : 0 < dsum l := by rw [d1, d2, ed]; grind
  exact ⟨by grind, fun _ => this⟩
end Go.Proofs.YtngginofamlkkaaGreatDoor.PlaneG
namespace Go.Proofs.YtngginofamlkkaaGreatDoor.PlaneG
def X (u v : Q2) (y : Rat) : Rat := u.x + (v.x - u.x) * ((y - u.h) / (v.h - u.h))
def at_ (u v : Q2) (y : Rat) : Q2 := ⟨X u v y, y⟩
theorem crs_X {u v : Q2} (h : u.h ≠ v.h) (t y : Rat) : crs u v ⟨t, y⟩ = (v.h - u.h) * (X u v y - t) := by
 have hn : v.h - u.h ≠ 0 := by grind
 have e : (v.h - u.h) * ((y - u.h) / (v.h - u.h)) = y - u.h := by
  rw [Rat.div_def, Rat.mul_comm (y - u.h), ← Rat.mul_assoc, Rat.mul_inv_cancel _ hn, Rat.one_mul]
 unfold crs X
 simp only
 generalize (y - u.h) / (v.h - u.h) = k at e
 grind
theorem X_rev {u v : Q2} (h : u.h ≠ v.h) (y : Rat) : X u v y = X v u y := by
 have e1 := crs_X h (X v u y) y
 have e2 := crs_X (u := v) (v := u) (fun e => h e.symm) (X v u y) y
 have e3 := crs_swap u v ⟨X v u y, y⟩
 have hn : v.h - u.h ≠ 0 := by grind
 have : (v.h - u.h) * (X u v y - X v u y) = 0 := by grind
 rcases Rat.mul_eq_zero.1 this with h' | h'
 ·exact absurd h' hn
 ·grind
theorem wt_X {u v : Q2} (h : u.h ≠ v.h) (t y : Rat) : wt (u, v) ⟨t, y⟩ = if t < X u v y then (if u.h < y ∧ y < v.h then 1 else if v.h < y ∧ y < u.h then -1 else 0) else 0 := by
 have e := crs_X h t y
 by_cases hu : u.h < v.h
 ·have hp : 0 < v.h - u.h := by grind
  rw [wt_up hu]
  by_cases ht : t < X u v y
  ·have : 0 < crs u v ⟨t, y⟩ := by rw [e]; exact Rat.mul_pos hp (by grind)
   rw [if_pos ht]
   by_cases hc : u.h < y ∧ y < v.h
   ·rw [if_pos hc, if_pos ⟨hc.1, hc.2, this⟩]
   ·rw [if_neg hc, if_neg (by grind), if_neg (by grind)]
  ·have : crs u v ⟨t, y⟩ ≤ 0 := by
    rw [e]
    have h0 : 0 ≤ t - X u v y := by grind
    have := Rat.mul_nonneg (Rat.le_of_lt hp) h0
    grind
   rw [if_neg ht, if_neg (by grind)]
 ·have hv : v.h < u.h := by grind
  have hp : 0 < u.h - v.h := by grind
  rw [wt_down hv]
  by_cases ht : t < X u v y
  ·have : crs u v ⟨t, y⟩ < 0 := by
    have := Rat.mul_pos hp (b := X u v y - t) (by grind)
    rw [e]; grind
   rw [if_pos ht, if_neg (c := u.h < y ∧ y < v.h) (by grind)]
   by_cases hc : v.h < y ∧ y < u.h
   ·rw [if_pos (c := v.h < y ∧ y < u.h ∧ crs u v ⟨t, y⟩ < 0) ⟨hc.1, hc.2, this⟩, if_pos hc]
   ·rw [if_neg (c := v.h < y ∧ y < u.h ∧ crs u v ⟨t, y⟩ < 0) (by grind), if_neg hc]; rfl
  ·have : 0 ≤ crs u v ⟨t, y⟩ := by
    rw [e]
    have h0 : 0 ≤ t - X u v y := by grind
    have := Rat.mul_nonneg (Rat.le_of_lt hp) h0
    grind
   rw [if_neg ht, if_neg (c := v.h < y ∧ y < u.h ∧ crs u v ⟨t, y⟩ < 0) (by grind)]
   rfl
theorem crs_part {p q : Q2} (h : p.h < q.h) (y : Rat) (z : Q2) : (q.h - p.h) * crs p (at_ p q y) z = (y - p.h) * crs p q z := by
 have hn : q.h - p.h ≠ 0 := by grind
 have e : (q.h - p.h) * ((y - p.h) / (q.h - p.h)) = y - p.h := by
  rw [Rat.div_def, Rat.mul_comm (y - p.h), ← Rat.mul_assoc, Rat.mul_inv_cancel _ hn, Rat.one_mul]
 unfold crs at_ X
 simp only
 generalize (y - p.h) / (q.h - p.h) = k at e
 grind
theorem crs_mid {p q : Q2} (h : p.h < q.h) (y : Rat) (u v : Q2) : (q.h - p.h) * crs u v (at_ p q y) = (q.h - y) * crs u v p + (y - p.h) * crs u v q := by
 have hn : q.h - p.h ≠ 0 := by grind
 have e : (q.h - p.h) * ((y - p.h) / (q.h - p.h)) = y - p.h := by
  rw [Rat.div_def, Rat.mul_comm (y - p.h), ← Rat.mul_assoc, Rat.mul_inv_cancel _ hn, Rat.one_mul]
 unfold crs at_ X
 simp only
 generalize (y - p.h) / (q.h - p.h) = k at e
 grind
end Go.Proofs.YtngginofamlkkaaGreatDoor.PlaneG
namespace Go.Proofs.YtngginofamlkkaaGreatDoor.PlaneG
theorem scale_neg {k m c a : Rat} (hk : 0 < k) (hm : 0 < m) (e : k * c = m * a) : c < 0 ↔ a < 0 := by
 constructor
 ·intro h
  have h1 := Rat.mul_pos hk (b := -c) (by grind)
  rcases Classical.em (a < 0) with h' | h'
  ·exact h'
  ·have := Rat.mul_nonneg (Rat.le_of_lt hm) (b := a) (by grind)
   grind
 ·intro h
  have h1 := Rat.mul_pos hm (b := -a) (by grind)
  rcases Classical.em (c < 0) with h' | h'
  ·exact h'
  ·have := Rat.mul_nonneg (Rat.le_of_lt hk) (b := c) (by grind)
   grind
theorem scale_pos {k m c a : Rat} (hk : 0 < k) (hm : 0 < m) (e : k * c = m * a) : 0 < c ↔ 0 < a := by
 have := scale_neg (c := -c) (a := -a) hk hm (by grind)
 grind
theorem crs_at {p q : Q2} (h : p.h < q.h) (y : Rat) : crs p q (at_ p q y) = 0 := by
 have e := crs_mid h y p q
 rw [crs_aba, crs_abb] at e
 have hn : q.h - p.h ≠ 0 := by grind
 have : (q.h - p.h) * crs p q (at_ p q y) = 0 := by grind
 rcases Rat.mul_eq_zero.1 this with h' | h'
 ·exact absurd h' hn
 ·exact h'
theorem apart_part {p q u v : Q2} (h : p.h < q.h) {y : Rat} (h1 : p.h < y) (h2 : y < q.h) (ha : Apart p q u v) : Apart p (at_ p q y) u v := by
 have hk : 0 < q.h - p.h := by grind
 have hm : 0 < y - p.h := by grind
 have hl : 0 < q.h - y := by grind
 have e1 := crs_part h y u
 have e2 := crs_part h y v
 have e3 := crs_mid h y u v
 unfold Apart at ha ⊢
 rcases ha with ⟨g1, g2⟩ | ⟨g1, g2⟩ | ⟨g1, g2⟩ | ⟨g1, g2⟩ | ⟨g1, g2, g3, g4, g5⟩
 rotate_right
 ·refine .inr (.inr (.inr (.inr ⟨?_, ?_, g3, ?_, ?_⟩)))
  ·rw [g1, Rat.mul_zero] at e1
   rcases Rat.mul_eq_zero.1 e1 with h' | h'
   ·grind
   ·exact h'
  ·rw [g2, Rat.mul_zero] at e2
   rcases Rat.mul_eq_zero.1 e2 with h' | h'
   ·grind
   ·exact h'
  ·rw [g3, g4] at e3
   have e3' : (q.h - p.h) * crs u v (at_ p q y) = 0 := by grind
   rcases Rat.mul_eq_zero.1 e3' with h' | h'
   ·grind
   ·exact h'
  ·show (_ ∧ _ ∧ y < u.h ∧ y < v.h) ∨ (_ ∧ _ ∧ u.h < y ∧ v.h < y)
   grind
 ·exact .inl ⟨(scale_neg hk hm e1).2 g1, (scale_neg hk hm e2).2 g2⟩
 ·exact .inr (.inl ⟨(scale_pos hk hm e1).2 g1, (scale_pos hk hm e2).2 g2⟩)
 ·refine .inr (.inr (.inl ⟨g1, ?_⟩))
  exact lin_neg (a := -crs u v p) (b := -crs u v q) (m := q.h - y) (n := y - p.h) hk hl hm (by grind) (by grind) (by grind)
 ·refine .inr (.inr (.inr (.inl ⟨g1, ?_⟩)))
  exact lin_pos (a := -crs u v p) (b := -crs u v q) (m := q.h - y) (n := y - p.h) hk hl hm (by grind) (by grind) (by grind)
theorem dlt_own {p q : Q2} (h : p.h < q.h) {y : Rat} (h1 : p.h < y) (h2 : y < q.h) : dlt p (at_ p q y) (p, q) = 0 := by
 have e := crs_at h y
 have ey : (at_ p q y).h = y := rfl
 unfold dlt inR
 rw [wt_up h, wt_up h]
 simp only [ey, e]
 rw [if_neg (c := p.h < p.h ∧ p.h < q.h ∧ 0 < crs p q p) (by grind), if_neg (c := p.h < y ∧ y < q.h ∧ (0 : Rat) < 0) (by grind), if_neg (by grind), if_neg (by grind)]
 rfl
theorem dlt_above {p x u v : Q2} (h : p.h < x.h) (h1 : x.h < u.h) (h2 : x.h < v.h) : dlt p x (u, v) = 0 := by
 unfold dlt inR wt
 simp only
 rw [if_neg (c := u.h < p.h ∧ p.h < v.h ∧ 0 < crs u v p) (by grind), if_neg (c := v.h < p.h ∧ p.h < u.h ∧ crs u v p < 0) (by grind), if_neg (c := u.h < x.h ∧ x.h < v.h ∧ 0 < crs u v x) (by grind), if_neg (c := v.h < x.h ∧ x.h < u.h ∧ crs u v x < 0) (by grind), if_neg (by grind), if_neg (by grind)]
 rfl
theorem dlt_past {p q w : Q2} (h : p.h < q.h) {y : Rat} (h1 : p.h < y) (h2 : y < q.h) (dw : w.h ≠ y) (dp : p.h ≠ w.h) (dq : q.h ≠ w.h) (hw : w.h < q.h → crs p q w ≠ 0) : dlt p (at_ p q y) (q, w) = 0 := by
 have ey : (at_ p q y).h = y := rfl
 by_cases hc : y < w.h
 ·exact dlt_above (by rw [ey]; exact h1) (by rw [ey]; exact h2) (by rw [ey]; exact hc)
 ·have hn := hw (by grind)
  have hk : 0 < q.h - p.h := by grind
  have hl : 0 < q.h - y := by grind
  have e := crs_mid h y q w
  have c1 := crs_cyc p q w
  have c2 := crs_aba q w
  refine dlt_apart (by rw [ey]; exact h1) dq (by grind) dp (by rw [ey]; grind) (by rw [ey]; grind) ?_
  have e' : (q.h - p.h) * crs q w (at_ p q y) = (q.h - y) * crs q w p := by rw [e, c2]; grind
  unfold Apart
  by_cases hs : crs p q w < 0
  ·exact .inr (.inr (.inl ⟨by grind, (scale_neg hk hl e').2 (by grind)⟩))
  ·exact .inr (.inr (.inr (.inl ⟨by grind, (scale_pos hk hl e').2 (by grind)⟩)))
theorem wind_on_up {n : Nat} {P : Nat → Q2} (c : Contour n P) {s : Nat} (h : (P (s + 1)).h < (P (s + 2)).h) {y : Rat} (h1 : (P (s + 1)).h < y) (h2 : y < (P (s + 2)).h) (gen : ∀ j, (P j).h ≠ y) :
  wind n P (at_ (P (s + 1)) (P (s + 2)) y) = val n P s := by
 have n3 := c.n3
 obtain ⟨m, rfl⟩ : ∃ m, n = m + 3 := ⟨n - 3, by omega⟩
 have hw := wind_dlt c (P (s + 1)) (at_ (P (s + 1)) (P (s + 2)) y) s
 have ey : (at_ (P (s + 1)) (P (s + 2)) y).h = y := rfl
 have hk : 0 < (P (s + 2)).h - (P (s + 1)).h := by grind
 have hm : 0 < y - (P (s + 1)).h := by grind
 rw [isum_three] at hw
 ·simp only [Nat.zero_add] at hw
  rw [show 1 + s = s + 1 by omega, show 2 + s = s + 2 by omega, show s + 1 + 1 = s + 2 by omega, show s + 2 + 1 = s + 3 by omega] at hw
  have d1 : (P s).h ≠ (P (s + 1)).h := c.lev s (s + 1) (by omega) (by omega)
  have d3 : (P (s + 1)).h ≠ (P (s + 3)).h := c.lev _ _ (by omega) (by omega)
  have d4 : (P (s + 2)).h ≠ (P (s + 3)).h := c.lev _ _ (by omega) (by omega)
  rw [dlt_prev _ _ _ (by rw [ey]; exact h1) d1 (by rw [ey]; exact gen s), dlt_own h h1 h2, dlt_past h h1 h2 (gen _) d3 d4 (fun g => c.peak (s + 1) (.inl ⟨h, g⟩))] at hw
  have e := crs_part h y (P s)
  have es : (if (P (s + 1)).h < (P s).h ∧ crs (P (s + 1)) (at_ (P (s + 1)) (P (s + 2)) y) (P s) < 0 then (1 : Int) else 0) = if (P (s + 1)).h < (P s).h ∧ crs (P (s + 1)) (P (s + 2)) (P s) < 0 then 1 else 0 := ite_same (by rw [scale_neg hk hm e])
  rw [es] at hw
  unfold val b01
  rw [if_pos h]
  omega
 ·intro j j1 j2
  have k1 : (P (s + 1)).h ≠ (P (j + s)).h := c.lev _ _ (by omega) (by omega)
  have k5 : (P (j + s)).h ≠ (P (j + s + 1)).h := c.lev _ _ (by omega) (by omega)
  have k2 : (P (s + 1)).h ≠ (P (j + s + 1)).h := c.lev _ _ (by omega) (by omega)
  exact dlt_apart (by rw [ey]; exact h1) k5 k1 k2 (by rw [ey]; exact fun e => gen _ e.symm) (by rw [ey]; exact fun e => gen _ e.symm) (apart_part h h1 h2 (c.apart (s + 1) (j + s) (by omega) (by omega)))
end Go.Proofs.YtngginofamlkkaaGreatDoor.PlaneG
namespace Go.Proofs.YtngginofamlkkaaGreatDoor.PlaneG
theorem wind_on_down {n : Nat} {P : Nat → Q2} (c : Contour n P) {s : Nat} (h : (P (s + 2)).h < (P (s + 1)).h) {y : Rat} (h1 : (P (s + 2)).h < y) (h2 : y < (P (s + 1)).h) (gen : ∀ j, (P j).h ≠ y) :
  wind n P (at_ (P (s + 2)) (P (s + 1)) y) = val n P s + 1 := by
 have n3 := c.n3
 rw [val_down c h]
 obtain ⟨m, rfl⟩ : ∃ m, n = m + 3 := ⟨n - 3, by omega⟩
 have hw := wind_dlt c (P (s + 2)) (at_ (P (s + 2)) (P (s + 1)) y) s
 have ey : (at_ (P (s + 2)) (P (s + 1)) y).h = y := rfl
 have hk : 0 < (P (s + 1)).h - (P (s + 2)).h := by grind
 have hm : 0 < y - (P (s + 2)).h := by grind
 rw [isum_three] at hw
 ·simp only [Nat.zero_add] at hw
  rw [show 1 + s = s + 1 by omega, show 2 + s = s + 2 by omega, show s + 1 + 1 = s + 2 by omega, show s + 2 + 1 = s + 3 by omega] at hw
  have d1 : (P s).h ≠ (P (s + 1)).h := c.lev s (s + 1) (by omega) (by omega)
  have d2 : (P s).h ≠ (P (s + 2)).h := c.lev s (s + 2) (by omega) (by omega)
  have d4 : (P (s + 2)).h ≠ (P (s + 3)).h := c.lev _ _ (by omega) (by omega)
  have r1 := dlt_rev (P (s + 2)) (at_ (P (s + 2)) (P (s + 1)) y) (P (s + 1), P s)
  have r2 := dlt_rev (P (s + 2)) (at_ (P (s + 2)) (P (s + 1)) y) (P (s + 3), P (s + 2))
  have r0 := dlt_rev (P (s + 2)) (at_ (P (s + 2)) (P (s + 1)) y) (P (s + 2), P (s + 1))
  unfold rev at r0 r1 r2
  simp only at r0 r1 r2
  have hz : (P s).h < (P (s + 1)).h → crs (P (s + 2)) (P (s + 1)) (P s) ≠ 0 := fun g => by
   have := c.peak s (.inl ⟨g, h⟩)
   have e1 := crs_swap (P (s + 1)) (P (s + 2)) (P s)
   have e2 := crs_cyc (P s) (P (s + 1)) (P (s + 2))
   grind
  rw [r0, r1, r2, dlt_own h h1 h2, dlt_past h h1 h2 (gen _) (fun e => d2 e.symm) (fun e => d1 e.symm) hz, dlt_prev _ _ _ (by rw [ey]; exact h1) (fun e => d4 e.symm) (by rw [ey]; exact gen _)] at hw
  have e := crs_part h y (P (s + 3))
  have es : (if (P (s + 2)).h < (P (s + 3)).h ∧ crs (P (s + 2)) (at_ (P (s + 2)) (P (s + 1)) y) (P (s + 3)) < 0 then (1 : Int) else 0) = if (P (s + 2)).h < (P (s + 3)).h ∧ crs (P (s + 2)) (P (s + 1)) (P (s + 3)) < 0 then 1 else 0 := ite_same (by rw [scale_neg hk hm e])
  rw [es] at hw
  unfold b01
  omega
 ·intro j j1 j2
  have k3 : (P (s + 2)).h ≠ (P (j + s)).h := c.lev _ _ (by omega) (by omega)
  have k5 : (P (j + s)).h ≠ (P (j + s + 1)).h := c.lev _ _ (by omega) (by omega)
  have k4 : (P (s + 2)).h ≠ (P (j + s + 1)).h := c.lev _ _ (by omega) (by omega)
  exact dlt_apart (by rw [ey]; exact h1) k5 k3 k4 (by rw [ey]; exact fun e => gen _ e.symm) (by rw [ey]; exact fun e => gen _ e.symm) (apart_part h h1 h2 (apart_swap (c.apart (s + 1) (j + s) (by omega) (by omega))))
def dir (u v : Q2) (y : Rat) : Int := if u.h < y ∧ y < v.h then 1 else if v.h < y ∧ y < u.h then -1 else 0
theorem wind_line {n : Nat} {P : Nat → Q2} (c : Contour n P) (t y : Rat) : wind n P ⟨t, y⟩ = isum n (fun j => if t < X (P j) (P (j + 1)) y then dir (P j) (P (j + 1)) y else 0) := by
 have n3 := c.n3
 unfold wind
 exact isum_congr fun j _ => wt_X (c.lev j (j + 1) (by omega) (by omega)) t y
end Go.Proofs.YtngginofamlkkaaGreatDoor.PlaneG
namespace Go.Proofs.YtngginofamlkkaaGreatDoor.PlaneG
theorem dir_cases {u v : Q2} {y : Rat} (h : dir u v y ≠ 0) : (u.h < y ∧ y < v.h ∧ dir u v y = 1) ∨ (v.h < y ∧ y < u.h ∧ dir u v y = -1) := by
 unfold dir at h ⊢
 by_cases h1 : u.h < y ∧ y < v.h
 ·rw [if_pos h1]; exact .inl ⟨h1.1, h1.2, rfl⟩
 ·rw [if_neg h1] at h ⊢
  by_cases h2 : v.h < y ∧ y < u.h
  ·rw [if_pos h2]; exact .inr ⟨h2.1, h2.2, rfl⟩
  ·rw [if_neg h2] at h; exact absurd rfl h
theorem crs_on {u v : Q2} (h : u.h ≠ v.h) (y : Rat) : crs u v ⟨X u v y, y⟩ = 0 := by
 rw [crs_X h]; grind
theorem side_neg {u v : Q2} {y : Rat} (h : dir u v y ≠ 0) {p q : Q2} (h1 : crs p q u < 0) (h2 : crs p q v < 0) : crs p q ⟨X u v y, y⟩ < 0 := by
 rcases dir_cases h with ⟨g1, g2, _⟩ | ⟨g1, g2, _⟩
 ·have e := crs_mid (p := u) (q := v) (by grind) y p q
  exact lin_neg (a := -crs p q u) (b := -crs p q v) (m := v.h - y) (n := y - u.h) (k := v.h - u.h) (by grind) (by grind) (by grind) (by show _ * crs p q (at_ u v y) = _; grind) (by grind) (by grind)
 ·have e := crs_mid (p := v) (q := u) (by grind) y p q
  rw [X_rev (by grind)]
  exact lin_neg (a := -crs p q v) (b := -crs p q u) (m := u.h - y) (n := y - v.h) (k := u.h - v.h) (by grind) (by grind) (by grind) (by show _ * crs p q (at_ v u y) = _; grind) (by grind) (by grind)
theorem side_pos {u v : Q2} {y : Rat} (h : dir u v y ≠ 0) {p q : Q2} (h1 : 0 < crs p q u) (h2 : 0 < crs p q v) : 0 < crs p q ⟨X u v y, y⟩ := by
 have e1 := crs_swap p q u
 have e2 := crs_swap p q v
 have e3 := crs_swap p q ⟨X u v y, y⟩
 have := side_neg h (p := q) (q := p) (by grind) (by grind)
 grind
theorem X_far {p q u v : Q2} {y : Rat} (hp : dir p q y ≠ 0) (hu : dir u v y ≠ 0) (ha : Apart p q u v) : X p q y ≠ X u v y := fun e => by
 have np : p.h ≠ q.h := by rcases dir_cases hp with h | h <;> grind
 have nu : u.h ≠ v.h := by rcases dir_cases hu with h | h <;> grind
 have z1 := crs_on np y
 have z2 := crs_on nu y
 rcases ha with ⟨g1, g2⟩ | ⟨g1, g2⟩ | ⟨g1, g2⟩ | ⟨g1, g2⟩ | ⟨_, _, _, _, g5⟩
 rotate_right
 ·rcases dir_cases hp with h | h <;> rcases dir_cases hu with k | k <;> grind
 ·have := side_neg hu g1 g2; rw [← e] at this; grind
 ·have := side_pos hu g1 g2; rw [← e] at this; grind
 ·have := side_neg hp g1 g2; rw [e] at this; grind
 ·have := side_pos hp g1 g2; rw [e] at this; grind
theorem X_near {a b c : Q2} {y : Rat} (h1 : dir a b y ≠ 0) (h2 : dir b c y ≠ 0) (hb : b.h ≠ y) (hc : ((a.h < b.h ∧ c.h < b.h) ∨ (b.h < a.h ∧ b.h < c.h)) → crs a b c ≠ 0) : X a b y ≠ X b c y := fun e => by
 have n1 : a.h ≠ b.h := by rcases dir_cases h1 with h | h <;> grind
 have n2 : b.h ≠ c.h := by rcases dir_cases h2 with h | h <;> grind
 have z1 := crs_on n1 y
 have z2 := crs_on n2 y
 rw [← e] at z2
 have ne : crs a b c ≠ 0 := hc (by rcases dir_cases h1 with g | g <;> rcases dir_cases h2 with k | k <;> grind)
 have id : (y - b.h) * crs a b c = (a.h - b.h) * crs b c ⟨X a b y, y⟩ + (c.h - b.h) * crs a b ⟨X a b y, y⟩ := by unfold crs; grind
 rw [z1, z2] at id
 have : (y - b.h) * crs a b c = 0 := by grind
 rcases Rat.mul_eq_zero.1 this with h' | h'
 ·grind
 ·exact ne h'
theorem Contour.X_ne {n : Nat} {P : Nat → Q2} (c : Contour n P) {y : Rat} (gen : ∀ j, (P j).h ≠ y) {i j : Nat} (hij : i < j) (hj : j < i + n) (h1 : dir (P i) (P (i + 1)) y ≠ 0) (h2 : dir (P j) (P (j + 1)) y ≠ 0) : X (P i) (P (i + 1)) y ≠ X (P j) (P (j + 1)) y := by
 have n3 := c.n3
 by_cases e1 : j = i + 1
 ·subst e1
  exact X_near h1 h2 (gen _) (c.peak i)
 by_cases e2 : j + 1 = i + n
 ·have p1 : P (j + 1) = P i := by rw [e2, c.per]
  have p2 : P (j + 2) = P (i + 1) := by rw [show j + 2 = i + 1 + n by omega, c.per]
  have := X_near (a := P j) (b := P (j + 1)) (c := P (j + 2)) (y := y) h2 (by rw [p1, p2]; exact h1) (gen _) (c.peak j)
  rw [p2, p1] at this
  rw [p1]
  exact fun e => this e.symm
 ·exact X_far h1 h2 (c.apart i j (by omega) (by omega))
def cl (P : Nat → Q2) (y : Rat) : Nat → List (Rat × Int)
 | 0 => []
 | n + 1 => if dir (P n) (P (n + 1)) y = 0 then cl P y n else (X (P n) (P (n + 1)) y, dir (P n) (P (n + 1)) y) :: cl P y n
theorem cl_gsum (P : Nat → Q2) (y x : Rat) : ∀ n, gsum (cl P y n) x = isum n (fun j => if x < X (P j) (P (j + 1)) y then dir (P j) (P (j + 1)) y else 0)
 | 0 => rfl
 | n + 1 => by
  have ih := cl_gsum P y x n
  show gsum (if _ then _ else _) x = isum n _ + _
  rw [← ih]
  by_cases h : dir (P n) (P (n + 1)) y = 0
  ·rw [if_pos h]; simp [h]
  ·rw [if_neg h]
   unfold gsum
   simp only [List.map_cons, List.sum_cons]
   omega
theorem cl_tsum (P : Nat → Q2) (y : Rat) : ∀ n, tsum (cl P y n) = isum n (fun j => dir (P j) (P (j + 1)) y)
 | 0 => rfl
 | n + 1 => by
  have ih := cl_tsum P y n
  show tsum (if _ then _ else _) = isum n _ + _
  rw [← ih]
  by_cases h : dir (P n) (P (n + 1)) y = 0
  ·rw [if_pos h]; simp [h]
  ·rw [if_neg h]
   unfold tsum
   simp only [List.map_cons, List.sum_cons]
   omega
theorem cl_mem {P : Nat → Q2} {y : Rat} {e : Rat × Int} : ∀ {n}, e ∈ cl P y n → ∃ j, j < n ∧ dir (P j) (P (j + 1)) y ≠ 0 ∧ e = (X (P j) (P (j + 1)) y, dir (P j) (P (j + 1)) y)
 | 0, h => by simp [cl] at h
 | n + 1, h => by
  unfold cl at h
  split at h
  ·obtain ⟨j, h1, h2⟩ := cl_mem h
   exact ⟨j, by omega, h2⟩
  ·rename_i hd
   rcases List.mem_cons.1 h with rfl | h
   ·exact ⟨n, by omega, hd, rfl⟩
   ·obtain ⟨j, h1, h2⟩ := cl_mem h
    exact ⟨j, by omega, h2⟩
theorem dir_tel (u v : Q2) {y : Rat} (h1 : u.h ≠ y) (h2 : v.h ≠ y) : dir u v y = (if y < v.h then 1 else 0) - (if y < u.h then 1 else 0) := by
 unfold dir
 by_cases g1 : u.h < y <;> by_cases g2 : v.h < y
 ·rw [if_neg (by grind), if_neg (by grind), if_neg (by grind), if_neg (by grind)]; rfl
 ·rw [if_pos (by grind), if_pos (by grind), if_neg (by grind)]; rfl
 ·rw [if_neg (by grind), if_pos (by grind), if_neg (by grind), if_pos (by grind)]; rfl
 ·rw [if_neg (by grind), if_neg (by grind), if_pos (by grind), if_pos (by grind)]; rfl
theorem cl_total {n : Nat} {P : Nat → Q2} (c : Contour n P) {y : Rat} (gen : ∀ j, (P j).h ≠ y) : tsum (cl P y n) = 0 := by
 rw [cl_tsum, isum_congr fun j _ => dir_tel (P j) (P (j + 1)) (gen j) (gen (j + 1))]
 have t := isum_tel n (fun j => if y < (P j).h then 1 else 0)
 have p : P n = P 0 := by have := c.per 0; rwa [Nat.zero_add] at this
 simp only [p] at t
 omega
theorem cl_nodup {n : Nat} {P : Nat → Q2} (c : Contour n P) {y : Rat} (gen : ∀ j, (P j).h ≠ y) : ∀ m, m ≤ n → ((cl P y m).map (·.1)).Nodup
 | 0, _ => List.nodup_nil
 | m + 1, hm => by
  have ih := cl_nodup c gen m (by omega)
  unfold cl
  split
  ·exact ih
  ·rename_i hd
   rw [List.map_cons, List.nodup_cons]
   refine ⟨fun hx => ?_, ih⟩
   obtain ⟨e, he, hxe⟩ := List.mem_map.1 hx
   obtain ⟨j, hj, hdj, rfl⟩ := cl_mem he
   exact c.X_ne gen hj (by omega) hdj hd hxe
end Go.Proofs.YtngginofamlkkaaGreatDoor.PlaneG
namespace Go.Proofs.YtngginofamlkkaaGreatDoor.PlaneG
theorem cl_alt {n : Nat} {P : Nat → Q2} (c : Contour n P) (hv : ∀ s, val n P s = 0) {y : Rat} (gen : ∀ j, (P j).h ≠ y) : Alt (cl P y n) := by
 have n3 := c.n3
 refine ⟨cl_nodup c gen n (Nat.le_refl _), fun e he => ?_⟩
 obtain ⟨j, hj, hd, rfl⟩ := cl_mem he
 have hw := wind_line c (X (P j) (P (j + 1)) y) y
 rw [← cl_gsum] at hw
 simp only
 rw [← hw]
 have p0 : P (j + n - 1 + 1) = P j := by rw [show j + n - 1 + 1 = j + n by omega, c.per]
 have p1 : P (j + n - 1 + 2) = P (j + 1) := by rw [show j + n - 1 + 2 = j + 1 + n by omega, c.per]
 rcases dir_cases hd with ⟨g1, g2, g3⟩ | ⟨g1, g2, g3⟩
 ·left
  refine ⟨g3, ?_⟩
  have := wind_on_up c (s := j + n - 1) (y := y) (by rw [p0, p1]; grind) (by rw [p0]; exact g1) (by rw [p1]; exact g2) gen
  rw [p0, p1, hv] at this
  exact this
 ·right
  refine ⟨g3, ?_⟩
  have := wind_on_down c (s := j + n - 1) (y := y) (by rw [p0, p1]; grind) (by rw [p1]; exact g1) (by rw [p0]; exact g2) gen
  rw [p0, p1, hv] at this
  rw [X_rev (by grind)]
  exact this
def flip (l : List (Rat × Int)) : List (Rat × Int) := l.map fun e => (e.1, -e.2)
theorem flip_gsum (l : List (Rat × Int)) (x : Rat) : gsum (flip l) x = - gsum l x := by
 unfold gsum flip
 induction l with
 | nil => rfl
 | cons a l ih =>
  simp only [List.map_cons, List.sum_cons] at ih ⊢
  rw [ih]
  split <;> omega
theorem flip_tsum (l : List (Rat × Int)) : tsum (flip l) = - tsum l := by
 unfold tsum flip
 induction l with
 | nil => rfl
 | cons a l ih =>
  simp only [List.map_cons, List.sum_cons] at ih ⊢
  rw [ih]
  omega
theorem flip_dsum (l : List (Rat × Int)) : dsum (flip l) = - dsum l := by
 unfold dsum flip
 induction l with
 | nil => simp
 | cons a l ih =>
  simp only [List.map_cons, List.sum_cons] at ih ⊢
  rw [ih, Rat.intCast_neg]
  grind
theorem cl_alt' {n : Nat} {P : Nat → Q2} (c : Contour n P) (hv : ∀ s, val n P s = -1) {y : Rat} (gen : ∀ j, (P j).h ≠ y) : Alt (flip (cl P y n)) := by
 have n3 := c.n3
 refine ⟨by
  have := cl_nodup c gen n (Nat.le_refl _)
  unfold flip
  rw [List.map_map]
  exact this, fun e he => ?_⟩
 obtain ⟨e0, he0, rfl⟩ := List.mem_map.1 he
 obtain ⟨j, hj, hd, rfl⟩ := cl_mem he0
 have hw := wind_line c (X (P j) (P (j + 1)) y) y
 rw [← cl_gsum] at hw
 simp only
 rw [flip_gsum, ← hw]
 have p0 : P (j + n - 1 + 1) = P j := by rw [show j + n - 1 + 1 = j + n by omega, c.per]
 have p1 : P (j + n - 1 + 2) = P (j + 1) := by rw [show j + n - 1 + 2 = j + 1 + n by omega, c.per]
 rcases dir_cases hd with ⟨g1, g2, g3⟩ | ⟨g1, g2, g3⟩
 ·right
  refine ⟨by omega, ?_⟩
  have := wind_on_up c (s := j + n - 1) (y := y) (by rw [p0, p1]; grind) (by rw [p0]; exact g1) (by rw [p1]; exact g2) gen
  rw [p0, p1, hv] at this
  unfold at_ at this
  omega
 ·left
  refine ⟨by omega, ?_⟩
  have := wind_on_down c (s := j + n - 1) (y := y) (by rw [p0, p1]; grind) (by rw [p1]; exact g1) (by rw [p0]; exact g2) gen
  rw [p0, p1, hv] at this
  rw [X_rev (by grind)]
  unfold at_ at this
  omega
theorem dsum_sign {n : Nat} {P : Nat → Q2} (c : Contour n P) : (∀ y, (∀ j, (P j).h ≠ y) → 0 ≤ dsum (cl P y n) ∧ (cl P y n ≠ [] → 0 < dsum (cl P y n))) ∨ (∀ y, (∀ j, (P j).h ≠ y) → dsum (cl P y n) ≤ 0 ∧ (cl P y n ≠ [] → dsum (cl P y n) < 0)) := by
 rcases val_01 c with hv | hv
 ·exact .inl fun y gen => dsum_pos _ _ (Nat.le_refl _) (cl_alt c hv gen) (cl_total c gen)
 ·refine .inr fun y gen => ?_
  have := dsum_pos _ _ (Nat.le_refl _) (cl_alt' c hv gen) (by rw [flip_tsum, cl_total c gen]; rfl)
  rw [flip_dsum] at this
  refine ⟨by grind, fun hne => ?_⟩
  have h2 := this.2 (by unfold flip; simpa using hne)
  grind
end Go.Proofs.YtngginofamlkkaaGreatDoor.PlaneG
namespace Go.Proofs.YtngginofamlkkaaGreatDoor.PlaneG
def rsum : Nat → (Nat → Rat) → Rat
 | 0, _ => 0
 | n + 1, f => rsum n f + f n
theorem rsum_congr {n : Nat} {f g : Nat → Rat} (h : ∀ j, j < n → f j = g j) : rsum n f = rsum n g := by
 induction n with
 | zero => rfl
 | succ n ih =>
  show rsum n f + f n = rsum n g + g n
  rw [ih fun j hj => h j (by omega), h n (by omega)]
theorem rsum_add (n : Nat) (f g : Nat → Rat) : rsum n (fun j => f j + g j) = rsum n f + rsum n g := by
 induction n with
 | zero => show (0 : Rat) = 0 + 0; grind
 | succ n ih =>
  show rsum n _ + (f n + g n) = rsum n f + f n + (rsum n g + g n)
  rw [ih]; grind
theorem rsum_zero (n : Nat) : rsum n (fun _ => 0) = 0 := by
 induction n with
 | zero => rfl
 | succ n ih => show rsum n _ + 0 = 0; rw [ih]; grind
theorem rsum_swap (m : Nat) (f : Nat → Nat → Rat) : ∀ n, rsum n (fun j => rsum m (fun k => f j k)) = rsum m (fun k => rsum n (fun j => f j k))
 | 0 => (rsum_zero m).symm
 | n + 1 => by
  have ih := rsum_swap m f n
  show rsum n _ + rsum m _ = rsum m (fun k => rsum n (fun j => f j k) + f n k)
  rw [ih, rsum_add]
def gone (a b lo : Int) (m : Nat) : Int := if lo + m ≤ a then 0 else if b ≤ lo + m then b - a else lo + m - a
def lv (z : Int) : Rat := (z : Rat) + 1 / 2
theorem lv_above {a z : Int} : (a : Rat) < lv z ↔ a ≤ z := by
 unfold lv
 constructor
 ·intro h
  rcases Int.lt_or_le z a with h' | h'
  ·have : (z : Rat) + 1 ≤ a := by exact_mod_cast h'
   grind
  ·exact h'
 ·intro h
  have : (a : Rat) ≤ z := by exact_mod_cast h
  grind
theorem lv_below {b z : Int} : lv z < (b : Rat) ↔ z < b := by
 unfold lv
 constructor
 ·intro h
  rcases Int.lt_or_le z b with h' | h'
  ·exact h'
  ·have : (b : Rat) ≤ z := by exact_mod_cast h'
   grind
 ·intro h
  have : (z : Rat) + 1 ≤ b := by exact_mod_cast h
  grind
theorem edge_part {u v : Q2} {a b lo : Int} (hu : u.h = a) (hv : v.h = b) (hab : a < b) (hlo : lo ≤ a) (m : Nat) :
  rsum m (fun k => (dir u v (lv (lo + k)) : Rat) * (2 * X u v (lv (lo + k)))) = 2 * u.x * gone a b lo m + (v.x - u.x) / (b - a) * gone a b lo m * gone a b lo m := by
 induction m with
 | zero =>
  have : gone a b lo 0 = 0 := by unfold gone; rw [if_pos (by omega)]
  rw [this]
  show (0 : Rat) = _
  grind
 | succ m ih =>
  show rsum m _ + (dir u v (lv (lo + m)) : Rat) * (2 * X u v (lv (lo + m))) = _
  rw [ih]
  by_cases h1 : lo + m + 1 ≤ a
  ·have e1 : gone a b lo m = 0 := by unfold gone; rw [if_pos (by omega)]
   have e2 : gone a b lo (m + 1) = 0 := by unfold gone; rw [if_pos (by omega)]
   have e3 : dir u v (lv (lo + m)) = 0 := by
    unfold dir
    rw [hu, hv, if_neg (by rw [lv_above]; omega), if_neg (by rw [lv_above]; omega)]
   rw [e1, e2, e3]
   grind
  ·by_cases h2 : b ≤ lo + m
   ·have e1 : gone a b lo m = b - a := by unfold gone; rw [if_neg (by omega), if_pos (by omega)]
    have e2 : gone a b lo (m + 1) = b - a := by unfold gone; rw [if_neg (by omega), if_pos (by omega)]
    have e3 : dir u v (lv (lo + m)) = 0 := by
     unfold dir
     rw [hu, hv, if_neg (by rw [lv_below]; omega), if_neg (by rw [lv_below]; omega)]
    rw [e1, e2, e3]
    grind
   ·have e1 : gone a b lo m = lo + m - a := by
     unfold gone
     by_cases h3 : lo + (m : Int) ≤ a
     ·rw [if_pos h3]; omega
     ·rw [if_neg h3, if_neg (by omega)]
    have e2 : gone a b lo (m + 1) = lo + m - a + 1 := by
     unfold gone
     rw [if_neg (by omega)]
     by_cases h3 : b ≤ lo + ((m + 1 : Nat) : Int)
     ·rw [if_pos h3]; omega
     ·rw [if_neg h3]; omega
    have e3 : dir u v (lv (lo + m)) = 1 := by
     unfold dir
     rw [hu, hv, if_pos (by rw [lv_above, lv_below]; omega)]
    rw [e1, e2, e3]
    generalize hz : lo + (m : Int) = z
    unfold X lv
    rw [hu, hv]
    have hn : (b : Rat) - a ≠ 0 := by
     have : (a : Rat) < b := by exact_mod_cast hab
     grind
    have d1 : ∀ t : Rat, (v.x - u.x) * (t / ((b : Rat) - a)) = (v.x - u.x) / (b - a) * t := fun t => by
     rw [Rat.div_def, Rat.div_def]; grind
    rw [d1]
    generalize (v.x - u.x) / ((b : Rat) - a) = k
    simp only [Rat.intCast_add, Rat.intCast_sub, Rat.intCast_one]
    grind
theorem edge_all {u v : Q2} {a b lo : Int} {K : Nat} (hu : u.h = a) (hv : v.h = b) (hab : a < b) (hlo : lo ≤ a) (hK : b ≤ lo + K) :
  rsum K (fun k => (dir u v (lv (lo + k)) : Rat) * (2 * X u v (lv (lo + k)))) = (u.x + v.x) * (v.h - u.h) := by
 rw [edge_part hu hv hab hlo, hu, hv]
 have e : gone a b lo K = b - a := by unfold gone; rw [if_neg (by omega), if_pos hK]
 have hn : (b : Rat) - a ≠ 0 := by
  have : (a : Rat) < b := by exact_mod_cast hab
  grind
 rw [e, Rat.intCast_sub]
 have d1 : (v.x - u.x) / ((b : Rat) - a) * ((b : Rat) - a) = v.x - u.x := by
  rw [Rat.div_def, Rat.mul_assoc, Rat.inv_mul_cancel _ hn, Rat.mul_one]
 rw [d1]
 grind
end Go.Proofs.YtngginofamlkkaaGreatDoor.PlaneG
namespace Go.Proofs.YtngginofamlkkaaGreatDoor.PlaneG
def area2 (n : Nat) (P : Nat → Q2) : Rat := rsum n (fun j => ((P j).x + (P (j + 1)).x) * ((P (j + 1)).h - (P j).h))
theorem dir_rev (u v : Q2) (y : Rat) : dir v u y = - dir u v y := by
 unfold dir
 by_cases h1 : u.h < y ∧ y < v.h
 ·rw [if_pos h1, if_neg (by grind), if_pos (by grind)]
 ·by_cases h2 : v.h < y ∧ y < u.h
  ·rw [if_pos h2, if_neg h1, if_pos h2]; rfl
  ·rw [if_neg h2, if_neg h1, if_neg h1, if_neg h2]; rfl
theorem rsum_neg (n : Nat) (f : Nat → Rat) : rsum n (fun j => - f j) = - rsum n f := by
 induction n with
 | zero => show (0 : Rat) = -0; grind
 | succ n ih => show rsum n _ + - f n = -(rsum n f + f n); rw [ih]; grind
theorem edge_any {u v : Q2} {a b lo : Int} {K : Nat} (hu : u.h = a) (hv : v.h = b) (hab : a ≠ b) (ha : lo ≤ a) (hb : lo ≤ b) (hKa : a ≤ lo + K) (hKb : b ≤ lo + K) :
  rsum K (fun k => (dir u v (lv (lo + k)) : Rat) * (2 * X u v (lv (lo + k)))) = (u.x + v.x) * (v.h - u.h) := by
 rcases Int.lt_or_lt_of_ne hab with h | h
 ·exact edge_all hu hv h ha hKb
 ·have hne : u.h ≠ v.h := by
   rw [hu, hv]
   intro e
   have : a = b := by exact_mod_cast e
   exact hab this
  have e := edge_all hv hu h hb hKa
  have : rsum K (fun k => (dir u v (lv (lo + k)) : Rat) * (2 * X u v (lv (lo + k)))) = rsum K (fun k => - ((dir v u (lv (lo + k)) : Rat) * (2 * X v u (lv (lo + k))))) := rsum_congr fun k _ => by
   rw [dir_rev u v, X_rev hne, Rat.intCast_neg]
   grind
  rw [this, rsum_neg, e]
  grind
theorem cl_dsum (P : Nat → Q2) (y : Rat) : ∀ n, dsum (cl P y n) = rsum n (fun j => (dir (P j) (P (j + 1)) y : Rat) * X (P j) (P (j + 1)) y)
 | 0 => rfl
 | n + 1 => by
  have ih := cl_dsum P y n
  show dsum (if _ then _ else _) = rsum n _ + _
  rw [← ih]
  by_cases h : dir (P n) (P (n + 1)) y = 0
  ·rw [if_pos h]
   simp only [h, Rat.intCast_zero]
   grind
  ·rw [if_neg h]
   unfold dsum
   simp only [List.map_cons, List.sum_cons]
   grind
theorem rsum_two (n : Nat) (f g : Nat → Rat) : rsum n (fun j => f j * (2 * g j)) = 2 * rsum n (fun j => f j * g j) := by
 induction n with
 | zero => show (0 : Rat) = 2 * 0; grind
 | succ n ih => show rsum n _ + f n * (2 * g n) = 2 * (rsum n _ + f n * g n); rw [ih]; grind
theorem area_levels {n : Nat} {P : Nat → Q2} (c : Contour n P) {H : Nat → Int} (hH : ∀ j, (P j).h = H j) {lo : Int} {K : Nat} (h1 : ∀ j, lo ≤ H j) (h2 : ∀ j, H j ≤ lo + K) :
  area2 n P = rsum K (fun k => 2 * dsum (cl P (lv (lo + k)) n)) := by
 have n3 := c.n3
 have e : ∀ j, j < n → ((P j).x + (P (j + 1)).x) * ((P (j + 1)).h - (P j).h) = rsum K (fun k => (dir (P j) (P (j + 1)) (lv (lo + k)) : Rat) * (2 * X (P j) (P (j + 1)) (lv (lo + k)))) := fun j _ =>
  (edge_any (hH j) (hH (j + 1)) (fun e => c.lev j (j + 1) (by omega) (by omega) (by rw [hH, hH, e])) (h1 j) (h1 (j + 1)) (h2 j) (h2 (j + 1))).symm
 unfold area2
 rw [rsum_congr e, rsum_swap]
 refine rsum_congr fun k _ => ?_
 rw [cl_dsum, rsum_two]
theorem rsum_pos {n : Nat} {f : Nat → Rat} (h : ∀ j, j < n → 0 ≤ f j) {i : Nat} (hi : i < n) (hp : 0 < f i) : 0 < rsum n f := by
 induction n with
 | zero => omega
 | succ n ih =>
  show 0 < rsum n f + f n
  have nn : ∀ m, m ≤ n → 0 ≤ rsum m f := fun m hm => by
   induction m with
   | zero => exact Rat.le_refl
   | succ m ihm =>
    show 0 ≤ rsum m f + f m
    have := ihm (by omega)
    have := h m (by omega)
    grind
  rcases Nat.lt_or_ge i n with h' | h'
  ·have := ih (fun j hj => h j (by omega)) h'
   have := h n (by omega)
   grind
  ·obtain rfl : i = n := by omega
   have := nn i (Nat.le_refl _)
   grind
theorem cl_some {P : Nat → Q2} {y : Rat} : ∀ {n j : Nat}, j < n → dir (P j) (P (j + 1)) y ≠ 0 → cl P y n ≠ []
 | 0, j, h, _ => by omega
 | n + 1, j, h, hd => by
  unfold cl
  by_cases e : dir (P n) (P (n + 1)) y = 0
  ·rw [if_pos e]
   refine cl_some (j := j) ?_ hd
   rcases Nat.lt_or_ge j n with h' | h'
   ·exact h'
   ·obtain rfl : j = n := by omega
    exact absurd e hd
  ·rw [if_neg e]; simp
theorem area_ne {n : Nat} {P : Nat → Q2} (c : Contour n P) {H : Nat → Int} (hH : ∀ j, (P j).h = H j) {lo : Int} {K : Nat} (h1 : ∀ j, lo ≤ H j) (h2 : ∀ j, H j ≤ lo + K) : area2 n P ≠ 0 := by
 have n3 := c.n3
 have gen : ∀ (z : Int) j, (P j).h ≠ lv z := fun z j e => by
  rw [hH] at e
  rcases Int.lt_or_le z (H j) with h | h
  ·have := lv_below.2 h; grind
  ·have := lv_above.2 h; grind
 have hne : H 0 ≠ H 1 := fun e => c.lev 0 1 (by omega) (by omega) (by rw [hH, hH, e])
 obtain ⟨k, hk, hd⟩ : ∃ k : Nat, k < K ∧ dir (P 0) (P 1) (lv (lo + k)) ≠ 0 := by
  have a0 := h1 0; have a1 := h1 1; have b0 := h2 0; have b1 := h2 1
  rcases Int.lt_or_lt_of_ne hne with h | h
  ·refine ⟨(H 0 - lo).toNat, by omega, ?_⟩
   unfold dir
   rw [hH, hH, if_pos (by rw [lv_above, lv_below]; omega)]
   decide
  ·refine ⟨(H 1 - lo).toNat, by omega, ?_⟩
   unfold dir
   rw [hH, hH, if_neg (by rw [lv_above, lv_below]; omega), if_pos (by rw [lv_above, lv_below]; omega)]
   decide
 have hc := cl_some (n := n) (j := 0) (by omega) hd
 rw [area_levels c hH h1 h2]
 rcases dsum_sign c with hs | hs
 ·have : 0 < rsum K (fun k => 2 * dsum (cl P (lv (lo + k)) n)) := rsum_pos (i := k) (fun j _ => by
   have := (hs (lv (lo + j)) (gen _)).1; grind) hk (by have := (hs (lv (lo + k)) (gen _)).2 hc; grind)
  grind
 ·have : 0 < rsum K (fun k => - (2 * dsum (cl P (lv (lo + k)) n))) := rsum_pos (i := k) (fun j _ => by
   have := (hs (lv (lo + j)) (gen _)).1; grind) hk (by have := (hs (lv (lo + k)) (gen _)).2 hc; grind)
  rw [rsum_neg] at this
  grind
end Go.Proofs.YtngginofamlkkaaGreatDoor.PlaneG
namespace Go.Proofs.YtngginofamlkkaaGreatDoor.PlaneG
def sh (M : Int) (x y : Int) : Q2 := ⟨x, (M * y - x : Int)⟩
def crsI (ax ay bx b_y cx cy : Int) : Int := (bx - ax) * (cy - ay) - (b_y - ay) * (cx - ax)
theorem crs_sh (M ax ay bx b_y cx cy : Int) : crs (sh M ax ay) (sh M bx b_y) (sh M cx cy) = ((M * crsI ax ay bx b_y cx cy : Int) : Rat) := by
 unfold crs sh crsI
 simp only [Rat.intCast_sub, Rat.intCast_mul]
 grind
end Go.Proofs.YtngginofamlkkaaGreatDoor.PlaneG

