/-
  Put together out of several texts, each in its own namespace's block. Conditions: as each theorem states them.
-/
import Derived.Test.YtegjnjmimfgijaaGreatDoorQVa
import Derived.Test.YtegjnjmimfgijaaGreatDoorQLe
noncomputable section
namespace Go.Proofs.YtegjnjmimfgijaaGreatDoor
open Go Go.RowKit
set_option maxRecDepth 100000
set_option maxHeartbeats 8000000
structure Hid (W0 : Base) (c : Nat) (W : Base) (S : ByteArray) : Prop where
 size : W0.w.heap.size ≤ W.w.heap.size
 os : W.w.os = W0.w.os
 tape : W.w.tape = W0.w.tape
 output : W.w.output = W0.w.output
 old : ∀ k, W0.old k → W.old k ∧ W.w.heap[k]? = W0.w.heap[k]?
 f0 : ∀ k ob, W.f0 k = some ob → W0.f0 k = some ob ∨ ¬ W0.old k
 cont : Bld c (.pointer none) (Lib.strCells S) W.w ∨ Bld c (.pointer (some ⟨c, 0, none⟩)) (Lib.strCells S) W.w
 mine : ∀ k, k = c ∨ bufOf c W.w = some k → W.old k ∧ ¬ W0.old k ∧ W.f0 k = none
structure Lnk (W0 W : Base) : Prop where
 size : W0.w.heap.size ≤ W.w.heap.size
 os : W.w.os = W0.w.os
 tape : W.w.tape = W0.w.tape
 output : W.w.output = W0.w.output
 old : ∀ k, W0.old k → W.old k ∧ W.w.heap[k]? = W0.w.heap[k]?
 f0 : ∀ k ob, W.f0 k = some ob → W0.f0 k = some ob ∨ ¬ W0.old k
theorem Hid.lnk {W0 W : Base} {c : Nat} {S : ByteArray} (h : Hid W0 c W S) : Lnk W0 W := ⟨h.size, h.os, h.tape, h.output, h.old, h.f0⟩
def HidO (W0 : Base) (c : Nat) (W : Base) (g : Option ByteArray) : Prop :=
 match g with
 | some S => Hid W0 c W S
 | none => Lnk W0 W
theorem HidO.lnk {W0 W : Base} {c : Nat} {g : Option ByteArray} (h : HidO W0 c W g) : Lnk W0 W := by
 cases g with
 | none => exact h
 | some S => exact Hid.lnk h
theorem Bld.at_row {c : Nat} {p : Value} {bs : List Value} {w w' : World} (h : Bld c p bs w) (hc : w'.heap[c]? = w.heap[c]?) (hr : ∀ k, bufOf c w = some k → w'.heap[k]? = w.heap[k]?) : Bld c p bs w' ∧ bufOf c w' = bufOf c w := by
 obtain ⟨T, hT, hB, v, hb, hown, hne⟩ := h
 have hrow : bufOf c w = v.ownBlock := by simp [bufOf, hb]
 refine ⟨⟨T, hT, hB, v, by rw [hc]; exact hb, ⟨hown.1, ?_⟩, hne⟩, by unfold bufOf; rw [hc]⟩
 rcases hown.2 with h | ⟨g, cap, cur, rfl, a2, a3, a4⟩
 ·exact .inl h
 ·exact .inr ⟨g, cap, cur, rfl, a2, by rw [hr g (by rw [hrow]; rfl)]; exact a3, a4⟩
theorem Bld.row_lt {c : Nat} {p : Value} {bs : List Value} {w : World} (h : Bld c p bs w) {k : Nat} (hk : bufOf c w = some k) : k < w.heap.size := by
 obtain ⟨T, hT, hB, v, hb, hown, hne⟩ := h
 have hrow : bufOf c w = v.ownBlock := by simp [bufOf, hb]
 rcases hown.2 with ⟨rfl, _⟩ | ⟨g, cap, cur, rfl, a2, a3, a4⟩
 ·rw [hrow] at hk; cases hk
 ·rw [hrow] at hk
  cases hk
  rcases Nat.lt_or_ge g w.heap.size with h' | h'
  ·exact h'
  ·rw [Array.getElem?_eq_none h'] at a3; cases a3
theorem Hid.now {W0 W : Base} {c : Nat} {S : ByteArray} (h : Hid W0 c W S) {w : World} (hs : Still W w) :
  (Bld c (.pointer none) (Lib.strCells S) w ∨ Bld c (.pointer (some ⟨c, 0, none⟩)) (Lib.strCells S) w) ∧ bufOf c w = bufOf c W.w := by
 have hc := hs.block c (h.mine c (.inl rfl)).1
 have hr : ∀ k, bufOf c W.w = some k → w.heap[k]? = W.w.heap[k]? := fun k hk => hs.block k (h.mine k (.inr hk)).1
 rcases h.cont with q | q
 ·exact ⟨.inl (q.at_row hc hr).1, (q.at_row hc hr).2⟩
 ·exact ⟨.inr (q.at_row hc hr).1, (q.at_row hc hr).2⟩
def allWr (kb : Nat) (hp : Tr AObj) : Nat → Bool
 | 0 => true
 | n + 1 => allWr kb hp n && match hp.get n with
  | some o => o.wr || n.beq kb
  | none => true
theorem allWr_get {kb : Nat} {hp : Tr AObj} : ∀ {n : Nat}, allWr kb hp n = true → ∀ b o, b < n → hp.get b = some o → o.wr = true ∨ b = kb
 | 0, _, b, o, hb, _ => by omega
 | n + 1, h, b, o, hb, ho => by
  simp only [allWr, Bool.and_eq_true] at h
  by_cases e : b = n
  ·subst e
   rw [ho] at h
   have := h.2
   simp only [Bool.or_eq_true] at this
   exact this.imp id Nat.eq_of_beq_eq_true
  ·exact allWr_get h.1 b o (by omega) ho
def none0 (hp : Tr AObj) (kb : Nat) : Bool :=
 match hp.get kb with
 | some (.cells [] false) => true
 | none => true
 | _ => false
theorem wr_old {ρ : Place} {O : Nat → Prop} {c s z : Nat} {o : AObj} {ob : Obj} (h : ORel ρ O c s z o ob) (hw : o.wr = true) : ¬ O c := by
 cases o with
 | cells l wr =>
  cases ob <;> try exact h.elim
  exact h.2.2.2.2 hw
 | iter st p =>
  cases ob <;> try exact h.elim
  exact h.2.2.1
theorem ORel.other {ρ : Place} {O O' : Nat → Prop} {c s z : Nat} {o : AObj} {ob : Obj} (h : ORel ρ O c s z o ob) (hw : o.wr = true) (hO : ¬ O' c) : ORel ρ O' c s z o ob := by
 cases o with
 | cells l wr =>
  cases ob <;> try exact h.elim
  exact ⟨h.1, h.2.1, h.2.2.1, h.2.2.2.1, fun _ => hO⟩
 | iter st p =>
  cases ob <;> try exact h.elim
  exact ⟨h.1, h.2.1, hO, h.2.2.2⟩
theorem strCells_append (a b : ByteArray) : Lib.strCells (a ++ b) = Lib.strCells a ++ Lib.strCells b := by
 simp [Lib.strCells, ByteArray.data_append]
def bldCall (kb : Nat) (next : GCall (Option ByteArray)) : GCall (Option ByteArray) := fun f args hp nx g K =>
 bif f.beq 31 then match args, g with
  | [.pointer (some ⟨b, o, none⟩), .string s], some g => bif b.beq kb && (o.beq 0 && (allWr kb hp nx && none0 hp kb)) then g.size + s.size ≤ 140737488355328 ∧ K (.ret (.tuple #[.int .i64 s.size, .nilIface])) hp nx (some (g ++ s)) else False
  | _, _ => False
 else bif f.beq 33 then match args, g with
  | [.pointer (some ⟨b, o, none⟩)], some g => bif b.beq kb && (o.beq 0 && (allWr kb hp nx && none0 hp kb)) then 0 < g.size ∧ K (.ret (.string g)) hp nx none else False
  | _, _ => False
 else next f args hp nx g K
theorem bldCall_ok {W0 : Base} {c kb : Nat} {next : GCall (Option ByteArray)} (hn : GCallOk Tryz.prog (HidO W0 c) kb (c, 0, 2) next) : GCallOk Tryz.prog (HidO W0 c) kb (c, 0, 2) (bldCall kb next) := by
 intro f args hp nx g0 K h W ρ w args' hI0 hkx hrel hargs
 unfold bldCall at h
 cases hf : f.beq 31 with
 | false =>
  rw [hf, cond_false] at h
  cases hf2 : f.beq 33 with
  | false => rw [hf2] at h; exact hn f args hp nx g0 K h W ρ w args' hI0 hkx hrel hargs
  | true =>
   rw [hf2, cond_true] at h
   have hf' := Nat.eq_of_beq_eq_true hf2
   subst hf'
   split at h
   case h_2 => exact h.elim
   rename_i b o g
   have hI : Hid W0 c W g := hI0
   cases hc : b.beq kb && (o.beq 0 && (allWr kb hp nx && none0 hp kb)) with
   | false => rw [hc] at h; exact h.elim
   | true =>
    rw [hc, cond_true] at h
    simp only [Bool.and_eq_true] at hc
    obtain ⟨hb, ho, hwr, hno⟩ := hc
    have hb := Nat.eq_of_beq_eq_true hb
    have ho := Nat.eq_of_beq_eq_true ho
    subst hb ho
    obtain ⟨hpos, hK⟩ := h
    cases hargs with
    | cons ha hrest =>
     cases hrest
     cases ha with
     | ptr hpl =>
      have hpl' := hpl
      rw [hkx] at hpl'
      cases hpl'
      obtain ⟨hcont, hrow⟩ := hI.now hrel.below
      have hne : g.data.toList ≠ [] := fun e => by
       have h1 : g.data.toList.length = g.size := by rw [Array.length_toList]; rfl
       rw [e] at h1
       simp at h1
       omega
      refine (stringOf c g.data.toList w hcont hne).mono ?_
      rintro e w' ⟨rfl, hg⟩
      have hmine := hI.mine
      rw [← hrow] at hmine
      have hgd : (⟨g.data.toList.toArray⟩ : ByteArray) = g := rfl
      have lt_of : ∀ {k : Nat} {ob : Obj}, w.heap[k]? = some ob → k < w.heap.size := fun {k ob} hk => by
       rcases Nat.lt_or_ge k w.heap.size with h' | h'
       ·exact h'
       ·rw [Array.getElem?_eq_none h'] at hk; cases hk
      have unch : ∀ k, k < w.heap.size → bufOf c w ≠ some k → w'.heap[k]? = w.heap[k]? := fun k h1 h3 => hg.block k h1 fun e => h3 e.symm
      have Wlt : ∀ k, W.old k → k < w.heap.size := fun k hk => Nat.lt_of_lt_of_le hk.1 hrel.below.size
      have hnot : ∀ k, ¬ W.old k → ¬ W0.old k := fun k hk h' => hk (hI.old k h').1
      have hcw : c < w.heap.size := (hrel.dom _ _ hkx).2
      have hcr : bufOf c w ≠ some c := by
       rcases hcont with ⟨_, _, _, v, hbk, _, hne⟩ | ⟨_, _, _, v, hbk, _, hne⟩
       ·simpa [bufOf, hbk] using hne
       ·simpa [bufOf, hbk] using hne
      refine ⟨_, hp, nx, none, ρ, ⟨W0.w, W0.mu, W0.f0, W.ds⟩, hK, ⟨_, rfl, .string _⟩, ⟨?_, rfl⟩, ⟨fun b x hb => ⟨(hrel.dom b x hb).1, Nat.lt_of_lt_of_le (hrel.dom b x hb).2 hg.size⟩, fun b o c' s' z ho1 hb1 => ?_, hrel.inj, hrel.fresh, ⟨?_, ?_, ?_, ?_, fun k hk => ?_⟩, fun k ob hk => ?_, hrel.apart, fun k ob hk => ?_⟩, .refl _ _ _⟩
      ·exact ⟨Nat.le_refl _, rfl, rfl, rfl, fun k hk => ⟨hk, rfl⟩, fun k ob hk => .inl hk⟩
      ·obtain ⟨ob, e1, e2⟩ := hrel.obj b o c' s' z ho1 hb1
       rcases allWr_get hwr b o (hrel.dom b _ hb1).1 ho1 with hw | hw
       ·have hno' := wr_old e2 hw
        exact ⟨ob, by rw [unch c' (lt_of e1) fun e => hno' (hmine c' (.inr e)).1]; exact e1, e2.other hw (hnot c' hno')⟩
       ·subst hw
        have hb' : ρ.pl b = some (c', s', z) := hb1
        rw [hkx] at hb'
        cases hb'
        have ho' : o = .cells [] false := by
         unfold none0 at hno
         rw [ho1] at hno
         split at hno
         ·rename_i q; cases q; rfl
         ·rename_i q; cases q
         ·cases hno
        subst ho'
        refine ⟨ob, by rw [unch _ hcw hcr]; exact e1, ?_⟩
        cases ob <;> try exact e2.elim
        exact ⟨e2.1, e2.2.1, e2.2.2.1, e2.2.2.2.1, fun h' => by cases h'⟩
      ·exact hg.os.trans (hrel.below.os.trans hI.os)
      ·exact hg.tape.trans (hrel.below.tape.trans hI.tape)
      ·exact hg.output.trans (hrel.below.output.trans hI.output)
      ·exact Nat.le_trans hI.size (Nat.le_trans hrel.below.size hg.size)
      ·have h1 := hI.old k hk
       show w'.heap[k]? = W0.w.heap[k]?
       rw [unch k (Wlt k h1.1) fun e => (hmine k (.inr e)).2.1 hk, hrel.below.block k h1.1]
       exact h1.2
      ·have e1 := hrel.frz k ob hk
       rw [unch k (lt_of e1) fun e => ?_]
       ·exact e1
       ·rcases hrel.frn k ob hk with q | q
        ·rw [(hmine k (.inr e)).2.2] at q; cases q
        ·exact q (hmine k (.inr e)).1
      ·rcases hrel.frn k ob hk with q | q
       ·exact hI.f0 k ob q
       ·exact .inr (hnot k q)
 | true =>
  rw [hf, cond_true] at h
  have hf' := Nat.eq_of_beq_eq_true hf
  subst hf'
  split at h
  case h_2 => exact h.elim
  rename_i b o s g
  have hI : Hid W0 c W g := hI0
  cases hc : b.beq kb && (o.beq 0 && (allWr kb hp nx && none0 hp kb)) with
  | false => rw [hc] at h; exact h.elim
  | true =>
   rw [hc, cond_true] at h
   simp only [Bool.and_eq_true] at hc
   obtain ⟨hb, ho, hwr, hno⟩ := hc
   have hb := Nat.eq_of_beq_eq_true hb
   have ho := Nat.eq_of_beq_eq_true ho
   subst hb ho
   obtain ⟨hlen, hK⟩ := h
   cases hargs with
   | cons ha hrest =>
    cases hrest with
    | cons hs hrest =>
     cases hrest
     cases hs
     cases ha with
     | ptr hpl =>
      have hpl' := hpl
      rw [hkx] at hpl'
      cases hpl'
      obtain ⟨hcont, hrow⟩ := hI.now hrel.below
      have hl : (Lib.strCells g).length + s.size ≤ 140737488355328 := by rw [Lib.strCells_length]; exact hlen
      refine (writeString c (Lib.strCells g) s w hcont hl).mono ?_
      rintro e w' ⟨rfl, hB, ⟨f1, f2, f3, f4⟩, f5, f6⟩
      have hcw : c < w.heap.size := (hrel.dom _ _ hkx).2
      have hmine := hI.mine
      rw [← hrow] at hmine
      have unch : ∀ k, k < w.heap.size → k ≠ c → bufOf c w ≠ some k → w'.heap[k]? = w.heap[k]? := fun k h1 h2 h3 => f5 k h1 h2 fun e => h3 e.symm
      have free : ∀ k, ¬ W.old k → k ≠ c ∧ bufOf c w ≠ some k := fun k hk => ⟨fun e => hk (hmine k (.inl e)).1, fun e => hk (hmine k (.inr e)).1⟩
      have frno : ∀ k, k = c ∨ bufOf c w = some k → ρ.fr k = none := fun k hk => by
       cases hfr : ρ.fr k with
       | none => rfl
       | some ob =>
        rcases hrel.frn k ob hfr with q | q
        ·rw [(hmine k hk).2.2] at q; cases q
        ·exact (q (hmine k hk).1).elim
      have lt_of : ∀ {k : Nat} {ob : Obj}, w.heap[k]? = some ob → k < w.heap.size := fun {k ob} hk => by
       rcases Nat.lt_or_ge k w.heap.size with h' | h'
       ·exact h'
       ·rw [Array.getElem?_eq_none h'] at hk; cases hk
      have frnew : ∀ k, bufOf c w' = some k → ρ.fr k = none := fun k hk => by
       rcases f6 k hk with q | q
       ·exact frno k (.inr q)
       ·cases hfr : ρ.fr k with
        | none => rfl
        | some ob => have := lt_of (hrel.frz k ob hfr); omega
      have hold : ∀ k, (⟨w', fun k => ¬ (W.old k ∨ k = c ∨ bufOf c w' = some k), ρ.fr, W.ds⟩ : Base).old k ↔ k < w'.heap.size ∧ (W.old k ∨ k = c ∨ bufOf c w' = some k) := fun k => by
       unfold Base.old
       dsimp only
       rw [Classical.not_not]
      have Wlt : ∀ k, W.old k → k < w.heap.size := fun k hk => Nat.lt_of_lt_of_le hk.1 hrel.below.size
      refine ⟨_, hp, nx, some (g ++ s), ρ, ⟨w', fun k => ¬ (W.old k ∨ k = c ∨ bufOf c w' = some k), ρ.fr, W.ds⟩, hK, ⟨_, rfl, .tuple rfl fun i v v' h1 h2 => ?_⟩, ⟨⟨?_, ?_, ?_, ?_, fun k hk => ⟨?_, ?_⟩, fun k ob hk => ?_, .inr ?_, fun k hk => ⟨?_, ?_, ?_⟩⟩, rfl⟩, ⟨fun b x hb => ⟨(hrel.dom b x hb).1, Nat.lt_of_lt_of_le (hrel.dom b x hb).2 f4⟩, fun b o c' s' z ho1 hb1 => ?_, hrel.inj, hrel.fresh, ⟨rfl, rfl, rfl, Nat.le_refl _, fun _ _ => rfl⟩, fun k ob hk => ?_, hrel.apart, fun k ob hk => .inl hk⟩, .refl _ _ _⟩
      ·rcases i with _ | _ | i
       ·cases h1; cases h2; exact .int _ _
       ·cases h1; cases h2; exact .nilIface
       ·simp at h1
      ·exact Nat.le_trans hI.size (Nat.le_trans hrel.below.size f4)
      ·exact f1.trans (hrel.below.os.trans hI.os)
      ·exact f2.trans (hrel.below.tape.trans hI.tape)
      ·exact f3.trans (hrel.below.output.trans hI.output)
      ·exact (hold k).2 ⟨Nat.lt_of_lt_of_le (Wlt k (hI.old k hk).1) f4, .inl (hI.old k hk).1⟩
      ·have h1 := hI.old k hk
       have h2 : k ≠ c := fun e => (hmine k (.inl e)).2.1 hk
       have h3 : bufOf c w ≠ some k := fun e => (hmine k (.inr e)).2.1 hk
       show w'.heap[k]? = _
       rw [unch k (Wlt k h1.1) h2 h3, hrel.below.block k h1.1]
       exact h1.2
      ·rcases hrel.frn k ob hk with q | q
       ·exact hI.f0 k ob q
       ·exact .inr fun h' => q (hI.old k h').1
      ·rw [strCells_append]; exact hB
      ·rcases hk with rfl | hk
       ·exact (hold _).2 ⟨Nat.lt_of_lt_of_le hcw f4, .inr (.inl rfl)⟩
       ·exact (hold _).2 ⟨hB.row_lt hk, .inr (.inr hk)⟩
      ·rcases hk with rfl | hk
       ·exact (hmine _ (.inl rfl)).2.1
       ·rcases f6 k hk with q | q
        ·exact (hmine _ (.inr q)).2.1
        ·intro h'
         have := h'.1
         have := hI.size
         have := hrel.below.size
         omega
      ·rcases hk with rfl | hk
       ·exact frno _ (.inl rfl)
       ·exact frnew k hk
      ·obtain ⟨ob, e1, e2⟩ := hrel.obj b o c' s' z ho1 hb1
       rcases allWr_get hwr b o (hrel.dom b _ hb1).1 ho1 with hw | hw
       ·have hno' := wr_old e2 hw
        have h2 := free c' hno'
        refine ⟨ob, by rw [unch c' (lt_of e1) h2.1 h2.2]; exact e1, e2.other hw fun h' => ?_⟩
        rcases ((hold c').1 h').2 with q | q | q
        ·exact hno' q
        ·exact h2.1 q
        ·rcases f6 c' q with q | q
         ·exact h2.2 q
         ·have := lt_of e1; omega
       ·subst hw
        have hb' : ρ.pl b = some (c', s', z) := hb1
        rw [hkx] at hb'
        cases hb'
        have ho' : o = .cells [] false := by
         unfold none0 at hno
         rw [ho1] at hno
         split at hno
         ·rename_i q; cases q; rfl
         ·rename_i q; cases q
         ·cases hno
        subst ho'
        obtain ⟨_, _, _, v, hbk, _⟩ := hB
        exact ⟨_, hbk, rfl, Nat.zero_le _, fun o _ h' => by simp at h', fun i v hv => by simp at hv, fun h' => by cases h'⟩
      ·have e1 := hrel.frz k ob hk
       have h2 : k ≠ c := fun e => by rw [frno k (.inl e)] at hk; cases hk
       have h3 : bufOf c w ≠ some k := fun e => by rw [frno k (.inr e)] at hk; cases hk
       rw [unch k (lt_of e1) h2 h3]
       exact e1
end Go.Proofs.YtegjnjmimfgijaaGreatDoor
noncomputable section
namespace Go.Proofs.YtegjnjmimfgijaaGreatDoor
open Go Go.RowKit
variable {γ : Type}
def inlG (P : Program) (inl : List FuncId) (next : GCall γ) : Nat → GCall γ
 | 0 => next
 | k + 1 => fun f args hp nx g K => bif inl.contains f then match P.funcs[f]? with
   | some fn => match fn.body with
    | some c => grun P (inlG P inl next k) (slotsN args fn) [] [] (fun _ _ _ _ => False) (fun st g' => match ares P st.hp st.tm fn with | some v => K (.ret v) st.hp st.nx g' | none => False) (fun v st g' => K (.pan v) st.hp st.nx g') 1000 (.code c) [] ⟨putArgs 0 args .e, hp, nx⟩ g
    | none => False
   | none => False
  else next f args hp nx g K
theorem inlG_ok {P : Program} {I : Base → γ → Prop} {kb : Nat} {kx : Nat × Nat × Nat} (hm : P.follows .mixedOrders = true) (hD : ∀ W D g, I W g → I ⟨W.w, W.mu, W.f0, D⟩ g) {inl : List FuncId} {next : GCall γ} (hn : GCallOk P I kb kx next) : ∀ k, GCallOk P I kb kx (inlG P inl next k)
 | 0 => hn
 | k + 1 => by
  intro f args hp nx g K h W ρ w args' hI hkx hrel hargs
  unfold inlG at h
  cases hi : inl.contains f with
  | false => rw [hi] at h; exact hn f args hp nx g K h W ρ w args' hI hkx hrel hargs
  | true =>
   rw [hi, cond_true] at h
   split at h
   case h_2 => exact h.elim
   rename_i fn hf
   split at h
   case h_2 => exact h.elim
   rename_i c hc
   refine calls_of_wp hf hc ?_
   have fin : ∀ st g', (match ares P st.hp st.tm fn with | some v => K (.ret v) st.hp st.nx g' | none => False) → ∀ W1 ρ' a w', I W1 g' ∧ W1.ds = W.bare.ds → SRel ρ' W1 (slotsN args fn) st a w' → Step ρ ρ' hp st.hp nx st.nx →
     a.defers = [] ∧ ∃ v', (results fn a.tmps).run P w' = .ok v' w' ∧ ∃ r hp' nx' g' ρ' W', K r hp' nx' g' ∧ r.Ends ρ' (Ending.returned v') ∧ (I W' g' ∧ W'.ds = W.ds) ∧ Rel ρ' W' hp' nx' w' ∧ Step ρ ρ' hp hp' nx nx' := by
    intro st g' hst W1 ρ' a w' hI1 hs hr
    split at hst
    case h_2 => exact hst.elim
    rename_i v hv
    obtain ⟨v', r1, r2⟩ := ares_sound hs.rel hs.frame hv
    exact ⟨hs.frame.defers.trans hI1.2, v', r1, .ret v, st.hp, st.nx, g', ρ', ⟨W1.w, W1.mu, W1.f0, W.ds⟩, hst, ⟨v', rfl, r2⟩, ⟨hD W1 W.ds g' hI1.1, rfl⟩, Rel.withDs _ hs.rel, hr⟩
   exact grun_sound (W0 := W.bare) (R := fun ρ' st => Step ρ ρ' hp st.hp nx st.nx) (inlG_ok hm hD hn k) hm (fun _ _ _ _ h k => h.trans k)
    (fun b k st g h => (vloop_false h).elim) (fun st g' hst W1 ρ' a w' hI1 _ hs hr => ⟨fin st g' hst W1 ρ' a w' hI1 hs hr, fin st g' hst W1 ρ' a w' hI1 hs hr⟩)
    (fun v st g' hst W1 ρ' v' a w' hI1 hv hs hr => ⟨hs.frame.defers.trans hI1.2, .pan v, st.hp, st.nx, g', ρ', ⟨W1.w, W1.mu, W1.f0, W.ds⟩, hst, ⟨v', rfl, hv⟩, ⟨hD W1 W.ds g' hI1.1, rfl⟩, Rel.withDs _ hs.rel, hr⟩) 1000 (.code c) [] _ g h W.bare ρ _ w ⟨hD W [] g hI, rfl⟩ hkx (start_rel rfl hrel.bare hargs fn) (.refl _ _ _)
end Go.Proofs.YtegjnjmimfgijaaGreatDoor

noncomputable section
namespace Go.Proofs.YtegjnjmimfgijaaGreatDoor
open Go Go.RowKit
set_option maxRecDepth 100000
set_option maxHeartbeats 8000000
theorem Lnk.back {W0 W : Base} (h : Lnk W0 W) {ρ : Place} {hp : Tr AObj} {nx : Nat} {w : World} (hr : Rel ρ W hp nx w) : Rel ρ W0 hp nx w := by
 have hnot : ∀ k, ¬ W.old k → ¬ W0.old k := fun k hk h' => hk (h.old k h').1
 refine ⟨hr.dom, fun b o c s z ho hb => ?_, hr.inj, hr.fresh, ⟨hr.below.os.trans h.os, hr.below.tape.trans h.tape, hr.below.output.trans h.output, Nat.le_trans h.size hr.below.size, fun k hk => (hr.below.block k (h.old k hk).1).trans (h.old k hk).2⟩, hr.frz, hr.apart, fun k ob hk => ?_⟩
 ·obtain ⟨ob, e1, e2⟩ := hr.obj b o c s z ho hb
  refine ⟨ob, e1, ?_⟩
  cases o with
  | cells l wr =>
   cases ob <;> try exact e2.elim
   exact ⟨e2.1, e2.2.1, e2.2.2.1, e2.2.2.2.1, fun hw => hnot c (e2.2.2.2.2 hw)⟩
  | iter st p =>
   cases ob <;> try exact e2.elim
   exact ⟨e2.1, e2.2.1, hnot c e2.2.2.1, e2.2.2.2⟩
 ·rcases hr.frn k ob hk with q | q
  ·exact h.f0 k ob q
  ·exact .inr (hnot k q)
def isAllocW (ops : Array Oper) (draw : Bool) : Option Tmp :=
 match draw, ops.toList with
 | false, [o] => match o.op, o.dst, o.guard with
  | .alloc t, some d, none => bif t.beq 79 || t.beq 77 then some d else none
  | _, _, _ => none
 | _, _ => none
theorem isAllocW_eq {ops : Array Oper} {draw : Bool} {d : Tmp} (h : isAllocW ops draw = some d) : ∃ o T, IsBT T ∧ draw = false ∧ ops = #[o] ∧ o.op = .alloc T ∧ o.dst = some d ∧ o.guard = none := by
 unfold isAllocW at h
 split at h
 case h_2 => cases h
 rename_i o ho
 split at h
 case h_2 => cases h
 rename_i t d' h1 h2 h3
 cases ht : (t.beq 79 || t.beq 77) with
 | false => rw [ht] at h; cases h
 | true =>
  rw [ht] at h
  cases h
  have hT : IsBT t := by
   rcases (Bool.or_eq_true _ _).mp ht with h | h
   ·exact .inl (Nat.eq_of_beq_eq_true h)
   ·exact .inr (Nat.eq_of_beq_eq_true h)
  exact ⟨o, t, hT, rfl, by apply Array.ext'; simpa using ho, h1, h2, h3⟩
theorem zero_writer {T : TypeId} (hT : IsBT T) : (pureRun Tryz.prog (zeroValue T)).map Value.cells = some #[.pointer none, .slice none 0 0] := by
 rcases hT with rfl | rfl <;> kernel_rfl
theorem alloc_writer {T : TypeId} (hT : IsBT T) (w : World) : (Instr.alloc T true (.tuple #[])).run Tryz.prog w = .ok (.pointer (some ⟨w.heap.size, 0, none⟩)) (pushed w (.cells #[.pointer none, .slice none 0 0] T)) := by
 obtain ⟨z, hz, hc⟩ := Option.map_eq_some_iff.1 (zero_writer hT)
 unfold Instr.alloc
 rw [bind_run hz]
 show ((newRow T z.cells) >>= fun a => pure (Value.pointer (some a))).run Tryz.prog w = _
 rw [hc]
 rfl
theorem start_hid {T : TypeId} (hT : IsBT T) {ρ : Place} {W : Base} {hp : Tr AObj} {nx : Nat} {w : World} (h : Rel ρ W hp nx w) :
  HidO W w.heap.size ⟨pushed w (.cells #[.pointer none, .slice none 0 0] T), fun k => ¬ (W.old k ∨ k = w.heap.size), ρ.fr, W.ds⟩ (some .empty) ∧
  Rel (ρ.set nx (w.heap.size, 0, 2)) ⟨pushed w (.cells #[.pointer none, .slice none 0 0] T), fun k => ¬ (W.old k ∨ k = w.heap.size), ρ.fr, W.ds⟩ (hp.put nx (some (.cells [] false))) (nx + 1) (pushed w (.cells #[.pointer none, .slice none 0 0] T)) := by
 have hsz : (pushed w (.cells #[.pointer none, .slice none 0 0] T)).heap.size = w.heap.size + 1 := by show (w.heap.push _).size = _; rw [Array.size_push]
 have hat := pushed_at w (.cells #[.pointer none, .slice none 0 0] T)
 have Wlt : ∀ k, W.old k → k < w.heap.size := fun k hk => Nat.lt_of_lt_of_le hk.1 h.below.size
 have hold : ∀ k, (⟨pushed w (.cells #[.pointer none, .slice none 0 0] T), fun k => ¬ (W.old k ∨ k = w.heap.size), ρ.fr, W.ds⟩ : Base).old k ↔ k < w.heap.size + 1 ∧ (W.old k ∨ k = w.heap.size) := fun k => by
  unfold Base.old
  dsimp only
  rw [Classical.not_not, hsz]
 have hfr : ρ.fr w.heap.size = none := by
  cases hf : ρ.fr w.heap.size with
  | none => rfl
  | some ob => have := h.frz _ _ hf; simp at this
 have hnw : ¬ W.old w.heap.size := fun h' => by have := Wlt _ h'; omega
 constructor
 ·refine ⟨?_, h.below.os, h.below.tape, h.below.output, fun k hk => ⟨(hold k).2 ⟨by have := Wlt k hk; omega, .inl hk⟩, ?_⟩, fun k ob hk => h.frn k ob hk, .inl ⟨T, hT, Nat.zero_le _, _, hat, World.ownsRow_nil _ _ _ _, by simp [Value.ownBlock]⟩, fun k hk => ?_⟩
  ·show _ ≤ (pushed w _).heap.size
   rw [hsz]
   have := h.below.size
   omega
  ·show (pushed w _).heap[k]? = _
   rw [pushed_lt w _ (Wlt k hk)]
   exact h.below.block k hk
  ·rcases hk with rfl | hk
   ·exact ⟨(hold _).2 ⟨by omega, .inr rfl⟩, hnw, hfr⟩
   ·have hk' : bufOf w.heap.size (pushed w (.cells #[.pointer none, .slice none 0 0] T)) = some k := hk
    unfold bufOf at hk'
    rw [hat] at hk'
    cases hk'
 ·have hr := (h.reserve (.cells [] false)).realize (b := nx) (o := .cells [] false) (ob := .cells #[.pointer none, .slice none 0 0] T) (z := 2) (Nat.lt_succ_self _) h.dom_none (by rw [Tr.get_put, if_pos rfl]) ⟨rfl, by decide, fun o _ => by simp, fun i v hv => by simp at hv, fun h' => by cases h'⟩
  refine ⟨hr.dom, fun b o c s z ho hb => ?_, hr.inj, hr.fresh, ⟨rfl, rfl, rfl, Nat.le_refl _, fun _ _ => rfl⟩, hr.frz, hr.apart, fun k ob hk => .inl hk⟩
  obtain ⟨ob, e1, e2⟩ := hr.obj b o c s z ho hb
  refine ⟨ob, e1, ?_⟩
  by_cases e : b = nx
  ·subst e
   rw [Tr.get_put, if_pos rfl] at ho
   cases ho
   cases ob <;> try exact e2.elim
   exact ⟨e2.1, e2.2.1, e2.2.2.1, e2.2.2.2.1, fun h' => by cases h'⟩
  ·have hb' : ρ b = some (c, s, z) := by
    rw [Place.set_other e] at hb
    exact hb
   have hc := (h.dom b _ hb').2
   cases o with
   | cells l wr =>
    cases ob <;> try exact e2.elim
    exact ⟨e2.1, e2.2.1, e2.2.2.1, e2.2.2.2.1, fun hw h' => ((hold c).1 h').2.elim (e2.2.2.2.2 hw) (by intro e; dsimp only at hc; omega)⟩
   | iter st p =>
    cases ob <;> try exact e2.elim
    exact ⟨e2.1, e2.2.1, fun h' => ((hold c).1 h').2.elim e2.2.2.1 (by intro e; dsimp only at hc; omega), e2.2.2.2⟩
def onNone (g : Option ByteArray) (X : Prop) : Prop := match g with | none => X | some _ => False
theorem onNone_eq {g : Option ByteArray} {X : Prop} (h : onNone g X) : g = none ∧ X := by
 cases g with
 | none => exact ⟨rfl, h⟩
 | some s => exact h.elim
def wrun (P : Program) (pc : PCall) (mk : Nat → GCall (Option ByteArray)) (n : Nat) (Fin : AS → Prop) (X : Value → AS → Prop) : Nat → VM → List Fr → AS → Prop
 | 0, _, _, _ => False
 | f + 1, .normal, k, st => match k with
  | [] => Fin st
  | .seq y :: k' => wrun P pc mk n Fin X f (.code y) k' st
  | .block _ :: k' => wrun P pc mk n Fin X f .normal k' st
  | .loop b :: k' => wrun P pc mk n Fin X f (.code b) (.loop b :: k') st
 | f + 1, .exit id, k, st => match k with
  | [] => False
  | .block j :: k' => bif id.beq j then wrun P pc mk n Fin X f .normal k' st else wrun P pc mk n Fin X f (.exit id) k' st
  | _ :: k' => wrun P pc mk n Fin X f (.exit id) k' st
 | _ + 1, .ret, _, st => Fin st
 | f + 1, .code c, k, st => match c with
  | .skip | .label _ => wrun P pc mk n Fin X f .normal k st
  | .region _ ops draw => match isAllocW ops draw with
   | some d => match aput n st.tm (some d) (.pointer (some ⟨st.nx, 0, none⟩)) with
    | some tm => grun P (mk st.nx) n [] [] (fun _ _ _ _ => False) (fun st g => onNone g (Fin st)) (fun v st g => onNone g (X v st)) 3000 .normal k ⟨tm, st.hp.put st.nx (some (.cells [] false)), st.nx + 1⟩ (some .empty)
    | none => False
   | none => vregionP P pc n ops draw st (fun st' => wrun P pc mk n Fin X f .normal k st') X
  | .seq x y => wrun P pc mk n Fin X f (.code x) (.seq y :: k) st
  | .cond c x y => match aev st.tm c with
   | some (.bool b) => pIf b (wrun P pc mk n Fin X f (.code x) k st) (wrun P pc mk n Fin X f (.code y) k st)
   | _ => False
  | .block id b => wrun P pc mk n Fin X f (.code b) (.block id :: k) st
  | .loop b => wrun P pc mk n Fin X f (.code b) (.loop b :: k) st
  | .exit id => wrun P pc mk n Fin X f (.exit id) k st
  | .ret => wrun P pc mk n Fin X f .ret k st
  | _ => False
theorem wrun_sound {pc : PCall} {mk : Nat → GCall (Option ByteArray)} {W : Base} {n : Nat} {Fin : AS → Prop} {X : Value → AS → Prop} {R : Place → AS → Prop} {Q : Exit → Act → World → Prop} (hcall : PCallOk Tryz.prog pc) (hmk : ∀ W0 c kb, GCallOk Tryz.prog (HidO W0 c) kb (c, 0, 2) (mk kb)) (hm : Tryz.prog.follows .mixedOrders = true)
  (hR : ∀ ρ st ρ' st', R ρ st → Step ρ ρ' st.hp st'.hp st.nx st'.nx → R ρ' st')
  (hF : ∀ st, Fin st → ∀ ρ a w, SRel ρ W n st a w → R ρ st → Q .normal a w ∧ Q .ret a w)
  (hX : ∀ v st, X v st → ∀ ρ v' a w, VR ρ v v' → SRel ρ W n st a w → R ρ st → Q (.panic [{ v := v', recovered := false }]) a w) :
  ∀ (f : Nat) (m : VM) (k : List Fr) (st : AS), wrun Tryz.prog pc mk n Fin X f m k st → ∀ ρ a w, SRel ρ W n st a w → R ρ st → (match m with
   | .code c => c.wp Tryz.prog (contQ Tryz.prog Q k) a w
   | .normal => contQ Tryz.prog Q k .normal a w
   | .exit id => contQ Tryz.prog Q k (.exit id) a w
   | .ret => contQ Tryz.prog Q k .ret a w) := by
 intro f
 induction f with
 | zero => intro m k st h; simp only [wrun] at h
 | succ f ih =>
  intro m k st h ρ a w hs hr
  cases m with
  | normal =>
   simp only [wrun] at h
   dsimp only
   cases k with
   | nil => exact (hF st h ρ a w hs hr).1
   | cons x k =>
    cases x with
    | seq y => exact ih (.code y) k st h ρ a w hs hr
    | block id => exact ih .normal k st h ρ a w hs hr
    | loop b =>
     exact loop_round (ih (.code b) (.loop b :: k) st h ρ a w hs hr)
  | exit id =>
   simp only [wrun] at h
   dsimp only
   cases k with
   | nil => exact h.elim
   | cons x k =>
    cases x with
    | seq y => exact ih (.exit id) k st h ρ a w hs hr
    | block j =>
     show Exit.inBlock j (contQ Tryz.prog Q k) (.exit id) a w
     simp only [Exit.inBlock]
     dsimp only at h
     cases hj : id.beq j with
     | true =>
      rw [hj] at h
      rw [if_pos (Nat.eq_of_beq_eq_true hj)]
      exact ih .normal k st h ρ a w hs hr
     | false =>
      rw [hj] at h
      rw [if_neg (fun e => by subst e; simp at hj)]
      exact ih (.exit id) k st h ρ a w hs hr
    | loop b => exact ih (.exit id) k st h ρ a w hs hr
  | ret =>
   simp only [wrun] at h
   exact contQ_ret (hF st h ρ a w hs hr).2
  | code c =>
   simp only [wrun] at h
   dsimp only
   cases c with
   | skip => exact wp_skip (ih .normal k st h ρ a w hs hr)
   | label l => exact wp_label (ih .normal k st h ρ a w hs hr)
   | region id ops draw =>
    dsimp only at h
    split at h
    ·rename_i d hd
     split at h
     case h_2 => exact h.elim
     rename_i tm htm
     obtain ⟨o, T, hT, rfl, rfl, ho, hdst, hgd⟩ := isAllocW_eq hd
     refine wp_region ?_
     show wpOps Tryz.prog #[o] _ [0] a w
     rw [wpOps_cons]
     unfold wpOp
     have e0 : (#[o])[0]? = some o := rfl
     simp only [e0]
     have hw : ∀ q, Region.wanted o q = true := fun q => by unfold Region.wanted; rw [hgd]
     rw [hw, if_pos rfl]
     refine .inl ?_
     obtain ⟨dst, op, type, pos, after, guard⟩ := o
     dsimp only at ho hdst hgd
     subst ho hdst hgd
     have hrun : (execOp a.eval ⟨some d, .alloc T, type, pos, after, none⟩).run Tryz.prog w = .ok (.value (.pointer (some ⟨w.heap.size, 0, none⟩))) (pushed w (.cells #[.pointer none, .slice none 0 0] T)) := value_run (alloc_writer hT w)
     unfold Oper.wp
     rw [hrun]
     show contQ Tryz.prog Q k .normal _ _
     have hnone := hs.rel.dom_none
     have hle := Place.le_set (x := (w.heap.size, 0, 2)) hnone
     have hstep : Step ρ (ρ.set st.nx (w.heap.size, 0, 2)) st.hp (st.hp.put st.nx (some (.cells [] false))) st.nx (st.nx + 1) := ⟨hle, Nat.le_succ _, fun b hb hr => ⟨by rw [Place.set_other (by omega)]; exact hr, by rw [Tr.get_put, if_neg (by omega)]⟩⟩
     obtain ⟨hhid, hrel⟩ := start_hid hT hs.rel
     refine grun_sound (I := HidO W w.heap.size) (kb := st.nx) (kx := (w.heap.size, 0, 2)) (W0 := ⟨pushed w (.cells #[.pointer none, .slice none 0 0] T), fun k => ¬ (W.old k ∨ k = w.heap.size), ρ.fr, W.ds⟩) (R := fun ρ' st' => Step (ρ.set st.nx (w.heap.size, 0, 2)) ρ' (st.hp.put st.nx (some (.cells [] false))) st'.hp (st.nx + 1) st'.nx)
      (hmk W w.heap.size st.nx) hm (fun _ _ _ _ h k => h.trans k) (fun b k st g h => (vloop_false h).elim) (fun st' g hst W' ρ' a' w' hI hkx hs' hr' => ?_) (fun v st' g hst W' ρ' v' a' w' hI hv hs' hr' => ?_) 3000 .normal k _ _ h _ _ _ _ ⟨hhid, rfl⟩ (Place.set_same _ _ _) ⟨hrel, aput_sound (hs.frame.mono hle) htm (.ptr (Place.set_same _ _ _))⟩ (.refl _ _ _)
     ·obtain ⟨rfl, hst⟩ := onNone_eq hst
      exact hF st' hst ρ' a' w' ⟨(HidO.lnk hI.1).back hs'.rel, by have := hs'.frame; rw [hI.2] at this; exact this⟩ (hR _ _ _ _ hr (hstep.trans hr'))
     ·obtain ⟨rfl, hst⟩ := onNone_eq hst
      exact hX v st' hst ρ' v' a' w' hv ⟨(HidO.lnk hI.1).back hs'.rel, by have := hs'.frame; rw [hI.2] at this; exact this⟩ (hR _ _ _ _ hr (hstep.trans hr'))
    ·exact vregionP_sound hcall hm hs h (fun st' hK a' w' ρ' g1 g2 => ih .normal k st' hK ρ' a' w' g1 (hR _ _ _ _ hr g2)) (fun v st' hK v' a' w' ρ' g0 g1 g2 => contQ_panic (hX v st' hK ρ' v' a' w' g0 g1 (hR _ _ _ _ hr g2)))
   | seq x y => exact wp_seq (ih (.code x) (.seq y :: k) st h ρ a w hs hr)
   | cond c x y =>
    dsimp only at h
    split at h
    ·rename_i b hc
     have := hs.frame.eval hc
     cases b with
     | true =>
      refine wp_cond_true (c := c) ?_ (ih (.code x) k st h ρ a w hs hr)
      generalize a.eval c = z at this
      cases this
      rfl
     | false =>
      refine wp_cond_false (c := c) ?_ (ih (.code y) k st h ρ a w hs hr)
      generalize a.eval c = z at this
      cases this
      rfl
    ·exact h.elim
   | block id b => exact wp_block (ih (.code b) (.block id :: k) st h ρ a w hs hr)
   | loop b =>
    exact loop_of (loop_round (ih (.code b) (.loop b :: k) st h ρ a w hs hr))
   | exit id => exact wp_exit (ih (.exit id) k st h ρ a w hs hr)
   | ret => exact wp_ret (ih .ret k st h ρ a w hs hr)
   | goto l => exact h.elim
   | refuse y => exact h.elim
   | scope b => exact h.elim
   | rangeFunc f ps x y => exact h.elim
theorem HidO.ds {W0 : Base} {c : Nat} (W : Base) (D : List Deferred) (g : Option ByteArray) (h : HidO W0 c W g) : HidO W0 c ⟨W.w, W.mu, W.f0, D⟩ g := by
 cases g with
 | none => exact ⟨h.size, h.os, h.tape, h.output, h.old, h.f0⟩
 | some S => exact ⟨h.size, h.os, h.tape, h.output, h.old, h.f0, h.cont, h.mine⟩
def mkW (inl : List FuncId) (pc : PCall) (kb : Nat) : GCall (Option ByteArray) := inlG Tryz.prog inl (bldCall kb (ofP pc)) 6
theorem mkW_ok {inl : List FuncId} {pc : PCall} (hm : Tryz.prog.follows .mixedOrders = true) (h : PCallOk Tryz.prog pc) (W0 : Base) (c kb : Nat) : GCallOk Tryz.prog (HidO W0 c) kb (c, 0, 2) (mkW inl pc kb) :=
 inlG_ok hm HidO.ds (bldCall_ok (ofP_ok h)) 6
def vcW (pc : PCall) (mk : Nat → GCall (Option ByteArray)) (f : FuncId) (args : List Value) (Post : Out → List (List Value) → Prop) : Prop :=
 wrun Tryz.prog pc mk (slotsN args (fnAt Tryz.prog f)) (finX Tryz.prog (fnAt Tryz.prog f) 0 (xpost 0 Post)) (panX 0 (xpost 0 Post)) 3000 (.code (codeOf (fnAt Tryz.prog f))) [] ⟨putArgs 0 args .e, hpOf [], 0⟩
set_option maxRecDepth 100000 in
theorem spec_W {pc : PCall} {mk : Nat → GCall (Option ByteArray)} (hcall : PCallOk Tryz.prog pc) (hmk : ∀ W0 c kb, GCallOk Tryz.prog (HidO W0 c) kb (c, 0, 2) (mk kb)) (hm : Tryz.prog.follows .mixedOrders = true) {f : FuncId} (hf : enters Tryz.prog f = true) {args : List Value} {Post : Out → List (List Value) → Prop}
  (h : vcW pc mk f args Post) : SpecX Tryz.prog f 0 (hpOf []) args (xpost 0 Post) := by
 intro W ρ w args' hpl hrel hargs
 obtain ⟨hf', hb'⟩ := all_of f hf
 suffices hb : Calls Tryz.prog f args'.toArray w fun e w' => ∃ r hp' nx' ρ', xpost 0 Post r hp' ∧ r.Ends0 ρ' e ∧ Rel ρ' W.bare hp' nx' w' ∧ StepG 0 ρ ρ' from hb.mono fun e w' ⟨r, hp', nx', ρ', g1, g2, g3, g4⟩ => ⟨r, hp', nx', ρ', g1, g2, g3.unbare, g4⟩
 refine calls_of_wp hf' hb' ?_
 unfold vcW at h
 have hst := start_rel (W := W.bare) rfl hrel.bare hargs (fnAt Tryz.prog f)
 exact wrun_sound (W := W.bare) (R := fun ρ' _ => StepG 0 ρ ρ') (Q := FinQX Tryz.prog (fnAt Tryz.prog f) W.bare 0 ρ (xpost 0 Post)) hcall hmk hm (fun _ _ _ _ h k => h.step k)
  (fun st hst ρ' a w hs hr => finX_ok hst rfl hpl hs hr) (fun v st hst ρ' v' a w hv hs hr => panX_ok hst rfl hpl hv hs hr) 3000 (.code _) [] _ h ρ _ w hst (.refl _ _)
end Go.Proofs.YtegjnjmimfgijaaGreatDoor
noncomputable section
namespace Go.Proofs.YtegjnjmimfgijaaGreatDoor
open Go Go.RowKit
variable {γ : Type}
def GoodG (P : Program) (Is : (Base → γ → Prop) → Nat × Nat × Nat → Prop) (kb n : Nat) (base : List Bool) (Fin : AS → γ → Prop) (X : Value → AS → γ → Prop) (b : Code) (k : List Fr) (st : AS) (g : γ) : Prop :=
 ∀ I kx, Is I kx → ∀ (W0 : Base) (ρ0 : Place) (Q : Exit → Act → World → Prop), (∀ st g, Fin st g → ∀ W ρ a w, I W g ∧ W.ds = W0.ds → ρ.pl kb = some kx → SRel ρ W n st a w → StepG base.length ρ0 ρ → Q .normal a w ∧ Q .ret a w) →
  (∀ v st g, X v st g → ∀ W ρ v' a w, I W g ∧ W.ds = W0.ds → VR ρ v v' → SRel ρ W n st a w → StepG base.length ρ0 ρ → Q (.panic [{ v := v', recovered := false }]) a w) →
  ∀ W ρ a w, I W g ∧ W.ds = W0.ds → ρ.pl kb = some kx → SRel ρ W n st a w → StepG base.length ρ0 ρ → LoopWp P b (contQ P Q k) a w
theorem goodG_vloop {P : Program} {Is : (Base → γ → Prop) → Nat × Nat × Nat → Prop} {kb n : Nat} {lt : List (Nat × List Nat)} {base : List Bool} (hkb : kb < base.length) {Fin : AS → γ → Prop} {X : Value → AS → γ → Prop} {b : Code} {k : List Fr} {st : AS} {g : γ}
  (h : vloop lt base (fun b k st => GoodG P Is kb n base Fin X b k st g) b k st) : GoodG P Is kb n base Fin X b k st g := by
 unfold vloop at h
 split at h
 case h_2 => exact h.elim
 split at h
 case h_2 => exact h.elim
 rename_i st0 ob0 hz
 split at h
 case h_2 => exact h.elim
 rename_i st' ob hc
 intro I kx hIs W0 ρ0 Q hF hX W ρ a w hI hkx hs hr
 obtain ⟨ρ1, f1, f2⟩ := frzTms_sound hs hz h.1
 obtain ⟨ρ', g1, g2, g3⟩ := canon_sound f1 hc h.2.1
 exact h.2.2 I kx hIs W0 ρ0 Q hF hX W ρ' a w hI (by rw [g3 kb hkb]; exact f2.1 kb kx hkx) g1 ⟨fun b x hb hx => by rw [g3 b hb]; exact f2.1 b x (hr.1 b x hb hx), fun c x hx => by rw [g2]; exact f2.2 c x (hr.2 c x hx)⟩
theorem goodG_round {P : Program} {Is : (Base → γ → Prop) → Nat × Nat × Nat → Prop} {gc : GCall γ} {kb : Nat} (hcall : ∀ I kx, Is I kx → GCallOk P I kb kx gc) (hm : P.follows .mixedOrders = true) {n : Nat} {lt : List (Nat × List Nat)} {base : List Bool} (hkb : kb < base.length) {Fin : AS → γ → Prop} {X : Value → AS → γ → Prop} {b : Code} {k : List Fr} {st : AS} {g : γ} (f : Nat)
  (h : grun P gc n lt base (GoodG P Is kb n base Fin X) Fin X f (.code b) (.loop b :: k) st g) : GoodG P Is kb n base Fin X b k st g := by
 intro I kx hIs W0 ρ0 Q hF hX W ρ a w hI hkx hs hr
 refine loop_round ?_
 exact grun_sound (I := I) (kb := kb) (kx := kx) (W0 := W0) (R := fun ρ _ => StepG base.length ρ0 ρ) (hcall I kx hIs) hm (fun ρ st ρ' st' h k => h.step k) (fun b k st g h W ρ a w hI hkx hs hr => goodG_vloop hkb h I kx hIs W0 ρ0 Q hF hX W ρ a w hI hkx hs hr) hF hX f (.code b) (.loop b :: k) st g h W ρ a w hI hkx hs hr
def SpecG (P : Program) (Is : (Base → γ → Prop) → Nat × Nat × Nat → Prop) (f : FuncId) (kb N : Nat) (hp : Tr AObj) (args : List Value) (g : γ) (Post : Value → Tr AObj → γ → Prop) : Prop :=
 ∀ I kx, Is I kx → ∀ (W : Base) ρ w args', I W g → ρ.pl kb = some kx → Rel ρ W hp N w → VRL ρ args args' →
  Calls P f args'.toArray w fun e w' => ∃ v v' hp' nx' g' ρ' W', Post v hp' g' ∧ e = .returned v' ∧ VR ρ' v v' ∧ (I W' g' ∧ W'.ds = W.ds) ∧ Rel ρ' W' hp' nx' w' ∧ StepG N ρ ρ'
def finG (P : Program) (fn : Func) (Post : Value → Tr AObj → γ → Prop) (st : AS) (g : γ) : Prop :=
 match ares P st.hp st.tm fn with
 | some v => Post v st.hp g
 | none => False
def panG (_ : Value) (_ : AS) (_ : γ) : Prop := False
theorem specG_of {P : Program} {Is : (Base → γ → Prop) → Nat × Nat × Nat → Prop} {gc : GCall γ} {kb : Nat} (hcall : ∀ I kx, Is I kx → GCallOk P I kb kx gc) (hD : ∀ I kx, Is I kx → ∀ W D g, I W g → I ⟨W.w, W.mu, W.f0, D⟩ g) (hm : P.follows .mixedOrders = true) {f : FuncId} (hf : enters P f = true) {lt : List (Nat × List Nat)} {base : List Bool} (hkb : kb < base.length) {hp : Tr AObj} {args : List Value} {g : γ} {Post : Value → Tr AObj → γ → Prop} {Fin : AS → γ → Prop} (hfin : ∀ st g, Fin st g → finG P (fnAt P f) Post st g) (k : Nat)
  (h : grun P gc (slotsN args (fnAt P f)) lt base (GoodG P Is kb (slotsN args (fnAt P f)) base Fin panG) Fin panG k (.code (codeOf (fnAt P f))) [] ⟨putArgs 0 args .e, hp, base.length⟩ g) : SpecG P Is f kb base.length hp args g Post := by
 intro I kx hIs W ρ w args' hI hkx hrel hargs
 obtain ⟨hf', hb'⟩ := all_of f hf
 refine calls_of_wp hf' hb' ?_
 have fin : ∀ st g', Fin st g' → ∀ W1 ρ' a w', I W1 g' ∧ W1.ds = W.bare.ds → SRel ρ' W1 (slotsN args (fnAt P f)) st a w' → StepG base.length ρ ρ' →
   a.defers = [] ∧ ∃ r, (results (fnAt P f) a.tmps).run P w' = .ok r w' ∧ ∃ v v' hp' nx' g' ρ' W', Post v hp' g' ∧ Ending.returned r = .returned v' ∧ VR ρ' v v' ∧ (I W' g' ∧ W'.ds = W.ds) ∧ Rel ρ' W' hp' nx' w' ∧ StepG base.length ρ ρ' := by
  intro st g' hst0 W1 ρ' a w' hI1 hs hr
  have hst := hfin st g' hst0
  unfold finG at hst
  split at hst
  case h_2 => exact hst.elim
  rename_i v hv
  obtain ⟨v', r1, r2⟩ := ares_sound hs.rel hs.frame hv
  exact ⟨hs.frame.defers.trans hI1.2, v', r1, v, v', st.hp, st.nx, g', ρ', ⟨W1.w, W1.mu, W1.f0, W.ds⟩, hst, rfl, r2, ⟨hD I kx hIs W1 W.ds g' hI1.1, rfl⟩, Rel.withDs _ hs.rel, hr⟩
 have hF : ∀ st g', Fin st g' → ∀ W1 ρ' a w', I W1 g' ∧ W1.ds = W.bare.ds → ρ'.pl kb = some kx → SRel ρ' W1 (slotsN args (fnAt P f)) st a w' → StepG base.length ρ ρ' → _ := fun st g' hst W1 ρ' a w' hI1 _ hs hr => And.intro (fin st g' hst W1 ρ' a w' hI1 hs hr) (fin st g' hst W1 ρ' a w' hI1 hs hr)
 exact grun_sound (I := I) (kb := kb) (kx := kx) (W0 := W.bare) (R := fun ρ' _ => StepG base.length ρ ρ') (hcall I kx hIs) hm (fun _ _ _ _ h k => h.step k)
  (fun b k st g h W1 ρ' a w hI1 hkx1 hs hr => goodG_vloop hkb h I kx hIs W.bare ρ _ hF (fun _ _ _ h => h.elim) W1 ρ' a w hI1 hkx1 hs hr) hF (fun _ _ _ h => h.elim) k (.code _) [] _ g h W.bare ρ _ w ⟨hD I kx hIs W [] g hI, rfl⟩ hkx (start_rel rfl hrel.bare hargs _) (.refl _ _)
def finV (P : Program) (fn : Func) (Post : List Value → γ → Prop) (st : AS) (g : γ) : Prop :=
 match ares P st.hp st.tm fn, st.hp.get 0 with
 | some (.tuple vs), some (.cells l true) => bif vs.isEmpty then Post l g else False
 | _, _ => False
theorem finV_G {P : Program} {fn : Func} {Post : List Value → γ → Prop} {st : AS} {g : γ} (h : finV P fn Post st g) : finG P fn (fun v hp g => v = .tuple #[] ∧ ∃ l, hp.get 0 = some (.cells l true) ∧ Post l g) st g := by
 unfold finV at h
 unfold finG
 split at h
 case h_2 => exact h.elim
 rename_i vs l h1 h2
 rw [h1]
 dsimp only
 cases he : vs.isEmpty with
 | false => rw [he] at h; exact h.elim
 | true =>
  rw [he] at h
  have : vs = #[] := by simpa using he
  exact ⟨by rw [this], l, h2, h⟩
def vcG (P : Program) (gc : GCall γ) (f : FuncId) (lt : List (Nat × List Nat)) (base : List Bool) (hp : Tr AObj) (args : List Value) (g : γ) (H : Code → List Fr → AS → γ → Prop) (Post : List Value → γ → Prop) : Prop :=
 grun P gc (slotsN args (fnAt P f)) lt base H (finV P (fnAt P f) Post) panG 3000 (.code (codeOf (fnAt P f))) [] ⟨putArgs 0 args .e, hp, base.length⟩ g
def vcLG (P : Program) (gc : GCall γ) (f : FuncId) (na : List Value) (lt : List (Nat × List Nat)) (base : List Bool) (r : Nat) (st : AS) (g : γ) (H : Code → List Fr → AS → γ → Prop) (Post : List Value → γ → Prop) : Prop :=
 grun P gc (slotsN na (fnAt P f)) lt base H (finV P (fnAt P f) Post) panG 3000 (.code (lpC P f r)) (.loop (lpC P f r) :: lpK P f r) st g
def OkG (P : Program) (Is : (Base → γ → Prop) → Nat × Nat × Nat → Prop) (f : FuncId) (na : List Value) (kb : Nat) (base : List Bool) (Post : List Value → γ → Prop) : Code → List Fr → AS → γ → Prop :=
 GoodG P Is kb (slotsN na (fnAt P f)) base (finV P (fnAt P f) Post) panG
section
variable {P : Program} {Is : (Base → γ → Prop) → Nat × Nat × Nat → Prop} {gc : GCall γ} {kb : Nat}
theorem spec_G (hcall : ∀ I kx, Is I kx → GCallOk P I kb kx gc) (hD : ∀ I kx, Is I kx → ∀ W D g, I W g → I ⟨W.w, W.mu, W.f0, D⟩ g) (hm : P.follows .mixedOrders = true) {f : FuncId} (hf : enters P f = true) (lt : List (Nat × List Nat)) {base : List Bool} (hkb : kb < base.length) {hp : Tr AObj} {args : List Value} {g : γ} {Post : List Value → γ → Prop}
  {X : Prop} (e : vcG P gc f lt base hp args g (OkG P Is f args kb base Post) Post = X) (h : X) : SpecG P Is f kb base.length hp args g fun v hp' g' => v = .tuple #[] ∧ ∃ l, hp'.get 0 = some (.cells l true) ∧ Post l g' :=
 specG_of hcall hD hm hf hkb (fun _ _ h => finV_G h) 3000 (Eq.mpr e h)
theorem ok_G (hcall : ∀ I kx, Is I kx → GCallOk P I kb kx gc) (hm : P.follows .mixedOrders = true) {f : FuncId} {na : List Value} (lt : List (Nat × List Nat)) {base : List Bool} (hkb : kb < base.length) {r : Nat} {st : AS} {g : γ} {Post : List Value → γ → Prop}
  {X : Prop} (e : vcLG P gc f na lt base r st g (OkG P Is f na kb base Post) Post = X) (h : X) : OkG P Is f na kb base Post (lpC P f r) (lpK P f r) st g := goodG_round hcall hm hkb 3000 (Eq.mpr e h)
end
end Go.Proofs.YtegjnjmimfgijaaGreatDoor

noncomputable section
namespace Go.Proofs.YtegjnjmimfgijaaGreatDoor
open Go Go.RowKit
set_option maxRecDepth 100000
set_option maxHeartbeats 8000000
namespace B
def IsW (I : Base → Option ByteArray → Prop) (kx : Nat × Nat × Nat) : Prop := ∃ W0 c, I = HidO W0 c ∧ kx = (c, 0, 2)
def wrunL (P : Program) (pc : PCall) (mk : Nat → GCall (Option ByteArray)) (n : Nat) (lt : List (Nat × List Nat)) (base : List Bool) (H : Code → List Fr → AS → Option ByteArray → Prop) (Fin : AS → Prop) (X : Value → AS → Prop) : Nat → VM → List Fr → AS → Prop
 | 0, _, _, _ => False
 | f + 1, .normal, k, st => match k with
  | [] => Fin st
  | .seq y :: k' => wrunL P pc mk n lt base H Fin X f (.code y) k' st
  | .block _ :: k' => wrunL P pc mk n lt base H Fin X f .normal k' st
  | .loop _ :: _ => False
 | f + 1, .exit id, k, st => match k with
  | [] => False
  | .block j :: k' => bif id.beq j then wrunL P pc mk n lt base H Fin X f .normal k' st else wrunL P pc mk n lt base H Fin X f (.exit id) k' st
  | _ :: k' => wrunL P pc mk n lt base H Fin X f (.exit id) k' st
 | _ + 1, .ret, _, st => Fin st
 | f + 1, .code c, k, st => match c with
  | .skip | .label _ => wrunL P pc mk n lt base H Fin X f .normal k st
  | .region _ ops draw => match isAllocW ops draw with
   | some d => match aput n st.tm (some d) (.pointer (some ⟨st.nx, 0, none⟩)) with
    | some tm => bif base.length.beq (st.nx + 1) then grun P (mk st.nx) n lt base H (fun st g => onNone g (Fin st)) (fun v st g => onNone g (X v st)) 3000 .normal k ⟨tm, st.hp.put st.nx (some (.cells [] false)), st.nx + 1⟩ (some .empty) else False
    | none => False
   | none => vregionP P pc n ops draw st (fun st' => wrunL P pc mk n lt base H Fin X f .normal k st') X
  | .seq x y => wrunL P pc mk n lt base H Fin X f (.code x) (.seq y :: k) st
  | .cond c x y => match aev st.tm c with
   | some (.bool b) => pIf b (wrunL P pc mk n lt base H Fin X f (.code x) k st) (wrunL P pc mk n lt base H Fin X f (.code y) k st)
   | _ => False
  | .block id b => wrunL P pc mk n lt base H Fin X f (.code b) (.block id :: k) st
  | .exit id => wrunL P pc mk n lt base H Fin X f (.exit id) k st
  | .ret => wrunL P pc mk n lt base H Fin X f .ret k st
  | _ => False
theorem wrunL_sound {pc : PCall} {mk : Nat → GCall (Option ByteArray)} {W : Base} {n : Nat} {lt : List (Nat × List Nat)} {base : List Bool} (hbase : 0 < base.length) {Fin : AS → Prop} {X : Value → AS → Prop} {ρs : Place} {Q : Exit → Act → World → Prop} (hcall : PCallOk Tryz.prog pc) (hmk : ∀ W0 c kb, GCallOk Tryz.prog (HidO W0 c) kb (c, 0, 2) (mk kb)) (hm : Tryz.prog.follows .mixedOrders = true)
  (hF : ∀ st, Fin st → ∀ ρ a w, SRel ρ W n st a w → StepG 0 ρs ρ → Q .normal a w ∧ Q .ret a w)
  (hX : ∀ v st, X v st → ∀ ρ v' a w, VR ρ v v' → SRel ρ W n st a w → StepG 0 ρs ρ → Q (.panic [{ v := v', recovered := false }]) a w) :
  ∀ (f : Nat) (m : VM) (k : List Fr) (st : AS), wrunL Tryz.prog pc mk n lt base (GoodG Tryz.prog IsW (base.length - 1) n base (fun st g => onNone g (Fin st)) (fun v st g => onNone g (X v st))) Fin X f m k st → ∀ ρ a w, SRel ρ W n st a w → StepG 0 ρs ρ → (match m with
   | .code c => c.wp Tryz.prog (contQ Tryz.prog Q k) a w
   | .normal => contQ Tryz.prog Q k .normal a w
   | .exit id => contQ Tryz.prog Q k (.exit id) a w
   | .ret => contQ Tryz.prog Q k .ret a w) := by
 intro f
 induction f with
 | zero => intro m k st h; simp only [wrunL] at h
 | succ f ih =>
  intro m k st h ρ a w hs hr
  cases m with
  | normal =>
   simp only [wrunL] at h
   dsimp only
   cases k with
   | nil => exact (hF st h ρ a w hs hr).1
   | cons x k =>
    cases x with
    | seq y => exact ih (.code y) k st h ρ a w hs hr
    | block id => exact ih .normal k st h ρ a w hs hr
    | loop b => exact h.elim
  | exit id =>
   simp only [wrunL] at h
   dsimp only
   cases k with
   | nil => exact h.elim
   | cons x k =>
    cases x with
    | seq y => exact ih (.exit id) k st h ρ a w hs hr
    | block j =>
     show Exit.inBlock j (contQ Tryz.prog Q k) (.exit id) a w
     simp only [Exit.inBlock]
     dsimp only at h
     cases hj : id.beq j with
     | true =>
      rw [hj] at h
      rw [if_pos (Nat.eq_of_beq_eq_true hj)]
      exact ih .normal k st h ρ a w hs hr
     | false =>
      rw [hj] at h
      rw [if_neg (fun e => by subst e; simp at hj)]
      exact ih (.exit id) k st h ρ a w hs hr
    | loop b => exact ih (.exit id) k st h ρ a w hs hr
  | ret =>
   simp only [wrunL] at h
   exact contQ_ret (hF st h ρ a w hs hr).2
  | code c =>
   simp only [wrunL] at h
   dsimp only
   cases c with
   | skip => exact wp_skip (ih .normal k st h ρ a w hs hr)
   | label l => exact wp_label (ih .normal k st h ρ a w hs hr)
   | region id ops draw =>
    dsimp only at h
    split at h
    ·rename_i d hd
     split at h
     case h_2 => exact h.elim
     rename_i tm htm
     cases hbl : base.length.beq (st.nx + 1) with
     | false => rw [hbl] at h; exact h.elim
     | true =>
     rw [hbl, cond_true] at h
     have hbl := Nat.eq_of_beq_eq_true hbl
     obtain ⟨o, T, hT, rfl, rfl, ho, hdst, hgd⟩ := isAllocW_eq hd
     refine wp_region ?_
     show wpOps Tryz.prog #[o] _ [0] a w
     rw [wpOps_cons]
     unfold wpOp
     have e0 : (#[o])[0]? = some o := rfl
     simp only [e0]
     have hw : ∀ q, Region.wanted o q = true := fun q => by unfold Region.wanted; rw [hgd]
     rw [hw, if_pos rfl]
     refine .inl ?_
     obtain ⟨dst, op, type, pos, after, guard⟩ := o
     dsimp only at ho hdst hgd
     subst ho hdst hgd
     have hrun : (execOp a.eval ⟨some d, .alloc T, type, pos, after, none⟩).run Tryz.prog w = .ok (.value (.pointer (some ⟨w.heap.size, 0, none⟩))) (pushed w (.cells #[.pointer none, .slice none 0 0] T)) := value_run (alloc_writer hT w)
     unfold Oper.wp
     rw [hrun]
     show contQ Tryz.prog Q k .normal _ _
     have hnone := hs.rel.dom_none
     have hle := Place.le_set (x := (w.heap.size, 0, 2)) hnone
     obtain ⟨hhid, hrel⟩ := start_hid hT hs.rel
     have e1 : base.length - 1 = st.nx := by omega
     rw [e1] at h
     have key : ∀ ρ', StepG base.length (ρ.set st.nx (w.heap.size, 0, 2)) ρ' → StepG 0 ρs ρ' := fun ρ' hk => ⟨fun b x hb => by omega, fun c x hc => hk.2 c x (hr.2 c x hc)⟩
     have fin : ∀ st' g, onNone g (Fin st') → ∀ W' ρ' a' w', HidO W w.heap.size W' g ∧ W'.ds = W.ds → ρ'.pl st.nx = some (w.heap.size, 0, 2) → SRel ρ' W' n st' a' w' → StepG base.length (ρ.set st.nx (w.heap.size, 0, 2)) ρ' → Q .normal a' w' ∧ Q .ret a' w' := by
      intro st' g hst W' ρ' a' w' hI hkx hs' hr'
      obtain ⟨rfl, hst⟩ := onNone_eq hst
      exact hF st' hst ρ' a' w' ⟨(HidO.lnk hI.1).back hs'.rel, by have := hs'.frame; rw [hI.2] at this; exact this⟩ (key ρ' hr')
     have pan : ∀ v st' g, onNone g (X v st') → ∀ W' ρ' v' a' w', HidO W w.heap.size W' g ∧ W'.ds = W.ds → VR ρ' v v' → SRel ρ' W' n st' a' w' → StepG base.length (ρ.set st.nx (w.heap.size, 0, 2)) ρ' → Q (.panic [{ v := v', recovered := false }]) a' w' := by
      intro v st' g hst W' ρ' v' a' w' hI hv hs' hr'
      obtain ⟨rfl, hst⟩ := onNone_eq hst
      exact hX v st' hst ρ' v' a' w' hv ⟨(HidO.lnk hI.1).back hs'.rel, by have := hs'.frame; rw [hI.2] at this; exact this⟩ (key ρ' hr')
     exact grun_sound (I := HidO W w.heap.size) (kb := st.nx) (kx := (w.heap.size, 0, 2)) (W0 := ⟨pushed w (.cells #[.pointer none, .slice none 0 0] T), fun k => ¬ (W.old k ∨ k = w.heap.size), ρ.fr, W.ds⟩) (R := fun ρ' _ => StepG base.length (ρ.set st.nx (w.heap.size, 0, 2)) ρ')
      (hmk W w.heap.size st.nx) hm (fun _ _ _ _ h k => h.step k)
      (fun b k st' g hl W' ρ' a' w' hI hkx hs' hr' => goodG_vloop (by omega) hl (HidO W w.heap.size) (w.heap.size, 0, 2) ⟨W, w.heap.size, rfl, rfl⟩ ⟨pushed w (.cells #[.pointer none, .slice none 0 0] T), fun k => ¬ (W.old k ∨ k = w.heap.size), ρ.fr, W.ds⟩ (ρ.set st.nx (w.heap.size, 0, 2)) Q fin pan W' ρ' a' w' hI hkx hs' hr')
      fin pan 3000 .normal k _ _ h _ _ _ _ ⟨hhid, rfl⟩ (Place.set_same _ _ _) ⟨hrel, aput_sound (hs.frame.mono hle) htm (.ptr (Place.set_same _ _ _))⟩ (.refl _ _)
    ·exact vregionP_sound hcall hm hs h (fun st' hK a' w' ρ' g1 g2 => ih .normal k st' hK ρ' a' w' g1 (hr.step g2)) (fun v st' hK v' a' w' ρ' g0 g1 g2 => contQ_panic (hX v st' hK ρ' v' a' w' g0 g1 (hr.step g2)))
   | seq x y => exact wp_seq (ih (.code x) (.seq y :: k) st h ρ a w hs hr)
   | cond c x y =>
    dsimp only at h
    split at h
    ·rename_i b hc
     have := hs.frame.eval hc
     cases b with
     | true =>
      refine wp_cond_true (c := c) ?_ (ih (.code x) k st h ρ a w hs hr)
      generalize a.eval c = z at this
      cases this
      rfl
     | false =>
      refine wp_cond_false (c := c) ?_ (ih (.code y) k st h ρ a w hs hr)
      generalize a.eval c = z at this
      cases this
      rfl
    ·exact h.elim
   | block id b => exact wp_block (ih (.code b) (.block id :: k) st h ρ a w hs hr)
   | loop b => exact h.elim
   | exit id => exact wp_exit (ih (.exit id) k st h ρ a w hs hr)
   | ret => exact wp_ret (ih .ret k st h ρ a w hs hr)
   | goto l => exact h.elim
   | refuse y => exact h.elim
   | scope b => exact h.elim
   | rangeFunc f ps x y => exact h.elim
def finL (P : Program) (f : FuncId) (Post : Out → List (List Value) → Prop) (st : AS) (g : Option ByteArray) : Prop := onNone g (finX P (fnAt P f) 0 (xpost 0 Post) st)
def panL (Post : Out → List (List Value) → Prop) (v : Value) (st : AS) (g : Option ByteArray) : Prop := onNone g (panX 0 (xpost 0 Post) v st)
def vcWl (P : Program) (f : FuncId) (pc : PCall) (mk : Nat → GCall (Option ByteArray)) (lt : List (Nat × List Nat)) (base : List Bool) (args : List Value) (H : Code → List Fr → AS → Option ByteArray → Prop) (Post : Out → List (List Value) → Prop) : Prop :=
 wrunL P pc mk (slotsN args (fnAt P f)) lt base H (finX P (fnAt P f) 0 (xpost 0 Post)) (panX 0 (xpost 0 Post)) 3000 (.code (codeOf (fnAt P f))) [] ⟨putArgs 0 args .e, hpOf [], 0⟩
def vcLWl (P : Program) (f : FuncId) (mk : Nat → GCall (Option ByteArray)) (na : List Value) (lt : List (Nat × List Nat)) (base : List Bool) (r : Nat) (st : AS) (g : Option ByteArray) (H : Code → List Fr → AS → Option ByteArray → Prop) (Post : Out → List (List Value) → Prop) : Prop :=
 grun P (mk (base.length - 1)) (slotsN na (fnAt P f)) lt base H (finL P f Post) (panL Post) 3000 (.code (lpC P f r)) (.loop (lpC P f r) :: lpK P f r) st g
def OkWl (f : FuncId) (na : List Value) (base : List Bool) (Post : Out → List (List Value) → Prop) : Code → List Fr → AS → Option ByteArray → Prop :=
 GoodG Tryz.prog IsW (base.length - 1) (slotsN na (fnAt Tryz.prog f)) base (finL Tryz.prog f Post) (panL Post)
set_option maxRecDepth 100000 in
theorem spec_Wl {pc : PCall} {mk : Nat → GCall (Option ByteArray)} (hcall : PCallOk Tryz.prog pc) (hmk : ∀ W0 c kb, GCallOk Tryz.prog (HidO W0 c) kb (c, 0, 2) (mk kb)) (hm : Tryz.prog.follows .mixedOrders = true) {f : FuncId} (hf : enters Tryz.prog f = true) (lt : List (Nat × List Nat)) {base : List Bool} (hbase : 0 < base.length) {args : List Value} {Post : Out → List (List Value) → Prop}
  {Y : Prop} (e : vcWl Tryz.prog f pc mk lt base args (OkWl f args base Post) Post = Y) (hy : Y) : SpecX Tryz.prog f 0 (hpOf []) args (xpost 0 Post) := by
 have h := Eq.mpr e hy
 intro W ρ w args' hpl hrel hargs
 obtain ⟨hf', hb'⟩ := all_of f hf
 suffices hb : Calls Tryz.prog f args'.toArray w fun e w' => ∃ r hp' nx' ρ', xpost 0 Post r hp' ∧ r.Ends0 ρ' e ∧ Rel ρ' W.bare hp' nx' w' ∧ StepG 0 ρ ρ' from hb.mono fun e w' ⟨r, hp', nx', ρ', g1, g2, g3, g4⟩ => ⟨r, hp', nx', ρ', g1, g2, g3.unbare, g4⟩
 refine calls_of_wp hf' hb' ?_
 unfold vcWl at h
 have hst := start_rel (W := W.bare) rfl hrel.bare hargs (fnAt Tryz.prog f)
 exact wrunL_sound (W := W.bare) hbase (ρs := ρ) (Q := FinQX Tryz.prog (fnAt Tryz.prog f) W.bare 0 ρ (xpost 0 Post)) hcall hmk hm
  (fun st hst ρ' a w hs hr => finX_ok hst rfl hpl hs hr) (fun v st hst ρ' v' a w hv hs hr => panX_ok hst rfl hpl hv hs hr) 3000 (.code _) [] _ h ρ _ w hst (.refl _ _)
set_option maxRecDepth 100000 in
theorem ok_Wl {mk : Nat → GCall (Option ByteArray)} (hmk : ∀ W0 c kb, GCallOk Tryz.prog (HidO W0 c) kb (c, 0, 2) (mk kb)) (hm : Tryz.prog.follows .mixedOrders = true) {f : FuncId} {na : List Value} (lt : List (Nat × List Nat)) {base : List Bool} (hbase : 0 < base.length) {r : Nat} {st : AS} {g : Option ByteArray} {Post : Out → List (List Value) → Prop}
  {Y : Prop} (e : vcLWl Tryz.prog f mk na lt base r st g (OkWl f na base Post) Post = Y) (hy : Y) : OkWl f na base Post (lpC Tryz.prog f r) (lpK Tryz.prog f r) st g :=
 goodG_round (gc := mk (base.length - 1)) (fun I kx ⟨W0, c, hI, hk⟩ => by subst hI hk; exact hmk W0 c _) hm (by omega) 3000 (Eq.mpr e hy)
def retV (Post : Value → Prop) (r : Out) (_ : List (List Value)) : Prop := match r with | .ret v => Post v | .pan _ => False
theorem pure_of_X {P : Program} {f : FuncId} {args : List Value} {Post : Value → Prop} (h : SpecX P f 0 (hpOf []) args (xpost 0 (retV Post))) : Pure P f args Post := by
 intro W ρ w args' hrel hargs
 refine (h W ρ w args' (fun b hb => by omega) hrel hargs).mono ?_
 rintro e w' ⟨r, hp', nx', ρ', hP, hE, hR, hS⟩
 unfold xpost at hP
 obtain ⟨_, hv⟩ := hP
 cases r with
 | pan v => exact hv.elim
 | ret v =>
 obtain ⟨v', e1, e2⟩ := hE
 exact ⟨v, hp', nx', v', ρ', hv, e1, e2, hR, hS⟩
end B
def vol2 (l : List Edit) : Nat := (l.map volE).sum
def volO (o : Order2) : Nat := o.id.size + vol2 o.edits
structure InOrder (o : Order2) : Prop where
 all : ∀ x ∈ o.edits, InEdit x
structure FewO (o : Order2) : Prop where
 vol : volO o ≤ 8000000
 len : o.edits.length ≤ 1000
 parts : ∀ x ∈ o.edits, x.pack.parts.length ≤ 1000 ∧ x.pack.after.length ≤ 1000 ∧ x.part.outer.length ≤ 100 ∧ x.part.holes.length ≤ 20 ∧ ∀ h ∈ x.part.holes, h.length ≤ 100
def callC : PCall := ofV (tabCall (⟨71, c_Edit⟩ :: tabI) noCall)
def mkC : Nat → GCall (Option ByteArray) := mkW [] callC
theorem e_chEnc (o : Order2) (H : Code → List Fr → AS → Option ByteArray → Prop) (Post : PX) : B.vcWl Tryz.prog 44 callC mkC [(4, [3, 16, 17, 18])] [true, true] [order2V o] H Post = (T4 (T2 (True ∧ ∃ (s : ByteArray), eqL [vs o.id] [vs s] ∧ s.size ≤ 16000000 ∧ ((tree 38 o.edits.length (encL o.edits) = tree 38 o.edits.length (encL o.edits) ∧ True) ∧ True) ∧ ∃ (n : Nat), eqL [vi (↑o.edits.length : Int)] [vi (↑n : Int)] ∧ n < 9223372036854775808 ∧ True ∧ ByteArray.size (bText s) + ByteArray.size (bList n) ≤ 9223372036854775807 ∧ 0 + ByteArray.size (bText s ++ bList n) ≤ 140737488355328 ∧ T4 (T2 ((T2 (True)) ∧ H (lpC Tryz.prog 44 4) (lpK Tryz.prog 44 4) (stV [(3, some (pt 1)), (16, some (tree 38 o.edits.length (encL o.edits))), (17, some (vi (↑o.edits.length : Int))), (18, some (vi 0))] [(0, some (AObj.cells [vs o.id, tree 38 o.edits.length (encL o.edits)] true)), (1, some (AObj.cells [] false))] 2) (some (ByteArray.empty ++ (bText s ++ bList n)))))))) := by kernel_rfl
theorem l_chEnc (o : Order2) (S : ByteArray) (i : Int) (H : Code → List Fr → AS → Option ByteArray → Prop) (Post : PX) : B.vcLWl Tryz.prog 44 mkC [order2V o] [(4, [3, 16, 17, 18])] [true, true] 4 (stV [(3, some (.pointer (some ⟨1, 0, none⟩))), (16, some (tree 38 o.edits.length (encL o.edits))), (17, some (.int .i64 o.edits.length)), (18, some (.int .i64 i))] [(0, some (.cells (order2C o) true)), (1, some (.cells [] false))] 2) (some S) H Post = (let q4 := cellAt (encL o.edits) (Int.toNat i) 34; let q3 := cellAt (encL o.edits) (Int.toNat i) 32; let q2 := cellAt (encL o.edits) (Int.toNat i) 13; let q1 := cellAt (encL o.edits) (Int.toNat i) 12; True ∧ pIf (decide (i < (↑o.edits.length : Int))) ((0 ≤ i ∧ i < (↑o.edits.length : Int)) ∧ (cellAt (encL o.edits) (Int.toNat i) 0 = vi (toI (cellAt (encL o.edits) (Int.toNat i) 0)) ∧ cellAt (encL o.edits) (Int.toNat i) 1 = vs (toS (cellAt (encL o.edits) (Int.toNat i) 1)) ∧ cellAt (encL o.edits) (Int.toNat i) 2 = vs (toS (cellAt (encL o.edits) (Int.toNat i) 2)) ∧ cellAt (encL o.edits) (Int.toNat i) 3 = vs (toS (cellAt (encL o.edits) (Int.toNat i) 3)) ∧ cellAt (encL o.edits) (Int.toNat i) 4 = vi (toI (cellAt (encL o.edits) (Int.toNat i) 4)) ∧ cellAt (encL o.edits) (Int.toNat i) 5 = vs (toS (cellAt (encL o.edits) (Int.toNat i) 5)) ∧ cellAt (encL o.edits) (Int.toNat i) 6 = vs (toS (cellAt (encL o.edits) (Int.toNat i) 6)) ∧ cellAt (encL o.edits) (Int.toNat i) 7 = vi (toI (cellAt (encL o.edits) (Int.toNat i) 7)) ∧ cellAt (encL o.edits) (Int.toNat i) 8 = vi (toI (cellAt (encL o.edits) (Int.toNat i) 8)) ∧ cellAt (encL o.edits) (Int.toNat i) 9 = vs (toS (cellAt (encL o.edits) (Int.toNat i) 9)) ∧ cellAt (encL o.edits) (Int.toNat i) 10 = vs (toS (cellAt (encL o.edits) (Int.toNat i) 10)) ∧ cellAt (encL o.edits) (Int.toNat i) 11 = vi (toI (cellAt (encL o.edits) (Int.toNat i) 11)) ∧ cellAt (encL o.edits) (Int.toNat i) 12 = tree 2 (toN q1) (toE q1) ∧ cellAt (encL o.edits) (Int.toNat i) 13 = tree 1 (toN q2) (toE q2) ∧ cellAt (encL o.edits) (Int.toNat i) 14 = vs (toS (cellAt (encL o.edits) (Int.toNat i) 14)) ∧ cellAt (encL o.edits) (Int.toNat i) 15 = vi (toI (cellAt (encL o.edits) (Int.toNat i) 15)) ∧ cellAt (encL o.edits) (Int.toNat i) 16 = vi (toI (cellAt (encL o.edits) (Int.toNat i) 16)) ∧ cellAt (encL o.edits) (Int.toNat i) 17 = vi (toI (cellAt (encL o.edits) (Int.toNat i) 17)) ∧ cellAt (encL o.edits) (Int.toNat i) 18 = vi (toI (cellAt (encL o.edits) (Int.toNat i) 18)) ∧ cellAt (encL o.edits) (Int.toNat i) 19 = vi (toI (cellAt (encL o.edits) (Int.toNat i) 19)) ∧ cellAt (encL o.edits) (Int.toNat i) 20 = vi (toI (cellAt (encL o.edits) (Int.toNat i) 20)) ∧ cellAt (encL o.edits) (Int.toNat i) 21 = vi (toI (cellAt (encL o.edits) (Int.toNat i) 21)) ∧ cellAt (encL o.edits) (Int.toNat i) 22 = vi (toI (cellAt (encL o.edits) (Int.toNat i) 22)) ∧ cellAt (encL o.edits) (Int.toNat i) 23 = vi (toI (cellAt (encL o.edits) (Int.toNat i) 23)) ∧ cellAt (encL o.edits) (Int.toNat i) 24 = vs (toS (cellAt (encL o.edits) (Int.toNat i) 24)) ∧ cellAt (encL o.edits) (Int.toNat i) 25 = vs (toS (cellAt (encL o.edits) (Int.toNat i) 25)) ∧ cellAt (encL o.edits) (Int.toNat i) 26 = vs (toS (cellAt (encL o.edits) (Int.toNat i) 26)) ∧ cellAt (encL o.edits) (Int.toNat i) 27 = vi (toI (cellAt (encL o.edits) (Int.toNat i) 27)) ∧ cellAt (encL o.edits) (Int.toNat i) 28 = vi (toI (cellAt (encL o.edits) (Int.toNat i) 28)) ∧ cellAt (encL o.edits) (Int.toNat i) 29 = vi (toI (cellAt (encL o.edits) (Int.toNat i) 29)) ∧ cellAt (encL o.edits) (Int.toNat i) 30 = vs (toS (cellAt (encL o.edits) (Int.toNat i) 30)) ∧ cellAt (encL o.edits) (Int.toNat i) 31 = vs (toS (cellAt (encL o.edits) (Int.toNat i) 31)) ∧ cellAt (encL o.edits) (Int.toNat i) 32 = tree 1 (toN q3) (toE q3) ∧ cellAt (encL o.edits) (Int.toNat i) 33 = vi (toI (cellAt (encL o.edits) (Int.toNat i) 33)) ∧ cellAt (encL o.edits) (Int.toNat i) 34 = tree 1 (toN q4) (toE q4) ∧ cellAt (encL o.edits) (Int.toNat i) 35 = vi (toI (cellAt (encL o.edits) (Int.toNat i) 35)) ∧ cellAt (encL o.edits) (Int.toNat i) 36 = vs (toS (cellAt (encL o.edits) (Int.toNat i) 36)) ∧ cellAt (encL o.edits) (Int.toNat i) 37 = vs (toS (cellAt (encL o.edits) (Int.toNat i) 37)) ∧ True) ∧ True ∧ 38 ≤ 38 ∧ True ∧ ∃ (x : Edit), eqL [Value.agg #[vi (toI (cellAt (encL o.edits) (Int.toNat i) 0)), vs (toS (cellAt (encL o.edits) (Int.toNat i) 1)), vs (toS (cellAt (encL o.edits) (Int.toNat i) 2)), vs (toS (cellAt (encL o.edits) (Int.toNat i) 3)), vi (toI (cellAt (encL o.edits) (Int.toNat i) 4)), vs (toS (cellAt (encL o.edits) (Int.toNat i) 5)), vs (toS (cellAt (encL o.edits) (Int.toNat i) 6)), vi (toI (cellAt (encL o.edits) (Int.toNat i) 7)), vi (toI (cellAt (encL o.edits) (Int.toNat i) 8)), vs (toS (cellAt (encL o.edits) (Int.toNat i) 9)), vs (toS (cellAt (encL o.edits) (Int.toNat i) 10)), vi (toI (cellAt (encL o.edits) (Int.toNat i) 11)), tree 2 (toN q1) (toE q1), tree 1 (toN q2) (toE q2), vs (toS (cellAt (encL o.edits) (Int.toNat i) 14)), vi (toI (cellAt (encL o.edits) (Int.toNat i) 15)), vi (toI (cellAt (encL o.edits) (Int.toNat i) 16)), vi (toI (cellAt (encL o.edits) (Int.toNat i) 17)), vi (toI (cellAt (encL o.edits) (Int.toNat i) 18)), vi (toI (cellAt (encL o.edits) (Int.toNat i) 19)), vi (toI (cellAt (encL o.edits) (Int.toNat i) 20)), vi (toI (cellAt (encL o.edits) (Int.toNat i) 21)), vi (toI (cellAt (encL o.edits) (Int.toNat i) 22)), vi (toI (cellAt (encL o.edits) (Int.toNat i) 23)), vs (toS (cellAt (encL o.edits) (Int.toNat i) 24)), vs (toS (cellAt (encL o.edits) (Int.toNat i) 25)), vs (toS (cellAt (encL o.edits) (Int.toNat i) 26)), vi (toI (cellAt (encL o.edits) (Int.toNat i) 27)), vi (toI (cellAt (encL o.edits) (Int.toNat i) 28)), vi (toI (cellAt (encL o.edits) (Int.toNat i) 29)), vs (toS (cellAt (encL o.edits) (Int.toNat i) 30)), vs (toS (cellAt (encL o.edits) (Int.toNat i) 31)), tree 1 (toN q3) (toE q3), vi (toI (cellAt (encL o.edits) (Int.toNat i) 33)), tree 1 (toN q4) (toE q4), vi (toI (cellAt (encL o.edits) (Int.toNat i) 35)), vs (toS (cellAt (encL o.edits) (Int.toNat i) 36)), vs (toS (cellAt (encL o.edits) (Int.toNat i) 37))]] [editV x] ∧ InEdit x ∧ FewEd x ∧ S.size + ByteArray.size (bEdit x) ≤ 140737488355328 ∧ T2 (True ∧ (T2 (True)) ∧ H (lpC Tryz.prog 44 4) (lpK Tryz.prog 44 4) (stV [(3, some (pt 1)), (16, some (tree 38 o.edits.length (encL o.edits))), (17, some (vi (↑o.edits.length : Int))), (18, some (vi (IntKind.wrap IntKind.i64 (i + 1))))] [(0, some (AObj.cells [vs o.id, tree 38 o.edits.length (encL o.edits)] true)), (1, some (AObj.cells [] false))] 2) (some (S ++ bEdit x)))) (0 < S.size ∧ True ∧ (True ∧ True) ∧ true = true ∧ Post (Out.ret (vs S)) [])) := by kernel_rfl
def bEdits (o : Order2) (i : Nat) : ByteArray := (o.edits.take i).foldl (fun s x => s ++ bEdit x) (bText o.id ++ bList o.edits.length)
def bOrder (o : Order2) : ByteArray := bEdits o o.edits.length
theorem vol2_mem {l : List Edit} {x : Edit} (h : x ∈ l) : volE x ≤ vol2 l := by
 induction l with
 | nil => cases h
 | cons a l ih =>
  have e : vol2 (a :: l) = volE a + vol2 l := by simp [vol2]
  rcases List.mem_cons.1 h with rfl | h
  ·omega
  ·have := ih h; omega
theorem FewO.edit {o : Order2} (h : FewO o) {x : Edit} (hx : x ∈ o.edits) : FewEd x := by
 obtain ⟨h1, h2, h3, h4, h5⟩ := h.parts x hx
 exact ⟨by have := vol2_mem hx; have := h.vol; unfold volO at this; omega, h1, h2, h3, h4, h5⟩
theorem bEdits_fold : ∀ (l : List Edit) (s : ByteArray), (∀ x ∈ l, FewEd x) → (l.foldl (fun s x => s ++ bEdit x) s).size ≤ s.size + vol2 l + 60000 * l.length
 | [], s, _ => by simp [vol2]
 | a :: l, s, hf => by
  have h1 := bEdits_fold l (s ++ bEdit a) fun x hx => hf x (by simp [hx])
  have h2 := bEdit_size (hf a (by simp))
  have e : vol2 (a :: l) = volE a + vol2 l := by simp [vol2]
  rw [ba_size] at h1
  simp only [List.foldl_cons, List.length_cons]
  omega
theorem vol2_take (l : List Edit) (i : Nat) : vol2 (l.take i) ≤ vol2 l := by
 have h := congrArg vol2 (List.take_append_drop i l)
 have e : vol2 (l.take i ++ l.drop i) = vol2 (l.take i) + vol2 (l.drop i) := by unfold vol2; rw [List.map_append, List.sum_append]
 omega
theorem bEdits_size {o : Order2} (h : FewO o) (i : Nat) : (bEdits o i).size ≤ volO o + 60000 * o.edits.length + 100 := by
 have h1 := bEdits_fold (o.edits.take i) (bText o.id ++ bList o.edits.length) fun x hx => h.edit (List.mem_of_mem_take hx)
 have h2 := vol2_take o.edits i
 have h3 := bText_size o.id
 have h4 := bList_size o.edits.length
 have h5 := List.length_take_le' i o.edits
 rw [ba_size] at h1
 unfold bEdits volO
 omega
theorem bEdits_pos (o : Order2) (i : Nat) : 0 < (bEdits o i).size := by
 have key : ∀ (l : List Edit) (s : ByteArray), s.size ≤ (l.foldl (fun s x => s ++ bEdit x) s).size := by
  intro l
  induction l with
  | nil => intro s; exact Nat.le_refl _
  | cons a l ih =>
   intro s
   have := ih (s ++ bEdit a)
   rw [ba_size] at this
   simp only [List.foldl_cons]
   omega
 have h := key (o.edits.take i) (bText o.id ++ bList o.edits.length)
 have h2 : 0 < (bText o.id).size := by
  unfold bText
  rw [ba_size, str_size]
  have : 0 < (hd 2 o.id.size).length := by
   unfold hd
   split
   ·simp
   split
   ·simp
   split
   ·simp
   split <;> simp
  omega
 rw [ba_size] at h
 unfold bEdits
 omega
def c_Order (args : List Value) (Post : Value → Prop) : Prop := ∃ o : Order2, args = [order2V o] ∧ InOrder o ∧ FewO o ∧ Post (.string (bOrder o))
theorem callC_ok : PCallOk Tryz.prog callC := ofV_ok (tabCall_ok (by
 intro e he
 simp only [tabI, List.mem_cons, List.not_mem_nil, or_false] at he
 rcases he with rfl | rfl | rfl | rfl
 ·exact ok_editEnc
 ·exact ok_cInt
 ·exact ok_cList
 ·exact ok_cText) noCall_ok)
theorem mkC_ok (W0 : Base) (c kb : Nat) : GCallOk Tryz.prog (HidO W0 c) kb (c, 0, 2) (mkC kb) := mkW_ok mixed callC_ok W0 c kb
theorem cell_edit {l : List Edit} {i : Nat} (h : i < l.length) (j : Nat) : cellAt (encL l) i j = ((editC l[i])[j]?).getD undef := cellAt_encL' h
set_option maxHeartbeats 1000000 in
theorem ok_chEnc : EntOk Tryz.prog ⟨44, c_Order⟩ := by
 rintro args Post ⟨o, rfl, hin, hf, h⟩
 refine B.pure_of_X (B.spec_Wl callC_ok mkC_ok mixed (by kernel_rfl) _ (by decide) (e_chEnc o _ _) ?_)
 have a1 := bText_size o.id
 have a2 := bList_size o.edits.length
 have hl := hf.len
 have hv := hf.vol
 unfold volO at hv
 simp only [true_and, and_true]
 refine ⟨o.id, rfl, by omega, o.edits.length, rfl, by omega, by omega, by rw [ba_size]; omega, ?_⟩
 rw [show ByteArray.empty ++ (bText o.id ++ bList o.edits.length) = bEdits o 0 from ba_nil _]
 refine down (n := o.edits.length) (p := fun i => B.OkWl 44 [order2V o] [true, true] (B.retV Post) (lpC Tryz.prog 44 4) (lpK Tryz.prog 44 4) (stV [(3, some (.pointer (some ⟨1, 0, none⟩))), (16, some (tree 38 o.edits.length (encL o.edits))), (17, some (.int .i64 o.edits.length)), (18, some (.int .i64 i))] [(0, some (.cells (order2C o) true)), (1, some (.cells [] false))] 2) (some (bEdits o i))) ?_ (fun i hi ih => ?_)
 ·refine B.ok_Wl mkC_ok mixed _ (by decide) (l_chEnc o _ _ _ _) ?_
  simp only [true_and, and_true, pIf_iff, decide_eq_true_eq, decide_eq_false_iff_not]
  exact ⟨fun h' => by omega, fun _ => ⟨bEdits_pos o _, h⟩⟩
 ·refine B.ok_Wl mkC_ok mixed _ (by decide) (l_chEnc o _ _ _ _) ?_
  simp only [true_and, and_true, pIf_iff, decide_eq_true_eq, decide_eq_false_iff_not, Int.toNat_natCast, cell_edit hi, editC, List.getElem?_cons_succ, List.getElem?_cons_zero, Option.getD_some, toI, toS, toN_tree, toE_tree]
  have b1 := bEdits_size hf i
  have b2 := bEdit_size (hf.edit (List.getElem_mem hi))
  have b3 := (hf.edit (List.getElem_mem hi)).vol
  unfold volO at b1
  refine ⟨fun _ => ⟨by omega, by decide, o.edits[i], rfl, hin.all _ (List.getElem_mem hi), hf.edit (List.getElem_mem hi), by omega, ?_⟩, fun h' => by omega⟩
  rw [wrapSucc (by omega)]
  unfold bEdits at ih
  rw [fold_take _ _ hi] at ih
  exact ih
theorem ba_cancel {a s t : ByteArray} (h : a ++ s = a ++ t) : s = t := by
 have := congrArg (fun x : ByteArray => x.data.toList) h
 simp only [app_list] at this
 exact ba_ext (List.append_cancel_left this)
theorem ba_nil' (a : ByteArray) : a ++ (⟨#[]⟩ : ByteArray) = a := ba_ext (by rw [app_list]; simp)
theorem pre_hd {k v k' v' : Nat} {s t : ByteArray} (h : str (hd k v) ++ s = str (hd k' v') ++ t) (h1 : k < 8) (h2 : k' < 8) (h3 : v < 18446744073709551616) (h4 : v' < 18446744073709551616) : k = k' ∧ v = v' ∧ s = t := by
 have e1 := pk_hd h1 h3 s (one := k) (two := k') (.inl rfl)
 have e2 := pk_hd h2 h4 t (one := k) (two := k') (.inr rfl)
 rw [h, e2] at e1
 have a1 : k' = k := congrArg (·.1) e1
 have a2 : v' = v := congrArg (·.2.1) e1
 subst a1 a2
 exact ⟨rfl, rfl, ba_cancel h⟩
theorem pre_int {a b : Int} {s t : ByteArray} (ha : In64 a) (hb : In64 b) (h : bInt a ++ s = bInt b ++ t) : a = b ∧ s = t := by
 have ha' := ha
 have hb' := hb
 obtain ⟨a1, a2⟩ := ha'
 obtain ⟨b1, b2⟩ := hb'
 unfold bInt at h
 split at h <;> split at h
 ·obtain ⟨_, e, f⟩ := pre_hd h (by decide) (by decide) (by omega) (by omega)
  exact ⟨by omega, f⟩
 ·obtain ⟨e, _⟩ := pre_hd h (by decide) (by decide) (by omega) (by omega)
  cases e
 ·obtain ⟨e, _⟩ := pre_hd h (by decide) (by decide) (by omega) (by omega)
  cases e
 ·obtain ⟨_, e, f⟩ := pre_hd h (by decide) (by decide) (by omega) (by omega)
  exact ⟨by omega, f⟩
theorem pre_list {a b : Nat} {s t : ByteArray} (ha : a < 9223372036854775808) (hb : b < 9223372036854775808) (h : bList a ++ s = bList b ++ t) : a = b ∧ s = t := by
 obtain ⟨_, e, f⟩ := pre_hd h (by decide) (by decide) (by omega) (by omega)
 exact ⟨e, f⟩
theorem ba_split {a b s t : ByteArray} (hs : a.size = b.size) (h : a ++ s = b ++ t) : a = b ∧ s = t := by
 have := congrArg (fun x : ByteArray => x.data.toList) h
 simp only [app_list] at this
 obtain ⟨e1, e2⟩ := List.append_inj this (by rw [size_list, size_list] at hs; exact hs)
 exact ⟨ba_ext e1, ba_ext e2⟩
theorem pre_text {a b s t : ByteArray} (ha : a.size < 9223372036854775808) (hb : b.size < 9223372036854775808) (h : bText a ++ s = bText b ++ t) : a = b ∧ s = t := by
 unfold bText at h
 rw [ba_assoc, ba_assoc] at h
 obtain ⟨_, e, f⟩ := pre_hd h (by decide) (by decide) (by omega) (by omega)
 exact ba_split e f
def bCat {α : Type} (f : α → ByteArray) : List α → ByteArray
 | [] => ⟨#[]⟩
 | a :: l => f a ++ bCat f l
theorem fold_bCat {α : Type} (f : α → ByteArray) : ∀ (l : List α) (s : ByteArray), l.foldl (fun s x => s ++ f x) s = s ++ bCat f l
 | [], s => (ba_nil' s).symm
 | a :: l, s => by
  rw [List.foldl_cons, fold_bCat f l, bCat, ba_assoc]
theorem pre_cat {α : Type} {D : α → Prop} {f : α → ByteArray} (hf : ∀ a b s t, D a → D b → f a ++ s = f b ++ t → a = b ∧ s = t) : ∀ {l l' : List α} {s t : ByteArray}, l.length = l'.length → (∀ a ∈ l, D a) → (∀ a ∈ l', D a) → bCat f l ++ s = bCat f l' ++ t → l = l' ∧ s = t
 | [], [], s, t, _, _, _, h => ⟨rfl, ba_cancel h⟩
 | a :: l, b :: l', s, t, hl, h1, h2, h => by
  simp only [bCat, ba_assoc] at h
  obtain ⟨e1, h'⟩ := hf a b _ _ (h1 a (by simp)) (h2 b (by simp)) h
  obtain ⟨e2, h''⟩ := pre_cat hf (by simpa using hl) (fun x hx => h1 x (by simp [hx])) (fun x hx => h2 x (by simp [hx])) h'
  exact ⟨by rw [e1, e2], h''⟩
theorem pre_pts {l l' : List Pt} {s t : ByteArray} (n : l.length < 9223372036854775808) (n' : l'.length < 9223372036854775808) (hl : ∀ p ∈ l, InPt p) (hl' : ∀ p ∈ l', InPt p) (h : bPts l ++ s = bPts l' ++ t) : l = l' ∧ s = t := by
 unfold bPts at h
 rw [fold_bCat (fun p : Pt => bInt p.x ++ bInt p.y), fold_bCat (fun p : Pt => bInt p.x ++ bInt p.y), ba_assoc, ba_assoc] at h
 obtain ⟨e, h⟩ := pre_list n n' h
 refine pre_cat (D := InPt) (fun a b s t ha hb h => ?_) e hl hl' h
 rw [ba_assoc, ba_assoc] at h
 obtain ⟨e1, h⟩ := pre_int ha.1 hb.1 h
 obtain ⟨e2, h⟩ := pre_int ha.2 hb.2 h
 exact ⟨by cases a; cases b; simp only at e1 e2; rw [e1, e2], h⟩
theorem pre_strs {l l' : List ByteArray} {s t : ByteArray} (n : l.length < 9223372036854775808) (n' : l'.length < 9223372036854775808) (hl : ∀ p ∈ l, p.size < 9223372036854775808) (hl' : ∀ p ∈ l', p.size < 9223372036854775808) (h : bStrs l ++ s = bStrs l' ++ t) : l = l' ∧ s = t := by
 unfold bStrs at h
 rw [fold_bCat bText, fold_bCat bText, ba_assoc, ba_assoc] at h
 obtain ⟨e, h⟩ := pre_list n n' h
 exact pre_cat (D := fun p => p.size < 9223372036854775808) (fun a b s t ha hb h => pre_text ha hb h) e hl hl' h
theorem bPart_flat (p : Part) (s : ByteArray) : bPart p ++ s = bText p.id ++ (bInt p.rev ++ (bInt p.kind ++ (bText p.node ++ (bText p.grade ++ (bInt p.thick ++ (bPts p.outer ++ (bList p.holes.length ++ (bCat bPts p.holes ++ (bText p.sect ++ (bInt p.long ++ (bInt p.mass ++ (bInt p.centre.x ++ (bInt p.centre.y ++ (bInt p.centre.z ++ (bInt p.at_.x ++ (bInt p.at_.y ++ (bInt p.at_.z ++ (bInt p.turn ++ s)))))))))))))))))) := by
 have e1 : bInts [p.rev, p.kind] = ⟨#[]⟩ ++ bInt p.rev ++ bInt p.kind := rfl
 have e2 : bInts [p.thick] = ⟨#[]⟩ ++ bInt p.thick := rfl
 have e3 : bInts (bRear p) = ⟨#[]⟩ ++ bInt p.long ++ bInt p.mass ++ bInt p.centre.x ++ bInt p.centre.y ++ bInt p.centre.z ++ bInt p.at_.x ++ bInt p.at_.y ++ bInt p.at_.z ++ bInt p.turn := rfl
 unfold bPart bHoles bFront
 rw [List.take_length, fold_bCat bPts, e1, e2, e3]
 simp only [ba_assoc, ba_nil]
structure SizP (p : Part) : Prop where
 id : p.id.size < 9223372036854775808
 node : p.node.size < 9223372036854775808
 grade : p.grade.size < 9223372036854775808
 sect : p.sect.size < 9223372036854775808
 outer : p.outer.length < 9223372036854775808
 holes : p.holes.length < 9223372036854775808
 all : ∀ h ∈ p.holes, h.length < 9223372036854775808
theorem pre_part {p q : Part} {s t : ByteArray} (ip : InPart p) (iq : InPart q) (zp : SizP p) (zq : SizP q) (h : bPart p ++ s = bPart q ++ t) : p = q ∧ s = t := by
 rw [bPart_flat, bPart_flat] at h
 obtain ⟨e1, h⟩ := pre_text zp.id zq.id h
 obtain ⟨e2, h⟩ := pre_int ip.rev iq.rev h
 obtain ⟨e3, h⟩ := pre_int ip.kind iq.kind h
 obtain ⟨e4, h⟩ := pre_text zp.node zq.node h
 obtain ⟨e5, h⟩ := pre_text zp.grade zq.grade h
 obtain ⟨e6, h⟩ := pre_int ip.thick iq.thick h
 obtain ⟨e7, h⟩ := pre_pts zp.outer zq.outer ip.outer iq.outer h
 obtain ⟨e8, h⟩ := pre_list zp.holes zq.holes h
 obtain ⟨e9, h⟩ := pre_cat (D := fun l : List Pt => l.length < 9223372036854775808 ∧ ∀ x ∈ l, InPt x) (fun a b s t ha hb h => pre_pts ha.1 hb.1 ha.2 hb.2 h) e8 (fun l hl => ⟨zp.all l hl, ip.holes l hl⟩) (fun l hl => ⟨zq.all l hl, iq.holes l hl⟩) h
 obtain ⟨f1, h⟩ := pre_text zp.sect zq.sect h
 obtain ⟨f2, h⟩ := pre_int ip.long iq.long h
 obtain ⟨f3, h⟩ := pre_int ip.mass iq.mass h
 obtain ⟨f4, h⟩ := pre_int ip.centre.1 iq.centre.1 h
 obtain ⟨f5, h⟩ := pre_int ip.centre.2.1 iq.centre.2.1 h
 obtain ⟨f6, h⟩ := pre_int ip.centre.2.2 iq.centre.2.2 h
 obtain ⟨f7, h⟩ := pre_int ip.at_.1 iq.at_.1 h
 obtain ⟨f8, h⟩ := pre_int ip.at_.2.1 iq.at_.2.1 h
 obtain ⟨f9, h⟩ := pre_int ip.at_.2.2 iq.at_.2.2 h
 obtain ⟨g1, h⟩ := pre_int ip.turn iq.turn h
 exact ⟨Part.ext' e1 e2 e3 e4 e5 e6 e7 e9 f1 f2 f3 (Vec3.ext' f4 f5 f6) (Vec3.ext' f7 f8 f9) g1, h⟩
structure SizE (x : Edit) : Prop where
 id : x.id.size < 9223372036854775808
 to : x.to.size < 9223372036854775808
 n1 : x.node.id.size < 9223372036854775808
 n2 : x.node.parent.size < 9223372036854775808
 part : SizP x.part
 s1 : x.seam.id.size < 9223372036854775808
 s2 : x.seam.a.size < 9223372036854775808
 s3 : x.seam.b.size < 9223372036854775808
 p1 : x.pack.id.size < 9223372036854775808
 p2 : x.pack.block.size < 9223372036854775808
 p3 : x.pack.parts.length < 9223372036854775808
 p4 : ∀ s ∈ x.pack.parts, s.size < 9223372036854775808
 p5 : x.pack.after.length < 9223372036854775808
 p6 : ∀ s ∈ x.pack.after, s.size < 9223372036854775808
 e1 : x.need.block.size < 9223372036854775808
 e2 : x.need.on.size < 9223372036854775808
theorem pre_edit {x y : Edit} {s t : ByteArray} (ix : InEdit x) (iy : InEdit y) (zx : SizE x) (zy : SizE y) (h : bEdit x ++ s = bEdit y ++ t) : x = y ∧ s = t := by
 unfold bEdit bNode bSeam bPack at h
 simp only [ba_assoc] at h
 obtain ⟨e1, h⟩ := pre_int ix.kind iy.kind h
 obtain ⟨e2, h⟩ := pre_text zx.id zy.id h
 obtain ⟨e3, h⟩ := pre_text zx.to zy.to h
 obtain ⟨n1, h⟩ := pre_text zx.n1 zy.n1 h
 obtain ⟨n2, h⟩ := pre_int ix.node iy.node h
 obtain ⟨n3, h⟩ := pre_text zx.n2 zy.n2 h
 obtain ⟨q, h⟩ := pre_part ix.part iy.part zx.part zy.part h
 obtain ⟨s1, h⟩ := pre_text zx.s1 zy.s1 h
 obtain ⟨s2, h⟩ := pre_text zx.s2 zy.s2 h
 obtain ⟨s3, h⟩ := pre_text zx.s3 zy.s3 h
 obtain ⟨s4, h⟩ := pre_int ix.seam iy.seam h
 obtain ⟨s5, h⟩ := pre_int ix.long iy.long h
 obtain ⟨s6, h⟩ := pre_int ix.cls iy.cls h
 obtain ⟨p1, h⟩ := pre_text zx.p1 zy.p1 h
 obtain ⟨p2, h⟩ := pre_text zx.p2 zy.p2 h
 obtain ⟨p3, h⟩ := pre_strs zx.p3 zy.p3 zx.p4 zy.p4 h
 obtain ⟨p4, h⟩ := pre_int ix.hours iy.hours h
 obtain ⟨p5, h⟩ := pre_strs zx.p5 zy.p5 zx.p6 zy.p6 h
 obtain ⟨m1, h⟩ := pre_int ix.need iy.need h
 obtain ⟨m2, h⟩ := pre_text zx.e1 zy.e1 h
 obtain ⟨m3, h⟩ := pre_text zx.e2 zy.e2 h
 exact ⟨Edit.ext' e1 e2 e3 (Node3.ext' n1 n2 n3) q (Seam6.ext' s1 s2 s3 s4 s5 s6) (Pack5.ext' p1 p2 p3 p4 p5) (Need3.ext' m1 m2 m3), h⟩
theorem FewEd.siz {x : Edit} (h : FewEd x) : SizE x := by
 have hv := h.vol
 unfold volE volP at hv
 have h1 := h.parts
 have h2 := h.after
 have h3 := h.outer
 have h4 := h.holes
 exact ⟨by omega, by omega, by omega, by omega, ⟨by omega, by omega, by omega, by omega, by omega, by omega, fun l hl => by have := h.all l hl; omega⟩, by omega, by omega, by omega, by omega, by omega, by omega, fun s hs => by have := volL_mem hs; omega, by omega, fun s hs => by have := volL_mem hs; omega, by omega, by omega⟩
theorem order_inj {a b : Order2} (ia : InOrder a) (ib : InOrder b) (fa : FewO a) (fb : FewO b) : bOrder a = bOrder b ↔ a = b := by
 refine ⟨fun h => ?_, fun h => by rw [h]⟩
 have h' : bOrder a ++ ⟨#[]⟩ = bOrder b ++ ⟨#[]⟩ := by rw [h]
 unfold bOrder bEdits at h'
 rw [List.take_length, List.take_length, fold_bCat bEdit, fold_bCat bEdit] at h'
 simp only [ba_assoc] at h'
 have va := fa.vol
 have vb := fb.vol
 unfold volO at va vb
 have la := fa.len
 have lb := fb.len
 obtain ⟨e1, h'⟩ := pre_text (by omega) (by omega) h'
 obtain ⟨e2, h'⟩ := pre_list (by omega) (by omega) h'
 obtain ⟨e3, _⟩ := pre_cat (D := fun x : Edit => InEdit x ∧ SizE x) (fun a b s t ha hb h => pre_edit ha.1 hb.1 ha.2 hb.2 h) e2 (fun x hx => ⟨ia.all x hx, (fa.edit hx).siz⟩) (fun x hx => ⟨ib.all x hx, (fb.edit hx).siz⟩) h'
 exact Order2.ext' e1 e3
theorem eq_down {α : Type} {l m : List α} (hlen : l.length = m.length) {G : Nat → Prop} (hend : l = m → G l.length) (h : ∀ (k : Nat) (h1 : k < l.length) (h2 : k < m.length), (l[k] = m[k] → G (k + 1)) → (l[k] ≠ m[k] → l ≠ m) → G k) : G 0 := by
 refine down (n := l.length) (p := fun k => (∀ i : Nat, i < k → l[i]? = m[i]?) → G k) (fun hall => hend (list_same hlen hall)) (fun k h1 ih hall => ?_) (fun i hi => by omega)
 exact h k h1 (by omega) (fun e => ih (same_next h1 (by omega) hall e)) (fun e => ne_at h1 (by omega) e)
theorem Spot.eq_iff {p q : Spot} : p = q ↔ p.part = q.part ∧ p.at_.x = q.at_.x ∧ p.at_.y = q.at_.y ∧ p.turn = q.turn ∧ p.flip = q.flip :=
 ⟨fun e => by subst e; exact ⟨rfl, rfl, rfl, rfl, rfl⟩, fun ⟨a, b, c, d, e⟩ => Spot.ext' a (Pt.ext' b c) d e⟩
theorem Hook4.eq_iff {p q : Hook4} : p = q ↔ p.crane = q.crane ∧ p.at_.x = q.at_.x ∧ p.at_.y = q.at_.y ∧ p.radius = q.radius :=
 ⟨fun e => by subst e; exact ⟨rfl, rfl, rfl, rfl⟩, fun ⟨a, b, c, d⟩ => Hook4.ext' a (Pt.ext' b c) d⟩
theorem cell_spot {l : List Spot} {i : Nat} (h : i < l.length) (j : Nat) : cellAt (encL l) i j = ((spotC l[i])[j]?).getD undef := cellAt_encL' h
theorem cell_hook {l : List Hook4} {i : Nat} (h : i < l.length) (j : Nat) : cellAt (encL l) i j = ((hook4C l[i])[j]?).getD undef := cellAt_encL' h
theorem cell_name {l : List ByteArray} {i : Nat} (h : i < l.length) (j : Nat) : cellAt (encL l) i j = (([Value.string l[i]])[j]?).getD undef := cellAt_encL' h
def c_eqSpots (args : List Value) (Post : Value → Prop) : Prop := ∃ l m : List Spot, args = [tree 5 l.length (encL l), tree 5 m.length (encL m)] ∧ Short l ∧ Post (.bool (decide (l = m)))
def c_eqHooks (args : List Value) (Post : Value → Prop) : Prop := ∃ l m : List Hook4, args = [tree 4 l.length (encL l), tree 4 m.length (encL m)] ∧ Short l ∧ Post (.bool (decide (l = m)))
def c_eqNames (args : List Value) (Post : Value → Prop) : Prop := ∃ l m : List ByteArray, args = [tree 1 l.length (encL l), tree 1 m.length (encL m)] ∧ Short l ∧ Post (.bool (decide (l = m)))
theorem e_eqSpots (l m : List Spot) (H : HT) (Post : PV) : vcP Tryz.prog noCall 66 [(4, [0, 1, 12, 13])] [tree 5 l.length (encL l), tree 5 m.length (encL m)] H Post = (T4 (T2 (pIf (!decide ((↑l.length : Int) = (↑m.length : Int))) (T2 (Post (vb false))) (T4 (True ∧ H (lpC Tryz.prog 66 4) (lpK Tryz.prog 66 4) (stV [(0, some (tree 5 l.length (encL l))), (1, some (tree 5 m.length (encL m))), (12, some (vi (↑l.length : Int))), (13, some (vi 0))] [] 0)))))) := by kernel_rfl
theorem l_eqSpots (l m : List Spot) (k : Int) (H : HT) (Post : PV) : vcLP Tryz.prog noCall 66 [tree 5 l.length (encL l), tree 5 m.length (encL m)] [(4, [0, 1, 12, 13])] 4 (stV [(0, some (tree 5 l.length (encL l))), (1, some (tree 5 m.length (encL m))), (12, some (.int .i64 l.length)), (13, some (.int .i64 k))] [] 0) H Post = (True ∧ pIf (decide (k < (↑l.length : Int))) (T4 ((0 ≤ k ∧ k < (↑l.length : Int)) ∧ (cellAt (encL l) (Int.toNat k) 0 = vs (toS (cellAt (encL l) (Int.toNat k) 0)) ∧ cellAt (encL l) (Int.toNat k) 1 = vi (toI (cellAt (encL l) (Int.toNat k) 1)) ∧ cellAt (encL l) (Int.toNat k) 2 = vi (toI (cellAt (encL l) (Int.toNat k) 2)) ∧ cellAt (encL l) (Int.toNat k) 3 = vi (toI (cellAt (encL l) (Int.toNat k) 3)) ∧ cellAt (encL l) (Int.toNat k) 4 = vb (toB (cellAt (encL l) (Int.toNat k) 4)) ∧ True) ∧ T2 ((0 ≤ k ∧ k < (↑m.length : Int)) ∧ (cellAt (encL m) (Int.toNat k) 0 = vs (toS (cellAt (encL m) (Int.toNat k) 0)) ∧ cellAt (encL m) (Int.toNat k) 1 = vi (toI (cellAt (encL m) (Int.toNat k) 1)) ∧ cellAt (encL m) (Int.toNat k) 2 = vi (toI (cellAt (encL m) (Int.toNat k) 2)) ∧ cellAt (encL m) (Int.toNat k) 3 = vi (toI (cellAt (encL m) (Int.toNat k) 3)) ∧ cellAt (encL m) (Int.toNat k) 4 = vb (toB (cellAt (encL m) (Int.toNat k) 4)) ∧ True) ∧ True ∧ pIf (!(decide (toS (cellAt (encL l) (Int.toNat k) 0) = toS (cellAt (encL m) (Int.toNat k) 0)) && (decide (toI (cellAt (encL l) (Int.toNat k) 1) = toI (cellAt (encL m) (Int.toNat k) 1)) && (decide (toI (cellAt (encL l) (Int.toNat k) 2) = toI (cellAt (encL m) (Int.toNat k) 2)) && true) && (decide (toI (cellAt (encL l) (Int.toNat k) 3) = toI (cellAt (encL m) (Int.toNat k) 3)) && (toB (cellAt (encL l) (Int.toNat k) 4) == toB (cellAt (encL m) (Int.toNat k) 4) && true))))) (T2 (Post (vb false))) (T4 (H (lpC Tryz.prog 66 4) (lpK Tryz.prog 66 4) (stV [(0, some (tree 5 l.length (encL l))), (1, some (tree 5 m.length (encL m))), (12, some (vi (↑l.length : Int))), (13, some (vi (IntKind.wrap IntKind.i64 (k + 1))))] [] 0)))))) (T2 (Post (vb true)))) := by kernel_rfl
theorem ok_eqSpots : EntOk Tryz.prog ⟨66, c_eqSpots⟩ := by
 rintro args Post ⟨l, m, rfl, hs, h⟩
 have hs : l.length < 2 ^ 62 := hs
 refine pure_P (vc := noCall) noCall_ok mixed (by kernel_rfl) (by kernel_rfl) _ (e_eqSpots l m _ _) ?_
 simp only [true_and, pIf_iff, Bool.not_eq_true', decide_eq_false_iff_not, Bool.not_eq_false', decide_eq_true_eq]
 refine ⟨fun hne => of_b h (decide_eq_false fun e => hne (by rw [e])), fun heq => ?_⟩
 have heq : l.length = m.length := by omega
 refine eq_down heq (G := fun k => OkP 66 [tree 5 l.length (encL l), tree 5 m.length (encL m)] 4 Post (stV [(0, some (tree 5 l.length (encL l))), (1, some (tree 5 m.length (encL m))), (12, some (.int .i64 l.length)), (13, some (.int .i64 k))] [] 0)) (fun e => ?_) (fun k h1 h2 ih ne => ?_)
 ·refine ok_P (vc := noCall) noCall_ok mixed _ (l_eqSpots l m _ _ _) ?_
  simp only [true_and, pIf_iff, decide_eq_true_eq, decide_eq_false_iff_not]
  exact ⟨fun hlt => by omega, fun _ => of_b h (decide_eq_true e)⟩
 ·refine ok_P (vc := noCall) noCall_ok mixed _ (l_eqSpots l m _ _ _) ?_
  simp only [true_and, and_true, pIf_iff, decide_eq_true_eq, decide_eq_false_iff_not, Int.toNat_natCast, cell_spot h1, cell_spot h2, spotC, List.getElem?_cons_succ, List.getElem?_cons_zero, Option.getD_some, toI, toS, toB]
  refine ⟨fun _ => ⟨by omega, by omega, fun hne => of_b h (decide_eq_false (ne fun e => ?_)), fun he => ?_⟩, fun h' => by omega⟩
  ·rw [e] at hne; simp at hne
  ·rw [wrapSucc (by omega)]; exact ih (Spot.eq_iff.2 (by simpa [and_assoc] using he))
theorem e_eqNames (l m : List ByteArray) (H : HT) (Post : PV) : vcP Tryz.prog noCall 67 [(4, [0, 1, 12, 13])] [tree 1 l.length (encL l), tree 1 m.length (encL m)] H Post = (T4 (T2 (pIf (!decide ((↑l.length : Int) = (↑m.length : Int))) (T2 (Post (vb false))) (T4 (True ∧ H (lpC Tryz.prog 67 4) (lpK Tryz.prog 67 4) (stV [(0, some (tree 1 l.length (encL l))), (1, some (tree 1 m.length (encL m))), (12, some (vi (↑l.length : Int))), (13, some (vi 0))] [] 0)))))) := by kernel_rfl
theorem l_eqNames (l m : List ByteArray) (k : Int) (H : HT) (Post : PV) : vcLP Tryz.prog noCall 67 [tree 1 l.length (encL l), tree 1 m.length (encL m)] [(4, [0, 1, 12, 13])] 4 (stV [(0, some (tree 1 l.length (encL l))), (1, some (tree 1 m.length (encL m))), (12, some (.int .i64 l.length)), (13, some (.int .i64 k))] [] 0) H Post = (True ∧ pIf (decide (k < (↑l.length : Int))) (T4 ((0 ≤ k ∧ k < (↑l.length : Int)) ∧ cellAt (encL l) (Int.toNat k) 0 = vs (toS (cellAt (encL l) (Int.toNat k) 0)) ∧ T2 ((0 ≤ k ∧ k < (↑m.length : Int)) ∧ cellAt (encL m) (Int.toNat k) 0 = vs (toS (cellAt (encL m) (Int.toNat k) 0)) ∧ True ∧ pIf (!decide (toS (cellAt (encL l) (Int.toNat k) 0) = toS (cellAt (encL m) (Int.toNat k) 0))) (T2 (Post (vb false))) (T4 (H (lpC Tryz.prog 67 4) (lpK Tryz.prog 67 4) (stV [(0, some (tree 1 l.length (encL l))), (1, some (tree 1 m.length (encL m))), (12, some (vi (↑l.length : Int))), (13, some (vi (IntKind.wrap IntKind.i64 (k + 1))))] [] 0)))))) (T2 (Post (vb true)))) := by kernel_rfl
theorem ok_eqNames : EntOk Tryz.prog ⟨67, c_eqNames⟩ := by
 rintro args Post ⟨l, m, rfl, hs, h⟩
 have hs : l.length < 2 ^ 62 := hs
 refine pure_P (vc := noCall) noCall_ok mixed (by kernel_rfl) (by kernel_rfl) _ (e_eqNames l m _ _) ?_
 simp only [true_and, pIf_iff, Bool.not_eq_true', decide_eq_false_iff_not, Bool.not_eq_false', decide_eq_true_eq]
 refine ⟨fun hne => of_b h (decide_eq_false fun e => hne (by rw [e])), fun heq => ?_⟩
 have heq : l.length = m.length := by omega
 refine eq_down heq (G := fun k => OkP 67 [tree 1 l.length (encL l), tree 1 m.length (encL m)] 4 Post (stV [(0, some (tree 1 l.length (encL l))), (1, some (tree 1 m.length (encL m))), (12, some (.int .i64 l.length)), (13, some (.int .i64 k))] [] 0)) (fun e => ?_) (fun k h1 h2 ih ne => ?_)
 ·refine ok_P (vc := noCall) noCall_ok mixed _ (l_eqNames l m _ _ _) ?_
  simp only [true_and, pIf_iff, decide_eq_true_eq, decide_eq_false_iff_not]
  exact ⟨fun hlt => by omega, fun _ => of_b h (decide_eq_true e)⟩
 ·refine ok_P (vc := noCall) noCall_ok mixed _ (l_eqNames l m _ _ _) ?_
  simp only [true_and, and_true, pIf_iff, decide_eq_true_eq, decide_eq_false_iff_not, Int.toNat_natCast, cell_name h1, cell_name h2, List.getElem?_cons_succ, List.getElem?_cons_zero, Option.getD_some, toI, toS, toB]
  refine ⟨fun _ => ⟨by omega, by omega, fun hne => of_b h (decide_eq_false (ne fun e => ?_)), fun he => ?_⟩, fun h' => by omega⟩
  ·rw [e] at hne; simp at hne
  ·rw [wrapSucc (by omega)]; exact ih ((by simpa using he))
theorem e_eqHooks (l m : List Hook4) (H : HT) (Post : PV) : vcP Tryz.prog noCall 68 [(4, [0, 1, 12, 13])] [tree 4 l.length (encL l), tree 4 m.length (encL m)] H Post = (T4 (T2 (pIf (!decide ((↑l.length : Int) = (↑m.length : Int))) (T2 (Post (vb false))) (T4 (True ∧ H (lpC Tryz.prog 68 4) (lpK Tryz.prog 68 4) (stV [(0, some (tree 4 l.length (encL l))), (1, some (tree 4 m.length (encL m))), (12, some (vi (↑l.length : Int))), (13, some (vi 0))] [] 0)))))) := by kernel_rfl
theorem l_eqHooks (l m : List Hook4) (k : Int) (H : HT) (Post : PV) : vcLP Tryz.prog noCall 68 [tree 4 l.length (encL l), tree 4 m.length (encL m)] [(4, [0, 1, 12, 13])] 4 (stV [(0, some (tree 4 l.length (encL l))), (1, some (tree 4 m.length (encL m))), (12, some (.int .i64 l.length)), (13, some (.int .i64 k))] [] 0) H Post = (True ∧ pIf (decide (k < (↑l.length : Int))) (T4 ((0 ≤ k ∧ k < (↑l.length : Int)) ∧ (cellAt (encL l) (Int.toNat k) 0 = vs (toS (cellAt (encL l) (Int.toNat k) 0)) ∧ cellAt (encL l) (Int.toNat k) 1 = vi (toI (cellAt (encL l) (Int.toNat k) 1)) ∧ cellAt (encL l) (Int.toNat k) 2 = vi (toI (cellAt (encL l) (Int.toNat k) 2)) ∧ cellAt (encL l) (Int.toNat k) 3 = vi (toI (cellAt (encL l) (Int.toNat k) 3)) ∧ True) ∧ T2 ((0 ≤ k ∧ k < (↑m.length : Int)) ∧ (cellAt (encL m) (Int.toNat k) 0 = vs (toS (cellAt (encL m) (Int.toNat k) 0)) ∧ cellAt (encL m) (Int.toNat k) 1 = vi (toI (cellAt (encL m) (Int.toNat k) 1)) ∧ cellAt (encL m) (Int.toNat k) 2 = vi (toI (cellAt (encL m) (Int.toNat k) 2)) ∧ cellAt (encL m) (Int.toNat k) 3 = vi (toI (cellAt (encL m) (Int.toNat k) 3)) ∧ True) ∧ True ∧ pIf (!(decide (toS (cellAt (encL l) (Int.toNat k) 0) = toS (cellAt (encL m) (Int.toNat k) 0)) && (decide (toI (cellAt (encL l) (Int.toNat k) 1) = toI (cellAt (encL m) (Int.toNat k) 1)) && (decide (toI (cellAt (encL l) (Int.toNat k) 2) = toI (cellAt (encL m) (Int.toNat k) 2)) && true) && (decide (toI (cellAt (encL l) (Int.toNat k) 3) = toI (cellAt (encL m) (Int.toNat k) 3)) && true)))) (T2 (Post (vb false))) (T4 (H (lpC Tryz.prog 68 4) (lpK Tryz.prog 68 4) (stV [(0, some (tree 4 l.length (encL l))), (1, some (tree 4 m.length (encL m))), (12, some (vi (↑l.length : Int))), (13, some (vi (IntKind.wrap IntKind.i64 (k + 1))))] [] 0)))))) (T2 (Post (vb true)))) := by kernel_rfl
theorem ok_eqHooks : EntOk Tryz.prog ⟨68, c_eqHooks⟩ := by
 rintro args Post ⟨l, m, rfl, hs, h⟩
 have hs : l.length < 2 ^ 62 := hs
 refine pure_P (vc := noCall) noCall_ok mixed (by kernel_rfl) (by kernel_rfl) _ (e_eqHooks l m _ _) ?_
 simp only [true_and, pIf_iff, Bool.not_eq_true', decide_eq_false_iff_not, Bool.not_eq_false', decide_eq_true_eq]
 refine ⟨fun hne => of_b h (decide_eq_false fun e => hne (by rw [e])), fun heq => ?_⟩
 have heq : l.length = m.length := by omega
 refine eq_down heq (G := fun k => OkP 68 [tree 4 l.length (encL l), tree 4 m.length (encL m)] 4 Post (stV [(0, some (tree 4 l.length (encL l))), (1, some (tree 4 m.length (encL m))), (12, some (.int .i64 l.length)), (13, some (.int .i64 k))] [] 0)) (fun e => ?_) (fun k h1 h2 ih ne => ?_)
 ·refine ok_P (vc := noCall) noCall_ok mixed _ (l_eqHooks l m _ _ _) ?_
  simp only [true_and, pIf_iff, decide_eq_true_eq, decide_eq_false_iff_not]
  exact ⟨fun hlt => by omega, fun _ => of_b h (decide_eq_true e)⟩
 ·refine ok_P (vc := noCall) noCall_ok mixed _ (l_eqHooks l m _ _ _) ?_
  simp only [true_and, and_true, pIf_iff, decide_eq_true_eq, decide_eq_false_iff_not, Int.toNat_natCast, cell_hook h1, cell_hook h2, hook4C, List.getElem?_cons_succ, List.getElem?_cons_zero, Option.getD_some, toI, toS, toB]
  refine ⟨fun _ => ⟨by omega, by omega, fun hne => of_b h (decide_eq_false (ne fun e => ?_)), fun he => ?_⟩, fun h' => by omega⟩
  ·rw [e] at hne; simp at hne
  ·rw [wrapSucc (by omega)]; exact ih (Hook4.eq_iff.2 (by simpa [and_assoc] using he))
theorem e_sameStrings (l m : List ByteArray) (H : HT) (Post : PV) : vcP Tryz.prog noCall 40 [(4, [0, 1, 5])] [tree 1 l.length (encL l), tree 1 m.length (encL m)] H Post = (T4 (T2 (pIf (!decide ((↑l.length : Int) = (↑m.length : Int))) (T2 (Post (vb false))) (T2 (True ∧ H (lpC Tryz.prog 40 4) (lpK Tryz.prog 40 4) (stV [(0, some (tree 1 l.length (encL l))), (1, some (tree 1 m.length (encL m))), (5, some (vi 0))] [] 0)))))) := by kernel_rfl
theorem l_sameStrings (l m : List ByteArray) (k : Int) (H : HT) (Post : PV) : vcLP Tryz.prog noCall 40 [tree 1 l.length (encL l), tree 1 m.length (encL m)] [(4, [0, 1, 5])] 4 (stV [(0, some (tree 1 l.length (encL l))), (1, some (tree 1 m.length (encL m))), (5, some (.int .i64 k))] [] 0) H Post = (T4 (pIf (decide (k < (↑l.length : Int))) (T2 ((0 ≤ k ∧ k < (↑l.length : Int)) ∧ cellAt (encL l) (Int.toNat k) 0 = vs (toS (cellAt (encL l) (Int.toNat k) 0)) ∧ T2 ((0 ≤ k ∧ k < (↑m.length : Int)) ∧ cellAt (encL m) (Int.toNat k) 0 = vs (toS (cellAt (encL m) (Int.toNat k) 0)) ∧ True ∧ pIf (!decide (toS (cellAt (encL l) (Int.toNat k) 0) = toS (cellAt (encL m) (Int.toNat k) 0))) (T2 (Post (vb false))) (T4 (True ∧ H (lpC Tryz.prog 40 4) (lpK Tryz.prog 40 4) (stV [(0, some (tree 1 l.length (encL l))), (1, some (tree 1 m.length (encL m))), (5, some (vi (IntKind.wrap IntKind.i64 (k + 1))))] [] 0)))))) (T2 (Post (vb true))))) := by kernel_rfl
theorem ok_sameStrings : EntOk Tryz.prog ⟨40, c_eqNames⟩ := by
 rintro args Post ⟨l, m, rfl, hs, h⟩
 have hs : l.length < 2 ^ 62 := hs
 refine pure_P (vc := noCall) noCall_ok mixed (by kernel_rfl) (by kernel_rfl) _ (e_sameStrings l m _ _) ?_
 simp only [true_and, pIf_iff, Bool.not_eq_true', decide_eq_false_iff_not, Bool.not_eq_false', decide_eq_true_eq]
 refine ⟨fun hne => of_b h (decide_eq_false fun e => hne (by rw [e])), fun heq => ?_⟩
 have heq : l.length = m.length := by omega
 refine eq_down heq (G := fun k => OkP 40 [tree 1 l.length (encL l), tree 1 m.length (encL m)] 4 Post (stV [(0, some (tree 1 l.length (encL l))), (1, some (tree 1 m.length (encL m))), (5, some (.int .i64 k))] [] 0)) (fun e => ?_) (fun k h1 h2 ih ne => ?_)
 ·refine ok_P (vc := noCall) noCall_ok mixed _ (l_sameStrings l m _ _ _) ?_
  simp only [true_and, pIf_iff, decide_eq_true_eq, decide_eq_false_iff_not]
  exact ⟨fun hlt => by omega, fun _ => of_b h (decide_eq_true e)⟩
 ·refine ok_P (vc := noCall) noCall_ok mixed _ (l_sameStrings l m _ _ _) ?_
  simp only [true_and, and_true, pIf_iff, decide_eq_true_eq, decide_eq_false_iff_not, Int.toNat_natCast, cell_name h1, cell_name h2, List.getElem?_cons_succ, List.getElem?_cons_zero, Option.getD_some, toI, toS, toB]
  refine ⟨fun _ => ⟨by omega, by omega, fun hne => of_b h (decide_eq_false (ne fun e => ?_)), fun he => ?_⟩, fun h' => by omega⟩
  ·rw [e] at hne; simp at hne
  ·rw [wrapSucc (by omega)]; exact ih ((by simpa using he))
theorem e_sameHooks (l m : List Hook4) (H : HT) (Post : PV) : vcP Tryz.prog noCall 42 [(4, [0, 1, 5])] [tree 4 l.length (encL l), tree 4 m.length (encL m)] H Post = (T4 (T2 (pIf (!decide ((↑l.length : Int) = (↑m.length : Int))) (T2 (Post (vb false))) (T2 (True ∧ H (lpC Tryz.prog 42 4) (lpK Tryz.prog 42 4) (stV [(0, some (tree 4 l.length (encL l))), (1, some (tree 4 m.length (encL m))), (5, some (vi 0))] [] 0)))))) := by kernel_rfl
theorem l_sameHooks (l m : List Hook4) (k : Int) (H : HT) (Post : PV) : vcLP Tryz.prog noCall 42 [tree 4 l.length (encL l), tree 4 m.length (encL m)] [(4, [0, 1, 5])] 4 (stV [(0, some (tree 4 l.length (encL l))), (1, some (tree 4 m.length (encL m))), (5, some (.int .i64 k))] [] 0) H Post = (T4 (pIf (decide (k < (↑l.length : Int))) (T2 ((0 ≤ k ∧ k < (↑l.length : Int)) ∧ (cellAt (encL l) (Int.toNat k) 0 = vs (toS (cellAt (encL l) (Int.toNat k) 0)) ∧ cellAt (encL l) (Int.toNat k) 1 = vi (toI (cellAt (encL l) (Int.toNat k) 1)) ∧ cellAt (encL l) (Int.toNat k) 2 = vi (toI (cellAt (encL l) (Int.toNat k) 2)) ∧ cellAt (encL l) (Int.toNat k) 3 = vi (toI (cellAt (encL l) (Int.toNat k) 3)) ∧ True) ∧ T2 ((0 ≤ k ∧ k < (↑m.length : Int)) ∧ (cellAt (encL m) (Int.toNat k) 0 = vs (toS (cellAt (encL m) (Int.toNat k) 0)) ∧ cellAt (encL m) (Int.toNat k) 1 = vi (toI (cellAt (encL m) (Int.toNat k) 1)) ∧ cellAt (encL m) (Int.toNat k) 2 = vi (toI (cellAt (encL m) (Int.toNat k) 2)) ∧ cellAt (encL m) (Int.toNat k) 3 = vi (toI (cellAt (encL m) (Int.toNat k) 3)) ∧ True) ∧ True ∧ pIf (!(decide (toS (cellAt (encL l) (Int.toNat k) 0) = toS (cellAt (encL m) (Int.toNat k) 0)) && (decide (toI (cellAt (encL l) (Int.toNat k) 1) = toI (cellAt (encL m) (Int.toNat k) 1)) && (decide (toI (cellAt (encL l) (Int.toNat k) 2) = toI (cellAt (encL m) (Int.toNat k) 2)) && true) && (decide (toI (cellAt (encL l) (Int.toNat k) 3) = toI (cellAt (encL m) (Int.toNat k) 3)) && true)))) (T2 (Post (vb false))) (T4 (True ∧ H (lpC Tryz.prog 42 4) (lpK Tryz.prog 42 4) (stV [(0, some (tree 4 l.length (encL l))), (1, some (tree 4 m.length (encL m))), (5, some (vi (IntKind.wrap IntKind.i64 (k + 1))))] [] 0)))))) (T2 (Post (vb true))))) := by kernel_rfl
theorem ok_sameHooks : EntOk Tryz.prog ⟨42, c_eqHooks⟩ := by
 rintro args Post ⟨l, m, rfl, hs, h⟩
 have hs : l.length < 2 ^ 62 := hs
 refine pure_P (vc := noCall) noCall_ok mixed (by kernel_rfl) (by kernel_rfl) _ (e_sameHooks l m _ _) ?_
 simp only [true_and, pIf_iff, Bool.not_eq_true', decide_eq_false_iff_not, Bool.not_eq_false', decide_eq_true_eq]
 refine ⟨fun hne => of_b h (decide_eq_false fun e => hne (by rw [e])), fun heq => ?_⟩
 have heq : l.length = m.length := by omega
 refine eq_down heq (G := fun k => OkP 42 [tree 4 l.length (encL l), tree 4 m.length (encL m)] 4 Post (stV [(0, some (tree 4 l.length (encL l))), (1, some (tree 4 m.length (encL m))), (5, some (.int .i64 k))] [] 0)) (fun e => ?_) (fun k h1 h2 ih ne => ?_)
 ·refine ok_P (vc := noCall) noCall_ok mixed _ (l_sameHooks l m _ _ _) ?_
  simp only [true_and, pIf_iff, decide_eq_true_eq, decide_eq_false_iff_not]
  exact ⟨fun hlt => by omega, fun _ => of_b h (decide_eq_true e)⟩
 ·refine ok_P (vc := noCall) noCall_ok mixed _ (l_sameHooks l m _ _ _) ?_
  simp only [true_and, and_true, pIf_iff, decide_eq_true_eq, decide_eq_false_iff_not, Int.toNat_natCast, cell_hook h1, cell_hook h2, hook4C, List.getElem?_cons_succ, List.getElem?_cons_zero, Option.getD_some, toI, toS, toB]
  refine ⟨fun _ => ⟨by omega, by omega, fun hne => of_b h (decide_eq_false (ne fun e => ?_)), fun he => ?_⟩, fun h' => by omega⟩
  ·rw [e] at hne; simp at hne
  ·rw [wrapSucc (by omega)]; exact ih (Hook4.eq_iff.2 (by simpa [and_assoc] using he))
def tabQ : List Ent := [⟨92, c_Same⟩, ⟨40, c_eqNames⟩, ⟨42, c_eqHooks⟩]
theorem tabQ_ok : ∀ e ∈ tabQ, EntOk Tryz.prog e := by
 intro e he
 simp only [tabQ, List.mem_cons, List.not_mem_nil, or_false] at he
 rcases he with rfl | rfl | rfl
 ·exact ok_Same16
 ·exact ok_sameStrings
 ·exact ok_sameHooks
def callSE : VCall := inlCall Tryz.prog [82, 83] (tabCall tabQ noCall) 3
theorem callSE_ok : VCallOk Tryz.prog callSE := inlCall_ok mixed (tabCall_ok tabQ_ok noCall_ok) 3
theorem e_sameEdit (p q : Edit) (H : HT) (Post : PV) : vcP Tryz.prog callSE 65 [] [editV p, editV q] H Post = (let q1 := True ∧ Post (vb false); T8 (pIf (decide (p.kind = q.kind)) (T4 (T2 (pIf (decide (p.id = q.id)) (T4 (T2 (True ∧ pIf (decide (p.to = q.to)) (T4 (T2 (True ∧ pIf (decide (p.node.id = q.node.id) && (decide (p.node.kind = q.node.kind) && (decide (p.node.parent = q.node.parent) && true))) (T8 (T2 (True ∧ ∃ (p_1 : Part), ∃ (q_1 : Part), eqL [Value.agg #[vs p.part.id, vi p.part.rev, vi p.part.kind, vs p.part.node, vs p.part.grade, vi p.part.thick, tree 2 p.part.outer.length (encL p.part.outer), tree 1 p.part.holes.length (encL p.part.holes), vs p.part.sect, vi p.part.long, vi p.part.mass, vi p.part.centre.x, vi p.part.centre.y, vi p.part.centre.z, vi p.part.at_.x, vi p.part.at_.y, vi p.part.at_.z, vi p.part.turn], Value.agg #[vs q.part.id, vi q.part.rev, vi q.part.kind, vs q.part.node, vs q.part.grade, vi q.part.thick, tree 2 q.part.outer.length (encL q.part.outer), tree 1 q.part.holes.length (encL q.part.holes), vs q.part.sect, vi q.part.long, vi q.part.mass, vi q.part.centre.x, vi q.part.centre.y, vi q.part.centre.z, vi q.part.at_.x, vi q.part.at_.y, vi q.part.at_.z, vi q.part.turn]] [partV p_1, partV q_1] ∧ ShortP p_1 ∧ pIf (decide (p_1 = q_1)) (T8 (pIf (decide (p.seam.id = q.seam.id) && (decide (p.seam.a = q.seam.a) && (decide (p.seam.b = q.seam.b) && (decide (p.seam.kind = q.seam.kind) && (decide (p.seam.long = q.seam.long) && (decide (p.seam.cls = q.seam.cls) && true)))))) (T8 (T4 (T2 (pIf (decide (p.pack.id = q.pack.id)) (T4 (T2 (pIf (decide (p.pack.block = q.pack.block)) (T4 (T2 (True ∧ pIf (decide (p.pack.hours = q.pack.hours)) (T4 (T2 (∃ (l : List ByteArray), ∃ (m : List ByteArray), eqL [tree 1 p.pack.parts.length (encL p.pack.parts), tree 1 q.pack.parts.length (encL q.pack.parts)] [tree 1 l.length (encL l), tree 1 m.length (encL m)] ∧ Short l ∧ pIf (decide (l = m)) (T4 (T2 (∃ (l : List ByteArray), ∃ (m : List ByteArray), eqL [tree 1 p.pack.after.length (encL p.pack.after), tree 1 q.pack.after.length (encL q.pack.after)] [tree 1 l.length (encL l), tree 1 m.length (encL m)] ∧ Short l ∧ pIf (decide (l = m)) (T8 (True ∧ pIf (decide (p.need.kind = q.need.kind) && (decide (p.need.block = q.need.block) && (decide (p.need.on = q.need.on) && true))) (T2 (True ∧ Post (vb true))) (T2 q1))) (T4 (T2 q1))))) (T8 q1)))) (T8 (T2 q1))))) (T8 (T4 q1))))) (T8 (T4 (T2 (Post (vb false))))))))) (T4 (T2 q1)))) (T8 (T2 (Post (vb false))))))) (T8 (T2 q1))))) (T8 (T4 q1))))) (T8 (T4 (T2 q1)))))) (T16 (Post (vb false))))) := by kernel_rfl
structure ShortE (x : Edit) : Prop where
 part : ShortP x.part
 parts : Short x.pack.parts
 after : Short x.pack.after
def c_SameEdit (args : List Value) (Post : Value → Prop) : Prop := ∃ p q : Edit, args = [editV p, editV q] ∧ ShortE p ∧ Post (.bool (decide (p = q)))
theorem ok_sameEdit : EntOk Tryz.prog ⟨65, c_SameEdit⟩ := by
 rintro args Post ⟨p, q, rfl, hs, h⟩
 refine pure_P (vc := callSE) callSE_ok mixed (by kernel_rfl) (by kernel_rfl) _ (e_sameEdit p q _ _) ?_
 simp only [true_and, and_true]
 have s1 := hs.part
 have s2 := hs.parts
 have s3 := hs.after
 repeat (first
  | refine pIf_intro (fun hh => ?_) (fun hh => of_b h (decide_eq_false fun e => by subst e; simp at hh))
  | refine ⟨_, _, rfl, by assumption, ?_⟩)
 refine of_b h (decide_eq_true ?_)
 clear h hs s1 s2 s3
 simp only [Bool.and_eq_true, decide_eq_true_eq, and_true] at *
 refine Edit.ext' ?_ ?_ ?_ (Node3.ext' ?_ ?_ ?_) ?_ (Seam6.ext' ?_ ?_ ?_ ?_ ?_ ?_) (Pack5.ext' ?_ ?_ ?_ ?_ ?_) (Need3.ext' ?_ ?_ ?_) <;> simp_all
def callSO : VCall := tabCall [⟨65, c_SameEdit⟩] noCall
theorem callSO_ok : VCallOk Tryz.prog callSO := tabCall_ok (by
 intro e he
 simp only [List.mem_cons, List.not_mem_nil, or_false] at he
 subst he
 exact ok_sameEdit) noCall_ok
theorem e_sameOrder (a b : Order2) (H : HT) (Post : PV) : vcP Tryz.prog callSO 38 [(4, [2, 3, 5])] [order2V a, order2V b] H Post = (T8 (pIf (!decide (a.id = b.id)) (T4 (Post (vb false))) (T8 (pIf (!decide ((↑a.edits.length : Int) = (↑b.edits.length : Int))) (T2 (True ∧ Post (vb false))) (T2 (True ∧ (T2 (True)) ∧ H (lpC Tryz.prog 38 4) (lpK Tryz.prog 38 4) (stV [(2, some (pt 0)), (3, some (pt 1)), (5, some (vi 0))] [(0, some (AObj.cells [vs a.id, tree 38 a.edits.length (encL a.edits)] true)), (1, some (AObj.cells [vs b.id, tree 38 b.edits.length (encL b.edits)] true))] 2))))))) := by kernel_rfl
theorem l_sameOrder (a b : Order2) (k : Int) (H : HT) (Post : PV) : vcLP Tryz.prog callSO 38 [order2V a, order2V b] [(4, [2, 3, 5])] 4 (stV [(2, some (.pointer (some ⟨0, 0, none⟩))), (3, some (.pointer (some ⟨1, 0, none⟩))), (5, some (.int .i64 k))] [(0, some (.cells (order2C a) true)), (1, some (.cells (order2C b) true))] 2) H Post = (let q8 := cellAt (encL b.edits) (Int.toNat k) 34; let q7 := cellAt (encL b.edits) (Int.toNat k) 32; let q6 := cellAt (encL b.edits) (Int.toNat k) 13; let q5 := cellAt (encL b.edits) (Int.toNat k) 12; let q4 := cellAt (encL a.edits) (Int.toNat k) 34; let q3 := cellAt (encL a.edits) (Int.toNat k) 32; let q2 := cellAt (encL a.edits) (Int.toNat k) 13; let q1 := cellAt (encL a.edits) (Int.toNat k) 12; T4 (True ∧ pIf (decide (k < (↑a.edits.length : Int))) (T2 (True ∧ (0 ≤ k ∧ k < (↑a.edits.length : Int)) ∧ (cellAt (encL a.edits) (Int.toNat k) 0 = vi (toI (cellAt (encL a.edits) (Int.toNat k) 0)) ∧ cellAt (encL a.edits) (Int.toNat k) 1 = vs (toS (cellAt (encL a.edits) (Int.toNat k) 1)) ∧ cellAt (encL a.edits) (Int.toNat k) 2 = vs (toS (cellAt (encL a.edits) (Int.toNat k) 2)) ∧ cellAt (encL a.edits) (Int.toNat k) 3 = vs (toS (cellAt (encL a.edits) (Int.toNat k) 3)) ∧ cellAt (encL a.edits) (Int.toNat k) 4 = vi (toI (cellAt (encL a.edits) (Int.toNat k) 4)) ∧ cellAt (encL a.edits) (Int.toNat k) 5 = vs (toS (cellAt (encL a.edits) (Int.toNat k) 5)) ∧ cellAt (encL a.edits) (Int.toNat k) 6 = vs (toS (cellAt (encL a.edits) (Int.toNat k) 6)) ∧ cellAt (encL a.edits) (Int.toNat k) 7 = vi (toI (cellAt (encL a.edits) (Int.toNat k) 7)) ∧ cellAt (encL a.edits) (Int.toNat k) 8 = vi (toI (cellAt (encL a.edits) (Int.toNat k) 8)) ∧ cellAt (encL a.edits) (Int.toNat k) 9 = vs (toS (cellAt (encL a.edits) (Int.toNat k) 9)) ∧ cellAt (encL a.edits) (Int.toNat k) 10 = vs (toS (cellAt (encL a.edits) (Int.toNat k) 10)) ∧ cellAt (encL a.edits) (Int.toNat k) 11 = vi (toI (cellAt (encL a.edits) (Int.toNat k) 11)) ∧ cellAt (encL a.edits) (Int.toNat k) 12 = tree 2 (toN q1) (toE q1) ∧ cellAt (encL a.edits) (Int.toNat k) 13 = tree 1 (toN q2) (toE q2) ∧ cellAt (encL a.edits) (Int.toNat k) 14 = vs (toS (cellAt (encL a.edits) (Int.toNat k) 14)) ∧ cellAt (encL a.edits) (Int.toNat k) 15 = vi (toI (cellAt (encL a.edits) (Int.toNat k) 15)) ∧ cellAt (encL a.edits) (Int.toNat k) 16 = vi (toI (cellAt (encL a.edits) (Int.toNat k) 16)) ∧ cellAt (encL a.edits) (Int.toNat k) 17 = vi (toI (cellAt (encL a.edits) (Int.toNat k) 17)) ∧ cellAt (encL a.edits) (Int.toNat k) 18 = vi (toI (cellAt (encL a.edits) (Int.toNat k) 18)) ∧ cellAt (encL a.edits) (Int.toNat k) 19 = vi (toI (cellAt (encL a.edits) (Int.toNat k) 19)) ∧ cellAt (encL a.edits) (Int.toNat k) 20 = vi (toI (cellAt (encL a.edits) (Int.toNat k) 20)) ∧ cellAt (encL a.edits) (Int.toNat k) 21 = vi (toI (cellAt (encL a.edits) (Int.toNat k) 21)) ∧ cellAt (encL a.edits) (Int.toNat k) 22 = vi (toI (cellAt (encL a.edits) (Int.toNat k) 22)) ∧ cellAt (encL a.edits) (Int.toNat k) 23 = vi (toI (cellAt (encL a.edits) (Int.toNat k) 23)) ∧ cellAt (encL a.edits) (Int.toNat k) 24 = vs (toS (cellAt (encL a.edits) (Int.toNat k) 24)) ∧ cellAt (encL a.edits) (Int.toNat k) 25 = vs (toS (cellAt (encL a.edits) (Int.toNat k) 25)) ∧ cellAt (encL a.edits) (Int.toNat k) 26 = vs (toS (cellAt (encL a.edits) (Int.toNat k) 26)) ∧ cellAt (encL a.edits) (Int.toNat k) 27 = vi (toI (cellAt (encL a.edits) (Int.toNat k) 27)) ∧ cellAt (encL a.edits) (Int.toNat k) 28 = vi (toI (cellAt (encL a.edits) (Int.toNat k) 28)) ∧ cellAt (encL a.edits) (Int.toNat k) 29 = vi (toI (cellAt (encL a.edits) (Int.toNat k) 29)) ∧ cellAt (encL a.edits) (Int.toNat k) 30 = vs (toS (cellAt (encL a.edits) (Int.toNat k) 30)) ∧ cellAt (encL a.edits) (Int.toNat k) 31 = vs (toS (cellAt (encL a.edits) (Int.toNat k) 31)) ∧ cellAt (encL a.edits) (Int.toNat k) 32 = tree 1 (toN q3) (toE q3) ∧ cellAt (encL a.edits) (Int.toNat k) 33 = vi (toI (cellAt (encL a.edits) (Int.toNat k) 33)) ∧ cellAt (encL a.edits) (Int.toNat k) 34 = tree 1 (toN q4) (toE q4) ∧ cellAt (encL a.edits) (Int.toNat k) 35 = vi (toI (cellAt (encL a.edits) (Int.toNat k) 35)) ∧ cellAt (encL a.edits) (Int.toNat k) 36 = vs (toS (cellAt (encL a.edits) (Int.toNat k) 36)) ∧ cellAt (encL a.edits) (Int.toNat k) 37 = vs (toS (cellAt (encL a.edits) (Int.toNat k) 37)) ∧ True) ∧ T2 (True ∧ (0 ≤ k ∧ k < (↑b.edits.length : Int)) ∧ (cellAt (encL b.edits) (Int.toNat k) 0 = vi (toI (cellAt (encL b.edits) (Int.toNat k) 0)) ∧ cellAt (encL b.edits) (Int.toNat k) 1 = vs (toS (cellAt (encL b.edits) (Int.toNat k) 1)) ∧ cellAt (encL b.edits) (Int.toNat k) 2 = vs (toS (cellAt (encL b.edits) (Int.toNat k) 2)) ∧ cellAt (encL b.edits) (Int.toNat k) 3 = vs (toS (cellAt (encL b.edits) (Int.toNat k) 3)) ∧ cellAt (encL b.edits) (Int.toNat k) 4 = vi (toI (cellAt (encL b.edits) (Int.toNat k) 4)) ∧ cellAt (encL b.edits) (Int.toNat k) 5 = vs (toS (cellAt (encL b.edits) (Int.toNat k) 5)) ∧ cellAt (encL b.edits) (Int.toNat k) 6 = vs (toS (cellAt (encL b.edits) (Int.toNat k) 6)) ∧ cellAt (encL b.edits) (Int.toNat k) 7 = vi (toI (cellAt (encL b.edits) (Int.toNat k) 7)) ∧ cellAt (encL b.edits) (Int.toNat k) 8 = vi (toI (cellAt (encL b.edits) (Int.toNat k) 8)) ∧ cellAt (encL b.edits) (Int.toNat k) 9 = vs (toS (cellAt (encL b.edits) (Int.toNat k) 9)) ∧ cellAt (encL b.edits) (Int.toNat k) 10 = vs (toS (cellAt (encL b.edits) (Int.toNat k) 10)) ∧ cellAt (encL b.edits) (Int.toNat k) 11 = vi (toI (cellAt (encL b.edits) (Int.toNat k) 11)) ∧ cellAt (encL b.edits) (Int.toNat k) 12 = tree 2 (toN q5) (toE q5) ∧ cellAt (encL b.edits) (Int.toNat k) 13 = tree 1 (toN q6) (toE q6) ∧ cellAt (encL b.edits) (Int.toNat k) 14 = vs (toS (cellAt (encL b.edits) (Int.toNat k) 14)) ∧ cellAt (encL b.edits) (Int.toNat k) 15 = vi (toI (cellAt (encL b.edits) (Int.toNat k) 15)) ∧ cellAt (encL b.edits) (Int.toNat k) 16 = vi (toI (cellAt (encL b.edits) (Int.toNat k) 16)) ∧ cellAt (encL b.edits) (Int.toNat k) 17 = vi (toI (cellAt (encL b.edits) (Int.toNat k) 17)) ∧ cellAt (encL b.edits) (Int.toNat k) 18 = vi (toI (cellAt (encL b.edits) (Int.toNat k) 18)) ∧ cellAt (encL b.edits) (Int.toNat k) 19 = vi (toI (cellAt (encL b.edits) (Int.toNat k) 19)) ∧ cellAt (encL b.edits) (Int.toNat k) 20 = vi (toI (cellAt (encL b.edits) (Int.toNat k) 20)) ∧ cellAt (encL b.edits) (Int.toNat k) 21 = vi (toI (cellAt (encL b.edits) (Int.toNat k) 21)) ∧ cellAt (encL b.edits) (Int.toNat k) 22 = vi (toI (cellAt (encL b.edits) (Int.toNat k) 22)) ∧ cellAt (encL b.edits) (Int.toNat k) 23 = vi (toI (cellAt (encL b.edits) (Int.toNat k) 23)) ∧ cellAt (encL b.edits) (Int.toNat k) 24 = vs (toS (cellAt (encL b.edits) (Int.toNat k) 24)) ∧ cellAt (encL b.edits) (Int.toNat k) 25 = vs (toS (cellAt (encL b.edits) (Int.toNat k) 25)) ∧ cellAt (encL b.edits) (Int.toNat k) 26 = vs (toS (cellAt (encL b.edits) (Int.toNat k) 26)) ∧ cellAt (encL b.edits) (Int.toNat k) 27 = vi (toI (cellAt (encL b.edits) (Int.toNat k) 27)) ∧ cellAt (encL b.edits) (Int.toNat k) 28 = vi (toI (cellAt (encL b.edits) (Int.toNat k) 28)) ∧ cellAt (encL b.edits) (Int.toNat k) 29 = vi (toI (cellAt (encL b.edits) (Int.toNat k) 29)) ∧ cellAt (encL b.edits) (Int.toNat k) 30 = vs (toS (cellAt (encL b.edits) (Int.toNat k) 30)) ∧ cellAt (encL b.edits) (Int.toNat k) 31 = vs (toS (cellAt (encL b.edits) (Int.toNat k) 31)) ∧ cellAt (encL b.edits) (Int.toNat k) 32 = tree 1 (toN q7) (toE q7) ∧ cellAt (encL b.edits) (Int.toNat k) 33 = vi (toI (cellAt (encL b.edits) (Int.toNat k) 33)) ∧ cellAt (encL b.edits) (Int.toNat k) 34 = tree 1 (toN q8) (toE q8) ∧ cellAt (encL b.edits) (Int.toNat k) 35 = vi (toI (cellAt (encL b.edits) (Int.toNat k) 35)) ∧ cellAt (encL b.edits) (Int.toNat k) 36 = vs (toS (cellAt (encL b.edits) (Int.toNat k) 36)) ∧ cellAt (encL b.edits) (Int.toNat k) 37 = vs (toS (cellAt (encL b.edits) (Int.toNat k) 37)) ∧ True) ∧ ∃ (p : Edit), ∃ (q : Edit), eqL [Value.agg #[vi (toI (cellAt (encL a.edits) (Int.toNat k) 0)), vs (toS (cellAt (encL a.edits) (Int.toNat k) 1)), vs (toS (cellAt (encL a.edits) (Int.toNat k) 2)), vs (toS (cellAt (encL a.edits) (Int.toNat k) 3)), vi (toI (cellAt (encL a.edits) (Int.toNat k) 4)), vs (toS (cellAt (encL a.edits) (Int.toNat k) 5)), vs (toS (cellAt (encL a.edits) (Int.toNat k) 6)), vi (toI (cellAt (encL a.edits) (Int.toNat k) 7)), vi (toI (cellAt (encL a.edits) (Int.toNat k) 8)), vs (toS (cellAt (encL a.edits) (Int.toNat k) 9)), vs (toS (cellAt (encL a.edits) (Int.toNat k) 10)), vi (toI (cellAt (encL a.edits) (Int.toNat k) 11)), tree 2 (toN q1) (toE q1), tree 1 (toN q2) (toE q2), vs (toS (cellAt (encL a.edits) (Int.toNat k) 14)), vi (toI (cellAt (encL a.edits) (Int.toNat k) 15)), vi (toI (cellAt (encL a.edits) (Int.toNat k) 16)), vi (toI (cellAt (encL a.edits) (Int.toNat k) 17)), vi (toI (cellAt (encL a.edits) (Int.toNat k) 18)), vi (toI (cellAt (encL a.edits) (Int.toNat k) 19)), vi (toI (cellAt (encL a.edits) (Int.toNat k) 20)), vi (toI (cellAt (encL a.edits) (Int.toNat k) 21)), vi (toI (cellAt (encL a.edits) (Int.toNat k) 22)), vi (toI (cellAt (encL a.edits) (Int.toNat k) 23)), vs (toS (cellAt (encL a.edits) (Int.toNat k) 24)), vs (toS (cellAt (encL a.edits) (Int.toNat k) 25)), vs (toS (cellAt (encL a.edits) (Int.toNat k) 26)), vi (toI (cellAt (encL a.edits) (Int.toNat k) 27)), vi (toI (cellAt (encL a.edits) (Int.toNat k) 28)), vi (toI (cellAt (encL a.edits) (Int.toNat k) 29)), vs (toS (cellAt (encL a.edits) (Int.toNat k) 30)), vs (toS (cellAt (encL a.edits) (Int.toNat k) 31)), tree 1 (toN q3) (toE q3), vi (toI (cellAt (encL a.edits) (Int.toNat k) 33)), tree 1 (toN q4) (toE q4), vi (toI (cellAt (encL a.edits) (Int.toNat k) 35)), vs (toS (cellAt (encL a.edits) (Int.toNat k) 36)), vs (toS (cellAt (encL a.edits) (Int.toNat k) 37))], Value.agg #[vi (toI (cellAt (encL b.edits) (Int.toNat k) 0)), vs (toS (cellAt (encL b.edits) (Int.toNat k) 1)), vs (toS (cellAt (encL b.edits) (Int.toNat k) 2)), vs (toS (cellAt (encL b.edits) (Int.toNat k) 3)), vi (toI (cellAt (encL b.edits) (Int.toNat k) 4)), vs (toS (cellAt (encL b.edits) (Int.toNat k) 5)), vs (toS (cellAt (encL b.edits) (Int.toNat k) 6)), vi (toI (cellAt (encL b.edits) (Int.toNat k) 7)), vi (toI (cellAt (encL b.edits) (Int.toNat k) 8)), vs (toS (cellAt (encL b.edits) (Int.toNat k) 9)), vs (toS (cellAt (encL b.edits) (Int.toNat k) 10)), vi (toI (cellAt (encL b.edits) (Int.toNat k) 11)), tree 2 (toN q5) (toE q5), tree 1 (toN q6) (toE q6), vs (toS (cellAt (encL b.edits) (Int.toNat k) 14)), vi (toI (cellAt (encL b.edits) (Int.toNat k) 15)), vi (toI (cellAt (encL b.edits) (Int.toNat k) 16)), vi (toI (cellAt (encL b.edits) (Int.toNat k) 17)), vi (toI (cellAt (encL b.edits) (Int.toNat k) 18)), vi (toI (cellAt (encL b.edits) (Int.toNat k) 19)), vi (toI (cellAt (encL b.edits) (Int.toNat k) 20)), vi (toI (cellAt (encL b.edits) (Int.toNat k) 21)), vi (toI (cellAt (encL b.edits) (Int.toNat k) 22)), vi (toI (cellAt (encL b.edits) (Int.toNat k) 23)), vs (toS (cellAt (encL b.edits) (Int.toNat k) 24)), vs (toS (cellAt (encL b.edits) (Int.toNat k) 25)), vs (toS (cellAt (encL b.edits) (Int.toNat k) 26)), vi (toI (cellAt (encL b.edits) (Int.toNat k) 27)), vi (toI (cellAt (encL b.edits) (Int.toNat k) 28)), vi (toI (cellAt (encL b.edits) (Int.toNat k) 29)), vs (toS (cellAt (encL b.edits) (Int.toNat k) 30)), vs (toS (cellAt (encL b.edits) (Int.toNat k) 31)), tree 1 (toN q7) (toE q7), vi (toI (cellAt (encL b.edits) (Int.toNat k) 33)), tree 1 (toN q8) (toE q8), vi (toI (cellAt (encL b.edits) (Int.toNat k) 35)), vs (toS (cellAt (encL b.edits) (Int.toNat k) 36)), vs (toS (cellAt (encL b.edits) (Int.toNat k) 37))]] [editV p, editV q] ∧ ShortE p ∧ pIf (decide (p = q)) (T4 (T2 ((T2 (True)) ∧ H (lpC Tryz.prog 38 4) (lpK Tryz.prog 38 4) (stV [(2, some (pt 0)), (3, some (pt 1)), (5, some (vi (IntKind.wrap IntKind.i64 (k + 1))))] [(0, some (AObj.cells [vs a.id, tree 38 a.edits.length (encL a.edits)] true)), (1, some (AObj.cells [vs b.id, tree 38 b.edits.length (encL b.edits)] true))] 2)))) (T4 (Post (vb false)))))) (T2 (Post (vb true))))) := by kernel_rfl
theorem e_sameNest (a b : Nest3) (H : HT) (Post : PV) : vcP Tryz.prog noCall 39 [(4, [2, 3, 5])] [nest3V a, nest3V b] H Post = (T8 (pIf (!decide (a.sheet = b.sheet)) (T4 (T2 (Post (vb false)))) (T4 (T2 (pIf (!decide (a.gap = b.gap)) (T4 (True ∧ Post (vb false))) (T8 (True ∧ pIf (!decide ((↑a.spots.length : Int) = (↑b.spots.length : Int))) (T2 (True ∧ Post (vb false))) (T2 (True ∧ (T2 (True)) ∧ H (lpC Tryz.prog 39 4) (lpK Tryz.prog 39 4) (stV [(2, some (pt 0)), (3, some (pt 1)), (5, some (vi 0))] [(0, some (AObj.cells [vs a.sheet, vi a.gap, tree 5 a.spots.length (encL a.spots)] true)), (1, some (AObj.cells [vs b.sheet, vi b.gap, tree 5 b.spots.length (encL b.spots)] true))] 2)))))))))) := by kernel_rfl
theorem l_sameNest (a b : Nest3) (k : Int) (H : HT) (Post : PV) : vcLP Tryz.prog noCall 39 [nest3V a, nest3V b] [(4, [2, 3, 5])] 4 (stV [(2, some (.pointer (some ⟨0, 0, none⟩))), (3, some (.pointer (some ⟨1, 0, none⟩))), (5, some (.int .i64 k))] [(0, some (.cells (nest3C a) true)), (1, some (.cells (nest3C b) true))] 2) H Post = (T4 (True ∧ pIf (decide (k < (↑a.spots.length : Int))) (T2 (True ∧ (0 ≤ k ∧ k < (↑a.spots.length : Int)) ∧ (cellAt (encL a.spots) (Int.toNat k) 0 = vs (toS (cellAt (encL a.spots) (Int.toNat k) 0)) ∧ cellAt (encL a.spots) (Int.toNat k) 1 = vi (toI (cellAt (encL a.spots) (Int.toNat k) 1)) ∧ cellAt (encL a.spots) (Int.toNat k) 2 = vi (toI (cellAt (encL a.spots) (Int.toNat k) 2)) ∧ cellAt (encL a.spots) (Int.toNat k) 3 = vi (toI (cellAt (encL a.spots) (Int.toNat k) 3)) ∧ cellAt (encL a.spots) (Int.toNat k) 4 = vb (toB (cellAt (encL a.spots) (Int.toNat k) 4)) ∧ True) ∧ T2 (True ∧ (0 ≤ k ∧ k < (↑b.spots.length : Int)) ∧ (cellAt (encL b.spots) (Int.toNat k) 0 = vs (toS (cellAt (encL b.spots) (Int.toNat k) 0)) ∧ cellAt (encL b.spots) (Int.toNat k) 1 = vi (toI (cellAt (encL b.spots) (Int.toNat k) 1)) ∧ cellAt (encL b.spots) (Int.toNat k) 2 = vi (toI (cellAt (encL b.spots) (Int.toNat k) 2)) ∧ cellAt (encL b.spots) (Int.toNat k) 3 = vi (toI (cellAt (encL b.spots) (Int.toNat k) 3)) ∧ cellAt (encL b.spots) (Int.toNat k) 4 = vb (toB (cellAt (encL b.spots) (Int.toNat k) 4)) ∧ True) ∧ True ∧ pIf (!(decide (toS (cellAt (encL a.spots) (Int.toNat k) 0) = toS (cellAt (encL b.spots) (Int.toNat k) 0)) && (decide (toI (cellAt (encL a.spots) (Int.toNat k) 1) = toI (cellAt (encL b.spots) (Int.toNat k) 1)) && (decide (toI (cellAt (encL a.spots) (Int.toNat k) 2) = toI (cellAt (encL b.spots) (Int.toNat k) 2)) && true) && (decide (toI (cellAt (encL a.spots) (Int.toNat k) 3) = toI (cellAt (encL b.spots) (Int.toNat k) 3)) && (toB (cellAt (encL a.spots) (Int.toNat k) 4) == toB (cellAt (encL b.spots) (Int.toNat k) 4) && true))))) (T2 (Post (vb false))) (T4 ((T2 (True)) ∧ H (lpC Tryz.prog 39 4) (lpK Tryz.prog 39 4) (stV [(2, some (pt 0)), (3, some (pt 1)), (5, some (vi (IntKind.wrap IntKind.i64 (k + 1))))] [(0, some (AObj.cells [vs a.sheet, vi a.gap, tree 5 a.spots.length (encL a.spots)] true)), (1, some (AObj.cells [vs b.sheet, vi b.gap, tree 5 b.spots.length (encL b.spots)] true))] 2)))))) (T2 (Post (vb true))))) := by kernel_rfl
structure ShortO (o : Order2) : Prop where
 len : o.edits.length < 2 ^ 62
 all : ∀ x ∈ o.edits, ShortE x
def c_SameO (args : List Value) (Post : Value → Prop) : Prop := ∃ a b : Order2, args = [order2V a, order2V b] ∧ ShortO a ∧ Post (.bool (decide (a = b)))
theorem ok_sameOrder : EntOk Tryz.prog ⟨38, c_SameO⟩ := by
 rintro args Post ⟨a, b, rfl, hs, h⟩
 have hl := hs.len
 refine pure_P (vc := callSO) callSO_ok mixed (by kernel_rfl) (by kernel_rfl) _ (e_sameOrder a b _ _) ?_
 simp only [true_and, and_true, pIf_iff, Bool.not_eq_true', decide_eq_false_iff_not, Bool.not_eq_false', decide_eq_true_eq]
 refine ⟨fun hne => of_b h (decide_eq_false fun e => hne (by rw [e])), fun hid => ⟨fun hne => of_b h (decide_eq_false fun e => hne (by rw [e])), fun heq => ?_⟩⟩
 have heq : a.edits.length = b.edits.length := by omega
 refine eq_down heq (G := fun k => OkP 38 [order2V a, order2V b] 4 Post (stV [(2, some (.pointer (some ⟨0, 0, none⟩))), (3, some (.pointer (some ⟨1, 0, none⟩))), (5, some (.int .i64 k))] [(0, some (.cells (order2C a) true)), (1, some (.cells (order2C b) true))] 2)) (fun e => ?_) (fun k h1 h2 ih ne => ?_)
 ·refine ok_P (vc := callSO) callSO_ok mixed _ (l_sameOrder a b _ _ _) ?_
  simp only [true_and, and_true, pIf_iff, decide_eq_true_eq, decide_eq_false_iff_not]
  exact ⟨fun hlt => by omega, fun _ => of_b h (decide_eq_true (Order2.ext' hid e))⟩
 ·refine ok_P (vc := callSO) callSO_ok mixed _ (l_sameOrder a b _ _ _) ?_
  simp only [true_and, and_true, pIf_iff, Bool.not_eq_true', decide_eq_true_eq, Bool.not_eq_false', decide_eq_false_iff_not, Int.toNat_natCast, cell_edit h1, cell_edit h2, editC, List.getElem?_cons_succ, List.getElem?_cons_zero, Option.getD_some, toI, toS, toB, toN_tree, toE_tree]
  refine ⟨fun _ => ⟨by omega, by omega, a.edits[k], b.edits[k], rfl, hs.all _ (List.getElem_mem h1), fun he => ?_, fun hne => of_b h (decide_eq_false fun e => ne hne (by rw [e]))⟩, fun h' => by omega⟩
  rw [wrapSucc (by omega)]
  exact ih he
def c_SameN (args : List Value) (Post : Value → Prop) : Prop := ∃ a b : Nest3, args = [nest3V a, nest3V b] ∧ Short a.spots ∧ Post (.bool (decide (a = b)))
theorem ok_sameNest : EntOk Tryz.prog ⟨39, c_SameN⟩ := by
 rintro args Post ⟨a, b, rfl, hs, h⟩
 have hl : a.spots.length < 2 ^ 62 := hs
 refine pure_P (vc := noCall) noCall_ok mixed (by kernel_rfl) (by kernel_rfl) _ (e_sameNest a b _ _) ?_
 simp only [true_and, and_true, pIf_iff, Bool.not_eq_true', decide_eq_false_iff_not, Bool.not_eq_false', decide_eq_true_eq]
 refine ⟨fun hne => of_b h (decide_eq_false fun e => hne (by rw [e])), fun hid => ⟨fun hne => of_b h (decide_eq_false fun e => hne (by rw [e])), fun hgap => ⟨fun hne => of_b h (decide_eq_false fun e => hne (by rw [e])), fun heq => ?_⟩⟩⟩
 have heq : a.spots.length = b.spots.length := by omega
 refine eq_down heq (G := fun k => OkP 39 [nest3V a, nest3V b] 4 Post (stV [(2, some (.pointer (some ⟨0, 0, none⟩))), (3, some (.pointer (some ⟨1, 0, none⟩))), (5, some (.int .i64 k))] [(0, some (.cells (nest3C a) true)), (1, some (.cells (nest3C b) true))] 2)) (fun e => ?_) (fun k h1 h2 ih ne => ?_)
 ·refine ok_P (vc := noCall) noCall_ok mixed _ (l_sameNest a b _ _ _) ?_
  simp only [true_and, and_true, pIf_iff, decide_eq_true_eq, decide_eq_false_iff_not]
  exact ⟨fun hlt => by omega, fun _ => of_b h (decide_eq_true (Nest3.ext' hid hgap e))⟩
 ·refine ok_P (vc := noCall) noCall_ok mixed _ (l_sameNest a b _ _ _) ?_
  simp only [true_and, and_true, pIf_iff, decide_eq_true_eq, decide_eq_false_iff_not, Int.toNat_natCast, cell_spot h1, cell_spot h2, spotC, List.getElem?_cons_succ, List.getElem?_cons_zero, Option.getD_some, toI, toS, toB]
  refine ⟨fun _ => ⟨by omega, by omega, fun hne => of_b h (decide_eq_false fun e => ne (fun e' => ?_) (by rw [e])), fun he => ?_⟩, fun h' => by omega⟩
  ·rw [e'] at hne; simp at hne
  ·rw [wrapSucc (by omega)]; exact ih (Spot.eq_iff.2 (by simpa [and_assoc] using he))
end Go.Proofs.YtegjnjmimfgijaaGreatDoor
