/-
  Arguments opened: what reads as data is related to a value without names. Conditions: as each theorem states them.
-/
import Derived.Test.YtegjnjmimfgijaaGreatDoorSk
import Derived.Test.YtegjnjmimfgijaaGreatDoorOpen
noncomputable section
namespace Go.Proofs.YtegjnjmimfgijaaGreatDoor
open Go Go.RowKit Go.ChangeShapes Go.WideShapes Go.ChangeAt Go.Deep Go.Joins

/-- All memory of a world, as it is for good. -/
def frW (w : World) : Nat → Option Obj := fun c => w.heap[c]?
def VRC (fr : Nat → Option Obj) (l cs : List Value) : Prop := l.length = cs.length ∧ ∀ (i : Nat) (v v' : Value), l[i]? = some v → cs[i]? = some v' → VR0 fr v v'
theorem VRC.one {fr : Nat → Option Obj} {v v' : Value} (h : VR0 fr v v') : VRC fr [v] [v'] := ⟨rfl, fun i a b ha hb => by
  cases i with
  | zero => simp at ha hb; subst ha hb; exact h
  | succ i => simp at ha⟩
theorem VRC.append {fr : Nat → Option Obj} {l m cs ds : List Value} (h : VRC fr l cs) (k : VRC fr m ds) : VRC fr (l ++ m) (cs ++ ds) := by
  refine ⟨by rw [List.length_append, List.length_append, h.1, k.1], fun i a b ha hb => ?_⟩
  rcases Nat.lt_or_ge i l.length with hi | hi
  · rw [List.getElem?_append_left hi] at ha
    rw [List.getElem?_append_left (by rw [← h.1]; exact hi)] at hb
    exact h.2 i a b ha hb
  · rw [List.getElem?_append_right hi] at ha
    rw [List.getElem?_append_right (by rw [← h.1]; exact hi), ← h.1] at hb
    exact k.2 _ a b ha hb
theorem VRC.step {fr : Nat → Option Obj} {l m cs : List Value} {o k : Nat} (h : VRC fr l ((cs.drop o).take k)) (r : VRC fr m (cs.drop (o + k))) : VRC fr (l ++ m) (cs.drop o) := by
  have := h.append r
  rwa [← List.drop_drop, List.take_append_drop] at this
theorem VRC.next {fr : Nat → Option Obj} {l m cs : List Value} {o k : Nat} (h : VRC fr l ((cs.drop o).take k)) (r : VRC fr m (cs.drop (o + l.length))) : VRC fr (l ++ m) (cs.drop o) := by
  have e : (cs.drop o).take k = (cs.drop o).take l.length := by
    have h1 := h.1
    rw [List.length_take] at h1
    rcases Nat.le_total k (cs.drop o).length with hk | hk
    · rw [show l.length = k by omega]
    · rw [List.take_of_length_le hk, List.take_of_length_le (by omega)]
  rw [e] at h
  exact h.step r
theorem VRC.done {fr : Nat → Option Obj} {cs : List Value} {n : Nat} (h : cs.length = n) : VRC fr [] (cs.drop n) := by
  rw [List.drop_eq_nil_of_le (by omega)]
  exact ⟨rfl, fun i a b ha => by simp at ha⟩
/-- What reads as data of a type is such an element. -/
def Opens (P : Program) (w : World) (t : TypeId) (α : Type) [Enc α] (Ok : α → Prop) : Prop :=
  ∀ (H : Type) (enc : TypeId × Value → H) (base : Nat) (spare : Nat → Bool) (held : Bool) (fuel : Nat) (cs : List Value) (x : DataW H × List MemPlace), DataW.trod enc P w base spare held fuel t cs = some x → ∃ a : α, Ok a ∧ VRC (frW w) (Enc.cells a) cs
def In64 (n : Int) : Prop := -9223372036854775808 ≤ n ∧ n < 9223372036854775808
section
variable {P : Program} {w : World}
theorem opens_int {t : TypeId} (ht : P.underlying t = some (.int .i64)) : Opens P w t Int In64 := fun H enc base spare held fuel cs x h => by
  obtain ⟨n, rfl, _, hw⟩ := DataW.trod_int ht h
  simp [Lit.wf, IntKind.min, IntKind.max, IntKind.signed, IntKind.bits] at hw
  exact ⟨n, ⟨by omega, by omega⟩, .one (.int _ _)⟩
theorem opens_string {t : TypeId} (ht : P.underlying t = some .string) : Opens P w t ByteArray fun s => s.size ≤ maxLen := fun H enc base spare held fuel cs x h => by
  obtain ⟨s, rfl, _, hs⟩ := DataW.trod_string ht h
  exact ⟨s, hs, .one (.string _)⟩
theorem opens_bool {t : TypeId} (ht : P.underlying t = some .bool) : Opens P w t Bool fun _ => True := fun H enc base spare held fuel cs x h => by
  obtain ⟨b, rfl, _⟩ := DataW.trod_bool ht h
  exact ⟨b, trivial, .one (.bool _)⟩
theorem cell_at {a : Addr} {i : Nat} {v : Value} (h : w.cell? (a.add i) = some v) : ∃ cs t fz, w.heap[a.block]? = some (.cells cs t fz) ∧ cs[a.off + i]? = some v ∧ (i = 0 → a.spot = none) := by
  unfold World.cell? at h
  have hb : (a.add i).block = a.block := by unfold Addr.add; split <;> rfl
  rw [hb] at h
  split at h
  · rename_i cs t fz hc
    refine ⟨cs, t, fz, hc, ?_, fun h0 => ?_⟩
    · split at h
      · cases h
      · have : (a.add i).off = a.off + i := by unfold Addr.add; split <;> simp_all
        rw [this] at h
        exact h
    · subst h0
      split at h
      · cases h
      · rename_i hs
        have : (a.add 0) = a := rfl
        rw [this] at hs
        cases hsp : a.spot with
        | none => rfl
        | some s => rw [hsp] at hs; simp at hs
  · cases h
theorem opens_slice {t e : TypeId} {α : Type} [Enc α] {Ok : α → Prop} (ht : P.underlying t = some (.slice e)) (he : Opens P w e α Ok) (hc : P.cellsOf e = Enc.sz α) (hz : 0 < Enc.sz α) :
    Opens P w t (List α) fun l => l.length ≤ maxLen ∧ ∀ a ∈ l, Ok a := fun H enc base spare held fuel cs x h => by
  rcases open_slice ht h with ⟨rfl, _⟩ | ⟨a, len, cap, m, n, D, Pl, rfl, _, hl, hm, hmm, _, hi⟩
  · exact ⟨[], ⟨Nat.zero_le _, fun a ha => by cases ha⟩, .one (.treeNil _ _ _)⟩
  rw [hc] at hi
  have hlm : len ≤ m := by rw [hmm]; split <;> omega
  have key : ∀ i, i < len → ∃ b : α, Ok b ∧ ∀ (j : Nat) (v : Value), (Enc.cells b)[j]? = some v → ∃ v', w.cell? ((a.add (i * Enc.sz α)).add j) = some v' ∧ VR0 (frW w) v v' := by
    intro i hil
    obtain ⟨cs', h1, h2⟩ := hi i (by omega)
    obtain ⟨_, h3, h4⟩ := World.cells?_some h1
    obtain ⟨b, hb, hv⟩ := he H enc _ _ _ _ _ _ h2
    refine ⟨b, hb, fun j v hj => ?_⟩
    have hjl : j < Enc.sz α := by
      rw [← Enc.len b]
      rcases Nat.lt_or_ge j (Enc.cells b).length with h' | h'
      · exact h'
      · rw [List.getElem?_eq_none h'] at hj; cases hj
    have hj' : cs'[j]? = some (cs'[j]'(by omega)) := List.getElem?_eq_getElem (by omega)
    exact ⟨_, (h4 j hjl).trans hj', hv.2 j v _ hj hj'⟩
  have build : ∀ k, k ≤ len → ∃ l : List α, l.length = k ∧ (∀ b ∈ l, Ok b) ∧ ∀ (i : Nat) (b : α), l[i]? = some b → ∀ (j : Nat) (v : Value), (Enc.cells b)[j]? = some v → ∃ v', w.cell? ((a.add (i * Enc.sz α)).add j) = some v' ∧ VR0 (frW w) v v' := by
    intro k
    induction k with
    | zero => exact fun _ => ⟨[], rfl, by simp, by simp⟩
    | succ k ih =>
      intro hk
      obtain ⟨l, e1, hin, hcl⟩ := ih (by omega)
      obtain ⟨b, hb, hbc⟩ := key k (by omega)
      refine ⟨l ++ [b], by simp [e1], fun x hx => ?_, fun i x hx => ?_⟩
      · rcases List.mem_append.1 hx with hx | hx
        · exact hin x hx
        · simp at hx; subst hx; exact hb
      · rcases Nat.lt_or_ge i k with hik | hik
        · rw [List.getElem?_append_left (by omega)] at hx
          exact hcl i x hx
        · rw [List.getElem?_append_right (by omega), e1] at hx
          have : i = k := by
            rcases Nat.lt_or_ge k i with h' | h'
            · rw [List.getElem?_eq_none (by simp; omega)] at hx; cases hx
            · omega
          subst this
          simp at hx
          subst hx
          exact hbc
  obtain ⟨l, hlen, hok, hcl⟩ := build len (Nat.le_refl _)
  refine ⟨l, ⟨by omega, hok⟩, .one ?_⟩
  rcases Nat.eq_zero_or_pos len with h0 | h0
  · subst h0
    have : l = [] := List.eq_nil_of_length_eq_zero hlen
    subst this
    exact .treeNil _ _ _
  have cell : ∀ (i j : Nat), i < len → j < Enc.sz α → ∃ v v', (∃ b, l[i]? = some b ∧ (Enc.cells b)[j]? = some v) ∧ w.cell? (a.add (i * Enc.sz α + j)) = some v' ∧ VR0 (frW w) v v' := fun i j hi hj => by
    have hb : l[i]? = some (l[i]'(by omega)) := List.getElem?_eq_getElem (by omega)
    have hv : (Enc.cells (l[i]'(by omega)))[j]? = some ((Enc.cells (l[i]'(by omega)))[j]'(by rw [Enc.len]; exact hj)) := List.getElem?_eq_getElem _
    obtain ⟨v', h1, h2⟩ := hcl i _ hb j _ hv
    rw [Go.Deep.add_add] at h1
    exact ⟨_, v', ⟨_, hb, hv⟩, h1, h2⟩
  obtain ⟨_, v0, _, hv0, _⟩ := cell 0 0 h0 hz
  obtain ⟨cs, ct, fz, hheap, _, hsp⟩ := cell_at hv0
  have hsp := hsp (by omega)
  have at_ : ∀ i j, i < len → j < Enc.sz α → ∃ v v', (∃ b, l[i]? = some b ∧ (Enc.cells b)[j]? = some v) ∧ cs[a.off + (i * Enc.sz α + j)]? = some v' ∧ VR0 (frW w) v v' := fun i j hi hj => by
    obtain ⟨v, v', h1, h2, h3⟩ := cell i j hi hj
    obtain ⟨cs', ct', fz', g1, g2, _⟩ := cell_at h2
    rw [hheap] at g1
    cases g1
    exact ⟨v, v', h1, g2, h3⟩
  obtain ⟨blk, off, spot⟩ := a
  simp only at hsp
  subst hsp
  have hsz : off + len * Enc.sz α ≤ cs.size := by
    obtain ⟨_, v', _, h2, _⟩ := at_ (len - 1) (Enc.sz α - 1) (by omega) (by omega)
    have hlt : off + ((len - 1) * Enc.sz α + (Enc.sz α - 1)) < cs.size := (Array.getElem?_eq_some_iff.1 h2).1
    have : len * Enc.sz α = (len - 1) * Enc.sz α + Enc.sz α := by
      obtain ⟨k, rfl⟩ : ∃ k, len = k + 1 := ⟨len - 1, by omega⟩
      rw [Nat.succ_mul]
      simp
    omega
  have hget : ∀ (i : Nat) (u : Value), (encL l)[i]? = some u → ∃ b, l[i]? = some b ∧ u = elt (Enc.cells b) := fun i u hu => by
    unfold encL at hu
    simp only [List.getElem?_toArray, List.getElem?_map, Option.map_eq_some_iff] at hu
    obtain ⟨b, h1, h2⟩ := hu
    exact ⟨b, h1, h2.symm⟩
  rw [hlen]
  refine VR0.tree (c := blk) (o := off) (cs := cs) (t := ct) (fz := fz) hheap (by simp [encL, hlen]) hl hsz (fun i u hu => ?_) (fun i j u v v' hu hv hv' => ?_)
  · obtain ⟨b, _, rfl⟩ := hget i u hu
    simp [elt_cells (Enc.nl b), Enc.len]
  · obtain ⟨b, hb, rfl⟩ := hget i u hu
    have hv2 : (Enc.cells b)[j]? = some v := by simpa [elt_cells (Enc.nl b)] using hv
    have hil : i < len := by
      rcases Nat.lt_or_ge i len with h' | h'
      · exact h'
      · rw [List.getElem?_eq_none (by omega)] at hb; cases hb
    have hjl : j < Enc.sz α := by
      rw [← Enc.len b]
      rcases Nat.lt_or_ge j (Enc.cells b).length with h' | h'
      · exact h'
      · rw [List.getElem?_eq_none h'] at hv2; cases hv2
    obtain ⟨v1, v1', ⟨b1, e1, e2⟩, e3, e4⟩ := at_ i j hil hjl
    rw [hb] at e1
    cases e1
    rw [hv2] at e2
    cases e2
    rw [show off + i * Enc.sz α + j = off + (i * Enc.sz α + j) by omega] at hv'
    have : v1' = v' := by
      have e3' : cs[off + (i * Enc.sz α + j)]? = some v1' := e3
      rw [hv'] at e3'
      cases e3'
      rfl
    subst this
    exact e4
theorem field_open {t : TypeId} {α : Type} [Enc α] {Ok : α → Prop} (ho : Opens P w t α Ok) {H : Type} {enc : TypeId × Value → H} {base : Nat} {spare : Nat → Bool} {held : Bool} {fuel : Nat} {cs : List Value} {xs : List (DataW H × List MemPlace)} {i : Nat}
    (h : DataW.trod enc P w base spare held fuel t cs = xs[i]?) (hi : i < xs.length) : ∃ a : α, Ok a ∧ VRC (frW w) (Enc.cells a) cs :=
  ho H enc _ _ _ _ _ _ (h.trans (List.getElem?_eq_getElem hi))
/-- An argument, opened. -/
theorem open_arg {t : TypeId} {α : Type} [Enc α] {Ok : α → Prop} (ho : Opens P w t α Ok) {H : Type} {enc : TypeId × Value → H} {base : Nat} {spare : Nat → Bool} {held : Bool} {v : Value} {d : DataW H} {p : List MemPlace} (h : DataW.Trod enc P w base spare held t v d p) :
    ∃ a : α, Ok a ∧ VRC (frW w) (Enc.cells a) v.cells.toList := by
  obtain ⟨fuel, hf⟩ := h
  exact ho H enc _ _ _ _ _ _ hf
theorem VRC.agg {l : List Value} {c : Array Value} (h : VRC (frW w) l c.toList) : VR0 (frW w) (.agg l.toArray) (.agg c) :=
  .agg (by simp [h.1]) fun i v v' a b => h.2 i v v' (by simpa using a) (by simpa using b)
/-- A contract, at a world whose memory is as it is. -/
theorem Pure.at {f : FuncId} {args : List Value} {Post : Value → Prop} (h : Pure P f args Post) (hg : ∀ g cs, glob g = some cs → ∃ t fz, w.heap[g]? = some (.cells cs t fz)) (hn : args.all nl = true) {args' : List Value} (hargs : VRC (frW w) args args') :
    Calls P f args'.toArray w fun e w' => ∃ v v', Post v ∧ e = .returned v' ∧ (closed v = true → v' = v) ∧ Below w.heap.size w w' := by
  refine (h.call hn (W := ⟨w, fun _ => False, frW w, []⟩) (ρ := ⟨fun _ => none, frW w, hg⟩) (hp := .e) (nx := 0) (w := w) ⟨fun b x hb => (by cases hb), fun b o c s z ho => (by cases ho), fun b b' x x' o o' ho => (by cases ho), fun b _ => rfl, ⟨rfl, rfl, rfl, Nat.le_refl _, fun _ _ => rfl⟩, fun c ob hc => hc, fun b o c s z ho => (by cases ho), fun c ob hc => .inl hc⟩ (.of hargs.1 fun i v v' a b => VR0.lift (ρ := ⟨fun _ => none, frW w, hg⟩) (hargs.2 i v v' a b))).mono ?_
  rintro e w' ⟨v, v', ρ', hP, rfl, hv, _, _, _, hb⟩
  exact ⟨v, v', hP, rfl, fun hc => closed_eq hc hv, hb⟩
end
end Go.Proofs.YtegjnjmimfgijaaGreatDoor
