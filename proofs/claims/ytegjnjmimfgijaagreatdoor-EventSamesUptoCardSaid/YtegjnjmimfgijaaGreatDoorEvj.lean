/-
  Closed runs by evaluation, part 10: append and copy. Conditions: as each theorem states them.
-/
import Derived.Test.YtegjnjmimfgijaaGreatDoorEvi
noncomputable section
namespace Go.Proofs.YtegjnjmimfgijaaGreatDoor
open Go Go.RowKit

def srcLen : Value → Option Nat
  | .slice _ n _ => some n
  | .string s => some s.size
  | .func (.via _ _ n false) _ _ => some n
  | _ => none
theorem srcLen_sound {P : Program} {ρ : Place} {x x' : Value} {n : Nat} (hx : VR ρ x x') (h : srcLen x = some n) : pureRun P (Builtin.lenOf x') = some n := by
  cases hx <;> simp only [srcLen, reduceCtorEq] at h <;> exact h
/-- The cells of the first n elements. -/
def srcCells (hp : Tr AObj) (size n : Nat) : Value → Option (List Value)
  | .slice none _ _ => bif n.beq 0 then some [] else none
  | .slice (some ⟨b, o, none⟩) _ _ => bif n.beq 0 then some [] else rowOf hp b o (n * size)
  | .string s => some ((s.extract 0 n).data.map fun b => Value.int .u8 b.toNat).toList
  | .func (.via sz _ m false) els _ => bif sz.beq size && n.beq m then some (els.toList.flatMap fun u => u.cells.toList) else none
  | _ => none
theorem flat_get {sz : Nat} : ∀ (els : List Value), (∀ u ∈ els, u.cells.size = sz) → ∀ (k : Nat) (v : Value), (els.flatMap fun u => u.cells.toList)[k]? = some v → ∃ i j u, els[i]? = some u ∧ u.cells[j]? = some v ∧ k = i * sz + j
  | [], _, k, v, h => by simp at h
  | u :: l, hu, k, v, h => by
    have h0 := hu u (by simp)
    rw [List.flatMap_cons] at h
    rcases Nat.lt_or_ge k sz with hk | hk
    · rw [List.getElem?_append_left (by simpa [h0] using hk)] at h
      exact ⟨0, k, u, rfl, by simpa using h, by omega⟩
    · rw [List.getElem?_append_right (by simpa [h0] using hk)] at h
      obtain ⟨i, j, x, h1, h2, h3⟩ := flat_get l (fun y hy => hu y (by simp [hy])) _ v h
      refine ⟨i + 1, j, x, by simpa using h1, h2, ?_⟩
      rw [Nat.succ_mul]
      simp only [Array.length_toList, h0] at h3
      omega
theorem flat_len {sz : Nat} : ∀ (els : List Value), (∀ u ∈ els, u.cells.size = sz) → (els.flatMap fun u => u.cells.toList).length = els.length * sz
  | [], _ => by simp
  | u :: l, hu => by
    rw [List.flatMap_cons, List.length_append, flat_len l fun y hy => hu y (by simp [hy])]
    simp only [Array.length_toList, hu u (by simp), List.length_cons, Nat.succ_mul]
    omega
theorem srcCells_sound {P : Program} {ρ : Place} {W : Base} {hp : Tr AObj} {nx : Nat} {w : World} (h : Rel ρ W hp nx w) {x x' : Value} {size n : Nat} {l : List Value} (hx : VR ρ x x') (hl : srcCells hp size n x = some l)
    (hn : ∀ m, srcLen x = some m → n ≤ m) : ∃ l', VRL ρ l l' ∧ (Builtin.firstCells size n x').run P w = .ok l'.toArray w := by
  cases hx <;> simp only [srcCells, reduceCtorEq] at hl
  case nilSlice m c =>
    cases h0 : n.beq 0 with
    | false => rw [h0] at hl; cases hl
    | true => rw [h0] at hl; cases hl; exact ⟨[], .nil, rfl⟩
  case slice b o m sz c s z cap hr h1 h2 =>
    cases h0 : n.beq 0 with
    | false =>
      rw [h0, cond_false] at hl
      obtain ⟨l', h3, _, h4⟩ := rowOf_sound (P := P) h hl hr
      exact ⟨l', h3, h4⟩
    | true =>
      rw [h0] at hl
      cases hl
      have := Nat.eq_of_beq_eq_true h0
      subst this
      refine ⟨[], .nil, ?_⟩
      show (loadCells _ (0 * size)).run P w = _
      rw [Nat.zero_mul]
      rfl
  case emptySlice b o y a' sz hr =>
    have := hn 0 rfl
    have : n = 0 := by omega
    subst this
    refine ⟨[], ?_, ?_⟩
    · simp [Nat.beq] at hl
      subst hl
      exact .nil
    · show (loadCells a' (0 * size)).run P w = _
      rw [Nat.zero_mul]
      rfl
  case treeNil sz a cap =>
    cases hc : sz.beq size && n.beq 0 with
    | false => rw [hc] at hl; cases hl
    | true =>
      rw [hc] at hl
      cases hl
      simp only [Bool.and_eq_true] at hc
      have := Nat.eq_of_beq_eq_true hc.2
      subst this
      refine ⟨[], .nil, ?_⟩
      cases a with
      | none => rfl
      | some a => show (loadCells _ (0 * size)).run P w = _; rw [Nat.zero_mul]; rfl
  case tree sz m cap c o els cs t fz hf hm hcap hs hsz hr =>
    cases hc : sz.beq size && n.beq m with
    | false => rw [hc] at hl; cases hl
    | true =>
      rw [hc] at hl
      cases hl
      simp only [Bool.and_eq_true] at hc
      have e1 := Nat.eq_of_beq_eq_true hc.1
      have e2 := Nat.eq_of_beq_eq_true hc.2
      subst e1 e2
      have hall : ∀ u ∈ els.toList, u.cells.size = sz := fun u hu => by
        obtain ⟨i, hi⟩ := List.mem_iff_getElem?.1 hu
        exact hsz i u (by simpa using hi)
      have hlen : (els.toList.flatMap fun u => u.cells.toList).length = n * sz := by rw [flat_len _ hall, Array.length_toList, hm]
      have hexl : (cs.extract o (o + n * sz)).toList.length = n * sz := by simp; omega
      refine ⟨(cs.extract o (o + n * sz)).toList, .of (by rw [hlen, hexl]) (fun k v v' hv hv' => ?_), ?_⟩
      · obtain ⟨i, j, u, g1, g2, g3⟩ := flat_get _ hall k v hv
        have hk : cs[o + k]? = some v' := by
          rw [Array.getElem?_toList, Array.getElem?_extract] at hv'
          split at hv'
          · exact hv'
          · cases hv'
        refine (hr i j u v v' (by simpa using g1) g2 ?_).lift
        rw [← hk, g3]
        congr 1
        omega
      · have := loadFrom_run (P := P) (w := w) (a := ⟨c, o, none⟩) (cs.extract o (o + n * sz)).toList 0 #[] (fun i v hv => by
          rw [Nat.zero_add, show (⟨c, o, none⟩ : Addr) = ⟨c, o + 0, none⟩ from rfl, add_eq]
          have hc : w.cell? ⟨c, o + (0 + i), none⟩ = cs[o + (0 + i)]? := by simp [World.cell?, h.frz c _ hf]
          rw [hc]
          rw [Array.getElem?_toList, Array.getElem?_extract] at hv
          split at hv
          · rw [← hv]; congr 1; omega
          · cases hv)
        show (loadCells ⟨c, o, none⟩ (n * sz)).run P w = _
        unfold loadCells
        rw [hexl] at this
        rw [this]
        simp
  case string s =>
    cases hl
    refine ⟨((s.extract 0 n).data.map fun b => Value.int .u8 b.toNat).toList, ?_, ?_⟩
    rotate_left
    · show Result.ok ((s.extract 0 n).data.map fun b => Value.int .u8 b.toNat) w = _
      rw [Array.toArray_toList]
    · exact .of rfl fun i v v' a b => by
        rw [a] at b
        cases b
        have hm := List.mem_of_getElem? a
        simp only [Array.toList_map, List.mem_map] at hm
        obtain ⟨y, _, rfl⟩ := hm
        exact .int _ _

theorem first0 {P : Program} {ρ : Place} {x x' : Value} {m : Nat} (hx : VR ρ x x') (h : srcLen x = some m) (size : Nat) (w : World) : (Builtin.firstCells size 0 x').run P w = .ok #[] w := by
  cases hx <;> simp only [srcLen, reduceCtorEq] at h
  case nilSlice => rfl
  case slice => show (loadCells _ (0 * size)).run P w = _; rw [Nat.zero_mul]; rfl
  case emptySlice => show (loadCells _ (0 * size)).run P w = _; rw [Nat.zero_mul]; rfl
  case tree => show (loadCells _ (0 * size)).run P w = _; rw [Nat.zero_mul]; rfl
  case treeNil sz a cap =>
    cases a with
    | none => rfl
    | some a => show (loadCells _ (0 * size)).run P w = _; rw [Nat.zero_mul]; rfl
  case string s =>
    show Result.ok ((s.extract 0 0).data.map fun b => Value.int .u8 b.toNat) w = _
    congr 1
    apply Array.eq_empty_of_size_eq_zero
    simp
/-- The second argument is no length. -/
def noMake (P : Program) (t : Option TypeId) : Bool :=
  match t with
  | none => true
  | some t => match P.underlying t with
    | some (.int _) => false
    | some _ => true
    | none => false
def aAppend (P : Program) (hp : Tr AObj) (nx : Nat) (argTypes : Array TypeId) (args : Array Value) : Option (Value × Tr AObj × Nat) :=
  match argTypes[0]?, (args[0]? : Option Value), (args[1]? : Option Value) with
  | some t, some (.slice base sLen sz), some x => match P.underlying t, srcLen x with
    | some (.slice elem), some n => match pureRun P (sizeOf elem) with
      | some size => bif noMake P argTypes[1]? then
          bif n.beq 0 then
            bif base.isSome || sLen.ble sz then some (.slice base sLen sz, hp, nx) else none
          else match pureRun P (typeInfo elem), pureRun P (zeroValue elem), srcCells hp size n x with
            | some info, some zero, some new =>
              bif zero.cells.size.beq size && (sLen + n).ble (2 ^ 25) && info.bytes.ble (2 ^ 20) && new.all single && new.length.beq (n * size) then
                match base with
                | none => bif sLen.beq 0 && sz.beq 0 then some (.slice (some ⟨nx, 0, none⟩) n size, hp.put nx (some (.cells new true)), nx + 1) else none
                | some ⟨b, o, none⟩ => match hp.get b with
                  | some (.cells _ true) => bif sz.beq size then
                      match rowOf hp b o (sLen * size) with
                      | some old => some (.slice (some ⟨nx, 0, none⟩) (sLen + n) size, (hp.put b none).put nx (some (.cells (old ++ new) true)), nx + 1)
                      | none => none
                    else none
                  | _ => none
                | _ => none
              else none
            | _, _, _ => none
        else none
      | none => none
    | _, _ => none
  | _, _, _ => none
theorem growBy_le (newLen M : Nat) (hM : ∀ c, c < newLen → c + (c + 768) / 4 ≤ M) : ∀ (r c : Nat), c ≤ M → Builtin.growBy newLen r c ≤ M
  | 0, c, h => h
  | r + 1, c, h => by
    simp only [Builtin.growBy]
    split
    · exact h
    · exact growBy_le newLen M hM r _ (hM c (by omega))
theorem nextcap_le {need cap : Nat} (h : cap < need) : Builtin.nextslicecap need cap ≤ 2 * need + 200 := by
  unfold Builtin.nextslicecap
  split
  · omega
  · split
    · omega
    · exact growBy_le need _ (fun c hc => by omega) 4 cap (by omega)
/-- The relation without one block. -/
theorem Rel.drop {ρ : Place} {W : Base} {hp : Tr AObj} {nx : Nat} {w : World} (h : Rel ρ W hp nx w) (b : Nat) : Rel ρ W (hp.put b none) nx w := by
  have sub : ∀ k o, (hp.put b none).get k = some o → hp.get k = some o := fun k o hk => by
    rw [Tr.get_put] at hk
    split at hk
    · cases hk
    · exact hk
  refine ⟨h.dom, fun k o c s z ho hk => h.obj k o c s z (sub k o ho) hk, fun k k' x x' o o' h1 h2 => h.inj k k' x x' o o' (sub _ _ h1) (sub _ _ h2), fun k hk => ?_, h.below, h.frz, fun k o c s z ho => h.apart k o c s z (sub k o ho), h.frn⟩
  rw [Tr.get_put]
  split
  · rfl
  · exact h.fresh k hk
/-- The slice's block under a new name, from the slice's first cell on. -/
theorem Rel.rename {ρ : Place} {W : Base} {hp : Tr AObj} {nx : Nat} {w : World} (h : Rel ρ W hp nx w) {b c s z o : Nat} {l old : List Value} (hb : hp.get b = some (.cells l true)) (hr : ρ b = some (c, s, z))
    (hold : ∀ (i : Nat) (v : Value), old[i]? = some v → l[o + i]? = some v) (hlen : s + o + old.length ≤ z) : Rel (ρ.set nx (c, s + o, z)) W ((hp.put b none).put nx (some (.cells old true))) (nx + 1) w := by
  have hn : ρ nx = none := by
    cases hc : ρ nx with
    | none => rfl
    | some x => have := (h.dom nx x hc).1; omega
  have hle := Place.le_set (x := (c, s + o, z)) hn
  have hbn : b < nx := (h.dom b _ hr).1
  have sub : ∀ k ob, k ≠ nx → ((hp.put b none).put nx (some (.cells old true))).get k = some ob → k ≠ b ∧ hp.get k = some ob := fun k ob hk hg => by
    rw [Tr.get_put, if_neg hk, Tr.get_put] at hg
    split at hg
    · cases hg
    · rename_i e; exact ⟨e, hg⟩
  refine ⟨fun k x hk => ?_, fun k ob c' s' z' hg hk => ?_, fun k k' x x' o1 o2 h1 h2 hk hk' hx => ?_, fun k hk => ?_, h.below, h.frz, fun k o' c' s' z' hg hw hk => ?_, h.frn⟩
  · by_cases e : k = nx
    · subst e
      rw [Place.set_same] at hk
      cases hk
      exact ⟨by omega, (h.dom b _ hr).2⟩
    · rw [Place.set_other e] at hk
      exact ⟨by have := (h.dom k x hk).1; omega, (h.dom k x hk).2⟩
  · by_cases e : k = nx
    · subst e
      rw [Place.set_same] at hk
      cases hk
      rw [Tr.get_put, if_pos rfl] at hg
      cases hg
      obtain ⟨ob, e1, e2⟩ := h.obj b _ c s z hb hr
      cases ob <;> try exact e2.elim
      rename_i cs t fr
      obtain ⟨g1, g2, g3, g4, g5⟩ := e2
      refine ⟨.cells cs t fr, e1, g1, hlen, g3, fun i v hv => ?_, g5⟩
      obtain ⟨v', e3, e4⟩ := g4 (o + i) v (hold i v hv)
      exact ⟨v', by rw [show s + o + i = s + (o + i) by omega]; exact e3, e4.mono hle⟩
    · rw [Place.set_other e] at hk
      obtain ⟨ob', e1, e2⟩ := h.obj k ob c' s' z' (sub k ob e hg).2 hk
      exact ⟨ob', e1, e2.mono hle⟩
  · by_cases e : k = nx
    · by_cases e' : k' = nx
      · rw [e, e']
      · subst e
        rw [Place.set_same] at hk
        rw [Place.set_other e'] at hk'
        cases hk
        have := sub k' o2 e' h2
        exact absurd (h.inj b k' _ _ _ _ hb this.2 hr hk' hx).symm this.1
    · by_cases e' : k' = nx
      · subst e'
        rw [Place.set_same] at hk'
        rw [Place.set_other e] at hk
        cases hk'
        have := sub k o1 e h1
        exact absurd (h.inj k b _ _ _ _ this.2 hb hk hr hx) this.1
      · rw [Place.set_other e] at hk
        rw [Place.set_other e'] at hk'
        exact h.inj k k' x x' o1 o2 (sub k o1 e h1).2 (sub k' o2 e' h2).2 hk hk' hx
  · rw [Tr.get_put, if_neg (by omega), Tr.get_put]
    split
    · rfl
    · exact h.fresh k (by omega)
  · show ρ.fr c' = none
    by_cases e : k = nx
    · subst e
      rw [Place.set_same] at hk
      cases hk
      exact h.apart b _ c s z hb rfl hr
    · rw [Place.set_other e] at hk
      exact h.apart k o' c' s' z' (sub k o' e hg).2 hw hk
end Go.Proofs.YtegjnjmimfgijaaGreatDoor
