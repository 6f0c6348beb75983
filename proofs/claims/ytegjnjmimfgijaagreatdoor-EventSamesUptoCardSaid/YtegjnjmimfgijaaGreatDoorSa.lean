/-
  Symbolic runs, part 1: leaves, loads from slices whose elements never change, comparisons of structs. Conditions: as each theorem states them.
-/
import Derived.Test.YtegjnjmimfgijaaGreatDoorEvm
import Derived.Laws.StructEq
noncomputable section
namespace Go.Proofs.YtegjnjmimfgijaaGreatDoor
open Go Go.RowKit

def toB : Value → Bool
  | .bool b => b
  | _ => false
def toI : Value → Int
  | .int _ n => n
  | _ => 0
def toS : Value → ByteArray
  | .string s => s
  | _ => .empty
def toN : Value → Nat
  | .func (.via _ _ n _) _ _ => n
  | _ => 0
def toE : Value → Array Value
  | .func _ els _ => els
  | _ => #[]
/-- Cell j of element i. -/
def cellAt (els : Array Value) (i j : Nat) : Value := ((els.getD i undef).cells).getD j undef
/-- A value of a type, made of its leaf. -/
def eta (P : Program) (t : TypeId) (x : Value) : Option Value :=
  match P.underlying t with
  | some .bool => some (.bool (toB x))
  | some (.int k) => some (.int k (toI x))
  | some .string => some (.string (toS x))
  | some (.slice e) => match pureRun P (sizeOf e) with
    | some z => some (tree z (toN x) (toE x))
    | none => none
  | _ => none
theorem eta_undef {P : Program} {t : TypeId} {x v : Value} (h : eta P t x = some v) : v ≠ undef := by
  unfold eta at h
  split at h
  · cases h; simp [undef]
  · cases h; simp [undef]
  · cases h; simp [undef]
  · split at h
    · cases h; simp [undef]
    · cases h
  · cases h
def leavesL (f : TypeId → Option (List TypeId)) : List TypeId → Option (List TypeId)
  | [] => some []
  | t :: l => match f t, leavesL f l with
    | some a, some b => some (a ++ b)
    | _, _ => none
/-- The types of a type's cells. -/
def leaves (P : Program) : Nat → TypeId → Option (List TypeId)
  | 0, _ => none
  | k + 1, t => match P.underlying t with
    | some (.struct fs) => leavesL (leaves P k) (fs.toList.map (·.type))
    | some (.array n e) => leavesL (leaves P k) (List.replicate n e)
    | some _ => some [t]
    | none => none
def etaL (P : Program) (els : Array Value) (i : Nat) : List TypeId → Nat → Option (List Value × Prop)
  | [], _ => some ([], True)
  | t :: ts, j => match eta P t (cellAt els i j), etaL P els i ts (j + 1) with
    | some v, some (vs, o) => some (v :: vs, cellAt els i j = v ∧ o)
    | _, _ => none
/-- A load from an element. -/
def sLoad (P : Program) (t : TypeId) (els : Array Value) (i off : Nat) : Option (Value × Prop) :=
  match pureRun P (isAgg t) with
  | some true => match leaves P 20 t, pureRun P (sizeOf t) with
    | some ts, some z => bif ts.length.beq z then match etaL P els i ts off with
      | some (vs, o) => some (.agg vs.toArray, o)
      | none => none
      else none
    | _, _ => none
  | some false => match eta P t (cellAt els i off) with
    | some v => some (v, cellAt els i off = v)
    | none => none
  | none => none
theorem cellAt_get {els : Array Value} {i j : Nat} {u v : Value} (hu : els[i]? = some u) (h : cellAt els i j = v) (hv : v ≠ undef) : u.cells[j]? = some v := by
  unfold cellAt at h
  simp only [Array.getD_eq_getD_getElem?, hu, Option.getD_some] at h
  cases hc : u.cells[j]? with
  | none => rw [hc] at h; exact absurd h.symm hv
  | some x => rw [hc] at h; exact congrArg some h
section
variable {P : Program} {ρ : Place} {els cs : Array Value} {i o : Nat} {u : Value}
theorem etaL_sound (hu : els[i]? = some u) (hs : o + u.cells.size ≤ cs.size) (hv : ∀ (j : Nat) (v v' : Value), u.cells[j]? = some v → cs[o + j]? = some v' → VR0 ρ.fr v v') :
    ∀ (ts : List TypeId) (j : Nat) (vs : List Value) (ob : Prop), etaL P els i ts j = some (vs, ob) → ob → ∃ l', VRL ρ vs l' ∧ vs.length = ts.length ∧ ∀ (k : Nat) (v : Value), l'[k]? = some v → cs[o + (j + k)]? = some v
  | [], j, vs, ob, h, _ => by
    simp only [etaL] at h
    cases h
    exact ⟨[], .nil, rfl, fun k v hk => by simp at hk⟩
  | t :: ts, j, vs, ob, h, hob => by
    simp only [etaL] at h
    split at h
    case h_2 => cases h
    rename_i v us ob' h1 h2
    cases h
    obtain ⟨l', g1, g2, g3⟩ := etaL_sound hu hs hv ts (j + 1) us ob' h2 hob.2
    have hc := cellAt_get hu hob.1 (eta_undef h1)
    have hj : j < u.cells.size := by
      rcases Nat.lt_or_ge j u.cells.size with h' | h'
      · exact h'
      · rw [Array.getElem?_eq_none h'] at hc; cases hc
    have hlt : o + j < cs.size := by omega
    refine ⟨cs[o + j] :: l', .cons (hv j v _ hc (by simp [hlt])).lift g1, by simp [g2], fun k v' hk => ?_⟩
    cases k with
    | zero => simp at hk; subst hk; simp [hlt]
    | succ k => rw [show o + (j + (k + 1)) = o + (j + 1 + k) by omega]; exact g3 k v' (by simpa using hk)
end
theorem frz_cell {ρ : Place} {W : Base} {hp : Tr AObj} {nx : Nat} {w : World} (h : Rel ρ W hp nx w) {c : Nat} {cs : Array Value} {t : TypeId} {fz : Nat × Nat} (hc : ρ.fr c = some (.cells cs t fz)) (o : Nat) : w.cell? ⟨c, o, none⟩ = cs[o]? := by
  simp [World.cell?, h.frz c _ hc]
theorem sLoad_sound {P : Program} {ρ : Place} {W : Base} {hp : Tr AObj} {nx : Nat} {w : World} (h : Rel ρ W hp nx w) {t : TypeId} {els : Array Value} {i off : Nat} {x' v : Value} {ob : Prop} (hx : VR ρ (treeAt els i off) x') (hv : sLoad P t els i off = some (v, ob)) (hob : ob) :
    ∃ v', (Instr.loadAt t x').run P w = .ok v' w ∧ VR ρ v v' := by
  cases hx with
  | @treeAt _ _ c o _ cs ct fz u hf hu hs hr =>
    unfold Instr.loadAt
    show ∃ v', (loadVar t ⟨c, o + off, none⟩).run P w = _ ∧ _
    unfold loadVar
    unfold sLoad at hv
    cases hi : pureRun P (isAgg t) with
    | none => rw [hi] at hv; cases hv
    | some q =>
      rw [hi] at hv
      rw [bind_run hi]
      cases q with
      | true =>
        dsimp only at hv
        split at hv
        case h_2 => cases hv
        rename_i ts z hts hz
        cases hb : ts.length.beq z with
        | false => rw [hb] at hv; cases hv
        | true =>
          rw [hb, cond_true] at hv
          have hb := Nat.eq_of_beq_eq_true hb
          split at hv
          case h_2 => cases hv
          rename_i vs ob' hl
          cases hv
          obtain ⟨l', g1, g2, g3⟩ := etaL_sound hu hs hr ts off vs _ hl hob
          rw [if_pos rfl, bind_run hz, Sem.run_bind]
          have hlen : l'.length = z := by rw [← g1.len, g2, hb]
          have := loadFrom_run (P := P) (w := w) (a := ⟨c, o + off, none⟩) l' 0 #[] (fun k v hk => by
            rw [Nat.zero_add, add_eq, frz_cell h hf, show o + (off + k) = o + (off + k) from rfl]
            exact g3 k v hk)
          unfold loadCells
          rw [← hlen]
          rw [this, Result.andThen_ok]
          refine ⟨_, rfl, ?_⟩
          have ha := g1.arr
          simpa using VR.agg ha.1 ha.2
      | false =>
        dsimp only at hv
        split at hv
        case h_2 => cases hv
        rename_i v0 he
        cases hv
        have hc := cellAt_get hu hob (eta_undef he)
        have hj : off < u.cells.size := by
          rcases Nat.lt_or_ge off u.cells.size with h' | h'
          · exact h'
          · rw [Array.getElem?_eq_none h'] at hc; cases hc
        have hlt : o + off < cs.size := by omega
        rw [if_neg (by simp), run_load, frz_cell h hf]
        simp only [hlt, Array.getElem?_eq_getElem]
        exact ⟨_, rfl, (hr off v _ hc (by simp [hlt])).lift⟩

/-- Equality of comparable values, without looking at the leaves. -/
def sEqF (f : TypeId → Value → Value → Option Bool) (P : Program) (xs ys : Array Value) : List Field → Option Bool
  | [] => some true
  | fd :: l => bif fd.name == "_" then sEqF f P xs ys l else match aPart P fd.type xs fd.offset, aPart P fd.type ys fd.offset with
    | some a, some b => match f fd.type a b, sEqF f P xs ys l with
      | some r, some r' => some (r && r')
      | _, _ => none
    | _, _ => none
def sEq (P : Program) : Nat → TypeId → Value → Value → Option Bool
  | 0, _, _, _ => none
  | d + 1, t, x, y => match P.underlying t, x, y with
    | some .bool, .bool a, .bool b => some (a == b)
    | some (.int _), .int k a, .int k' b => bif decide (k = k') then some (decide (a = b)) else none
    | some .string, .string a, .string b => some (decide (a = b))
    | some (.struct fs), .agg xs, .agg ys => bif P.stoodInHeld t then none else sEqF (sEq P d) P xs ys fs.toList
    | _, _, _ => none
theorem mem_extract {c : Array Value} {a b : Nat} {x : Value} (h : x ∈ c.extract a b) : x ∈ c := by
  rw [← Array.mem_toList_iff, Array.toList_extract] at h
  rw [← Array.mem_toList_iff]
  exact List.mem_of_mem_drop (List.mem_of_mem_take h)
theorem byteArray_beq (a b : ByteArray) : (a == b) = decide (a = b) := by
  rw [beq_toListBytes, ByteArray.toList_eq, ByteArray.toList_eq]
  obtain ⟨⟨x⟩⟩ := a
  obtain ⟨⟨y⟩⟩ := b
  by_cases h : x = y
  · subst h; simp
  · have : (⟨⟨x⟩⟩ : ByteArray) ≠ ⟨⟨y⟩⟩ := fun e => h (by cases e; rfl)
    simp [h]
theorem aPart_self {P : Program} {t : TypeId} {cs : Array Value} {off : Nat} {v : Value} (hc : flats cs = true) (h : aPart P t cs off = some v) (w : World) : (part t cs off).run P w = .ok v w := by
  obtain ⟨v', h1, h2⟩ := aPart_sound (ρ := Place.any) (flats_refl hc) h w
  have : v' = v := by
    unfold aPart at h
    cases hi : pureRun P (isAgg t) with
    | none => rw [hi] at h; cases h
    | some b =>
      rw [hi] at h
      cases b with
      | true =>
        dsimp only at h
        cases hz : pureRun P (sizeOf t) with
        | none => rw [hz] at h; cases h
        | some z =>
          rw [hz] at h
          cases h
          refine closed1_eq ?_ h2
          unfold closed1 flats
          dsimp only
          rw [Array.all_eq_true_iff_forall_mem]
          intro x hx
          exact (Array.all_eq_true_iff_forall_mem.1 hc) x (mem_extract hx)
      | false => exact flat_eq (all_get hc h) h2
  rw [← this]
  exact h1
theorem aPart_closed {P : Program} {t : TypeId} {cs : Array Value} {off : Nat} {v : Value} (hc : flats cs = true) (h : aPart P t cs off = some v) : closed1 v = true := by
  unfold aPart at h
  cases hi : pureRun P (isAgg t) with
  | none => rw [hi] at h; cases h
  | some b =>
    rw [hi] at h
    cases b with
    | true =>
      dsimp only at h
      cases hz : pureRun P (sizeOf t) with
      | none => rw [hz] at h; cases h
      | some z =>
        rw [hz] at h
        cases h
        unfold closed1 flats
        dsimp only
        rw [Array.all_eq_true_iff_forall_mem]
        intro x hx
        exact (Array.all_eq_true_iff_forall_mem.1 hc) x (mem_extract hx)
    | false =>
      have := all_get hc h
      cases v <;> first | exact this | cases this
theorem run_under {P : Program} {t : TypeId} {d : TypeDesc} (h : P.underlying t = some d) (w : World) : (underlying t).run P w = .ok d w := pureRun_run (underlying_pure h) w
theorem sEqF_sound {P : Program} {xs ys : Array Value} (hx : flats xs = true) (hy : flats ys = true) (D : Nat) {f : TypeId → Value → Value → Option Bool}
    (ih : ∀ t x y r w, closed1 x = true → closed1 y = true → f t x y = some r → (Op.equalIn D t x y).run P w = .ok r w) :
    ∀ (l : List Field) (r : Bool) (w : World), sEqF f P xs ys l = some r → (Op.eqFields D xs ys l).run P w = .ok r w
  | [], r, w, h => by simp only [sEqF] at h; cases h; rfl
  | fd :: l, r, w, h => by
    simp only [sEqF] at h
    simp only [Op.eqFields]
    cases hn : fd.name == "_" with
    | true =>
      rw [hn, cond_true] at h
      rw [if_neg (by simp; simpa using hn)]
      exact sEqF_sound hx hy D ih l r w h
    | false =>
      rw [hn, cond_false] at h
      rw [if_pos (by simpa using hn)]
      split at h
      case h_2 => cases h
      rename_i a b ha hb
      split at h
      case h_2 => cases h
      rename_i r1 r2 h1 h2
      cases h
      rw [Sem.run_bind, aPart_self hx ha w, Result.andThen_ok, Sem.run_bind, aPart_self hy hb w, Result.andThen_ok, Sem.run_bind, ih _ _ _ _ w (aPart_closed hx ha) (aPart_closed hy hb) h1, Result.andThen_ok]
      cases r1 with
      | true => simp only [Bool.not_true, Bool.false_eq_true, if_false, Bool.true_and]; exact sEqF_sound hx hy D ih l r2 w h2
      | false => rfl
theorem sEq_sound {P : Program} : ∀ (d D : Nat) (t : TypeId) (x y : Value) (r : Bool) (w : World), closed1 x = true → closed1 y = true → sEq P d t x y = some r → (Op.equalIn (D + d) t x y).run P w = .ok r w := by
  intro d
  induction d with
  | zero => intro D t x y r w _ _ h; simp [sEq] at h
  | succ d ih =>
    intro D t x y r w hx hy h
    unfold sEq at h
    rw [show D + (d + 1) = (D + d) + 1 by omega]
    split at h
    · rename_i a b hu
      cases h
      exact run_equalIn_bool' w (D + d) t a b hu
    · rename_i k0 k a k' b hu
      cases hk : decide (k = k') with
      | false => rw [hk] at h; cases h
      | true =>
        rw [hk] at h
        cases h
        have := of_decide_eq_true hk
        subst this
        rw [run_equalIn_int w (D + d) t k k0 a b hu]
        rfl
    · rename_i a b hu
      cases h
      rw [run_equalIn_string w (D + d) t a b hu]
      congr 1
      rw [← beq_toListBytes]
      exact byteArray_beq a b
    · rename_i fs xs ys hu
      cases hs : P.stoodInHeld t with
      | true => rw [hs] at h; cases h
      | false =>
        rw [hs, cond_false] at h
        have hf : P.fieldsOf t = fs := by unfold Program.fieldsOf; rw [hu]
        rw [run_equalIn_struct w (D + d) t xs ys (by rw [hf]; exact hu) hs, hf]
        exact sEqF_sound hx hy (D + d) (fun t x y r w hx hy h => ih D t x y r w hx hy h) fs.toList r w h
    · cases h
end Go.Proofs.YtegjnjmimfgijaaGreatDoor
