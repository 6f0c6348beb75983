/-
  Symbolic runs, part 2: operations that do not write; each with what must be shown. Conditions: as each theorem states them.
-/
import Derived.Test.YtegjnjmimfgijaaGreatDoorSa
noncomputable section
namespace Go.Proofs.YtegjnjmimfgijaaGreatDoor
open Go Go.RowKit

theorem asInt_run {P : Program} (k : IntKind) (n : Int) : pureRun P (asIntOf (.int k n)) = some (k, n) := rfl
def sIndexAddr (P : Program) (t : TypeId) (x : Value) (k : Int) : Option (Value × Prop) :=
  match P.underlying t, x with
  | some (.slice elem), .func (.via sz _ n false) els _ => match pureRun P (sizeOf elem) with
    | some z => bif z.beq sz then some (treeAt els k.toNat 0, 0 ≤ k ∧ k < (n : Int)) else none
    | none => none
  | some (.slice elem), .slice (some ⟨b, o, none⟩) len _ => match pureRun P (sizeOf elem) with
    | some z => some (.pointer (some ⟨b, o + k.toNat * z, none⟩), 0 ≤ k ∧ k < (len : Int))
    | none => none
  | some (.array len elem), .pointer (some ⟨b, o, none⟩) => match pureRun P (sizeOf elem) with
    | some z => some (.pointer (some ⟨b, o + k.toNat * z, none⟩), 0 ≤ k ∧ k < (len : Int))
    | none => none
  | some (.array len elem), .func (.via i _ off true) els _ => match pureRun P (sizeOf elem) with
    | some z => some (treeAt els i (off + k.toNat * z), 0 ≤ k ∧ k < (len : Int))
    | none => none
  | _, _ => none
theorem mul_room {i n sz s : Nat} (h : i < n) (hs : n * sz ≤ s) : i * sz + sz ≤ s := by
  have h2 : (i + 1) * sz ≤ n * sz := Nat.mul_le_mul_right _ h
  rw [Nat.succ_mul] at h2
  omega
theorem sIndexAddr_sound {P : Program} {ρ : Place} {t : TypeId} {x x' v : Value} {k : Int} {q : IntKind} {ob : Prop} (hx : VR ρ x x') (h : sIndexAddr P t x k = some (v, ob)) (hob : ob) (w : World) :
    ∃ v', (Instr.indexAt t x' (.int q k)).run P w = .ok v' w ∧ VR ρ v v' := by
  unfold sIndexAddr at h
  split at h
  · rename_i elem sz pth n els cap hu
    cases hz : pureRun P (sizeOf elem) with
    | none => rw [hz] at h; cases h
    | some z =>
      rw [hz] at h
      dsimp only at h
      cases hb : z.beq sz with
      | false => rw [hb] at h; cases h
      | true =>
        rw [hb] at h
        cases h
        have hb := Nat.eq_of_beq_eq_true hb
        subst hb
        cases hx with
        | treeNil => omega
        | @tree _ _ cp c o _ cs ct fz hf hn hcap hs hsz hr =>
          unfold Instr.indexAt
          rw [bind_run (asInt_run q k)]
          dsimp only
          show ∃ v', ((underlying t) >>= _).run P w = _ ∧ _
          rw [bind_run (underlying_pure hu)]
          show ∃ v', ((underlying t) >>= _).run P w = _ ∧ _
          rw [bind_run (underlying_pure hu)]
          dsimp only
          rw [if_pos hob, bind_run hz]
          have hk : k.toNat < n := by omega
          have hks : k.toNat < els.size := by rw [hn]; exact hk
          refine ⟨_, rfl, ?_⟩
          rw [show (⟨c, o, none⟩ : Addr) = ⟨c, o + 0, none⟩ from rfl, add_eq, show o + (0 + k.toNat * z) = o + k.toNat * z + 0 by omega]
          have hz' := hsz k.toNat els[k.toNat] (by simp [hks])
          have hroom := mul_room hk (s := cs.size - o) (sz := z) (by omega)
          exact VR.treeAt (u := els[k.toNat]) (o := o + k.toNat * z) (off := 0) hf (by simp [hks]) (by rw [hz']; omega) (fun j a a' ha ha' => hr k.toNat j _ a a' (by simp [hks]) ha ha')
  · rename_i elem b o len cp hu
    cases hz : pureRun P (sizeOf elem) with
    | none => rw [hz] at h; cases h
    | some z =>
      rw [hz] at h
      cases h
      refine aIndexAddr_sound hx (.int q k) ?_ w
      unfold aIndexAddr
      rw [hu]
      dsimp only
      rw [show decide (0 ≤ k ∧ k < (len : Int)) = true from decide_eq_true hob, cond_true, hz]
  · rename_i len elem b o hu
    cases hz : pureRun P (sizeOf elem) with
    | none => rw [hz] at h; cases h
    | some z =>
      rw [hz] at h
      cases h
      refine aIndexAddr_sound hx (.int q k) ?_ w
      unfold aIndexAddr
      rw [hu]
      dsimp only
      rw [show decide (0 ≤ k ∧ k < (len : Int)) = true from decide_eq_true hob, cond_true, hz]
  · rename_i len elem i pth off els cap hu
    cases hz : pureRun P (sizeOf elem) with
    | none => rw [hz] at h; cases h
    | some z =>
      rw [hz] at h
      cases h
      cases hx with
      | @treeAt _ _ c o _ cs ct fz u hfr hue hs hr =>
        unfold Instr.indexAt
        rw [bind_run (asInt_run q k)]
        dsimp only
        show ∃ v', ((underlying t) >>= _).run P w = _ ∧ _
        rw [bind_run (underlying_pure hu)]
        show ∃ v', ((underlying t) >>= _).run P w = _ ∧ _
        rw [bind_run (underlying_pure hu)]
        dsimp only
        rw [if_pos hob, bind_run hz]
        refine ⟨_, rfl, ?_⟩
        rw [add_eq, ← Nat.add_assoc, Nat.add_assoc]
        exact VR.treeAt hfr hue hs hr
  · cases h

def sFieldAt (P : Program) (t : TypeId) (els : Array Value) (i off f : Nat) : Option (Value × Prop) :=
  match P.underlying t with
  | some (.struct fields) => match fields[f]? with
    | some fd => match pureRun P (sizeOf fd.type) with
      | some (_ + 1) => some (treeAt els i (off + fd.offset), True)
      | _ => none
    | none => none
  | _ => none
theorem sFieldAt_sound {P : Program} {ρ : Place} {t : TypeId} {els : Array Value} {i off f : Nat} {x' v : Value} {ob : Prop} (hx : VR ρ (treeAt els i off) x') (h : sFieldAt P t els i off f = some (v, ob)) (w : World) :
    ∃ v', (Instr.fieldAt t x' f).run P w = .ok v' w ∧ VR ρ v v' := by
  cases hx with
  | @treeAt _ _ c o _ cs ct fz u hfr hu hs hr =>
    unfold sFieldAt at h
    cases hd : P.underlying t with
    | none => rw [hd] at h; cases h
    | some d =>
      rw [hd] at h
      cases d <;> simp only [reduceCtorEq] at h
      rename_i fields
      cases hf : fields[f]? with
      | none => rw [hf] at h; cases h
      | some fd =>
        rw [hf] at h
        dsimp only at h
        unfold Instr.fieldAt
        rw [bind_run (underlying_pure hd)]
        simp only [hf]
        cases hz : pureRun P (sizeOf fd.type) with
        | none => rw [hz] at h; cases h
        | some n =>
          rw [hz] at h
          cases n with
          | zero => cases h
          | succ n =>
            cases h
            show ∃ v', ((fieldPlace ⟨c, o + off, none⟩ fd) >>= _).run P w = _ ∧ _
            have : pureRun P (fieldPlace ⟨c, o + off, none⟩ fd) = some ((⟨c, o + off, none⟩ : Addr).add fd.offset) := by
              unfold fieldPlace
              have e : ∀ (β : Type) (g : Nat → Sem β), pureRun P (sizeOf fd.type >>= g) = pureRun P (g (n + 1)) := by
                intro β g
                exact pureRun_bind hz g
              rw [e]
              simp only [Nat.succ_ne_zero, if_false]
              rfl
            rw [bind_run this]
            refine ⟨_, rfl, ?_⟩
            rw [add_eq]
            exact VR.treeAt hfr hu hs hr

def sBound (ev : Operand → Option Value) (d : Nat) : Option Operand → Option (Nat × Prop)
  | none => some (d, True)
  | some x => match ev x with
    | some (.int _ n) => some (n.toNat, 0 ≤ n)
    | _ => none
theorem sBound_sound {P : Program} {ρ : Place} {ev : Operand → Option Value} {a : Act} (hF : ERel ρ ev a) {d : Nat} {x : Operand} {k y : Nat} {ob : Prop} {code : BoundsCode} (h : sBound ev d (some x) = some (k, ob)) (hob : ob) (hy : k ≤ y) :
    pureRun P (Instr.sliceBound (a.eval x) y code) = some k := by
  simp only [sBound] at h
  cases hv : ev x with
  | none => rw [hv] at h; cases h
  | some v =>
    rw [hv] at h
    have := hF.eval hv
    generalize he : a.eval x = e at this
    cases this <;> try simp only [reduceCtorEq] at h
    rename_i kd m
    cases h
    unfold Instr.sliceBound
    show pureRun P (if 0 ≤ m ∧ m ≤ (y : Int) then _ else _) = _
    rw [if_pos ⟨hob, by omega⟩]
    rfl
theorem sBounds_run {P : Program} {ρ : Place} {ev : Operand → Option Value} {a : Act} (hF : ERel ρ ev a) {lo hi : Option Operand} {len cap l h : Nat} {ol oh : Prop} (h1 : sBound ev len hi = some (h, oh)) (h2 : sBound ev 0 lo = some (l, ol))
    (hoh : oh) (hol : ol) (hl : l ≤ h) (hh : h ≤ len) (hc : len ≤ cap) (q : Bool) : pureRun P (Instr.sliceBounds q len cap (lo.map a.eval) (hi.map a.eval) none) = some (l, h, cap) := by
  unfold Instr.sliceBounds
  cases hi with
  | none =>
    simp only [sBound] at h1
    cases h1
    cases lo with
    | none => simp only [sBound] at h2; cases h2; rfl
    | some y =>
      show pureRun P (Instr.sliceBound (a.eval y) _ _ >>= _) = _
      rw [pureRun_bind (sBound_sound hF h2 hol hl)]
      rfl
  | some x =>
    show pureRun P (Instr.sliceBound (a.eval x) _ _ >>= _) = _
    rw [pureRun_bind (sBound_sound hF h1 hoh (by omega))]
    cases lo with
    | none => simp only [sBound] at h2; cases h2; rfl
    | some y =>
      show pureRun P (Instr.sliceBound (a.eval y) _ _ >>= _) = _
      rw [pureRun_bind (sBound_sound hF h2 hol hl)]
      rfl
def sSlice (P : Program) (ev : Operand → Option Value) (t : TypeId) (x : Value) (lo hi : Option Operand) : Option (Value × Prop) :=
  match P.underlying t, x with
  | some (.slice elem), .func (.via sz _ n false) els _ => match pureRun P (sizeOf elem), sBound ev n hi, sBound ev 0 lo with
    | some z, some (h, oh), some (l, ol) => bif z.beq sz then some (tree sz (h - l) (els.extract l h), oh ∧ ol ∧ l ≤ h ∧ h ≤ n) else none
    | _, _, _ => none
  | some (.slice elem), .slice (some ⟨b, o, none⟩) len sz => match pureRun P (sizeOf elem), sBound ev len hi, sBound ev 0 lo with
    | some z, some (h, oh), some (l, ol) => bif z.beq sz then some (.slice (some ⟨b, o + l * sz, none⟩) (h - l) sz, oh ∧ ol ∧ l ≤ h ∧ h ≤ len) else none
    | _, _, _ => none
  | some .string, .string s => match sBound ev s.size hi, sBound ev 0 lo with
    | some (h, oh), some (l, ol) => some (.string (s.extract l h), oh ∧ ol ∧ l ≤ h ∧ h ≤ s.size)
    | _, _ => none
  | _, _ => none
theorem sliceAt_run {P : Program} {t elem : TypeId} {base : Option Addr} {len cap l h z : Nat} {lo hi : Option Value} (hu : P.underlying t = some (.slice elem)) (hb : pureRun P (Instr.sliceBounds true len cap lo hi none) = some (l, h, cap)) (hz : pureRun P (sizeOf elem) = some z) (w : World) :
    (Instr.sliceAt t (.slice base len cap) lo hi none).run P w = .ok (.slice (if cap = l then base else base.map (·.add (l * z))) (h - l) (cap - l)) w := by
  unfold Instr.sliceAt
  rw [bind_run (underlying_pure hu)]
  dsimp only
  unfold Instr.slice
  rw [bind_run (underlying_pure hu)]
  dsimp only
  rw [bind_run hb]
  dsimp only
  rw [bind_run hz]
  rfl
theorem sSlice_sound {P : Program} {ρ : Place} {ev : Operand → Option Value} {a : Act} (hF : ERel ρ ev a) {t : TypeId} {x x' : Value} {lo hi : Option Operand} {v : Value} {ob : Prop} (hx : VR ρ x x')
    (h : sSlice P ev t x lo hi = some (v, ob)) (hob : ob) (w : World) : ∃ v', (Instr.sliceAt t x' (lo.map a.eval) (hi.map a.eval) none).run P w = .ok v' w ∧ VR ρ v v' := by
  unfold sSlice at h
  split at h
  · rename_i elem sz pth n els cap hu
    split at h
    case h_2 => cases h
    rename_i z hh oh l ol hz h1 h2
    cases hb : z.beq sz with
    | false => rw [hb] at h; cases h
    | true =>
      rw [hb] at h
      cases h
      have hb := Nat.eq_of_beq_eq_true hb
      subst hb
      obtain ⟨k1, k2, k3, k4⟩ := hob
      cases hx with
      | treeNil sz a' cp =>
        have e1 : hh = 0 := by omega
        have e2 : l = 0 := by omega
        subst e1 e2
        rw [sliceAt_run hu (sBounds_run hF h1 h2 k1 k2 k3 k4 (Nat.zero_le cp) true) hz]
        exact ⟨_, rfl, .treeNil _ _ _⟩
      | @tree _ _ cp c o _ cs ct fz hf hn hcap hs hsz hr =>
        rw [sliceAt_run hu (sBounds_run hF h1 h2 k1 k2 k3 k4 hcap true) hz]
        refine ⟨_, rfl, ?_⟩
        by_cases hcl : cp = l
        · rw [if_pos hcl]
          have e : els.extract l hh = #[] := by apply Array.ext' ; simp; omega
          have e2 : hh - l = 0 := by omega
          rw [e, e2]
          exact .treeNil _ _ _
        · rw [if_neg hcl]
          show VR ρ _ (.slice (some ((⟨c, o, none⟩ : Addr).add (l * z))) _ _)
          rw [show (⟨c, o, none⟩ : Addr) = ⟨c, o + 0, none⟩ from rfl, add_eq]
          have hroom : o + (l * z) + (hh - l) * z ≤ cs.size := by
            have e1 : hh * z ≤ n * z := Nat.mul_le_mul_right _ k4
            have e2 : l * z + (hh - l) * z = hh * z := by rw [← Nat.add_mul]; congr 1; omega
            omega
          refine VR.tree (o := o + (0 + l * z)) hf (by simp; omega) (by omega) (by omega) (fun i u hu' => ?_) (fun i j u b b' hu' hb hb' => ?_)
          · rw [Array.getElem?_extract] at hu'
            split at hu'
            · exact hsz _ u hu'
            · cases hu'
          · rw [Array.getElem?_extract] at hu'
            split at hu'
            · refine hr (l + i) j u b b' hu' hb ?_
              rw [← hb']
              congr 1
              rw [Nat.add_mul]
              omega
            · cases hu'
  · rename_i elem b o len sz hu
    split at h
    case h_2 => cases h
    rename_i z hh oh l ol hz h1 h2
    cases hb : z.beq sz with
    | false => rw [hb] at h; cases h
    | true =>
      rw [hb] at h
      cases h
      have hb := Nat.eq_of_beq_eq_true hb
      subst hb
      obtain ⟨k1, k2, k3, k4⟩ := hob
      cases hx with
      | @slice _ _ _ _ c s zz cap hb h3 h4 =>
        rw [sliceAt_run hu (sBounds_run hF h1 h2 k1 k2 k3 k4 h3 true) hz]
        refine ⟨_, rfl, ?_⟩
        by_cases hcl : cap = l
        · rw [if_pos hcl]
          have e1 : hh - l = 0 := by omega
          have e2 : cap - l = 0 := by omega
          rw [e1, e2]
          exact .emptySlice _ hb
        · rw [if_neg hcl]
          show VR ρ _ (.slice (some ((⟨c, s + o, none⟩ : Addr).add (l * z))) _ _)
          rw [add_eq]
          refine .slice hb (by omega) ?_
          have : s + (o + l * z) + (cap - l) * z = s + o + cap * z := by
            have : cap * z = l * z + (cap - l) * z := by rw [← Nat.add_mul]; congr 1; omega
            omega
          omega
      | @emptySlice _ _ y a' _ hb =>
        have e1 : hh = 0 := by omega
        have e2 : l = 0 := by omega
        subst e1 e2
        rw [sliceAt_run hu (sBounds_run hF h1 h2 k1 k2 k3 k4 (Nat.zero_le 0) true) hz]
        exact ⟨_, rfl, .emptySlice _ hb⟩
  · rename_i s hu
    split at h
    case h_2 => cases h
    rename_i hh oh l ol h1 h2
    cases h
    obtain ⟨k1, k2, k3, k4⟩ := hob
    cases hx
    refine ⟨.string (s.extract l hh), ?_, .string _⟩
    unfold Instr.sliceAt
    rw [bind_run (underlying_pure hu)]
    dsimp only
    unfold Instr.slice
    rw [bind_run (underlying_pure hu)]
    show (Instr.sliceBounds false s.size s.size _ _ none >>= _).run P w = _
    rw [bind_run (sBounds_run hF h1 h2 k1 k2 k3 k4 (Nat.le_refl _) false)]
    rfl
  · cases h
end Go.Proofs.YtegjnjmimfgijaaGreatDoor
