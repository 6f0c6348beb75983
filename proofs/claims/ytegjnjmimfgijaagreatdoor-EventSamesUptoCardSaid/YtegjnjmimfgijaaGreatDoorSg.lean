/-
  Symbolic runs, part 7: names: values without names; blocks numbered anew. Conditions: as each theorem states them.
-/
import Derived.Test.YtegjnjmimfgijaaGreatDoorSf
noncomputable section
namespace Go.Proofs.YtegjnjmimfgijaaGreatDoor
open Go Go.RowKit

/-- A cell without a block's name. -/
def nl1 : Value → Bool
  | .bool _ | .int _ _ | .float _ _ | .complex _ _ _ | .string _ | .pointer none | .slice none _ _ | .map none | .chan none | .nilFunc | .nilIface => true
  | .func (.func _) f c => f.isEmpty && c.isEmpty
  | .func (.via _ _ _ _) _ _ => true
  | .iface _ v => flat v
  | _ => false
def nl : Value → Bool
  | .agg c => c.all nl1
  | v => nl1 v
def NLs (l : List Value) : Prop := ∀ v ∈ l, nl1 v = true
theorem flat_VR0 {ρ : Place} {v v' : Value} (h : flat v = true) (hv : VR ρ v v') : VR0 ρ.fr v v' := by
  have e := flat_eq h hv
  subst e
  cases v' with
  | bool b => exact .bool b
  | int k n => exact .int k n
  | float k n => exact .float k n
  | complex k n m => exact .complex k n m
  | string s => exact .string s
  | pointer a => cases a with
    | none => exact .nilPtr
    | some a => cases h
  | slice a n c => cases a with
    | none => exact .nilSlice n c
    | some a => cases h
  | map r => cases r with
    | none => exact .nilMap
    | some r => cases h
  | chan r => cases r with
    | none => exact .nilChan
    | some r => cases h
  | func fn f c =>
    cases fn <;> try (cases h)
    simp [flat] at h
    obtain ⟨rfl, rfl⟩ := h
    exact .func _ rfl (by simp) rfl (by simp)
  | nilFunc => exact .nilFunc
  | nilIface => exact .nilIface
  | iface t v => cases h
  | agg c => cases h
  | tuple c => cases h
theorem nl1_sound {ρ : Place} {v v' : Value} (h : nl1 v = true) (hv : VR ρ v v') : VR0 ρ.fr v v' := by
  by_cases hf : flat v = true
  · exact flat_VR0 hf hv
  · cases v <;> try (first | exact absurd rfl hf | cases h)
    case func fn f c =>
      cases fn <;> try (cases h)
      case func k => exact absurd h hf
      case via t p n q =>
        cases hv with
        | tree h1 h2 h3 h4 h5 h6 => exact .tree h1 h2 h3 h4 h5 h6
        | treeNil => exact .treeNil _ _ _
        | treeAt h1 h2 h3 h4 => exact .treeAt h1 h2 h3 h4
    case iface t u =>
      cases hv with
      | iface _ hu => exact .iface t (flat_VR0 h hu)
    case pointer a => cases a <;> first | exact absurd rfl hf | cases h
    case slice a n c => cases a <;> first | exact absurd rfl hf | cases h
    case map a => cases a <;> first | exact absurd rfl hf | cases h
    case chan a => cases a <;> first | exact absurd rfl hf | cases h
theorem nl_sound {ρ : Place} {v v' : Value} (h : nl v = true) (hv : VR ρ v v') : VR0 ρ.fr v v' := by
  cases v <;> try exact nl1_sound h hv
  case agg c =>
    cases hv with
    | agg hs hc => exact .agg hs fun i v v' a b => nl1_sound (all_get h a) (hc i v v' a b)

def idx (b : Nat) : List (Nat × Bool) → Nat → Option Nat
  | [], _ => none
  | x :: l, i => bif x.1.beq b then some i else idx b l (i + 1)
theorem idx_get {b : Nat} : ∀ {l : List (Nat × Bool)} {i j : Nat}, idx b l i = some j → i ≤ j ∧ ∃ k, l[j - i]? = some (b, k)
  | [], i, j, h => by simp [idx] at h
  | x :: l, i, j, h => by
    simp only [idx] at h
    cases hx : x.1.beq b with
    | true =>
      rw [hx] at h
      cases h
      have := Nat.eq_of_beq_eq_true hx
      exact ⟨Nat.le_refl _, x.2, by simp [← this]⟩
    | false =>
      rw [hx, cond_false] at h
      obtain ⟨h1, k, h2⟩ := idx_get h
      refine ⟨by omega, k, ?_⟩
      rw [show j - i = (j - (i + 1)) + 1 by omega]
      simpa using h2
def ren0 (bl : List (Nat × Bool)) : Value → Option Value
  | .pointer (some ⟨b, o, none⟩) => match idx b bl 0 with
    | some i => some (.pointer (some ⟨i, o, none⟩))
    | none => none
  | .slice (some ⟨b, o, none⟩) n sz => match idx b bl 0 with
    | some i => some (.slice (some ⟨i, o, none⟩) n sz)
    | none => none
  | .iface t (.pointer (some ⟨b, o, none⟩)) => match idx b bl 0 with
    | some i => some (.iface t (.pointer (some ⟨i, o, none⟩)))
    | none => none
  | v => bif nl1 v then some v else none
def mapO (f : Value → Option Value) : List Value → Option (List Value)
  | [] => some []
  | v :: l => match f v, mapO f l with
    | some u, some m => some (u :: m)
    | _, _ => none
def ren1 (bl : List (Nat × Bool)) : Value → Option Value
  | .func (.func k) f c => match mapO (ren0 bl) f.toList, mapO (ren0 bl) c.toList with
    | some f', some c' => some (.func (.func k) f'.toArray c'.toArray)
    | _, _ => none
  | v => ren0 bl v
def ren (bl : List (Nat × Bool)) : Value → Option Value
  | .agg c => match mapO (ren1 bl) c.toList with
    | some c' => some (.agg c'.toArray)
    | none => none
  | v => ren1 bl v
/-- The place of the new numbers. -/
def Place.via (ρ : Place) (bl : List (Nat × Bool)) : Place := ⟨fun i => match bl[i]? with | some p => ρ.pl p.1 | none => none, ρ.fr, ρ.gl⟩
theorem via_at {ρ : Place} {bl : List (Nat × Bool)} {b i : Nat} (h : idx b bl 0 = some i) : (ρ.via bl).pl i = ρ.pl b := by
  obtain ⟨_, k, hk⟩ := idx_get h
  unfold Place.via
  simp at hk
  simp [hk]
theorem ren0_sound {ρ : Place} {bl : List (Nat × Bool)} {v u v' : Value} (h : ren0 bl v = some u) (hv : VR ρ v v') : VR (ρ.via bl) u v' := by
  have base : (bif nl1 v then some v else none) = some u → VR (ρ.via bl) u v' := fun hb => by
    cases hn : nl1 v with
    | false => rw [hn] at hb; cases hb
    | true =>
      rw [hn] at hb
      cases hb
      have h0 : VR0 ρ.fr v v' := nl1_sound hn hv
      exact VR0.lift (ρ := ρ.via bl) h0
  cases v <;> try exact base (by exact h)
  case pointer a =>
    cases a with
    | none => exact base h
    | some a =>
      obtain ⟨b, o, s⟩ := a
      cases s with
      | some s => exact base h
      | none =>
        simp only [ren0] at h
        split at h
        · rename_i i hi
          cases h
          cases hv with
          | ptr hb => exact .ptr (by rw [via_at hi]; exact hb)
        · cases h
  case slice a n sz =>
    cases a with
    | none => exact base h
    | some a =>
      obtain ⟨b, o, s⟩ := a
      cases s with
      | some s => exact base h
      | none =>
        simp only [ren0] at h
        split at h
        · rename_i i hi
          cases h
          cases hv with
          | slice hb h1 h2 => exact .slice (by rw [via_at hi]; exact hb) h1 h2
          | emptySlice a' hb => exact .emptySlice a' (by rw [via_at hi]; exact hb)
        · cases h
  case iface t x =>
    cases x <;> try exact base (by exact h)
    rename_i a
    cases a with
    | none => exact base h
    | some a =>
      obtain ⟨b, o, s⟩ := a
      cases s with
      | some s => exact base h
      | none =>
        simp only [ren0] at h
        split at h
        · rename_i i hi
          cases h
          cases hv with
          | iface _ hv => cases hv with
            | ptr hb => exact .iface t (.ptr (by rw [via_at hi]; exact hb))
        · cases h
theorem mapO_sound {ρ ρ' : Place} {f : Value → Option Value} (hf : ∀ v u v', f v = some u → VR ρ v v' → VR ρ' u v') : ∀ {l m l' : List Value}, mapO f l = some m → VRL ρ l l' → VRL ρ' m l'
  | [], m, l', h, hl => by simp only [mapO] at h; cases h; cases hl; exact .nil
  | v :: l, m, l', h, hl => by
    simp only [mapO] at h
    split at h
    case h_2 => cases h
    rename_i u m' h1 h2
    cases h
    cases hl with
    | cons hv hl => exact .cons (hf v u _ h1 hv) (mapO_sound hf h2 hl)
theorem VRL.toVRA {ρ : Place} {l : List Value} {c' : Array Value} (h : VRL ρ l c'.toList) : VRA ρ l.toArray c' := by
  have := h.arr
  simpa using this
theorem ren1_sound {ρ : Place} {bl : List (Nat × Bool)} {v u v' : Value} (h : ren1 bl v = some u) (hv : VR ρ v v') : VR (ρ.via bl) u v' := by
  cases v <;> try exact ren0_sound (by exact h) hv
  case func fn f c =>
    cases fn <;> try exact ren0_sound (by exact h) hv
    simp only [ren1] at h
    split at h
    case h_2 => cases h
    rename_i f' c' h1 h2
    cases h
    cases hv with
    | func _ s1 r1 s2 r2 =>
      have g1 := (mapO_sound (fun _ _ _ => ren0_sound) h1 (VRA.list ⟨s1, r1⟩)).toVRA
      have g2 := (mapO_sound (fun _ _ _ => ren0_sound) h2 (VRA.list ⟨s2, r2⟩)).toVRA
      exact .func _ g1.1 g1.2 g2.1 g2.2
theorem ren_sound {ρ : Place} {bl : List (Nat × Bool)} {v u v' : Value} (h : ren bl v = some u) (hv : VR ρ v v') : VR (ρ.via bl) u v' := by
  cases v <;> try exact ren1_sound (by exact h) hv
  case agg c =>
    simp only [ren] at h
    split at h
    case h_2 => cases h
    rename_i c' h1
    cases h
    cases hv with
    | agg s r =>
      have g := (mapO_sound (fun _ _ _ => ren1_sound) h1 (VRA.list ⟨s, r⟩)).toVRA
      exact .agg g.1 g.2

def memB (b : Nat) : List (Nat × Bool) → Bool
  | [] => false
  | x :: l => bif x.1.beq b then true else memB b l
def addB (b : Nat) (k : Bool) (l : List (Nat × Bool)) : List (Nat × Bool) := bif memB b l then l else l ++ [(b, k)]
def scan0 (l : List (Nat × Bool)) : Value → List (Nat × Bool)
  | .pointer (some a) => addB a.block true l
  | .slice (some a) _ _ => addB a.block false l
  | .iface _ (.pointer (some a)) => addB a.block true l
  | _ => l
def scan1 (l : List (Nat × Bool)) : Value → List (Nat × Bool)
  | .func (.func _) f c => c.toList.foldl scan0 (f.toList.foldl scan0 l)
  | v => scan0 l v
def scan (l : List (Nat × Bool)) : Value → List (Nat × Bool)
  | .agg c => c.toList.foldl scan1 l
  | v => scan1 l v
def scanB (hp : Tr AObj) : Nat → Nat → List (Nat × Bool) → List (Nat × Bool)
  | 0, _, l => l
  | f + 1, i, l => match l[i]? with
    | none => l
    | some (b, k) => scanB hp f (i + 1) (bif k then match hp.get b with | some (.cells c _) => c.foldl scan1 l | _ => l else l)
def nodupB : List (Nat × Bool) → Bool
  | [] => true
  | x :: l => bif memB x.1 l then false else nodupB l
def baseB : Nat → Nat → List (Nat × Bool) → Bool
  | 0, _, _ => true
  | _ + 1, _, [] => false
  | n + 1, i, x :: l => bif x.1.beq i then baseB n (i + 1) l else false
theorem memB_of {b : Nat} : ∀ {l : List (Nat × Bool)} {i : Nat} {k : Bool}, l[i]? = some (b, k) → memB b l = true
  | [], i, k, h => by simp at h
  | x :: l, 0, k, h => by simp at h; subst h; simp [memB]
  | x :: l, i + 1, k, h => by
    simp only [memB]
    cases x.1.beq b with
    | true => rfl
    | false => rw [cond_false]; exact memB_of (l := l) (i := i) (k := k) (by simpa using h)
theorem nodupB_inj : ∀ {l : List (Nat × Bool)}, nodupB l = true → ∀ {i j : Nat} {b : Nat} {k k' : Bool}, l[i]? = some (b, k) → l[j]? = some (b, k') → i = j
  | [], _, i, j, b, k, k', h, _ => by simp at h
  | x :: l, hn, i, j, b, k, k', h1, h2 => by
    simp only [nodupB] at hn
    cases hm : memB x.1 l with
    | true => rw [hm] at hn; cases hn
    | false =>
      rw [hm, cond_false] at hn
      cases i with
      | zero =>
        cases j with
        | zero => rfl
        | succ j =>
          simp at h1 h2
          subst h1
          rw [memB_of h2] at hm
          cases hm
      | succ i =>
        cases j with
        | zero =>
          simp at h1 h2
          subst h2
          rw [memB_of h1] at hm
          cases hm
        | succ j =>
          have := nodupB_inj hn (by simpa using h1) (by simpa using h2)
          omega
theorem baseB_get : ∀ {n i : Nat} {l : List (Nat × Bool)}, baseB n i l = true → ∀ j, j < n → ∃ k, l[j]? = some (i + j, k)
  | 0, i, l, _, j, hj => by omega
  | n + 1, i, [], h, j, hj => by simp [baseB] at h
  | n + 1, i, x :: l, h, j, hj => by
    simp only [baseB] at h
    cases hx : x.1.beq i with
    | false => rw [hx] at h; cases h
    | true =>
      rw [hx, cond_true] at h
      have := Nat.eq_of_beq_eq_true hx
      cases j with
      | zero => exact ⟨x.2, by simp [← this]⟩
      | succ j =>
        obtain ⟨k, hk⟩ := baseB_get h j (by omega)
        exact ⟨k, by rw [show i + (j + 1) = i + 1 + j by omega]; simpa using hk⟩
/-- A block's content with the new numbers. -/
def renObj (bl : List (Nat × Bool)) (k : Bool) : AObj → Option (AObj × Prop)
  | .cells l wr => match k with
    | true => match mapO (ren1 bl) l with
      | some m => some (.cells m wr, True)
      | none => none
    | false => some (.cells l wr, NLs l)
  | .iter s p => some (.iter s p, True)
def renObjs (bl : List (Nat × Bool)) (hp : Tr AObj) : List (Nat × Bool) → Option (List (Option AObj) × Prop)
  | [] => some ([], True)
  | (b, k) :: l => match renObjs bl hp l with
    | some (os, ob) => match hp.get b with
      | some o => match renObj bl k o with
        | some (o', ob') => some (some o' :: os, ob' ∧ ob)
        | none => none
      | none => some (none :: os, ob)
    | none => none
def putObjs : Nat → List (Option AObj) → Tr AObj → Tr AObj
  | _, [], t => t
  | i, o :: l, t => putObjs (i + 1) l (t.put i o)
theorem putObjs_get : ∀ (l : List (Option AObj)) (i : Nat) (t : Tr AObj) (j : Nat), (putObjs i l t).get j = if i ≤ j ∧ j < i + l.length then (l[j - i]?).join else t.get j
  | [], i, t, j => by simp [putObjs]; omega
  | o :: l, i, t, j => by
    simp only [putObjs, putObjs_get l, Tr.get_put, List.length_cons]
    by_cases h : j = i
    · subst h
      rw [if_neg (by omega), if_pos rfl, if_pos (by omega)]
      simp
    · by_cases h2 : i + 1 ≤ j ∧ j < i + 1 + l.length
      · rw [if_pos h2, if_pos (by omega), show j - i = (j - (i + 1)) + 1 by omega]; simp
      · rw [if_neg h2, if_neg h, if_neg (by omega)]
def renTms (bl : List (Nat × Bool)) (tm : Tr Value) : List Nat → Option (Tr Value)
  | [] => some .e
  | t :: l => match renTms bl tm l with
    | some r => match tm.get t with
      | some v => match ren bl v with
        | some u => some (r.put t (some u))
        | none => none
      | none => some r
    | none => none
def scanTms (tm : Tr Value) : List Nat → List (Nat × Bool) → List (Nat × Bool)
  | [], l => l
  | t :: ts, l => scanTms tm ts (match tm.get t with | some v => scan l v | none => l)
def baseL : Nat → List Bool → List (Nat × Bool)
  | _, [] => []
  | i, k :: l => (i, k) :: baseL (i + 1) l
/-- The state with the named slots alone; its blocks numbered anew, those of the base first. -/
def canon (base : List Bool) (ts : List Nat) (st : AS) : Option (AS × Prop) :=
  let bl := scanB st.hp 60 0 (scanTms st.tm ts (baseL 0 base))
  bif nodupB bl && baseB base.length 0 bl then match renTms bl st.tm ts, renObjs bl st.hp bl with
    | some tm, some (os, ob) => some (⟨tm, putObjs 0 os .e, bl.length⟩, ob)
    | _, _ => none
  else none
theorem renTms_get {bl : List (Nat × Bool)} {tm : Tr Value} : ∀ {ts : List Nat} {r : Tr Value}, renTms bl tm ts = some r → ∀ t u, r.get t = some u → ∃ v, tm.get t = some v ∧ ren bl v = some u
  | [], r, h, t, u, hu => by simp only [renTms] at h; cases h; simp [Tr.get_e] at hu
  | x :: l, r, h, t, u, hu => by
    simp only [renTms] at h
    split at h
    case h_2 => cases h
    rename_i r0 h0
    split at h
    · rename_i v hv
      split at h
      case h_2 => cases h
      rename_i u0 hu0
      cases h
      rw [Tr.get_put] at hu
      split at hu
      · rename_i e
        cases hu
        exact ⟨v, by rw [e]; exact hv, hu0⟩
      · exact renTms_get h0 t u hu
    · cases h
      exact renTms_get h0 t u hu
theorem renObjs_len {bl : List (Nat × Bool)} {hp : Tr AObj} : ∀ {l : List (Nat × Bool)} {os : List (Option AObj)} {ob : Prop}, renObjs bl hp l = some (os, ob) → os.length = l.length
  | [], os, ob, h => by simp only [renObjs] at h; cases h; rfl
  | (b, k) :: l, os, ob, h => by
    simp only [renObjs] at h
    split at h
    case h_2 => cases h
    rename_i os0 ob0 h0
    have := renObjs_len h0
    split at h
    · split at h
      · cases h; simp [this]
      · cases h
    · cases h; simp [this]
theorem renObjs_get {bl : List (Nat × Bool)} {hp : Tr AObj} : ∀ {l : List (Nat × Bool)} {os : List (Option AObj)} {ob : Prop}, renObjs bl hp l = some (os, ob) → ob → ∀ (i : Nat) (o : AObj), os[i]? = some (some o) → ∃ b k o0 ob0, l[i]? = some (b, k) ∧ hp.get b = some o0 ∧ renObj bl k o0 = some (o, ob0) ∧ ob0
  | [], os, ob, h, _, i, o, ho => by simp only [renObjs] at h; cases h; simp at ho
  | (b, k) :: l, os, ob, h, hob, i, o, ho => by
    simp only [renObjs] at h
    split at h
    case h_2 => cases h
    rename_i os0 ob0 h0
    split at h
    · rename_i o0 hg
      split at h
      case h_2 => cases h
      rename_i o1 ob1 h1
      cases h
      cases i with
      | zero =>
        simp at ho
        subst ho
        exact ⟨b, k, o0, ob1, rfl, hg, h1, hob.1⟩
      | succ i => simpa using renObjs_get h0 hob.2 i o (by simpa using ho)
    · cases h
      cases i with
      | zero => simp at ho
      | succ i => simpa using renObjs_get h0 hob i o (by simpa using ho)
theorem renObj_wr {bl : List (Nat × Bool)} {k : Bool} {o o' : AObj} {ob : Prop} (h : renObj bl k o = some (o', ob)) : o'.wr = o.wr := by
  cases o with
  | cells l wr =>
    cases k with
    | true =>
      simp only [renObj] at h
      split at h
      · cases h; rfl
      · cases h
    | false => simp only [renObj] at h; cases h; rfl
  | iter s p => simp only [renObj] at h; cases h; rfl
theorem mapO_get {f : Value → Option Value} : ∀ {l m : List Value}, mapO f l = some m → m.length = l.length ∧ ∀ (i : Nat) (u : Value), m[i]? = some u → ∃ v, l[i]? = some v ∧ f v = some u
  | [], m, h => by simp only [mapO] at h; cases h; exact ⟨rfl, fun i u hu => by simp at hu⟩
  | v :: l, m, h => by
    simp only [mapO] at h
    split at h
    case h_2 => cases h
    rename_i u m' h1 h2
    cases h
    obtain ⟨g1, g2⟩ := mapO_get h2
    refine ⟨by simp [g1], fun i x hx => ?_⟩
    cases i with
    | zero => simp at hx; subst hx; exact ⟨v, rfl, h1⟩
    | succ i => simpa using g2 i x (by simpa using hx)
theorem renObj_sound {ρ : Place} {O : Nat → Prop} {bl : List (Nat × Bool)} {k : Bool} {o o' : AObj} {ob : Prop} {c s z : Nat} {cob : Obj} (h : renObj bl k o = some (o', ob)) (hob : ob) (ho : ORel ρ O c s z o cob) : ORel (ρ.via bl) O c s z o' cob := by
  cases o with
  | iter st p => simp only [renObj] at h; cases h; cases cob <;> exact ho
  | cells l wr =>
    cases cob <;> try exact ho.elim
    obtain ⟨h1, h2, h3, h4, h5⟩ := ho
    cases k with
    | true =>
      simp only [renObj] at h
      split at h
      case h_2 => cases h
      rename_i m hm
      cases h
      obtain ⟨g1, g2⟩ := mapO_get hm
      refine ⟨h1, by rw [g1]; exact h2, h3, fun i u hu => ?_, h5⟩
      obtain ⟨v, hv, hr⟩ := g2 i u hu
      obtain ⟨v', e, hvr⟩ := h4 i v hv
      exact ⟨v', e, ren1_sound hr hvr⟩
    | false =>
      simp only [renObj] at h
      cases h
      refine ⟨h1, h2, h3, fun i u hu => ?_, h5⟩
      obtain ⟨v', e, hvr⟩ := h4 i u hu
      have h0 : VR0 ρ.fr u v' := nl1_sound (hob u (List.mem_of_getElem? hu)) hvr
      exact ⟨v', e, VR0.lift (ρ := ρ.via bl) h0⟩
theorem canon_sound {ρ : Place} {W : Base} {n : Nat} {st st' : AS} {a : Act} {w : World} {base : List Bool} {ts : List Nat} {ob : Prop} (h : SRel ρ W n st a w) (hc : canon base ts st = some (st', ob)) (hob : ob) :
    ∃ ρ', SRel ρ' W n st' a w ∧ ρ'.fr = ρ.fr ∧ ∀ b, b < base.length → ρ'.pl b = ρ.pl b := by
  unfold canon at hc
  dsimp only at hc
  generalize scanB st.hp 60 0 (scanTms st.tm ts (baseL 0 base)) = bl at hc
  cases hb : nodupB bl && baseB base.length 0 bl with
  | false => rw [hb] at hc; cases hc
  | true =>
    rw [hb, cond_true] at hc
    simp only [Bool.and_eq_true] at hb
    split at hc
    case h_2 => cases hc
    rename_i tm os ob' h1 h2
    cases hc
    have hlen := renObjs_len h2
    have hget : ∀ i o, (putObjs 0 os .e).get i = some o → os[i]? = some (some o) := fun i o ho => by
      rw [putObjs_get] at ho
      split at ho
      · simp only [Nat.sub_zero] at ho
        cases hx : os[i]? with
        | none => rw [hx] at ho; cases ho
        | some x => rw [hx] at ho; simp at ho; rw [ho]
      · simp [Tr.get_e] at ho
    have hvia : ∀ i x, (ρ.via bl).pl i = some x → ∃ b k, bl[i]? = some (b, k) ∧ ρ.pl b = some x := fun i x hx => by
      unfold Place.via at hx
      dsimp only at hx
      split at hx
      · rename_i p hp
        exact ⟨p.1, p.2, hp, hx⟩
      · cases hx
    have hobj : ∀ i o x, (putObjs 0 os .e).get i = some o → (ρ.via bl).pl i = some x → ∃ b k o0 ob0, bl[i]? = some (b, k) ∧ st.hp.get b = some o0 ∧ renObj bl k o0 = some (o, ob0) ∧ ob0 ∧ ρ.pl b = some x := fun i o x ho hx => by
      obtain ⟨b, k, o0, ob0, g1, g2, g3, g4⟩ := renObjs_get h2 hob i o (hget i o ho)
      obtain ⟨b', k', q1, q2⟩ := hvia i x hx
      rw [g1] at q1
      cases q1
      exact ⟨b, k, o0, ob0, g1, g2, g3, g4, q2⟩
    refine ⟨ρ.via bl, ⟨⟨fun i x hx => ?_, fun i o c s z ho hx => ?_, fun i j x y o1 o2 g1 g2 hx hy hxy => ?_, fun i hi => ?_, h.rel.below, h.rel.frz, fun i o c s z ho hw hx => ?_, h.rel.frn⟩, h.frame.size, h.frame.defers, fun t u hu => ?_⟩, rfl, fun b hlt => ?_⟩
    · obtain ⟨b, k, q1, q2⟩ := hvia i x hx
      refine ⟨?_, (h.rel.dom b x q2).2⟩
      rcases Nat.lt_or_ge i bl.length with h' | h'
      · exact h'
      · rw [List.getElem?_eq_none h'] at q1; cases q1
    · obtain ⟨b, k, o0, ob0, q1, q2, q3, q4, q5⟩ := hobj i o _ ho hx
      obtain ⟨cob, e1, e2⟩ := h.rel.obj b o0 c s z q2 q5
      exact ⟨cob, e1, renObj_sound q3 q4 e2⟩
    · obtain ⟨b, k, o0, ob0, q1, q2, q3, q4, q5⟩ := hobj i o1 _ g1 hx
      obtain ⟨b', k', o0', ob0', r1, r2, r3, r4, r5⟩ := hobj j o2 _ g2 hy
      have e := h.rel.inj b b' x y o0 o0' q2 r2 q5 r5 hxy
      subst e
      exact nodupB_inj hb.1 q1 r1
    · have hi' : bl.length ≤ i := hi
      show (putObjs 0 os .e).get i = none
      rw [putObjs_get, if_neg (by omega)]
      exact Tr.get_e i
    · obtain ⟨b, k, o0, ob0, q1, q2, q3, q4, q5⟩ := hobj i o _ ho hx
      exact h.rel.apart b o0 c s z q2 (by rw [← renObj_wr q3]; exact hw) q5
    · obtain ⟨v, hv, hr⟩ := renTms_get h1 t u hu
      have := h.frame.slot t v hv
      exact ⟨this.1, ren_sound hr this.2⟩
    · obtain ⟨k, hk⟩ := baseB_get hb.2 b hlt
      unfold Place.via
      dsimp only
      rw [hk]
      simp
end Go.Proofs.YtegjnjmimfgijaaGreatDoor
