/-
  Symbolic runs, part 9b: contracts of functions that write blocks of their caller's. Conditions: as each theorem states them.
-/
import Derived.Test.YtegjnjmimfgijaaGreatDoorSj
noncomputable section
namespace Go.Proofs.YtegjnjmimfgijaaGreatDoor
open Go Go.RowKit

def hpOf (conts : List (List Value)) : Tr AObj := putObjs 0 (conts.map fun l => some (.cells l true)) .e
theorem hpOf_get (conts : List (List Value)) (i : Nat) : (hpOf conts).get i = (conts[i]?).map fun l => .cells l true := by
  unfold hpOf
  rw [putObjs_get]
  simp only [Nat.zero_le, true_and, List.length_map, Nat.zero_add, Nat.sub_zero, List.getElem?_map]
  by_cases h : i < conts.length
  · rw [if_pos h, List.getElem?_eq_getElem h]; rfl
  · rw [if_neg h, List.getElem?_eq_none (by omega)]; exact Tr.get_e i
/-- What the first blocks hold. -/
def outs (hp : Tr AObj) : Nat → Nat → Option (List (List Value))
  | _, 0 => some []
  | i, n + 1 => match hp.get i with
    | some (.cells l true) => match outs hp (i + 1) n with
      | some ls => some (l :: ls)
      | none => none
    | _ => none
theorem outs_get {hp : Tr AObj} : ∀ {n i : Nat} {ls : List (List Value)}, outs hp i n = some ls → ls.length = n ∧ ∀ (j : Nat) (l : List Value), ls[j]? = some l → hp.get (i + j) = some (.cells l true)
  | 0, i, ls, h => by simp only [outs] at h; cases h; exact ⟨rfl, fun j l hj => by simp at hj⟩
  | n + 1, i, ls, h => by
    simp only [outs] at h
    split at h
    case h_2 => cases h
    rename_i l hl
    split at h
    case h_2 => cases h
    rename_i ls0 h0
    cases h
    obtain ⟨g1, g2⟩ := outs_get h0
    refine ⟨by simp [g1], fun j x hx => ?_⟩
    cases j with
    | zero => simp at hx; subst hx; exact hl
    | succ j => rw [show i + (j + 1) = i + 1 + j by omega]; exact g2 j x (by simpa using hx)
def nlAll : List (List Value) → Bool
  | [] => true
  | l :: ls => l.all nl1 && nlAll ls
theorem nlAll_get : ∀ {ls : List (List Value)}, nlAll ls = true → ∀ l ∈ ls, NLs l
  | [], _, l, h => by cases h
  | x :: ls, h, l, hl => by
    simp only [nlAll, Bool.and_eq_true] at h
    rcases List.mem_cons.1 hl with rfl | hl
    · exact fun v hv => List.all_eq_true.1 h.1 v hv
    · exact nlAll_get h.2 l hl
def ipost (n : Nat) (Post : Value → List (List Value) → Prop) (v : Value) (hp : Tr AObj) : Prop :=
  match outs hp 0 n with
  | some ls => nlAll ls = true ∧ Post v ls
  | none => False
/-- A contract of a function that writes blocks of its caller's: their contents before and behind. -/
def SpecI (P : Program) (f : FuncId) (conts : List (List Value)) (args : List Value) (Post : Value → List (List Value) → Prop) : Prop := Spec P f conts.length (hpOf conts) args (ipost conts.length Post)
structure IEnt where
  f : FuncId
  c : List Value → List (List Value) → (Value → List (List Value) → Prop) → Prop
def IEntOk (P : Program) (e : IEnt) : Prop := ∀ args conts Post, e.c args conts Post → SpecI P e.f conts args Post
def ientOf (f : FuncId) : List IEnt → Option IEnt
  | [] => none
  | e :: l => bif e.f.beq f then some e else ientOf f l
theorem ientOf_mem {f : FuncId} {e : IEnt} : ∀ {l : List IEnt}, ientOf f l = some e → e ∈ l ∧ e.f = f
  | [], h => by simp [ientOf] at h
  | x :: l, h => by
    simp only [ientOf] at h
    cases hx : x.f.beq f with
    | true => rw [hx] at h; cases h; exact ⟨by simp, Nat.eq_of_beq_eq_true hx⟩
    | false => rw [hx, cond_false] at h; exact ⟨by simp [(ientOf_mem h).1], (ientOf_mem h).2⟩
def contsOf (hp : Tr AObj) : List (Nat × Bool) → Option (List (List Value))
  | [] => some []
  | (b, _) :: l => match hp.get b with
    | some (.cells c true) => match contsOf hp l with
      | some cs => some (c :: cs)
      | none => none
    | _ => none
theorem contsOf_get {hp : Tr AObj} : ∀ {l : List (Nat × Bool)} {cs : List (List Value)}, contsOf hp l = some cs → cs.length = l.length ∧ ∀ (i b : Nat) (k : Bool), l[i]? = some (b, k) → ∃ c, cs[i]? = some c ∧ hp.get b = some (.cells c true)
  | [], cs, h => by simp only [contsOf] at h; cases h; exact ⟨rfl, fun i b k hi => by simp at hi⟩
  | (b, k) :: l, cs, h => by
    simp only [contsOf] at h
    split at h
    case h_2 => cases h
    rename_i c hc
    split at h
    case h_2 => cases h
    rename_i cs0 h0
    cases h
    obtain ⟨g1, g2⟩ := contsOf_get h0
    refine ⟨by simp [g1], fun i b' k' hi => ?_⟩
    cases i with
    | zero => simp at hi; obtain ⟨rfl, rfl⟩ := hi; exact ⟨c, rfl, hc⟩
    | succ i => simpa using g2 i b' k' (by simpa using hi)
def putConts : List (Nat × Bool) → List (List Value) → Tr AObj → Tr AObj
  | (b, _) :: l, c :: cs, hp => putConts l cs (hp.put b (some (.cells c true)))
  | _, _, hp => hp
theorem putConts_get : ∀ {l : List (Nat × Bool)} {cs : List (List Value)} {hp : Tr AObj}, nodupB l = true → cs.length = l.length → ∀ b, (∀ (i : Nat) (k : Bool) (c : List Value), l[i]? = some (b, k) → cs[i]? = some c → (putConts l cs hp).get b = some (.cells c true)) ∧ (memB b l = false → (putConts l cs hp).get b = hp.get b)
  | [], cs, hp, _, hl, b => by
    cases cs with
    | nil => exact ⟨fun i k c hi => by simp at hi, fun _ => rfl⟩
    | cons c cs => simp at hl
  | (x, k0) :: l, [], hp, _, hl, b => by simp at hl
  | (x, k0) :: l, c :: cs, hp, hn, hl, b => by
    simp only [nodupB] at hn
    cases hm : memB x l with
    | true => rw [hm] at hn; cases hn
    | false =>
      rw [hm, cond_false] at hn
      obtain ⟨g1, g2⟩ := putConts_get (hp := hp.put x (some (.cells c true))) hn (by simpa using hl) b
      simp only [putConts]
      refine ⟨fun i k c' hi hc => ?_, fun hb => ?_⟩
      · cases i with
        | zero =>
          simp at hi hc
          obtain ⟨rfl, rfl⟩ := hi
          subst hc
          rw [g2 hm, Tr.get_put, if_pos rfl]
        | succ i => exact g1 i k c' (by simpa using hi) (by simpa using hc)
      · simp only [memB] at hb
        cases hx : x.beq b with
        | true => rw [hx] at hb; cases hb
        | false =>
          rw [hx, cond_false] at hb
          rw [g2 hb, Tr.get_put, if_neg (fun e => by subst e; simp at hx)]
def icall (e : IEnt) (args : List Value) (hp : Tr AObj) (nx : Nat) (K : Value → Bool → Tr AObj → Nat → Prop) : Prop :=
  let bl := args.foldl scan0 []
  bif nodupB bl then match mapO (ren bl) args, contsOf hp bl with
    | some vs0, some cs => nlAll cs = true ∧ e.c vs0 cs fun v cs' => cs'.length = cs.length ∧ K v true (putConts bl cs' hp) nx
    | _, _ => False
  else False
theorem addB_mem {b b' : Nat} {k k' : Bool} {l : List (Nat × Bool)} (h : (b', k') ∈ addB b k l) : (b', k') ∈ l ∨ b' = b := by
  unfold addB at h
  cases hm : memB b l with
  | true => rw [hm] at h; exact .inl h
  | false =>
    rw [hm, cond_false] at h
    rcases List.mem_append.1 h with h | h
    · exact .inl h
    · simp at h; exact .inr h.1
theorem scan0_placed {ρ : Place} : ∀ {args args' : List Value} {l : List (Nat × Bool)}, VRL ρ args args' → (∀ p ∈ l, ∃ x, ρ.pl p.1 = some x) → ∀ p ∈ args.foldl scan0 l, ∃ x, ρ.pl p.1 = some x
  | [], _, l, _, hl, p, hp => hl p hp
  | v :: vs, _, l, h, hl, p, hp => by
    cases h with
    | cons hv hvs =>
      refine scan0_placed hvs (fun q hq => ?_) p hp
      obtain ⟨b', k'⟩ := q
      cases hv <;> try exact hl _ hq
      case ptr hb =>
        rcases addB_mem hq with hq | rfl
        · exact hl _ hq
        · exact ⟨_, hb⟩
      case slice hb _ _ =>
        rcases addB_mem hq with hq | rfl
        · exact hl _ hq
        · exact ⟨_, hb⟩
      case emptySlice hb =>
        rcases addB_mem hq with hq | rfl
        · exact hl _ hq
        · exact ⟨_, hb⟩
      case iface ht =>
        cases ht <;> try exact hl _ hq
        case ptr hb =>
          rcases addB_mem hq with hq | rfl
          · exact hl _ hq
          · exact ⟨_, hb⟩
theorem memB_mem {b : Nat} : ∀ {l : List (Nat × Bool)}, memB b l = true → ∃ (i : Nat) (k : Bool), l[i]? = some (b, k)
  | [], h => by cases h
  | x :: l, h => by
    simp only [memB] at h
    cases hx : x.1.beq b with
    | true => exact ⟨0, x.2, by simp [← Nat.eq_of_beq_eq_true hx]⟩
    | false =>
      rw [hx, cond_false] at h
      obtain ⟨i, k, hi⟩ := memB_mem h
      exact ⟨i + 1, k, by simpa using hi⟩
theorem icall_ok {P : Program} {e : IEnt} (he : IEntOk P e) {args : List Value} {hp : Tr AObj} {nx : Nat} {K : Value → Bool → Tr AObj → Nat → Prop} (h : icall e args hp nx K) {W : Base} {ρ : Place} {w : World} {args' : List Value} (hrel : Rel ρ W hp nx w) (hargs : VRL ρ args args') :
    Calls P e.f args'.toArray w fun e w' => ∃ v c hp' nx' v' ρ', K v c hp' nx' ∧ (c = false → hp' = hp) ∧ e = .returned v' ∧ VR ρ' v v' ∧ Rel ρ' W hp' nx' w' ∧ Step ρ ρ' hp hp' nx nx' := by
  unfold icall at h
  dsimp only at h
  have hplaced := scan0_placed (l := []) hargs (fun p hp => by cases hp)
  generalize args.foldl scan0 [] = bl at h hplaced
  cases hnd : nodupB bl with
  | false => rw [hnd] at h; exact h.elim
  | true =>
    rw [hnd, cond_true] at h
    split at h
    case h_2 => exact h.elim
    rename_i vs0 cs ha hc
    obtain ⟨hnl, h⟩ := h
    obtain ⟨hlen, hget⟩ := contsOf_get hc
    have hnls := nlAll_get hnl
    have hvia : ∀ (i : Nat) (x : Nat × Nat × Nat), (ρ.via bl).pl i = some x → ∃ (b : Nat) (k : Bool), bl[i]? = some (b, k) ∧ ρ.pl b = some x := fun i x hx => by
      unfold Place.via at hx
      dsimp only at hx
      split at hx
      · rename_i p hp
        exact ⟨p.1, p.2, hp, hx⟩
      · cases hx
    have viaAt : ∀ (i b : Nat) (k : Bool), bl[i]? = some (b, k) → (ρ.via bl).pl i = ρ.pl b := fun i b k hi => by unfold Place.via; simp [hi]
    let mu : Nat → Prop := fun c => ∃ (i b : Nat) (k : Bool) (x : Nat × Nat × Nat), bl[i]? = some (b, k) ∧ ρ.pl b = some x ∧ x.1 = c
    have hobj : ∀ i o x, (hpOf cs).get i = some o → (ρ.via bl).pl i = some x → ∃ (b : Nat) (k : Bool) (c : List Value), bl[i]? = some (b, k) ∧ ρ.pl b = some x ∧ cs[i]? = some c ∧ o = .cells c true ∧ hp.get b = some (.cells c true) := fun i o x ho hx => by
      obtain ⟨b, k, h1, h2⟩ := hvia i x hx
      obtain ⟨c, h3, h4⟩ := hget i b k h1
      rw [hpOf_get, h3] at ho
      cases ho
      exact ⟨b, k, c, h1, h2, h3, rfl, h4⟩
    have muNew : ∀ c, mu c → ¬ W.old c := fun c ⟨i, b, k, x, h1, h2, h3⟩ => by
      obtain ⟨cc, _, h4⟩ := hget i b k h1
      obtain ⟨ob, _, ho⟩ := hrel.obj b _ x.1 x.2.1 x.2.2 h4 h2
      cases ob <;> try exact ho.elim
      rw [← h3]
      exact ho.2.2.2.2 rfl
    have hrel1 : Rel (ρ.via bl) ⟨w, mu, ρ.fr, []⟩ (hpOf cs) cs.length w := by
      refine ⟨fun i x hx => ?_, fun i o c s z ho hx => ?_, fun i j x y o1 o2 g1 g2 hx hy hxy => ?_, fun i hi => ?_, ⟨rfl, rfl, rfl, Nat.le_refl _, fun _ _ => rfl⟩, hrel.frz, fun i o c s z ho _ hx => ?_, fun c ob hc => .inl hc⟩
      · obtain ⟨b, k, h1, h2⟩ := hvia i x hx
        refine ⟨?_, (hrel.dom b x h2).2⟩
        rw [hlen]
        exact (List.getElem?_eq_some_iff.1 h1).1
      · obtain ⟨b, k, cc, h1, h2, h3, rfl, h4⟩ := hobj i o _ ho hx
        obtain ⟨ob, e1, e2⟩ := hrel.obj b _ c s z h4 h2
        refine ⟨ob, e1, ?_⟩
        cases ob <;> try exact e2.elim
        obtain ⟨k1, k2, k3, k4, k5⟩ := e2
        refine ⟨k1, k2, k3, fun j v hv => ?_, fun _ ho' => ho'.2 ⟨i, b, k, _, h1, h2, rfl⟩⟩
        obtain ⟨v', q1, q2⟩ := k4 j v hv
        have h0 : VR0 ρ.fr v v' := nl1_sound (hnls cc (List.mem_of_getElem? h3) v (List.mem_of_getElem? hv)) q2
        exact ⟨v', q1, VR0.lift (ρ := ρ.via bl) h0⟩
      · obtain ⟨b, k, cc, h1, h2, h3, _, h4⟩ := hobj i o1 _ g1 hx
        obtain ⟨b', k', cc', r1, r2, r3, _, r4⟩ := hobj j o2 _ g2 hy
        have e := hrel.inj b b' x y _ _ h4 r4 h2 r2 hxy
        subst e
        exact nodupB_inj hnd h1 r1
      · rw [hpOf_get, List.getElem?_eq_none hi]; rfl
      · obtain ⟨b, k, cc, h1, h2, h3, _, h4⟩ := hobj i o _ ho hx
        exact hrel.apart b _ c s z h4 rfl h2
    have hargs1 : VRL (ρ.via bl) vs0 args' := mapO_sound (fun _ _ _ => ren_sound) ha hargs
    refine (he vs0 cs _ h ⟨w, mu, ρ.fr, []⟩ (ρ.via bl) w args' hrel1 hargs1).mono ?_
    rintro e' w' ⟨v, hp1, nx1, v', ρ1, hP, rfl, hv, hr, hg⟩
    unfold ipost at hP
    split at hP
    case h_2 => exact hP.elim
    rename_i cs' hcs'
    obtain ⟨hnl', hlen', hK⟩ := hP
    obtain ⟨_, hget'⟩ := outs_get hcs'
    have hnls' := nlAll_get hnl'
    have hlb : cs'.length = bl.length := hlen'.trans hlen
    have hsz : w.heap.size ≤ w'.heap.size := hr.below.size
    have hle : ρ.le ⟨ρ.pl, ρ1.fr, ρ1.gl⟩ := ⟨fun _ _ h => h, fun c x hc => hg.2 c x hc⟩
    have lt : ∀ {c : Nat} {ob : Obj}, w.heap[c]? = some ob → c < w.heap.size := fun {c ob} hc => by
      rcases Nat.lt_or_ge c w.heap.size with h' | h'
      · exact h'
      · rw [Array.getElem?_eq_none h'] at hc; cases hc
    have old : ∀ c, c < w.heap.size → ¬ mu c → w'.heap[c]? = w.heap[c]? := fun c hc hm => hr.below.block c ⟨hc, hm⟩
    -- the blocks that were handed over
    have inb : ∀ b, memB b bl = true → ∃ (i : Nat) (k : Bool) (x : Nat × Nat × Nat) (c c' : List Value), bl[i]? = some (b, k) ∧ ρ.pl b = some x ∧ ρ1.pl i = some x ∧ hp.get b = some (.cells c true) ∧ cs'[i]? = some c' ∧ hp1.get i = some (.cells c' true) ∧ (putConts bl cs' hp).get b = some (.cells c' true) := fun b hb => by
      obtain ⟨i, k, hi⟩ := memB_mem hb
      obtain ⟨x, hx⟩ := hplaced (b, k) (List.mem_of_getElem? hi)
      obtain ⟨c, _, h4⟩ := hget i b k hi
      have hil : i < bl.length := (List.getElem?_eq_some_iff.1 hi).1
      have hc' : cs'[i]? = some (cs'[i]'(by omega)) := List.getElem?_eq_getElem (by omega)
      have h5 := hget' i _ hc'
      rw [Nat.zero_add] at h5
      exact ⟨i, k, x, c, _, hi, hx, hg.1 i x (by omega) (by rw [viaAt i b k hi]; exact hx), h4, hc', h5, (putConts_get hnd hlb b).1 i k _ hi hc'⟩
    have outb : ∀ b, memB b bl = false → (putConts bl cs' hp).get b = hp.get b := fun b hb => (putConts_get hnd hlb b).2 hb
    have notmu : ∀ b o x, memB b bl = false → hp.get b = some o → ρ.pl b = some x → ¬ mu x.1 := fun b o x hb ho hx ⟨i, b', k, x', h1, h2, h3⟩ => by
      obtain ⟨c, _, h4⟩ := hget i b' k h1
      have e := hrel.inj b' b x' x _ _ h4 ho h2 hx h3
      subst e
      rw [memB_of h1] at hb
      cases hb
    have live : ∀ b o, (putConts bl cs' hp).get b = some o → ∃ o', hp.get b = some o' ∧ (o.wr = true → o'.wr = true) := fun b o ho => by
      cases hb : memB b bl with
      | true =>
        obtain ⟨i, k, x, c, c', h1, h2, h3, h4, h5, h6, h7⟩ := inb b hb
        exact ⟨_, h4, fun _ => rfl⟩
      | false => rw [outb b hb] at ho; exact ⟨o, ho, fun h => h⟩
    refine ⟨v, true, putConts bl cs' hp, nx, v', ⟨ρ.pl, ρ1.fr, ρ1.gl⟩, hK, fun e => (by cases e), rfl, VR0.lift (ρ := ⟨ρ.pl, ρ1.fr, ρ1.gl⟩) hv, ?_, ⟨hle, Nat.le_refl _, fun b hb hn => ⟨hn, ?_⟩⟩⟩
    · refine ⟨fun b x hb => ⟨(hrel.dom b x hb).1, Nat.lt_of_lt_of_le (hrel.dom b x hb).2 hsz⟩, fun b o c s z ho hx => ?_, fun b b' x x' o o' h1 h2 hx hx' hxx => ?_, fun b hb => ?_, ⟨hr.below.os.trans hrel.below.os, hr.below.tape.trans hrel.below.tape, hr.below.output.trans hrel.below.output, Nat.le_trans hrel.below.size hsz, fun k hk => ?_⟩, hr.frz, fun b o c s z ho hw hx => ?_, fun c ob hc => ?_⟩
      · cases hb : memB b bl with
        | true =>
          obtain ⟨i, k, x, c0, c', h1, h2, h3, h4, h5, h6, h7⟩ := inb b hb
          rw [h7] at ho
          cases ho
          have hx' : ρ.pl b = some (c, s, z) := hx
          rw [h2] at hx'
          cases hx'
          obtain ⟨ob, e1, e2⟩ := hr.obj i _ c s z h6 h3
          refine ⟨ob, e1, ?_⟩
          cases ob <;> try exact e2.elim
          obtain ⟨k1, k2, k3, k4, k5⟩ := e2
          refine ⟨k1, k2, k3, fun j u hu => ?_, fun _ => muNew c ⟨i, b, k, _, h1, h2, rfl⟩⟩
          obtain ⟨u', q1, q2⟩ := k4 j u hu
          have h0 : VR0 ρ1.fr u u' := nl1_sound (hnls' c' (List.mem_of_getElem? h5) u (List.mem_of_getElem? hu)) q2
          exact ⟨u', q1, VR0.lift (ρ := ⟨ρ.pl, ρ1.fr, ρ1.gl⟩) h0⟩
        | false =>
          rw [outb b hb] at ho
          obtain ⟨ob, e1, e2⟩ := hrel.obj b o c s z ho hx
          exact ⟨ob, by rw [old c (lt e1) (notmu b o _ hb ho hx)]; exact e1, e2.mono hle⟩
      · obtain ⟨_, g1, _⟩ := live b o h1
        obtain ⟨_, g2, _⟩ := live b' o' h2
        exact hrel.inj b b' x x' _ _ g1 g2 hx hx' hxx
      · cases hm : memB b bl with
        | true =>
          obtain ⟨i, k, x, c0, c', h1, h2, _⟩ := inb b hm
          have := (hrel.dom b x h2).1
          omega
        | false => rw [outb b hm]; exact hrel.fresh b hb
      · have hkw : k < w.heap.size := Nat.lt_of_lt_of_le hk.1 hrel.below.size
        rw [old k hkw fun hm => muNew k hm hk]
        exact hrel.below.block k hk
      · show ρ1.fr c = none
        cases hcf : ρ1.fr c with
        | none => rfl
        | some ob =>
          exfalso
          obtain ⟨o', g1, g2⟩ := live b o ho
          have hcl := (hrel.dom b _ hx).2
          cases hb : memB b bl with
          | true =>
            obtain ⟨i, k, x, c0, c', h1, h2, h3, h4, h5, h6, h7⟩ := inb b hb
            have hx' : ρ.pl b = some (c, s, z) := hx
            rw [h2] at hx'
            cases hx'
            have := hr.apart i _ c s z h6 rfl h3
            rw [this] at hcf
            cases hcf
          | false =>
            rcases hr.frn c ob hcf with q | q
            · have h5 : ρ.fr c = some ob := q
              rw [hrel.apart b o' c s z g1 (g2 hw) hx] at h5
              cases h5
            · rw [outb b hb] at ho
              exact q ⟨hcl, notmu b o _ hb ho hx⟩
      · rcases hr.frn c ob hc with q | q
        · exact hrel.frn c ob q
        · refine .inr fun h2 => ?_
          have hcw : c < w.heap.size := Nat.lt_of_lt_of_le h2.1 hrel.below.size
          exact q ⟨hcw, fun hm => muNew c hm h2⟩
    · refine outb b ?_
      cases hm : memB b bl with
      | false => rfl
      | true =>
        obtain ⟨i, k, x, c0, c', h1, h2, _⟩ := inb b hm
        rw [h2] at hn
        cases hn
def itabCall (tab : List IEnt) (next : VCall) : VCall := fun f args hp nx K =>
  match ientOf f tab with
  | some e => icall e args hp nx K
  | none => next f args hp nx K
theorem itabCall_ok {P : Program} {tab : List IEnt} {next : VCall} (ht : ∀ e ∈ tab, IEntOk P e) (hn : VCallOk P next) : VCallOk P (itabCall tab next) := by
  intro f args hp nx K h W ρ w args' hrel hargs
  unfold itabCall at h
  split at h
  · rename_i e he
    obtain ⟨h1, rfl⟩ := ientOf_mem he
    exact icall_ok (ht e h1) h hrel hargs
  · exact hn f args hp nx K h W ρ w args' hrel hargs
/-- What must be shown for a function that writes blocks of its caller's. -/
def vcI (P : Program) (vc : VCall) (f : FuncId) (lt : List (Nat × List Nat)) (conts : List (List Value)) (args : List Value) (H : Code → List Fr → AS → Prop) (Post : Value → List (List Value) → Prop) : Prop :=
  vcE P vc f lt (List.replicate conts.length false) (hpOf conts) args H (ipost conts.length Post)
def vcLI (P : Program) (vc : VCall) (f : FuncId) (na : List Value) (lt : List (Nat × List Nat)) (n : Nat) (r : Nat) (st : AS) (H : Code → List Fr → AS → Prop) (Post : Value → List (List Value) → Prop) : Prop :=
  vcL P vc f na lt (List.replicate n false) r st H (ipost n Post)
def OkI (P : Program) (f : FuncId) (na : List Value) (n : Nat) (Post : Value → List (List Value) → Prop) : Code → List Fr → AS → Prop := Ok P f na (List.replicate n false) (ipost n Post)
theorem spec_I {P : Program} {vc : VCall} (hcall : VCallOk P vc) (hm : P.follows .mixedOrders = true) {f : FuncId} (hf : (P.funcs[f]?).isSome = true) (hc : (fnAt P f).body.isSome = true) (lt : List (Nat × List Nat)) {conts : List (List Value)} {args : List Value} {Post : Value → List (List Value) → Prop}
    {X : Prop} (e : vcI P vc f lt conts args (OkI P f args conts.length Post) Post = X) (h : X) : SpecI P f conts args Post := by
  have := spec_E (base := List.replicate conts.length false) hcall hm hf hc (lt := lt) (Eq.mpr e h)
  rw [List.length_replicate] at this
  exact this
theorem ok_I {P : Program} {vc : VCall} (hcall : VCallOk P vc) (hm : P.follows .mixedOrders = true) {f : FuncId} {na : List Value} (lt : List (Nat × List Nat)) {n r : Nat} {st : AS} {Post : Value → List (List Value) → Prop}
    {X : Prop} (e : vcLI P vc f na lt n r st (OkI P f na n Post) Post = X) (h : X) : OkI P f na n Post (lpC P f r) (lpK P f r) st := ok_L (lt := lt) hcall hm (Eq.mpr e h)
end Go.Proofs.YtegjnjmimfgijaaGreatDoor
