/-
  Put together out of several texts, each in its own namespace's block. Conditions: as each theorem states them.
-/
import Derived.Test.YtojlhapbngcjkaaGreatDoorQYg
import Derived.Test.YtojlhapbngcjkaaGreatDoorQSgb
import Derived.Test.YtojlhapbngcjkaaGreatDoorQSr
import Derived.Test.YtojlhapbngcjkaaGreatDoorQMc
noncomputable section
namespace Go.Proofs.YtojlhapbngcjkaaGreatDoor
open Go Go.RowKit
set_option maxRecDepth 100000
set_option maxHeartbeats 8000000
def digB (m : Nat) : ByteArray := ⟨(Lib.decDigits m).toArray⟩
theorem digB_small {m : Nat} (h : m < 10) : digB m = ⟨#[UInt8.ofNat (48 + m)]⟩ := by
 unfold digB
 rw [Lib.decDigits, dif_pos h]
theorem digB_big {m : Nat} (h : ¬ m < 10) : digB m = digB (m / 10) ++ ⟨#[UInt8.ofNat (48 + m % 10)]⟩ := by
 apply ba_eq
 unfold digB
 rw [Lib.decDigits, dif_neg h]
 simp [ba_app]
theorem wrapU {n : Int} (h0 : 0 ≤ n) (h1 : n < 18446744073709551616) : IntKind.u64.wrap n = n := by
 simp [IntKind.wrap, IntKind.bits, IntKind.signed]
 omega
theorem wrap8 {n : Int} (h0 : 0 ≤ n) (h1 : n < 256) : IntKind.u8.wrap n = n := by
 simp [IntKind.wrap, IntKind.bits, IntKind.signed]
 omega
theorem dig_byte (m : Nat) : bytesL [.int .u8 (IntKind.u8.wrap (IntKind.u64.wrap (48 + Int.tmod (m : Int) 10)))] = ⟨#[UInt8.ofNat (48 + m % 10)]⟩ := by
 have e : Int.tmod (m : Int) 10 = ((m % 10 : Nat) : Int) := rfl
 rw [e, wrapU (by omega) (by omega), wrap8 (by omega) (by omega), show (48 : Int) + ((m % 10 : Nat) : Int) = ((48 + m % 10 : Nat) : Int) by omega]
 rfl
def sgnT (n : Int) (t : ByteArray) : ByteArray := if n < 0 then ⟨#[45]⟩ ++ t else t
abbrev stT (n : Int) (m : Nat) (s : ByteArray) : AS := stV [(0, some (.int .i64 n)), (3, some (.string s)), (4, some (.int .u64 (m : Nat)))] [] 0
theorem allU8_one (x : Int) : AllU8 [.int .u8 x] := fun v hv => by
 simp only [List.mem_cons, List.not_mem_nil, or_false] at hv
 exact ⟨_, hv⟩
theorem vcTx_ok : VCallOk Tryz.prog vcTx := inlCall_ok mixed noCall_ok 2
abbrev dg1 (m : Nat) : ByteArray := ⟨#[UInt8.ofNat (48 + m % 10)]⟩
theorem rtext_step {n : Int} {Post : Value → Prop} {m : Nat} {s : ByteArray} (hm : m < 18446744073709551616) (hz : s.size ≤ 1000)
  (ha : 0 < m ∨ s = ⟨#[]⟩ → OkP 26 [.int .i64 n] 3 Post (stT n (m / 10) (dg1 m ++ s))) (hb : m = 0 → ¬ s = ⟨#[]⟩ → Post (.string (sgnT n s))) : OkP 26 [.int .i64 n] 3 Post (stT n m s) := by
 refine ok_P vcTx_ok mixed _ (l_rtext n m s _ _) ?_
 have e1 : Int.tdiv (m : Int) 10 = ((m / 10 : Nat) : Int) := rfl
 have e2 : (⟨#[UInt8.ofNat (48 + m % 10)]⟩ : ByteArray).size = 1 := rfl
 simp only [true_and, and_true, Nat.le_refl, dig_byte, e1]
 rw [wrapU (n := ((m / 10 : Nat) : Int)) (by omega) (by omega)]
 refine ifC (fun h0 => ⟨by decide, allU8_one _, by omega, by decide, ha (.inl (by omega))⟩) (fun h0 => ifC (fun e => ⟨by decide, allU8_one _, by omega, by decide, ha (.inr e)⟩) fun e => ?_)
 have h := hb (by omega) e
 unfold sgnT at h
 exact ifC (fun hn => by rw [if_pos hn] at h; exact ⟨by omega, h⟩) (fun hn => by rw [if_neg hn] at h; exact h)
theorem rtext_in {n : Int} {Post : Value → Prop} : ∀ (f m : Nat) (s : ByteArray), m < 10 ^ f → m < 18446744073709551616 → 0 < s.size → s.size + f ≤ 1000 →
  Post (.string (sgnT n (if 0 < m then digB m ++ s else s))) → OkP 26 [.int .i64 n] 3 Post (stT n m s) := by
 intro f
 induction f with
 | zero =>
  intro m s hf hm hs hz h
  obtain rfl : m = 0 := by simpa using hf
  exact rtext_step hm (by omega) (fun h' => by
   rcases h' with h' | h'
   ·omega
   ·rw [h'] at hs; exact absurd hs (by decide)) (fun _ _ => h)
 | succ f ih =>
  intro m s hf hm hs hz h
  refine rtext_step hm (by omega) (fun h' => ?_) (fun h' _ => by subst h'; exact h)
  have h0 : 0 < m := by
   rcases h' with h' | h'
   ·exact h'
   ·rw [h'] at hs; exact absurd hs (by decide)
  have e2 : (dg1 m).size = 1 := rfl
  rw [if_pos h0] at h
  refine ih (m / 10) _ (by rw [Nat.pow_succ] at hf; omega) (by omega) (by rw [ByteArray.size_append]; omega) (by rw [ByteArray.size_append]; omega) ?_
  by_cases h10 : m < 10
  ·rw [if_neg (by omega)]
   rw [digB_small h10] at h
   rw [show dg1 m = ⟨#[UInt8.ofNat (48 + m)]⟩ by unfold dg1; rw [Nat.mod_eq_of_lt h10]]
   exact h
  ·rw [if_pos (by omega), ← ba_assoc, ← digB_big h10]
   exact h
theorem rtext_mag {n : Int} {Post : Value → Prop} {m : Nat} (hm : m < 18446744073709551616) (h : Post (.string (sgnT n (digB m)))) : OkP 26 [.int .i64 n] 3 Post (stT n m ⟨#[]⟩) := by
 have e3 : (⟨#[]⟩ : ByteArray).size = 0 := rfl
 have e4 : dg1 m ++ (⟨#[]⟩ : ByteArray) = dg1 m := by apply ba_eq; simp [ba_app]
 have e2 : (dg1 m).size = 1 := rfl
 refine rtext_step hm (by omega) (fun _ => ?_) (fun _ e => absurd rfl e)
 rw [e4]
 have p20 : (10 : Nat) ^ 20 = 100000000000000000000 := by decide
 refine rtext_in 20 (m / 10) _ (by omega) (by omega) (by omega) (by omega) ?_
 by_cases h10 : m < 10
 ·rw [if_neg (by omega)]
  rw [digB_small h10] at h
  rw [show dg1 m = ⟨#[UInt8.ofNat (48 + m)]⟩ by unfold dg1; rw [Nat.mod_eq_of_lt h10]]
  exact h
 ·rw [if_pos (by omega), ← digB_big h10]
  exact h
theorem ok_rtext : EntOk Tryz.prog ⟨26, c_text⟩ := by
 rintro args Post ⟨n, rfl, ⟨h1, h2⟩, h⟩
 refine pure_P vcTx_ok mixed (by kernel_rfl) (by kernel_rfl) _ (e_rtext n _ _) ?_
 simp only [true_and]
 refine ifC (fun hn => ?_) (fun hn => ?_)
 ·have e : IntKind.u64.wrap (0 - IntKind.u64.wrap n) = ((n.natAbs : Nat) : Int) := by
   simp [IntKind.wrap, IntKind.bits, IntKind.signed]
   omega
  rw [e]
  refine rtext_mag (by omega) ?_
  have e5 : decB n = sgnT n (digB n.natAbs) := by
   unfold sgnT decB Lib.itoa digB
   rw [if_pos hn, if_pos hn]
   apply ba_eq
   simp [ba_app]
  rw [← e5]
  exact h
 ·have e : IntKind.u64.wrap n = ((n.toNat : Nat) : Int) := by
   rw [wrapU (by omega) (by omega)]
   omega
  rw [e]
  refine rtext_mag (by omega) ?_
  have e5 : decB n = sgnT n (digB n.toNat) := by
   unfold sgnT decB Lib.itoa digB
   rw [if_neg hn, if_neg hn]
  rw [← e5]
  exact h
theorem Rel.tocell {ρ : Place} {W : Base} {hp : Tr AObj} {nx : Nat} {w : World} (h : Rel ρ W hp nx w) {bb j : Nat} {l : List Value} {u : Value} (hg : hp.get bb = some (.cells l true))
  (hu : ∀ c s z cs t fr, ρ bb = some (c, s, z) → w.heap[c]? = some (.cells cs t fr) → ∃ v', cs[s + j]? = some v' ∧ VR ρ u v') : Rel ρ W (hp.put bb (some (.cells (l.set j u) true))) nx w := by
 have sub : ∀ k o, (hp.put bb (some (.cells (l.set j u) true))).get k = some o → ∃ o', hp.get k = some o' ∧ (o.wr = true → o'.wr = true) := fun k o hk => by
  rw [Tr.get_put] at hk
  split at hk
  ·next e => subst e; cases hk; exact ⟨_, hg, fun h => h⟩
  ·exact ⟨o, hk, fun h => h⟩
 refine ⟨h.dom, fun b o c s z ho hb => ?_, fun b b' x x' o o' h1 h2 => ?_, fun b hb => ?_, h.below, h.frz, fun b o c s z ho hw hb => ?_, h.frn⟩
 ·rw [Tr.get_put] at ho
  split at ho
  ·next e =>
   subst e
   cases ho
   obtain ⟨ob, e1, e2⟩ := h.obj _ _ c s z hg hb
   refine ⟨ob, e1, ?_⟩
   cases ob <;> try exact e2.elim
   rename_i cs t fr
   obtain ⟨a1, a2, a3, a4, a5⟩ := e2
   refine ⟨a1, by rw [List.length_set]; exact a2, a3, fun i v hv => ?_, a5⟩
   by_cases hij : i = j
   ·subst hij
    rw [List.getElem?_set] at hv
    simp only [if_true] at hv
    split at hv
    ·cases hv
     exact hu c s z cs t fr hb e1
    ·cases hv
   ·rw [List.getElem?_set_ne (fun e => hij e.symm)] at hv
    exact a4 i v hv
  ·exact h.obj b o c s z ho hb
 ·obtain ⟨q, e, _⟩ := sub b o h1
  obtain ⟨q', e', _⟩ := sub b' o' h2
  exact h.inj b b' x x' q q' e e'
 ·rw [Tr.get_put]
  split
  ·next e => subst e; rw [h.fresh _ hb] at hg; cases hg
  ·exact h.fresh b hb
 ·obtain ⟨q, e, f⟩ := sub b o ho
  exact h.apart b q c s z e (f hw) hb
def okL (hp : Tr AObj) (v : Value) : Bool :=
 match v with
 | .slice (some ⟨b, o, none⟩) n sz => match hp.get b with
  | some (.cells l _) => (o + n * sz).ble l.length && (l.drop o).all nl1
  | _ => true
 | _ => true
theorem frzL_ok {P : Program} {N : Nat} {t : TypeId} {hp hp' : Tr AObj} {v u : Value} {ob : Prop} (h : frzL P N t hp v = some (u, hp', ob)) (hk : okL hp v = true) : ob := by
 have base : ∀ {v : Value}, (bif nl1 v then some (v, hp, True) else none) = some (u, hp', ob) → ob := fun {v} h => by
  cases hn : nl1 v with
  | false => rw [hn] at h; cases h
  | true => rw [hn] at h; cases h; trivial
 unfold frzL at h
 split at h
 ·rename_i e b o n sz hu
  split at h
  case h_2 => cases h
  rename_i z l hz hg
  cases hc : z.beq sz && N.ble b with
  | false => rw [hc] at h; cases h
  | true =>
   rw [hc] at h
   cases h
   simp only [okL, hg, Bool.and_eq_true] at hk
   exact ⟨Nat.le_of_ble_eq_true hk.1, fun v hv => List.all_eq_true.1 hk.2 v hv⟩
 ·split at h
  case h_2 => cases h
  cases h
  trivial
 ·exact base h
def okC (P : Program) (N : Nat) : List TypeId → List Value → Tr AObj → Bool
 | t :: ts, v :: vs, hp => okL hp v && match frzL P N t hp v with
  | some (_, hp1, _) => okC P N ts vs hp1
  | none => true
 | _, _, _ => true
theorem frzC_ok {P : Program} {N : Nat} : ∀ {ts : List TypeId} {vs us : List Value} {hp hp' : Tr AObj} {ob : Prop}, frzC P N ts vs hp = some (us, hp', ob) → okC P N ts vs hp = true → ob
 | [], [], us, hp, hp', ob, h, _ => by simp only [frzC] at h; cases h; trivial
 | [], _ :: _, us, hp, hp', ob, h, _ => by simp [frzC] at h
 | _ :: _, [], us, hp, hp', ob, h, _ => by simp [frzC] at h
 | t :: ts, v :: vs, us, hp, hp', ob, h, hk => by
  simp only [frzC] at h
  split at h
  case h_2 => cases h
  rename_i u hp1 o1 h1
  split at h
  case h_2 => cases h
  rename_i us0 hp2 o2 h2
  cases h
  simp only [okC, Bool.and_eq_true, h1] at hk
  exact ⟨frzL_ok h1 hk.1, frzC_ok h2 hk.2⟩
def okT (P : Program) (N : Nat) (t : TypeId) (hp : Tr AObj) (v : Value) : Bool :=
 match v with
 | .agg c => match leaves P 20 t with
  | some ts => okC P N ts c.toList hp
  | none => true
 | v => okL hp v
theorem frzT_ok {P : Program} {N : Nat} {t : TypeId} {hp hp' : Tr AObj} {v u : Value} {ob : Prop} (h : frzT P N t hp v = some (u, hp', ob)) (hk : okT P N t hp v = true) : ob := by
 unfold frzT at h
 unfold okT at hk
 split at h
 ·split at h
  case h_2 => cases h
  rename_i ts hl
  split at h
  case h_2 => cases h
  rename_i us hp2 ob2 h2
  cases h
  dsimp only at hk
  rw [hl] at hk
  exact frzC_ok h2 hk
 ·rename_i hne
  refine frzL_ok h ?_
  split at hk
  ·rename_i c
   exact (hne c rfl).elim
  ·exact hk
def okTs (P : Program) (N : Nat) : List TypeId → List Value → Tr AObj → Bool
 | t :: ts, v :: vs, hp => okT P N t hp v && match frzT P N t hp v with
  | some (_, hp1, _) => okTs P N ts vs hp1
  | none => true
 | _, _, _ => true
theorem frzTs_ok {P : Program} {N : Nat} : ∀ {ts : List TypeId} {vs us : List Value} {hp hp' : Tr AObj} {ob : Prop}, frzTs P N ts vs hp = some (us, hp', ob) → okTs P N ts vs hp = true → ob
 | [], [], us, hp, hp', ob, h, _ => by simp only [frzTs] at h; cases h; trivial
 | [], _ :: _, us, hp, hp', ob, h, _ => by simp [frzTs] at h
 | _ :: _, [], us, hp, hp', ob, h, _ => by simp [frzTs] at h
 | t :: ts, v :: vs, us, hp, hp', ob, h, hk => by
  simp only [frzTs] at h
  split at h
  case h_2 => cases h
  rename_i u hp1 o1 h1
  split at h
  case h_2 => cases h
  rename_i us0 hp2 o2 h2
  cases h
  simp only [okTs, Bool.and_eq_true, h1] at hk
  exact ⟨frzT_ok h1 hk.1, frzTs_ok h2 hk.2⟩
def deepB (b : Nat) : List Nat → Tr AObj → Option (Tr AObj)
 | [], hp => some hp
 | j :: js, hp => match hp.get b with
  | some (.cells l true) => match l[j]? with
   | some (.slice (some ⟨b', o', none⟩) n' sz') => match frzS 0 hp (.slice (some ⟨b', o', none⟩) n' sz') with
    | some (u, hp1, _) => bif okL hp (.slice (some ⟨b', o', none⟩) n' sz') && !(b.beq b') then deepB b js (hp1.put b (some (.cells (l.set j u) true))) else none
    | none => none
   | some _ => deepB b js hp
   | none => none
  | _ => none
theorem frzS_own {hp hp1 : Tr AObj} {b o n sz : Nat} {u : Value} {ob : Prop} (h : frzS 0 hp (.slice (some ⟨b, o, none⟩) n sz) = some (u, hp1, ob)) (hk : okL hp (.slice (some ⟨b, o, none⟩) n sz) = true) : ob ∧ hp1 = hp.put b none := by
 unfold frzS at h
 dsimp only at h
 split at h
 case h_2 => cases h
 rename_i l hg
 rw [show Nat.ble 0 b = true from Nat.ble_eq_true_of_le (Nat.zero_le b), cond_true] at h
 cases h
 simp only [okL, hg, Bool.and_eq_true] at hk
 exact ⟨⟨Nat.le_of_ble_eq_true hk.1, fun v hv => List.all_eq_true.1 hk.2 v hv⟩, rfl⟩
theorem deepB_sound {b : Nat} {W : Base} {nx : Nat} {w : World} : ∀ {js : List Nat} {hp hp' : Tr AObj} {ρ : Place}, Rel ρ W hp nx w → deepB b js hp = some hp' → ∃ ρ', Rel ρ' W hp' nx w ∧ ρ.le ρ'
 | [], hp, hp', ρ, h, hd => by simp only [deepB] at hd; cases hd; exact ⟨ρ, h, .refl ρ⟩
 | j :: js, hp, hp', ρ, h, hd => by
  simp only [deepB] at hd
  split at hd
  case h_2 => cases hd
  rename_i l hg
  split at hd
  case h_3 => cases hd
  case h_2 => exact deepB_sound h hd
  rename_i b' o' n' sz' hj
  split at hd
  case h_2 => cases hd
  rename_i u hp1 ob hf
  cases hc : okL hp (.slice (some ⟨b', o', none⟩) n' sz') && !(b.beq b') with
  | false => rw [hc] at hd; cases hd
  | true =>
   rw [hc, cond_true] at hd
   simp only [Bool.and_eq_true, Bool.not_eq_true'] at hc
   obtain ⟨hob, rfl⟩ := frzS_own hf hc.1
   have hne : ¬ b = b' := fun e => by rw [e, Nat.beq_refl] at hc; cases hc.2
   have h1 : (hp.put b' none).get b = some (.cells l true) := by rw [Tr.get_put, if_neg hne, hg]
   cases hρ : ρ b with
   | none =>
    obtain ⟨ρ', q1, q2⟩ := deepB_sound ((h.drop b').tocell h1 (fun c s z cs t fr hc _ => by rw [hρ] at hc; cases hc)) hd
    exact ⟨ρ', q1, q2⟩
   | some x =>
    obtain ⟨c, s, z⟩ := x
    obtain ⟨o1, e1, e2⟩ := h.obj b _ c s z hg hρ
    cases o1 <;> try exact e2.elim
    rename_i cs t' fr
    obtain ⟨v', e3, hv⟩ := e2.2.2.2.1 j _ hj
    obtain ⟨ρ1, g1, g2, g3⟩ := frzS_sound h hv hf hob
    have hb := g2.le.1 b _ hρ
    obtain ⟨ρ', q1, q2⟩ := deepB_sound (g1.tocell h1 (fun c' s' z' cs' t'' fr' hc he => by
     have e := hb.symm.trans hc
     cases e
     rw [e1] at he
     cases he
     exact ⟨v', e3, g3⟩)) hd
    exact ⟨ρ', q1, g2.le.trans q2⟩
def deepA (args : List Value) : List (Nat × Nat) → Tr AObj → Option (Tr AObj)
 | [], hp => some hp
 | (i, j) :: l, hp => match args[i]? with
  | some (.agg c) => match c[j]? with
   | some (.slice (some ⟨b, _, none⟩) _ _) => match hp.get b with
    | some (.cells cs _) => match deepB b (List.range cs.length) hp with
     | some hp1 => deepA args l hp1
     | none => none
    | _ => none
   | some _ => deepA args l hp
   | none => none
  | _ => none
theorem deepA_sound {args : List Value} {W : Base} {nx : Nat} {w : World} : ∀ {l : List (Nat × Nat)} {hp hp' : Tr AObj} {ρ : Place}, Rel ρ W hp nx w → deepA args l hp = some hp' → ∃ ρ', Rel ρ' W hp' nx w ∧ ρ.le ρ'
 | [], hp, hp', ρ, h, hd => by simp only [deepA] at hd; cases hd; exact ⟨ρ, h, .refl ρ⟩
 | (i, j) :: l, hp, hp', ρ, h, hd => by
  simp only [deepA] at hd
  split at hd
  case h_2 => cases hd
  split at hd
  case h_3 => cases hd
  case h_2 => exact deepA_sound h hd
  split at hd
  case h_2 => cases hd
  split at hd
  case h_2 => cases hd
  rename_i hp1 hb
  obtain ⟨ρ1, g1, g2⟩ := deepB_sound h hb
  obtain ⟨ρ2, k1, k2⟩ := deepA_sound g1 hd
  exact ⟨ρ2, k1, g2.trans k2⟩
def all2 (p : Value → Value → Bool) : List Value → List Value → Bool
 | [], [] => true
 | x :: l, y :: m => p x y && all2 p l m
 | _, _ => false
theorem all2_get {p : Value → Value → Bool} : ∀ {l m : List Value}, all2 p l m = true → l.length = m.length ∧ ∀ (i : Nat) (x y : Value), l[i]? = some x → m[i]? = some y → p x y = true
 | [], [], _ => ⟨rfl, fun i x y h => by simp at h⟩
 | [], _ :: _, h => by simp [all2] at h
 | _ :: _, [], h => by simp [all2] at h
 | a :: l, b :: m, h => by
  simp only [all2, Bool.and_eq_true] at h
  obtain ⟨h1, h2⟩ := all2_get h.2
  refine ⟨by simp [h1], fun i x y hx hy => ?_⟩
  cases i with
  | zero => cases hx; cases hy; exact h.1
  | succ i => exact h2 i x y (by simpa using hx) (by simpa using hy)
def weq : Nat → Value → Value → Bool
 | 0, _, _ => false
 | k + 1, v, w => match v, w with
  | .slice none 0 _, .func (.via _ p n false) els c => p.isEmpty && c.isEmpty && n.beq 0 && els.isEmpty
  | .func (.via sz p n false) els c, .func (.via sz' p' n' false) els' c' => p.isEmpty && p'.isEmpty && c.isEmpty && c'.isEmpty && sz.beq sz' && n.beq n' && all2 (fun u u' => all2 (weq k) u.cells.toList u'.cells.toList) els.toList els'.toList
  | .agg a, .agg b => all2 (weq k) a.toList b.toList
  | v, w => veqFlat v w
theorem weq_sound : ∀ {k : Nat} {v w : Value}, weq k v w = true → ∀ (fr : Nat → Option Obj) (x : Value), VR0 fr v x → VR0 fr w x
 | 0, v, w, h => by simp [weq] at h
 | k + 1, v, w, h => by
  intro fr x hx
  unfold weq at h
  split at h
  ·rename_i sz p n els c
   simp only [Bool.and_eq_true, Array.isEmpty_iff] at h
   obtain ⟨⟨⟨rfl, rfl⟩, hn⟩, rfl⟩ := h
   obtain rfl := Nat.eq_of_beq_eq_true hn
   cases hx
   exact .treeNil _ _ _
  ·rename_i sz p n els c sz' p' n' els' c'
   simp only [Bool.and_eq_true, Array.isEmpty_iff] at h
   obtain ⟨⟨⟨⟨⟨⟨rfl, rfl⟩, rfl⟩, rfl⟩, hs⟩, hn⟩, ha⟩ := h
   obtain rfl := Nat.eq_of_beq_eq_true hs
   obtain rfl := Nat.eq_of_beq_eq_true hn
   obtain ⟨a1, a2⟩ := all2_get ha
   have hsz : els'.size = els.size := by simpa using a1.symm
   have get : ∀ (i : Nat) (u' : Value), els'[i]? = some u' → ∃ u, els[i]? = some u ∧ all2 (weq k) u.cells.toList u'.cells.toList = true := fun i u' hu => by
    have hi : i < els.size := by
     have := (Array.getElem?_eq_some_iff.1 hu).1
     omega
    exact ⟨els[i], by simp [hi], a2 i _ _ (by simp [hi]) (by simpa using hu)⟩
   cases hx with
   | tree hb h1 h2 h3 h4 h5 =>
    refine .tree hb (hsz.trans h1) h2 h3 (fun i u' hu => ?_) (fun i j u' v' x hu hv hx => ?_)
    ·obtain ⟨u, e, hc⟩ := get i u' hu
     have := (all2_get hc).1
     rw [← h4 i u e]
     simpa using this.symm
    ·obtain ⟨u, e, hc⟩ := get i u' hu
     obtain ⟨b1, b2⟩ := all2_get hc
     have hj : j < u.cells.size := by
      have := (Array.getElem?_eq_some_iff.1 hv).1
      simp only [Array.length_toList] at b1
      omega
     have hw := b2 j u.cells[j] v' (by simp [hj]) (by simpa using hv)
     exact weq_sound hw _ _ (h5 i j u u.cells[j] x e (by simp [hj]) hx)
   | treeNil =>
    obtain rfl : els' = #[] := Array.eq_empty_of_size_eq_zero hsz
    exact .treeNil _ _ _
  ·rename_i a b
   obtain ⟨a1, a2⟩ := all2_get h
   have hsz : a.size = b.size := by simpa using a1
   cases hx with
   | agg hs hc =>
    refine .agg (by rw [← hsz]; exact hs) fun i v v' hv hv' => ?_
    have hi : i < a.size := by
     have := (Array.getElem?_eq_some_iff.1 hv).1
     omega
    have hw := a2 i a[i] v (by simp [hi]) (by simpa using hv)
    exact weq_sound hw _ _ (hc i a[i] v' (by simp [hi]) hv')
  ·rw [← veqFlat_eq h]
   exact hx
structure FEntry where
 f : FuncId
 deep : List (Nat × Nat)
 fn : List Value → Option (List Value × Value)
def FEntryOk (P : Program) (e : FEntry) : Prop := ∀ us ps v, e.fn us = some (ps, v) → Pure P e.f ps fun u => u = v
def atF (ps : List Value) (v : Value) (us : List Value) : Option (List Value × Value) := bif all2 (weq 9) us ps then some (ps, v) else none
theorem atF_eq {ps qs us : List Value} {v u : Value} (h : atF ps v us = some (qs, u)) : qs = ps ∧ u = v := by
 unfold atF at h
 cases hc : all2 (weq 9) us ps with
 | false => rw [hc] at h; cases h
 | true => rw [hc] at h; cases h; exact ⟨rfl, rfl⟩
theorem atF_ok {P : Program} {f : FuncId} {deep : List (Nat × Nat)} {ps : List Value} {v : Value} (h : Pure P f ps fun u => u = v) : FEntryOk P ⟨f, deep, atF ps v⟩ := fun us qs u hu => by
 obtain ⟨rfl, rfl⟩ := atF_eq hu
 exact h
def fnOf (f : FuncId) : List FEntry → Option FEntry
 | [] => none
 | e :: l => bif e.f.beq f then some e else fnOf f l
theorem fnOf_mem {f : FuncId} {e : FEntry} : ∀ {l : List FEntry}, fnOf f l = some e → e ∈ l ∧ e.f = f
 | [], h => by simp [fnOf] at h
 | x :: l, h => by
  simp only [fnOf] at h
  cases hx : x.f.beq f with
  | true => rw [hx] at h; cases h; exact ⟨by simp, Nat.eq_of_beq_eq_true hx⟩
  | false => rw [hx, cond_false] at h; exact ⟨by simp [(fnOf_mem h).1], (fnOf_mem h).2⟩
def orcF (P : Program) (tab : List FEntry) (next : ACall) : ACall := fun f args hp nx =>
 match fnOf f tab with
 | some e => match P.funcs[f]? with
  | some fn => match deepA args e.deep hp with
   | some hp0 => match frzTs P 0 fn.params.toList args hp0 with
    | some (us, _, _) => match e.fn us with
      | some (ps, v) => bif okTs P 0 fn.params.toList args hp0 && ps.all nl && all2 (weq 9) us ps && closed v then some (v, hp, nx) else none
      | none => none
    | none => none
   | none => none
  | none => none
 | none => next f args hp nx
theorem orcF_ok {P : Program} {tab : List FEntry} {next : ACall} (ht : ∀ e ∈ tab, FEntryOk P e) (hnx : ∀ W, CallOk P W next) (W : Base) : CallOk P W (orcF P tab next) := by
 intro f args hp nx v hp' nx' h ρ w args' hrel hargs
 unfold orcF at h
 split at h
 case h_2 => exact hnx W f args hp nx v hp' nx' h ρ w args' hrel hargs
 rename_i e he
 obtain ⟨h1, rfl⟩ := fnOf_mem he
 split at h
 case h_2 => cases h
 split at h
 case h_2 => cases h
 rename_i hp0 hd
 obtain ⟨ρ0, r1, r2⟩ := deepA_sound hrel hd
 split at h
 case h_2 => cases h
 rename_i us hp1 ob hf
 split at h
 case h_2 => cases h
 rename_i ps u hu
 cases hc : okTs P 0 _ args hp0 && ps.all nl && all2 (weq 9) us ps && closed u with
 | false => rw [hc] at h; cases h
 | true =>
  rw [hc, cond_true] at h
  simp only [Bool.and_eq_true] at hc
  obtain ⟨⟨⟨c1, c2⟩, c3⟩, hcl⟩ := hc
  cases h
  obtain ⟨ρ1, g1, g2, g3, g4⟩ := frzTs_sound r1 (hargs.mono r2) hf (frzTs_ok hf c1)
  obtain ⟨d1, d2⟩ := all2_get c3
  have hargs1 : VRL ρ1 ps args' := .of (by rw [← d1]; exact g3) fun i v v' a b => by
   have hi : i < us.length := by
    rw [d1]
    exact (List.getElem?_eq_some_iff.1 a).1
   exact VR0.lift (weq_sound (d2 i us[i] v (List.getElem?_eq_getElem hi) a) _ _ (g4 i us[i] v' (List.getElem?_eq_getElem hi) b))
  refine ((ht e h1 us ps _ hu).call c2 g1 hargs1).mono ?_
  rintro e' w' ⟨v, v', ρ2, rfl, rfl, q1, q2, q3, q4, q5⟩
  have e : v' = v := closed_eq hcl q1
  exact ⟨v, ρ, by rw [e], closed_refl hcl, hrel.later q5, .refl _ _ _⟩
def yieldsO (P : Program) (orc : ACall) (k f : Nat) : Bool :=
 match acallO P orc k f [] .e 0 with
 | some (.bool b, _) => b
 | _ => false
theorem pure_yieldsO {P : Program} (hm : P.follows .mixedOrders = true) {orc : ACall} (ho : ∀ W, CallOk P W orc) {k f : Nat} (h : yieldsO P orc k f = true) : EntOk P ⟨f, fun args Post => args = [] ∧ Post (.bool true)⟩ := by
 rintro args Post ⟨rfl, hP⟩
 unfold yieldsO at h
 split at h
 case h_2 => cases h
 rename_i b st hc
 subst h
 intro W ρ w args' hrel hargs
 refine ((acode_sound hm ho k).2.2 W f [] .e 0 (.bool true) st.1 st.2 hc ρ w args' hrel hargs).mono ?_
 rintro e w' ⟨v', ρ', rfl, h1, h2, h3⟩
 exact ⟨.bool true, st.1, st.2, v', ρ', hP, rfl, nl1_sound (by rfl) h1, h2, ⟨fun b x hb => by omega, h3.le.2⟩⟩
def c_at (a : List Value) (v : Value) (args : List Value) (Post : Value → Prop) : Prop := args = a ∧ Post v
theorem ok_at {f : FuncId} {a : List Value} {v : Value} (h : Pure Tryz.prog f a fun u => u = v) : EntOk Tryz.prog ⟨f, c_at a v⟩ := by
 rintro args Post ⟨rfl, hP⟩
 exact fun W ρ w args' h1 h2 => (h W ρ w args' h1 h2).mono fun e w' ⟨u, hp', nx', v', ρ', q, r⟩ => ⟨u, hp', nx', v', ρ', q ▸ hP, r⟩
def vcTz : VCall := inlCall Tryz.prog [253] noCall 3
theorem e_tz  (H : HT) (Post : PV) : vcP Tryz.prog vcTz 226 [] [.int .u64 16] H Post = (let q3 := IntKind.bits IntKind.u64; let q2 := (IntKind.wrap IntKind.u64 (IntKind.wrap IntKind.u64 (↑(BitVec.toNat (BitVec.ofInt q3 16 &&& BitVec.ofInt q3 (IntKind.wrap IntKind.u64 (0 - 16)))) : Int) * 285870213051353865)); let q1 := toI (cellAt #[Value.agg #[Value.int IntKind.u8 0, Value.int IntKind.u8 1, Value.int IntKind.u8 56, Value.int IntKind.u8 2, Value.int IntKind.u8 57, Value.int IntKind.u8 49, Value.int IntKind.u8 28, Value.int IntKind.u8 3, Value.int IntKind.u8 61, Value.int IntKind.u8 58, Value.int IntKind.u8 42, Value.int IntKind.u8 50, Value.int IntKind.u8 38, Value.int IntKind.u8 29, Value.int IntKind.u8 17, Value.int IntKind.u8 4, Value.int IntKind.u8 62, Value.int IntKind.u8 47, Value.int IntKind.u8 59, Value.int IntKind.u8 36, Value.int IntKind.u8 45, Value.int IntKind.u8 43, Value.int IntKind.u8 51, Value.int IntKind.u8 22, Value.int IntKind.u8 53, Value.int IntKind.u8 39, Value.int IntKind.u8 33, Value.int IntKind.u8 30, Value.int IntKind.u8 24, Value.int IntKind.u8 18, Value.int IntKind.u8 12, Value.int IntKind.u8 5, Value.int IntKind.u8 63, Value.int IntKind.u8 55, Value.int IntKind.u8 48, Value.int IntKind.u8 27, Value.int IntKind.u8 60, Value.int IntKind.u8 41, Value.int IntKind.u8 37, Value.int IntKind.u8 16, Value.int IntKind.u8 46, Value.int IntKind.u8 35, Value.int IntKind.u8 44, Value.int IntKind.u8 21, Value.int IntKind.u8 52, Value.int IntKind.u8 32, Value.int IntKind.u8 23, Value.int IntKind.u8 11, Value.int IntKind.u8 54, Value.int IntKind.u8 26, Value.int IntKind.u8 40, Value.int IntKind.u8 15, Value.int IntKind.u8 34, Value.int IntKind.u8 20, Value.int IntKind.u8 31, Value.int IntKind.u8 10, Value.int IntKind.u8 25, Value.int IntKind.u8 14, Value.int IntKind.u8 19, Value.int IntKind.u8 9, Value.int IntKind.u8 13, Value.int IntKind.u8 8, Value.int IntKind.u8 7, Value.int IntKind.u8 6]] 0 (0 + 15)); T8 (T2 (toI (vi 0) ≤ 58 ∧ (toI (vi 0) ≤ Int.fdiv q2 (2 ^ min (Int.toNat 58) q3) ∧ toI (vi (Int.fdiv q2 (2 ^ min (Int.toNat 58) q3))) < (↑64 : Int)) ∧ Value.int IntKind.u8 4 = Value.int IntKind.u8 q1 ∧ T4 (Post (vi (IntKind.wrap IntKind.i64 q1)))))) := by kernel_rfl
theorem tz16 : Pure Tryz.prog 226 [.int .u64 16] fun u => u = .int .i64 4 := by
 refine pure_P (inlCall_ok mixed noCall_ok 3) mixed (by kernel_rfl) (by kernel_rfl) _ (e_tz _ _) ?_
 repeat' (first | exact rfl | refine And.intro ?_ ?_ | trivial | decide | kernel_rfl)
def node0 : Value := .agg #[.string ⟨#[66, 49]⟩, .int .i64 1, .string ⟨#[]⟩]
def part0 : Value := .agg #[.string ⟨#[80, 49]⟩, .int .i64 1, .int .i64 4, .string ⟨#[66, 49]⟩, .string ⟨#[]⟩, .int .i64 0, tree 2 0 #[], tree 1 0 #[], .string ⟨#[]⟩, .int .i64 0, .int .i64 5000, .int .i64 0, .int .i64 0, .int .i64 0, .int .i64 0, .int .i64 0, .int .i64 0, .int .i64 0]
def state0 : Value := .agg #[.int .i64 0, .string ⟨#[72, 49]⟩, tree 3 1 #[node0], tree 18 1 #[part0], tree 6 0 #[], tree 5 0 #[], tree 3 0 #[], tree 1 0 #[], tree 6 0 #[], tree 5 0 #[], tree 6 0 #[], tree 6 0 #[], tree 8 0 #[], tree 1 0 #[], tree 8 0 #[], tree 3 0 #[], tree 4 0 #[], tree 3 0 #[], .int .i64 (-1), .int .i64 (-1)]
def setup0 : Value := .agg #[tree 4 0 #[], tree 4 0 #[], tree 6 0 #[], tree 6 0 #[], tree 2 0 #[], tree 2 0 #[], tree 1 2 #[.int .i64 0, .int .i64 1000], tree 1 2 #[.int .i64 0, .int .i64 500], tree 1 2 #[tree 1 2 #[.int .i64 500, .int .i64 500], tree 1 2 #[.int .i64 500, .int .i64 500]], .int .i64 1025, .int .i64 500, .int .i64 0, .int .i64 500, tree 3 0 #[], .string ⟨#[72, 49]⟩, tree 3 1 #[node0], tree 18 1 #[part0], tree 6 0 #[], tree 5 0 #[], tree 3 0 #[]]
def matT : ByteArray := ⟨#[77, 65, 84, 69, 82, 73, 65, 76, 83, 32, 72, 49, 10, 80, 49, 32, 114, 101, 118, 32, 49, 32, 109, 105, 115, 115, 105, 110, 103, 10]⟩
def weldT : ByteArray := ⟨#[87, 69, 76, 68, 83, 32, 72, 49, 10]⟩
def wtsT : ByteArray := ⟨#[87, 69, 73, 71, 72, 84, 83, 32, 72, 49, 10, 116, 111, 116, 97, 108, 32, 109, 97, 115, 115, 32, 48, 32, 115, 105, 103, 109, 97, 32, 48, 10]⟩
def bodyT : ByteArray := ⟨#[77, 65, 84, 69, 82, 73, 65, 76, 83, 32, 72, 49, 10, 80, 49, 32, 114, 101, 118, 32, 49, 32, 109, 105, 115, 115, 105, 110, 103, 10, 87, 69, 76, 68, 83, 32, 72, 49, 10, 87, 69, 73, 71, 72, 84, 83, 32, 72, 49, 10, 116, 111, 116, 97, 108, 32, 109, 97, 115, 115, 32, 48, 32, 115, 105, 103, 109, 97, 32, 48, 10, 79, 80, 69, 78, 32, 51, 10, 98, 108, 111, 99, 107, 32, 66, 49, 32, 105, 115, 32, 110, 111, 116, 32, 101, 114, 101, 99, 116, 101, 100, 10, 112, 97, 114, 116, 32, 80, 49, 32, 105, 115, 32, 110, 111, 116, 32, 97, 115, 115, 101, 109, 98, 108, 101, 100, 10, 104, 117, 108, 108, 32, 105, 115, 32, 110, 111, 116, 32, 108, 97, 117, 110, 99, 104, 101, 100, 10]⟩
def sumT : ByteArray := ⟨#[54, 50, 97, 52, 51, 50, 48, 101]⟩
def bookT : ByteArray := ⟨#[77, 65, 84, 69, 82, 73, 65, 76, 83, 32, 72, 49, 10, 80, 49, 32, 114, 101, 118, 32, 49, 32, 109, 105, 115, 115, 105, 110, 103, 10, 87, 69, 76, 68, 83, 32, 72, 49, 10, 87, 69, 73, 71, 72, 84, 83, 32, 72, 49, 10, 116, 111, 116, 97, 108, 32, 109, 97, 115, 115, 32, 48, 32, 115, 105, 103, 109, 97, 32, 48, 10, 79, 80, 69, 78, 32, 51, 10, 98, 108, 111, 99, 107, 32, 66, 49, 32, 105, 115, 32, 110, 111, 116, 32, 101, 114, 101, 99, 116, 101, 100, 10, 112, 97, 114, 116, 32, 80, 49, 32, 105, 115, 32, 110, 111, 116, 32, 97, 115, 115, 101, 109, 98, 108, 101, 100, 10, 104, 117, 108, 108, 32, 105, 115, 32, 110, 111, 116, 32, 108, 97, 117, 110, 99, 104, 101, 100, 10, 67, 72, 69, 67, 75, 83, 85, 77, 32, 54, 50, 97, 52, 51, 50, 48, 101, 10]⟩
def inlDoc : List FuncId := [21, 23, 57, 58, 113, 22, 56, 112, 164, 169, 24]
def baseD : PCall := ofV (tabCallF Tryz.prog [⟨33, c_joinV⟩] noCall)
theorem baseD_ok : PCallOk Tryz.prog baseD := ofV_ok (tabCallF_ok (by
 intro e he
 simp only [List.mem_cons, List.not_mem_nil, or_false] at he
 subst he
 exact ok_joinV) noCall_ok)
def callD : PCall := inlP Tryz.prog inlDoc baseD 12
theorem callD_ok : PCallOk Tryz.prog callD := inlP_ok mixed baseD_ok 12
def mkD : Nat → GCall (Option ByteArray) := mkW inlDoc baseD
theorem mkD_ok (W0 : Base) (c kb : Nat) : GCallOk Tryz.prog (HidO W0 c) kb (c, 0, 2) (mkD kb) := mkW_ok mixed baseD_ok W0 c kb
def inlWt : List FuncId := inlDoc ++ [50, 53, 108, 98, 154, 159, 250, 212, 213, 214, 215, 216, 211, 210]
theorem nls_of {l : List Value} (h : l.all nl1 = true) : NLs l := fun v hv => List.all_eq_true.1 h v hv
theorem pure_acall {P : Program} (hm : P.follows .mixedOrders = true) {orc : ACall} (ho : ∀ W, CallOk P W orc) {k f : Nat} {args : List Value} {v : Value} (hv : nl v = true) (h : (match acallO P orc k f args .e 0 with | some (u, _) => veqFlat u v | none => false) = true) : Pure P f args fun u => u = v := by
 split at h
 case h_2 => cases h
 rename_i u st hc
 obtain rfl := veqFlat_eq h
 intro W ρ w args' hrel hargs
 refine ((acode_sound hm ho k).2.2 W f args .e 0 u st.1 st.2 hc ρ w args' hrel hargs).mono ?_
 rintro e w' ⟨v', ρ', rfl, h1, h2, h3⟩
 exact ⟨u, st.1, st.2, v', ρ', rfl, rfl, nl_sound hv h1, h2, ⟨fun b x hb => by omega, h3.le.2⟩⟩
def weight0 : Value := .agg #[.int .i64 0, .int .i64 0, .int .i64 0, .int .i64 0, .int .i64 0]
theorem sigma0 : Pure Tryz.prog 51 [weight0] fun u => u = .int .i64 0 := pure_acall mixed noA_ok (k := 300) rfl (by kernel_rfl)
def baseW : PCall := ofV (tabCallF Tryz.prog [⟨33, c_joinV⟩, ⟨51, c_at [weight0] (.int .i64 0)⟩] noCall)
theorem baseW_ok : PCallOk Tryz.prog baseW := ofV_ok (tabCallF_ok (by
 intro e he
 simp only [List.mem_cons, List.not_mem_nil, or_false] at he
 rcases he with rfl | rfl
 ·exact ok_joinV
 ·exact ok_at sigma0) noCall_ok)
def callW : PCall := inlP Tryz.prog inlWt baseW 12
theorem callW_ok : PCallOk Tryz.prog callW := inlP_ok mixed baseW_ok 12
def mkWt : Nat → GCall (Option ByteArray) := mkW inlWt baseW
theorem mkWt_ok (W0 : Base) (c kb : Nat) : GCallOk Tryz.prog (HidO W0 c) kb (c, 0, 2) (mkWt kb) := mkW_ok mixed baseW_ok W0 c kb
theorem e_mat0  (H : HT) (Post : PX) : (fun _ => vcW callD mkD 7 [state0]) H Post = (let q6 := ByteArray.mk #[114, 101, 118]; let q5 := cellAt #[part0] (Int.toNat 0) (0 + 1); let q4 := ByteArray.mk #[109, 105, 115, 115, 105, 110, 103]; let q3 := ByteArray.mk #[77, 65, 84, 69, 82, 73, 65, 76, 83]; let q2 := toS (cellAt #[part0] 0 0); let q1 := ByteArray.extract (ByteArray.mk #[48, 49, 50, 51, 52, 53, 54, 55, 56, 57, 97, 98, 99, 100, 101, 102, 103, 104, 105, 106, 107, 108, 109, 110, 111, 112, 113, 114, 115, 116, 117, 118, 119, 120, 121, 122]) 1 2; T8 (T2 (((2 ≤ 2 ∧ NLs [vs q3, vs (ByteArray.mk #[72, 49])]) ∧ True ∧ True) ∧ true = true ∧ 2 ≤ 140737488355328 ∧ 12 ≤ 140737488355328 ∧ True ∧ 13 ≤ 9223372036854775807 ∧ 13 ≤ 140737488355328 ∧ T4 (T2 (True ∧ (toI (vi 0) ≤ 0 ∧ toI (vi 0) < (↑1 : Int)) ∧ (vs (ByteArray.mk #[80, 49]) = vs q2 ∧ vi 1 = vi (toI (cellAt #[part0] 0 1)) ∧ vi 4 = vi (toI (cellAt #[part0] 0 2)) ∧ vs (ByteArray.mk #[66, 49]) = vs (toS (cellAt #[part0] 0 3)) ∧ vz = vs (toS (cellAt #[part0] 0 4)) ∧ vi 0 = vi (toI (cellAt #[part0] 0 5)) ∧ tree 2 0 #[] = tree 2 0 #[] ∧ tree 1 0 #[] = tree 1 0 #[] ∧ vz = vs (toS (cellAt #[part0] 0 8)) ∧ vi 0 = vi (toI (cellAt #[part0] 0 9)) ∧ vi 5000 = vi (toI (cellAt #[part0] 0 10)) ∧ vi 0 = vi (toI (cellAt #[part0] 0 11)) ∧ vi 0 = vi (toI (cellAt #[part0] 0 12)) ∧ vi 0 = vi (toI (cellAt #[part0] 0 13)) ∧ vi 0 = vi (toI (cellAt #[part0] 0 14)) ∧ vi 0 = vi (toI (cellAt #[part0] 0 15)) ∧ vi 0 = vi (toI (cellAt #[part0] 0 16)) ∧ vi 0 = vi (toI (cellAt #[part0] 0 17)) ∧ True) ∧ True ∧ 18 ≤ 18 ∧ T16 (T8 (T2 ((toI (vi 0) ≤ IntKind.wrap IntKind.i64 (toI q5 + 1) ∧ toI (vi 0) ≤ toI q5 ∧ 1 ≤ 2 ∧ 2 ≤ 36) ∧ T4 (True ∧ ((vs q2 = vs q2 ∧ True) ∧ True) ∧ T16 (T8 (T2 (True ∧ 6 ≤ 6 ∧ T2 (True ∧ 6 ≤ 6 ∧ T4 (True ∧ 6 ≤ 6 ∧ T4 (True ∧ 1 ≤ 1 ∧ 4 ≤ 33554432 ∧ true = true ∧ 1 = 1 ∧ 3 = 3 ∧ T4 (((4 ≤ 4 ∧ NLs [vs q2, vs q6, vs q1, vs q4]) ∧ True ∧ True) ∧ true = true ∧ 4 ≤ 140737488355328 ∧ 16 ≤ 140737488355328 ∧ True ∧ 17 ≤ 9223372036854775807 ∧ 30 ≤ 140737488355328 ∧ T4 (True ∧ 0 < 30 ∧ True ∧ (True ∧ True) ∧ true = true ∧ Post (Out.ret (vs (ByteArray.empty ++ (joinB (List.map toS [(vs q3), (vs (ByteArray.mk #[72, 49]))]) (ByteArray.mk #[32]) ++ ByteArray.mk #[10]) ++ (joinB (List.map toS [(vs q2), (vs q6), (vs q1), (vs q4)]) (ByteArray.mk #[32]) ++ ByteArray.mk #[10])))) []))))))))))))))))) := by kernel_rfl
theorem e_weld0  (H : HT) (Post : PX) : (fun _ => vcW callD mkD 9 [state0]) H Post = (let q1 := ByteArray.mk #[87, 69, 76, 68, 83]; T8 (T2 (((2 ≤ 2 ∧ NLs [vs q1, vs (ByteArray.mk #[72, 49])]) ∧ True ∧ True) ∧ true = true ∧ 2 ≤ 140737488355328 ∧ 8 ≤ 140737488355328 ∧ True ∧ 9 ≤ 9223372036854775807 ∧ 9 ≤ 140737488355328 ∧ T8 (T2 (True ∧ 0 < 9 ∧ True ∧ (True ∧ True) ∧ true = true ∧ Post (Out.ret (vs (ByteArray.empty ++ (joinB (List.map toS [(vs q1), (vs (ByteArray.mk #[72, 49]))]) (ByteArray.mk #[32]) ++ ByteArray.mk #[10])))) []))))) := by kernel_rfl
theorem e_wts0  (H : HT) (Post : PX) : (fun _ => vcW callW mkWt 19 [setup0, state0]) H Post = (let q8 := ByteArray.mk #[109, 97, 115, 115]; let q7 := ByteArray.mk #[115, 105, 103, 109, 97]; let q6 := ByteArray.mk #[116, 111, 116, 97, 108]; let q5 := ByteArray.mk #[87, 69, 73, 71, 72, 84, 83]; let q3 := IntKind.wrap IntKind.i64 0; let q4 := #[vi q3, vi q3, vi q3, vi q3, vi q3]; let q2 := (toI (vi 0) ≤ (↑0 : Int) ∧ toI (vi (↑0 : Int)) ≤ (↑0 : Int) ∧ toI (vi (↑0 : Int)) ≤ 2 ^ 25); let q1 := ByteArray.extract (ByteArray.mk #[48, 49, 50, 51, 52, 53, 54, 55, 56, 57, 97, 98, 99, 100, 101, 102, 103, 104, 105, 106, 107, 108, 109, 110, 111, 112, 113, 114, 115, 116, 117, 118, 119, 120, 121, 122]) 0 1; T8 (T4 (((2 ≤ 2 ∧ NLs [vs q5, vs (ByteArray.mk #[72, 49])]) ∧ True ∧ True) ∧ true = true ∧ 2 ≤ 140737488355328 ∧ 10 ≤ 140737488355328 ∧ True ∧ 11 ≤ 9223372036854775807 ∧ 11 ≤ 140737488355328 ∧ T32 (True ∧ 1 ≤ 1 ∧ 1 ≤ 1 ∧ T8 (T2 (True ∧ q2 ∧ T32 (T8 (T4 (T2 (1 ≤ 5 ∧ T4 (1 ≤ 1 ∧ T8 (True ∧ q2 ∧ T32 (T8 (T4 (T2 (2 ≤ 5 ∧ T4 (1 ≤ 1 ∧ T8 (True ∧ q2 ∧ T32 (T8 (T4 (T2 (3 ≤ 5 ∧ T4 (1 ≤ 1 ∧ T8 (True ∧ q2 ∧ T32 (T8 (T4 (T2 (4 ≤ 5 ∧ T4 (1 ≤ 1 ∧ T8 (True ∧ q2 ∧ T32 (T8 (T4 (T2 (5 ≤ 5 ∧ T4 (1 ≤ 1 ∧ T32 (T32 (T32 (T2 (5 ≤ 5 ∧ T2 (True ∧ 5 ≤ 5 ∧ T2 (True ∧ 5 ≤ 5 ∧ T4 (True ∧ 5 ≤ 5 ∧ T32 (True ∧ (toI (vi 0) ≤ IntKind.wrap IntKind.i64 (IntKind.wrap IntKind.i64 0 + 1) ∧ toI (vi 0) ≤ IntKind.wrap IntKind.i64 0 ∧ 0 ≤ 1 ∧ 1 ≤ 36) ∧ T4 (True ∧ ((Value.agg q4 = Value.agg q4 ∧ True) ∧ True) ∧ ((T4 (True ∧ True)) ∧ True) ∧ eqL [Value.agg q4] [Value.agg #[vi 0, vi 0, vi 0, vi 0, vi 0]] ∧ T16 (T4 (T2 (True ∧ (toI (vi 0) ≤ IntKind.wrap IntKind.i64 (0 + 1) ∧ toI (vi 0) ≤ 0 ∧ 0 ≤ 1 ∧ 1 ≤ 36) ∧ T16 (True ∧ ((5 ≤ 5 ∧ NLs [vs q6, vs q8, vs q1, vs q7, vs q1]) ∧ True ∧ True) ∧ true = true ∧ 5 ≤ 140737488355328 ∧ 20 ≤ 140737488355328 ∧ True ∧ 21 ≤ 9223372036854775807 ∧ 32 ≤ 140737488355328 ∧ T2 (0 < 32 ∧ T2 ((T2 (True ∧ True)) ∧ true = true ∧ Post (Out.ret (Value.tuple #[vs (ByteArray.empty ++ (joinB (List.map toS [(vs q5), (vs (ByteArray.mk #[72, 49]))]) (ByteArray.mk #[32]) ++ ByteArray.mk #[10]) ++ (joinB (List.map toS [(vs q6), (vs q8), (vs q1), (vs q7), (vs q1)]) (ByteArray.mk #[32]) ++ ByteArray.mk #[10])), vi 0])) [])))))))))))))))))))))))))))))))))))))))))))))))))) := by kernel_rfl
theorem specX_pure {f : FuncId} {args : List Value} {v : Value} (h : SpecX Tryz.prog f 0 (hpOf []) args (xpost 0 fun r c => r = .ret v ∧ c = [])) : Pure Tryz.prog f args fun u => u = v := by
 refine B.pure_of_X ?_
 intro W ρ w args' h1 h2 h3
 refine (h W ρ w args' h1 h2 h3).mono fun e w' ⟨r, hp', nx', ρ', g1, g2⟩ => ⟨r, hp', nx', ρ', ?_, g2⟩
 unfold xpost at g1 ⊢
 split at g1
 ·obtain ⟨k1, rfl, rfl⟩ := g1
  exact ⟨k1, rfl⟩
 ·exact g1.elim
theorem mat0 : Pure Tryz.prog 7 [state0] fun u => u = .string matT := by
 refine specX_pure (spec_W callD_ok mkD_ok mixed (by kernel_rfl) (Eq.mpr (e_mat0 (fun _ _ _ => True) _) ?_))
 repeat' (first | exact rfl | exact nls_of rfl | refine And.intro ?_ ?_ | trivial | decide | kernel_rfl)
theorem weld0 : Pure Tryz.prog 9 [state0] fun u => u = .string weldT := by
 refine specX_pure (spec_W callD_ok mkD_ok mixed (by kernel_rfl) (Eq.mpr (e_weld0 (fun _ _ _ => True) _) ?_))
 repeat' (first | exact rfl | exact nls_of rfl | refine And.intro ?_ ?_ | trivial | decide | kernel_rfl)
theorem wts0 : Pure Tryz.prog 19 [setup0, state0] fun u => u = .tuple #[.string wtsT, .int .i64 0] := by
 refine specX_pure (spec_W callW_ok mkWt_ok mixed (by kernel_rfl) (Eq.mpr (e_wts0 (fun _ _ _ => True) _) ?_))
 repeat' (first | exact rfl | exact nls_of rfl | refine And.intro ?_ ?_ | trivial | decide | kernel_rfl)
def vcFm : VCall := inlCall Tryz.prog [225] (tabCall [⟨226, c_at [.int .u64 16] (.int .i64 4)⟩] noCall) 3
theorem e_fmt (n : Int) (H : HT) (Post : PV) : vcP Tryz.prog vcFm 172 [(11, [0, 1, 2, 3, 4, 10, 11, 12, 13, 14, 15, 16])] [.slice none 0 0, .int .u64 n, .int .i64 16, .bool false, .bool false] H Post = (T16 (T8 (True ∧ eqL [Value.int IntKind.u64 (IntKind.wrap IntKind.u64 16)] [Value.int IntKind.u64 16] ∧ T8 (T2 ((True ∧ True) ∧ H (lpC Tryz.prog 172 11) (lpK Tryz.prog 172 11) (stV [(0, some (nS)), (1, some (Value.int IntKind.u64 n)), (2, some (vi 16)), (3, some (vb false)), (4, some (vb false)), (10, some (nS)), (11, some (vz)), (12, some (pt 0)), (13, some (vi 65)), (14, some (Value.int IntKind.u64 (IntKind.wrap IntKind.u64 4))), (15, some (Value.int IntKind.u64 (IntKind.wrap IntKind.u64 16))), (16, some (Value.int IntKind.u64 (IntKind.wrap IntKind.u64 (IntKind.wrap IntKind.u64 16 - 1))))] [(0, some (AObj.cells [Value.int IntKind.u8 0, Value.int IntKind.u8 0, Value.int IntKind.u8 0, Value.int IntKind.u8 0, Value.int IntKind.u8 0, Value.int IntKind.u8 0, Value.int IntKind.u8 0, Value.int IntKind.u8 0, Value.int IntKind.u8 0, Value.int IntKind.u8 0, Value.int IntKind.u8 0, Value.int IntKind.u8 0, Value.int IntKind.u8 0, Value.int IntKind.u8 0, Value.int IntKind.u8 0, Value.int IntKind.u8 0, Value.int IntKind.u8 0, Value.int IntKind.u8 0, Value.int IntKind.u8 0, Value.int IntKind.u8 0, Value.int IntKind.u8 0, Value.int IntKind.u8 0, Value.int IntKind.u8 0, Value.int IntKind.u8 0, Value.int IntKind.u8 0, Value.int IntKind.u8 0, Value.int IntKind.u8 0, Value.int IntKind.u8 0, Value.int IntKind.u8 0, Value.int IntKind.u8 0, Value.int IntKind.u8 0, Value.int IntKind.u8 0, Value.int IntKind.u8 0, Value.int IntKind.u8 0, Value.int IntKind.u8 0, Value.int IntKind.u8 0, Value.int IntKind.u8 0, Value.int IntKind.u8 0, Value.int IntKind.u8 0, Value.int IntKind.u8 0, Value.int IntKind.u8 0, Value.int IntKind.u8 0, Value.int IntKind.u8 0, Value.int IntKind.u8 0, Value.int IntKind.u8 0, Value.int IntKind.u8 0, Value.int IntKind.u8 0, Value.int IntKind.u8 0, Value.int IntKind.u8 0, Value.int IntKind.u8 0, Value.int IntKind.u8 0, Value.int IntKind.u8 0, Value.int IntKind.u8 0, Value.int IntKind.u8 0, Value.int IntKind.u8 0, Value.int IntKind.u8 0, Value.int IntKind.u8 0, Value.int IntKind.u8 0, Value.int IntKind.u8 0, Value.int IntKind.u8 0, Value.int IntKind.u8 0, Value.int IntKind.u8 0, Value.int IntKind.u8 0, Value.int IntKind.u8 0, Value.int IntKind.u8 0] true))] 1)))))) := by kernel_rfl
theorem l_fmt0 (n m : Int) (H : HT) (Post : PV) : vcLP Tryz.prog vcFm 172 [.slice none 0 0, .int .u64 m, .int .i64 16, .bool false, .bool false] [(11, [0, 1, 2, 3, 4, 10, 11, 12, 13, 14, 15, 16])] 11 (stV [(0, some (.slice none 0 0)), (1, some (.int .u64 n)), (2, some (.int .i64 16)), (3, some (.bool false)), (4, some (.bool false)), (10, some (.slice none 0 0)), (11, some (.string ⟨#[]⟩)), (12, some (.pointer (some ⟨0, 0, none⟩))), (13, some (.int .i64 65)), (14, some (.int .u64 4)), (15, some (.int .u64 16)), (16, some (.int .u64 15))] [(0, some (.cells [.int .u8 0, .int .u8 0, .int .u8 0, .int .u8 0, .int .u8 0, .int .u8 0, .int .u8 0, .int .u8 0, .int .u8 0, .int .u8 0, .int .u8 0, .int .u8 0, .int .u8 0, .int .u8 0, .int .u8 0, .int .u8 0, .int .u8 0, .int .u8 0, .int .u8 0, .int .u8 0, .int .u8 0, .int .u8 0, .int .u8 0, .int .u8 0, .int .u8 0, .int .u8 0, .int .u8 0, .int .u8 0, .int .u8 0, .int .u8 0, .int .u8 0, .int .u8 0, .int .u8 0, .int .u8 0, .int .u8 0, .int .u8 0, .int .u8 0, .int .u8 0, .int .u8 0, .int .u8 0, .int .u8 0, .int .u8 0, .int .u8 0, .int .u8 0, .int .u8 0, .int .u8 0, .int .u8 0, .int .u8 0, .int .u8 0, .int .u8 0, .int .u8 0, .int .u8 0, .int .u8 0, .int .u8 0, .int .u8 0, .int .u8 0, .int .u8 0, .int .u8 0, .int .u8 0, .int .u8 0, .int .u8 0, .int .u8 0, .int .u8 0, .int .u8 0, .int .u8 0] true))] 1) H Post = (let q5 := vi (IntKind.wrap IntKind.i64 (65 - 1)); let q1 := ByteArray.data (ByteArray.mk #[48, 49, 50, 51, 52, 53, 54, 55, 56, 57, 97, 98, 99, 100, 101, 102, 103, 104, 105, 106, 107, 108, 109, 110, 111, 112, 113, 114, 115, 116, 117, 118, 119, 120, 121, 122]); let q4 := [Value.int IntKind.u8 (↑(UInt8.toNat (Array.getD q1 (Int.toNat n) 0)) : Int)]; let q3 := (toI (vi 0) ≤ IntKind.wrap IntKind.i64 (65 - 1) ∧ toI q5 < (↑65 : Int)); let q2 := (↑(BitVec.toNat (BitVec.ofInt 64 n &&& BitVec.ofInt 64 15)) : Int); T2 (True ∧ pIf (decide (n ≥ 16)) (T4 (T2 (True ∧ (0 ≤ IntKind.wrap IntKind.u64 q2 ∧ IntKind.wrap IntKind.u64 q2 < (↑36 : Int)) ∧ q3 ∧ 65 ≤ 65 ∧ T2 (toI (vi 0) ≤ 4 ∧ T2 ((True ∧ True) ∧ H (lpC Tryz.prog 172 11) (lpK Tryz.prog 172 11) (stV [(0, some (nS)), (1, some (Value.int IntKind.u64 (Int.fdiv n (2 ^ 4)))), (2, some (vi 16)), (3, some (vb false)), (4, some (vb false)), (10, some (nS)), (11, some (vz)), (12, some (pt 0)), (13, some q5), (14, some (Value.int IntKind.u64 4)), (15, some (Value.int IntKind.u64 16)), (16, some (Value.int IntKind.u64 15))] [(0, some (AObj.cells [Value.int IntKind.u8 0, Value.int IntKind.u8 0, Value.int IntKind.u8 0, Value.int IntKind.u8 0, Value.int IntKind.u8 0, Value.int IntKind.u8 0, Value.int IntKind.u8 0, Value.int IntKind.u8 0, Value.int IntKind.u8 0, Value.int IntKind.u8 0, Value.int IntKind.u8 0, Value.int IntKind.u8 0, Value.int IntKind.u8 0, Value.int IntKind.u8 0, Value.int IntKind.u8 0, Value.int IntKind.u8 0, Value.int IntKind.u8 0, Value.int IntKind.u8 0, Value.int IntKind.u8 0, Value.int IntKind.u8 0, Value.int IntKind.u8 0, Value.int IntKind.u8 0, Value.int IntKind.u8 0, Value.int IntKind.u8 0, Value.int IntKind.u8 0, Value.int IntKind.u8 0, Value.int IntKind.u8 0, Value.int IntKind.u8 0, Value.int IntKind.u8 0, Value.int IntKind.u8 0, Value.int IntKind.u8 0, Value.int IntKind.u8 0, Value.int IntKind.u8 0, Value.int IntKind.u8 0, Value.int IntKind.u8 0, Value.int IntKind.u8 0, Value.int IntKind.u8 0, Value.int IntKind.u8 0, Value.int IntKind.u8 0, Value.int IntKind.u8 0, Value.int IntKind.u8 0, Value.int IntKind.u8 0, Value.int IntKind.u8 0, Value.int IntKind.u8 0, Value.int IntKind.u8 0, Value.int IntKind.u8 0, Value.int IntKind.u8 0, Value.int IntKind.u8 0, Value.int IntKind.u8 0, Value.int IntKind.u8 0, Value.int IntKind.u8 0, Value.int IntKind.u8 0, Value.int IntKind.u8 0, Value.int IntKind.u8 0, Value.int IntKind.u8 0, Value.int IntKind.u8 0, Value.int IntKind.u8 0, Value.int IntKind.u8 0, Value.int IntKind.u8 0, Value.int IntKind.u8 0, Value.int IntKind.u8 0, Value.int IntKind.u8 0, Value.int IntKind.u8 0, Value.int IntKind.u8 0, Value.int IntKind.u8 (↑(UInt8.toNat (Array.getD q1 (Int.toNat (IntKind.wrap IntKind.u64 q2)) 0)) : Int)] true))] 1)))))) (T4 (True ∧ (0 ≤ n ∧ n < (↑36 : Int)) ∧ q3 ∧ 65 ≤ 65 ∧ T2 (True ∧ (True ∧ toI (vi 0) ≤ IntKind.wrap IntKind.i64 (65 - 1) ∧ 64 ≤ 65 ∧ 65 ≤ 65 ∧ 65 ≤ 65) ∧ (65 ≤ 65 ∧ AllU8 q4) ∧ True ∧ (T2 (True)) ∧ Post (Value.tuple #[tree 1 0 #[], vs (bytesL q4)])))))) := by kernel_rfl
theorem l_fmt1 (n m a0 : Int) (H : HT) (Post : PV) : vcLP Tryz.prog vcFm 172 [.slice none 0 0, .int .u64 m, .int .i64 16, .bool false, .bool false] [(11, [0, 1, 2, 3, 4, 10, 11, 12, 13, 14, 15, 16])] 11 (stV [(0, some (.slice none 0 0)), (1, some (.int .u64 n)), (2, some (.int .i64 16)), (3, some (.bool false)), (4, some (.bool false)), (10, some (.slice none 0 0)), (11, some (.string ⟨#[]⟩)), (12, some (.pointer (some ⟨0, 0, none⟩))), (13, some (.int .i64 64)), (14, some (.int .u64 4)), (15, some (.int .u64 16)), (16, some (.int .u64 15))] [(0, some (.cells [.int .u8 0, .int .u8 0, .int .u8 0, .int .u8 0, .int .u8 0, .int .u8 0, .int .u8 0, .int .u8 0, .int .u8 0, .int .u8 0, .int .u8 0, .int .u8 0, .int .u8 0, .int .u8 0, .int .u8 0, .int .u8 0, .int .u8 0, .int .u8 0, .int .u8 0, .int .u8 0, .int .u8 0, .int .u8 0, .int .u8 0, .int .u8 0, .int .u8 0, .int .u8 0, .int .u8 0, .int .u8 0, .int .u8 0, .int .u8 0, .int .u8 0, .int .u8 0, .int .u8 0, .int .u8 0, .int .u8 0, .int .u8 0, .int .u8 0, .int .u8 0, .int .u8 0, .int .u8 0, .int .u8 0, .int .u8 0, .int .u8 0, .int .u8 0, .int .u8 0, .int .u8 0, .int .u8 0, .int .u8 0, .int .u8 0, .int .u8 0, .int .u8 0, .int .u8 0, .int .u8 0, .int .u8 0, .int .u8 0, .int .u8 0, .int .u8 0, .int .u8 0, .int .u8 0, .int .u8 0, .int .u8 0, .int .u8 0, .int .u8 0, .int .u8 0, .int .u8 a0] true))] 1) H Post = (let q5 := vi (IntKind.wrap IntKind.i64 (64 - 1)); let q1 := ByteArray.data (ByteArray.mk #[48, 49, 50, 51, 52, 53, 54, 55, 56, 57, 97, 98, 99, 100, 101, 102, 103, 104, 105, 106, 107, 108, 109, 110, 111, 112, 113, 114, 115, 116, 117, 118, 119, 120, 121, 122]); let q4 := [Value.int IntKind.u8 (↑(UInt8.toNat (Array.getD q1 (Int.toNat n) 0)) : Int), Value.int IntKind.u8 a0]; let q3 := (toI (vi 0) ≤ IntKind.wrap IntKind.i64 (64 - 1) ∧ toI q5 < (↑65 : Int)); let q2 := (↑(BitVec.toNat (BitVec.ofInt 64 n &&& BitVec.ofInt 64 15)) : Int); T2 (True ∧ pIf (decide (n ≥ 16)) (T4 (T2 (True ∧ (0 ≤ IntKind.wrap IntKind.u64 q2 ∧ IntKind.wrap IntKind.u64 q2 < (↑36 : Int)) ∧ q3 ∧ 64 ≤ 65 ∧ T2 (toI (vi 0) ≤ 4 ∧ T2 ((True ∧ True) ∧ H (lpC Tryz.prog 172 11) (lpK Tryz.prog 172 11) (stV [(0, some (nS)), (1, some (Value.int IntKind.u64 (Int.fdiv n (2 ^ 4)))), (2, some (vi 16)), (3, some (vb false)), (4, some (vb false)), (10, some (nS)), (11, some (vz)), (12, some (pt 0)), (13, some q5), (14, some (Value.int IntKind.u64 4)), (15, some (Value.int IntKind.u64 16)), (16, some (Value.int IntKind.u64 15))] [(0, some (AObj.cells [Value.int IntKind.u8 0, Value.int IntKind.u8 0, Value.int IntKind.u8 0, Value.int IntKind.u8 0, Value.int IntKind.u8 0, Value.int IntKind.u8 0, Value.int IntKind.u8 0, Value.int IntKind.u8 0, Value.int IntKind.u8 0, Value.int IntKind.u8 0, Value.int IntKind.u8 0, Value.int IntKind.u8 0, Value.int IntKind.u8 0, Value.int IntKind.u8 0, Value.int IntKind.u8 0, Value.int IntKind.u8 0, Value.int IntKind.u8 0, Value.int IntKind.u8 0, Value.int IntKind.u8 0, Value.int IntKind.u8 0, Value.int IntKind.u8 0, Value.int IntKind.u8 0, Value.int IntKind.u8 0, Value.int IntKind.u8 0, Value.int IntKind.u8 0, Value.int IntKind.u8 0, Value.int IntKind.u8 0, Value.int IntKind.u8 0, Value.int IntKind.u8 0, Value.int IntKind.u8 0, Value.int IntKind.u8 0, Value.int IntKind.u8 0, Value.int IntKind.u8 0, Value.int IntKind.u8 0, Value.int IntKind.u8 0, Value.int IntKind.u8 0, Value.int IntKind.u8 0, Value.int IntKind.u8 0, Value.int IntKind.u8 0, Value.int IntKind.u8 0, Value.int IntKind.u8 0, Value.int IntKind.u8 0, Value.int IntKind.u8 0, Value.int IntKind.u8 0, Value.int IntKind.u8 0, Value.int IntKind.u8 0, Value.int IntKind.u8 0, Value.int IntKind.u8 0, Value.int IntKind.u8 0, Value.int IntKind.u8 0, Value.int IntKind.u8 0, Value.int IntKind.u8 0, Value.int IntKind.u8 0, Value.int IntKind.u8 0, Value.int IntKind.u8 0, Value.int IntKind.u8 0, Value.int IntKind.u8 0, Value.int IntKind.u8 0, Value.int IntKind.u8 0, Value.int IntKind.u8 0, Value.int IntKind.u8 0, Value.int IntKind.u8 0, Value.int IntKind.u8 0, Value.int IntKind.u8 (↑(UInt8.toNat (Array.getD q1 (Int.toNat (IntKind.wrap IntKind.u64 q2)) 0)) : Int), Value.int IntKind.u8 a0] true))] 1)))))) (T4 (True ∧ (0 ≤ n ∧ n < (↑36 : Int)) ∧ q3 ∧ 64 ≤ 65 ∧ T2 (True ∧ (True ∧ toI (vi 0) ≤ IntKind.wrap IntKind.i64 (64 - 1) ∧ 63 ≤ 65 ∧ 65 ≤ 65 ∧ 65 ≤ 65) ∧ (65 ≤ 65 ∧ AllU8 q4) ∧ True ∧ (T2 (True)) ∧ Post (Value.tuple #[tree 1 0 #[], vs (bytesL q4)])))))) := by kernel_rfl
theorem l_fmt2 (n m a0 a1 : Int) (H : HT) (Post : PV) : vcLP Tryz.prog vcFm 172 [.slice none 0 0, .int .u64 m, .int .i64 16, .bool false, .bool false] [(11, [0, 1, 2, 3, 4, 10, 11, 12, 13, 14, 15, 16])] 11 (stV [(0, some (.slice none 0 0)), (1, some (.int .u64 n)), (2, some (.int .i64 16)), (3, some (.bool false)), (4, some (.bool false)), (10, some (.slice none 0 0)), (11, some (.string ⟨#[]⟩)), (12, some (.pointer (some ⟨0, 0, none⟩))), (13, some (.int .i64 63)), (14, some (.int .u64 4)), (15, some (.int .u64 16)), (16, some (.int .u64 15))] [(0, some (.cells [.int .u8 0, .int .u8 0, .int .u8 0, .int .u8 0, .int .u8 0, .int .u8 0, .int .u8 0, .int .u8 0, .int .u8 0, .int .u8 0, .int .u8 0, .int .u8 0, .int .u8 0, .int .u8 0, .int .u8 0, .int .u8 0, .int .u8 0, .int .u8 0, .int .u8 0, .int .u8 0, .int .u8 0, .int .u8 0, .int .u8 0, .int .u8 0, .int .u8 0, .int .u8 0, .int .u8 0, .int .u8 0, .int .u8 0, .int .u8 0, .int .u8 0, .int .u8 0, .int .u8 0, .int .u8 0, .int .u8 0, .int .u8 0, .int .u8 0, .int .u8 0, .int .u8 0, .int .u8 0, .int .u8 0, .int .u8 0, .int .u8 0, .int .u8 0, .int .u8 0, .int .u8 0, .int .u8 0, .int .u8 0, .int .u8 0, .int .u8 0, .int .u8 0, .int .u8 0, .int .u8 0, .int .u8 0, .int .u8 0, .int .u8 0, .int .u8 0, .int .u8 0, .int .u8 0, .int .u8 0, .int .u8 0, .int .u8 0, .int .u8 0, .int .u8 a0, .int .u8 a1] true))] 1) H Post = (let q5 := vi (IntKind.wrap IntKind.i64 (63 - 1)); let q4 := (toI (vi 0) ≤ IntKind.wrap IntKind.i64 (63 - 1) ∧ toI q5 < (↑65 : Int)); let q1 := ByteArray.data (ByteArray.mk #[48, 49, 50, 51, 52, 53, 54, 55, 56, 57, 97, 98, 99, 100, 101, 102, 103, 104, 105, 106, 107, 108, 109, 110, 111, 112, 113, 114, 115, 116, 117, 118, 119, 120, 121, 122]); let q3 := [Value.int IntKind.u8 (↑(UInt8.toNat (Array.getD q1 (Int.toNat n) 0)) : Int), Value.int IntKind.u8 a0, Value.int IntKind.u8 a1]; let q2 := (↑(BitVec.toNat (BitVec.ofInt 64 n &&& BitVec.ofInt 64 15)) : Int); T2 (True ∧ pIf (decide (n ≥ 16)) (T4 (T2 (True ∧ (0 ≤ IntKind.wrap IntKind.u64 q2 ∧ IntKind.wrap IntKind.u64 q2 < (↑36 : Int)) ∧ q4 ∧ 63 ≤ 65 ∧ T2 (toI (vi 0) ≤ 4 ∧ T2 ((True ∧ True) ∧ H (lpC Tryz.prog 172 11) (lpK Tryz.prog 172 11) (stV [(0, some (nS)), (1, some (Value.int IntKind.u64 (Int.fdiv n (2 ^ 4)))), (2, some (vi 16)), (3, some (vb false)), (4, some (vb false)), (10, some (nS)), (11, some (vz)), (12, some (pt 0)), (13, some q5), (14, some (Value.int IntKind.u64 4)), (15, some (Value.int IntKind.u64 16)), (16, some (Value.int IntKind.u64 15))] [(0, some (AObj.cells [Value.int IntKind.u8 0, Value.int IntKind.u8 0, Value.int IntKind.u8 0, Value.int IntKind.u8 0, Value.int IntKind.u8 0, Value.int IntKind.u8 0, Value.int IntKind.u8 0, Value.int IntKind.u8 0, Value.int IntKind.u8 0, Value.int IntKind.u8 0, Value.int IntKind.u8 0, Value.int IntKind.u8 0, Value.int IntKind.u8 0, Value.int IntKind.u8 0, Value.int IntKind.u8 0, Value.int IntKind.u8 0, Value.int IntKind.u8 0, Value.int IntKind.u8 0, Value.int IntKind.u8 0, Value.int IntKind.u8 0, Value.int IntKind.u8 0, Value.int IntKind.u8 0, Value.int IntKind.u8 0, Value.int IntKind.u8 0, Value.int IntKind.u8 0, Value.int IntKind.u8 0, Value.int IntKind.u8 0, Value.int IntKind.u8 0, Value.int IntKind.u8 0, Value.int IntKind.u8 0, Value.int IntKind.u8 0, Value.int IntKind.u8 0, Value.int IntKind.u8 0, Value.int IntKind.u8 0, Value.int IntKind.u8 0, Value.int IntKind.u8 0, Value.int IntKind.u8 0, Value.int IntKind.u8 0, Value.int IntKind.u8 0, Value.int IntKind.u8 0, Value.int IntKind.u8 0, Value.int IntKind.u8 0, Value.int IntKind.u8 0, Value.int IntKind.u8 0, Value.int IntKind.u8 0, Value.int IntKind.u8 0, Value.int IntKind.u8 0, Value.int IntKind.u8 0, Value.int IntKind.u8 0, Value.int IntKind.u8 0, Value.int IntKind.u8 0, Value.int IntKind.u8 0, Value.int IntKind.u8 0, Value.int IntKind.u8 0, Value.int IntKind.u8 0, Value.int IntKind.u8 0, Value.int IntKind.u8 0, Value.int IntKind.u8 0, Value.int IntKind.u8 0, Value.int IntKind.u8 0, Value.int IntKind.u8 0, Value.int IntKind.u8 0, Value.int IntKind.u8 (↑(UInt8.toNat (Array.getD q1 (Int.toNat (IntKind.wrap IntKind.u64 q2)) 0)) : Int), Value.int IntKind.u8 a0, Value.int IntKind.u8 a1] true))] 1)))))) (T4 (True ∧ (0 ≤ n ∧ n < (↑36 : Int)) ∧ q4 ∧ 63 ≤ 65 ∧ T2 (True ∧ (True ∧ toI (vi 0) ≤ IntKind.wrap IntKind.i64 (63 - 1) ∧ 62 ≤ 65 ∧ 65 ≤ 65 ∧ 65 ≤ 65) ∧ (65 ≤ 65 ∧ AllU8 q3) ∧ True ∧ (T2 (True)) ∧ Post (Value.tuple #[tree 1 0 #[], vs (bytesL q3)])))))) := by kernel_rfl
theorem l_fmt3 (n m a0 a1 a2 : Int) (H : HT) (Post : PV) : vcLP Tryz.prog vcFm 172 [.slice none 0 0, .int .u64 m, .int .i64 16, .bool false, .bool false] [(11, [0, 1, 2, 3, 4, 10, 11, 12, 13, 14, 15, 16])] 11 (stV [(0, some (.slice none 0 0)), (1, some (.int .u64 n)), (2, some (.int .i64 16)), (3, some (.bool false)), (4, some (.bool false)), (10, some (.slice none 0 0)), (11, some (.string ⟨#[]⟩)), (12, some (.pointer (some ⟨0, 0, none⟩))), (13, some (.int .i64 62)), (14, some (.int .u64 4)), (15, some (.int .u64 16)), (16, some (.int .u64 15))] [(0, some (.cells [.int .u8 0, .int .u8 0, .int .u8 0, .int .u8 0, .int .u8 0, .int .u8 0, .int .u8 0, .int .u8 0, .int .u8 0, .int .u8 0, .int .u8 0, .int .u8 0, .int .u8 0, .int .u8 0, .int .u8 0, .int .u8 0, .int .u8 0, .int .u8 0, .int .u8 0, .int .u8 0, .int .u8 0, .int .u8 0, .int .u8 0, .int .u8 0, .int .u8 0, .int .u8 0, .int .u8 0, .int .u8 0, .int .u8 0, .int .u8 0, .int .u8 0, .int .u8 0, .int .u8 0, .int .u8 0, .int .u8 0, .int .u8 0, .int .u8 0, .int .u8 0, .int .u8 0, .int .u8 0, .int .u8 0, .int .u8 0, .int .u8 0, .int .u8 0, .int .u8 0, .int .u8 0, .int .u8 0, .int .u8 0, .int .u8 0, .int .u8 0, .int .u8 0, .int .u8 0, .int .u8 0, .int .u8 0, .int .u8 0, .int .u8 0, .int .u8 0, .int .u8 0, .int .u8 0, .int .u8 0, .int .u8 0, .int .u8 0, .int .u8 a0, .int .u8 a1, .int .u8 a2] true))] 1) H Post = (let q5 := vi (IntKind.wrap IntKind.i64 (62 - 1)); let q4 := (toI (vi 0) ≤ IntKind.wrap IntKind.i64 (62 - 1) ∧ toI q5 < (↑65 : Int)); let q3 := (↑(BitVec.toNat (BitVec.ofInt 64 n &&& BitVec.ofInt 64 15)) : Int); let q1 := ByteArray.data (ByteArray.mk #[48, 49, 50, 51, 52, 53, 54, 55, 56, 57, 97, 98, 99, 100, 101, 102, 103, 104, 105, 106, 107, 108, 109, 110, 111, 112, 113, 114, 115, 116, 117, 118, 119, 120, 121, 122]); let q2 := [Value.int IntKind.u8 (↑(UInt8.toNat (Array.getD q1 (Int.toNat n) 0)) : Int), Value.int IntKind.u8 a0, Value.int IntKind.u8 a1, Value.int IntKind.u8 a2]; T2 (True ∧ pIf (decide (n ≥ 16)) (T4 (T2 (True ∧ (0 ≤ IntKind.wrap IntKind.u64 q3 ∧ IntKind.wrap IntKind.u64 q3 < (↑36 : Int)) ∧ q4 ∧ 62 ≤ 65 ∧ T2 (toI (vi 0) ≤ 4 ∧ T2 ((True ∧ True) ∧ H (lpC Tryz.prog 172 11) (lpK Tryz.prog 172 11) (stV [(0, some (nS)), (1, some (Value.int IntKind.u64 (Int.fdiv n (2 ^ 4)))), (2, some (vi 16)), (3, some (vb false)), (4, some (vb false)), (10, some (nS)), (11, some (vz)), (12, some (pt 0)), (13, some q5), (14, some (Value.int IntKind.u64 4)), (15, some (Value.int IntKind.u64 16)), (16, some (Value.int IntKind.u64 15))] [(0, some (AObj.cells [Value.int IntKind.u8 0, Value.int IntKind.u8 0, Value.int IntKind.u8 0, Value.int IntKind.u8 0, Value.int IntKind.u8 0, Value.int IntKind.u8 0, Value.int IntKind.u8 0, Value.int IntKind.u8 0, Value.int IntKind.u8 0, Value.int IntKind.u8 0, Value.int IntKind.u8 0, Value.int IntKind.u8 0, Value.int IntKind.u8 0, Value.int IntKind.u8 0, Value.int IntKind.u8 0, Value.int IntKind.u8 0, Value.int IntKind.u8 0, Value.int IntKind.u8 0, Value.int IntKind.u8 0, Value.int IntKind.u8 0, Value.int IntKind.u8 0, Value.int IntKind.u8 0, Value.int IntKind.u8 0, Value.int IntKind.u8 0, Value.int IntKind.u8 0, Value.int IntKind.u8 0, Value.int IntKind.u8 0, Value.int IntKind.u8 0, Value.int IntKind.u8 0, Value.int IntKind.u8 0, Value.int IntKind.u8 0, Value.int IntKind.u8 0, Value.int IntKind.u8 0, Value.int IntKind.u8 0, Value.int IntKind.u8 0, Value.int IntKind.u8 0, Value.int IntKind.u8 0, Value.int IntKind.u8 0, Value.int IntKind.u8 0, Value.int IntKind.u8 0, Value.int IntKind.u8 0, Value.int IntKind.u8 0, Value.int IntKind.u8 0, Value.int IntKind.u8 0, Value.int IntKind.u8 0, Value.int IntKind.u8 0, Value.int IntKind.u8 0, Value.int IntKind.u8 0, Value.int IntKind.u8 0, Value.int IntKind.u8 0, Value.int IntKind.u8 0, Value.int IntKind.u8 0, Value.int IntKind.u8 0, Value.int IntKind.u8 0, Value.int IntKind.u8 0, Value.int IntKind.u8 0, Value.int IntKind.u8 0, Value.int IntKind.u8 0, Value.int IntKind.u8 0, Value.int IntKind.u8 0, Value.int IntKind.u8 0, Value.int IntKind.u8 (↑(UInt8.toNat (Array.getD q1 (Int.toNat (IntKind.wrap IntKind.u64 q3)) 0)) : Int), Value.int IntKind.u8 a0, Value.int IntKind.u8 a1, Value.int IntKind.u8 a2] true))] 1)))))) (T4 (True ∧ (0 ≤ n ∧ n < (↑36 : Int)) ∧ q4 ∧ 62 ≤ 65 ∧ T2 (True ∧ (True ∧ toI (vi 0) ≤ IntKind.wrap IntKind.i64 (62 - 1) ∧ 61 ≤ 65 ∧ 65 ≤ 65 ∧ 65 ≤ 65) ∧ (65 ≤ 65 ∧ AllU8 q2) ∧ True ∧ (T2 (True)) ∧ Post (Value.tuple #[tree 1 0 #[], vs (bytesL q2)])))))) := by kernel_rfl
theorem l_fmt4 (n m a0 a1 a2 a3 : Int) (H : HT) (Post : PV) : vcLP Tryz.prog vcFm 172 [.slice none 0 0, .int .u64 m, .int .i64 16, .bool false, .bool false] [(11, [0, 1, 2, 3, 4, 10, 11, 12, 13, 14, 15, 16])] 11 (stV [(0, some (.slice none 0 0)), (1, some (.int .u64 n)), (2, some (.int .i64 16)), (3, some (.bool false)), (4, some (.bool false)), (10, some (.slice none 0 0)), (11, some (.string ⟨#[]⟩)), (12, some (.pointer (some ⟨0, 0, none⟩))), (13, some (.int .i64 61)), (14, some (.int .u64 4)), (15, some (.int .u64 16)), (16, some (.int .u64 15))] [(0, some (.cells [.int .u8 0, .int .u8 0, .int .u8 0, .int .u8 0, .int .u8 0, .int .u8 0, .int .u8 0, .int .u8 0, .int .u8 0, .int .u8 0, .int .u8 0, .int .u8 0, .int .u8 0, .int .u8 0, .int .u8 0, .int .u8 0, .int .u8 0, .int .u8 0, .int .u8 0, .int .u8 0, .int .u8 0, .int .u8 0, .int .u8 0, .int .u8 0, .int .u8 0, .int .u8 0, .int .u8 0, .int .u8 0, .int .u8 0, .int .u8 0, .int .u8 0, .int .u8 0, .int .u8 0, .int .u8 0, .int .u8 0, .int .u8 0, .int .u8 0, .int .u8 0, .int .u8 0, .int .u8 0, .int .u8 0, .int .u8 0, .int .u8 0, .int .u8 0, .int .u8 0, .int .u8 0, .int .u8 0, .int .u8 0, .int .u8 0, .int .u8 0, .int .u8 0, .int .u8 0, .int .u8 0, .int .u8 0, .int .u8 0, .int .u8 0, .int .u8 0, .int .u8 0, .int .u8 0, .int .u8 0, .int .u8 0, .int .u8 a0, .int .u8 a1, .int .u8 a2, .int .u8 a3] true))] 1) H Post = (let q5 := vi (IntKind.wrap IntKind.i64 (61 - 1)); let q4 := (toI (vi 0) ≤ IntKind.wrap IntKind.i64 (61 - 1) ∧ toI q5 < (↑65 : Int)); let q3 := (↑(BitVec.toNat (BitVec.ofInt 64 n &&& BitVec.ofInt 64 15)) : Int); let q1 := ByteArray.data (ByteArray.mk #[48, 49, 50, 51, 52, 53, 54, 55, 56, 57, 97, 98, 99, 100, 101, 102, 103, 104, 105, 106, 107, 108, 109, 110, 111, 112, 113, 114, 115, 116, 117, 118, 119, 120, 121, 122]); let q2 := [Value.int IntKind.u8 (↑(UInt8.toNat (Array.getD q1 (Int.toNat n) 0)) : Int), Value.int IntKind.u8 a0, Value.int IntKind.u8 a1, Value.int IntKind.u8 a2, Value.int IntKind.u8 a3]; T2 (True ∧ pIf (decide (n ≥ 16)) (T4 (T2 (True ∧ (0 ≤ IntKind.wrap IntKind.u64 q3 ∧ IntKind.wrap IntKind.u64 q3 < (↑36 : Int)) ∧ q4 ∧ 61 ≤ 65 ∧ T2 (toI (vi 0) ≤ 4 ∧ T2 ((True ∧ True) ∧ H (lpC Tryz.prog 172 11) (lpK Tryz.prog 172 11) (stV [(0, some (nS)), (1, some (Value.int IntKind.u64 (Int.fdiv n (2 ^ 4)))), (2, some (vi 16)), (3, some (vb false)), (4, some (vb false)), (10, some (nS)), (11, some (vz)), (12, some (pt 0)), (13, some q5), (14, some (Value.int IntKind.u64 4)), (15, some (Value.int IntKind.u64 16)), (16, some (Value.int IntKind.u64 15))] [(0, some (AObj.cells [Value.int IntKind.u8 0, Value.int IntKind.u8 0, Value.int IntKind.u8 0, Value.int IntKind.u8 0, Value.int IntKind.u8 0, Value.int IntKind.u8 0, Value.int IntKind.u8 0, Value.int IntKind.u8 0, Value.int IntKind.u8 0, Value.int IntKind.u8 0, Value.int IntKind.u8 0, Value.int IntKind.u8 0, Value.int IntKind.u8 0, Value.int IntKind.u8 0, Value.int IntKind.u8 0, Value.int IntKind.u8 0, Value.int IntKind.u8 0, Value.int IntKind.u8 0, Value.int IntKind.u8 0, Value.int IntKind.u8 0, Value.int IntKind.u8 0, Value.int IntKind.u8 0, Value.int IntKind.u8 0, Value.int IntKind.u8 0, Value.int IntKind.u8 0, Value.int IntKind.u8 0, Value.int IntKind.u8 0, Value.int IntKind.u8 0, Value.int IntKind.u8 0, Value.int IntKind.u8 0, Value.int IntKind.u8 0, Value.int IntKind.u8 0, Value.int IntKind.u8 0, Value.int IntKind.u8 0, Value.int IntKind.u8 0, Value.int IntKind.u8 0, Value.int IntKind.u8 0, Value.int IntKind.u8 0, Value.int IntKind.u8 0, Value.int IntKind.u8 0, Value.int IntKind.u8 0, Value.int IntKind.u8 0, Value.int IntKind.u8 0, Value.int IntKind.u8 0, Value.int IntKind.u8 0, Value.int IntKind.u8 0, Value.int IntKind.u8 0, Value.int IntKind.u8 0, Value.int IntKind.u8 0, Value.int IntKind.u8 0, Value.int IntKind.u8 0, Value.int IntKind.u8 0, Value.int IntKind.u8 0, Value.int IntKind.u8 0, Value.int IntKind.u8 0, Value.int IntKind.u8 0, Value.int IntKind.u8 0, Value.int IntKind.u8 0, Value.int IntKind.u8 0, Value.int IntKind.u8 0, Value.int IntKind.u8 (↑(UInt8.toNat (Array.getD q1 (Int.toNat (IntKind.wrap IntKind.u64 q3)) 0)) : Int), Value.int IntKind.u8 a0, Value.int IntKind.u8 a1, Value.int IntKind.u8 a2, Value.int IntKind.u8 a3] true))] 1)))))) (T4 (True ∧ (0 ≤ n ∧ n < (↑36 : Int)) ∧ q4 ∧ 61 ≤ 65 ∧ T2 (True ∧ (True ∧ toI (vi 0) ≤ IntKind.wrap IntKind.i64 (61 - 1) ∧ 60 ≤ 65 ∧ 65 ≤ 65 ∧ 65 ≤ 65) ∧ (65 ≤ 65 ∧ AllU8 q2) ∧ True ∧ (T2 (True)) ∧ Post (Value.tuple #[tree 1 0 #[], vs (bytesL q2)])))))) := by kernel_rfl
theorem l_fmt5 (n m a0 a1 a2 a3 a4 : Int) (H : HT) (Post : PV) : vcLP Tryz.prog vcFm 172 [.slice none 0 0, .int .u64 m, .int .i64 16, .bool false, .bool false] [(11, [0, 1, 2, 3, 4, 10, 11, 12, 13, 14, 15, 16])] 11 (stV [(0, some (.slice none 0 0)), (1, some (.int .u64 n)), (2, some (.int .i64 16)), (3, some (.bool false)), (4, some (.bool false)), (10, some (.slice none 0 0)), (11, some (.string ⟨#[]⟩)), (12, some (.pointer (some ⟨0, 0, none⟩))), (13, some (.int .i64 60)), (14, some (.int .u64 4)), (15, some (.int .u64 16)), (16, some (.int .u64 15))] [(0, some (.cells [.int .u8 0, .int .u8 0, .int .u8 0, .int .u8 0, .int .u8 0, .int .u8 0, .int .u8 0, .int .u8 0, .int .u8 0, .int .u8 0, .int .u8 0, .int .u8 0, .int .u8 0, .int .u8 0, .int .u8 0, .int .u8 0, .int .u8 0, .int .u8 0, .int .u8 0, .int .u8 0, .int .u8 0, .int .u8 0, .int .u8 0, .int .u8 0, .int .u8 0, .int .u8 0, .int .u8 0, .int .u8 0, .int .u8 0, .int .u8 0, .int .u8 0, .int .u8 0, .int .u8 0, .int .u8 0, .int .u8 0, .int .u8 0, .int .u8 0, .int .u8 0, .int .u8 0, .int .u8 0, .int .u8 0, .int .u8 0, .int .u8 0, .int .u8 0, .int .u8 0, .int .u8 0, .int .u8 0, .int .u8 0, .int .u8 0, .int .u8 0, .int .u8 0, .int .u8 0, .int .u8 0, .int .u8 0, .int .u8 0, .int .u8 0, .int .u8 0, .int .u8 0, .int .u8 0, .int .u8 0, .int .u8 a0, .int .u8 a1, .int .u8 a2, .int .u8 a3, .int .u8 a4] true))] 1) H Post = (let q5 := vi (IntKind.wrap IntKind.i64 (60 - 1)); let q4 := (toI (vi 0) ≤ IntKind.wrap IntKind.i64 (60 - 1) ∧ toI q5 < (↑65 : Int)); let q3 := (↑(BitVec.toNat (BitVec.ofInt 64 n &&& BitVec.ofInt 64 15)) : Int); let q2 := ByteArray.data (ByteArray.mk #[48, 49, 50, 51, 52, 53, 54, 55, 56, 57, 97, 98, 99, 100, 101, 102, 103, 104, 105, 106, 107, 108, 109, 110, 111, 112, 113, 114, 115, 116, 117, 118, 119, 120, 121, 122]); let q1 := [Value.int IntKind.u8 (↑(UInt8.toNat (Array.getD q2 (Int.toNat n) 0)) : Int), Value.int IntKind.u8 a0, Value.int IntKind.u8 a1, Value.int IntKind.u8 a2, Value.int IntKind.u8 a3, Value.int IntKind.u8 a4]; T2 (True ∧ pIf (decide (n ≥ 16)) (T4 (T2 (True ∧ (0 ≤ IntKind.wrap IntKind.u64 q3 ∧ IntKind.wrap IntKind.u64 q3 < (↑36 : Int)) ∧ q4 ∧ 60 ≤ 65 ∧ T2 (toI (vi 0) ≤ 4 ∧ T2 ((True ∧ True) ∧ H (lpC Tryz.prog 172 11) (lpK Tryz.prog 172 11) (stV [(0, some (nS)), (1, some (Value.int IntKind.u64 (Int.fdiv n (2 ^ 4)))), (2, some (vi 16)), (3, some (vb false)), (4, some (vb false)), (10, some (nS)), (11, some (vz)), (12, some (pt 0)), (13, some q5), (14, some (Value.int IntKind.u64 4)), (15, some (Value.int IntKind.u64 16)), (16, some (Value.int IntKind.u64 15))] [(0, some (AObj.cells [Value.int IntKind.u8 0, Value.int IntKind.u8 0, Value.int IntKind.u8 0, Value.int IntKind.u8 0, Value.int IntKind.u8 0, Value.int IntKind.u8 0, Value.int IntKind.u8 0, Value.int IntKind.u8 0, Value.int IntKind.u8 0, Value.int IntKind.u8 0, Value.int IntKind.u8 0, Value.int IntKind.u8 0, Value.int IntKind.u8 0, Value.int IntKind.u8 0, Value.int IntKind.u8 0, Value.int IntKind.u8 0, Value.int IntKind.u8 0, Value.int IntKind.u8 0, Value.int IntKind.u8 0, Value.int IntKind.u8 0, Value.int IntKind.u8 0, Value.int IntKind.u8 0, Value.int IntKind.u8 0, Value.int IntKind.u8 0, Value.int IntKind.u8 0, Value.int IntKind.u8 0, Value.int IntKind.u8 0, Value.int IntKind.u8 0, Value.int IntKind.u8 0, Value.int IntKind.u8 0, Value.int IntKind.u8 0, Value.int IntKind.u8 0, Value.int IntKind.u8 0, Value.int IntKind.u8 0, Value.int IntKind.u8 0, Value.int IntKind.u8 0, Value.int IntKind.u8 0, Value.int IntKind.u8 0, Value.int IntKind.u8 0, Value.int IntKind.u8 0, Value.int IntKind.u8 0, Value.int IntKind.u8 0, Value.int IntKind.u8 0, Value.int IntKind.u8 0, Value.int IntKind.u8 0, Value.int IntKind.u8 0, Value.int IntKind.u8 0, Value.int IntKind.u8 0, Value.int IntKind.u8 0, Value.int IntKind.u8 0, Value.int IntKind.u8 0, Value.int IntKind.u8 0, Value.int IntKind.u8 0, Value.int IntKind.u8 0, Value.int IntKind.u8 0, Value.int IntKind.u8 0, Value.int IntKind.u8 0, Value.int IntKind.u8 0, Value.int IntKind.u8 0, Value.int IntKind.u8 (↑(UInt8.toNat (Array.getD q2 (Int.toNat (IntKind.wrap IntKind.u64 q3)) 0)) : Int), Value.int IntKind.u8 a0, Value.int IntKind.u8 a1, Value.int IntKind.u8 a2, Value.int IntKind.u8 a3, Value.int IntKind.u8 a4] true))] 1)))))) (T4 (True ∧ (0 ≤ n ∧ n < (↑36 : Int)) ∧ q4 ∧ 60 ≤ 65 ∧ T2 (True ∧ (True ∧ toI (vi 0) ≤ IntKind.wrap IntKind.i64 (60 - 1) ∧ 59 ≤ 65 ∧ 65 ≤ 65 ∧ 65 ≤ 65) ∧ (65 ≤ 65 ∧ AllU8 q1) ∧ True ∧ (T2 (True)) ∧ Post (Value.tuple #[tree 1 0 #[], vs (bytesL q1)])))))) := by kernel_rfl
theorem l_fmt6 (n m a0 a1 a2 a3 a4 a5 : Int) (H : HT) (Post : PV) : vcLP Tryz.prog vcFm 172 [.slice none 0 0, .int .u64 m, .int .i64 16, .bool false, .bool false] [(11, [0, 1, 2, 3, 4, 10, 11, 12, 13, 14, 15, 16])] 11 (stV [(0, some (.slice none 0 0)), (1, some (.int .u64 n)), (2, some (.int .i64 16)), (3, some (.bool false)), (4, some (.bool false)), (10, some (.slice none 0 0)), (11, some (.string ⟨#[]⟩)), (12, some (.pointer (some ⟨0, 0, none⟩))), (13, some (.int .i64 59)), (14, some (.int .u64 4)), (15, some (.int .u64 16)), (16, some (.int .u64 15))] [(0, some (.cells [.int .u8 0, .int .u8 0, .int .u8 0, .int .u8 0, .int .u8 0, .int .u8 0, .int .u8 0, .int .u8 0, .int .u8 0, .int .u8 0, .int .u8 0, .int .u8 0, .int .u8 0, .int .u8 0, .int .u8 0, .int .u8 0, .int .u8 0, .int .u8 0, .int .u8 0, .int .u8 0, .int .u8 0, .int .u8 0, .int .u8 0, .int .u8 0, .int .u8 0, .int .u8 0, .int .u8 0, .int .u8 0, .int .u8 0, .int .u8 0, .int .u8 0, .int .u8 0, .int .u8 0, .int .u8 0, .int .u8 0, .int .u8 0, .int .u8 0, .int .u8 0, .int .u8 0, .int .u8 0, .int .u8 0, .int .u8 0, .int .u8 0, .int .u8 0, .int .u8 0, .int .u8 0, .int .u8 0, .int .u8 0, .int .u8 0, .int .u8 0, .int .u8 0, .int .u8 0, .int .u8 0, .int .u8 0, .int .u8 0, .int .u8 0, .int .u8 0, .int .u8 0, .int .u8 0, .int .u8 a0, .int .u8 a1, .int .u8 a2, .int .u8 a3, .int .u8 a4, .int .u8 a5] true))] 1) H Post = (let q5 := vi (IntKind.wrap IntKind.i64 (59 - 1)); let q4 := (toI (vi 0) ≤ IntKind.wrap IntKind.i64 (59 - 1) ∧ toI q5 < (↑65 : Int)); let q3 := (↑(BitVec.toNat (BitVec.ofInt 64 n &&& BitVec.ofInt 64 15)) : Int); let q2 := ByteArray.data (ByteArray.mk #[48, 49, 50, 51, 52, 53, 54, 55, 56, 57, 97, 98, 99, 100, 101, 102, 103, 104, 105, 106, 107, 108, 109, 110, 111, 112, 113, 114, 115, 116, 117, 118, 119, 120, 121, 122]); let q1 := [Value.int IntKind.u8 (↑(UInt8.toNat (Array.getD q2 (Int.toNat n) 0)) : Int), Value.int IntKind.u8 a0, Value.int IntKind.u8 a1, Value.int IntKind.u8 a2, Value.int IntKind.u8 a3, Value.int IntKind.u8 a4, Value.int IntKind.u8 a5]; T2 (True ∧ pIf (decide (n ≥ 16)) (T4 (T2 (True ∧ (0 ≤ IntKind.wrap IntKind.u64 q3 ∧ IntKind.wrap IntKind.u64 q3 < (↑36 : Int)) ∧ q4 ∧ 59 ≤ 65 ∧ T2 (toI (vi 0) ≤ 4 ∧ T2 ((True ∧ True) ∧ H (lpC Tryz.prog 172 11) (lpK Tryz.prog 172 11) (stV [(0, some (nS)), (1, some (Value.int IntKind.u64 (Int.fdiv n (2 ^ 4)))), (2, some (vi 16)), (3, some (vb false)), (4, some (vb false)), (10, some (nS)), (11, some (vz)), (12, some (pt 0)), (13, some q5), (14, some (Value.int IntKind.u64 4)), (15, some (Value.int IntKind.u64 16)), (16, some (Value.int IntKind.u64 15))] [(0, some (AObj.cells [Value.int IntKind.u8 0, Value.int IntKind.u8 0, Value.int IntKind.u8 0, Value.int IntKind.u8 0, Value.int IntKind.u8 0, Value.int IntKind.u8 0, Value.int IntKind.u8 0, Value.int IntKind.u8 0, Value.int IntKind.u8 0, Value.int IntKind.u8 0, Value.int IntKind.u8 0, Value.int IntKind.u8 0, Value.int IntKind.u8 0, Value.int IntKind.u8 0, Value.int IntKind.u8 0, Value.int IntKind.u8 0, Value.int IntKind.u8 0, Value.int IntKind.u8 0, Value.int IntKind.u8 0, Value.int IntKind.u8 0, Value.int IntKind.u8 0, Value.int IntKind.u8 0, Value.int IntKind.u8 0, Value.int IntKind.u8 0, Value.int IntKind.u8 0, Value.int IntKind.u8 0, Value.int IntKind.u8 0, Value.int IntKind.u8 0, Value.int IntKind.u8 0, Value.int IntKind.u8 0, Value.int IntKind.u8 0, Value.int IntKind.u8 0, Value.int IntKind.u8 0, Value.int IntKind.u8 0, Value.int IntKind.u8 0, Value.int IntKind.u8 0, Value.int IntKind.u8 0, Value.int IntKind.u8 0, Value.int IntKind.u8 0, Value.int IntKind.u8 0, Value.int IntKind.u8 0, Value.int IntKind.u8 0, Value.int IntKind.u8 0, Value.int IntKind.u8 0, Value.int IntKind.u8 0, Value.int IntKind.u8 0, Value.int IntKind.u8 0, Value.int IntKind.u8 0, Value.int IntKind.u8 0, Value.int IntKind.u8 0, Value.int IntKind.u8 0, Value.int IntKind.u8 0, Value.int IntKind.u8 0, Value.int IntKind.u8 0, Value.int IntKind.u8 0, Value.int IntKind.u8 0, Value.int IntKind.u8 0, Value.int IntKind.u8 0, Value.int IntKind.u8 (↑(UInt8.toNat (Array.getD q2 (Int.toNat (IntKind.wrap IntKind.u64 q3)) 0)) : Int), Value.int IntKind.u8 a0, Value.int IntKind.u8 a1, Value.int IntKind.u8 a2, Value.int IntKind.u8 a3, Value.int IntKind.u8 a4, Value.int IntKind.u8 a5] true))] 1)))))) (T4 (True ∧ (0 ≤ n ∧ n < (↑36 : Int)) ∧ q4 ∧ 59 ≤ 65 ∧ T2 (True ∧ (True ∧ toI (vi 0) ≤ IntKind.wrap IntKind.i64 (59 - 1) ∧ 58 ≤ 65 ∧ 65 ≤ 65 ∧ 65 ≤ 65) ∧ (65 ≤ 65 ∧ AllU8 q1) ∧ True ∧ (T2 (True)) ∧ Post (Value.tuple #[tree 1 0 #[], vs (bytesL q1)])))))) := by kernel_rfl
theorem l_fmt7 (n m a0 a1 a2 a3 a4 a5 a6 : Int) (H : HT) (Post : PV) : vcLP Tryz.prog vcFm 172 [.slice none 0 0, .int .u64 m, .int .i64 16, .bool false, .bool false] [(11, [0, 1, 2, 3, 4, 10, 11, 12, 13, 14, 15, 16])] 11 (stV [(0, some (.slice none 0 0)), (1, some (.int .u64 n)), (2, some (.int .i64 16)), (3, some (.bool false)), (4, some (.bool false)), (10, some (.slice none 0 0)), (11, some (.string ⟨#[]⟩)), (12, some (.pointer (some ⟨0, 0, none⟩))), (13, some (.int .i64 58)), (14, some (.int .u64 4)), (15, some (.int .u64 16)), (16, some (.int .u64 15))] [(0, some (.cells [.int .u8 0, .int .u8 0, .int .u8 0, .int .u8 0, .int .u8 0, .int .u8 0, .int .u8 0, .int .u8 0, .int .u8 0, .int .u8 0, .int .u8 0, .int .u8 0, .int .u8 0, .int .u8 0, .int .u8 0, .int .u8 0, .int .u8 0, .int .u8 0, .int .u8 0, .int .u8 0, .int .u8 0, .int .u8 0, .int .u8 0, .int .u8 0, .int .u8 0, .int .u8 0, .int .u8 0, .int .u8 0, .int .u8 0, .int .u8 0, .int .u8 0, .int .u8 0, .int .u8 0, .int .u8 0, .int .u8 0, .int .u8 0, .int .u8 0, .int .u8 0, .int .u8 0, .int .u8 0, .int .u8 0, .int .u8 0, .int .u8 0, .int .u8 0, .int .u8 0, .int .u8 0, .int .u8 0, .int .u8 0, .int .u8 0, .int .u8 0, .int .u8 0, .int .u8 0, .int .u8 0, .int .u8 0, .int .u8 0, .int .u8 0, .int .u8 0, .int .u8 0, .int .u8 a0, .int .u8 a1, .int .u8 a2, .int .u8 a3, .int .u8 a4, .int .u8 a5, .int .u8 a6] true))] 1) H Post = (let q5 := vi (IntKind.wrap IntKind.i64 (58 - 1)); let q4 := (toI (vi 0) ≤ IntKind.wrap IntKind.i64 (58 - 1) ∧ toI q5 < (↑65 : Int)); let q3 := (↑(BitVec.toNat (BitVec.ofInt 64 n &&& BitVec.ofInt 64 15)) : Int); let q2 := ByteArray.data (ByteArray.mk #[48, 49, 50, 51, 52, 53, 54, 55, 56, 57, 97, 98, 99, 100, 101, 102, 103, 104, 105, 106, 107, 108, 109, 110, 111, 112, 113, 114, 115, 116, 117, 118, 119, 120, 121, 122]); let q1 := [Value.int IntKind.u8 (↑(UInt8.toNat (Array.getD q2 (Int.toNat n) 0)) : Int), Value.int IntKind.u8 a0, Value.int IntKind.u8 a1, Value.int IntKind.u8 a2, Value.int IntKind.u8 a3, Value.int IntKind.u8 a4, Value.int IntKind.u8 a5, Value.int IntKind.u8 a6]; T2 (True ∧ pIf (decide (n ≥ 16)) (T4 (T2 (True ∧ (0 ≤ IntKind.wrap IntKind.u64 q3 ∧ IntKind.wrap IntKind.u64 q3 < (↑36 : Int)) ∧ q4 ∧ 58 ≤ 65 ∧ T2 (toI (vi 0) ≤ 4 ∧ T2 ((True ∧ True) ∧ H (lpC Tryz.prog 172 11) (lpK Tryz.prog 172 11) (stV [(0, some (nS)), (1, some (Value.int IntKind.u64 (Int.fdiv n (2 ^ 4)))), (2, some (vi 16)), (3, some (vb false)), (4, some (vb false)), (10, some (nS)), (11, some (vz)), (12, some (pt 0)), (13, some q5), (14, some (Value.int IntKind.u64 4)), (15, some (Value.int IntKind.u64 16)), (16, some (Value.int IntKind.u64 15))] [(0, some (AObj.cells [Value.int IntKind.u8 0, Value.int IntKind.u8 0, Value.int IntKind.u8 0, Value.int IntKind.u8 0, Value.int IntKind.u8 0, Value.int IntKind.u8 0, Value.int IntKind.u8 0, Value.int IntKind.u8 0, Value.int IntKind.u8 0, Value.int IntKind.u8 0, Value.int IntKind.u8 0, Value.int IntKind.u8 0, Value.int IntKind.u8 0, Value.int IntKind.u8 0, Value.int IntKind.u8 0, Value.int IntKind.u8 0, Value.int IntKind.u8 0, Value.int IntKind.u8 0, Value.int IntKind.u8 0, Value.int IntKind.u8 0, Value.int IntKind.u8 0, Value.int IntKind.u8 0, Value.int IntKind.u8 0, Value.int IntKind.u8 0, Value.int IntKind.u8 0, Value.int IntKind.u8 0, Value.int IntKind.u8 0, Value.int IntKind.u8 0, Value.int IntKind.u8 0, Value.int IntKind.u8 0, Value.int IntKind.u8 0, Value.int IntKind.u8 0, Value.int IntKind.u8 0, Value.int IntKind.u8 0, Value.int IntKind.u8 0, Value.int IntKind.u8 0, Value.int IntKind.u8 0, Value.int IntKind.u8 0, Value.int IntKind.u8 0, Value.int IntKind.u8 0, Value.int IntKind.u8 0, Value.int IntKind.u8 0, Value.int IntKind.u8 0, Value.int IntKind.u8 0, Value.int IntKind.u8 0, Value.int IntKind.u8 0, Value.int IntKind.u8 0, Value.int IntKind.u8 0, Value.int IntKind.u8 0, Value.int IntKind.u8 0, Value.int IntKind.u8 0, Value.int IntKind.u8 0, Value.int IntKind.u8 0, Value.int IntKind.u8 0, Value.int IntKind.u8 0, Value.int IntKind.u8 0, Value.int IntKind.u8 0, Value.int IntKind.u8 (↑(UInt8.toNat (Array.getD q2 (Int.toNat (IntKind.wrap IntKind.u64 q3)) 0)) : Int), Value.int IntKind.u8 a0, Value.int IntKind.u8 a1, Value.int IntKind.u8 a2, Value.int IntKind.u8 a3, Value.int IntKind.u8 a4, Value.int IntKind.u8 a5, Value.int IntKind.u8 a6] true))] 1)))))) (T4 (True ∧ (0 ≤ n ∧ n < (↑36 : Int)) ∧ q4 ∧ 58 ≤ 65 ∧ T2 (True ∧ (True ∧ toI (vi 0) ≤ IntKind.wrap IntKind.i64 (58 - 1) ∧ 57 ≤ 65 ∧ 65 ≤ 65 ∧ 65 ≤ 65) ∧ (65 ≤ 65 ∧ AllU8 q1) ∧ True ∧ (T2 (True)) ∧ Post (Value.tuple #[tree 1 0 #[], vs (bytesL q1)])))))) := by kernel_rfl
def dg (k : Nat) : UInt8 := Array.getD (ByteArray.data (ByteArray.mk #[48, 49, 50, 51, 52, 53, 54, 55, 56, 57, 97, 98, 99, 100, 101, 102, 103, 104, 105, 106, 107, 108, 109, 110, 111, 112, 113, 114, 115, 116, 117, 118, 119, 120, 121, 122])) k 0
def hexT : Nat → Nat → List UInt8 → List UInt8
 | 0, n, acc => dg n :: acc
 | f + 1, n, acc => if 16 ≤ n then hexT f (n / 16) (dg (n % 16) :: acc) else dg n :: acc
def hexS (n : Nat) : ByteArray := ⟨(hexT 8 n []).toArray⟩
theorem vcFm_ok : VCallOk Tryz.prog vcFm := inlCall_ok mixed (tabCall_ok (by
 intro e he
 simp only [List.mem_cons, List.not_mem_nil, or_false] at he
 subst he
 exact ok_at tz16) noCall_ok) 3
theorem and64 {n : Nat} (h : n < 4294967296) : IntKind.wrap .u64 ((BitVec.toNat (BitVec.ofInt 64 (n : Int) &&& BitVec.ofInt 64 15) : Nat) : Int) = ((n % 16 : Nat) : Int) := by
 have e : BitVec.toNat (BitVec.ofInt 64 (n : Int) &&& BitVec.ofInt 64 15) = n % 16 := by
  rw [BitVec.toNat_and, BitVec.ofInt_natCast, show BitVec.ofInt 64 15 = 15#64 by decide, BitVec.toNat_ofNat, Nat.mod_eq_of_lt (show n < 2 ^ 64 by omega)]
  exact Nat.and_two_pow_sub_one_eq_mod n 4
 rw [e]
 have := Nat.mod_lt n (show 0 < 16 by decide)
 simp [IntKind.wrap, IntKind.bits, IntKind.signed]
 omega
theorem fdiv16 (n : Nat) : Int.fdiv (n : Int) (2 ^ 4) = ((n / 16 : Nat) : Int) := by
 rw [Int.fdiv_eq_ediv_of_nonneg _ (by decide)]
 rfl
def cellU (x : UInt8) : Value := .int .u8 ((x.toNat : Nat) : Int)
theorem allU8_map (l : List UInt8) : AllU8 (l.map cellU) := fun v hv => by
 obtain ⟨x, _, rfl⟩ := List.mem_map.1 hv
 exact ⟨_, rfl⟩
theorem bytesL_map (l : List UInt8) : bytesL (l.map cellU) = ⟨l.toArray⟩ := by
 have e : byteOf ∘ cellU = id := funext fun x => by
  show UInt8.ofNat ((x.toNat : Int)).toNat = x
  simp
 unfold bytesL
 rw [List.map_map, e, List.map_id]
def c_fmtB (args : List Value) (Post : Value → Prop) : Prop := ∃ n : Nat, args = [.slice none 0 0, .int .u64 n, .int .i64 16, .bool false, .bool false] ∧ n < 4294967296 ∧ Post (.tuple #[tree 1 0 #[], .string (hexS n)])
theorem fmt7 {m : Int} {Post : Value → Prop} (n : Nat) (hn : n < 16) (x0 x1 x2 x3 x4 x5 x6 : UInt8) (h : Post (.tuple #[tree 1 0 #[], .string ⟨(hexT 1 n [x0, x1, x2, x3, x4, x5, x6]).toArray⟩])) : OkP 172 [.slice none 0 0, .int .u64 m, .int .i64 16, .bool false, .bool false] 11 Post (stV [(0, some (.slice none 0 0)), (1, some (.int .u64 (n : Int))), (2, some (.int .i64 16)), (3, some (.bool false)), (4, some (.bool false)), (10, some (.slice none 0 0)), (11, some (.string ⟨#[]⟩)), (12, some (.pointer (some ⟨0, 0, none⟩))), (13, some (.int .i64 58)), (14, some (.int .u64 4)), (15, some (.int .u64 16)), (16, some (.int .u64 15))] [(0, some (.cells [.int .u8 0, .int .u8 0, .int .u8 0, .int .u8 0, .int .u8 0, .int .u8 0, .int .u8 0, .int .u8 0, .int .u8 0, .int .u8 0, .int .u8 0, .int .u8 0, .int .u8 0, .int .u8 0, .int .u8 0, .int .u8 0, .int .u8 0, .int .u8 0, .int .u8 0, .int .u8 0, .int .u8 0, .int .u8 0, .int .u8 0, .int .u8 0, .int .u8 0, .int .u8 0, .int .u8 0, .int .u8 0, .int .u8 0, .int .u8 0, .int .u8 0, .int .u8 0, .int .u8 0, .int .u8 0, .int .u8 0, .int .u8 0, .int .u8 0, .int .u8 0, .int .u8 0, .int .u8 0, .int .u8 0, .int .u8 0, .int .u8 0, .int .u8 0, .int .u8 0, .int .u8 0, .int .u8 0, .int .u8 0, .int .u8 0, .int .u8 0, .int .u8 0, .int .u8 0, .int .u8 0, .int .u8 0, .int .u8 0, .int .u8 0, .int .u8 0, .int .u8 0, .int .u8 ((x0.toNat : Nat) : Int), .int .u8 ((x1.toNat : Nat) : Int), .int .u8 ((x2.toNat : Nat) : Int), .int .u8 ((x3.toNat : Nat) : Int), .int .u8 ((x4.toNat : Nat) : Int), .int .u8 ((x5.toNat : Nat) : Int), .int .u8 ((x6.toNat : Nat) : Int)] true))] 1) := by
 refine ok_P vcFm_ok mixed _ (l_fmt7 n m x0.toNat x1.toNat x2.toNat x3.toNat x4.toNat x5.toNat x6.toNat _ _) ?_
 have w1 : IntKind.wrap .i64 (58 - 1) = 57 := by decide
 simp only [true_and, and_true, and64 (show n < 4294967296 by omega), fdiv16, Int.toNat_natCast, w1, toI_int]
 refine ifC (fun h1 => by omega) (fun h2 => ?_)
 ·rw [hexT, if_neg (show ¬ 16 ≤ n by omega), ← bytesL_map] at h
  exact ⟨⟨by omega, by omega⟩, by decide, by decide, by decide, ⟨by decide, allU8_map (dg n :: [x0, x1, x2, x3, x4, x5, x6])⟩, h⟩
theorem fmt6 {m : Int} {Post : Value → Prop} (n : Nat) (hn : n < 256) (x0 x1 x2 x3 x4 x5 : UInt8) (h : Post (.tuple #[tree 1 0 #[], .string ⟨(hexT 2 n [x0, x1, x2, x3, x4, x5]).toArray⟩])) : OkP 172 [.slice none 0 0, .int .u64 m, .int .i64 16, .bool false, .bool false] 11 Post (stV [(0, some (.slice none 0 0)), (1, some (.int .u64 (n : Int))), (2, some (.int .i64 16)), (3, some (.bool false)), (4, some (.bool false)), (10, some (.slice none 0 0)), (11, some (.string ⟨#[]⟩)), (12, some (.pointer (some ⟨0, 0, none⟩))), (13, some (.int .i64 59)), (14, some (.int .u64 4)), (15, some (.int .u64 16)), (16, some (.int .u64 15))] [(0, some (.cells [.int .u8 0, .int .u8 0, .int .u8 0, .int .u8 0, .int .u8 0, .int .u8 0, .int .u8 0, .int .u8 0, .int .u8 0, .int .u8 0, .int .u8 0, .int .u8 0, .int .u8 0, .int .u8 0, .int .u8 0, .int .u8 0, .int .u8 0, .int .u8 0, .int .u8 0, .int .u8 0, .int .u8 0, .int .u8 0, .int .u8 0, .int .u8 0, .int .u8 0, .int .u8 0, .int .u8 0, .int .u8 0, .int .u8 0, .int .u8 0, .int .u8 0, .int .u8 0, .int .u8 0, .int .u8 0, .int .u8 0, .int .u8 0, .int .u8 0, .int .u8 0, .int .u8 0, .int .u8 0, .int .u8 0, .int .u8 0, .int .u8 0, .int .u8 0, .int .u8 0, .int .u8 0, .int .u8 0, .int .u8 0, .int .u8 0, .int .u8 0, .int .u8 0, .int .u8 0, .int .u8 0, .int .u8 0, .int .u8 0, .int .u8 0, .int .u8 0, .int .u8 0, .int .u8 0, .int .u8 ((x0.toNat : Nat) : Int), .int .u8 ((x1.toNat : Nat) : Int), .int .u8 ((x2.toNat : Nat) : Int), .int .u8 ((x3.toNat : Nat) : Int), .int .u8 ((x4.toNat : Nat) : Int), .int .u8 ((x5.toNat : Nat) : Int)] true))] 1) := by
 refine ok_P vcFm_ok mixed _ (l_fmt6 n m x0.toNat x1.toNat x2.toNat x3.toNat x4.toNat x5.toNat _ _) ?_
 have w1 : IntKind.wrap .i64 (59 - 1) = 58 := by decide
 simp only [true_and, and_true, and64 (show n < 4294967296 by omega), fdiv16, Int.toNat_natCast, w1, toI_int]
 refine ifC (fun h1 => ?_) (fun h2 => ?_)
 ·rw [hexT, if_pos (show 16 ≤ n by omega)] at h
  exact ⟨⟨by omega, by omega⟩, by decide, by decide, by decide, fmt7 (n / 16) (by omega) (dg (n % 16)) x0 x1 x2 x3 x4 x5 h⟩
 ·rw [hexT, if_neg (show ¬ 16 ≤ n by omega), ← bytesL_map] at h
  exact ⟨⟨by omega, by omega⟩, by decide, by decide, by decide, ⟨by decide, allU8_map (dg n :: [x0, x1, x2, x3, x4, x5])⟩, h⟩
theorem fmt5 {m : Int} {Post : Value → Prop} (n : Nat) (hn : n < 4096) (x0 x1 x2 x3 x4 : UInt8) (h : Post (.tuple #[tree 1 0 #[], .string ⟨(hexT 3 n [x0, x1, x2, x3, x4]).toArray⟩])) : OkP 172 [.slice none 0 0, .int .u64 m, .int .i64 16, .bool false, .bool false] 11 Post (stV [(0, some (.slice none 0 0)), (1, some (.int .u64 (n : Int))), (2, some (.int .i64 16)), (3, some (.bool false)), (4, some (.bool false)), (10, some (.slice none 0 0)), (11, some (.string ⟨#[]⟩)), (12, some (.pointer (some ⟨0, 0, none⟩))), (13, some (.int .i64 60)), (14, some (.int .u64 4)), (15, some (.int .u64 16)), (16, some (.int .u64 15))] [(0, some (.cells [.int .u8 0, .int .u8 0, .int .u8 0, .int .u8 0, .int .u8 0, .int .u8 0, .int .u8 0, .int .u8 0, .int .u8 0, .int .u8 0, .int .u8 0, .int .u8 0, .int .u8 0, .int .u8 0, .int .u8 0, .int .u8 0, .int .u8 0, .int .u8 0, .int .u8 0, .int .u8 0, .int .u8 0, .int .u8 0, .int .u8 0, .int .u8 0, .int .u8 0, .int .u8 0, .int .u8 0, .int .u8 0, .int .u8 0, .int .u8 0, .int .u8 0, .int .u8 0, .int .u8 0, .int .u8 0, .int .u8 0, .int .u8 0, .int .u8 0, .int .u8 0, .int .u8 0, .int .u8 0, .int .u8 0, .int .u8 0, .int .u8 0, .int .u8 0, .int .u8 0, .int .u8 0, .int .u8 0, .int .u8 0, .int .u8 0, .int .u8 0, .int .u8 0, .int .u8 0, .int .u8 0, .int .u8 0, .int .u8 0, .int .u8 0, .int .u8 0, .int .u8 0, .int .u8 0, .int .u8 0, .int .u8 ((x0.toNat : Nat) : Int), .int .u8 ((x1.toNat : Nat) : Int), .int .u8 ((x2.toNat : Nat) : Int), .int .u8 ((x3.toNat : Nat) : Int), .int .u8 ((x4.toNat : Nat) : Int)] true))] 1) := by
 refine ok_P vcFm_ok mixed _ (l_fmt5 n m x0.toNat x1.toNat x2.toNat x3.toNat x4.toNat _ _) ?_
 have w1 : IntKind.wrap .i64 (60 - 1) = 59 := by decide
 simp only [true_and, and_true, and64 (show n < 4294967296 by omega), fdiv16, Int.toNat_natCast, w1, toI_int]
 refine ifC (fun h1 => ?_) (fun h2 => ?_)
 ·rw [hexT, if_pos (show 16 ≤ n by omega)] at h
  exact ⟨⟨by omega, by omega⟩, by decide, by decide, by decide, fmt6 (n / 16) (by omega) (dg (n % 16)) x0 x1 x2 x3 x4 h⟩
 ·rw [hexT, if_neg (show ¬ 16 ≤ n by omega), ← bytesL_map] at h
  exact ⟨⟨by omega, by omega⟩, by decide, by decide, by decide, ⟨by decide, allU8_map (dg n :: [x0, x1, x2, x3, x4])⟩, h⟩
theorem fmt4 {m : Int} {Post : Value → Prop} (n : Nat) (hn : n < 65536) (x0 x1 x2 x3 : UInt8) (h : Post (.tuple #[tree 1 0 #[], .string ⟨(hexT 4 n [x0, x1, x2, x3]).toArray⟩])) : OkP 172 [.slice none 0 0, .int .u64 m, .int .i64 16, .bool false, .bool false] 11 Post (stV [(0, some (.slice none 0 0)), (1, some (.int .u64 (n : Int))), (2, some (.int .i64 16)), (3, some (.bool false)), (4, some (.bool false)), (10, some (.slice none 0 0)), (11, some (.string ⟨#[]⟩)), (12, some (.pointer (some ⟨0, 0, none⟩))), (13, some (.int .i64 61)), (14, some (.int .u64 4)), (15, some (.int .u64 16)), (16, some (.int .u64 15))] [(0, some (.cells [.int .u8 0, .int .u8 0, .int .u8 0, .int .u8 0, .int .u8 0, .int .u8 0, .int .u8 0, .int .u8 0, .int .u8 0, .int .u8 0, .int .u8 0, .int .u8 0, .int .u8 0, .int .u8 0, .int .u8 0, .int .u8 0, .int .u8 0, .int .u8 0, .int .u8 0, .int .u8 0, .int .u8 0, .int .u8 0, .int .u8 0, .int .u8 0, .int .u8 0, .int .u8 0, .int .u8 0, .int .u8 0, .int .u8 0, .int .u8 0, .int .u8 0, .int .u8 0, .int .u8 0, .int .u8 0, .int .u8 0, .int .u8 0, .int .u8 0, .int .u8 0, .int .u8 0, .int .u8 0, .int .u8 0, .int .u8 0, .int .u8 0, .int .u8 0, .int .u8 0, .int .u8 0, .int .u8 0, .int .u8 0, .int .u8 0, .int .u8 0, .int .u8 0, .int .u8 0, .int .u8 0, .int .u8 0, .int .u8 0, .int .u8 0, .int .u8 0, .int .u8 0, .int .u8 0, .int .u8 0, .int .u8 0, .int .u8 ((x0.toNat : Nat) : Int), .int .u8 ((x1.toNat : Nat) : Int), .int .u8 ((x2.toNat : Nat) : Int), .int .u8 ((x3.toNat : Nat) : Int)] true))] 1) := by
 refine ok_P vcFm_ok mixed _ (l_fmt4 n m x0.toNat x1.toNat x2.toNat x3.toNat _ _) ?_
 have w1 : IntKind.wrap .i64 (61 - 1) = 60 := by decide
 simp only [true_and, and_true, and64 (show n < 4294967296 by omega), fdiv16, Int.toNat_natCast, w1, toI_int]
 refine ifC (fun h1 => ?_) (fun h2 => ?_)
 ·rw [hexT, if_pos (show 16 ≤ n by omega)] at h
  exact ⟨⟨by omega, by omega⟩, by decide, by decide, by decide, fmt5 (n / 16) (by omega) (dg (n % 16)) x0 x1 x2 x3 h⟩
 ·rw [hexT, if_neg (show ¬ 16 ≤ n by omega), ← bytesL_map] at h
  exact ⟨⟨by omega, by omega⟩, by decide, by decide, by decide, ⟨by decide, allU8_map (dg n :: [x0, x1, x2, x3])⟩, h⟩
theorem fmt3 {m : Int} {Post : Value → Prop} (n : Nat) (hn : n < 1048576) (x0 x1 x2 : UInt8) (h : Post (.tuple #[tree 1 0 #[], .string ⟨(hexT 5 n [x0, x1, x2]).toArray⟩])) : OkP 172 [.slice none 0 0, .int .u64 m, .int .i64 16, .bool false, .bool false] 11 Post (stV [(0, some (.slice none 0 0)), (1, some (.int .u64 (n : Int))), (2, some (.int .i64 16)), (3, some (.bool false)), (4, some (.bool false)), (10, some (.slice none 0 0)), (11, some (.string ⟨#[]⟩)), (12, some (.pointer (some ⟨0, 0, none⟩))), (13, some (.int .i64 62)), (14, some (.int .u64 4)), (15, some (.int .u64 16)), (16, some (.int .u64 15))] [(0, some (.cells [.int .u8 0, .int .u8 0, .int .u8 0, .int .u8 0, .int .u8 0, .int .u8 0, .int .u8 0, .int .u8 0, .int .u8 0, .int .u8 0, .int .u8 0, .int .u8 0, .int .u8 0, .int .u8 0, .int .u8 0, .int .u8 0, .int .u8 0, .int .u8 0, .int .u8 0, .int .u8 0, .int .u8 0, .int .u8 0, .int .u8 0, .int .u8 0, .int .u8 0, .int .u8 0, .int .u8 0, .int .u8 0, .int .u8 0, .int .u8 0, .int .u8 0, .int .u8 0, .int .u8 0, .int .u8 0, .int .u8 0, .int .u8 0, .int .u8 0, .int .u8 0, .int .u8 0, .int .u8 0, .int .u8 0, .int .u8 0, .int .u8 0, .int .u8 0, .int .u8 0, .int .u8 0, .int .u8 0, .int .u8 0, .int .u8 0, .int .u8 0, .int .u8 0, .int .u8 0, .int .u8 0, .int .u8 0, .int .u8 0, .int .u8 0, .int .u8 0, .int .u8 0, .int .u8 0, .int .u8 0, .int .u8 0, .int .u8 0, .int .u8 ((x0.toNat : Nat) : Int), .int .u8 ((x1.toNat : Nat) : Int), .int .u8 ((x2.toNat : Nat) : Int)] true))] 1) := by
 refine ok_P vcFm_ok mixed _ (l_fmt3 n m x0.toNat x1.toNat x2.toNat _ _) ?_
 have w1 : IntKind.wrap .i64 (62 - 1) = 61 := by decide
 simp only [true_and, and_true, and64 (show n < 4294967296 by omega), fdiv16, Int.toNat_natCast, w1, toI_int]
 refine ifC (fun h1 => ?_) (fun h2 => ?_)
 ·rw [hexT, if_pos (show 16 ≤ n by omega)] at h
  exact ⟨⟨by omega, by omega⟩, by decide, by decide, by decide, fmt4 (n / 16) (by omega) (dg (n % 16)) x0 x1 x2 h⟩
 ·rw [hexT, if_neg (show ¬ 16 ≤ n by omega), ← bytesL_map] at h
  exact ⟨⟨by omega, by omega⟩, by decide, by decide, by decide, ⟨by decide, allU8_map (dg n :: [x0, x1, x2])⟩, h⟩
theorem fmt2 {m : Int} {Post : Value → Prop} (n : Nat) (hn : n < 16777216) (x0 x1 : UInt8) (h : Post (.tuple #[tree 1 0 #[], .string ⟨(hexT 6 n [x0, x1]).toArray⟩])) : OkP 172 [.slice none 0 0, .int .u64 m, .int .i64 16, .bool false, .bool false] 11 Post (stV [(0, some (.slice none 0 0)), (1, some (.int .u64 (n : Int))), (2, some (.int .i64 16)), (3, some (.bool false)), (4, some (.bool false)), (10, some (.slice none 0 0)), (11, some (.string ⟨#[]⟩)), (12, some (.pointer (some ⟨0, 0, none⟩))), (13, some (.int .i64 63)), (14, some (.int .u64 4)), (15, some (.int .u64 16)), (16, some (.int .u64 15))] [(0, some (.cells [.int .u8 0, .int .u8 0, .int .u8 0, .int .u8 0, .int .u8 0, .int .u8 0, .int .u8 0, .int .u8 0, .int .u8 0, .int .u8 0, .int .u8 0, .int .u8 0, .int .u8 0, .int .u8 0, .int .u8 0, .int .u8 0, .int .u8 0, .int .u8 0, .int .u8 0, .int .u8 0, .int .u8 0, .int .u8 0, .int .u8 0, .int .u8 0, .int .u8 0, .int .u8 0, .int .u8 0, .int .u8 0, .int .u8 0, .int .u8 0, .int .u8 0, .int .u8 0, .int .u8 0, .int .u8 0, .int .u8 0, .int .u8 0, .int .u8 0, .int .u8 0, .int .u8 0, .int .u8 0, .int .u8 0, .int .u8 0, .int .u8 0, .int .u8 0, .int .u8 0, .int .u8 0, .int .u8 0, .int .u8 0, .int .u8 0, .int .u8 0, .int .u8 0, .int .u8 0, .int .u8 0, .int .u8 0, .int .u8 0, .int .u8 0, .int .u8 0, .int .u8 0, .int .u8 0, .int .u8 0, .int .u8 0, .int .u8 0, .int .u8 0, .int .u8 ((x0.toNat : Nat) : Int), .int .u8 ((x1.toNat : Nat) : Int)] true))] 1) := by
 refine ok_P vcFm_ok mixed _ (l_fmt2 n m x0.toNat x1.toNat _ _) ?_
 have w1 : IntKind.wrap .i64 (63 - 1) = 62 := by decide
 simp only [true_and, and_true, and64 (show n < 4294967296 by omega), fdiv16, Int.toNat_natCast, w1, toI_int]
 refine ifC (fun h1 => ?_) (fun h2 => ?_)
 ·rw [hexT, if_pos (show 16 ≤ n by omega)] at h
  exact ⟨⟨by omega, by omega⟩, by decide, by decide, by decide, fmt3 (n / 16) (by omega) (dg (n % 16)) x0 x1 h⟩
 ·rw [hexT, if_neg (show ¬ 16 ≤ n by omega), ← bytesL_map] at h
  exact ⟨⟨by omega, by omega⟩, by decide, by decide, by decide, ⟨by decide, allU8_map (dg n :: [x0, x1])⟩, h⟩
theorem fmt1 {m : Int} {Post : Value → Prop} (n : Nat) (hn : n < 268435456) (x0 : UInt8) (h : Post (.tuple #[tree 1 0 #[], .string ⟨(hexT 7 n [x0]).toArray⟩])) : OkP 172 [.slice none 0 0, .int .u64 m, .int .i64 16, .bool false, .bool false] 11 Post (stV [(0, some (.slice none 0 0)), (1, some (.int .u64 (n : Int))), (2, some (.int .i64 16)), (3, some (.bool false)), (4, some (.bool false)), (10, some (.slice none 0 0)), (11, some (.string ⟨#[]⟩)), (12, some (.pointer (some ⟨0, 0, none⟩))), (13, some (.int .i64 64)), (14, some (.int .u64 4)), (15, some (.int .u64 16)), (16, some (.int .u64 15))] [(0, some (.cells [.int .u8 0, .int .u8 0, .int .u8 0, .int .u8 0, .int .u8 0, .int .u8 0, .int .u8 0, .int .u8 0, .int .u8 0, .int .u8 0, .int .u8 0, .int .u8 0, .int .u8 0, .int .u8 0, .int .u8 0, .int .u8 0, .int .u8 0, .int .u8 0, .int .u8 0, .int .u8 0, .int .u8 0, .int .u8 0, .int .u8 0, .int .u8 0, .int .u8 0, .int .u8 0, .int .u8 0, .int .u8 0, .int .u8 0, .int .u8 0, .int .u8 0, .int .u8 0, .int .u8 0, .int .u8 0, .int .u8 0, .int .u8 0, .int .u8 0, .int .u8 0, .int .u8 0, .int .u8 0, .int .u8 0, .int .u8 0, .int .u8 0, .int .u8 0, .int .u8 0, .int .u8 0, .int .u8 0, .int .u8 0, .int .u8 0, .int .u8 0, .int .u8 0, .int .u8 0, .int .u8 0, .int .u8 0, .int .u8 0, .int .u8 0, .int .u8 0, .int .u8 0, .int .u8 0, .int .u8 0, .int .u8 0, .int .u8 0, .int .u8 0, .int .u8 0, .int .u8 ((x0.toNat : Nat) : Int)] true))] 1) := by
 refine ok_P vcFm_ok mixed _ (l_fmt1 n m x0.toNat _ _) ?_
 have w1 : IntKind.wrap .i64 (64 - 1) = 63 := by decide
 simp only [true_and, and_true, and64 (show n < 4294967296 by omega), fdiv16, Int.toNat_natCast, w1, toI_int]
 refine ifC (fun h1 => ?_) (fun h2 => ?_)
 ·rw [hexT, if_pos (show 16 ≤ n by omega)] at h
  exact ⟨⟨by omega, by omega⟩, by decide, by decide, by decide, fmt2 (n / 16) (by omega) (dg (n % 16)) x0 h⟩
 ·rw [hexT, if_neg (show ¬ 16 ≤ n by omega), ← bytesL_map] at h
  exact ⟨⟨by omega, by omega⟩, by decide, by decide, by decide, ⟨by decide, allU8_map (dg n :: [x0])⟩, h⟩
theorem fmt0 {m : Int} {Post : Value → Prop} (n : Nat) (hn : n < 4294967296) (h : Post (.tuple #[tree 1 0 #[], .string ⟨(hexT 8 n []).toArray⟩])) : OkP 172 [.slice none 0 0, .int .u64 m, .int .i64 16, .bool false, .bool false] 11 Post (stV [(0, some (.slice none 0 0)), (1, some (.int .u64 (n : Int))), (2, some (.int .i64 16)), (3, some (.bool false)), (4, some (.bool false)), (10, some (.slice none 0 0)), (11, some (.string ⟨#[]⟩)), (12, some (.pointer (some ⟨0, 0, none⟩))), (13, some (.int .i64 65)), (14, some (.int .u64 4)), (15, some (.int .u64 16)), (16, some (.int .u64 15))] [(0, some (.cells [.int .u8 0, .int .u8 0, .int .u8 0, .int .u8 0, .int .u8 0, .int .u8 0, .int .u8 0, .int .u8 0, .int .u8 0, .int .u8 0, .int .u8 0, .int .u8 0, .int .u8 0, .int .u8 0, .int .u8 0, .int .u8 0, .int .u8 0, .int .u8 0, .int .u8 0, .int .u8 0, .int .u8 0, .int .u8 0, .int .u8 0, .int .u8 0, .int .u8 0, .int .u8 0, .int .u8 0, .int .u8 0, .int .u8 0, .int .u8 0, .int .u8 0, .int .u8 0, .int .u8 0, .int .u8 0, .int .u8 0, .int .u8 0, .int .u8 0, .int .u8 0, .int .u8 0, .int .u8 0, .int .u8 0, .int .u8 0, .int .u8 0, .int .u8 0, .int .u8 0, .int .u8 0, .int .u8 0, .int .u8 0, .int .u8 0, .int .u8 0, .int .u8 0, .int .u8 0, .int .u8 0, .int .u8 0, .int .u8 0, .int .u8 0, .int .u8 0, .int .u8 0, .int .u8 0, .int .u8 0, .int .u8 0, .int .u8 0, .int .u8 0, .int .u8 0, .int .u8 0] true))] 1) := by
 refine ok_P vcFm_ok mixed _ (l_fmt0 n m _ _) ?_
 have w1 : IntKind.wrap .i64 (65 - 1) = 64 := by decide
 simp only [true_and, and_true, and64 (show n < 4294967296 by omega), fdiv16, Int.toNat_natCast, w1, toI_int]
 refine ifC (fun h1 => ?_) (fun h2 => ?_)
 ·rw [hexT, if_pos (show 16 ≤ n by omega)] at h
  exact ⟨⟨by omega, by omega⟩, by decide, by decide, by decide, fmt1 (n / 16) (by omega) (dg (n % 16)) h⟩
 ·rw [hexT, if_neg (show ¬ 16 ≤ n by omega), ← bytesL_map] at h
  exact ⟨⟨by omega, by omega⟩, by decide, by decide, by decide, ⟨by decide, allU8_map (dg n :: [])⟩, h⟩
theorem ok_fmtB : EntOk Tryz.prog ⟨172, c_fmtB⟩ := by
 rintro args Post ⟨n, rfl, hn, h⟩
 refine pure_P vcFm_ok mixed (by kernel_rfl) (by kernel_rfl) _ (e_fmt n _ _) ?_
 have w1 : IntKind.wrap .u64 16 = 16 := by decide
 have w2 : IntKind.wrap .u64 4 = 4 := by decide
 have w3 : IntKind.wrap .u64 (16 - 1) = 15 := by decide
 simp only [true_and, w1, w2, w3]
 exact fmt0 n hn h
def c_fmt (args : List Value) (Post : Value → Prop) : Prop := ∃ n : Nat, args = [.int .u64 n, .int .i64 16] ∧ n < 4294967296 ∧ Post (.string (hexS n))
def vcFq : VCall := inlCall Tryz.prog [121] (tabCall [⟨172, c_fmtB⟩] noCall) 3
theorem vcFq_ok : VCallOk Tryz.prog vcFq := inlCall_ok mixed (tabCall_ok (by
 intro e he
 simp only [List.mem_cons, List.not_mem_nil, or_false] at he
 subst he
 exact ok_fmtB) noCall_ok) 3
theorem e_fq (n : Int) (H : HT) (Post : PV) : vcP Tryz.prog vcFq 74 [] [.int .u64 n, .int .i64 16] H Post = (T8 (∃ (n_1 : Nat), eqL [nS, Value.int IntKind.u64 n, vi 16, vb false, vb false] [nS, Value.int IntKind.u64 (↑n_1 : Int), vi 16, vb false, vb false] ∧ n_1 < 4294967296 ∧ T8 (True ∧ Post (vs (hexS n_1))))) := by kernel_rfl
theorem ok_fmt : EntOk Tryz.prog ⟨74, c_fmt⟩ := by
 rintro args Post ⟨n, rfl, hn, h⟩
 refine pure_P vcFq_ok mixed (by kernel_rfl) (by kernel_rfl) _ (e_fq n _ _) ?_
 simp only [true_and, and_true]
 exact ⟨n, rfl, hn, h⟩
def sumS (t : ByteArray) : ByteArray := repB ⟨#[48]⟩ (8 - (hexS (crcB t).toNat).size) ++ hexS (crcB t).toNat
def c_sum (args : List Value) (Post : Value → Prop) : Prop := ∃ t : ByteArray, args = [.string t] ∧ t.size ≤ 1099511627776 ∧ Post (.string (sumS t))
def vcSm : VCall := tabCall [⟨75, c_crc⟩, ⟨74, c_fmt⟩, ⟨76, c_rep⟩] noCall
theorem vcSm_ok : VCallOk Tryz.prog vcSm := tabCall_ok (by
 intro e he
 simp only [List.mem_cons, List.not_mem_nil, or_false] at he
 rcases he with rfl | rfl | rfl
 ·exact ok_crc
 ·exact ok_fmt
 ·exact ok_rep) noCall_ok
theorem e_sum (t : ByteArray) (H : HT) (Post : PV) : vcP Tryz.prog vcSm 44 [] [.string t] H Post = (T2 (∃ (s : ByteArray), eqL [vs t] [vs s] ∧ s.size ≤ 4611686018427387904 ∧ True ∧ ∃ (n : Nat), eqL [Value.int IntKind.u64 (IntKind.wrap IntKind.u64 (↑(BitVec.toNat (crcB s)) : Int)), vi 16] [Value.int IntKind.u64 (↑n : Int), vi 16] ∧ n < 4294967296 ∧ T4 (∃ (s : ByteArray), ∃ (n_1 : Int), eqL [vs (ByteArray.mk #[48]), vi (IntKind.wrap IntKind.i64 (8 - (↑(ByteArray.size (hexS n)) : Int)))] [vs s, vi n_1] ∧ 0 ≤ n_1 ∧ n_1 ≤ 1000000 ∧ s.size ≤ 1000000 ∧ True ∧ ByteArray.size (repB s (Int.toNat n_1)) + ByteArray.size (hexS n) ≤ 9223372036854775807 ∧ T2 (Post (vs (repB s (Int.toNat n_1) ++ hexS n)))))) := by kernel_rfl
theorem hexT_small : ∀ (f n : Nat) (acc : List UInt8), n < 16 ^ f → 0 < f → (hexT f n acc).length ≤ f + acc.length
 | 0, n, acc, _, h => by omega
 | f + 1, n, acc, hn, _ => by
  unfold hexT
  split
  ·rename_i h16
   have hf : 0 < f := by
    rcases Nat.eq_zero_or_pos f with rfl | h
    ·simp at hn; omega
    ·exact h
   have := hexT_small f (n / 16) (dg (n % 16) :: acc) (by rw [Nat.pow_succ] at hn; omega) hf
   simp at this
   omega
  ·simp
   omega
theorem hexS_size {n : Nat} (hn : n < 4294967296) : (hexS n).size ≤ 8 := by
 have := hexT_small 8 n [] (by simpa using hn) (by decide)
 simpa [hexS, ByteArray.size] using this
theorem rep_size (n : Nat) : (repB ⟨#[48]⟩ n).size = n := by
 simp [repB, ByteArray.size, Lib.repeatL_length]
theorem wI {x : Int} (h0 : 0 ≤ x) (h1 : x < 4611686018427387904) : IntKind.wrap .i64 x = x := by
 simp [IntKind.wrap, IntKind.bits, IntKind.signed]
 omega
theorem wN64 {n : Nat} (h : n < 4294967296) : IntKind.wrap .u64 (n : Int) = (n : Int) := by
 simp [IntKind.wrap, IntKind.bits, IntKind.signed]
 omega
theorem ok_sum : EntOk Tryz.prog ⟨44, c_sum⟩ := by
 rintro args Post ⟨t, rfl, ht, h⟩
 refine pure_P vcSm_ok mixed (by kernel_rfl) (by kernel_rfl) _ (e_sum t _ _) ?_
 simp only [true_and, and_true]
 have hlt : (crcB t).toNat < 4294967296 := (crcB t).isLt
 have h8 := hexS_size hlt
 refine ⟨t, rfl, by omega, (crcB t).toNat, by rw [wN64 hlt], hlt, ⟨#[48]⟩, ((8 - (hexS (crcB t).toNat).size : Nat) : Int), ?_, by omega, by omega, by decide, ?_, ?_⟩
 ·rw [wI (by omega) (by omega), show (8 : Int) - ((hexS (crcB t).toNat).size : Nat) = ((8 - (hexS (crcB t).toNat).size : Nat) : Int) by omega]
 ·rw [Int.toNat_natCast, rep_size]
  omega
 ·rw [Int.toNat_natCast]
  exact h
theorem pure_eq {f : FuncId} {a : List Value} {v : Value} {c : List Value → (Value → Prop) → Prop} (h : EntOk Tryz.prog ⟨f, c⟩) (hc : c a fun u => u = v) : Pure Tryz.prog f a fun u => u = v := h a _ hc
def fnSum : List Value → Option (List Value × Value)
 | [.string s] => bif s.size.ble 1000000 then some ([.string s], .string (sumS s)) else none
 | _ => none
theorem sumE : FEntryOk Tryz.prog ⟨44, [], fnSum⟩ := by
 intro us ps v h
 dsimp only at h
 unfold fnSum at h
 split at h
 case h_2 => cases h
 rename_i s
 cases hb : s.size.ble 1000000 with
 | false => rw [hb] at h; cases h
 | true =>
  rw [hb] at h
  cases h
  exact pure_eq ok_sum ⟨s, rfl, Nat.le_trans (Nat.le_of_ble_eq_true hb) (by decide), rfl⟩
theorem sum_body : sumS bodyT = sumT := by kernel_rfl
theorem sum0 : Pure Tryz.prog 44 [.string bodyT] fun u => u = .string sumT := pure_eq ok_sum ⟨bodyT, rfl, by decide, by rw [sum_body]⟩
def inlBk : List FuncId := inlDoc ++ [12, 32, 36, 34, 35, 63]
def baseBk : PCall := ofV (tabCallF Tryz.prog [⟨33, c_joinV⟩, ⟨7, c_at [state0] (.string matT)⟩, ⟨9, c_at [state0] (.string weldT)⟩, ⟨19, c_at [setup0, state0] (.tuple #[.string wtsT, .int .i64 0])⟩, ⟨44, c_at [.string bodyT] (.string sumT)⟩] noCall)
theorem baseBk_ok : PCallOk Tryz.prog baseBk := ofV_ok (tabCallF_ok (by
 intro e he
 simp only [List.mem_cons, List.not_mem_nil, or_false] at he
 rcases he with rfl | rfl | rfl | rfl | rfl
 ·exact ok_joinV
 ·exact ok_at mat0
 ·exact ok_at weld0
 ·exact ok_at wts0
 ·exact ok_at sum0) noCall_ok)
def callB : PCall := inlP Tryz.prog inlBk baseBk 12
theorem callB_ok : PCallOk Tryz.prog callB := inlP_ok mixed baseBk_ok 12
def mkB : Nat → GCall (Option ByteArray) := mkW inlBk baseBk
theorem mkB_ok (W0 : Base) (c kb : Nat) : GCallOk Tryz.prog (HidO W0 c) kb (c, 0, 2) (mkB kb) := mkW_ok mixed baseBk_ok W0 c kb
theorem e_book0  (H : HT) (Post : PX) : (fun _ => vcW callB mkB 20 [setup0, state0]) H Post = (let q15 := ByteArray.mk #[66, 49]; let q26 := #[Value.agg #[vs q15, vi 1, vz]]; let q25 := ByteArray.mk #[79, 80, 69, 78]; let q6 := ByteArray.mk #[104, 117, 108, 108, 32, 105, 115, 32, 110, 111, 116, 32, 108, 97, 117, 110, 99, 104, 101, 100]; let q7 := ByteArray.mk #[32]; let q24 := joinB (List.map toS [(vs q6)]) q7; let q23 := ByteArray.mk #[112, 97, 114, 116]; let q22 := IntKind.wrap IntKind.i64 (0 + 1) + 1; let q21 := ByteArray.mk #[98, 108, 111, 99, 107]; let q20 := T16 (T4 (True)); let q19 := toS (cellAt #[part0] 0 0); let q18 := (↑(1 + 1 + 1) : Int); let q17 := (toI (vi 0) ≤ 0 ∧ toI (vi 0) < (↑1 : Int)); let q16 := ByteArray.mk #[105, 115, 32, 110, 111, 116, 32, 101, 114, 101, 99, 116, 101, 100]; let q12 := ByteArray.mk #[105, 115, 32, 110, 111, 116, 32, 97, 115, 115, 101, 109, 98, 108, 101, 100]; let q4 := joinB (List.map toS [(vs q23), (vs q19), (vs q12)]) q7; let q14 := joinB (List.map toS [(Value.cells (Value.cells (vs q4))[0])[0]]) q7 ++ ByteArray.mk #[10]; let q10 := toS (cellAt #[node0] 0 0); let q3 := joinB (List.map toS [(vs q21), (Value.cells (Value.cells (vs q10))[0])[0], (vs q16)]) q7; let q13 := joinB (List.map toS [(Value.cells (Value.cells (vs q3))[0])[0]]) q7 ++ ByteArray.mk #[10]; let q5 := ByteArray.extract (ByteArray.mk #[48, 49, 50, 51, 52, 53, 54, 55, 56, 57, 97, 98, 99, 100, 101, 102, 103, 104, 105, 106, 107, 108, 109, 110, 111, 112, 113, 114, 115, 116, 117, 118, 119, 120, 121, 122]) 3 4; let q11 := joinB (List.map toS [(vs q25), (vs q5)]) q7 ++ ByteArray.mk #[10]; let q9 := joinB (List.map toS [(Value.cells (Value.cells (vs q24))[0])[0]]) q7 ++ ByteArray.mk #[10]; let q8 := #[Value.agg #[vs (ByteArray.mk #[80, 49]), vi 1, vi 4, vs q15, vz, vi 0, tree 2 0 #[], tree 1 0 #[], vz, vi 0, vi 5000, vi 0, vi 0, vi 0, vi 0, vi 0, vi 0, vi 0]]; let q1 := #[vi 0, vs (ByteArray.mk #[72, 49]), tree 3 1 q26, tree 18 1 q8, tree 6 0 #[], tree 5 0 #[], tree 3 0 #[], tree 1 0 #[], tree 6 0 #[], tree 5 0 #[], tree 6 0 #[], tree 6 0 #[], tree 8 0 #[], tree 1 0 #[], tree 8 0 #[], tree 3 0 #[], tree 4 0 #[], tree 3 0 #[], vi (-1), vi (-1)]; let q2 := [Value.agg #[tree 4 0 #[], tree 4 0 #[], tree 6 0 #[], tree 6 0 #[], tree 2 0 #[], tree 2 0 #[], tree 1 2 #[vi 0, vi 1000], tree 1 2 #[vi 0, vi 500], tree 1 2 #[tree 1 2 #[vi 500, vi 500], tree 1 2 #[vi 500, vi 500]], vi 1025, vi 500, vi 0, vi 500, tree 3 0 #[], vs (ByteArray.mk #[72, 49]), tree 3 1 q26, tree 18 1 q8, tree 6 0 #[], tree 5 0 #[], tree 3 0 #[]], Value.agg q1]; T4 (T2 ((q20 ∧ q20 ∧ True) ∧ eqL q2 q2 ∧ T8 (T2 (True ∧ (q20 ∧ True) ∧ eqL [Value.agg q1] [Value.agg q1] ∧ ((Value.agg q1 = Value.agg q1 ∧ True) ∧ True) ∧ (q20 ∧ True) ∧ eqL [Value.agg q1] [Value.agg q1] ∧ True ∧ 39 ≤ 9223372036854775807 ∧ 71 ≤ 9223372036854775807 ∧ 71 ≤ 140737488355328 ∧ T16 (T2 (q17 ∧ (vs q15 = vs q10 ∧ vi 1 = vi (toI (cellAt #[node0] 0 1)) ∧ vz = vs (toS (cellAt #[node0] 0 2)) ∧ True) ∧ True ∧ 3 ≤ 3 ∧ T4 (T2 (True ∧ 1 ≤ 1 ∧ 1 ≤ 33554432 ∧ true = true ∧ 1 = 1 ∧ T8 (True ∧ q17 ∧ T2 (1 ≤ 1 ∧ T16 (True ∧ ((vs q10 = vs q10 ∧ True) ∧ True) ∧ T4 (((3 ≤ 3 ∧ NLs [vs q21, vs q10, vs q16]) ∧ True ∧ True) ∧ true = true ∧ 3 ≤ 140737488355328 ∧ 23 ≤ 140737488355328 ∧ ((nS = nS ∧ True) ∧ True) ∧ True ∧ 1 ≤ 1 ∧ 1 ≤ 33554432 ∧ true = true ∧ 1 = 1 ∧ True ∧ 1 ≤ 1 ∧ T8 (T2 (True ∧ q17 ∧ (vs (ByteArray.mk #[80, 49]) = vs q19 ∧ vi 1 = vi (toI (cellAt #[part0] 0 1)) ∧ vi 4 = vi (toI (cellAt #[part0] 0 2)) ∧ vs q15 = vs (toS (cellAt #[part0] 0 3)) ∧ vz = vs (toS (cellAt #[part0] 0 4)) ∧ vi 0 = vi (toI (cellAt #[part0] 0 5)) ∧ tree 2 0 #[] = tree 2 0 #[] ∧ tree 1 0 #[] = tree 1 0 #[] ∧ vz = vs (toS (cellAt #[part0] 0 8)) ∧ vi 0 = vi (toI (cellAt #[part0] 0 9)) ∧ vi 5000 = vi (toI (cellAt #[part0] 0 10)) ∧ vi 0 = vi (toI (cellAt #[part0] 0 11)) ∧ vi 0 = vi (toI (cellAt #[part0] 0 12)) ∧ vi 0 = vi (toI (cellAt #[part0] 0 13)) ∧ vi 0 = vi (toI (cellAt #[part0] 0 14)) ∧ vi 0 = vi (toI (cellAt #[part0] 0 15)) ∧ vi 0 = vi (toI (cellAt #[part0] 0 16)) ∧ vi 0 = vi (toI (cellAt #[part0] 0 17)) ∧ True) ∧ True ∧ 18 ≤ 18 ∧ T16 (T8 (True ∧ 6 ≤ 6 ∧ T2 (True ∧ 6 ≤ 6 ∧ T4 (True ∧ 6 ≤ 6 ∧ T8 (T2 (True ∧ ((3 ≤ 3 ∧ NLs [vs q23, vs q19, vs q12]) ∧ True ∧ True) ∧ true = true ∧ 3 ≤ 140737488355328 ∧ 24 ≤ 140737488355328 ∧ ((Value.slice (some (Addr.mk 13 0 none)) 1 1 = Value.slice (some (Addr.mk 13 0 none)) 1 1 ∧ True) ∧ True) ∧ True ∧ 1 ≤ 1 ∧ 2 ≤ 33554432 ∧ true = true ∧ 1 = 1 ∧ 1 = 1 ∧ True ∧ 1 ≤ 1 ∧ T16 (T8 (T4 (True ∧ ((1 ≤ 1 ∧ NLs [vs q6]) ∧ True ∧ True) ∧ true = true ∧ 1 ≤ 140737488355328 ∧ 20 ≤ 140737488355328 ∧ ((Value.slice (some (Addr.mk 23 0 none)) 2 1 = Value.slice (some (Addr.mk 23 0 none)) 2 1 ∧ True) ∧ True) ∧ True ∧ 1 ≤ 1 ∧ 3 ≤ 33554432 ∧ true = true ∧ 1 = 1 ∧ 2 = 2 ∧ True ∧ 1 ≤ 1 ∧ T16 (T8 (T4 ((toI (vi 0) ≤ IntKind.wrap IntKind.i64 (q18 + 1) ∧ toI (vi 0) ≤ q18 ∧ 3 ≤ 4 ∧ 4 ≤ 36) ∧ T8 (T2 (((2 ≤ 2 ∧ NLs [vs q25, vs q5]) ∧ True ∧ True) ∧ true = true ∧ 2 ≤ 140737488355328 ∧ 6 ≤ 140737488355328 ∧ True ∧ 7 ≤ 9223372036854775807 ∧ 78 ≤ 140737488355328 ∧ T4 (True ∧ (toI (vi 0) ≤ 0 ∧ toI (vi 0) < q18) ∧ T8 (((1 ≤ 1 ∧ NLs [vs q3]) ∧ True ∧ True) ∧ true = true ∧ 1 ≤ 140737488355328 ∧ 23 ≤ 140737488355328 ∧ True ∧ 24 ≤ 9223372036854775807 ∧ 102 ≤ 140737488355328 ∧ T4 ((toI (vi 0) ≤ IntKind.wrap IntKind.i64 (0 + 1) ∧ toI (vi (IntKind.wrap IntKind.i64 (0 + 1))) < q18) ∧ T8 (((1 ≤ 1 ∧ NLs [vs q4]) ∧ True ∧ True) ∧ true = true ∧ 1 ≤ 140737488355328 ∧ 24 ≤ 140737488355328 ∧ True ∧ 25 ≤ 9223372036854775807 ∧ 127 ≤ 140737488355328 ∧ T4 ((toI (vi 0) ≤ IntKind.wrap IntKind.i64 q22 ∧ toI (vi (IntKind.wrap IntKind.i64 q22)) < q18) ∧ T8 (((1 ≤ 1 ∧ NLs [vs q24]) ∧ True ∧ True) ∧ true = true ∧ 1 ≤ 140737488355328 ∧ 20 ≤ 140737488355328 ∧ True ∧ 21 ≤ 9223372036854775807 ∧ 148 ≤ 140737488355328 ∧ T4 (True ∧ 0 < 148 ∧ T2 (157 ≤ 9223372036854775807 ∧ True ∧ (True ∧ True) ∧ eqL [vs (ByteArray.empty ++ (matT ++ weldT ++ wtsT) ++ q11 ++ q13 ++ q14 ++ q9)] [vs bodyT] ∧ 165 ≤ 9223372036854775807 ∧ 166 ≤ 9223372036854775807 ∧ T2 ((T2 (True ∧ True)) ∧ true = true ∧ Post (Out.ret (Value.tuple #[vs (ByteArray.empty ++ (matT ++ weldT ++ wtsT) ++ q11 ++ q13 ++ q14 ++ q9 ++ ByteArray.mk #[67, 72, 69, 67, 75, 83, 85, 77, 32] ++ sumT ++ ByteArray.mk #[10]), vi 0])) [])))))))))))))))))))))))))))))))))))))) := by kernel_rfl
theorem book0 : Pure Tryz.prog 20 [setup0, state0] fun u => u = .tuple #[.string bookT, .int .i64 0] := by
 refine specX_pure (spec_W callB_ok mkB_ok mixed (by kernel_rfl) (Eq.mpr (e_book0 (fun _ _ _ => True) _) ?_))
 repeat' (first | exact rfl | exact nls_of rfl | refine And.intro ?_ ?_ | trivial | decide | kernel_rfl)
end Go.Proofs.YtojlhapbngcjkaaGreatDoor
