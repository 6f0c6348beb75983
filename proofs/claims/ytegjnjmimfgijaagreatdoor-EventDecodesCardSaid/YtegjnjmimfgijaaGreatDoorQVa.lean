/-
  Put together out of several texts, each in its own namespace's block. Conditions: as each theorem states them.
-/
import Derived.Test.YtegjnjmimfgijaaGreatDoorQLe
import Derived.Test.YtegjnjmimfgijaaGreatDoorQSj
import Derived.Recover
import Derived.Test.YtegjnjmimfgijaaGreatDoorProg
import Derived.WalkSpells
import Derived.WalkLawsBesides
import Derived.Deep.QuietTactic
import Derived.BigQuiet
import Derived.Shelf.Strings.Builder1
noncomputable section
namespace Go.Proofs.YtegjnjmimfgijaaGreatDoor
open Go Go.RowKit
set_option maxRecDepth 100000
set_option maxHeartbeats 8000000
def callCt : VCall := itabCall [⟨149, c_count⟩] noCall
theorem callCt_ok : VCallOk Tryz.prog callCt := itabCall_ok (by
 intro e he
 simp only [List.mem_cons, List.not_mem_nil, or_false] at he
 rcases he with rfl
 exact ok_count) noCall_ok
theorem e_cTextR (s : ByteArray) (e most : Int) (H : HT) (Post : PI) : vcI Tryz.prog callCt 147 [] [[.string s, .int .i64 e]] [ptr0, .int .i64 most] H Post = (T2 (True ∧ true = true ∧ ∃ (s_1 : ByteArray), ∃ (e_1 : Nat), ∃ (kind : Nat), ∃ (most_1 : Nat), ∃ (fl : Bool), eqL [pt 0, vi 2, vi most, vb true] [pt 0, vi (↑kind : Int), vi (↑most_1 : Int), vb fl] ∧ [[vs s, vi e]] = [[vs s_1, vi (↑e_1 : Int)]] ∧ s_1.size < 4611686018427387904 ∧ most_1 < 4611686018427387904 ∧ 1 = 1 ∧ T2 (True ∧ pIf (decide ((↑(Prod.fst (rdHead kind most_1 fl (s_1, e_1))) : Int) = 0)) (T2 (true = true ∧ Post (vz) [[vs (Prod.fst (Prod.snd (rdHead kind most_1 fl (s_1, e_1)))), vi (↑(Prod.snd (Prod.snd (rdHead kind most_1 fl (s_1, e_1)))) : Int)]])) (T4 (T2 ((0 ≤ (↑(Prod.fst (rdHead kind most_1 fl (s_1, e_1))) : Int) ∧ True ∧ 0 ≤ Int.toNat (↑(Prod.fst (rdHead kind most_1 fl (s_1, e_1))) : Int) ∧ Int.toNat (↑(Prod.fst (rdHead kind most_1 fl (s_1, e_1))) : Int) ≤ ByteArray.size (Prod.fst (Prod.snd (rdHead kind most_1 fl (s_1, e_1))))) ∧ T8 ((True ∧ 0 ≤ (↑(Prod.fst (rdHead kind most_1 fl (s_1, e_1))) : Int) ∧ Int.toNat (↑(Prod.fst (rdHead kind most_1 fl (s_1, e_1))) : Int) ≤ ByteArray.size (Prod.fst (Prod.snd (rdHead kind most_1 fl (s_1, e_1)))) ∧ ByteArray.size (Prod.fst (Prod.snd (rdHead kind most_1 fl (s_1, e_1)))) ≤ ByteArray.size (Prod.fst (Prod.snd (rdHead kind most_1 fl (s_1, e_1))))) ∧ T2 (True ∧ 1 ≤ 2 ∧ T2 (True ∧ true = true ∧ Post (vs (ByteArray.extract (Prod.fst (Prod.snd (rdHead kind most_1 fl (s_1, e_1)))) 0 (Int.toNat (↑(Prod.fst (rdHead kind most_1 fl (s_1, e_1))) : Int)))) [[vs (ByteArray.extract (Prod.fst (Prod.snd (rdHead kind most_1 fl (s_1, e_1)))) (Int.toNat (↑(Prod.fst (rdHead kind most_1 fl (s_1, e_1))) : Int)) (ByteArray.size (Prod.fst (Prod.snd (rdHead kind most_1 fl (s_1, e_1)))))), vi (↑(Prod.snd (Prod.snd (rdHead kind most_1 fl (s_1, e_1)))) : Int)]]))))))))) := by kernel_rfl
theorem e_cListR (s : ByteArray) (e most : Int) (H : HT) (Post : PI) : vcI Tryz.prog callCt 146 [] [[.string s, .int .i64 e]] [ptr0, .int .i64 most] H Post = (T2 (True ∧ true = true ∧ ∃ (s_1 : ByteArray), ∃ (e_1 : Nat), ∃ (kind : Nat), ∃ (most_1 : Nat), ∃ (fl : Bool), eqL [pt 0, vi 4, vi most, vb false] [pt 0, vi (↑kind : Int), vi (↑most_1 : Int), vb fl] ∧ [[vs s, vi e]] = [[vs s_1, vi (↑e_1 : Int)]] ∧ s_1.size < 4611686018427387904 ∧ most_1 < 4611686018427387904 ∧ 1 = 1 ∧ T2 (true = true ∧ Post (vi (↑(Prod.fst (rdHead kind most_1 fl (s_1, e_1))) : Int)) [[vs (Prod.fst (Prod.snd (rdHead kind most_1 fl (s_1, e_1)))), vi (↑(Prod.snd (Prod.snd (rdHead kind most_1 fl (s_1, e_1)))) : Int)]]))) := by kernel_rfl
theorem e_cBoolR (s : ByteArray) (H : HT) (Post : PI) : vcI Tryz.prog (inlCall Tryz.prog [90] noCall 2) 145 [] [[.string s, .int .i64 0]] [ptr0] H Post = (let q2 := (↑(UInt8.toNat (Array.getD (ByteArray.data s) 0 0)) : Int); let q1 := True ∧ 1 ≤ 2 ∧ T2 (pIf (decide (q2 = 245)) (T2 (true = true ∧ Post (vb true) [[vs (ByteArray.extract s 1 s.size), vi 0]])) (T2 (true = true ∧ Post (vb false) [[vs (ByteArray.extract s 1 s.size), vi 0]]))); T16 (T4 (True ∧ pIf (decide (s = ByteArray.mk #[])) (T4 (2 ≤ 2 ∧ T2 (true = true ∧ Post (vb false) [[vs s, vi 3]]))) (T4 (True ∧ (toI (vi 0) ≤ 0 ∧ 0 < (↑s.size : Int)) ∧ T2 (True ∧ pIf (!decide (q2 = 244)) (T2 (True ∧ pIf (!decide (q2 = 245)) (T4 (True ∧ 2 ≤ 2 ∧ T2 (true = true ∧ Post (vb false) [[vs s, vi 5]]))) (T4 (T2 (True ∧ (True ∧ toI (vi 0) ≤ 1 ∧ 1 ≤ s.size ∧ s.size ≤ s.size) ∧ T2 q1))))) (T8 ((True ∧ toI (vi 0) ≤ 1 ∧ 1 ≤ s.size ∧ s.size ≤ s.size) ∧ T2 q1)))))))) := by kernel_rfl
theorem rdHead_left (kind most : Nat) (fl : Bool) (st : St) : (rdHead kind most fl st).2.1.size ≤ st.1.size ∧ (rdHead kind most fl st).1 ≤ most ∧ (fl = true → (rdHead kind most fl st).1 ≤ (rdHead kind most fl st).2.1.size) := by
 obtain ⟨s, e⟩ := st
 unfold rdHead
 dsimp only
 split
 ·exact ⟨Nat.le_refl _, Nat.zero_le _, fun _ => Nat.zero_le _⟩
 split
 ·exact ⟨Nat.le_refl _, Nat.zero_le _, fun _ => Nat.zero_le _⟩
 split
 ·exact ⟨Nat.le_refl _, Nat.zero_le _, fun _ => Nat.zero_le _⟩
 split
 ·exact ⟨Nat.le_refl _, Nat.zero_le _, fun _ => Nat.zero_le _⟩
 ·rename_i h1 h2
  dsimp only
  rw [ext_size]
  exact ⟨by omega, by omega, fun hf => by rw [hf] at h2; simp only [true_and] at h2; omega⟩
theorem ext_all (s : ByteArray) : s.extract 0 s.size = s := by
 refine ba_ext ?_
 rw [ext_list, List.drop_zero, size_list, Nat.sub_zero, List.take_length]
theorem ext_none (s : ByteArray) : s.extract 0 0 = ⟨#[]⟩ := by
 refine ba_ext ?_
 rw [ext_list]
 simp
inductive Rs (α : Type) where
 | ok (v : α) (r : ByteArray)
 | err (e : Nat)
def mkRs {α : Type} (q : α × St) : Rs α := if q.2.2 = 0 then .ok q.1 q.2.1 else .err (q.2.2 - 1)
def rsT (m : Nat) (s : ByteArray) : Rs ByteArray := mkRs (rdText m (s, 0))
def rsI (lo hi : Int) (s : ByteArray) : Rs Int := mkRs (rdInt lo hi (s, 0))
def rsL (m : Nat) (s : ByteArray) : Rs Nat := mkRs (rdList m (s, 0))
def rsB (s : ByteArray) : Rs Bool := if s.size = 0 then .err 2 else if byte0 s = 245 then .ok true (s.extract 1 s.size) else if byte0 s = 244 then .ok false (s.extract 1 s.size) else .err 4
def kpost {α : Type} (q : Rs α) (s : ByteArray) (f : α → Value) (z : Value) (Post : Value → List (List Value) → Prop) : Prop :=
 (∀ v r, q = .ok v r → Post (f v) [[.string r, .int .i64 0]]) ∧ ∀ e, q = .err e → Post z [[.string s, .int .i64 (.ofNat (e + 1))]]
def k_T (args : List Value) (conts : List (List Value)) (Post : Value → List (List Value) → Prop) : Prop := match args, conts with
 | [.pointer (some ⟨0, 0, none⟩), .int .i64 (.ofNat m)], [[.string s, .int .i64 (.ofNat 0)]] => s.size < 2 ^ 62 ∧ m < 2 ^ 62 ∧ kpost (rsT m s) s (fun v => .string v) (.string ⟨#[]⟩) Post
 | _, _ => False
def k_I (args : List Value) (conts : List (List Value)) (Post : Value → List (List Value) → Prop) : Prop := match args, conts with
 | [.pointer (some ⟨0, 0, none⟩), .int .i64 lo, .int .i64 hi], [[.string s, .int .i64 (.ofNat 0)]] => s.size < 2 ^ 62 ∧ kpost (rsI lo hi s) s (fun v => .int .i64 v) (.int .i64 0) Post
 | _, _ => False
def k_L (args : List Value) (conts : List (List Value)) (Post : Value → List (List Value) → Prop) : Prop := match args, conts with
 | [.pointer (some ⟨0, 0, none⟩), .int .i64 (.ofNat m)], [[.string s, .int .i64 (.ofNat 0)]] => s.size < 2 ^ 62 ∧ m < 2 ^ 62 ∧ kpost (rsL m s) s (fun v => .int .i64 (.ofNat v)) (.int .i64 0) Post
 | _, _ => False
def k_B (args : List Value) (conts : List (List Value)) (Post : Value → List (List Value) → Prop) : Prop := match args, conts with
 | [.pointer (some ⟨0, 0, none⟩)], [[.string s, .int .i64 (.ofNat 0)]] => s.size < 2 ^ 62 ∧ kpost (rsB s) s (fun v => .bool v) (.bool false) Post
 | _, _ => False
theorem mkRs_cases {α : Type} {q : α × St} {P : Prop} (h1 : q.2.2 = 0 → mkRs q = .ok q.1 q.2.1 → P) (h2 : ∀ e, q.2.2 = e + 1 → mkRs q = .err e → P) : P := by
 by_cases h : q.2.2 = 0
 ·exact h1 h (by unfold mkRs; rw [if_pos h])
 ·exact h2 (q.2.2 - 1) (by omega) (by unfold mkRs; rw [if_neg h])
theorem rdInt_err {lo hi : Int} {s : ByteArray} (h : (rdInt lo hi (s, 0)).2.2 ≠ 0) : (rdInt lo hi (s, 0)).1 = 0 ∧ (rdInt lo hi (s, 0)).2.1 = s := by
 revert h
 unfold rdInt
 dsimp only
 split
 ·exact fun _ => ⟨rfl, rfl⟩
 split
 ·exact fun _ => ⟨rfl, rfl⟩
 split
 ·exact fun _ => ⟨rfl, rfl⟩
 generalize (if (pk s 0 1).1 = 1 then -1 - ((pk s 0 1).2.1 : Int) else ((pk s 0 1).2.1 : Int)) = y
 split
 ·exact fun _ => ⟨rfl, rfl⟩
 ·exact fun h => absurd rfl h
theorem rdHead_err0 {kind most : Nat} {fl : Bool} {s : ByteArray} (h : (rdHead kind most fl (s, 0)).2.2 ≠ 0) : (rdHead kind most fl (s, 0)).1 = 0 ∧ (rdHead kind most fl (s, 0)).2.1 = s := by
 revert h
 unfold rdHead
 dsimp only
 split
 ·exact fun _ => ⟨rfl, rfl⟩
 split
 ·exact fun _ => ⟨rfl, rfl⟩
 split
 ·exact fun _ => ⟨rfl, rfl⟩
 split
 ·exact fun _ => ⟨rfl, rfl⟩
 ·exact fun h => absurd rfl h
theorem ok_kI : IEntOk Tryz.prog ⟨78, k_I⟩ := by
 intro args conts Post h
 unfold k_I at h
 dsimp only at h
 split at h
 case h_2 => exact h.elim
 rename_i lo hi s
 obtain ⟨hs, h1, h2⟩ := h
 refine ok_RInt _ _ _ ⟨s, 0, lo, hi, rfl, rfl, hs, ?_⟩
 refine mkRs_cases (q := rdInt lo hi (s, 0)) (fun e0 e1 => ?_) (fun e e0 e1 => ?_)
 ·have := h1 _ _ e1
  unfold stC
  rw [e0]
  exact this
 ·have := h2 _ e1
  obtain ⟨q1, q2⟩ := rdInt_err (lo := lo) (hi := hi) (s := s) (by omega)
  unfold stC
  rw [e0, q1, q2]
  exact this
theorem ok_kL : IEntOk Tryz.prog ⟨146, k_L⟩ := by
 intro args conts Post h
 unfold k_L at h
 dsimp only at h
 split at h
 case h_2 => exact h.elim
 rename_i m s
 obtain ⟨hs, hm, h1, h2⟩ := h
 refine spec_I (vc := callCt) callCt_ok mixed (by kernel_rfl) (by kernel_rfl) _ (e_cListR s 0 m _ _) ?_
 simp only [true_and, and_true]
 refine ⟨s, 0, 4, m, false, rfl, rfl, hs, hm, ?_⟩
 refine mkRs_cases (q := rdList m (s, 0)) (fun e0 e1 => ?_) (fun e e0 e1 => ?_)
 ·have := h1 _ _ e1
  unfold rdList at *
  rw [e0]
  exact this
 ·have := h2 _ e1
  unfold rdList at *
  obtain ⟨q1, q2⟩ := rdHead_err0 (kind := 4) (most := m) (fl := false) (s := s) (by omega)
  rw [e0, q1, q2]
  exact this
theorem ok_kT : IEntOk Tryz.prog ⟨147, k_T⟩ := by
 intro args conts Post h
 unfold k_T at h
 dsimp only at h
 split at h
 case h_2 => exact h.elim
 rename_i m s
 obtain ⟨hs, hm, g1, g2⟩ := h
 have h : Post (.string (rdText m (s, 0)).1) [stC (rdText m (s, 0)).2] := by
  refine mkRs_cases (q := rdText m (s, 0)) (fun e0 e1 => ?_) (fun e e0 e1 => ?_)
  ·have := g1 _ _ e1
   unfold stC
   rw [e0]
   exact this
  ·have := g2 _ e1
   have e0' : (rdHead 2 m true (s, 0)).2.2 = e + 1 := e0
   obtain ⟨q1, q2⟩ := rdHead_err0 (kind := 2) (most := m) (fl := true) (s := s) (by omega)
   unfold stC
   rw [e0]
   unfold rdText
   dsimp only
   rw [q1, q2, ext_none, ext_all]
   exact this
 refine spec_I (vc := callCt) callCt_ok mixed (by kernel_rfl) (by kernel_rfl) _ (e_cTextR s 0 m _ _) ?_
 simp only [true_and, and_true, pIf_iff, decide_eq_true_eq, decide_eq_false_iff_not, Int.toNat_natCast]
 obtain ⟨h1, h2, h3⟩ := rdHead_left 2 m true (s, 0)
 refine ⟨s, 0, 2, m, true, rfl, rfl, hs, hm, fun h0 => ?_, fun h0 => ?_⟩
 ·have h0 : (rdHead 2 m true (s, 0)).1 = 0 := by omega
  unfold rdText at h
  simp only [h0, ext_all, ext_none] at h
  exact h
 ·exact ⟨⟨by omega, Nat.zero_le _, h3 rfl⟩, ⟨by omega, h3 rfl, Nat.le_refl _⟩, by decide, h⟩
theorem ok_kB : IEntOk Tryz.prog ⟨145, k_B⟩ := by
 intro args conts Post h
 dsimp only [k_B] at h
 split at h
 case h_2 => exact h.elim
 rename_i s
 obtain ⟨hs, g1, g2⟩ := h
 refine spec_I (vc := inlCall Tryz.prog [90] noCall 2) (inlCall_ok mixed noCall_ok 2) mixed (by kernel_rfl) (by kernel_rfl) _ (e_cBoolR s _ _) ?_
 have b0 : s.data.getD 0 0 = byte0 s := rfl
 simp only [true_and, and_true, b0]
 have h0 : s = ⟨#[]⟩ ↔ s.size = 0 := ⟨fun e => by rw [e]; rfl, fun e => ba_ext (List.eq_nil_of_length_eq_zero e)⟩
 have hb : ∀ n : UInt8, ((byte0 s).toNat : Int) = n.toNat ↔ byte0 s = n := fun n => ⟨fun e => UInt8.toNat_inj.1 (by omega), fun e => by rw [e]⟩
 have h4 := hb 244
 have h5 := hb 245
 rw [show ((244 : UInt8).toNat : Int) = 244 from rfl] at h4
 rw [show ((245 : UInt8).toNat : Int) = 245 from rfl] at h5
 refine pIf_intro (fun e => ?_) (fun e => ?_)
 ·have e := h0.1 (of_decide_eq_true e)
  have := g2 2 (by unfold rsB; rw [if_pos e])
  exact ⟨Nat.le_refl _, this⟩
 have e := of_decide_eq_false e
 rw [h0] at e
 have yes : byte0 s = 245 ∨ byte0 s = 244 → pIf (decide (((byte0 s).toNat : Int) = 245)) (Post (.bool true) [[.string (s.extract 1 s.size), .int .i64 0]]) (Post (.bool false) [[.string (s.extract 1 s.size), .int .i64 0]]) := fun q => by
  refine pIf_intro (fun c => ?_) (fun c => ?_)
  ·have c := h5.1 (of_decide_eq_true c)
   exact g1 _ _ (by unfold rsB; rw [if_neg e, if_pos c])
  ·have c := of_decide_eq_false c
   rw [h5] at c
   exact g1 _ _ (by unfold rsB; rw [if_neg e, if_neg c, if_pos (q.resolve_left c)])
 refine ⟨⟨by decide, by omega⟩, pIf_intro (fun c => pIf_intro (fun d => ?_) (fun d => ?_)) (fun c => ?_)⟩
 ·simp only [Bool.not_eq_true', decide_eq_false_iff_not, h4, h5] at c d
  exact ⟨Nat.le_refl _, g2 4 (by unfold rsB; rw [if_neg e, if_neg d, if_neg c])⟩
 ·simp only [Bool.not_eq_false', decide_eq_true_eq, h5] at d
  exact ⟨⟨by decide, by omega, Nat.le_refl _⟩, by decide, yes (.inl d)⟩
 ·simp only [Bool.not_eq_false', decide_eq_true_eq, h4] at c
  exact ⟨⟨by decide, by omega, Nat.le_refl _⟩, by decide, yes (.inr c)⟩
def tabNil (P : Program) (tab : List Ent) (next : PCall) : PCall := fun f args hp nx K =>
 match entOf f tab with
 | some e => match frzTs P nx (fnAt P f).params.toList args hp with
  | some (us, hp', ob) => bif us.all nl then ob ∧ e.c us fun v => K (.ret v) hp' nx else False
  | none => False
 | none => next f args hp nx K
theorem tabNil_ok {P : Program} {tab : List Ent} {next : PCall} (ht : ∀ e ∈ tab, EntOk P e) (hn : PCallOk P next) : PCallOk P (tabNil P tab next) := by
 intro f args hp nx K h W ρ w args' hrel hargs
 unfold tabNil at h
 split at h
 ·rename_i e he
  obtain ⟨h1, rfl⟩ := entOf_mem he
  split at h
  case h_2 => exact h.elim
  rename_i us hp' ob hf
  cases ha : us.all nl with
  | false => rw [ha] at h; exact h.elim
  | true =>
   rw [ha, cond_true] at h
   obtain ⟨ρ1, hr1, hs1, hlen, hvr⟩ := frzTs_sound hrel hargs hf h.1
   refine ((ht e h1 us _ h.2).call ha hr1 (.of hlen fun i v v' a b => VR0.lift (ρ := ρ1) (hvr i v v' a b))).mono ?_
   rintro e' w' ⟨v, v', ρ', hK, rfl, g1, _, g2, g3, _⟩
   exact ⟨.ret v, hp', nx, ρ', hK, ⟨v', rfl, g1⟩, g2, hs1.trans g3⟩
 ·exact hn f args hp nx K h W ρ w args' hrel hargs
def volP (p : Part) : Nat := p.id.size + p.node.size + p.grade.size + p.sect.size
def fewE (p : Part) : Prop := volP p ≤ 8000000 ∧ p.outer.length ≤ 100 ∧ p.holes.length ≤ 20 ∧ ∀ h ∈ p.holes, h.length ≤ 100
theorem few16.toE {p : Part} (h : few16 p) : fewE p := by
 obtain ⟨h1, h2, h3, h4, h5, h6, h7⟩ := h
 exact ⟨by unfold volP; omega, by omega, by omega, fun l hl => by have := h7 l hl; omega⟩
theorem bFront_sizeE {p : Part} (h : fewE p) : (bFront p).size ≤ p.id.size + p.node.size + p.grade.size + 2000 := by
 obtain ⟨h1, h5, h6, h7⟩ := h
 unfold bFront
 simp only [ba_size]
 have a1 := bText_size p.id
 have a2 := bText_size p.node
 have a3 := bText_size p.grade
 have a4 : (bInts [p.rev, p.kind]).size ≤ 18 := bInts_size _
 have a5 : (bInts [p.thick]).size ≤ 9 := bInts_size _
 have a6 := bPts_size p.outer
 have a7 := bList_size p.holes.length
 omega
theorem bHoles_sizeE {p : Part} (h : fewE p) (i : Nat) : (bHoles p i).size ≤ p.id.size + p.node.size + p.grade.size + 39000 := by
 have h0 := bFront_sizeE h
 have h6 := h.2.2.1
 have h7 := h.2.2.2
 have h1 := fold_size' (fun s (h : List Pt) => s ++ bPts h) 1809 (p.holes.take i) (bFront p) (fun s a ha => by
  rw [ba_size]
  have := bPts_size a
  have := h7 a (List.mem_of_mem_take ha)
  omega)
 have h2 := List.length_take_le' i p.holes
 unfold bHoles
 omega
theorem bPart_sizeE {p : Part} (h : fewE p) : (bPart p).size ≤ volP p + 40000 := by
 have h0 := bHoles_sizeE h p.holes.length
 have h1 := bText_size p.sect
 have h2 : (bInts (bRear p)).size ≤ 81 := bInts_size _
 unfold bPart volP
 simp only [ba_size]
 omega
def c_EncodeE (args : List Value) (Post : Value → Prop) : Prop := ∃ p : Part, args = [partV p] ∧ InPart p ∧ fewE p ∧ Post (.string (bPart p))
theorem ok_EncodeE : EntOk Tryz.prog ⟨84, c_EncodeE⟩ := by
 rintro args Post ⟨p, rfl, hin, hf, h⟩
 refine pure_P (vc := callE) tabE_ok mixed (by kernel_rfl) (by kernel_rfl) _ (e_Encode p _ _) ?_
 simp only [true_and, and_true]
 have hf0 := hf
 obtain ⟨h1, h5, h6, h7⟩ := hf
 unfold volP at h1
 have a1 := bText_size p.id
 have a2 := bText_size p.node
 have a3 := bText_size p.grade
 have a4 : (bInts [p.rev, p.kind]).size ≤ 18 := bInts_size _
 have a5 : (bInts [p.thick]).size ≤ 9 := bInts_size _
 have a6 := bPts_size p.outer
 have a7 := bList_size p.holes.length
 have a8 := bText_size p.sect
 refine ⟨p.id, rfl, by omega, ⟨by omega, nls_ints [p.rev, p.kind]⟩, [p.rev, p.kind], rfl, by simp, ?_, by omega, p.node, rfl, by omega, by simp only [ba_size]; omega, p.grade, rfl, by omega, by simp only [ba_size]; omega, ⟨by omega, nls_ints [p.thick]⟩, [p.thick], rfl, by simp, ?_, by simp only [ba_size]; omega, p.outer, rfl, by omega, hin.outer, by simp only [ba_size]; omega, p.holes.length, rfl, by omega, by simp only [ba_size]; omega, ?_⟩
 ·intro n hn
  simp at hn
  rcases hn with rfl | rfl
  ·exact hin.rev
  ·exact hin.kind
 ·intro n hn
  simp at hn
  subst hn
  exact hin.thick
 refine down (n := p.holes.length) (p := fun i => OkP 84 [partV p] 3 Post (stV [(1, some (.pointer (some ⟨0, 0, none⟩))), (3, some (.string (bHoles p i))), (42, some (trPts p.holes)), (43, some (.int .i64 p.holes.length)), (44, some (.int .i64 i))] [(0, some (.cells (partC p) true))] 1)) ?_ (fun i hi ih => ?_)
 ·refine ok_P (vc := callE) tabE_ok mixed _ (l_Encode _ _ _ _ _) ?_
  simp only [true_and, and_true, pIf_iff, decide_eq_true_eq, decide_eq_false_iff_not]
  have b := bHoles_sizeE hf0 p.holes.length
  refine ⟨fun h' => by omega, fun _ => ⟨p.sect, rfl, by omega, by omega, ⟨by omega, nls_ints (bRear p)⟩, bRear p, rfl, by simp [bRear], ?_, ?_, h⟩⟩
  ·intro n hn
   simp [bRear] at hn
   rcases hn with rfl | rfl | rfl | rfl | rfl | rfl | rfl | rfl | rfl
   ·exact hin.long
   ·exact hin.mass
   ·exact hin.centre.1
   ·exact hin.centre.2.1
   ·exact hin.centre.2.2
   ·exact hin.at_.1
   ·exact hin.at_.2.1
   ·exact hin.at_.2.2
   ·exact hin.turn
  ·simp only [ba_size]
   have : (bInts (bRear p)).size ≤ 81 := bInts_size _
   omega
 ·refine ok_P (vc := callE) tabE_ok mixed _ (l_Encode _ _ _ _ _) ?_
  simp only [true_and, and_true, pIf_iff, decide_eq_true_eq, decide_eq_false_iff_not, Int.toNat_natCast, cell_pts hi, toN_tree, toE_tree]
  have b := bHoles_sizeE hf0 i
  have c := bPts_size p.holes[i]
  have d := h7 _ (List.getElem_mem hi)
  refine ⟨fun _ => ⟨by omega, p.holes[i], rfl, by omega, hin.holes _ (List.getElem_mem hi), by omega, ?_⟩, fun h' => by omega⟩
  rw [wrapSucc (by omega)]
  unfold bHoles at ih
  rw [fold_take _ _ hi] at ih
  exact ih
structure Node3 where
 id : ByteArray
 kind : Int
 parent : ByteArray
 deriving DecidableEq
def node3C (p : Node3) : List Value := [.string p.id, .int .i64 p.kind, .string p.parent]
instance : Enc Node3 where
 sz := 3
 cells := node3C
 len _ := rfl
 nl p := fun v hv => List.all_eq_true.1 (show (node3C p).all nl1 = true from rfl) v hv
theorem Node3.ext' {p q : Node3} (h0 : p.id = q.id) (h1 : p.kind = q.kind) (h2 : p.parent = q.parent) : p = q := by
 cases p; cases q
 simp only at h0 h1 h2
 simp only [h0, h1, h2]
structure Seam6 where
 id : ByteArray
 a : ByteArray
 b : ByteArray
 kind : Int
 long : Int
 cls : Int
 deriving DecidableEq
def seam6C (p : Seam6) : List Value := [.string p.id, .string p.a, .string p.b, .int .i64 p.kind, .int .i64 p.long, .int .i64 p.cls]
instance : Enc Seam6 where
 sz := 6
 cells := seam6C
 len _ := rfl
 nl p := fun v hv => List.all_eq_true.1 (show (seam6C p).all nl1 = true from rfl) v hv
theorem Seam6.ext' {p q : Seam6} (h0 : p.id = q.id) (h1 : p.a = q.a) (h2 : p.b = q.b) (h3 : p.kind = q.kind) (h4 : p.long = q.long) (h5 : p.cls = q.cls) : p = q := by
 cases p; cases q
 simp only at h0 h1 h2 h3 h4 h5
 simp only [h0, h1, h2, h3, h4, h5]
structure Pack5 where
 id : ByteArray
 block : ByteArray
 parts : List ByteArray
 hours : Int
 after : List ByteArray
 deriving DecidableEq
def pack5C (p : Pack5) : List Value := [.string p.id, .string p.block, tree 1 p.parts.length (encL p.parts), .int .i64 p.hours, tree 1 p.after.length (encL p.after)]
instance : Enc Pack5 where
 sz := 5
 cells := pack5C
 len _ := rfl
 nl p := fun v hv => List.all_eq_true.1 (show (pack5C p).all nl1 = true from rfl) v hv
theorem Pack5.ext' {p q : Pack5} (h0 : p.id = q.id) (h1 : p.block = q.block) (h2 : p.parts = q.parts) (h3 : p.hours = q.hours) (h4 : p.after = q.after) : p = q := by
 cases p; cases q
 simp only at h0 h1 h2 h3 h4
 simp only [h0, h1, h2, h3, h4]
structure Need3 where
 kind : Int
 block : ByteArray
 on : ByteArray
 deriving DecidableEq
def need3C (p : Need3) : List Value := [.int .i64 p.kind, .string p.block, .string p.on]
instance : Enc Need3 where
 sz := 3
 cells := need3C
 len _ := rfl
 nl p := fun v hv => List.all_eq_true.1 (show (need3C p).all nl1 = true from rfl) v hv
theorem Need3.ext' {p q : Need3} (h0 : p.kind = q.kind) (h1 : p.block = q.block) (h2 : p.on = q.on) : p = q := by
 cases p; cases q
 simp only at h0 h1 h2
 simp only [h0, h1, h2]
structure Edit where
 kind : Int
 id : ByteArray
 to : ByteArray
 node : Node3
 part : Part
 seam : Seam6
 pack : Pack5
 need : Need3
 deriving DecidableEq
def editC (p : Edit) : List Value := [.int .i64 p.kind, .string p.id, .string p.to, .string p.node.id, .int .i64 p.node.kind, .string p.node.parent, .string p.part.id, .int .i64 p.part.rev, .int .i64 p.part.kind, .string p.part.node, .string p.part.grade, .int .i64 p.part.thick, tree 2 p.part.outer.length (encL p.part.outer), tree 1 p.part.holes.length (encL p.part.holes), .string p.part.sect, .int .i64 p.part.long, .int .i64 p.part.mass, .int .i64 p.part.centre.x, .int .i64 p.part.centre.y, .int .i64 p.part.centre.z, .int .i64 p.part.at_.x, .int .i64 p.part.at_.y, .int .i64 p.part.at_.z, .int .i64 p.part.turn, .string p.seam.id, .string p.seam.a, .string p.seam.b, .int .i64 p.seam.kind, .int .i64 p.seam.long, .int .i64 p.seam.cls, .string p.pack.id, .string p.pack.block, tree 1 p.pack.parts.length (encL p.pack.parts), .int .i64 p.pack.hours, tree 1 p.pack.after.length (encL p.pack.after), .int .i64 p.need.kind, .string p.need.block, .string p.need.on]
abbrev editV (p : Edit) : Value := .agg (editC p).toArray
instance : Enc Edit where
 sz := 38
 cells := editC
 len _ := rfl
 nl p := fun v hv => List.all_eq_true.1 (show (editC p).all nl1 = true from rfl) v hv
theorem Edit.ext' {p q : Edit} (h0 : p.kind = q.kind) (h1 : p.id = q.id) (h2 : p.to = q.to) (h3 : p.node = q.node) (h4 : p.part = q.part) (h5 : p.seam = q.seam) (h6 : p.pack = q.pack) (h7 : p.need = q.need) : p = q := by
 cases p; cases q
 simp only at h0 h1 h2 h3 h4 h5 h6 h7
 simp only [h0, h1, h2, h3, h4, h5, h6, h7]
structure Order2 where
 id : ByteArray
 edits : List Edit
 deriving DecidableEq
def order2C (p : Order2) : List Value := [.string p.id, tree 38 p.edits.length (encL p.edits)]
abbrev order2V (p : Order2) : Value := .agg (order2C p).toArray
instance : Enc Order2 where
 sz := 2
 cells := order2C
 len _ := rfl
 nl p := fun v hv => List.all_eq_true.1 (show (order2C p).all nl1 = true from rfl) v hv
theorem Order2.ext' {p q : Order2} (h0 : p.id = q.id) (h1 : p.edits = q.edits) : p = q := by
 cases p; cases q
 simp only at h0 h1
 simp only [h0, h1]
structure Sheet6 where
 id : ByteArray
 grade : ByteArray
 thick : Int
 long : Int
 width : Int
 heat : ByteArray
 deriving DecidableEq
def sheet6C (p : Sheet6) : List Value := [.string p.id, .string p.grade, .int .i64 p.thick, .int .i64 p.long, .int .i64 p.width, .string p.heat]
instance : Enc Sheet6 where
 sz := 6
 cells := sheet6C
 len _ := rfl
 nl p := fun v hv => List.all_eq_true.1 (show (sheet6C p).all nl1 = true from rfl) v hv
theorem Sheet6.ext' {p q : Sheet6} (h0 : p.id = q.id) (h1 : p.grade = q.grade) (h2 : p.thick = q.thick) (h3 : p.long = q.long) (h4 : p.width = q.width) (h5 : p.heat = q.heat) : p = q := by
 cases p; cases q
 simp only at h0 h1 h2 h3 h4 h5
 simp only [h0, h1, h2, h3, h4, h5]
structure Bar5 where
 id : ByteArray
 sect : ByteArray
 grade : ByteArray
 long : Int
 heat : ByteArray
 deriving DecidableEq
def bar5C (p : Bar5) : List Value := [.string p.id, .string p.sect, .string p.grade, .int .i64 p.long, .string p.heat]
instance : Enc Bar5 where
 sz := 5
 cells := bar5C
 len _ := rfl
 nl p := fun v hv => List.all_eq_true.1 (show (bar5C p).all nl1 = true from rfl) v hv
theorem Bar5.ext' {p q : Bar5} (h0 : p.id = q.id) (h1 : p.sect = q.sect) (h2 : p.grade = q.grade) (h3 : p.long = q.long) (h4 : p.heat = q.heat) : p = q := by
 cases p; cases q
 simp only at h0 h1 h2 h3 h4
 simp only [h0, h1, h2, h3, h4]
structure Spot where
 part : ByteArray
 at_ : Pt
 turn : Int
 flip : Bool
 deriving DecidableEq
def spotC (p : Spot) : List Value := [.string p.part, .int .i64 p.at_.x, .int .i64 p.at_.y, .int .i64 p.turn, .bool p.flip]
instance : Enc Spot where
 sz := 5
 cells := spotC
 len _ := rfl
 nl p := fun v hv => List.all_eq_true.1 (show (spotC p).all nl1 = true from rfl) v hv
theorem Spot.ext' {p q : Spot} (h0 : p.part = q.part) (h1 : p.at_ = q.at_) (h2 : p.turn = q.turn) (h3 : p.flip = q.flip) : p = q := by
 cases p; cases q
 simp only at h0 h1 h2 h3
 simp only [h0, h1, h2, h3]
structure Nest3 where
 sheet : ByteArray
 gap : Int
 spots : List Spot
 deriving DecidableEq
def nest3C (p : Nest3) : List Value := [.string p.sheet, .int .i64 p.gap, tree 5 p.spots.length (encL p.spots)]
abbrev nest3V (p : Nest3) : Value := .agg (nest3C p).toArray
instance : Enc Nest3 where
 sz := 3
 cells := nest3C
 len _ := rfl
 nl p := fun v hv => List.all_eq_true.1 (show (nest3C p).all nl1 = true from rfl) v hv
theorem Nest3.ext' {p q : Nest3} (h0 : p.sheet = q.sheet) (h1 : p.gap = q.gap) (h2 : p.spots = q.spots) : p = q := by
 cases p; cases q
 simp only at h0 h1 h2
 simp only [h0, h1, h2]
structure Saw3 where
 bar : ByteArray
 kerf : Int
 parts : List ByteArray
 deriving DecidableEq
def saw3C (p : Saw3) : List Value := [.string p.bar, .int .i64 p.kerf, tree 1 p.parts.length (encL p.parts)]
instance : Enc Saw3 where
 sz := 3
 cells := saw3C
 len _ := rfl
 nl p := fun v hv => List.all_eq_true.1 (show (saw3C p).all nl1 = true from rfl) v hv
theorem Saw3.ext' {p q : Saw3} (h0 : p.bar = q.bar) (h1 : p.kerf = q.kerf) (h2 : p.parts = q.parts) : p = q := by
 cases p; cases q
 simp only at h0 h1 h2
 simp only [h0, h1, h2]
structure Weig where
 block : ByteArray
 at_ : Int
 mass : Int
 centre : Vec3
 sigma : Int
 parts : List ByteArray
 deriving DecidableEq
def weigC (p : Weig) : List Value := [.string p.block, .int .i64 p.at_, .int .i64 p.mass, .int .i64 p.centre.x, .int .i64 p.centre.y, .int .i64 p.centre.z, .int .i64 p.sigma, tree 1 p.parts.length (encL p.parts)]
instance : Enc Weig where
 sz := 8
 cells := weigC
 len _ := rfl
 nl p := fun v hv => List.all_eq_true.1 (show (weigC p).all nl1 = true from rfl) v hv
theorem Weig.ext' {p q : Weig} (h0 : p.block = q.block) (h1 : p.at_ = q.at_) (h2 : p.mass = q.mass) (h3 : p.centre = q.centre) (h4 : p.sigma = q.sigma) (h5 : p.parts = q.parts) : p = q := by
 cases p; cases q
 simp only at h0 h1 h2 h3 h4 h5
 simp only [h0, h1, h2, h3, h4, h5]
structure Hook4 where
 crane : ByteArray
 at_ : Pt
 radius : Int
 deriving DecidableEq
def hook4C (p : Hook4) : List Value := [.string p.crane, .int .i64 p.at_.x, .int .i64 p.at_.y, .int .i64 p.radius]
instance : Enc Hook4 where
 sz := 4
 cells := hook4C
 len _ := rfl
 nl p := fun v hv => List.all_eq_true.1 (show (hook4C p).all nl1 = true from rfl) v hv
theorem Hook4.ext' {p q : Hook4} (h0 : p.crane = q.crane) (h1 : p.at_ = q.at_) (h2 : p.radius = q.radius) : p = q := by
 cases p; cases q
 simp only at h0 h1 h2
 simp only [h0, h1, h2]
structure Lift2 where
 block : ByteArray
 hooks : List Hook4
 deriving DecidableEq
def lift2C (p : Lift2) : List Value := [.string p.block, tree 4 p.hooks.length (encL p.hooks)]
instance : Enc Lift2 where
 sz := 2
 cells := lift2C
 len _ := rfl
 nl p := fun v hv => List.all_eq_true.1 (show (lift2C p).all nl1 = true from rfl) v hv
theorem Lift2.ext' {p q : Lift2} (h0 : p.block = q.block) (h1 : p.hooks = q.hooks) : p = q := by
 cases p; cases q
 simp only at h0 h1
 simp only [h0, h1]
structure Span2 where
 a : Int
 b : Int
 deriving DecidableEq
def span2C (p : Span2) : List Value := [.int .i64 p.a, .int .i64 p.b]
instance : Enc Span2 where
 sz := 2
 cells := span2C
 len _ := rfl
 nl p := fun v hv => List.all_eq_true.1 (show (span2C p).all nl1 = true from rfl) v hv
theorem Span2.ext' {p q : Span2} (h0 : p.a = q.a) (h1 : p.b = q.b) : p = q := by
 cases p; cases q
 simp only at h0 h1
 simp only [h0, h1]
structure Permit3 where
 id : ByteArray
 kind : Int
 time : Span2
 deriving DecidableEq
def permit3C (p : Permit3) : List Value := [.string p.id, .int .i64 p.kind, .int .i64 p.time.a, .int .i64 p.time.b]
instance : Enc Permit3 where
 sz := 4
 cells := permit3C
 len _ := rfl
 nl p := fun v hv => List.all_eq_true.1 (show (permit3C p).all nl1 = true from rfl) v hv
theorem Permit3.ext' {p q : Permit3} (h0 : p.id = q.id) (h1 : p.kind = q.kind) (h2 : p.time = q.time) : p = q := by
 cases p; cases q
 simp only at h0 h1 h2
 simp only [h0, h1, h2]
structure Event where
 kind : Int
 at_ : Int
 item : ByteArray
 of_ : ByteArray
 by_ : ByteArray
 n : Int
 pass : Bool
 order : Order2
 sheet : Sheet6
 bar : Bar5
 nest : Nest3
 saw : Saw3
 weig : Weig
 lift : Lift2
 permit : Permit3
 deriving DecidableEq
def eventC (p : Event) : List Value := [.int .i64 p.kind, .int .i64 p.at_, .string p.item, .string p.of_, .string p.by_, .int .i64 p.n, .bool p.pass, .string p.order.id, tree 38 p.order.edits.length (encL p.order.edits), .string p.sheet.id, .string p.sheet.grade, .int .i64 p.sheet.thick, .int .i64 p.sheet.long, .int .i64 p.sheet.width, .string p.sheet.heat, .string p.bar.id, .string p.bar.sect, .string p.bar.grade, .int .i64 p.bar.long, .string p.bar.heat, .string p.nest.sheet, .int .i64 p.nest.gap, tree 5 p.nest.spots.length (encL p.nest.spots), .string p.saw.bar, .int .i64 p.saw.kerf, tree 1 p.saw.parts.length (encL p.saw.parts), .string p.weig.block, .int .i64 p.weig.at_, .int .i64 p.weig.mass, .int .i64 p.weig.centre.x, .int .i64 p.weig.centre.y, .int .i64 p.weig.centre.z, .int .i64 p.weig.sigma, tree 1 p.weig.parts.length (encL p.weig.parts), .string p.lift.block, tree 4 p.lift.hooks.length (encL p.lift.hooks), .string p.permit.id, .int .i64 p.permit.kind, .int .i64 p.permit.time.a, .int .i64 p.permit.time.b]
abbrev eventV (p : Event) : Value := .agg (eventC p).toArray
instance : Enc Event where
 sz := 40
 cells := eventC
 len _ := rfl
 nl p := fun v hv => List.all_eq_true.1 (show (eventC p).all nl1 = true from rfl) v hv
theorem Event.ext' {p q : Event} (h0 : p.kind = q.kind) (h1 : p.at_ = q.at_) (h2 : p.item = q.item) (h3 : p.of_ = q.of_) (h4 : p.by_ = q.by_) (h5 : p.n = q.n) (h6 : p.pass = q.pass) (h7 : p.order = q.order) (h8 : p.sheet = q.sheet) (h9 : p.bar = q.bar) (h10 : p.nest = q.nest) (h11 : p.saw = q.saw) (h12 : p.weig = q.weig) (h13 : p.lift = q.lift) (h14 : p.permit = q.permit) : p = q := by
 cases p; cases q
 simp only at h0 h1 h2 h3 h4 h5 h6 h7 h8 h9 h10 h11 h12 h13 h14
 simp only [h0, h1, h2, h3, h4, h5, h6, h7, h8, h9, h10, h11, h12, h13, h14]
abbrev evK (k : Int) (x : Event) : List Value := .int .i64 k :: (eventC x).tail
def volL (l : List ByteArray) : Nat := (l.map ByteArray.size).sum
theorem volL_mem {l : List ByteArray} {s : ByteArray} (h : s ∈ l) : s.size ≤ volL l := by
 induction l with
 | nil => cases h
 | cons a l ih =>
  have e : volL (a :: l) = a.size + volL l := by simp [volL]
  rcases List.mem_cons.1 h with rfl | h
  ·omega
  ·have := ih h; omega
def bStrs (l : List ByteArray) : ByteArray := l.foldl (fun s x => s ++ bText x) (bList l.length)
theorem bStrs_fold : ∀ (l : List ByteArray) (s : ByteArray), (l.foldl (fun s x => s ++ bText x) s).size ≤ s.size + volL l + 9 * l.length
 | [], s => by simp [volL]
 | a :: l, s => by
  have h1 := bStrs_fold l (s ++ bText a)
  have h2 := bText_size a
  have e : volL (a :: l) = a.size + volL l := by simp [volL]
  rw [ba_size] at h1
  simp only [List.foldl_cons, List.length_cons]
  omega
theorem volL_take (l : List ByteArray) (i : Nat) : volL (l.take i) ≤ volL l := by
 have h := congrArg volL (List.take_append_drop i l)
 have e : volL (l.take i ++ l.drop i) = volL (l.take i) + volL (l.drop i) := by unfold volL; rw [List.map_append, List.sum_append]
 omega
theorem bStrs_size (l : List ByteArray) : (bStrs l).size ≤ volL l + 9 * l.length + 9 := by
 have h := bStrs_fold l (bList l.length)
 have := bList_size l.length
 unfold bStrs
 omega
theorem bStrs_part (l : List ByteArray) (i : Nat) (hn : l.length ≤ 1000) : ((l.take i).foldl (fun s x => s ++ bText x) (bList l.length)).size ≤ volL l + 10000 := by
 have h := bStrs_fold (l.take i) (bList l.length)
 have h1 := volL_take l i
 have h2 := bList_size l.length
 have h3 := List.length_take_le' i l
 omega
theorem cell_str {l : List ByteArray} {i : Nat} (h : i < l.length) : cellAt (encL l) i 0 = .string l[i] := by
 rw [cellAt_encL' h]
 rfl
def c_strs (args : List Value) (Post : Value → Prop) : Prop := ∃ l : List ByteArray, args = [tree 1 l.length (encL l)] ∧ l.length ≤ 1000 ∧ volL l ≤ 8000000 ∧ Post (.string (bStrs l))
theorem e_elist (l : List ByteArray) (H : HT) (Post : PV) : vcP Tryz.prog (tabCall tabI noCall) 85 [(3, [3, 9, 10, 11])] [tree 1 l.length (encL l)] H Post = (T2 (True ∧ ∃ (n : Nat), eqL [vi (↑l.length : Int)] [vi (↑n : Int)] ∧ n < 9223372036854775808 ∧ T4 (T2 (H (lpC Tryz.prog 85 3) (lpK Tryz.prog 85 3) (stV [(3, some (vs (bList n))), (9, some (tree 1 l.length (encL l))), (10, some (vi (↑l.length : Int))), (11, some (vi 0))] [] 0))))) := by kernel_rfl
theorem l_elist (l : List ByteArray) (s : ByteArray) (i : Int) (H : HT) (Post : PV) : vcLP Tryz.prog (tabCall tabI noCall) 85 [tree 1 l.length (encL l)] [(3, [3, 9, 10, 11])] 3 (stV [(3, some (.string s)), (9, some (tree 1 l.length (encL l))), (10, some (.int .i64 l.length)), (11, some (.int .i64 i))] [] 0) H Post = (True ∧ pIf (decide (i < (↑l.length : Int))) ((0 ≤ i ∧ i < (↑l.length : Int)) ∧ cellAt (encL l) (Int.toNat i) 0 = vs (toS (cellAt (encL l) (Int.toNat i) 0)) ∧ T2 (True ∧ ∃ (s_1 : ByteArray), eqL [vs (toS (cellAt (encL l) (Int.toNat i) 0))] [vs s_1] ∧ s_1.size ≤ 16000000 ∧ s.size + ByteArray.size (bText s_1) ≤ 9223372036854775807 ∧ T4 (True ∧ H (lpC Tryz.prog 85 3) (lpK Tryz.prog 85 3) (stV [(3, some (vs (s ++ bText s_1))), (9, some (tree 1 l.length (encL l))), (10, some (vi (↑l.length : Int))), (11, some (vi (IntKind.wrap IntKind.i64 (i + 1))))] [] 0)))) (T2 (True ∧ Post (vs s)))) := by kernel_rfl
theorem ok_elist : EntOk Tryz.prog ⟨85, c_strs⟩ := by
 rintro args Post ⟨l, rfl, hn, hv, h⟩
 refine pure_P (vc := tabCall tabI noCall) tabI_ok mixed (by kernel_rfl) (by kernel_rfl) _ (e_elist l _ _) ?_
 simp only [true_and]
 refine ⟨l.length, rfl, by omega, ?_⟩
 refine down (n := l.length) (p := fun i => OkP 85 [tree 1 l.length (encL l)] 3 Post (stV [(3, some (.string ((l.take i).foldl (fun s x => s ++ bText x) (bList l.length)))), (9, some (tree 1 l.length (encL l))), (10, some (.int .i64 l.length)), (11, some (.int .i64 i))] [] 0)) ?_ (fun i hi ih => ?_)
 ·refine ok_P (vc := tabCall tabI noCall) tabI_ok mixed _ (l_elist _ _ _ _ _) ?_
  simp only [true_and, pIf_iff, decide_eq_true_eq, decide_eq_false_iff_not]
  refine ⟨fun h' => by omega, fun _ => ?_⟩
  rwa [List.take_length]
 ·refine ok_P (vc := tabCall tabI noCall) tabI_ok mixed _ (l_elist _ _ _ _ _) ?_
  simp only [true_and, pIf_iff, decide_eq_true_eq, decide_eq_false_iff_not, Int.toNat_natCast, cell_str hi, toS]
  have a1 := volL_mem (List.getElem_mem hi)
  have a2 := bText_size l[i]
  have a3 := bStrs_part l i hn
  refine ⟨fun _ => ⟨by omega, l[i], rfl, by omega, by omega, ?_⟩, fun h' => by omega⟩
  rw [wrapSucc (by omega)]
  rw [fold_take _ _ hi] at ih
  exact ih
theorem tabEd_ok : VCallOk Tryz.prog (tabCall (⟨84, c_EncodeE⟩ :: ⟨85, c_strs⟩ :: tabI) noCall) := tabCall_ok (by
 intro e he
 simp only [tabI, List.mem_cons, List.not_mem_nil, or_false] at he
 rcases he with rfl | rfl | rfl | rfl | rfl
 ·exact ok_EncodeE
 ·exact ok_elist
 ·exact ok_cInt
 ·exact ok_cList
 ·exact ok_cText) noCall_ok
theorem e_editEnc (x : Edit) (H : HT) (Post : PV) : vcP Tryz.prog (tabCall (⟨84, c_EncodeE⟩ :: ⟨85, c_strs⟩ :: tabI) noCall) 71 [] [editV x] H Post = (T8 (∃ (n : Int), eqL [vi x.kind] [vi n] ∧ (-9223372036854775808 ≤ n ∧ n < 9223372036854775808) ∧ True ∧ ∃ (s : ByteArray), eqL [vs x.id] [vs s] ∧ s.size ≤ 16000000 ∧ True ∧ ByteArray.size (bInt n) + ByteArray.size (bText s) ≤ 9223372036854775807 ∧ ∃ (s_1 : ByteArray), eqL [vs x.to] [vs s_1] ∧ s_1.size ≤ 16000000 ∧ True ∧ ByteArray.size (bInt n ++ bText s) + ByteArray.size (bText s_1) ≤ 9223372036854775807 ∧ T8 (T2 (True ∧ ∃ (s_2 : ByteArray), eqL [vs x.node.id] [vs s_2] ∧ s_2.size ≤ 16000000 ∧ True ∧ ∃ (n_1 : Int), eqL [vi x.node.kind] [vi n_1] ∧ (-9223372036854775808 ≤ n_1 ∧ n_1 < 9223372036854775808) ∧ True ∧ ByteArray.size (bText s_2) + ByteArray.size (bInt n_1) ≤ 9223372036854775807 ∧ ∃ (s_3 : ByteArray), eqL [vs x.node.parent] [vs s_3] ∧ s_3.size ≤ 16000000 ∧ True ∧ ByteArray.size (bText s_2 ++ bInt n_1) + ByteArray.size (bText s_3) ≤ 9223372036854775807 ∧ ByteArray.size (bInt n ++ bText s ++ bText s_1) + ByteArray.size (bText s_2 ++ bInt n_1 ++ bText s_3) ≤ 9223372036854775807 ∧ T4 (∃ (p : Part), eqL [Value.agg #[vs x.part.id, vi x.part.rev, vi x.part.kind, vs x.part.node, vs x.part.grade, vi x.part.thick, tree 2 x.part.outer.length (encL x.part.outer), tree 1 x.part.holes.length (encL x.part.holes), vs x.part.sect, vi x.part.long, vi x.part.mass, vi x.part.centre.x, vi x.part.centre.y, vi x.part.centre.z, vi x.part.at_.x, vi x.part.at_.y, vi x.part.at_.z, vi x.part.turn]] [partV p] ∧ InPart p ∧ (volP p ≤ 8000000 ∧ List.length p.outer ≤ 100 ∧ List.length p.holes ≤ 20 ∧ ∀ (h : List Pt), h ∈ p.holes → List.length h ≤ 100) ∧ ByteArray.size (bInt n ++ bText s ++ bText s_1 ++ (bText s_2 ++ bInt n_1 ++ bText s_3)) + ByteArray.size (bPart p) ≤ 9223372036854775807 ∧ T16 (T4 (∃ (s_4 : ByteArray), eqL [vs x.seam.id] [vs s_4] ∧ s_4.size ≤ 16000000 ∧ True ∧ ∃ (s_5 : ByteArray), eqL [vs x.seam.a] [vs s_5] ∧ s_5.size ≤ 16000000 ∧ True ∧ ByteArray.size (bText s_4) + ByteArray.size (bText s_5) ≤ 9223372036854775807 ∧ ∃ (s_6 : ByteArray), eqL [vs x.seam.b] [vs s_6] ∧ s_6.size ≤ 16000000 ∧ True ∧ ByteArray.size (bText s_4 ++ bText s_5) + ByteArray.size (bText s_6) ≤ 9223372036854775807 ∧ ∃ (n_2 : Int), eqL [vi x.seam.kind] [vi n_2] ∧ (-9223372036854775808 ≤ n_2 ∧ n_2 < 9223372036854775808) ∧ True ∧ ByteArray.size (bText s_4 ++ bText s_5 ++ bText s_6) + ByteArray.size (bInt n_2) ≤ 9223372036854775807 ∧ ∃ (n_3 : Int), eqL [vi x.seam.long] [vi n_3] ∧ (-9223372036854775808 ≤ n_3 ∧ n_3 < 9223372036854775808) ∧ True ∧ ByteArray.size (bText s_4 ++ bText s_5 ++ bText s_6 ++ bInt n_2) + ByteArray.size (bInt n_3) ≤ 9223372036854775807 ∧ ∃ (n_4 : Int), eqL [vi x.seam.cls] [vi n_4] ∧ (-9223372036854775808 ≤ n_4 ∧ n_4 < 9223372036854775808) ∧ True ∧ ByteArray.size (bText s_4 ++ bText s_5 ++ bText s_6 ++ bInt n_2 ++ bInt n_3) + ByteArray.size (bInt n_4) ≤ 9223372036854775807 ∧ ByteArray.size (bInt n ++ bText s ++ bText s_1 ++ (bText s_2 ++ bInt n_1 ++ bText s_3) ++ bPart p) + ByteArray.size (bText s_4 ++ bText s_5 ++ bText s_6 ++ bInt n_2 ++ bInt n_3 ++ bInt n_4) ≤ 9223372036854775807 ∧ T16 (True ∧ ∃ (s_7 : ByteArray), eqL [vs x.pack.id] [vs s_7] ∧ s_7.size ≤ 16000000 ∧ True ∧ ∃ (s_8 : ByteArray), eqL [vs x.pack.block] [vs s_8] ∧ s_8.size ≤ 16000000 ∧ True ∧ ByteArray.size (bText s_7) + ByteArray.size (bText s_8) ≤ 9223372036854775807 ∧ ∃ (l : List ByteArray), eqL [tree 1 x.pack.parts.length (encL x.pack.parts)] [tree 1 l.length (encL l)] ∧ List.length l ≤ 1000 ∧ volL l ≤ 8000000 ∧ True ∧ ByteArray.size (bText s_7 ++ bText s_8) + ByteArray.size (bStrs l) ≤ 9223372036854775807 ∧ ∃ (n_5 : Int), eqL [vi x.pack.hours] [vi n_5] ∧ (-9223372036854775808 ≤ n_5 ∧ n_5 < 9223372036854775808) ∧ True ∧ ByteArray.size (bText s_7 ++ bText s_8 ++ bStrs l) + ByteArray.size (bInt n_5) ≤ 9223372036854775807 ∧ ∃ (l_1 : List ByteArray), eqL [tree 1 x.pack.after.length (encL x.pack.after)] [tree 1 l_1.length (encL l_1)] ∧ List.length l_1 ≤ 1000 ∧ volL l_1 ≤ 8000000 ∧ True ∧ ByteArray.size (bText s_7 ++ bText s_8 ++ bStrs l ++ bInt n_5) + ByteArray.size (bStrs l_1) ≤ 9223372036854775807 ∧ ByteArray.size (bInt n ++ bText s ++ bText s_1 ++ (bText s_2 ++ bInt n_1 ++ bText s_3) ++ bPart p ++ (bText s_4 ++ bText s_5 ++ bText s_6 ++ bInt n_2 ++ bInt n_3 ++ bInt n_4)) + ByteArray.size (bText s_7 ++ bText s_8 ++ bStrs l ++ bInt n_5 ++ bStrs l_1) ≤ 9223372036854775807 ∧ T8 (T2 (True ∧ ∃ (n_6 : Int), eqL [vi x.need.kind] [vi n_6] ∧ (-9223372036854775808 ≤ n_6 ∧ n_6 < 9223372036854775808) ∧ True ∧ ByteArray.size (bInt n ++ bText s ++ bText s_1 ++ (bText s_2 ++ bInt n_1 ++ bText s_3) ++ bPart p ++ (bText s_4 ++ bText s_5 ++ bText s_6 ++ bInt n_2 ++ bInt n_3 ++ bInt n_4) ++ (bText s_7 ++ bText s_8 ++ bStrs l ++ bInt n_5 ++ bStrs l_1)) + ByteArray.size (bInt n_6) ≤ 9223372036854775807 ∧ ∃ (s_9 : ByteArray), eqL [vs x.need.block] [vs s_9] ∧ s_9.size ≤ 16000000 ∧ True ∧ ByteArray.size (bInt n ++ bText s ++ bText s_1 ++ (bText s_2 ++ bInt n_1 ++ bText s_3) ++ bPart p ++ (bText s_4 ++ bText s_5 ++ bText s_6 ++ bInt n_2 ++ bInt n_3 ++ bInt n_4) ++ (bText s_7 ++ bText s_8 ++ bStrs l ++ bInt n_5 ++ bStrs l_1) ++ bInt n_6) + ByteArray.size (bText s_9) ≤ 9223372036854775807 ∧ ∃ (s_10 : ByteArray), eqL [vs x.need.on] [vs s_10] ∧ s_10.size ≤ 16000000 ∧ True ∧ ByteArray.size (bInt n ++ bText s ++ bText s_1 ++ (bText s_2 ++ bInt n_1 ++ bText s_3) ++ bPart p ++ (bText s_4 ++ bText s_5 ++ bText s_6 ++ bInt n_2 ++ bInt n_3 ++ bInt n_4) ++ (bText s_7 ++ bText s_8 ++ bStrs l ++ bInt n_5 ++ bStrs l_1) ++ bInt n_6 ++ bText s_9) + ByteArray.size (bText s_10) ≤ 9223372036854775807 ∧ T2 (Post (vs (bInt n ++ bText s ++ bText s_1 ++ (bText s_2 ++ bInt n_1 ++ bText s_3) ++ bPart p ++ (bText s_4 ++ bText s_5 ++ bText s_6 ++ bInt n_2 ++ bInt n_3 ++ bInt n_4) ++ (bText s_7 ++ bText s_8 ++ bStrs l ++ bInt n_5 ++ bStrs l_1) ++ bInt n_6 ++ bText s_9 ++ bText s_10))))))))))))) := by kernel_rfl
def volE (x : Edit) : Nat := x.id.size + x.to.size + x.node.id.size + x.node.parent.size + volP x.part + x.seam.id.size + x.seam.a.size + x.seam.b.size + x.pack.id.size + x.pack.block.size + volL x.pack.parts + volL x.pack.after + x.need.block.size + x.need.on.size
structure InEdit (x : Edit) : Prop where
 kind : In64 x.kind
 node : In64 x.node.kind
 part : InPart x.part
 seam : In64 x.seam.kind
 long : In64 x.seam.long
 cls : In64 x.seam.cls
 hours : In64 x.pack.hours
 need : In64 x.need.kind
structure FewEd (x : Edit) : Prop where
 vol : volE x ≤ 8000000
 parts : x.pack.parts.length ≤ 1000
 after : x.pack.after.length ≤ 1000
 outer : x.part.outer.length ≤ 100
 holes : x.part.holes.length ≤ 20
 all : ∀ h ∈ x.part.holes, h.length ≤ 100
def bNode (n : Node3) : ByteArray := bText n.id ++ bInt n.kind ++ bText n.parent
def bSeam (n : Seam6) : ByteArray := bText n.id ++ bText n.a ++ bText n.b ++ bInt n.kind ++ bInt n.long ++ bInt n.cls
def bPack (n : Pack5) : ByteArray := bText n.id ++ bText n.block ++ bStrs n.parts ++ bInt n.hours ++ bStrs n.after
def bEdit (x : Edit) : ByteArray := bInt x.kind ++ bText x.id ++ bText x.to ++ bNode x.node ++ bPart x.part ++ bSeam x.seam ++ bPack x.pack ++ bInt x.need.kind ++ bText x.need.block ++ bText x.need.on
theorem FewEd.part {x : Edit} (h : FewEd x) : fewE x.part := ⟨by have := h.vol; unfold volE at this; omega, h.outer, h.holes, h.all⟩
theorem bEdit_size {x : Edit} (h : FewEd x) : (bEdit x).size ≤ volE x + 60000 := by
 have h0 := bPart_sizeE h.part
 have h1 := h.parts
 have h2 := h.after
 have a1 := bText_size x.id
 have a2 := bText_size x.to
 have a3 := bText_size x.node.id
 have a4 := bText_size x.node.parent
 have a5 := bText_size x.seam.id
 have a6 := bText_size x.seam.a
 have a7 := bText_size x.seam.b
 have a8 := bText_size x.pack.id
 have a9 := bText_size x.pack.block
 have b1 := bStrs_size x.pack.parts
 have b2 := bStrs_size x.pack.after
 have b3 := bText_size x.need.block
 have b4 := bText_size x.need.on
 have c1 := bInt_size x.kind
 have c2 := bInt_size x.node.kind
 have c3 := bInt_size x.seam.kind
 have c4 := bInt_size x.seam.long
 have c5 := bInt_size x.seam.cls
 have c6 := bInt_size x.pack.hours
 have c7 := bInt_size x.need.kind
 unfold bEdit bNode bSeam bPack volE
 simp only [ba_size]
 omega
def c_Edit (args : List Value) (Post : Value → Prop) : Prop := ∃ x : Edit, args = [editV x] ∧ InEdit x ∧ FewEd x ∧ Post (.string (bEdit x))
theorem ok_editEnc : EntOk Tryz.prog ⟨71, c_Edit⟩ := by
 rintro args Post ⟨x, rfl, hin, hf, h⟩
 refine pure_P (vc := tabCall (⟨84, c_EncodeE⟩ :: ⟨85, c_strs⟩ :: tabI) noCall) tabEd_ok mixed (by kernel_rfl) (by kernel_rfl) _ (e_editEnc x _ _) ?_
 have h0 := bPart_sizeE hf.part
 have hfp := hf.part
 have hip := hin.part
 have h1 := hf.parts
 have h2 := hf.after
 have hv := hf.vol
 have a1 := bText_size x.id
 have a2 := bText_size x.to
 have a3 := bText_size x.node.id
 have a4 := bText_size x.node.parent
 have a5 := bText_size x.seam.id
 have a6 := bText_size x.seam.a
 have a7 := bText_size x.seam.b
 have a8 := bText_size x.pack.id
 have a9 := bText_size x.pack.block
 have b1 := bStrs_size x.pack.parts
 have b2 := bStrs_size x.pack.after
 have b3 := bText_size x.need.block
 have b4 := bText_size x.need.on
 have c1 := bInt_size x.kind
 have c2 := bInt_size x.node.kind
 have c3 := bInt_size x.seam.kind
 have c4 := bInt_size x.seam.long
 have c5 := bInt_size x.seam.cls
 have c6 := bInt_size x.pack.hours
 have c7 := bInt_size x.need.kind
 obtain ⟨⟨i1, j1⟩, ⟨i2, j2⟩, _, ⟨i3, j3⟩, ⟨i4, j4⟩, ⟨i5, j5⟩, ⟨i6, j6⟩, ⟨i7, j7⟩⟩ := hin
 unfold volE at hv
 simp only [true_and, and_true]
 repeat (first | refine ⟨_, rfl, (by first | exact hip | omega), ?_⟩ | refine ⟨hfp, ?_⟩ | refine ⟨(by first | omega | (simp only [ba_size]; omega)), ?_⟩)
 exact h
def noP : PCall := fun _ _ _ _ _ => False
theorem noP_ok {P : Program} : PCallOk P noP := fun _ _ _ _ _ h => h.elim
def recSlot (P : Program) (g : FuncId) : Option (Nat × Code) :=
 match codeOf (fnAt P g) with
 | .seq (.region _ ops false) y => match ops.toList with
  | [o] => match o.op, o.dst, o.guard with
   | .call c, some s, none => match c.callee, c.args.toList with
    | .builtin .recover, [] => some (s, y)
    | _, _ => none
   | _, _, _ => none
  | _ => none
 | _ => none
def recRun (P : Program) (g : FuncId) (args : List Value) (v : Value) (hp : Tr AObj) (nx : Nat) (K : AS → Prop) : Prop :=
 match recSlot P g with
 | some (s, y) => match aput (slotsN args (fnAt P g)) (putArgs 0 args .e) (some s) v with
  | some tm => vrunP P noP (slotsN args (fnAt P g)) [] [] (fun _ _ _ => False) (fun st => match ares P st.hp st.tm (fnAt P g) with | some _ => K st | none => False) (fun _ _ => False) 1000 (.code y) [] ⟨tm, hp, nx⟩
  | none => False
 | none => False
theorem vloop_false {lt : List (Nat × List Nat)} {base : List Bool} {b : Code} {k : List Fr} {st : AS} (h : vloop lt base (fun _ _ _ => False) b k st) : False := by
 unfold vloop at h
 split at h
 case h_2 => exact h.elim
 split at h
 case h_2 => exact h.elim
 split at h
 case h_2 => exact h.elim
 exact h.2.2.elim
theorem CallsD.mono {P : Program} {f : FuncId} {args : Array Value} {u : FrameMode} {w : World} {R R' : Ending → FrameMode → World → Prop} (h : CallsD P f args u w R) (k : ∀ e u' w', R e u' w' → R' e u' w') : CallsD P f args u w R' := fun c cs hc =>
 let ⟨e, u', w', fr, h1, h2⟩ := h c cs hc
 ⟨e, u', w', fr, k _ _ _ h1, h2⟩
theorem recRun_sound {P : Program} (hm : P.follows .mixedOrders = true) {g : FuncId} (hg : P.funcs[g]? = some (fnAt P g)) (hb : (fnAt P g).body = some (codeOf (fnAt P g))) {args args' : List Value} {v v' : Value} {hp : Tr AObj} {nx : Nat} {K : AS → Prop} {W : Base} {ρ : Place} {w : World}
  (hrel : Rel ρ W hp nx w) (hargs : VRL ρ args args') (hv : VR ρ v v') (h : recRun P g args v hp nx K) {u u' : FrameMode}
  (hu : (u = .returning ∧ v' = .nilIface ∧ u' = .returning) ∨ (u = .panicking [{ v := v', recovered := false }] ∧ u' = .panicking [{ v := v', recovered := true }])) :
  CallsD P g args'.toArray u w fun e u1 w1 => (∃ r, e = .returned r) ∧ u1 = u' ∧ ∃ st ρ', K st ∧ Rel ρ' W st.hp st.nx w1 ∧ Step ρ ρ' hp st.hp nx st.nx := by
 unfold recRun at h
 split at h
 case h_2 => exact h.elim
 rename_i s y hsl
 split at h
 case h_2 => exact h.elim
 rename_i tm htm
 have hshape : ∃ id o c tys, codeOf (fnAt P g) = .seq (.region id #[o] false) y ∧ o.op = .call c ∧ o.dst = some s ∧ o.guard = none ∧ c = ⟨.builtin .recover, #[], tys⟩ := by
  unfold recSlot at hsl
  split at hsl
  case h_2 => cases hsl
  rename_i id ops y0 hc
  split at hsl
  case h_2 => cases hsl
  rename_i o ho
  split at hsl
  case h_2 => cases hsl
  rename_i c s0 h1 h2 h3
  split at hsl
  case h_2 => cases hsl
  rename_i g1 g2
  cases hsl
  obtain ⟨callee, as0, tys⟩ := c
  dsimp only at g1 g2
  have ea : as0 = #[] := by apply Array.ext'; simpa using g2
  have eo : ops = #[o] := by apply Array.ext'; simpa using ho
  subst ea eo g1
  exact ⟨id, o, _, tys, hc, h1, h2, h3, rfl⟩
 obtain ⟨id, o, c, tys, hc, ho, hd, hgd, rfl⟩ := hshape
 refine callsD_of_wpS hg hb fun c0 cs hc0 => ?_
 rw [hc]
 refine wpS_seq (wpS_region ?_)
 show wpOpsS P #[o] _ [0] _ _ _
 unfold wpOpsS
 have e0 : (#[o])[0]? = some o := rfl
 rw [e0]
 dsimp only
 have hw : ∀ q, Region.wanted o q = true := fun q => by unfold Region.wanted; rw [hgd]
 rw [hw, if_pos rfl]
 obtain ⟨dst, op, type, pos, after, guard⟩ := o
 dsimp only at ho hd hgd
 subst ho hd hgd
 have hrun : ∀ ev, (execOp ev ⟨some s, .call ⟨.builtin .recover, #[], tys⟩, type, pos, after, none⟩).run P w = .ok .recover w := fun ev => rfl
 rw [hrun]
 dsimp only
 have hstart := start_rel rfl hrel.bare hargs (fnAt P g)
 have fin : ∀ x', VR ρ v x' → y.wpS P (bodyPostS P (fnAt P g) c0 cs fun e u1 w1 => (∃ r, e = .returned r) ∧ u1 = u' ∧ ∃ st ρ', K st ∧ Rel ρ' W st.hp st.nx w1 ∧ Step ρ ρ' hp st.hp nx st.nx)
   (Act.put { tmps := args'.toArray ++ Array.replicate ((fnAt P g).ntmps - args'.toArray.size) undef, defers := [] } (some s) x') ({ c0 with mode := u' } :: cs) w := fun x' hx => by
  refine wpS_of_wp ?_
  have hs : SRel ρ W.bare (slotsN args (fnAt P g)) ⟨tm, hp, nx⟩ (Act.put { tmps := args'.toArray ++ Array.replicate ((fnAt P g).ntmps - args'.toArray.size) undef, defers := [] } (some s) x') w := ⟨hstart.rel, aput_sound hstart.frame htm hx⟩
  have fin : ∀ st, (match ares P st.hp st.tm (fnAt P g) with | some _ => K st | none => False) → ∀ ρ' a w', SRel ρ' W.bare (slotsN args (fnAt P g)) st a w' → Step ρ ρ' hp st.hp nx st.nx →
    a.defers = [] ∧ ∃ u1, ({ c0 with mode := u' } :: cs : List Frame) = { c0 with mode := u1 } :: cs ∧ ∃ r, (results (fnAt P g) a.tmps).run P w' = .ok r w' ∧ ((∃ r0, Ending.returned r = .returned r0) ∧ u1 = u' ∧ ∃ st ρ', K st ∧ Rel ρ' W st.hp st.nx w' ∧ Step ρ ρ' hp st.hp nx st.nx) := by
   intro st hst ρ' a w' hs hr
   split at hst
   case h_2 => exact hst.elim
   rename_i r hr0
   obtain ⟨r', q1, q2⟩ := ares_sound hs.rel hs.frame hr0
   exact ⟨hs.frame.defers, u', rfl, r', q1, ⟨r', rfl⟩, rfl, st, ρ', hst, hs.rel.unbare, hr⟩
  exact vrunP_sound (W := W.bare) (R := fun ρ' st => Step ρ ρ' hp st.hp nx st.nx) noP_ok hm (fun _ _ _ _ h k => h.trans k)
   (fun b k st h => (vloop_false h).elim) (fun st hst ρ' a w' hs hr => ⟨fin st hst ρ' a w' hs hr, fin st hst ρ' a w' hs hr⟩) (fun _ _ h => h.elim) 1000 (.code y) [] _ h ρ _ w hs (.refl _ _ _)
 rcases hu with ⟨rfl, rfl, rfl⟩ | ⟨rfl, rfl⟩
 ·have hrec : recoverD (c0 :: cs) = none := by
   unfold recoverD
   dsimp only
   rw [hc0]
  rw [hrec]
  dsimp only
  unfold wpOpsS
  have e1 : ({ c0 with mode := .returning } :: cs : List Frame) = c0 :: cs := by rw [← hc0]
  have := fin _ hv
  rw [e1] at this
  exact this
 ·have hrec : recoverD (c0 :: cs) = some (v', { c0 with mode := .panicking [{ v := v', recovered := true }] } :: cs) := by
   unfold recoverD
   dsimp only
   rw [hc0]
  rw [hrec]
  dsimp only
  unfold wpOpsS
  exact fin _ hv
def contD (P : Program) (pc : PCall) (n : Nat) (fn : Func) (g : FuncId) (caps : List Value) (Fin : AS → Prop) (rest : Code) (st : AS) : Prop :=
 vrunP P pc n [] [] (fun _ _ _ => False) (fun st => recRun P g caps .nilIface st.hp st.nx fun st' => Fin ⟨st.tm, st'.hp, st'.nx⟩)
  (fun v st => recRun P g caps v st.hp st.nx fun st' => Fin ⟨st.tm, st'.hp, st'.nx⟩) 3000 (.code rest) [] st
def runD (P : Program) (pc : PCall) (f : FuncId) (hp : Tr AObj) (nx : Nat) (args : List Value) (Fin : AS → Prop) : Prop :=
 match codeOf (fnAt P f) with
 | .seq (.region _ ops0 d0) (.seq (.region _ ops1 false) rest) => match ops1.toList with
  | [o1, o2] => match o1.guard, o2.guard, o2.dst, o2.op with
   | none, none, none, .defer c => match c.callee, c.args.toList with
    | .value x, [] => vregionP P pc (slotsN args (fnAt P f)) ops0 d0 ⟨putArgs 0 args .e, hp, nx⟩ (fun st => match slight P st.hp o1 (aev st.tm) with
     | some (.val (.func (.func g) first cap), ob) => match aput (slotsN args (fnAt P f)) st.tm o1.dst (.func (.func g) first cap) with
      | some tm => match aev tm x with
       | some (.func (.func g) first cap) => bif enters P g then ob ∧ contD P pc (slotsN args (fnAt P f)) (fnAt P f) g (first.toList ++ cap.toList) Fin rest ⟨tm, st.hp, st.nx⟩ else False
       | _ => False
      | none => False
     | _ => False) (fun _ _ => False)
    | _, _ => False
   | _, _, _, _ => False
  | _ => False
 | _ => False
theorem Rel.withDs {ρ : Place} {W : Base} {hp : Tr AObj} {nx : Nat} {w : World} (D : List Deferred) (h : Rel ρ W hp nx w) : Rel ρ ⟨W.w, W.mu, W.f0, D⟩ hp nx w :=
 ⟨h.dom, h.obj, h.inj, h.fresh, ⟨h.below.os, h.below.tape, h.below.output, h.below.size, h.below.block⟩, h.frz, h.apart, h.frn⟩
theorem all_of {P : Program} (g : FuncId) (h : enters P g = true) : P.funcs[g]? = some (fnAt P g) ∧ (fnAt P g).body = some (codeOf (fnAt P g)) := by
 unfold enters at h
 unfold fnAt codeOf
 cases hf : P.funcs[g]? with
 | none => rw [hf] at h; cases h
 | some fn =>
  rw [hf] at h
  simp only [Bool.and_eq_true] at h
  refine ⟨rfl, ?_⟩
  show fn.body = some (fn.body.getD .skip)
  cases hb : fn.body with
  | none => rw [hb] at h; simp at h
  | some b => rfl
theorem runD_sound {P : Program} {pc : PCall} (hcall : PCallOk P pc) (hm : P.follows .mixedOrders = true) {f : FuncId} (hf : enters P f = true) {hp : Tr AObj} {nx : Nat} {args : List Value} {Fin : AS → Prop}
  (h : runD P pc f hp nx args Fin) {W : Base} {ρ : Place} {w : World} {args' : List Value} (hrel : Rel ρ W hp nx w) (hargs : VRL ρ args args') {R : Ending → World → Prop}
  (hR : ∀ st ρ' D a w', Fin st → Rel ρ' W.bare st.hp st.nx w' → FRel D ρ' st.tm (slotsN args (fnAt P f)) a → Step ρ ρ' hp st.hp nx st.nx → ∃ v', (results (fnAt P f) a.tmps).run P w' = .ok v' w' ∧ R (.returned v') w') : Calls P f args'.toArray w R := by
 obtain ⟨hf', hb'⟩ := all_of f hf
 refine calls_of_wp_defers hf' hb' ?_
 unfold runD at h
 split at h
 case h_2 => exact h.elim
 rename_i id0 ops0 d0 id1 ops1 rest hc
 rw [hc]
 split at h
 case h_2 => exact h.elim
 rename_i o1 o2 ho
 split at h
 case h_2 => exact h.elim
 rename_i c gd1 gd2 hdst hop
 split at h
 case h_2 => exact h.elim
 rename_i x hcal hcargs
 have eo : ops1 = #[o1, o2] := by apply Array.ext'; simpa using ho
 subst eo
 have hst := start_rel rfl hrel.bare hargs (fnAt P f)
 refine wp_seq ?_
 refine vregionP_sound hcall hm hst h (fun st1 hK a1 w1 ρ1 hs1 hr1 => ?_) (fun v st' hx => hx.elim)
 split at hK
 case h_2 => exact hK.elim
 rename_i g0 first0 cap0 ob hsl
 split at hK
 case h_2 => exact hK.elim
 rename_i tm htm
 split at hK
 case h_2 => exact hK.elim
 rename_i g first cap hx
 cases hg : enters P g with
 | false => rw [hg] at hK; exact hK.elim
 | true =>
  rw [hg, cond_true] at hK
  obtain ⟨hob, hK⟩ := hK
  obtain ⟨hgf, hgb⟩ := all_of g hg
  refine wp_seq (wp_region ?_)
  show wpOps P #[o1, o2] _ [0, 1] _ _
  rw [wpOps_cons]
  unfold wpOp
  have e0 : (#[o1, o2])[0]? = some o1 := rfl
  simp only [e0]
  have hw : ∀ o : Oper, o.guard = none → ∀ q, Region.wanted o q = true := fun o ho q => by unfold Region.wanted; rw [ho]
  rw [hw _ gd1, if_pos rfl]
  refine .inl ?_
  obtain ⟨fv', hf1, hf2⟩ := slight_sound (r := .val (.func (.func g0) first0 cap0)) hs1.rel hs1.frame.ev hsl hob
  unfold Oper.wp
  rw [hf1]
  show wpOps P #[o1, o2] _ [1] _ _
  rw [wpOps_cons]
  unfold wpOp
  have e1 : (#[o1, o2])[1]? = some o2 := rfl
  simp only [e1]
  rw [hw _ gd2, if_pos rfl]
  refine .inl ?_
  have hF2 := aput_sound hs1.frame htm hf2
  have hxv := hF2.eval hx
  obtain ⟨dst2, op2, type2, pos2, after2, guard2⟩ := o2
  dsimp only at hdst hop gd2
  subst hdst hop gd2
  obtain ⟨callee, as0, tys⟩ := c
  dsimp only at hcal hcargs
  have ea : as0 = #[] := by apply Array.ext'; simpa using hcargs
  subst hcal ea
  generalize hE : (a1.put o1.dst fv').eval x = E at hxv
  cases hxv with
  | @func _ _ first' _ cap' s1 v1 s2 v2 =>
   have hL : VRL ρ1 (first.toList ++ cap.toList) (first'.toList ++ cap'.toList) := (VRA.list ⟨s1, v1⟩).append (VRA.list ⟨s2, v2⟩)
   have hrun : (execOp (a1.put o1.dst fv').eval ⟨none, .defer ⟨.value x, #[], tys⟩, type2, pos2, after2, none⟩).run P w1 = .ok (.defer ⟨.fn (.func g) cap', first'⟩) w1 := by
    unfold execOp
    simp only [resolve, hE]
    simp
    rfl
   unfold Oper.wp
   rw [hrun]
   rw [Oper.upon_defer]
   show (wpOps P _ _ [] _ _)
   unfold wpOps
   show rest.wp P _ _ _
   have hinv : ∀ w', (invoke (.fn (.func g) cap') first').run P w' = .ok (.enter g (first'.toList ++ cap'.toList).toArray) w' := fun w' => by
    have e2 : (first'.toList ++ cap'.toList).toArray = first' ++ cap' := by apply Array.ext'; simp
    rw [e2]
    show (callFunc g (first' ++ cap')).run P w' = _
    exact pureRun_run (enters_run hg _) w'
   have hds : (a1.put o1.dst fv').defers = [] := hF2.defers
   have hs2 : SRel ρ1 ⟨W.w, W.mu, W.f0, [⟨.fn (.func g) cap', first'⟩]⟩ (slotsN args (fnAt P f)) ⟨tm, st1.hp, st1.nx⟩ (Act.put { a1.put o1.dst fv' with defers := ⟨.fn (.func g) cap', first'⟩ :: (a1.put o1.dst fv').defers } none undef) w1 := by
    refine ⟨Rel.withDs _ hs1.rel.unbare, hF2.size, ?_, hF2.slot⟩
    show (_ :: (a1.put o1.dst fv').defers : List Deferred) = _
    rw [hds]
   have goes : ∀ (v v' : Value) (u u' : FrameMode), u ≠ .run → settle u' = .returning → ∀ st ρ' a w', ((u = .returning ∧ v' = .nilIface ∧ u' = .returning) ∨ (u = .panicking [{ v := v', recovered := false }] ∧ u' = .panicking [{ v := v', recovered := true }])) →
     VR ρ' v v' → SRel ρ' ⟨W.w, W.mu, W.f0, [⟨.fn (.func g) cap', first'⟩]⟩ (slotsN args (fnAt P f)) st a w' → Step ρ1 ρ' st1.hp st.hp st1.nx st.nx →
     (recRun P g (first.toList ++ cap.toList) v st.hp st.nx fun st' => Fin ⟨st.tm, st'.hp, st'.nx⟩) →
     Leaves P (fnAt P f) a.tmps R a.defers u w' := by
    intro v v' u u' hu0 hset st ρ' a w' hu hv hs hr hrec
    have hd0 : a.defers = [⟨.fn (.func g) cap', first'⟩] := hs.frame.defers
    rw [hd0]
    refine leaves_cons hu0 (hinv w') ?_
    refine (recRun_sound hm hgf hgb hs.rel (hL.mono hr.le) hv hrec hu).mono ?_
    rintro e u1 w2 ⟨⟨r, rfl⟩, rfl, st', ρ2, hfin, hrel2, hstep2⟩
    dsimp only
    rw [hset]
    have hF3 : FRel [⟨.fn (.func g) cap', first'⟩] ρ2 st.tm (slotsN args (fnAt P f)) a := hs.frame.mono hstep2.le
    have hg2 : Step ρ ρ2 hp st'.hp nx st'.nx := (hr1.trans hr).trans hstep2
    have hb2 := Rel.withDs [] hrel2
    obtain ⟨rv, q1, q2⟩ := hR ⟨st.tm, st'.hp, st'.nx⟩ ρ2 _ a w2 hfin hb2 hF3 hg2
    exact ⟨rv, q1, q2⟩
   unfold contD at hK
   exact vrunP_sound (W := ⟨W.w, W.mu, W.f0, [⟨.fn (.func g) cap', first'⟩]⟩) (R := fun ρ' st => Step ρ1 ρ' st1.hp st.hp st1.nx st.nx) hcall hm (fun _ _ _ _ h k => h.trans k)
    (fun b k st h => (vloop_false h).elim)
    (fun st hfin ρ' a w' hs hr => ⟨goes .nilIface .nilIface .returning .returning (by simp) rfl st ρ' a w' (.inl ⟨rfl, rfl, rfl⟩) .nilIface hs hr hfin, goes .nilIface .nilIface .returning .returning (by simp) rfl st ρ' a w' (.inl ⟨rfl, rfl, rfl⟩) .nilIface hs hr hfin⟩)
    (fun v st hx ρ' v' a w' hv hs hr => goes v v' (.panicking [{ v := v', recovered := false }]) (.panicking [{ v := v', recovered := true }]) (by simp) rfl st ρ' a w' (.inr ⟨rfl, rfl⟩) hv hs hr hx) 3000 (.code rest) [] _ hK ρ1 _ w1 hs2 (.refl _ _ _)
def inlD (P : Program) (inl : List FuncId) (pc next : PCall) : PCall := fun f args hp nx K =>
 bif inl.contains f && enters P f then runD P pc f hp nx args fun st => match ares P st.hp st.tm (fnAt P f) with | some v => K (.ret v) st.hp st.nx | none => False
 else next f args hp nx K
theorem inlD_ok {P : Program} (hm : P.follows .mixedOrders = true) {inl : List FuncId} {pc next : PCall} (hc : PCallOk P pc) (hn : PCallOk P next) : PCallOk P (inlD P inl pc next) := by
 intro f args hp nx K h W ρ w args' hrel hargs
 unfold inlD at h
 cases hi : inl.contains f && enters P f with
 | false => rw [hi] at h; exact hn f args hp nx K h W ρ w args' hrel hargs
 | true =>
  rw [hi, cond_true] at h
  rw [Bool.and_eq_true] at hi
  refine runD_sound hc hm hi.2 h hrel hargs fun st ρ' D a w' hfin h1 h2 h3 => ?_
  split at hfin
  case h_2 => exact hfin.elim
  rename_i v hv
  obtain ⟨v', r1, r2⟩ := ares_sound h1 h2 hv
  exact ⟨v', r1, .ret v, st.hp, st.nx, ρ', hfin, ⟨v', rfl, r2⟩, h1.unbare, h3⟩
end Go.Proofs.YtegjnjmimfgijaaGreatDoor
noncomputable section
namespace Go.Proofs.YtegjnjmimfgijaaGreatDoor
open Go Go.RowKit
variable {γ : Type}
abbrev GCall (γ : Type) := FuncId → List Value → Tr AObj → Nat → γ → (Out → Tr AObj → Nat → γ → Prop) → Prop
def GCallOk (P : Program) (I : Base → γ → Prop) (kb : Nat) (kx : Nat × Nat × Nat) (gc : GCall γ) : Prop :=
 ∀ f args hp nx g K, gc f args hp nx g K → ∀ (W : Base) ρ w args', I W g → ρ.pl kb = some kx → Rel ρ W hp nx w → VRL ρ args args' →
  Calls P f args'.toArray w fun e w' => ∃ r hp' nx' g' ρ' W', K r hp' nx' g' ∧ r.Ends ρ' e ∧ (I W' g' ∧ W'.ds = W.ds) ∧ Rel ρ' W' hp' nx' w' ∧ Step ρ ρ' hp hp' nx nx'
def ofP (pc : PCall) : GCall γ := fun f args hp nx g K => pc f args hp nx fun r hp' nx' => K r hp' nx' g
theorem ofP_ok {P : Program} {I : Base → γ → Prop} {kb : Nat} {kx : Nat × Nat × Nat} {pc : PCall} (h : PCallOk P pc) : GCallOk P I kb kx (ofP pc) := fun f args hp nx g K hs W ρ w args' hI _ hr ha =>
 (h f args hp nx _ hs W ρ w args' hr ha).mono fun _ _ ⟨r, hp', nx', ρ', k, e, g2, g3⟩ => ⟨r, hp', nx', g, ρ', W, k, e, ⟨hI, rfl⟩, g2, g3⟩
def gheavy (P : Program) (pc : GCall γ) (hp : Tr AObj) (nx : Nat) (g : γ) (o : Oper) (ev : Operand → Option Value) (K : Out → Tr AObj → Nat → γ → Prop) : Prop :=
 match o.op with
 | .panic x => match ev x with
  | some (.iface t v) => K (.pan (.iface t v)) hp nx g
  | _ => False
 | .call c => match c.callee with
  | .value f => match ev f, evL ev c.args.toList with
   | some (.func (.func k) first captured), some args => bif enters P k then pc k (first.toList ++ args ++ captured.toList) hp nx g K else False
   | _, _ => False
  | .invoke x name => match ev x, evL ev c.args.toList with
   | some (.iface t v), some args => match aMethod P t name with
    | some k => bif enters P k then pc k (v :: args) hp nx g K else False
    | none => False
   | _, _ => False
  | .builtin .panic => match c.args.toList with
   | [x] => match ev x with
    | some (.iface t v) => K (.pan (.iface t v)) hp nx g
    | _ => False
   | _ => False
  | _ => vheavy P (toV noP) hp nx o ev fun v _ hp' nx' => K (.ret v) hp' nx' g
 | _ => vheavy P (toV noP) hp nx o ev fun v _ hp' nx' => K (.ret v) hp' nx' g
theorem gheavy_sound {P : Program} {I : Base → γ → Prop} {kb : Nat} {kx : Nat × Nat × Nat} {pc : GCall γ} {ρ : Place} {W : Base} (hcall : GCallOk P I kb kx pc) {g : γ} (hI : I W g) (hkx : ρ.pl kb = some kx) {hp : Tr AObj} {nx : Nat} {w : World} (h : Rel ρ W hp nx w) {ev : Operand → Option Value} {a : Act} (hF : ERel ρ ev a) {o : Oper} {K : Out → Tr AObj → Nat → γ → Prop}
  (hs : gheavy P pc hp nx g o ev K) {next : Act → World → Prop} {Q : Exit → Act → World → Prop}
  (hk : ∀ v hp' nx' g' v' w' ρ' W', K (.ret v) hp' nx' g' → I W' g' ∧ W'.ds = W.ds → VR ρ' v v' → Rel ρ' W' hp' nx' w' → Step ρ ρ' hp hp' nx nx' → next (a.put o.dst v') w')
  (hq : ∀ v hp' nx' g' v' w' ρ' W', K (.pan v) hp' nx' g' → I W' g' ∧ W'.ds = W.ds → VR ρ' v v' → Rel ρ' W' hp' nx' w' → Step ρ ρ' hp hp' nx nx' → Q (.panic [{ v := v', recovered := false }]) a w') : o.wp P a w next Q := by
 have base : (vheavy P (toV noP) hp nx o ev fun v _ hp' nx' => K (.ret v) hp' nx' g) → o.wp P a w next Q := fun hb =>
  vheavy_sound (toV_ok noP_ok) h hF hb fun v _ hp' nx' v' w' ρ' k _ g1 g2 g3 => hk v hp' nx' g v' w' ρ' W k ⟨hI, rfl⟩ g1 g2 g3
 have ends : ∀ (k : FuncId) (args args' : List Value), pc k args hp nx g K → VRL ρ args args' → (execOp a.eval o).run P w = .ok (.enter k args'.toArray) w → o.wp P a w next Q := by
  intro k args args' hc hA hrun
  unfold Oper.wp
  rw [hrun]
  refine (hcall k args hp nx g K hc W ρ w _ hI hkx h hA).mono ?_
  rintro e w' ⟨r, hp', nx', g', ρ', W', hK, he, hI', g2, g3⟩
  cases r with
  | ret v => obtain ⟨v', rfl, g1⟩ := he; exact hk v hp' nx' g' v' w' ρ' W' hK hI' g1 g2 g3
  | pan v => obtain ⟨v', rfl, g1⟩ := he; exact hq v hp' nx' g' v' w' ρ' W' hK hI' g1 g2 g3
 have pans : ∀ (t : TypeId) (u : Value) (X : Value), VR ρ (.iface t u) X → K (.pan (.iface t u)) hp nx g → (execOp a.eval o).run P w = ((Instr.panic X) >>= fun r => pure (Next.value r)).run P w → o.wp P a w next Q := by
  intro t u X hX hK hrun
  unfold Oper.wp
  rw [hrun]
  cases hX with
  | iface _ hu => exact hq _ _ _ _ _ _ ρ W hK ⟨hI, rfl⟩ (.iface t hu) h (.refl _ _ _)
 obtain ⟨dst, op, type, pos, after, guard⟩ := o
 unfold gheavy at hs
 cases op <;> dsimp only at hs <;> try exact base hs
 case panic x =>
  split at hs
  case h_2 => exact hs.elim
  rename_i t u hx
  exact pans t u _ (hF.eval hx) hs rfl
 case call c =>
  obtain ⟨callee, args, argTypes⟩ := c
  dsimp only at hs
  split at hs
  ·rename_i f
   split at hs
   case h_2 => exact hs.elim
   rename_i k first captured as0 hf has
   cases he : enters P k with
   | false => rw [he] at hs; exact hs.elim
   | true =>
    rw [he, cond_true] at hs
    have hfv := hF.eval hf
    generalize hE : a.eval f = E at hfv
    cases hfv
    rename_i first' captured' s1 v1 s2 v2
    have hA := evL_sound hF has
    have hL := ((VRA.list ⟨s1, v1⟩).append hA).append (VRA.list ⟨s2, v2⟩)
    refine ends k _ _ hs hL ?_
    have e2 : (first'.toList ++ args.toList.map a.eval ++ captured'.toList).toArray = first' ++ args.map a.eval ++ captured' := by apply Array.ext'; simp
    rw [e2]
    unfold execOp
    simp only [resolve, hE]
    show (callFunc k (first' ++ args.map a.eval ++ captured')).run P w = _
    exact pureRun_run (enters_run he _) w
  ·rename_i x name
   split at hs
   case h_2 => exact hs.elim
   rename_i t v as0 hx has
   split at hs
   case h_2 => exact hs.elim
   rename_i k hm
   cases he : enters P k with
   | false => rw [he] at hs; exact hs.elim
   | true =>
    rw [he, cond_true] at hs
    have hxv := hF.eval hx
    have hA := evL_sound hF has
    generalize hE : a.eval x = E at hxv
    cases hxv with
    | @iface _ _ v' hv =>
     refine ends k (v :: as0) (v' :: args.toList.map a.eval) hs (.cons hv hA) ?_
     have hpos : ∃ j, P.types.size + Made.depth = j + 1 := ⟨P.types.size + Made.depth - 1, by (have : 0 < Made.depth := by decide); omega⟩
     obtain ⟨j, hj⟩ := hpos
     have e2 : (v' :: args.toList.map a.eval).toArray = #[v'] ++ args.map a.eval := by apply Array.ext'; simp
     have e3 : (#[Value.iface t v'] ++ args.map a.eval).extract 1 (#[Value.iface t v'] ++ args.map a.eval).size = args.map a.eval := by
      apply Array.ext'
      simp
      exact List.take_of_length_le (by simp)
     have e0 : (#[Value.iface t v'] ++ args.map a.eval)[0]? = some (.iface t v') := by rw [Array.getElem?_append_left (Nat.zero_lt_one)]; rfl
     rw [e2]
     unfold execOp
     simp only [resolve, hE]
     show (invoke (.fn (.method name) #[]) (#[Value.iface t v'] ++ args.map a.eval)).run P w = _
     unfold invoke
     dsimp only
     rw [e0]
     dsimp only
     rw [e3]
     unfold callMethod
     dsimp only
     have hprog : pureRun P program = some P := rfl
     rw [bind_run hprog]
     rw [hj]
     rw [bind_run (aMethod_run hm v' j)]
     exact pureRun_run (enters_run he _) w
  ·split at hs
   case h_2 => exact hs.elim
   rename_i x hargs
   split at hs
   case h_2 => exact hs.elim
   rename_i t u hx
   refine pans t u _ (hF.eval hx) hs ?_
   have : args = #[x] := by apply Array.ext'; simpa using hargs
   subst this
   have e1 : (#[x].map a.eval) = #[a.eval x] := by simp
   unfold execOp
   simp only [resolve, e1]
   rfl
  ·exact base hs
def gseq (P : Program) (pc : GCall γ) (ops : Array Oper) (n : Nat) : List Oper → AS → γ → (AS → γ → Prop) → (Value → AS → γ → Prop) → Prop
 | [], st, g, K, _ => K st g
 | o :: l, st, g, K, X => vguard ops st.tm o
   (bif isHeavy o.op || isPan o.op then gheavy P pc st.hp st.nx g o (aev st.tm) fun r hp' nx' g' => match r with
     | .ret v => vsplit v fun v => match aput n st.tm o.dst v with
      | some tm' => gseq P pc ops n l ⟨tm', hp', nx'⟩ g' K X
      | none => False
     | .pan v => X v ⟨st.tm, hp', nx'⟩ g'
    else match slight P st.hp o (aev st.tm) with
     | some (.val v, ob) => ob ∧ vsplit v fun v => match aput n st.tm o.dst v with
      | some tm' => gseq P pc ops n l ⟨tm', st.hp, st.nx⟩ g K X
      | none => False
     | some (.new b nv, ob) => match aput n st.tm o.dst (nv.val st.nx) with
      | some tm' => ob ∧ gseq P pc ops n l ⟨tm', st.hp.put st.nx (some b), st.nx + 1⟩ g K X
      | none => False
     | none => False)
   (match aput n st.tm o.dst undef with
    | some tm' => gseq P pc ops n l ⟨tm', st.hp, st.nx⟩ g K X
    | none => False)
theorem gseq_sound {P : Program} {I : Base → γ → Prop} {kb : Nat} {kx : Nat × Nat × Nat} {pc : GCall γ} (hcall : GCallOk P I kb kx pc) {ops : Array Oper} {n : Nat} {Q : Exit → Act → World → Prop} : ∀ (l : List Oper) (k : Nat) (st : AS) (g : γ) (K : AS → γ → Prop) (X : Value → AS → γ → Prop) (W : Base) (ρ : Place) (a : Act) (w : World), ops.toList.drop k = l → I W g → ρ.pl kb = some kx →
  SRel ρ W n st a w → gseq P pc ops n l st g K X → (∀ st' g', K st' g' → ∀ a' w' ρ' W', I W' g' ∧ W'.ds = W.ds → SRel ρ' W' n st' a' w' → Step ρ ρ' st.hp st'.hp st.nx st'.nx → Q .normal a' w') →
  (∀ v st' g', X v st' g' → ∀ v' a' w' ρ' W', I W' g' ∧ W'.ds = W.ds → VR ρ' v v' → SRel ρ' W' n st' a' w' → Step ρ ρ' st.hp st'.hp st.nx st'.nx → Q (.panic [{ v := v', recovered := false }]) a' w') → wpOps P ops Q (List.range' k l.length) a w
 | [], k, st, g, K, X, W, ρ, a, w, _, hI, _, h, hs, hk, _ => by
  simp only [gseq] at hs
  exact hk st g hs a w ρ W ⟨hI, rfl⟩ h (.refl _ _ _)
 | o :: l, k, st, g, K, X, W, ρ, a, w, hd, hI, hkx, h, hs, hk, hx => by
  simp only [gseq] at hs
  have hi : ops[k]? = some o := by
   have : (ops.toList.drop k)[0]? = some o := by rw [hd]; rfl
   rw [List.getElem?_drop] at this
   simpa using this
  have next : ∀ (st1 : AS) (g1 : γ) (a1 : Act) (w1 : World) (ρ1 : Place) (W1 : Base), I W1 g1 ∧ W1.ds = W.ds → SRel ρ1 W1 n st1 a1 w1 → Step ρ ρ1 st.hp st1.hp st.nx st1.nx → gseq P pc ops n l st1 g1 K X → wpOps P ops Q (List.range' (k + 1) l.length) a1 w1 :=
   fun st1 g1 a1 w1 ρ1 W1 hI1 hr hst hv => gseq_sound hcall l (k + 1) st1 g1 K X W1 ρ1 a1 w1 (by rw [← List.drop_drop, hd]; rfl) hI1.1 (hst.le.1 kb kx hkx) hr hv (fun st' g' hK a' w' ρ' W' i1 g1 g2 => hk st' g' hK a' w' ρ' W' ⟨i1.1, i1.2.trans hI1.2⟩ g1 (hst.trans g2)) (fun v st' g' hX v' a' w' ρ' W' i1 g0 g1 g2 => hx v st' g' hX v' a' w' ρ' W' ⟨i1.1, i1.2.trans hI1.2⟩ g0 g1 (hst.trans g2))
  rw [List.length_cons, List.range'_succ, wpOps_cons]
  unfold wpOp
  simp only [hi]
  rcases vguard_cases hs with ⟨hw, hs⟩ | ⟨hw, hs⟩
  ·rw [awanted_sound h.frame hw, if_pos rfl]
   refine .inl ?_
   cases hh : isHeavy o.op || isPan o.op with
   | true =>
    rw [hh, cond_true] at hs
    refine gheavy_sound hcall hI hkx h.rel h.frame.ev hs (fun v hp' nx' g' v' w' ρ' W' hK i1 q1 q2 q3 => ?_) (fun v hp' nx' g' v' w' ρ' W' hK i1 q1 q2 q3 => ?_)
    ·dsimp only at hK
     replace hK := vsplit_ap hK
     split at hK
     case h_2 => exact hK.elim
     rename_i tm' ht
     exact next ⟨tm', hp', nx'⟩ g' _ _ ρ' W' i1 ⟨q2, by rw [i1.2]; exact aput_sound (h.frame.mono q3.le) ht q1⟩ q3 hK
    ·exact hx v _ g' hK v' a w' ρ' W' i1 q1 ⟨q2, by rw [i1.2]; exact h.frame.mono q3.le⟩ q3
   | false =>
    rw [hh, cond_false] at hs
    split at hs
    ·rename_i v ob hv
     obtain ⟨hob, hs⟩ := hs
     replace hs := vsplit_ap hs
     split at hs
     case h_2 => exact hs.elim
     rename_i tm' ht
     obtain ⟨v', h1, h2⟩ := slight_sound (r := .val v) h.rel h.frame.ev hv hob
     unfold Oper.wp
     rw [h1]
     exact next ⟨tm', st.hp, st.nx⟩ g _ _ ρ W ⟨hI, rfl⟩ ⟨h.rel, aput_sound h.frame ht h2⟩ (.refl _ _ _) hs
    ·rename_i ob nv obp hv
     split at hs
     case h_2 => exact hs.elim
     rename_i tm' ht
     obtain ⟨v', ob', d, z, h1, h2, h3⟩ := slight_sound (r := .new ob nv) h.rel h.frame.ev hv hs.1
     unfold Oper.wp
     rw [h1]
     have hrel := ((h.rel.at_drawn d).reserve ob).realize (b := st.nx) (z := z) (ob := ob') (by omega) h.rel.dom_none (by rw [Tr.get_put, if_pos rfl]) (h2 _ h.rel.below.fresh)
     have hle := Place.le_set (x := (w.heap.size, 0, z)) h.rel.dom_none
     exact next ⟨tm', st.hp.put st.nx (some ob), st.nx + 1⟩ g _ _ _ W ⟨hI, rfl⟩ ⟨hrel, aput_sound (h.frame.mono hle) ht (h3 _ _ (Place.set_same ρ st.nx _))⟩ ⟨hle, Nat.le_succ _, fun b hb hr => ⟨by rw [Place.set_other (by omega)]; exact hr, by show (st.hp.put st.nx (some ob)).get b = _; rw [Tr.get_put, if_neg (by omega)]⟩⟩ hs.2
    ·exact hs.elim
  ·rw [awanted_sound h.frame hw, if_neg (by simp)]
   split at hs
   case h_2 => exact hs.elim
   rename_i tm' ht
   exact next ⟨tm', st.hp, st.nx⟩ g _ _ ρ W ⟨hI, rfl⟩ ⟨h.rel, aput_sound h.frame ht (closed_refl (by simp [undef, closed]))⟩ (.refl _ _ _) hs
theorem gheavy_congr {P : Program} {pc : GCall γ} {hp : Tr AObj} {nx : Nat} {g : γ} {o : Oper} {ev ev' : Operand → Option Value} {K : Out → Tr AObj → Nat → γ → Prop} (h : ∀ x ∈ o.op.operands, ev x = ev' x) : gheavy P pc hp nx g o ev K = gheavy P pc hp nx g o ev' K := by
 have hb : (vheavy P (toV noP) hp nx o ev fun v _ hp' nx' => K (.ret v) hp' nx' g) = (vheavy P (toV noP) hp nx o ev' fun v _ hp' nx' => K (.ret v) hp' nx' g) := vheavy_congr h
 obtain ⟨dst, op, type, pos, after, guard⟩ := o
 unfold gheavy
 cases op <;> dsimp only <;> try exact hb
 case panic x => rw [h x (by simp [Op.operands])]
 case call c =>
  obtain ⟨callee, args, argTypes⟩ := c
  dsimp only
  have hA : evL ev args.toList = evL ev' args.toList := evL_congr fun x hx => h x (by simp [Op.operands, Call.operands]; exact .inr (by simpa using hx))
  split
  ·rename_i f
   rw [hA, h f (by simp [Op.operands, Call.operands])]
  ·rename_i x name
   rw [hA, h x (by simp [Op.operands, Call.operands])]
  ·split
   ·rename_i x hargs
    rw [h x (by
     have : x ∈ args := by (have : x ∈ args.toList := by rw [hargs]; simp); simpa using this
     simp [Op.operands, Call.operands, this])]
   ·rfl
  ·exact hb
def gdraw (P : Program) (pc : GCall γ) (ops : Array Oper) (n : Nat) : Nat → Array Bool → AS → γ → List Rd → (AS → γ → Prop) → (Value → AS → γ → Prop) → Prop
 | 0, listed, st, g, _, K, _ => match Region.ready .any ops listed with
  | [] => K st g
  | _ => False
 | f + 1, listed, st, g, rds, K, X => match Region.ready .any ops listed with
  | [] => K st g
  | r :: rs => match (r :: rs).find? (lightIdx ops) with
   | some i => match ops[i]? with
    | some o => vguard ops st.tm o
      (match slight P st.hp o (aev st.tm) with
      | some (.val v, ob) => ob ∧ vsplit v fun v => match aput n st.tm o.dst v with
       | some tm' => gdraw P pc ops n f (listed.setIfInBounds i true) ⟨tm', st.hp, st.nx⟩ g (bif isRead o (aev st.tm) then ⟨i, o, st.tm, v⟩ :: rds else rds) K X
       | none => False
      | some (.new b nv, ob) => match aput n st.tm o.dst (nv.val st.nx) with
       | some tm' => bif isRead o (aev st.tm) then False else ob ∧ gdraw P pc ops n f (listed.setIfInBounds i true) ⟨tm', st.hp.put st.nx (some b), st.nx + 1⟩ g rds K X
       | none => False
      | none => False)
      (match aput n st.tm o.dst undef with
      | some tm' => gdraw P pc ops n f (listed.setIfInBounds i true) ⟨tm', st.hp, st.nx⟩ g rds K X
      | none => False)
    | none => False
   | none => match rs with
    | [] => match ops[r]? with
     | some o => vguard ops st.tm o
       (gheavy P pc st.hp st.nx g o (aev st.tm) fun res hp' nx' g' => match res with
        | .ret v => vsplit v fun v => match aput n st.tm o.dst v with
         | some tm' => vstab P hp' ops r rds ∧ gdraw P pc ops n f (listed.setIfInBounds r true) ⟨tm', hp', nx'⟩ g' rds K X
         | none => False
        | .pan v => X v ⟨.e, hp', nx'⟩ g')
       (match aput n st.tm o.dst undef with
       | some tm' => gdraw P pc ops n f (listed.setIfInBounds r true) ⟨tm', st.hp, st.nx⟩ g rds K X
       | none => False)
     | none => False
    | _ => False
section
variable {P : Program} {I : Base → γ → Prop} {kb : Nat} {kx : Nat × Nat × Nat} {W0 : Base} {ops : Array Oper} {n : Nat} {st0 : AS} {ρ0 : Place} {Q : Exit → Act → World → Prop}
theorem gdraw_main {pc : GCall γ} (hcall : GCallOk P I kb kx pc) (hkx : ρ0.pl kb = some kx) (hD : drawOk ops = true) {K : AS → γ → Prop} {X : Value → AS → γ → Prop} (hQ : ∀ st g, K st g → ∀ a' w' ρ' W, I W g ∧ W.ds = W0.ds → SRel ρ' W n st a' w' → Step ρ0 ρ' st0.hp st.hp st0.nx st.nx → Q .normal a' w')
  (hX : ∀ v st g, X v st g → ∀ v' a' w' ρ' W, I W g ∧ W.ds = W0.ds → VR ρ' v v' → SRel ρ' W n st a' w' → Step ρ0 ρ' st0.hp st.hp st0.nx st.nx → Q (.panic [{ v := v', recovered := false }]) a' w') :
  ∀ (m f : Nat) (C : Array Bool) (st : AS) (g : γ) (rds : List Rd) (J : Info) (L : Array Bool) (a : Act) (w : World) (ρ : Place) (W : Base), unl ops L ≤ m → I W g ∧ W.ds = W0.ds → Inv P W ops n st0 ρ0 C st rds J L a w ρ → gdraw P pc ops n f C st g rds K X → wpAny P .any ops Q m L a w := by
 intro m
 induction m with
 | zero =>
  intro f C st g rds J L a w ρ W hm hI h hs
  have hr : Region.ready .any ops L = [] := by
   have hnil : ((List.range ops.size).filter fun i => !L.getD i true) = [] := List.eq_nil_of_length_eq_zero (Nat.le_zero.1 hm)
   apply List.eq_nil_iff_forall_not_mem.2
   intro j hj
   obtain ⟨h1, o, h2, h3⟩ := mem_ready.1 hj
   have : j ∈ ((List.range ops.size).filter fun i => !L.getD i true) := by
    simp only [List.mem_filter, List.mem_range]
    exact ⟨(Array.getElem?_eq_some_iff.1 h2).1, by rw [h1]; rfl⟩
   rw [hnil] at this
   cases this
  have hall := h.all hD hr
  have hallI : ∀ i, i < ops.size → In L i := fun i hi => Classical.byContradiction fun hn => by
   have : i ∈ ((List.range ops.size).filter fun i => !L.getD i true) := by
    simp only [List.mem_filter, List.mem_range]
    exact ⟨hi, by rw [unlisted_of (by rw [h.ls]; exact hi) hn]; rfl⟩
   rw [List.eq_nil_of_length_eq_zero (Nat.le_zero.1 hm)] at this
   cases this
  have hrC : Region.ready .any ops C = [] := by
   apply List.eq_nil_iff_forall_not_mem.2
   intro j hj
   obtain ⟨h1, o, h2, h3⟩ := mem_ready.1 hj
   exact (unlisted h1).2 (h.sub j (hallI j (Array.getElem?_eq_some_iff.1 h2).1))
  have hst : K st g := by
   cases f with
   | zero => simp only [gdraw, hrC] at hs; exact hs
   | succ f => simp only [gdraw, hrC] at hs; exact hs
  exact ⟨hr, hQ st g hst a w ρ W hI (h.done hall) h.step⟩
 | succ m ihm =>
  intro f
  induction f with
  | zero =>
   intro C st g rds J L a w ρ W hm hI h hs
   have hs0 := hs
   simp only [gdraw] at hs
   split at hs
   case h_2 => exact hs.elim
   rename_i hrC
   refine ⟨fun hr => hQ st g hs a w ρ W hI (h.done (h.all hD hr)) h.step, fun j hj => ?_⟩
   obtain ⟨h1, h2, h3, o, h4, h5⟩ := ready_in h.cs h.sub hj
   rw [hrC] at h1
   have hjC := h1.resolve_right (by simp)
   refine wpOp_mono ?_ (h.run hD h4 hjC h2 h5)
   rintro a' w' ⟨ρ', h'⟩
   refine ihm 0 C _ g rds J _ a' w' ρ' W ?_ hI h' hs0
   have := unl_set (ops := ops) (L := L) h3 h.ls (mem_ready.1 hj).1
   omega
  | succ f ihf =>
   intro C st g rds J L a w ρ W hm hI h hs
   have pending : ∀ j, j ∈ Region.ready .any ops L → In C j → ∀ o, ops[j]? = some o → (∀ e ∈ o.after, Region.binds .any e = true → In L e.on) → wpOp P ops Q j (wpAny P .any ops Q m (L.setIfInBounds j true)) a w := by
    intro j hj hjC o ho hall
    refine wpOp_mono ?_ (h.run hD ho hjC (unlisted (mem_ready.1 hj).1).2 hall)
    rintro a' w' ⟨ρ', h'⟩
    refine ihm (f + 1) C st g rds J _ a' w' ρ' W ?_ hI h' hs
    have := unl_set (ops := ops) (L := L) (Array.getElem?_eq_some_iff.1 ho).1 h.ls (mem_ready.1 hj).1
    omega
   have hs0 := hs
   simp only [gdraw] at hs
   split at hs
   ·rename_i hrC
    refine ⟨fun hr => hQ st g hs a w ρ W hI (h.done (h.all hD hr)) h.step, fun j hj => ?_⟩
    obtain ⟨h1, h2, h3, o, h4, h5⟩ := ready_in h.cs h.sub hj
    rw [hrC] at h1
    exact pending j hj (h1.resolve_right (by simp)) o h4 h5
   ·rename_i r rs hrC
    split at hs
    ·rename_i i hf
     have him : i ∈ Region.ready .any ops C := by rw [hrC]; exact List.mem_of_find?_eq_some hf
     have hil := List.find?_some hf
     obtain ⟨g1, o, g2, g3⟩ := mem_ready.1 him
     have hnC := (unlisted g1).2
     have hh : isHeavy o.op = false := by
      unfold lightIdx at hil
      rw [g2] at hil
      simpa using hil
     rw [g2] at hs
     dsimp only at hs
     rcases vguard_cases hs with ⟨hw, hs⟩ | ⟨hw, hs⟩
     ·split at hs
      ·rename_i v ob hv
       obtain ⟨hob, hs⟩ := hs
       replace hs := vsplit_ap hs
       split at hs
       case h_2 => exact hs.elim
       rename_i tm' ht
       refine ihf _ ⟨tm', st.hp, st.nx⟩ g _ (J.set i st.tm v none) L a w ρ W hm hI (h.absorb hD g2 hnC g3 hh (st' := ⟨tm', st.hp, st.nx⟩) (v := v) (B := none) ht h.rel (fun _ _ h => h) (Nat.le_refl _) h.step (fun b hb => by cases hb) (fun J' e1 e2 e3 => .inr (.inl ⟨by rw [e1]; exact hw, .inr ⟨ob, by rw [e1, e2]; exact hv, hob⟩, e3⟩)) ?_ ?_) hs
       ·intro x hx
        cases isRead o (aev st.tm) <;> simp [hx]
       ·intro _ hrd
        rw [hrd]
        simp
      ·rename_i ob nv obp hv
       split at hs
       case h_2 => exact hs.elim
       rename_i tm' ht
       cases hrd : isRead o (aev st.tm) with
       | true => rw [hrd] at hs; exact hs.elim
       | false =>
        rw [hrd, cond_false] at hs
        obtain ⟨hob, hs⟩ := hs
        refine ihf _ ⟨tm', st.hp.put st.nx (some ob), st.nx + 1⟩ g _ (J.set i st.tm (nv.val st.nx) (some st.nx)) L a w ρ W hm hI (h.absorb hD g2 hnC g3 hh (st' := ⟨tm', st.hp.put st.nx (some ob), st.nx + 1⟩) (v := nv.val st.nx) (B := some st.nx) ht (h.rel.reserve ob) ?_ (Nat.le_succ _) ?_ (fun b hb => by cases hb; exact Nat.le_refl _) (fun J' e1 e2 e3 => ?_) (fun _ h => h) (fun _ h' => by rw [hrd] at h'; cases h')) hs
        ·intro b x hb
         have : b ≠ st.nx := fun e => by rw [e, h.rel.fresh _ (Nat.le_refl _)] at hb; cases hb
         rw [Tr.get_put, if_neg this]
         exact hb
        ·exact ⟨h.step.le, Nat.le_succ_of_le h.step.more, fun b hb hr => by
          have := h.step.old b hb hr
          refine ⟨this.1, ?_⟩
          rw [Tr.get_put, if_neg (by have := h.step.more; omega)]
          exact this.2⟩
        ·refine .inr (.inr ⟨by rw [e1]; exact hw, by rw [e1]; exact hrd, ob, nv, st.nx, ?_, e2, e3, by simp, h.step.more, h.rel.dom_none, by rw [Tr.get_put, if_pos rfl]⟩)
         rw [e1]
         exact LOk.still (hp := st.hp) hrd (.inr ⟨obp, hv, hob⟩)
      ·exact hs.elim
     ·split at hs
      case h_2 => exact hs.elim
      rename_i tm' ht
      exact ihf _ ⟨tm', st.hp, st.nx⟩ g _ (J.set i st.tm undef none) L a w ρ W hm hI (h.absorb hD g2 hnC g3 hh (st' := ⟨tm', st.hp, st.nx⟩) (v := undef) (B := none) ht h.rel (fun _ _ h => h) (Nat.le_refl _) h.step (fun b hb => by cases hb) (fun J' e1 e2 e3 => .inl ⟨by rw [e1]; exact hw, e2, e3⟩) (fun _ h => h) (fun h' => by rw [hw] at h'; cases h')) hs
    ·split at hs
     case h_2 => exact hs.elim
     split at hs
     case h_2 => exact hs.elim
     rename_i o ho
     have hrm : r ∈ Region.ready .any ops C := by rw [hrC]; simp
     obtain ⟨g1, o', g2, g3⟩ := mem_ready.1 hrm
     rw [ho] at g2
     cases g2
     have hnC := (unlisted g1).2
     refine ⟨fun hr => ?_, fun j hj => ?_⟩
     ·exfalso
      have hall := h.all hD hr
      have : r ∈ Region.ready .any ops L := mem_ready.2 ⟨unlisted_of (by rw [h.ls]; exact (Array.getElem?_eq_some_iff.1 ho).1) (fun h' => hnC (h.sub r h')), o, ho, fun e he hb => hall _ (g3 e he hb)⟩
      rw [hr] at this
      cases this
     ·obtain ⟨h1, h2, h3, oj, h4, h5⟩ := ready_in h.cs h.sub hj
      rcases h1 with h1 | h1
      ·exact pending j hj h1 oj h4 h5
      ·rw [hrC] at h1
       have hjr : j = r := by simpa using h1
       subst hjr
       rw [ho] at h4
       cases h4
       have hlk := h.heavyLook hD ho hnC g3 h5
       obtain ⟨ev', he1, he2⟩ := erel_of_looks hlk
       have fin : ∀ (st' : AS) (g' : γ) (a' : Act) (w' : World) (W' : Base), I W' g' ∧ W'.ds = W0.ds → (∃ ρ' I', Inv P W' ops n st0 ρ0 (C.setIfInBounds j true) st' rds I' (L.setIfInBounds j true) a' w' ρ') → gdraw P pc ops n f (C.setIfInBounds j true) st' g' rds K X → wpAny P .any ops Q m (L.setIfInBounds j true) a' w' := by
        rintro st' g' a' w' W' hI' ⟨ρ', I', h'⟩ hs'
        refine ihm f _ st' g' rds I' _ a' w' ρ' W' ?_ hI' h' hs'
        have := unl_set (ops := ops) (L := L) h3 h.ls (mem_ready.1 hj).1
        omega
       unfold wpOp
       simp only [ho]
       rcases vguard_cases hs with ⟨hw, hs⟩ | ⟨hw, hs⟩
       ·rw [awanted_sound' h.size hlk hw, if_pos rfl]
        rw [gheavy_congr he2] at hs
        refine .inl (gheavy_sound hcall hI.1 (h.step.le.1 kb kx hkx) h.rel he1 hs (fun v hp' nx' g' v' w' ρ' W' hK i1 q1 q2 q3 => ?_) (fun v hp' nx' g' v' w' ρ' W' hK i1 q1 q2 q3 => ?_))
        ·dsimp only at hK
         replace hK := vsplit_ap hK
         split at hK
         case h_2 => exact hK.elim
         rename_i tm' ht
         exact fin ⟨tm', hp', nx'⟩ g' _ _ W' ⟨i1.1, i1.2.trans hI.2⟩ (h.heavyFinW i1.2 hD ho hnC g3 h5 (st' := ⟨tm', hp', nx'⟩) (.inr (vstab_ok hK.1)) v v' w' ρ' ht q1 q2 q3) hK.2
        ·exact hX v ⟨.e, hp', nx'⟩ g' hK v' a w' ρ' W' ⟨i1.1, i1.2.trans hI.2⟩ q1 ⟨q2, ⟨h.size, h.defers.trans i1.2.symm, fun t u hu => by cases hu⟩⟩ (h.step.trans q3)
       ·rw [awanted_sound' h.size hlk hw, if_neg (by simp)]
        split at hs
        case h_2 => exact hs.elim
        rename_i tm' ht
        exact fin ⟨tm', st.hp, st.nx⟩ g _ _ W hI (h.heavyFin hD ho hnC g3 h5 (st' := ⟨tm', st.hp, st.nx⟩) (.inl rfl) undef undef w ρ ht (closed_refl (by simp [undef, closed])) h.rel (.refl _ _ _)) hs
end
def gregion (P : Program) (pc : GCall γ) (n : Nat) (ops : Array Oper) (draw : Bool) (st : AS) (g : γ) (K : AS → γ → Prop) (X : Value → AS → γ → Prop) : Prop :=
 bif draw then (bif drawOk ops then gdraw P pc ops n ops.size (Array.replicate ops.size false) st g [] K X else False) else gseq P pc ops n ops.toList st g K X
theorem gregion_sound {P : Program} {I : Base → γ → Prop} {kb : Nat} {kx : Nat × Nat × Nat} {pc : GCall γ} {W : Base} (hcall : GCallOk P I kb kx pc) (hm : P.follows .mixedOrders = true) {ops : Array Oper} {draw : Bool} {id n : Nat} {Q : Exit → Act → World → Prop} {st : AS} {g : γ} (hI : I W g) {ρ : Place} (hkx : ρ.pl kb = some kx) {K : AS → γ → Prop} {X : Value → AS → γ → Prop} {a : Act} {w : World} (h : SRel ρ W n st a w)
  (hs : gregion P pc n ops draw st g K X) (hk : ∀ st' g', K st' g' → ∀ a' w' ρ' W', I W' g' ∧ W'.ds = W.ds → SRel ρ' W' n st' a' w' → Step ρ ρ' st.hp st'.hp st.nx st'.nx → Q .normal a' w')
  (hx : ∀ v st' g', X v st' g' → ∀ v' a' w' ρ' W', I W' g' ∧ W'.ds = W.ds → VR ρ' v v' → SRel ρ' W' n st' a' w' → Step ρ ρ' st.hp st'.hp st.nx st'.nx → Q (.panic [{ v := v', recovered := false }]) a' w') : (Code.region id ops draw).wp P Q a w := by
 unfold gregion at hs
 cases draw with
 | true =>
  rw [cond_true] at hs
  cases hD : drawOk ops with
  | false => rw [hD] at hs; exact hs.elim
  | true =>
   rw [hD, cond_true] at hs
   refine wp_region_any hm ?_
   have hnot : ∀ i, ¬ In (Array.replicate ops.size false) i := fun i hi => by
    have := lt_of_in (ops := ops) (by simp) hi
    simp [In, this] at hi
   refine gdraw_main (W0 := W) hcall hkx hD hk hx ops.size ops.size _ st g [] ⟨fun _ => .e, fun _ => undef, fun _ => none⟩ _ a _ ρ W ?_ ⟨hI, rfl⟩ ⟨by simp, by simp, fun i hi => (hnot i hi).elim, fun i hi => (hnot i hi).elim, fun i hi => hi, fun j o t hj => (hnot j hj).elim, fun t _ => rfl, h.rel.drew, h.frame.size, h.frame.defers, fun j o t hj => (hnot j hj).elim, fun t v _ hv => h.frame.slot t v hv, fun j o hj => (hnot j hj).elim, fun j k b hj => (hnot j hj).elim, .refl _ _ _, fun j o hj => (hnot j hj).elim⟩ hs
   unfold unl
   exact Nat.le_trans (List.length_filter_le _ _) (by simp)
 | false =>
  rw [cond_false] at hs
  refine wp_region ?_
  rw [List.range_eq_range']
  have := gseq_sound hcall (Q := Q) ops.toList 0 st g K X W ρ a w (by simp) hI hkx h hs hk hx
  simpa using this
def grun (P : Program) (pc : GCall γ) (n : Nat) (lt : List (Nat × List Nat)) (base : List Bool) (H : Code → List Fr → AS → γ → Prop) (Fin : AS → γ → Prop) (X : Value → AS → γ → Prop) : Nat → VM → List Fr → AS → γ → Prop
 | 0, _, _, _, _ => False
 | f + 1, .normal, k, st, g => match k with
  | [] => Fin st g
  | .seq y :: k' => grun P pc n lt base H Fin X f (.code y) k' st g
  | .block _ :: k' => grun P pc n lt base H Fin X f .normal k' st g
  | .loop b :: k' => match slotsOf (rid b) lt with
   | some _ => vloop lt base (fun b k st => H b k st g) b k' st
   | none => grun P pc n lt base H Fin X f (.code b) (.loop b :: k') st g
 | f + 1, .exit id, k, st, g => match k with
  | [] => False
  | .block j :: k' => bif id.beq j then grun P pc n lt base H Fin X f .normal k' st g else grun P pc n lt base H Fin X f (.exit id) k' st g
  | _ :: k' => grun P pc n lt base H Fin X f (.exit id) k' st g
 | _ + 1, .ret, _, st, g => Fin st g
 | f + 1, .code c, k, st, g => match c with
  | .skip | .label _ => grun P pc n lt base H Fin X f .normal k st g
  | .region _ ops draw => gregion P pc n ops draw st g (fun st' g' => grun P pc n lt base H Fin X f .normal k st' g') X
  | .seq x y => grun P pc n lt base H Fin X f (.code x) (.seq y :: k) st g
  | .cond c x y => match aev st.tm c with
   | some (.bool b) => pIf b (grun P pc n lt base H Fin X f (.code x) k st g) (grun P pc n lt base H Fin X f (.code y) k st g)
   | _ => False
  | .block id b => grun P pc n lt base H Fin X f (.code b) (.block id :: k) st g
  | .loop b => match slotsOf (rid b) lt with
   | some _ => vloop lt base (fun b k st => H b k st g) b k st
   | none => grun P pc n lt base H Fin X f (.code b) (.loop b :: k) st g
  | .exit id => grun P pc n lt base H Fin X f (.exit id) k st g
  | .ret => grun P pc n lt base H Fin X f .ret k st g
  | _ => False
section
variable {P : Program} {I : Base → γ → Prop} {kb : Nat} {kx : Nat × Nat × Nat} {pc : GCall γ} {W0 : Base} {n : Nat} {lt : List (Nat × List Nat)} {base : List Bool} {H : Code → List Fr → AS → γ → Prop} {Fin : AS → γ → Prop} {X : Value → AS → γ → Prop} {R : Place → AS → Prop} {Q : Exit → Act → World → Prop}
theorem grun_sound (hcall : GCallOk P I kb kx pc) (hm : P.follows .mixedOrders = true)
  (hR : ∀ ρ st ρ' st', R ρ st → Step ρ ρ' st.hp st'.hp st.nx st'.nx → R ρ' st')
  (hH : ∀ b k st g, vloop lt base (fun b k st => H b k st g) b k st → ∀ W ρ a w, I W g ∧ W.ds = W0.ds → ρ.pl kb = some kx → SRel ρ W n st a w → R ρ st → LoopWp P b (contQ P Q k) a w)
  (hF : ∀ st g, Fin st g → ∀ W ρ a w, I W g ∧ W.ds = W0.ds → ρ.pl kb = some kx → SRel ρ W n st a w → R ρ st → Q .normal a w ∧ Q .ret a w)
  (hX : ∀ v st g, X v st g → ∀ W ρ v' a w, I W g ∧ W.ds = W0.ds → VR ρ v v' → SRel ρ W n st a w → R ρ st → Q (.panic [{ v := v', recovered := false }]) a w) :
  ∀ (f : Nat) (m : VM) (k : List Fr) (st : AS) (g : γ), grun P pc n lt base H Fin X f m k st g → ∀ W ρ a w, I W g ∧ W.ds = W0.ds → ρ.pl kb = some kx → SRel ρ W n st a w → R ρ st → (match m with
   | .code c => c.wp P (contQ P Q k) a w
   | .normal => contQ P Q k .normal a w
   | .exit id => contQ P Q k (.exit id) a w
   | .ret => contQ P Q k .ret a w) := by
 intro f
 induction f with
 | zero => intro m k st g h; simp only [grun] at h
 | succ f ih =>
  intro m k st g h W ρ a w hI hkx hs hr
  cases m with
  | normal =>
   simp only [grun] at h
   dsimp only
   cases k with
   | nil => exact (hF st g h W ρ a w hI hkx hs hr).1
   | cons x k =>
    cases x with
    | seq y => exact ih (.code y) k st g h W ρ a w hI hkx hs hr
    | block id => exact ih .normal k st g h W ρ a w hI hkx hs hr
    | loop b =>
     dsimp only at h
     split at h
     ·exact hH b k st g h W ρ a w hI hkx hs hr
     ·exact loop_round (ih (.code b) (.loop b :: k) st g h W ρ a w hI hkx hs hr)
  | exit id =>
   simp only [grun] at h
   dsimp only
   cases k with
   | nil => exact h.elim
   | cons x k =>
    cases x with
    | seq y => exact ih (.exit id) k st g h W ρ a w hI hkx hs hr
    | block j =>
     show Exit.inBlock j (contQ P Q k) (.exit id) a w
     simp only [Exit.inBlock]
     dsimp only at h
     cases hj : id.beq j with
     | true =>
      rw [hj] at h
      rw [if_pos (Nat.eq_of_beq_eq_true hj)]
      exact ih .normal k st g h W ρ a w hI hkx hs hr
     | false =>
      rw [hj] at h
      rw [if_neg (fun e => by subst e; simp at hj)]
      exact ih (.exit id) k st g h W ρ a w hI hkx hs hr
    | loop b => exact ih (.exit id) k st g h W ρ a w hI hkx hs hr
  | ret =>
   simp only [grun] at h
   exact contQ_ret (hF st g h W ρ a w hI hkx hs hr).2
  | code c =>
   simp only [grun] at h
   dsimp only
   cases c with
   | skip => exact wp_skip (ih .normal k st g h W ρ a w hI hkx hs hr)
   | label l => exact wp_label (ih .normal k st g h W ρ a w hI hkx hs hr)
   | region id ops draw => exact gregion_sound hcall hm hI.1 hkx hs h (fun st' g' hK a' w' ρ' W' i1 g1 g2 => ih .normal k st' g' hK W' ρ' a' w' ⟨i1.1, i1.2.trans hI.2⟩ (g2.le.1 kb kx hkx) g1 (hR _ _ _ _ hr g2)) (fun v st' g' hK v' a' w' ρ' W' i1 g0 g1 g2 => contQ_panic (hX v st' g' hK W' ρ' v' a' w' ⟨i1.1, i1.2.trans hI.2⟩ g0 g1 (hR _ _ _ _ hr g2)))
   | seq x y => exact wp_seq (ih (.code x) (.seq y :: k) st g h W ρ a w hI hkx hs hr)
   | cond c x y =>
    dsimp only at h
    split at h
    ·rename_i b hc
     have := hs.frame.eval hc
     cases b with
     | true =>
      refine wp_cond_true (c := c) ?_ (ih (.code x) k st g h W ρ a w hI hkx hs hr)
      generalize a.eval c = z at this
      cases this
      rfl
     | false =>
      refine wp_cond_false (c := c) ?_ (ih (.code y) k st g h W ρ a w hI hkx hs hr)
      generalize a.eval c = z at this
      cases this
      rfl
    ·exact h.elim
   | block id b => exact wp_block (ih (.code b) (.block id :: k) st g h W ρ a w hI hkx hs hr)
   | loop b =>
    dsimp only at h
    split at h
    ·exact loop_of (hH b k st g h W ρ a w hI hkx hs hr)
    ·exact loop_of (loop_round (ih (.code b) (.loop b :: k) st g h W ρ a w hI hkx hs hr))
   | exit id => exact wp_exit (ih (.exit id) k st g h W ρ a w hI hkx hs hr)
   | ret => exact wp_ret (ih .ret k st g h W ρ a w hI hkx hs hr)
   | goto l => exact h.elim
   | refuse y => exact h.elim
   | scope b => exact h.elim
   | rangeFunc f ps x y => exact h.elim
end
end Go.Proofs.YtegjnjmimfgijaaGreatDoor

noncomputable section
namespace Go.Proofs.YtegjnjmimfgijaaGreatDoor
open Go Go.RowKit
set_option maxRecDepth 100000
set_option maxHeartbeats 8000000
def IsBT (T : TypeId) : Prop := T = 79 ∨ T = 77
def Bld (c : Nat) (p : Value) (bs : List Value) (w : World) : Prop := ∃ T, IsBT T ∧ Lib.BuilderAt T 5 0 c p bs w
theorem info_byte : ∃ i0, Tryz.prog.info? 5 = some i0 ∧ i0.zero = some (.int .u8 0) ∧ i0.size = 1 ∧ i0.bytes = 1 := info_parts (by kernel_rfl)
theorem info_bld : ∃ j, Tryz.prog.info? 77 = some j ∧ j.size = 2 := by
 have h : (Tryz.prog.info? 77).map (·.size) = some 2 := by kernel_rfl
 obtain ⟨j, hj, h2⟩ := Option.map_eq_some_iff.1 h
 exact ⟨j, hj, h2⟩
theorem lies_bld {T : TypeId} (hT : IsBT T) : liesAt Tryz.prog Tryz.prog.depth T (2 / Tryz.prog.cellsOf T) 0 77 1 = true := by
 rcases hT with rfl | rfl <;> kernel_rfl
set_option maxHeartbeats 1000000 in
set_option maxRecDepth 100000 in
theorem copyCheck_used (c : Nat) (w : World) (h0 : w.cell? ⟨c, 0, none⟩ = some (.pointer (some ⟨c, 0, none⟩))) :
  Calls Tryz.prog 55 #[.pointer (some ⟨c, 0, none⟩)] w fun e w' => e = .returned (.tuple #[]) ∧ w' = w := by
 obtain ⟨j, hj, _⟩ := info_bld
 go_enter Tryz.func55, Tryz.ntmps55
 go_wp2
 rw [Lib.run_neq_ptr_same w _ Tryz.underlying74 hj]
 go_wp2
 go_end0
 exact ⟨rfl, rfl⟩
set_option maxHeartbeats 1000000 in
set_option maxRecDepth 100000 in
theorem copyCheck_fresh {T : TypeId} (hT : IsBT T) (c : Nat) (w : World) (h0 : w.cell? ⟨c, 0, none⟩ = some (.pointer none)) (hsh : w.shape? c = some (T, 2)) (hfz : w.frozen? ⟨c, 0, none⟩ = false) :
  Calls Tryz.prog 55 #[.pointer (some ⟨c, 0, none⟩)] w fun e w' => e = .returned (.tuple #[]) ∧ w' = w.setCell ⟨c, 0, none⟩ (.pointer (some ⟨c, 0, none⟩)) := by
 obtain ⟨j, hj, hjs⟩ := info_bld
 go_enter Tryz.func55, Tryz.ntmps55
 go_wp2
 rw [Lib.run_to_unsafe w ⟨c, 0, none⟩ Tryz.underlying74 Tryz.underlying168 hj (by rw [hjs]; decide) hsh (Nat.zero_lt_succ 1)]
 simp only [Result.andThen]
 rw [Oper.upon_value]
 go_wp2
 rw [run_callFunc_extern Tryz.func74 (by kernel_rfl) (by kernel_rfl) (by kernel_rfl) (e := Extern.AbiNoEscape.same) (by kernel_rfl)]
 rw [Lib.run_noEscape]
 simp only [Result.andThen]
 rw [Oper.upon_value]
 go_wp2
 rw [Lib.run_from_unsafe w ⟨c, 0, none⟩ Tryz.underlying168 Tryz.underlying74 hj hsh (lies_bld hT)]
 simp only [Result.andThen]
 rw [Oper.upon_value]
 go_wp2
 go_end0
 exact ⟨rfl, rfl⟩
def bufOf (c : Nat) (w : World) : Option Nat := match w.heap[c]? with
 | some (.cells cs _ _) => match cs[1]? with
  | some v => v.ownBlock
  | none => none
 | _ => none
theorem copyCheck_any (c : Nat) (bs : List Value) (w : World) (h : Bld c (.pointer none) bs w ∨ Bld c (.pointer (some ⟨c, 0, none⟩)) bs w) :
  Calls Tryz.prog 55 #[.pointer (some ⟨c, 0, none⟩)] w fun e w' => e = .returned (.tuple #[]) ∧ Bld c (.pointer (some ⟨c, 0, none⟩)) bs w' ∧ w.grownBy w' (some c) ∧ bufOf c w' = bufOf c w := by
 rcases h with ⟨T, hT, h⟩ | ⟨T, hT, h⟩
 ·refine (copyCheck_fresh hT c w h.cell0 h.shape h.frozen0).mono ?_
  rintro e w' ⟨rfl, rfl⟩
  refine ⟨rfl, ⟨T, hT, h.used _⟩, ⟨rfl, rfl, rfl, by simp [World.setCell], fun k _ hk => Below.heap_setCell _ _ _ _ (fun e => hk (by simp [e]))⟩, ?_⟩
  obtain ⟨_, v, hb, _⟩ := h
  simp [bufOf, World.setCell, Array.getElem?_modify, hb]
 ·refine (copyCheck_used c w h.cell0).mono ?_
  rintro e w' ⟨rfl, rfl⟩
  exact ⟨rfl, ⟨T, hT, h⟩, ⟨rfl, rfl, rfl, Nat.le_refl _, fun _ _ _ => rfl⟩, rfl⟩
theorem append_row {P : Program} (w : World) (t u ty e : TypeId) (i : TypeInfo) (ht : P.underlying t = some (.slice e)) (hu : P.underlying u = some .string) (hi : P.info? e = some i) (hz : i.zero = some (.int .u8 0)) (hsize : i.size = 1) (hby : i.bytes = 1)
  (v : Value) (n : Nat) (xs : List Value) (hown : w.ownsRow 0 e 1 v n xs) (s : ByteArray) (hlen : n + s.size ≤ 140737488355328) :
  ∃ v' w', (Builtin.append_ #[t, u] ty #[v, .string s]).run P w = .ok v' w' ∧ w'.ownsRow 0 e 1 v' (n + s.size) (xs ++ Lib.strCells s) ∧ w.grownBy w' v.ownBlock ∧ (∀ g, v'.ownBlock = some g → v.ownBlock = some g ∨ w.heap.size ≤ g) := by
 have h63 : n + s.size ≤ maxLen := by unfold maxLen; omega
 have hxl : xs.length = n := by simpa using hown.1
 rcases hown.2 with ⟨rfl, rfl⟩ | ⟨g, cap, cur, rfl, hbg, hg, hnc, hcm, hcs, htake⟩
 ·have hx : xs = [] := List.eq_nil_of_length_eq_zero hxl
  subst hx
  obtain ⟨v', w', h1, h2, h3, _⟩ := Lib.run_append_own_string (P := P) w w.heap.size t u ty e i ht hu hi hz hsize hby _ _ _ (World.ownsRow_nil w w.heap.size e 1) s h63 hlen (Nat.le_refl _)
  refine ⟨v', w', h1, ⟨h2.1, ?_⟩, h3, fun g hg => ?_⟩
  ·rcases h2.2 with h | ⟨g, cap, cur, a1, a2, a3⟩
   ·exact .inl h
   ·exact .inr ⟨g, cap, cur, a1, Nat.zero_le _, a3⟩
  ·rcases h2.2 with ⟨rfl, _⟩ | ⟨g', cap, cur, rfl, a2, _⟩
   ·cases hg
   ·cases hg; exact .inr a2
 ·obtain ⟨v', w', h1, h2, h3, _⟩ := Lib.run_append_own_string (P := P) w 0 t u ty e i ht hu hi hz hsize hby _ _ _ hown s h63 hlen (Nat.zero_le _)
  refine ⟨v', w', h1, h2, h3, fun g' hg' => ?_⟩
  have hcs' : cur.size = cap := by simpa using hcs
  by_cases hroom : n + s.size ≤ cap
  ·have hr := Lib.run_append_room_string (P := P) w t u ty e i ht hu hi hsize g n cap cur hg s hroom (by omega)
   rw [hr] at h1
   cases h1
   cases hg'
   exact .inl rfl
  ·have holds : ∀ j u, xs[j]? = some u → w.cell? ((⟨g, 0, none⟩ : Addr).add j) = some u := hown.cells (g := g) rfl
   have hr := Lib.run_append_grow_string (P := P) w t u ty e i (.int .u8 0) ht hu hi hz ⟨g, 0, none⟩ n cap xs (by rw [hsize]; simpa using hxl) holds s (by omega) (by unfold maxLen at h63; omega) (by rw [hby]; exact growslice_fits (by omega) (by omega))
   rw [hr] at h1
   cases h1
   cases hg'
   exact .inr (Nat.le_refl _)
theorem wpList_append_row {P : Program} {ops : Array Oper} {rest : List Oper} {o : Oper} {a : Act} {w : World} {Q : Exit → Act → World → Prop} (hgd : o.guard = none) (sl x : Operand) (t u : TypeId)
  (ho : o.op = .call { callee := .builtin .append, args := #[sl, x], argTypes := #[t, u] }) (e : TypeId) (i : TypeInfo) (ht : P.underlying t = some (.slice e)) (hu : P.underlying u = some .string) (hi : P.info? e = some i) (hz : i.zero = some (.int .u8 0)) (hsize : i.size = 1) (hby : i.bytes = 1)
  (v : Value) (n : Nat) (xs : List Value) (hs : a.eval sl = v) (hown : w.ownsRow 0 e 1 v n xs) (s : ByteArray) (hx : a.eval x = .string s) (hlen : n + s.size ≤ 140737488355328)
  (h : ∀ v' w', w'.ownsRow 0 e 1 v' (n + s.size) (xs ++ Lib.strCells s) → w.grownBy w' v.ownBlock → (∀ g, v'.ownBlock = some g → v.ownBlock = some g ∨ w.heap.size ≤ g) → wpList P ops Q rest (a.put o.dst v') w') : wpList P ops Q (o :: rest) a w := by
 refine wpList_plain hgd fun K hK => ?_
 obtain ⟨v', w', hr, h2, h3, h4⟩ := append_row (P := P) w t u o.type e i ht hu hi hz hsize hby v n xs hown s hlen
 unfold Oper.wp execOp
 simp only [ho, resolve, invoke, builtin, Sem.run_bind, Sem.run_pure, Result.andThen_ok, List.map_toArray, List.map_cons, List.map_nil, hs, hx, hr]
 exact hK _ _ (h v' w' h2 h3 h4)
set_option maxHeartbeats 2000000 in
set_option maxRecDepth 100000 in
theorem writeString (c : Nat) (bs : List Value) (s : ByteArray) (w : World) (h : Bld c (.pointer none) bs w ∨ Bld c (.pointer (some ⟨c, 0, none⟩)) bs w) (hlen : bs.length + s.size ≤ 140737488355328) :
  Calls Tryz.prog 31 #[.pointer (some ⟨c, 0, none⟩), .string s] w fun e w' => e = .returned (.tuple #[.int .i64 s.size, .nilIface]) ∧ Bld c (.pointer (some ⟨c, 0, none⟩)) (bs ++ Lib.strCells s) w' ∧
   (w'.os = w.os ∧ w'.tape = w.tape ∧ w'.output = w.output ∧ w.heap.size ≤ w'.heap.size) ∧ (∀ k, k < w.heap.size → k ≠ c → some k ≠ bufOf c w → w'.heap[k]? = w.heap[k]?) ∧ (∀ k, bufOf c w' = some k → bufOf c w = some k ∨ w.heap.size ≤ k) := by
 obtain ⟨i0, hi, hz0, hz1, hz2⟩ := info_byte
 go_enter Tryz.func31, Tryz.ntmps31
 go_wp2_with (go_at_call 55; refine (copyCheck_any c bs _ h).mono ?_)
 rintro e w1 ⟨rfl, h1, hb1, hr1⟩
 obtain ⟨T, hT, hB, v, hbk, hown, hne⟩ := h1
 have c0 : w1.cell? ⟨c, 0, none⟩ = some (.pointer (some ⟨c, 0, none⟩)) := by rw [Lib.cell_of_heap hbk]; rfl
 have c1 : w1.cell? ⟨c, 1, none⟩ = some v := by rw [Lib.cell_of_heap hbk]; rfl
 go_wp2_with (at_builtin; refine wpList_append_row rfl _ _ 75 9 rfl 5 i0 Tryz.underlying75 Tryz.underlying9 hi hz0 hz1 hz2 _ _ _ rfl hown s rfl hlen ?_)
 intro v' w2 hown' hgrow hrow
 have hlt : c < w1.heap.size := by
  rcases Nat.lt_or_ge c w1.heap.size with h' | h'
  ·exact h'
  ·simp [Array.getElem?_eq_none h'] at hbk
 have hb2 : w2.heap[c]? = some (.cells #[.pointer (some ⟨c, 0, none⟩), v] T (0, 0)) := by
  rw [hgrow.block c hlt (fun e => hne e.symm)]
  exact hbk
 have d0 : w2.cell? ⟨c, 0, none⟩ = some (.pointer (some ⟨c, 0, none⟩)) := by rw [Lib.cell_of_heap hb2]; rfl
 have d1 : w2.cell? ⟨c, 1, none⟩ = some v := by rw [Lib.cell_of_heap hb2]; rfl
 have f1 : w2.frozen? ⟨c, 1, none⟩ = false := Lib.frozen_of_heap hb2 1
 obtain ⟨ao, n', cap, rfl⟩ : ∃ ao n' cap, v' = .slice ao n' cap := by
  rcases hown'.2 with ⟨hv, _⟩ | ⟨g, cap, cur, hv, _⟩
  ·exact ⟨_, _, _, hv⟩
  ·exact ⟨_, _, _, hv⟩
 go_wp2
 go_ret2
 have hr2 : bufOf c w1 = v.ownBlock := by simp [bufOf, hbk]
 have hcell : ∀ k, k ≠ c → (w2.setCell ⟨c, 1, none⟩ (.slice ao n' cap)).heap[k]? = w2.heap[k]? := fun k hk => Below.heap_setCell _ _ _ _ hk
 refine ⟨rfl, ?_, ⟨?_, ?_, ?_, ?_⟩, ?_, ?_⟩
 ·exact ⟨T, hT, Lib.BuilderAt.put (T := T) (e := 5) hB hb2 (bs' := bs ++ Lib.strCells s) (by simpa [Lib.strCells_length] using hown') (by rcases hT with rfl | rfl <;> decide)⟩
 ·exact hgrow.os.trans hb1.os
 ·exact hgrow.tape.trans hb1.tape
 ·exact hgrow.output.trans hb1.output
 ·have := hgrow.size
  have := hb1.size
  simp [World.setCell]
  omega
 ·intro k hk hkc hkr
  rw [hcell k hkc, hgrow.block k (Nat.lt_of_lt_of_le hk hb1.size) (by rw [← hr2, hr1]; exact hkr), hb1.block k hk (by simpa using hkc)]
 ·intro k hk
  have hk' : Value.ownBlock (.slice ao n' cap) = some k := by
   rw [← hk]
   simp [bufOf, World.setCell, Array.getElem?_modify, hb2]
  rcases hrow k hk' with h' | h'
  ·exact .inl (by rw [← hr1, hr2]; exact h')
  ·exact .inr (Nat.le_trans hb1.size h')
theorem grown_freeze (w : World) (g n : Nat) : w.grownBy (w.drew.freeze ⟨g, 0, none⟩ n) (some g) := by
 unfold World.freeze
 split
 ·exact ⟨rfl, rfl, rfl, Nat.le_refl _, fun _ _ _ => rfl⟩
 ·refine ⟨rfl, rfl, rfl, by simp, fun k _ hk => ?_⟩
  simp only [Array.getElem?_modify]
  rw [if_neg (fun e => hk (by simp [e]))]
  rfl
set_option maxHeartbeats 2000000 in
set_option maxRecDepth 100000 in
/-- String, where there is a byte at least: these are frozen in their row. -/
theorem stringOf (c : Nat) (l : List UInt8) (w : World) (h : Bld c (.pointer none) (Lib.byteCells l) w ∨ Bld c (.pointer (some ⟨c, 0, none⟩)) (Lib.byteCells l) w) (h0 : l ≠ []) :
  Calls Tryz.prog 33 #[.pointer (some ⟨c, 0, none⟩)] w fun e w' => e = .returned (.string ⟨l.toArray⟩) ∧ w.grownBy w' (bufOf c w) := by
 obtain ⟨p, T, hT, hB, v, hbk, hown, hne⟩ : ∃ p, Bld c p (Lib.byteCells l) w := by
  rcases h with h | h
  ·exact ⟨_, h⟩
  ·exact ⟨_, h⟩
 have hl0 : l.length ≠ 0 := by simpa using h0
 rw [Lib.byteCells_length] at hown
 obtain ⟨g, cap, cur, rfl, hbg, hg, hnc, hcm, hcs, htake⟩ : ∃ g cap cur, v = .slice (some ⟨g, 0, none⟩) l.length cap ∧ 0 ≤ g ∧ w.heap[g]? = some (.cells cur 5 (0, 0)) ∧ l.length ≤ cap ∧ cap ≤ maxLen ∧ cur.size = cap * 1 ∧ cur.toList.take (l.length * 1) = Lib.byteCells l := by
  rcases hown.2 with ⟨_, hz⟩ | ⟨g, cap, cur, hv, r⟩
  ·exact absurd hz hl0
  ·exact ⟨g, cap, cur, hv, r⟩
 have c1 : w.drew.cell? ⟨c, 1, none⟩ = some (.slice (some ⟨g, 0, none⟩) l.length cap) := by
  have : w.drew.heap[c]? = some (.cells #[p, .slice (some ⟨g, 0, none⟩) l.length cap] T (0, 0)) := hbk
  rw [Lib.cell_of_heap this]; rfl
 have hSD : (Builtin.unsafeSliceData_ #[75] 152 #[.slice (some ⟨g, 0, none⟩) l.length cap]).run Tryz.prog w.drew = .ok (.pointer (some ⟨g, 0, none⟩)) w.drew :=
  Lib.run_unsafeSliceData_row _ _ _ _ _ _ (by omega)
 have hUS : (Builtin.unsafeString_ #[152, 3] 9 #[.pointer (some ⟨g, 0, none⟩), .int .i64 l.length]).run Tryz.prog w.drew = .ok (.string ⟨l.toArray⟩) (w.drew.freeze ⟨g, 0, none⟩ l.length) := by
  refine Lib.run_unsafeString_row w.drew 152 3 9 5 Tryz.underlying152 (by kernel_rfl) g cur.size (by have hg' : w.drew.heap[g]? = some (.cells cur 5 (0, 0)) := hg; simp [World.shape?, hg']) l h0 (by omega) (by unfold maxLen at hcm; omega) ?_
  intro j x hx
  have := hown.cells (g := g) rfl j (.int .u8 x.toNat) (by simp [Lib.byteCells, hx])
  exact this
 have hrow : bufOf c w = some g := by simp [bufOf, hbk, Value.ownBlock]
 go_enter Tryz.func33, Tryz.ntmps33
 go_wp2
 go_region
 all_goals (go_wp2; go_ret; refine ⟨rfl, ?_⟩; rw [hrow]; exact grown_freeze w g _)
end Go.Proofs.YtegjnjmimfgijaaGreatDoor
