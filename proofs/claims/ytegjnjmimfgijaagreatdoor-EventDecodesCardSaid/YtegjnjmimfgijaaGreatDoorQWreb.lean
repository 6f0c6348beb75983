/-
  Put together out of several texts, each in its own namespace's block. Conditions: as each theorem states them.
-/
import Derived.Test.YtegjnjmimfgijaaGreatDoorQVe
import Derived.Test.YtegjnjmimfgijaaGreatDoorQLe
import Derived.Laws.RangeAny
import Derived.Test.YtegjnjmimfgijaaGreatDoorQVa
import Derived.Test.YtegjnjmimfgijaaGreatDoorQPk
import Derived.Test.YtegjnjmimfgijaaGreatDoorQBlg
noncomputable section
namespace Go.Proofs.YtegjnjmimfgijaaGreatDoor
open Go Go.RowKit
set_option maxRecDepth 100000
set_option maxHeartbeats 8000000
abbrev OkYS (m : Nat) (Post : Value → List (List Value) → Prop) (st : AS) : Prop := OkI Tryz.prog 154 [ptr0, .int .i64 (.ofNat m)] 1 Post (lpC Tryz.prog 154 2) (lpK Tryz.prog 154 2) st
abbrev bStrsN (n : Nat) (l : List ByteArray) : ByteArray := l.foldl (fun s x => s ++ bText x) (bList n)
theorem yNl1 (v : Value) (hv : nl1 v = true) : NLs [v] := by
 intro u hu
 simp at hu
 exact hu ▸ hv
theorem yTxs_loop (m : Nat) (hm : m < 1048576) (Post : Value → List (List Value) → Prop) (s0 : ByteArray) (e0 n : Nat) (hn : n ≤ m) (h : ∀ l r e, GotB s0 e0 (bStrs l) r e → l.length ≤ m → (∀ x ∈ l, x.size ≤ 64) → Post (trStr l) [[.string r, .int .i64 (.ofNat e)]]) : ∀ (j i : Nat) (s : ByteArray) (e : Nat) (l : List ByteArray), i + j = n → l.length = i → s.size < 4611686018427387904 → GotB s0 e0 (bStrsN n l) s e → (∀ x ∈ l, x.size ≤ 64) →
  OkYS m Post (stV [(0, some ptr0), (4, some (accV 1 l)), (7, some (.int .i64 n)), (8, some (.int .i64 i))] ((0, some (.cells [.string s, .int .i64 (.ofNat e)] true)) :: accH 1 l) (accN 1 l)) := by
 intro j
 induction j with
 | zero =>
  intro i s e l hi hl hs hr hin
  have h := h l s e (by unfold bStrs; rw [show l.length = n by omega]; exact hr) (by omega) hin
  unfold accV accH accN
  by_cases h0 : l.length = 0
  ·rw [if_pos h0, if_pos h0, if_pos h0]
   refine ok_I (vc := callY) callY_ok mixed _ (l_yTxs0 s e m n i _ _) ?_
   simp only [true_and, and_true, pIf_iff, decide_eq_true_eq, decide_eq_false_iff_not]
   rw [List.eq_nil_of_length_eq_zero h0] at h
   exact ⟨fun h' => by omega, fun _ => h⟩
  ·rw [if_neg h0, if_neg h0, if_neg h0]
   refine ok_I (vc := callY) callY_ok mixed _ (l_yTxs1 s e m l.length n i (rowC l) _ _) ?_
   simp only [true_and, and_true, pIf_iff, decide_eq_true_eq, decide_eq_false_iff_not]
   refine ⟨fun h' => by omega, fun _ => ⟨⟨by rw [rowC_len, Nat.zero_add]; exact Nat.le_refl _, rowC_nls l⟩, ?_⟩⟩
   have := chunks_row l
   rw [List.drop_zero, show chunks 1 l.length (rowC l) = encL l from this]
   exact h
 | succ j ih =>
  intro i s e l hi hl hs hr hin
  have nx := fun a s1 e1 (r1 : GotB s e (bText a) s1 e1) (i1 : a.size ≤ 64) => ih (i + 1) s1 e1 (l ++ [a]) (by omega) (by simp [hl]) (Nat.lt_of_le_of_lt r1.le hs) (by unfold bStrsN; rw [List.foldl_append]; exact hr.trans r1) (mem_snoc hin i1)
  unfold accV accH accN at nx ⊢
  simp only [List.length_append, List.length_cons, List.length_nil, Nat.zero_add, Nat.add_eq_zero_iff, Nat.one_ne_zero, and_false, if_false, rowC_snoc] at nx
  by_cases h0 : l.length = 0
  ·rw [if_pos h0, if_pos h0, if_pos h0]
   refine ok_I (vc := callY) callY_ok mixed _ (l_yTxs0 s e m n i _ _) ?_
   simp only [true_and, and_true, pIf_iff, decide_eq_true_eq, decide_eq_false_iff_not]
   have hl0 := List.eq_nil_of_length_eq_zero h0
   subst hl0
   rw [wrapSucc (by omega)]
   refine ⟨fun _ => ⟨hs, by decide, fun a s1 e1 r1 i1 => by and_intros <;> first | omega | decide | rfl | exact yNls2 _ _ rfl rfl | exact yNl1 _ rfl | exact nx a s1 e1 r1 i1⟩, fun h' => by omega⟩
  ·rw [if_neg h0, if_neg h0, if_neg h0]
   refine ok_I (vc := callY) callY_ok mixed _ (l_yTxs1 s e m l.length n i (rowC l) _ _) ?_
   simp only [true_and, and_true, pIf_iff, decide_eq_true_eq, decide_eq_false_iff_not]
   rw [wrapSucc (by omega)]
   refine ⟨fun _ => ⟨hs, by decide, fun a s1 e1 r1 i1 => by and_intros <;> first | omega | decide | rfl | exact yNls2 _ _ rfl rfl | exact yNl1 _ rfl | exact ySnoc2 (rowC_nls l) (yNl1 _ rfl) | (rw [rowC_len, Nat.zero_add]; rfl) | exact nx a s1 e1 r1 i1⟩, fun h' => by omega⟩
theorem ok_yS : IEntOk Tryz.prog ⟨154, y_S⟩ := by
 intro args conts Post h
 unfold y_S at h
 dsimp only at h
 split at h
 case h_2 => exact h.elim
 rename_i m s e
 obtain ⟨hs, hm, h⟩ := h
 refine spec_I (vc := callY) callY_ok mixed (by kernel_rfl) (by kernel_rfl) _ (e_yTxs s e m _ _) ?_
 simp only [true_and, and_true]
 refine ⟨hs, Nat.lt_trans hm (by decide), fun n r e1 r1 h1 => ⟨yNls2 _ _ rfl rfl, ?_⟩⟩
 exact yTxs_loop m hm Post s e n h1 h n 0 r e1 [] (Nat.zero_add _) rfl (Nat.lt_of_le_of_lt r1.le hs) r1 (fun x hx => by cases hx)
theorem yVol {m : Nat} : ∀ {l : List ByteArray}, (∀ x ∈ l, x.size ≤ m) → volL l ≤ l.length * m
 | [], _ => by simp [volL]
 | a :: l, h => by
  have e : volL (a :: l) = a.size + volL l := by simp [volL]
  have h1 := h a (by simp)
  have h2 := yVol (l := l) fun x hx => h x (by simp [hx])
  rw [e, List.length_cons, Nat.succ_mul]
  omega
def edit0 : Edit := ⟨0, ⟨#[]⟩, ⟨#[]⟩, ⟨⟨#[]⟩, 0, ⟨#[]⟩⟩, part0, ⟨⟨#[]⟩, ⟨#[]⟩, ⟨#[]⟩, 0, 0, 0⟩, ⟨⟨#[]⟩, ⟨#[]⟩, [], 0, []⟩, ⟨0, ⟨#[]⟩, ⟨#[]⟩⟩⟩
theorem in_edit0 : InEdit edit0 := ⟨in64_0, in64_0, in_part0, in64_0, in64_0, in64_0, in64_0, in64_0⟩
theorem fit_edit0 : FitE edit0 := ⟨fit_part0, by decide, by decide, by decide⟩
theorem callYe_ok : VCallOk Tryz.prog callYe := inlCall_ok mixed (itabCall_ok (by
 intro e he
 rcases List.mem_cons.1 he with rfl | he
 ·exact ok_yS
 rcases List.mem_cons.1 he with rfl | he
 ·exact ok_yP
 ·exact tabY_ok e he) noCall_ok) 3
theorem fitE_mk {a : Int} {i t ni np : ByteArray} {nk : Int} {p : Part} {si sa sb : ByteArray} {sk sl sc : Int} {pi pb : ByteArray} {ps : List ByteArray} {h : Int} {pa : List ByteArray} {k : Int} {b o : ByteArray}
  (h1 : i.size ≤ 64) (h2 : t.size ≤ 64) (h3 : ni.size ≤ 64) (h4 : np.size ≤ 64) (h5 : FitP p) (h6 : si.size ≤ 64) (h7 : sa.size ≤ 64) (h8 : sb.size ≤ 64) (h9 : pi.size ≤ 64) (h10 : pb.size ≤ 64) (h11 : ps.length ≤ 256) (h12 : ∀ x ∈ ps, x.size ≤ 64) (h13 : pa.length ≤ 64) (h14 : ∀ x ∈ pa, x.size ≤ 64) (h15 : b.size ≤ 64) (h16 : o.size ≤ 64) :
  FitE ⟨a, i, t, ⟨ni, nk, np⟩, p, ⟨si, sa, sb, sk, sl, sc⟩, ⟨pi, pb, ps, h, pa⟩, ⟨k, b, o⟩⟩ := by
 refine ⟨h5, h11, h13, ?_⟩
 have g1 := yVol h12
 have g2 := yVol h14
 obtain ⟨g3, g4, g5, g6, _, _, _⟩ := h5
 unfold volE volP
 dsimp only
 omega
theorem ok_yE : IEntOk Tryz.prog ⟨150, y_E⟩ := by
 intro args conts Post h
 unfold y_E at h
 dsimp only at h
 split at h
 case h_2 => exact h.elim
 rename_i s e
 obtain ⟨hs, h⟩ := h
 refine spec_I (vc := callYe) callYe_ok mixed (by kernel_rfl) (by kernel_rfl) _ (e_yEdit s e _ _) ?_
 simp only [true_and, and_true]
 and_intros <;> try first | omega | decide | rfl
 intro v1 s1 e1 r1 i1
 have q1 := r1.le
 and_intros <;> try first | omega | decide | rfl
 intro v2 s2 e2 r2 i2
 have q2 := r2.le
 and_intros <;> try first | omega | decide | rfl
 intro v3 s3 e3 r3 i3
 have q3 := r3.le
 and_intros <;> try first | omega | decide | rfl
 intro v4 s4 e4 r4 i4
 have q4 := r4.le
 and_intros <;> try first | omega | decide | rfl
 intro v5 s5 e5 r5 i5
 have q5 := r5.le
 and_intros <;> try first | omega | decide | rfl
 intro v6 s6 e6 r6 i6
 have q6 := r6.le
 and_intros <;> try first | omega | decide | rfl
 intro v7 s7 e7 r7 i7 j7
 have q7 := r7.le
 and_intros <;> try first | omega | decide | rfl
 intro v8 s8 e8 r8 i8
 have q8 := r8.le
 and_intros <;> try first | omega | decide | rfl
 intro v9 s9 e9 r9 i9
 have q9 := r9.le
 and_intros <;> try first | omega | decide | rfl
 intro v10 s10 e10 r10 i10
 have q10 := r10.le
 and_intros <;> try first | omega | decide | rfl
 intro v11 s11 e11 r11 i11
 have q11 := r11.le
 and_intros <;> try first | omega | decide | rfl
 intro v12 s12 e12 r12 i12
 have q12 := r12.le
 and_intros <;> try first | omega | decide | rfl
 intro v13 s13 e13 r13 i13
 have q13 := r13.le
 and_intros <;> try first | omega | decide | rfl
 intro v14 s14 e14 r14 i14
 have q14 := r14.le
 and_intros <;> try first | omega | decide | rfl
 intro v15 s15 e15 r15 i15
 have q15 := r15.le
 and_intros <;> try first | omega | decide | rfl
 intro v16 s16 e16 r16 i16 j16
 have q16 := r16.le
 and_intros <;> try first | omega | decide | rfl
 intro v17 s17 e17 r17 i17
 have q17 := r17.le
 and_intros <;> try first | omega | decide | rfl
 intro v18 s18 e18 r18 i18 j18
 have q18 := r18.le
 and_intros <;> try first | omega | decide | rfl
 intro v19 s19 e19 r19 i19
 have q19 := r19.le
 and_intros <;> try first | omega | decide | rfl
 intro v20 s20 e20 r20 i20
 have q20 := r20.le
 and_intros <;> try first | omega | decide | rfl
 intro v21 s21 e21 r21 i21
 have q21 := r21.le
 have R := r1.trans (r2.trans (r3.trans (r4.trans (r5.trans (r6.trans (r7.trans (r8.trans (r9.trans (r10.trans (r11.trans (r12.trans (r13.trans (r14.trans (r15.trans (r16.trans (r17.trans (r18.trans (r19.trans (r20.trans r21)))))))))))))))))))
 have F0 : ¬ (Int.ofNat e21 = 0) → Post (editV edit0) [[.string s21, .int .i64 (.ofNat e21)]] := fun hn => h edit0 s21 e21 (R.bad fun h0 => hn (by rw [h0]; rfl)) in_edit0 fit_edit0
 have F1 := h ⟨v1, v2, v3, ⟨v4, v5, v6⟩, v7, ⟨v8, v9, v10, v11, v12, v13⟩, ⟨v14, v15, v16, v17, v18⟩, ⟨v19, v20, v21⟩⟩ s21 e21 (R.cast (by unfold bEdit bNode bSeam bPack; simp only [ba_assoc])) ⟨i1, i5, i7, i11, i12, i13, i17, i19⟩ (fitE_mk i2 i3 i4 i6 j7 i8 i9 i10 i14 i15 i16 j16 i18 j18 i20 i21)
 and_intros <;> try first | omega | decide | rfl
 refine pIfN (fun hh => ?_) (fun hh => ?_)
 ·and_intros <;> first | omega | decide | rfl | exact trivial | exact F0 hh
 ·and_intros <;> first | omega | decide | rfl | exact trivial | exact F1
theorem callYd_ok : VCallOk Tryz.prog callYd := inlCall_ok mixed (itabCall_ok (by
 intro e he
 rcases List.mem_cons.1 he with rfl | he
 ·exact ok_yE
 ·exact tabY_ok e he) noCall_ok) 3
theorem vol2_fit : ∀ {l : List Edit}, (∀ x ∈ l, InEdit x ∧ FitE x) → vol2 l ≤ l.length * 30000
 | [], _ => by simp [vol2]
 | a :: l, h => by
  have e : vol2 (a :: l) = volE a + vol2 l := by simp [vol2]
  have h1 := (h a (by simp)).2.vol
  have h2 := vol2_fit (l := l) fun x hx => h x (by simp [hx])
  rw [e, List.length_cons, Nat.succ_mul]
  omega
theorem fewO_mk {id : ByteArray} {l : List Edit} (hi : id.size ≤ 64) (hl : l.length ≤ 32) (h : ∀ x ∈ l, InEdit x ∧ FitE x) : FewO ⟨id, l⟩ := by
 refine ⟨?_, ?_, fun x hx => ?_⟩
 ·have := vol2_fit h
  show id.size + vol2 l ≤ _
  omega
 ·show l.length ≤ _
  omega
 ·obtain ⟨⟨_, _, _, _, g1, g2, g3⟩, g4, g5, _⟩ := (h x hx).2
  exact ⟨by omega, by omega, by omega, by omega, fun y hy => Nat.le_trans (g3 y hy) (by decide)⟩
theorem ordR_no {t : ByteArray} {w : Int} (hw : w ≠ 0) : OrdR t ord0 w := ⟨fun h => absurd h hw, ⟨fun x hx => by cases hx⟩, fewO_mk (by decide) (by decide) (fun x hx => by cases hx), fun _ => rfl⟩
def bOrdN (id : ByteArray) (n : Nat) (l : List Edit) : ByteArray := l.foldl (fun s x => s ++ bEdit x) (bText id ++ bList n)
theorem ba_zero {s : ByteArray} (h : s.size = 0) : s = ⟨#[]⟩ := ba_ext (List.eq_nil_of_length_eq_zero (by rw [← size_list]; exact h))
theorem yD_fin {t id s : ByteArray} {e : Nat} {l : List Edit} {Post : Value → Prop} (h : ∀ o w, OrdR t o w → Post (.tuple #[order2V o, .int .i64 w])) (hi : id.size ≤ 64) (hl : l.length ≤ 32) (hin : ∀ x ∈ l, InEdit x ∧ FitE x) (hr : GotB t 0 (bOrdN id l.length l) s e) :
  (∀ w : Int, w ≠ 0 → Post (.tuple #[order2V ord0, .int .i64 w])) ∧ (Int.ofNat e = 0 → ¬ ((s.size : Int) > 0) → Post (.tuple #[order2V ⟨id, l⟩, .int .i64 0])) := by
 refine ⟨fun w hw => h _ _ (ordR_no hw), fun h0 hs => h _ _ ⟨fun _ => ?_, ⟨fun x hx => (hin x hx).1⟩, fewO_mk hi hl hin, fun hw => absurd rfl hw⟩⟩
 have h0 : e = 0 := Int.ofNat.inj h0
 obtain ⟨_, q⟩ := hr.ok h0
 rw [ba_zero (s := s) (by omega), ba_nilr] at q
 rw [q]
 unfold bOrder bEdits bOrdN
 dsimp only
 rw [List.take_length]
abbrev OkYD (t : ByteArray) (Post : Value → Prop) (st : AS) : Prop := OkP 148 [.string t] 4 Post st
theorem yD_loop (t id : ByteArray) (n : Nat) (hn : n ≤ 32) (hi : id.size ≤ 64) (Post : Value → Prop) (h : ∀ o w, OrdR t o w → Post (.tuple #[order2V o, .int .i64 w])) : ∀ (j i : Nat) (s : ByteArray) (e : Nat) (l : List Edit), i + j = n → l.length = i → s.size < 4611686018427387904 → GotB t 0 (bOrdN id n l) s e → (∀ x ∈ l, InEdit x ∧ FitE x) →
  OkYD t Post (stV [(2, some (.pointer (some ⟨0, 0, none⟩))), (4, some (.pointer (some ⟨1, 0, none⟩))), (5, some (.pointer (some ⟨2, 0, none⟩))), (13, some (.int .i64 n)), (14, some (.int .i64 i))] ([(0, some (.cells [.string ⟨#[]⟩, .slice none 0 0] true)), (1, some (.cells [.string s, .int .i64 (.ofNat e)] true)), (2, some (.cells [.string id, accV 3 l] true))] ++ accH 3 l) (accN 3 l)) := by
 intro j
 induction j with
 | zero =>
  intro i s e l hij hl hs hr hin
  obtain ⟨F1, F2⟩ := yD_fin (l := l) (e := e) h hi (by omega) hin (by rw [show l.length = n by omega]; exact hr)
  unfold accV accH accN
  by_cases h0 : l.length = 0
  ·rw [if_pos h0, if_pos h0, if_pos h0]
   refine ok_P (vc := callYd) callYd_ok mixed _ (l_yDec0 t s id e n i _ _) ?_
   simp only [true_and, and_true]
   have hl0 := List.eq_nil_of_length_eq_zero h0
   subst hl0
   refine pIfD (fun hh => absurd hh (by omega)) (fun _ => ?_)
   refine pIfD (fun he => pIfD (fun hz => ?_) (fun hz => pIfN (fun hh => absurd he hh) (fun _ => ?_))) (fun he => pIfN (fun _ => ?_) (fun hh => absurd hh he))
   ·and_intros <;> first | omega | decide | rfl | exact trivial | exact F1 4 (by decide)
   ·and_intros <;> first | omega | decide | rfl | exact trivial | exact F2 he hz
   ·and_intros <;> first | omega | decide | rfl | exact trivial | exact F1 _ he
  ·rw [if_neg h0, if_neg h0, if_neg h0]
   refine ok_P (vc := callYd) callYd_ok mixed _ (l_yDec1 t s id e l.length n i (rowC l) _ _) ?_
   simp only [true_and, and_true]
   rw [show chunks 38 l.length (List.drop 0 (rowC l)) = encL l from chunks_row l]
   refine pIfD (fun hh => absurd hh (by omega)) (fun _ => ?_)
   refine pIfD (fun he => pIfD (fun hz => ?_) (fun hz => pIfN (fun hh => absurd he hh) (fun _ => ?_))) (fun he => pIfN (fun _ => ?_) (fun hh => absurd hh he))
   ·and_intros <;> first | omega | decide | rfl | exact trivial | exact F1 4 (by decide)
   ·and_intros <;> first | omega | decide | rfl | exact trivial | exact rowC_nls l | (rw [rowC_len, Nat.zero_add]; exact Nat.le_refl _) | exact F2 he hz
   ·and_intros <;> first | omega | decide | rfl | exact trivial | exact F1 _ he
 | succ j ih =>
  intro i s e l hij hl hs hr hin
  have nx := fun x s1 e1 (r1 : GotB s e (bEdit x) s1 e1) (i1 : InEdit x) (j1 : FitE x) => ih (i + 1) s1 e1 (l ++ [x]) (by omega) (by simp [hl]) (Nat.lt_of_le_of_lt r1.le hs) (by unfold bOrdN; rw [List.foldl_append]; exact hr.trans r1) (mem_snoc hin ⟨i1, j1⟩)
  unfold accV accH accN at nx ⊢
  simp only [List.length_append, List.length_cons, List.length_nil, Nat.zero_add, Nat.add_eq_zero_iff, Nat.one_ne_zero, and_false, if_false, rowC_snoc] at nx
  by_cases h0 : l.length = 0
  ·rw [if_pos h0, if_pos h0, if_pos h0]
   refine ok_P (vc := callYd) callYd_ok mixed _ (l_yDec0 t s id e n i _ _) ?_
   simp only [true_and, and_true]
   have hl0 := List.eq_nil_of_length_eq_zero h0
   subst hl0
   rw [wrapSucc (by omega)]
   refine pIfD (fun _ => ?_) (fun hh => absurd hh (by omega))
   and_intros <;> try first | omega | decide | rfl
   intro x s1 e1 r1 i1 j1
   have z := nx x s1 e1 r1 i1 j1
   and_intros <;> first | omega | decide | rfl | exact trivial | exact Enc.nl x | exact z
  ·rw [if_neg h0, if_neg h0, if_neg h0]
   refine ok_P (vc := callYd) callYd_ok mixed _ (l_yDec1 t s id e l.length n i (rowC l) _ _) ?_
   simp only [true_and, and_true]
   rw [wrapSucc (by omega)]
   refine pIfD (fun _ => ?_) (fun hh => absurd hh (by omega))
   and_intros <;> try first | omega | decide | rfl
   intro x s1 e1 r1 i1 j1
   have z := nx x s1 e1 r1 i1 j1
   and_intros <;> first | omega | decide | rfl | exact trivial | exact ySnoc2 (rowC_nls l) (Enc.nl x) | (rw [rowC_len, Nat.zero_add]; rfl) | exact z
theorem ok_yD : EntOk Tryz.prog ⟨148, y_D⟩ := by
 intro args Post h
 unfold y_D at h
 dsimp only at h
 split at h
 case h_2 => exact h.elim
 rename_i t
 obtain ⟨hs, h⟩ := h
 refine pure_P (vc := callYd) callYd_ok mixed (by kernel_rfl) (by kernel_rfl) _ (e_yDec t _ _) ?_
 simp only [true_and, and_true]
 and_intros <;> try first | omega | decide | rfl
 intro v1 s1 e1 r1 i1
 have q1 := r1.le
 and_intros <;> try first | omega | decide | rfl
 intro n s2 e2 r2 i2
 have q2 := r2.le
 have lp := yD_loop t v1 n i2 i1 Post h n 0 s2 e2 [] (Nat.zero_add _) rfl (by omega) (r1.trans r2) (fun x hx => by cases hx)
 and_intros <;> first | omega | decide | rfl | exact lp
theorem callO_ok : PCallOk Tryz.prog callO := inlP_ok mixed (ofV_ok (tabCall_ok (by
 intro e he
 simp only [List.mem_cons, List.not_mem_nil, or_false] at he
 subst he
 exact ok_yD) (itabCall_ok (by
 intro e he
 simp only [tabRd, List.mem_cons, List.not_mem_nil, or_false] at he
 rcases he with rfl | rfl | rfl | rfl
 ·exact ok_kI
 ·exact ok_kT
 ·exact ok_kL
 ·exact ok_kB) noCall_ok))) 4
inductive VisR (k a w : Int) (s : ByteArray) : Event → Int → ByteArray → Prop
 | body {vs : List Va} {es : List (List Va)} {r : ByteArray} (hk : k ≠ 1) (h : rdBody k.toNat s = .ok (vs, es) r) : VisR k a w s (mkEv k a vs es) w r
 | order {t r : ByteArray} {o : Order2} {v : Int} (hk : k = 1) (h : rsT 1048576 s = .ok t r) (ho : OrdR t o v) : VisR k a w s { evt0 with kind := k, at_ := a, order := o } v r
def c_vr2 (args : List Value) (conts : List (List Value)) (Post : Out → List (List Value) → Prop) : Prop :=
 ∃ (k a w : Int) (s : ByteArray), args = argsR ∧ conts = [cells0 k a, [ptr2, .int .i64 w], [.string s, .int .i64 0]] ∧ 1 ≤ k ∧ k ≤ 18 ∧ s.size < 4611686018427387904 ∧
  (∀ x v r, VisR k a w s x v r → Post retU [eventC x, [ptr2, .int .i64 v], [.string r, .int .i64 0]]) ∧
  ∀ e, rdX k s = .err e → ∀ r, allN 40 fun c => Post (panE e) [c, [ptr2, .int .i64 w], [.string r, .int .i64 (.ofNat (e + 1))]]
theorem ok_vr2 : XEntOk Tryz.prog ⟨22, c_vr2⟩ := by
 rintro args conts Post ⟨k, a, w, s, rfl, rfl, k1, k2, hs, hO, hE⟩
 by_cases hk : k = 1
 ·subst hk
  have hE' : ∀ e, rsT 1048576 s = .err e → ∀ r c, c.length = 40 → Post (panE e) [c, [ptr2, .int .i64 w], [.string r, .int .i64 (.ofNat (e + 1))]] := fun e he r c hc => allN_get (hE e (by unfold rdX; rw [if_pos rfl, he]; rfl) r) c hc
  clear hE
  refine specX_lax (N := 2) (Q := fun r ls => ∃ c c' rest, ls = c :: rest ∧ lax c c' ∧ Post r (c' :: rest)) ?_ fun r ls h => h
  refine spec_X callO_ok mixed (by kernel_rfl) (by kernel_rfl) [(19, [0, 1, 132, 133]), (31, [0, 1, 203, 204]), (55, [0, 1, 330, 331])] (e_rd1 a w s _ _) ?_
  simp only [true_and, and_true]
  and_intros <;> try first | omega | decide | rfl
  ·intro t r ht
   have q := leT ht
   have q2 := ftT ht
   and_intros <;> try first | omega | decide | rfl
   intro o v ho
   have hz := hO _ v r (.order rfl ht ho)
   and_intros <;> try first | omega | decide | rfl
   exact ⟨_, _, _, rfl, by repeat' (first | exact trivial | refine ⟨.inl rfl, ?_⟩ | refine ⟨.inr ⟨rfl, _, rfl⟩, ?_⟩), hz⟩
  ·intro e he
   have hz := fun c hc => hE' e he s c hc
   and_intros <;> try first | omega | decide | rfl
   exact ⟨_, _, _, rfl, lax_refl _, hz _ rfl⟩
 ·exact ok_vr argsR _ Post ⟨k, a, w, s, rfl, rfl, by omega, k2, hs, fun vs es r h x hx => by subst hx; exact hO _ w r (.body hk h), fun e he r => hE e (by unfold rdX; rw [if_neg hk, he]; rfl) r⟩
theorem e_isName (s : ByteArray) (H : HT) (Post : PV) : vcP Tryz.prog noCall 46 [(4, [0, 15])] [.string s] H Post = (T2 (True ∧ pIf (decide (s = ByteArray.mk #[])) (T4 (Post (vb false))) (T4 (pIf (decide ((↑s.size : Int) > 16)) (T2 (True ∧ Post (vb false))) (T4 ((True ∧ True) ∧ H (lpC Tryz.prog 46 4) (lpK Tryz.prog 46 4) (stV [(0, some (vs s)), (15, some (pt 0))] [(0, some (AObj.iter s 0))] 1))))))) := by kernel_rfl
theorem l_isName (s : ByteArray) (p : Nat) (H : HT) (Post : PV) : vcLP Tryz.prog noCall 46 [.string s] [(4, [0, 15])] 4 (stV [(0, some (.string s)), (15, some (.pointer (some ⟨0, 0, none⟩)))] [(0, some (.iter s p))] 1) H Post = (let q3 := (↑(Prod.fst (Utf8.decode s p)) : Int); let q8 := stV [(0, some (vs s)), (15, some (pt 0))] [(0, some (AObj.iter s (p + Prod.snd (Utf8.decode s p))))] 1; let q1 := (True ∧ pIf (decide ((↑p : Int) = 0)) (T4 (True ∧ Post (vb false))) (T4 (T2 ((True ∧ True) ∧ H (lpC Tryz.prog 46 4) (lpK Tryz.prog 46 4) q8)))); let q4 := (T4 (pIf (decide (q3 = 45)) (T4 (T2 q1)) (T4 (T2 (True ∧ pIf (decide ((↑p : Int) = 0)) (T4 (True ∧ Post (vb false))) (T4 (T2 (True ∧ Post (vb false))))))))); let q10 := T4 (True ∧ pIf (decide (q3 = 95)) (T8 q1) q4); let q2 := True ∧ (True ∧ True) ∧ H (lpC Tryz.prog 46 4) (lpK Tryz.prog 46 4) q8; let q7 := T4 (pIf (decide (q3 = 45)) (T4 (T2 q2)) (T4 (T2 q2))); let q9 := T2 (True ∧ pIf (decide (q3 ≤ 57)) (T8 (T2 q2)) (T4 (pIf (decide (q3 = 95)) (T8 q2) q7))); let q6 := T2 (True ∧ pIf (decide (q3 ≤ 57)) (T8 (T2 q1)) (T4 (pIf (decide (q3 = 95)) (T8 q1) q4))); let q5 := T2 (True ∧ pIf (decide (q3 ≤ 122)) (T4 (True ∧ pIf (decide (q3 ≥ 48)) q9 (T4 (True ∧ pIf (decide (q3 = 95)) (T8 q2) q7)))) (T4 (True ∧ pIf (decide (q3 ≥ 48)) q6 q10))); pIf (decide (p < s.size)) (T4 (T2 (True ∧ pIf (decide (q3 ≥ 65)) (T2 (True ∧ pIf (decide (q3 ≤ 90)) (T4 (T2 (pIf (decide (q3 ≥ 48)) q9 (T4 (True ∧ pIf (decide (q3 = 95)) (T8 q2) q7))))) (T4 (pIf (decide (q3 ≥ 97)) q5 (T4 (T2 (pIf (decide (q3 ≥ 48)) q6 q10))))))) (T4 (True ∧ pIf (decide (q3 ≥ 97)) q5 (T4 (T2 (pIf (decide (q3 ≥ 48)) q6 q10)))))))) (T2 (True ∧ Post (vb true)))) := by kernel_rfl
def byteI (s : ByteArray) (i : Nat) : Int := ((s.data.getD i 0).toNat : Int)
def ltr (c : Int) : Prop := 97 ≤ c ∧ c ≤ 122 ∨ 65 ≤ c ∧ c ≤ 90
def nchr (c : Int) : Prop := ltr c ∨ 48 ≤ c ∧ c ≤ 57 ∨ c = 95 ∨ c = 45
instance (c : Int) : Decidable (ltr c) := by unfold ltr; infer_instance
instance (c : Int) : Decidable (nchr c) := by unfold nchr; infer_instance
def nameOk (s : ByteArray) : Prop := 1 ≤ s.size ∧ s.size ≤ 16 ∧ ltr (byteI s 0) ∧ ∀ i, i < s.size → nchr (byteI s i)
instance (s : ByteArray) : Decidable (nameOk s) := by unfold nameOk; infer_instance
def c_name (args : List Value) (Post : Value → Prop) : Prop := match args with
 | [.string s] => Post (.bool (decide (nameOk s)))
 | _ => False
theorem dec_low {s : ByteArray} {p : Nat} (h : p < s.size) (hb : byteI s p < 128) : ((Utf8.decode s p).1 : Int) = byteI s p ∧ (Utf8.decode s p).2 = 1 := by
 have e : s.data.getD p 0 = s[p]'h := by
  have h' : p < s.data.size := h
  unfold Array.getD
  rw [dif_pos h']
  rfl
 have hb' : (s[p]'h).toNat < 128 := by unfold byteI at hb; rw [e] at hb; omega
 rw [decode_ascii s p h hb']
 unfold byteI
 rw [e]
 exact ⟨rfl, rfl⟩
theorem dec_high {s : ByteArray} {p : Nat} (h : p < s.size) (hb : 128 ≤ byteI s p) : 128 ≤ ((Utf8.decode s p).1 : Int) := by
 have e : s.data.getD p 0 = s[p]'h := by
  have h' : p < s.data.size := h
  unfold Array.getD
  rw [dif_pos h']
  rfl
 have hb' : 128 ≤ (s[p]'h).toNat := by unfold byteI at hb; rw [e] at hb; omega
 have := (decode_high s p h hb').1
 omega
theorem size_zero {s : ByteArray} (h : s.size = 0) : s = ⟨#[]⟩ := by
 refine ba_ext ?_
 have : s.data.toList.length = 0 := by rw [Array.length_toList]; exact h
 rw [List.length_eq_zero_iff.1 this]
theorem ok_name : EntOk Tryz.prog ⟨46, c_name⟩ := by
 intro args Post h
 unfold c_name at h
 dsimp only at h
 split at h
 case h_2 => exact h.elim
 rename_i s
 refine pure_P (vc := noCall) noCall_ok mixed (by kernel_rfl) (by kernel_rfl) _ (e_isName s _ _) ?_
 have no : ¬ nameOk s → Post (.bool false) := fun hn => of_b h (decide_eq_false hn)
 simp only [true_and, and_true, pIf_iff, decide_eq_true_eq, decide_eq_false_iff_not]
 refine ⟨fun h0 => no fun f => ?_, fun h0 => ⟨fun h1 => no fun f => ?_, fun h1 => ?_⟩⟩
 ·rw [h0] at f; exact absurd f.1 (by decide)
 ·have := f.2.1; omega
 have hs0 : s.size ≠ 0 := fun h' => h0 (size_zero h')
 refine down (n := s.size) (p := fun k => (∀ i, i < k → nchr (byteI s i)) → (0 < k → ltr (byteI s 0)) → OkP 46 [.string s] 4 Post (stV [(0, some (.string s)), (15, some (.pointer (some ⟨0, 0, none⟩)))] [(0, some (.iter s k))] 1)) (fun hall hl => ?_) (fun k hk ih hall hl => ?_) (fun i hi => by omega) (fun h => by omega)
 ·refine ok_P (vc := noCall) noCall_ok mixed _ (l_isName s _ _ _) ?_
  have hy : Post (.bool true) := of_b h (decide_eq_true ⟨by omega, by omega, hl (by omega), hall⟩)
  refine pIf_intro (fun hh => absurd (of_decide_eq_true hh) (Nat.lt_irrefl _)) (fun _ => ?_)
  simp only [true_and, and_true]
  exact hy
 ·refine ok_P (vc := noCall) noCall_ok mixed _ (l_isName s _ _ _) ?_
  refine pIf_intro (fun _ => ?_) (fun hh => absurd hk (of_decide_eq_false hh))
  have hX : nchr (byteI s k) → (k = 0 → ltr (byteI s k)) → ((Utf8.decode s k).2 = 1) → OkP 46 [.string s] 4 Post (stV [(0, some (.string s)), (15, some (.pointer (some ⟨0, 0, none⟩)))] [(0, some (.iter s (k + (Utf8.decode s k).2)))] 1) := fun h1 h2 h3 => by
   rw [h3]
   refine ih (fun i hi => ?_) (fun _ => ?_)
   ·rcases Nat.lt_or_ge i k with h' | h'
    ·exact hall i h'
    ·obtain rfl : i = k := by omega
     exact h1
   ·rcases Nat.eq_zero_or_pos k with h' | h'
    ·subst h'; exact h2 rfl
    ·exact hl h'
  have hY : ¬ (nchr (byteI s k) ∧ (k = 0 → ltr (byteI s k))) → Post (.bool false) := fun hn => no fun f => hn ⟨f.2.2.2 k hk, fun hk0 => by subst hk0; exact f.2.2.1⟩
  change _ → _ → _ → OkAt _ _ _ _ _ _ _ at hX
  have hlow := dec_low hk
  have hhigh := dec_high hk
  generalize (Utf8.decode s k).2 = wd at hX hlow hhigh ⊢
  generalize ((Utf8.decode s k).1 : Int) = d at hX hlow hhigh ⊢
  unfold nchr ltr at hX hY
  generalize byteI s k = c at hX hY hlow hhigh
  simp only [true_and, and_true, pIf_iff, decide_eq_true_eq, decide_eq_false_iff_not, Bool.not_eq_eq_eq_not, Bool.not_true, Bool.not_false]
  by_cases hc : c < 128
  ·obtain ⟨rfl, rfl⟩ := hlow hc
   repeat' (first
    | exact hX (by omega) (by omega) rfl
    | exact hY (by omega)
    | refine And.intro ?_ ?_
    | omega
    | intro _)
  ·have hd := hhigh (by omega)
   have hyy := hY (by omega)
   repeat' (first
    | exact hyy
    | refine And.intro ?_ ?_
    | omega
    | intro _)
theorem e_split (s : ByteArray) (H : HT) (Post : PV) : vcP Tryz.prog (tabCall [⟨86, c_gs⟩] noCall) 73 [] [.string s, .string dot] H Post = (T2 (True ∧ ∃ (s_1 : ByteArray), eqL [vs s, vs dot, vi 0, vi (-1)] [vs s_1, vs dot, vi 0, vi (-1)] ∧ s_1.size < 16777216 ∧ T2 (Post (tree 1 (List.length (pieces s_1)) (encL (pieces s_1)))))) := by kernel_rfl
def tabN : List Ent := [⟨46, c_name⟩]
theorem e_names (n : Nat) (A : Array Value) (H : HT) (Post : PV) : vcP Tryz.prog (tabCall tabN noCall) 72 [(3, [0, 3, 9, 10, 11])] [tree 1 n A] H Post = (T8 (T2 (H (lpC Tryz.prog 72 3) (lpK Tryz.prog 72 3) (stV [(0, some (tree 1 n A)), (3, some (vi (IntKind.wrap IntKind.i64 ((↑n : Int) - 1)))), (9, some (tree 1 n A)), (10, some (vi (↑n : Int))), (11, some (vi 0))] [] 0)))) := by kernel_rfl
theorem l_names (n : Nat) (A : Array Value) (b i : Int) (H : HT) (Post : PV) : vcLP Tryz.prog (tabCall tabN noCall) 72 [tree 1 n A] [(3, [0, 3, 9, 10, 11])] 3 (stV [(0, some (tree 1 n A)), (3, some (.int .i64 b)), (9, some (tree 1 n A)), (10, some (.int .i64 n)), (11, some (.int .i64 i))] [] 0) H Post = (True ∧ pIf (decide (i < (↑n : Int))) ((0 ≤ i ∧ i < (↑n : Int)) ∧ cellAt A (Int.toNat i) 0 = vs (toS (cellAt A (Int.toNat i) 0)) ∧ T2 (pIf (decide (nameOk (toS (cellAt A (Int.toNat i) 0)))) (T8 (T2 (H (lpC Tryz.prog 72 3) (lpK Tryz.prog 72 3) (stV [(0, some (tree 1 n A)), (3, some (vi (IntKind.wrap IntKind.i64 (b + (↑(ByteArray.size (toS (cellAt A (Int.toNat i) 0))) : Int))))), (9, some (tree 1 n A)), (10, some (vi (↑n : Int))), (11, some (vi (IntKind.wrap IntKind.i64 (i + 1))))] [] 0)))) (T2 (True ∧ Post (vb false))))) (T2 (True ∧ pIf (decide ((↑n : Int) ≥ 1)) (T4 (pIf (decide ((↑n : Int) ≤ 8)) (T4 (pIf (decide (b ≤ 64)) (T2 (True ∧ Post (vb true))) (T2 (True ∧ Post (vb false))))) (T4 (True ∧ Post (vb false))))) (T4 (T2 (Post (vb false))))))) := by kernel_rfl
def c_split (args : List Value) (Post : Value → Prop) : Prop := ∃ s : ByteArray, args = [.string s, .string dot] ∧ s.size < 16777216 ∧ Post (tree 1 (pieces s).length (encL (pieces s)))
theorem ok_split : EntOk Tryz.prog ⟨73, c_split⟩ := by
 rintro args Post ⟨s, rfl, hs, h⟩
 refine pure_P (vc := tabCall [⟨86, c_gs⟩] noCall) (tabCall_ok (by
  intro e he
  simp only [List.mem_cons, List.not_mem_nil, or_false] at he
  subst he
  exact ok_gs) noCall_ok) mixed (by kernel_rfl) (by kernel_rfl) _ (e_split s _ _) ?_
 repeat (first | exact ⟨s, rfl, hs, by repeat (first | exact h | refine And.intro trivial ?_)⟩ | refine And.intro trivial ?_)
theorem pieces_ne (s : ByteArray) : pieces s ≠ [] := fun h => by
 have := congrArg List.length h
 unfold pieces at this
 rw [List.length_map, splitL_len] at this
 simp at this
def namesOk (l : List ByteArray) : Prop := 1 ≤ l.length ∧ l.length ≤ 8 ∧ (∀ p ∈ l, nameOk p) ∧ l.length + volL l ≤ 65
instance (l : List ByteArray) : Decidable (namesOk l) := by unfold namesOk; infer_instance
def c_names (args : List Value) (Post : Value → Prop) : Prop := ∃ l : List ByteArray, args = [tree 1 l.length (encL l)] ∧ l.length + volL l ≤ 16777216 ∧ Post (.bool (decide (namesOk l)))
theorem volL_tk (l : List ByteArray) (k : Nat) (h : k < l.length) : volL (l.take (k + 1)) = volL (l.take k) + l[k].size := by
 unfold volL
 rw [List.take_succ_eq_append_getElem h, List.map_append, List.sum_append]
 simp
theorem ok_names : EntOk Tryz.prog ⟨72, c_names⟩ := by
 rintro args Post ⟨l, rfl, hv, h⟩
 have hok : VCallOk Tryz.prog (tabCall tabN noCall) := tabCall_ok (by
  intro e he
  simp only [tabN, List.mem_cons, List.not_mem_nil, or_false] at he
  subst he
  exact ok_name) noCall_ok
 refine pure_P (vc := tabCall tabN noCall) hok mixed (by kernel_rfl) (by kernel_rfl) _ (e_names _ _ _ _) ?_
 have no : ¬ namesOk l → Post (.bool false) := fun hn => of_b h (decide_eq_false hn)
 simp only [true_and]
 have key := down (n := l.length) (p := fun k => (∀ i (hi : i < l.length), i < k → nameOk l[i]) → OkP 72 [tree 1 l.length (encL l)] 3 Post (stV [(0, some (tree 1 l.length (encL l))), (3, some (.int .i64 ((l.length : Int) - 1 + (volL (l.take k) : Nat)))), (9, some (tree 1 l.length (encL l))), (10, some (.int .i64 l.length)), (11, some (.int .i64 k))] [] 0)) (fun hall => ?_) (fun k hk ih hall => ?_) (fun i hi h0 => by omega)
 ·rw [wrap64 (by omega) (by omega)]
  have e : ((l.length : Int) - 1 + ((volL (l.take 0) : Nat) : Int)) = (l.length : Int) - 1 := by simp [volL]
  rw [e] at key
  exact key
 ·refine ok_P (vc := tabCall tabN noCall) hok mixed _ (l_names _ _ _ _ _ _) ?_
  simp only [true_and]
  have hall' : ∀ p ∈ l, nameOk p := fun p hp => by
   obtain ⟨i, hi, rfl⟩ := List.mem_iff_getElem.1 hp
   exact hall i hi hi
  refine pIf_intro (fun hh => by have := of_decide_eq_true hh; omega) (fun _ => ?_)
  rw [List.take_of_length_le (Nat.le_refl _)]
  refine pIf_intro (fun h1 => ?_) (fun h1 => no fun f => absurd f.1 (by have := of_decide_eq_false h1; omega))
  refine pIf_intro (fun h2 => ?_) (fun h2 => no fun f => absurd f.2.1 (by have := of_decide_eq_false h2; omega))
  have h1 := of_decide_eq_true h1
  have h2 := of_decide_eq_true h2
  exact pIf_intro (fun h3 => of_b h (decide_eq_true ⟨by omega, by omega, hall', by have := of_decide_eq_true h3; omega⟩)) (fun h3 => no fun f => absurd f.2.2.2 (by have := of_decide_eq_false h3; omega))
 ·refine ok_P (vc := tabCall tabN noCall) hok mixed _ (l_names _ _ _ _ _ _) ?_
  have ek : ((k : Nat) : Int).toNat = k := by omega
  simp only [true_and, ek, cell_str hk, toS]
  refine pIf_intro (fun _ => ?_) (fun hh => by have := of_decide_eq_false hh; omega)
  refine ⟨⟨by omega, by omega⟩, pIf_intro (fun hn => ?_) (fun hn => no fun f => absurd (f.2.2.1 _ (List.getElem_mem hk)) (of_decide_eq_false hn))⟩
  have hv1 := volL_tk l k hk
  have hv2 := volL_take l (k + 1)
  have ew : IntKind.i64.wrap ((l.length : Int) - 1 + ((volL (l.take k) : Nat) : Int) + (l[k].size : Int)) = (l.length : Int) - 1 + ((volL (l.take (k + 1)) : Nat) : Int) := by
   rw [wrap64 (by omega) (by omega)]; omega
  rw [ew, wrapSucc (by omega)]
  exact ih fun i hi hik => by
   rcases Nat.lt_or_ge i k with h' | h'
   ·exact hall i hi h'
   ·obtain rfl : i = k := by omega
    exact of_decide_eq_true hn
def idOk (s : ByteArray) : Prop := s.size ≤ 64 ∧ (pieces s).length ≤ 8 ∧ ∀ p ∈ pieces s, nameOk p
instance (s : ByteArray) : Decidable (idOk s) := by unfold idOk; infer_instance
theorem pieces_vol (s : ByteArray) : (pieces s).length + volL (pieces s) = s.size + 1 := by
 have key : ∀ l : List UInt8, (splitL l).length + ((splitL l).map List.length).sum = l.length + 1 := by
  intro l
  induction l with
  | nil => rfl
  | cons c l ih =>
   by_cases hc : c = 46
   ·subst hc
    simp only [splitL, if_true, List.length_cons, List.map_cons, List.sum_cons, List.length_nil]
    omega
   ·simp only [splitL, hc, if_false]
    split
    ·rename_i p ps hp
     rw [hp] at ih
     simp only [List.length_cons, List.map_cons, List.sum_cons] at ih ⊢
     omega
    ·rename_i hp
     rw [hp] at ih
     simp at ih
 have h := key s.data.toList
 have hl : s.data.toList.length = s.size := by rw [Array.length_toList]; rfl
 unfold pieces volL
 rw [List.length_map, List.map_map, ← hl]
 have e : (List.map (ByteArray.size ∘ fun l => (⟨l.toArray⟩ : ByteArray)) (splitL s.data.toList)) = (splitL s.data.toList).map List.length := List.map_congr_left fun l _ => by simp [ByteArray.size]
 rw [e]
 exact h
def tabId : List Ent := [⟨73, c_split⟩, ⟨72, c_names⟩]
theorem e_id (s : ByteArray) (H : HT) (Post : PV) : vcP Tryz.prog (tabCall tabId noCall) 45 [] [.string s] H Post = (T4 (pIf (decide ((↑s.size : Int) ≤ 64)) (T2 (∃ (s_1 : ByteArray), eqL [vs s, vs (ByteArray.mk #[46])] [vs s_1, vs dot] ∧ s_1.size < 16777216 ∧ ∃ (l : List ByteArray), eqL [tree 1 (List.length (pieces s_1)) (encL (pieces s_1))] [tree 1 l.length (encL l)] ∧ List.length l + volL l ≤ 16777216 ∧ pIf (decide (namesOk l)) (T2 (True ∧ Post (vb true))) (T2 (True ∧ Post (vb false))))) (T4 (Post (vb false))))) := by kernel_rfl
def c_id (args : List Value) (Post : Value → Prop) : Prop := ∃ s : ByteArray, args = [.string s] ∧ s.size < 16777000 ∧ Post (.bool (decide (idOk s)))
theorem ok_id : EntOk Tryz.prog ⟨45, c_id⟩ := by
 rintro args Post ⟨s, rfl, hs, h⟩
 have hok : VCallOk Tryz.prog (tabCall tabId noCall) := tabCall_ok (by
  intro e he
  simp only [tabId, List.mem_cons, List.not_mem_nil, or_false] at he
  rcases he with rfl | rfl
  ·exact ok_split
  ·exact ok_names) noCall_ok
 refine pure_P (vc := tabCall tabId noCall) hok mixed (by kernel_rfl) (by kernel_rfl) _ (e_id s _ _) ?_
 simp only [true_and]
 have no : ¬ idOk s → Post (.bool false) := fun hn => of_b h (decide_eq_false hn)
 refine pIf_intro (fun h1 => ?_) (fun h1 => no fun f => absurd f.1 (by have := of_decide_eq_false h1; omega))
 have h1 := of_decide_eq_true h1
 have hv := pieces_vol s
 refine ⟨s, rfl, by omega, pieces s, rfl, by omega, pIf_intro (fun h2 => ?_) (fun h2 => no fun f => ?_)⟩
 ·obtain ⟨_, g2, g3, _⟩ := of_decide_eq_true h2
  exact of_b h (decide_eq_true ⟨by omega, g2, g3⟩)
 ·refine of_decide_eq_false h2 ⟨?_, f.2.1, f.2.2, by omega⟩
  rcases Nat.eq_zero_or_pos (pieces s).length with h0 | h0
  ·exact absurd (List.eq_nil_of_length_eq_zero h0) (pieces_ne s)
  ·exact h0
def nameL : List ByteArray := [⟨#[]⟩, ⟨#[111, 114, 100, 101, 114]⟩, ⟨#[115, 104, 101, 101, 116]⟩, ⟨#[98, 97, 114]⟩, ⟨#[98, 117, 121]⟩, ⟨#[110, 101, 115, 116]⟩, ⟨#[115, 97, 119]⟩, ⟨#[115, 99, 114, 97, 112]⟩, ⟨#[102, 105, 116]⟩, ⟨#[119, 101, 108, 100]⟩, ⟨#[105, 110, 115, 112, 101, 99, 116]⟩, ⟨#[114, 101, 112, 97, 105, 114]⟩, ⟨#[112, 97, 99, 107, 97, 103, 101]⟩, ⟨#[119, 101, 105, 103, 104]⟩, ⟨#[101, 114, 101, 99, 116]⟩, ⟨#[112, 101, 114, 109, 105, 116]⟩, ⟨#[116, 101, 115, 116]⟩, ⟨#[108, 97, 117, 110, 99, 104]⟩, ⟨#[100, 101, 108, 105, 118, 101, 114]⟩]
def nameOf (k : Int) : ByteArray := if k < 0 then ⟨#[]⟩ else nameL.getD k.toNat ⟨#[]⟩
def c_nm (args : List Value) (Post : Value → Prop) : Prop := ∃ k : Int, args = [.int .i64 k] ∧ Post (.string (nameOf k))
theorem e_name (k : Int) (H : HT) (Post : PV) : vcP Tryz.prog noCall 12 [] [.int .i64 k] H Post = (let q1 := #[Value.agg #[vz, vs (ByteArray.mk #[111, 114, 100, 101, 114]), vs (ByteArray.mk #[115, 104, 101, 101, 116]), vs (ByteArray.mk #[98, 97, 114]), vs (ByteArray.mk #[98, 117, 121]), vs (ByteArray.mk #[110, 101, 115, 116]), vs (ByteArray.mk #[115, 97, 119]), vs (ByteArray.mk #[115, 99, 114, 97, 112]), vs (ByteArray.mk #[102, 105, 116]), vs (ByteArray.mk #[119, 101, 108, 100]), vs (ByteArray.mk #[105, 110, 115, 112, 101, 99, 116]), vs (ByteArray.mk #[114, 101, 112, 97, 105, 114]), vs (ByteArray.mk #[112, 97, 99, 107, 97, 103, 101]), vs (ByteArray.mk #[119, 101, 105, 103, 104]), vs (ByteArray.mk #[101, 114, 101, 99, 116]), vs (ByteArray.mk #[112, 101, 114, 109, 105, 116]), vs (ByteArray.mk #[116, 101, 115, 116]), vs (ByteArray.mk #[108, 97, 117, 110, 99, 104]), vs (ByteArray.mk #[100, 101, 108, 105, 118, 101, 114])]]; T2 (True ∧ pIf (decide (k < 0)) (T4 (Post (vz))) (T2 (True ∧ pIf (decide (k ≥ 19)) (T2 (True ∧ Post (vz))) (T2 ((0 ≤ k ∧ k < (↑19 : Int)) ∧ cellAt q1 0 (0 + Int.toNat k * 1) = vs (toS (cellAt q1 0 (0 + Int.toNat k * 1))) ∧ T2 (Post (vs (toS (cellAt q1 0 (0 + Int.toNat k * 1))))))))))) := by kernel_rfl
theorem kinds0 {k : Int} (h1 : 0 ≤ k) (h2 : k < 19) : k = 0 ∨ k = 1 ∨ k = 2 ∨ k = 3 ∨ k = 4 ∨ k = 5 ∨ k = 6 ∨ k = 7 ∨ k = 8 ∨ k = 9 ∨ k = 10 ∨ k = 11 ∨ k = 12 ∨ k = 13 ∨ k = 14 ∨ k = 15 ∨ k = 16 ∨ k = 17 ∨ k = 18 := by omega
theorem nameOf_big {k : Int} (h : k < 0 ∨ 19 ≤ k) : nameOf k = ⟨#[]⟩ := by
 unfold nameOf
 split
 ·rfl
 ·rw [List.getD_eq_getElem?_getD, List.getElem?_eq_none (by show 19 ≤ k.toNat; omega)]
  rfl
theorem ok_nm : EntOk Tryz.prog ⟨12, c_nm⟩ := by
 rintro args Post ⟨k, rfl, h⟩
 refine pure_P (vc := noCall) noCall_ok mixed (by kernel_rfl) (by kernel_rfl) _ (e_name k _ _) ?_
 simp only [true_and, and_true]
 refine pIfD (fun hk => ?_) (fun hk => pIfD (fun hk2 => ?_) (fun hk2 => ?_))
 ·rw [nameOf_big (.inl hk)] at h; exact h
 ·rw [nameOf_big (.inr (by omega))] at h; exact h
 ·refine ⟨⟨by omega, by omega⟩, ?_⟩
  rcases kinds0 (k := k) (by omega) (by omega) with rfl | rfl | rfl | rfl | rfl | rfl | rfl | rfl | rfl | rfl | rfl | rfl | rfl | rfl | rfl | rfl | rfl | rfl | rfl
  all_goals exact ⟨by kernel_rfl, Eq.mpr (by kernel_rfl) h⟩
def isItem (k : Int) : Prop := k = 4 ∨ k = 7 ∨ k = 8 ∨ k = 12 ∨ k = 16 ∨ k = 9 ∨ k = 11 ∨ k = 10
def isOf (k : Int) : Prop := k = 9 ∨ k = 11
def isBy (k : Int) : Prop := k = 9 ∨ k = 11 ∨ k = 4
instance (k : Int) : Decidable (isItem k) := by unfold isItem; infer_instance
instance (k : Int) : Decidable (isOf k) := by unfold isOf; infer_instance
instance (k : Int) : Decidable (isBy k) := by unfold isBy; infer_instance
def namedOk (x : Event) : Prop := (isItem x.kind → idOk x.item) ∧ (isOf x.kind → nameOk x.of_) ∧ (isBy x.kind → nameOk x.by_)
instance (x : Event) : Decidable (namedOk x) := by unfold namedOk; infer_instance
def tabNm : List Ent := [⟨45, c_id⟩, ⟨46, c_name⟩]
theorem tabNm_ok : VCallOk Tryz.prog (tabCall tabNm noCall) := tabCall_ok (by
 intro e he
 simp only [tabNm, List.mem_cons, List.not_mem_nil, or_false] at he
 rcases he with rfl | rfl
 ·exact ok_id
 ·exact ok_name) noCall_ok
theorem e_named (x : Event) (H : HT) (Post : PV) : vcP Tryz.prog (tabCall tabNm noCall) 21 [] [eventV x] H Post = (let q1 := T2 (True ∧ pIf (decide (nameOk x.of_)) (T4 (pIf (decide (nameOk x.by_)) (T2 (True ∧ Post (vb true))) (T2 (True ∧ Post (vb false))))) (T4 (True ∧ Post (vb false)))); T4 (True ∧ pIf (decide (x.kind = 4)) (T2 (True ∧ ∃ (s : ByteArray), eqL [vs x.item] [vs s] ∧ s.size < 16777000 ∧ pIf (decide (idOk s)) (T2 (True ∧ pIf (decide (nameOk x.by_)) (T2 (True ∧ Post (vb true))) (T2 (True ∧ Post (vb false))))) (T4 (Post (vb false))))) (T2 (pIf (decide (x.kind = 9)) (T2 (True ∧ ∃ (s : ByteArray), eqL [vs x.item] [vs s] ∧ s.size < 16777000 ∧ pIf (decide (idOk s)) q1 (T4 (T2 (Post (vb false)))))) (T2 (pIf (decide (x.kind = 11)) (T2 (True ∧ ∃ (s : ByteArray), eqL [vs x.item] [vs s] ∧ s.size < 16777000 ∧ pIf (decide (idOk s)) q1 (T4 (T2 (Post (vb false)))))) (T2 (pIf (decide (x.kind = 7)) (T2 (True ∧ ∃ (s : ByteArray), eqL [vs x.item] [vs s] ∧ s.size < 16777000 ∧ pIf (decide (idOk s)) (T2 (Post (vb true))) (T2 (Post (vb false))))) (T2 (pIf (decide (x.kind = 8)) (T2 (True ∧ ∃ (s : ByteArray), eqL [vs x.item] [vs s] ∧ s.size < 16777000 ∧ pIf (decide (idOk s)) (T2 (Post (vb true))) (T2 (Post (vb false))))) (T2 (pIf (decide (x.kind = 12)) (T2 (True ∧ ∃ (s : ByteArray), eqL [vs x.item] [vs s] ∧ s.size < 16777000 ∧ pIf (decide (idOk s)) (T2 (Post (vb true))) (T2 (Post (vb false))))) (T2 (pIf (decide (x.kind = 16)) (T2 (True ∧ ∃ (s : ByteArray), eqL [vs x.item] [vs s] ∧ s.size < 16777000 ∧ pIf (decide (idOk s)) (T2 (Post (vb true))) (T2 (Post (vb false))))) (T2 (pIf (decide (x.kind = 10)) (T2 (True ∧ ∃ (s : ByteArray), eqL [vs x.item] [vs s] ∧ s.size < 16777000 ∧ pIf (decide (idOk s)) (T2 (Post (vb true))) (T2 (Post (vb false))))) (T2 (True ∧ Post (vb true))))))))))))))))))) := by kernel_rfl
def c_named (args : List Value) (Post : Value → Prop) : Prop := ∃ x : Event, args = [eventV x] ∧ x.item.size < 16777000 ∧ Post (.bool (decide (namedOk x)))
theorem ok_named : EntOk Tryz.prog ⟨21, c_named⟩ := by
 rintro args Post ⟨x, rfl, hz, h⟩
 refine pure_P (vc := tabCall tabNm noCall) tabNm_ok mixed (by kernel_rfl) (by kernel_rfl) _ (e_named x _ _) ?_
 have hT : namedOk x → Post (.bool true) := fun hn => of_b h (decide_eq_true hn)
 have hF : ¬ namedOk x → Post (.bool false) := fun hn => of_b h (decide_eq_false hn)
 unfold namedOk isItem isOf isBy at hT hF
 simp only [true_and, and_true]
 clear h
 repeat' (first
  | exact rfl
  | refine ⟨x.item, rfl, hz, ?_⟩
  | refine pIfD (fun hh => ?_) (fun hh => ?_)
  | exact hT ⟨fun _ => by first | assumption | omega, fun _ => by first | assumption | omega, fun _ => by first | assumption | omega⟩
  | exact hF (by rintro ⟨h1, h2, h3⟩; first | (exact absurd (h1 (by omega)) (by assumption)) | (exact absurd (h2 (by omega)) (by assumption)) | (exact absurd (h3 (by omega)) (by assumption))))
def tabFr (P : Program) (tab : List Ent) (next : PCall) : PCall := fun f args hp nx K =>
 match entOf f tab with
 | some e => match frzTs P 0 (fnAt P f).params.toList args hp with
  | some (us, hp', ob) => bif us.all nl then ob ∧ e.c us fun v => K (.ret v) hp' nx else False
  | none => False
 | none => next f args hp nx K
theorem tabFr_ok {P : Program} {tab : List Ent} {next : PCall} (ht : ∀ e ∈ tab, EntOk P e) (hn : PCallOk P next) : PCallOk P (tabFr P tab next) := by
 intro f args hp nx K h W ρ w args' hrel hargs
 unfold tabFr at h
 split at h
 ·rename_i e he
  obtain ⟨h1, rfl⟩ := entOf_mem he
  split at h
  case h_2 => exact h.elim
  rename_i us hp' ob hf
  cases ha : us.all nl with
  | false => rw [ha] at h; exact h.elim
  | true =>
   rw [ha, cond_true] at h
   obtain ⟨ρ1, hr1, hs1, hlen, hvr⟩ := frzTs_sound hrel hargs hf h.1
   refine ((ht e h1 us _ h.2).call ha hr1 (.of hlen fun i v v' a b => VR0.lift (ρ := ρ1) (hvr i v v' a b))).mono ?_
   rintro e' w' ⟨v, v', ρ', hK, rfl, g1, _, g2, g3, _⟩
   exact ⟨.ret v, hp', nx, ρ', hK, ⟨v', rfl, g1⟩, g2, hs1.trans g3⟩
 ·exact hn f args hp nx K h W ρ w args' hrel hargs
def nextPl : PCall := tabFr Tryz.prog [⟨18, c_pSame⟩] noP
def callPl : PCall := inlP Tryz.prog (22 :: inlC) nextPl 5
theorem callPl_ok : PCallOk Tryz.prog callPl := inlP_ok mixed (tabFr_ok (by
 intro e he
 simp only [List.mem_cons, List.not_mem_nil, or_false] at he
 subst he
 exact ok_pSame) noP_ok) 5
theorem e_plain (x : Event) (H : HT) (Post : PX) : vcX Tryz.prog callPl 20 [] [] [eventV x] H Post = (let t36 := [vs x.permit.id, vi x.permit.kind, vi x.permit.time.a, vi x.permit.time.b]; let t35 := tree 4 x.lift.hooks.length (encL x.lift.hooks) :: t36; let t33 := tree 1 x.weig.parts.length (encL x.weig.parts) :: vs x.lift.block :: t35; let t26 := vs x.weig.block :: vi x.weig.at_ :: vi x.weig.mass :: vi x.weig.centre.x :: vi x.weig.centre.y :: vi x.weig.centre.z :: vi x.weig.sigma :: t33; let t25 := tree 1 x.saw.parts.length (encL x.saw.parts) :: t26; let t23 := vs x.saw.bar :: vi x.saw.kerf :: t25; let t22 := tree 5 x.nest.spots.length (encL x.nest.spots) :: t23; let t20 := vs x.nest.sheet :: vi x.nest.gap :: t22; let t15 := vs x.bar.id :: vs x.bar.sect :: vs x.bar.grade :: vi x.bar.long :: vs x.bar.heat :: t20; let t9 := vs x.sheet.id :: vs x.sheet.grade :: vi x.sheet.thick :: vi x.sheet.long :: vi x.sheet.width :: vs x.sheet.heat :: t15; let t7 := vs x.order.id :: tree 38 x.order.edits.length (encL x.order.edits) :: t9; let t5 := vi x.n :: vb x.pass :: t7; let t3 := vs x.of_ :: vs x.by_ :: t5; let h2 := fun (t : List Value) => vi 0 :: vi 0 :: t; let h7 := fun (t : List Value) => h2 (vs x.item :: vs x.of_ :: vs x.by_ :: vi x.n :: vb x.pass :: t); let h9 := fun (t : List Value) => h7 (vs x.order.id :: tree 38 x.order.edits.length (encL x.order.edits) :: t); let h15 := fun (t : List Value) => h9 (vs x.sheet.id :: vs x.sheet.grade :: vi x.sheet.thick :: vi x.sheet.long :: vi x.sheet.width :: vs x.sheet.heat :: t); let h20 := fun (t : List Value) => h15 (vs x.bar.id :: vs x.bar.sect :: vs x.bar.grade :: vi x.bar.long :: vs x.bar.heat :: t); let h23 := fun (t : List Value) => h20 (vs x.nest.sheet :: vi x.nest.gap :: tree 5 x.nest.spots.length (encL x.nest.spots) :: t); let h26 := fun (t : List Value) => h23 (vs x.saw.bar :: vi x.saw.kerf :: tree 1 x.saw.parts.length (encL x.saw.parts) :: t); let h34 := fun (t : List Value) => h26 (vs x.weig.block :: vi x.weig.at_ :: vi x.weig.mass :: vi x.weig.centre.x :: vi x.weig.centre.y :: vi x.weig.centre.z :: vi x.weig.sigma :: tree 1 x.weig.parts.length (encL x.weig.parts) :: t); let h36 := fun (t : List Value) => h34 (vs x.lift.block :: tree 4 x.lift.hooks.length (encL x.lift.hooks) :: t); let q10 := (toI (vi 0) ≤ 0 ∧ toI (vi 0) < (↑1 : Int)); let q9 := toI (vi 0) ≤ 0 ∧ toI (vi 0) ≤ 0 ∧ toI (vi 0) ≤ 2 ^ 25; let q1 := #[vi 0, vi 0, vz, vz, vz, vi 0, vb false, vz, tree 38 0 #[], vz, vz, vi 0, vi 0, vi 0, vz, vz, vz, vz, vi 0, vz, vz, vi 0, tree 5 0 #[], vz, vi 0, tree 1 0 #[], vz, vi 0, vi 0, vi 0, vi 0, vi 0, vi 0, tree 1 0 #[], vz, tree 4 0 #[], vz, vi 0, vi 0, vi 0]; let q8 := [Value.agg (h2 (vz :: t3)).toArray, Value.agg q1]; let q7 := (toI (vi 0) ≤ 0 ∧ toI (vi 0) < (↑3 : Int)); let q6 := (toI (vi 0) ≤ w64 (0 + 1) ∧ toI (vi (w64 (0 + 1))) < (↑3 : Int)); let q5 := (toI (vi 0) ≤ w64 (w64 (0 + 1) + 1) ∧ toI (vi (w64 (w64 (0 + 1) + 1))) < (↑3 : Int)); let q4 := (T32 (T8 (True))) ∧ (T32 (T8 (True))) ∧ True; let q3 := True ∧ (True ∧ True) ∧ true = true ∧ Post (Out.ret (vb true)) []; let q2 := True ∧ (True ∧ True) ∧ true = true ∧ Post (Out.ret (vb false)) []; T8 (True ∧ pIf (decide (x.kind = 1)) (T8 (T4 (9 ≤ 40 ∧ T2 (1 ≤ 40 ∧ True ∧ 2 ≤ 40 ∧ T2 (q4 ∧ ∃ (a : Event), ∃ (b : Event), eqL [Value.agg (h7 (vz :: tree 38 0 #[] :: t9)).toArray, Value.agg q1] [eventV a, eventV b] ∧ ShortEv a ∧ InOrder a.order ∧ FewO a.order ∧ InOrder b.order ∧ FewO b.order ∧ pIf (decide (a = b)) q3 q2))))) (T2 (pIf (decide (x.kind = 2)) (T16 (True ∧ (toI (vi 0) ≤ 0 ∧ toI (vi 0) < (↑2 : Int)) ∧ T4 (T2 (True ∧ 10 ≤ 40 ∧ T2 (True ∧ (toI (vi 0) ≤ w64 (0 + 1) ∧ toI (vi (w64 (0 + 1))) < (↑2 : Int)) ∧ T4 (T2 (True ∧ 11 ≤ 40 ∧ T16 (T2 (True ∧ q7 ∧ T4 (T2 (True ∧ 12 ≤ 40 ∧ T2 (True ∧ q6 ∧ T4 (T2 (True ∧ 13 ≤ 40 ∧ T2 (True ∧ q5 ∧ T4 (T2 (True ∧ 14 ≤ 40 ∧ T8 (T4 (T2 (15 ≤ 40 ∧ T2 (1 ≤ 40 ∧ True ∧ 2 ≤ 40 ∧ T2 (q4 ∧ ∃ (a : Event), ∃ (b : Event), eqL [Value.agg (h9 (vz :: vz :: vi 0 :: vi 0 :: vi 0 :: vz :: t15)).toArray, Value.agg q1] [eventV a, eventV b] ∧ ShortEv a ∧ InOrder a.order ∧ FewO a.order ∧ InOrder b.order ∧ FewO b.order ∧ pIf (decide (a = b)) q3 q2)))))))))))))))))))))) (T2 (pIf (decide (x.kind = 3)) (T16 (T2 (True ∧ q7 ∧ T4 (T2 (True ∧ 16 ≤ 40 ∧ T2 (True ∧ q6 ∧ T4 (T2 (True ∧ 17 ≤ 40 ∧ T2 (True ∧ q5 ∧ T4 (T2 (True ∧ 18 ≤ 40 ∧ T8 (T4 (T2 (q10 ∧ T4 (T2 (True ∧ 19 ≤ 40 ∧ T8 (T4 (T2 (20 ≤ 40 ∧ T2 (1 ≤ 40 ∧ True ∧ 2 ≤ 40 ∧ T2 (q4 ∧ ∃ (a : Event), ∃ (b : Event), eqL [Value.agg (h15 (vz :: vz :: vz :: vi 0 :: vz :: t20)).toArray, Value.agg q1] [eventV a, eventV b] ∧ ShortEv a ∧ InOrder a.order ∧ FewO a.order ∧ InOrder b.order ∧ FewO b.order ∧ pIf (decide (a = b)) q3 q2))))))))))))))))))))) (T2 (pIf (decide (x.kind = 4)) (T8 (T4 (True ∧ (toI (vi 0) ≤ 0 ∧ toI (vi 0) < (↑2 : Int)) ∧ T4 (T2 (True ∧ 3 ≤ 40 ∧ T2 (True ∧ (toI (vi 0) ≤ w64 (0 + 1) ∧ toI (vi (w64 (0 + 1))) < (↑2 : Int)) ∧ T4 (T2 (True ∧ 5 ≤ 40 ∧ T4 (True ∧ 1 ≤ 40 ∧ True ∧ 2 ≤ 40 ∧ T2 (q4 ∧ ∃ (a : Event), ∃ (b : Event), eqL [Value.agg (h2 (vz :: vs x.of_ :: vz :: t5)).toArray, Value.agg q1] [eventV a, eventV b] ∧ ShortEv a ∧ InOrder a.order ∧ FewO a.order ∧ InOrder b.order ∧ FewO b.order ∧ pIf (decide (a = b)) q3 q2)))))))))) (T2 (pIf (decide (x.kind = 5)) (T8 (T4 (21 ≤ 40 ∧ T8 (T2 (True ∧ q10 ∧ T4 (T2 (True ∧ 22 ≤ 40 ∧ T16 (T8 (T4 (pIf (!decide (0 = (↑x.nest.spots.length : Int))) (T2 (q9 ∧ True ∧ 23 ≤ 40 ∧ T8 (True ∧ 1 ≤ 40 ∧ True ∧ 2 ≤ 40 ∧ T2 (((T16 (T4 (T2 ((0 ≤ 0 ∧ NLs []) ∧ T16 (True ∧ True))))) ∧ (T32 (T8 (True))) ∧ True) ∧ ∃ (a : Event), ∃ (b : Event), eqL [Value.agg (h20 (vz :: vi 0 :: tree 5 0 #[] :: t23)).toArray, Value.agg q1] [eventV a, eventV b] ∧ ShortEv a ∧ InOrder a.order ∧ FewO a.order ∧ InOrder b.order ∧ FewO b.order ∧ pIf (decide (a = b)) q3 q2)))) (T8 (pIf (decide (0 < (↑x.nest.spots.length : Int))) (T8 ((toI (vi 0) ≤ 0 ∧ 0 < (↑x.nest.spots.length : Int)) ∧ T8 (T2 (True ∧ False)))) (True ∧ 1 ≤ 40 ∧ True ∧ 2 ≤ 40 ∧ T2 (q4 ∧ ∃ (a : Event), ∃ (b : Event), eqL [Value.agg (h20 (vz :: vi 0 :: t22)).toArray, Value.agg q1] [eventV a, eventV b] ∧ ShortEv a ∧ InOrder a.order ∧ FewO a.order ∧ InOrder b.order ∧ FewO b.order ∧ pIf (decide (a = b)) q3 q2)))))))))))))) (T2 (pIf (decide (x.kind = 6)) (T8 (T4 (24 ≤ 40 ∧ T8 (T2 (True ∧ q10 ∧ T4 (T2 (True ∧ 25 ≤ 40 ∧ T16 (T8 (T4 (pIf (!decide (0 = (↑x.saw.parts.length : Int))) (T2 (q9 ∧ True ∧ 26 ≤ 40 ∧ T8 (True ∧ 1 ≤ 40 ∧ True ∧ 2 ≤ 40 ∧ T2 (((T16 (T8 (True ∧ (0 ≤ 0 ∧ NLs []) ∧ T8 (T4 (T2 (True)))))) ∧ (T32 (T8 (True))) ∧ True) ∧ ∃ (a : Event), ∃ (b : Event), eqL [Value.agg (h23 (vz :: vi 0 :: tree 1 0 #[] :: t26)).toArray, Value.agg q1] [eventV a, eventV b] ∧ ShortEv a ∧ InOrder a.order ∧ FewO a.order ∧ InOrder b.order ∧ FewO b.order ∧ pIf (decide (a = b)) q3 q2)))) (T8 (pIf (decide (0 < (↑x.saw.parts.length : Int))) (T8 (True ∧ (toI (vi 0) ≤ 0 ∧ 0 < (↑x.saw.parts.length : Int)) ∧ T4 (T2 (False)))) (True ∧ 1 ≤ 40 ∧ True ∧ 2 ≤ 40 ∧ T2 (q4 ∧ ∃ (a : Event), ∃ (b : Event), eqL [Value.agg (h23 (vz :: vi 0 :: t25)).toArray, Value.agg q1] [eventV a, eventV b] ∧ ShortEv a ∧ InOrder a.order ∧ FewO a.order ∧ InOrder b.order ∧ FewO b.order ∧ pIf (decide (a = b)) q3 q2)))))))))))))) (T2 (pIf (decide (x.kind = 7)) (T8 (T2 (True ∧ 3 ≤ 40 ∧ T2 (1 ≤ 40 ∧ True ∧ 2 ≤ 40 ∧ T2 (q4 ∧ ∃ (a : Event), ∃ (b : Event), eqL q8 [eventV a, eventV b] ∧ ShortEv a ∧ InOrder a.order ∧ FewO a.order ∧ InOrder b.order ∧ FewO b.order ∧ pIf (decide (a = b)) q3 q2))))) (T2 (pIf (decide (x.kind = 8)) (T8 (T2 (True ∧ 3 ≤ 40 ∧ T2 (1 ≤ 40 ∧ True ∧ 2 ≤ 40 ∧ T2 (q4 ∧ ∃ (a : Event), ∃ (b : Event), eqL q8 [eventV a, eventV b] ∧ ShortEv a ∧ InOrder a.order ∧ FewO a.order ∧ InOrder b.order ∧ FewO b.order ∧ pIf (decide (a = b)) q3 q2))))) (T2 (pIf (decide (x.kind = 12)) (T8 (T2 (True ∧ 3 ≤ 40 ∧ T2 (1 ≤ 40 ∧ True ∧ 2 ≤ 40 ∧ T2 (q4 ∧ ∃ (a : Event), ∃ (b : Event), eqL q8 [eventV a, eventV b] ∧ ShortEv a ∧ InOrder a.order ∧ FewO a.order ∧ InOrder b.order ∧ FewO b.order ∧ pIf (decide (a = b)) q3 q2))))) (T2 (pIf (decide (x.kind = 16)) (T8 (T2 (True ∧ 3 ≤ 40 ∧ T2 (1 ≤ 40 ∧ True ∧ 2 ≤ 40 ∧ T2 (q4 ∧ ∃ (a : Event), ∃ (b : Event), eqL q8 [eventV a, eventV b] ∧ ShortEv a ∧ InOrder a.order ∧ FewO a.order ∧ InOrder b.order ∧ FewO b.order ∧ pIf (decide (a = b)) q3 q2))))) (T2 (pIf (decide (x.kind = 9)) (T16 (q7 ∧ T4 (T2 (True ∧ 3 ≤ 40 ∧ T2 (True ∧ q6 ∧ T4 (T2 (True ∧ 4 ≤ 40 ∧ T2 (True ∧ q5 ∧ T4 (T2 (True ∧ 5 ≤ 40 ∧ T4 (True ∧ 1 ≤ 40 ∧ True ∧ 2 ≤ 40 ∧ T2 (q4 ∧ ∃ (a : Event), ∃ (b : Event), eqL [Value.agg (h2 (vz :: vz :: vz :: t5)).toArray, Value.agg q1] [eventV a, eventV b] ∧ ShortEv a ∧ InOrder a.order ∧ FewO a.order ∧ InOrder b.order ∧ FewO b.order ∧ pIf (decide (a = b)) q3 q2)))))))))))) (T2 (pIf (decide (x.kind = 11)) (T16 (q7 ∧ T4 (T2 (True ∧ 3 ≤ 40 ∧ T2 (True ∧ q6 ∧ T4 (T2 (True ∧ 4 ≤ 40 ∧ T2 (True ∧ q5 ∧ T4 (T2 (True ∧ 5 ≤ 40 ∧ T4 (True ∧ 1 ≤ 40 ∧ True ∧ 2 ≤ 40 ∧ T2 (q4 ∧ ∃ (a : Event), ∃ (b : Event), eqL [Value.agg (h2 (vz :: vz :: vz :: t5)).toArray, Value.agg q1] [eventV a, eventV b] ∧ ShortEv a ∧ InOrder a.order ∧ FewO a.order ∧ InOrder b.order ∧ FewO b.order ∧ pIf (decide (a = b)) q3 q2)))))))))))) (T2 (pIf (decide (x.kind = 10)) (T8 (T2 (True ∧ 3 ≤ 40 ∧ T8 (T2 (True ∧ 6 ≤ 40 ∧ T8 (T2 (True ∧ 7 ≤ 40 ∧ T2 (1 ≤ 40 ∧ True ∧ 2 ≤ 40 ∧ T2 (q4 ∧ ∃ (a : Event), ∃ (b : Event), eqL [Value.agg (h2 (vz :: vs x.of_ :: vs x.by_ :: vi 0 :: vb false :: t7)).toArray, Value.agg q1] [eventV a, eventV b] ∧ ShortEv a ∧ InOrder a.order ∧ FewO a.order ∧ InOrder b.order ∧ FewO b.order ∧ pIf (decide (a = b)) q3 q2))))))))) (T2 (pIf (decide (x.kind = 13)) (T8 (T4 (T2 (True ∧ 27 ≤ 40 ∧ T16 (T8 (True ∧ (toI (vi 0) ≤ 0 ∧ toI (vi 0) < (↑5 : Int)) ∧ T4 (T2 (True ∧ 29 ≤ 40 ∧ T2 (True ∧ (toI (vi 0) ≤ w64 (0 + 1) ∧ toI (vi (w64 (0 + 1))) < (↑5 : Int)) ∧ T4 (T2 (True ∧ 30 ≤ 40 ∧ T2 (True ∧ (toI (vi 0) ≤ w64 (w64 (0 + 1) + 1) ∧ toI (vi (w64 (w64 (0 + 1) + 1))) < (↑5 : Int)) ∧ T4 (T2 (True ∧ 31 ≤ 40 ∧ T2 (True ∧ (toI (vi 0) ≤ w64 (w64 (w64 (0 + 1) + 1) + 1) ∧ toI (vi (w64 (w64 (w64 (0 + 1) + 1) + 1))) < (↑5 : Int)) ∧ T4 (T2 (True ∧ 32 ≤ 40 ∧ T2 (True ∧ (toI (vi 0) ≤ w64 (w64 (w64 (w64 (0 + 1) + 1) + 1) + 1) ∧ toI (vi (w64 (w64 (w64 (w64 (0 + 1) + 1) + 1) + 1))) < (↑5 : Int)) ∧ T4 (T2 (True ∧ 33 ≤ 40 ∧ T4 (True ∧ 1 ≤ 40 ∧ True ∧ 2 ≤ 40 ∧ T2 (q4 ∧ ∃ (a : Event), ∃ (b : Event), eqL [Value.agg (h26 (vz :: vi x.weig.at_ :: vi 0 :: vi 0 :: vi 0 :: vi 0 :: vi 0 :: t33)).toArray, Value.agg q1] [eventV a, eventV b] ∧ ShortEv a ∧ InOrder a.order ∧ FewO a.order ∧ InOrder b.order ∧ FewO b.order ∧ pIf (decide (a = b)) q3 q2)))))))))))))))))))))) (T2 (pIf (decide (x.kind = 14)) (T8 (T4 (35 ≤ 40 ∧ T16 (T8 (T2 (pIf (!decide (0 = (↑x.lift.hooks.length : Int))) (T2 (q9 ∧ True ∧ 36 ≤ 40 ∧ T8 (True ∧ 1 ≤ 40 ∧ True ∧ 2 ≤ 40 ∧ T2 (((T32 (T2 (True ∧ (0 ≤ 0 ∧ NLs []) ∧ T4 (True)))) ∧ (T32 (T8 (True))) ∧ True) ∧ ∃ (a : Event), ∃ (b : Event), eqL [Value.agg (h34 (vz :: tree 4 0 #[] :: t36)).toArray, Value.agg q1] [eventV a, eventV b] ∧ ShortEv a ∧ InOrder a.order ∧ FewO a.order ∧ InOrder b.order ∧ FewO b.order ∧ pIf (decide (a = b)) q3 q2)))) (T8 (pIf (decide (0 < (↑x.lift.hooks.length : Int))) (T8 ((toI (vi 0) ≤ 0 ∧ 0 < (↑x.lift.hooks.length : Int)) ∧ T8 (T2 (True ∧ False)))) (True ∧ 1 ≤ 40 ∧ True ∧ 2 ≤ 40 ∧ T2 (q4 ∧ ∃ (a : Event), ∃ (b : Event), eqL [Value.agg (h34 (vz :: t35)).toArray, Value.agg q1] [eventV a, eventV b] ∧ ShortEv a ∧ InOrder a.order ∧ FewO a.order ∧ InOrder b.order ∧ FewO b.order ∧ pIf (decide (a = b)) q3 q2)))))))))) (T2 (pIf (decide (x.kind = 15)) (T8 (T4 (37 ≤ 40 ∧ T16 (T4 (True ∧ q7 ∧ T4 (T2 (True ∧ 38 ≤ 40 ∧ T2 (True ∧ q6 ∧ T4 (T2 (True ∧ 39 ≤ 40 ∧ T2 (True ∧ q5 ∧ T4 (T2 (True ∧ 40 ≤ 40 ∧ T4 (True ∧ 1 ≤ 40 ∧ True ∧ 2 ≤ 40 ∧ T2 (q4 ∧ ∃ (a : Event), ∃ (b : Event), eqL [Value.agg (h36 ([vz, vi 0, vi 0, vi 0])).toArray, Value.agg q1] [eventV a, eventV b] ∧ ShortEv a ∧ InOrder a.order ∧ FewO a.order ∧ InOrder b.order ∧ FewO b.order ∧ pIf (decide (a = b)) q3 q2))))))))))))))) (T2 (1 ≤ 40 ∧ True ∧ 2 ≤ 40 ∧ T2 (q4 ∧ ∃ (a : Event), ∃ (b : Event), eqL [Value.agg (h20 t20).toArray, Value.agg q1] [eventV a, eventV b] ∧ ShortEv a ∧ InOrder a.order ∧ FewO a.order ∧ InOrder b.order ∧ FewO b.order ∧ pIf (decide (a = b)) q3 q2))))))))))))))))))))))))))))))))))) := by kernel_rfl
def cleared (x : Event) : Event := { clearK x.kind x with kind := 0, at_ := 0 }
theorem ite_P {c : Prop} [Decidable c] {a b : Event} {P : Event → Prop} (ha : P a) (hb : P b) : P (if c then a else b) := by split <;> assumption
theorem clear_order (k : Int) (x : Event) : (clearK k x).order = x.order ∨ (clearK k x).order = evt0.order := by
 unfold clearK
 repeat' (refine ite_P (P := fun y : Event => y.order = x.order ∨ y.order = evt0.order) ?_ ?_)
 all_goals first | exact .inl rfl | exact .inr rfl
theorem clear_spots (k : Int) (x : Event) : (clearK k x).nest.spots = x.nest.spots ∨ (clearK k x).nest.spots = [] := by
 unfold clearK
 repeat' (refine ite_P (P := fun y : Event => y.nest.spots = x.nest.spots ∨ y.nest.spots = []) ?_ ?_)
 all_goals first | exact .inl rfl | exact .inr rfl
theorem clear_saw (k : Int) (x : Event) : (clearK k x).saw.parts = x.saw.parts ∨ (clearK k x).saw.parts = [] := by
 unfold clearK
 repeat' (refine ite_P (P := fun y : Event => y.saw.parts = x.saw.parts ∨ y.saw.parts = []) ?_ ?_)
 all_goals first | exact .inl rfl | exact .inr rfl
theorem clear_weig (k : Int) (x : Event) : (clearK k x).weig.parts = x.weig.parts := by
 unfold clearK
 repeat' (refine ite_P (P := fun y : Event => y.weig.parts = x.weig.parts) ?_ ?_)
 all_goals rfl
theorem clear_hooks (k : Int) (x : Event) : (clearK k x).lift.hooks = x.lift.hooks ∨ (clearK k x).lift.hooks = [] := by
 unfold clearK
 repeat' (refine ite_P (P := fun y : Event => y.lift.hooks = x.lift.hooks ∨ y.lift.hooks = []) ?_ ?_)
 all_goals first | exact .inl rfl | exact .inr rfl
theorem short_nil {α : Type} : Short ([] : List α) := by show 0 < 2 ^ 62; decide
theorem clear_short {x : Event} (h : ShortEv x) : ShortEv (cleared x) := by
 refine ⟨?_, ?_, ?_, ?_, ?_⟩
 ·show ShortO (clearK x.kind x).order
  rcases clear_order x.kind x with e | e <;> rw [e]
  ·exact h.order
  ·exact ⟨by decide, fun _ h => by cases h⟩
 ·show Short (clearK x.kind x).nest.spots
  rcases clear_spots x.kind x with e | e <;> rw [e]
  ·exact h.spots
  ·exact short_nil
 ·show Short (clearK x.kind x).saw.parts
  rcases clear_saw x.kind x with e | e <;> rw [e]
  ·exact h.saw
  ·exact short_nil
 ·show Short (clearK x.kind x).weig.parts
  rw [clear_weig]
  exact h.weig
 ·show Short (clearK x.kind x).lift.hooks
  rcases clear_hooks x.kind x with e | e <;> rw [e]
  ·exact h.hooks
  ·exact short_nil
theorem clear_inO {x : Event} (h : InOrder x.order) : InOrder (cleared x).order := by
 show InOrder (clearK x.kind x).order
 rcases clear_order x.kind x with e | e <;> rw [e]
 ·exact h
 ·exact zero_inO
theorem clear_fewO {x : Event} (h : FewO x.order) : FewO (cleared x).order := by
 show FewO (clearK x.kind x).order
 rcases clear_order x.kind x with e | e <;> rw [e]
 ·exact h
 ·exact zero_fewO
def c_plain (args : List Value) (Post : Value → Prop) : Prop := ∃ x : Event, args = [eventV x] ∧ 1 ≤ x.kind ∧ x.kind ≤ 18 ∧ ShortEv x ∧ InOrder x.order ∧ FewO x.order ∧ Post (.bool (decide (x = plainK x.kind x)))
theorem ok_plain : EntOk Tryz.prog ⟨20, c_plain⟩ := by
 rintro args Post ⟨x, rfl, h1, h2, hs, hi, hf, h⟩
 have hT : cleared x = evt0 → Post (.bool true) := fun e => of_b h (decide_eq_true ((clear_plain h1 h2).1 e))
 have hF : ¬ cleared x = evt0 → Post (.bool false) := fun e => of_b h (decide_eq_false fun k => e ((clear_plain h1 h2).2 k))
 have sc := clear_short hs
 have ic := clear_inO hi
 have fc := clear_fewO hf
 have hk := kinds h1 h2
 clear h hs hi hf h1 h2
 refine B.pure_of_X ?_
 obtain ⟨k, a, i, o, b, n, p, ord, sh, bar, ⟨n1, n2, l1⟩, ⟨s1, s2, l2⟩, weig, ⟨f1, l3⟩, per⟩ := x
 simp only at hk
 refine spec_X (conts := []) callPl_ok mixed (by kernel_rfl) (by kernel_rfl) [] (e_plain _ _ _) ?_
 simp only [true_and, and_true]
 iterate 16 (refine pIfD (fun hq => ?_) (fun _ => ?_); rotate_left)
 ·have : k = 17 ∨ k = 18 := by omega
  rcases this with rfl | rfl
  all_goals repeat' (first | exact rfl | refine And.intro ?_ ?_ | trivial | exact ⟨cleared _, evt0, rfl, sc, ic, fc, zero_inO, zero_fewO, pIfD (fun hh => hT hh) (fun hh => hF hh)⟩)
 all_goals
  subst hq
  repeat' (first | exact rfl | refine And.intro ?_ ?_ | trivial | decide | omega | exact ⟨cleared _, evt0, rfl, sc, ic, fc, zero_inO, zero_fewO, pIfD (fun hh => hT hh) (fun hh => hF hh)⟩ | refine pIfN (fun hh => ?_) (fun hh => ?_) | exact (fun v hv => absurd hv (by simp) : NLs []))
 ·have e : l1 = [] := List.eq_nil_of_length_eq_zero (by omega)
  subst e
  exact pIfD (fun h0 => absurd h0 (by decide)) (fun _ => ⟨by decide, by decide, cleared _, evt0, rfl, sc, ic, fc, zero_inO, zero_fewO, pIfD (fun hh => hT hh) (fun hh => hF hh)⟩)
 ·have e : l2 = [] := List.eq_nil_of_length_eq_zero (by omega)
  subst e
  exact pIfD (fun h0 => absurd h0 (by decide)) (fun _ => ⟨by decide, by decide, cleared _, evt0, rfl, sc, ic, fc, zero_inO, zero_fewO, pIfD (fun hh => hT hh) (fun hh => hF hh)⟩)
 ·have e : l3 = [] := List.eq_nil_of_length_eq_zero (by omega)
  subst e
  exact pIfD (fun h0 => absurd h0 (by decide)) (fun _ => ⟨by decide, by decide, cleared _, evt0, rfl, sc, ic, fc, zero_inO, zero_fewO, pIfD (fun hh => hT hh) (fun hh => hF hh)⟩)
theorem e_lim1 (x : Event) (H : HT) (Post : PX) : vcX Tryz.prog callC2 22 [] [(.int .i64 1 :: (eventC x).tail), [.bool false, .bool false]] argsLim H Post = (T16 (T8 (True ∧ pIf (decide ((↑x.order.edits.length : Int) > 32)) (T2 (True ∧ 1 ≤ 2 ∧ True ∧ (((T32 (T8 (True))) ∧ (T2 (True)) ∧ True) ∧ True) ∧ true = true ∧ Post (Out.ret (Value.tuple #[])) [(evK 1 x), [vb true, vb false]])) (T2 (True ∧ 1 ≤ 2 ∧ True ∧ (((T32 (T8 (True))) ∧ (T2 (True)) ∧ True) ∧ True) ∧ true = true ∧ Post (Out.ret (Value.tuple #[])) [(evK 1 x), [vb false, vb false]]))))) := by kernel_rfl
theorem e_lim2 (x : Event) (H : HT) (Post : PX) : vcX Tryz.prog callC2 22 [] [(.int .i64 2 :: (eventC x).tail), [.bool false, .bool false]] argsLim H Post = (let q9 := Out.ret (Value.tuple #[]); let q4 := (toI (vi 0) ≤ w64 (w64 (0 + 1) + 1) ∧ toI (vi (w64 (w64 (0 + 1) + 1))) < (↑3 : Int)); let q7 := ((T32 (T8 (True))) ∧ (T2 (True)) ∧ True) ∧ True; let q2 := (True ∧ 2 ≤ 2 ∧ T16 (T4 (T2 (pIf (decide ((↑x.sheet.heat.size : Int) > 64)) (T2 (True ∧ 1 ≤ 2 ∧ True ∧ q7 ∧ true = true ∧ Post q9 [(evK 2 x), [vb true, vb true]])) (T2 (True ∧ 1 ≤ 2 ∧ True ∧ q7 ∧ true = true ∧ Post q9 [(evK 2 x), [vb false, vb true]])))))); let q8 := True ∧ 2 ≤ 2 ∧ T2 (True ∧ q4 ∧ T8 (T4 (T2 q2))); let q6 := (toI (vi 0) ≤ w64 (0 + 1) ∧ toI (vi (w64 (0 + 1))) < (↑3 : Int)); let q5 := True ∧ 2 ≤ 2 ∧ T16 (T4 (1 ≤ 2 ∧ True ∧ q7 ∧ true = true ∧ Post q9 [(evK 2 x), [vb true, vb true]])); let q3 := True ∧ 2 ≤ 2 ∧ T2 (True ∧ q4 ∧ T8 (T4 (T2 q5))); let q1 := (True ∧ 1 ≤ 2 ∧ T16 (T2 (True ∧ (toI (vi 0) ≤ 0 ∧ toI (vi 0) < (↑3 : Int)) ∧ T8 (T4 (T2 (True ∧ pIf (decide (x.sheet.thick < -1099511627776)) (T4 (True ∧ 2 ≤ 2 ∧ T2 (True ∧ q6 ∧ T8 (T4 (T2 q3))))) (T4 (T2 (True ∧ pIf (decide (x.sheet.thick > 1099511627776)) (T2 (True ∧ 2 ≤ 2 ∧ T2 (True ∧ q6 ∧ T8 (T4 (T2 q3))))) (T2 (True ∧ 2 ≤ 2 ∧ T2 (True ∧ q6 ∧ T8 (T4 (T2 (True ∧ pIf (decide (x.sheet.long < -1099511627776)) (T4 q3) (T4 (T2 (True ∧ pIf (decide (x.sheet.long > 1099511627776)) (T2 q3) (T2 (True ∧ 2 ≤ 2 ∧ T2 (True ∧ q4 ∧ T8 (T4 (T2 (True ∧ pIf (decide (x.sheet.width < -1099511627776)) (T4 q5) (T4 (T2 (True ∧ pIf (decide (x.sheet.width > 1099511627776)) (T2 q5) (T2 (True ∧ 2 ≤ 2 ∧ T16 (T4 (1 ≤ 2 ∧ True ∧ q7 ∧ true = true ∧ Post q9 [(evK 2 x), [vb true, vb false]]))))))))))))))))))))))))))))))); T16 (T8 ((toI (vi 0) ≤ 0 ∧ toI (vi 0) < (↑2 : Int)) ∧ T8 (T4 (T2 (True ∧ pIf (decide ((↑x.sheet.id.size : Int) > 64)) (T2 (True ∧ 1 ≤ 2 ∧ T2 (True ∧ (toI (vi 0) ≤ w64 (0 + 1) ∧ toI (vi (w64 (0 + 1))) < (↑2 : Int)) ∧ T8 (T4 q1)))) (T2 (True ∧ 1 ≤ 2 ∧ T2 (True ∧ (toI (vi 0) ≤ w64 (0 + 1) ∧ toI (vi (w64 (0 + 1))) < (↑2 : Int)) ∧ T8 (T4 (T2 (True ∧ pIf (decide ((↑x.sheet.grade.size : Int) > 64)) (T2 q1) (T2 (True ∧ 1 ≤ 2 ∧ T16 (T2 (True ∧ (toI (vi 0) ≤ 0 ∧ toI (vi 0) < (↑3 : Int)) ∧ T8 (T4 (T2 (True ∧ pIf (decide (x.sheet.thick < -1099511627776)) (T4 (True ∧ 2 ≤ 2 ∧ T2 (True ∧ q6 ∧ T8 (T4 (T2 q8))))) (T4 (T2 (True ∧ pIf (decide (x.sheet.thick > 1099511627776)) (T2 (True ∧ 2 ≤ 2 ∧ T2 (True ∧ q6 ∧ T8 (T4 (T2 q8))))) (T2 (True ∧ 2 ≤ 2 ∧ T2 (True ∧ q6 ∧ T8 (T4 (T2 (True ∧ pIf (decide (x.sheet.long < -1099511627776)) (T4 q8) (T4 (T2 (True ∧ pIf (decide (x.sheet.long > 1099511627776)) (T2 q8) (T2 (True ∧ 2 ≤ 2 ∧ T2 (True ∧ q4 ∧ T8 (T4 (T2 (True ∧ pIf (decide (x.sheet.width < -1099511627776)) (T4 q2) (T4 (T2 (True ∧ pIf (decide (x.sheet.width > 1099511627776)) (T2 q2) (T2 (True ∧ 2 ≤ 2 ∧ T16 (T4 (T2 (pIf (decide ((↑x.sheet.heat.size : Int) > 64)) (T2 (True ∧ 1 ≤ 2 ∧ True ∧ q7 ∧ true = true ∧ Post q9 [(evK 2 x), [vb true, vb false]])) (T2 (True ∧ 1 ≤ 2 ∧ True ∧ q7 ∧ true = true ∧ Post q9 [(evK 2 x), [vb false, vb false]]))))))))))))))))))))))))))))))))))))))))))))))) := by kernel_rfl
theorem e_lim3 (x : Event) (H : HT) (Post : PX) : vcX Tryz.prog callC2 22 [] [(.int .i64 3 :: (eventC x).tail), [.bool false, .bool false]] argsLim H Post = (let q3 := ((T32 (T8 (True))) ∧ (T2 (True)) ∧ True) ∧ True; let q5 := Out.ret (Value.tuple #[]); let q6 := True ∧ 2 ≤ 2 ∧ T16 (T4 (1 ≤ 2 ∧ True ∧ q3 ∧ true = true ∧ Post q5 [(evK 3 x), [vb true, vb true]])); let q4 := (toI (vi 0) ≤ w64 (w64 (0 + 1) + 1) ∧ toI (vi (w64 (w64 (0 + 1) + 1))) < (↑3 : Int)); let q2 := (True ∧ 2 ≤ 2 ∧ T16 (T4 (T2 (pIf (decide ((↑x.bar.heat.size : Int) > 64)) (T2 (True ∧ 1 ≤ 2 ∧ True ∧ q3 ∧ true = true ∧ Post q5 [(evK 3 x), [vb true, vb true]])) (T2 (True ∧ 1 ≤ 2 ∧ True ∧ q3 ∧ true = true ∧ Post q5 [(evK 3 x), [vb false, vb true]])))))); let q1 := (True ∧ 1 ≤ 2 ∧ T8 (T4 (T2 ((toI (vi 0) ≤ 0 ∧ toI (vi 0) < (↑1 : Int)) ∧ T8 (T4 (T2 (True ∧ pIf (decide (x.bar.long < -1099511627776)) (T4 q6) (T4 (T2 (True ∧ pIf (decide (x.bar.long > 1099511627776)) (T2 q6) (T2 (True ∧ 2 ≤ 2 ∧ T16 (T4 (1 ≤ 2 ∧ True ∧ q3 ∧ true = true ∧ Post q5 [(evK 3 x), [vb true, vb false]])))))))))))))); T16 (T8 (T4 ((toI (vi 0) ≤ 0 ∧ toI (vi 0) < (↑3 : Int)) ∧ T8 (T4 (T2 (True ∧ pIf (decide ((↑x.bar.id.size : Int) > 64)) (T2 (True ∧ 1 ≤ 2 ∧ T2 (True ∧ (toI (vi 0) ≤ w64 (0 + 1) ∧ toI (vi (w64 (0 + 1))) < (↑3 : Int)) ∧ T8 (T4 (True ∧ 1 ≤ 2 ∧ T2 (True ∧ q4 ∧ T8 (T4 q1))))))) (T2 (True ∧ 1 ≤ 2 ∧ T2 (True ∧ (toI (vi 0) ≤ w64 (0 + 1) ∧ toI (vi (w64 (0 + 1))) < (↑3 : Int)) ∧ T8 (T4 (T2 (True ∧ pIf (decide ((↑x.bar.sect.size : Int) > 64)) (T2 (True ∧ 1 ≤ 2 ∧ T2 (True ∧ q4 ∧ T8 (T4 q1)))) (T2 (True ∧ 1 ≤ 2 ∧ T2 (True ∧ q4 ∧ T8 (T4 (T2 (True ∧ pIf (decide ((↑x.bar.grade.size : Int) > 64)) (T2 q1) (T2 (True ∧ 1 ≤ 2 ∧ T8 (T4 (T2 ((toI (vi 0) ≤ 0 ∧ toI (vi 0) < (↑1 : Int)) ∧ T8 (T4 (T2 (True ∧ pIf (decide (x.bar.long < -1099511627776)) (T4 q2) (T4 (T2 (True ∧ pIf (decide (x.bar.long > 1099511627776)) (T2 q2) (T2 (True ∧ 2 ≤ 2 ∧ T16 (T4 (T2 (pIf (decide ((↑x.bar.heat.size : Int) > 64)) (T2 (True ∧ 1 ≤ 2 ∧ True ∧ q3 ∧ true = true ∧ Post q5 [(evK 3 x), [vb true, vb false]])) (T2 (True ∧ 1 ≤ 2 ∧ True ∧ q3 ∧ true = true ∧ Post q5 [(evK 3 x), [vb false, vb false]]))))))))))))))))))))))))))))))))))))) := by kernel_rfl
theorem e_lim4 (x : Event) (H : HT) (Post : PX) : vcX Tryz.prog callC2 22 [] [(.int .i64 4 :: (eventC x).tail), [.bool false, .bool false]] argsLim H Post = (let q1 := True ∧ 1 ≤ 2 ∧ T4 ((((T32 (T8 (True))) ∧ (T2 (True)) ∧ True) ∧ True) ∧ true = true ∧ Post (Out.ret (Value.tuple #[])) [(evK 4 x), [vb true, vb false]]); T16 (T8 ((toI (vi 0) ≤ 0 ∧ toI (vi 0) < (↑2 : Int)) ∧ T8 (T4 (T2 (True ∧ pIf (decide ((↑x.item.size : Int) > 64)) (T2 (True ∧ 1 ≤ 2 ∧ T2 (True ∧ (toI (vi 0) ≤ w64 (0 + 1) ∧ toI (vi (w64 (0 + 1))) < (↑2 : Int)) ∧ T8 (T4 q1)))) (T2 (True ∧ 1 ≤ 2 ∧ T2 (True ∧ (toI (vi 0) ≤ w64 (0 + 1) ∧ toI (vi (w64 (0 + 1))) < (↑2 : Int)) ∧ T8 (T4 (T2 (True ∧ pIf (decide ((↑x.by_.size : Int) > 64)) (T2 q1) (T2 (True ∧ 1 ≤ 2 ∧ T4 ((((T32 (T8 (True))) ∧ (T2 (True)) ∧ True) ∧ True) ∧ true = true ∧ Post (Out.ret (Value.tuple #[])) [(evK 4 x), [vb false, vb false]]))))))))))))))) := by kernel_rfl
theorem e_lim7 (x : Event) (H : HT) (Post : PX) : vcX Tryz.prog callC2 22 [] [(.int .i64 7 :: (eventC x).tail), [.bool false, .bool false]] argsLim H Post = (T32 (T4 (pIf (decide ((↑x.item.size : Int) > 64)) (T2 (True ∧ 1 ≤ 2 ∧ True ∧ (((T32 (T8 (True))) ∧ (T2 (True)) ∧ True) ∧ True) ∧ true = true ∧ Post (Out.ret (Value.tuple #[])) [(evK 7 x), [vb true, vb false]])) (T2 (True ∧ 1 ≤ 2 ∧ True ∧ (((T32 (T8 (True))) ∧ (T2 (True)) ∧ True) ∧ True) ∧ true = true ∧ Post (Out.ret (Value.tuple #[])) [(evK 7 x), [vb false, vb false]]))))) := by kernel_rfl
theorem e_lim8 (x : Event) (H : HT) (Post : PX) : vcX Tryz.prog callC2 22 [] [(.int .i64 8 :: (eventC x).tail), [.bool false, .bool false]] argsLim H Post = (T32 (T4 (T2 (pIf (decide ((↑x.item.size : Int) > 64)) (T2 (True ∧ 1 ≤ 2 ∧ True ∧ (((T32 (T8 (True))) ∧ (T2 (True)) ∧ True) ∧ True) ∧ true = true ∧ Post (Out.ret (Value.tuple #[])) [(evK 8 x), [vb true, vb false]])) (T2 (True ∧ 1 ≤ 2 ∧ True ∧ (((T32 (T8 (True))) ∧ (T2 (True)) ∧ True) ∧ True) ∧ true = true ∧ Post (Out.ret (Value.tuple #[])) [(evK 8 x), [vb false, vb false]])))))) := by kernel_rfl
theorem e_lim9 (x : Event) (H : HT) (Post : PX) : vcX Tryz.prog callC2 22 [] [(.int .i64 9 :: (eventC x).tail), [.bool false, .bool false]] argsLim H Post = (let q2 := (toI (vi 0) ≤ w64 (w64 (0 + 1) + 1) ∧ toI (vi (w64 (w64 (0 + 1) + 1))) < (↑3 : Int)); let q1 := True ∧ 1 ≤ 2 ∧ T4 ((((T32 (T8 (True))) ∧ (T2 (True)) ∧ True) ∧ True) ∧ true = true ∧ Post (Out.ret (Value.tuple #[])) [(evK 9 x), [vb true, vb false]]); T32 (T8 (True ∧ (toI (vi 0) ≤ 0 ∧ toI (vi 0) < (↑3 : Int)) ∧ T8 (T4 (T2 (True ∧ pIf (decide ((↑x.item.size : Int) > 64)) (T2 (True ∧ 1 ≤ 2 ∧ T2 (True ∧ (toI (vi 0) ≤ w64 (0 + 1) ∧ toI (vi (w64 (0 + 1))) < (↑3 : Int)) ∧ T8 (T4 (True ∧ 1 ≤ 2 ∧ T2 (True ∧ q2 ∧ T8 (T4 q1))))))) (T2 (True ∧ 1 ≤ 2 ∧ T2 (True ∧ (toI (vi 0) ≤ w64 (0 + 1) ∧ toI (vi (w64 (0 + 1))) < (↑3 : Int)) ∧ T8 (T4 (T2 (True ∧ pIf (decide ((↑x.of_.size : Int) > 64)) (T2 (True ∧ 1 ≤ 2 ∧ T2 (True ∧ q2 ∧ T8 (T4 q1)))) (T2 (True ∧ 1 ≤ 2 ∧ T2 (True ∧ q2 ∧ T8 (T4 (T2 (True ∧ pIf (decide ((↑x.by_.size : Int) > 64)) (T2 q1) (T2 (True ∧ 1 ≤ 2 ∧ T4 ((((T32 (T8 (True))) ∧ (T2 (True)) ∧ True) ∧ True) ∧ true = true ∧ Post (Out.ret (Value.tuple #[])) [(evK 9 x), [vb false, vb false]]))))))))))))))))))))) := by kernel_rfl
theorem lim1 {a : Int} {i o b : ByteArray} {n : Int} {p : Bool} {ord : Order2} {sh : Sheet6} {bar : Bar5} {nest : Nest3} {saw : Saw3} {weig : Weig} {lift : Lift2} {per : Permit3} {Post : Out → List (List Value) → Prop} (hP : Post (.ret (.tuple #[])) [eventC ⟨1, a, i, o, b, n, p, ord, sh, bar, nest, saw, weig, lift, per⟩, [.bool (longK 1 ⟨1, a, i, o, b, n, p, ord, sh, bar, nest, saw, weig, lift, per⟩), .bool (farK 1 ⟨1, a, i, o, b, n, p, ord, sh, bar, nest, saw, weig, lift, per⟩)]]) : SpecX Tryz.prog 22 2 (hpOf [eventC ⟨1, a, i, o, b, n, p, ord, sh, bar, nest, saw, weig, lift, per⟩, [.bool false, .bool false]]) argsLim (xpost 2 Post) := by
 have hX : ∀ lg fr, lg = longK 1 ⟨1, a, i, o, b, n, p, ord, sh, bar, nest, saw, weig, lift, per⟩ → fr = farK 1 ⟨1, a, i, o, b, n, p, ord, sh, bar, nest, saw, weig, lift, per⟩ → Post (.ret (.tuple #[])) [eventC ⟨1, a, i, o, b, n, p, ord, sh, bar, nest, saw, weig, lift, per⟩, [.bool lg, .bool fr]] := by rintro _ _ rfl rfl; exact hP
 refine spec_X (conts := [eventC ⟨1, a, i, o, b, n, p, ord, sh, bar, nest, saw, weig, lift, per⟩, [.bool false, .bool false]]) callC2_ok mixed (by kernel_rfl) (by kernel_rfl) [] (e_lim1 ⟨1, a, i, o, b, n, p, ord, sh, bar, nest, saw, weig, lift, per⟩ _ _) ?_
 simp only [true_and, and_true]
 repeat' (first | exact rfl | refine pIfD (fun _ => ?_) (fun _ => ?_) | refine pIfN (fun h => absurd rfl h) (fun _ => ?_) | refine And.intro ?_ ?_ | trivial | decide | (refine hX _ _ ?_ ?_ <;> (simp [longK, farK, big, off]; try omega)))
theorem lim2 {a : Int} {i o b : ByteArray} {n : Int} {p : Bool} {ord : Order2} {sh : Sheet6} {bar : Bar5} {nest : Nest3} {saw : Saw3} {weig : Weig} {lift : Lift2} {per : Permit3} {Post : Out → List (List Value) → Prop} (hP : Post (.ret (.tuple #[])) [eventC ⟨2, a, i, o, b, n, p, ord, sh, bar, nest, saw, weig, lift, per⟩, [.bool (longK 2 ⟨2, a, i, o, b, n, p, ord, sh, bar, nest, saw, weig, lift, per⟩), .bool (farK 2 ⟨2, a, i, o, b, n, p, ord, sh, bar, nest, saw, weig, lift, per⟩)]]) : SpecX Tryz.prog 22 2 (hpOf [eventC ⟨2, a, i, o, b, n, p, ord, sh, bar, nest, saw, weig, lift, per⟩, [.bool false, .bool false]]) argsLim (xpost 2 Post) := by
 have hX : ∀ lg fr, lg = longK 2 ⟨2, a, i, o, b, n, p, ord, sh, bar, nest, saw, weig, lift, per⟩ → fr = farK 2 ⟨2, a, i, o, b, n, p, ord, sh, bar, nest, saw, weig, lift, per⟩ → Post (.ret (.tuple #[])) [eventC ⟨2, a, i, o, b, n, p, ord, sh, bar, nest, saw, weig, lift, per⟩, [.bool lg, .bool fr]] := by rintro _ _ rfl rfl; exact hP
 refine spec_X (conts := [eventC ⟨2, a, i, o, b, n, p, ord, sh, bar, nest, saw, weig, lift, per⟩, [.bool false, .bool false]]) callC2_ok mixed (by kernel_rfl) (by kernel_rfl) [] (e_lim2 ⟨2, a, i, o, b, n, p, ord, sh, bar, nest, saw, weig, lift, per⟩ _ _) ?_
 simp only [true_and, and_true]
 repeat' (first | exact rfl | refine pIfD (fun _ => ?_) (fun _ => ?_) | refine pIfN (fun h => absurd rfl h) (fun _ => ?_) | refine And.intro ?_ ?_ | trivial | decide | (refine hX _ _ ?_ ?_ <;> (simp [longK, farK, big, off]; try omega)))
theorem lim3 {a : Int} {i o b : ByteArray} {n : Int} {p : Bool} {ord : Order2} {sh : Sheet6} {bar : Bar5} {nest : Nest3} {saw : Saw3} {weig : Weig} {lift : Lift2} {per : Permit3} {Post : Out → List (List Value) → Prop} (hP : Post (.ret (.tuple #[])) [eventC ⟨3, a, i, o, b, n, p, ord, sh, bar, nest, saw, weig, lift, per⟩, [.bool (longK 3 ⟨3, a, i, o, b, n, p, ord, sh, bar, nest, saw, weig, lift, per⟩), .bool (farK 3 ⟨3, a, i, o, b, n, p, ord, sh, bar, nest, saw, weig, lift, per⟩)]]) : SpecX Tryz.prog 22 2 (hpOf [eventC ⟨3, a, i, o, b, n, p, ord, sh, bar, nest, saw, weig, lift, per⟩, [.bool false, .bool false]]) argsLim (xpost 2 Post) := by
 have hX : ∀ lg fr, lg = longK 3 ⟨3, a, i, o, b, n, p, ord, sh, bar, nest, saw, weig, lift, per⟩ → fr = farK 3 ⟨3, a, i, o, b, n, p, ord, sh, bar, nest, saw, weig, lift, per⟩ → Post (.ret (.tuple #[])) [eventC ⟨3, a, i, o, b, n, p, ord, sh, bar, nest, saw, weig, lift, per⟩, [.bool lg, .bool fr]] := by rintro _ _ rfl rfl; exact hP
 refine spec_X (conts := [eventC ⟨3, a, i, o, b, n, p, ord, sh, bar, nest, saw, weig, lift, per⟩, [.bool false, .bool false]]) callC2_ok mixed (by kernel_rfl) (by kernel_rfl) [] (e_lim3 ⟨3, a, i, o, b, n, p, ord, sh, bar, nest, saw, weig, lift, per⟩ _ _) ?_
 simp only [true_and, and_true]
 repeat' (first | exact rfl | refine pIfD (fun _ => ?_) (fun _ => ?_) | refine pIfN (fun h => absurd rfl h) (fun _ => ?_) | refine And.intro ?_ ?_ | trivial | decide | (refine hX _ _ ?_ ?_ <;> (simp [longK, farK, big, off]; try omega)))
theorem lim4 {a : Int} {i o b : ByteArray} {n : Int} {p : Bool} {ord : Order2} {sh : Sheet6} {bar : Bar5} {nest : Nest3} {saw : Saw3} {weig : Weig} {lift : Lift2} {per : Permit3} {Post : Out → List (List Value) → Prop} (hP : Post (.ret (.tuple #[])) [eventC ⟨4, a, i, o, b, n, p, ord, sh, bar, nest, saw, weig, lift, per⟩, [.bool (longK 4 ⟨4, a, i, o, b, n, p, ord, sh, bar, nest, saw, weig, lift, per⟩), .bool (farK 4 ⟨4, a, i, o, b, n, p, ord, sh, bar, nest, saw, weig, lift, per⟩)]]) : SpecX Tryz.prog 22 2 (hpOf [eventC ⟨4, a, i, o, b, n, p, ord, sh, bar, nest, saw, weig, lift, per⟩, [.bool false, .bool false]]) argsLim (xpost 2 Post) := by
 have hX : ∀ lg fr, lg = longK 4 ⟨4, a, i, o, b, n, p, ord, sh, bar, nest, saw, weig, lift, per⟩ → fr = farK 4 ⟨4, a, i, o, b, n, p, ord, sh, bar, nest, saw, weig, lift, per⟩ → Post (.ret (.tuple #[])) [eventC ⟨4, a, i, o, b, n, p, ord, sh, bar, nest, saw, weig, lift, per⟩, [.bool lg, .bool fr]] := by rintro _ _ rfl rfl; exact hP
 refine spec_X (conts := [eventC ⟨4, a, i, o, b, n, p, ord, sh, bar, nest, saw, weig, lift, per⟩, [.bool false, .bool false]]) callC2_ok mixed (by kernel_rfl) (by kernel_rfl) [] (e_lim4 ⟨4, a, i, o, b, n, p, ord, sh, bar, nest, saw, weig, lift, per⟩ _ _) ?_
 simp only [true_and, and_true]
 repeat' (first | exact rfl | refine pIfD (fun _ => ?_) (fun _ => ?_) | refine pIfN (fun h => absurd rfl h) (fun _ => ?_) | refine And.intro ?_ ?_ | trivial | decide | (refine hX _ _ ?_ ?_ <;> (simp [longK, farK, big, off]; try omega)))
theorem lim7 {a : Int} {i o b : ByteArray} {n : Int} {p : Bool} {ord : Order2} {sh : Sheet6} {bar : Bar5} {nest : Nest3} {saw : Saw3} {weig : Weig} {lift : Lift2} {per : Permit3} {Post : Out → List (List Value) → Prop} (hP : Post (.ret (.tuple #[])) [eventC ⟨7, a, i, o, b, n, p, ord, sh, bar, nest, saw, weig, lift, per⟩, [.bool (longK 7 ⟨7, a, i, o, b, n, p, ord, sh, bar, nest, saw, weig, lift, per⟩), .bool (farK 7 ⟨7, a, i, o, b, n, p, ord, sh, bar, nest, saw, weig, lift, per⟩)]]) : SpecX Tryz.prog 22 2 (hpOf [eventC ⟨7, a, i, o, b, n, p, ord, sh, bar, nest, saw, weig, lift, per⟩, [.bool false, .bool false]]) argsLim (xpost 2 Post) := by
 have hX : ∀ lg fr, lg = longK 7 ⟨7, a, i, o, b, n, p, ord, sh, bar, nest, saw, weig, lift, per⟩ → fr = farK 7 ⟨7, a, i, o, b, n, p, ord, sh, bar, nest, saw, weig, lift, per⟩ → Post (.ret (.tuple #[])) [eventC ⟨7, a, i, o, b, n, p, ord, sh, bar, nest, saw, weig, lift, per⟩, [.bool lg, .bool fr]] := by rintro _ _ rfl rfl; exact hP
 refine spec_X (conts := [eventC ⟨7, a, i, o, b, n, p, ord, sh, bar, nest, saw, weig, lift, per⟩, [.bool false, .bool false]]) callC2_ok mixed (by kernel_rfl) (by kernel_rfl) [] (e_lim7 ⟨7, a, i, o, b, n, p, ord, sh, bar, nest, saw, weig, lift, per⟩ _ _) ?_
 simp only [true_and, and_true]
 repeat' (first | exact rfl | refine pIfD (fun _ => ?_) (fun _ => ?_) | refine pIfN (fun h => absurd rfl h) (fun _ => ?_) | refine And.intro ?_ ?_ | trivial | decide | (refine hX _ _ ?_ ?_ <;> (simp [longK, farK, big, off]; try omega)))
theorem lim8 {a : Int} {i o b : ByteArray} {n : Int} {p : Bool} {ord : Order2} {sh : Sheet6} {bar : Bar5} {nest : Nest3} {saw : Saw3} {weig : Weig} {lift : Lift2} {per : Permit3} {Post : Out → List (List Value) → Prop} (hP : Post (.ret (.tuple #[])) [eventC ⟨8, a, i, o, b, n, p, ord, sh, bar, nest, saw, weig, lift, per⟩, [.bool (longK 8 ⟨8, a, i, o, b, n, p, ord, sh, bar, nest, saw, weig, lift, per⟩), .bool (farK 8 ⟨8, a, i, o, b, n, p, ord, sh, bar, nest, saw, weig, lift, per⟩)]]) : SpecX Tryz.prog 22 2 (hpOf [eventC ⟨8, a, i, o, b, n, p, ord, sh, bar, nest, saw, weig, lift, per⟩, [.bool false, .bool false]]) argsLim (xpost 2 Post) := by
 have hX : ∀ lg fr, lg = longK 8 ⟨8, a, i, o, b, n, p, ord, sh, bar, nest, saw, weig, lift, per⟩ → fr = farK 8 ⟨8, a, i, o, b, n, p, ord, sh, bar, nest, saw, weig, lift, per⟩ → Post (.ret (.tuple #[])) [eventC ⟨8, a, i, o, b, n, p, ord, sh, bar, nest, saw, weig, lift, per⟩, [.bool lg, .bool fr]] := by rintro _ _ rfl rfl; exact hP
 refine spec_X (conts := [eventC ⟨8, a, i, o, b, n, p, ord, sh, bar, nest, saw, weig, lift, per⟩, [.bool false, .bool false]]) callC2_ok mixed (by kernel_rfl) (by kernel_rfl) [] (e_lim8 ⟨8, a, i, o, b, n, p, ord, sh, bar, nest, saw, weig, lift, per⟩ _ _) ?_
 simp only [true_and, and_true]
 repeat' (first | exact rfl | refine pIfD (fun _ => ?_) (fun _ => ?_) | refine pIfN (fun h => absurd rfl h) (fun _ => ?_) | refine And.intro ?_ ?_ | trivial | decide | (refine hX _ _ ?_ ?_ <;> (simp [longK, farK, big, off]; try omega)))
theorem lim9 {a : Int} {i o b : ByteArray} {n : Int} {p : Bool} {ord : Order2} {sh : Sheet6} {bar : Bar5} {nest : Nest3} {saw : Saw3} {weig : Weig} {lift : Lift2} {per : Permit3} {Post : Out → List (List Value) → Prop} (hP : Post (.ret (.tuple #[])) [eventC ⟨9, a, i, o, b, n, p, ord, sh, bar, nest, saw, weig, lift, per⟩, [.bool (longK 9 ⟨9, a, i, o, b, n, p, ord, sh, bar, nest, saw, weig, lift, per⟩), .bool (farK 9 ⟨9, a, i, o, b, n, p, ord, sh, bar, nest, saw, weig, lift, per⟩)]]) : SpecX Tryz.prog 22 2 (hpOf [eventC ⟨9, a, i, o, b, n, p, ord, sh, bar, nest, saw, weig, lift, per⟩, [.bool false, .bool false]]) argsLim (xpost 2 Post) := by
 have hX : ∀ lg fr, lg = longK 9 ⟨9, a, i, o, b, n, p, ord, sh, bar, nest, saw, weig, lift, per⟩ → fr = farK 9 ⟨9, a, i, o, b, n, p, ord, sh, bar, nest, saw, weig, lift, per⟩ → Post (.ret (.tuple #[])) [eventC ⟨9, a, i, o, b, n, p, ord, sh, bar, nest, saw, weig, lift, per⟩, [.bool lg, .bool fr]] := by rintro _ _ rfl rfl; exact hP
 refine spec_X (conts := [eventC ⟨9, a, i, o, b, n, p, ord, sh, bar, nest, saw, weig, lift, per⟩, [.bool false, .bool false]]) callC2_ok mixed (by kernel_rfl) (by kernel_rfl) [] (e_lim9 ⟨9, a, i, o, b, n, p, ord, sh, bar, nest, saw, weig, lift, per⟩ _ _) ?_
 simp only [true_and, and_true]
 repeat' (first | exact rfl | refine pIfD (fun _ => ?_) (fun _ => ?_) | refine pIfN (fun h => absurd rfl h) (fun _ => ?_) | refine And.intro ?_ ?_ | trivial | decide | (refine hX _ _ ?_ ?_ <;> (simp [longK, farK, big, off]; try omega)))
theorem e_lim10 (x : Event) (H : HT) (Post : PX) : vcX Tryz.prog callC2 22 [] [(.int .i64 10 :: (eventC x).tail), [.bool false, .bool false]] argsLim H Post = (let q1 := ((T32 (T8 (True))) ∧ (T2 (True)) ∧ True) ∧ True; let q2 := Out.ret (Value.tuple #[]); let q4 := True ∧ 2 ≤ 2 ∧ T8 (True ∧ q1 ∧ true = true ∧ Post q2 [(evK 10 x), [vb true, vb true]]); let q3 := True ∧ 2 ≤ 2 ∧ T8 (True ∧ q1 ∧ true = true ∧ Post q2 [(evK 10 x), [vb false, vb true]]); T32 (T16 (pIf (decide ((↑x.item.size : Int) > 64)) (T2 (True ∧ 1 ≤ 2 ∧ T16 (T2 (True ∧ pIf (decide (x.n < 1)) (T4 q4) (T4 (T2 (True ∧ pIf (decide (x.n > 5)) (T2 q4) (T2 (True ∧ 2 ≤ 2 ∧ T8 (True ∧ q1 ∧ true = true ∧ Post q2 [(evK 10 x), [vb true, vb false]])))))))))) (T2 (True ∧ 1 ≤ 2 ∧ T16 (T2 (True ∧ pIf (decide (x.n < 1)) (T4 q3) (T4 (T2 (True ∧ pIf (decide (x.n > 5)) (T2 q3) (T2 (True ∧ 2 ≤ 2 ∧ T8 (True ∧ q1 ∧ true = true ∧ Post q2 [(evK 10 x), [vb false, vb false]]))))))))))))) := by kernel_rfl
theorem e_lim11 (x : Event) (H : HT) (Post : PX) : vcX Tryz.prog callC2 22 [] [(.int .i64 11 :: (eventC x).tail), [.bool false, .bool false]] argsLim H Post = (let q2 := (toI (vi 0) ≤ w64 (w64 (0 + 1) + 1) ∧ toI (vi (w64 (w64 (0 + 1) + 1))) < (↑3 : Int)); let q1 := True ∧ 1 ≤ 2 ∧ T4 ((((T32 (T8 (True))) ∧ (T2 (True)) ∧ True) ∧ True) ∧ true = true ∧ Post (Out.ret (Value.tuple #[])) [(evK 11 x), [vb true, vb false]]); T32 (T8 (T2 (True ∧ (toI (vi 0) ≤ 0 ∧ toI (vi 0) < (↑3 : Int)) ∧ T8 (T4 (T2 (True ∧ pIf (decide ((↑x.item.size : Int) > 64)) (T2 (True ∧ 1 ≤ 2 ∧ T2 (True ∧ (toI (vi 0) ≤ w64 (0 + 1) ∧ toI (vi (w64 (0 + 1))) < (↑3 : Int)) ∧ T8 (T4 (True ∧ 1 ≤ 2 ∧ T2 (True ∧ q2 ∧ T8 (T4 q1))))))) (T2 (True ∧ 1 ≤ 2 ∧ T2 (True ∧ (toI (vi 0) ≤ w64 (0 + 1) ∧ toI (vi (w64 (0 + 1))) < (↑3 : Int)) ∧ T8 (T4 (T2 (True ∧ pIf (decide ((↑x.of_.size : Int) > 64)) (T2 (True ∧ 1 ≤ 2 ∧ T2 (True ∧ q2 ∧ T8 (T4 q1)))) (T2 (True ∧ 1 ≤ 2 ∧ T2 (True ∧ q2 ∧ T8 (T4 (T2 (True ∧ pIf (decide ((↑x.by_.size : Int) > 64)) (T2 q1) (T2 (True ∧ 1 ≤ 2 ∧ T4 ((((T32 (T8 (True))) ∧ (T2 (True)) ∧ True) ∧ True) ∧ true = true ∧ Post (Out.ret (Value.tuple #[])) [(evK 11 x), [vb false, vb false]])))))))))))))))))))))) := by kernel_rfl
theorem e_lim12 (x : Event) (H : HT) (Post : PX) : vcX Tryz.prog callC2 22 [] [(.int .i64 12 :: (eventC x).tail), [.bool false, .bool false]] argsLim H Post = (T32 (T8 (pIf (decide ((↑x.item.size : Int) > 64)) (T2 (True ∧ 1 ≤ 2 ∧ True ∧ (((T32 (T8 (True))) ∧ (T2 (True)) ∧ True) ∧ True) ∧ true = true ∧ Post (Out.ret (Value.tuple #[])) [(evK 12 x), [vb true, vb false]])) (T2 (True ∧ 1 ≤ 2 ∧ True ∧ (((T32 (T8 (True))) ∧ (T2 (True)) ∧ True) ∧ True) ∧ true = true ∧ Post (Out.ret (Value.tuple #[])) [(evK 12 x), [vb false, vb false]]))))) := by kernel_rfl
theorem e_lim13 (x : Event) (H : HT) (Post : PX) : vcX Tryz.prog callC2 22 [] [(.int .i64 13 :: (eventC x).tail), [.bool false, .bool false]] argsLim H Post = (let q3 := (toI (vi 0) ≤ w64 (w64 (w64 (w64 (0 + 1) + 1) + 1) + 1) ∧ toI (vi (w64 (w64 (w64 (w64 (0 + 1) + 1) + 1) + 1))) < (↑5 : Int)); let q10 := ((T32 (T8 (True))) ∧ (T2 (True)) ∧ True) ∧ True; let q5 := True ∧ 2 ≤ 2 ∧ T4 (q10 ∧ true = true ∧ Post (Out.ret (Value.tuple #[])) [(evK 13 x), [vb false, vb true]]); let q13 := True ∧ 2 ≤ 2 ∧ T2 (True ∧ q3 ∧ T8 (T4 (T2 q5))); let q6 := True ∧ 2 ≤ 2 ∧ T4 (q10 ∧ true = true ∧ Post (Out.ret (Value.tuple #[])) [(evK 13 x), [vb true, vb true]]); let q12 := True ∧ 2 ≤ 2 ∧ T2 (True ∧ q3 ∧ T8 (T4 (T2 q6))); let q4 := (toI (vi 0) ≤ w64 (w64 (0 + 1) + 1) ∧ toI (vi (w64 (w64 (0 + 1) + 1))) < (↑5 : Int)); let q8 := (toI (vi 0) ≤ w64 (w64 (w64 (0 + 1) + 1) + 1) ∧ toI (vi (w64 (w64 (w64 (0 + 1) + 1) + 1))) < (↑5 : Int)); let q1 := True ∧ 2 ≤ 2 ∧ T2 (True ∧ q8 ∧ T8 (T4 (T2 q13))); let q11 := True ∧ 2 ≤ 2 ∧ T2 (True ∧ q4 ∧ T8 (T4 (T2 q1))); let q2 := True ∧ 2 ≤ 2 ∧ T2 (True ∧ q8 ∧ T8 (T4 (T2 q12))); let q9 := True ∧ 2 ≤ 2 ∧ T2 (True ∧ q4 ∧ T8 (T4 (T2 q2))); let q7 := (toI (vi 0) ≤ w64 (0 + 1) ∧ toI (vi (w64 (0 + 1))) < (↑5 : Int)); T32 (T16 (T4 (T2 (pIf (decide ((↑x.weig.block.size : Int) > 64)) (T2 (True ∧ 1 ≤ 2 ∧ T16 (T8 (True ∧ (toI (vi 0) ≤ 0 ∧ toI (vi 0) < (↑5 : Int)) ∧ T8 (T4 (T2 (True ∧ pIf (decide (x.weig.mass < -1099511627776)) (T4 (True ∧ 2 ≤ 2 ∧ T2 (True ∧ q7 ∧ T8 (T4 (T2 q9))))) (T4 (T2 (True ∧ pIf (decide (x.weig.mass > 1099511627776)) (T2 (True ∧ 2 ≤ 2 ∧ T2 (True ∧ q7 ∧ T8 (T4 (T2 q9))))) (T2 (True ∧ 2 ≤ 2 ∧ T2 (True ∧ q7 ∧ T8 (T4 (T2 (True ∧ pIf (decide (x.weig.centre.x < -1099511627776)) (T4 q9) (T4 (T2 (True ∧ pIf (decide (x.weig.centre.x > 1099511627776)) (T2 q9) (T2 (True ∧ 2 ≤ 2 ∧ T2 (True ∧ q4 ∧ T8 (T4 (T2 (True ∧ pIf (decide (x.weig.centre.y < -1099511627776)) (T4 q2) (T4 (T2 (True ∧ pIf (decide (x.weig.centre.y > 1099511627776)) (T2 q2) (T2 (True ∧ 2 ≤ 2 ∧ T2 (True ∧ q8 ∧ T8 (T4 (T2 (True ∧ pIf (decide (x.weig.centre.z < -1099511627776)) (T4 q12) (T4 (T2 (True ∧ pIf (decide (x.weig.centre.z > 1099511627776)) (T2 q12) (T2 (True ∧ 2 ≤ 2 ∧ T2 (True ∧ q3 ∧ T8 (T4 (T2 (True ∧ pIf (decide (x.weig.sigma < -1099511627776)) (T4 q6) (T4 (T2 (True ∧ pIf (decide (x.weig.sigma > 1099511627776)) (T2 q6) (T2 (True ∧ 2 ≤ 2 ∧ T4 (q10 ∧ true = true ∧ Post (Out.ret (Value.tuple #[])) [(evK 13 x), [vb true, vb false]]))))))))))))))))))))))))))))))))))))))))))))))))) (T2 (True ∧ 1 ≤ 2 ∧ T16 (T8 (True ∧ (toI (vi 0) ≤ 0 ∧ toI (vi 0) < (↑5 : Int)) ∧ T8 (T4 (T2 (True ∧ pIf (decide (x.weig.mass < -1099511627776)) (T4 (True ∧ 2 ≤ 2 ∧ T2 (True ∧ q7 ∧ T8 (T4 (T2 q11))))) (T4 (T2 (True ∧ pIf (decide (x.weig.mass > 1099511627776)) (T2 (True ∧ 2 ≤ 2 ∧ T2 (True ∧ q7 ∧ T8 (T4 (T2 q11))))) (T2 (True ∧ 2 ≤ 2 ∧ T2 (True ∧ q7 ∧ T8 (T4 (T2 (True ∧ pIf (decide (x.weig.centre.x < -1099511627776)) (T4 q11) (T4 (T2 (True ∧ pIf (decide (x.weig.centre.x > 1099511627776)) (T2 q11) (T2 (True ∧ 2 ≤ 2 ∧ T2 (True ∧ q4 ∧ T8 (T4 (T2 (True ∧ pIf (decide (x.weig.centre.y < -1099511627776)) (T4 q1) (T4 (T2 (True ∧ pIf (decide (x.weig.centre.y > 1099511627776)) (T2 q1) (T2 (True ∧ 2 ≤ 2 ∧ T2 (True ∧ q8 ∧ T8 (T4 (T2 (True ∧ pIf (decide (x.weig.centre.z < -1099511627776)) (T4 q13) (T4 (T2 (True ∧ pIf (decide (x.weig.centre.z > 1099511627776)) (T2 q13) (T2 (True ∧ 2 ≤ 2 ∧ T2 (True ∧ q3 ∧ T8 (T4 (T2 (True ∧ pIf (decide (x.weig.sigma < -1099511627776)) (T4 q5) (T4 (T2 (True ∧ pIf (decide (x.weig.sigma > 1099511627776)) (T2 q5) (T2 (True ∧ 2 ≤ 2 ∧ T4 (q10 ∧ true = true ∧ Post (Out.ret (Value.tuple #[])) [(evK 13 x), [vb false, vb false]])))))))))))))))))))))))))))))))))))))))))))))))))))))) := by kernel_rfl
theorem e_lim15 (x : Event) (H : HT) (Post : PX) : vcX Tryz.prog callC2 22 [] [(.int .i64 15 :: (eventC x).tail), [.bool false, .bool false]] argsLim H Post = (let q3 := ((T32 (T8 (True))) ∧ (T2 (True)) ∧ True) ∧ True; let q7 := True ∧ 2 ≤ 2 ∧ T4 (q3 ∧ true = true ∧ Post (Out.ret (Value.tuple #[])) [(evK 15 x), [vb true, vb true]]); let q6 := True ∧ 2 ≤ 2 ∧ T4 (q3 ∧ true = true ∧ Post (Out.ret (Value.tuple #[])) [(evK 15 x), [vb false, vb true]]); let q5 := (toI (vi 0) ≤ w64 (w64 (0 + 1) + 1) ∧ toI (vi (w64 (w64 (0 + 1) + 1))) < (↑3 : Int)); let q4 := (toI (vi 0) ≤ w64 (0 + 1) ∧ toI (vi (w64 (0 + 1))) < (↑3 : Int)); let q2 := True ∧ 2 ≤ 2 ∧ T2 (True ∧ q5 ∧ T8 (T4 (T2 q7))); let q1 := True ∧ 2 ≤ 2 ∧ T2 (True ∧ q5 ∧ T8 (T4 (T2 q6))); T32 (T16 (T4 (T2 (True ∧ pIf (decide ((↑x.permit.id.size : Int) > 64)) (T2 (True ∧ 1 ≤ 2 ∧ T16 (T4 (True ∧ (toI (vi 0) ≤ 0 ∧ toI (vi 0) < (↑3 : Int)) ∧ T8 (T4 (T2 (True ∧ pIf (decide (x.permit.kind < -1099511627776)) (T4 (True ∧ 2 ≤ 2 ∧ T2 (True ∧ q4 ∧ T8 (T4 (T2 q2))))) (T4 (T2 (True ∧ pIf (decide (x.permit.kind > 1099511627776)) (T2 (True ∧ 2 ≤ 2 ∧ T2 (True ∧ q4 ∧ T8 (T4 (T2 q2))))) (T2 (True ∧ 2 ≤ 2 ∧ T2 (True ∧ q4 ∧ T8 (T4 (T2 (True ∧ pIf (decide (x.permit.time.a < -1099511627776)) (T4 q2) (T4 (T2 (True ∧ pIf (decide (x.permit.time.a > 1099511627776)) (T2 q2) (T2 (True ∧ 2 ≤ 2 ∧ T2 (True ∧ q5 ∧ T8 (T4 (T2 (True ∧ pIf (decide (x.permit.time.b < -1099511627776)) (T4 q7) (T4 (T2 (True ∧ pIf (decide (x.permit.time.b > 1099511627776)) (T2 q7) (T2 (True ∧ 2 ≤ 2 ∧ T4 (q3 ∧ true = true ∧ Post (Out.ret (Value.tuple #[])) [(evK 15 x), [vb true, vb false]]))))))))))))))))))))))))))))))) (T2 (True ∧ 1 ≤ 2 ∧ T16 (T4 (True ∧ (toI (vi 0) ≤ 0 ∧ toI (vi 0) < (↑3 : Int)) ∧ T8 (T4 (T2 (True ∧ pIf (decide (x.permit.kind < -1099511627776)) (T4 (True ∧ 2 ≤ 2 ∧ T2 (True ∧ q4 ∧ T8 (T4 (T2 q1))))) (T4 (T2 (True ∧ pIf (decide (x.permit.kind > 1099511627776)) (T2 (True ∧ 2 ≤ 2 ∧ T2 (True ∧ q4 ∧ T8 (T4 (T2 q1))))) (T2 (True ∧ 2 ≤ 2 ∧ T2 (True ∧ q4 ∧ T8 (T4 (T2 (True ∧ pIf (decide (x.permit.time.a < -1099511627776)) (T4 q1) (T4 (T2 (True ∧ pIf (decide (x.permit.time.a > 1099511627776)) (T2 q1) (T2 (True ∧ 2 ≤ 2 ∧ T2 (True ∧ q5 ∧ T8 (T4 (T2 (True ∧ pIf (decide (x.permit.time.b < -1099511627776)) (T4 q6) (T4 (T2 (True ∧ pIf (decide (x.permit.time.b > 1099511627776)) (T2 q6) (T2 (True ∧ 2 ≤ 2 ∧ T4 (q3 ∧ true = true ∧ Post (Out.ret (Value.tuple #[])) [(evK 15 x), [vb false, vb false]])))))))))))))))))))))))))))))))))))) := by kernel_rfl
theorem e_lim16 (x : Event) (H : HT) (Post : PX) : vcX Tryz.prog callC2 22 [] [(.int .i64 16 :: (eventC x).tail), [.bool false, .bool false]] argsLim H Post = (T32 (T8 (T2 (pIf (decide ((↑x.item.size : Int) > 64)) (T2 (True ∧ 1 ≤ 2 ∧ True ∧ (((T32 (T8 (True))) ∧ (T2 (True)) ∧ True) ∧ True) ∧ true = true ∧ Post (Out.ret (Value.tuple #[])) [(evK 16 x), [vb true, vb false]])) (T2 (True ∧ 1 ≤ 2 ∧ True ∧ (((T32 (T8 (True))) ∧ (T2 (True)) ∧ True) ∧ True) ∧ true = true ∧ Post (Out.ret (Value.tuple #[])) [(evK 16 x), [vb false, vb false]])))))) := by kernel_rfl
theorem e_lim17 (x : Event) (H : HT) (Post : PX) : vcX Tryz.prog callC2 22 [] [(.int .i64 17 :: (eventC x).tail), [.bool false, .bool false]] argsLim H Post = (T32 (T4 ((((T32 (T8 (True))) ∧ (T2 (True)) ∧ True) ∧ True) ∧ true = true ∧ Post (Out.ret (Value.tuple #[])) [(evK 17 x), [vb false, vb false]]))) := by kernel_rfl
theorem e_lim18 (x : Event) (H : HT) (Post : PX) : vcX Tryz.prog callC2 22 [] [(.int .i64 18 :: (eventC x).tail), [.bool false, .bool false]] argsLim H Post = (T32 (T4 ((((T32 (T8 (True))) ∧ (T2 (True)) ∧ True) ∧ True) ∧ true = true ∧ Post (Out.ret (Value.tuple #[])) [(evK 18 x), [vb false, vb false]]))) := by kernel_rfl
theorem lim10 {a : Int} {i o b : ByteArray} {n : Int} {p : Bool} {ord : Order2} {sh : Sheet6} {bar : Bar5} {nest : Nest3} {saw : Saw3} {weig : Weig} {lift : Lift2} {per : Permit3} {Post : Out → List (List Value) → Prop} (hP : Post (.ret (.tuple #[])) [eventC ⟨10, a, i, o, b, n, p, ord, sh, bar, nest, saw, weig, lift, per⟩, [.bool (longK 10 ⟨10, a, i, o, b, n, p, ord, sh, bar, nest, saw, weig, lift, per⟩), .bool (farK 10 ⟨10, a, i, o, b, n, p, ord, sh, bar, nest, saw, weig, lift, per⟩)]]) : SpecX Tryz.prog 22 2 (hpOf [eventC ⟨10, a, i, o, b, n, p, ord, sh, bar, nest, saw, weig, lift, per⟩, [.bool false, .bool false]]) argsLim (xpost 2 Post) := by
 have hX : ∀ lg fr, lg = longK 10 ⟨10, a, i, o, b, n, p, ord, sh, bar, nest, saw, weig, lift, per⟩ → fr = farK 10 ⟨10, a, i, o, b, n, p, ord, sh, bar, nest, saw, weig, lift, per⟩ → Post (.ret (.tuple #[])) [eventC ⟨10, a, i, o, b, n, p, ord, sh, bar, nest, saw, weig, lift, per⟩, [.bool lg, .bool fr]] := by rintro _ _ rfl rfl; exact hP
 refine spec_X (conts := [eventC ⟨10, a, i, o, b, n, p, ord, sh, bar, nest, saw, weig, lift, per⟩, [.bool false, .bool false]]) callC2_ok mixed (by kernel_rfl) (by kernel_rfl) [] (e_lim10 ⟨10, a, i, o, b, n, p, ord, sh, bar, nest, saw, weig, lift, per⟩ _ _) ?_
 simp only [true_and, and_true]
 repeat' (first | exact rfl | refine pIfD (fun _ => ?_) (fun _ => ?_) | refine pIfN (fun h => absurd rfl h) (fun _ => ?_) | refine And.intro ?_ ?_ | trivial | decide | (refine hX _ _ ?_ ?_ <;> (simp [longK, farK, big, off]; try omega)))
theorem lim11 {a : Int} {i o b : ByteArray} {n : Int} {p : Bool} {ord : Order2} {sh : Sheet6} {bar : Bar5} {nest : Nest3} {saw : Saw3} {weig : Weig} {lift : Lift2} {per : Permit3} {Post : Out → List (List Value) → Prop} (hP : Post (.ret (.tuple #[])) [eventC ⟨11, a, i, o, b, n, p, ord, sh, bar, nest, saw, weig, lift, per⟩, [.bool (longK 11 ⟨11, a, i, o, b, n, p, ord, sh, bar, nest, saw, weig, lift, per⟩), .bool (farK 11 ⟨11, a, i, o, b, n, p, ord, sh, bar, nest, saw, weig, lift, per⟩)]]) : SpecX Tryz.prog 22 2 (hpOf [eventC ⟨11, a, i, o, b, n, p, ord, sh, bar, nest, saw, weig, lift, per⟩, [.bool false, .bool false]]) argsLim (xpost 2 Post) := by
 have hX : ∀ lg fr, lg = longK 11 ⟨11, a, i, o, b, n, p, ord, sh, bar, nest, saw, weig, lift, per⟩ → fr = farK 11 ⟨11, a, i, o, b, n, p, ord, sh, bar, nest, saw, weig, lift, per⟩ → Post (.ret (.tuple #[])) [eventC ⟨11, a, i, o, b, n, p, ord, sh, bar, nest, saw, weig, lift, per⟩, [.bool lg, .bool fr]] := by rintro _ _ rfl rfl; exact hP
 refine spec_X (conts := [eventC ⟨11, a, i, o, b, n, p, ord, sh, bar, nest, saw, weig, lift, per⟩, [.bool false, .bool false]]) callC2_ok mixed (by kernel_rfl) (by kernel_rfl) [] (e_lim11 ⟨11, a, i, o, b, n, p, ord, sh, bar, nest, saw, weig, lift, per⟩ _ _) ?_
 simp only [true_and, and_true]
 repeat' (first | exact rfl | refine pIfD (fun _ => ?_) (fun _ => ?_) | refine pIfN (fun h => absurd rfl h) (fun _ => ?_) | refine And.intro ?_ ?_ | trivial | decide | (refine hX _ _ ?_ ?_ <;> (simp [longK, farK, big, off]; try omega)))
theorem lim12 {a : Int} {i o b : ByteArray} {n : Int} {p : Bool} {ord : Order2} {sh : Sheet6} {bar : Bar5} {nest : Nest3} {saw : Saw3} {weig : Weig} {lift : Lift2} {per : Permit3} {Post : Out → List (List Value) → Prop} (hP : Post (.ret (.tuple #[])) [eventC ⟨12, a, i, o, b, n, p, ord, sh, bar, nest, saw, weig, lift, per⟩, [.bool (longK 12 ⟨12, a, i, o, b, n, p, ord, sh, bar, nest, saw, weig, lift, per⟩), .bool (farK 12 ⟨12, a, i, o, b, n, p, ord, sh, bar, nest, saw, weig, lift, per⟩)]]) : SpecX Tryz.prog 22 2 (hpOf [eventC ⟨12, a, i, o, b, n, p, ord, sh, bar, nest, saw, weig, lift, per⟩, [.bool false, .bool false]]) argsLim (xpost 2 Post) := by
 have hX : ∀ lg fr, lg = longK 12 ⟨12, a, i, o, b, n, p, ord, sh, bar, nest, saw, weig, lift, per⟩ → fr = farK 12 ⟨12, a, i, o, b, n, p, ord, sh, bar, nest, saw, weig, lift, per⟩ → Post (.ret (.tuple #[])) [eventC ⟨12, a, i, o, b, n, p, ord, sh, bar, nest, saw, weig, lift, per⟩, [.bool lg, .bool fr]] := by rintro _ _ rfl rfl; exact hP
 refine spec_X (conts := [eventC ⟨12, a, i, o, b, n, p, ord, sh, bar, nest, saw, weig, lift, per⟩, [.bool false, .bool false]]) callC2_ok mixed (by kernel_rfl) (by kernel_rfl) [] (e_lim12 ⟨12, a, i, o, b, n, p, ord, sh, bar, nest, saw, weig, lift, per⟩ _ _) ?_
 simp only [true_and, and_true]
 repeat' (first | exact rfl | refine pIfD (fun _ => ?_) (fun _ => ?_) | refine pIfN (fun h => absurd rfl h) (fun _ => ?_) | refine And.intro ?_ ?_ | trivial | decide | (refine hX _ _ ?_ ?_ <;> (simp [longK, farK, big, off]; try omega)))
theorem lim13 {a : Int} {i o b : ByteArray} {n : Int} {p : Bool} {ord : Order2} {sh : Sheet6} {bar : Bar5} {nest : Nest3} {saw : Saw3} {weig : Weig} {lift : Lift2} {per : Permit3} {Post : Out → List (List Value) → Prop} (hP : Post (.ret (.tuple #[])) [eventC ⟨13, a, i, o, b, n, p, ord, sh, bar, nest, saw, weig, lift, per⟩, [.bool (longK 13 ⟨13, a, i, o, b, n, p, ord, sh, bar, nest, saw, weig, lift, per⟩), .bool (farK 13 ⟨13, a, i, o, b, n, p, ord, sh, bar, nest, saw, weig, lift, per⟩)]]) : SpecX Tryz.prog 22 2 (hpOf [eventC ⟨13, a, i, o, b, n, p, ord, sh, bar, nest, saw, weig, lift, per⟩, [.bool false, .bool false]]) argsLim (xpost 2 Post) := by
 have hX : ∀ lg fr, lg = longK 13 ⟨13, a, i, o, b, n, p, ord, sh, bar, nest, saw, weig, lift, per⟩ → fr = farK 13 ⟨13, a, i, o, b, n, p, ord, sh, bar, nest, saw, weig, lift, per⟩ → Post (.ret (.tuple #[])) [eventC ⟨13, a, i, o, b, n, p, ord, sh, bar, nest, saw, weig, lift, per⟩, [.bool lg, .bool fr]] := by rintro _ _ rfl rfl; exact hP
 refine spec_X (conts := [eventC ⟨13, a, i, o, b, n, p, ord, sh, bar, nest, saw, weig, lift, per⟩, [.bool false, .bool false]]) callC2_ok mixed (by kernel_rfl) (by kernel_rfl) [] (e_lim13 ⟨13, a, i, o, b, n, p, ord, sh, bar, nest, saw, weig, lift, per⟩ _ _) ?_
 simp only [true_and, and_true]
 repeat' (first | exact rfl | refine pIfD (fun _ => ?_) (fun _ => ?_) | refine pIfN (fun h => absurd rfl h) (fun _ => ?_) | refine And.intro ?_ ?_ | trivial | decide | (refine hX _ _ ?_ ?_ <;> (simp [longK, farK, big, off]; try omega)))
theorem lim15 {a : Int} {i o b : ByteArray} {n : Int} {p : Bool} {ord : Order2} {sh : Sheet6} {bar : Bar5} {nest : Nest3} {saw : Saw3} {weig : Weig} {lift : Lift2} {per : Permit3} {Post : Out → List (List Value) → Prop} (hP : Post (.ret (.tuple #[])) [eventC ⟨15, a, i, o, b, n, p, ord, sh, bar, nest, saw, weig, lift, per⟩, [.bool (longK 15 ⟨15, a, i, o, b, n, p, ord, sh, bar, nest, saw, weig, lift, per⟩), .bool (farK 15 ⟨15, a, i, o, b, n, p, ord, sh, bar, nest, saw, weig, lift, per⟩)]]) : SpecX Tryz.prog 22 2 (hpOf [eventC ⟨15, a, i, o, b, n, p, ord, sh, bar, nest, saw, weig, lift, per⟩, [.bool false, .bool false]]) argsLim (xpost 2 Post) := by
 have hX : ∀ lg fr, lg = longK 15 ⟨15, a, i, o, b, n, p, ord, sh, bar, nest, saw, weig, lift, per⟩ → fr = farK 15 ⟨15, a, i, o, b, n, p, ord, sh, bar, nest, saw, weig, lift, per⟩ → Post (.ret (.tuple #[])) [eventC ⟨15, a, i, o, b, n, p, ord, sh, bar, nest, saw, weig, lift, per⟩, [.bool lg, .bool fr]] := by rintro _ _ rfl rfl; exact hP
 refine spec_X (conts := [eventC ⟨15, a, i, o, b, n, p, ord, sh, bar, nest, saw, weig, lift, per⟩, [.bool false, .bool false]]) callC2_ok mixed (by kernel_rfl) (by kernel_rfl) [] (e_lim15 ⟨15, a, i, o, b, n, p, ord, sh, bar, nest, saw, weig, lift, per⟩ _ _) ?_
 simp only [true_and, and_true]
 repeat' (first | exact rfl | refine pIfD (fun _ => ?_) (fun _ => ?_) | refine pIfN (fun h => absurd rfl h) (fun _ => ?_) | refine And.intro ?_ ?_ | trivial | decide | (refine hX _ _ ?_ ?_ <;> (simp [longK, farK, big, off]; try omega)))
theorem lim16 {a : Int} {i o b : ByteArray} {n : Int} {p : Bool} {ord : Order2} {sh : Sheet6} {bar : Bar5} {nest : Nest3} {saw : Saw3} {weig : Weig} {lift : Lift2} {per : Permit3} {Post : Out → List (List Value) → Prop} (hP : Post (.ret (.tuple #[])) [eventC ⟨16, a, i, o, b, n, p, ord, sh, bar, nest, saw, weig, lift, per⟩, [.bool (longK 16 ⟨16, a, i, o, b, n, p, ord, sh, bar, nest, saw, weig, lift, per⟩), .bool (farK 16 ⟨16, a, i, o, b, n, p, ord, sh, bar, nest, saw, weig, lift, per⟩)]]) : SpecX Tryz.prog 22 2 (hpOf [eventC ⟨16, a, i, o, b, n, p, ord, sh, bar, nest, saw, weig, lift, per⟩, [.bool false, .bool false]]) argsLim (xpost 2 Post) := by
 have hX : ∀ lg fr, lg = longK 16 ⟨16, a, i, o, b, n, p, ord, sh, bar, nest, saw, weig, lift, per⟩ → fr = farK 16 ⟨16, a, i, o, b, n, p, ord, sh, bar, nest, saw, weig, lift, per⟩ → Post (.ret (.tuple #[])) [eventC ⟨16, a, i, o, b, n, p, ord, sh, bar, nest, saw, weig, lift, per⟩, [.bool lg, .bool fr]] := by rintro _ _ rfl rfl; exact hP
 refine spec_X (conts := [eventC ⟨16, a, i, o, b, n, p, ord, sh, bar, nest, saw, weig, lift, per⟩, [.bool false, .bool false]]) callC2_ok mixed (by kernel_rfl) (by kernel_rfl) [] (e_lim16 ⟨16, a, i, o, b, n, p, ord, sh, bar, nest, saw, weig, lift, per⟩ _ _) ?_
 simp only [true_and, and_true]
 repeat' (first | exact rfl | refine pIfD (fun _ => ?_) (fun _ => ?_) | refine pIfN (fun h => absurd rfl h) (fun _ => ?_) | refine And.intro ?_ ?_ | trivial | decide | (refine hX _ _ ?_ ?_ <;> (simp [longK, farK, big, off]; try omega)))
theorem lim17 {a : Int} {i o b : ByteArray} {n : Int} {p : Bool} {ord : Order2} {sh : Sheet6} {bar : Bar5} {nest : Nest3} {saw : Saw3} {weig : Weig} {lift : Lift2} {per : Permit3} {Post : Out → List (List Value) → Prop} (hP : Post (.ret (.tuple #[])) [eventC ⟨17, a, i, o, b, n, p, ord, sh, bar, nest, saw, weig, lift, per⟩, [.bool (longK 17 ⟨17, a, i, o, b, n, p, ord, sh, bar, nest, saw, weig, lift, per⟩), .bool (farK 17 ⟨17, a, i, o, b, n, p, ord, sh, bar, nest, saw, weig, lift, per⟩)]]) : SpecX Tryz.prog 22 2 (hpOf [eventC ⟨17, a, i, o, b, n, p, ord, sh, bar, nest, saw, weig, lift, per⟩, [.bool false, .bool false]]) argsLim (xpost 2 Post) := by
 have hX : ∀ lg fr, lg = longK 17 ⟨17, a, i, o, b, n, p, ord, sh, bar, nest, saw, weig, lift, per⟩ → fr = farK 17 ⟨17, a, i, o, b, n, p, ord, sh, bar, nest, saw, weig, lift, per⟩ → Post (.ret (.tuple #[])) [eventC ⟨17, a, i, o, b, n, p, ord, sh, bar, nest, saw, weig, lift, per⟩, [.bool lg, .bool fr]] := by rintro _ _ rfl rfl; exact hP
 refine spec_X (conts := [eventC ⟨17, a, i, o, b, n, p, ord, sh, bar, nest, saw, weig, lift, per⟩, [.bool false, .bool false]]) callC2_ok mixed (by kernel_rfl) (by kernel_rfl) [] (e_lim17 ⟨17, a, i, o, b, n, p, ord, sh, bar, nest, saw, weig, lift, per⟩ _ _) ?_
 simp only [true_and, and_true]
 repeat' (first | exact rfl | refine pIfD (fun _ => ?_) (fun _ => ?_) | refine pIfN (fun h => absurd rfl h) (fun _ => ?_) | refine And.intro ?_ ?_ | trivial | decide | (refine hX _ _ ?_ ?_ <;> (simp [longK, farK, big, off]; try omega)))
theorem lim18 {a : Int} {i o b : ByteArray} {n : Int} {p : Bool} {ord : Order2} {sh : Sheet6} {bar : Bar5} {nest : Nest3} {saw : Saw3} {weig : Weig} {lift : Lift2} {per : Permit3} {Post : Out → List (List Value) → Prop} (hP : Post (.ret (.tuple #[])) [eventC ⟨18, a, i, o, b, n, p, ord, sh, bar, nest, saw, weig, lift, per⟩, [.bool (longK 18 ⟨18, a, i, o, b, n, p, ord, sh, bar, nest, saw, weig, lift, per⟩), .bool (farK 18 ⟨18, a, i, o, b, n, p, ord, sh, bar, nest, saw, weig, lift, per⟩)]]) : SpecX Tryz.prog 22 2 (hpOf [eventC ⟨18, a, i, o, b, n, p, ord, sh, bar, nest, saw, weig, lift, per⟩, [.bool false, .bool false]]) argsLim (xpost 2 Post) := by
 have hX : ∀ lg fr, lg = longK 18 ⟨18, a, i, o, b, n, p, ord, sh, bar, nest, saw, weig, lift, per⟩ → fr = farK 18 ⟨18, a, i, o, b, n, p, ord, sh, bar, nest, saw, weig, lift, per⟩ → Post (.ret (.tuple #[])) [eventC ⟨18, a, i, o, b, n, p, ord, sh, bar, nest, saw, weig, lift, per⟩, [.bool lg, .bool fr]] := by rintro _ _ rfl rfl; exact hP
 refine spec_X (conts := [eventC ⟨18, a, i, o, b, n, p, ord, sh, bar, nest, saw, weig, lift, per⟩, [.bool false, .bool false]]) callC2_ok mixed (by kernel_rfl) (by kernel_rfl) [] (e_lim18 ⟨18, a, i, o, b, n, p, ord, sh, bar, nest, saw, weig, lift, per⟩ _ _) ?_
 simp only [true_and, and_true]
 repeat' (first | exact rfl | refine pIfD (fun _ => ?_) (fun _ => ?_) | refine pIfN (fun h => absurd rfl h) (fun _ => ?_) | refine And.intro ?_ ?_ | trivial | decide | (refine hX _ _ ?_ ?_ <;> (simp [longK, farK, big, off]; try omega)))
theorem e_lim5 (x : Event) (H : HT) (Post : PX) : vcX Tryz.prog callC2 22 [(19, [0, 1, 132, 133])] [(.int .i64 5 :: (eventC x).tail), [.bool false, .bool false]] argsLim H Post = (let t20 := [vs x.nest.sheet, vi x.nest.gap, Value.slice (some (Addr.mk 2 0 none)) (Int.toNat (↑x.nest.spots.length : Int)) 5, vs x.saw.bar, vi x.saw.kerf, tree 1 x.saw.parts.length (encL x.saw.parts), vs x.weig.block, vi x.weig.at_, vi x.weig.mass, vi x.weig.centre.x, vi x.weig.centre.y, vi x.weig.centre.z, vi x.weig.sigma, tree 1 x.weig.parts.length (encL x.weig.parts), vs x.lift.block, tree 4 x.lift.hooks.length (encL x.lift.hooks), vs x.permit.id, vi x.permit.kind, vi x.permit.time.a, vi x.permit.time.b]; let h20 := fun (t : List Value) => vi 5 :: vi x.at_ :: vs x.item :: vs x.of_ :: vs x.by_ :: vi x.n :: vb x.pass :: vs x.order.id :: tree 38 x.order.edits.length (encL x.order.edits) :: vs x.sheet.id :: vs x.sheet.grade :: vi x.sheet.thick :: vi x.sheet.long :: vi x.sheet.width :: vs x.sheet.heat :: vs x.bar.id :: vs x.bar.sect :: vs x.bar.grade :: vi x.bar.long :: vs x.bar.heat :: t; let q2 := (↑x.nest.spots.length : Int); let q5 := zrow (Int.toNat q2) [vz, vi 0, vi 0, vi 0, vb false]; let q11 := (2, some (AObj.cells q5 true)); let q10 := 0 ≤ q2 ∧ q2 ≤ q2 ∧ q2 ≤ 2 ^ 25; let q9 := (0, some (AObj.cells (evK 5 x) true)); let q8 := (0, some (AObj.cells (h20 t20) true)); let q7 := [(0, some (pt 0)), (1, some (Value.iface 67 (pt 1))), (132, some (vi q2)), (133, some (vi 0))]; let q6 := [(0, some (pt 0)), (1, some (Value.iface 67 (pt 1))), (132, some (vi (↑(Int.toNat q2) : Int))), (133, some (vi 0))]; let q4 := T2 (True ∧ 1 ≤ 2 ∧ T8 (T2 (pIf (!decide (q2 = q2)) (T2 (q10 ∧ True ∧ 23 ≤ 40 ∧ T8 ((T2 (NLs q5 ∧ True)) ∧ H (lpC Tryz.prog 22 19) (lpK Tryz.prog 22 19) (stV q6 [q8, (1, some (AObj.cells [vb true, vb false] true)), q11] 3)))) (T8 ((T2 (True)) ∧ H (lpC Tryz.prog 22 19) (lpK Tryz.prog 22 19) (stV q7 [q9, (1, some (AObj.cells [vb true, vb false] true))] 2)))))); let q1 := T2 (True ∧ 1 ≤ 2 ∧ T8 (T2 (pIf (!decide (q2 = q2)) (T2 (q10 ∧ True ∧ 23 ≤ 40 ∧ T8 ((T2 (NLs q5 ∧ True)) ∧ H (lpC Tryz.prog 22 19) (lpK Tryz.prog 22 19) (stV q6 [q8, (1, some (AObj.cells [vb true, vb true] true)), q11] 3)))) (T8 ((T2 (True)) ∧ H (lpC Tryz.prog 22 19) (lpK Tryz.prog 22 19) (stV q7 [q9, (1, some (AObj.cells [vb true, vb true] true))] 2)))))); let q3 := True ∧ 2 ≤ 2 ∧ T16 (T8 (T2 (True ∧ pIf (decide (q2 > 32)) q1 (T2 (True ∧ 1 ≤ 2 ∧ T8 (T2 (pIf (!decide (q2 = q2)) (T2 (q10 ∧ True ∧ 23 ≤ 40 ∧ T8 ((T2 (NLs q5 ∧ True)) ∧ H (lpC Tryz.prog 22 19) (lpK Tryz.prog 22 19) (stV q6 [q8, (1, some (AObj.cells [vb false, vb true] true)), q11] 3)))) (T8 ((T2 (True)) ∧ H (lpC Tryz.prog 22 19) (lpK Tryz.prog 22 19) (stV q7 [q9, (1, some (AObj.cells [vb false, vb true] true))] 2)))))))))); T32 (True ∧ pIf (decide ((↑x.nest.sheet.size : Int) > 64)) (T2 (True ∧ 1 ≤ 2 ∧ T8 (T2 (True ∧ (toI (vi 0) ≤ 0 ∧ toI (vi 0) < (↑1 : Int)) ∧ T8 (T4 (T2 (True ∧ pIf (decide (x.nest.gap < -1099511627776)) (T4 (True ∧ 2 ≤ 2 ∧ T16 (T8 q1))) (T4 (T2 (True ∧ pIf (decide (x.nest.gap > 1099511627776)) (T2 (True ∧ 2 ≤ 2 ∧ T16 (T8 q1))) (T2 (True ∧ 2 ≤ 2 ∧ T16 (T8 q4))))))))))))) (T2 (True ∧ 1 ≤ 2 ∧ T8 (T2 (True ∧ (toI (vi 0) ≤ 0 ∧ toI (vi 0) < (↑1 : Int)) ∧ T8 (T4 (T2 (True ∧ pIf (decide (x.nest.gap < -1099511627776)) (T4 q3) (T4 (T2 (True ∧ pIf (decide (x.nest.gap > 1099511627776)) (T2 q3) (T2 (True ∧ 2 ≤ 2 ∧ T16 (T8 (T2 (True ∧ pIf (decide (q2 > 32)) q4 (T2 (True ∧ 1 ≤ 2 ∧ T8 (T2 (pIf (!decide (q2 = q2)) (T2 (q10 ∧ True ∧ 23 ≤ 40 ∧ T8 ((T2 (NLs q5 ∧ True)) ∧ H (lpC Tryz.prog 22 19) (lpK Tryz.prog 22 19) (stV q6 [q8, (1, some (AObj.cells [vb false, vb false] true)), q11] 3)))) (T8 ((T2 (True)) ∧ H (lpC Tryz.prog 22 19) (lpK Tryz.prog 22 19) (stV q7 [q9, (1, some (AObj.cells [vb false, vb false] true))] 2)))))))))))))))))))))))) := by kernel_rfl
theorem l_lim5 (x : Event) (lg fr : Bool) (i : Int) (H : HT) (Post : PX) : vcLX Tryz.prog callC2 22 argsLim [(19, [0, 1, 132, 133])] 2 19 (stV [(0, some (.pointer (some ⟨0, 0, none⟩))), (1, some (.iface 67 (.pointer (some ⟨1, 0, none⟩)))), (132, some (.int .i64 x.nest.spots.length)), (133, some (.int .i64 i))] [(0, some (.cells (.int .i64 5 :: (eventC x).tail) true)), (1, some (.cells [.bool lg, .bool fr] true))] 2) H Post = (let q12 := (0, some (AObj.cells (evK 5 x) true)); let q4 := (toI (vi 0) ≤ w64 (w64 (0 + 1) + 1) ∧ toI (vi (w64 (w64 (0 + 1) + 1))) < (↑3 : Int)); let q6 := [(0, some (pt 0)), (1, some (Value.iface 67 (pt 1))), (132, some (vi (↑x.nest.spots.length : Int))), (133, some (vi (w64 (i + 1))))]; let q3 := True ∧ 2 ≤ 2 ∧ T8 (T4 (T2 (True ∧ (T2 (True)) ∧ H (lpC Tryz.prog 22 19) (lpK Tryz.prog 22 19) (stV q6 [q12, (1, some (AObj.cells [vb true, vb true] true))] 2)))); let q11 := True ∧ 2 ≤ 2 ∧ T2 (True ∧ q4 ∧ T8 (T4 (T2 q3))); let q2 := True ∧ 2 ≤ 2 ∧ T8 (T4 (T2 (True ∧ (T2 (True)) ∧ H (lpC Tryz.prog 22 19) (lpK Tryz.prog 22 19) (stV q6 [q12, (1, some (AObj.cells [vb false, vb true] true))] 2)))); let q10 := True ∧ 2 ≤ 2 ∧ T2 (True ∧ q4 ∧ T8 (T4 (T2 q2))); let q9 := cellAt (encL x.nest.spots) (Int.toNat i) 3; let q8 := cellAt (encL x.nest.spots) (Int.toNat i) 2; let q7 := cellAt (encL x.nest.spots) (Int.toNat i) 1; let q5 := (toI (vi 0) ≤ w64 (0 + 1) ∧ toI (vi (w64 (0 + 1))) < (↑3 : Int)); let q1 := (T2 ((toI (vi 0) ≤ 0 ∧ toI (vi 0) < (↑3 : Int)) ∧ T8 (True ∧ pIf fr (T4 (T2 (2 ≤ 2 ∧ T2 (True ∧ q5 ∧ T8 (T4 (T2 q11)))))) (T2 (True ∧ cellAt (encL x.nest.spots) (Int.toNat i) 1 = vi (toI q7) ∧ T2 (pIf (decide (toI q7 < -1099511627776)) (T4 (True ∧ 2 ≤ 2 ∧ T2 (True ∧ q5 ∧ T8 (T4 (T2 q11))))) (T4 (cellAt (encL x.nest.spots) (Int.toNat i) 1 = vi (toI q7) ∧ T2 (pIf (decide (toI q7 > 1099511627776)) (T2 (True ∧ 2 ≤ 2 ∧ T2 (True ∧ q5 ∧ T8 (T4 (T2 q11))))) (T2 (True ∧ 2 ≤ 2 ∧ T2 (True ∧ q5 ∧ T8 (T4 (cellAt (encL x.nest.spots) (Int.toNat i) 2 = vi (toI q8) ∧ T2 (pIf (decide (toI q8 < -1099511627776)) (T4 q11) (T4 (cellAt (encL x.nest.spots) (Int.toNat i) 2 = vi (toI q8) ∧ T2 (pIf (decide (toI q8 > 1099511627776)) (T2 q11) (T2 (True ∧ 2 ≤ 2 ∧ T2 (True ∧ q4 ∧ T8 (T4 (cellAt (encL x.nest.spots) (Int.toNat i) 3 = vi (toI q9) ∧ T2 (pIf (decide (toI q9 < -1099511627776)) (T4 q3) (T4 (cellAt (encL x.nest.spots) (Int.toNat i) 3 = vi (toI q9) ∧ T2 (pIf (decide (toI q9 > 1099511627776)) (T2 q3) (T2 (True ∧ 2 ≤ 2 ∧ T8 (T4 (T2 (True ∧ (T2 (True)) ∧ H (lpC Tryz.prog 22 19) (lpK Tryz.prog 22 19) (stV q6 [q12, (1, some (AObj.cells [vb true, vb false] true))] 2))))))))))))))))))))))))))))))))); True ∧ pIf (decide (i < (↑x.nest.spots.length : Int))) (T8 ((0 ≤ i ∧ i < (↑x.nest.spots.length : Int)) ∧ T8 (T4 (True ∧ pIf lg (T4 (1 ≤ 2 ∧ T16 q1)) (T2 (True ∧ cellAt (encL x.nest.spots) (Int.toNat i) 0 = vs (toS (cellAt (encL x.nest.spots) (Int.toNat i) 0)) ∧ T2 (pIf (decide ((↑(ByteArray.size (toS (cellAt (encL x.nest.spots) (Int.toNat i) 0))) : Int) > 64)) (T2 (True ∧ 1 ≤ 2 ∧ T16 q1)) (T2 (True ∧ 1 ≤ 2 ∧ T16 (T2 ((toI (vi 0) ≤ 0 ∧ toI (vi 0) < (↑3 : Int)) ∧ T8 (True ∧ pIf fr (T4 (T2 (2 ≤ 2 ∧ T2 (True ∧ q5 ∧ T8 (T4 (T2 q10)))))) (T2 (True ∧ cellAt (encL x.nest.spots) (Int.toNat i) 1 = vi (toI q7) ∧ T2 (pIf (decide (toI q7 < -1099511627776)) (T4 (True ∧ 2 ≤ 2 ∧ T2 (True ∧ q5 ∧ T8 (T4 (T2 q10))))) (T4 (cellAt (encL x.nest.spots) (Int.toNat i) 1 = vi (toI q7) ∧ T2 (pIf (decide (toI q7 > 1099511627776)) (T2 (True ∧ 2 ≤ 2 ∧ T2 (True ∧ q5 ∧ T8 (T4 (T2 q10))))) (T2 (True ∧ 2 ≤ 2 ∧ T2 (True ∧ q5 ∧ T8 (T4 (cellAt (encL x.nest.spots) (Int.toNat i) 2 = vi (toI q8) ∧ T2 (pIf (decide (toI q8 < -1099511627776)) (T4 q10) (T4 (cellAt (encL x.nest.spots) (Int.toNat i) 2 = vi (toI q8) ∧ T2 (pIf (decide (toI q8 > 1099511627776)) (T2 q10) (T2 (True ∧ 2 ≤ 2 ∧ T2 (True ∧ q4 ∧ T8 (T4 (cellAt (encL x.nest.spots) (Int.toNat i) 3 = vi (toI q9) ∧ T2 (pIf (decide (toI q9 < -1099511627776)) (T4 q2) (T4 (cellAt (encL x.nest.spots) (Int.toNat i) 3 = vi (toI q9) ∧ T2 (pIf (decide (toI q9 > 1099511627776)) (T2 q2) (T2 (True ∧ 2 ≤ 2 ∧ T8 (T4 (T2 (True ∧ (T2 (True)) ∧ H (lpC Tryz.prog 22 19) (lpK Tryz.prog 22 19) (stV q6 [q12, (1, some (AObj.cells [vb false, vb false] true))] 2)))))))))))))))))))))))))))))))))))))))))) ((((T32 (T8 (True))) ∧ (T2 (True)) ∧ True) ∧ True) ∧ true = true ∧ Post (Out.ret (Value.tuple #[])) [(evK 5 x), [vb lg, vb fr]])) := by kernel_rfl
end Go.Proofs.YtegjnjmimfgijaaGreatDoor
